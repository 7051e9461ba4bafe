/-
  ABS 22: an evaluator of the canonical run, and that what it says is so.
-/
import Derived.Test.YtipomlcnmaldkaaA21
namespace Go.Abs
section
variable (P : Program)

/-- What comes of it, whatever the world. -/
def still {α : Type} : Sem α → Option α
  | .pure a => some a
  | .program k => still (k P)
  | .mark _ k => still k
  | _ => none
/-- What comes of it where it asks for one block, whose number is id. -/
def fresh {α : Type} (id : Nat) : Sem α → Option (α × Obj)
  | .program k => fresh id (k P)
  | .mark _ k => fresh id k
  | .new o k => match still P (k id) with
    | some a => some (a, o)
    | none => none
  | _ => none
/-- What comes of it where it only looks. -/
def peek {α : Type} (w : World) : Sem α → Option α
  | .pure a => some a
  | .program k => peek w (k P)
  | .mark _ k => peek w k
  | .load _ a k => match w.cell? a with
    | some v => peek w (k v)
    | none => none
  | .shape r k => peek w (k (w.shape? r))
  | .frozen a k => peek w (k (w.frozen? a))
  | .getObj r k => match w.heap[r]? with
    | some (.cells ..) => none
    | some o => peek w (k o)
    | none => none
  | _ => none
variable {P}
theorem still_run {α : Type} : ∀ {m : Sem α} {a : α}, still P m = some a → ∀ w, m.run P w = .ok a w := by
  intro m
  induction m with
  | pure b => intro a h w; simp only [still, Option.some.injEq] at h; subst h; rfl
  | program k ih => intro a h w; exact ih P h w
  | mark m k ih => intro a h w; exact ih h w
  | _ => intro a h; simp [still] at h
theorem fresh_run {α : Type} {id : Nat} : ∀ {m : Sem α} {a : α} {o : Obj}, fresh P id m = some (a, o) → ∀ w : World, w.heap.size = id → m.run P w = .ok a (w.alloc o) := by
  intro m
  induction m with
  | program k ih => intro a o h w hw; exact ih P h w hw
  | mark m k ih => intro a o h w hw; exact ih h w hw
  | new o' k ih =>
    intro a o h w hw
    simp only [fresh] at h
    split at h
    · rename_i b hb
      simp only [Option.some.injEq, Prod.mk.injEq] at h
      obtain ⟨rfl, rfl⟩ := h
      simp only [Sem.run, hw]
      rw [still_run hb]
      rfl
    · cases h
  | _ => intro a o h; simp [fresh] at h
theorem peek_run {α : Type} {w : World} : ∀ {m : Sem α} {a : α}, peek P w m = some a → m.run P w = .ok a w := by
  intro m
  induction m with
  | pure b => intro a h; simp only [peek, Option.some.injEq] at h; subst h; rfl
  | program k ih => intro a h; exact ih P h
  | mark m k ih => intro a h; exact ih h
  | load m ad k ih =>
    intro a h
    simp only [peek] at h
    simp only [Sem.run]
    split at h
    · rename_i v hv; rw [hv]; exact ih _ h
    · cases h
  | shape r k ih => intro a h; exact ih _ h
  | frozen r k ih => intro a h; exact ih _ h
  | getObj r k ih =>
    intro a h
    simp only [peek] at h
    simp only [Sem.run]
    split at h
    · cases h
    · rename_i o ho hne
      rw [hne]
      split
      · rename_i heq; cases heq; exact absurd rfl (ho _ _ _)
      · rename_i heq; cases heq; exact ih _ h
      · rename_i heq; cases heq
    · cases h
  | _ => intro a h; simp [peek] at h

def beqL (p : Value → Value → Bool) : List Value → List Value → Bool
  | [], [] => true
  | x :: xs, y :: ys => p x y && beqL p xs ys
  | _, _ => false
def beqV : Nat → Value → Value → Bool
  | _, .bool a, .bool b => a == b
  | _, .int k a, .int l b => decide (k = l) && decide (a = b)
  | _, .float k a, .float l b => decide (k = l) && decide (a = b)
  | _, .string a, .string b => decide (a.data = b.data)
  | _, .pointer a, .pointer b => decide (a = b)
  | _, .slice a l c, .slice b l' c' => decide (a = b) && decide (l = l') && decide (c = c')
  | _, .map a, .map b => decide (a = b)
  | _, .nilFunc, .nilFunc | _, .nilIface, .nilIface => true
  | n + 1, .iface t v, .iface t' v' => decide (t = t') && beqV n v v'
  | n + 1, .agg a, .agg b => beqL (beqV n) a.toList b.toList
  | n + 1, .tuple a, .tuple b => beqL (beqV n) a.toList b.toList
  | n + 1, .func (.func f) a b, .func (.func g) c d => decide (f = g) && beqL (beqV n) a.toList c.toList && beqL (beqV n) b.toList d.toList
  | n + 1, .func (.yield f) a b, .func (.yield g) c d => decide (f = g) && beqL (beqV n) a.toList c.toList && beqL (beqV n) b.toList d.toList
  | _, _, _ => false
theorem beqL_eq {p : Value → Value → Bool} (hp : ∀ x y, p x y = true → x = y) : ∀ {l l' : List Value}, beqL p l l' = true → l = l'
  | [], [], _ => rfl
  | x :: xs, y :: ys, h => by
    simp only [beqL, Bool.and_eq_true] at h
    rw [hp _ _ h.1, beqL_eq hp h.2]
  | [], _ :: _, h => by simp [beqL] at h
  | _ :: _, [], h => by simp [beqL] at h
theorem beqA_eq {p : Value → Value → Bool} (hp : ∀ x y, p x y = true → x = y) {a b : Array Value} (h : beqL p a.toList b.toList = true) : a = b := Array.toList_inj.1 (beqL_eq hp h)
theorem beqV_eq : ∀ {n : Nat} {v v' : Value}, beqV n v v' = true → v = v' := by
  intro n
  induction n with
  | zero => intro v v' h; unfold beqV at h; split at h <;> simp_all; (rename_i a b; cases a; cases b; simp_all)
  | succ n ih =>
    intro v v' h
    unfold beqV at h
    split at h <;> first | (simp_all; done) | skip
    · rename_i a b; cases a; cases b; simp_all
    · simp only [Bool.and_eq_true, decide_eq_true_eq] at h; rename_i m t v t' v' hh; cases hh; rw [h.1, ih h.2]
    · rename_i hh; cases hh; rw [beqA_eq (fun x y => ih) h]
    · rename_i hh; cases hh; rw [beqA_eq (fun x y => ih) h]
    · rename_i hh; cases hh
      simp only [Bool.and_eq_true, decide_eq_true_eq] at h
      rw [h.1.1, beqA_eq (fun x y => ih) h.1.2, beqA_eq (fun x y => ih) h.2]
    · rename_i hh; cases hh
      simp only [Bool.and_eq_true, decide_eq_true_eq] at h
      rw [h.1.1, beqA_eq (fun x y => ih) h.1.2, beqA_eq (fun x y => ih) h.2]
def beqE : List MapEntry → List MapEntry → Bool
  | [], [] => true
  | x :: xs, y :: ys => beqV 4 x.key y.key && beqV 4 x.val y.val && Nat.beq x.born y.born && beqE xs ys
  | _, _ => false
theorem beqE_eq : ∀ {l l' : List MapEntry}, beqE l l' = true → l = l'
  | [], [], _ => rfl
  | x :: xs, y :: ys, h => by
    simp only [beqE, Bool.and_eq_true] at h
    obtain ⟨k, v, b⟩ := x
    obtain ⟨k', v', b'⟩ := y
    obtain ⟨⟨⟨h1, h2⟩, h3⟩, h4⟩ := h
    simp only at h1 h2 h3
    rw [beqV_eq h1, beqV_eq h2, Nat.eq_of_beq_eq_true h3, beqE_eq h4]
  | [], _ :: _, h => by simp [beqE] at h
  | _ :: _, [], h => by simp [beqE] at h
def beqO : Obj → Obj → Bool
  | .cells c t f, .cells c' t' f' => decide (t = t') && decide (f = f') && beqL (beqV 4) c.toList c'.toList
  | .map e n, .map e' n' => beqE e.toList e'.toList && decide (n = n')
  | _, _ => false
theorem beqO_eq {o o' : Obj} (h : beqO o o' = true) : o = o' := by
  unfold beqO at h
  split at h
  · simp only [Bool.and_eq_true, decide_eq_true_eq] at h
    rw [h.1.1, h.1.2, beqA_eq (fun x y => beqV_eq) h.2]
  · simp only [Bool.and_eq_true, decide_eq_true_eq] at h
    rw [Array.toList_inj.1 (beqE_eq h.1), h.2]
  · cases h
end
end Go.Abs
