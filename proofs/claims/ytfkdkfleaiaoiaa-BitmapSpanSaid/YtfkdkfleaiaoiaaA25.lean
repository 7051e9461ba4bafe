/-
  ABS 22: an evaluator of the canonical run, and that what it says is so.
-/
import Derived.Test.YtfkdkfleaiaoiaaA21
namespace Go.Abs
section
variable (P : Program)

/-- What comes of it, whatever the world. -/
def still {α : Type} : Sem α → Option α
  | .pure a => some a
  | .program k => still (k P)
  | .mark _ k => still k
  | _ => none
/-- What comes of it where it asks for one block, whose number is id. -/
def fresh {α : Type} (id : Nat) : Sem α → Option (α × Obj)
  | .program k => fresh id (k P)
  | .mark _ k => fresh id k
  | .new o k => match still P (k id) with
    | some a => some (a, o)
    | none => none
  | _ => none
/-- What comes of it where it only looks. -/
def peek {α : Type} (w : World) : Sem α → Option α
  | .pure a => some a
  | .program k => peek w (k P)
  | .mark _ k => peek w k
  | .load _ a k => match w.cell? a with
    | some v => peek w (k v)
    | none => none
  | .shape r k => peek w (k (w.shape? r))
  | .frozen a k => peek w (k (w.frozen? a))
  | .getObj r k => match w.heap[r]? with
    | some (.cells ..) => none
    | some o => peek w (k o)
    | none => none
  | _ => none
variable {P}
theorem still_run {α : Type} : ∀ {m : Sem α} {a : α}, still P m = some a → ∀ w, m.run P w = .ok a w := by
  intro m
  induction m with
  | pure b => intro a h w; simp only [still, Option.some.injEq] at h; subst h; rfl
  | program k ih => intro a h w; exact ih P h w
  | mark m k ih => intro a h w; exact ih h w
  | _ => intro a h; simp [still] at h
theorem fresh_run {α : Type} {id : Nat} : ∀ {m : Sem α} {a : α} {o : Obj}, fresh P id m = some (a, o) → ∀ w : World, w.heap.size = id → m.run P w = .ok a (w.alloc o) := by
  intro m
  induction m with
  | program k ih => intro a o h w hw; exact ih P h w hw
  | mark m k ih => intro a o h w hw; exact ih h w hw
  | new o' k ih =>
    intro a o h w hw
    simp only [fresh] at h
    split at h
    · rename_i b hb
      simp only [Option.some.injEq, Prod.mk.injEq] at h
      obtain ⟨rfl, rfl⟩ := h
      simp only [Sem.run, hw]
      rw [still_run hb]
      rfl
    · cases h
  | _ => intro a o h; simp [fresh] at h
theorem peek_run {α : Type} {w : World} : ∀ {m : Sem α} {a : α}, peek P w m = some a → m.run P w = .ok a w := by
  intro m
  induction m with
  | pure b => intro a h; simp only [peek, Option.some.injEq] at h; subst h; rfl
  | program k ih => intro a h; exact ih P h
  | mark m k ih => intro a h; exact ih h
  | load m ad k ih =>
    intro a h
    simp only [peek] at h
    simp only [Sem.run]
    split at h
    · rename_i v hv; rw [hv]; exact ih _ h
    · cases h
  | shape r k ih => intro a h; exact ih _ h
  | frozen r k ih => intro a h; exact ih _ h
  | getObj r k ih =>
    intro a h
    simp only [peek] at h
    simp only [Sem.run]
    split at h
    · cases h
    · rename_i o ho hne
      rw [hne]
      split
      · rename_i heq; cases heq; exact absurd rfl (ho _ _ _)
      · rename_i heq; cases heq; exact ih _ h
      · rename_i heq; cases heq
    · cases h
  | _ => intro a h; simp [peek] at h

def beqL (p : Value → Value → Bool) : List Value → List Value → Bool
  | [], [] => true
  | x :: xs, y :: ys => p x y && beqL p xs ys
  | _, _ => false
def beqV : Nat → Value → Value → Bool
  | _, .bool a, .bool b => a == b
  | _, .int k a, .int l b => decide (k = l) && decide (a = b)
  | _, .float k a, .float l b => decide (k = l) && decide (a = b)
  | _, .string a, .string b => decide (a.data = b.data)
  | _, .pointer a, .pointer b => decide (a = b)
  | _, .slice a l c, .slice b l' c' => decide (a = b) && decide (l = l') && decide (c = c')
  | _, .map a, .map b => decide (a = b)
  | _, .nilFunc, .nilFunc | _, .nilIface, .nilIface => true
  | n + 1, .iface t v, .iface t' v' => decide (t = t') && beqV n v v'
  | n + 1, .agg a, .agg b => beqL (beqV n) a.toList b.toList
  | n + 1, .tuple a, .tuple b => beqL (beqV n) a.toList b.toList
  | n + 1, .func (.func f) a b, .func (.func g) c d => decide (f = g) && beqL (beqV n) a.toList c.toList && beqL (beqV n) b.toList d.toList
  | n + 1, .func (.yield f) a b, .func (.yield g) c d => decide (f = g) && beqL (beqV n) a.toList c.toList && beqL (beqV n) b.toList d.toList
  | _, _, _ => false
theorem beqL_eq {p : Value → Value → Bool} (hp : ∀ x y, p x y = true → x = y) : ∀ {l l' : List Value}, beqL p l l' = true → l = l'
  | [], [], _ => rfl
  | x :: xs, y :: ys, h => by
    simp only [beqL, Bool.and_eq_true] at h
    rw [hp _ _ h.1, beqL_eq hp h.2]
  | [], _ :: _, h => by simp [beqL] at h
  | _ :: _, [], h => by simp [beqL] at h
theorem beqA_eq {p : Value → Value → Bool} (hp : ∀ x y, p x y = true → x = y) {a b : Array Value} (h : beqL p a.toList b.toList = true) : a = b := Array.toList_inj.1 (beqL_eq hp h)
theorem beqV_eq : ∀ {n : Nat} {v v' : Value}, beqV n v v' = true → v = v' := by
  intro n
  induction n with
  | zero => intro v v' h; unfold beqV at h; split at h <;> simp_all; (rename_i a b; cases a; cases b; simp_all)
  | succ n ih =>
    intro v v' h
    unfold beqV at h
    split at h <;> first | (simp_all; done) | skip
    · rename_i a b; cases a; cases b; simp_all
    · simp only [Bool.and_eq_true, decide_eq_true_eq] at h; rename_i m t v t' v' hh; cases hh; rw [h.1, ih h.2]
    · rename_i hh; cases hh; rw [beqA_eq (fun x y => ih) h]
    · rename_i hh; cases hh; rw [beqA_eq (fun x y => ih) h]
    · rename_i hh; cases hh
      simp only [Bool.and_eq_true, decide_eq_true_eq] at h
      rw [h.1.1, beqA_eq (fun x y => ih) h.1.2, beqA_eq (fun x y => ih) h.2]
    · rename_i hh; cases hh
      simp only [Bool.and_eq_true, decide_eq_true_eq] at h
      rw [h.1.1, beqA_eq (fun x y => ih) h.1.2, beqA_eq (fun x y => ih) h.2]
def beqE : List MapEntry → List MapEntry → Bool
  | [], [] => true
  | x :: xs, y :: ys => beqV 4 x.key y.key && beqV 4 x.val y.val && Nat.beq x.born y.born && beqE xs ys
  | _, _ => false
theorem beqE_eq : ∀ {l l' : List MapEntry}, beqE l l' = true → l = l'
  | [], [], _ => rfl
  | x :: xs, y :: ys, h => by
    simp only [beqE, Bool.and_eq_true] at h
    obtain ⟨k, v, b⟩ := x
    obtain ⟨k', v', b'⟩ := y
    obtain ⟨⟨⟨h1, h2⟩, h3⟩, h4⟩ := h
    simp only at h1 h2 h3
    rw [beqV_eq h1, beqV_eq h2, Nat.eq_of_beq_eq_true h3, beqE_eq h4]
  | [], _ :: _, h => by simp [beqE] at h
  | _ :: _, [], h => by simp [beqE] at h
def beqO : Obj → Obj → Bool
  | .cells c t f, .cells c' t' f' => decide (t = t') && decide (f = f') && beqL (beqV 4) c.toList c'.toList
  | .map e n, .map e' n' => beqE e.toList e'.toList && decide (n = n')
  | _, _ => false
theorem beqO_eq {o o' : Obj} (h : beqO o o' = true) : o = o' := by
  unfold beqO at h
  split at h
  · simp only [Bool.and_eq_true, decide_eq_true_eq] at h
    rw [h.1.1, h.1.2, beqA_eq (fun x y => beqV_eq) h.2]
  · simp only [Bool.and_eq_true, decide_eq_true_eq] at h
    rw [Array.toList_inj.1 (beqE_eq h.1), h.2]
  · cases h
end
end Go.Abs
/-
  ABS 23: the evaluator: one operation.
-/
namespace Go.Abs

structure Ev where
  calls : FuncId → Array Value → World → Option (Value × World)
  rounds : Nat → Array Value → Code → Code → World → Option (Value × World)
  codes : Option Nat → Code → Act → World → Option (Exit × Act × World)
  loops : Option Nat → Code → Act → World → Option (Exit × Act × World)

structure EvOk (E : Ev) (L : Lvl) : Prop where
  calls : ∀ f xs A v A', E.calls f xs A = some (v, A') → L.calls f xs A v A'
  rounds : ∀ l ts as bd A v A', E.rounds l ts as bd A = some (v, A') → L.rounds l ts as bd A v A'
  codes : ∀ ro c a A e a' A', E.codes ro c a A = some (e, a', A') → L.codes ro c a A e a' A'
  loops : ∀ ro c a A e a' A', E.loops ro c a A = some (e, a', A') → L.loops ro c a A e a' A'

section
variable (P : Program)

def keyB (t : TypeId) (k : Value) : Bool := match P.underlying t with
  | some (.map kt _) => (match P.underlying kt with | some d => easyKey d k | none => false)
  | _ => true
theorem keyB_ok {P : Program} {t : TypeId} {k : Value} (h : keyB P t k = true) : KeyOk P t k := by
  intro kt et hu
  unfold keyB at h
  rw [hu] at h
  simp only at h
  split at h
  · rename_i d hd; exact ⟨d, hd, h⟩
  · cases h
def regB (A : World) (ρ : Operand → Value) : Op → Bool
  | .move _ | .assign _ | .pick .. | .alloc _ | .box .. | .build .. | .buildSlice .. | .load .. | .store .. | .extract .. | .field .. | .index .. | .indexAddr .. | .makeSlice .. | .makeMap .. | .nilCheck _ => true
  | .makeFunc (.func _) _ _ => true
  | .fieldAddr s _ k => match P.underlying s with
    | some (.struct fs) => (match fs[k]? with | some f => !decide (P.cellsOf f.type = 0) | none => true)
    | _ => true
  | .slice t x _ _ _ => (match ρ x with | .slice _ l c => decide (l ≤ c) | _ => true) && match P.underlying t with
    | some (.pointer _) => false
    | some (.slice elem) => (match ρ x with
      | .slice (some a) _ _ => (match A.heap[a.block]? with | some (.cells _ t' fz) => !decide (fz = (2, 0)) && (!decide (fz = (1, 0)) || decide (P.cellsOf elem = P.cellsOf t')) | _ => false)
      | _ => true)
    | _ => true
  | .binOp .eql _ x y _ | .binOp .neq _ x y _ => nilPair (ρ x) (ρ y)
  | .lookup t _ k _ => keyB P t (ρ k)
  | .mapUpdate t _ k _ => keyB P t (ρ k)
  | .call c => match c.callee with
    | .builtin .len | .builtin .copy | .builtin .clear => true
    | .builtin .delete => (match c.argTypes[0]?, (c.args.map ρ)[1]? with | some mt, some k => keyB P mt k | _, _ => true)
    | _ => false
  | _ => false
variable {P}
theorem regB_ok {A : World} {ρ : Operand → Value} {op : Op} (h : regB P A ρ op = true) : RegOk P A ρ op := by
  unfold regB at h
  split at h <;> simp only [RegOk] <;> first | trivial | exact h | cases h | skip
  · exact ⟨_, rfl⟩
  · rename_i s x k
    intro fs f hs hf h0
    rw [hs] at h; simp only at h; rw [hf] at h; simp [h0] at h
  · rename_i t x lo hi mx
    simp only [Bool.and_eq_true] at h
    refine ⟨?_, ?_, ?_⟩
    · intro a l c hx
      have := h.1
      rw [hx] at this
      simpa using this
    · intro e he
      have := h.2
      rw [he] at this
      cases this
    · intro elem he a l c hx
      have := h.2
      rw [he] at this
      simp only at this
      rw [hx] at this
      simp only at this
      split at this
      · rename_i cs t' fz hb
        simp only [Bool.and_eq_true, Bool.or_eq_true, Bool.not_eq_true', decide_eq_false_iff_not, decide_eq_true_eq] at this
        exact ⟨cs, t', fz, hb, this.1, fun hf => this.2.resolve_left fun hn => hn hf⟩
      · cases this
  · exact keyB_ok h
  · exact keyB_ok h
  · rename_i c
    split at h
    · rename_i hc; exact .inl hc
    · rename_i hc; exact .inr (.inl hc)
    · rename_i hc; exact .inr (.inr (.inl hc))
    · rename_i hc
      refine .inr (.inr (.inr ⟨hc, fun mt k h1 h2 => ?_⟩))
      rw [h1, h2] at h
      exact keyB_ok h
    · cases h

variable (P)
def evVal (ρ : Operand → Value) (o : Oper) (A : World) : Option Value :=
  match regB P A ρ o.op with
  | true => (match peek P A (execOp ρ o) with | some (.value v) => some v | _ => none)
  | false => match stillOp o.op && o.op.operands.toList.all fun x => plain (ρ x) with
    | true => (match still P (execOp ρ o) with
      | some (.value v) => (match plain v with | true => some v | false => none)
      | _ => none)
    | false => none
variable {P}
theorem evVal_ok {ρ : Operand → Value} {o : Oper} {A : World} {v : Value} (h : evVal P ρ o A = some v) : AOp P ρ o A (.value v) A := by
  unfold evVal at h
  split at h
  · rename_i hr
    split at h
    · rename_i u hp
      cases h
      exact .inr (.inl ⟨regB_ok hr, peek_run hp⟩)
    · cases h
  · split at h
    · rename_i hs
      simp only [Bool.and_eq_true, List.all_eq_true] at hs
      split at h
      · rename_i u hp
        split at h
        · rename_i hpl
          cases h
          exact .inl ⟨_, rfl, rfl, hpl, fun x hx => hs.2 x (by simpa using hx), hs.1, fun w => still_run hp w⟩
        · cases h
      · cases h
    · cases h

variable (P)
def newB (v : Value) (id : Nat) : Bool :=
  match v with
  | .pointer (some a) => decide (a = ⟨id, 0, none⟩)
  | .slice (some a) _ _ => decide (a = ⟨id, 0, none⟩)
  | .map (some b) => decide (b = id)
  | _ => false
theorem newB_ok {v : Value} {id : Nat} (h : newB v id = true) : newVal v id := by
  unfold newB at h
  split at h
  · simp only [decide_eq_true_eq] at h; subst h; exact .inl rfl
  · simp only [decide_eq_true_eq] at h; subst h; exact .inr (.inl ⟨_, _, rfl⟩)
  · simp only [decide_eq_true_eq] at h; subst h; exact .inr (.inr rfl)
  · cases h
def evMake (ρ : Operand → Value) (o : Oper) (A : World) : Option (Value × Obj) :=
  match fresh P A.heap.size (execOp ρ o) with
  | some (.value v, obj) => some (v, obj)
  | _ => none
variable {P}
theorem evMake_ok {ρ : Operand → Value} {o : Oper} {A : World} {v : Value} {obj : Obj} (hk : kindOf o.op = .makes) (h : evMake P ρ o A = some (v, obj)) :
    ∀ w, w.heap.size = A.heap.size → RegOk P w ρ o.op ∧ (execOp ρ o).run P w = .ok (.value v) (w.alloc obj) := by
  unfold evMake at h
  split at h
  · rename_i u ob hf
    cases h
    intro w hw
    refine ⟨?_, fresh_run hf w hw⟩
    revert hk
    cases o.op <;> intro hk <;> first | trivial | (simp [kindOf] at hk)
    split at hk <;> cases hk
  · cases h

variable (P)
def evAppend (ts : Array TypeId) (xs : List Value) (A : World) : Option (Value × World) :=
  match ts[0]?, ts[1]?, xs with
  | some sT, some xT, [.slice base sLen sCap, x] =>
    match (match P.underlying xT with | some (.slice _) | some .string | some (.int _) => true | _ => false), P.underlying sT with
    | true, some (.slice elem) =>
      match P.info? elem with
      | some ie =>
        match ie.zero with
        | some z =>
          match appN (zerosOf P ts) ie.bytes x with
          | some n =>
            match peek P A (appSrc (zerosOf P ts) elem ie.size n x) with
            | some new =>
              match decide (sLen + n ≤ sCap) with
              | true => (match (match base with | some a => storeCells (a.add (sLen * ie.size)) new.toList | none => pure ()).run P A with
                | .ok () A' => some (.slice base (sLen + n) sCap, A')
                | _ => none)
              | false =>
                match peek P A (Builtin.firstCells ie.size sLen (.slice base sLen sCap)) with
                | some old =>
                  match decide (sLen ≤ sCap) && decide (sLen + n ≤ 2 ^ 24) && decide (ie.bytes ≤ 2 ^ 16) && decide (z.cells.size = ie.size) && decide (old.size = sLen * ie.size) && decide (new.size = n * ie.size) && new.toList.all isOne with
                  | true =>
                    (match base with
                    | none => some (.slice (some ⟨A.heap.size, 0, none⟩) (sLen + n) (sLen + n), A.alloc (.cells (old ++ new) elem (1, 0)))
                    | some a =>
                      match A.heap[a.block]? with
                      | some (.cells _ t fz) =>
                        match decide (fz = (2, 0)), decide (fz = (1, 0)) with
                        | false, false => some (.slice (some ⟨A.heap.size, 0, none⟩) (sLen + n) (sLen + n), A.alloc (.cells (old ++ new) elem (1, 0)))
                        | false, true => (match decide (t = elem) && decide (0 < sLen) with
                          | true => some (.slice (some ⟨A.heap.size, 0, none⟩) (sLen + n) (sLen + n), (kill A a.block elem).alloc (.cells (old ++ new) elem (1, 0)))
                          | false => none)
                        | true, _ => none
                      | _ => none)
                  | false => none
                | none => none
            | none => none
          | none => none
        | none => none
      | none => none
    | _, _ => none
  | _, _, _ => none
variable {P}
theorem evAppend_ok {ts : Array TypeId} {xs : Array Value} {A A' : World} {v : Value} (h : evAppend P ts xs.toList A = some (v, A')) : AApp P ts xs A v A' := by
  unfold evAppend at h
  split at h <;> try cases h
  rename_i sT xT base sLen sCap x h0 h1 hxs
  have hx : xs = #[.slice base sLen sCap, x] := by rw [← Array.toList_inj, hxs]
  split at h <;> try cases h
  rename_i elem hu1 hu
  split at h <;> try cases h
  rename_i ie hi
  split at h <;> try cases h
  rename_i z hz
  split at h <;> try cases h
  rename_i n hn
  split at h <;> try cases h
  rename_i new hnew
  have H : AppAt P ts elem ie z := ⟨hz, ⟨sT, h0, hu⟩, hi, fun t ht => by
    rw [h1] at ht; cases ht
    split at hu1
    · rename_i e he; exact .inl ⟨e, he⟩
    · rename_i he; exact .inr (.inl he)
    · rename_i k he; exact .inr (.inr ⟨k, he⟩)
    · cases hu1⟩
  split at h
  · rename_i hle
    simp only [decide_eq_true_eq] at hle
    split at h <;> try cases h
    rename_i hst
    exact ⟨elem, ie, z, base, sLen, sCap, x, n, H, hx, hn, .inl ⟨hle, new, peek_run hnew, hst, rfl⟩⟩
  · rename_i hgt
    simp only [decide_eq_false_iff_not] at hgt
    split at h <;> try cases h
    rename_i old hold
    split at h <;> try cases h
    rename_i hcs
    simp only [Bool.and_eq_true, decide_eq_true_eq] at hcs
    obtain ⟨⟨⟨⟨⟨⟨c1, c2⟩, c3⟩, c4⟩, c5⟩, c6⟩, c7⟩ := hcs
    refine ⟨elem, ie, z, base, sLen, sCap, x, n, H, hx, hn, .inr ⟨by omega, c1, c2, c3, c4, old, new, peek_run hold, peek_run hnew, ?_⟩⟩
    split at h
    · cases h
      exact ⟨rfl, c5, c6, c7, .inl ⟨rfl, fun a ha => by cases ha⟩⟩
    · rename_i a
      split at h <;> try cases h
      rename_i cs t fz hb
      split at h
      · rename_i q1 q2
        simp only [decide_eq_false_iff_not] at q1 q2
        cases h
        refine ⟨rfl, c5, c6, c7, .inl ⟨rfl, fun a' ha => ?_⟩⟩
        cases ha
        exact ⟨cs, t, fz, hb, q1, q2⟩
      · rename_i q1 q2
        simp only [decide_eq_true_eq] at q2
        split at h <;> try cases h
        rename_i q3
        simp only [Bool.and_eq_true, decide_eq_true_eq] at q3
        subst q2
        obtain ⟨rfl, q4⟩ := q3
        exact ⟨rfl, c5, c6, c7, .inr ⟨a, cs, rfl, hb, q4, rfl⟩⟩
      · cases h
end
end Go.Abs
/-
  ABS 24: the evaluator: calls, loops, regions; all that it says is so.
-/
namespace Go.Abs
section
variable (P : Program) (E : Ev)

def evEnter (ρ : Operand → Value) (c : Call) (g : Operand) (A : World) : Option (Value × World) :=
  match ρ g with
  | .func (.func f) first cap =>
    match P.funcs[f]? with
    | some fn => (match fn.body.isSome && !(fn.name == "runtime.NumGoroutine") with
      | true => E.calls f (first ++ c.args.map ρ ++ cap) A
      | false => none)
    | none => none
  | .func (.yield l) first _ =>
    match A.heap[l]? with
    | some (.loop r) => (match decide ((first ++ c.args.map ρ).size = r.params.size) with
      | true => E.rounds l ((r.params.zip (first ++ c.args.map ρ)).foldl (fun tmps (t, a) => tmps.setIfInBounds t a) r.tmps) r.assign r.body A
      | false => none)
    | _ => none
  | _ => none
def evRun (ρ : Operand → Value) (o : Oper) (A : World) : Option (Value × World) :=
  match regB P A ρ o.op with
  | true => (match (execOp ρ o).run P A with
    | .ok (.value v) A' => some (v, A')
    | .ok .skip A' => some (undef, A')
    | _ => none)
  | false => none
def evStay (ρ : Operand → Value) (o : Oper) (A : World) : Option (Value × World) :=
  match evVal P ρ o A with
  | some v => some (v, A)
  | none => none
def evOp (o : Oper) (a : Act) (A : World) : Option (Value × World) :=
  match o.op with
  | .call c => (match c.callee with
    | .builtin .append => evAppend P c.argTypes (c.args.map a.eval).toList A
    | .value g => (match evEnter P E a.eval c g A with
      | some r => some r
      | none => evStay P a.eval o A)
    | .builtin .copy | .builtin .clear | .builtin .delete => evRun P a.eval o A
    | _ => evStay P a.eval o A)
  | .store .. | .mapUpdate .. => evRun P a.eval o A
  | op => match decide (kindOf op = .makes) with
    | true => (match evMake P a.eval o A with | some (v, obj) => some (v, A.alloc obj) | none => none)
    | false => evStay P a.eval o A
variable {P E} {L : Lvl}

theorem evRun_ok {o : Oper} {a : Act} {A A' : World} {v : Value} (h : evRun P a.eval o A = some (v, A')) : RunOp P L o a A v A' := by
  unfold evRun at h
  split at h
  · rename_i hr
    split at h
    · rename_i hrun; cases h; exact ⟨_, _, .inr (.inl ⟨regB_ok hr, hrun⟩), rfl, rfl⟩
    · rename_i hrun; cases h; exact ⟨_, _, .inr (.inl ⟨regB_ok hr, hrun⟩), rfl, rfl⟩
    · cases h
  · cases h
theorem evStay_ok {o : Oper} {a : Act} {A A' : World} {v : Value} (h : evStay P a.eval o A = some (v, A')) : RunOp P L o a A v A' := by
  unfold evStay at h
  split at h
  · rename_i hv; cases h; exact ⟨_, _, evVal_ok hv, rfl, rfl⟩
  · cases h
theorem evEnter_ok (hE : EvOk E L) {o : Oper} {a : Act} {A A' : World} {v : Value} {c : Call} {g : Operand} (ho : o.op = .call c) (hc : c.callee = .value g) (h : evEnter P E a.eval c g A = some (v, A')) : RunOp P L o a A v A' := by
  unfold evEnter at h
  split at h
  · rename_i f first cap hg
    split at h
    · rename_i fn hf
      split at h
      · rename_i hb
        simp only [Bool.and_eq_true, Option.isSome_iff_exists, Bool.not_eq_true'] at hb
        obtain ⟨⟨code, hb⟩, hn⟩ := hb
        exact ⟨.enter f (first ++ c.args.map a.eval ++ cap), A, .inr (.inr (.inr (.inl ⟨c, g, f, first, cap, fn, code, ho, hc, hg, hf, hb, hn, rfl, rfl⟩))), hE.calls _ _ _ _ _ h⟩
      · cases h
    · cases h
  · rename_i l first cap hg
    split at h
    · rename_i r hl
      split at h
      · rename_i hs
        simp only [decide_eq_true_eq] at hs
        exact ⟨_, A, .inr (.inr (.inr (.inr ⟨c, g, l, first, cap, r, ho, hc, hg, hl, hs, rfl, rfl⟩))), hE.rounds _ _ _ _ _ _ _ h⟩
      · cases h
    · cases h
  · cases h
theorem evOp_ok (hE : EvOk E L) {o : Oper} {a : Act} {A A' : World} {v : Value} (h : evOp P E o a A = some (v, A')) : RunOp P L o a A v A' := by
  unfold evOp at h
  split at h
  · rename_i c ho
    split at h
    · rename_i hc
      refine ⟨.value v, A', .inr (.inr (.inl ⟨c, v, ho, hc, rfl, evAppend_ok h⟩)), rfl, rfl⟩
    · rename_i g hc
      split at h
      · rename_i r hr; exact evEnter_ok hE ho hc (hr.trans h)
      · exact evStay_ok h
    · exact evRun_ok h
    · exact evRun_ok h
    · exact evRun_ok h
    · exact evStay_ok h
  · exact evRun_ok h
  · exact evRun_ok h
  · rename_i h1 h2 h3
    split at h
    · rename_i hk
      simp only [decide_eq_true_eq] at hk
      split at h
      · rename_i u obj hm
        cases h
        obtain ⟨q1, q2⟩ := evMake_ok hk hm A rfl
        exact ⟨_, _, .inr (.inl ⟨q1, q2⟩), rfl, rfl⟩
      · cases h
    · exact evStay_ok h

variable (P E)
def evOps (ops : Array Oper) : List Nat → Act → World → Option (Act × World)
  | [], a, A => some (a, A)
  | i :: rest, a, A =>
    match ops[i]? with
    | none => evOps ops rest a A
    | some o =>
      match Region.wanted o (yielded ops a.tmps) with
      | true => (match evOp P E o a A with
        | some (v, A1) => evOps ops rest (a.put o.dst v) A1
        | none => none)
      | false => evOps ops rest (a.put o.dst undef) A
variable {P E}
theorem evOps_ok (hE : EvOk E L) {ops : Array Oper} : ∀ {l : List Nat} {a a' : Act} {A A' : World}, evOps P E ops l a A = some (a', A') → RunOps P L ops l a A a' A'
  | [], a, a', A, A', h => by simp only [evOps, Option.some.injEq, Prod.mk.injEq] at h; exact ⟨h.1.symm, h.2.symm⟩
  | i :: rest, a, a', A, A', h => by
    simp only [evOps] at h
    simp only [RunOps]
    split at h
    · rename_i ho; rw [ho]; exact evOps_ok hE h
    · rename_i o ho
      rw [ho]
      simp only
      split at h
      · rename_i hw
        rw [if_pos hw]
        split at h
        · rename_i v A1 hv
          exact ⟨v, A1, evOp_ok hE hv, evOps_ok hE h⟩
        · cases h
      · rename_i hw
        rw [if_neg (by simp [hw])]
        exact evOps_ok hE h

variable (P E)
abbrev Row := Act × World × Value
def evDraw1 (ops : Array Oper) (o : Oper) (a : Act) (A : World) : Option (Value × World) :=
  match Region.wanted o (yielded ops a.tmps) with
  | true => evOp P E o a A
  | false => some (undef, A)
def evRows (ops : Array Oper) : List Oper → Act → World → Option (List Row)
  | [], a, A => some [(a, A, undef)]
  | o :: os, a, A =>
    match evDraw1 P E ops o a A with
    | some (v, A1) => (match evRows ops os (a.put o.dst v) A1 with
      | some rest => some ((a, A, v) :: rest)
      | none => none)
    | none => none
def rowW (rows : List Row) (i : Nat) (A : World) : World := match rows[i]? with | some r => r.2.1 | none => A
/-- The certificate of the operation that stands at i. -/
def evSure (ops : Array Oper) (rows : List Row) (A0 : World) (i : Nat) (o : Oper) : Bool :=
  match rows[i]? with
  | some (a, A, v) =>
    (match Region.wanted o (yielded ops a.tmps) with
    | true => (match kindOf o.op with
      | .quiet => (effs ops ++ [ops.size]).all fun p => !mayAt ops (masks ops) i p || (match evVal P a.eval o (rowW rows p A0) with | some v' => beqV 4 v' v | none => false)
      | .makes => (match evMake P a.eval o A with
        | some (_, obj) => wr obj && newB v A.heap.size && (effs ops ++ [ops.size]).all fun p => !decide (i < p) || !mayAt ops (masks ops) i p || (match (rowW rows p A0).heap[A.heap.size]? with | some o' => beqO o' obj | none => false)
        | none => false)
      | .acts => true)
    | false => true)
  | none => false
def evSures (ops : Array Oper) (rows : List Row) (A0 : World) : Nat → List Oper → Bool
  | _, [] => true
  | i, o :: os => evSure P ops rows A0 i o && evSures ops rows A0 (i + 1) os
def evLast : List Row → Option (Act × World)
  | [] => none
  | [(a, A, _)] => some (a, A)
  | _ :: r => evLast r
def evDraw (ops : Array Oper) (a : Act) (A : World) : Option (Act × World) :=
  match rck ops with
  | true => (match evRows P E ops ops.toList a A with
    | some rows => (match evSures P ops rows A 0 ops.toList with
      | true => evLast rows
      | false => none)
    | none => none)
  | false => none
variable {P E}

theorem evRows_spec {ops : Array Oper} : ∀ {os : List Oper} {a : Act} {A : World} {rows : List Row}, evRows P E ops os a A = some rows →
    rows.length = os.length + 1 ∧ (∃ v, rows[0]? = some (a, A, v)) ∧ (∀ i o, os[i]? = some o → ∃ ai Ai vi vj A1, rows[i]? = some (ai, Ai, vi) ∧ rows[i + 1]? = some (ai.put o.dst vi, A1, vj) ∧ evDraw1 P E ops o ai Ai = some (vi, A1)) ∧
    ∃ al Al vl, rows[os.length]? = some (al, Al, vl) ∧ evLast rows = some (al, Al)
  | [], a, A, rows, h => by
    simp only [evRows, Option.some.injEq] at h
    subst h
    exact ⟨rfl, ⟨_, rfl⟩, fun i o ho => by simp at ho, _, _, _, rfl, rfl⟩
  | o :: os, a, A, rows, h => by
    simp only [evRows] at h
    split at h
    · rename_i v A1 hv
      split at h
      · rename_i rest hrest
        cases h
        obtain ⟨h1, ⟨v0, h2⟩, h3, al, Al, vl, h4, h5⟩ := evRows_spec hrest
        refine ⟨by simp [h1], ⟨_, rfl⟩, ?_, al, Al, vl, by simpa using h4, ?_⟩
        · intro i o' ho
          cases i with
          | zero => cases ho; exact ⟨a, A, v, v0, A1, rfl, by simpa using h2, hv⟩
          | succ i => simpa using h3 i o' (by simpa using ho)
        · cases rest with
          | nil => simp at h1
          | cons r rest => exact h5
      · cases h
    · cases h
theorem evSures_spec {ops : Array Oper} {rows : List Row} {A0 : World} : ∀ {os : List Oper} {k : Nat}, evSures P ops rows A0 k os = true → ∀ i o, os[i]? = some o → evSure P ops rows A0 (k + i) o = true
  | [], _, _, i, o, ho => by simp at ho
  | p :: os, k, h, i, o, ho => by
    simp only [evSures, Bool.and_eq_true] at h
    cases i with
    | zero => cases ho; exact h.1
    | succ i =>
      have := evSures_spec h.2 i o (by simpa using ho)
      rwa [show k + 1 + i = k + (i + 1) from by omega] at this

def traceOf (rows : List Row) (a : Act) (A : World) : Trace where
  as i := match rows[i]? with | some r => r.1 | none => a
  ws i := rowW rows i A
  vs i := match rows[i]? with | some r => r.2.2 | none => undef

theorem evDraw_ok (hE : EvOk E L) {ops : Array Oper} {a a' : Act} {A A' : World} (h : evDraw P E ops a A = some (a', A')) : RunDraw P L ops a A a' A' := by
  unfold evDraw at h
  split at h
  · rename_i hr
    split at h
    · rename_i rows hrows
      split at h
      · rename_i hs
        obtain ⟨h1, ⟨v0, h2⟩, h3, al, Al, vl, h4, h5⟩ := evRows_spec hrows
        rw [h5] at h
        cases h
        have hsz : ops.toList.length = ops.size := by simp
        rw [hsz] at h4
        refine ⟨hr, traceOf rows a A, by simp [traceOf, h2], by simp [traceOf, rowW, h2], by simp [traceOf, h4], by simp [traceOf, rowW, h4], fun i o ho => ?_⟩
        have ho' : ops.toList[i]? = some o := by simpa using ho
        obtain ⟨ai, Ai, vi, vj, A1, k1, k2, k3⟩ := h3 i o ho'
        have hsure := evSures_spec hs i o ho'
        rw [Nat.zero_add] at hsure
        have e1 : (traceOf rows a A).as i = ai := by simp [traceOf, k1]
        have e2 : (traceOf rows a A).ws i = Ai := by simp [traceOf, rowW, k1]
        have e3 : (traceOf rows a A).vs i = vi := by simp [traceOf, k1]
        have e4 : (traceOf rows a A).as (i + 1) = ai.put o.dst vi := by simp [traceOf, k2]
        have e5 : (traceOf rows a A).ws (i + 1) = A1 := by simp [traceOf, rowW, k2]
        refine ⟨by rw [e4, e1, e3], ?_⟩
        rw [e1, e2, e3, e5]
        unfold evSure at hsure
        rw [k1] at hsure
        simp only at hsure
        unfold evDraw1 at k3
        split
        · rename_i hw
          rw [hw] at hsure k3
          simp only at hsure k3
          split
          · rename_i hk
            rw [hk] at hsure
            simp only [List.all_eq_true] at hsure
            have hall : ∀ p, p ∈ effs ops ++ [ops.size] → mayAt ops (masks ops) i p = true → AOp P ai.eval o ((traceOf rows a A).ws p) (.value vi) ((traceOf rows a A).ws p) := by
              intro p hp hm
              have := hsure p hp
              rw [hm] at this
              simp only [Bool.not_true, Bool.false_or] at this
              split at this
              · rename_i v' hv
                rw [beqV_eq this] at hv
                exact evVal_ok hv
              · cases this
            refine ⟨?_, hall⟩
            unfold evOp at k3
            split at k3
            · rename_i c hc
              rw [hc] at hk
              split at k3
              · rename_i hcc; simp [kindOf, hcc] at hk
              · rename_i hcc; simp [kindOf, hcc] at hk
              · rename_i hcc; simp [kindOf, hcc] at hk
              · rename_i hcc; simp [kindOf, hcc] at hk
              · rename_i hcc; simp [kindOf, hcc] at hk
              · unfold evStay at k3
                split at k3 <;> cases k3
                rfl
            · rename_i hc; rw [hc] at hk; simp [kindOf] at hk
            · rename_i hc; rw [hc] at hk; simp [kindOf] at hk
            · split at k3
              · rename_i hd; simp only [decide_eq_true_eq] at hd; rw [hk] at hd; cases hd
              · unfold evStay at k3
                split at k3 <;> cases k3
                rfl
          · rename_i hk
            rw [hk] at hsure
            simp only at hsure
            split at hsure
            · rename_i v' obj hm
              simp only [Bool.and_eq_true, List.all_eq_true] at hsure
              obtain ⟨⟨q1, q2⟩, q3⟩ := hsure
              have hve : vi = v' ∧ A1 = Ai.alloc obj := by
                unfold evOp at k3
                split at k3
                · rename_i c hc; rw [hc] at hk; simp only [kindOf] at hk; split at hk <;> cases hk
                · rename_i hc; rw [hc] at hk; simp [kindOf] at hk
                · rename_i hc; rw [hc] at hk; simp [kindOf] at hk
                · split at k3
                  · rw [hm] at k3; simp only [Option.some.injEq, Prod.mk.injEq] at k3; exact ⟨k3.1.symm, k3.2.symm⟩
                  · rename_i hd; simp only [decide_eq_false_iff_not] at hd; exact absurd hk hd
              obtain ⟨rfl, rfl⟩ := hve
              refine ⟨obj, rfl, q1, newB_ok q2, evMake_ok hk hm, fun p hp hlt hma => ?_⟩
              have := q3 p hp
              simp only [hlt, decide_true, Bool.not_true, Bool.false_or, hma] at this
              split at this
              · rename_i o' ho2
                rw [beqO_eq this] at ho2
                exact ho2
              · cases this
            · cases hsure
          · exact evOp_ok hE k3
        · rename_i hw
          simp only [Bool.not_eq_true] at hw
          rw [hw] at k3
          cases k3
          exact ⟨rfl, rfl⟩
      · cases h
    · cases h
  · cases h
end
end Go.Abs
/-
  ABS 25: the evaluator, by levels.
-/
namespace Go.Abs
section
variable (P : Program) (E : Ev)

def evMarks : List Deferred → World → Option World
  | [], A => some A
  | d :: ds, A =>
    match d.target with
    | .collected r => (match (Instr.takeDeferred r).run P A with
      | .ok [] A1 => evMarks ds A1
      | _ => none)
    | _ => none
def evCall (f : FuncId) (xs : Array Value) (A : World) : Option (Value × World) :=
  match P.funcs[f]? with
  | some fn =>
    match fn.body with
    | some c =>
      match E.codes none c { tmps := xs ++ Array.replicate (fn.ntmps - xs.size) undef, defers := [] } A with
      | some (e, a1, A1) =>
        match (match e with | .normal | .ret => true | _ => false) with
        | true => (match evMarks P a1.defers A1 with
          | some A' => (match peek P A' (results fn a1.tmps) with
            | some v => some (v, A')
            | none => none)
          | none => none)
        | false => none
      | none => none
    | none => none
  | none => none
def evRound (l : Nat) (ts : Array Value) (as bd : Code) (A : World) : Option (Value × World) :=
  match E.codes (some l) as { tmps := ts, defers := [] } A with
  | some (.normal, a1, A1) =>
    match (Instr.beginRound l).run P A1 with
    | .ok () A2 =>
      match E.codes (some l) bd a1 A2 with
      | some (e, _, A3) =>
        match jumpOf e with
        | some j => (match (Instr.endRound l j).run P A3 with
          | .ok v A' => some (v, A')
          | _ => none)
        | none => none
      | none => none
    | _ => none
  | _ => none
def evRange (ro : Option Nat) (g : Operand) (ps : Array Tmp) (as bd : Code) (a : Act) (A : World) : Option (Exit × Act × World) :=
  match (Instr.enterLoop 0 a.tmps ps as bd ro).run P A with
  | .ok (l, mark) A1 =>
    match a.eval g with
    | .func (.func f) first cap =>
      match P.funcs[f]? with
      | some fn =>
        match fn.body.isSome && !(fn.name == "runtime.NumGoroutine") with
        | true =>
          match E.calls f (first ++ #[.func (.yield l) #[] #[]] ++ cap) A1 with
          | some (_, A2) =>
            match (Instr.endLoop l).run P A2 with
            | .ok none A3 => some (.normal, { a with defers := mark ++ a.defers }, A3)
            | .ok (some c) A3 => E.codes ro c { a with defers := mark ++ a.defers } A3
            | _ => none
          | none => none
        | false => none
      | none => none
    | _ => none
  | _ => none
def evCode (ro : Option Nat) (c : Code) (a : Act) (A : World) : Option (Exit × Act × World) :=
  match c with
  | .skip | .label _ => some (.normal, a, A)
  | .seq x y => (match E.codes ro x a A with
    | some (.normal, a1, A1) => E.codes ro y a1 A1
    | r => r)
  | .cond c x y => (match a.eval c with
    | .bool true => E.codes ro x a A
    | .bool false => E.codes ro y a A
    | _ => none)
  | .block id x => (match E.codes ro x a A with
    | some (e, a1, A1) => some (inBlk id e, a1, A1)
    | none => none)
  | .loop x => E.loops ro x a A
  | .exit id => some (.exit id, a, A)
  | .goto l => some (.goto l, a, A)
  | .ret => some (.ret, a, A)
  | .region _ ops false => (match evOps P E ops (List.range ops.size) a A with
    | some (a1, A1) => some (.normal, a1, A1)
    | none => none)
  | .region _ ops true => (match evDraw P E ops a A with
    | some (a1, A1) => some (.normal, a1, A1)
    | none => none)
  | .rangeFunc g ps as bd => evRange P E ro g ps as bd a A
  | _ => none
def evLoop (ro : Option Nat) (x : Code) (a : Act) (A : World) : Option (Exit × Act × World) :=
  match E.codes ro x a A with
  | some (.normal, a1, A1) => E.loops ro x a1 A1
  | r => r
def ev : Nat → Ev
  | 0 => ⟨fun _ _ _ => none, fun _ _ _ _ _ => none, fun _ _ _ _ => none, fun _ _ _ _ => none⟩
  | n + 1 => ⟨evCall P (ev n), evRound P (ev n), evCode P (ev n), evLoop (ev n)⟩

variable {P E} {L : Lvl}
theorem evMarks_ok : ∀ {ds : List Deferred} {A A' : World}, evMarks P ds A = some A' → Marks P ds A A'
  | [], A, A', h => by cases h; rfl
  | d :: ds, A, A', h => by
    simp only [evMarks] at h
    split at h
    · rename_i r hr
      split at h
      · rename_i A1 hrun; exact ⟨r, A1, hr, hrun, evMarks_ok h⟩
      · cases h
    · cases h
theorem evCall_ok (hE : EvOk E L) {f : FuncId} {xs : Array Value} {A A' : World} {v : Value} (h : evCall P E f xs A = some (v, A')) : callStep P L f xs A v A' := by
  unfold evCall at h
  split at h <;> try cases h
  rename_i fn hf
  split at h <;> try cases h
  rename_i c hc
  split at h <;> try cases h
  rename_i e a1 A1 hr
  split at h <;> try cases h
  rename_i he
  split at h <;> try cases h
  rename_i A2 hm
  split at h <;> try cases h
  rename_i u hp
  refine ⟨fn, c, e, a1, A1, hf, hc, hE.codes _ _ _ _ _ _ _ hr, ?_, evMarks_ok hm, peek_run hp⟩
  split at he
  · exact .inl rfl
  · exact .inr rfl
  · cases he
theorem evRound_ok (hE : EvOk E L) {l : Nat} {ts : Array Value} {as bd : Code} {A A' : World} {v : Value} (h : evRound P E l ts as bd A = some (v, A')) : roundStep P L l ts as bd A v A' := by
  unfold evRound at h
  split at h <;> try cases h
  rename_i a1 A1 h1
  split at h <;> try cases h
  rename_i A2 h2
  split at h <;> try cases h
  rename_i e a3 A3 h3
  split at h <;> try cases h
  rename_i j h4
  split at h <;> try cases h
  rename_i h5
  exact ⟨a1, A1, A2, e, a3, A3, j, hE.codes _ _ _ _ _ _ _ h1, h2, hE.codes _ _ _ _ _ _ _ h3, h4, h5⟩
theorem evRange_ok (hE : EvOk E L) {ro : Option Nat} {g : Operand} {ps : Array Tmp} {as bd : Code} {a a' : Act} {A A' : World} {e : Exit} (h : evRange P E ro g ps as bd a A = some (e, a', A')) : RunRange P L ro g ps as bd a A e a' A' := by
  unfold evRange at h
  split at h <;> try cases h
  rename_i l mark A1 h1
  split at h <;> try cases h
  rename_i f first cap h2
  split at h <;> try cases h
  rename_i fn h3
  split at h <;> try cases h
  rename_i h4
  simp only [Bool.and_eq_true, Option.isSome_iff_exists, Bool.not_eq_true'] at h4
  obtain ⟨⟨code, h4⟩, h5⟩ := h4
  split at h <;> try cases h
  rename_i v A2 h6
  split at h
  · rename_i A3 h7
    cases h
    exact ⟨l, mark, A1, f, first, cap, fn, code, v, A2, none, _, h1, h2, h3, h4, h5, hE.calls _ _ _ _ _ h6, h7, rfl, rfl, rfl⟩
  · rename_i c A3 h7
    exact ⟨l, mark, A1, f, first, cap, fn, code, v, A2, some c, A3, h1, h2, h3, h4, h5, hE.calls _ _ _ _ _ h6, h7, hE.codes _ _ _ _ _ _ _ h⟩
  · cases h
theorem evThen_ok {r : Option (Exit × Act × World)} {R : Act → World → Exit → Act → World → Prop} {F : Act → World → Option (Exit × Act × World)} (hF : ∀ a A e a' A', F a A = some (e, a', A') → R a A e a' A') {e : Exit} {a' : Act} {A' : World}
    (h : (match r with | some (.normal, a1, A1) => F a1 A1 | r => r) = some (e, a', A')) : ∃ e1 a1 A1, r = some (e1, a1, A1) ∧ thenStep e1 a1 A1 R e a' A' := by
  split at h
  · rename_i a1 A1; exact ⟨.normal, a1, A1, rfl, hF _ _ _ _ _ h⟩
  · rename_i hne
    subst h
    refine ⟨e, a', A', rfl, ?_⟩
    cases e <;> first | exact ⟨rfl, rfl, rfl⟩ | exact (hne _ _ rfl).elim
theorem evCode_ok (hE : EvOk E L) {ro : Option Nat} {c : Code} {a a' : Act} {A A' : World} {e : Exit} (h : evCode P E ro c a A = some (e, a', A')) : codeStep P L (RunDraw P) ro c a A e a' A' := by
  unfold evCode at h
  split at h
  · cases h; exact ⟨rfl, rfl, rfl⟩
  · cases h; exact ⟨rfl, rfl, rfl⟩
  · rename_i x y
    obtain ⟨e1, a1, A1, h1, h2⟩ := evThen_ok (R := L.codes ro y) (fun _ _ _ _ _ q => hE.codes _ _ _ _ _ _ _ q) h
    exact ⟨e1, a1, A1, hE.codes _ _ _ _ _ _ _ h1, h2⟩
  · rename_i c x y
    split at h
    · rename_i hc; exact ⟨true, hc, hE.codes _ _ _ _ _ _ _ h⟩
    · rename_i hc; exact ⟨false, hc, hE.codes _ _ _ _ _ _ _ h⟩
    · cases h
  · split at h
    · rename_i h1; cases h; exact ⟨_, hE.codes _ _ _ _ _ _ _ h1, rfl⟩
    · cases h
  · exact hE.loops _ _ _ _ _ _ _ h
  · cases h; exact ⟨rfl, rfl, rfl⟩
  · cases h; exact ⟨rfl, rfl, rfl⟩
  · cases h; exact ⟨rfl, rfl, rfl⟩
  · split at h
    · rename_i h1; cases h; exact ⟨rfl, evOps_ok hE h1⟩
    · cases h
  · split at h
    · rename_i h1; cases h; exact ⟨rfl, evDraw_ok hE h1⟩
    · cases h
  · exact evRange_ok hE h
  · cases h
theorem evLoop_ok (hE : EvOk E L) {ro : Option Nat} {x : Code} {a a' : Act} {A A' : World} {e : Exit} (h : evLoop E ro x a A = some (e, a', A')) : loopStep L ro x a A e a' A' := by
  unfold evLoop at h
  obtain ⟨e1, a1, A1, h1, h2⟩ := evThen_ok (R := L.loops ro x) (fun _ _ _ _ _ q => hE.loops _ _ _ _ _ _ _ q) h
  exact ⟨e1, a1, A1, hE.codes _ _ _ _ _ _ _ h1, h2⟩
theorem ev_ok : ∀ n, EvOk (ev P n) (Lv P n)
  | 0 => ⟨fun _ _ _ _ _ h => (by cases h), fun _ _ _ _ _ _ _ h => (by cases h), fun _ _ _ _ _ _ _ h => (by cases h), fun _ _ _ _ _ _ _ h => (by cases h)⟩
  | n + 1 =>
    have hE := ev_ok n
    ⟨fun _ _ _ _ _ h => evCall_ok hE h, fun _ _ _ _ _ _ _ h => evRound_ok hE h, fun _ _ _ _ _ _ _ h => evCode_ok hE h, fun _ _ _ _ _ _ _ h => evLoop_ok hE h⟩

/-- What a closed call answers with. -/
def answers (P : Program) (n : Nat) (f : FuncId) (q : Value → Bool) : Bool :=
  match (ev P n).calls f #[] (tombs 0) with
  | some (v, _) => q v
  | none => false
theorem answers_ok {n : Nat} {f : FuncId} {q : Value → Bool} (h : answers P n f q = true) : ∃ v A', (Lv P n).calls f #[] (tombs 0) v A' ∧ q v = true := by
  unfold answers at h
  split at h
  · rename_i v A' hv; exact ⟨v, A', (ev_ok n).calls _ _ _ _ _ hv, h⟩
  · cases h

/-- What is asked of the program's text. -/
def zeroOk (P : Program) : Bool := P.types.toList.all fun i => match i.zero with | some z => plain z | none => true
def codesOk (P : Program) : Bool := P.funcs.toList.all fun fn => match fn.body with | some c => codeOk c | none => true
end
end Go.Abs
