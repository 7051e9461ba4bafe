/-
  ABS 29: a world's heap as a trie; the model's operations run over it.
-/
import Derived.Test.YthkoolfmealabaaGreatA28
namespace Go.Abs

structure Hp where
  t : Tri Obj
  n : Nat
structure Rep (h : Hp) (w : World) : Prop where
  size : h.n = w.heap.size
  get : ∀ b, h.t.get b = w.heap[b]?

/-- An object, plain to see at once. -/
noncomputable def forceO {β : Type} (o : Obj) (k : Obj → β) : β := match o with
  | .cells ⟨c⟩ t f => forceL (forceV 4) c fun c => k (.cells ⟨c⟩ t f)
  | .map ⟨es⟩ c => forceL (fun (e : MapEntry) k => forceV 4 e.key fun a => forceV 4 e.val fun b => k ⟨a, b, e.born⟩) es fun es => forceN c fun c => k (.map ⟨es⟩ c)
  | o => k o
theorem forceO_eq {β : Type} (o : Obj) (k : Obj → β) : forceO o k = k o := by
  unfold forceO
  split
  · exact forceL_eq (forceV_eq 4) _ _
  · rw [forceL_eq (fun x k => by simp only [forceV_eq]), forceN_eq]
  · rfl

noncomputable def Hp.push {β : Type} (h : Hp) (o : Obj) (k : Hp → β) : β := forceO o fun o => h.t.putK (h.n + 1) h.n o fun t => forceN (h.n + 1) fun n => k ⟨t, n⟩
noncomputable def Hp.put {β : Type} (h : Hp) (b : Nat) (o : Obj) (k : Hp → β) : β := forceO o fun o => h.t.putK (b + 1) b o fun t => k ⟨t, h.n⟩
theorem Hp.push_eq {β : Type} (h : Hp) (o : Obj) (k : Hp → β) : h.push o k = k ⟨h.t.put (h.n + 1) h.n o, h.n + 1⟩ := by simp only [push, forceO_eq, Tri.putK_eq, forceN_eq]
theorem Hp.put_eq {β : Type} (h : Hp) (b : Nat) (o : Obj) (k : Hp → β) : h.put b o k = k ⟨h.t.put (b + 1) b o, h.n⟩ := by simp only [put, forceO_eq, Tri.putK_eq]
theorem Rep.push {h : Hp} {w : World} (r : Rep h w) (o : Obj) : Rep ⟨h.t.put (h.n + 1) h.n o, h.n + 1⟩ (w.alloc o) := by
  refine ⟨by rw [World.size_alloc, r.size], fun b => ?_⟩
  by_cases hb : b = h.n
  · subst hb
    rw [Tri.get_put_self _ _ _ _ (Nat.lt_succ_self _), r.size, heap_alloc_self]
  · rw [Tri.get_put_ne _ _ _ _ _ hb, r.get]
    show _ = (w.heap.push o)[b]?
    rw [Array.getElem?_push, if_neg (by rw [← r.size]; exact hb)]
theorem Rep.put {h : Hp} {w w' : World} (r : Rep h w) {b : Nat} {o : Obj} (hs : w'.heap.size = w.heap.size) (h1 : w'.heap[b]? = some o) (h2 : ∀ k, k ≠ b → w'.heap[k]? = w.heap[k]?) : Rep ⟨h.t.put (b + 1) b o, h.n⟩ w' := by
  refine ⟨r.size.trans hs.symm, fun k => ?_⟩
  by_cases hk : k = b
  · subst hk; rw [Tri.get_put_self _ _ _ _ (Nat.lt_succ_self _), h1]
  · rw [Tri.get_put_ne _ _ _ _ _ hk, r.get, h2 k hk]

noncomputable def Hp.cell (h : Hp) (a : Addr) : Option Value := match h.t.get a.block with
  | some (.cells c _ _) => if a.spot.isSome then none else c[a.off]?
  | _ => none
noncomputable def Hp.frozen (h : Hp) (a : Addr) : Bool := match h.t.get a.block with
  | some (.cells _ _ (lo, hi)) => lo ≤ a.off && a.off < hi
  | _ => false
noncomputable def Hp.shape (h : Hp) (r : Nat) : Option (TypeId × Nat) := match h.t.get r with
  | some (.cells c elem _) => some (elem, c.size)
  | _ => none
section
variable {h : Hp} {w : World}
theorem Rep.cell (r : Rep h w) (a : Addr) : h.cell a = w.cell? a := by simp only [Hp.cell, World.cell?, r.get]; rfl
theorem Rep.frozen (r : Rep h w) (a : Addr) : h.frozen a = w.frozen? a := by simp only [Hp.frozen, World.frozen?, r.get]; rfl
theorem Rep.shape (r : Rep h w) (a : Nat) : h.shape a = w.shape? a := by simp only [Hp.shape, World.shape?, r.get]; rfl
variable (P : Program)
noncomputable def peekT {α : Type} (h : Hp) : Sem α → Option α
  | .pure a => some a
  | .program k => peekT h (k P)
  | .mark _ k => peekT h k
  | .load _ a k => match h.cell a with
    | some v => peekT h (k v)
    | none => none
  | .shape r k => peekT h (k (h.shape r))
  | .frozen a k => peekT h (k (h.frozen a))
  | .getObj r k => match h.t.get r with
    | some (.cells ..) => none
    | some o => peekT h (k o)
    | none => none
  | _ => none
theorem peekT_eq {α : Type} (r : Rep h w) : ∀ m : Sem α, peekT P h m = peek P w m := by
  intro m
  induction m with
  | pure a => rfl
  | program k ih => exact ih P
  | mark m k ih => exact ih
  | load m a k ih =>
    simp only [peekT, peek, r.cell]
    cases w.cell? a with
    | none => rfl
    | some v => exact ih v
  | shape a k ih => simp only [peekT, peek, r.shape]; exact ih _
  | frozen a k ih => simp only [peekT, peek, r.frozen]; exact ih _
  | getObj a k ih =>
    simp only [peekT, peek, r.get]
    cases w.heap[a]? with
    | none => rfl
    | some o => cases o <;> first | rfl | exact ih _
  | _ => rfl

/-- The model's operation, run over the trie. -/
noncomputable def runT {α : Type} : Sem α → Hp → Option (α × Hp)
  | .pure a, h => some (a, h)
  | .program k, h => runT (k P) h
  | .mark _ k, h => runT k h
  | .load _ a k, h => match h.cell a with
    | some v => runT (k v) h
    | none => none
  | .shape r k, h => runT (k (h.shape r)) h
  | .frozen a k, h => runT (k (h.frozen a)) h
  | .getObj r k, h => match h.t.get r with
    | some (.cells ..) => none
    | some o => runT (k o) h
    | none => none
  | .store _ a v k, h => match isOne v, h.frozen a with
    | true, false => (match h.t.get a.block with
      | some (.cells c t f) => (match a.spot, decide (a.off < c.size) with
        | none, true => h.put a.block (.cells (c.setIfInBounds a.off v) t f) fun h => runT k h
        | _, _ => none)
      | _ => none)
    | _, _ => none
  | .new o k, h => h.push o fun h' => runT (k h.n) h'
  | .setObj r o k, h => match h.t.get r with
    | some (.cells ..) => none
    | some _ => h.put r o fun h => runT k h
    | none => none
  | _, _ => none
theorem runT_ok {α : Type} : ∀ (m : Sem α) {h h' : Hp} {w : World} {a : α}, Rep h w → runT P m h = some (a, h') → ∃ w', m.run P w = .ok a w' ∧ Rep h' w' := by
  intro m
  induction m with
  | pure b => intro h h' w a r hr; simp only [runT, Option.some.injEq, Prod.mk.injEq] at hr; obtain ⟨rfl, rfl⟩ := hr; exact ⟨w, rfl, r⟩
  | program k ih => intro h h' w a r hr; exact ih P r hr
  | mark m k ih => intro h h' w a r hr; exact ih r hr
  | load m ad k ih =>
    intro h h' w a r hr
    simp only [runT, r.cell] at hr
    simp only [Sem.run]
    split at hr
    · rename_i v hv; rw [hv]; exact ih _ r hr
    · cases hr
  | shape q k ih => intro h h' w a r hr; simp only [runT, r.shape] at hr; exact ih _ r hr
  | frozen q k ih => intro h h' w a r hr; simp only [runT, r.frozen] at hr; exact ih _ r hr
  | getObj q k ih =>
    intro h h' w a r hr
    simp only [runT, r.get] at hr
    simp only [Sem.run]
    split at hr
    · cases hr
    · rename_i o ho hne
      rw [hne]
      split
      · rename_i heq; cases heq; exact absurd rfl (ho _ _ _)
      · rename_i heq; cases heq; exact ih _ r hr
      · rename_i heq; cases heq
    · cases hr
  | store m ad v k ih =>
    intro h h' w a r hr
    simp only [runT] at hr
    split at hr
    · rename_i hone hfr
      split at hr
      · rename_i c t f hb
        split at hr
        · rename_i hs hlt
          simp only [decide_eq_true_eq] at hlt
          rw [Hp.put_eq] at hr
          rw [r.get] at hb
          rw [r.frozen] at hfr
          have hlt' : ad.block < w.heap.size := (Array.getElem?_eq_some_iff.1 hb).1
          have R' : Rep ⟨h.t.put (ad.block + 1) ad.block (.cells (c.setIfInBounds ad.off v) t f), h.n⟩ (w.setCell ad v) := by
            refine r.put (by simp [World.setCell]) ?_ fun k hk => ?_
            · simp only [World.setCell, Array.getElem?_modify, hb, if_true, Option.map_some, hs]
              simp
            · simp only [World.setCell, Array.getElem?_modify]
              rw [if_neg (fun e => hk e.symm)]
          obtain ⟨w', h1, h2⟩ := ih R' hr
          refine ⟨w', ?_, h2⟩
          have hc : w.cell? ad = some c[ad.off] := by simp [World.cell?, hb, hs, hlt]
          have : (Sem.store m ad v k).run P w = k.run P (w.setCell ad v) := by
            cases v <;> first | (cases hone; done) | simp [Sem.run, hc, hfr]
          rw [this]; exact h1
        · cases hr
      · cases hr
    · cases hr
  | new o k ih =>
    intro h h' w a r hr
    simp only [runT, Hp.push_eq] at hr
    obtain ⟨w', h1, h2⟩ := ih _ (r.push o) hr
    exact ⟨w', by simp only [Sem.run]; rw [← r.size]; exact h1, h2⟩
  | setObj q o k ih =>
    intro h h' w a r hr
    simp only [runT, r.get] at hr
    simp only [Sem.run]
    split at hr
    · cases hr
    · rename_i o' ho hne
      rw [Hp.put_eq] at hr
      have hlt' : q < w.heap.size := (Array.getElem?_eq_some_iff.1 hne).1
      have R' : Rep ⟨h.t.put (q + 1) q o, h.n⟩ { w with heap := w.heap.setIfInBounds q o } :=
        r.put (by simp) (by simp [hlt']) fun k hk => by simp only; rw [Array.getElem?_setIfInBounds_ne (fun e => hk e.symm)]
      obtain ⟨w', h1, h2⟩ := ih R' hr
      refine ⟨w', ?_, h2⟩
      rw [hne]
      split
      · rename_i heq; cases heq; exact absurd rfl (ho _ _ _)
      · exact h1
      · rename_i heq; cases heq
    · cases hr
  | _ => intro h h' w a r hr; simp [runT] at hr
end
end Go.Abs
