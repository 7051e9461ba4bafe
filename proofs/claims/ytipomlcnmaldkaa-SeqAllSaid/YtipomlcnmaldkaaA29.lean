/-
  ABS 29: a world's heap as a trie; the model's operations run over it.
-/
import Derived.Test.YtipomlcnmaldkaaA28
namespace Go.Abs

structure Hp where
  t : Tri Obj
  n : Nat
structure Rep (h : Hp) (w : World) : Prop where
  size : h.n = w.heap.size
  get : ∀ b o, h.t.get b = some o → w.heap[b]? = some o

/-- An object, plain to see at once. -/
noncomputable def forceO {β : Type} (o : Obj) (k : Obj → β) : β := match o with
  | .cells ⟨c⟩ t f => forceL (forceV 4) c fun c => k (.cells ⟨c⟩ t f)
  | .map ⟨es⟩ c => forceL (fun (e : MapEntry) k => forceV 4 e.key fun a => forceV 4 e.val fun b => k ⟨a, b, e.born⟩) es fun es => forceN c fun c => k (.map ⟨es⟩ c)
  | o => k o
theorem forceO_eq {β : Type} (o : Obj) (k : Obj → β) : forceO o k = k o := by
  unfold forceO
  split
  · exact forceL_eq (forceV_eq 4) _ _
  · rw [forceL_eq (fun x k => by simp only [forceV_eq]), forceN_eq]
  · rfl

noncomputable def Hp.push {β : Type} (h : Hp) (o : Obj) (k : Hp → β) : β := forceO o fun o => h.t.putK (h.n + 1) h.n o fun t => forceN (h.n + 1) fun n => k ⟨t, n⟩
noncomputable def Hp.put {β : Type} (h : Hp) (b : Nat) (o : Obj) (k : Hp → β) : β := forceO o fun o => h.t.putK (b + 1) b o fun t => k ⟨t, h.n⟩
theorem Hp.push_eq {β : Type} (h : Hp) (o : Obj) (k : Hp → β) : h.push o k = k ⟨h.t.put (h.n + 1) h.n o, h.n + 1⟩ := by simp only [push, forceO_eq, Tri.putK_eq, forceN_eq]
theorem Hp.put_eq {β : Type} (h : Hp) (b : Nat) (o : Obj) (k : Hp → β) : h.put b o k = k ⟨h.t.put (b + 1) b o, h.n⟩ := by simp only [put, forceO_eq, Tri.putK_eq]
theorem Rep.push {h : Hp} {w : World} (r : Rep h w) (o : Obj) : Rep ⟨h.t.put (h.n + 1) h.n o, h.n + 1⟩ (w.alloc o) := by
  refine ⟨by rw [World.size_alloc, r.size], fun b x hx => ?_⟩
  by_cases hb : b = h.n
  · subst hb
    rw [Tri.get_put_self _ _ _ _ (Nat.lt_succ_self _)] at hx
    cases hx
    rw [r.size, heap_alloc_self]
  · rw [Tri.get_put_ne _ _ _ _ _ hb] at hx
    have := r.get _ _ hx
    rw [heap_alloc_lt _ _ (Array.getElem?_eq_some_iff.1 this).1, this]
theorem Rep.put {h : Hp} {w w' : World} (r : Rep h w) {b : Nat} {o : Obj} (hs : w'.heap.size = w.heap.size) (h1 : w'.heap[b]? = some o) (h2 : ∀ k, k ≠ b → w'.heap[k]? = w.heap[k]?) : Rep ⟨h.t.put (b + 1) b o, h.n⟩ w' := by
  refine ⟨r.size.trans hs.symm, fun k x hx => ?_⟩
  by_cases hk : k = b
  · subst hk; rw [Tri.get_put_self _ _ _ _ (Nat.lt_succ_self _)] at hx; cases hx; exact h1
  · rw [Tri.get_put_ne _ _ _ _ _ hk] at hx; rw [h2 k hk]; exact r.get _ _ hx

noncomputable def Hp.cell (h : Hp) (a : Addr) : Option Value := match h.t.get a.block with
  | some (.cells c _ _) => if a.spot.isSome then none else c[a.off]?
  | _ => none
noncomputable def Hp.frozen (h : Hp) (a : Addr) : Option Bool := match h.t.get a.block with
  | some (.cells _ _ (lo, hi)) => some (lo ≤ a.off && a.off < hi)
  | some _ => some false
  | none => none
noncomputable def Hp.shape (h : Hp) (r : Nat) : Option (Option (TypeId × Nat)) := match h.t.get r with
  | some (.cells c elem _) => some (some (elem, c.size))
  | some _ => some none
  | none => none
section
variable {h : Hp} {w : World}
theorem Rep.cell (r : Rep h w) {a : Addr} {v : Value} (q : h.cell a = some v) : w.cell? a = some v := by
  unfold Hp.cell at q
  split at q
  · rename_i c t f hb
    simp only [World.cell?, r.get _ _ hb]; exact q
  · cases q
theorem Rep.frozen (r : Rep h w) {a : Addr} {b : Bool} (q : h.frozen a = some b) : w.frozen? a = b := by
  unfold Hp.frozen at q
  split at q
  · rename_i hb; cases q; simp only [World.frozen?, r.get _ _ hb]
  · rename_i o ho hb; cases q
    simp only [World.frozen?, r.get _ _ hb]
    cases o <;> first | rfl | exact absurd rfl (ho _ _ _ _)
  · cases q
theorem Rep.shape (r : Rep h w) {b : Nat} {x : Option (TypeId × Nat)} (q : h.shape b = some x) : w.shape? b = x := by
  unfold Hp.shape at q
  split at q
  · rename_i hb; cases q; simp only [World.shape?, r.get _ _ hb]
  · rename_i o ho hb; cases q
    simp only [World.shape?, r.get _ _ hb]
    cases o <;> first | rfl | exact absurd rfl (ho _ _ _)
  · cases q
variable (P : Program)
noncomputable def peekT {α : Type} (h : Hp) : Sem α → Option α
  | .pure a => some a
  | .program k => peekT h (k P)
  | .mark _ k => peekT h k
  | .load _ a k => match h.cell a with
    | some v => peekT h (k v)
    | none => none
  | .shape r k => match h.shape r with
    | some x => peekT h (k x)
    | none => none
  | .frozen a k => match h.frozen a with
    | some b => peekT h (k b)
    | none => none
  | .getObj r k => match h.t.get r with
    | some (.cells ..) => none
    | some o => peekT h (k o)
    | none => none
  | _ => none
theorem peekT_ok {α : Type} (r : Rep h w) : ∀ {m : Sem α} {a : α}, peekT P h m = some a → peek P w m = some a := by
  intro m
  induction m with
  | pure b => intro a q; exact q
  | program k ih => intro a q; exact ih P q
  | mark m k ih => intro a q; exact ih q
  | load m ad k ih =>
    intro a q
    simp only [peekT] at q
    simp only [peek]
    split at q
    · rename_i v hv; rw [r.cell hv]; exact ih v q
    · cases q
  | shape b k ih =>
    intro a q
    simp only [peekT] at q
    simp only [peek]
    split at q
    · rename_i v hv; rw [r.shape hv]; exact ih v q
    · cases q
  | frozen b k ih =>
    intro a q
    simp only [peekT] at q
    simp only [peek]
    split at q
    · rename_i v hv; rw [r.frozen hv]; exact ih v q
    · cases q
  | getObj b k ih =>
    intro a q
    simp only [peekT] at q
    simp only [peek]
    split at q
    · cases q
    · rename_i o ho hb
      rw [r.get _ _ hb]
      cases o <;> first | exact ih _ q | exact absurd rfl (ho _ _ _)
    · cases q
  | _ => intro a q; simp [peekT] at q

/-- The model's operation, run over the trie. -/
noncomputable def runT {α : Type} : Sem α → Hp → Option (α × Hp)
  | .pure a, h => some (a, h)
  | .program k, h => runT (k P) h
  | .mark _ k, h => runT k h
  | .load _ a k, h => match h.cell a with
    | some v => runT (k v) h
    | none => none
  | .shape r k, h => match h.shape r with
    | some x => runT (k x) h
    | none => none
  | .frozen a k, h => match h.frozen a with
    | some b => runT (k b) h
    | none => none
  | .getObj r k, h => match h.t.get r with
    | some (.cells ..) => none
    | some o => runT (k o) h
    | none => none
  | .store _ a v k, h => match isOne v, h.frozen a with
    | true, some false => (match h.t.get a.block with
      | some (.cells c t f) => (match a.spot, decide (a.off < c.size) with
        | none, true => h.put a.block (.cells (c.setIfInBounds a.off v) t f) fun h => runT k h
        | _, _ => none)
      | _ => none)
    | _, _ => none
  | .new o k, h => h.push o fun h' => runT (k h.n) h'
  | .setObj r o k, h => match h.t.get r with
    | some (.cells ..) => none
    | some _ => h.put r o fun h => runT k h
    | none => none
  | _, _ => none
theorem runT_ok {α : Type} : ∀ (m : Sem α) {h h' : Hp} {w : World} {a : α}, Rep h w → runT P m h = some (a, h') → ∃ w', m.run P w = .ok a w' ∧ Rep h' w' := by
  intro m
  induction m with
  | pure b => intro h h' w a r hr; simp only [runT, Option.some.injEq, Prod.mk.injEq] at hr; obtain ⟨rfl, rfl⟩ := hr; exact ⟨w, rfl, r⟩
  | program k ih => intro h h' w a r hr; exact ih P r hr
  | mark m k ih => intro h h' w a r hr; exact ih r hr
  | load m ad k ih =>
    intro h h' w a r hr
    simp only [runT] at hr
    simp only [Sem.run]
    split at hr
    · rename_i v hv; rw [r.cell hv]; exact ih _ r hr
    · cases hr
  | shape q k ih =>
    intro h h' w a r hr
    simp only [runT] at hr
    simp only [Sem.run]
    split at hr
    · rename_i v hv; rw [r.shape hv]; exact ih _ r hr
    · cases hr
  | frozen q k ih =>
    intro h h' w a r hr
    simp only [runT] at hr
    simp only [Sem.run]
    split at hr
    · rename_i v hv; rw [r.frozen hv]; exact ih _ r hr
    · cases hr
  | getObj q k ih =>
    intro h h' w a r hr
    simp only [runT] at hr
    simp only [Sem.run]
    split at hr
    · cases hr
    · rename_i o ho hne0
      have hne := r.get _ _ hne0
      rw [hne]
      split
      · rename_i heq; cases heq; exact absurd rfl (ho _ _ _)
      · rename_i heq; cases heq; exact ih _ r hr
      · rename_i heq; cases heq
    · cases hr
  | store m ad v k ih =>
    intro h h' w a r hr
    simp only [runT] at hr
    split at hr
    · rename_i hone hfr
      split at hr
      · rename_i c t f hb
        split at hr
        · rename_i hs hlt
          simp only [decide_eq_true_eq] at hlt
          rw [Hp.put_eq] at hr
          have hb := r.get _ _ hb
          have hfr := r.frozen hfr
          have hlt' : ad.block < w.heap.size := (Array.getElem?_eq_some_iff.1 hb).1
          have R' : Rep ⟨h.t.put (ad.block + 1) ad.block (.cells (c.setIfInBounds ad.off v) t f), h.n⟩ (w.setCell ad v) := by
            refine r.put (by simp [World.setCell]) ?_ fun k hk => ?_
            · simp only [World.setCell, Array.getElem?_modify, hb, if_true, Option.map_some, hs]
              simp
            · simp only [World.setCell, Array.getElem?_modify]
              rw [if_neg (fun e => hk e.symm)]
          obtain ⟨w', h1, h2⟩ := ih R' hr
          refine ⟨w', ?_, h2⟩
          have hc : w.cell? ad = some c[ad.off] := by simp [World.cell?, hb, hs, hlt]
          have : (Sem.store m ad v k).run P w = k.run P (w.setCell ad v) := by
            cases v <;> first | (cases hone; done) | simp [Sem.run, hc, hfr]
          rw [this]; exact h1
        · cases hr
      · cases hr
    · cases hr
  | new o k ih =>
    intro h h' w a r hr
    simp only [runT, Hp.push_eq] at hr
    obtain ⟨w', h1, h2⟩ := ih _ (r.push o) hr
    exact ⟨w', by simp only [Sem.run]; rw [← r.size]; exact h1, h2⟩
  | setObj q o k ih =>
    intro h h' w a r hr
    simp only [runT] at hr
    simp only [Sem.run]
    split at hr
    · cases hr
    · rename_i o' ho hne0
      have hne := r.get _ _ hne0
      rw [Hp.put_eq] at hr
      have hlt' : q < w.heap.size := (Array.getElem?_eq_some_iff.1 hne).1
      have R' : Rep ⟨h.t.put (q + 1) q o, h.n⟩ { w with heap := w.heap.setIfInBounds q o } :=
        r.put (by simp) (by simp [hlt']) fun k hk => by simp only; rw [Array.getElem?_setIfInBounds_ne (fun e => hk e.symm)]
      obtain ⟨w', h1, h2⟩ := ih R' hr
      refine ⟨w', ?_, h2⟩
      rw [hne]
      split
      · rename_i heq; cases heq; exact absurd rfl (ho _ _ _)
      · exact h1
      · rename_i heq; cases heq
    · cases hr
  | _ => intro h h' w a r hr; simp [runT] at hr
end
end Go.Abs
