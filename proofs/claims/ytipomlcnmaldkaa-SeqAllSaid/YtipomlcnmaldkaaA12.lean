/-
  ABS 12: the loop's record, results, and the steps of soundness but for a region that draws.
-/
import Derived.Test.YtipomlcnmaldkaaA11
namespace Go.Abs
section
variable {P : Program} {n₀ : Nat} {ι ι' : Ren} {A A' W W' : World}

theorem RS.getLoop {l : Nat} {e : Ent} (he : ι l = some e) : RS P n₀ ι (LRel P) (Instr.getLoop l) (Instr.getLoop e.blk) := by
  unfold Instr.getLoop
  refine (RS.getObj he).bind fun ι1 l1 o o' ⟨_, ho⟩ => ?_
  unfold ObjRel at ho
  split at ho
  · exact RS.halt _
  · exact .pure ho
  · exact RS.halt _
  · exact ho.elim
theorem RS.enterLoop (fn fn' : FuncId) {ts ts' : Array Value} (h : Vs P ι ts ts') (ps : Array Tmp) (as bd : Code) (ha : codeOk as = true) (hb : codeOk bd = true) {ro ro' : Option Nat} (hro : RoRel ι ro ro') :
    RS P n₀ ι (fun κ r r' => (∃ e, κ r.1 = some e ∧ e.sh = 0 ∧ r'.1 = e.blk) ∧ DRel κ r.2 r'.2) (Instr.enterLoop fn ts ps as bd ro) (Instr.enterLoop fn' ts' ps as bd ro') := by
  unfold Instr.enterLoop
  have tail : ∀ {κ : Ren} (_ : ι.le κ) (dd : Nat) (de : Ent) (m m' : List Deferred), κ dd = some de → de.sh = 0 → DRel κ m m' → RS P n₀ κ (fun κ (r r' : Nat × List Deferred) => (∃ e, κ r.1 = some e ∧ e.sh = 0 ∧ r'.1 = e.blk) ∧ DRel κ r.2 r'.2)
      (do Pure.pure (← Go.newObj (.loop { state := .ready, pending := none, fn, tmps := ts, params := ps, assign := as, body := bd, defers := dd }), m))
      (do Pure.pure (← Go.newObj (.loop { state := .ready, pending := none, fn := fn', tmps := ts', params := ps, assign := as, body := bd, defers := de.blk }), m')) := by
    intro κ hle dd de m m' hd hs hm
    refine (RS.newOther (by intro _ _ _ h; cases h) fun κ' hle' => ?_).bind fun κ1 l1 r r' ⟨e, h1, h2, h3, _⟩ => .pure ⟨⟨e, h1, h3, h2.symm⟩, hm.mono l1⟩
    have hL : LRel P κ' { state := .ready, pending := none, fn, tmps := ts, params := ps, assign := as, body := bd, defers := dd } { state := .ready, pending := none, fn := fn', tmps := ts', params := ps, assign := as, body := bd, defers := de.blk } :=
      ⟨rfl, rfl, (h.mono hle).mono hle', rfl, rfl, rfl, ⟨ha, hb, fun c hc => by cases hc⟩, de, hle' _ _ hd, hs, rfl⟩
    exact hL
  rcases hro with ⟨rfl, rfl⟩ | ⟨l, e, rfl, he, hs, rfl⟩
  · simp only
    refine (RS.newOther (o := .deferred (some [])) (o' := .deferred (some [])) (by intro _ _ _ h; cases h) fun κ _ => (show (some [] : Option (List Deferred)) = some [] ∧ _ from ⟨rfl, .inl rfl⟩)).bind fun κ1 l1 r r' ⟨e, h1, h2, h3, _⟩ => ?_
    subst h2
    refine (RS.pure (R := fun κ (p p' : Nat × List Deferred) => p.1 = r ∧ p'.1 = e.blk ∧ DRel κ p.2 p'.2) ⟨rfl, rfl, (show DRel κ1 [{ target := .collected r, args := #[] }] [{ target := .collected e.blk, args := #[] }] from ⟨⟨r, e, rfl, rfl, h1, h3⟩, trivial⟩)⟩).bind fun κ2 l2 p p' ⟨q1, q2, q3⟩ => ?_
    obtain ⟨d, m⟩ := p
    obtain ⟨d', m'⟩ := p'
    simp only at q1 q2 q3
    subst q1; subst q2
    exact tail (l1.trans l2) d e m m' (l2 _ _ h1) h3 q3
  · simp only
    refine (RS.getLoop he).bind fun κ1 l1 r r' hr => ?_
    obtain ⟨e', h1, h2, h3⟩ := hr.defers
    refine (RS.pure (R := fun κ (p p' : Nat × List Deferred) => p.1 = r.defers ∧ p'.1 = e'.blk ∧ DRel κ p.2 p'.2) ⟨rfl, h3, (show DRel κ1 [] [] from trivial)⟩).bind fun κ2 l2 p p' ⟨q1, q2, q3⟩ => ?_
    obtain ⟨d, m⟩ := p
    obtain ⟨d', m'⟩ := p'
    simp only at q1 q2 q3
    subst q1; subst q2
    exact tail (l1.trans l2) _ e' m m' (l2 _ _ h1) h2 q3
theorem RS.beginRound {l : Nat} {e : Ent} (he : ι l = some e) (hs : e.sh = 0) : RS P n₀ ι (fun _ _ _ => True) (Instr.beginRound l) (Instr.beginRound e.blk) := by
  unfold Instr.beginRound
  refine (RS.getLoop he).bind fun κ1 l1 r r' hr => ?_
  refine (RS.setObj (l1 _ _ he) hs (q := .loop { r with state := .busy }) (q' := .loop { r' with state := .busy }) ?_).bind fun κ2 l2 _ _ _ => ?_
  · have hL : LRel P κ1 { r with state := .busy } { r' with state := .busy } := ⟨rfl, hr.pending, hr.tmps, hr.params, hr.assign, hr.body, hr.ok, hr.defers⟩
    exact hL
  · rw [hr.state]
    cases r.state with
    | ready => exact .pure trivial
    | _ => exact RS.never (runtimePanic_never _)
theorem RS.endRound {l : Nat} {e : Ent} (he : ι l = some e) (hs : e.sh = 0) (j : Option Code) (hj : ∀ c, j = some c → codeOk c = true) : RS P n₀ ι (VRel P) (Instr.endRound l j) (Instr.endRound e.blk j) := by
  unfold Instr.endRound
  refine (RS.getLoop he).bind fun κ1 l1 r r' hr => ?_
  refine (RS.setObj (l1 _ _ he) hs (q := .loop { r with state := if j.isNone then .ready else .done, pending := j }) (q' := .loop { r' with state := if j.isNone then .ready else .done, pending := j }) ?_).bind fun κ2 l2 _ _ _ => ?_
  · have hL : LRel P κ1 { r with state := if j.isNone then .ready else .done, pending := j } { r' with state := if j.isNone then .ready else .done, pending := j } := ⟨rfl, rfl, hr.tmps, hr.params, hr.assign, hr.body, ⟨hr.ok.1, hr.ok.2.1, hj⟩, hr.defers⟩
    exact hL
  · exact .pure (.bool _)
theorem RS.endLoop {l : Nat} {e : Ent} (he : ι l = some e) (hs : e.sh = 0) : RS P n₀ ι (fun _ r r' => r' = r ∧ ∀ c, r = some c → codeOk c = true) (Instr.endLoop l) (Instr.endLoop e.blk) := by
  unfold Instr.endLoop
  refine (RS.getLoop he).bind fun κ1 l1 r r' hr => ?_
  simp only
  rw [hr.state]
  split
  · exact RS.never (never_left (runtimePanic_never _))
  · refine (RS.setObj (l1 _ _ he) hs (q := .loop { r with state := .exhausted }) (q' := .loop { r' with state := .exhausted }) ?_).bind fun κ2 l2 _ _ _ => ?_
    · have hL : LRel P κ1 { r with state := .exhausted } { r' with state := .exhausted } := ⟨rfl, hr.pending, hr.tmps, hr.params, hr.assign, hr.body, hr.ok, hr.defers⟩
      exact hL
    · exact .pure ⟨hr.pending, hr.ok.2.2⟩
theorem RS.takeDeferred {r : Nat} {e : Ent} (he : ι r = some e) (hs : e.sh = 0) : RS P n₀ ι (fun _ r r' => r = [] → r' = []) (Instr.takeDeferred r) (Instr.takeDeferred e.blk) := by
  unfold Instr.takeDeferred
  refine (RS.getObj he).bind fun κ1 l1 o o' ⟨_, ho⟩ => ?_
  unfold ObjRel at ho
  split at ho
  · exact RS.halt _
  · exact RS.halt _
  · rename_i ds ds' _
    obtain ⟨h1, h2⟩ := ho
    subst h1
    cases ds' with
    | none => exact RS.halt _
    | some ds =>
      refine (RS.setObj (l1 _ _ he) hs (q := .deferred none) (q' := .deferred none) (show (none : Option (List Deferred)) = none ∧ _ from ⟨rfl, .inr rfl⟩)).bind fun κ2 l2 _ _ _ => ?_
      exact .pure (fun h => h)
  · exact ho.elim
theorem RS.asAddr {v v' : Value} (h : VRel P ι v v') : RS P n₀ ι ARel (Go.asAddr v) (Go.asAddr v') := by
  cases h with
  | ptr h => exact .pure h
  | ptr0 => exact RS.never (fun A r A' h => runtimePanic_never (α := Addr) .nilDeref A r A' h)
  | _ => exact RS.stuck _
theorem RS.results (fn : Func) {ts ts' : Array Value} (h : Vs P ι ts ts') : RS P n₀ ι (VRel P) (Go.results fn ts) (Go.results fn ts') := by
  unfold Go.results
  have hl : ∀ (l : List ResultVar) {κ : Ren} (_ : ι.le κ), RS P n₀ κ (Vl P)
      (l.mapM fun | .tmp t => (Pure.pure (ts.getD t undef) : Sem Value) | .cell a t => do Go.loadVar t (← Go.asAddr (ts.getD a undef)))
      (l.mapM fun | .tmp t => (Pure.pure (ts'.getD t undef) : Sem Value) | .cell a t => do Go.loadVar t (← Go.asAddr (ts'.getD a undef))) := by
    intro l
    induction l with
    | nil => intro κ _; exact .pure trivial
    | cons x l ih =>
      intro κ hle
      simp only [List.mapM_cons]
      refine RS.bind (R := VRel P) ?_ fun κ1 l1 a b hab => (ih (hle.trans l1)).bind fun κ2 l2 c d hcd => .pure (⟨hab.mono l2, hcd⟩ : Vl P κ2 (a :: c) (b :: d))
      cases x with
      | tmp t => exact .pure ((h.mono hle).getD t)
      | cell a t => exact (RS.asAddr ((h.mono hle).getD a)).bind fun _ _ _ _ hh => RS.loadVar t hh
  have hv : RS P n₀ ι (Vs P) (fn.results.mapM fun | .tmp t => (Pure.pure (ts.getD t undef) : Sem Value) | .cell a t => do Go.loadVar t (← Go.asAddr (ts.getD a undef)))
      (fn.results.mapM fun | .tmp t => (Pure.pure (ts'.getD t undef) : Sem Value) | .cell a t => do Go.loadVar t (← Go.asAddr (ts'.getD a undef))) := by
    rw [Array.mapM_eq_mapM_toList, Array.mapM_eq_mapM_toList]
    have ofl : ∀ {κ : Ren} {l l' : List Value}, Vl P κ l l' → Vs P κ l.toArray l'.toArray := by
      intro κ l
      induction l with
      | nil => intro l' h; cases l' with | nil => exact .empty | cons => exact h.elim
      | cons a l ih =>
        intro l' h
        cases l' with
        | nil => exact h.elim
        | cons b l' =>
          have := ih h.2
          refine ⟨by simpa using this.1, fun i x x' hx hx' => ?_⟩
          cases i with
          | zero => simp at hx hx'; subst hx; subst hx'; exact h.1
          | succ i => exact this.2 i x x' (by simpa using hx) (by simpa using hx')
    have hmap := (hl fn.results.toList (.refl ι)).bind (k := fun a => (Pure.pure a.toArray : Sem (Array Value))) (k' := fun a => Pure.pure a.toArray) fun κ l a b hab => RS.pure (R := Vs P) (ofl hab)
    simpa using hmap
  refine hv.bind fun κ l a b hab => ?_
  by_cases h1 : a.size = 1
  · have h2 : b.size = 1 := by rw [← hab.1]; exact h1
    simp only [h1, h2, dite_true]
    exact .pure (hab.2 0 _ _ (Array.getElem?_eq_getElem (by omega)) (Array.getElem?_eq_getElem (by omega)))
  · have h2 : ¬ b.size = 1 := by rw [← hab.1]; exact h1
    simp only [h1, h2, dite_false]
    exact .pure (.tupleVs hab)
end
end Go.Abs
