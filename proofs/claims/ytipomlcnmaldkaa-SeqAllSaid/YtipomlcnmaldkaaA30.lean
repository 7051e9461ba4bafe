/-
  ABS 30: temporaries as a trie; one operation of the second evaluator.
-/
import Derived.Test.YtipomlcnmaldkaaA29
namespace Go.Abs

structure Rg where
  t : Tri Value
  n : Nat
structure RepA (R : Rg) (a : Act) : Prop where
  size : R.n = a.tmps.size
  get : ∀ t, t < R.n → a.tmps[t]? = some ((R.t.get t).getD undef)
  out : ∀ t, R.n ≤ t → R.t.get t = none
section
variable {R : Rg} {a : Act}

theorem RepA.at (r : RepA R a) (t : Nat) : a.tmps[t]? = if t < R.n then some ((R.t.get t).getD undef) else none := by
  split
  · exact r.get t ‹_›
  · exact Array.getElem?_eq_none (by rw [← r.size]; omega)
noncomputable def evalT (R : Rg) : Operand → Value
  | .tmp t => (R.t.get t).getD undef
  | x => ({ tmps := #[], defers := [] } : Act).eval x
theorem evalT_eq (r : RepA R a) : evalT R = a.eval := by
  funext x
  cases x with
  | tmp t =>
    simp only [evalT, Act.eval, Array.getD_eq_getD_getElem?, r.at]
    split
    · rfl
    · rw [r.out t (by omega)]
  | _ => rfl
noncomputable def Rg.set (R : Rg) (d : Option Tmp) (v : Value) : Rg := match d with
  | none => R
  | some d => if d < R.n then ⟨R.t.put (d + 1) d v, R.n⟩ else R
noncomputable def Rg.setK {β : Type} (R : Rg) (d : Option Tmp) (v : Value) (k : Rg → β) : β := match d with
  | none => k R
  | some d => match Nat.blt d R.n with
    | true => R.t.putK (d + 1) d v fun t => k ⟨t, R.n⟩
    | false => k R
theorem Rg.setK_eq {β : Type} (R : Rg) (d : Option Tmp) (v : Value) (k : Rg → β) : R.setK d v k = k (R.set d v) := by
  cases d with
  | none => rfl
  | some d =>
    simp only [setK, set]
    split
    · rename_i h; rw [Tri.putK_eq, if_pos (by simpa [Nat.blt_eq] using h)]
    · rename_i h; rw [if_neg (by intro q; rw [Nat.blt_eq.mpr q] at h; cases h)]
theorem RepA.set (r : RepA R a) (d : Option Tmp) (v : Value) : RepA (R.set d v) (a.put d v) := by
  cases d with
  | none => exact r
  | some d =>
    simp only [Rg.set, Act.put]
    split
    · rename_i h
      refine ⟨by simp [r.size], fun t ht => ?_, fun t ht => ?_⟩
      · simp only at ht ⊢
        by_cases e : t = d
        · subst e
          rw [Tri.get_put_self _ _ _ _ (Nat.lt_succ_self _), Array.getElem?_setIfInBounds_self_of_lt (by rw [← r.size]; exact h)]; rfl
        · rw [Tri.get_put_ne _ _ _ _ _ e, Array.getElem?_setIfInBounds_ne (fun q => e q.symm)]; exact r.get t ht
      · have ht' : R.n ≤ t := ht
        show (R.t.put (d + 1) d v).get t = none
        rw [Tri.get_put_ne _ _ _ _ _ (fun e => absurd (Nat.lt_of_lt_of_le h ht') (by rw [e]; exact Nat.lt_irrefl _))]; exact r.out t ht'
    · rename_i h
      have : a.tmps.setIfInBounds d v = a.tmps := Array.setIfInBounds_eq_of_size_le (by rw [← r.size]; exact Nat.le_of_not_lt h)
      rw [this]; exact r
noncomputable def Rg.arr (R : Rg) : Array Value := ⟨(List.range R.n).map fun t => (R.t.get t).getD undef⟩
theorem RepA.arr (r : RepA R a) : R.arr = a.tmps := by
  apply Array.ext_getElem?
  intro i
  rw [r.at]
  simp only [Rg.arr, List.getElem?_toArray, List.getElem?_map]
  split
  · rename_i h; rw [List.getElem?_range h]; rfl
  · rename_i h; rw [List.getElem?_eq_none (by simpa using h)]; rfl
noncomputable def yieldedT (ops : Array Oper) (R : Rg) (j : Nat) : Option Bool :=
  match ((ops[j]?).bind (·.dst)).bind (fun t => match decide (t < R.n) with | true => some ((R.t.get t).getD undef) | false => none) with
  | some (.bool b) => some b
  | _ => none
theorem yieldedT_eq (r : RepA R a) (ops : Array Oper) : yieldedT ops R = yielded ops a.tmps := by
  have e : (fun t => match decide (t < R.n) with | true => some ((R.t.get t).getD undef) | false => none) = (a.tmps[·]?) := by
    funext t
    rw [r.at]
    by_cases h : t < R.n
    · rw [decide_eq_true h, if_pos h]
    · rw [decide_eq_false h, if_neg h]
  funext j
  unfold yieldedT yielded
  rw [e]
  rfl

/-- The temporaries at a call's start. -/
noncomputable def loadK {β : Type} : List Value → Nat → Tri Value → (Tri Value → β) → β
  | [], _, t, k => k t
  | x :: xs, i, t, k => forceV 4 x fun x => t.putK (i + 1) i x fun t => loadK xs (i + 1) t k
noncomputable def load : List Value → Nat → Tri Value → Tri Value
  | [], _, t => t
  | x :: xs, i, t => load xs (i + 1) (t.put (i + 1) i x)
theorem loadK_eq {β : Type} : ∀ (xs : List Value) (i : Nat) (t : Tri Value) (k : Tri Value → β), loadK xs i t k = k (load xs i t)
  | [], _, _, _ => rfl
  | x :: xs, i, t, k => by simp only [loadK, forceV_eq, Tri.putK_eq, load]; exact loadK_eq xs _ _ _
theorem load_get : ∀ (xs : List Value) (i : Nat) (t : Tri Value) (j : Nat), (load xs i t).get j = if i ≤ j ∧ j < i + xs.length then xs[j - i]? else t.get j
  | [], i, t, j => by simp [load]; omega
  | x :: xs, i, t, j => by
    simp only [load]
    rw [load_get xs]
    by_cases h1 : j = i
    · subst h1
      rw [if_neg (by omega), Tri.get_put_self _ _ _ _ (Nat.lt_succ_self _), if_pos (by simp)]; simp
    · rw [Tri.get_put_ne _ _ _ _ _ h1]
      by_cases h2 : i + 1 ≤ j ∧ j < i + 1 + xs.length
      · rw [if_pos h2, if_pos (by simp; omega), show j - i = (j - (i + 1)) + 1 from by omega]; simp
      · rw [if_neg h2, if_neg (by simp; omega)]
theorem RepA.start (xs : Array Value) (m : Nat) : RepA ⟨load xs.toList 0 .leaf, xs.size + (m - xs.size)⟩ { tmps := xs ++ Array.replicate (m - xs.size) undef, defers := [] } := by
  refine ⟨by simp, fun t ht => ?_, fun t ht => ?_⟩
  · simp only at ht ⊢
    rw [load_get, Array.getElem?_append]
    by_cases h : t < xs.size
    · rw [if_pos h, if_pos (by simp; omega)]; simp [h]
    · rw [if_neg h, if_neg (by simp; omega), Tri.get_leaf, Array.getElem?_replicate, if_pos (by omega)]; rfl
  · simp only at ht ⊢
    rw [load_get, if_neg (by simp; omega), Tri.get_leaf]
end
end Go.Abs
