/-
  ABS 17: a region that draws its order: run in the order of its text, it is met in whatever order comes.
-/
import Derived.Test.YtipomlcnmaldkaaA16
namespace Go.Abs

structure Trace where
  as : Nat → Act
  ws : Nat → World
  vs : Nat → Value

/-- May p be the first acting operation still to come when i comes up? -/
def mayAt (ops : Array Oper) (ms : List Nat) (i p : Nat) : Bool := ((effs ops).all fun e => !decide (e < p) || !bef ms e i) && !bef ms i p

/-- A value that names a new block. -/
def newVal (v : Value) (b : Nat) : Prop := v = .pointer (some ⟨b, 0, none⟩) ∨ (∃ l c, v = .slice (some ⟨b, 0, none⟩) l c) ∨ v = .map (some b)

def StepOk (P : Program) (L : Lvl) (ops : Array Oper) (T : Trace) (i : Nat) (o : Oper) : Prop :=
  T.as (i + 1) = (T.as i).put o.dst (T.vs i) ∧
  if Region.wanted o (yielded ops (T.as i).tmps) then
    match kindOf o.op with
    | .quiet => T.ws (i + 1) = T.ws i ∧ ∀ p, p ∈ effs ops ++ [ops.size] → mayAt ops (masks ops) i p = true → AOp P (T.as i).eval o (T.ws p) (.value (T.vs i)) (T.ws p)
    | .makes => ∃ obj, T.ws (i + 1) = (T.ws i).alloc obj ∧ wr obj = true ∧ newVal (T.vs i) (T.ws i).heap.size ∧
        (∀ w, w.heap.size = (T.ws i).heap.size → RegOk P w (T.as i).eval o.op ∧ (execOp (T.as i).eval o).run P w = .ok (.value (T.vs i)) (w.alloc obj)) ∧
        ∀ p, p ∈ effs ops ++ [ops.size] → i < p → mayAt ops (masks ops) i p = true → (T.ws p).heap[(T.ws i).heap.size]? = some obj
    | .acts => RunOp P L o (T.as i) (T.ws i) (T.vs i) (T.ws (i + 1))
  else T.ws (i + 1) = T.ws i ∧ T.vs i = undef

def RunDraw (P : Program) (L : Lvl) (ops : Array Oper) (a : Act) (A : World) (a' : Act) (A' : World) : Prop :=
  rck ops = true ∧ ∃ T : Trace, T.as 0 = a ∧ T.ws 0 = A ∧ T.as ops.size = a' ∧ T.ws ops.size = A' ∧ ∀ (i : Nat) (o : Oper), ops[i]? = some o → StepOk P L ops T i o

section
variable {P : Program} {n₀ : Nat} {L : Lvl} {ops : Array Oper} {T : Trace}

theorem step_size (hL : Snd P n₀ L) {i : Nat} {o : Oper} (h : StepOk P L ops T i o) : (T.ws i).heap.size ≤ (T.ws (i + 1)).heap.size := by
  obtain ⟨_, h⟩ := h
  split at h
  · split at h
    · rw [h.1]; exact Nat.le_refl _
    · obtain ⟨obj, h1, _⟩ := h; rw [h1]; simp
    · exact op_size hL h
  · rw [h.1]; exact Nat.le_refl _

/-- 'operation i makes this new block'. -/
def Mk (P : Program) (ops : Array Oper) (T : Trace) (i : Nat) (obj : Obj) : Prop :=
  ∃ o, ops[i]? = some o ∧ Region.wanted o (yielded ops (T.as i).tmps) = true ∧ kindOf o.op = .makes ∧ T.ws (i + 1) = (T.ws i).alloc obj ∧ wr obj = true ∧ newVal (T.vs i) (T.ws i).heap.size ∧
    (∀ w, w.heap.size = (T.ws i).heap.size → RegOk P w (T.as i).eval o.op ∧ (execOp (T.as i).eval o).run P w = .ok (.value (T.vs i)) (w.alloc obj)) ∧
    ∀ p, p ∈ effs ops ++ [ops.size] → i < p → mayAt ops (masks ops) i p = true → (T.ws p).heap[(T.ws i).heap.size]? = some obj

/-- 'as', place by place: what those of a set have put there, else what was there. -/
structure Puts (ops : Array Oper) (T : Trace) (S : Nat → Prop) (a : Act) : Prop where
  size : a.tmps.size = (T.as 0).tmps.size
  defers : a.defers = (T.as 0).defers
  put : ∀ i o d, S i → ops[i]? = some o → o.dst = some d → d < (T.as 0).tmps.size → a.tmps[d]? = some (T.vs i)
  keep : ∀ t, (∀ i o, S i → ops[i]? = some o → o.dst ≠ some t) → a.tmps[t]? = (T.as 0).tmps[t]?

theorem Puts.add (R : Rck ops) {S : Nat → Prop} {a : Act} (h : Puts ops T S a) {i : Nat} {o : Oper} (ho : ops[i]? = some o) (hi : ¬ S i) : Puts ops T (fun k => S k ∨ k = i) (a.put o.dst (T.vs i)) := by
  cases hd : o.dst with
  | none =>
    refine ⟨h.size, h.defers, ?_, ?_⟩
    · rintro k ok d (hk | rfl) hok hdk hlt
      · exact h.put k ok d hk hok hdk hlt
      · rw [ho] at hok; cases hok; rw [hd] at hdk; cases hdk
    · intro t ht
      exact h.keep t fun k ok hk => ht k ok (.inl hk)
  | some d =>
    refine ⟨by simp [Act.put, h.size], h.defers, ?_, ?_⟩
    · rintro k ok d' (hk | rfl) hok hdk hlt
      · have hne : d ≠ d' := fun e => R.dsts i k o ok d ho hok (fun e => hi (e ▸ hk)) hd (e ▸ hdk)
        simp only [Act.put]
        rw [Array.getElem?_setIfInBounds_ne hne]
        exact h.put k ok d' hk hok hdk hlt
      · rw [ho] at hok; cases hok; rw [hd] at hdk; cases hdk
        simp only [Act.put]
        exact Array.getElem?_setIfInBounds_self_of_lt (by rw [h.size]; exact hlt)
    · intro t ht
      have hne : d ≠ t := fun e => ht i o (.inr rfl) ho (e ▸ hd)
      simp only [Act.put]
      rw [Array.getElem?_setIfInBounds_ne hne]
      exact h.keep t fun k ok hk => ht k ok (.inl hk)
theorem Puts.text (R : Rck ops) (hT : ∀ (i : Nat) (o : Oper), ops[i]? = some o → StepOk P L ops T i o) : ∀ i, i ≤ ops.size → Puts ops T (fun k => k < i) (T.as i) := by
  intro i
  induction i with
  | zero => exact fun _ => ⟨rfl, rfl, fun k _ _ h => absurd h (Nat.not_lt_zero _), fun _ _ => rfl⟩
  | succ i ih =>
    intro hi
    have ho : ops[i]? = some ops[i] := Array.getElem?_eq_getElem (by omega)
    have := (ih (by omega)).add R ho (by omega)
    rw [(hT i _ ho).1]
    have e : (fun k => k < i + 1) = fun k => k < i ∨ k = i := by funext k; simp; omega
    rw [e]; exact this
/-- Two sets that agree on the writers of a temporary. -/
theorem Puts.agree {S S' : Nat → Prop} {a a' : Act} (h : Puts ops T S a) (h' : Puts ops T S' a') {t : Tmp} (hw : ∀ w o, ops[w]? = some o → o.dst = some t → (S w ↔ S' w)) : a.tmps[t]? = a'.tmps[t]? := by
  by_cases hlt : t < (T.as 0).tmps.size
  · by_cases hex : ∃ w o, S w ∧ ops[w]? = some o ∧ o.dst = some t
    · obtain ⟨w, o, hs, ho, hd⟩ := hex
      rw [h.put w o t hs ho hd hlt, h'.put w o t ((hw w o ho hd).1 hs) ho hd hlt]
    · rw [h.keep t (fun w o hs ho hd => hex ⟨w, o, hs, ho, hd⟩), h'.keep t (fun w o hs ho hd => hex ⟨w, o, (hw w o ho hd).2 hs, ho, hd⟩)]
  · rw [Array.getElem?_eq_none (by rw [h.size]; exact Nat.le_of_not_lt hlt), Array.getElem?_eq_none (by rw [h'.size]; exact Nat.le_of_not_lt hlt)]
theorem Puts.eval {S S' : Nat → Prop} {a a' : Act} (h : Puts ops T S a) (h' : Puts ops T S' a') {x : Operand} (hw : ∀ t, x = .tmp t → ∀ w o, ops[w]? = some o → o.dst = some t → (S w ↔ S' w)) : a.eval x = a'.eval x := by
  cases x with
  | tmp t =>
    simp only [Act.eval, Array.getD_eq_getD_getElem?]
    rw [h.agree h' (hw t rfl)]
  | _ => rfl
end
end Go.Abs
