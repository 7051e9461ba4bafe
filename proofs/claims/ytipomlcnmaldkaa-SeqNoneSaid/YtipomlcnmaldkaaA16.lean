/-
  ABS 16: a region that draws its order: what is checked of its text.
-/
import Derived.Test.YtipomlcnmaldkaaA15
namespace Go.Abs

/-- What an operation may do, by its form. -/
inductive Kind where
  | quiet | makes | acts
  deriving DecidableEq
def kindOf : Op → Kind
  | .move _ | .assign _ | .pick .. | .build .. | .load .. | .nilCheck _ | .binOp .. | .unOp .. | .convert .. | .slice .. | .fieldAddr .. | .field .. | .indexAddr .. | .index .. | .makeFunc .. | .extract .. | .lookup .. => .quiet
  | .alloc _ | .box .. | .buildSlice .. | .makeSlice .. | .makeMap .. => .makes
  | .call c => match c.callee with
    | .builtin .len | .builtin .min | .builtin .max | .builtin .cap => .quiet
    | _ => .acts
  | _ => .acts

def maskOf (acc : List Nat) (o : Oper) : Nat := o.after.toList.foldl (fun s e => if Region.binds .any e then s ||| 2 ^ e.on ||| acc.getD e.on 0 else s) 0
def masksFrom : List Oper → List Nat → List Nat
  | [], acc => acc
  | o :: os, acc => masksFrom os (acc ++ [maskOf acc o])
/-- Of each operation, all that stand ahead of it in every order. -/
def masks (ops : Array Oper) : List Nat := masksFrom ops.toList []

theorem masksFrom_spec : ∀ (os : List Oper) (acc : List Nat), (masksFrom os acc).length = acc.length + os.length ∧ (∀ i, i < acc.length → (masksFrom os acc)[i]? = acc[i]?) ∧
    ∀ i o, os[i]? = some o → (masksFrom os acc)[acc.length + i]? = some (maskOf ((masksFrom os acc).take (acc.length + i)) o)
  | [], acc => ⟨rfl, fun _ _ => rfl, fun i o h => by simp at h⟩
  | p :: os, acc => by
    obtain ⟨h1, h2, h3⟩ := masksFrom_spec os (acc ++ [maskOf acc p])
    simp only [List.length_append, List.length_cons, List.length_nil] at h1 h2 h3
    refine ⟨by simp only [masksFrom, List.length_cons]; omega, fun i hi => ?_, fun i o ho => ?_⟩
    · simp only [masksFrom]
      rw [h2 i (by omega), List.getElem?_append_left hi]
    · simp only [masksFrom]
      cases i with
      | zero =>
        simp at ho; subst ho
        rw [Nat.add_zero, h2 _ (by omega), List.getElem?_append_right (Nat.le_refl _)]
        have ht : (masksFrom os (acc ++ [maskOf acc p])).take acc.length = acc := by
          apply List.ext_getElem?
          intro j
          rw [List.getElem?_take]
          split
          · rename_i hj; rw [h2 j (by omega), List.getElem?_append_left hj]
          · rename_i hj; simp; omega
        rw [ht]; simp
      | succ i =>
        have := h3 i o (by simpa using ho)
        rw [show acc.length + (i + 1) = acc.length + (0 + 1) + i from by omega]
        exact this

theorem maskOf_bit {acc : List Nat} {o : Oper} {k : Nat} (h : (maskOf acc o).testBit k = true) : ∃ e ∈ o.after.toList, Region.binds .any e = true ∧ (k = e.on ∨ (acc.getD e.on 0).testBit k = true) := by
  unfold maskOf at h
  have key : ∀ (l : List Edge) (s : Nat), (l.foldl (fun s e => if Region.binds .any e then s ||| 2 ^ e.on ||| acc.getD e.on 0 else s) s).testBit k = true → s.testBit k = true ∨ ∃ e ∈ l, Region.binds .any e = true ∧ (k = e.on ∨ (acc.getD e.on 0).testBit k = true) := by
    intro l
    induction l with
    | nil => intro s h; exact .inl h
    | cons e l ih =>
      intro s h
      simp only [List.foldl_cons] at h
      rcases ih _ h with h1 | ⟨e', h1, h2⟩
      · split at h1
        · rename_i hb
          simp only [Nat.testBit_or, Bool.or_eq_true, Nat.testBit_two_pow, decide_eq_true_eq] at h1
          rcases h1 with (h1 | h1) | h1
          · exact .inl h1
          · exact .inr ⟨e, by simp, hb, .inl h1.symm⟩
          · exact .inr ⟨e, by simp, hb, .inr h1⟩
        · exact .inl h1
      · exact .inr ⟨e', by simp [h1], h2⟩
  rcases key _ _ h with h | h
  · simp at h
  · exact h

/-- k stands ahead of i in every order. -/
def bef (ms : List Nat) (i k : Nat) : Bool := (ms.getD i 0).testBit k
theorem bef_step {ops : Array Oper} {i k : Nat} {o : Oper} (ho : ops[i]? = some o) (h : bef (masks ops) i k = true) : ∃ e ∈ o.after.toList, Region.binds .any e = true ∧ (k = e.on ∨ (e.on < i ∧ bef (masks ops) e.on k = true)) := by
  obtain ⟨h1, _, h3⟩ := masksFrom_spec ops.toList []
  have := h3 i o (by simpa using ho)
  simp only [List.length_nil, Nat.zero_add] at this
  unfold bef at h
  rw [List.getD_eq_getElem?_getD, show (masks ops)[i]? = _ from this, Option.getD_some] at h
  obtain ⟨e, he, hb, hk⟩ := maskOf_bit h
  refine ⟨e, he, hb, hk.imp id fun hk => ?_⟩
  rw [List.getD_eq_getElem?_getD, List.getElem?_take] at hk
  by_cases hlt : e.on < i
  · rw [if_pos hlt] at hk
    exact ⟨hlt, by unfold bef; rw [List.getD_eq_getElem?_getD]; exact hk⟩
  · rw [if_neg hlt] at hk; simp at hk

def opAt (ops : Array Oper) (i : Nat) : Oper := ops.getD i default
def effs (ops : Array Oper) : List Nat := (List.range ops.size).filter fun i => kindOf (opAt ops i).op == .acts
/-- The temporaries that an operation looks at. -/
def looks (ops : Array Oper) (o : Oper) : List Tmp :=
  (o.op.operands.toList.filterMap fun | .tmp t => some t | _ => none) ++ (match o.guard with | some (g, _) => ((ops[g]?).bind (·.dst)).toList | none => [])
def rck (ops : Array Oper) : Bool :=
  let ms := masks ops
  let is := List.range ops.size
  (is.all fun i => (opAt ops i).after.toList.all fun e => !Region.binds .any e || decide (e.on < i)) &&
  ((effs ops).all fun i => (effs ops).all fun k => !decide (k < i) || bef ms i k) &&
  (is.all fun w => match (opAt ops w).dst with
    | none => true
    | some d => is.all fun i => i == w || ((opAt ops i).dst != some d && (!(looks ops (opAt ops i)).contains d || (if w < i then bef ms i w else bef ms w i))))

structure Rck (ops : Array Oper) : Prop where
  back : ∀ (i : Nat) (o : Oper), ops[i]? = some o → ∀ e ∈ o.after, Region.binds .any e = true → e.on < i
  chain : ∀ (i k : Nat) (oi ok : Oper), ops[i]? = some oi → ops[k]? = some ok → kindOf oi.op = .acts → kindOf ok.op = .acts → k < i → bef (masks ops) i k = true
  dsts : ∀ (w i : Nat) (ow oi : Oper) (d : Tmp), ops[w]? = some ow → ops[i]? = some oi → w ≠ i → ow.dst = some d → oi.dst ≠ some d
  names : ∀ (w i : Nat) (ow oi : Oper) (d : Tmp), ops[w]? = some ow → ops[i]? = some oi → ow.dst = some d → d ∈ looks ops oi → (w < i → bef (masks ops) i w = true) ∧ (i < w → bef (masks ops) w i = true)
theorem opAt_eq {ops : Array Oper} {i : Nat} {o : Oper} (h : ops[i]? = some o) : opAt ops i = o := by
  unfold opAt; rw [Array.getD_eq_getD_getElem?, h]; rfl
theorem lt_of_at {ops : Array Oper} {i : Nat} {o : Oper} (h : ops[i]? = some o) : i < ops.size := (Array.getElem?_eq_some_iff.1 h).1
theorem mem_effs {ops : Array Oper} {i : Nat} : i ∈ effs ops ↔ ∃ o, ops[i]? = some o ∧ kindOf o.op = .acts := by
  unfold effs
  rw [List.mem_filter, List.mem_range]
  constructor
  · rintro ⟨h1, h2⟩
    refine ⟨ops[i], Array.getElem?_eq_getElem h1, ?_⟩
    rw [opAt_eq (Array.getElem?_eq_getElem h1)] at h2
    simpa using h2
  · rintro ⟨o, h1, h2⟩
    exact ⟨lt_of_at h1, by rw [opAt_eq h1, h2]; rfl⟩
theorem Rck.of {ops : Array Oper} (h : rck ops = true) : Rck ops := by
  unfold rck at h
  simp only [Bool.and_eq_true, List.all_eq_true, List.mem_range] at h
  obtain ⟨⟨h1, h2⟩, h3⟩ := h
  refine ⟨?_, ?_, ?_, ?_⟩
  · intro i o ho e he hb
    have := h1 i (lt_of_at ho)
    rw [opAt_eq ho] at this
    have := this e (by simpa using he)
    simpa [hb] using this
  · intro i k oi ok hi hk ai ak hlt
    have := h2 i (mem_effs.2 ⟨_, hi, ai⟩) k (mem_effs.2 ⟨_, hk, ak⟩)
    simpa [hlt] using this
  · intro w i ow oi d hw hi hne hd
    have := h3 w (lt_of_at hw)
    rw [opAt_eq hw, hd] at this
    simp only [List.all_eq_true, List.mem_range] at this
    have := this i (lt_of_at hi)
    rw [opAt_eq hi] at this
    simp only [Bool.or_eq_true, Bool.and_eq_true, beq_iff_eq, bne_iff_ne] at this
    rcases this with h | h
    · exact absurd h.symm hne
    · exact h.1
  · intro w i ow oi d hw hi hd hl
    have := h3 w (lt_of_at hw)
    rw [opAt_eq hw, hd] at this
    simp only [List.all_eq_true, List.mem_range] at this
    have := this i (lt_of_at hi)
    rw [opAt_eq hi] at this
    simp only [Bool.or_eq_true, Bool.and_eq_true, beq_iff_eq, bne_iff_ne, Bool.not_eq_true', List.contains_eq_mem, decide_eq_false_iff_not] at this
    rcases this with h | ⟨_, h | h⟩
    · omega
    · exact absurd hl h
    · constructor
      · intro hlt; rw [if_pos hlt] at h; exact h
      · intro hlt; rw [if_neg (by omega)] at h; exact h
end Go.Abs
