/-
  ABS 16: a region that draws its order: what is checked of its text.
-/
import Derived.Test.YtipomlcnmaldkaaA15
namespace Go.Abs

/-- What an operation may do, by its form. -/
inductive Kind where
  | quiet | makes | acts
  deriving DecidableEq
def kindOf : Op → Kind
  | .move _ | .assign _ | .pick .. | .build .. | .load .. | .nilCheck _ | .binOp .. | .unOp .. | .convert .. | .slice .. | .fieldAddr .. | .field .. | .indexAddr .. | .index .. | .makeFunc .. | .extract .. | .lookup .. => .quiet
  | .alloc _ | .box .. | .buildSlice .. | .makeSlice .. | .makeMap .. => .makes
  | .call c => match c.callee with
    | .builtin .len | .builtin .min | .builtin .max | .builtin .cap => .quiet
    | _ => .acts
  | _ => .acts

def maskOf (acc : List Nat) (o : Oper) : Nat := o.after.toList.foldl (fun s e => if Region.binds .any e then s ||| 2 ^ e.on ||| acc.getD e.on 0 else s) 0
def masksFrom : List Oper → List Nat → List Nat
  | [], acc => acc
  | o :: os, acc => masksFrom os (acc ++ [maskOf acc o])
/-- Of each operation, all that stand ahead of it in every order. -/
def masks (ops : Array Oper) : List Nat := masksFrom ops.toList []

theorem masksFrom_spec : ∀ (os : List Oper) (acc : List Nat), (masksFrom os acc).length = acc.length + os.length ∧ (∀ i, i < acc.length → (masksFrom os acc)[i]? = acc[i]?) ∧
    ∀ i o, os[i]? = some o → (masksFrom os acc)[acc.length + i]? = some (maskOf ((masksFrom os acc).take (acc.length + i)) o)
  | [], acc => ⟨rfl, fun _ _ => rfl, fun i o h => by simp at h⟩
  | p :: os, acc => by
    obtain ⟨h1, h2, h3⟩ := masksFrom_spec os (acc ++ [maskOf acc p])
    simp only [List.length_append, List.length_cons, List.length_nil] at h1 h2 h3
    refine ⟨by simp only [masksFrom, List.length_cons]; omega, fun i hi => ?_, fun i o ho => ?_⟩
    · simp only [masksFrom]
      rw [h2 i (by omega), List.getElem?_append_left hi]
    · simp only [masksFrom]
      cases i with
      | zero =>
        simp at ho; subst ho
        rw [Nat.add_zero, h2 _ (by omega), List.getElem?_append_right (Nat.le_refl _)]
        have ht : (masksFrom os (acc ++ [maskOf acc p])).take acc.length = acc := by
          apply List.ext_getElem?
          intro j
          rw [List.getElem?_take]
          split
          · rename_i hj; rw [h2 j (by omega), List.getElem?_append_left hj]
          · rename_i hj; simp; omega
        rw [ht]; simp
      | succ i =>
        have := h3 i o (by simpa using ho)
        rw [show acc.length + (i + 1) = acc.length + (0 + 1) + i from by omega]
        exact this

theorem maskOf_bit {acc : List Nat} {o : Oper} {k : Nat} (h : (maskOf acc o).testBit k = true) : ∃ e ∈ o.after.toList, Region.binds .any e = true ∧ (k = e.on ∨ (acc.getD e.on 0).testBit k = true) := by
  unfold maskOf at h
  have key : ∀ (l : List Edge) (s : Nat), (l.foldl (fun s e => if Region.binds .any e then s ||| 2 ^ e.on ||| acc.getD e.on 0 else s) s).testBit k = true → s.testBit k = true ∨ ∃ e ∈ l, Region.binds .any e = true ∧ (k = e.on ∨ (acc.getD e.on 0).testBit k = true) := by
    intro l
    induction l with
    | nil => intro s h; exact .inl h
    | cons e l ih =>
      intro s h
      simp only [List.foldl_cons] at h
      rcases ih _ h with h1 | ⟨e', h1, h2⟩
      · split at h1
        · rename_i hb
          simp only [Nat.testBit_or, Bool.or_eq_true, Nat.testBit_two_pow, decide_eq_true_eq] at h1
          rcases h1 with (h1 | h1) | h1
          · exact .inl h1
          · exact .inr ⟨e, by simp, hb, .inl h1.symm⟩
          · exact .inr ⟨e, by simp, hb, .inr h1⟩
        · exact .inl h1
      · exact .inr ⟨e', by simp [h1], h2⟩
  rcases key _ _ h with h | h
  · simp at h
  · exact h

/-- k stands ahead of i in every order. -/
def bef (ms : List Nat) (i k : Nat) : Bool := (ms.getD i 0).testBit k
theorem bef_step {ops : Array Oper} {i k : Nat} {o : Oper} (ho : ops[i]? = some o) (h : bef (masks ops) i k = true) : ∃ e ∈ o.after.toList, Region.binds .any e = true ∧ (k = e.on ∨ (e.on < i ∧ bef (masks ops) e.on k = true)) := by
  obtain ⟨h1, _, h3⟩ := masksFrom_spec ops.toList []
  have := h3 i o (by simpa using ho)
  simp only [List.length_nil, Nat.zero_add] at this
  unfold bef at h
  rw [List.getD_eq_getElem?_getD, show (masks ops)[i]? = _ from this, Option.getD_some] at h
  obtain ⟨e, he, hb, hk⟩ := maskOf_bit h
  refine ⟨e, he, hb, hk.imp id fun hk => ?_⟩
  rw [List.getD_eq_getElem?_getD, List.getElem?_take] at hk
  by_cases hlt : e.on < i
  · rw [if_pos hlt] at hk
    exact ⟨hlt, by unfold bef; rw [List.getD_eq_getElem?_getD]; exact hk⟩
  · rw [if_neg hlt] at hk; simp at hk

def opAt (ops : Array Oper) (i : Nat) : Oper := ops.getD i default
def isActs (o : Oper) : Bool := match kindOf o.op with | .acts => true | _ => false
def actsFrom : List Oper → Nat → List Nat
  | [], _ => []
  | o :: os, k => match isActs o with
    | true => k :: actsFrom os (k + 1)
    | false => actsFrom os (k + 1)
def effs (ops : Array Oper) : List Nat := actsFrom ops.toList 0
theorem mem_actsFrom : ∀ {os : List Oper} {k i : Nat}, i ∈ actsFrom os k ↔ ∃ j o, os[j]? = some o ∧ isActs o = true ∧ i = k + j
  | [], k, i => by simp [actsFrom]
  | o :: os, k, i => by
    have ih := mem_actsFrom (os := os) (k := k + 1) (i := i)
    have key : (∃ j p, os[j]? = some p ∧ isActs p = true ∧ i = k + 1 + j) ↔ ∃ j p, (o :: os)[j + 1]? = some p ∧ isActs p = true ∧ i = k + (j + 1) := by
      constructor
      · rintro ⟨j, p, h1, h2, h3⟩; exact ⟨j, p, by simpa using h1, h2, by omega⟩
      · rintro ⟨j, p, h1, h2, h3⟩; exact ⟨j, p, by simpa using h1, h2, by omega⟩
    simp only [actsFrom]
    split
    · rename_i ha
      rw [List.mem_cons, ih, key]
      constructor
      · rintro (h | ⟨j, p, h⟩)
        · exact ⟨0, o, rfl, ha, h⟩
        · exact ⟨j + 1, p, h⟩
      · rintro ⟨j, p, h1, h2, h3⟩
        cases j with
        | zero => exact .inl h3
        | succ j => exact .inr ⟨j, p, h1, h2, h3⟩
    · rename_i ha
      rw [ih, key]
      constructor
      · rintro ⟨j, p, h⟩; exact ⟨j + 1, p, h⟩
      · rintro ⟨j, p, h1, h2, h3⟩
        cases j with
        | zero => cases h1; rw [ha] at h2; cases h2
        | succ j => exact ⟨j, p, h1, h2, h3⟩
/-- The temporaries that an operation looks at. -/
def looks (ops : Array Oper) (o : Oper) : List Tmp :=
  (o.op.operands.toList.filterMap fun | .tmp t => some t | _ => none) ++ (match o.guard with | some (g, _) => ((ops[g]?).bind (·.dst)).toList | none => [])
/-- The first of these that writes d, from k on. -/
def writerOf : List Oper → Nat → Tmp → Option Nat
  | [], _, _ => none
  | o :: os, k, d => match o.dst with
    | none => writerOf os (k + 1) d
    | some e => match Nat.beq e d with
      | true => some k
      | false => writerOf os (k + 1) d
def lone : List Oper → Bool
  | [] => true
  | o :: os => (match o.dst with | none => true | some d => (match writerOf os 0 d with | none => true | some _ => false)) && lone os
def namesOk (ops : Array Oper) (ms : List Nat) : List Oper → Nat → Bool
  | [], _ => true
  | o :: os, i => ((looks ops o).all fun d => match writerOf ops.toList 0 d with
      | none => true
      | some w => Nat.beq w i || (match Nat.blt w i with | true => bef ms i w | false => bef ms w i)) && namesOk ops ms os (i + 1)
def backOk : List Oper → Nat → Bool
  | [], _ => true
  | o :: os, i => (o.after.toList.all fun e => !Region.binds .any e || Nat.blt e.on i) && backOk os (i + 1)
def rck (ops : Array Oper) : Bool :=
  let ms := masks ops
  backOk ops.toList 0 &&
  ((effs ops).all fun i => (effs ops).all fun k => !Nat.blt k i || bef ms i k) &&
  lone ops.toList && namesOk ops ms ops.toList 0
theorem writerOf_none : ∀ {os : List Oper} {k : Nat} {d : Tmp}, writerOf os k d = none → ∀ (j : Nat) (o : Oper), os[j]? = some o → o.dst ≠ some d
  | [], _, _, _, j, o, h => by simp at h
  | p :: os, k, d, h, j, o, ho => by
    simp only [writerOf] at h
    split at h
    · rename_i hd
      cases j with
      | zero => cases ho; rw [hd]; intro e; cases e
      | succ j => exact writerOf_none h j o (by simpa using ho)
    · rename_i e hd
      split at h
      · cases h
      · rename_i hne
        cases j with
        | zero => cases ho; rw [hd]; intro e'; cases e'; rw [Nat.beq_refl] at hne; cases hne
        | succ j => exact writerOf_none h j o (by simpa using ho)
theorem writerOf_some : ∀ {os : List Oper} {k : Nat} {d : Tmp} {w : Nat}, writerOf os k d = some w → ∃ j o, os[j]? = some o ∧ o.dst = some d ∧ w = k + j
  | [], _, _, _, h => by simp [writerOf] at h
  | p :: os, k, d, w, h => by
    simp only [writerOf] at h
    split at h
    · obtain ⟨j, o, h1, h2, h3⟩ := writerOf_some h
      exact ⟨j + 1, o, by simpa using h1, h2, by omega⟩
    · rename_i e hd
      split at h
      · rename_i he
        cases h
        exact ⟨0, p, rfl, by rw [hd, Nat.eq_of_beq_eq_true he], rfl⟩
      · obtain ⟨j, o, h1, h2, h3⟩ := writerOf_some h
        exact ⟨j + 1, o, by simpa using h1, h2, by omega⟩
theorem lone_spec : ∀ {os : List Oper}, lone os = true → ∀ (w i : Nat) (ow oi : Oper) (d : Tmp), os[w]? = some ow → os[i]? = some oi → w < i → ow.dst = some d → oi.dst ≠ some d
  | [], _, w, _, _, _, _, h, _, _, _ => by simp at h
  | p :: os, h, w, i, ow, oi, d, hw, hi, hlt, hd => by
    simp only [lone, Bool.and_eq_true] at h
    cases i with
    | zero => omega
    | succ i =>
      cases w with
      | zero =>
        cases hw
        have h1 := h.1
        rw [hd] at h1
        simp only at h1
        split at h1
        · rename_i hn; exact writerOf_none hn i oi (by simpa using hi)
        · cases h1
      | succ w => exact lone_spec h.2 w i ow oi d (by simpa using hw) (by simpa using hi) (by omega) hd
theorem namesOk_spec {ops : Array Oper} {ms : List Nat} : ∀ {os : List Oper} {k : Nat}, namesOk ops ms os k = true → ∀ (i : Nat) (o : Oper), os[i]? = some o → ∀ d ∈ looks ops o, ∀ w, writerOf ops.toList 0 d = some w → w = k + i ∨ (if w < k + i then bef ms (k + i) w else bef ms w (k + i)) = true
  | [], _, _, i, o, h => by simp at h
  | p :: os, k, h, i, o, ho => by
    simp only [namesOk, Bool.and_eq_true] at h
    cases i with
    | zero =>
      cases ho
      intro d hd w hw
      have h1 := h.1
      rw [List.all_eq_true] at h1
      have := h1 d hd
      rw [hw] at this
      simp only [Bool.or_eq_true] at this
      rcases this with h2 | h2
      · exact .inl (Nat.eq_of_beq_eq_true h2)
      · right
        split at h2
        · rename_i hb
          rw [if_pos (by simpa [Nat.blt_eq] using hb)]; exact h2
        · rename_i hb
          rw [if_neg (by intro hc; rw [Nat.blt_eq.mpr (by simpa using hc)] at hb; cases hb)]; exact h2
    | succ i =>
      have := namesOk_spec h.2 i o (by simpa using ho)
      rwa [show k + 1 + i = k + (i + 1) from by omega] at this
theorem backOk_spec : ∀ {os : List Oper} {k : Nat}, backOk os k = true → ∀ (i : Nat) (o : Oper), os[i]? = some o → ∀ e ∈ o.after, Region.binds .any e = true → e.on < k + i
  | [], _, _, i, o, h => by simp at h
  | p :: os, k, h, i, o, ho => by
    simp only [backOk, Bool.and_eq_true] at h
    cases i with
    | zero =>
      cases ho
      intro e he hb
      have h1 := h.1
      rw [List.all_eq_true] at h1
      have := h1 e (by simpa using he)
      rw [hb] at this
      simpa [Nat.blt_eq] using this
    | succ i =>
      have := backOk_spec h.2 i o (by simpa using ho)
      rwa [show k + 1 + i = k + (i + 1) from by omega] at this

structure Rck (ops : Array Oper) : Prop where
  back : ∀ (i : Nat) (o : Oper), ops[i]? = some o → ∀ e ∈ o.after, Region.binds .any e = true → e.on < i
  chain : ∀ (i k : Nat) (oi ok : Oper), ops[i]? = some oi → ops[k]? = some ok → kindOf oi.op = .acts → kindOf ok.op = .acts → k < i → bef (masks ops) i k = true
  dsts : ∀ (w i : Nat) (ow oi : Oper) (d : Tmp), ops[w]? = some ow → ops[i]? = some oi → w ≠ i → ow.dst = some d → oi.dst ≠ some d
  names : ∀ (w i : Nat) (ow oi : Oper) (d : Tmp), ops[w]? = some ow → ops[i]? = some oi → ow.dst = some d → d ∈ looks ops oi → (w < i → bef (masks ops) i w = true) ∧ (i < w → bef (masks ops) w i = true)
theorem opAt_eq {ops : Array Oper} {i : Nat} {o : Oper} (h : ops[i]? = some o) : opAt ops i = o := by
  unfold opAt; rw [Array.getD_eq_getD_getElem?, h]; rfl
theorem lt_of_at {ops : Array Oper} {i : Nat} {o : Oper} (h : ops[i]? = some o) : i < ops.size := (Array.getElem?_eq_some_iff.1 h).1
theorem isActs_iff {o : Oper} : isActs o = true ↔ kindOf o.op = .acts := by
  unfold isActs
  cases kindOf o.op <;> simp
theorem mem_effs {ops : Array Oper} {i : Nat} : i ∈ effs ops ↔ ∃ o, ops[i]? = some o ∧ kindOf o.op = .acts := by
  unfold effs
  rw [mem_actsFrom]
  constructor
  · rintro ⟨j, o, h1, h2, h3⟩
    have : i = j := by omega
    subst this
    exact ⟨o, by simpa using h1, isActs_iff.1 h2⟩
  · rintro ⟨o, h1, h2⟩
    exact ⟨i, o, by simpa using h1, isActs_iff.2 h2, by omega⟩
theorem Rck.of {ops : Array Oper} (h : rck ops = true) : Rck ops := by
  unfold rck at h
  simp only [Bool.and_eq_true] at h
  obtain ⟨⟨⟨h1, h2⟩, h3⟩, h4⟩ := h
  have hdst : ∀ (w i : Nat) (ow oi : Oper) (d : Tmp), ops[w]? = some ow → ops[i]? = some oi → w ≠ i → ow.dst = some d → oi.dst ≠ some d := by
    intro w i ow oi d hw hi hne hd
    rcases Nat.lt_or_gt_of_ne hne with hlt | hgt
    · exact lone_spec h3 w i ow oi d (by simpa using hw) (by simpa using hi) hlt hd
    · intro hd'
      exact lone_spec h3 i w oi ow d (by simpa using hi) (by simpa using hw) hgt hd' hd
  refine ⟨?_, ?_, hdst, ?_⟩
  · intro i o ho e he hb
    have := backOk_spec h1 i o (by simpa using ho) e he hb
    omega
  · intro i k oi ok hi hk ai ak hlt
    rw [List.all_eq_true] at h2
    have h2' := h2 i (mem_effs.2 ⟨_, hi, ai⟩)
    rw [List.all_eq_true] at h2'
    have := h2' k (mem_effs.2 ⟨_, hk, ak⟩)
    rw [Nat.blt_eq.mpr hlt] at this
    simpa using this
  · intro w i ow oi d hw hi hd hl
    have hw' : writerOf ops.toList 0 d = some w := by
      cases hc : writerOf ops.toList 0 d with
      | none => exact absurd hd (writerOf_none hc w ow (by simpa using hw))
      | some w' =>
        obtain ⟨j, o, q1, q2, q3⟩ := writerOf_some hc
        have q1' : ops[j]? = some o := by simpa using q1
        have : j = w := Classical.byContradiction fun hne => hdst j w o ow d q1' hw hne q2 hd
        subst this
        rw [q3]; simp
    have := namesOk_spec h4 i oi (by simpa using hi) d hl w hw'
    rw [Nat.zero_add] at this
    constructor
    · intro hlt
      rcases this with h | h
      · omega
      · rw [if_pos hlt] at h; exact h
    · intro hlt
      rcases this with h | h
      · omega
      · rw [if_neg (by omega)] at h; exact h
end Go.Abs
