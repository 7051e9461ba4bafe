/-
  ABS 21: deeper levels know more; a run of the canonical world, and what it says of the machine.
-/
import Derived.Test.YtipomlcnmaldkaaA20
namespace Go.Abs
section
variable {P : Program}

structure Lvl.le (L M : Lvl) : Prop where
  calls : ∀ f xs A v A', L.calls f xs A v A' → M.calls f xs A v A'
  rounds : ∀ l ts as bd A v A', L.rounds l ts as bd A v A' → M.rounds l ts as bd A v A'
  codes : ∀ ro c a A e a' A', L.codes ro c a A e a' A' → M.codes ro c a A e a' A'
  loops : ∀ ro c a A e a' A', L.loops ro c a A e a' A' → M.loops ro c a A e a' A'

variable {L M : Lvl}
theorem RunOp.mono (h : L.le M) {o : Oper} {a : Act} {A A' : World} {v : Value} (r : RunOp P L o a A v A') : RunOp P M o a A v A' := by
  obtain ⟨nx, A1, h1, h2⟩ := r
  refine ⟨nx, A1, h1, ?_⟩
  cases nx <;> simp only at h2 ⊢ <;> first | exact h2 | exact h.calls _ _ _ _ _ h2 | exact h.rounds _ _ _ _ _ _ _ h2
theorem RunOps.mono (h : L.le M) {ops : Array Oper} : ∀ (l : List Nat) {a a' : Act} {A A' : World}, RunOps P L ops l a A a' A' → RunOps P M ops l a A a' A'
  | [], _, _, _, _, r => r
  | i :: rest, a, a', A, A', r => by
    simp only [RunOps] at r ⊢
    split
    · rename_i ho; rw [ho] at r; exact RunOps.mono h rest r
    · rename_i o ho
      rw [ho] at r
      simp only at r
      split
      · rename_i hw
        rw [if_pos hw] at r
        obtain ⟨v, A1, h1, h2⟩ := r
        exact ⟨v, A1, h1.mono h, RunOps.mono h rest h2⟩
      · rename_i hw
        rw [if_neg hw] at r
        exact RunOps.mono h rest r
theorem RunDraw.mono (h : L.le M) {ops : Array Oper} {a a' : Act} {A A' : World} (r : RunDraw P L ops a A a' A') : RunDraw P M ops a A a' A' := by
  obtain ⟨hr, T, h1, h2, h3, h4, h5⟩ := r
  refine ⟨hr, T, h1, h2, h3, h4, fun i o ho => ?_⟩
  obtain ⟨q1, q2⟩ := h5 i o ho
  refine ⟨q1, ?_⟩
  split
  · rename_i hw
    rw [if_pos hw] at q2
    split
    · rename_i hk; rw [hk] at q2; exact q2
    · rename_i hk; rw [hk] at q2; exact q2
    · rename_i hk; rw [hk] at q2; exact q2.mono h
  · rename_i hw
    rw [if_neg hw] at q2
    exact q2
theorem thenStep.mono {R R' : Act → World → Exit → Act → World → Prop} (h : ∀ a A e a' A', R a A e a' A' → R' a A e a' A') {e1 e : Exit} {a1 a' : Act} {A1 A' : World} (r : thenStep e1 a1 A1 R e a' A') : thenStep e1 a1 A1 R' e a' A' := by
  cases e1 <;> first | exact h _ _ _ _ _ r | exact r
theorem Lv_le : ∀ n, (Lv P n).le (Lv P (n + 1))
  | 0 => ⟨fun _ _ _ _ _ h => h.elim, fun _ _ _ _ _ _ _ h => h.elim, fun _ _ _ _ _ _ _ h => h.elim, fun _ _ _ _ _ _ _ h => h.elim⟩
  | n + 1 => by
    have h := Lv_le n
    refine ⟨?_, ?_, ?_, ?_⟩
    · rintro f xs A v A' ⟨fn, c, e, a1, A1, h1, h2, h3, h4⟩
      exact ⟨fn, c, e, a1, A1, h1, h2, h.codes _ _ _ _ _ _ _ h3, h4⟩
    · rintro l ts as bd A v A' ⟨a1, A1, A2, e, a3, A3, j, h1, h2, h3, h4⟩
      exact ⟨a1, A1, A2, e, a3, A3, j, h.codes _ _ _ _ _ _ _ h1, h2, h.codes _ _ _ _ _ _ _ h3, h4⟩
    · intro ro c a A e a' A' r
      cases c with
      | seq x y =>
        obtain ⟨e1, a1, A1, h1, h2⟩ := r
        exact ⟨e1, a1, A1, h.codes _ _ _ _ _ _ _ h1, h2.mono fun _ _ _ _ _ q => h.codes _ _ _ _ _ _ _ q⟩
      | cond c x y =>
        obtain ⟨b, h1, h2⟩ := r
        exact ⟨b, h1, h.codes _ _ _ _ _ _ _ h2⟩
      | block id x =>
        obtain ⟨e1, h1, h2⟩ := r
        exact ⟨e1, h.codes _ _ _ _ _ _ _ h1, h2⟩
      | loop x => exact h.loops _ _ _ _ _ _ _ r
      | region id ops draw =>
        cases draw with
        | false => exact ⟨r.1, r.2.mono h⟩
        | true => exact ⟨r.1, r.2.mono h⟩
      | rangeFunc g ps as bd =>
        obtain ⟨l, mark, A1, f, first, cap, fn, code, v, A2, jump, A3, h1, h2, h3, h4, h5, h6, h7, h8⟩ := r
        refine ⟨l, mark, A1, f, first, cap, fn, code, v, A2, jump, A3, h1, h2, h3, h4, h5, h.calls _ _ _ _ _ h6, h7, ?_⟩
        cases jump with
        | none => exact h8
        | some c => exact h.codes _ _ _ _ _ _ _ h8
      | _ => exact r
    · rintro ro c a A e a' A' ⟨e1, a1, A1, h1, h2⟩
      exact ⟨e1, a1, A1, h.codes _ _ _ _ _ _ _ h1, h2.mono fun _ _ _ _ _ q => h.loops _ _ _ _ _ _ _ q⟩
theorem Lvl.le.trans {L M N : Lvl} (h : L.le M) (k : M.le N) : L.le N :=
  ⟨fun _ _ _ _ _ q => k.calls _ _ _ _ _ (h.calls _ _ _ _ _ q), fun _ _ _ _ _ _ _ q => k.rounds _ _ _ _ _ _ _ (h.rounds _ _ _ _ _ _ _ q), fun _ _ _ _ _ _ _ q => k.codes _ _ _ _ _ _ _ (h.codes _ _ _ _ _ _ _ q), fun _ _ _ _ _ _ _ q => k.loops _ _ _ _ _ _ _ (h.loops _ _ _ _ _ _ _ q)⟩
theorem Lv_mono {m n : Nat} (h : m ≤ n) : (Lv P m).le (Lv P n) := by
  obtain ⟨d, rfl⟩ := Nat.exists_eq_add_of_le h
  induction d with
  | zero => exact ⟨fun _ _ _ _ _ q => q, fun _ _ _ _ _ _ _ q => q, fun _ _ _ _ _ _ _ q => q, fun _ _ _ _ _ _ _ q => q⟩
  | succ d ih => exact (ih (Nat.le_add_right _ _)).trans (Lv_le _)

/-- The world as the canonical run finds it at a call's start: all that lies there may be read, nothing be written. -/
def sealed (W : World) : World := { W with heap := W.heap.map fun | .cells c t _ => .cells c t (0, c.size + 1) | _ => .cells #[] 0 (2, 0) }
def idRen (n : Nat) : Ren := fun b => if b < n then some ⟨b, 0, none⟩ else none

/-- What a block's cells may hold that a call is handed: addresses of blocks that are there. -/
def ReadOk (P : Program) (W : World) : Prop := ∀ (b : Nat) (c : Array Value) t fz, W.heap[b]? = some (.cells c t fz) → ∀ (i : Nat) v, c[i]? = some v → VRel P (idRen W.heap.size) v v

/-- FROM A CLOSED CALL: from a world without a block. -/
theorem closed_call (G : Good P) {n : Nat} {f : FuncId} {v : Value} {A' : World} (h : (Lv P n).calls f #[] (tombs 0) v A') (W : World) :
    Calls P f #[] W fun e W' => ∃ ι' v', e = .returned v' ∧ VRel P ι' v v' ∧ (∀ b, b < W.heap.size → W'.heap[b]? = W.heap[b]?) ∧ W.heap.size ≤ W'.heap.size ∧ W'.os = W.os ∧ W'.tape = W.tape ∧ W'.output = W.output := by
  have S : Sim P W.heap.size (fun _ => none) (tombs 0) W := ⟨fun b e o hb => (by cases hb), fun b b' e e' o o' hb => (by cases hb), fun b e hb => (by cases hb), Nat.le_refl _⟩
  have hc := ((snd G n).calls _ _ _ _ _ h).2 _ W #[] S .empty ⟨by rw [tombs_size]; exact Nat.zero_le _, fun b _ _ => rfl⟩
  have hc' := callsIn_wide.1 hc
  refine hc'.mono ?_
  rintro e W' ⟨ι', v', rfl, S', M, V⟩
  exact ⟨ι', v', rfl, V, fun b hb => M.keep b hb (fun k e o hk => by cases hk), M.wsz, M.os, M.tape, M.output⟩
end
end Go.Abs
