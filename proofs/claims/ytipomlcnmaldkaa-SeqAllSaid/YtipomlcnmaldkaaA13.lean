/-
  ABS 13: soundness, step by step.
-/
import Derived.Test.YtipomlcnmaldkaaA12
namespace Go.Abs
section
variable {P : Program} {n₀ : Nat} {ι ι' : Ren} {A A' W W' : World} {L : Lvl}

theorem AOp.size {ρ : Operand → Value} {o : Oper} {nx : Next} (h : AOp P ρ o A nx A') : A.heap.size ≤ A'.heap.size := by
  rcases h with ⟨v, _, rfl, _⟩ | ⟨_, h⟩ | ⟨c, v, _, _, _, happ⟩ | ⟨_, _, _, _, _, _, _, _, _, _, _, _, _, _, rfl⟩ | ⟨_, _, _, _, _, _, _, _, _, _, _, _, rfl⟩
  · exact Nat.le_refl _
  · exact run_size P _ _ _ _ h
  · obtain ⟨elem, ie, z, base, sLen, sCap, x, n, _, _, _, ⟨_, new, _, h2, _⟩ | ⟨_, _, _, _, _, old, new, _, _, _, _, _, _, ⟨rfl, _⟩ | ⟨a, c, _, _, _, rfl⟩⟩⟩ := happ
    · exact run_size P _ _ _ _ h2
    · simp
    · simp
  · exact Nat.le_refl _
  · exact Nat.le_refl _
theorem operOk_notDefer {o : Oper} (h : operOk o = true) : ∀ c, o.op ≠ .defer c := by
  intro c hc
  simp [operOk, hc] at h

theorem op_size (hL : Snd P n₀ L) {o : Oper} {a : Act} {v : Value} {A1 : World} (h : RunOp P L o a A v A1) : A.heap.size ≤ A1.heap.size := by
  obtain ⟨nx, A2, hop, hnx⟩ := h
  have hs1 := hop.size
  cases nx <;> simp only at hnx
  case value u => obtain ⟨_, rfl⟩ := hnx; exact hs1
  case skip => obtain ⟨_, rfl⟩ := hnx; exact hs1
  case enter f xs => exact Nat.le_trans hs1 (hL.calls _ _ _ _ _ hnx).1
  case round l fn ts as bd => exact Nat.le_trans hs1 (hL.rounds _ _ _ _ _ _ _ hnx).1
theorem ops_size (hL : Snd P n₀ L) {ops : Array Oper} : ∀ (l : List Nat) (a a' : Act) (A A' : World), RunOps P L ops l a A a' A' → A.heap.size ≤ A'.heap.size := by
  intro l
  induction l with
  | nil => rintro a a' A A' ⟨rfl, rfl⟩; exact Nat.le_refl _
  | cons i rest ih =>
    intro a a' A A' h
    simp only [RunOps] at h
    split at h
    · exact ih _ _ _ _ h
    · split at h
      · obtain ⟨v, A1, hop, hrest⟩ := h
        exact Nat.le_trans (op_size hL hop) (ih _ _ _ _ hrest)
      · exact ih _ _ _ _ h
theorem snd_opOf (G : Good P) (hL : Snd P n₀ L) {o : Oper} {a b : Act} {v : Value} {A1 : World} (hok : operOk o = true) (h : RunOp P L o a A v A1) :
    A.heap.size ≤ A1.heap.size ∧ ∀ (ro : Option Nat) (K : Act → World → Prop) (Q : Exit → Act → World → Prop), Sim P n₀ ι A W → (∀ x ∈ o.op.operands, VRel P ι (a.eval x) (b.eval x)) → Free ι A A1 →
      (∀ ι1 v1 W1, Sim P n₀ ι1 A1 W1 → Moves P ι A W ι1 A1 W1 → VRel P ι1 v v1 → K (b.put o.dst v1) W1) → o.wpIn (wide ro) 0 P b W K Q := by
  obtain ⟨nx, A2, hop, hnx⟩ := h
  have hs1 := hop.size
  have hnd := operOk_notDefer hok
  have run : ∀ (ro : Option Nat), Oper.semAt ro b.eval o = execOp b.eval o := fun ro => Oper.semAt_eq ro b.eval o hnd
  cases nx <;> simp only at hnx
  case value u =>
    obtain ⟨rfl, rfl⟩ := hnx
    refine ⟨hs1, fun ro K Q S R F hK => ⟨fun _ _ => trivial, ?_⟩⟩
    obtain ⟨ι1, nx', W1, r1, S1, M1, N1⟩ := sim_op G R S hop F.2
    rw [run, r1]
    cases nx' <;> simp only [NRel] at N1
    exact hK ι1 _ W1 S1 M1 N1
  case skip =>
    obtain ⟨rfl, rfl⟩ := hnx
    refine ⟨hs1, fun ro K Q S R F hK => ⟨fun _ _ => trivial, ?_⟩⟩
    obtain ⟨ι1, nx', W1, r1, S1, M1, N1⟩ := sim_op G R S hop F.2
    rw [run, r1]
    cases nx' <;> simp only [NRel] at N1
    exact hK ι1 _ W1 S1 M1 .undef
  case enter f xs =>
    obtain ⟨hs2, hc⟩ := hL.calls _ _ _ _ _ hnx
    refine ⟨Nat.le_trans hs1 hs2, fun ro K Q S R F hK => ⟨fun _ _ => trivial, ?_⟩⟩
    obtain ⟨ι1, nx', W1, r1, S1, M1, N1⟩ := sim_op G R S hop (F.left hs1 hs2).2
    rw [run, r1]
    cases nx' <;> simp only [NRel] at N1
    obtain ⟨rfl, hxs⟩ := N1
    refine ⟨fun h => (by cases h), ?_⟩
    have hcall := hc ι1 W1 _ S1 hxs (F.right M1 hs2)
    refine CallsIn.mono (F := wide none) hcall ?_
    rintro e W2 ⟨ι2, v2, rfl, S2, M2, V2⟩
    exact hK ι2 v2 W2 S2 (M1.trans M2) V2
  case round l fn ts as bd =>
    obtain ⟨hs2, hc⟩ := hL.rounds _ _ _ _ _ _ _ hnx
    refine ⟨Nat.le_trans hs1 hs2, fun ro K Q S R F hK => ⟨fun _ _ => trivial, ?_⟩⟩
    obtain ⟨ι1, nx', W1, r1, S1, M1, N1⟩ := sim_op G R S hop (F.left hs1 hs2).2
    rw [run, r1]
    cases nx' <;> simp only [NRel] at N1
    obtain ⟨⟨e, he, hes, rfl⟩, hts, rfl, rfl, h1, h2⟩ := N1
    refine ⟨fun h => (by cases h), ?_⟩
    refine RoundIn.mono (hc h1 h2 ι1 W1 _ e _ ro he hes S1 hts (F.right M1 hs2)) ?_
    rintro e W2 ⟨ι2, v2, rfl, S2, M2, V2⟩
    exact hK ι2 v2 W2 S2 (M1.trans M2) V2

theorem snd_op (G : Good P) (hL : Snd P n₀ L) {o : Oper} {a b : Act} {v : Value} {A1 : World} (hok : operOk o = true) (h : RunOp P L o a A v A1) :
    A.heap.size ≤ A1.heap.size ∧ ∀ (ro : Option Nat) (K : Act → World → Prop) (Q : Exit → Act → World → Prop), Sim P n₀ ι A W → ARl P ι a b → Free ι A A1 →
      (∀ ι1 v1 W1, Sim P n₀ ι1 A1 W1 → Moves P ι A W ι1 A1 W1 → VRel P ι1 v v1 → K (b.put o.dst v1) W1) → o.wpIn (wide ro) 0 P b W K Q := by
  have hopn : ∀ x ∈ o.op.operands, opndOk x = true := by
    intro x hx
    simp only [operOk, Bool.and_eq_true, List.all_eq_true] at hok
    exact hok.1 x (by simpa using hx)
  obtain ⟨h1, h2⟩ := snd_opOf (ι := ι) (W := W) (b := b) G hL hok h
  exact ⟨h1, fun ro K Q S R F hK => h2 ro K Q S (fun x hx => R.eval (hopn x hx)) F hK⟩

theorem snd_ops (G : Good P) (hL : Snd P n₀ L) {ops : Array Oper} (hok : ∀ (i : Nat) (o : Oper), ops[i]? = some o → operOk o = true) : ∀ (l : List Nat) (a a' : Act) (A A' : World), RunOps P L ops l a A a' A' →
    A.heap.size ≤ A'.heap.size ∧ ∀ (ι : Ren) (W : World) (b : Act) (ro : Option Nat) (Q : Exit → Act → World → Prop), Sim P n₀ ι A W → ARl P ι a b → Free ι A A' →
      (∀ ι' b' W', Sim P n₀ ι' A' W' → Moves P ι A W ι' A' W' → ARl P ι' a' b' → Q .normal b' W') → wpOpsIn (wide ro) 0 P ops Q l b W := by
  intro l
  induction l with
  | nil =>
    rintro a a' A A' ⟨rfl, rfl⟩
    exact ⟨Nat.le_refl _, fun ι W b ro Q S R F hQ => hQ ι b W S .refl R⟩
  | cons i rest ih =>
    intro a a' A A' h
    simp only [RunOps] at h
    cases ho : ops[i]? with
    | none =>
      rw [ho] at h
      obtain ⟨h1, h2⟩ := ih a a' A A' h
      exact ⟨h1, fun ι W b ro Q S R F hQ => by simp only [wpOpsIn, ho]; exact h2 ι W b ro Q S R F hQ⟩
    | some o =>
      rw [ho] at h
      simp only at h
      by_cases hw : Region.wanted o (yielded ops a.tmps) = true
      · rw [if_pos hw] at h
        obtain ⟨v, A1, hop, hrest⟩ := h
        obtain ⟨s2, h2⟩ := ih _ _ _ _ hrest
        have s1 := (snd_op (ι := default) (W := default) (b := a) G hL (hok i o ho) hop).1
        refine ⟨Nat.le_trans s1 s2, fun ι W b ro Q S R F hQ => ?_⟩
        simp only [wpOpsIn, ho]
        rw [wanted_rel R, if_pos hw]
        refine (snd_op (ι := ι) (W := W) (b := b) G hL (hok i o ho) hop).2 ro _ Q S R (F.left s1 s2) fun ι1 v1 W1 S1 M1 V1 => ?_
        exact h2 ι1 W1 _ ro Q S1 ((R.mono M1.le).put o.dst V1) (F.right M1 s2) fun ι2 b2 W2 S2 M2 R2 => hQ ι2 b2 W2 S2 (M1.trans M2) R2
      · rw [if_neg hw] at h
        obtain ⟨h1, h2⟩ := ih _ _ _ _ h
        refine ⟨h1, fun ι W b ro Q S R F hQ => ?_⟩
        simp only [wpOpsIn, ho]
        rw [wanted_rel R, if_neg hw]
        exact ⟨fun _ _ => trivial, h2 ι W _ ro Q S (R.put o.dst .undef) F hQ⟩

theorem Post.trans {A1 W1 : World} {ι1 : Ren} (M : Moves P ι A W ι1 A1 W1) {e e' : Exit} {a' b : Act} {W' : World} (h : Post P n₀ ι1 A1 W1 e a' A' e' b W') : Post P n₀ ι A W e a' A' e' b W' := by
  obtain ⟨h1, ι2, S, M2, R⟩ := h
  exact ⟨h1, ι2, S, M.trans M2, R⟩

/-- What stands behind: normal, or it is left. -/
theorem snd_then {x : Code} {R : Act → World → Exit → Act → World → Prop} {Y : Act → World → (Exit → Act → World → Prop) → Prop} {e1 e : Exit} {a1 a' : Act} {A1 : World} {ro' : Option Nat} {b : Act}
    (hx : x.wpIn (wide ro') 0 P (Post P n₀ ι A W e1 a1 A1) b W) (ht : thenStep e1 a1 A1 R e a' A')
    (hY : e1 = .normal → ∀ ι1 b1 W1, Sim P n₀ ι1 A1 W1 → Moves P ι A W ι1 A1 W1 → ARl P ι1 a1 b1 → Y b1 W1 (Post P n₀ ι A W e a' A'))
    : x.wpIn (wide ro') 0 P (Exit.then (fun b1 W1 => Y b1 W1 (Post P n₀ ι A W e a' A')) (Post P n₀ ι A W e a' A')) b W := by
  refine wpIn_mono hx ?_
  rintro e' b1 W1 ⟨rfl, ι1, S1, M1, R1⟩
  cases e' with
  | normal => exact hY rfl ι1 b1 W1 S1 M1 R1
  | exit id => obtain ⟨rfl, rfl, rfl⟩ := ht; exact ⟨rfl, ι1, S1, M1, R1⟩
  | goto l => obtain ⟨rfl, rfl, rfl⟩ := ht; exact ⟨rfl, ι1, S1, M1, R1⟩
  | ret => obtain ⟨rfl, rfl, rfl⟩ := ht; exact ⟨rfl, ι1, S1, M1, R1⟩
  | panic c => obtain ⟨rfl, rfl, rfl⟩ := ht; exact ⟨rfl, ι1, S1, M1, R1⟩
  | outgrown => obtain ⟨rfl, rfl, rfl⟩ := ht; exact ⟨rfl, ι1, S1, M1, R1⟩
theorem then_size {R : Act → World → Exit → Act → World → Prop} {e1 e : Exit} {a1 a' : Act} {A1 : World} (ht : thenStep e1 a1 A1 R e a' A') (h : ∀ e a' A', R a1 A1 e a' A' → A1.heap.size ≤ A'.heap.size) : A1.heap.size ≤ A'.heap.size := by
  cases e1 with
  | normal => exact h _ _ _ ht
  | _ => obtain ⟨_, _, rfl⟩ := ht; exact Nat.le_refl _

theorem snd_loop (hL : Snd P n₀ L) {ro : Option Nat} {x : Code} {a : Act} {e : Exit} {a' : Act} (h : loopStep L ro x a A e a' A') : SndLoop P n₀ ro x a A e a' A' := by
  obtain ⟨e1, a1, A1, h1, ht⟩ := h
  obtain ⟨s1, c1⟩ := hL.codes _ _ _ _ _ _ _ h1
  have s2 := then_size ht fun e a' A' h => (hL.loops _ _ _ _ _ _ _ h).1
  refine ⟨Nat.le_trans s1 s2, fun hok ι W b ro' hro S R F => ?_⟩
  refine inLoop_step ?_
  refine snd_then (Y := fun b W Q => InLoop (wide ro') 0 P x Q b W) (c1 hok ι W b ro' hro S R (F.left s1 s2)) ht fun he ι1 b1 W1 S1 M1 R1 => ?_
  subst he
  have := (hL.loops _ _ _ _ _ _ _ ht).2 hok ι1 W1 b1 ro' (hro.mono M1.le) S1 R1 (F.right M1 s2)
  intro fr k cs q1 q2 q3
  obtain ⟨e', a2, W2, g1, g2⟩ := this fr k cs q1 q2 q3
  exact ⟨e', a2, W2, Post.trans M1 g1, g2⟩
end
end Go.Abs
