/-
  ABS 15: soundness of code; the levels; every run of the canonical world is met.
-/
import Derived.Test.YtipomlcnmaldkaaA14
namespace Go.Abs
section
variable {P : Program} {n₀ : Nat} {ι ι' : Ren} {A A' W W' : World} {L : Lvl}

theorem wpOpIn_postMono {F : Fence} {n : Nat} {ops : Array Oper} {Q Q' : Exit → Act → World → Prop} (hQ : ∀ e b w, Q e b w → Q' e b w) {i : Nat} {K K' : Act → World → Prop} (hK : ∀ b w, K b w → K' b w) {b : Act} {w : World}
    (h : wpOpIn F n P ops Q i K b w) : wpOpIn F n P ops Q' i K' b w := by
  unfold wpOpIn at *
  split
  · exact hK _ _ (by simpa [*] using h)
  · rename_i o ho
    simp only [ho] at h
    split
    · rename_i hw
      simp only [hw, if_true] at h
      refine ⟨h.1, ?_⟩
      have hh := h.2
      generalize (o.semAt F.round b.eval).run P w = r at *
      cases r with
      | ok x w' =>
        cases x <;> simp only [Oper.uponIn] at hh ⊢ <;>
          first
            | exact hK _ _ hh
            | exact ⟨hh.1, CallsIn.mono hh.2 (fun e w'' he => by cases e <;> first | exact hK _ _ he | exact hQ _ _ _ he | exact (let ⟨a, w, q⟩ := he; ⟨a, w, hQ _ _ _ q⟩))⟩
            | exact ⟨hh.1, RowsIn.mono hh.2 (fun _ _ he => hK _ _ he)⟩
            | exact ⟨hh.1, RoundIn.mono hh.2 (fun e w'' he => by cases e <;> first | exact hK _ _ he | exact hQ _ _ _ he | exact (let ⟨a, w, q⟩ := he; ⟨a, w, hQ _ _ _ q⟩))⟩
      | halt x w' =>
        cases x <;> simp only [Oper.uponIn] at hh ⊢
        exact hQ _ _ _ hh
    · rename_i hw
      simp only [hw] at h
      exact ⟨h.1, hK _ _ h.2⟩
theorem wpAnyIn_postMono {F : Fence} {n : Nat} {md : Region.Mode} {ops : Array Oper} {Q Q' : Exit → Act → World → Prop} (hQ : ∀ e b w, Q e b w → Q' e b w) : ∀ (fuel : Nat) (listed : Array Bool) (b : Act) (w : World),
    wpAnyIn F n P md ops Q fuel listed b w → wpAnyIn F n P md ops Q' fuel listed b w
  | 0, _, _, _, h => ⟨h.1, hQ _ _ _ h.2⟩
  | fuel + 1, _, _, _, h => ⟨fun q => hQ _ _ _ (h.1 q), fun i hi => wpOpIn_postMono hQ (fun b w q => wpAnyIn_postMono hQ fuel _ b w q) (h.2 i hi)⟩

theorem snd_range (hL : Snd P n₀ L) {ro : Option Nat} {g : Operand} {ps : Array Tmp} {as bd : Code} {a : Act} {e : Exit} {a' : Act} (h : RunRange P L ro g ps as bd a A e a' A') : SndCode P n₀ ro (.rangeFunc g ps as bd) a A e a' A' := by
  obtain ⟨l, mark, A1, f, first, cap, fn, code, v, A2, jump, A3, h1, h2, h3, h4, h5, h6, h7, h8⟩ := h
  have s1 := run_size P _ _ _ _ h1
  obtain ⟨s2, c2⟩ := hL.calls _ _ _ _ _ h6
  have s3 := run_size P _ _ _ _ h7
  have s4 : A3.heap.size ≤ A'.heap.size := by
    cases jump with
    | none => obtain ⟨_, _, rfl⟩ := h8; exact Nat.le_refl _
    | some c => exact (hL.codes _ _ _ _ _ _ _ h8).1
  refine ⟨by omega, fun hok ι W b ro' hro S R F => ?_⟩
  simp only [codeOk, Bool.and_eq_true] at hok
  obtain ⟨⟨ok1, ok2⟩, ok3⟩ := hok
  refine wpIn_rangeFunc fun fn' _ => ?_
  obtain ⟨ι1, ⟨l', mark'⟩, W1, r1, S1, M1, ⟨en, q1, q2, q3⟩, D1⟩ := RS.enterLoop (n₀ := n₀) 0 fn' R.tmps ps as bd ok2 ok3 hro A W (l, mark) A1 S h1 (F.left s1 (by omega)).2
  simp only at q1 q2 q3 D1
  subst q3
  have hg := R.eval ok1
  rw [h2] at hg
  generalize hbg : b.eval g = bv at hg
  cases hg with
  | func hF g1 g2 g3 g4 =>
    rename_i fx xs' ys'
    cases hF with
    | func f =>
      have hargs : Vs P ι1 (first ++ #[.func (.yield l) #[] #[]] ++ cap) (xs' ++ #[.func (.yield en.blk) #[] #[]] ++ ys') :=
        ((Vs.mono M1.le ⟨g1, g3⟩).append (.one (.func (.yield q1 q2) rfl rfl (fun i x x' h => by simp at h) (fun i x x' h => by simp at h)))).append (Vs.mono M1.le ⟨g2, g4⟩)
      have hres : (resolve b.eval (rangeCall g en.blk) 0).run P W1 = .ok { target := .fn (.func f) ys', args := xs' ++ #[.func (.yield en.blk) #[] #[]] } W1 := by
        have hm : Array.map b.eval #[Operand.const (.func (.yield en.blk) #[] #[])] = #[.func (.yield en.blk) #[] #[]] := by simp [Act.eval]
        simp only [resolve, hbg, Deferred.ofValue, hm]
        rfl
      have hinv : (invoke (.fn (.func f) ys') (xs' ++ #[.func (.yield en.blk) #[] #[]])).run P W1 = .ok (.enter f (xs' ++ #[.func (.yield en.blk) #[] #[]] ++ ys')) W1 := by
        have h5' : ¬ fn.name = "runtime.NumGoroutine" := by simpa using h5
        simp only [invoke, callFunc]
        simp [program, Sem.run, h3, h4, h5']
      have F1 := F.right M1 (show A1.heap.size ≤ A'.heap.size by omega)
      refine ⟨en.blk, mark', W1, _, W1, f, _, W1, r1, hres, fun _ _ => trivial, hinv, fun h => (by cases h), ?_⟩
      refine CallsIn.mono (F := wide none) (c2 ι1 W1 _ S1 hargs (F1.left s2 (by omega))) ?_
      rintro e2 W2 ⟨ι2, v2, rfl, S2, M2, V2⟩
      have F2 := F1.right M2 (show A2.heap.size ≤ A'.heap.size by omega)
      obtain ⟨ι3, j', W3, r3, S3, M3, hj, hjok⟩ := RS.endLoop (n₀ := n₀) (M2.le _ _ q1) q2 A2 W2 jump A3 S2 h7 (F2.left s3 s4).2
      subst hj
      have M := (M1.trans M2).trans M3
      have hact : ARl P ι3 { a with defers := mark ++ a.defers } { b with defers := mark' ++ b.defers } := ⟨R.tmps.mono M.le, ((D1.mono M2.le).mono M3.le).append (R.defers.mono M.le)⟩
      refine ⟨j', W3, r3, ?_⟩
      cases j' with
      | none =>
        obtain ⟨rfl, rfl, rfl⟩ := h8
        exact ⟨rfl, ι3, S3, M, hact⟩
      | some c =>
        refine wpIn_mono ((hL.codes _ _ _ _ _ _ _ h8).2 (hjok c rfl) ι3 W3 _ ro' (hro.mono M.le) S3 hact (F2.right M3 s4)) ?_
        intro e' b' W' hp
        exact Post.trans M hp

theorem snd_code (G : Good P) (hL : Snd P n₀ L) {D : Lvl → Array Oper → Act → World → Act → World → Prop} (hD : SndDraw P n₀ (D L)) {ro : Option Nat} {c : Code} {a : Act} {e : Exit} {a' : Act} (h : codeStep P L D ro c a A e a' A') : SndCode P n₀ ro c a A e a' A' := by
  cases c with
  | skip =>
    obtain ⟨rfl, rfl, rfl⟩ := h
    exact ⟨Nat.le_refl _, fun hok ι W b ro' hro S R F => wpIn_skip ⟨rfl, ι, S, .refl, R⟩⟩
  | label l =>
    obtain ⟨rfl, rfl, rfl⟩ := h
    exact ⟨Nat.le_refl _, fun hok ι W b ro' hro S R F => wpIn_label ⟨rfl, ι, S, .refl, R⟩⟩
  | exit id =>
    obtain ⟨rfl, rfl, rfl⟩ := h
    exact ⟨Nat.le_refl _, fun hok ι W b ro' hro S R F => wpIn_exit ⟨rfl, ι, S, .refl, R⟩⟩
  | goto l =>
    obtain ⟨rfl, rfl, rfl⟩ := h
    exact ⟨Nat.le_refl _, fun hok ι W b ro' hro S R F => wpIn_goto ⟨rfl, ι, S, .refl, R⟩⟩
  | ret =>
    obtain ⟨rfl, rfl, rfl⟩ := h
    exact ⟨Nat.le_refl _, fun hok ι W b ro' hro S R F => wpIn_ret ⟨rfl, ι, S, .refl, R⟩⟩
  | seq x y =>
    obtain ⟨e1, a1, A1, h1, ht⟩ := h
    obtain ⟨s1, c1⟩ := hL.codes _ _ _ _ _ _ _ h1
    have s2 := then_size ht fun e a' A' h => (hL.codes _ _ _ _ _ _ _ h).1
    refine ⟨Nat.le_trans s1 s2, fun hok ι W b ro' hro S R F => ?_⟩
    simp only [codeOk, Bool.and_eq_true] at hok
    refine wpIn_seq ?_
    refine snd_then (Y := fun b W Q => y.wpIn (wide ro') 0 P Q b W) (c1 hok.1 ι W b ro' hro S R (F.left s1 s2)) ht fun he ι1 b1 W1 S1 M1 R1 => ?_
    subst he
    refine wpIn_mono ((hL.codes _ _ _ _ _ _ _ ht).2 hok.2 ι1 W1 b1 ro' (hro.mono M1.le) S1 R1 (F.right M1 s2)) ?_
    intro e' b' W' hp
    exact Post.trans M1 hp
  | cond q x y =>
    obtain ⟨t, hq, h1⟩ := h
    obtain ⟨s1, c1⟩ := hL.codes _ _ _ _ _ _ _ h1
    refine ⟨s1, fun hok ι W b ro' hro S R F => ?_⟩
    simp only [codeOk, Bool.and_eq_true] at hok
    have hb := R.eval hok.1.1
    rw [hq] at hb
    have hb' : b.eval q = .bool t := by
      generalize b.eval q = z at hb
      cases hb; rfl
    refine wpIn_cond hb' (c1 ?_ ι W b ro' hro S R F)
    cases t
    · exact hok.2
    · exact hok.1.2
  | block id x =>
    obtain ⟨e1, h1, rfl⟩ := h
    obtain ⟨s1, c1⟩ := hL.codes _ _ _ _ _ _ _ h1
    refine ⟨s1, fun hok ι W b ro' hro S R F => ?_⟩
    refine wpIn_block (wpIn_mono (c1 hok ι W b ro' hro S R F) ?_)
    rintro e' b' W' ⟨rfl, hp⟩
    cases e' with
    | exit i =>
      simp only [Exit.inBlock, inBlk]
      split
      · exact ⟨rfl, hp⟩
      · exact ⟨rfl, hp⟩
    | normal => exact ⟨rfl, hp⟩
    | goto l => exact ⟨rfl, hp⟩
    | ret => exact ⟨rfl, hp⟩
    | panic c => exact ⟨rfl, hp⟩
    | outgrown => exact ⟨rfl, hp⟩
  | loop x =>
    obtain ⟨s1, c1⟩ := hL.loops _ _ _ _ _ _ _ h
    exact ⟨s1, fun hok ι W b ro' hro S R F => wpIn_inLoop (c1 hok ι W b ro' hro S R F)⟩
  | region id ops draw =>
    have hops : codeOk (.region id ops draw) = true → ∀ (i : Nat) (o : Oper), ops[i]? = some o → operOk o = true := fun hok i o ho => by
      simp only [codeOk, List.all_eq_true] at hok
      exact hok o (by simpa using Array.mem_of_getElem? ho)
    cases draw with
    | false =>
      obtain ⟨rfl, h⟩ := h
      exact ⟨ops_size hL _ _ _ _ _ h, fun hok ι W b ro' hro S R F => wpIn_region ((snd_ops G hL (hops hok) _ _ _ _ _ h).2 ι W b ro' _ S R F fun ι' b' W' S' M' R' => ⟨rfl, ι', S', M', R'⟩)⟩
    | true =>
      obtain ⟨rfl, h⟩ := h
      obtain ⟨s1, c1⟩ := hD ops _ _ _ _ h
      refine ⟨s1, fun hok ι W b ro' hro S R F => wpIn_region_any G.mixed ?_⟩
      have := c1 (hops hok) ι W.drew b ro' (S.heap rfl) R F
      exact wpAnyIn_postMono (fun e b' W' hp => Post.trans .drew hp) _ _ _ _ this
  | rangeFunc g ps as bd => exact snd_range hL h
  | scope x => exact h.elim
  | refuse w => exact h.elim

/-- The levels. -/
def lvl (P : Program) (D : Lvl → Array Oper → Act → World → Act → World → Prop) : Nat → Lvl
  | 0 => { calls := fun _ _ _ _ _ => False, rounds := fun _ _ _ _ _ _ _ => False, codes := fun _ _ _ _ _ _ _ => False, loops := fun _ _ _ _ _ _ _ => False }
  | n + 1 => { calls := callStep P (lvl P D n), rounds := roundStep P (lvl P D n), codes := codeStep P (lvl P D n) D, loops := loopStep (lvl P D n) }
theorem snd_lvl (G : Good P) {D : Lvl → Array Oper → Act → World → Act → World → Prop} (hD : ∀ L, Snd P n₀ L → SndDraw P n₀ (D L)) : ∀ n, Snd P n₀ (lvl P D n)
  | 0 => ⟨fun _ _ _ _ _ h => h.elim, fun _ _ _ _ _ _ _ h => h.elim, fun _ _ _ _ _ _ _ h => h.elim, fun _ _ _ _ _ _ _ h => h.elim⟩
  | n + 1 =>
    have hL := snd_lvl G hD n
    ⟨fun _ _ _ _ _ h => snd_call G hL h, fun _ _ _ _ _ _ _ h => snd_round hL h, fun _ _ _ _ _ _ _ h => snd_code G hL (hD _ hL) h, fun _ _ _ _ _ _ _ h => snd_loop hL h⟩
end
end Go.Abs
