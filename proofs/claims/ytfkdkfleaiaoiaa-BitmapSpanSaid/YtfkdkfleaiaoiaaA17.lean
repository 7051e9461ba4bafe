/-
  ABS 14: soundness of code, calls and rounds, given that of a region that draws.
-/
import Derived.Test.YtfkdkfleaiaoiaaA13
namespace Go.Abs

/-- What is owed by a region that draws its order. -/
def SndDraw (P : Program) (n₀ : Nat) (D : Array Oper → Act → World → Act → World → Prop) : Prop :=
  ∀ (ops : Array Oper) (a a' : Act) (A A' : World), D ops a A a' A' → A.heap.size ≤ A'.heap.size ∧ ((∀ (i : Nat) (o : Oper), ops[i]? = some o → operOk o = true) →
    ∀ (ι : Ren) (W : World) (b : Act) (ro : Option Nat), Sim P n₀ ι A W → ARl P ι a b → Free ι A A' → wpAnyIn (wide ro) 0 P .any ops (Post P n₀ ι A W .normal a' A') ops.size (Array.replicate ops.size false) b W)

section
variable {P : Program} {n₀ : Nat} {ι ι' : Ren} {A A' W W' : World} {L : Lvl}

theorem loadVar_world {t : TypeId} {a : Addr} {w w' : World} {v : Value} (h : (Go.loadVar t a).run P w = .ok v w') : w' = w := by
  simp only [Go.loadVar, Sem.run_bind] at h
  have hag : ∀ b w1, (isAgg t).run P w = .ok b w1 → w1 = w := by
    intro b w1 hb
    simp only [isAgg, underlying, program, Sem.run_bind, Sem.run, Result.andThen] at hb
    cases hu : P.underlying t with
    | none => rw [hu] at hb; cases hb
    | some d => rw [hu] at hb; simp only [Sem.run_pure] at hb; split at hb <;> (cases hb; rfl)
  cases h1 : (isAgg t).run P w with
  | halt q u => rw [h1] at h; cases h
  | ok b w1 =>
    have := hag _ _ h1
    subst this
    rw [h1] at h
    cases b with
    | true =>
      simp only [Result.andThen, if_true, Sem.run_bind, sizeOf, typeInfo, program, Sem.run] at h
      cases hi : P.info? t with
      | none => rw [hi] at h; cases h
      | some i =>
        rw [hi] at h
        simp only [Sem.run_pure] at h
        cases h2 : (loadCells a i.size).run P w1 with
        | halt q u => rw [h2] at h; cases h
        | ok c u =>
          rw [h2] at h
          cases h
          exact loadCells_world _ _ _ _ _ _ _ h2
    | false =>
      have h3 : (load a).run P w1 = .ok v w' := h
      have := loadCells_world (P := P) a 1 0 #[] w1 #[v] w' (by
        have ea : a.add 0 = a := rfl
        simp only [loadCellsFrom, ea, Sem.run_bind, h3, Result.andThen, Sem.run_pure]; rfl)
      exact this
def resVar (ts : Array Value) : ResultVar → Sem Value
  | .tmp t => pure (ts.getD t undef)
  | .cell a t => do Go.loadVar t (← asAddr (ts.getD a undef))
theorem results_eq (fn : Func) (ts : Array Value) : results fn ts = (do let vs ← fn.results.mapM (resVar ts); pure (if h : vs.size = 1 then vs[0] else .tuple vs)) := by
  unfold results
  have : (fun | .tmp t => pure (ts.getD t undef) | .cell a t => do Go.loadVar t (← asAddr (ts.getD a undef)) : ResultVar → Sem Value) = resVar ts := by funext x; cases x <;> rfl
  rw [← this]; rfl
theorem results_world {fn : Func} {ts : Array Value} {w w' : World} {v : Value} (h : (results fn ts).run P w = .ok v w') : w' = w := by
  rw [results_eq, Array.mapM_eq_mapM_toList] at h
  have hl : ∀ (l : List ResultVar) (w w' : World) (r : List Value), (List.mapM (m := Sem) (resVar ts) l).run P w = .ok r w' → w' = w := by
    intro l
    induction l with
    | nil => intro w w' r h; cases h; rfl
    | cons x l ih =>
      intro w w' r h
      simp only [List.mapM_cons, Sem.run_bind] at h
      have hx : ∀ v u, (resVar ts x).run P w = .ok v u → u = w := by
        intro v u hv
        cases x with
        | tmp t => cases hv; rfl
        | cell a t =>
          simp only [resVar, Sem.run_bind] at hv
          generalize ts.getD a undef = q at hv
          cases q with
          | pointer p =>
            cases p with
            | some p => exact loadVar_world hv
            | none =>
              have hn := runtimePanic_never (P := P) (α := Addr) .nilDeref w
              cases h1 : (asAddr (.pointer none)).run P w with
              | halt a b => rw [h1] at hv; cases hv
              | ok r u => exact absurd h1 (hn r u)
          | _ => cases hv
      cases h1 : (resVar ts x).run P w with
      | halt q u => rw [h1] at h; cases h
      | ok v u =>
        have := hx _ _ h1
        subst this
        rw [h1] at h
        simp only [Result.andThen] at h
        cases h2 : (List.mapM (m := Sem) (resVar ts) l).run P u with
        | halt q u' => rw [h2] at h; cases h
        | ok v' u' =>
          have := ih _ _ _ h2
          subst this
          rw [h2] at h
          cases h
          rfl
  simp only [Sem.run_bind, Sem.run_map] at h
  cases h2 : (List.mapM (m := Sem) (resVar ts) fn.results.toList).run P w with
  | halt q u => rw [h2] at h; cases h
  | ok v' u =>
    have := hl _ _ _ _ h2
    subst this
    rw [h2] at h
    cases h
    rfl

theorem marks_size : ∀ (ds : List Deferred) (A A' : World), Marks P ds A A' → A.heap.size ≤ A'.heap.size
  | [], A, A', h => by cases h; exact Nat.le_refl _
  | d :: ds, A, A', ⟨r, A1, _, h1, h2⟩ => Nat.le_trans (run_size P _ _ _ _ h1) (marks_size ds A1 A' h2)
theorem snd_marks {fn : Func} {R : Ending → World → Prop} {F : Fence} : ∀ (ds ds' : List Deferred) (ι : Ren) (A W : World), Marks P ds A A' → DRel ι ds ds' → Sim P n₀ ι A W → Free ι A A' → ∀ (ts ts' : Array Value), Vs P ι ts ts' →
    ∀ v, (results fn ts).run P A' = .ok v A' → (∀ ι' v' W', Sim P n₀ ι' A' W' → Moves P ι A W ι' A' W' → VRel P ι' v v' → R (.returned v') W') → LeavesInM F 0 P fn ts' R ds' .returning W
  | [], [], ι, A, W, hm, _, S, F, ts, ts', hts, v, hr, hR => by
    cases hm
    obtain ⟨ι1, v', W1, r1, S1, M1, V1⟩ := RS.results (n₀ := n₀) fn hts A' W v A' S hr (fun b x y => by omega)
    have := results_world r1
    subst this
    exact ⟨v', r1, hR ι1 v' W1 S1 M1 V1⟩
  | d :: ds, d' :: ds', ι, A, W, ⟨r, A1, h1, h2, h3⟩, ⟨⟨r', e, q1, q2, q3, q4⟩, hd⟩, S, F, ts, ts', hts, v, hr, hR => by
    rw [h1] at q1; cases q1
    have s1 := run_size P _ _ _ _ h2
    have s2 := marks_size ds A1 A' h3
    obtain ⟨ι1, x, W1, r1, S1, M1, X1⟩ := RS.takeDeferred (n₀ := n₀) q3 q4 A W [] A1 S h2 (F.left s1 s2).2
    have hx : x = [] := X1 rfl
    subst hx
    refine ⟨by simp, .inl ⟨e.blk, W1, q2, r1, ?_⟩⟩
    exact snd_marks ds ds' ι1 A1 W1 h3 (hd.mono M1.le) S1 (F.right M1 s2) ts ts' (hts.mono M1.le) v hr fun ι2 v2 W2 S2 M2 V2 => hR ι2 v2 W2 S2 (M1.trans M2) V2
  | [], _ :: _, _, _, _, _, h, _, _, _, _, _, _, _, _ => h.elim
  | _ :: _, [], _, _, _, _, h, _, _, _, _, _, _, _, _ => h.elim

theorem snd_call {A A' : World} (G : Good P) (hL : Snd P n₀ L) {f : FuncId} {xs : Array Value} {v : Value} (h : callStep P L f xs A v A') : SndCall P n₀ f xs A v A' := by
  obtain ⟨fn, c, e, a1, A1, hf, hb, hc, he, hm, hr⟩ := h
  obtain ⟨s1, c1⟩ := hL.codes _ _ _ _ _ _ _ hc
  have s2 := marks_size _ _ _ hm
  refine ⟨Nat.le_trans s1 s2, fun ι W xs' S hxs F => ?_⟩
  refine callsIn_of_wp_marks hf hb trivial ?_ rfl
  have hact : ARl P ι { tmps := xs ++ Array.replicate (fn.ntmps - xs.size) undef, defers := [] } { tmps := xs' ++ Array.replicate (fn.ntmps - xs'.size) undef, defers := [] } :=
    ⟨hxs.append (by rw [hxs.1]; exact Vs.replicate _ .undef), trivial⟩
  refine wpIn_mono (c1 (G.code f fn c hf hb) ι W _ none (.inl ⟨rfl, rfl⟩) S hact (F.left s1 s2)) ?_
  rintro e' b W1 ⟨rfl, ι1, S1, M1, R1⟩
  have key : LeavesInM (wide none) 0 P fn b.tmps (PostV P n₀ ι A W v A') b.defers .returning W1 :=
    snd_marks a1.defers b.defers ι1 A1 W1 hm R1.defers S1 (F.right M1 s2) a1.tmps b.tmps R1.tmps v hr fun ι2 v2 W2 S2 M2 V2 => ⟨ι2, v2, rfl, S2, M1.trans M2, V2⟩
  rcases he with rfl | rfl
  · exact key
  · exact key

theorem snd_round {A A' : World} (hL : Snd P n₀ L) {l : Nat} {ts : Array Value} {as bd : Code} {v : Value} (h : roundStep P L l ts as bd A v A') : SndRound P n₀ l ts as bd A v A' := by
  obtain ⟨a1, A1, A2, e, a3, A3, j, h1, h2, h3, h4, h5⟩ := h
  obtain ⟨s1, c1⟩ := hL.codes _ _ _ _ _ _ _ h1
  have s2 := run_size P _ _ _ _ h2
  obtain ⟨s3, c3⟩ := hL.codes _ _ _ _ _ _ _ h3
  have s4 := run_size P _ _ _ _ h5
  refine ⟨by omega, fun hok1 hok2 ι W ts' en fn ro he hes S hts F => ?_⟩
  refine roundIn_of_wpIn (F := wide ro) trivial ?_
  have hro : RoRel ι (some l) (some en.blk) := .inr ⟨l, en, rfl, he, hes, rfl⟩
  refine wpIn_mono (c1 hok1 ι W { tmps := ts', defers := [] } (some en.blk) hro S ⟨hts, trivial⟩ (F.left s1 (by omega))) ?_
  rintro e' b W1 ⟨rfl, ι1, S1, M1, R1⟩
  have F1 := F.right M1 (show A1.heap.size ≤ A'.heap.size by omega)
  obtain ⟨ι2, _, W2, r2, S2, M2, _⟩ := RS.beginRound (n₀ := n₀) (M1.le _ _ he) hes A1 W1 () A2 S1 h2 (F1.left s2 (by omega)).2
  refine ⟨W2, r2, ?_⟩
  have F2 := F1.right M2 (show A2.heap.size ≤ A'.heap.size by omega)
  refine wpIn_mono (c3 hok2 ι2 W2 b (some en.blk) ((hro.mono M1.le).mono M2.le) S2 (R1.mono M2.le) (F2.left s3 (by omega))) ?_
  rintro e'' b3 W3 ⟨rfl, ι3, S3, M3, R3⟩
  have F3 := F2.right M3 (show A3.heap.size ≤ A'.heap.size by omega)
  have hen := M3.le _ _ (M2.le _ _ (M1.le _ _ he))
  have hjok : ∀ c, j = some c → codeOk c = true := by
    intro c hc
    subst hc
    cases e'' <;> simp only [jumpOf, Option.some.injEq, reduceCtorEq] at h4 <;> subst h4 <;> rfl
  obtain ⟨ι4, v4, W4, r4, S4, M4, V4⟩ := RS.endRound (n₀ := n₀) hen hes j hjok A3 W3 v A' S3 h5 F3.2
  have fin : PostV P n₀ ι A W v A' (.returned v4) W4 := ⟨ι4, v4, rfl, S4, ((M1.trans M2).trans M3).trans M4, V4⟩
  cases e'' <;> simp only [jumpOf, Option.some.injEq, reduceCtorEq] at h4 <;> subst h4
  · exact ⟨v4, W4, r4, fin⟩
  · exact ⟨v4, W4, r4, fin⟩
  · exact ⟨v4, W4, r4, fin⟩
  · exact ⟨v4, W4, r4, fin⟩
end
end Go.Abs
/-
  ABS 15: soundness of code; the levels; every run of the canonical world is met.
-/
namespace Go.Abs
section
variable {P : Program} {n₀ : Nat} {ι ι' : Ren} {A A' W W' : World} {L : Lvl}

theorem wpOpIn_postMono {F : Fence} {n : Nat} {ops : Array Oper} {Q Q' : Exit → Act → World → Prop} (hQ : ∀ e b w, Q e b w → Q' e b w) {i : Nat} {K K' : Act → World → Prop} (hK : ∀ b w, K b w → K' b w) {b : Act} {w : World}
    (h : wpOpIn F n P ops Q i K b w) : wpOpIn F n P ops Q' i K' b w := by
  unfold wpOpIn at *
  split
  · exact hK _ _ (by simpa [*] using h)
  · rename_i o ho
    simp only [ho] at h
    split
    · rename_i hw
      simp only [hw, if_true] at h
      refine ⟨h.1, ?_⟩
      have hh := h.2
      generalize (o.semAt F.round b.eval).run P w = r at *
      cases r with
      | ok x w' =>
        cases x <;> simp only [Oper.uponIn] at hh ⊢ <;>
          first
            | exact hK _ _ hh
            | exact ⟨hh.1, CallsIn.mono hh.2 (fun e w'' he => by cases e <;> first | exact hK _ _ he | exact hQ _ _ _ he | exact (let ⟨a, w, q⟩ := he; ⟨a, w, hQ _ _ _ q⟩))⟩
            | exact ⟨hh.1, RowsIn.mono hh.2 (fun _ _ he => hK _ _ he)⟩
            | exact ⟨hh.1, RoundIn.mono hh.2 (fun e w'' he => by cases e <;> first | exact hK _ _ he | exact hQ _ _ _ he | exact (let ⟨a, w, q⟩ := he; ⟨a, w, hQ _ _ _ q⟩))⟩
      | halt x w' =>
        cases x <;> simp only [Oper.uponIn] at hh ⊢
        exact hQ _ _ _ hh
    · rename_i hw
      simp only [hw] at h
      exact ⟨h.1, hK _ _ h.2⟩
theorem wpAnyIn_postMono {F : Fence} {n : Nat} {md : Region.Mode} {ops : Array Oper} {Q Q' : Exit → Act → World → Prop} (hQ : ∀ e b w, Q e b w → Q' e b w) : ∀ (fuel : Nat) (listed : Array Bool) (b : Act) (w : World),
    wpAnyIn F n P md ops Q fuel listed b w → wpAnyIn F n P md ops Q' fuel listed b w
  | 0, _, _, _, h => ⟨h.1, hQ _ _ _ h.2⟩
  | fuel + 1, _, _, _, h => ⟨fun q => hQ _ _ _ (h.1 q), fun i hi => wpOpIn_postMono hQ (fun b w q => wpAnyIn_postMono hQ fuel _ b w q) (h.2 i hi)⟩

theorem snd_range (hL : Snd P n₀ L) {ro : Option Nat} {g : Operand} {ps : Array Tmp} {as bd : Code} {a : Act} {e : Exit} {a' : Act} (h : RunRange P L ro g ps as bd a A e a' A') : SndCode P n₀ ro (.rangeFunc g ps as bd) a A e a' A' := by
  obtain ⟨l, mark, A1, f, first, cap, fn, code, v, A2, jump, A3, h1, h2, h3, h4, h5, h6, h7, h8⟩ := h
  have s1 := run_size P _ _ _ _ h1
  obtain ⟨s2, c2⟩ := hL.calls _ _ _ _ _ h6
  have s3 := run_size P _ _ _ _ h7
  have s4 : A3.heap.size ≤ A'.heap.size := by
    cases jump with
    | none => obtain ⟨_, _, rfl⟩ := h8; exact Nat.le_refl _
    | some c => exact (hL.codes _ _ _ _ _ _ _ h8).1
  refine ⟨by omega, fun hok ι W b ro' hro S R F => ?_⟩
  simp only [codeOk, Bool.and_eq_true] at hok
  obtain ⟨⟨ok1, ok2⟩, ok3⟩ := hok
  refine wpIn_rangeFunc fun fn' _ => ?_
  obtain ⟨ι1, ⟨l', mark'⟩, W1, r1, S1, M1, ⟨en, q1, q2, q3⟩, D1⟩ := RS.enterLoop (n₀ := n₀) 0 fn' R.tmps ps as bd ok2 ok3 hro A W (l, mark) A1 S h1 (F.left s1 (by omega)).2
  simp only at q1 q2 q3 D1
  subst q3
  have hg := R.eval ok1
  rw [h2] at hg
  generalize hbg : b.eval g = bv at hg
  cases hg with
  | func hF g1 g2 g3 g4 =>
    rename_i fx xs' ys'
    cases hF with
    | func f =>
      have hargs : Vs P ι1 (first ++ #[.func (.yield l) #[] #[]] ++ cap) (xs' ++ #[.func (.yield en.blk) #[] #[]] ++ ys') :=
        ((Vs.mono M1.le ⟨g1, g3⟩).append (.one (.func (.yield q1 q2) rfl rfl (fun i x x' h => by simp at h) (fun i x x' h => by simp at h)))).append (Vs.mono M1.le ⟨g2, g4⟩)
      have hres : (resolve b.eval (rangeCall g en.blk) 0).run P W1 = .ok { target := .fn (.func f) ys', args := xs' ++ #[.func (.yield en.blk) #[] #[]] } W1 := by
        have hm : Array.map b.eval #[Operand.const (.func (.yield en.blk) #[] #[])] = #[.func (.yield en.blk) #[] #[]] := by simp [Act.eval]
        simp only [resolve, hbg, Deferred.ofValue, hm]
        rfl
      have hinv : (invoke (.fn (.func f) ys') (xs' ++ #[.func (.yield en.blk) #[] #[]])).run P W1 = .ok (.enter f (xs' ++ #[.func (.yield en.blk) #[] #[]] ++ ys')) W1 := by
        have h5' : ¬ fn.name = "runtime.NumGoroutine" := by simpa using h5
        simp only [invoke, callFunc]
        simp [program, Sem.run, h3, h4, h5']
      have F1 := F.right M1 (show A1.heap.size ≤ A'.heap.size by omega)
      refine ⟨en.blk, mark', W1, _, W1, f, _, W1, r1, hres, fun _ _ => trivial, hinv, fun h => (by cases h), ?_⟩
      refine CallsIn.mono (F := wide none) (c2 ι1 W1 _ S1 hargs (F1.left s2 (by omega))) ?_
      rintro e2 W2 ⟨ι2, v2, rfl, S2, M2, V2⟩
      have F2 := F1.right M2 (show A2.heap.size ≤ A'.heap.size by omega)
      obtain ⟨ι3, j', W3, r3, S3, M3, hj, hjok⟩ := RS.endLoop (n₀ := n₀) (M2.le _ _ q1) q2 A2 W2 jump A3 S2 h7 (F2.left s3 s4).2
      subst hj
      have M := (M1.trans M2).trans M3
      have hact : ARl P ι3 { a with defers := mark ++ a.defers } { b with defers := mark' ++ b.defers } := ⟨R.tmps.mono M.le, ((D1.mono M2.le).mono M3.le).append (R.defers.mono M.le)⟩
      refine ⟨j', W3, r3, ?_⟩
      cases j' with
      | none =>
        obtain ⟨rfl, rfl, rfl⟩ := h8
        exact ⟨rfl, ι3, S3, M, hact⟩
      | some c =>
        refine wpIn_mono ((hL.codes _ _ _ _ _ _ _ h8).2 (hjok c rfl) ι3 W3 _ ro' (hro.mono M.le) S3 hact (F2.right M3 s4)) ?_
        intro e' b' W' hp
        exact Post.trans M hp

theorem snd_code (G : Good P) (hL : Snd P n₀ L) {D : Lvl → Array Oper → Act → World → Act → World → Prop} (hD : SndDraw P n₀ (D L)) {ro : Option Nat} {c : Code} {a : Act} {e : Exit} {a' : Act} (h : codeStep P L D ro c a A e a' A') : SndCode P n₀ ro c a A e a' A' := by
  cases c with
  | skip =>
    obtain ⟨rfl, rfl, rfl⟩ := h
    exact ⟨Nat.le_refl _, fun hok ι W b ro' hro S R F => wpIn_skip ⟨rfl, ι, S, .refl, R⟩⟩
  | label l =>
    obtain ⟨rfl, rfl, rfl⟩ := h
    exact ⟨Nat.le_refl _, fun hok ι W b ro' hro S R F => wpIn_label ⟨rfl, ι, S, .refl, R⟩⟩
  | exit id =>
    obtain ⟨rfl, rfl, rfl⟩ := h
    exact ⟨Nat.le_refl _, fun hok ι W b ro' hro S R F => wpIn_exit ⟨rfl, ι, S, .refl, R⟩⟩
  | goto l =>
    obtain ⟨rfl, rfl, rfl⟩ := h
    exact ⟨Nat.le_refl _, fun hok ι W b ro' hro S R F => wpIn_goto ⟨rfl, ι, S, .refl, R⟩⟩
  | ret =>
    obtain ⟨rfl, rfl, rfl⟩ := h
    exact ⟨Nat.le_refl _, fun hok ι W b ro' hro S R F => wpIn_ret ⟨rfl, ι, S, .refl, R⟩⟩
  | seq x y =>
    obtain ⟨e1, a1, A1, h1, ht⟩ := h
    obtain ⟨s1, c1⟩ := hL.codes _ _ _ _ _ _ _ h1
    have s2 := then_size ht fun e a' A' h => (hL.codes _ _ _ _ _ _ _ h).1
    refine ⟨Nat.le_trans s1 s2, fun hok ι W b ro' hro S R F => ?_⟩
    simp only [codeOk, Bool.and_eq_true] at hok
    refine wpIn_seq ?_
    refine snd_then (Y := fun b W Q => y.wpIn (wide ro') 0 P Q b W) (c1 hok.1 ι W b ro' hro S R (F.left s1 s2)) ht fun he ι1 b1 W1 S1 M1 R1 => ?_
    subst he
    refine wpIn_mono ((hL.codes _ _ _ _ _ _ _ ht).2 hok.2 ι1 W1 b1 ro' (hro.mono M1.le) S1 R1 (F.right M1 s2)) ?_
    intro e' b' W' hp
    exact Post.trans M1 hp
  | cond q x y =>
    obtain ⟨t, hq, h1⟩ := h
    obtain ⟨s1, c1⟩ := hL.codes _ _ _ _ _ _ _ h1
    refine ⟨s1, fun hok ι W b ro' hro S R F => ?_⟩
    simp only [codeOk, Bool.and_eq_true] at hok
    have hb := R.eval hok.1.1
    rw [hq] at hb
    have hb' : b.eval q = .bool t := by
      generalize b.eval q = z at hb
      cases hb; rfl
    refine wpIn_cond hb' (c1 ?_ ι W b ro' hro S R F)
    cases t
    · exact hok.2
    · exact hok.1.2
  | block id x =>
    obtain ⟨e1, h1, rfl⟩ := h
    obtain ⟨s1, c1⟩ := hL.codes _ _ _ _ _ _ _ h1
    refine ⟨s1, fun hok ι W b ro' hro S R F => ?_⟩
    refine wpIn_block (wpIn_mono (c1 hok ι W b ro' hro S R F) ?_)
    rintro e' b' W' ⟨rfl, hp⟩
    cases e' with
    | exit i =>
      simp only [Exit.inBlock, inBlk]
      split
      · exact ⟨rfl, hp⟩
      · exact ⟨rfl, hp⟩
    | normal => exact ⟨rfl, hp⟩
    | goto l => exact ⟨rfl, hp⟩
    | ret => exact ⟨rfl, hp⟩
    | panic c => exact ⟨rfl, hp⟩
    | outgrown => exact ⟨rfl, hp⟩
  | loop x =>
    obtain ⟨s1, c1⟩ := hL.loops _ _ _ _ _ _ _ h
    exact ⟨s1, fun hok ι W b ro' hro S R F => wpIn_inLoop (c1 hok ι W b ro' hro S R F)⟩
  | region id ops draw =>
    have hops : codeOk (.region id ops draw) = true → ∀ (i : Nat) (o : Oper), ops[i]? = some o → operOk o = true := fun hok i o ho => by
      simp only [codeOk, List.all_eq_true] at hok
      exact hok o (by simpa using Array.mem_of_getElem? ho)
    cases draw with
    | false =>
      obtain ⟨rfl, h⟩ := h
      exact ⟨ops_size hL _ _ _ _ _ h, fun hok ι W b ro' hro S R F => wpIn_region ((snd_ops G hL (hops hok) _ _ _ _ _ h).2 ι W b ro' _ S R F fun ι' b' W' S' M' R' => ⟨rfl, ι', S', M', R'⟩)⟩
    | true =>
      obtain ⟨rfl, h⟩ := h
      obtain ⟨s1, c1⟩ := hD ops _ _ _ _ h
      refine ⟨s1, fun hok ι W b ro' hro S R F => wpIn_region_any G.mixed ?_⟩
      have := c1 (hops hok) ι W.drew b ro' (S.heap rfl) R F
      exact wpAnyIn_postMono (fun e b' W' hp => Post.trans .drew hp) _ _ _ _ this
  | rangeFunc g ps as bd => exact snd_range hL h
  | scope x => exact h.elim
  | refuse w => exact h.elim

/-- The levels. -/
def lvl (P : Program) (D : Lvl → Array Oper → Act → World → Act → World → Prop) : Nat → Lvl
  | 0 => { calls := fun _ _ _ _ _ => False, rounds := fun _ _ _ _ _ _ _ => False, codes := fun _ _ _ _ _ _ _ => False, loops := fun _ _ _ _ _ _ _ => False }
  | n + 1 => { calls := callStep P (lvl P D n), rounds := roundStep P (lvl P D n), codes := codeStep P (lvl P D n) D, loops := loopStep (lvl P D n) }
theorem snd_lvl (G : Good P) {D : Lvl → Array Oper → Act → World → Act → World → Prop} (hD : ∀ L, Snd P n₀ L → SndDraw P n₀ (D L)) : ∀ n, Snd P n₀ (lvl P D n)
  | 0 => ⟨fun _ _ _ _ _ h => h.elim, fun _ _ _ _ _ _ _ h => h.elim, fun _ _ _ _ _ _ _ h => h.elim, fun _ _ _ _ _ _ _ h => h.elim⟩
  | n + 1 =>
    have hL := snd_lvl G hD n
    ⟨fun _ _ _ _ _ h => snd_call G hL h, fun _ _ _ _ _ _ _ h => snd_round hL h, fun _ _ _ _ _ _ _ h => snd_code G hL (hD _ hL) h, fun _ _ _ _ _ _ _ h => snd_loop hL h⟩
end
end Go.Abs
/-
  ABS 16: a region that draws its order: what is checked of its text.
-/
namespace Go.Abs

/-- What an operation may do, by its form. -/
inductive Kind where
  | quiet | makes | acts
  deriving DecidableEq
def kindOf : Op → Kind
  | .move _ | .assign _ | .pick .. | .build .. | .load .. | .nilCheck _ | .binOp .. | .unOp .. | .convert .. | .slice .. | .fieldAddr .. | .field .. | .indexAddr .. | .index .. | .makeFunc .. | .extract .. | .lookup .. => .quiet
  | .alloc _ | .box .. | .buildSlice .. | .makeSlice .. | .makeMap .. => .makes
  | .call c => match c.callee with
    | .builtin .len | .builtin .min | .builtin .max | .builtin .cap => .quiet
    | _ => .acts
  | _ => .acts

def maskOf (acc : List Nat) (o : Oper) : Nat := o.after.toList.foldl (fun s e => if Region.binds .any e then s ||| 2 ^ e.on ||| acc.getD e.on 0 else s) 0
def masksFrom : List Oper → List Nat → List Nat
  | [], acc => acc
  | o :: os, acc => masksFrom os (acc ++ [maskOf acc o])
/-- Of each operation, all that stand ahead of it in every order. -/
def masks (ops : Array Oper) : List Nat := masksFrom ops.toList []

theorem masksFrom_spec : ∀ (os : List Oper) (acc : List Nat), (masksFrom os acc).length = acc.length + os.length ∧ (∀ i, i < acc.length → (masksFrom os acc)[i]? = acc[i]?) ∧
    ∀ i o, os[i]? = some o → (masksFrom os acc)[acc.length + i]? = some (maskOf ((masksFrom os acc).take (acc.length + i)) o)
  | [], acc => ⟨rfl, fun _ _ => rfl, fun i o h => by simp at h⟩
  | p :: os, acc => by
    obtain ⟨h1, h2, h3⟩ := masksFrom_spec os (acc ++ [maskOf acc p])
    simp only [List.length_append, List.length_cons, List.length_nil] at h1 h2 h3
    refine ⟨by simp only [masksFrom, List.length_cons]; omega, fun i hi => ?_, fun i o ho => ?_⟩
    · simp only [masksFrom]
      rw [h2 i (by omega), List.getElem?_append_left hi]
    · simp only [masksFrom]
      cases i with
      | zero =>
        simp at ho; subst ho
        rw [Nat.add_zero, h2 _ (by omega), List.getElem?_append_right (Nat.le_refl _)]
        have ht : (masksFrom os (acc ++ [maskOf acc p])).take acc.length = acc := by
          apply List.ext_getElem?
          intro j
          rw [List.getElem?_take]
          split
          · rename_i hj; rw [h2 j (by omega), List.getElem?_append_left hj]
          · rename_i hj; simp; omega
        rw [ht]; simp
      | succ i =>
        have := h3 i o (by simpa using ho)
        rw [show acc.length + (i + 1) = acc.length + (0 + 1) + i from by omega]
        exact this

theorem maskOf_bit {acc : List Nat} {o : Oper} {k : Nat} (h : (maskOf acc o).testBit k = true) : ∃ e ∈ o.after.toList, Region.binds .any e = true ∧ (k = e.on ∨ (acc.getD e.on 0).testBit k = true) := by
  unfold maskOf at h
  have key : ∀ (l : List Edge) (s : Nat), (l.foldl (fun s e => if Region.binds .any e then s ||| 2 ^ e.on ||| acc.getD e.on 0 else s) s).testBit k = true → s.testBit k = true ∨ ∃ e ∈ l, Region.binds .any e = true ∧ (k = e.on ∨ (acc.getD e.on 0).testBit k = true) := by
    intro l
    induction l with
    | nil => intro s h; exact .inl h
    | cons e l ih =>
      intro s h
      simp only [List.foldl_cons] at h
      rcases ih _ h with h1 | ⟨e', h1, h2⟩
      · split at h1
        · rename_i hb
          simp only [Nat.testBit_or, Bool.or_eq_true, Nat.testBit_two_pow, decide_eq_true_eq] at h1
          rcases h1 with (h1 | h1) | h1
          · exact .inl h1
          · exact .inr ⟨e, by simp, hb, .inl h1.symm⟩
          · exact .inr ⟨e, by simp, hb, .inr h1⟩
        · exact .inl h1
      · exact .inr ⟨e', by simp [h1], h2⟩
  rcases key _ _ h with h | h
  · simp at h
  · exact h

/-- k stands ahead of i in every order. -/
def bef (ms : List Nat) (i k : Nat) : Bool := (ms.getD i 0).testBit k
theorem bef_step {ops : Array Oper} {i k : Nat} {o : Oper} (ho : ops[i]? = some o) (h : bef (masks ops) i k = true) : ∃ e ∈ o.after.toList, Region.binds .any e = true ∧ (k = e.on ∨ (e.on < i ∧ bef (masks ops) e.on k = true)) := by
  obtain ⟨h1, _, h3⟩ := masksFrom_spec ops.toList []
  have := h3 i o (by simpa using ho)
  simp only [List.length_nil, Nat.zero_add] at this
  unfold bef at h
  rw [List.getD_eq_getElem?_getD, show (masks ops)[i]? = _ from this, Option.getD_some] at h
  obtain ⟨e, he, hb, hk⟩ := maskOf_bit h
  refine ⟨e, he, hb, hk.imp id fun hk => ?_⟩
  rw [List.getD_eq_getElem?_getD, List.getElem?_take] at hk
  by_cases hlt : e.on < i
  · rw [if_pos hlt] at hk
    exact ⟨hlt, by unfold bef; rw [List.getD_eq_getElem?_getD]; exact hk⟩
  · rw [if_neg hlt] at hk; simp at hk

def opAt (ops : Array Oper) (i : Nat) : Oper := ops.getD i default
def isActs (o : Oper) : Bool := match kindOf o.op with | .acts => true | _ => false
def actsFrom : List Oper → Nat → List Nat
  | [], _ => []
  | o :: os, k => match isActs o with
    | true => k :: actsFrom os (k + 1)
    | false => actsFrom os (k + 1)
def effs (ops : Array Oper) : List Nat := actsFrom ops.toList 0
theorem mem_actsFrom : ∀ {os : List Oper} {k i : Nat}, i ∈ actsFrom os k ↔ ∃ j o, os[j]? = some o ∧ isActs o = true ∧ i = k + j
  | [], k, i => by simp [actsFrom]
  | o :: os, k, i => by
    have ih := mem_actsFrom (os := os) (k := k + 1) (i := i)
    have key : (∃ j p, os[j]? = some p ∧ isActs p = true ∧ i = k + 1 + j) ↔ ∃ j p, (o :: os)[j + 1]? = some p ∧ isActs p = true ∧ i = k + (j + 1) := by
      constructor
      · rintro ⟨j, p, h1, h2, h3⟩; exact ⟨j, p, by simpa using h1, h2, by omega⟩
      · rintro ⟨j, p, h1, h2, h3⟩; exact ⟨j, p, by simpa using h1, h2, by omega⟩
    simp only [actsFrom]
    split
    · rename_i ha
      rw [List.mem_cons, ih, key]
      constructor
      · rintro (h | ⟨j, p, h⟩)
        · exact ⟨0, o, rfl, ha, h⟩
        · exact ⟨j + 1, p, h⟩
      · rintro ⟨j, p, h1, h2, h3⟩
        cases j with
        | zero => exact .inl h3
        | succ j => exact .inr ⟨j, p, h1, h2, h3⟩
    · rename_i ha
      rw [ih, key]
      constructor
      · rintro ⟨j, p, h⟩; exact ⟨j + 1, p, h⟩
      · rintro ⟨j, p, h1, h2, h3⟩
        cases j with
        | zero => cases h1; rw [ha] at h2; cases h2
        | succ j => exact ⟨j, p, h1, h2, h3⟩
/-- The temporaries that an operation looks at. -/
def looks (ops : Array Oper) (o : Oper) : List Tmp :=
  (o.op.operands.toList.filterMap fun | .tmp t => some t | _ => none) ++ (match o.guard with | some (g, _) => ((ops[g]?).bind (·.dst)).toList | none => [])
/-- The first of these that writes d, from k on. -/
def writerOf : List Oper → Nat → Tmp → Option Nat
  | [], _, _ => none
  | o :: os, k, d => match o.dst with
    | none => writerOf os (k + 1) d
    | some e => match Nat.beq e d with
      | true => some k
      | false => writerOf os (k + 1) d
def lone : List Oper → Bool
  | [] => true
  | o :: os => (match o.dst with | none => true | some d => (match writerOf os 0 d with | none => true | some _ => false)) && lone os
def namesOk (ops : Array Oper) (ms : List Nat) : List Oper → Nat → Bool
  | [], _ => true
  | o :: os, i => ((looks ops o).all fun d => match writerOf ops.toList 0 d with
      | none => true
      | some w => Nat.beq w i || (match Nat.blt w i with | true => bef ms i w | false => bef ms w i)) && namesOk ops ms os (i + 1)
def backOk : List Oper → Nat → Bool
  | [], _ => true
  | o :: os, i => (o.after.toList.all fun e => !Region.binds .any e || Nat.blt e.on i) && backOk os (i + 1)
def rck (ops : Array Oper) : Bool :=
  let ms := masks ops
  backOk ops.toList 0 &&
  ((effs ops).all fun i => (effs ops).all fun k => !Nat.blt k i || bef ms i k) &&
  lone ops.toList && namesOk ops ms ops.toList 0
theorem writerOf_none : ∀ {os : List Oper} {k : Nat} {d : Tmp}, writerOf os k d = none → ∀ (j : Nat) (o : Oper), os[j]? = some o → o.dst ≠ some d
  | [], _, _, _, j, o, h => by simp at h
  | p :: os, k, d, h, j, o, ho => by
    simp only [writerOf] at h
    split at h
    · rename_i hd
      cases j with
      | zero => cases ho; rw [hd]; intro e; cases e
      | succ j => exact writerOf_none h j o (by simpa using ho)
    · rename_i e hd
      split at h
      · cases h
      · rename_i hne
        cases j with
        | zero => cases ho; rw [hd]; intro e'; cases e'; rw [Nat.beq_refl] at hne; cases hne
        | succ j => exact writerOf_none h j o (by simpa using ho)
theorem writerOf_some : ∀ {os : List Oper} {k : Nat} {d : Tmp} {w : Nat}, writerOf os k d = some w → ∃ j o, os[j]? = some o ∧ o.dst = some d ∧ w = k + j
  | [], _, _, _, h => by simp [writerOf] at h
  | p :: os, k, d, w, h => by
    simp only [writerOf] at h
    split at h
    · obtain ⟨j, o, h1, h2, h3⟩ := writerOf_some h
      exact ⟨j + 1, o, by simpa using h1, h2, by omega⟩
    · rename_i e hd
      split at h
      · rename_i he
        cases h
        exact ⟨0, p, rfl, by rw [hd, Nat.eq_of_beq_eq_true he], rfl⟩
      · obtain ⟨j, o, h1, h2, h3⟩ := writerOf_some h
        exact ⟨j + 1, o, by simpa using h1, h2, by omega⟩
theorem lone_spec : ∀ {os : List Oper}, lone os = true → ∀ (w i : Nat) (ow oi : Oper) (d : Tmp), os[w]? = some ow → os[i]? = some oi → w < i → ow.dst = some d → oi.dst ≠ some d
  | [], _, w, _, _, _, _, h, _, _, _ => by simp at h
  | p :: os, h, w, i, ow, oi, d, hw, hi, hlt, hd => by
    simp only [lone, Bool.and_eq_true] at h
    cases i with
    | zero => omega
    | succ i =>
      cases w with
      | zero =>
        cases hw
        have h1 := h.1
        rw [hd] at h1
        simp only at h1
        split at h1
        · rename_i hn; exact writerOf_none hn i oi (by simpa using hi)
        · cases h1
      | succ w => exact lone_spec h.2 w i ow oi d (by simpa using hw) (by simpa using hi) (by omega) hd
theorem namesOk_spec {ops : Array Oper} {ms : List Nat} : ∀ {os : List Oper} {k : Nat}, namesOk ops ms os k = true → ∀ (i : Nat) (o : Oper), os[i]? = some o → ∀ d ∈ looks ops o, ∀ w, writerOf ops.toList 0 d = some w → w = k + i ∨ (if w < k + i then bef ms (k + i) w else bef ms w (k + i)) = true
  | [], _, _, i, o, h => by simp at h
  | p :: os, k, h, i, o, ho => by
    simp only [namesOk, Bool.and_eq_true] at h
    cases i with
    | zero =>
      cases ho
      intro d hd w hw
      have h1 := h.1
      rw [List.all_eq_true] at h1
      have := h1 d hd
      rw [hw] at this
      simp only [Bool.or_eq_true] at this
      rcases this with h2 | h2
      · exact .inl (Nat.eq_of_beq_eq_true h2)
      · right
        split at h2
        · rename_i hb
          rw [if_pos (by simpa [Nat.blt_eq] using hb)]; exact h2
        · rename_i hb
          rw [if_neg (by intro hc; rw [Nat.blt_eq.mpr (by simpa using hc)] at hb; cases hb)]; exact h2
    | succ i =>
      have := namesOk_spec h.2 i o (by simpa using ho)
      rwa [show k + 1 + i = k + (i + 1) from by omega] at this
theorem backOk_spec : ∀ {os : List Oper} {k : Nat}, backOk os k = true → ∀ (i : Nat) (o : Oper), os[i]? = some o → ∀ e ∈ o.after, Region.binds .any e = true → e.on < k + i
  | [], _, _, i, o, h => by simp at h
  | p :: os, k, h, i, o, ho => by
    simp only [backOk, Bool.and_eq_true] at h
    cases i with
    | zero =>
      cases ho
      intro e he hb
      have h1 := h.1
      rw [List.all_eq_true] at h1
      have := h1 e (by simpa using he)
      rw [hb] at this
      simpa [Nat.blt_eq] using this
    | succ i =>
      have := backOk_spec h.2 i o (by simpa using ho)
      rwa [show k + 1 + i = k + (i + 1) from by omega] at this

structure Rck (ops : Array Oper) : Prop where
  back : ∀ (i : Nat) (o : Oper), ops[i]? = some o → ∀ e ∈ o.after, Region.binds .any e = true → e.on < i
  chain : ∀ (i k : Nat) (oi ok : Oper), ops[i]? = some oi → ops[k]? = some ok → kindOf oi.op = .acts → kindOf ok.op = .acts → k < i → bef (masks ops) i k = true
  dsts : ∀ (w i : Nat) (ow oi : Oper) (d : Tmp), ops[w]? = some ow → ops[i]? = some oi → w ≠ i → ow.dst = some d → oi.dst ≠ some d
  names : ∀ (w i : Nat) (ow oi : Oper) (d : Tmp), ops[w]? = some ow → ops[i]? = some oi → ow.dst = some d → d ∈ looks ops oi → (w < i → bef (masks ops) i w = true) ∧ (i < w → bef (masks ops) w i = true)
theorem opAt_eq {ops : Array Oper} {i : Nat} {o : Oper} (h : ops[i]? = some o) : opAt ops i = o := by
  unfold opAt; rw [Array.getD_eq_getD_getElem?, h]; rfl
theorem lt_of_at {ops : Array Oper} {i : Nat} {o : Oper} (h : ops[i]? = some o) : i < ops.size := (Array.getElem?_eq_some_iff.1 h).1
theorem isActs_iff {o : Oper} : isActs o = true ↔ kindOf o.op = .acts := by
  unfold isActs
  cases kindOf o.op <;> simp
theorem mem_effs {ops : Array Oper} {i : Nat} : i ∈ effs ops ↔ ∃ o, ops[i]? = some o ∧ kindOf o.op = .acts := by
  unfold effs
  rw [mem_actsFrom]
  constructor
  · rintro ⟨j, o, h1, h2, h3⟩
    have : i = j := by omega
    subst this
    exact ⟨o, by simpa using h1, isActs_iff.1 h2⟩
  · rintro ⟨o, h1, h2⟩
    exact ⟨i, o, by simpa using h1, isActs_iff.2 h2, by omega⟩
theorem Rck.of {ops : Array Oper} (h : rck ops = true) : Rck ops := by
  unfold rck at h
  simp only [Bool.and_eq_true] at h
  obtain ⟨⟨⟨h1, h2⟩, h3⟩, h4⟩ := h
  have hdst : ∀ (w i : Nat) (ow oi : Oper) (d : Tmp), ops[w]? = some ow → ops[i]? = some oi → w ≠ i → ow.dst = some d → oi.dst ≠ some d := by
    intro w i ow oi d hw hi hne hd
    rcases Nat.lt_or_gt_of_ne hne with hlt | hgt
    · exact lone_spec h3 w i ow oi d (by simpa using hw) (by simpa using hi) hlt hd
    · intro hd'
      exact lone_spec h3 i w oi ow d (by simpa using hi) (by simpa using hw) hgt hd' hd
  refine ⟨?_, ?_, hdst, ?_⟩
  · intro i o ho e he hb
    have := backOk_spec h1 i o (by simpa using ho) e he hb
    omega
  · intro i k oi ok hi hk ai ak hlt
    rw [List.all_eq_true] at h2
    have h2' := h2 i (mem_effs.2 ⟨_, hi, ai⟩)
    rw [List.all_eq_true] at h2'
    have := h2' k (mem_effs.2 ⟨_, hk, ak⟩)
    rw [Nat.blt_eq.mpr hlt] at this
    simpa using this
  · intro w i ow oi d hw hi hd hl
    have hw' : writerOf ops.toList 0 d = some w := by
      cases hc : writerOf ops.toList 0 d with
      | none => exact absurd hd (writerOf_none hc w ow (by simpa using hw))
      | some w' =>
        obtain ⟨j, o, q1, q2, q3⟩ := writerOf_some hc
        have q1' : ops[j]? = some o := by simpa using q1
        have : j = w := Classical.byContradiction fun hne => hdst j w o ow d q1' hw hne q2 hd
        subst this
        rw [q3]; simp
    have := namesOk_spec h4 i oi (by simpa using hi) d hl w hw'
    rw [Nat.zero_add] at this
    constructor
    · intro hlt
      rcases this with h | h
      · omega
      · rw [if_pos hlt] at h; exact h
    · intro hlt
      rcases this with h | h
      · omega
      · rw [if_neg (by omega)] at h; exact h
end Go.Abs
/-
  ABS 17: a region that draws its order: run in the order of its text, it is met in whatever order comes.
-/
namespace Go.Abs

structure Trace where
  as : Nat → Act
  ws : Nat → World
  vs : Nat → Value

/-- May p be the first acting operation still to come when i comes up? -/
def mayAt (ops : Array Oper) (ms : List Nat) (i p : Nat) : Bool := ((effs ops).all fun e => !decide (e < p) || !bef ms e i) && !bef ms i p

/-- A value that names a new block. -/
def newVal (v : Value) (b : Nat) : Prop := v = .pointer (some ⟨b, 0, none⟩) ∨ (∃ l c, v = .slice (some ⟨b, 0, none⟩) l c) ∨ v = .map (some b)

def StepOk (P : Program) (L : Lvl) (ops : Array Oper) (T : Trace) (i : Nat) (o : Oper) : Prop :=
  T.as (i + 1) = (T.as i).put o.dst (T.vs i) ∧
  if Region.wanted o (yielded ops (T.as i).tmps) then
    match kindOf o.op with
    | .quiet => T.ws (i + 1) = T.ws i ∧ ∀ p, p ∈ effs ops ++ [ops.size] → mayAt ops (masks ops) i p = true → AOp P (T.as i).eval o (T.ws p) (.value (T.vs i)) (T.ws p)
    | .makes => ∃ obj, T.ws (i + 1) = (T.ws i).alloc obj ∧ wr obj = true ∧ newVal (T.vs i) (T.ws i).heap.size ∧
        (∀ w, w.heap.size = (T.ws i).heap.size → RegOk P w (T.as i).eval o.op ∧ (execOp (T.as i).eval o).run P w = .ok (.value (T.vs i)) (w.alloc obj)) ∧
        ∀ p, p ∈ effs ops ++ [ops.size] → i < p → mayAt ops (masks ops) i p = true → (T.ws p).heap[(T.ws i).heap.size]? = some obj
    | .acts => RunOp P L o (T.as i) (T.ws i) (T.vs i) (T.ws (i + 1))
  else T.ws (i + 1) = T.ws i ∧ T.vs i = undef

def RunDraw (P : Program) (L : Lvl) (ops : Array Oper) (a : Act) (A : World) (a' : Act) (A' : World) : Prop :=
  rck ops = true ∧ ∃ T : Trace, T.as 0 = a ∧ T.ws 0 = A ∧ T.as ops.size = a' ∧ T.ws ops.size = A' ∧ ∀ (i : Nat) (o : Oper), ops[i]? = some o → StepOk P L ops T i o

section
variable {P : Program} {n₀ : Nat} {L : Lvl} {ops : Array Oper} {T : Trace}

theorem step_size (hL : Snd P n₀ L) {i : Nat} {o : Oper} (h : StepOk P L ops T i o) : (T.ws i).heap.size ≤ (T.ws (i + 1)).heap.size := by
  obtain ⟨_, h⟩ := h
  split at h
  · split at h
    · rw [h.1]; exact Nat.le_refl _
    · obtain ⟨obj, h1, _⟩ := h; rw [h1]; simp
    · exact op_size hL h
  · rw [h.1]; exact Nat.le_refl _

/-- 'operation i makes this new block'. -/
def Mk (P : Program) (ops : Array Oper) (T : Trace) (i : Nat) (obj : Obj) : Prop :=
  ∃ o, ops[i]? = some o ∧ Region.wanted o (yielded ops (T.as i).tmps) = true ∧ kindOf o.op = .makes ∧ T.ws (i + 1) = (T.ws i).alloc obj ∧ wr obj = true ∧ newVal (T.vs i) (T.ws i).heap.size ∧
    (∀ w, w.heap.size = (T.ws i).heap.size → RegOk P w (T.as i).eval o.op ∧ (execOp (T.as i).eval o).run P w = .ok (.value (T.vs i)) (w.alloc obj)) ∧
    ∀ p, p ∈ effs ops ++ [ops.size] → i < p → mayAt ops (masks ops) i p = true → (T.ws p).heap[(T.ws i).heap.size]? = some obj

/-- 'as', place by place: what those of a set have put there, else what was there. -/
structure Puts (ops : Array Oper) (T : Trace) (S : Nat → Prop) (a : Act) : Prop where
  size : a.tmps.size = (T.as 0).tmps.size
  defers : a.defers = (T.as 0).defers
  put : ∀ i o d, S i → ops[i]? = some o → o.dst = some d → d < (T.as 0).tmps.size → a.tmps[d]? = some (T.vs i)
  keep : ∀ t, (∀ i o, S i → ops[i]? = some o → o.dst ≠ some t) → a.tmps[t]? = (T.as 0).tmps[t]?

theorem Puts.add (R : Rck ops) {S : Nat → Prop} {a : Act} (h : Puts ops T S a) {i : Nat} {o : Oper} (ho : ops[i]? = some o) (hi : ¬ S i) : Puts ops T (fun k => S k ∨ k = i) (a.put o.dst (T.vs i)) := by
  cases hd : o.dst with
  | none =>
    refine ⟨h.size, h.defers, ?_, ?_⟩
    · rintro k ok d (hk | rfl) hok hdk hlt
      · exact h.put k ok d hk hok hdk hlt
      · rw [ho] at hok; cases hok; rw [hd] at hdk; cases hdk
    · intro t ht
      exact h.keep t fun k ok hk => ht k ok (.inl hk)
  | some d =>
    refine ⟨by simp [Act.put, h.size], h.defers, ?_, ?_⟩
    · rintro k ok d' (hk | rfl) hok hdk hlt
      · have hne : d ≠ d' := fun e => R.dsts i k o ok d ho hok (fun e => hi (e ▸ hk)) hd (e ▸ hdk)
        simp only [Act.put]
        rw [Array.getElem?_setIfInBounds_ne hne]
        exact h.put k ok d' hk hok hdk hlt
      · rw [ho] at hok; cases hok; rw [hd] at hdk; cases hdk
        simp only [Act.put]
        exact Array.getElem?_setIfInBounds_self_of_lt (by rw [h.size]; exact hlt)
    · intro t ht
      have hne : d ≠ t := fun e => ht i o (.inr rfl) ho (e ▸ hd)
      simp only [Act.put]
      rw [Array.getElem?_setIfInBounds_ne hne]
      exact h.keep t fun k ok hk => ht k ok (.inl hk)
theorem Puts.text (R : Rck ops) (hT : ∀ (i : Nat) (o : Oper), ops[i]? = some o → StepOk P L ops T i o) : ∀ i, i ≤ ops.size → Puts ops T (fun k => k < i) (T.as i) := by
  intro i
  induction i with
  | zero => exact fun _ => ⟨rfl, rfl, fun k _ _ h => absurd h (Nat.not_lt_zero _), fun _ _ => rfl⟩
  | succ i ih =>
    intro hi
    have ho : ops[i]? = some ops[i] := Array.getElem?_eq_getElem (by omega)
    have := (ih (by omega)).add R ho (by omega)
    rw [(hT i _ ho).1]
    have e : (fun k => k < i + 1) = fun k => k < i ∨ k = i := by funext k; simp; omega
    rw [e]; exact this
/-- Two sets that agree on the writers of a temporary. -/
theorem Puts.agree {S S' : Nat → Prop} {a a' : Act} (h : Puts ops T S a) (h' : Puts ops T S' a') {t : Tmp} (hw : ∀ w o, ops[w]? = some o → o.dst = some t → (S w ↔ S' w)) : a.tmps[t]? = a'.tmps[t]? := by
  by_cases hlt : t < (T.as 0).tmps.size
  · by_cases hex : ∃ w o, S w ∧ ops[w]? = some o ∧ o.dst = some t
    · obtain ⟨w, o, hs, ho, hd⟩ := hex
      rw [h.put w o t hs ho hd hlt, h'.put w o t ((hw w o ho hd).1 hs) ho hd hlt]
    · rw [h.keep t (fun w o hs ho hd => hex ⟨w, o, hs, ho, hd⟩), h'.keep t (fun w o hs ho hd => hex ⟨w, o, (hw w o ho hd).2 hs, ho, hd⟩)]
  · rw [Array.getElem?_eq_none (by rw [h.size]; exact Nat.le_of_not_lt hlt), Array.getElem?_eq_none (by rw [h'.size]; exact Nat.le_of_not_lt hlt)]
theorem Puts.eval {S S' : Nat → Prop} {a a' : Act} (h : Puts ops T S a) (h' : Puts ops T S' a') {x : Operand} (hw : ∀ t, x = .tmp t → ∀ w o, ops[w]? = some o → o.dst = some t → (S w ↔ S' w)) : a.eval x = a'.eval x := by
  cases x with
  | tmp t =>
    simp only [Act.eval, Array.getD_eq_getD_getElem?]
    rw [h.agree h' (hw t rfl)]
  | _ => rfl
end
end Go.Abs
