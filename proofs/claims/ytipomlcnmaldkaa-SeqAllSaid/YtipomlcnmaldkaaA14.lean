/-
  ABS 14: soundness of code, calls and rounds, given that of a region that draws.
-/
import Derived.Test.YtipomlcnmaldkaaA13
namespace Go.Abs

/-- What is owed by a region that draws its order. -/
def SndDraw (P : Program) (n₀ : Nat) (D : Array Oper → Act → World → Act → World → Prop) : Prop :=
  ∀ (ops : Array Oper) (a a' : Act) (A A' : World), D ops a A a' A' → A.heap.size ≤ A'.heap.size ∧ ((∀ (i : Nat) (o : Oper), ops[i]? = some o → operOk o = true) →
    ∀ (ι : Ren) (W : World) (b : Act) (ro : Option Nat), Sim P n₀ ι A W → ARl P ι a b → Free ι A A' → wpAnyIn (wide ro) 0 P .any ops (Post P n₀ ι A W .normal a' A') ops.size (Array.replicate ops.size false) b W)

section
variable {P : Program} {n₀ : Nat} {ι ι' : Ren} {A A' W W' : World} {L : Lvl}

theorem loadVar_world {t : TypeId} {a : Addr} {w w' : World} {v : Value} (h : (Go.loadVar t a).run P w = .ok v w') : w' = w := by
  simp only [Go.loadVar, Sem.run_bind] at h
  have hag : ∀ b w1, (isAgg t).run P w = .ok b w1 → w1 = w := by
    intro b w1 hb
    simp only [isAgg, underlying, program, Sem.run_bind, Sem.run, Result.andThen] at hb
    cases hu : P.underlying t with
    | none => rw [hu] at hb; cases hb
    | some d => rw [hu] at hb; simp only [Sem.run_pure] at hb; split at hb <;> (cases hb; rfl)
  cases h1 : (isAgg t).run P w with
  | halt q u => rw [h1] at h; cases h
  | ok b w1 =>
    have := hag _ _ h1
    subst this
    rw [h1] at h
    cases b with
    | true =>
      simp only [Result.andThen, if_true, Sem.run_bind, sizeOf, typeInfo, program, Sem.run] at h
      cases hi : P.info? t with
      | none => rw [hi] at h; cases h
      | some i =>
        rw [hi] at h
        simp only [Sem.run_pure] at h
        cases h2 : (loadCells a i.size).run P w1 with
        | halt q u => rw [h2] at h; cases h
        | ok c u =>
          rw [h2] at h
          cases h
          exact loadCells_world _ _ _ _ _ _ _ h2
    | false =>
      have h3 : (load a).run P w1 = .ok v w' := h
      have := loadCells_world (P := P) a 1 0 #[] w1 #[v] w' (by
        have ea : a.add 0 = a := rfl
        simp only [loadCellsFrom, ea, Sem.run_bind, h3, Result.andThen, Sem.run_pure]; rfl)
      exact this
def resVar (ts : Array Value) : ResultVar → Sem Value
  | .tmp t => pure (ts.getD t undef)
  | .cell a t => do Go.loadVar t (← asAddr (ts.getD a undef))
theorem results_eq (fn : Func) (ts : Array Value) : results fn ts = (do let vs ← fn.results.mapM (resVar ts); pure (if h : vs.size = 1 then vs[0] else .tuple vs)) := by
  unfold results
  have : (fun | .tmp t => pure (ts.getD t undef) | .cell a t => do Go.loadVar t (← asAddr (ts.getD a undef)) : ResultVar → Sem Value) = resVar ts := by funext x; cases x <;> rfl
  rw [← this]; rfl
theorem results_world {fn : Func} {ts : Array Value} {w w' : World} {v : Value} (h : (results fn ts).run P w = .ok v w') : w' = w := by
  rw [results_eq, Array.mapM_eq_mapM_toList] at h
  have hl : ∀ (l : List ResultVar) (w w' : World) (r : List Value), (List.mapM (m := Sem) (resVar ts) l).run P w = .ok r w' → w' = w := by
    intro l
    induction l with
    | nil => intro w w' r h; cases h; rfl
    | cons x l ih =>
      intro w w' r h
      simp only [List.mapM_cons, Sem.run_bind] at h
      have hx : ∀ v u, (resVar ts x).run P w = .ok v u → u = w := by
        intro v u hv
        cases x with
        | tmp t => cases hv; rfl
        | cell a t =>
          simp only [resVar, Sem.run_bind] at hv
          generalize ts.getD a undef = q at hv
          cases q with
          | pointer p =>
            cases p with
            | some p => exact loadVar_world hv
            | none =>
              have hn := runtimePanic_never (P := P) (α := Addr) .nilDeref w
              cases h1 : (asAddr (.pointer none)).run P w with
              | halt a b => rw [h1] at hv; cases hv
              | ok r u => exact absurd h1 (hn r u)
          | _ => cases hv
      cases h1 : (resVar ts x).run P w with
      | halt q u => rw [h1] at h; cases h
      | ok v u =>
        have := hx _ _ h1
        subst this
        rw [h1] at h
        simp only [Result.andThen] at h
        cases h2 : (List.mapM (m := Sem) (resVar ts) l).run P u with
        | halt q u' => rw [h2] at h; cases h
        | ok v' u' =>
          have := ih _ _ _ h2
          subst this
          rw [h2] at h
          cases h
          rfl
  simp only [Sem.run_bind, Sem.run_map] at h
  cases h2 : (List.mapM (m := Sem) (resVar ts) fn.results.toList).run P w with
  | halt q u => rw [h2] at h; cases h
  | ok v' u =>
    have := hl _ _ _ _ h2
    subst this
    rw [h2] at h
    cases h
    rfl

theorem marks_size : ∀ (ds : List Deferred) (A A' : World), Marks P ds A A' → A.heap.size ≤ A'.heap.size
  | [], A, A', h => by cases h; exact Nat.le_refl _
  | d :: ds, A, A', ⟨r, A1, _, h1, h2⟩ => Nat.le_trans (run_size P _ _ _ _ h1) (marks_size ds A1 A' h2)
theorem snd_marks {fn : Func} {R : Ending → World → Prop} {F : Fence} : ∀ (ds ds' : List Deferred) (ι : Ren) (A W : World), Marks P ds A A' → DRel ι ds ds' → Sim P n₀ ι A W → Free ι A A' → ∀ (ts ts' : Array Value), Vs P ι ts ts' →
    ∀ v, (results fn ts).run P A' = .ok v A' → (∀ ι' v' W', Sim P n₀ ι' A' W' → Moves P ι A W ι' A' W' → VRel P ι' v v' → R (.returned v') W') → LeavesInM F 0 P fn ts' R ds' .returning W
  | [], [], ι, A, W, hm, _, S, F, ts, ts', hts, v, hr, hR => by
    cases hm
    obtain ⟨ι1, v', W1, r1, S1, M1, V1⟩ := RS.results (n₀ := n₀) fn hts A' W v A' S hr (fun b x y => by omega)
    have := results_world r1
    subst this
    exact ⟨v', r1, hR ι1 v' W1 S1 M1 V1⟩
  | d :: ds, d' :: ds', ι, A, W, ⟨r, A1, h1, h2, h3⟩, ⟨⟨r', e, q1, q2, q3, q4⟩, hd⟩, S, F, ts, ts', hts, v, hr, hR => by
    rw [h1] at q1; cases q1
    have s1 := run_size P _ _ _ _ h2
    have s2 := marks_size ds A1 A' h3
    obtain ⟨ι1, x, W1, r1, S1, M1, X1⟩ := RS.takeDeferred (n₀ := n₀) q3 q4 A W [] A1 S h2 (F.left s1 s2).2
    have hx : x = [] := X1 rfl
    subst hx
    refine ⟨by simp, .inl ⟨e.blk, W1, q2, r1, ?_⟩⟩
    exact snd_marks ds ds' ι1 A1 W1 h3 (hd.mono M1.le) S1 (F.right M1 s2) ts ts' (hts.mono M1.le) v hr fun ι2 v2 W2 S2 M2 V2 => hR ι2 v2 W2 S2 (M1.trans M2) V2
  | [], _ :: _, _, _, _, _, h, _, _, _, _, _, _, _, _ => h.elim
  | _ :: _, [], _, _, _, _, h, _, _, _, _, _, _, _, _ => h.elim

theorem snd_call {A A' : World} (G : Good P) (hL : Snd P n₀ L) {f : FuncId} {xs : Array Value} {v : Value} (h : callStep P L f xs A v A') : SndCall P n₀ f xs A v A' := by
  obtain ⟨fn, c, e, a1, A1, hf, hb, hc, he, hm, hr⟩ := h
  obtain ⟨s1, c1⟩ := hL.codes _ _ _ _ _ _ _ hc
  have s2 := marks_size _ _ _ hm
  refine ⟨Nat.le_trans s1 s2, fun ι W xs' S hxs F => ?_⟩
  refine callsIn_of_wp_marks hf hb trivial ?_ rfl
  have hact : ARl P ι { tmps := xs ++ Array.replicate (fn.ntmps - xs.size) undef, defers := [] } { tmps := xs' ++ Array.replicate (fn.ntmps - xs'.size) undef, defers := [] } :=
    ⟨hxs.append (by rw [hxs.1]; exact Vs.replicate _ .undef), trivial⟩
  refine wpIn_mono (c1 (G.code f fn c hf hb) ι W _ none (.inl ⟨rfl, rfl⟩) S hact (F.left s1 s2)) ?_
  rintro e' b W1 ⟨rfl, ι1, S1, M1, R1⟩
  have key : LeavesInM (wide none) 0 P fn b.tmps (PostV P n₀ ι A W v A') b.defers .returning W1 :=
    snd_marks a1.defers b.defers ι1 A1 W1 hm R1.defers S1 (F.right M1 s2) a1.tmps b.tmps R1.tmps v hr fun ι2 v2 W2 S2 M2 V2 => ⟨ι2, v2, rfl, S2, M1.trans M2, V2⟩
  rcases he with rfl | rfl
  · exact key
  · exact key

theorem snd_round {A A' : World} (hL : Snd P n₀ L) {l : Nat} {ts : Array Value} {as bd : Code} {v : Value} (h : roundStep P L l ts as bd A v A') : SndRound P n₀ l ts as bd A v A' := by
  obtain ⟨a1, A1, A2, e, a3, A3, j, h1, h2, h3, h4, h5⟩ := h
  obtain ⟨s1, c1⟩ := hL.codes _ _ _ _ _ _ _ h1
  have s2 := run_size P _ _ _ _ h2
  obtain ⟨s3, c3⟩ := hL.codes _ _ _ _ _ _ _ h3
  have s4 := run_size P _ _ _ _ h5
  refine ⟨by omega, fun hok1 hok2 ι W ts' en fn ro he hes S hts F => ?_⟩
  refine roundIn_of_wpIn (F := wide ro) trivial ?_
  have hro : RoRel ι (some l) (some en.blk) := .inr ⟨l, en, rfl, he, hes, rfl⟩
  refine wpIn_mono (c1 hok1 ι W { tmps := ts', defers := [] } (some en.blk) hro S ⟨hts, trivial⟩ (F.left s1 (by omega))) ?_
  rintro e' b W1 ⟨rfl, ι1, S1, M1, R1⟩
  have F1 := F.right M1 (show A1.heap.size ≤ A'.heap.size by omega)
  obtain ⟨ι2, _, W2, r2, S2, M2, _⟩ := RS.beginRound (n₀ := n₀) (M1.le _ _ he) hes A1 W1 () A2 S1 h2 (F1.left s2 (by omega)).2
  refine ⟨W2, r2, ?_⟩
  have F2 := F1.right M2 (show A2.heap.size ≤ A'.heap.size by omega)
  refine wpIn_mono (c3 hok2 ι2 W2 b (some en.blk) ((hro.mono M1.le).mono M2.le) S2 (R1.mono M2.le) (F2.left s3 (by omega))) ?_
  rintro e'' b3 W3 ⟨rfl, ι3, S3, M3, R3⟩
  have F3 := F2.right M3 (show A3.heap.size ≤ A'.heap.size by omega)
  have hen := M3.le _ _ (M2.le _ _ (M1.le _ _ he))
  have hjok : ∀ c, j = some c → codeOk c = true := by
    intro c hc
    subst hc
    cases e'' <;> simp only [jumpOf, Option.some.injEq, reduceCtorEq] at h4 <;> subst h4 <;> rfl
  obtain ⟨ι4, v4, W4, r4, S4, M4, V4⟩ := RS.endRound (n₀ := n₀) hen hes j hjok A3 W3 v A' S3 h5 F3.2
  have fin : PostV P n₀ ι A W v A' (.returned v4) W4 := ⟨ι4, v4, rfl, S4, ((M1.trans M2).trans M3).trans M4, V4⟩
  cases e'' <;> simp only [jumpOf, Option.some.injEq, reduceCtorEq] at h4 <;> subst h4
  · exact ⟨v4, W4, r4, fin⟩
  · exact ⟨v4, W4, r4, fin⟩
  · exact ⟨v4, W4, r4, fin⟩
  · exact ⟨v4, W4, r4, fin⟩
end
end Go.Abs
