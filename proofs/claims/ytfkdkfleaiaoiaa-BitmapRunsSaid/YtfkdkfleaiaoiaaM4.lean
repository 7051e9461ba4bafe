/-
  The plain law of BitmapRank, the rest: what is in both of spans and a row from nothing on; truth values held against one another. No condition.
-/
import Derived.Test.YtfkdkfleaiaoiaaM3
namespace Go.Proofs.Ytfkdkfleaiaoiaa
open Go.Abs
theorem add_snoc {m : List Sp} {f t : Int} (h : ∀ s, m.getLast? = some s → s.2 < f) (hft : f < t) : addSp m f t = m ++ [(f, t)] := by
  unfold addSp
  cases hm : m.getLast? with
  | none => simp only; rw [if_pos hft]
  | some s =>
    have := h s hm
    simp only
    rw [if_neg (by omega), if_pos hft]
theorem and_go {lo i : Int} {m : List Sp} (h : WF lo m) (hlo : -1 ≤ lo) : ∀ {n : Nat} {acc : List Sp}, m.length < n → (∀ s, acc.getLast? = some s → s.2 ≤ lo) → andGo n m [(0, i)] acc = acc ++ clip m i := by
  induction h with
  | nil => intro n acc _ _; rw [andGo_nil]; simp [clip]
  | @cons lo f t m h1 h2 h3 h ih =>
    intro n acc hn hacc
    obtain ⟨n, rfl⟩ : ∃ k, n = k + 1 := ⟨n - 1, by simp at hn; omega⟩
    have hn' : m.length < n := by simpa using hn
    have hf : fromOf f 0 = f := by unfold fromOf; rw [if_neg (by omega)]
    have hl : ∀ s, acc.getLast? = some s → s.2 < f := fun s hs => by have := hacc s hs; omega
    simp only [andGo]
    by_cases hti : t < i
    · rw [if_pos hti]
      have ha : andAdd acc (f, t) (0, i) = acc ++ [(f, t)] := by
        have ht : toOf t i = t := by unfold toOf; rw [if_neg (by omega)]
        simp only [andAdd, hf, ht]
        rw [if_pos h2, add_snoc hl h2]
      rw [ha, ih (by omega) hn' (fun s hs => by simp at hs; subst hs; exact Int.le_refl _)]
      simp only [clip]
      rw [if_pos hti, List.append_assoc]; rfl
    · rw [if_neg hti]
      have ht : toOf t i = i := by unfold toOf; split <;> omega
      simp only [andAdd, hf, ht, clip]
      rw [if_neg hti]
      split
      · rename_i hfi; rw [add_snoc hl hfi]
      · simp
theorem and_clip {i : Int} {m : List Sp} (h : WF (-1) m) : andL m [(0, i)] = clip m i := by
  unfold andL
  rw [and_go h (by decide) (by simp) (fun s hs => by simp at hs)]; rfl
theorem wf_clip {lo i : Int} {m : List Sp} (h : WF lo m) (hi : i ≤ 65536) : WF lo (clip m i) := by
  induction h with
  | nil => exact .nil
  | cons h1 h2 h3 h ih =>
    simp only [clip]
    split
    · exact .cons h1 h2 h3 ih
    · split
      · exact .cons h1 ‹_› hi .nil
      · exact .nil
theorem clip_len {i : Int} : ∀ {m : List Sp}, (clip m i).length ≤ m.length
  | [] => Nat.le_refl _
  | (f, t) :: m => by
    have := clip_len (i := i) (m := m)
    simp only [clip]
    split
    · simpa using this
    · split <;> simp
/-- What is in both of m and the numbers below i. -/
theorem and_span {i : Int} {m : List Sp} (h : WF (-1) m) (h0 : 0 ≤ i) (h1 : i ≤ 65536) : ∀ {b : List Sp}, b = addSp [] (if (0 : Int) < 0 then 0 else 0) (if (65536 : Int) < i then 65536 else i) → b.length ≤ 1 ∧ WF (-1) (andL m b) ∧ (andL m b).length ≤ m.length ∧ count (andL m b) = rank m i := by
  intro b hb
  rw [if_neg (by decide), if_neg (by omega), addSp_nil] at hb
  by_cases hi : 0 < i
  · rw [if_pos hi] at hb
    subst hb
    rw [and_clip h]
    exact ⟨by simp, wf_clip h h1, clip_len, count_clip h h1⟩
  · rw [if_neg hi] at hb
    subst hb
    have e : andL m [] = [] := andGo_nil2
    rw [e, rank_low h (by omega)]
    exact ⟨by simp, .nil, by simp, rfl⟩
/-- What Select tells. -/
theorem sel_law {m : List Sp} {k : Int} (h : WF (-1) m) : (0 ≤ sel0 m k ↔ 0 ≤ k ∧ k < count m) ∧ (0 ≤ sel0 m k → rank m (sel0 m k) = k ∧ has m (sel0 m k) = true) := by
  unfold sel0
  by_cases hk : k < 0
  · rw [if_pos hk]
    exact ⟨⟨fun h => absurd h (by decide), fun h => by omega⟩, fun h => absurd h (by decide)⟩
  · rw [if_neg hk]
    by_cases hc : k < count m
    · obtain ⟨g1, g2, g3⟩ := sel_in h (by omega) hc
      exact ⟨⟨fun _ => ⟨by omega, hc⟩, fun _ => by omega⟩, fun _ => ⟨g2, g3⟩⟩
    · rw [sel_out h (by omega)]
      exact ⟨⟨fun h => absurd h (by decide), fun h => by omega⟩, fun h => absurd h (by decide)⟩
section
variable {P : Program} {A : World} {ρ : Operand → Value} {o : Oper}
theorem run_boolEq {t : TypeId} {a b : Bool} {w : World} (hu : P.underlying t = some .bool) : (Op.equal t (.bool a) (.bool b)).run P w = .ok (a == b) w := by
  unfold Op.equal Op.maxDepth Op.equalIn
  simp only [Sem.run_bind, run_under hu, Result.andThen, Sem.run_pure]
theorem aop_boolNeq {t : TypeId} {x y : Operand} {z : TypeId} {a b : Bool} (h : o.op = .binOp .neq t x y z) (hx : ρ x = .bool a) (hy : ρ y = .bool b) (hu : P.underlying t = some .bool) : AOp P ρ o A (.value (.bool (a != b))) A := by
  refine .inl ⟨_, rfl, rfl, rfl, ?_, by rw [h]; rfl, fun w => ?_⟩
  · rw [h]; intro u hu
    simp only [Op.operands, List.mem_toArray, List.mem_cons, List.not_mem_nil, or_false] at hu
    rcases hu with rfl | rfl
    · rw [hx]; rfl
    · rw [hy]; rfl
  · unfold execOp; rw [h]; simp only [hx, hy]
    have e1 : (eqGuard .neq t x y (.bool a) (.bool b)).run P w = .ok () w := rfl
    have e2 : (binOp .neq t (.bool a) (.bool b)).run P w = .ok (.bool (a != b)) w := by
      show (do Pure.pure (Value.bool (!(← Op.equal t (.bool a) (.bool b)))) : Sem Value).run P w = _
      simp only [Sem.run_bind, run_boolEq hu, Result.andThen, Sem.run_pure]
      rfl
    simp only [Sem.run_bind, e1, e2, Result.andThen, Sem.run_pure]
theorem aop_boolEql {t : TypeId} {x y : Operand} {z : TypeId} {a b : Bool} (h : o.op = .binOp .eql t x y z) (hx : ρ x = .bool a) (hy : ρ y = .bool b) (hu : P.underlying t = some .bool) : AOp P ρ o A (.value (.bool (a == b))) A := by
  refine .inl ⟨_, rfl, rfl, rfl, ?_, by rw [h]; rfl, fun w => ?_⟩
  · rw [h]; intro u hu
    simp only [Op.operands, List.mem_toArray, List.mem_cons, List.not_mem_nil, or_false] at hu
    rcases hu with rfl | rfl
    · rw [hx]; rfl
    · rw [hy]; rfl
  · unfold execOp; rw [h]; simp only [hx, hy]
    have e1 : (eqGuard .eql t x y (.bool a) (.bool b)).run P w = .ok () w := rfl
    have e2 : (binOp .eql t (.bool a) (.bool b)).run P w = .ok (.bool (a == b)) w := by
      show (do Pure.pure (Value.bool (← Op.equal t (.bool a) (.bool b))) : Sem Value).run P w = _
      simp only [Sem.run_bind, run_boolEq hu, Result.andThen, Sem.run_pure]
    simp only [Sem.run_bind, e1, e2, Result.andThen, Sem.run_pure]
end
end Go.Proofs.Ytfkdkfleaiaoiaa
/-
  asterismlaw7.BitmapRank answers true. No condition.
-/
namespace Go.Proofs.Ytfkdkfleaiaoiaa
open Go.Abs
variable {n₀ : Nat}
set_option maxRecDepth 8000
theorem all3 {R : Nat → Prop} {p0 p1 p2 : Nat} (h0 : R p0) (h1 : R p1) (h2 : R p2) : ∀ q ∈ [p0, p1, p2], R q := fun q hq => by
  rcases List.mem_cons.1 hq with rfl | hq
  · exact h0
  · exact all2 h1 h2 q hq
theorem wpO_stepN {P : Program} {n₀ : Nat} {ops : Array Oper} {o : Oper} {os : List Oper} {Q : Act → World → Prop} {a : Act} {A A1 : World} {v : Value} (h : RunOp P (Wd P n₀) o a A v A1) (k : wpO P n₀ ops os Q (a.put o.dst v) A1) (hw : Region.wanted o (yielded ops a.tmps) = true) : wpO P n₀ ops (o :: os) Q a A := by
  unfold wpO; rw [if_pos hw]; exact ⟨v, A1, h, k⟩
theorem wpO_callN {n₀ : Nat} {a : Act} {A A1 : World} {o : Oper} {c : Call} {g : Operand} {f : FuncId} {fn : Func} {code : Code} {v : Value} {l : List Value} (h : SndCall Try.prog n₀ f l.toArray A v A1) (H : IsFn Try.prog f fn code) (hg : a.eval g = .func (.func f) #[] #[]) (hx : c.args.toList.map a.eval = l) (ho : o.op = .call c) (hc : c.callee = .value g) : RunOp Try.prog (Wd Try.prog n₀) o a A v A1 :=
  run_named H h hg hx ho hc
def lft : Code → Code | .seq x _ => x | c => c
def rgt : Code → Code | .seq _ y => y | c => c
def rgts : Nat → Code → Code | 0, c => c | n + 1, c => rgts n (rgt c)
noncomputable def c7 : Code := match Try.prog.funcs[7]? with
  | some fn => (match fn.body with | some c => c | none => .skip)
  | none => .skip
theorem cel_at {b : Nat} {v : Value} {J : Asn} {F : Foot} {A : World} (h : ((cel b v).sep J) F A) : ∃ t, A.heap[b]? = some (.cells #[v] t (0, 0)) := by
  obtain ⟨_, h1⟩ := Asn.left h
  obtain ⟨_, t, h2⟩ := h1
  exact ⟨t, h2⟩
set_option maxHeartbeats 16000000 in
/-- BitmapRank, from where a place is looked at. -/
theorem rank_rest {p : Option Addr} {l : List Int} {c q8 : Nat} {k i : Int} {v : Value} {m : List Sp} {J : Asn} {F : Foot} {A : World} (hJ : Owns J) (hwf : WF (-1) m) (hml : m.length ≤ 60) (h : Asn.all [spans v m, cel q8 v, J] F A) (zz : Nat → Value) :
    wpC Try.prog n₀ none (rgts 6 c7) (retQ Try.prog Try.f7 (fun r _ => r = .bool true)) ⟨#[.slice p l.length c, .int .i64 k, .int .i64 i, (zz 3), (zz 4), (zz 5), (zz 6), (zz 7), ptr q8, (zz 9), (zz 10), (zz 11), (zz 12), (zz 13), (zz 14), (zz 15), (zz 16), (zz 17), (zz 18), (zz 19), (zz 20), (zz 21), (zz 22), (zz 23), (zz 24), (zz 25), (zz 26), (zz 27), (zz 28), (zz 29), (zz 30), (zz 31), (zz 32), (zz 33), (zz 34), (zz 35), (zz 36), (zz 37), (zz 38), (zz 39), (zz 40), (zz 41), (zz 42), (zz 43), (zz 44), (zz 45), (zz 46), (zz 47), (zz 48), (zz 49), (zz 50), (zz 51), (zz 52), (zz 53), (zz 54), (zz 55), (zz 56), (zz 57), (zz 58), (zz 59), (zz 60), (zz 61), (zz 62), (zz 63), (zz 64), (zz 65), (zz 66), (zz 67), (zz 68), (zz 69), (zz 70), (zz 71), (zz 72), (zz 73), (zz 74), (zz 75), (zz 76)], []⟩ A := by
  by_cases hi0 : i < 0
  case pos =>
    refine cw_seq good (cw_seq good (cw_region good ?_))
    refine wpO_mv (.int .i64 i) (by kernel_rfl) ?_
    refine wpO_val (aop_int (k := .i64) (m := i) (n := 0) (v := .bool true) rfl (by kernel_rfl) (by kernel_rfl) (by simp [intV]; omega)) ?_
    refine wpO_mv (.bool true) (by kernel_rfl) ?_
    simp only [Act.put, List.setIfInBounds_toArray, List.set_cons_succ, List.set_cons_zero]
    with_reducible refine wpO_not ?_ (hw := by kernel_rfl)
    with_reducible refine wpO_not ?_ (hw := by kernel_rfl)
    refine wpO_val (aop_picks (b := true) (v := .bool true) rfl (by kernel_rfl) (by kernel_rfl)) ?_
    simp only [Act.put, List.setIfInBounds_toArray, List.set_cons_succ, List.set_cons_zero]
    refine cw_cond good true (by kernel_rfl) ?_
    refine cw_seq good (cw_region good ?_)
    refine wpO_as (.bool true) (by kernel_rfl) ?_
    simp only [Act.put, List.setIfInBounds_toArray, List.set_cons_succ, List.set_cons_zero]
    exact cw_ret good (ret_one (.bool true) (by kernel_rfl) rfl)
  by_cases hi1 : 65536 < i
  case pos =>
    refine cw_seq good (cw_seq good (cw_region good ?_))
    refine wpO_mv (.int .i64 i) (by kernel_rfl) ?_
    refine wpO_val (aop_int (k := .i64) (m := i) (n := 0) (v := .bool false) rfl (by kernel_rfl) (by kernel_rfl) (by simp [intV]; omega)) ?_
    refine wpO_mv (.bool false) (by kernel_rfl) ?_
    simp only [Act.put, List.setIfInBounds_toArray, List.set_cons_succ, List.set_cons_zero]
    with_reducible refine wpO_mv (.int .i64 i) (by kernel_rfl) ?_ (hw := by kernel_rfl)
    simp only [Act.put, List.setIfInBounds_toArray, List.set_cons_succ, List.set_cons_zero]
    with_reducible refine wpO_val (v := .bool true) (A1 := A) ?_ ?_ (hw := by kernel_rfl)
    · exact aop_int (k := .i64) (m := i) (n := 65536) (v := .bool true) rfl (by kernel_rfl) (by kernel_rfl) (by simp [intV]; omega)
    refine wpO_val (aop_picks (b := false) (v := .bool true) rfl (by kernel_rfl) (by kernel_rfl)) ?_
    simp only [Act.put, List.setIfInBounds_toArray, List.set_cons_succ, List.set_cons_zero]
    refine cw_cond good true (by kernel_rfl) ?_
    refine cw_seq good (cw_region good ?_)
    refine wpO_as (.bool true) (by kernel_rfl) ?_
    simp only [Act.put, List.setIfInBounds_toArray, List.set_cons_succ, List.set_cons_zero]
    exact cw_ret good (ret_one (.bool true) (by kernel_rfl) rfl)
  obtain ⟨u0, hb0⟩ := cel_at (Asn.swap h)
  have hm : m.length < 100000 := by omega
  have oc : Owns ((cel q8 v).sep J) := Owns.sep Owns.cel hJ
  obtain ⟨B1, G1, c1, h1, _⟩ := rank_call (n₀ := n₀) (i := i) oc hwf hm h
  obtain ⟨u1, hb1⟩ := cel_at (Asn.swap h1)
  obtain ⟨v2, B2, G2, c2, h2, _⟩ := span_call (n₀ := n₀) (from_ := 0) (to_ := i) (Owns.sep Owns.spans oc) h1
  obtain ⟨b, hbe⟩ : ∃ b, b = addSp [] (if (0 : Int) < 0 then 0 else 0) (if (65536 : Int) < i then 65536 else i) := ⟨_, rfl⟩
  obtain ⟨hb1l, hwa, hla, hca⟩ := and_span hwf (by omega) (by omega) hbe
  rw [← hbe] at h2
  obtain ⟨u2, hb2⟩ := cel_at (J := Asn.all [spans v2 b, spans v m, J]) (Asn.perm [spans v2 b, spans v m, cel q8 v, J] [2, 0, 1, 3] h2 (by decide))
  obtain ⟨v3, B3, G3, c3, h3, _⟩ := and_call (n₀ := n₀) oc (by omega) (Asn.swap h2)
  have h3' : Asn.all [spans v3 (andL m b), spans v m, spans v2 b, cel q8 v, J] G3 B3 := h3
  obtain ⟨B4, G4, c4, h4, _⟩ := count_call (n₀ := n₀) (Owns.sep Owns.spans (Owns.sep Owns.spans oc)) hwa (by omega) h3'
  rw [hca] at c4
  have h4' := Asn.perm [spans v3 (andL m b), spans v m, spans v2 b, cel q8 v, J] [3, 1, 0, 2, 4] h4 (by decide)
  obtain ⟨u4, hb4⟩ := cel_at h4'
  have o5 : Owns (Asn.all [cel q8 v, spans v3 (andL m b), spans v2 b, J]) := Owns.sep Owns.cel (Owns.sep Owns.spans (Owns.sep Owns.spans hJ))
  have h4s := Asn.swap h4'
  obtain ⟨B5, G5, c5, h5, _⟩ := rank_call (n₀ := n₀) (i := i + 1) o5 hwf hm h4s
  obtain ⟨u5, hb5⟩ := cel_at (Asn.swap h5)
  obtain ⟨B6, G6, c6, h6, _⟩ := rank_call (n₀ := n₀) (i := i) o5 hwf hm h5
  obtain ⟨u6, hb6⟩ := cel_at (Asn.swap h6)
  obtain ⟨B7, G7, c7', h7, _⟩ := has_call (n₀ := n₀) (i := i) o5 hm h6
  have hnx := rank_next (i := i) hwf
  have r0 := rank_nonneg (i := i) hwf
  have r1 := rank_le (i := i) hwf (by decide)
  have r2 := rank_nonneg (i := i + 1) hwf
  have r3 := rank_le (i := i + 1) hwf (by decide)
  refine cw_seq good (cw_seq good (cw_region good ?_))
  refine wpO_mv (.int .i64 i) (by kernel_rfl) ?_
  refine wpO_val (aop_int (k := .i64) (m := i) (n := 0) (v := .bool false) rfl (by kernel_rfl) (by kernel_rfl) (by simp [intV]; omega)) ?_
  refine wpO_mv (.bool false) (by kernel_rfl) ?_
  simp only [Act.put, List.setIfInBounds_toArray, List.set_cons_succ, List.set_cons_zero]
  with_reducible refine wpO_mv (.int .i64 i) (by kernel_rfl) ?_ (hw := by kernel_rfl)
  simp only [Act.put, List.setIfInBounds_toArray, List.set_cons_succ, List.set_cons_zero]
  with_reducible refine wpO_val (v := .bool false) (A1 := A) ?_ ?_ (hw := by kernel_rfl)
  · exact aop_int (k := .i64) (m := i) (n := 65536) (v := .bool false) rfl (by kernel_rfl) (by kernel_rfl) (by simp [intV]; omega)
  refine wpO_val (aop_picks (b := false) (v := .bool false) rfl (by kernel_rfl) (by kernel_rfl)) ?_
  simp only [Act.put, List.setIfInBounds_toArray, List.set_cons_succ, List.set_cons_zero]
  refine cw_cond good false (by kernel_rfl) (cw_skip good ?_)
  have e22 : ((rank m (i + 1) - rank m i == 1) == has m i) = true := by
    rw [hnx]; cases has m i <;> rfl
  have he22 : ∀ {A : World} {ρ : Operand → Value} {o : Oper}, AOp Try.prog ρ o A (.value (.bool ((rank m (i + 1) - rank m i == 1) == has m i))) A → AOp Try.prog ρ o A (.value (.bool true)) A := fun h => by rw [e22] at h; exact h
  refine cw_seq good (ca_draw good [.agg #[v], .int .i64 i, .int .i64 (rank m i), .agg #[v], .int .i64 i, .agg #[v2], .agg #[v3], .int .i64 (rank m i), .bool true, .bool true, .agg #[v], .int .i64 i, .int .i64 (i + 1), .int .i64 (rank m (i + 1)), .agg #[v], .int .i64 i, .int .i64 (rank m i), .int .i64 (rank m (i + 1) - rank m i), .bool (rank m (i + 1) - rank m i == 1), .agg #[v], .int .i64 i, .bool (has m i), .bool true, .bool true, .bool true] [A, A, A, B1, B1, B1, B2, B3, B4, B4, B4, B4, B4, B4, B5, B5, B5, B6, B6, B6, B6, B6, B7, B7, B7, B7] (by kernel_rfl) rfl ?_ ⟨#[.slice p l.length c, .int .i64 k, .int .i64 i, (zz 3), (zz 4), (zz 5), .bool true, (zz 7), ptr q8, (zz 9), (zz 10), (zz 11), (zz 12), (zz 13), (zz 14), (zz 15), (zz 16), (zz 17), (zz 18), (zz 19), (zz 20), (zz 21), (zz 22), (zz 23), (zz 24), (zz 25), (zz 26), (zz 27), (zz 28), (zz 29), (zz 30), (zz 31), (zz 32), (zz 33), (zz 34), (zz 35), (zz 36), (zz 37), (zz 38), (zz 39), (zz 40), (zz 41), (zz 42), (zz 43), (zz 44), (zz 45), (zz 46), .int .i64 i, .bool false, .bool false, .int .i64 i, .bool false, .bool false, .agg #[v], .int .i64 i, .int .i64 (rank m i), .agg #[v], .int .i64 i, .agg #[v2], .agg #[v3], .int .i64 (rank m i), .bool true, .bool true, .agg #[v], .int .i64 i, .int .i64 (i + 1), .int .i64 (rank m (i + 1)), .agg #[v], .int .i64 i, .int .i64 (rank m i), .int .i64 (rank m (i + 1) - rank m i), .bool (rank m (i + 1) - rank m i == 1), .agg #[v], .int .i64 i, .bool (has m i), .bool true, .bool true], []⟩ _ (by kernel_rfl) rfl ?_)
  · intro jj o ho
    match jj, ho with
    | 0, ho => cases ho; exact sa_quiet rfl [2] (all1 (aop_loadT (n := 1) (p := ⟨q8, 0, none⟩) (xs := #[v]) rfl (by kernel_rfl) rfl hb0 rfl (Nat.le_refl 1) rfl)) rfl
    | 1, ho => cases ho; exact sa_quiet rfl [2] (all1 (aop_mv rfl (by kernel_rfl))) rfl
    | 2, ho => cases ho; exact sa_acts rfl (run_named (f := 16) (l := [.agg #[v], .int .i64 i]) ⟨rfl, rfl, rfl⟩ c1 (by kernel_rfl) (by kernel_rfl))
    | 3, ho => cases ho; exact sa_quiet rfl [2, 5, 6] (all3 (aop_loadT (n := 1) (p := ⟨q8, 0, none⟩) (xs := #[v]) rfl (by kernel_rfl) rfl hb0 rfl (Nat.le_refl 1) rfl) (aop_loadT (n := 1) (p := ⟨q8, 0, none⟩) (xs := #[v]) rfl (by kernel_rfl) rfl hb1 rfl (Nat.le_refl 1) rfl) (aop_loadT (n := 1) (p := ⟨q8, 0, none⟩) (xs := #[v]) rfl (by kernel_rfl) rfl hb2 rfl (Nat.le_refl 1) rfl)) rfl
    | 4, ho => cases ho; exact sa_quiet rfl [2, 5] (all2 (aop_mv rfl (by kernel_rfl)) (aop_mv rfl (by kernel_rfl))) rfl
    | 5, ho => cases ho; exact sa_acts rfl (run_named (f := 27) (l := [.int .i64 0, .int .i64 i]) ⟨rfl, rfl, rfl⟩ c2 (by kernel_rfl) (by kernel_rfl))
    | 6, ho => cases ho; exact sa_acts rfl (run_named (f := 22) (l := [.agg #[v], .agg #[v2]]) ⟨rfl, rfl, rfl⟩ c3 (by kernel_rfl) (by kernel_rfl))
    | 7, ho => cases ho; exact sa_acts rfl (run_named (f := 28) (l := [.agg #[v3]]) ⟨rfl, rfl, rfl⟩ c4 (by kernel_rfl) (by kernel_rfl))
    | 8, ho => cases ho; exact sa_quiet rfl [13] (all1 (aop_int (k := .i64) (m := rank m i) (n := rank m i) rfl (by kernel_rfl) (by kernel_rfl) (by simp [intV]))) rfl
    | 9, ho => cases ho; exact sa_quiet rfl [13] (all1 (aop_mv rfl (by kernel_rfl))) rfl
    | 10, ho => cases ho; exact sa_quiet rfl [13] (all1 (aop_loadT (n := 1) (p := ⟨q8, 0, none⟩) (xs := #[v]) rfl (by kernel_rfl) rfl hb4 rfl (Nat.le_refl 1) rfl)) rfl
    | 11, ho => cases ho; exact sa_quiet rfl [13] (all1 (aop_mv rfl (by kernel_rfl))) rfl
    | 12, ho => cases ho; exact sa_quiet rfl [13] (all1 (aop_int (k := .i64) (m := i) (n := 1) rfl (by kernel_rfl) (by kernel_rfl) (intV_add rfl (by omega) (by omega)))) rfl
    | 13, ho => cases ho; exact sa_acts rfl (run_named (f := 16) (l := [.agg #[v], .int .i64 (i + 1)]) ⟨rfl, rfl, rfl⟩ c5 (by kernel_rfl) (by kernel_rfl))
    | 14, ho => cases ho; exact sa_quiet rfl [13, 16] (all2 (aop_loadT (n := 1) (p := ⟨q8, 0, none⟩) (xs := #[v]) rfl (by kernel_rfl) rfl hb4 rfl (Nat.le_refl 1) rfl) (aop_loadT (n := 1) (p := ⟨q8, 0, none⟩) (xs := #[v]) rfl (by kernel_rfl) rfl hb5 rfl (Nat.le_refl 1) rfl)) rfl
    | 15, ho => cases ho; exact sa_quiet rfl [13, 16] (all2 (aop_mv rfl (by kernel_rfl)) (aop_mv rfl (by kernel_rfl))) rfl
    | 16, ho => cases ho; exact sa_acts rfl (run_named (f := 16) (l := [.agg #[v], .int .i64 i]) ⟨rfl, rfl, rfl⟩ c6 (by kernel_rfl) (by kernel_rfl))
    | 17, ho => cases ho; exact sa_quiet rfl [21, 25] (all2 (aop_int (k := .i64) (m := rank m (i + 1)) (n := rank m i) rfl (by kernel_rfl) (by kernel_rfl) (intV_sub rfl (by omega) (by omega))) (aop_int (k := .i64) (m := rank m (i + 1)) (n := rank m i) rfl (by kernel_rfl) (by kernel_rfl) (intV_sub rfl (by omega) (by omega)))) rfl
    | 18, ho => cases ho; exact sa_quiet rfl [21, 25] (all2 (aop_int (k := .i64) (m := rank m (i + 1) - rank m i) (n := 1) rfl (by kernel_rfl) (by kernel_rfl) rfl) (aop_int (k := .i64) (m := rank m (i + 1) - rank m i) (n := 1) rfl (by kernel_rfl) (by kernel_rfl) rfl)) rfl
    | 19, ho => cases ho; exact sa_quiet rfl [13, 16, 21] (all3 (aop_loadT (n := 1) (p := ⟨q8, 0, none⟩) (xs := #[v]) rfl (by kernel_rfl) rfl hb4 rfl (Nat.le_refl 1) rfl) (aop_loadT (n := 1) (p := ⟨q8, 0, none⟩) (xs := #[v]) rfl (by kernel_rfl) rfl hb5 rfl (Nat.le_refl 1) rfl) (aop_loadT (n := 1) (p := ⟨q8, 0, none⟩) (xs := #[v]) rfl (by kernel_rfl) rfl hb6 rfl (Nat.le_refl 1) rfl)) rfl
    | 20, ho => cases ho; exact sa_quiet rfl [13, 16, 21] (all3 (aop_mv rfl (by kernel_rfl)) (aop_mv rfl (by kernel_rfl)) (aop_mv rfl (by kernel_rfl))) rfl
    | 21, ho => cases ho; exact sa_acts rfl (run_named (f := 14) (l := [.agg #[v], .int .i64 i]) ⟨rfl, rfl, rfl⟩ c7' (by kernel_rfl) (by kernel_rfl))
    | 22, ho => cases ho; exact sa_quiet rfl [25] (all1 (he22 (aop_boolEql (a := (rank m (i + 1) - rank m i == 1)) (b := has m i) rfl (by kernel_rfl) (by kernel_rfl) rfl))) rfl
    | 23, ho => cases ho; exact sa_quiet rfl [25] (all1 (aop_picks (b := true) rfl (by kernel_rfl) (by kernel_rfl))) rfl
    | 24, ho => cases ho; exact sa_quiet rfl [25] (all1 (aop_as rfl (by kernel_rfl))) rfl
    | n + 25, ho => simp at ho
  exact cw_ret good (ret_one (.bool true) (by kernel_rfl) rfl)
set_option maxHeartbeats 16000000 in
theorem rank_law {p : Option Addr} {l : List Int} {c : Nat} {k i : Int} {A : World} (hc : l.length ≤ c) (hp : p = none → l = [] ∧ c = 0) (hr : Rd A p l) (hro : ∀ ad, p = some ad → RoB A ad.block) (hk : k < 9223372036854775808) :
    ∃ A', SndCall Try.prog n₀ 7 #[.slice p l.length c, .int .i64 k, .int .i64 i] A (.bool true) A' := by
  have hlen : (l.take 60).length = min l.length 60 := by rw [List.length_take, Nat.min_comm]
  have ccut : SndCall Try.prog n₀ 10 #[.slice p l.length c] A (.slice p (l.take 60).length c) A := by rw [hlen]; exact cut_call hc hro
  have hr0 : Rd A p (l.take 60) := fun j x hx => hr j x (by
    rw [List.getElem?_take] at hx
    split at hx
    · exact hx
    · cases hx)
  obtain ⟨v, A1, F1, c1, h1, _⟩ := of_call (n₀ := n₀) (c := c) (l := l.take 60) (J := Asn.nil) (F := fun _ => False) Owns.nil (fun _ h => h) (fun e => ⟨by rw [(hp e).1]; rfl, (hp e).2⟩) hr0 hro (by omega)
  have hwf := wf_of (sorted (l.take 60))
  have hml : (ofL (sorted (l.take 60))).length ≤ 60 := Nat.le_trans (of_len _) (by rw [sorted_len]; omega)
  generalize ofL (sorted (l.take 60)) = m at h1 hwf hml
  have hm : m.length < 100000 := by omega
  have ho : isOne v = true := by
    obtain ⟨_, hk⟩ := Asn.left h1
    obtain ⟨_, rfl⟩ := spans_val hk
    rfl
  obtain ⟨F2, h2, _⟩ := Asn.new (Owns.sep Owns.spans Owns.nil) h1 (.slice none 0 0) 27
  generalize hq8 : A1.heap.size = q8 at h2
  generalize hA2 : A1.alloc (.cells #[.slice none 0 0] 27 (0, 0)) = A2 at h2
  obtain ⟨h3, _⟩ := Asn.put (Owns.sep Owns.spans Owns.nil) h2 v
  generalize hA3 : A2.setCell ⟨q8, 0, none⟩ v = A3 at h3
  have h3s := Asn.swap h3
  have oc : Owns ((cel q8 v).sep Asn.nil) := Owns.sep Owns.cel Owns.nil
  obtain ⟨u3, hb3⟩ := cel_at h3
  obtain ⟨A4, F4, c4, h4, _⟩ := select_call (n₀ := n₀) (k0 := k) oc hwf hm hk h3s
  obtain ⟨u4, hb4⟩ := cel_at (Asn.swap h4)
  obtain ⟨hs1, hs2⟩ := sel_law (k := k) hwf
  obtain ⟨s, hs⟩ : ∃ s, s = sel0 m k := ⟨_, rfl⟩
  rw [← hs] at c4 hs1 hs2
  suffices hw : wpF Try.prog n₀ 7 #[.slice p l.length c, .int .i64 k, .int .i64 i] (fun r _ => r = .bool true) A by
    obtain ⟨r, A', h1, rfl⟩ := hw
    exact ⟨A', h1⟩
  refine wpF_fn (fn := Try.f7) (ts := #[.slice p l.length c, .int .i64 k, .int .i64 i, undef, undef, undef, undef, undef, undef, undef, undef, undef, undef, undef, undef, undef, undef, undef, undef, undef, undef, undef, undef, undef, undef, undef, undef, undef, undef, undef, undef, undef, undef, undef, undef, undef, undef, undef, undef, undef, undef, undef, undef, undef, undef, undef, undef, undef, undef, undef, undef, undef, undef, undef, undef, undef, undef, undef, undef, undef, undef, undef, undef, undef, undef, undef, undef, undef, undef, undef, undef, undef, undef, undef, undef, undef, undef]) good ⟨rfl, rfl, rfl⟩ (by kernel_rfl) ?_
  refine cw_seq good (cw_region good ?_)
  refine wpO_as (.bool false) (by kernel_rfl) ?_
  simp only [Act.put, List.setIfInBounds_toArray, List.set_cons_succ, List.set_cons_zero]
  refine cw_seq good (cw_region good ?_)
  refine wpO_call (f := 9) (first := #[]) (cap := #[]) (l := []) (xs := #[]) ⟨rfl, rfl, rfl⟩ rfl rfl rfl ⟨_, _, begun_call, ?_⟩
  simp only [Act.put, List.setIfInBounds_toArray, List.set_cons_succ, List.set_cons_zero]
  refine wpO_as (.bool true) (by kernel_rfl) ?_
  simp only [Act.put, List.setIfInBounds_toArray, List.set_cons_succ, List.set_cons_zero]
  refine cw_seq good (cw_seq good (cw_region good ?_))
  refine wpO_mv (.bool true) (by kernel_rfl) ?_
  refine wpO_val (aop_not (b := true) rfl (by kernel_rfl)) ?_
  simp only [Act.put, List.setIfInBounds_toArray, List.set_cons_succ, List.set_cons_zero]
  refine cw_cond good false (by kernel_rfl) (cw_skip good ?_)
  refine cw_seq good (cw_region good ?_)
  refine wpO_mv (.slice p l.length c) (by kernel_rfl) ?_
  simp only [Act.put, List.setIfInBounds_toArray, List.set_cons_succ, List.set_cons_zero]
  refine wpO_call (f := 10) (first := #[]) (cap := #[]) (l := [.slice p l.length c]) (xs := #[.slice p l.length c]) ⟨rfl, rfl, rfl⟩ rfl (by kernel_rfl) rfl ⟨_, _, ccut, ?_⟩
  simp only [Act.put, List.setIfInBounds_toArray, List.set_cons_succ, List.set_cons_zero]
  refine wpO_call (f := 11) (first := #[]) (cap := #[]) (l := [.slice p (l.take 60).length c]) (xs := #[.slice p (l.take 60).length c]) ⟨rfl, rfl, rfl⟩ rfl (by kernel_rfl) rfl ⟨_, _, c1, ?_⟩
  simp only [Act.put, List.setIfInBounds_toArray, List.set_cons_succ, List.set_cons_zero]
  refine wpO_val (aop_allocT (cs := #[.slice none 0 0]) rfl rfl rfl rfl) ?_
  rw [hq8, hA2]
  simp only [Act.put, List.setIfInBounds_toArray, List.set_cons_succ, List.set_cons_zero]
  refine wpO_unit (aop_storeT1 (p := ⟨q8, 0, none⟩) (v := v) rfl (by kernel_rfl) (by kernel_rfl) rfl ho (Asn.get h2) (Asn.soft h2)) ?_
  rw [hA3]
  simp only [Act.put]
  refine cw_seq good (cw_region good ?_)
  refine wpO_val (aop_loadT (n := 1) (p := ⟨q8, 0, none⟩) (xs := #[v]) rfl (by kernel_rfl) rfl hb3 rfl (Nat.le_refl 1) rfl) ?_
  refine wpO_mv (.int .i64 k) (by kernel_rfl) ?_
  simp only [Act.put, List.setIfInBounds_toArray, List.set_cons_succ, List.set_cons_zero]
  refine wpO_call (f := 17) (first := #[]) (cap := #[]) (l := [.agg #[v], .int .i64 k]) (xs := #[.agg #[v], .int .i64 k]) ⟨rfl, rfl, rfl⟩ rfl (by kernel_rfl) rfl ⟨_, _, c4, ?_⟩
  simp only [Act.put, List.setIfInBounds_toArray, List.set_cons_succ, List.set_cons_zero]
  refine wpO_as (.int .i64 s) (by kernel_rfl) ?_
  simp only [Act.put, List.setIfInBounds_toArray, List.set_cons_succ, List.set_cons_zero]
  by_cases hk0 : k < 0
  case pos =>
    refine cw_seq good (cw_seq good (cw_region good ?_))
    refine wpO_mv (.int .i64 s) (by kernel_rfl) ?_
    refine wpO_val (aop_int (k := .i64) (m := s) (n := 0) (v := .bool false) rfl (by kernel_rfl) (by kernel_rfl) (by simp [intV]; omega)) ?_
    refine wpO_mv (.int .i64 k) (by kernel_rfl) ?_
    simp only [Act.put, List.setIfInBounds_toArray, List.set_cons_succ, List.set_cons_zero]
    refine wpO_val (aop_int (k := .i64) (m := k) (n := 0) (v := .bool false) rfl (by kernel_rfl) (by kernel_rfl) (by simp [intV]; omega)) ?_
    refine wpO_mv (.bool false) (by kernel_rfl) ?_
    simp only [Act.put, List.setIfInBounds_toArray, List.set_cons_succ, List.set_cons_zero]
    with_reducible refine wpO_not ?_ (hw := by kernel_rfl)
    with_reducible refine wpO_not ?_ (hw := by kernel_rfl)
    with_reducible refine wpO_not ?_ (hw := by kernel_rfl)
    simp only [Act.put, List.setIfInBounds_toArray, List.set_cons_succ, List.set_cons_zero]
    with_reducible refine wpO_not ?_ (hw := by kernel_rfl)
    refine wpO_val (aop_picks (b := false) (v := .bool false) rfl (by kernel_rfl) (by kernel_rfl)) ?_
    simp only [Act.put, List.setIfInBounds_toArray, List.set_cons_succ, List.set_cons_zero]
    refine wpO_val (aop_boolNeq (a := false) (b := false) rfl (by kernel_rfl) (by kernel_rfl) rfl) ?_
    simp only [Act.put, List.setIfInBounds_toArray, List.set_cons_succ, List.set_cons_zero]
    refine wpO_mv (.bool false) (by kernel_rfl) ?_
    simp only [Act.put, List.setIfInBounds_toArray, List.set_cons_succ, List.set_cons_zero]
    with_reducible refine wpO_mv (.int .i64 s) (by kernel_rfl) ?_ (hw := by kernel_rfl)
    simp only [Act.put, List.setIfInBounds_toArray, List.set_cons_succ, List.set_cons_zero]
    with_reducible refine wpO_val (v := .bool false) (A1 := A4) ?_ ?_ (hw := by kernel_rfl)
    · exact aop_int (k := .i64) (m := s) (n := 0) (v := .bool false) rfl (by kernel_rfl) (by kernel_rfl) (by simp [intV]; omega)
    simp only [Act.put, List.setIfInBounds_toArray, List.set_cons_succ, List.set_cons_zero]
    with_reducible refine wpO_mv (.bool false) (by kernel_rfl) ?_ (hw := by kernel_rfl)
    simp only [Act.put, List.setIfInBounds_toArray, List.set_cons_succ, List.set_cons_zero]
    with_reducible refine wpO_not ?_ (hw := by kernel_rfl)
    with_reducible refine wpO_not ?_ (hw := by kernel_rfl)
    with_reducible refine wpO_not ?_ (hw := by kernel_rfl)
    simp only [Act.put, List.setIfInBounds_toArray, List.set_cons_succ, List.set_cons_zero]
    with_reducible refine wpO_not ?_ (hw := by kernel_rfl)
    with_reducible refine wpO_not ?_ (hw := by kernel_rfl)
    with_reducible refine wpO_not ?_ (hw := by kernel_rfl)
    simp only [Act.put, List.setIfInBounds_toArray, List.set_cons_succ, List.set_cons_zero]
    with_reducible refine wpO_not ?_ (hw := by kernel_rfl)
    with_reducible refine wpO_not ?_ (hw := by kernel_rfl)
    with_reducible refine wpO_not ?_ (hw := by kernel_rfl)
    simp only [Act.put, List.setIfInBounds_toArray, List.set_cons_succ, List.set_cons_zero]
    with_reducible refine wpO_not ?_ (hw := by kernel_rfl)
    with_reducible refine wpO_not ?_ (hw := by kernel_rfl)
    simp only [Act.put, List.setIfInBounds_toArray, List.set_cons_succ, List.set_cons_zero]
    with_reducible refine wpO_val (v := .bool false) (A1 := A4) ?_ ?_ (hw := by kernel_rfl)
    · exact aop_picks (b := false) (v := .bool false) rfl (by kernel_rfl) (by kernel_rfl)
    refine wpO_val (aop_picks (b := false) (v := .bool false) rfl (by kernel_rfl) (by kernel_rfl)) ?_
    simp only [Act.put, List.setIfInBounds_toArray, List.set_cons_succ, List.set_cons_zero]
    refine cw_cond good false (by kernel_rfl) (cw_skip good ?_)
    obtain ⟨zq, hzq⟩ : ∃ zq : Nat → Value, (⟨#[.slice p l.length c, .int .i64 k, .int .i64 i, undef, undef, undef, .bool false, .bool true, ptr q8, .int .i64 s, .bool true, .bool true, .bool (!true), .slice p l.length c, .slice p (l.take 60).length c, .agg #[v], .agg #[v], .int .i64 k, .int .i64 s, .int .i64 s, .bool false, .int .i64 k, .bool false, .bool false, undef, undef, undef, undef, .bool false, .bool false, .bool false, .int .i64 s, .bool false, .bool false, undef, undef, undef, undef, undef, undef, undef, undef, undef, undef, undef, .bool false, .bool false, undef, undef, undef, undef, undef, undef, undef, undef, undef, undef, undef, undef, undef, undef, undef, undef, undef, undef, undef, undef, undef, undef, undef, undef, undef, undef, undef, undef, undef, undef], []⟩ : Act) = ⟨#[.slice p l.length c, .int .i64 k, .int .i64 i, (zq 3), (zq 4), (zq 5), (zq 6), (zq 7), ptr q8, (zq 9), (zq 10), (zq 11), (zq 12), (zq 13), (zq 14), (zq 15), (zq 16), (zq 17), (zq 18), (zq 19), (zq 20), (zq 21), (zq 22), (zq 23), (zq 24), (zq 25), (zq 26), (zq 27), (zq 28), (zq 29), (zq 30), (zq 31), (zq 32), (zq 33), (zq 34), (zq 35), (zq 36), (zq 37), (zq 38), (zq 39), (zq 40), (zq 41), (zq 42), (zq 43), (zq 44), (zq 45), (zq 46), (zq 47), (zq 48), (zq 49), (zq 50), (zq 51), (zq 52), (zq 53), (zq 54), (zq 55), (zq 56), (zq 57), (zq 58), (zq 59), (zq 60), (zq 61), (zq 62), (zq 63), (zq 64), (zq 65), (zq 66), (zq 67), (zq 68), (zq 69), (zq 70), (zq 71), (zq 72), (zq 73), (zq 74), (zq 75), (zq 76)], []⟩ := ⟨(fun ix => (⟨#[.slice p l.length c, .int .i64 k, .int .i64 i, undef, undef, undef, .bool false, .bool true, ptr q8, .int .i64 s, .bool true, .bool true, .bool (!true), .slice p l.length c, .slice p (l.take 60).length c, .agg #[v], .agg #[v], .int .i64 k, .int .i64 s, .int .i64 s, .bool false, .int .i64 k, .bool false, .bool false, undef, undef, undef, undef, .bool false, .bool false, .bool false, .int .i64 s, .bool false, .bool false, undef, undef, undef, undef, undef, undef, undef, undef, undef, undef, undef, .bool false, .bool false, undef, undef, undef, undef, undef, undef, undef, undef, undef, undef, undef, undef, undef, undef, undef, undef, undef, undef, undef, undef, undef, undef, undef, undef, undef, undef, undef, undef, undef, undef], []⟩ : Act).tmps.getD ix undef), by kernel_rfl⟩
    exact wpC_norm _ hzq (rank_rest Owns.nil hwf hml h4 zq)
  obtain ⟨A5, F5, c5, h5, _⟩ := count_call (n₀ := n₀) oc hwf hm h4
  obtain ⟨u5, hb5⟩ := cel_at (Asn.swap h5)
  by_cases hkc : k < count m
  case neg =>
    refine cw_seq good (cw_seq good (cw_region good ?_))
    refine wpO_mv (.int .i64 s) (by kernel_rfl) ?_
    refine wpO_val (aop_int (k := .i64) (m := s) (n := 0) (v := .bool false) rfl (by kernel_rfl) (by kernel_rfl) (by simp [intV]; omega)) ?_
    refine wpO_mv (.int .i64 k) (by kernel_rfl) ?_
    simp only [Act.put, List.setIfInBounds_toArray, List.set_cons_succ, List.set_cons_zero]
    refine wpO_val (aop_int (k := .i64) (m := k) (n := 0) (v := .bool true) rfl (by kernel_rfl) (by kernel_rfl) (by simp [intV]; omega)) ?_
    refine wpO_mv (.bool true) (by kernel_rfl) ?_
    simp only [Act.put, List.setIfInBounds_toArray, List.set_cons_succ, List.set_cons_zero]
    with_reducible refine wpO_mv (.int .i64 k) (by kernel_rfl) ?_ (hw := by kernel_rfl)
    simp only [Act.put, List.setIfInBounds_toArray, List.set_cons_succ, List.set_cons_zero]
    with_reducible refine wpO_val (v := .agg #[v]) (A1 := A4) ?_ ?_ (hw := by kernel_rfl)
    · exact aop_loadT (n := 1) (p := ⟨q8, 0, none⟩) (xs := #[v]) rfl (by kernel_rfl) rfl hb4 rfl (Nat.le_refl 1) rfl
    simp only [Act.put, List.setIfInBounds_toArray, List.set_cons_succ, List.set_cons_zero]
    with_reducible refine wpO_stepN (v := .int .i64 (count m)) (A1 := A5) ?_ ?_ (hw := by kernel_rfl)
    · exact wpO_callN (f := 28) (l := [.agg #[v]]) c5 ⟨rfl, rfl, rfl⟩ (by kernel_rfl) (by kernel_rfl) rfl rfl
    simp only [Act.put, List.setIfInBounds_toArray, List.set_cons_succ, List.set_cons_zero]
    with_reducible refine wpO_val (v := .bool false) (A1 := A5) ?_ ?_ (hw := by kernel_rfl)
    · exact aop_int (k := .i64) (m := k) (n := count m) (v := .bool false) rfl (by kernel_rfl) (by kernel_rfl) (by simp [intV]; omega)
    refine wpO_val (aop_picks (b := true) (v := .bool false) rfl (by kernel_rfl) (by kernel_rfl)) ?_
    simp only [Act.put, List.setIfInBounds_toArray, List.set_cons_succ, List.set_cons_zero]
    refine wpO_val (aop_boolNeq (a := false) (b := false) rfl (by kernel_rfl) (by kernel_rfl) rfl) ?_
    simp only [Act.put, List.setIfInBounds_toArray, List.set_cons_succ, List.set_cons_zero]
    refine wpO_mv (.bool false) (by kernel_rfl) ?_
    simp only [Act.put, List.setIfInBounds_toArray, List.set_cons_succ, List.set_cons_zero]
    with_reducible refine wpO_mv (.int .i64 s) (by kernel_rfl) ?_ (hw := by kernel_rfl)
    simp only [Act.put, List.setIfInBounds_toArray, List.set_cons_succ, List.set_cons_zero]
    with_reducible refine wpO_val (v := .bool false) (A1 := A5) ?_ ?_ (hw := by kernel_rfl)
    · exact aop_int (k := .i64) (m := s) (n := 0) (v := .bool false) rfl (by kernel_rfl) (by kernel_rfl) (by simp [intV]; omega)
    simp only [Act.put, List.setIfInBounds_toArray, List.set_cons_succ, List.set_cons_zero]
    with_reducible refine wpO_mv (.bool false) (by kernel_rfl) ?_ (hw := by kernel_rfl)
    simp only [Act.put, List.setIfInBounds_toArray, List.set_cons_succ, List.set_cons_zero]
    with_reducible refine wpO_not ?_ (hw := by kernel_rfl)
    with_reducible refine wpO_not ?_ (hw := by kernel_rfl)
    with_reducible refine wpO_not ?_ (hw := by kernel_rfl)
    simp only [Act.put, List.setIfInBounds_toArray, List.set_cons_succ, List.set_cons_zero]
    with_reducible refine wpO_not ?_ (hw := by kernel_rfl)
    with_reducible refine wpO_not ?_ (hw := by kernel_rfl)
    with_reducible refine wpO_not ?_ (hw := by kernel_rfl)
    simp only [Act.put, List.setIfInBounds_toArray, List.set_cons_succ, List.set_cons_zero]
    with_reducible refine wpO_not ?_ (hw := by kernel_rfl)
    with_reducible refine wpO_not ?_ (hw := by kernel_rfl)
    with_reducible refine wpO_not ?_ (hw := by kernel_rfl)
    simp only [Act.put, List.setIfInBounds_toArray, List.set_cons_succ, List.set_cons_zero]
    with_reducible refine wpO_not ?_ (hw := by kernel_rfl)
    with_reducible refine wpO_not ?_ (hw := by kernel_rfl)
    simp only [Act.put, List.setIfInBounds_toArray, List.set_cons_succ, List.set_cons_zero]
    with_reducible refine wpO_val (v := .bool false) (A1 := A5) ?_ ?_ (hw := by kernel_rfl)
    · exact aop_picks (b := false) (v := .bool false) rfl (by kernel_rfl) (by kernel_rfl)
    refine wpO_val (aop_picks (b := false) (v := .bool false) rfl (by kernel_rfl) (by kernel_rfl)) ?_
    simp only [Act.put, List.setIfInBounds_toArray, List.set_cons_succ, List.set_cons_zero]
    refine cw_cond good false (by kernel_rfl) (cw_skip good ?_)
    obtain ⟨zq, hzq⟩ : ∃ zq : Nat → Value, (⟨#[.slice p l.length c, .int .i64 k, .int .i64 i, undef, undef, undef, .bool false, .bool true, ptr q8, .int .i64 s, .bool true, .bool true, .bool (!true), .slice p l.length c, .slice p (l.take 60).length c, .agg #[v], .agg #[v], .int .i64 k, .int .i64 s, .int .i64 s, .bool false, .int .i64 k, .bool true, .bool true, .int .i64 k, .agg #[v], .int .i64 (count m), .bool false, .bool false, .bool false, .bool false, .int .i64 s, .bool false, .bool false, undef, undef, undef, undef, undef, undef, undef, undef, undef, undef, undef, .bool false, .bool false, undef, undef, undef, undef, undef, undef, undef, undef, undef, undef, undef, undef, undef, undef, undef, undef, undef, undef, undef, undef, undef, undef, undef, undef, undef, undef, undef, undef, undef, undef], []⟩ : Act) = ⟨#[.slice p l.length c, .int .i64 k, .int .i64 i, (zq 3), (zq 4), (zq 5), (zq 6), (zq 7), ptr q8, (zq 9), (zq 10), (zq 11), (zq 12), (zq 13), (zq 14), (zq 15), (zq 16), (zq 17), (zq 18), (zq 19), (zq 20), (zq 21), (zq 22), (zq 23), (zq 24), (zq 25), (zq 26), (zq 27), (zq 28), (zq 29), (zq 30), (zq 31), (zq 32), (zq 33), (zq 34), (zq 35), (zq 36), (zq 37), (zq 38), (zq 39), (zq 40), (zq 41), (zq 42), (zq 43), (zq 44), (zq 45), (zq 46), (zq 47), (zq 48), (zq 49), (zq 50), (zq 51), (zq 52), (zq 53), (zq 54), (zq 55), (zq 56), (zq 57), (zq 58), (zq 59), (zq 60), (zq 61), (zq 62), (zq 63), (zq 64), (zq 65), (zq 66), (zq 67), (zq 68), (zq 69), (zq 70), (zq 71), (zq 72), (zq 73), (zq 74), (zq 75), (zq 76)], []⟩ := ⟨(fun ix => (⟨#[.slice p l.length c, .int .i64 k, .int .i64 i, undef, undef, undef, .bool false, .bool true, ptr q8, .int .i64 s, .bool true, .bool true, .bool (!true), .slice p l.length c, .slice p (l.take 60).length c, .agg #[v], .agg #[v], .int .i64 k, .int .i64 s, .int .i64 s, .bool false, .int .i64 k, .bool true, .bool true, .int .i64 k, .agg #[v], .int .i64 (count m), .bool false, .bool false, .bool false, .bool false, .int .i64 s, .bool false, .bool false, undef, undef, undef, undef, undef, undef, undef, undef, undef, undef, undef, .bool false, .bool false, undef, undef, undef, undef, undef, undef, undef, undef, undef, undef, undef, undef, undef, undef, undef, undef, undef, undef, undef, undef, undef, undef, undef, undef, undef, undef, undef, undef, undef, undef], []⟩ : Act).tmps.getD ix undef), by kernel_rfl⟩
    exact wpC_norm _ hzq (rank_rest Owns.nil hwf hml h5 zq)
  have hs0 : 0 ≤ s := hs1.2 ⟨by omega, hkc⟩
  obtain ⟨hs3, hs4⟩ := hs2 hs0
  obtain ⟨A6, F6, c6, h6, _⟩ := rank_call (n₀ := n₀) (i := s) oc hwf hm h5
  obtain ⟨u6, hb6⟩ := cel_at (Asn.swap h6)
  obtain ⟨A7, F7, c7, h7, _⟩ := has_call (n₀ := n₀) (i := s) oc hm h6
  rw [hs3] at c6
  rw [hs4] at c7
  refine cw_seq good (cw_seq good (cw_region good ?_))
  refine wpO_mv (.int .i64 s) (by kernel_rfl) ?_
  refine wpO_val (aop_int (k := .i64) (m := s) (n := 0) (v := .bool true) rfl (by kernel_rfl) (by kernel_rfl) (by simp [intV]; omega)) ?_
  refine wpO_mv (.int .i64 k) (by kernel_rfl) ?_
  simp only [Act.put, List.setIfInBounds_toArray, List.set_cons_succ, List.set_cons_zero]
  refine wpO_val (aop_int (k := .i64) (m := k) (n := 0) (v := .bool true) rfl (by kernel_rfl) (by kernel_rfl) (by simp [intV]; omega)) ?_
  refine wpO_mv (.bool true) (by kernel_rfl) ?_
  simp only [Act.put, List.setIfInBounds_toArray, List.set_cons_succ, List.set_cons_zero]
  with_reducible refine wpO_mv (.int .i64 k) (by kernel_rfl) ?_ (hw := by kernel_rfl)
  simp only [Act.put, List.setIfInBounds_toArray, List.set_cons_succ, List.set_cons_zero]
  with_reducible refine wpO_val (v := .agg #[v]) (A1 := A4) ?_ ?_ (hw := by kernel_rfl)
  · exact aop_loadT (n := 1) (p := ⟨q8, 0, none⟩) (xs := #[v]) rfl (by kernel_rfl) rfl hb4 rfl (Nat.le_refl 1) rfl
  simp only [Act.put, List.setIfInBounds_toArray, List.set_cons_succ, List.set_cons_zero]
  with_reducible refine wpO_stepN (v := .int .i64 (count m)) (A1 := A5) ?_ ?_ (hw := by kernel_rfl)
  · exact wpO_callN (f := 28) (l := [.agg #[v]]) c5 ⟨rfl, rfl, rfl⟩ (by kernel_rfl) (by kernel_rfl) rfl rfl
  simp only [Act.put, List.setIfInBounds_toArray, List.set_cons_succ, List.set_cons_zero]
  with_reducible refine wpO_val (v := .bool true) (A1 := A5) ?_ ?_ (hw := by kernel_rfl)
  · exact aop_int (k := .i64) (m := k) (n := count m) (v := .bool true) rfl (by kernel_rfl) (by kernel_rfl) (by simp [intV]; omega)
  refine wpO_val (aop_picks (b := true) (v := .bool true) rfl (by kernel_rfl) (by kernel_rfl)) ?_
  simp only [Act.put, List.setIfInBounds_toArray, List.set_cons_succ, List.set_cons_zero]
  refine wpO_val (aop_boolNeq (a := true) (b := true) rfl (by kernel_rfl) (by kernel_rfl) rfl) ?_
  simp only [Act.put, List.setIfInBounds_toArray, List.set_cons_succ, List.set_cons_zero]
  refine wpO_mv (.bool false) (by kernel_rfl) ?_
  simp only [Act.put, List.setIfInBounds_toArray, List.set_cons_succ, List.set_cons_zero]
  with_reducible refine wpO_mv (.int .i64 s) (by kernel_rfl) ?_ (hw := by kernel_rfl)
  simp only [Act.put, List.setIfInBounds_toArray, List.set_cons_succ, List.set_cons_zero]
  with_reducible refine wpO_val (v := .bool true) (A1 := A5) ?_ ?_ (hw := by kernel_rfl)
  · exact aop_int (k := .i64) (m := s) (n := 0) (v := .bool true) rfl (by kernel_rfl) (by kernel_rfl) (by simp [intV]; omega)
  simp only [Act.put, List.setIfInBounds_toArray, List.set_cons_succ, List.set_cons_zero]
  with_reducible refine wpO_mv (.bool true) (by kernel_rfl) ?_ (hw := by kernel_rfl)
  simp only [Act.put, List.setIfInBounds_toArray, List.set_cons_succ, List.set_cons_zero]
  with_reducible refine wpO_val (v := .agg #[v]) (A1 := A5) ?_ ?_ (hw := by kernel_rfl)
  · exact aop_loadT (n := 1) (p := ⟨q8, 0, none⟩) (xs := #[v]) rfl (by kernel_rfl) rfl hb5 rfl (Nat.le_refl 1) rfl
  simp only [Act.put, List.setIfInBounds_toArray, List.set_cons_succ, List.set_cons_zero]
  with_reducible refine wpO_mv (.int .i64 s) (by kernel_rfl) ?_ (hw := by kernel_rfl)
  simp only [Act.put, List.setIfInBounds_toArray, List.set_cons_succ, List.set_cons_zero]
  with_reducible refine wpO_stepN (v := .int .i64 k) (A1 := A6) ?_ ?_ (hw := by kernel_rfl)
  · exact wpO_callN (f := 16) (l := [.agg #[v], .int .i64 s]) c6 ⟨rfl, rfl, rfl⟩ (by kernel_rfl) (by kernel_rfl) rfl rfl
  simp only [Act.put, List.setIfInBounds_toArray, List.set_cons_succ, List.set_cons_zero]
  with_reducible refine wpO_mv (.int .i64 k) (by kernel_rfl) ?_ (hw := by kernel_rfl)
  simp only [Act.put, List.setIfInBounds_toArray, List.set_cons_succ, List.set_cons_zero]
  with_reducible refine wpO_val (v := .bool false) (A1 := A6) ?_ ?_ (hw := by kernel_rfl)
  · exact aop_int (k := .i64) (m := k) (n := k) (v := .bool false) rfl (by kernel_rfl) (by kernel_rfl) (by simp [intV])
  simp only [Act.put, List.setIfInBounds_toArray, List.set_cons_succ, List.set_cons_zero]
  with_reducible refine wpO_mv (.bool false) (by kernel_rfl) ?_ (hw := by kernel_rfl)
  simp only [Act.put, List.setIfInBounds_toArray, List.set_cons_succ, List.set_cons_zero]
  with_reducible refine wpO_val (v := .agg #[v]) (A1 := A6) ?_ ?_ (hw := by kernel_rfl)
  · exact aop_loadT (n := 1) (p := ⟨q8, 0, none⟩) (xs := #[v]) rfl (by kernel_rfl) rfl hb6 rfl (Nat.le_refl 1) rfl
  simp only [Act.put, List.setIfInBounds_toArray, List.set_cons_succ, List.set_cons_zero]
  with_reducible refine wpO_mv (.int .i64 s) (by kernel_rfl) ?_ (hw := by kernel_rfl)
  simp only [Act.put, List.setIfInBounds_toArray, List.set_cons_succ, List.set_cons_zero]
  with_reducible refine wpO_stepN (v := .bool true) (A1 := A7) ?_ ?_ (hw := by kernel_rfl)
  · exact wpO_callN (f := 14) (l := [.agg #[v], .int .i64 s]) c7 ⟨rfl, rfl, rfl⟩ (by kernel_rfl) (by kernel_rfl) rfl rfl
  simp only [Act.put, List.setIfInBounds_toArray, List.set_cons_succ, List.set_cons_zero]
  with_reducible refine wpO_val (v := .bool (!true)) (A1 := A7) ?_ ?_ (hw := by kernel_rfl)
  · exact aop_not (b := true) rfl (by kernel_rfl)
  simp only [Act.put, List.setIfInBounds_toArray, List.set_cons_succ, List.set_cons_zero]
  with_reducible refine wpO_val (v := .bool false) (A1 := A7) ?_ ?_ (hw := by kernel_rfl)
  · exact aop_picks (b := false) (v := .bool false) rfl (by kernel_rfl) (by kernel_rfl)
  simp only [Act.put, List.setIfInBounds_toArray, List.set_cons_succ, List.set_cons_zero]
  with_reducible refine wpO_val (v := .bool false) (A1 := A7) ?_ ?_ (hw := by kernel_rfl)
  · exact aop_picks (b := true) (v := .bool false) rfl (by kernel_rfl) (by kernel_rfl)
  refine wpO_val (aop_picks (b := false) (v := .bool false) rfl (by kernel_rfl) (by kernel_rfl)) ?_
  simp only [Act.put, List.setIfInBounds_toArray, List.set_cons_succ, List.set_cons_zero]
  refine cw_cond good false (by kernel_rfl) (cw_skip good ?_)
  obtain ⟨zq, hzq⟩ : ∃ zq : Nat → Value, (⟨#[.slice p l.length c, .int .i64 k, .int .i64 i, undef, undef, undef, .bool false, .bool true, ptr q8, .int .i64 s, .bool true, .bool true, .bool (!true), .slice p l.length c, .slice p (l.take 60).length c, .agg #[v], .agg #[v], .int .i64 k, .int .i64 s, .int .i64 s, .bool true, .int .i64 k, .bool true, .bool true, .int .i64 k, .agg #[v], .int .i64 (count m), .bool true, .bool true, .bool false, .bool false, .int .i64 s, .bool true, .bool true, .agg #[v], .int .i64 s, .int .i64 k, .int .i64 k, .bool false, .bool false, .agg #[v], .int .i64 s, .bool true, .bool (!true), .bool false, .bool false, .bool false, undef, undef, undef, undef, undef, undef, undef, undef, undef, undef, undef, undef, undef, undef, undef, undef, undef, undef, undef, undef, undef, undef, undef, undef, undef, undef, undef, undef, undef, undef], []⟩ : Act) = ⟨#[.slice p l.length c, .int .i64 k, .int .i64 i, (zq 3), (zq 4), (zq 5), (zq 6), (zq 7), ptr q8, (zq 9), (zq 10), (zq 11), (zq 12), (zq 13), (zq 14), (zq 15), (zq 16), (zq 17), (zq 18), (zq 19), (zq 20), (zq 21), (zq 22), (zq 23), (zq 24), (zq 25), (zq 26), (zq 27), (zq 28), (zq 29), (zq 30), (zq 31), (zq 32), (zq 33), (zq 34), (zq 35), (zq 36), (zq 37), (zq 38), (zq 39), (zq 40), (zq 41), (zq 42), (zq 43), (zq 44), (zq 45), (zq 46), (zq 47), (zq 48), (zq 49), (zq 50), (zq 51), (zq 52), (zq 53), (zq 54), (zq 55), (zq 56), (zq 57), (zq 58), (zq 59), (zq 60), (zq 61), (zq 62), (zq 63), (zq 64), (zq 65), (zq 66), (zq 67), (zq 68), (zq 69), (zq 70), (zq 71), (zq 72), (zq 73), (zq 74), (zq 75), (zq 76)], []⟩ := ⟨(fun ix => (⟨#[.slice p l.length c, .int .i64 k, .int .i64 i, undef, undef, undef, .bool false, .bool true, ptr q8, .int .i64 s, .bool true, .bool true, .bool (!true), .slice p l.length c, .slice p (l.take 60).length c, .agg #[v], .agg #[v], .int .i64 k, .int .i64 s, .int .i64 s, .bool true, .int .i64 k, .bool true, .bool true, .int .i64 k, .agg #[v], .int .i64 (count m), .bool true, .bool true, .bool false, .bool false, .int .i64 s, .bool true, .bool true, .agg #[v], .int .i64 s, .int .i64 k, .int .i64 k, .bool false, .bool false, .agg #[v], .int .i64 s, .bool true, .bool (!true), .bool false, .bool false, .bool false, undef, undef, undef, undef, undef, undef, undef, undef, undef, undef, undef, undef, undef, undef, undef, undef, undef, undef, undef, undef, undef, undef, undef, undef, undef, undef, undef, undef, undef, undef], []⟩ : Act).tmps.getD ix undef), by kernel_rfl⟩
  exact wpC_norm _ hzq (rank_rest Owns.nil hwf hml h7 zq)
end Go.Proofs.Ytfkdkfleaiaoiaa
