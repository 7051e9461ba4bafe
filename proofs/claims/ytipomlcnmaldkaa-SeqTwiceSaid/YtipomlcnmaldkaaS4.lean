/-
  eq answers true of two lists that are alike. No condition.
-/
import Derived.Test.YtipomlcnmaldkaaS3
namespace Go.Proofs.Ytipomlcnmaldkaa
open Go.Abs
variable {n₀ : Nat}
set_option maxRecDepth 4000
theorem eq_true {A : World} {p q : Option Addr} {l : List Int} {c d : Nat} (hl : l.length < 2 ^ 62) (hp : Rd A p l) (hq : Rd A q l) : SndCall Try.prog n₀ 15 #[.slice p l.length c, .slice q l.length d] A (.bool true) A := by
  have : wpF Try.prog n₀ 15 #[.slice p l.length c, .slice q l.length d] (fun v A' => v = .bool true ∧ A' = A) A := by
    refine wpF_fn (ts := #[.slice p l.length c, .slice q l.length d, undef, undef, undef, undef, undef, undef, undef, undef, undef, undef, undef, undef, undef, undef, undef, undef, undef, undef, undef, undef, undef, undef, undef, undef]) good ⟨rfl, rfl, rfl⟩ (by kernel_rfl) ?_
    refine cw_seq good (cw_region good ?_)
    refine wpO_as (.bool false) rfl ?_
    refine cw_seq good (cw_seq good (cw_region good ?_))
    refine wpO_mv (.slice p l.length c) rfl ?_
    refine wpO_val (aop_len rfl rfl rfl rfl rfl) ?_
    refine wpO_mv (.slice q l.length d) rfl ?_
    refine wpO_val (aop_len rfl rfl rfl rfl rfl) ?_
    refine wpO_val (aop_int (k := .i64) (m := l.length) (n := l.length) (v := .bool false) rfl rfl rfl (by simp [intV])) ?_
    refine cw_cond good false rfl (cw_skip good ?_)
    simp only [Act.put, List.setIfInBounds_toArray, List.set_cons_succ, List.set_cons_zero]
    refine cw_seq good (cw_seq good (cw_region good ?_))
    refine wpO_as (.int .i64 0) rfl ?_
    refine cw_block good (cw_loop good ?_)
    refine wpL_ind (fun n a A' => ∃ i : Nat, n = l.length - i ∧ i ≤ l.length ∧ A' = A ∧ ∃ w6 w7 w8 w9 w10 w11 w12 w13 w14 w15 w16 w17 w18 w19 w20 w21 w22 w23 w24 w25, a = ⟨#[.slice p l.length c, .slice q l.length d, undef, undef, .bool false, .int .i64 i, w6, w7, w8, w9, w10, w11, w12, w13, w14, w15, w16, w17, w18, w19, w20, w21, w22, w23, w24, w25], []⟩) ?_ l.length _ _
      ⟨0, by simp, by simp, rfl, _, _, _, _, _, _, _, _, _, _, _, _, _, _, _, _, _, _, _, _, rfl⟩
    rintro n _ A' ⟨i, rfl, hi, rfl, w6, w7, w8, w9, w10, w11, w12, w13, w14, w15, w16, w17, w18, w19, w20, w21, w22, w23, w24, w25, rfl⟩
    refine cw_seq good (cw_seq good (cw_region good ?_))
    refine wpO_mv (.int .i64 i) rfl ?_
    refine wpO_mv (.slice p l.length c) rfl ?_
    refine wpO_val (aop_len rfl rfl rfl rfl rfl) ?_
    refine wpO_val (aop_int rfl (k := .i64) (m := i) (n := l.length) rfl rfl rfl) ?_
    simp only [Act.put, List.setIfInBounds_toArray, List.set_cons_succ, List.set_cons_zero]
    by_cases hlt : i < l.length
    · refine cw_cond good true (congrArg Value.bool (by simpa using hlt)) (cw_skip good ?_)
      obtain ⟨x, hx⟩ : ∃ x, l[i]? = some x := ⟨_, List.getElem?_eq_getElem hlt⟩
      obtain ⟨ad, rfl, hc⟩ := hp i x hx
      obtain ⟨ad', rfl, hc'⟩ := hq i x hx
      refine cw_seq good (cw_block good ?_)
      refine cw_seq good (cw_draw good [.slice (some ad) l.length c, .int .i64 i, .pointer (some (ad.add (i * 1))), .int .i64 x, .slice (some ad') l.length d, .int .i64 i, .pointer (some (ad'.add (i * 1))), .int .i64 x, .bool false] [] (by kernel_rfl) rfl ?_
        ⟨#[.slice (some ad) l.length c, .slice (some ad') l.length d, undef, undef, .bool false, .int .i64 i, w6, w7, w8, w9, w10, .int .i64 i, .slice (some ad) l.length c, .int .i64 l.length, .bool (decide ((i : Int) < l.length)), w15, w16, .slice (some ad) l.length c, .int .i64 i, .pointer (some (ad.add (i * 1))), .int .i64 x, .slice (some ad') l.length d, .int .i64 i, .pointer (some (ad'.add (i * 1))), .int .i64 x, .bool false], []⟩ A' (by kernel_rfl) rfl ?_)
      · intro j o ho
        match j, ho with
        | 0, ho => cases ho; exact step_quiet rfl [9] (all1 (aop_mv rfl (by kernel_rfl))) rfl
        | 1, ho => cases ho; exact step_quiet rfl [9] (all1 (aop_mv rfl (by kernel_rfl))) rfl
        | 2, ho => cases ho; exact step_quiet rfl [9] (all1 (aop_index (k := .i64) (cap := c) rfl (by kernel_rfl) (by kernel_rfl) rfl rfl hlt)) rfl
        | 3, ho => cases ho; exact step_quiet rfl [9] (all1 (aop_load rfl (by kernel_rfl) rfl hc)) rfl
        | 4, ho => cases ho; exact step_quiet rfl [9] (all1 (aop_mv rfl (by kernel_rfl))) rfl
        | 5, ho => cases ho; exact step_quiet rfl [9] (all1 (aop_mv rfl (by kernel_rfl))) rfl
        | 6, ho => cases ho; exact step_quiet rfl [9] (all1 (aop_index (k := .i64) (cap := d) rfl (by kernel_rfl) (by kernel_rfl) rfl rfl hlt)) rfl
        | 7, ho => cases ho; exact step_quiet rfl [9] (all1 (aop_load rfl (by kernel_rfl) rfl hc')) rfl
        | 8, ho => cases ho; exact step_quiet rfl [9] (all1 (aop_int (k := .i64) (m := x) (n := x) (v := .bool false) rfl (by kernel_rfl) (by kernel_rfl) (by simp [intV]))) rfl
        | n + 9, ho => simp at ho
      · refine cw_cond good false rfl (cw_skip good ?_)
        refine cw_region good ?_
        refine wpO_mv (.int .i64 i) rfl ?_
        refine wpO_val (aop_int (k := .i64) (m := i) (n := 1) (v := .int .i64 (i + 1 : Nat)) rfl rfl rfl (intV_add (by omega) (by omega) (by omega))) ?_
        simp only [Act.put, List.setIfInBounds_toArray, List.set_cons_succ, List.set_cons_zero]
        refine wpO_as (.int .i64 (i + 1 : Nat)) rfl ?_
        exact ⟨l.length - (i + 1), by omega, i + 1, rfl, by omega, rfl, _, _, _, _, _, _, _, _, _, _, _, _, _, _, _, _, _, _, _, _, rfl⟩
    · refine cw_cond good false (congrArg Value.bool (by simpa using hlt)) (cw_exit good ?_)
      refine cw_seq good (cw_region good ?_)
      refine wpO_as (.bool true) rfl ?_
      exact cw_ret good (ret_one (.bool true) rfl ⟨rfl, rfl⟩)
  obtain ⟨v, A1, h1, rfl, rfl⟩ := this
  exact h1
end Go.Proofs.Ytipomlcnmaldkaa
