/-
  A number on its way to its place: the two inner loops of asterismlaw3.SeqMerge. No condition.
-/
import Derived.Test.YtipomlcnmaldkaaM4
namespace Go.Proofs.Ytipomlcnmaldkaa
open Go.Abs
variable {n₀ : Nat}
set_option maxRecDepth 8000
set_option maxHeartbeats 8000000 in
/-- A number on its way to its place. -/
theorem ins4 {A : World} {F : Foot} {J : Asn} (hJ : Owns J) {v9 : Value} {x : Int} {w m a b : List Int} {n : Nat} (hx : 0 ≤ x ∧ x < 1000) (hw : ∀ y ∈ w, 0 ≤ y ∧ y < 1000) (hwl : w.length < 1000) (hn : a.length = n) (hh : Hole x w m a b) (h : ((lstV 3 v9 m).sep J) F A) {j0 j1 j2 j3 j4 j5 j6 j7 j8 j10 j13 j14 j15 j16 j17 j18 j19 j20 j21 j22 j23 j24 j25 j26 j27 j28 j29 j30 j31 j32 j33 j34 j35 j36 j37 j38 j39 j40 j41 j42 j43 j44 j45 j46 j47 j48 j49 j50 j51 j52 j53 j54 j55 j56 j57 j58 j59 j60 j61 j62 j63 j64 j65 j66 j67 j68 j69 j70 j71 j72 j73 j74 j75 j76 j77 j78 j79 j80 j81 j82 j83 j84 j85 j86 j87 j88 j89 j90 j91 j92 j93 j94 j95 j96 j97 j98 j99 j100 j101 j102 j103 j104 j105 j106 j107 j108 j109 j110 j111 j112 j113 j114 j115 j116 j117 j118 j119 j120 j121 j122 j123 j124 j125 j126 j127 j128 j129 j130 j131 j132 j133 j134 j135 j136 j137 j138 j139 j140 j141 j142 j143 j144 j145 j146 j147 j148 j149 j150 j151 j152 j153 j154 j155 j156 j157 j158 j159 j160 j161 : Value} {Q : Exit → Act → World → Prop}
    (hQ : ∀ (a b m : List Int) (n : Nat) (A' : World) (F' : Foot) (e : Act), (∃ zz : Nat → Value, e = ⟨#[j0, j1, j2, j3, j4, j5, j6, j7, j8, v9, j10, .int .i64 x, .int .i64 n, j13, j14, j15, j16, j17, j18, j19, j20, j21, j22, j23, j24, j25, j26, j27, j28, j29, j30, j31, j32, j33, j34, j35, j36, j37, j38, j39, j40, j41, j42, j43, j44, j45, j46, j47, j48, j49, j50, j51, j52, j53, j54, j55, j56, j57, j58, j59, j60, j61, (zz 62), (zz 63), (zz 64), (zz 65), (zz 66), (zz 67), (zz 68), (zz 69), (zz 70), (zz 71), (zz 72), (zz 73), (zz 74), (zz 75), (zz 76), (zz 77), (zz 78), (zz 79), (zz 80), (zz 81), (zz 82), (zz 83), (zz 84), j85, j86, j87, j88, j89, j90, j91, j92, j93, j94, j95, j96, j97, j98, j99, j100, j101, j102, j103, j104, j105, j106, j107, j108, j109, j110, j111, j112, j113, j114, j115, j116, j117, j118, j119, j120, j121, j122, j123, j124, j125, j126, j127, j128, j129, j130, j131, j132, j133, j134, j135, j136, j137, j138, j139, j140, j141, j142, j143, j144, j145, j146, j147, j148, j149, j150, j151, j152, j153, j154, j155, j156, j157, j158, j159, j160, j161], []⟩) → a.length = n → Hole x w m a b → (∀ z, a.getLast? = some z → k10 z ≤ k10 x) → ((lstV 3 v9 m).sep J) F' A' → Step F A F' A' → Q (.exit 4) e A') :
    wpL Try.prog n₀ none c4c Q ⟨#[j0, j1, j2, j3, j4, j5, j6, j7, j8, v9, j10, .int .i64 x, .int .i64 n, j13, j14, j15, j16, j17, j18, j19, j20, j21, j22, j23, j24, j25, j26, j27, j28, j29, j30, j31, j32, j33, j34, j35, j36, j37, j38, j39, j40, j41, j42, j43, j44, j45, j46, j47, j48, j49, j50, j51, j52, j53, j54, j55, j56, j57, j58, j59, j60, j61, j62, j63, j64, j65, j66, j67, j68, j69, j70, j71, j72, j73, j74, j75, j76, j77, j78, j79, j80, j81, j82, j83, j84, j85, j86, j87, j88, j89, j90, j91, j92, j93, j94, j95, j96, j97, j98, j99, j100, j101, j102, j103, j104, j105, j106, j107, j108, j109, j110, j111, j112, j113, j114, j115, j116, j117, j118, j119, j120, j121, j122, j123, j124, j125, j126, j127, j128, j129, j130, j131, j132, j133, j134, j135, j136, j137, j138, j139, j140, j141, j142, j143, j144, j145, j146, j147, j148, j149, j150, j151, j152, j153, j154, j155, j156, j157, j158, j159, j160, j161], []⟩ A := by
  refine wpL_ind (fun nn e A' => ∃ (a b m : List Int) (n : Nat) (F' : Foot) (zz : Nat → Value), nn = n ∧ a.length = n ∧ Hole x w m a b ∧ ((lstV 3 v9 m).sep J) F' A' ∧ Step F A F' A' ∧ e = ⟨#[j0, j1, j2, j3, j4, j5, j6, j7, j8, v9, j10, .int .i64 x, .int .i64 n, j13, j14, j15, j16, j17, j18, j19, j20, j21, j22, j23, j24, j25, j26, j27, j28, j29, j30, j31, j32, j33, j34, j35, j36, j37, j38, j39, j40, j41, j42, j43, j44, j45, j46, j47, j48, j49, j50, j51, j52, j53, j54, j55, j56, j57, j58, j59, j60, j61, (zz 62), (zz 63), (zz 64), (zz 65), (zz 66), (zz 67), (zz 68), (zz 69), (zz 70), (zz 71), (zz 72), (zz 73), (zz 74), (zz 75), (zz 76), (zz 77), (zz 78), (zz 79), (zz 80), (zz 81), (zz 82), (zz 83), (zz 84), j85, j86, j87, j88, j89, j90, j91, j92, j93, j94, j95, j96, j97, j98, j99, j100, j101, j102, j103, j104, j105, j106, j107, j108, j109, j110, j111, j112, j113, j114, j115, j116, j117, j118, j119, j120, j121, j122, j123, j124, j125, j126, j127, j128, j129, j130, j131, j132, j133, j134, j135, j136, j137, j138, j139, j140, j141, j142, j143, j144, j145, j146, j147, j148, j149, j150, j151, j152, j153, j154, j155, j156, j157, j158, j159, j160, j161], []⟩) ?_ n _ _ ⟨a, b, m, n, F, (fun ix => (⟨#[j0, j1, j2, j3, j4, j5, j6, j7, j8, v9, j10, .int .i64 x, .int .i64 n, j13, j14, j15, j16, j17, j18, j19, j20, j21, j22, j23, j24, j25, j26, j27, j28, j29, j30, j31, j32, j33, j34, j35, j36, j37, j38, j39, j40, j41, j42, j43, j44, j45, j46, j47, j48, j49, j50, j51, j52, j53, j54, j55, j56, j57, j58, j59, j60, j61, j62, j63, j64, j65, j66, j67, j68, j69, j70, j71, j72, j73, j74, j75, j76, j77, j78, j79, j80, j81, j82, j83, j84, j85, j86, j87, j88, j89, j90, j91, j92, j93, j94, j95, j96, j97, j98, j99, j100, j101, j102, j103, j104, j105, j106, j107, j108, j109, j110, j111, j112, j113, j114, j115, j116, j117, j118, j119, j120, j121, j122, j123, j124, j125, j126, j127, j128, j129, j130, j131, j132, j133, j134, j135, j136, j137, j138, j139, j140, j141, j142, j143, j144, j145, j146, j147, j148, j149, j150, j151, j152, j153, j154, j155, j156, j157, j158, j159, j160, j161], []⟩ : Act).tmps.getD ix undef), rfl, hn, hh, h, .refl, by kernel_rfl⟩
  rintro nn _ A' ⟨a, b, m, n, F', zz, rfl, hn, hh, h, hS, rfl⟩
  rcases nil_or_last a with rfl | ⟨a, z, rfl⟩
  · obtain rfl : nn = 0 := by simpa using hn.symm
    refine cw_seq good (cw_seq good (cw_region good ?_))
    refine wpO_mv (.int .i64 (0 : Nat)) (by kernel_rfl) ?_
    refine wpO_val (aop_int (k := .i64) (m := (0 : Nat)) (n := 0) (v := .bool false) rfl (by kernel_rfl) (by kernel_rfl) rfl) ?_
    refine wpO_mv (.bool false) (by kernel_rfl) ?_
    simp only [Act.put, List.setIfInBounds_toArray, List.set_cons_succ, List.set_cons_zero]
    with_reducible refine wpO_not ?_ (hw := by kernel_rfl)
    with_reducible refine wpO_not ?_ (hw := by kernel_rfl)
    with_reducible refine wpO_not ?_ (hw := by kernel_rfl)
    simp only [Act.put, List.setIfInBounds_toArray, List.set_cons_succ, List.set_cons_zero]
    with_reducible refine wpO_not ?_ (hw := by kernel_rfl)
    with_reducible refine wpO_not ?_ (hw := by kernel_rfl)
    with_reducible refine wpO_not ?_ (hw := by kernel_rfl)
    simp only [Act.put, List.setIfInBounds_toArray, List.set_cons_succ, List.set_cons_zero]
    with_reducible refine wpO_not ?_ (hw := by kernel_rfl)
    with_reducible refine wpO_not ?_ (hw := by kernel_rfl)
    with_reducible refine wpO_not ?_ (hw := by kernel_rfl)
    simp only [Act.put, List.setIfInBounds_toArray, List.set_cons_succ, List.set_cons_zero]
    refine wpO_val (aop_picks (b := false) (v := .bool false) rfl (by kernel_rfl) (by kernel_rfl)) ?_
    simp only [Act.put, List.setIfInBounds_toArray, List.set_cons_succ, List.set_cons_zero]
    refine cw_cond good false (by kernel_rfl) (cw_exit good ?_)
    exact hQ [] b m 0 A' F' _ ⟨(fun ix => (⟨#[j0, j1, j2, j3, j4, j5, j6, j7, j8, v9, j10, .int .i64 x, .int .i64 (0 : Nat), j13, j14, j15, j16, j17, j18, j19, j20, j21, j22, j23, j24, j25, j26, j27, j28, j29, j30, j31, j32, j33, j34, j35, j36, j37, j38, j39, j40, j41, j42, j43, j44, j45, j46, j47, j48, j49, j50, j51, j52, j53, j54, j55, j56, j57, j58, j59, j60, j61, .int .i64 (0 : Nat), .bool false, .bool false, undef, undef, undef, undef, undef, undef, undef, undef, undef, .bool false, (zz 75), (zz 76), (zz 77), (zz 78), (zz 79), (zz 80), (zz 81), (zz 82), (zz 83), (zz 84), j85, j86, j87, j88, j89, j90, j91, j92, j93, j94, j95, j96, j97, j98, j99, j100, j101, j102, j103, j104, j105, j106, j107, j108, j109, j110, j111, j112, j113, j114, j115, j116, j117, j118, j119, j120, j121, j122, j123, j124, j125, j126, j127, j128, j129, j130, j131, j132, j133, j134, j135, j136, j137, j138, j139, j140, j141, j142, j143, j144, j145, j146, j147, j148, j149, j150, j151, j152, j153, j154, j155, j156, j157, j158, j159, j160, j161], []⟩ : Act).tmps.getD ix undef), by kernel_rfl⟩ rfl hh (fun z h => by simp at h) h hS
  · obtain ⟨k, rfl⟩ : ∃ k, nn = k + 1 := ⟨a.length, by simpa using hn.symm⟩
    have hk0 : a.length = k := by simpa using hn
    obtain ⟨gz, hzw⟩ := hole_get hh
    rw [hk0] at gz
    obtain ⟨u, gu⟩ := hole_hole hh
    rw [hn] at gu
    have hml := hole_len hh
    have hzr := hw z hzw
    obtain ⟨d, rfl, gc, _, _⟩ := lstV_put hJ h gz
    obtain ⟨d', e', gc', gs', gp'⟩ := lstV_put hJ h gu
    cases e'
    refine cw_seq good (cw_seq good (cw_region good ?_))
    refine wpO_mv (.int .i64 (k + 1 : Nat)) (by kernel_rfl) ?_
    refine wpO_val (aop_int (k := .i64) (m := (k + 1 : Nat)) (n := 0) (v := .bool true) rfl (by kernel_rfl) (by kernel_rfl) (by simp [intV] <;> omega)) ?_
    refine wpO_mv (.bool true) (by kernel_rfl) ?_
    simp only [Act.put, List.setIfInBounds_toArray, List.set_cons_succ, List.set_cons_zero]
    with_reducible refine wpO_mv (.slice (some ⟨d, 0, none⟩) m.length m.length) (by kernel_rfl) ?_ (hw := by kernel_rfl)
    simp only [Act.put, List.setIfInBounds_toArray, List.set_cons_succ, List.set_cons_zero]
    with_reducible refine wpO_mv (.int .i64 (k + 1 : Nat)) (by kernel_rfl) ?_ (hw := by kernel_rfl)
    simp only [Act.put, List.setIfInBounds_toArray, List.set_cons_succ, List.set_cons_zero]
    with_reducible refine wpO_val (v := .int .i64 k) (A1 := A') ?_ ?_ (hw := by kernel_rfl)
    · exact aop_int (k := .i64) (m := (k + 1 : Nat)) (n := 1) (v := .int .i64 k) rfl (by kernel_rfl) (by kernel_rfl) (intV_sub (by omega) (by omega) (by omega))
    simp only [Act.put, List.setIfInBounds_toArray, List.set_cons_succ, List.set_cons_zero]
    with_reducible refine wpO_val (v := .pointer (some ((⟨d, 0, none⟩ : Addr).add (k * 1)))) (A1 := A') ?_ ?_ (hw := by kernel_rfl)
    · exact aop_index (k := .i64) (len := m.length) (cap := m.length) (i := k) (p := ⟨d, 0, none⟩) rfl (by kernel_rfl) (by kernel_rfl) rfl rfl (by omega)
    rw [add_at]
    simp only [Act.put, List.setIfInBounds_toArray, List.set_cons_succ, List.set_cons_zero]
    with_reducible refine wpO_val (v := .int .i64 z) (A1 := A') ?_ ?_ (hw := by kernel_rfl)
    · exact aop_load (v := .int .i64 z) rfl (by kernel_rfl) rfl gc
    simp only [Act.put, List.setIfInBounds_toArray, List.set_cons_succ, List.set_cons_zero]
    with_reducible refine wpO_val (v := .int .i64 (k10 z)) (A1 := A') ?_ ?_ (hw := by kernel_rfl)
    · exact aop_int (k := .i64) (m := z) (n := 10) (v := .int .i64 (k10 z)) rfl (by kernel_rfl) (by kernel_rfl) (quo10 hzr)
    simp only [Act.put, List.setIfInBounds_toArray, List.set_cons_succ, List.set_cons_zero]
    with_reducible refine wpO_mv (.int .i64 x) (by kernel_rfl) ?_ (hw := by kernel_rfl)
    simp only [Act.put, List.setIfInBounds_toArray, List.set_cons_succ, List.set_cons_zero]
    with_reducible refine wpO_val (v := .int .i64 (k10 x)) (A1 := A') ?_ ?_ (hw := by kernel_rfl)
    · exact aop_int (k := .i64) (m := x) (n := 10) (v := .int .i64 (k10 x)) rfl (by kernel_rfl) (by kernel_rfl) (quo10 hx)
    simp only [Act.put, List.setIfInBounds_toArray, List.set_cons_succ, List.set_cons_zero]
    with_reducible refine wpO_val (v := .bool (decide (k10 z > k10 x))) (A1 := A') ?_ ?_ (hw := by kernel_rfl)
    · exact aop_int (k := .i64) (m := k10 z) (n := k10 x) (v := .bool (decide (k10 z > k10 x))) rfl (by kernel_rfl) (by kernel_rfl) rfl
    refine wpO_val (aop_picks (b := true) (v := .bool (decide (k10 z > k10 x))) rfl (by kernel_rfl) (by kernel_rfl)) ?_
    simp only [Act.put, List.setIfInBounds_toArray, List.set_cons_succ, List.set_cons_zero]
    by_cases hk : k10 x < k10 z
    · refine cw_cond good true (congrArg Value.bool (decide_eq_true hk)) (cw_skip good ?_)
      refine cw_block good (cw_seq good (cw_region good ?_))
      refine wpO_mv (.slice (some ⟨d, 0, none⟩) m.length m.length) (by kernel_rfl) ?_
      refine wpO_mv (.int .i64 (k + 1 : Nat)) (by kernel_rfl) ?_
      refine wpO_mv (.slice (some ⟨d, 0, none⟩) m.length m.length) (by kernel_rfl) ?_
      simp only [Act.put, List.setIfInBounds_toArray, List.set_cons_succ, List.set_cons_zero]
      refine wpO_mv (.int .i64 (k + 1 : Nat)) (by kernel_rfl) ?_
      refine wpO_val (aop_int (k := .i64) (m := (k + 1 : Nat)) (n := 1) (v := .int .i64 k) rfl (by kernel_rfl) (by kernel_rfl) (intV_sub (by omega) (by omega) (by omega))) ?_
      refine wpO_val (aop_index (k := .i64) (len := m.length) (cap := m.length) (i := k) (p := ⟨d, 0, none⟩) rfl (by kernel_rfl) (by kernel_rfl) rfl rfl (by omega)) ?_
      rw [add_at]
      simp only [Act.put, List.setIfInBounds_toArray, List.set_cons_succ, List.set_cons_zero]
      refine wpO_val (aop_load (v := .int .i64 z) rfl (by kernel_rfl) rfl gc) ?_
      refine wpO_val (aop_index (k := .i64) (len := m.length) (cap := m.length) (i := (k + 1)) (p := ⟨d, 0, none⟩) rfl (by kernel_rfl) (by kernel_rfl) rfl rfl (by omega)) ?_
      rw [add_at]
      simp only [Act.put, List.setIfInBounds_toArray, List.set_cons_succ, List.set_cons_zero]
      refine wpO_unit (aop_store (v := .int .i64 z) rfl (by kernel_rfl) (by kernel_rfl) rfl rfl gc' gs') ?_
      simp only [Act.put]
      refine cw_region good ?_
      refine wpO_mv (.int .i64 (k + 1 : Nat)) (by kernel_rfl) ?_
      refine wpO_val (aop_int (k := .i64) (m := (k + 1 : Nat)) (n := 1) (v := .int .i64 k) rfl (by kernel_rfl) (by kernel_rfl) (intV_sub (by omega) (by omega) (by omega))) ?_
      refine wpO_as (.int .i64 k) (by kernel_rfl) ?_
      simp only [Act.put, List.setIfInBounds_toArray, List.set_cons_succ, List.set_cons_zero]
      obtain ⟨h5, S5⟩ := gp' z
      have hnx := (hole_next hh hk).2
      rw [hk0] at hnx
      exact ⟨k, Nat.lt_succ_self k, a, z :: b, m.set (k + 1) z, k, F', (fun ix => (⟨#[j0, j1, j2, j3, j4, j5, j6, j7, j8, .slice (some ⟨d, 0, none⟩) m.length m.length, j10, .int .i64 x, .int .i64 k, j13, j14, j15, j16, j17, j18, j19, j20, j21, j22, j23, j24, j25, j26, j27, j28, j29, j30, j31, j32, j33, j34, j35, j36, j37, j38, j39, j40, j41, j42, j43, j44, j45, j46, j47, j48, j49, j50, j51, j52, j53, j54, j55, j56, j57, j58, j59, j60, j61, .int .i64 (k + 1 : Nat), .bool true, .bool true, .slice (some ⟨d, 0, none⟩) m.length m.length, .int .i64 (k + 1 : Nat), .int .i64 k, .pointer (some ⟨d, k, none⟩), .int .i64 z, .int .i64 (k10 z), .int .i64 x, .int .i64 (k10 x), .bool (decide (k10 z > k10 x)), .bool (decide (k10 z > k10 x)), .slice (some ⟨d, 0, none⟩) m.length m.length, .int .i64 (k + 1 : Nat), .slice (some ⟨d, 0, none⟩) m.length m.length, .int .i64 (k + 1 : Nat), .int .i64 k, .pointer (some ⟨d, k, none⟩), .int .i64 z, .pointer (some ⟨d, (k + 1), none⟩), .int .i64 (k + 1 : Nat), .int .i64 k, j85, j86, j87, j88, j89, j90, j91, j92, j93, j94, j95, j96, j97, j98, j99, j100, j101, j102, j103, j104, j105, j106, j107, j108, j109, j110, j111, j112, j113, j114, j115, j116, j117, j118, j119, j120, j121, j122, j123, j124, j125, j126, j127, j128, j129, j130, j131, j132, j133, j134, j135, j136, j137, j138, j139, j140, j141, j142, j143, j144, j145, j146, j147, j148, j149, j150, j151, j152, j153, j154, j155, j156, j157, j158, j159, j160, j161], []⟩ : Act).tmps.getD ix undef), rfl, hk0, hnx, h5, hS.trans S5, by kernel_rfl⟩
    · refine cw_cond good false (congrArg Value.bool (decide_eq_false hk)) (cw_exit good ?_)
      exact hQ (a ++ [z]) b m (k + 1) A' F' _ ⟨(fun ix => (⟨#[j0, j1, j2, j3, j4, j5, j6, j7, j8, .slice (some ⟨d, 0, none⟩) m.length m.length, j10, .int .i64 x, .int .i64 (k + 1 : Nat), j13, j14, j15, j16, j17, j18, j19, j20, j21, j22, j23, j24, j25, j26, j27, j28, j29, j30, j31, j32, j33, j34, j35, j36, j37, j38, j39, j40, j41, j42, j43, j44, j45, j46, j47, j48, j49, j50, j51, j52, j53, j54, j55, j56, j57, j58, j59, j60, j61, .int .i64 (k + 1 : Nat), .bool true, .bool true, .slice (some ⟨d, 0, none⟩) m.length m.length, .int .i64 (k + 1 : Nat), .int .i64 k, .pointer (some ⟨d, k, none⟩), .int .i64 z, .int .i64 (k10 z), .int .i64 x, .int .i64 (k10 x), .bool (decide (k10 z > k10 x)), .bool (decide (k10 z > k10 x)), (zz 75), (zz 76), (zz 77), (zz 78), (zz 79), (zz 80), (zz 81), (zz 82), (zz 83), (zz 84), j85, j86, j87, j88, j89, j90, j91, j92, j93, j94, j95, j96, j97, j98, j99, j100, j101, j102, j103, j104, j105, j106, j107, j108, j109, j110, j111, j112, j113, j114, j115, j116, j117, j118, j119, j120, j121, j122, j123, j124, j125, j126, j127, j128, j129, j130, j131, j132, j133, j134, j135, j136, j137, j138, j139, j140, j141, j142, j143, j144, j145, j146, j147, j148, j149, j150, j151, j152, j153, j154, j155, j156, j157, j158, j159, j160, j161], []⟩ : Act).tmps.getD ix undef), by kernel_rfl⟩ hn hh (fun u hu => by simp at hu; subst hu; omega) h hS
set_option maxHeartbeats 8000000 in
/-- A number on its way to its place among all. -/
theorem ins8 {A : World} {F : Foot} {J : Asn} (hJ : Owns J) {v7 : Value} {p9 : Option Addr} {x : Int} {l w m a b : List Int} {n kk : Nat} (hkk : l[kk]? = some x) (h9 : ∀ {F : Foot} {A : World}, J F A → Rd A p9 l) (hx : 0 ≤ x ∧ x < 1000) (hw : ∀ y ∈ w, 0 ≤ y ∧ y < 1000) (hwl : w.length < 1000) (hn : a.length = n) (hh : Hole x w m a b) (h : ((lstV 3 v7 m).sep J) F A) {j0 j1 j2 j3 j4 j5 j6 j8 j10 j11 j12 j15 j16 j17 j18 j19 j20 j21 j22 j23 j24 j25 j26 j27 j28 j29 j30 j31 j32 j33 j34 j35 j36 j37 j38 j39 j40 j41 j42 j43 j44 j45 j46 j47 j48 j49 j50 j51 j52 j53 j54 j55 j56 j57 j58 j59 j60 j61 j62 j63 j64 j65 j66 j67 j68 j69 j70 j71 j72 j73 j74 j75 j76 j77 j78 j79 j80 j81 j82 j83 j84 j85 j86 j87 j88 j89 j90 j91 j92 j93 j94 j95 j96 j97 j98 j99 j100 j101 j102 j103 j104 j105 j106 j107 j108 j109 j110 j111 j112 j113 j114 j115 j116 j117 j118 j119 j120 j121 j122 j123 j124 j125 j126 j127 j128 j129 j130 j131 j132 j133 j134 j135 j136 j137 j138 j139 j140 j141 j142 j143 j144 j145 j146 j147 j148 j149 j150 j151 j152 j153 j154 j155 j156 j157 j158 j159 j160 j161 : Value} {Q : Exit → Act → World → Prop}
    (hQ : ∀ (a b m : List Int) (n : Nat) (A' : World) (F' : Foot) (e : Act), (∃ zz : Nat → Value, e = ⟨#[j0, j1, j2, j3, j4, j5, j6, v7, j8, .slice p9 l.length l.length, j10, j11, j12, .int .i64 kk, .int .i64 n, j15, j16, j17, j18, j19, j20, j21, j22, j23, j24, j25, j26, j27, j28, j29, j30, j31, j32, j33, j34, j35, j36, j37, j38, j39, j40, j41, j42, j43, j44, j45, j46, j47, j48, j49, j50, j51, j52, j53, j54, j55, j56, j57, j58, j59, j60, j61, j62, j63, j64, j65, j66, j67, j68, j69, j70, j71, j72, j73, j74, j75, j76, j77, j78, j79, j80, j81, j82, j83, j84, j85, j86, j87, j88, j89, j90, j91, j92, j93, j94, j95, j96, j97, j98, j99, j100, j101, j102, j103, j104, j105, j106, j107, (zz 108), (zz 109), (zz 110), (zz 111), (zz 112), (zz 113), (zz 114), (zz 115), (zz 116), (zz 117), (zz 118), (zz 119), (zz 120), (zz 121), (zz 122), (zz 123), (zz 124), (zz 125), (zz 126), (zz 127), (zz 128), (zz 129), (zz 130), (zz 131), (zz 132), (zz 133), j134, j135, j136, j137, j138, j139, j140, j141, j142, j143, j144, j145, j146, j147, j148, j149, j150, j151, j152, j153, j154, j155, j156, j157, j158, j159, j160, j161], []⟩) → a.length = n → Hole x w m a b → (∀ z, a.getLast? = some z → k10 z ≤ k10 x) → ((lstV 3 v7 m).sep J) F' A' → Step F A F' A' → Q (.exit 8) e A') :
    wpL Try.prog n₀ none c4e Q ⟨#[j0, j1, j2, j3, j4, j5, j6, v7, j8, .slice p9 l.length l.length, j10, j11, j12, .int .i64 kk, .int .i64 n, j15, j16, j17, j18, j19, j20, j21, j22, j23, j24, j25, j26, j27, j28, j29, j30, j31, j32, j33, j34, j35, j36, j37, j38, j39, j40, j41, j42, j43, j44, j45, j46, j47, j48, j49, j50, j51, j52, j53, j54, j55, j56, j57, j58, j59, j60, j61, j62, j63, j64, j65, j66, j67, j68, j69, j70, j71, j72, j73, j74, j75, j76, j77, j78, j79, j80, j81, j82, j83, j84, j85, j86, j87, j88, j89, j90, j91, j92, j93, j94, j95, j96, j97, j98, j99, j100, j101, j102, j103, j104, j105, j106, j107, j108, j109, j110, j111, j112, j113, j114, j115, j116, j117, j118, j119, j120, j121, j122, j123, j124, j125, j126, j127, j128, j129, j130, j131, j132, j133, j134, j135, j136, j137, j138, j139, j140, j141, j142, j143, j144, j145, j146, j147, j148, j149, j150, j151, j152, j153, j154, j155, j156, j157, j158, j159, j160, j161], []⟩ A := by
  have hkl : kk < l.length := (List.getElem?_eq_some_iff.1 hkk).1
  refine wpL_ind (fun nn e A' => ∃ (a b m : List Int) (n : Nat) (F' : Foot) (zz : Nat → Value), nn = n ∧ a.length = n ∧ Hole x w m a b ∧ ((lstV 3 v7 m).sep J) F' A' ∧ Step F A F' A' ∧ e = ⟨#[j0, j1, j2, j3, j4, j5, j6, v7, j8, .slice p9 l.length l.length, j10, j11, j12, .int .i64 kk, .int .i64 n, j15, j16, j17, j18, j19, j20, j21, j22, j23, j24, j25, j26, j27, j28, j29, j30, j31, j32, j33, j34, j35, j36, j37, j38, j39, j40, j41, j42, j43, j44, j45, j46, j47, j48, j49, j50, j51, j52, j53, j54, j55, j56, j57, j58, j59, j60, j61, j62, j63, j64, j65, j66, j67, j68, j69, j70, j71, j72, j73, j74, j75, j76, j77, j78, j79, j80, j81, j82, j83, j84, j85, j86, j87, j88, j89, j90, j91, j92, j93, j94, j95, j96, j97, j98, j99, j100, j101, j102, j103, j104, j105, j106, j107, (zz 108), (zz 109), (zz 110), (zz 111), (zz 112), (zz 113), (zz 114), (zz 115), (zz 116), (zz 117), (zz 118), (zz 119), (zz 120), (zz 121), (zz 122), (zz 123), (zz 124), (zz 125), (zz 126), (zz 127), (zz 128), (zz 129), (zz 130), (zz 131), (zz 132), (zz 133), j134, j135, j136, j137, j138, j139, j140, j141, j142, j143, j144, j145, j146, j147, j148, j149, j150, j151, j152, j153, j154, j155, j156, j157, j158, j159, j160, j161], []⟩) ?_ n _ _ ⟨a, b, m, n, F, (fun ix => (⟨#[j0, j1, j2, j3, j4, j5, j6, v7, j8, .slice p9 l.length l.length, j10, j11, j12, .int .i64 kk, .int .i64 n, j15, j16, j17, j18, j19, j20, j21, j22, j23, j24, j25, j26, j27, j28, j29, j30, j31, j32, j33, j34, j35, j36, j37, j38, j39, j40, j41, j42, j43, j44, j45, j46, j47, j48, j49, j50, j51, j52, j53, j54, j55, j56, j57, j58, j59, j60, j61, j62, j63, j64, j65, j66, j67, j68, j69, j70, j71, j72, j73, j74, j75, j76, j77, j78, j79, j80, j81, j82, j83, j84, j85, j86, j87, j88, j89, j90, j91, j92, j93, j94, j95, j96, j97, j98, j99, j100, j101, j102, j103, j104, j105, j106, j107, j108, j109, j110, j111, j112, j113, j114, j115, j116, j117, j118, j119, j120, j121, j122, j123, j124, j125, j126, j127, j128, j129, j130, j131, j132, j133, j134, j135, j136, j137, j138, j139, j140, j141, j142, j143, j144, j145, j146, j147, j148, j149, j150, j151, j152, j153, j154, j155, j156, j157, j158, j159, j160, j161], []⟩ : Act).tmps.getD ix undef), rfl, hn, hh, h, .refl, by kernel_rfl⟩
  rintro nn _ A' ⟨a, b, m, n, F', zz, rfl, hn, hh, h, hS, rfl⟩
  obtain ⟨FJ, hJA⟩ := Asn.right h
  rcases nil_or_last a with rfl | ⟨a, z, rfl⟩
  · obtain rfl : nn = 0 := by simpa using hn.symm
    refine cw_seq good (cw_seq good (ca_draw good [.int .i64 (0 : Nat), .bool false, .bool false, undef, undef, undef, undef, undef, undef, undef, undef, undef, undef, undef, undef, .bool false] [] (by kernel_rfl) rfl ?_ ⟨#[j0, j1, j2, j3, j4, j5, j6, v7, j8, .slice p9 l.length l.length, j10, j11, j12, .int .i64 kk, .int .i64 (0 : Nat), j15, j16, j17, j18, j19, j20, j21, j22, j23, j24, j25, j26, j27, j28, j29, j30, j31, j32, j33, j34, j35, j36, j37, j38, j39, j40, j41, j42, j43, j44, j45, j46, j47, j48, j49, j50, j51, j52, j53, j54, j55, j56, j57, j58, j59, j60, j61, j62, j63, j64, j65, j66, j67, j68, j69, j70, j71, j72, j73, j74, j75, j76, j77, j78, j79, j80, j81, j82, j83, j84, j85, j86, j87, j88, j89, j90, j91, j92, j93, j94, j95, j96, j97, j98, j99, j100, j101, j102, j103, j104, j105, j106, j107, .int .i64 (0 : Nat), .bool false, .bool false, undef, undef, undef, undef, undef, undef, undef, undef, undef, undef, undef, undef, .bool false, (zz 124), (zz 125), (zz 126), (zz 127), (zz 128), (zz 129), (zz 130), (zz 131), (zz 132), (zz 133), j134, j135, j136, j137, j138, j139, j140, j141, j142, j143, j144, j145, j146, j147, j148, j149, j150, j151, j152, j153, j154, j155, j156, j157, j158, j159, j160, j161], []⟩ _ (by kernel_rfl) rfl ?_))
    · intro jj o ho
      match jj, ho with
      | 0, ho => cases ho; exact sa_quiet rfl [16] (all1 (aop_mv rfl (by kernel_rfl))) rfl
      | 1, ho => cases ho; exact sa_quiet rfl [16] (all1 (aop_int (k := .i64) (m := (0 : Nat)) (n := 0) (v := .bool false) rfl (by kernel_rfl) (by kernel_rfl) rfl)) rfl
      | 2, ho => cases ho; exact sa_quiet rfl [16] (all1 (aop_mv rfl (by kernel_rfl))) rfl
      | 3, ho => cases ho; exact sa_not rfl rfl rfl
      | 4, ho => cases ho; exact sa_not rfl rfl rfl
      | 5, ho => cases ho; exact sa_not rfl rfl rfl
      | 6, ho => cases ho; exact sa_not rfl rfl rfl
      | 7, ho => cases ho; exact sa_not rfl rfl rfl
      | 8, ho => cases ho; exact sa_not rfl rfl rfl
      | 9, ho => cases ho; exact sa_not rfl rfl rfl
      | 10, ho => cases ho; exact sa_not rfl rfl rfl
      | 11, ho => cases ho; exact sa_not rfl rfl rfl
      | 12, ho => cases ho; exact sa_not rfl rfl rfl
      | 13, ho => cases ho; exact sa_not rfl rfl rfl
      | 14, ho => cases ho; exact sa_not rfl rfl rfl
      | 15, ho => cases ho; exact sa_quiet rfl [16] (all1 (aop_picks (b := false) rfl (by kernel_rfl) (by kernel_rfl))) rfl
      | n + 16, ho => simp at ho
    refine cw_cond good false (by kernel_rfl) (cw_exit good ?_)
    exact hQ [] b m 0 A' F' _ ⟨(fun ix => (⟨#[j0, j1, j2, j3, j4, j5, j6, v7, j8, .slice p9 l.length l.length, j10, j11, j12, .int .i64 kk, .int .i64 (0 : Nat), j15, j16, j17, j18, j19, j20, j21, j22, j23, j24, j25, j26, j27, j28, j29, j30, j31, j32, j33, j34, j35, j36, j37, j38, j39, j40, j41, j42, j43, j44, j45, j46, j47, j48, j49, j50, j51, j52, j53, j54, j55, j56, j57, j58, j59, j60, j61, j62, j63, j64, j65, j66, j67, j68, j69, j70, j71, j72, j73, j74, j75, j76, j77, j78, j79, j80, j81, j82, j83, j84, j85, j86, j87, j88, j89, j90, j91, j92, j93, j94, j95, j96, j97, j98, j99, j100, j101, j102, j103, j104, j105, j106, j107, .int .i64 (0 : Nat), .bool false, .bool false, undef, undef, undef, undef, undef, undef, undef, undef, undef, undef, undef, undef, .bool false, (zz 124), (zz 125), (zz 126), (zz 127), (zz 128), (zz 129), (zz 130), (zz 131), (zz 132), (zz 133), j134, j135, j136, j137, j138, j139, j140, j141, j142, j143, j144, j145, j146, j147, j148, j149, j150, j151, j152, j153, j154, j155, j156, j157, j158, j159, j160, j161], []⟩ : Act).tmps.getD ix undef), by kernel_rfl⟩ rfl hh (fun z h => by simp at h) h hS
  · obtain ⟨k, rfl⟩ : ∃ k, nn = k + 1 := ⟨a.length, by simpa using hn.symm⟩
    have hk0 : a.length = k := by simpa using hn
    obtain ⟨gz, hzw⟩ := hole_get hh
    rw [hk0] at gz
    obtain ⟨u, gu⟩ := hole_hole hh
    rw [hn] at gu
    have hml := hole_len hh
    have hzr := hw z hzw
    obtain ⟨d, rfl, gc, _, _⟩ := lstV_put hJ h gz
    obtain ⟨d', e', gc', gs', gp'⟩ := lstV_put hJ h gu
    cases e'
    obtain ⟨ad, rfl, hcx⟩ := h9 hJA kk x hkk
    refine cw_seq good (cw_seq good (ca_draw good [.int .i64 (k + 1 : Nat), .bool true, .bool true, .slice (some ⟨d, 0, none⟩) m.length m.length, .int .i64 (k + 1 : Nat), .int .i64 k, .pointer (some ((⟨d, 0, none⟩ : Addr).add (k * 1))), .int .i64 z, .int .i64 (k10 z), .slice (some ad) l.length l.length, .int .i64 kk, .pointer (some (ad.add (kk * 1))), .int .i64 x, .int .i64 (k10 x), .bool (decide (k10 z > k10 x)), .bool (decide (k10 z > k10 x))] [] (by kernel_rfl) rfl ?_ ⟨#[j0, j1, j2, j3, j4, j5, j6, .slice (some ⟨d, 0, none⟩) m.length m.length, j8, .slice (some ad) l.length l.length, j10, j11, j12, .int .i64 kk, .int .i64 (k + 1 : Nat), j15, j16, j17, j18, j19, j20, j21, j22, j23, j24, j25, j26, j27, j28, j29, j30, j31, j32, j33, j34, j35, j36, j37, j38, j39, j40, j41, j42, j43, j44, j45, j46, j47, j48, j49, j50, j51, j52, j53, j54, j55, j56, j57, j58, j59, j60, j61, j62, j63, j64, j65, j66, j67, j68, j69, j70, j71, j72, j73, j74, j75, j76, j77, j78, j79, j80, j81, j82, j83, j84, j85, j86, j87, j88, j89, j90, j91, j92, j93, j94, j95, j96, j97, j98, j99, j100, j101, j102, j103, j104, j105, j106, j107, .int .i64 (k + 1 : Nat), .bool true, .bool true, .slice (some ⟨d, 0, none⟩) m.length m.length, .int .i64 (k + 1 : Nat), .int .i64 k, .pointer (some ((⟨d, 0, none⟩ : Addr).add (k * 1))), .int .i64 z, .int .i64 (k10 z), .slice (some ad) l.length l.length, .int .i64 kk, .pointer (some (ad.add (kk * 1))), .int .i64 x, .int .i64 (k10 x), .bool (decide (k10 z > k10 x)), .bool (decide (k10 z > k10 x)), (zz 124), (zz 125), (zz 126), (zz 127), (zz 128), (zz 129), (zz 130), (zz 131), (zz 132), (zz 133), j134, j135, j136, j137, j138, j139, j140, j141, j142, j143, j144, j145, j146, j147, j148, j149, j150, j151, j152, j153, j154, j155, j156, j157, j158, j159, j160, j161], []⟩ _ (by kernel_rfl) rfl ?_))
    · intro jj o ho
      match jj, ho with
      | 0, ho => cases ho; exact sa_quiet rfl [16] (all1 (aop_mv rfl (by kernel_rfl))) rfl
      | 1, ho => cases ho; exact sa_quiet rfl [16] (all1 (aop_int (k := .i64) (m := (k + 1 : Nat)) (n := 0) rfl (by kernel_rfl) (by kernel_rfl) (by simp [intV] <;> omega))) rfl
      | 2, ho => cases ho; exact sa_quiet rfl [16] (all1 (aop_mv rfl (by kernel_rfl))) rfl
      | 3, ho => cases ho; exact sa_quiet rfl [16] (all1 (aop_mv rfl (by kernel_rfl))) rfl
      | 4, ho => cases ho; exact sa_quiet rfl [16] (all1 (aop_mv rfl (by kernel_rfl))) rfl
      | 5, ho => cases ho; exact sa_quiet rfl [16] (all1 (aop_int (k := .i64) (m := (k + 1 : Nat)) (n := 1) rfl (by kernel_rfl) (by kernel_rfl) (intV_sub (by omega) (by omega) (by omega)))) rfl
      | 6, ho => cases ho; exact sa_quiet rfl [16] (all1 (aop_index (k := .i64) (len := m.length) (cap := m.length) (p := ⟨d, 0, none⟩) rfl (by kernel_rfl) (by kernel_rfl) rfl rfl (by omega))) rfl
      | 7, ho => cases ho; exact sa_quiet rfl [16] (all1 (aop_load (p := (⟨d, 0, none⟩ : Addr).add (k * 1)) rfl (by kernel_rfl) rfl (by rw [add_at]; exact gc))) rfl
      | 8, ho => cases ho; exact sa_quiet rfl [16] (all1 (aop_int (k := .i64) (m := z) (n := 10) rfl (by kernel_rfl) (by kernel_rfl) (quo10 hzr))) rfl
      | 9, ho => cases ho; exact sa_quiet rfl [16] (all1 (aop_mv rfl (by kernel_rfl))) rfl
      | 10, ho => cases ho; exact sa_quiet rfl [16] (all1 (aop_mv rfl (by kernel_rfl))) rfl
      | 11, ho => cases ho; exact sa_quiet rfl [16] (all1 (aop_index (k := .i64) (len := l.length) (cap := l.length) (p := ad) rfl (by kernel_rfl) (by kernel_rfl) rfl rfl hkl)) rfl
      | 12, ho => cases ho; exact sa_quiet rfl [16] (all1 (aop_load rfl (by kernel_rfl) rfl hcx)) rfl
      | 13, ho => cases ho; exact sa_quiet rfl [16] (all1 (aop_int (k := .i64) (m := x) (n := 10) rfl (by kernel_rfl) (by kernel_rfl) (quo10 hx))) rfl
      | 14, ho => cases ho; exact sa_quiet rfl [16] (all1 (aop_int (k := .i64) (m := k10 z) (n := k10 x) rfl (by kernel_rfl) (by kernel_rfl) rfl)) rfl
      | 15, ho => cases ho; exact sa_quiet rfl [16] (all1 (aop_picks (b := true) rfl (by kernel_rfl) (by kernel_rfl))) rfl
      | n + 16, ho => simp at ho
    by_cases hk : k10 x < k10 z
    · refine cw_cond good true (congrArg Value.bool (decide_eq_true hk)) (cw_skip good ?_)
      refine cw_block good (cw_seq good (cw_region good ?_))
      refine wpO_mv (.slice (some ⟨d, 0, none⟩) m.length m.length) (by kernel_rfl) ?_
      refine wpO_mv (.int .i64 (k + 1 : Nat)) (by kernel_rfl) ?_
      refine wpO_mv (.slice (some ⟨d, 0, none⟩) m.length m.length) (by kernel_rfl) ?_
      simp only [Act.put, List.setIfInBounds_toArray, List.set_cons_succ, List.set_cons_zero]
      refine wpO_mv (.int .i64 (k + 1 : Nat)) (by kernel_rfl) ?_
      refine wpO_val (aop_int (k := .i64) (m := (k + 1 : Nat)) (n := 1) (v := .int .i64 k) rfl (by kernel_rfl) (by kernel_rfl) (intV_sub (by omega) (by omega) (by omega))) ?_
      refine wpO_val (aop_index (k := .i64) (len := m.length) (cap := m.length) (i := k) (p := ⟨d, 0, none⟩) rfl (by kernel_rfl) (by kernel_rfl) rfl rfl (by omega)) ?_
      rw [add_at]
      simp only [Act.put, List.setIfInBounds_toArray, List.set_cons_succ, List.set_cons_zero]
      refine wpO_val (aop_load (v := .int .i64 z) rfl (by kernel_rfl) rfl gc) ?_
      refine wpO_val (aop_index (k := .i64) (len := m.length) (cap := m.length) (i := (k + 1)) (p := ⟨d, 0, none⟩) rfl (by kernel_rfl) (by kernel_rfl) rfl rfl (by omega)) ?_
      rw [add_at]
      simp only [Act.put, List.setIfInBounds_toArray, List.set_cons_succ, List.set_cons_zero]
      refine wpO_unit (aop_store (v := .int .i64 z) rfl (by kernel_rfl) (by kernel_rfl) rfl rfl gc' gs') ?_
      simp only [Act.put]
      refine cw_region good ?_
      refine wpO_mv (.int .i64 (k + 1 : Nat)) (by kernel_rfl) ?_
      refine wpO_val (aop_int (k := .i64) (m := (k + 1 : Nat)) (n := 1) (v := .int .i64 k) rfl (by kernel_rfl) (by kernel_rfl) (intV_sub (by omega) (by omega) (by omega))) ?_
      refine wpO_as (.int .i64 k) (by kernel_rfl) ?_
      simp only [Act.put, List.setIfInBounds_toArray, List.set_cons_succ, List.set_cons_zero]
      obtain ⟨h5, S5⟩ := gp' z
      have hnx := (hole_next hh hk).2
      rw [hk0] at hnx
      exact ⟨k, Nat.lt_succ_self k, a, z :: b, m.set (k + 1) z, k, F', (fun ix => (⟨#[j0, j1, j2, j3, j4, j5, j6, .slice (some ⟨d, 0, none⟩) m.length m.length, j8, .slice (some ad) l.length l.length, j10, j11, j12, .int .i64 kk, .int .i64 k, j15, j16, j17, j18, j19, j20, j21, j22, j23, j24, j25, j26, j27, j28, j29, j30, j31, j32, j33, j34, j35, j36, j37, j38, j39, j40, j41, j42, j43, j44, j45, j46, j47, j48, j49, j50, j51, j52, j53, j54, j55, j56, j57, j58, j59, j60, j61, j62, j63, j64, j65, j66, j67, j68, j69, j70, j71, j72, j73, j74, j75, j76, j77, j78, j79, j80, j81, j82, j83, j84, j85, j86, j87, j88, j89, j90, j91, j92, j93, j94, j95, j96, j97, j98, j99, j100, j101, j102, j103, j104, j105, j106, j107, .int .i64 (k + 1 : Nat), .bool true, .bool true, .slice (some ⟨d, 0, none⟩) m.length m.length, .int .i64 (k + 1 : Nat), .int .i64 k, .pointer (some ⟨d, k, none⟩), .int .i64 z, .int .i64 (k10 z), .slice (some ad) l.length l.length, .int .i64 kk, .pointer (some (ad.add (kk * 1))), .int .i64 x, .int .i64 (k10 x), .bool (decide (k10 z > k10 x)), .bool (decide (k10 z > k10 x)), .slice (some ⟨d, 0, none⟩) m.length m.length, .int .i64 (k + 1 : Nat), .slice (some ⟨d, 0, none⟩) m.length m.length, .int .i64 (k + 1 : Nat), .int .i64 k, .pointer (some ⟨d, k, none⟩), .int .i64 z, .pointer (some ⟨d, (k + 1), none⟩), .int .i64 (k + 1 : Nat), .int .i64 k, j134, j135, j136, j137, j138, j139, j140, j141, j142, j143, j144, j145, j146, j147, j148, j149, j150, j151, j152, j153, j154, j155, j156, j157, j158, j159, j160, j161], []⟩ : Act).tmps.getD ix undef), rfl, hk0, hnx, h5, hS.trans S5, by kernel_rfl⟩
    · refine cw_cond good false (congrArg Value.bool (decide_eq_false hk)) (cw_exit good ?_)
      exact hQ (a ++ [z]) b m (k + 1) A' F' _ ⟨(fun ix => (⟨#[j0, j1, j2, j3, j4, j5, j6, .slice (some ⟨d, 0, none⟩) m.length m.length, j8, .slice (some ad) l.length l.length, j10, j11, j12, .int .i64 kk, .int .i64 (k + 1 : Nat), j15, j16, j17, j18, j19, j20, j21, j22, j23, j24, j25, j26, j27, j28, j29, j30, j31, j32, j33, j34, j35, j36, j37, j38, j39, j40, j41, j42, j43, j44, j45, j46, j47, j48, j49, j50, j51, j52, j53, j54, j55, j56, j57, j58, j59, j60, j61, j62, j63, j64, j65, j66, j67, j68, j69, j70, j71, j72, j73, j74, j75, j76, j77, j78, j79, j80, j81, j82, j83, j84, j85, j86, j87, j88, j89, j90, j91, j92, j93, j94, j95, j96, j97, j98, j99, j100, j101, j102, j103, j104, j105, j106, j107, .int .i64 (k + 1 : Nat), .bool true, .bool true, .slice (some ⟨d, 0, none⟩) m.length m.length, .int .i64 (k + 1 : Nat), .int .i64 k, .pointer (some ((⟨d, 0, none⟩ : Addr).add (k * 1))), .int .i64 z, .int .i64 (k10 z), .slice (some ad) l.length l.length, .int .i64 kk, .pointer (some (ad.add (kk * 1))), .int .i64 x, .int .i64 (k10 x), .bool (decide (k10 z > k10 x)), .bool (decide (k10 z > k10 x)), (zz 124), (zz 125), (zz 126), (zz 127), (zz 128), (zz 129), (zz 130), (zz 131), (zz 132), (zz 133), j134, j135, j136, j137, j138, j139, j140, j141, j142, j143, j144, j145, j146, j147, j148, j149, j150, j151, j152, j153, j154, j155, j156, j157, j158, j159, j160, j161], []⟩ : Act).tmps.getD ix undef), by kernel_rfl⟩ hn hh (fun u hu => by simp at hu; subst hu; omega) h hS
end Go.Proofs.Ytipomlcnmaldkaa
/-
  asterismlaw3.SeqMerge: a list of keys, put into order; all of them, put into order. No condition.
-/
namespace Go.Proofs.Ytipomlcnmaldkaa
open Go.Abs
variable {n₀ : Nat}
set_option maxRecDepth 8000
set_option maxHeartbeats 8000000 in
/-- One of the lists: each number's key, put into its place. -/
theorem line_loop {A : World} {F : Foot} {J : Asn} (hJ : Owns J) {q p0 : Option Addr} {c0 c1 i : Nat} {vs : List Value} {l0 : List Int} (hi : i < 5) (hiv : vs[i]? = some (.slice p0 l0.length c1)) (HL : ∀ {F' : Foot} {A' : World}, Step F A F' A' → RdV A' q vs ∧ Rd A' p0 l0) (h : J F A) {j1 j2 j3 j4 j5 j6 j7 j11 j12 j13 j14 j15 j16 j17 j18 j19 j20 j21 j22 j23 j24 j25 j26 j27 j28 j29 j30 j31 j32 j33 j34 j35 j36 j37 j38 j39 j40 j41 j42 j43 j44 j45 j46 j47 j48 j49 j50 j51 j52 j53 j54 j55 j56 j57 j58 j59 j60 j61 j62 j63 j64 j65 j66 j67 j68 j69 j70 j71 j72 j73 j74 j75 j76 j77 j78 j79 j80 j81 j82 j83 j84 j85 j86 j87 j88 j89 j90 j91 j92 j93 j94 j95 j96 j97 j98 j99 j100 j101 j102 j103 j104 j105 j106 j107 j108 j109 j110 j111 j112 j113 j114 j115 j116 j117 j118 j119 j120 j121 j122 j123 j124 j125 j126 j127 j128 j129 j130 j131 j132 j133 j134 j135 j136 j137 j138 j139 j140 j141 j142 j143 j144 j145 j146 j147 j148 j149 j150 j151 j152 j153 j154 j155 j156 j157 j158 j159 j160 j161 : Value} {Q : Exit → Act → World → Prop}
    (hQ : ∀ (v9 : Value) (l : List Int) (n : Nat) (A' : World) (F' : Foot) (e : Act), (∃ zz : Nat → Value, e = ⟨#[.slice q vs.length c0, j1, j2, j3, j4, j5, j6, j7, .int .i64 i, v9, .int .i64 n, (zz 11), (zz 12), j13, j14, j15, j16, j17, j18, j19, j20, j21, j22, j23, j24, j25, j26, j27, j28, j29, (zz 30), (zz 31), (zz 32), (zz 33), (zz 34), (zz 35), (zz 36), (zz 37), (zz 38), (zz 39), (zz 40), (zz 41), (zz 42), (zz 43), (zz 44), (zz 45), (zz 46), (zz 47), (zz 48), (zz 49), (zz 50), (zz 51), (zz 52), (zz 53), (zz 54), (zz 55), (zz 56), (zz 57), (zz 58), (zz 59), (zz 60), (zz 61), (zz 62), (zz 63), (zz 64), (zz 65), (zz 66), (zz 67), (zz 68), (zz 69), (zz 70), (zz 71), (zz 72), (zz 73), (zz 74), (zz 75), (zz 76), (zz 77), (zz 78), (zz 79), (zz 80), (zz 81), (zz 82), (zz 83), (zz 84), (zz 85), (zz 86), (zz 87), (zz 88), j89, j90, j91, j92, j93, j94, j95, j96, j97, j98, j99, j100, j101, j102, j103, j104, j105, j106, j107, j108, j109, j110, j111, j112, j113, j114, j115, j116, j117, j118, j119, j120, j121, j122, j123, j124, j125, j126, j127, j128, j129, j130, j131, j132, j133, j134, j135, j136, j137, j138, j139, j140, j141, j142, j143, j144, j145, j146, j147, j148, j149, j150, j151, j152, j153, j154, j155, j156, j157, j158, j159, j160, j161], []⟩) → InOrder l → l.length ≤ 12 → (∀ y ∈ l, 0 ≤ y ∧ y < 1000) → ((lstV 3 v9 l).sep J) F' A' → Step F A F' A' → Q (.exit 2) e A') :
    wpL Try.prog n₀ none c4b Q ⟨#[.slice q vs.length c0, j1, j2, j3, j4, j5, j6, j7, .int .i64 i, .slice none 0 0, .int .i64 (0 : Nat), j11, j12, j13, j14, j15, j16, j17, j18, j19, j20, j21, j22, j23, j24, j25, j26, j27, j28, j29, j30, j31, j32, j33, j34, j35, j36, j37, j38, j39, j40, j41, j42, j43, j44, j45, j46, j47, j48, j49, j50, j51, j52, j53, j54, j55, j56, j57, j58, j59, j60, j61, j62, j63, j64, j65, j66, j67, j68, j69, j70, j71, j72, j73, j74, j75, j76, j77, j78, j79, j80, j81, j82, j83, j84, j85, j86, j87, j88, j89, j90, j91, j92, j93, j94, j95, j96, j97, j98, j99, j100, j101, j102, j103, j104, j105, j106, j107, j108, j109, j110, j111, j112, j113, j114, j115, j116, j117, j118, j119, j120, j121, j122, j123, j124, j125, j126, j127, j128, j129, j130, j131, j132, j133, j134, j135, j136, j137, j138, j139, j140, j141, j142, j143, j144, j145, j146, j147, j148, j149, j150, j151, j152, j153, j154, j155, j156, j157, j158, j159, j160, j161], []⟩ A := by
  have hivl : i < vs.length := (List.getElem?_eq_some_iff.1 hiv).1
  refine wpL_ind (fun nn e A' => ∃ (v9 : Value) (l : List Int) (n : Nat) (F' : Foot) (zz : Nat → Value), nn = 12 - n ∧ l.length = n ∧ n ≤ 12 ∧ InOrder l ∧ (∀ y ∈ l, 0 ≤ y ∧ y < 1000) ∧ ((lstV 3 v9 l).sep J) F' A' ∧ Step F A F' A' ∧ e = ⟨#[.slice q vs.length c0, j1, j2, j3, j4, j5, j6, j7, .int .i64 i, v9, .int .i64 n, (zz 11), (zz 12), j13, j14, j15, j16, j17, j18, j19, j20, j21, j22, j23, j24, j25, j26, j27, j28, j29, (zz 30), (zz 31), (zz 32), (zz 33), (zz 34), (zz 35), (zz 36), (zz 37), (zz 38), (zz 39), (zz 40), (zz 41), (zz 42), (zz 43), (zz 44), (zz 45), (zz 46), (zz 47), (zz 48), (zz 49), (zz 50), (zz 51), (zz 52), (zz 53), (zz 54), (zz 55), (zz 56), (zz 57), (zz 58), (zz 59), (zz 60), (zz 61), (zz 62), (zz 63), (zz 64), (zz 65), (zz 66), (zz 67), (zz 68), (zz 69), (zz 70), (zz 71), (zz 72), (zz 73), (zz 74), (zz 75), (zz 76), (zz 77), (zz 78), (zz 79), (zz 80), (zz 81), (zz 82), (zz 83), (zz 84), (zz 85), (zz 86), (zz 87), (zz 88), j89, j90, j91, j92, j93, j94, j95, j96, j97, j98, j99, j100, j101, j102, j103, j104, j105, j106, j107, j108, j109, j110, j111, j112, j113, j114, j115, j116, j117, j118, j119, j120, j121, j122, j123, j124, j125, j126, j127, j128, j129, j130, j131, j132, j133, j134, j135, j136, j137, j138, j139, j140, j141, j142, j143, j144, j145, j146, j147, j148, j149, j150, j151, j152, j153, j154, j155, j156, j157, j158, j159, j160, j161], []⟩) ?_ 12 _ _
    ⟨.slice none 0 0, [], 0, F, (fun ix => (⟨#[.slice q vs.length c0, j1, j2, j3, j4, j5, j6, j7, .int .i64 i, .slice none 0 0, .int .i64 (0 : Nat), j11, j12, j13, j14, j15, j16, j17, j18, j19, j20, j21, j22, j23, j24, j25, j26, j27, j28, j29, j30, j31, j32, j33, j34, j35, j36, j37, j38, j39, j40, j41, j42, j43, j44, j45, j46, j47, j48, j49, j50, j51, j52, j53, j54, j55, j56, j57, j58, j59, j60, j61, j62, j63, j64, j65, j66, j67, j68, j69, j70, j71, j72, j73, j74, j75, j76, j77, j78, j79, j80, j81, j82, j83, j84, j85, j86, j87, j88, j89, j90, j91, j92, j93, j94, j95, j96, j97, j98, j99, j100, j101, j102, j103, j104, j105, j106, j107, j108, j109, j110, j111, j112, j113, j114, j115, j116, j117, j118, j119, j120, j121, j122, j123, j124, j125, j126, j127, j128, j129, j130, j131, j132, j133, j134, j135, j136, j137, j138, j139, j140, j141, j142, j143, j144, j145, j146, j147, j148, j149, j150, j151, j152, j153, j154, j155, j156, j157, j158, j159, j160, j161], []⟩ : Act).tmps.getD ix undef), rfl, rfl, by omega, .nil, (fun _ h => by cases h), add_lst h, .refl, by kernel_rfl⟩
  rintro nn _ A' ⟨v9, l, n, F', zz, rfl, hln, hn12, ho, hrg, h, hS, rfl⟩
  obtain ⟨hqr, hr0⟩ := HL hS
  obtain ⟨aq, rfl, hcq⟩ := hqr i _ hiv
  obtain ⟨_, h9⟩ := Asn.left h
  obtain ⟨p9, rfl, _⟩ := lstV_rd h9
  subst hln
  by_cases hlt : l.length < l0.length
  case neg =>
    refine cw_seq good (cw_seq good (cw_region good ?_))
    refine wpO_mv (.int .i64 l.length) (by kernel_rfl) ?_
    refine wpO_mv (.slice (some aq) vs.length c0) (by kernel_rfl) ?_
    refine wpO_mv (.int .i64 i) (by kernel_rfl) ?_
    simp only [Act.put, List.setIfInBounds_toArray, List.set_cons_succ, List.set_cons_zero]
    refine wpO_val (aop_index (k := .i64) (len := vs.length) (cap := c0) (i := i) (p := aq) rfl (by kernel_rfl) (by kernel_rfl) rfl rfl hivl) ?_
    refine wpO_val (aop_load (v := .slice p0 l0.length c1) rfl (by kernel_rfl) rfl hcq) ?_
    refine wpO_val (aop_lenV (b := p0) (len := l0.length) (cap := c1) rfl rfl rfl rfl (by kernel_rfl) rfl) ?_
    simp only [Act.put, List.setIfInBounds_toArray, List.set_cons_succ, List.set_cons_zero]
    refine wpO_val (aop_int (k := .i64) (m := l.length) (n := l0.length) (v := .bool false) rfl (by kernel_rfl) (by kernel_rfl) (by simp [intV]; omega)) ?_
    refine wpO_mv (.bool false) (by kernel_rfl) ?_
    simp only [Act.put, List.setIfInBounds_toArray, List.set_cons_succ, List.set_cons_zero]
    with_reducible refine wpO_not ?_ (hw := by kernel_rfl)
    with_reducible refine wpO_not ?_ (hw := by kernel_rfl)
    refine wpO_val (aop_picks (b := false) (v := .bool false) rfl (by kernel_rfl) (by kernel_rfl)) ?_
    simp only [Act.put, List.setIfInBounds_toArray, List.set_cons_succ, List.set_cons_zero]
    refine cw_cond good false (by kernel_rfl) (cw_exit good ?_)
    exact hQ (.slice p9 l.length l.length) l l.length A' F' _ ⟨(fun ix => (⟨#[.slice (some aq) vs.length c0, j1, j2, j3, j4, j5, j6, j7, .int .i64 i, .slice p9 l.length l.length, .int .i64 l.length, (zz 11), (zz 12), j13, j14, j15, j16, j17, j18, j19, j20, j21, j22, j23, j24, j25, j26, j27, j28, j29, .int .i64 l.length, .slice (some aq) vs.length c0, .int .i64 i, .pointer (some (aq.add (i * 1))), .slice p0 l0.length c1, .int .i64 l0.length, .bool false, .bool false, undef, undef, .bool false, (zz 41), (zz 42), (zz 43), (zz 44), (zz 45), (zz 46), (zz 47), (zz 48), (zz 49), (zz 50), (zz 51), (zz 52), (zz 53), (zz 54), (zz 55), (zz 56), (zz 57), (zz 58), (zz 59), (zz 60), (zz 61), (zz 62), (zz 63), (zz 64), (zz 65), (zz 66), (zz 67), (zz 68), (zz 69), (zz 70), (zz 71), (zz 72), (zz 73), (zz 74), (zz 75), (zz 76), (zz 77), (zz 78), (zz 79), (zz 80), (zz 81), (zz 82), (zz 83), (zz 84), (zz 85), (zz 86), (zz 87), (zz 88), j89, j90, j91, j92, j93, j94, j95, j96, j97, j98, j99, j100, j101, j102, j103, j104, j105, j106, j107, j108, j109, j110, j111, j112, j113, j114, j115, j116, j117, j118, j119, j120, j121, j122, j123, j124, j125, j126, j127, j128, j129, j130, j131, j132, j133, j134, j135, j136, j137, j138, j139, j140, j141, j142, j143, j144, j145, j146, j147, j148, j149, j150, j151, j152, j153, j154, j155, j156, j157, j158, j159, j160, j161], []⟩ : Act).tmps.getD ix undef), by kernel_rfl⟩ ho hn12 hrg h hS
  by_cases h12 : l.length < 12
  case neg =>
    refine cw_seq good (cw_seq good (cw_region good ?_))
    refine wpO_mv (.int .i64 l.length) (by kernel_rfl) ?_
    refine wpO_mv (.slice (some aq) vs.length c0) (by kernel_rfl) ?_
    refine wpO_mv (.int .i64 i) (by kernel_rfl) ?_
    simp only [Act.put, List.setIfInBounds_toArray, List.set_cons_succ, List.set_cons_zero]
    refine wpO_val (aop_index (k := .i64) (len := vs.length) (cap := c0) (i := i) (p := aq) rfl (by kernel_rfl) (by kernel_rfl) rfl rfl hivl) ?_
    refine wpO_val (aop_load (v := .slice p0 l0.length c1) rfl (by kernel_rfl) rfl hcq) ?_
    refine wpO_val (aop_lenV (b := p0) (len := l0.length) (cap := c1) rfl rfl rfl rfl (by kernel_rfl) rfl) ?_
    simp only [Act.put, List.setIfInBounds_toArray, List.set_cons_succ, List.set_cons_zero]
    refine wpO_val (aop_int (k := .i64) (m := l.length) (n := l0.length) (v := .bool true) rfl (by kernel_rfl) (by kernel_rfl) (by simp [intV]; omega)) ?_
    refine wpO_mv (.bool true) (by kernel_rfl) ?_
    simp only [Act.put, List.setIfInBounds_toArray, List.set_cons_succ, List.set_cons_zero]
    with_reducible refine wpO_mv (.int .i64 l.length) (by kernel_rfl) ?_ (hw := by kernel_rfl)
    simp only [Act.put, List.setIfInBounds_toArray, List.set_cons_succ, List.set_cons_zero]
    with_reducible refine wpO_val (v := .bool false) (A1 := A') ?_ ?_ (hw := by kernel_rfl)
    · exact aop_int (k := .i64) (m := l.length) (n := 12) (v := .bool false) rfl (by kernel_rfl) (by kernel_rfl) (by simp [intV]; omega)
    refine wpO_val (aop_picks (b := true) (v := .bool false) rfl (by kernel_rfl) (by kernel_rfl)) ?_
    simp only [Act.put, List.setIfInBounds_toArray, List.set_cons_succ, List.set_cons_zero]
    refine cw_cond good false (by kernel_rfl) (cw_exit good ?_)
    exact hQ (.slice p9 l.length l.length) l l.length A' F' _ ⟨(fun ix => (⟨#[.slice (some aq) vs.length c0, j1, j2, j3, j4, j5, j6, j7, .int .i64 i, .slice p9 l.length l.length, .int .i64 l.length, (zz 11), (zz 12), j13, j14, j15, j16, j17, j18, j19, j20, j21, j22, j23, j24, j25, j26, j27, j28, j29, .int .i64 l.length, .slice (some aq) vs.length c0, .int .i64 i, .pointer (some (aq.add (i * 1))), .slice p0 l0.length c1, .int .i64 l0.length, .bool true, .bool true, .int .i64 l.length, .bool false, .bool false, (zz 41), (zz 42), (zz 43), (zz 44), (zz 45), (zz 46), (zz 47), (zz 48), (zz 49), (zz 50), (zz 51), (zz 52), (zz 53), (zz 54), (zz 55), (zz 56), (zz 57), (zz 58), (zz 59), (zz 60), (zz 61), (zz 62), (zz 63), (zz 64), (zz 65), (zz 66), (zz 67), (zz 68), (zz 69), (zz 70), (zz 71), (zz 72), (zz 73), (zz 74), (zz 75), (zz 76), (zz 77), (zz 78), (zz 79), (zz 80), (zz 81), (zz 82), (zz 83), (zz 84), (zz 85), (zz 86), (zz 87), (zz 88), j89, j90, j91, j92, j93, j94, j95, j96, j97, j98, j99, j100, j101, j102, j103, j104, j105, j106, j107, j108, j109, j110, j111, j112, j113, j114, j115, j116, j117, j118, j119, j120, j121, j122, j123, j124, j125, j126, j127, j128, j129, j130, j131, j132, j133, j134, j135, j136, j137, j138, j139, j140, j141, j142, j143, j144, j145, j146, j147, j148, j149, j150, j151, j152, j153, j154, j155, j156, j157, j158, j159, j160, j161], []⟩ : Act).tmps.getD ix undef), by kernel_rfl⟩ ho hn12 hrg h hS
  obtain ⟨y, hy⟩ : ∃ y, l0[l.length]? = some y := ⟨_, List.getElem?_eq_getElem hlt⟩
  refine cw_seq good (cw_seq good (cw_region good ?_))
  refine wpO_mv (.int .i64 l.length) (by kernel_rfl) ?_
  refine wpO_mv (.slice (some aq) vs.length c0) (by kernel_rfl) ?_
  refine wpO_mv (.int .i64 i) (by kernel_rfl) ?_
  simp only [Act.put, List.setIfInBounds_toArray, List.set_cons_succ, List.set_cons_zero]
  refine wpO_val (aop_index (k := .i64) (len := vs.length) (cap := c0) (i := i) (p := aq) rfl (by kernel_rfl) (by kernel_rfl) rfl rfl hivl) ?_
  refine wpO_val (aop_load (v := .slice p0 l0.length c1) rfl (by kernel_rfl) rfl hcq) ?_
  refine wpO_val (aop_lenV (b := p0) (len := l0.length) (cap := c1) rfl rfl rfl rfl (by kernel_rfl) rfl) ?_
  simp only [Act.put, List.setIfInBounds_toArray, List.set_cons_succ, List.set_cons_zero]
  refine wpO_val (aop_int (k := .i64) (m := l.length) (n := l0.length) (v := .bool true) rfl (by kernel_rfl) (by kernel_rfl) (by simp [intV]; omega)) ?_
  refine wpO_mv (.bool true) (by kernel_rfl) ?_
  simp only [Act.put, List.setIfInBounds_toArray, List.set_cons_succ, List.set_cons_zero]
  with_reducible refine wpO_mv (.int .i64 l.length) (by kernel_rfl) ?_ (hw := by kernel_rfl)
  simp only [Act.put, List.setIfInBounds_toArray, List.set_cons_succ, List.set_cons_zero]
  with_reducible refine wpO_val (v := .bool true) (A1 := A') ?_ ?_ (hw := by kernel_rfl)
  · exact aop_int (k := .i64) (m := l.length) (n := 12) (v := .bool true) rfl (by kernel_rfl) (by kernel_rfl) (by simp [intV]; omega)
  refine wpO_val (aop_picks (b := true) (v := .bool true) rfl (by kernel_rfl) (by kernel_rfl)) ?_
  simp only [Act.put, List.setIfInBounds_toArray, List.set_cons_succ, List.set_cons_zero]
  refine cw_cond good true (by kernel_rfl) (cw_skip good ?_)
  obtain ⟨ad, rfl, hcy⟩ := hr0 _ y hy
  have hkr := key_range y hi
  have hrr := rr_range y
  have ht := tm20 y
  refine cw_seq good (cw_block good (cw_seq good (cw_region good ?_)))
  refine wpO_mv (.slice (some aq) vs.length c0) (by kernel_rfl) ?_
  refine wpO_mv (.int .i64 i) (by kernel_rfl) ?_
  refine wpO_val (aop_index (k := .i64) (len := vs.length) (cap := c0) (i := i) (p := aq) rfl (by kernel_rfl) (by kernel_rfl) rfl rfl hivl) ?_
  simp only [Act.put, List.setIfInBounds_toArray, List.set_cons_succ, List.set_cons_zero]
  refine wpO_val (aop_load (v := .slice (some ad) l0.length c1) rfl (by kernel_rfl) rfl hcq) ?_
  refine wpO_mv (.int .i64 l.length) (by kernel_rfl) ?_
  refine wpO_val (aop_index (k := .i64) (len := l0.length) (cap := c1) (i := l.length) (p := ad) rfl (by kernel_rfl) (by kernel_rfl) rfl rfl hlt) ?_
  simp only [Act.put, List.setIfInBounds_toArray, List.set_cons_succ, List.set_cons_zero]
  refine wpO_val (aop_load (v := .int .i64 y) rfl (by kernel_rfl) rfl hcy) ?_
  refine wpO_val (aop_int (k := .i64) (m := y) (n := 20) (v := .int .i64 (y.tmod 20)) rfl (by kernel_rfl) (by kernel_rfl) rfl) ?_
  refine wpO_val (aop_int (k := .i64) (m := y.tmod 20) (n := 20) (v := .int .i64 (y.tmod 20 + 20)) rfl (by kernel_rfl) (by kernel_rfl) (intV_add rfl (by omega) (by omega))) ?_
  simp only [Act.put, List.setIfInBounds_toArray, List.set_cons_succ, List.set_cons_zero]
  refine wpO_val (aop_int (k := .i64) (m := y.tmod 20 + 20) (n := 20) (v := .int .i64 (rr y)) rfl (by kernel_rfl) (by kernel_rfl) rfl) ?_
  refine wpO_val (aop_int (k := .i64) (m := rr y) (n := 10) (v := .int .i64 (rr y * 10)) rfl (by kernel_rfl) (by kernel_rfl) (intV_mul rfl (by omega) (by omega))) ?_
  refine wpO_mv (.int .i64 i) (by kernel_rfl) ?_
  simp only [Act.put, List.setIfInBounds_toArray, List.set_cons_succ, List.set_cons_zero]
  refine wpO_val (aop_int (k := .i64) (m := rr y * 10) (n := i) (v := .int .i64 (key y i)) rfl (by kernel_rfl) (by kernel_rfl) (intV_add rfl (by omega) (by omega))) ?_
  refine wpO_as (.int .i64 (key y i)) (by kernel_rfl) ?_
  simp only [Act.put, List.setIfInBounds_toArray, List.set_cons_succ, List.set_cons_zero]
  refine cw_seq good (cw_region good ?_)
  refine wpO_mv (.slice p9 l.length l.length) (by kernel_rfl) ?_
  refine wpO_val (aop_lenV (b := p9) (len := l.length) (cap := l.length) rfl rfl rfl rfl (by kernel_rfl) rfl) ?_
  refine wpO_as (.int .i64 l.length) (by kernel_rfl) ?_
  simp only [Act.put, List.setIfInBounds_toArray, List.set_cons_succ, List.set_cons_zero]
  obtain ⟨v', A2, F2, ap, h2, S2⟩ := grow1 appTy hJ h (by omega) (key y i)
  refine cw_seq good (cw_region good ?_)
  refine wpO_mv (.slice p9 l.length l.length) (by kernel_rfl) ?_
  refine wpO_mv (.int .i64 (key y i)) (by kernel_rfl) ?_
  refine wpO_val (aop_slice1 (v := .int .i64 (key y i)) rfl (by kernel_rfl) rfl rfl rfl rfl rfl rfl) ?_
  simp only [Act.put, List.setIfInBounds_toArray, List.set_cons_succ, List.set_cons_zero]
  refine wpO_val (ap _ _ _ rfl rfl rfl (by kernel_rfl)) ?_
  refine wpO_as (v') (by kernel_rfl) ?_
  simp only [Act.put, List.setIfInBounds_toArray, List.set_cons_succ, List.set_cons_zero]
  refine cw_seq good (cw_block good (cw_loop good ?_))
  refine ins4 hJ hkr hrg (by omega) rfl (hole_first ho) h2 (fun a b m n4 A4 F4 e4 he4 hn4 hh hz h4 S4 => ?_)
  obtain ⟨yy, rfl⟩ := he4
  obtain ⟨u, gu⟩ := hole_hole hh
  have hml := hole_len hh
  have hls := hole_last hh hz
  rw [hn4] at gu hls hml
  obtain ⟨d, rfl, gc, gs, gp⟩ := lstV_put hJ h4 gu
  refine cw_region good ?_
  refine wpO_mv (.slice (some ⟨d, 0, none⟩) m.length m.length) (by kernel_rfl) ?_
  refine wpO_mv (.int .i64 n4) (by kernel_rfl) ?_
  refine wpO_mv (.int .i64 (key y i)) (by kernel_rfl) ?_
  simp only [Act.put, List.setIfInBounds_toArray, List.set_cons_succ, List.set_cons_zero]
  refine wpO_val (aop_index (k := .i64) (len := m.length) (cap := m.length) (i := n4) (p := ⟨d, 0, none⟩) rfl (by kernel_rfl) (by kernel_rfl) rfl rfl (by omega)) ?_
  rw [add_at]
  simp only [Act.put, List.setIfInBounds_toArray, List.set_cons_succ, List.set_cons_zero]
  refine wpO_unit (aop_store (v := .int .i64 (key y i)) rfl (by kernel_rfl) (by kernel_rfl) rfl rfl gc gs) ?_
  simp only [Act.put]
  obtain ⟨h5, S5⟩ := gp (key y i)
  rw [hls] at h5
  refine cw_region good ?_
  refine wpO_mv (.int .i64 l.length) (by kernel_rfl) ?_
  refine wpO_val (aop_int (k := .i64) (m := l.length) (n := 1) (v := .int .i64 (l.length + 1 : Nat)) rfl (by kernel_rfl) (by kernel_rfl) (intV_add (by omega) (by omega) (by omega))) ?_
  refine wpO_as (.int .i64 (l.length + 1 : Nat)) (by kernel_rfl) ?_
  simp only [Act.put, List.setIfInBounds_toArray, List.set_cons_succ, List.set_cons_zero]
  refine ⟨12 - (l.length + 1), by omega, _, ins (key y i) l, l.length + 1, F4, (fun ix => (⟨#[.slice (some aq) vs.length c0, j1, j2, j3, j4, j5, j6, j7, .int .i64 i, .slice (some ⟨d, 0, none⟩) m.length m.length, .int .i64 (l.length + 1 : Nat), .int .i64 (key y i), .int .i64 n4, j13, j14, j15, j16, j17, j18, j19, j20, j21, j22, j23, j24, j25, j26, j27, j28, j29, .int .i64 l.length, .slice (some aq) vs.length c0, .int .i64 i, .pointer (some (aq.add (i * 1))), .slice (some ad) l0.length c1, .int .i64 l0.length, .bool true, .bool true, .int .i64 l.length, .bool true, .bool true, .int .i64 l.length, .int .i64 (l.length + 1 : Nat), .slice (some aq) vs.length c0, .int .i64 i, .pointer (some (aq.add (i * 1))), .slice (some ad) l0.length c1, .int .i64 l.length, .pointer (some (ad.add (l.length * 1))), .int .i64 y, .int .i64 (y.tmod 20), .int .i64 (y.tmod 20 + 20), .int .i64 (rr y), .int .i64 (rr y * 10), .int .i64 i, .int .i64 (key y i), .slice p9 l.length l.length, .int .i64 l.length, .slice p9 l.length l.length, .int .i64 (key y i), .slice (some ⟨A'.heap.size, 0, none⟩) 1 1, .slice (some ⟨d, 0, none⟩) m.length m.length, (yy 62), (yy 63), (yy 64), (yy 65), (yy 66), (yy 67), (yy 68), (yy 69), (yy 70), (yy 71), (yy 72), (yy 73), (yy 74), (yy 75), (yy 76), (yy 77), (yy 78), (yy 79), (yy 80), (yy 81), (yy 82), (yy 83), (yy 84), .slice (some ⟨d, 0, none⟩) m.length m.length, .int .i64 n4, .int .i64 (key y i), .pointer (some ⟨d, n4, none⟩), j89, j90, j91, j92, j93, j94, j95, j96, j97, j98, j99, j100, j101, j102, j103, j104, j105, j106, j107, j108, j109, j110, j111, j112, j113, j114, j115, j116, j117, j118, j119, j120, j121, j122, j123, j124, j125, j126, j127, j128, j129, j130, j131, j132, j133, j134, j135, j136, j137, j138, j139, j140, j141, j142, j143, j144, j145, j146, j147, j148, j149, j150, j151, j152, j153, j154, j155, j156, j157, j158, j159, j160, j161], []⟩ : Act).tmps.getD ix undef), rfl, ins_len, by omega, ins_order ho, fun z hz => ?_, h5, hS.trans (S2.trans (S4.trans S5)), by kernel_rfl⟩
  rcases mem_ins.1 hz with rfl | hz
  · exact hkr
  · exact hrg z hz
set_option maxHeartbeats 8000000 in
/-- What came of one of the lists, put into place among all. -/
theorem want_loop {A : World} {F : Foot} {J : Asn} (hJ : Owns J) {v7 : Value} {p9 : Option Addr} {l w : List Int} (h9 : ∀ {F : Foot} {A : World}, J F A → Rd A p9 l) (ho : InOrder w) (hw : ∀ y ∈ w, 0 ≤ y ∧ y < 1000) (hl : ∀ y ∈ l, 0 ≤ y ∧ y < 1000) (hwl : w.length + l.length < 1000) (h : ((lstV 3 v7 w).sep J) F A) {j0 j1 j2 j3 j4 j5 j6 j8 j10 j11 j12 j14 j15 j16 j17 j18 j19 j20 j21 j22 j23 j24 j25 j26 j27 j28 j29 j30 j31 j32 j33 j34 j35 j36 j37 j38 j39 j40 j41 j42 j43 j44 j45 j46 j47 j48 j49 j50 j51 j52 j53 j54 j55 j56 j57 j58 j59 j60 j61 j62 j63 j64 j65 j66 j67 j68 j69 j70 j71 j72 j73 j74 j75 j76 j77 j78 j79 j80 j81 j82 j83 j84 j85 j86 j87 j88 j89 j90 j91 j92 j93 j94 j95 j96 j97 j98 j99 j100 j101 j102 j103 j104 j105 j106 j107 j108 j109 j110 j111 j112 j113 j114 j115 j116 j117 j118 j119 j120 j121 j122 j123 j124 j125 j126 j127 j128 j129 j130 j131 j132 j133 j134 j135 j136 j137 j138 j139 j140 j141 j142 j143 j144 j145 j146 j147 j148 j149 j150 j151 j152 j153 j154 j155 j156 j157 j158 j159 j160 j161 : Value} {Q : Exit → Act → World → Prop}
    (hQ : ∀ (v7 : Value) (A' : World) (F' : Foot) (e : Act), (∃ zz : Nat → Value, e = ⟨#[j0, j1, j2, j3, j4, j5, j6, v7, j8, .slice p9 l.length l.length, j10, j11, j12, .int .i64 l.length, (zz 14), j15, j16, j17, j18, j19, j20, j21, j22, j23, j24, j25, j26, j27, j28, j29, j30, j31, j32, j33, j34, j35, j36, j37, j38, j39, j40, j41, j42, j43, j44, j45, j46, j47, j48, j49, j50, j51, j52, j53, j54, j55, j56, j57, j58, j59, j60, j61, j62, j63, j64, j65, j66, j67, j68, j69, j70, j71, j72, j73, j74, j75, j76, j77, j78, j79, j80, j81, j82, j83, j84, j85, j86, j87, j88, j89, j90, j91, j92, (zz 93), (zz 94), (zz 95), (zz 96), (zz 97), (zz 98), (zz 99), (zz 100), (zz 101), (zz 102), (zz 103), (zz 104), (zz 105), (zz 106), (zz 107), (zz 108), (zz 109), (zz 110), (zz 111), (zz 112), (zz 113), (zz 114), (zz 115), (zz 116), (zz 117), (zz 118), (zz 119), (zz 120), (zz 121), (zz 122), (zz 123), (zz 124), (zz 125), (zz 126), (zz 127), (zz 128), (zz 129), (zz 130), (zz 131), (zz 132), (zz 133), (zz 134), (zz 135), (zz 136), (zz 137), (zz 138), (zz 139), (zz 140), j141, j142, j143, j144, j145, j146, j147, j148, j149, j150, j151, j152, j153, j154, j155, j156, j157, j158, j159, j160, j161], []⟩) → ((lstV 3 v7 (srt w l)).sep J) F' A' → Step F A F' A' → Q (.exit 6) e A') :
    wpL Try.prog n₀ none c4d Q ⟨#[j0, j1, j2, j3, j4, j5, j6, v7, j8, .slice p9 l.length l.length, j10, j11, j12, .int .i64 (0 : Nat), j14, j15, j16, j17, j18, j19, j20, j21, j22, j23, j24, j25, j26, j27, j28, j29, j30, j31, j32, j33, j34, j35, j36, j37, j38, j39, j40, j41, j42, j43, j44, j45, j46, j47, j48, j49, j50, j51, j52, j53, j54, j55, j56, j57, j58, j59, j60, j61, j62, j63, j64, j65, j66, j67, j68, j69, j70, j71, j72, j73, j74, j75, j76, j77, j78, j79, j80, j81, j82, j83, j84, j85, j86, j87, j88, j89, j90, j91, j92, j93, j94, j95, j96, j97, j98, j99, j100, j101, j102, j103, j104, j105, j106, j107, j108, j109, j110, j111, j112, j113, j114, j115, j116, j117, j118, j119, j120, j121, j122, j123, j124, j125, j126, j127, j128, j129, j130, j131, j132, j133, j134, j135, j136, j137, j138, j139, j140, j141, j142, j143, j144, j145, j146, j147, j148, j149, j150, j151, j152, j153, j154, j155, j156, j157, j158, j159, j160, j161], []⟩ A := by
  refine wpL_ind (fun nn e A' => ∃ (v7 : Value) (k : Nat) (F' : Foot) (zz : Nat → Value), nn = l.length - k ∧ k ≤ l.length ∧ ((lstV 3 v7 (srt w (l.take k))).sep J) F' A' ∧ Step F A F' A' ∧ e = ⟨#[j0, j1, j2, j3, j4, j5, j6, v7, j8, .slice p9 l.length l.length, j10, j11, j12, .int .i64 k, (zz 14), j15, j16, j17, j18, j19, j20, j21, j22, j23, j24, j25, j26, j27, j28, j29, j30, j31, j32, j33, j34, j35, j36, j37, j38, j39, j40, j41, j42, j43, j44, j45, j46, j47, j48, j49, j50, j51, j52, j53, j54, j55, j56, j57, j58, j59, j60, j61, j62, j63, j64, j65, j66, j67, j68, j69, j70, j71, j72, j73, j74, j75, j76, j77, j78, j79, j80, j81, j82, j83, j84, j85, j86, j87, j88, j89, j90, j91, j92, (zz 93), (zz 94), (zz 95), (zz 96), (zz 97), (zz 98), (zz 99), (zz 100), (zz 101), (zz 102), (zz 103), (zz 104), (zz 105), (zz 106), (zz 107), (zz 108), (zz 109), (zz 110), (zz 111), (zz 112), (zz 113), (zz 114), (zz 115), (zz 116), (zz 117), (zz 118), (zz 119), (zz 120), (zz 121), (zz 122), (zz 123), (zz 124), (zz 125), (zz 126), (zz 127), (zz 128), (zz 129), (zz 130), (zz 131), (zz 132), (zz 133), (zz 134), (zz 135), (zz 136), (zz 137), (zz 138), (zz 139), (zz 140), j141, j142, j143, j144, j145, j146, j147, j148, j149, j150, j151, j152, j153, j154, j155, j156, j157, j158, j159, j160, j161], []⟩) ?_ l.length _ _
    ⟨v7, 0, F, (fun ix => (⟨#[j0, j1, j2, j3, j4, j5, j6, v7, j8, .slice p9 l.length l.length, j10, j11, j12, .int .i64 (0 : Nat), j14, j15, j16, j17, j18, j19, j20, j21, j22, j23, j24, j25, j26, j27, j28, j29, j30, j31, j32, j33, j34, j35, j36, j37, j38, j39, j40, j41, j42, j43, j44, j45, j46, j47, j48, j49, j50, j51, j52, j53, j54, j55, j56, j57, j58, j59, j60, j61, j62, j63, j64, j65, j66, j67, j68, j69, j70, j71, j72, j73, j74, j75, j76, j77, j78, j79, j80, j81, j82, j83, j84, j85, j86, j87, j88, j89, j90, j91, j92, j93, j94, j95, j96, j97, j98, j99, j100, j101, j102, j103, j104, j105, j106, j107, j108, j109, j110, j111, j112, j113, j114, j115, j116, j117, j118, j119, j120, j121, j122, j123, j124, j125, j126, j127, j128, j129, j130, j131, j132, j133, j134, j135, j136, j137, j138, j139, j140, j141, j142, j143, j144, j145, j146, j147, j148, j149, j150, j151, j152, j153, j154, j155, j156, j157, j158, j159, j160, j161], []⟩ : Act).tmps.getD ix undef), rfl, by omega, by rw [List.take_zero]; exact h, .refl, by kernel_rfl⟩
  rintro nn _ A' ⟨v7, k, F', zz, rfl, hk, h, hS, rfl⟩
  by_cases hlt : k < l.length
  case neg =>
    obtain rfl : k = l.length := by omega
    rw [List.take_length] at h
    refine cw_seq good (cw_seq good (cw_region good ?_))
    refine wpO_mv (.int .i64 l.length) (by kernel_rfl) ?_
    refine wpO_mv (.slice p9 l.length l.length) (by kernel_rfl) ?_
    refine wpO_val (aop_lenV (b := p9) (len := l.length) (cap := l.length) rfl rfl rfl rfl (by kernel_rfl) rfl) ?_
    simp only [Act.put, List.setIfInBounds_toArray, List.set_cons_succ, List.set_cons_zero]
    refine wpO_val (aop_int (k := .i64) (m := l.length) (n := l.length) (v := .bool false) rfl (by kernel_rfl) (by kernel_rfl) (by simp [intV])) ?_
    simp only [Act.put, List.setIfInBounds_toArray, List.set_cons_succ, List.set_cons_zero]
    refine cw_cond good false (by kernel_rfl) (cw_exit good ?_)
    exact hQ v7 A' F' _ ⟨(fun ix => (⟨#[j0, j1, j2, j3, j4, j5, j6, v7, j8, .slice p9 l.length l.length, j10, j11, j12, .int .i64 l.length, (zz 14), j15, j16, j17, j18, j19, j20, j21, j22, j23, j24, j25, j26, j27, j28, j29, j30, j31, j32, j33, j34, j35, j36, j37, j38, j39, j40, j41, j42, j43, j44, j45, j46, j47, j48, j49, j50, j51, j52, j53, j54, j55, j56, j57, j58, j59, j60, j61, j62, j63, j64, j65, j66, j67, j68, j69, j70, j71, j72, j73, j74, j75, j76, j77, j78, j79, j80, j81, j82, j83, j84, j85, j86, j87, j88, j89, j90, j91, j92, .int .i64 l.length, .slice p9 l.length l.length, .int .i64 l.length, .bool false, (zz 97), (zz 98), (zz 99), (zz 100), (zz 101), (zz 102), (zz 103), (zz 104), (zz 105), (zz 106), (zz 107), (zz 108), (zz 109), (zz 110), (zz 111), (zz 112), (zz 113), (zz 114), (zz 115), (zz 116), (zz 117), (zz 118), (zz 119), (zz 120), (zz 121), (zz 122), (zz 123), (zz 124), (zz 125), (zz 126), (zz 127), (zz 128), (zz 129), (zz 130), (zz 131), (zz 132), (zz 133), (zz 134), (zz 135), (zz 136), (zz 137), (zz 138), (zz 139), (zz 140), j141, j142, j143, j144, j145, j146, j147, j148, j149, j150, j151, j152, j153, j154, j155, j156, j157, j158, j159, j160, j161], []⟩ : Act).tmps.getD ix undef), by kernel_rfl⟩ h hS
  obtain ⟨x, hx⟩ : ∃ x, l[k]? = some x := ⟨_, List.getElem?_eq_getElem hlt⟩
  have hxr := hl x (List.mem_of_getElem? hx)
  generalize hW : srt w (l.take k) = W at h
  have hWl : W.length < 1000 := by rw [← hW, srt_len, List.length_take]; omega
  have hWo : InOrder W := hW ▸ srt_order ho
  have hWr : ∀ y ∈ W, 0 ≤ y ∧ y < 1000 := fun y hy => by
    rw [← hW, mem_srt] at hy
    exact hy.elim (hw y) fun hy => hl y (List.mem_of_mem_take hy)
  obtain ⟨_, h7⟩ := Asn.left h
  obtain ⟨p7, rfl, _⟩ := lstV_rd h7
  obtain ⟨_, hJA⟩ := Asn.right h
  refine cw_seq good (cw_seq good (cw_region good ?_))
  refine wpO_mv (.int .i64 k) (by kernel_rfl) ?_
  refine wpO_mv (.slice p9 l.length l.length) (by kernel_rfl) ?_
  refine wpO_val (aop_lenV (b := p9) (len := l.length) (cap := l.length) rfl rfl rfl rfl (by kernel_rfl) rfl) ?_
  simp only [Act.put, List.setIfInBounds_toArray, List.set_cons_succ, List.set_cons_zero]
  refine wpO_val (aop_int (k := .i64) (m := k) (n := l.length) (v := .bool true) rfl (by kernel_rfl) (by kernel_rfl) (by simp [intV]; omega)) ?_
  simp only [Act.put, List.setIfInBounds_toArray, List.set_cons_succ, List.set_cons_zero]
  refine cw_cond good true (by kernel_rfl) (cw_skip good ?_)
  obtain ⟨ad, rfl, hcx⟩ := h9 hJA k x hx
  refine cw_seq good (cw_block good (cw_seq good (cw_region good ?_)))
  refine wpO_mv (.slice p7 W.length W.length) (by kernel_rfl) ?_
  refine wpO_val (aop_lenV (b := p7) (len := W.length) (cap := W.length) rfl rfl rfl rfl (by kernel_rfl) rfl) ?_
  refine wpO_as (.int .i64 W.length) (by kernel_rfl) ?_
  simp only [Act.put, List.setIfInBounds_toArray, List.set_cons_succ, List.set_cons_zero]
  obtain ⟨v', A2, F2, ap, h2, S2⟩ := grow1 appTy hJ h (by omega) x
  refine cw_seq good (cw_region good ?_)
  refine wpO_mv (.slice p7 W.length W.length) (by kernel_rfl) ?_
  refine wpO_mv (.slice (some ad) l.length l.length) (by kernel_rfl) ?_
  refine wpO_mv (.int .i64 k) (by kernel_rfl) ?_
  simp only [Act.put, List.setIfInBounds_toArray, List.set_cons_succ, List.set_cons_zero]
  refine wpO_val (aop_index (k := .i64) (len := l.length) (cap := l.length) (i := k) (p := ad) rfl (by kernel_rfl) (by kernel_rfl) rfl rfl hlt) ?_
  refine wpO_val (aop_load (v := .int .i64 x) rfl (by kernel_rfl) rfl hcx) ?_
  refine wpO_val (aop_slice1 (v := .int .i64 x) rfl (by kernel_rfl) rfl rfl rfl rfl rfl rfl) ?_
  simp only [Act.put, List.setIfInBounds_toArray, List.set_cons_succ, List.set_cons_zero]
  refine wpO_val (ap _ _ _ rfl rfl rfl (by kernel_rfl)) ?_
  refine wpO_as (v') (by kernel_rfl) ?_
  simp only [Act.put, List.setIfInBounds_toArray, List.set_cons_succ, List.set_cons_zero]
  refine cw_seq good (cw_block good (cw_loop good ?_))
  refine ins8 hJ hx h9 hxr hWr hWl rfl (hole_first hWo) h2 (fun a b m n4 A4 F4 e4 he4 hn4 hh hz h4 S4 => ?_)
  obtain ⟨yy, rfl⟩ := he4
  obtain ⟨u, gu⟩ := hole_hole hh
  have hml := hole_len hh
  have hls := hole_last hh hz
  rw [hn4] at gu hls hml
  obtain ⟨d, rfl, gc, gs, gp⟩ := lstV_put hJ h4 gu
  obtain ⟨_, hJ4⟩ := Asn.right h4
  obtain ⟨ad', e', hcx'⟩ := h9 hJ4 k x hx
  cases e'
  refine cw_region good ?_
  refine wpO_mv (.slice (some ⟨d, 0, none⟩) m.length m.length) (by kernel_rfl) ?_
  refine wpO_mv (.int .i64 n4) (by kernel_rfl) ?_
  refine wpO_mv (.slice (some ad) l.length l.length) (by kernel_rfl) ?_
  simp only [Act.put, List.setIfInBounds_toArray, List.set_cons_succ, List.set_cons_zero]
  refine wpO_mv (.int .i64 k) (by kernel_rfl) ?_
  refine wpO_val (aop_index (k := .i64) (len := l.length) (cap := l.length) (i := k) (p := ad) rfl (by kernel_rfl) (by kernel_rfl) rfl rfl hlt) ?_
  refine wpO_val (aop_load (v := .int .i64 x) rfl (by kernel_rfl) rfl hcx') ?_
  simp only [Act.put, List.setIfInBounds_toArray, List.set_cons_succ, List.set_cons_zero]
  refine wpO_val (aop_index (k := .i64) (len := m.length) (cap := m.length) (i := n4) (p := ⟨d, 0, none⟩) rfl (by kernel_rfl) (by kernel_rfl) rfl rfl (by omega)) ?_
  rw [add_at]
  simp only [Act.put, List.setIfInBounds_toArray, List.set_cons_succ, List.set_cons_zero]
  refine wpO_unit (aop_store (v := .int .i64 x) rfl (by kernel_rfl) (by kernel_rfl) rfl rfl gc gs) ?_
  simp only [Act.put]
  obtain ⟨h5, S5⟩ := gp x
  rw [hls, ← hW, ← srt_take hx] at h5
  refine cw_region good ?_
  refine wpO_mv (.int .i64 k) (by kernel_rfl) ?_
  refine wpO_val (aop_int (k := .i64) (m := k) (n := 1) (v := .int .i64 (k + 1 : Nat)) rfl (by kernel_rfl) (by kernel_rfl) (intV_add (by omega) (by omega) (by omega))) ?_
  refine wpO_as (.int .i64 (k + 1 : Nat)) (by kernel_rfl) ?_
  simp only [Act.put, List.setIfInBounds_toArray, List.set_cons_succ, List.set_cons_zero]
  exact ⟨l.length - (k + 1), by omega, _, k + 1, F4, (fun ix => (⟨#[j0, j1, j2, j3, j4, j5, j6, .slice (some ⟨d, 0, none⟩) m.length m.length, j8, .slice (some ad) l.length l.length, j10, j11, j12, .int .i64 (k + 1 : Nat), .int .i64 n4, j15, j16, j17, j18, j19, j20, j21, j22, j23, j24, j25, j26, j27, j28, j29, j30, j31, j32, j33, j34, j35, j36, j37, j38, j39, j40, j41, j42, j43, j44, j45, j46, j47, j48, j49, j50, j51, j52, j53, j54, j55, j56, j57, j58, j59, j60, j61, j62, j63, j64, j65, j66, j67, j68, j69, j70, j71, j72, j73, j74, j75, j76, j77, j78, j79, j80, j81, j82, j83, j84, j85, j86, j87, j88, j89, j90, j91, j92, .int .i64 k, .slice (some ad) l.length l.length, .int .i64 l.length, .bool true, .int .i64 k, .int .i64 (k + 1 : Nat), .slice p7 W.length W.length, .int .i64 W.length, .slice p7 W.length W.length, .slice (some ad) l.length l.length, .int .i64 k, .pointer (some (ad.add (k * 1))), .int .i64 x, .slice (some ⟨A'.heap.size, 0, none⟩) 1 1, .slice (some ⟨d, 0, none⟩) m.length m.length, (yy 108), (yy 109), (yy 110), (yy 111), (yy 112), (yy 113), (yy 114), (yy 115), (yy 116), (yy 117), (yy 118), (yy 119), (yy 120), (yy 121), (yy 122), (yy 123), (yy 124), (yy 125), (yy 126), (yy 127), (yy 128), (yy 129), (yy 130), (yy 131), (yy 132), (yy 133), .slice (some ⟨d, 0, none⟩) m.length m.length, .int .i64 n4, .slice (some ad) l.length l.length, .int .i64 k, .pointer (some (ad.add (k * 1))), .int .i64 x, .pointer (some ⟨d, n4, none⟩), j141, j142, j143, j144, j145, j146, j147, j148, j149, j150, j151, j152, j153, j154, j155, j156, j157, j158, j159, j160, j161], []⟩ : Act).tmps.getD ix undef), rfl, by omega, h5, hS.trans (S2.trans (S4.trans S5)), by kernel_rfl⟩
end Go.Proofs.Ytipomlcnmaldkaa
/-
  asterismlaw3.SeqMerge: over the lists. No condition.
-/
namespace Go.Proofs.Ytipomlcnmaldkaa
open Go.Abs
variable {n₀ : Nat}
set_option maxRecDepth 8000
theorem appTyG : AppTy Try.prog 34 34 22 := ⟨rfl, ⟨_, rfl⟩, _, _, rfl, rfl, rfl, rfl, by decide⟩
theorem flat_len {n : Nat} : ∀ {ls : List (List Int)}, (∀ l ∈ ls, l.length ≤ n) → ls.flatten.length ≤ n * ls.length
  | [], _ => Nat.le_refl _
  | l :: ls, h => by
    have h1 := h l List.mem_cons_self
    have h2 := flat_len (ls := ls) fun m hm => h m (List.mem_cons_of_mem _ hm)
    rw [List.flatten_cons, List.length_append, List.length_cons, Nat.mul_succ]
    omega
set_option maxHeartbeats 8000000 in
/-- Over the lists. -/
theorem merge_loop {A : World} {F : Foot} {q : Option Addr} {c0 : Nat} {vs : List Value} {ls : List (List Int)} (hvs : vs.length = ls.length)
    (HL : ∀ {F' : Foot} {A' : World}, Step F A F' A' → RdV A' q vs ∧ ∀ (i : Nat) (v : Value) (l : List Int), vs[i]? = some v → ls[i]? = some l → ∃ p c, v = .slice p l.length c ∧ Rd A' p l)
    (h : Asn.all [lstG 22 (.slice none 0 0) [], lines 3 [] [], lstV 3 (.slice none 0 0) []] F A) {j1 j2 j3 j4 j5 j9 j10 j11 j12 j13 j14 j15 j16 j17 j18 j19 j20 j21 j22 j23 j24 j25 j26 j27 j28 j29 j30 j31 j32 j33 j34 j35 j36 j37 j38 j39 j40 j41 j42 j43 j44 j45 j46 j47 j48 j49 j50 j51 j52 j53 j54 j55 j56 j57 j58 j59 j60 j61 j62 j63 j64 j65 j66 j67 j68 j69 j70 j71 j72 j73 j74 j75 j76 j77 j78 j79 j80 j81 j82 j83 j84 j85 j86 j87 j88 j89 j90 j91 j92 j93 j94 j95 j96 j97 j98 j99 j100 j101 j102 j103 j104 j105 j106 j107 j108 j109 j110 j111 j112 j113 j114 j115 j116 j117 j118 j119 j120 j121 j122 j123 j124 j125 j126 j127 j128 j129 j130 j131 j132 j133 j134 j135 j136 j137 j138 j139 j140 j141 j142 j143 j144 j145 j146 j147 j148 j149 j150 j151 j152 j153 j154 j155 j156 j157 j158 j159 j160 j161 : Value} {Q : Exit → Act → World → Prop}
    (hQ : ∀ (v6 v7 : Value) (vin : List Value) (lin : List (List Int)) (i : Nat) (A' : World) (F' : Foot) (e : Act), (∃ zz : Nat → Value, e = ⟨#[.slice q vs.length c0, j1, j2, j3, j4, j5, v6, v7, .int .i64 i, (zz 9), (zz 10), (zz 11), (zz 12), (zz 13), (zz 14), j15, j16, j17, j18, j19, (zz 20), (zz 21), (zz 22), (zz 23), (zz 24), (zz 25), (zz 26), (zz 27), (zz 28), (zz 29), (zz 30), (zz 31), (zz 32), (zz 33), (zz 34), (zz 35), (zz 36), (zz 37), (zz 38), (zz 39), (zz 40), (zz 41), (zz 42), (zz 43), (zz 44), (zz 45), (zz 46), (zz 47), (zz 48), (zz 49), (zz 50), (zz 51), (zz 52), (zz 53), (zz 54), (zz 55), (zz 56), (zz 57), (zz 58), (zz 59), (zz 60), (zz 61), (zz 62), (zz 63), (zz 64), (zz 65), (zz 66), (zz 67), (zz 68), (zz 69), (zz 70), (zz 71), (zz 72), (zz 73), (zz 74), (zz 75), (zz 76), (zz 77), (zz 78), (zz 79), (zz 80), (zz 81), (zz 82), (zz 83), (zz 84), (zz 85), (zz 86), (zz 87), (zz 88), (zz 89), (zz 90), (zz 91), (zz 92), (zz 93), (zz 94), (zz 95), (zz 96), (zz 97), (zz 98), (zz 99), (zz 100), (zz 101), (zz 102), (zz 103), (zz 104), (zz 105), (zz 106), (zz 107), (zz 108), (zz 109), (zz 110), (zz 111), (zz 112), (zz 113), (zz 114), (zz 115), (zz 116), (zz 117), (zz 118), (zz 119), (zz 120), (zz 121), (zz 122), (zz 123), (zz 124), (zz 125), (zz 126), (zz 127), (zz 128), (zz 129), (zz 130), (zz 131), (zz 132), (zz 133), (zz 134), (zz 135), (zz 136), (zz 137), (zz 138), (zz 139), (zz 140), j141, j142, j143, j144, j145, j146, j147, j148, j149, j150, j151, j152, j153, j154, j155, j156, j157, j158, j159, j160, j161], []⟩) → (∀ l ∈ lin, InOrder l ∧ l.length ≤ 12 ∧ ∀ y ∈ l, 0 ≤ y ∧ y < 1000) → lin.length ≤ 5 → Asn.all [lstG 22 v6 vin, lines 3 vin lin, lstV 3 v7 (srt [] lin.flatten)] F' A' → Step F A F' A' → Q (.exit 0) e A') :
    wpL Try.prog n₀ none c4a Q ⟨#[.slice q vs.length c0, j1, j2, j3, j4, j5, .slice none 0 0, .slice none 0 0, .int .i64 (0 : Nat), j9, j10, j11, j12, j13, j14, j15, j16, j17, j18, j19, j20, j21, j22, j23, j24, j25, j26, j27, j28, j29, j30, j31, j32, j33, j34, j35, j36, j37, j38, j39, j40, j41, j42, j43, j44, j45, j46, j47, j48, j49, j50, j51, j52, j53, j54, j55, j56, j57, j58, j59, j60, j61, j62, j63, j64, j65, j66, j67, j68, j69, j70, j71, j72, j73, j74, j75, j76, j77, j78, j79, j80, j81, j82, j83, j84, j85, j86, j87, j88, j89, j90, j91, j92, j93, j94, j95, j96, j97, j98, j99, j100, j101, j102, j103, j104, j105, j106, j107, j108, j109, j110, j111, j112, j113, j114, j115, j116, j117, j118, j119, j120, j121, j122, j123, j124, j125, j126, j127, j128, j129, j130, j131, j132, j133, j134, j135, j136, j137, j138, j139, j140, j141, j142, j143, j144, j145, j146, j147, j148, j149, j150, j151, j152, j153, j154, j155, j156, j157, j158, j159, j160, j161], []⟩ A := by
  refine wpL_ind (fun nn e A' => ∃ (v6 v7 : Value) (vin : List Value) (lin : List (List Int)) (i : Nat) (F' : Foot) (zz : Nat → Value), nn = 5 - i ∧ lin.length = i ∧ i ≤ 5 ∧ (∀ l ∈ lin, InOrder l ∧ l.length ≤ 12 ∧ ∀ y ∈ l, 0 ≤ y ∧ y < 1000) ∧ Asn.all [lstG 22 v6 vin, lines 3 vin lin, lstV 3 v7 (srt [] lin.flatten)] F' A' ∧ Step F A F' A' ∧ e = ⟨#[.slice q vs.length c0, j1, j2, j3, j4, j5, v6, v7, .int .i64 i, (zz 9), (zz 10), (zz 11), (zz 12), (zz 13), (zz 14), j15, j16, j17, j18, j19, (zz 20), (zz 21), (zz 22), (zz 23), (zz 24), (zz 25), (zz 26), (zz 27), (zz 28), (zz 29), (zz 30), (zz 31), (zz 32), (zz 33), (zz 34), (zz 35), (zz 36), (zz 37), (zz 38), (zz 39), (zz 40), (zz 41), (zz 42), (zz 43), (zz 44), (zz 45), (zz 46), (zz 47), (zz 48), (zz 49), (zz 50), (zz 51), (zz 52), (zz 53), (zz 54), (zz 55), (zz 56), (zz 57), (zz 58), (zz 59), (zz 60), (zz 61), (zz 62), (zz 63), (zz 64), (zz 65), (zz 66), (zz 67), (zz 68), (zz 69), (zz 70), (zz 71), (zz 72), (zz 73), (zz 74), (zz 75), (zz 76), (zz 77), (zz 78), (zz 79), (zz 80), (zz 81), (zz 82), (zz 83), (zz 84), (zz 85), (zz 86), (zz 87), (zz 88), (zz 89), (zz 90), (zz 91), (zz 92), (zz 93), (zz 94), (zz 95), (zz 96), (zz 97), (zz 98), (zz 99), (zz 100), (zz 101), (zz 102), (zz 103), (zz 104), (zz 105), (zz 106), (zz 107), (zz 108), (zz 109), (zz 110), (zz 111), (zz 112), (zz 113), (zz 114), (zz 115), (zz 116), (zz 117), (zz 118), (zz 119), (zz 120), (zz 121), (zz 122), (zz 123), (zz 124), (zz 125), (zz 126), (zz 127), (zz 128), (zz 129), (zz 130), (zz 131), (zz 132), (zz 133), (zz 134), (zz 135), (zz 136), (zz 137), (zz 138), (zz 139), (zz 140), j141, j142, j143, j144, j145, j146, j147, j148, j149, j150, j151, j152, j153, j154, j155, j156, j157, j158, j159, j160, j161], []⟩) ?_ 5 _ _
    ⟨.slice none 0 0, .slice none 0 0, [], [], 0, F, (fun ix => (⟨#[.slice q vs.length c0, j1, j2, j3, j4, j5, .slice none 0 0, .slice none 0 0, .int .i64 (0 : Nat), j9, j10, j11, j12, j13, j14, j15, j16, j17, j18, j19, j20, j21, j22, j23, j24, j25, j26, j27, j28, j29, j30, j31, j32, j33, j34, j35, j36, j37, j38, j39, j40, j41, j42, j43, j44, j45, j46, j47, j48, j49, j50, j51, j52, j53, j54, j55, j56, j57, j58, j59, j60, j61, j62, j63, j64, j65, j66, j67, j68, j69, j70, j71, j72, j73, j74, j75, j76, j77, j78, j79, j80, j81, j82, j83, j84, j85, j86, j87, j88, j89, j90, j91, j92, j93, j94, j95, j96, j97, j98, j99, j100, j101, j102, j103, j104, j105, j106, j107, j108, j109, j110, j111, j112, j113, j114, j115, j116, j117, j118, j119, j120, j121, j122, j123, j124, j125, j126, j127, j128, j129, j130, j131, j132, j133, j134, j135, j136, j137, j138, j139, j140, j141, j142, j143, j144, j145, j146, j147, j148, j149, j150, j151, j152, j153, j154, j155, j156, j157, j158, j159, j160, j161], []⟩ : Act).tmps.getD ix undef), rfl, rfl, by omega, (fun _ h => by cases h), h, .refl, by kernel_rfl⟩
  rintro nn _ A' ⟨v6, v7, vin, lin, i, F', zz, rfl, hli, hi5, hok, h, hS, rfl⟩
  have oJ : Owns (Asn.all [lstG 22 v6 vin, lines 3 vin lin, lstV 3 v7 (srt [] lin.flatten)]) := Owns.sep Owns.lstG (Owns.sep Owns.lines Owns.lstV)
  by_cases hlt : i < vs.length
  case neg =>
    refine cw_seq good (cw_seq good (cw_region good ?_))
    refine wpO_mv (.int .i64 i) (by kernel_rfl) ?_
    refine wpO_mv (.slice q vs.length c0) (by kernel_rfl) ?_
    refine wpO_val (aop_lenV (b := q) (len := vs.length) (cap := c0) rfl rfl rfl rfl (by kernel_rfl) rfl) ?_
    simp only [Act.put, List.setIfInBounds_toArray, List.set_cons_succ, List.set_cons_zero]
    refine wpO_val (aop_int (k := .i64) (m := i) (n := vs.length) (v := .bool false) rfl (by kernel_rfl) (by kernel_rfl) (by simp [intV]; omega)) ?_
    refine wpO_mv (.bool false) (by kernel_rfl) ?_
    simp only [Act.put, List.setIfInBounds_toArray, List.set_cons_succ, List.set_cons_zero]
    with_reducible refine wpO_not ?_ (hw := by kernel_rfl)
    with_reducible refine wpO_not ?_ (hw := by kernel_rfl)
    refine wpO_val (aop_picks (b := false) (v := .bool false) rfl (by kernel_rfl) (by kernel_rfl)) ?_
    simp only [Act.put, List.setIfInBounds_toArray, List.set_cons_succ, List.set_cons_zero]
    refine cw_cond good false (by kernel_rfl) (cw_exit good ?_)
    exact hQ v6 v7 vin lin i A' F' _ ⟨(fun ix => (⟨#[.slice q vs.length c0, j1, j2, j3, j4, j5, v6, v7, .int .i64 i, (zz 9), (zz 10), (zz 11), (zz 12), (zz 13), (zz 14), j15, j16, j17, j18, j19, .int .i64 i, .slice q vs.length c0, .int .i64 vs.length, .bool false, .bool false, undef, undef, .bool false, (zz 28), (zz 29), (zz 30), (zz 31), (zz 32), (zz 33), (zz 34), (zz 35), (zz 36), (zz 37), (zz 38), (zz 39), (zz 40), (zz 41), (zz 42), (zz 43), (zz 44), (zz 45), (zz 46), (zz 47), (zz 48), (zz 49), (zz 50), (zz 51), (zz 52), (zz 53), (zz 54), (zz 55), (zz 56), (zz 57), (zz 58), (zz 59), (zz 60), (zz 61), (zz 62), (zz 63), (zz 64), (zz 65), (zz 66), (zz 67), (zz 68), (zz 69), (zz 70), (zz 71), (zz 72), (zz 73), (zz 74), (zz 75), (zz 76), (zz 77), (zz 78), (zz 79), (zz 80), (zz 81), (zz 82), (zz 83), (zz 84), (zz 85), (zz 86), (zz 87), (zz 88), (zz 89), (zz 90), (zz 91), (zz 92), (zz 93), (zz 94), (zz 95), (zz 96), (zz 97), (zz 98), (zz 99), (zz 100), (zz 101), (zz 102), (zz 103), (zz 104), (zz 105), (zz 106), (zz 107), (zz 108), (zz 109), (zz 110), (zz 111), (zz 112), (zz 113), (zz 114), (zz 115), (zz 116), (zz 117), (zz 118), (zz 119), (zz 120), (zz 121), (zz 122), (zz 123), (zz 124), (zz 125), (zz 126), (zz 127), (zz 128), (zz 129), (zz 130), (zz 131), (zz 132), (zz 133), (zz 134), (zz 135), (zz 136), (zz 137), (zz 138), (zz 139), (zz 140), j141, j142, j143, j144, j145, j146, j147, j148, j149, j150, j151, j152, j153, j154, j155, j156, j157, j158, j159, j160, j161], []⟩ : Act).tmps.getD ix undef), by kernel_rfl⟩ hok (by omega) h hS
  by_cases h5 : i < 5
  case neg =>
    refine cw_seq good (cw_seq good (cw_region good ?_))
    refine wpO_mv (.int .i64 i) (by kernel_rfl) ?_
    refine wpO_mv (.slice q vs.length c0) (by kernel_rfl) ?_
    refine wpO_val (aop_lenV (b := q) (len := vs.length) (cap := c0) rfl rfl rfl rfl (by kernel_rfl) rfl) ?_
    simp only [Act.put, List.setIfInBounds_toArray, List.set_cons_succ, List.set_cons_zero]
    refine wpO_val (aop_int (k := .i64) (m := i) (n := vs.length) (v := .bool true) rfl (by kernel_rfl) (by kernel_rfl) (by simp [intV]; omega)) ?_
    refine wpO_mv (.bool true) (by kernel_rfl) ?_
    simp only [Act.put, List.setIfInBounds_toArray, List.set_cons_succ, List.set_cons_zero]
    with_reducible refine wpO_mv (.int .i64 i) (by kernel_rfl) ?_ (hw := by kernel_rfl)
    simp only [Act.put, List.setIfInBounds_toArray, List.set_cons_succ, List.set_cons_zero]
    with_reducible refine wpO_val (v := .bool false) (A1 := A') ?_ ?_ (hw := by kernel_rfl)
    · exact aop_int (k := .i64) (m := i) (n := 5) (v := .bool false) rfl (by kernel_rfl) (by kernel_rfl) (by simp [intV]; omega)
    refine wpO_val (aop_picks (b := true) (v := .bool false) rfl (by kernel_rfl) (by kernel_rfl)) ?_
    simp only [Act.put, List.setIfInBounds_toArray, List.set_cons_succ, List.set_cons_zero]
    refine cw_cond good false (by kernel_rfl) (cw_exit good ?_)
    exact hQ v6 v7 vin lin i A' F' _ ⟨(fun ix => (⟨#[.slice q vs.length c0, j1, j2, j3, j4, j5, v6, v7, .int .i64 i, (zz 9), (zz 10), (zz 11), (zz 12), (zz 13), (zz 14), j15, j16, j17, j18, j19, .int .i64 i, .slice q vs.length c0, .int .i64 vs.length, .bool true, .bool true, .int .i64 i, .bool false, .bool false, (zz 28), (zz 29), (zz 30), (zz 31), (zz 32), (zz 33), (zz 34), (zz 35), (zz 36), (zz 37), (zz 38), (zz 39), (zz 40), (zz 41), (zz 42), (zz 43), (zz 44), (zz 45), (zz 46), (zz 47), (zz 48), (zz 49), (zz 50), (zz 51), (zz 52), (zz 53), (zz 54), (zz 55), (zz 56), (zz 57), (zz 58), (zz 59), (zz 60), (zz 61), (zz 62), (zz 63), (zz 64), (zz 65), (zz 66), (zz 67), (zz 68), (zz 69), (zz 70), (zz 71), (zz 72), (zz 73), (zz 74), (zz 75), (zz 76), (zz 77), (zz 78), (zz 79), (zz 80), (zz 81), (zz 82), (zz 83), (zz 84), (zz 85), (zz 86), (zz 87), (zz 88), (zz 89), (zz 90), (zz 91), (zz 92), (zz 93), (zz 94), (zz 95), (zz 96), (zz 97), (zz 98), (zz 99), (zz 100), (zz 101), (zz 102), (zz 103), (zz 104), (zz 105), (zz 106), (zz 107), (zz 108), (zz 109), (zz 110), (zz 111), (zz 112), (zz 113), (zz 114), (zz 115), (zz 116), (zz 117), (zz 118), (zz 119), (zz 120), (zz 121), (zz 122), (zz 123), (zz 124), (zz 125), (zz 126), (zz 127), (zz 128), (zz 129), (zz 130), (zz 131), (zz 132), (zz 133), (zz 134), (zz 135), (zz 136), (zz 137), (zz 138), (zz 139), (zz 140), j141, j142, j143, j144, j145, j146, j147, j148, j149, j150, j151, j152, j153, j154, j155, j156, j157, j158, j159, j160, j161], []⟩ : Act).tmps.getD ix undef), by kernel_rfl⟩ hok (by omega) h hS
  refine cw_seq good (cw_seq good (cw_region good ?_))
  refine wpO_mv (.int .i64 i) (by kernel_rfl) ?_
  refine wpO_mv (.slice q vs.length c0) (by kernel_rfl) ?_
  refine wpO_val (aop_lenV (b := q) (len := vs.length) (cap := c0) rfl rfl rfl rfl (by kernel_rfl) rfl) ?_
  simp only [Act.put, List.setIfInBounds_toArray, List.set_cons_succ, List.set_cons_zero]
  refine wpO_val (aop_int (k := .i64) (m := i) (n := vs.length) (v := .bool true) rfl (by kernel_rfl) (by kernel_rfl) (by simp [intV]; omega)) ?_
  refine wpO_mv (.bool true) (by kernel_rfl) ?_
  simp only [Act.put, List.setIfInBounds_toArray, List.set_cons_succ, List.set_cons_zero]
  with_reducible refine wpO_mv (.int .i64 i) (by kernel_rfl) ?_ (hw := by kernel_rfl)
  simp only [Act.put, List.setIfInBounds_toArray, List.set_cons_succ, List.set_cons_zero]
  with_reducible refine wpO_val (v := .bool true) (A1 := A') ?_ ?_ (hw := by kernel_rfl)
  · exact aop_int (k := .i64) (m := i) (n := 5) (v := .bool true) rfl (by kernel_rfl) (by kernel_rfl) (by simp [intV]; omega)
  refine wpO_val (aop_picks (b := true) (v := .bool true) rfl (by kernel_rfl) (by kernel_rfl)) ?_
  simp only [Act.put, List.setIfInBounds_toArray, List.set_cons_succ, List.set_cons_zero]
  refine cw_cond good true (by kernel_rfl) (cw_skip good ?_)
  obtain ⟨v, hiv⟩ : ∃ v, vs[i]? = some v := ⟨_, List.getElem?_eq_getElem hlt⟩
  obtain ⟨l0, hil⟩ : ∃ l, ls[i]? = some l := ⟨_, List.getElem?_eq_getElem (by omega)⟩
  obtain ⟨p0, c1, rfl, _⟩ := (HL hS).2 i v l0 hiv hil
  have HL' : ∀ {F'' : Foot} {A'' : World}, Step F' A' F'' A'' → RdV A'' q vs ∧ Rd A'' p0 l0 := fun S => by
    obtain ⟨h1, h2⟩ := HL (hS.trans S)
    obtain ⟨p, c, e, hr⟩ := h2 i _ l0 hiv hil
    cases e
    exact ⟨h1, hr⟩
  have hflat := flat_len (n := 12) fun l hl => (hok l hl).2.1
  generalize hW : srt [] lin.flatten = W at h oJ
  have hWl : W.length ≤ 60 := by rw [← hW, srt_len]; simp only [List.length_nil]; omega
  have hWo : InOrder W := hW ▸ srt_order .nil
  have hWr : ∀ y ∈ W, 0 ≤ y ∧ y < 1000 := fun y hy => by
    rw [← hW, mem_srt] at hy
    rcases hy with hy | hy
    · cases hy
    · obtain ⟨l, hl, hyl⟩ := List.mem_flatten.1 hy
      exact (hok l hl).2.2 y hyl
  refine cw_seq good (cw_block good (cw_seq good (cw_region good ?_)))
  refine wpO_as (.slice none 0 0) (by kernel_rfl) ?_
  simp only [Act.put, List.setIfInBounds_toArray, List.set_cons_succ, List.set_cons_zero]
  refine cw_seq good (cw_seq good (cw_region good ?_))
  refine wpO_as (.int .i64 (0 : Nat)) (by kernel_rfl) ?_
  simp only [Act.put, List.setIfInBounds_toArray, List.set_cons_succ, List.set_cons_zero]
  refine cw_block good (cw_loop good ?_)
  refine line_loop oJ h5 hiv HL' h (fun v9 l n1 A1 F1 e1 he1 ho9 hl12 hr9 h1 S1 => ?_)
  obtain ⟨yy, rfl⟩ := he1
  obtain ⟨_, k9⟩ := Asn.left h1
  obtain ⟨p9, rfl, _⟩ := lstV_rd k9
  have h1a := Asn.perm [lstV 3 (.slice p9 l.length l.length) l, lstG 22 v6 vin, lines 3 vin lin, lstV 3 v7 W] [1, 0, 2, 3] h1 (by decide)
  obtain ⟨_, kl⟩ := Asn.left (Asn.perm [lstV 3 (.slice p9 l.length l.length) l, lstG 22 v6 vin, lines 3 vin lin, lstV 3 v7 W] [2, 0, 1, 3] h1 (by decide))
  have hvl := lines_len kl
  obtain ⟨v6', A2, F2, ap, h2, S2⟩ := growG1 appTyG (Owns.sep Owns.lstV (Owns.sep Owns.lines Owns.lstV)) h1a (by omega) (x := .slice p9 l.length l.length) rfl
  refine cw_seq good (cw_region good ?_)
  refine wpO_mv (v6) (by kernel_rfl) ?_
  refine wpO_mv (.slice p9 l.length l.length) (by kernel_rfl) ?_
  refine wpO_val (aop_slice1 (v := .slice p9 l.length l.length) rfl (by kernel_rfl) rfl rfl rfl rfl rfl rfl) ?_
  simp only [Act.put, List.setIfInBounds_toArray, List.set_cons_succ, List.set_cons_zero]
  refine wpO_val (ap _ _ _ rfl rfl rfl (by kernel_rfl)) ?_
  refine wpO_as (v6') (by kernel_rfl) ?_
  simp only [Act.put, List.setIfInBounds_toArray, List.set_cons_succ, List.set_cons_zero]
  refine cw_seq good (cw_region good ?_)
  refine wpO_as (.int .i64 (0 : Nat)) (by kernel_rfl) ?_
  simp only [Act.put, List.setIfInBounds_toArray, List.set_cons_succ, List.set_cons_zero]
  refine cw_block good (cw_loop good ?_)
  have h3 := Asn.perm [lstG 22 v6' (vin ++ [Value.slice p9 l.length l.length]), lstV 3 (.slice p9 l.length l.length) l, lines 3 vin lin, lstV 3 v7 W] [3, 1, 0, 2] h2 (by decide)
  have h9 : ∀ {F : Foot} {A : World}, Asn.all [lstV 3 (.slice p9 l.length l.length) l, lstG 22 v6' (vin ++ [Value.slice p9 l.length l.length]), lines 3 vin lin] F A → Rd A p9 l := fun h => by
    obtain ⟨_, k⟩ := Asn.left h
    obtain ⟨p, e, hr⟩ := lstV_rd k
    cases e
    exact hr
  refine want_loop (Owns.sep Owns.lstV (Owns.sep Owns.lstG Owns.lines)) h9 hWo hWr hr9 (by omega) h3 (fun v7' A3 F3 e3 he3 h4 S4 => ?_)
  obtain ⟨xx, rfl⟩ := he3
  refine cw_region good ?_
  refine wpO_mv (.int .i64 i) (by kernel_rfl) ?_
  refine wpO_val (aop_int (k := .i64) (m := i) (n := 1) (v := .int .i64 (i + 1 : Nat)) rfl (by kernel_rfl) (by kernel_rfl) (intV_add (by omega) (by omega) (by omega))) ?_
  refine wpO_as (.int .i64 (i + 1 : Nat)) (by kernel_rfl) ?_
  simp only [Act.put, List.setIfInBounds_toArray, List.set_cons_succ, List.set_cons_zero]
  have h5a := Asn.perm [lstV 3 v7' (srt W l), lstV 3 (.slice p9 l.length l.length) l, lstG 22 v6' (vin ++ [Value.slice p9 l.length l.length]), lines 3 vin lin] [2, 0, 1, 3] h4 (by decide)
  have h5b : Asn.all [lstG 22 v6' (vin ++ [Value.slice p9 l.length l.length]), lstV 3 v7' (srt W l), lines 3 (vin ++ [Value.slice p9 l.length l.length]) (lin ++ [l])] F3 A3 := Asn.map' h5a fun _ h => Asn.map' h fun _ h => lines_more h
  have h5c := Asn.perm _ [0, 2, 1] h5b (by decide)
  have eW : srt W l = srt [] (lin ++ [l]).flatten := by rw [← hW, ← srt_append]; simp
  rw [eW] at h5c
  refine ⟨5 - (i + 1), by omega, v6', v7', vin ++ [Value.slice p9 l.length l.length], lin ++ [l], i + 1, F3, (fun ix => (⟨#[.slice q vs.length c0, j1, j2, j3, j4, j5, v6', v7', .int .i64 (i + 1 : Nat), .slice p9 l.length l.length, .int .i64 n1, (yy 11), (yy 12), .int .i64 l.length, (xx 14), j15, j16, j17, j18, j19, .int .i64 i, .slice q vs.length c0, .int .i64 vs.length, .bool true, .bool true, .int .i64 i, .bool true, .bool true, .int .i64 i, .int .i64 (i + 1 : Nat), (yy 30), (yy 31), (yy 32), (yy 33), (yy 34), (yy 35), (yy 36), (yy 37), (yy 38), (yy 39), (yy 40), (yy 41), (yy 42), (yy 43), (yy 44), (yy 45), (yy 46), (yy 47), (yy 48), (yy 49), (yy 50), (yy 51), (yy 52), (yy 53), (yy 54), (yy 55), (yy 56), (yy 57), (yy 58), (yy 59), (yy 60), (yy 61), (yy 62), (yy 63), (yy 64), (yy 65), (yy 66), (yy 67), (yy 68), (yy 69), (yy 70), (yy 71), (yy 72), (yy 73), (yy 74), (yy 75), (yy 76), (yy 77), (yy 78), (yy 79), (yy 80), (yy 81), (yy 82), (yy 83), (yy 84), (yy 85), (yy 86), (yy 87), (yy 88), v6, .slice p9 l.length l.length, .slice (some ⟨A1.heap.size, 0, none⟩) 1 1, v6', (xx 93), (xx 94), (xx 95), (xx 96), (xx 97), (xx 98), (xx 99), (xx 100), (xx 101), (xx 102), (xx 103), (xx 104), (xx 105), (xx 106), (xx 107), (xx 108), (xx 109), (xx 110), (xx 111), (xx 112), (xx 113), (xx 114), (xx 115), (xx 116), (xx 117), (xx 118), (xx 119), (xx 120), (xx 121), (xx 122), (xx 123), (xx 124), (xx 125), (xx 126), (xx 127), (xx 128), (xx 129), (xx 130), (xx 131), (xx 132), (xx 133), (xx 134), (xx 135), (xx 136), (xx 137), (xx 138), (xx 139), (xx 140), j141, j142, j143, j144, j145, j146, j147, j148, j149, j150, j151, j152, j153, j154, j155, j156, j157, j158, j159, j160, j161], []⟩ : Act).tmps.getD ix undef), rfl, by simp [hli], by omega, fun m hm => ?_, h5c, hS.trans (S1.trans (S2.trans S4)), by kernel_rfl⟩
  rcases List.mem_append.1 hm with hm | hm
  · exact hok m hm
  · obtain rfl : m = l := by simpa using hm
    exact ⟨ho9, hl12, hr9⟩
end Go.Proofs.Ytipomlcnmaldkaa
/-
  asterismlaw3.SeqMerge answers true. No condition.
-/
namespace Go.Proofs.Ytipomlcnmaldkaa
open Go.Abs
variable {n₀ : Nat}
set_option maxRecDepth 8000
theorem lstV_base {p : Option Addr} {l : List Int} {n c : Nat} {F : Foot} {A : World} (h : lstV 3 (.slice p n c) l F A) : ∀ a, p = some a → ∃ cs t' fz, A.heap[a.block]? = some (.cells cs t' fz) ∧ fz ≠ (2, 0) ∧ (fz = (1, 0) → Try.prog.cellsOf 3 = Try.prog.cellsOf t') := fun a ha => by
  subst ha
  rcases h with ⟨_, e, _⟩ | ⟨_, d, e, hb⟩
  · cases e
  · cases e
    exact ⟨_, _, _, hb.2, by simp, fun _ => rfl⟩
set_option maxHeartbeats 8000000 in
theorem merge_law {A : World} {F : Foot} {q : Option Addr} {c0 : Nat} {vs : List Value} {ls : List (List Int)} {n : Int} (hvs : vs.length = ls.length) (hn : n < 9223372036854775808)
    (HL : ∀ {F' : Foot} {A' : World}, Step F A F' A' → RdV A' q vs ∧ ∀ (i : Nat) (v : Value) (l : List Int), vs[i]? = some v → ls[i]? = some l → ∃ p c, v = .slice p l.length c ∧ Rd A' p l)
    (h : Asn.all [lstG 22 (.slice none 0 0) [], lines 3 [] [], lstV 3 (.slice none 0 0) []] F A) :
    ∃ A', SndCall Try.prog n₀ 4 #[.slice q vs.length c0, .int .i64 n] A (.bool true) A' := by
  have : wpF Try.prog n₀ 4 #[.slice q vs.length c0, .int .i64 n] (fun v A' => v = .bool true) A := by
    refine wpF_fn (ts := #[.slice q vs.length c0, .int .i64 n, undef, undef, undef, undef, undef, undef, undef, undef, undef, undef, undef, undef, undef, undef, undef, undef, undef, undef, undef, undef, undef, undef, undef, undef, undef, undef, undef, undef, undef, undef, undef, undef, undef, undef, undef, undef, undef, undef, undef, undef, undef, undef, undef, undef, undef, undef, undef, undef, undef, undef, undef, undef, undef, undef, undef, undef, undef, undef, undef, undef, undef, undef, undef, undef, undef, undef, undef, undef, undef, undef, undef, undef, undef, undef, undef, undef, undef, undef, undef, undef, undef, undef, undef, undef, undef, undef, undef, undef, undef, undef, undef, undef, undef, undef, undef, undef, undef, undef, undef, undef, undef, undef, undef, undef, undef, undef, undef, undef, undef, undef, undef, undef, undef, undef, undef, undef, undef, undef, undef, undef, undef, undef, undef, undef, undef, undef, undef, undef, undef, undef, undef, undef, undef, undef, undef, undef, undef, undef, undef, undef, undef, undef, undef, undef, undef, undef, undef, undef, undef, undef, undef, undef, undef, undef, undef, undef, undef, undef, undef, undef]) good ⟨rfl, rfl, rfl⟩ (by kernel_rfl) ?_
    refine cw_seq good (cw_region good ?_)
    refine wpO_as (.bool false) (by kernel_rfl) ?_
    simp only [Act.put, List.setIfInBounds_toArray, List.set_cons_succ, List.set_cons_zero]
    refine cw_seq good (cw_region good ?_)
    refine wpO_call (f := 8) (first := #[]) (cap := #[]) (l := []) (xs := #[]) ⟨rfl, rfl, rfl⟩ rfl rfl rfl ⟨_, _, begun_call, ?_⟩
    simp only [Act.put, List.setIfInBounds_toArray, List.set_cons_succ, List.set_cons_zero]
    refine wpO_as (.bool true) (by kernel_rfl) ?_
    simp only [Act.put, List.setIfInBounds_toArray, List.set_cons_succ, List.set_cons_zero]
    refine cw_seq good (cw_seq good (cw_region good ?_))
    refine wpO_mv (.bool true) (by kernel_rfl) ?_
    refine wpO_val (aop_not (b := true) rfl (by kernel_rfl)) ?_
    simp only [Act.put, List.setIfInBounds_toArray, List.set_cons_succ, List.set_cons_zero]
    refine cw_cond good false (by kernel_rfl) (cw_skip good ?_)
    refine cw_seq good (cw_region good ?_)
    refine wpO_as (.slice none 0 0) (by kernel_rfl) ?_
    simp only [Act.put, List.setIfInBounds_toArray, List.set_cons_succ, List.set_cons_zero]
    refine cw_seq good (cw_region good ?_)
    refine wpO_as (.slice none 0 0) (by kernel_rfl) ?_
    simp only [Act.put, List.setIfInBounds_toArray, List.set_cons_succ, List.set_cons_zero]
    refine cw_seq good (cw_seq good (cw_region good ?_))
    refine wpO_as (.int .i64 (0 : Nat)) (by kernel_rfl) ?_
    simp only [Act.put, List.setIfInBounds_toArray, List.set_cons_succ, List.set_cons_zero]
    refine cw_block good (cw_loop good ?_)
    refine merge_loop hvs HL h (fun v6 v7 vin lin i8 A1 F1 e1 he1 hok hl5 h1 _ => ?_)
    obtain ⟨zz, rfl⟩ := he1
    have hflat := flat_len (n := 12) fun l hl => (hok l hl).2.1
    obtain ⟨_, k6⟩ := Asn.left h1
    obtain ⟨p6, e6, _⟩ := lstG_rd k6
    obtain ⟨_, kl⟩ := Asn.left (Asn.perm _ [1, 0, 2] h1 (by decide))
    have hvl := lines_len kl
    rw [hvl] at e6
    subst e6
    generalize hW : srt [] lin.flatten = W at h1
    have hWl : W.length ≤ 60 := by rw [← hW, srt_len]; simp only [List.length_nil]; omega
    obtain ⟨_, k7⟩ := Asn.left (Asn.perm _ [2, 0, 1] h1 (by decide))
    obtain ⟨p7, rfl, _⟩ := lstV_rd k7
    obtain ⟨F2, h2, _⟩ := Asn.new (Owns.sep Owns.lstG (Owns.sep Owns.lines Owns.lstV)) h1 (fnV 17) 36
    obtain ⟨F3, h3, _⟩ := Asn.new (Owns.sep Owns.cel (Owns.sep Owns.lstG (Owns.sep Owns.lines Owns.lstV))) h2 (.slice p6 lin.length lin.length) 34
    have c1 := merge_call (n₀ := n₀) (A := A1) (f := fnV 17) (s := .slice p6 lin.length lin.length) rfl rfl
    rw [alloc_sz] at h3
    generalize A1.heap.size + 1 = bl at h3 c1
    generalize A1.heap.size = bf at h3 c1
    generalize (A1.alloc (.cells #[fnV 17] 36 (0, 0))).alloc (.cells #[.slice p6 lin.length lin.length] 34 (0, 0)) = A3 at h3 c1
    have oR : Owns ((lstG 22 (.slice p6 lin.length lin.length) vin).sep (lines 3 vin lin)) := Owns.sep Owns.lstG Owns.lines
    have g0 := merge_gives (n₀ := n₀) (bl := bl) (bf := bf) (c0 := lin.length) (q := p6) (ls := lin) (vs := vin) (R := (lstG 22 (.slice p6 lin.length lin.length) vin).sep (lines 3 vin lin)) (by omega) hvl (fun l hl => ⟨by have := (hok l hl).2.1; omega, (hok l hl).2.2⟩) oR (fun {F A} h => by
      obtain ⟨_, u1⟩ := Asn.left h
      obtain ⟨_, u2⟩ := Asn.right h
      obtain ⟨p, e, hr⟩ := lstG_rd u1
      injection e with e1 _ _
      subst e1
      exact ⟨hr, lines_rd u2⟩)
    rw [merged_srt _ lin (fun l hl => (hok l hl).1) (Nat.le_refl _), hW] at g0
    have h4 : ((Asn.all [cel bl (.slice p6 lin.length lin.length), cel bf (fnV 17), (lstG 22 (.slice p6 lin.length lin.length) vin).sep (lines 3 vin lin)]).sep (lstV 3 (.slice p7 W.length W.length) W)) F3 A3 := Asn.comm (Asn.perm [cel bl (.slice p6 lin.length lin.length), cel bf (fnV 17), lstG 22 (.slice p6 lin.length lin.length) vin, lines 3 vin lin, lstV 3 (.slice p7 W.length W.length) W] [4, 0, 1, 2, 3] h3 (by decide))
    have g1 := gives_frame g0 (R := lstV 3 (.slice p7 W.length W.length) W) Owns.lstV
    obtain ⟨x1, A4, F4, c2, h5, t1⟩ := z_list g1 h4 (by omega)
    obtain ⟨_, k8⟩ := Asn.right h5
    have e1 := told_eq (n₀ := n₀) (y := .slice p7 W.length W.length) (by omega) t1 (lst_told k8)
    obtain ⟨bn, bs, A5, F5, c3, h6, _⟩ := take_do' (n₀ := n₀) (s := mergeV bl bf) (n := n) (g1.loc ()) h5 rfl
    obtain ⟨_, k9⟩ := Asn.right h6
    obtain ⟨_, k9⟩ := Asn.right k9
    obtain ⟨_, k9⟩ := Asn.right k9
    obtain ⟨x2, A6, F6, c4, h7, t2⟩ := z_list (take_gives (bn := bn) (bs := bs) g1 hn) h6 (by rw [List.length_take]; omega)
    obtain ⟨_, k10⟩ := Asn.right h7
    obtain ⟨_, k10⟩ := Asn.right k10
    obtain ⟨_, k10⟩ := Asn.right k10
    rw [take_max] at t2
    generalize hm : (max 0 (min n (W.length : Int))).toNat = m at t2
    have hmW : m ≤ W.length := by omega
    have e2 := told_eq (n₀ := n₀) (y := .slice p7 m W.length) (by rw [List.length_take]; omega) t2 ⟨p7, W.length, by rw [List.length_take, Nat.min_eq_left hmW], by
      obtain ⟨p, e, hr⟩ := lstV_rd k10
      cases e
      exact Rd_take hr⟩
    refine cw_seq good (cw_region good ?_)
    refine wpO_mv (.slice p6 lin.length lin.length) (by kernel_rfl) ?_
    simp only [Act.put, List.setIfInBounds_toArray, List.set_cons_succ, List.set_cons_zero]
    refine wpO_call (f := 16) (first := #[]) (cap := #[]) (l := [fnV 17, .slice p6 lin.length lin.length]) (xs := #[fnV 17, .slice p6 lin.length lin.length]) ⟨rfl, rfl, rfl⟩ rfl rfl rfl ⟨_, _, c1, ?_⟩
    simp only [Act.put, List.setIfInBounds_toArray, List.set_cons_succ, List.set_cons_zero]
    refine wpO_as (mergeV bl bf) (by kernel_rfl) ?_
    simp only [Act.put, List.setIfInBounds_toArray, List.set_cons_succ, List.set_cons_zero]
    refine cw_seq good (cw_region good ?_)
    refine wpO_mv (.int .i64 n) (by kernel_rfl) ?_
    refine wpO_mv (.slice p7 W.length W.length) (by kernel_rfl) ?_
    refine wpO_val (aop_lenV (b := p7) (len := W.length) (cap := W.length) rfl rfl rfl rfl (by kernel_rfl) rfl) ?_
    simp only [Act.put, List.setIfInBounds_toArray, List.set_cons_succ, List.set_cons_zero]
    refine wpO_val (aop_min (k := .i64) (m := n) (n := W.length) rfl rfl rfl rfl) ?_
    simp only [Act.put, List.setIfInBounds_toArray, List.set_cons_succ, List.set_cons_zero]
    refine wpO_val (aop_max (k := .i64) (m := 0) (n := if (W.length : Int) < n then (W.length : Int) else n) rfl rfl rfl rfl) ?_
    rw [show (if (0 : Int) < (if (W.length : Int) < n then (W.length : Int) else n) then (if (W.length : Int) < n then (W.length : Int) else n) else 0) = (m : Int) by split <;> split at * <;> omega]
    simp only [Act.put, List.setIfInBounds_toArray, List.set_cons_succ, List.set_cons_zero]
    refine wpO_as (.int .i64 m) (by kernel_rfl) ?_
    simp only [Act.put, List.setIfInBounds_toArray, List.set_cons_succ, List.set_cons_zero]
    refine cw_seq good (ca_draw good [mergeV bl bf, x1, .slice p7 W.length W.length, .bool true, .bool true, mergeV bl bf, .int .i64 n, takeV bn bs, x2, .slice p7 W.length W.length, .int .i64 m, .slice p7 m W.length, .bool true, .bool true, .bool true] [A3, A3, A4, A4, A4, A4, A4, A4, A5, A6, A6, A6, A6, A6, A6, A6] (by kernel_rfl) rfl ?_ ⟨#[.slice q vs.length c0, .int .i64 n, undef, undef, .bool true, .bool true, .slice p6 lin.length lin.length, .slice p7 W.length W.length, .int .i64 i8, (zz 9), (zz 10), (zz 11), (zz 12), (zz 13), (zz 14), mergeV bl bf, .int .i64 m, .bool true, .bool true, .bool (!true), (zz 20), (zz 21), (zz 22), (zz 23), (zz 24), (zz 25), (zz 26), (zz 27), (zz 28), (zz 29), (zz 30), (zz 31), (zz 32), (zz 33), (zz 34), (zz 35), (zz 36), (zz 37), (zz 38), (zz 39), (zz 40), (zz 41), (zz 42), (zz 43), (zz 44), (zz 45), (zz 46), (zz 47), (zz 48), (zz 49), (zz 50), (zz 51), (zz 52), (zz 53), (zz 54), (zz 55), (zz 56), (zz 57), (zz 58), (zz 59), (zz 60), (zz 61), (zz 62), (zz 63), (zz 64), (zz 65), (zz 66), (zz 67), (zz 68), (zz 69), (zz 70), (zz 71), (zz 72), (zz 73), (zz 74), (zz 75), (zz 76), (zz 77), (zz 78), (zz 79), (zz 80), (zz 81), (zz 82), (zz 83), (zz 84), (zz 85), (zz 86), (zz 87), (zz 88), (zz 89), (zz 90), (zz 91), (zz 92), (zz 93), (zz 94), (zz 95), (zz 96), (zz 97), (zz 98), (zz 99), (zz 100), (zz 101), (zz 102), (zz 103), (zz 104), (zz 105), (zz 106), (zz 107), (zz 108), (zz 109), (zz 110), (zz 111), (zz 112), (zz 113), (zz 114), (zz 115), (zz 116), (zz 117), (zz 118), (zz 119), (zz 120), (zz 121), (zz 122), (zz 123), (zz 124), (zz 125), (zz 126), (zz 127), (zz 128), (zz 129), (zz 130), (zz 131), (zz 132), (zz 133), (zz 134), (zz 135), (zz 136), (zz 137), (zz 138), (zz 139), (zz 140), .slice p6 lin.length lin.length, mergeV bl bf, .int .i64 n, .slice p7 W.length W.length, .int .i64 W.length, .int .i64 (if (W.length : Int) < n then (W.length : Int) else n), .int .i64 m, mergeV bl bf, x1, .slice p7 W.length W.length, .bool true, .bool true, mergeV bl bf, .int .i64 n, takeV bn bs, x2, .slice p7 W.length W.length, .int .i64 m, .slice p7 m W.length, .bool true, .bool true], []⟩ _ (by kernel_rfl) rfl ?_)
    · intro jj o ho
      match jj, ho with
      | 0, ho => cases ho; exact sa_quiet rfl [1] (all1 (aop_mv rfl (by kernel_rfl))) rfl
      | 1, ho => cases ho; exact sa_acts rfl (runOp_call (l := [mergeV bl bf]) ⟨rfl, rfl, rfl⟩ c2 (by kernel_rfl) (by kernel_rfl))
      | 2, ho => cases ho; exact sa_quiet rfl [1, 3] (all2 (aop_mv rfl (by kernel_rfl)) (aop_mv rfl (by kernel_rfl))) rfl
      | 3, ho => cases ho; exact sa_acts rfl (runOp_call (l := [x1, .slice p7 W.length W.length]) ⟨rfl, rfl, rfl⟩ e1 (by kernel_rfl) (by kernel_rfl))
      | 4, ho => cases ho; exact sa_quiet rfl [7] (all1 (aop_mv rfl (by kernel_rfl))) rfl
      | 5, ho => cases ho; exact sa_quiet rfl [7] (all1 (aop_mv rfl (by kernel_rfl))) rfl
      | 6, ho => cases ho; exact sa_quiet rfl [7] (all1 (aop_mv rfl (by kernel_rfl))) rfl
      | 7, ho => cases ho; exact sa_acts rfl (runOp_call (l := [mergeV bl bf, .int .i64 n]) ⟨rfl, rfl, rfl⟩ c3 (by kernel_rfl) (by kernel_rfl))
      | 8, ho => cases ho; exact sa_acts rfl (runOp_call (l := [takeV bn bs]) ⟨rfl, rfl, rfl⟩ c4 (by kernel_rfl) (by kernel_rfl))
      | 9, ho => cases ho; exact sa_quiet rfl [7, 8, 12] (all3 (aop_mv rfl (by kernel_rfl)) (aop_mv rfl (by kernel_rfl)) (aop_mv rfl (by kernel_rfl))) rfl
      | 10, ho => cases ho; exact sa_quiet rfl [7, 8, 12] (all3 (aop_mv rfl (by kernel_rfl)) (aop_mv rfl (by kernel_rfl)) (aop_mv rfl (by kernel_rfl))) rfl
      | 11, ho => cases ho; exact sa_quiet rfl [7, 8, 12] (all3 (sl_to (len := W.length) rfl (by kernel_rfl) (by kernel_rfl) hmW (Nat.le_refl _) (lstV_base k8)) (sl_to (len := W.length) rfl (by kernel_rfl) (by kernel_rfl) hmW (Nat.le_refl _) (lstV_base k9)) (sl_to (len := W.length) rfl (by kernel_rfl) (by kernel_rfl) hmW (Nat.le_refl _) (lstV_base k10))) rfl
      | 12, ho => cases ho; exact sa_acts rfl (runOp_call (l := [x2, .slice p7 m W.length]) ⟨rfl, rfl, rfl⟩ e2 (by kernel_rfl) (by kernel_rfl))
      | 13, ho => cases ho; exact sa_quiet rfl [15] (all1 (aop_picks (b := true) rfl (by kernel_rfl) (by kernel_rfl))) rfl
      | 14, ho => cases ho; exact sa_quiet rfl [15] (all1 (aop_as rfl (by kernel_rfl))) rfl
      | n + 15, ho => simp at ho
    exact cw_ret good (ret_one (.bool true) rfl rfl)
  obtain ⟨v, A', h1, rfl⟩ := this
  exact ⟨A', h1⟩
end Go.Proofs.Ytipomlcnmaldkaa
