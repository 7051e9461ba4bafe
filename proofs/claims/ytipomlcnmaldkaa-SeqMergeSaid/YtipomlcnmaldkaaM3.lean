/-
  SeqAll's first loop: what is twice and a number more, what is odd, and the sum, one by one. No condition.
-/
import Derived.Test.YtipomlcnmaldkaaM2
import Derived.Test.YtipomlcnmaldkaaB6
import Derived.Test.YtipomlcnmaldkaaB8
import Derived.Test.YtipomlcnmaldkaaB10
namespace Go.Proofs.Ytipomlcnmaldkaa
open Go.Abs
variable {n₀ : Nat}
set_option maxRecDepth 8000
/-- The code of SeqAll, and parts of code. -/
noncomputable def c6 : Code := match Try.prog.funcs[6]? with
  | some fn => (match fn.body with | some c => c | none => .skip)
  | none => .skip
def lft : Code → Code | .seq x _ => x | c => c
def rgt : Code → Code | .seq _ y => y | c => c
def inl : Code → Code | .block _ x => x | .loop x => x | c => c
def rgts : Nat → Code → Code | 0, c => c | n + 1, c => rgts n (rgt c)
noncomputable def c6a : Code := inl (inl (rgt (lft (rgts 7 c6))))
noncomputable def c6b : Code := inl (inl (rgt (lft (rgts 11 c6))))
theorem appTy : AppTy Try.prog 22 22 3 := ⟨rfl, ⟨_, rfl⟩, _, _, rfl, rfl, rfl, rfl, by decide⟩
theorem take_next {l : List Int} {i : Nat} {x : Int} (h : l[i]? = some x) : l.take (i + 1) = l.take i ++ [x] := by
  rw [List.take_add_one, h]; rfl
theorem rd_one {A : World} {b : Nat} {x : Int} {t : TypeId} (h : A.heap[b]? = some (.cells #[.int .i64 x] t (0, 0))) : Rd A (some ⟨b, 0, none⟩) [x] := fun i y hy => by
  match i, hy with
  | 0, hy => cases hy; exact ⟨_, rfl, by rw [cell_add (a := ⟨b, 0, none⟩) h rfl]; rfl⟩
  | n + 1, hy => simp at hy

set_option maxHeartbeats 4000000 in
theorem all_loop1 {A : World} {F : Foot} {p : Option Addr} {la : List Int} {c kb b1 : Nat} {k : Int} {J2 : Asn} {Q : Exit → Act → World → Prop} {v1 v2 : Value} (o2 : Owns J2) (hla : la.length ≤ 30)
    (h : Asn.all [lstV 3 v1 [], lstV 3 v2 [], cel kb (.int .i64 k), cel b1 (.slice p la.length c), rd p la, J2] F A) {j1 j2 j3 j4 j5 j6 j8 j9 j10 j11 j16 j17 j18 j19 j20 j21 j22 j23 j24 j25 j26 j27 j28 j29 j30 j31 j32 j33 j34 j35 j36 j37 j38 j39 j40 j41 j42 j43 j44 j45 j46 j47 j48 j49 j50 j51 j52 j53 j54 j55 j56 j57 j58 j59 j60 j61 j62 j63 j64 j65 j66 j67 j68 j69 j70 j71 j72 j73 j74 j75 j76 j77 j78 j79 j80 j81 j82 j83 j84 j85 j86 j87 j88 j89 j90 j91 j92 j93 j94 j95 j96 j97 j98 j99 j100 j101 j102 j103 j104 j105 j106 j107 j108 j109 j110 j111 j112 j113 j114 j115 j116 j117 j118 j119 j120 j121 j122 j123 j124 j125 j126 j127 j128 j129 j130 j131 j132 j133 j134 j135 j136 j137 j138 : Value}
    (hQ : ∀ (v1' v2' : Value) (A' : World) (F' : Foot) (z31 z32 z33 z34 z35 z36 z37 z38 z39 z40 z41 z42 z43 z44 z45 z46 z47 z48 z49 z50 z51 z52 z53 z54 z55 z56 z57 z58 z59 z60 z61 z62 z63 z64 z65 z66 : Value), Asn.all [lstV 3 v1' (la.map (twF k)), lstV 3 v2' (la.filter (fun x => x.tmod 2 != 0)), cel kb (.int .i64 k), cel b1 (.slice p la.length c), rd p la, J2] F' A' → Step F A F' A' →
      Q (.exit 0) ⟨#[.slice p la.length c, j1, j2, j3, j4, j5, j6, ptr kb, j8, j9, j10, j11, v1', v2', .int .i64 (la.foldl addF 7), .int .i64 la.length, j16, j17, j18, j19, j20, j21, j22, j23, j24, j25, j26, j27, j28, j29, j30, z31, z32, z33, z34, z35, z36, z37, z38, z39, z40, z41, z42, z43, z44, z45, z46, z47, z48, z49, z50, z51, z52, z53, z54, z55, z56, z57, z58, z59, z60, z61, z62, z63, z64, z65, z66, j67, j68, j69, j70, j71, j72, j73, j74, j75, j76, j77, j78, j79, j80, j81, j82, j83, j84, j85, j86, j87, j88, j89, j90, j91, j92, j93, j94, j95, j96, j97, j98, j99, j100, j101, j102, j103, j104, j105, j106, j107, j108, j109, j110, j111, j112, j113, j114, j115, j116, j117, j118, j119, j120, j121, j122, j123, j124, j125, j126, j127, j128, j129, j130, j131, j132, j133, j134, j135, j136, j137, j138], []⟩ A') :
    wpL Try.prog n₀ none c6a Q ⟨#[.slice p la.length c, j1, j2, j3, j4, j5, j6, ptr kb, j8, j9, j10, j11, v1, v2, .int .i64 7, .int .i64 (0 : Nat), j16, j17, j18, j19, j20, j21, j22, j23, j24, j25, j26, j27, j28, j29, j30, j31, j32, j33, j34, j35, j36, j37, j38, j39, j40, j41, j42, j43, j44, j45, j46, j47, j48, j49, j50, j51, j52, j53, j54, j55, j56, j57, j58, j59, j60, j61, j62, j63, j64, j65, j66, j67, j68, j69, j70, j71, j72, j73, j74, j75, j76, j77, j78, j79, j80, j81, j82, j83, j84, j85, j86, j87, j88, j89, j90, j91, j92, j93, j94, j95, j96, j97, j98, j99, j100, j101, j102, j103, j104, j105, j106, j107, j108, j109, j110, j111, j112, j113, j114, j115, j116, j117, j118, j119, j120, j121, j122, j123, j124, j125, j126, j127, j128, j129, j130, j131, j132, j133, j134, j135, j136, j137, j138], []⟩ A := by
  refine wpL_ind (fun n a A' => ∃ (i : Nat) (v1 v2 : Value) (F' : Foot) (z31 z32 z33 z34 z35 z36 z37 z38 z39 z40 z41 z42 z43 z44 z45 z46 z47 z48 z49 z50 z51 z52 z53 z54 z55 z56 z57 z58 z59 z60 z61 z62 z63 z64 z65 z66 : Value), n = la.length - i ∧ i ≤ la.length ∧ Asn.all [lstV 3 v1 ((la.take i).map (twF k)), lstV 3 v2 ((la.take i).filter (fun x => x.tmod 2 != 0)), cel kb (.int .i64 k), cel b1 (.slice p la.length c), rd p la, J2] F' A' ∧ Step F A F' A' ∧
    a = ⟨#[.slice p la.length c, j1, j2, j3, j4, j5, j6, ptr kb, j8, j9, j10, j11, v1, v2, .int .i64 ((la.take i).foldl addF 7), .int .i64 i, j16, j17, j18, j19, j20, j21, j22, j23, j24, j25, j26, j27, j28, j29, j30, z31, z32, z33, z34, z35, z36, z37, z38, z39, z40, z41, z42, z43, z44, z45, z46, z47, z48, z49, z50, z51, z52, z53, z54, z55, z56, z57, z58, z59, z60, z61, z62, z63, z64, z65, z66, j67, j68, j69, j70, j71, j72, j73, j74, j75, j76, j77, j78, j79, j80, j81, j82, j83, j84, j85, j86, j87, j88, j89, j90, j91, j92, j93, j94, j95, j96, j97, j98, j99, j100, j101, j102, j103, j104, j105, j106, j107, j108, j109, j110, j111, j112, j113, j114, j115, j116, j117, j118, j119, j120, j121, j122, j123, j124, j125, j126, j127, j128, j129, j130, j131, j132, j133, j134, j135, j136, j137, j138], []⟩) ?_ la.length _ _
    ⟨0, v1, v2, F, j31, j32, j33, j34, j35, j36, j37, j38, j39, j40, j41, j42, j43, j44, j45, j46, j47, j48, j49, j50, j51, j52, j53, j54, j55, j56, j57, j58, j59, j60, j61, j62, j63, j64, j65, j66, by simp, by simp, h, .refl, rfl⟩
  clear h
  rintro n _ A' ⟨i, v1, v2, F', z31, z32, z33, z34, z35, z36, z37, z38, z39, z40, z41, z42, z43, z44, z45, z46, z47, z48, z49, z50, z51, z52, z53, z54, z55, z56, z57, z58, z59, z60, z61, z62, z63, z64, z65, z66, rfl, hi, h, hS, rfl⟩
  refine cw_seq good (cw_seq good (cw_region good ?_))
  refine wpO_mv (.int .i64 i) rfl ?_
  refine wpO_mv (.slice p la.length c) rfl ?_
  refine wpO_val (aop_len rfl rfl rfl rfl rfl) ?_
  refine wpO_val (aop_int rfl (k := .i64) (m := i) (n := la.length) rfl rfl rfl) ?_
  simp only [Act.put, List.setIfInBounds_toArray, List.set_cons_succ, List.set_cons_zero]
  by_cases hlt : i < la.length
  case neg =>
    refine cw_cond good false (congrArg Value.bool (by simpa using hlt)) (cw_exit good ?_)
    have e : la.take i = la := List.take_of_length_le (by omega)
    have e2 : i = la.length := by omega
    rw [e] at h
    rw [e, e2]
    exact hQ _ _ _ _ _ _ _ _ _ _ _ _ _ _ _ _ _ _ _ _ _ _ _ _ _ _ _ _ _ _ _ _ _ _ _ _ _ _ _ _ h hS
  refine cw_cond good true (congrArg Value.bool (by simpa using hlt)) (cw_skip good ?_)
  obtain ⟨x, hx⟩ : ∃ x, la[i]? = some x := ⟨_, List.getElem?_eq_getElem hlt⟩
  have hO := fun (v1 v2 : Value) (l1 l2 : List Int) => Owns.sep (Owns.lstV (t := 3) (v := v1) (acc := l1)) (Owns.sep (Owns.lstV (t := 3) (v := v2) (acc := l2)) (Owns.sep (Owns.cel (b := kb) (v := .int .i64 k)) (Owns.sep (Owns.cel (b := b1) (v := .slice p la.length c)) (Owns.sep (Owns.rd (p := p) (l := la)) o2))))
  obtain ⟨_, hrd⟩ := Asn.left (Asn.perm _ [4, 0, 1, 2, 3, 5] h (by decide))
  obtain ⟨ad, rfl, hc⟩ := hrd.2.1 i x hx
  have hRo := hrd.2.2 ad rfl
  -- the first append
  obtain ⟨F1, h1, S1⟩ := Asn.newO (hO _ _ _ _) h (.cells #[.int .i64 (twF k x)] 3 (0, 0))
  have hat := Asn.at h1
  have gk1 := Asn.get (Asn.perm [blk A'.heap.size (.cells #[.int .i64 (twF k x)] 3 (0, 0)), lstV 3 v1 ((la.take i).map (twF k)), lstV 3 v2 ((la.take i).filter (fun x => x.tmod 2 != 0)), cel kb (.int .i64 k), cel b1 (.slice (some ad) la.length c), rd (some ad) la, J2] [3, 0, 1, 2, 4, 5, 6] h1 (by decide))
  have h2 := Asn.perm [blk A'.heap.size (.cells #[.int .i64 (twF k x)] 3 (0, 0)), lstV 3 v1 ((la.take i).map (twF k)), lstV 3 v2 ((la.take i).filter (fun x => x.tmod 2 != 0)), cel kb (.int .i64 k), cel b1 (.slice (some ad) la.length c), rd (some ad) la, J2] [1, 0, 2, 3, 4, 5, 6] h1 (by decide)
  obtain ⟨v1', A2, F2, hap, h3, S2⟩ := lstV_grow (p := some ⟨A'.heap.size, 0, none⟩) (l := [twF k x]) (n := 1) (c2 := 1) appTy (Owns.sep Owns.blk (Owns.sep Owns.lstV (Owns.sep Owns.cel (Owns.sep Owns.cel (Owns.sep Owns.rd o2))))) h2 (rd_one hat) rfl (by simp; omega)
  obtain ⟨F3, h4, S3⟩ := Asn.drop (Asn.swap h3)
  have hc1 : (A'.alloc (.cells #[.int .i64 (twF k x)] 3 (0, 0))).cell? (ad.add (i * 1)) = some (.int .i64 x) := (cell_eq (A := A') (by rw [add_block]; exact S1.ro _ hRo)).trans hc
  have hc2 : A2.cell? (ad.add (i * 1)) = some (.int .i64 x) := (cell_eq (A := A') (by rw [add_block]; exact (S1.ro.trans S2.ro) _ hRo)).trans hc
  have e1 : (la.take i).map (twF k) ++ [twF k x] = (la.take (i + 1)).map (twF k) := by rw [take_next hx]; simp
  rw [e1] at h4
  refine cw_seq good (cw_block good ?_)

  refine cw_seq good (cw_draw good [v1, .slice (some ad) la.length c, .int .i64 i, .pointer (some (ad.add (i * 1))), .int .i64 x, .int .i64 (w64 (x * 2)), .int .i64 k, .int .i64 (twF k x), .slice (some ⟨A'.heap.size, 0, none⟩) 1 1, v1', v1'] [A', A', A', A', A', A', A', A', A', (A'.alloc (.cells #[.int .i64 (twF k x)] 3 (0, 0))), A2, A2] (by kernel_rfl) rfl ?_ ⟨#[.slice (some ad) la.length c, j1, j2, j3, j4, j5, j6, ptr kb, j8, j9, j10, j11, v1', v2, .int .i64 ((la.take i).foldl addF 7), .int .i64 i, j16, j17, j18, j19, j20, j21, j22, j23, j24, j25, j26, j27, j28, j29, j30, .int .i64 i, .slice (some ad) la.length c, .int .i64 la.length, .bool (decide ((i : Int) < la.length)), z35, z36, v1, .slice (some ad) la.length c, .int .i64 i, .pointer (some (ad.add (i * 1))), .int .i64 x, .int .i64 (w64 (x * 2)), .int .i64 k, .int .i64 (twF k x), .slice (some ⟨A'.heap.size, 0, none⟩) 1 1, v1', z47, z48, z49, z50, z51, z52, z53, z54, z55, z56, z57, z58, z59, z60, z61, z62, z63, z64, z65, z66, j67, j68, j69, j70, j71, j72, j73, j74, j75, j76, j77, j78, j79, j80, j81, j82, j83, j84, j85, j86, j87, j88, j89, j90, j91, j92, j93, j94, j95, j96, j97, j98, j99, j100, j101, j102, j103, j104, j105, j106, j107, j108, j109, j110, j111, j112, j113, j114, j115, j116, j117, j118, j119, j120, j121, j122, j123, j124, j125, j126, j127, j128, j129, j130, j131, j132, j133, j134, j135, j136, j137, j138], []⟩ A2 (by kernel_rfl) rfl ?_)
  · intro jj o ho
    match jj, ho with
    | 0, ho => cases ho; exact step_quiet rfl [9] (all1 (aop_mv rfl (by kernel_rfl))) rfl
    | 1, ho => cases ho; exact step_quiet rfl [9] (all1 (aop_mv rfl (by kernel_rfl))) rfl
    | 2, ho => cases ho; exact step_quiet rfl [9] (all1 (aop_mv rfl (by kernel_rfl))) rfl
    | 3, ho => cases ho; exact step_quiet rfl [9] (all1 (aop_index (k := .i64) (cap := c) rfl (by kernel_rfl) (by kernel_rfl) rfl rfl hlt)) rfl
    | 4, ho => cases ho; exact step_quiet rfl [9] (all1 (aop_load rfl (by kernel_rfl) rfl hc1)) rfl
    | 5, ho => cases ho; exact step_quiet rfl [9] (all1 (aop_int (k := .i64) (m := x) (n := 2) (v := .int .i64 (w64 (x * 2))) rfl (by kernel_rfl) (by kernel_rfl) rfl)) rfl
    | 6, ho => cases ho; exact step_quiet rfl [9] (all1 (aop_load (p := ⟨kb, 0, none⟩) rfl (by kernel_rfl) rfl gk1)) rfl
    | 7, ho => cases ho; exact step_quiet rfl [9] (all1 (aop_int (k := .i64) (m := w64 (x * 2)) (n := k) (v := .int .i64 (twF k x)) rfl (by kernel_rfl) (by kernel_rfl) rfl)) rfl
    | 8, ho => cases ho; exact step_makes rfl (.cells #[.int .i64 (twF k x)] 3 (0, 0)) rfl rfl (.inr (.inl ⟨1, 1, rfl⟩)) (fun b => .slice (some ⟨b, 0, none⟩) 1 1) rfl (fun w => run_slice1 (v := .int .i64 (twF k x)) rfl (by kernel_rfl) rfl rfl rfl rfl rfl rfl) [9] (all1 hat)
    | 9, ho => cases ho; exact step_acts rfl ⟨_, _, hap _ _ _ rfl rfl rfl (by kernel_rfl), rfl, rfl⟩
    | 10, ho => cases ho; exact step_quiet rfl [11] (all1 (aop_as rfl (by kernel_rfl))) rfl
    | n + 11, ho => simp at ho

  refine cw_seq good (cw_seq good (cw_region good ?_))
  refine wpO_mv (.slice (some ad) la.length c) rfl ?_
  refine wpO_mv (.int .i64 i) rfl ?_
  simp only [Act.put, List.setIfInBounds_toArray, List.set_cons_succ, List.set_cons_zero]
  refine wpO_val (aop_index (k := .i64) (cap := c) rfl rfl rfl rfl rfl hlt) ?_
  refine wpO_val (aop_load rfl rfl rfl hc2) ?_
  refine wpO_val (aop_int (k := .i64) (m := x) (n := 2) (v := .int .i64 (x.tmod 2)) rfl rfl rfl rfl) ?_
  refine wpO_val (aop_int (k := .i64) (m := x.tmod 2) (n := 0) (v := .bool (x.tmod 2 != 0)) rfl rfl rfl rfl) ?_
  simp only [Act.put, List.setIfInBounds_toArray, List.set_cons_succ, List.set_cons_zero]
  by_cases ho : (x.tmod 2 != 0) = true
  case neg =>
    have ho' : (x.tmod 2 != 0) = false := by simpa using ho
    refine cw_cond good false (congrArg Value.bool ho') (cw_skip good ?_)
    have e2 : (la.take i).filter (fun x => x.tmod 2 != 0) = (la.take (i + 1)).filter (fun x => x.tmod 2 != 0) := by rw [take_next hx, List.filter_append, List.filter_cons_of_neg (by rw [ho']; decide), List.filter_nil, List.append_nil]
    rw [e2] at h4
    refine cw_region good ?_
    refine wpO_mv (.int .i64 ((la.take i).foldl addF 7)) rfl ?_
    refine wpO_val (aop_int (k := .i64) (m := (la.take i).foldl addF 7) (n := 3) (v := .int .i64 (w64 ((la.take i).foldl addF 7 * 3))) rfl rfl rfl rfl) ?_
    simp only [Act.put, List.setIfInBounds_toArray, List.set_cons_succ, List.set_cons_zero]
    refine wpO_mv (.slice (some ad) la.length c) rfl ?_
    refine wpO_mv (.int .i64 i) rfl ?_
    simp only [Act.put, List.setIfInBounds_toArray, List.set_cons_succ, List.set_cons_zero]
    refine wpO_val (aop_index (k := .i64) (cap := c) rfl rfl rfl rfl rfl hlt) ?_
    refine wpO_val (aop_load rfl rfl rfl hc2) ?_
    simp only [Act.put, List.setIfInBounds_toArray, List.set_cons_succ, List.set_cons_zero]
    refine wpO_val (aop_int (k := .i64) (m := w64 ((la.take i).foldl addF 7 * 3)) (n := x) (v := .int .i64 (addF ((la.take i).foldl addF 7) x)) rfl rfl rfl rfl) ?_
    refine wpO_as (.int .i64 (addF ((la.take i).foldl addF 7) x)) rfl ?_
    simp only [Act.put, List.setIfInBounds_toArray, List.set_cons_succ, List.set_cons_zero]
    refine cw_region good ?_
    refine wpO_mv (.int .i64 i) rfl ?_
    refine wpO_val (aop_int (k := .i64) (m := i) (n := 1) (v := .int .i64 (i + 1 : Nat)) rfl rfl rfl (intV_add (by omega) (by omega) (by omega))) ?_
    refine wpO_as (.int .i64 (i + 1 : Nat)) rfl ?_
    simp only [Act.put, List.setIfInBounds_toArray, List.set_cons_succ, List.set_cons_zero]
    have e3 : addF ((la.take i).foldl addF 7) x = (la.take (i + 1)).foldl addF 7 := by rw [take_next hx]; simp
    rw [e3]
    exact ⟨la.length - (i + 1), by omega, i + 1, v1', v2, F3, _, _, _, _, _, _, _, _, _, _, _, _, _, _, _, _, _, _, _, _, _, _, _, _, _, _, _, _, _, _, _, _, _, _, _, _, rfl, by omega, h4, hS.trans (S1.trans (S2.trans S3)), rfl⟩

  refine cw_cond good true (congrArg Value.bool ho) ?_
  refine cw_region good ?_
  refine wpO_mv v2 rfl ?_
  refine wpO_mv (.slice (some ad) la.length c) rfl ?_
  refine wpO_mv (.int .i64 i) rfl ?_
  simp only [Act.put, List.setIfInBounds_toArray, List.set_cons_succ, List.set_cons_zero]
  refine wpO_val (aop_index (k := .i64) (cap := c) rfl rfl rfl rfl rfl hlt) ?_
  refine wpO_val (aop_load rfl rfl rfl hc2) ?_
  simp only [Act.put, List.setIfInBounds_toArray, List.set_cons_succ, List.set_cons_zero]
  obtain ⟨F5, h5, S5⟩ := Asn.newO (hO _ _ _ _) h4 (.cells #[.int .i64 x] 3 (0, 0))
  have hat5 := Asn.at h5
  have h6 := Asn.perm [blk A2.heap.size (.cells #[.int .i64 x] 3 (0, 0)), lstV 3 v1' ((la.take (i + 1)).map (twF k)), lstV 3 v2 ((la.take i).filter (fun x => x.tmod 2 != 0)), cel kb (.int .i64 k), cel b1 (.slice (some ad) la.length c), rd (some ad) la, J2] [2, 0, 1, 3, 4, 5, 6] h5 (by decide)
  obtain ⟨v2', A4, F6, hap2, h7, S6⟩ := lstV_grow (p := some ⟨A2.heap.size, 0, none⟩) (l := [x]) (n := 1) (c2 := 1) appTy (Owns.sep Owns.blk (Owns.sep Owns.lstV (Owns.sep Owns.cel (Owns.sep Owns.cel (Owns.sep Owns.rd o2))))) h6 (rd_one hat5) rfl (by have := List.length_filter_le (fun x => x.tmod 2 != 0) (la.take i); rw [List.length_take] at this; simp only [List.length_cons, List.length_nil]; omega)
  obtain ⟨F7, h8, S7⟩ := Asn.drop (Asn.swap h7)
  have e2 : (la.take i).filter (fun x => x.tmod 2 != 0) ++ [x] = (la.take (i + 1)).filter (fun x => x.tmod 2 != 0) := by rw [take_next hx, List.filter_append, show [x].filter (fun x => x.tmod 2 != 0) = [x] from by simp only [List.filter_cons, ho, if_true, List.filter_nil]]
  rw [e2] at h8
  have h9 := Asn.swap h8
  have hc4 : A4.cell? (ad.add (i * 1)) = some (.int .i64 x) := (cell_eq (A := A') (by rw [add_block]; exact (S1.ro.trans (S2.ro.trans (S5.ro.trans S6.ro))) _ hRo)).trans hc
  refine wpO_val (aop_slice1 (v := .int .i64 x) rfl rfl rfl rfl rfl rfl rfl rfl) ?_
  refine wpO_val (hap2 _ _ _ rfl rfl rfl rfl) ?_
  refine wpO_as v2' rfl ?_
  simp only [Act.put, List.setIfInBounds_toArray, List.set_cons_succ, List.set_cons_zero]
  refine cw_region good ?_
  refine wpO_mv (.int .i64 ((la.take i).foldl addF 7)) rfl ?_
  refine wpO_val (aop_int (k := .i64) (m := (la.take i).foldl addF 7) (n := 3) (v := .int .i64 (w64 ((la.take i).foldl addF 7 * 3))) rfl rfl rfl rfl) ?_
  simp only [Act.put, List.setIfInBounds_toArray, List.set_cons_succ, List.set_cons_zero]
  refine wpO_mv (.slice (some ad) la.length c) rfl ?_
  refine wpO_mv (.int .i64 i) rfl ?_
  simp only [Act.put, List.setIfInBounds_toArray, List.set_cons_succ, List.set_cons_zero]
  refine wpO_val (aop_index (k := .i64) (cap := c) rfl rfl rfl rfl rfl hlt) ?_
  refine wpO_val (aop_load rfl rfl rfl hc4) ?_
  simp only [Act.put, List.setIfInBounds_toArray, List.set_cons_succ, List.set_cons_zero]
  refine wpO_val (aop_int (k := .i64) (m := w64 ((la.take i).foldl addF 7 * 3)) (n := x) (v := .int .i64 (addF ((la.take i).foldl addF 7) x)) rfl rfl rfl rfl) ?_
  refine wpO_as (.int .i64 (addF ((la.take i).foldl addF 7) x)) rfl ?_
  simp only [Act.put, List.setIfInBounds_toArray, List.set_cons_succ, List.set_cons_zero]
  refine cw_region good ?_
  refine wpO_mv (.int .i64 i) rfl ?_
  refine wpO_val (aop_int (k := .i64) (m := i) (n := 1) (v := .int .i64 (i + 1 : Nat)) rfl rfl rfl (intV_add (by omega) (by omega) (by omega))) ?_
  refine wpO_as (.int .i64 (i + 1 : Nat)) rfl ?_
  simp only [Act.put, List.setIfInBounds_toArray, List.set_cons_succ, List.set_cons_zero]
  have e3 : addF ((la.take i).foldl addF 7) x = (la.take (i + 1)).foldl addF 7 := by rw [take_next hx]; simp
  rw [e3]
  exact ⟨la.length - (i + 1), by omega, i + 1, v1', v2', F7, _, _, _, _, _, _, _, _, _, _, _, _, _, _, _, _, _, _, _, _, _, _, _, _, _, _, _, _, _, _, _, _, _, _, _, _, rfl, by omega, h9, hS.trans (S1.trans (S2.trans (S3.trans (S5.trans (S6.trans S7))))), rfl⟩

end Go.Proofs.Ytipomlcnmaldkaa
/-
  What SeqAll asks, each by itself: a list of what is turned, kept, taken, skipped; and that all that lay there lies there still. No condition.
-/
namespace Go.Proofs.Ytipomlcnmaldkaa
open Go.Abs
variable {n₀ : Nat}
set_option maxRecDepth 8000
/-- What a call of List told, and where it may be read. -/
def Told (A : World) (x : Value) (l : List Int) : Prop := ∃ p, x = .slice p l.length l.length ∧ Rd A p l
theorem z_list {s : Value} {Z : Asn} {l : List Int} {F : Foot} {A : World} (g : Gives n₀ s Z l) (h : Z F A) (hl : l.length < 16777216) : ∃ x A' F', SndCall Try.prog n₀ 13 #[s] A x A' ∧ Z F' A' ∧ Told A' x l := by
  obtain ⟨x, A1, F1, c1, h1, _⟩ := gives_list g h hl
  obtain ⟨_, q⟩ := Asn.right h1
  obtain ⟨F2, h2, _⟩ := Asn.take h1
  exact ⟨x, A1, F2, c1, h2, lstV_rd q⟩
theorem z_keep {s f : Value} {p : Int → Bool} {Z : Asn} {l : List Int} {F : Foot} {A : World} (g : Gives n₀ s Z l) (Hp : Ppec Try.prog n₀ f p) (hs : isOne s = true) (hf : isOne f = true) (h : Z F A) (hl : l.length < 16777216) :
    ∃ V A1 x A2 F', SndCall Try.prog n₀ 19 #[s, f] A V A1 ∧ SndCall Try.prog n₀ 13 #[V] A1 x A2 ∧ Z F' A2 ∧ Told A2 x (l.filter p) := by
  obtain ⟨bs, bf, A1, F1, c1, h1, _⟩ := keep_do (n₀ := n₀) (s := s) (f := f) (g.loc ()) h hs hf
  obtain ⟨x, A2, F2, c2, h2, t⟩ := z_list (keep_gives (bs := bs) (bf := bf) Hp g) h1 (Nat.lt_of_le_of_lt (List.length_filter_le _ _) hl)
  obtain ⟨F3, h3, _⟩ := Asn.drop h2
  obtain ⟨F4, h4, _⟩ := Asn.drop h3
  exact ⟨_, A1, x, A2, F4, c1, c2, h4, t⟩
theorem z_take {s : Value} {n : Int} {Z : Asn} {l : List Int} {F : Foot} {A : World} (g : Gives n₀ s Z l) (hn : n < 9223372036854775808) (hs : isOne s = true) (h : Z F A) (hl : l.length < 16777216) :
    ∃ V A1 x A2 F', SndCall Try.prog n₀ 14 #[s, .int .i64 n] A V A1 ∧ SndCall Try.prog n₀ 13 #[V] A1 x A2 ∧ RoKept A A1 ∧ Z F' A2 ∧ Told A2 x (l.take n.toNat) := by
  obtain ⟨bn, bs, A1, F1, c1, h1, S1⟩ := take_do' (n₀ := n₀) (s := s) (n := n) (g.loc ()) h hs
  obtain ⟨x, A2, F2, c2, h2, t⟩ := z_list (take_gives (bn := bn) (bs := bs) g hn) h1 (by rw [List.length_take]; omega)
  obtain ⟨F3, h3, _⟩ := Asn.drop h2
  obtain ⟨F4, h4, _⟩ := Asn.drop h3
  exact ⟨_, A1, x, A2, F4, c1, c2, S1.ro, h4, t⟩
theorem z_skip {s : Value} {n : Int} {Z : Asn} {l : List Int} {F : Foot} {A : World} (g : Gives n₀ s Z l) (hn : n < 9223372036854775808) (hs : isOne s = true) (h : Z F A) (hl : l.length < 16777216) :
    ∃ V A1 x A2 F', SndCall Try.prog n₀ 18 #[s, .int .i64 n] A V A1 ∧ SndCall Try.prog n₀ 13 #[V] A1 x A2 ∧ RoKept A A1 ∧ Z F' A2 ∧ Told A2 x (l.drop n.toNat) := by
  obtain ⟨bn, bs, A1, F1, c1, h1, S1⟩ := skip_do (n₀ := n₀) (s := s) (n := n) (g.loc ()) h hs
  obtain ⟨x, A2, F2, c2, h2, t⟩ := z_list (skip_gives (bn := bn) (bs := bs) g hn) h1 (by rw [List.length_drop]; omega)
  obtain ⟨F3, h3, _⟩ := Asn.drop h2
  obtain ⟨F4, h4, _⟩ := Asn.drop h3
  exact ⟨_, A1, x, A2, F4, c1, c2, S1.ro, h4, t⟩
theorem z_map {s f : Value} {J K : Asn} {gf : Int → Int} {l : List Int} {F : Foot} {A : World} (g : Gives n₀ s J l) (Hf : Fpec Try.prog n₀ f (fun _ : Unit => K) (fun _ x => some (gf x, ()))) (hs : isOne s = true) (hf : isOne f = true) (h : (J.sep K) F A) (hl : l.length < 16777216) :
    ∃ V A1 x A2 F', SndCall Try.prog n₀ 10 #[s, f] A V A1 ∧ SndCall Try.prog n₀ 13 #[V] A1 x A2 ∧ (J.sep K) F' A2 ∧ Told A2 x (l.map gf) := by
  obtain ⟨bs, bf, A1, F1, c1, h1, _⟩ := map_do (n₀ := n₀) (s := s) (f := f) (J := fun _ : Unit => J) (K := fun _ : Unit => K) (p := ()) (q := ()) (Hf.loc ()) (g.loc ()) h hs hf
  obtain ⟨x, A2, F2, c2, h2, t⟩ := z_list (map_gives (bs := bs) (bf := bf) Hf g) h1 (by rw [List.length_map]; exact hl)
  obtain ⟨F3, h3, _⟩ := Asn.drop (Asn.perm [J, K, cel bs s, cel bf f] [2, 3, 0, 1] h2 (by decide))
  obtain ⟨F4, h4, _⟩ := Asn.drop h3
  exact ⟨_, A1, x, A2, F4, c1, c2, h4, t⟩
theorem told_eq {A : World} {x y : Value} {l : List Int} (hl : l.length < 2 ^ 62) (hx : Told A x l) (hy : ∃ p c, y = .slice p l.length c ∧ Rd A p l) : SndCall Try.prog n₀ 15 #[x, y] A (.bool true) A := by
  obtain ⟨p, rfl, h1⟩ := hx
  obtain ⟨q, c, rfl, h2⟩ := hy
  exact eq_true hl h1 h2
theorem lst_told {v : Value} {l : List Int} {F : Foot} {A : World} (h : lstV 3 v l F A) : ∃ p c, v = .slice p l.length c ∧ Rd A p l := let ⟨p, e, r⟩ := lstV_rd h; ⟨p, _, e, r⟩
theorem chain_call {A : World} {v : Value} (hv : isOne v = true) : SndCall Try.prog n₀ 23 #[v] A (chainV A.heap.size) (A.alloc (.cells #[v] 47 (0, 0))) := by
  have : wpF Try.prog n₀ 23 #[v] (fun r A' => r = chainV A.heap.size ∧ A' = A.alloc (.cells #[v] 47 (0, 0))) A := by
    refine wpF_fn (ts := #[v, undef, undef, undef]) good ⟨rfl, rfl, rfl⟩ rfl ?_
    refine cw_seq good (cw_region good ?_)
    refine wpO_val (aop_box (v := v) rfl rfl hv) ?_
    refine wpO_as .nilFunc rfl ?_
    refine cw_seq good (cw_region good ?_)
    refine wpO_val (aop_func (l := []) (l' := [ptr A.heap.size]) rfl rfl rfl) ?_
    refine wpO_as (chainV A.heap.size) rfl ?_
    exact cw_ret good (ret_one (chainV A.heap.size) rfl ⟨rfl, rfl⟩)
  obtain ⟨v, A1, h1, rfl, rfl⟩ := this
  exact h1
/-- From the l-th on. -/
theorem aop_from {A : World} {ρ : Operand → Value} {o : Oper} {t e : TypeId} {x : Operand} {lo : Operand} {b : Option Addr} {len cap l : Nat} {k : IntKind} (ho : o.op = .slice t x (some lo) none none) (hx : ρ x = .slice b len cap) (hu : Try.prog.underlying t = some (.slice e)) (h1 : one Try.prog e = true)
    (hlo : ρ lo = .int k l) (hl : l ≤ len) (hlen : len ≤ cap) (hb : ∀ a, b = some a → ∃ cs t' fz, A.heap[a.block]? = some (.cells cs t' fz) ∧ fz ≠ (2, 0) ∧ (fz = (1, 0) → Try.prog.cellsOf e = Try.prog.cellsOf t')) :
    AOp Try.prog ρ o A (.value (.slice (if cap = l then b else b.map (·.add (l * 1))) (len - l) (cap - l))) A := by
  refine .inr (.inl ⟨?_, ?_⟩)
  · rw [ho]
    refine ⟨fun a l' c' h' => ?_, fun e' h' => ?_, fun el he a l' c' h' => ?_⟩
    · rw [hx] at h'; cases h'; exact hlen
    · rw [hu] at h'; cases h'
    · rw [hu] at he; cases he; rw [hx] at h'; cases h'; exact hb a rfl
  · unfold execOp; rw [ho]
    have hs : (sizeOf e).run Try.prog A = .ok 1 A := run_sizeOne h1 A
    have hun : (underlying t).run Try.prog A = .ok (.slice e) A := by simp [underlying, program, Sem.run, Bind.bind, Sem.bind, Pure.pure, hu]
    have hbd : (Instr.sliceBounds true len cap (some (.int k l)) none none).run Try.prog A = .ok (l, len, cap) A := by
      unfold Instr.sliceBounds
      simp only [Sem.run_bind, Sem.run_pure, Result.andThen, run_bound (v := .int k l) rfl hl, Option.isSome_none]
    simp only [Instr.sliceAt, Instr.slice, hx, hlo, Option.map_some, Sem.run_bind, Sem.run_pure, Result.andThen, hun, hs, hbd, Option.map_none]
theorem runOp_call {a : Act} {A A1 : World} {o : Oper} {c : Call} {g : Operand} {f : FuncId} {fn : Func} {code : Code} {v : Value} {l : List Value} (H : IsFn Try.prog f fn code) (h : SndCall Try.prog n₀ f l.toArray A v A1) (hg : a.eval g = .func (.func f) #[] #[]) (hx : c.args.toList.map a.eval = l)
    (ho : o.op = .call c := by rfl) (hc : c.callee = .value g := by rfl) : RunOp Try.prog (Wd Try.prog n₀) o a A v A1 := by
  have e : c.args.map a.eval = l.toArray := by rw [← hx, ← Array.toList_map]
  have e2 : #[] ++ c.args.map a.eval ++ #[] = l.toArray := by rw [e]; simp
  exact ⟨_, _, .inr (.inr (.inr (.inl ⟨c, g, f, #[], #[], fn, code, ho, hc, hg, H.at_, H.body, H.name, rfl, rfl⟩))), e2 ▸ h⟩
end Go.Proofs.Ytipomlcnmaldkaa
/-
  The plain law of SeqMerge: what is picked least first of lists in order is what comes of putting each number into its place, one behind the other. No program in sight, no condition.
-/
namespace Go.Proofs.Ytipomlcnmaldkaa
/-- What two numbers are held against one another by. -/
def k10 (x : Int) : Int := x.tdiv 10
/-- A number put into its place, behind those that are like it. -/
def ins (x : Int) : List Int → List Int
  | [] => [x]
  | y :: w => if k10 y ≤ k10 x then y :: ins x w else x :: y :: w
def srt (w l : List Int) : List Int := l.foldl (fun w x => ins x w) w
inductive InOrder : List Int → Prop
  | nil : InOrder []
  | cons {x : Int} {l : List Int} (h : ∀ y ∈ l, k10 x ≤ k10 y) (t : InOrder l) : InOrder (x :: l)
theorem mem_ins {x y : Int} : ∀ {w : List Int}, y ∈ ins x w ↔ y = x ∨ y ∈ w
  | [] => by simp [ins]
  | z :: w => by
    unfold ins
    split
    · simp only [List.mem_cons, mem_ins (w := w)]
      constructor
      · rintro (h | h | h) <;> simp [h]
      · rintro (h | h | h) <;> simp [h]
    · simp
theorem ins_order {x : Int} : ∀ {w : List Int}, InOrder w → InOrder (ins x w)
  | [], _ => .cons (fun _ h => by cases h) .nil
  | z :: w, .cons h t => by
    unfold ins
    split
    · rename_i hz
      refine .cons (fun y hy => ?_) (ins_order t)
      rcases mem_ins.1 hy with rfl | hy
      · exact hz
      · exact h y hy
    · rename_i hz
      refine .cons (fun y hy => ?_) (.cons h t)
      rcases List.mem_cons.1 hy with rfl | hy
      · omega
      · have := h y hy; omega
theorem srt_order : ∀ {l w : List Int}, InOrder w → InOrder (srt w l)
  | [], _, h => h
  | _ :: l, _, h => srt_order (l := l) (ins_order h)
theorem mem_srt {y : Int} : ∀ {l w : List Int}, y ∈ srt w l ↔ y ∈ w ∨ y ∈ l
  | [], w => by simp [srt]
  | x :: l, w => by
    have := mem_srt (y := y) (l := l) (w := ins x w)
    simp only [srt, List.foldl_cons] at this ⊢
    rw [this, mem_ins, List.mem_cons]
    constructor
    · rintro ((h | h) | h) <;> simp [h]
    · rintro (h | h | h) <;> simp [h]
theorem srt_append (w a b : List Int) : srt w (a ++ b) = srt (srt w a) b := by simp [srt]
/-- What is least, and first of its like, comes first. -/
theorem srt_least {x : Int} : ∀ {b w : List Int}, (∀ y ∈ b, k10 x ≤ k10 y) → srt (x :: w) b = x :: srt w b
  | [], _, _ => rfl
  | y :: b, w, h => by
    have e : ins y (x :: w) = x :: ins y w := by
      rw [ins, if_pos (h y List.mem_cons_self)]
    simp only [srt, List.foldl_cons, e]
    exact srt_least fun z hz => h z (List.mem_cons_of_mem _ hz)
theorem ins_first {x : Int} : ∀ {w : List Int}, (∀ y ∈ w, k10 x < k10 y) → ins x w = x :: w
  | [], _ => rfl
  | y :: w, h => by
    unfold ins
    rw [if_neg (by have := h y List.mem_cons_self; omega)]
theorem srt_pick {x : Int} {a b : List Int} (ha : ∀ y ∈ a, k10 x < k10 y) (hb : ∀ y ∈ b, k10 x ≤ k10 y) : srt [] (a ++ x :: b) = x :: srt [] (a ++ b) := by
  rw [srt_append, srt_append]
  show srt (ins x (srt [] a)) b = _
  rw [ins_first fun y hy => by
    rcases mem_srt.1 hy with h | h
    · cases h
    · exact ha y h]
  exact srt_least hb
/-- The first of those that are least among the heads, and what is left. -/
def pick : List (List Int) → Option (Int × List (List Int))
  | [] => none
  | l :: rs => match l, pick rs with
    | [], none => none
    | [], some (x, rs') => some (x, [] :: rs')
    | y :: l', none => some (y, l' :: rs)
    | y :: l', some (x, rs') => if k10 x < k10 y then some (x, (y :: l') :: rs') else some (y, l' :: rs)
theorem pick_none : ∀ {rs : List (List Int)}, pick rs = none → rs.flatten = []
  | [], _ => rfl
  | l :: rs, h => by
    unfold pick at h
    split at h
    · rename_i hp; simp [pick_none hp]
    · cases h
    · cases h
    · split at h <;> cases h
theorem pick_some : ∀ {rs : List (List Int)} {x : Int} {rs' : List (List Int)}, (∀ l ∈ rs, InOrder l) → pick rs = some (x, rs') →
    (∀ l ∈ rs', InOrder l) ∧ (∃ a b, rs.flatten = a ++ x :: b ∧ rs'.flatten = a ++ b ∧ (∀ y ∈ a, k10 x < k10 y) ∧ ∀ y ∈ b, k10 x ≤ k10 y)
  | [], _, _, _, h => by cases h
  | l :: rs, x, rs', ho, h => by
    have hl := ho l List.mem_cons_self
    have hr : ∀ l ∈ rs, InOrder l := fun m hm => ho m (List.mem_cons_of_mem _ hm)
    unfold pick at h
    split at h
    · cases h
    · rename_i x' rs'' hp
      cases h
      obtain ⟨h1, a, b, h2, h3, h4, h5⟩ := pick_some hr hp
      refine ⟨fun m hm => ?_, a, b, by simpa using h2, by simpa using h3, h4, h5⟩
      rcases List.mem_cons.1 hm with rfl | hm
      · exact .nil
      · exact h1 m hm
    · rename_i y l' hp
      cases h
      cases hl with
      | cons hy t =>
        refine ⟨fun m hm => ?_, [], l' ++ rs.flatten, by simp, by simp, (fun _ h => by cases h), fun z hz => ?_⟩
        · rcases List.mem_cons.1 hm with rfl | hm
          · exact t
          · exact hr m hm
        · rw [pick_none hp, List.append_nil] at hz
          exact hy z hz
    · rename_i y l' x' rs'' hp
      obtain ⟨h1, a, b, h2, h3, h4, h5⟩ := pick_some hr hp
      cases hl with
      | cons hy t =>
        split at h
        · rename_i hlt
          cases h
          refine ⟨fun m hm => ?_, y :: l' ++ a, b, by simp [h2], by simp [h3], fun z hz => ?_, h5⟩
          · rcases List.mem_cons.1 hm with rfl | hm
            · exact .cons hy t
            · exact h1 m hm
          · simp only [List.cons_append, List.mem_cons, List.mem_append] at hz
            rcases hz with rfl | hz | hz
            · exact hlt
            · have := hy z hz; omega
            · exact h4 z hz
        · rename_i hge
          cases h
          refine ⟨fun m hm => ?_, [], l' ++ rs.flatten, by simp, by simp, (fun _ h => by cases h), fun z hz => ?_⟩
          · rcases List.mem_cons.1 hm with rfl | hm
            · exact t
            · exact hr m hm
          · rcases List.mem_append.1 hz with hz | hz
            · exact hy z hz
            · rw [h2] at hz
              simp only [List.mem_append, List.mem_cons] at hz
              rcases hz with hz | rfl | hz
              · have := h4 z hz; omega
              · omega
              · have := h5 z hz; omega
/-- Picked, until nothing is left. -/
def merged : Nat → List (List Int) → List Int
  | 0, _ => []
  | n + 1, rs => match pick rs with
    | none => []
    | some (x, rs') => x :: merged n rs'
theorem merged_srt : ∀ (n : Nat) (rs : List (List Int)), (∀ l ∈ rs, InOrder l) → rs.flatten.length ≤ n → merged n rs = srt [] rs.flatten
  | 0, rs, _, h => by
    have : rs.flatten = [] := List.eq_nil_of_length_eq_zero (by omega)
    rw [this]; rfl
  | n + 1, rs, ho, h => by
    unfold merged
    cases hp : pick rs with
    | none => rw [pick_none hp]; rfl
    | some r =>
      obtain ⟨x, rs'⟩ := r
      obtain ⟨h1, a, b, h2, h3, h4, h5⟩ := pick_some ho hp
      rw [h2, srt_pick h4 h5, ← h3]
      simp only
      rw [merged_srt n rs' h1 (by rw [h2] at h; rw [h3]; simp at h ⊢; omega)]
theorem pick_head : ∀ {rs : List (List Int)} {x : Int} {rs' : List (List Int)}, pick rs = some (x, rs') → ∃ (j : Nat) (t : List Int), rs[j]? = some (x :: t)
  | [], _, _, h => by cases h
  | l :: rs, x, rs', h => by
    unfold pick at h
    split at h
    · cases h
    · rename_i x' rs'' hp
      cases h
      obtain ⟨j, t, hj⟩ := pick_head hp
      exact ⟨j + 1, t, by simpa using hj⟩
    · rename_i y l' hp
      cases h
      exact ⟨0, l', rfl⟩
    · rename_i y l' x' rs'' hp
      split at h
      · cases h
        obtain ⟨j, t, hj⟩ := pick_head hp
        exact ⟨j + 1, t, by simpa using hj⟩
      · cases h
        exact ⟨0, l', rfl⟩
theorem pick_nil : ∀ {rs : List (List Int)}, (∀ (j : Nat) l, rs[j]? = some l → l = []) → pick rs = none
  | [], _ => rfl
  | l :: rs, h => by
    have h0 : l = [] := h 0 l rfl
    subst h0
    unfold pick
    rw [pick_nil fun j l hj => h (j + 1) l (by simpa using hj)]
/-- Which one is picked: the first of those that are least among the heads. -/
theorem pick_best : ∀ {rs : List (List Int)} {m : Nat} {y : Int} {t : List Int}, rs[m]? = some (y :: t) → (∀ (j : Nat) (z : Int) (t' : List Int), j < m → rs[j]? = some (z :: t') → k10 y < k10 z) → (∀ (j : Nat) (z : Int) (t' : List Int), m < j → rs[j]? = some (z :: t') → k10 y ≤ k10 z) → pick rs = some (y, rs.set m t)
  | [], m, _, _, h, _, _ => by simp at h
  | l :: rs, 0, y, t, h, _, h2 => by
    simp at h
    subst h
    unfold pick
    cases hp : pick rs with
    | none => rfl
    | some r =>
      obtain ⟨x, rs'⟩ := r
      obtain ⟨j, t', hj⟩ := pick_head hp
      have := h2 (j + 1) x t' (by omega) (by simpa using hj)
      simp only
      rw [if_neg (by omega)]
      rfl
  | l :: rs, m + 1, y, t, h, h1, h2 => by
    have ih := pick_best (rs := rs) (m := m) (by simpa using h) (fun j z t' hj hz => h1 (j + 1) z t' (by omega) (by simpa using hz)) (fun j z t' hj hz => h2 (j + 1) z t' (by omega) (by simpa using hz))
    unfold pick
    rw [ih]
    cases l with
    | nil => rfl
    | cons z l' =>
      have := h1 0 z l' (by omega) rfl
      simp only
      rw [if_pos this]
      rfl
/-- What a loop over the lists knows of the best one so far. -/
def Best (rs : List (List Int)) (i : Nat) : Option Nat → Prop
  | none => ∀ (j : Nat) l, j < i → rs[j]? = some l → l = []
  | some m => m < i ∧ ∃ y t, rs[m]? = some (y :: t) ∧ (∀ (j : Nat) (z : Int) (t' : List Int), j < m → rs[j]? = some (z :: t') → k10 y < k10 z) ∧ ∀ (j : Nat) (z : Int) (t' : List Int), m < j → j < i → rs[j]? = some (z :: t') → k10 y ≤ k10 z
theorem best_zero (rs : List (List Int)) : Best rs 0 none := fun j _ h => absurd h (Nat.not_lt_zero j)
/-- An empty list turns nothing. -/
theorem best_empty {rs : List (List Int)} {i : Nat} {b : Option Nat} (h : Best rs i b) (hi : rs[i]? = some []) : Best rs (i + 1) b := by
  cases b with
  | none =>
    intro j l hj hl
    by_cases e : j = i
    · subst e; rw [hi] at hl; cases hl; rfl
    · exact h j l (by omega) hl
  | some m =>
    obtain ⟨h0, y, t, h1, h2, h3⟩ := h
    refine ⟨by omega, y, t, h1, h2, fun j z t' hm hj hz => ?_⟩
    by_cases e : j = i
    · subst e; rw [hi] at hz; cases hz
    · exact h3 j z t' hm (by omega) hz
/-- The first one that is not empty. -/
theorem best_first {rs : List (List Int)} {i : Nat} {y : Int} {t : List Int} (h : Best rs i none) (hi : rs[i]? = some (y :: t)) : Best rs (i + 1) (some i) :=
  ⟨by omega, y, t, hi, (fun j z t' hj hz => by cases h j _ hj hz), fun j z t' hm hj _ => by omega⟩
/-- One that is less. -/
theorem best_less {rs : List (List Int)} {i m : Nat} {x y : Int} {t t' : List Int} (h : Best rs i (some m)) (hm : rs[m]? = some (x :: t')) (hi : rs[i]? = some (y :: t)) (hlt : k10 y < k10 x) : Best rs (i + 1) (some i) := by
  obtain ⟨h0, x', t'', h1, h2, h3⟩ := h
  rw [hm] at h1; cases h1
  refine ⟨by omega, y, t, hi, fun j z u hj hz => ?_, fun j z u hj hj' _ => by omega⟩
  rcases Nat.lt_trichotomy j m with e | e | e
  · have := h2 j z u e hz; omega
  · subst e; rw [hm] at hz; cases hz; exact hlt
  · have := h3 j z u e hj hz; omega
/-- One that is not less. -/
theorem best_not {rs : List (List Int)} {i m : Nat} {x y : Int} {t t' : List Int} (h : Best rs i (some m)) (hm : rs[m]? = some (x :: t')) (hi : rs[i]? = some (y :: t)) (hge : ¬ k10 y < k10 x) : Best rs (i + 1) (some m) := by
  obtain ⟨h0, x', t'', h1, h2, h3⟩ := h
  rw [hm] at h1; cases h1
  refine ⟨by omega, x, t', hm, h2, fun j z u hj hj' hz => ?_⟩
  by_cases e : j = i
  · subst e; rw [hi] at hz; cases hz; omega
  · exact h3 j z u hj (by omega) hz
/-- At the end it is the one that is picked. -/
theorem best_pick {rs : List (List Int)} {b : Option Nat} (h : Best rs rs.length b) : (b = none ∧ pick rs = none) ∨ ∃ m y t, b = some m ∧ rs[m]? = some (y :: t) ∧ pick rs = some (y, rs.set m t) := by
  cases b with
  | none => exact .inl ⟨rfl, pick_nil fun j l hj => h j l (by
      rw [List.getElem?_eq_some_iff] at hj; exact hj.1) hj⟩
  | some m =>
    obtain ⟨_, y, t, h1, h2, h3⟩ := h
    exact .inr ⟨m, y, t, rfl, h1, pick_best h1 h2 fun j z t' hm hz => h3 j z t' hm (by
      rw [List.getElem?_eq_some_iff] at hz; exact hz.1) hz⟩
end Go.Proofs.Ytipomlcnmaldkaa
/-
  seq.Merge: its making; what holds two numbers against one another; a slice that is made of zeros. No condition.
-/
namespace Go.Proofs.Ytipomlcnmaldkaa
open Go.Abs
variable {n₀ : Nat}
set_option maxRecDepth 8000
theorem aop_make {P : Program} {A : World} {ρ : Operand → Value} {o : Oper} {t e : TypeId} {x y : Operand} {n : Nat} {z : Value} {ie : TypeInfo} (h : o.op = .makeSlice t x y) (hx : ρ x = .int .i64 n) (hy : ρ y = .int .i64 n) (hu : P.underlying t = some (.slice e)) (h1 : one P e = true) (hi : P.info? e = some ie) (hz : ie.zero = some z) (hz1 : isOne z = true)
    (hb : ie.bytes * n ≤ 2 ^ 48) (hn : n < 9223372036854775808) : AOp P ρ o A (.value (.slice (some ⟨A.heap.size, 0, none⟩) n n)) (A.alloc (.cells (Array.replicate n z) e (0, 0))) := by
  refine .inr (.inl ⟨by rw [h]; trivial, ?_⟩)
  unfold execOp; rw [h]
  have hs : ∀ w, (sizeOf e).run P w = .ok 1 w := run_sizeOne h1
  have hun : (underlying t).run P A = .ok (.slice e) A := by simp [underlying, program, Sem.run, Bind.bind, Sem.bind, Pure.pure, hu]
  have hti : (typeInfo e).run P A = .ok ie A := by simp [typeInfo, program, Sem.run, Bind.bind, Sem.bind, Pure.pure, hi]
  have hzr : (zeroValue e).run P A = .ok z A := by simp [zeroValue, typeInfo, program, Sem.run, Bind.bind, Sem.bind, Pure.pure, hi, hz]
  have hw : IntKind.i64.wrap (n : Int) = n := wrap_id (by omega) (by omega)
  have hr : (askRoom (n * ie.bytes)).run P A = .ok () A := by
    unfold askRoom
    split
    · rfl
    · rfl
  have hc : (decide ((n : Int) < 0) || decide ((ie.bytes : Int) * n > 2 ^ 48) || decide ((n : Int) < 0) || decide ((n : Int) > n)) = false := by
    have h48 : ((ie.bytes * n : Nat) : Int) ≤ 281474976710656 := Int.ofNat_le.2 hb
    rw [Int.natCast_mul] at h48
    have h49 : ¬ ((ie.bytes : Int) * n > 281474976710656) := by omega
    have h50 : ¬ ((n : Int) < 0) := by omega
    have h51 : ¬ ((n : Int) > n) := by omega
    rw [decide_eq_false h50, decide_eq_false h51, show decide ((ie.bytes : Int) * n > 2 ^ 48) = false from decide_eq_false h49]
    rfl
  simp only [Instr.makeSlice, hx, hy, asInt, asIntOf, Sem.run_bind, Sem.run_pure, Result.andThen, hun, hti, hw]
  rw [hc]
  simp only [Bool.false_eq_true, if_false, Sem.run_bind, Int.toNat_natCast, hr, Result.andThen, hs, Nat.mul_one]
  by_cases h0 : n = 0
  · subst h0
    simp only [if_true, Sem.run_bind, Sem.run_pure, Result.andThen, newRow]
    rw [show Array.range 0 = #[] from rfl, Array.map_empty, Array.replicate_zero]
    rfl
  · rw [if_neg h0]
    simp only [Sem.run_bind, Sem.run_pure, Result.andThen, hzr, newRow]
    have e1 : (Array.range n).map (fun i => z.cells[i % z.cells.size]!) = Array.replicate n z := by
      rw [isOne_cells hz1]
      apply Array.ext
      · simp
      · intro i h1 h2
        simp [Nat.mod_one]
    rw [e1]
    rfl
theorem less_call {A : World} {u x : Int} (hu : 0 ≤ u ∧ u < 1000) (hx : 0 ≤ x ∧ x < 1000) : CallV Try.prog n₀ (fnV 17) #[.int .i64 u, .int .i64 x] A (.bool (decide (k10 u < k10 x))) A := by
  have e : ∀ z : Int, 0 ≤ z ∧ z < 1000 → IntKind.i64.wrap (z.tdiv 10) = k10 z := fun z hz => by
    have : z.tdiv 10 = z / 10 := Int.tdiv_eq_ediv_of_nonneg hz.1
    unfold k10
    exact wrap_id (by omega) (by omega)
  have : wpF Try.prog n₀ 17 #[.int .i64 u, .int .i64 x] (fun r A' => r = .bool (decide (k10 u < k10 x)) ∧ A' = A) A := by
    refine wpF_fn (ts := #[.int .i64 u, .int .i64 x, undef, undef, undef, undef, undef, undef, undef, undef]) good ⟨rfl, rfl, rfl⟩ (by kernel_rfl) ?_
    refine cw_seq good (cw_region good ?_)
    refine wpO_as (.bool false) rfl ?_
    refine cw_seq good (cw_region good ?_)
    refine wpO_mv (.int .i64 u) rfl ?_
    refine wpO_val (aop_int (k := .i64) (m := u) (n := 10) (v := .int .i64 (k10 u)) rfl rfl rfl (by simp only [intV]; rw [e u hu]; rfl)) ?_
    simp only [Act.put, List.setIfInBounds_toArray, List.set_cons_succ, List.set_cons_zero]
    refine wpO_mv (.int .i64 x) rfl ?_
    refine wpO_val (aop_int (k := .i64) (m := x) (n := 10) (v := .int .i64 (k10 x)) rfl rfl rfl (by simp only [intV]; rw [e x hx]; rfl)) ?_
    simp only [Act.put, List.setIfInBounds_toArray, List.set_cons_succ, List.set_cons_zero]
    refine wpO_val (aop_int (k := .i64) (m := k10 u) (n := k10 x) (v := .bool (decide (k10 u < k10 x))) rfl rfl rfl rfl) ?_
    refine wpO_as (.bool (decide (k10 u < k10 x))) rfl ?_
    exact cw_ret good (ret_one (.bool (decide (k10 u < k10 x))) rfl ⟨rfl, rfl⟩)
  obtain ⟨v, A1, h1, rfl, rfl⟩ := this
  exact ⟨17, _, _, #[], #[], ⟨rfl, rfl, rfl⟩, rfl, h1⟩
def mergeV (bl bf : Nat) : Value := .func (.func 41) #[] #[ptr bl, ptr bf]
theorem merge_call {A : World} {f s : Value} (hf : isOne f = true) (hs : isOne s = true) : SndCall Try.prog n₀ 16 #[f, s] A (mergeV (A.heap.size + 1) A.heap.size) ((A.alloc (.cells #[f] 36 (0, 0))).alloc (.cells #[s] 34 (0, 0))) := by
  have : wpF Try.prog n₀ 16 #[f, s] (fun r A' => r = mergeV (A.heap.size + 1) A.heap.size ∧ A' = (A.alloc (.cells #[f] 36 (0, 0))).alloc (.cells #[s] 34 (0, 0))) A := by
    refine wpF_fn (ts := #[f, s, undef, undef, undef, undef]) good ⟨rfl, rfl, rfl⟩ rfl ?_
    refine cw_seq good (cw_region good ?_)
    refine wpO_val (aop_box (v := f) rfl rfl hf) ?_
    refine wpO_val (aop_box (v := s) rfl rfl hs) ?_
    refine wpO_as .nilFunc rfl ?_
    refine cw_seq good (cw_region good ?_)
    rw [alloc_sz]
    refine wpO_val (aop_func (l := []) (l' := [ptr (A.heap.size + 1), ptr A.heap.size]) rfl rfl rfl) ?_
    refine wpO_as (mergeV (A.heap.size + 1) A.heap.size) rfl ?_
    exact cw_ret good (ret_one (mergeV (A.heap.size + 1) A.heap.size) rfl ⟨rfl, rfl⟩)
  obtain ⟨v, A1, h1, rfl, rfl⟩ := this
  exact h1
end Go.Proofs.Ytipomlcnmaldkaa
/-
  seq.Merge's inner loop: which of the lists is the first of those whose heads are least. No condition.
-/
namespace Go.Proofs.Ytipomlcnmaldkaa
open Go.Abs
variable {n₀ : Nat}
set_option maxRecDepth 8000
noncomputable def c41 : Code := match Try.prog.funcs[41]? with
  | some fn => (match fn.body with | some c => c | none => .skip)
  | none => .skip
/-- The loop over the lists. -/
noncomputable def c41a : Code := inl (inl (rgt (lft (rgt (inl (inl (inl (rgt c41))))))))
def bestV : Option Nat → Value
  | none => .int .i64 (-1)
  | some m => .int .i64 m

set_option maxHeartbeats 8000000 in
theorem merge_inner {A : World} {q : Option Addr} {c0 d0 bl bf : Nat} {y : Value} {ls : List (List Int)} {vs : List Value} {pos : List Nat} {Q : Exit → Act → World → Prop} (hL : ls.length < 1000) (hpos : pos.length = ls.length) (hvs : vs.length = ls.length)
    (hle : ∀ (i : Nat) (l : List Int) (n : Nat), ls[i]? = some l → pos[i]? = some n → n ≤ l.length ∧ l.length < 1000 ∧ ∀ x ∈ l, 0 ≤ x ∧ x < 1000)
    (gat : ∀ (i n : Nat), pos[i]? = some n → A.cell? ((⟨d0, 0, none⟩ : Addr).add (i * 1)) = some (.int .i64 n)) (gq : RdV A q vs) (gl : ∀ (i : Nat) (v : Value) (l : List Int), vs[i]? = some v → ls[i]? = some l → ∃ p c, v = .slice p l.length c ∧ Rd A p l)
    (gbl : A.cell? ⟨bl, 0, none⟩ = some (.slice q ls.length c0)) (gbf : A.cell? ⟨bf, 0, none⟩ = some (fnV 17)) {j3 j6 j7 j8 j9 j10 j14 j15 j16 j17 j18 j19 j20 j21 j22 j23 j24 j25 j26 j27 j28 j29 j30 j31 j32 j33 j34 j35 j36 j37 j38 j39 j40 j41 j42 j43 j44 j45 j46 j47 j48 j49 j50 j51 j52 j53 j54 j55 j56 j57 j58 j59 j60 j61 j62 j63 j64 j65 j66 j67 j68 j69 j70 j71 j72 j73 j74 : Value}
    (hQ : ∀ (b : Option Nat) (z6 z7 z14 z15 z16 z17 z18 z19 z20 z21 z22 z23 z24 z25 z26 z27 z28 z29 z30 z31 z32 z33 z34 z35 z36 z37 z38 z39 z40 z41 z42 z43 z44 z45 z46 z47 z48 z49 z50 z51 : Value), Best (List.zipWith (fun (l : List Int) n => l.drop n) ls pos) ls.length b → Q (.exit 2) ⟨#[y, ptr bl, ptr bf, j3, .slice (some ⟨d0, 0, none⟩) ls.length ls.length, bestV b, z6, z7, j8, j9, j10, .slice q ls.length c0, .int .i64 ls.length, .int .i64 ls.length, z14, z15, z16, z17, z18, z19, z20, z21, z22, z23, z24, z25, z26, z27, z28, z29, z30, z31, z32, z33, z34, z35, z36, z37, z38, z39, z40, z41, z42, z43, z44, z45, z46, z47, z48, z49, z50, z51, j52, j53, j54, j55, j56, j57, j58, j59, j60, j61, j62, j63, j64, j65, j66, j67, j68, j69, j70, j71, j72, j73, j74], []⟩ A) :
    wpL Try.prog n₀ none c41a Q ⟨#[y, ptr bl, ptr bf, j3, .slice (some ⟨d0, 0, none⟩) ls.length ls.length, .int .i64 (-1), j6, j7, j8, j9, j10, .slice q ls.length c0, .int .i64 ls.length, .int .i64 (0 : Nat), j14, j15, j16, j17, j18, j19, j20, j21, j22, j23, j24, j25, j26, j27, j28, j29, j30, j31, j32, j33, j34, j35, j36, j37, j38, j39, j40, j41, j42, j43, j44, j45, j46, j47, j48, j49, j50, j51, j52, j53, j54, j55, j56, j57, j58, j59, j60, j61, j62, j63, j64, j65, j66, j67, j68, j69, j70, j71, j72, j73, j74], []⟩ A := by
  refine wpL_ind (fun nn a A' => A' = A ∧ ∃ (i : Nat) (b : Option Nat) (z6 z7 z14 z15 z16 z17 z18 z19 z20 z21 z22 z23 z24 z25 z26 z27 z28 z29 z30 z31 z32 z33 z34 z35 z36 z37 z38 z39 z40 z41 z42 z43 z44 z45 z46 z47 z48 z49 z50 z51 : Value), nn = ls.length - i ∧ i ≤ ls.length ∧ Best (List.zipWith (fun (l : List Int) n => l.drop n) ls pos) i b ∧ a = ⟨#[y, ptr bl, ptr bf, j3, .slice (some ⟨d0, 0, none⟩) ls.length ls.length, bestV b, z6, z7, j8, j9, j10, .slice q ls.length c0, .int .i64 ls.length, .int .i64 i, z14, z15, z16, z17, z18, z19, z20, z21, z22, z23, z24, z25, z26, z27, z28, z29, z30, z31, z32, z33, z34, z35, z36, z37, z38, z39, z40, z41, z42, z43, z44, z45, z46, z47, z48, z49, z50, z51, j52, j53, j54, j55, j56, j57, j58, j59, j60, j61, j62, j63, j64, j65, j66, j67, j68, j69, j70, j71, j72, j73, j74], []⟩) ?_ ls.length _ _
    ⟨rfl, 0, none, j6, j7, j14, j15, j16, j17, j18, j19, j20, j21, j22, j23, j24, j25, j26, j27, j28, j29, j30, j31, j32, j33, j34, j35, j36, j37, j38, j39, j40, j41, j42, j43, j44, j45, j46, j47, j48, j49, j50, j51, rfl, by omega, best_zero _, rfl⟩
  rintro nn _ _ ⟨rfl, i, b, z6, z7, z14, z15, z16, z17, z18, z19, z20, z21, z22, z23, z24, z25, z26, z27, z28, z29, z30, z31, z32, z33, z34, z35, z36, z37, z38, z39, z40, z41, z42, z43, z44, z45, z46, z47, z48, z49, z50, z51, rfl, hi, hb, rfl⟩
  refine cw_seq good (cw_region good ?_)
  refine wpO_val (aop_int rfl (k := .i64) (m := i) (n := ls.length) rfl rfl rfl) ?_
  simp only [Act.put, List.setIfInBounds_toArray, List.set_cons_succ, List.set_cons_zero]
  by_cases hlt : i < ls.length
  case neg =>
    refine cw_seq good (cw_cond good false (congrArg Value.bool (by simpa using hlt)) (cw_exit good ?_))
    have e : i = ls.length := by omega
    subst e
    exact hQ _ _ _ _ _ _ _ _ _ _ _ _ _ _ _ _ _ _ _ _ _ _ _ _ _ _ _ _ _ _ _ _ _ _ _ _ _ _ _ _ _ hb
  refine cw_seq good (cw_cond good true (congrArg Value.bool (by simpa using hlt)) (cw_skip good ?_))
  obtain ⟨l, hl⟩ : ∃ l, ls[i]? = some l := ⟨_, List.getElem?_eq_getElem hlt⟩
  obtain ⟨v, hv⟩ : ∃ v, vs[i]? = some v := ⟨_, List.getElem?_eq_getElem (by omega)⟩
  obtain ⟨n, hn⟩ : ∃ n, pos[i]? = some n := ⟨_, List.getElem?_eq_getElem (by omega)⟩
  obtain ⟨hnl, hl30, hrange⟩ := hle i l n hl hn
  obtain ⟨pl, cl, rfl, hrl⟩ := gl i v l hv hl
  obtain ⟨aq, rfl, hcq⟩ := gq i _ hv
  have hrs : (List.zipWith (fun (l : List Int) n => l.drop n) ls pos)[i]? = some (l.drop n) := by simp [List.getElem?_zipWith, hl, hn]
  refine cw_seq good (cw_block good ?_)
  refine cw_seq good (cw_region good ?_)
  refine wpO_mv (.int .i64 i) rfl ?_
  refine wpO_val (aop_index (k := .i64) (cap := c0) rfl rfl rfl rfl rfl hlt) ?_
  simp only [Act.put, List.setIfInBounds_toArray, List.set_cons_succ, List.set_cons_zero]
  refine wpO_val (aop_load (v := .slice pl l.length cl) rfl rfl rfl hcq) ?_
  refine wpO_as (.int .i64 i) rfl ?_
  refine wpO_as (.slice pl l.length cl) rfl ?_
  simp only [Act.put, List.setIfInBounds_toArray, List.set_cons_succ, List.set_cons_zero]
  by_cases hend : n < l.length
  case neg =>
    have hd : l.drop n = [] := List.drop_eq_nil_of_le (by omega)
    rw [hd] at hrs
    refine cw_seq good (ca_draw good [.slice (some ⟨d0, 0, none⟩) ls.length ls.length, .int .i64 i, .pointer (some ((⟨d0, 0, none⟩ : Addr).add (i * 1))), .int .i64 n, .slice pl l.length cl, .int .i64 l.length, .bool false, .bool false, undef, undef, undef, undef, undef, undef, undef, undef, undef, undef, undef, undef, undef, undef, undef, undef, undef, undef, undef, undef, undef, undef, undef, .bool false] [] (by kernel_rfl) rfl ?_ ⟨#[y, ptr bl, ptr bf, j3, .slice (some ⟨d0, 0, none⟩) ls.length ls.length, bestV b, .int .i64 i, .slice pl l.length cl, j8, j9, j10, .slice (some aq) ls.length c0, .int .i64 ls.length, .int .i64 i, .bool (decide ((i : Int) < ls.length)), .int .i64 i, .pointer (some (aq.add (i * 1))), .slice pl l.length cl, .slice (some ⟨d0, 0, none⟩) ls.length ls.length, .int .i64 i, .pointer (some ((⟨d0, 0, none⟩ : Addr).add (i * 1))), .int .i64 n, .slice pl l.length cl, .int .i64 l.length, .bool false, .bool false, undef, undef, undef, undef, undef, undef, undef, undef, undef, undef, undef, undef, undef, undef, undef, undef, undef, undef, undef, undef, undef, undef, undef, .bool false, z50, z51, j52, j53, j54, j55, j56, j57, j58, j59, j60, j61, j62, j63, j64, j65, j66, j67, j68, j69, j70, j71, j72, j73, j74], []⟩ _ (by kernel_rfl) rfl ?_)
    · intro jj o ho
      match jj, ho with
      | 0, ho => cases ho; exact sa_quiet rfl [29] (all1 (aop_mv rfl (by kernel_rfl))) rfl
      | 1, ho => cases ho; exact sa_quiet rfl [29] (all1 (aop_mv rfl (by kernel_rfl))) rfl
      | 2, ho => cases ho; exact sa_quiet rfl [29] (all1 (aop_index (k := .i64) (cap := ls.length) (p := ⟨d0, 0, none⟩) rfl (by kernel_rfl) (by kernel_rfl) rfl rfl hlt)) rfl
      | 3, ho => cases ho; exact sa_quiet rfl [29] (all1 (aop_load rfl (by kernel_rfl) rfl (gat i n hn))) rfl
      | 4, ho => cases ho; exact sa_quiet rfl [29] (all1 (aop_mv rfl (by kernel_rfl))) rfl
      | 5, ho => cases ho; exact sa_quiet rfl [29] (all1 (aop_lenV (b := pl) (len := l.length) (cap := cl) rfl rfl rfl rfl (by kernel_rfl) rfl)) rfl
      | 6, ho => cases ho; exact sa_quiet rfl [29] (all1 (aop_int (k := .i64) (m := n) (n := l.length) rfl (by kernel_rfl) (by kernel_rfl) (by simp [intV]; omega))) rfl
      | 7, ho => cases ho; exact sa_quiet rfl [29] (all1 (aop_mv rfl (by kernel_rfl))) rfl
      | 8, ho => cases ho; exact sa_not rfl rfl rfl
      | 9, ho => cases ho; exact sa_not rfl rfl rfl
      | 10, ho => cases ho; exact sa_not rfl rfl rfl
      | 11, ho => cases ho; exact sa_not rfl rfl rfl
      | 12, ho => cases ho; exact sa_not rfl rfl rfl
      | 13, ho => cases ho; exact sa_not rfl rfl rfl
      | 14, ho => cases ho; exact sa_not rfl rfl rfl
      | 15, ho => cases ho; exact sa_not rfl rfl rfl
      | 16, ho => cases ho; exact sa_not rfl rfl rfl
      | 17, ho => cases ho; exact sa_not rfl rfl rfl
      | 18, ho => cases ho; exact sa_not rfl rfl rfl
      | 19, ho => cases ho; exact sa_not rfl rfl rfl
      | 20, ho => cases ho; exact sa_not rfl rfl rfl
      | 21, ho => cases ho; exact sa_not rfl rfl rfl
      | 22, ho => cases ho; exact sa_not rfl rfl rfl
      | 23, ho => cases ho; exact sa_not rfl rfl rfl
      | 24, ho => cases ho; exact sa_not rfl rfl rfl
      | 25, ho => cases ho; exact sa_not rfl rfl rfl
      | 26, ho => cases ho; exact sa_not rfl rfl rfl
      | 27, ho => cases ho; exact sa_not rfl rfl rfl
      | 28, ho => cases ho; exact sa_not rfl rfl rfl
      | 29, ho => cases ho; exact sa_not rfl rfl rfl
      | 30, ho => cases ho; exact sa_not rfl rfl rfl
      | 31, ho => cases ho; exact sa_quiet rfl [32] (all1 (aop_picks (b := false) rfl (by kernel_rfl) (by kernel_rfl))) rfl
      | n + 32, ho => simp at ho
    refine cw_cond good false rfl (cw_skip good ?_)
    refine cw_region good ?_
    refine wpO_val (aop_int (k := .i64) (m := i) (n := 1) (v := .int .i64 (i + 1 : Nat)) rfl rfl rfl (intV_add (by omega) (by omega) (by omega))) ?_
    refine wpO_mv (.int .i64 (i + 1 : Nat)) rfl ?_
    simp only [Act.put, List.setIfInBounds_toArray, List.set_cons_succ, List.set_cons_zero]
    exact ⟨ls.length - (i + 1), by omega, rfl, i + 1, b, _, _, _, _, _, _, _, _, _, _, _, _, _, _, _, _, _, _, _, _, _, _, _, _, _, _, _, _, _, _, _, _, _, _, _, _, _, _, _, _, rfl, by omega, best_empty hb hrs, rfl⟩
  obtain ⟨x, hx⟩ : ∃ x, l[n]? = some x := ⟨_, List.getElem?_eq_getElem hend⟩
  have hd : l.drop n = x :: l.drop (n + 1) := by
    rw [List.drop_eq_getElem_cons hend]
    rw [List.getElem?_eq_getElem hend] at hx; cases hx; rfl
  rw [hd] at hrs
  cases b with
  | none =>
    refine cw_seq good (ca_draw good [.slice (some ⟨d0, 0, none⟩) ls.length ls.length, .int .i64 i, .pointer (some ((⟨d0, 0, none⟩ : Addr).add (i * 1))), .int .i64 n, .slice pl l.length cl, .int .i64 l.length, .bool true, .bool true, .int .i64 (-1), .bool true, .bool true, undef, undef, undef, undef, undef, undef, undef, undef, undef, undef, undef, undef, undef, undef, undef, undef, undef, undef, undef, .bool true, .bool true] [] (by kernel_rfl) rfl ?_ ⟨#[y, ptr bl, ptr bf, j3, .slice (some ⟨d0, 0, none⟩) ls.length ls.length, .int .i64 (-1), .int .i64 i, .slice pl l.length cl, j8, j9, j10, .slice (some aq) ls.length c0, .int .i64 ls.length, .int .i64 i, .bool (decide ((i : Int) < ls.length)), .int .i64 i, .pointer (some (aq.add (i * 1))), .slice pl l.length cl, .slice (some ⟨d0, 0, none⟩) ls.length ls.length, .int .i64 i, .pointer (some ((⟨d0, 0, none⟩ : Addr).add (i * 1))), .int .i64 n, .slice pl l.length cl, .int .i64 l.length, .bool true, .bool true, .int .i64 (-1), .bool true, .bool true, undef, undef, undef, undef, undef, undef, undef, undef, undef, undef, undef, undef, undef, undef, undef, undef, undef, undef, undef, .bool true, .bool true, z50, z51, j52, j53, j54, j55, j56, j57, j58, j59, j60, j61, j62, j63, j64, j65, j66, j67, j68, j69, j70, j71, j72, j73, j74], []⟩ _ (by kernel_rfl) rfl ?_)
    · intro jj o ho
      match jj, ho with
      | 0, ho => cases ho; exact sa_quiet rfl [29] (all1 (aop_mv rfl (by kernel_rfl))) rfl
      | 1, ho => cases ho; exact sa_quiet rfl [29] (all1 (aop_mv rfl (by kernel_rfl))) rfl
      | 2, ho => cases ho; exact sa_quiet rfl [29] (all1 (aop_index (k := .i64) (cap := ls.length) (p := ⟨d0, 0, none⟩) rfl (by kernel_rfl) (by kernel_rfl) rfl rfl hlt)) rfl
      | 3, ho => cases ho; exact sa_quiet rfl [29] (all1 (aop_load rfl (by kernel_rfl) rfl (gat i n hn))) rfl
      | 4, ho => cases ho; exact sa_quiet rfl [29] (all1 (aop_mv rfl (by kernel_rfl))) rfl
      | 5, ho => cases ho; exact sa_quiet rfl [29] (all1 (aop_lenV (b := pl) (len := l.length) (cap := cl) rfl rfl rfl rfl (by kernel_rfl) rfl)) rfl
      | 6, ho => cases ho; exact sa_quiet rfl [29] (all1 (aop_int (k := .i64) (m := n) (n := l.length) rfl (by kernel_rfl) (by kernel_rfl) (by simp [intV]; omega))) rfl
      | 7, ho => cases ho; exact sa_quiet rfl [29] (all1 (aop_mv rfl (by kernel_rfl))) rfl
      | 8, ho => cases ho; exact sa_quiet rfl [29] (all1 (aop_mv rfl (by kernel_rfl))) rfl
      | 9, ho => cases ho; exact sa_quiet rfl [29] (all1 (aop_int (k := .i64) (m := -1) (n := 0) (v := .bool true) rfl (by kernel_rfl) (by kernel_rfl) rfl)) rfl
      | 10, ho => cases ho; exact sa_quiet rfl [29] (all1 (aop_mv rfl (by kernel_rfl))) rfl
      | 11, ho => cases ho; exact sa_not rfl rfl rfl
      | 12, ho => cases ho; exact sa_not rfl rfl rfl
      | 13, ho => cases ho; exact sa_not rfl rfl rfl
      | 14, ho => cases ho; exact sa_not rfl rfl rfl
      | 15, ho => cases ho; exact sa_not rfl rfl rfl
      | 16, ho => cases ho; exact sa_not rfl rfl rfl
      | 17, ho => cases ho; exact sa_not rfl rfl rfl
      | 18, ho => cases ho; exact sa_not rfl rfl rfl
      | 19, ho => cases ho; exact sa_not rfl rfl rfl
      | 20, ho => cases ho; exact sa_not rfl rfl rfl
      | 21, ho => cases ho; exact sa_not rfl rfl rfl
      | 22, ho => cases ho; exact sa_not rfl rfl rfl
      | 23, ho => cases ho; exact sa_not rfl rfl rfl
      | 24, ho => cases ho; exact sa_not rfl rfl rfl
      | 25, ho => cases ho; exact sa_not rfl rfl rfl
      | 26, ho => cases ho; exact sa_not rfl rfl rfl
      | 27, ho => cases ho; exact sa_not rfl rfl rfl
      | 28, ho => cases ho; exact sa_not rfl rfl rfl
      | 29, ho => cases ho; exact sa_not rfl rfl rfl
      | 30, ho => cases ho; exact sa_quiet rfl [32] (all1 (aop_picks (b := true) rfl (by kernel_rfl) (by kernel_rfl))) rfl
      | 31, ho => cases ho; exact sa_quiet rfl [32] (all1 (aop_picks (b := true) rfl (by kernel_rfl) (by kernel_rfl))) rfl
      | n + 32, ho => simp at ho
    refine cw_cond good true rfl ?_
    refine cw_region good ?_
    refine wpO_mv (.int .i64 i) rfl ?_
    refine wpO_as (.int .i64 i) rfl ?_
    simp only [Act.put, List.setIfInBounds_toArray, List.set_cons_succ, List.set_cons_zero]
    refine cw_region good ?_
    refine wpO_val (aop_int (k := .i64) (m := i) (n := 1) (v := .int .i64 (i + 1 : Nat)) rfl rfl rfl (intV_add (by omega) (by omega) (by omega))) ?_
    refine wpO_mv (.int .i64 (i + 1 : Nat)) rfl ?_
    simp only [Act.put, List.setIfInBounds_toArray, List.set_cons_succ, List.set_cons_zero]
    exact ⟨ls.length - (i + 1), by omega, rfl, i + 1, (some i), _, _, _, _, _, _, _, _, _, _, _, _, _, _, _, _, _, _, _, _, _, _, _, _, _, _, _, _, _, _, _, _, _, _, _, _, _, _, _, _, rfl, by omega, best_first hb hrs, rfl⟩
  | some m =>
    obtain ⟨hmi, x', t', hm, _, _⟩ := id hb
    obtain ⟨lm, hlm⟩ : ∃ lm, ls[m]? = some lm := ⟨_, List.getElem?_eq_getElem (by omega)⟩
    obtain ⟨vm, hvm⟩ : ∃ vm, vs[m]? = some vm := ⟨_, List.getElem?_eq_getElem (by omega)⟩
    obtain ⟨nm, hnm⟩ : ∃ nm, pos[m]? = some nm := ⟨_, List.getElem?_eq_getElem (by omega)⟩
    have hrm : (List.zipWith (fun (l : List Int) n => l.drop n) ls pos)[m]? = some (lm.drop nm) := by simp [List.getElem?_zipWith, hlm, hnm]
    have hdm : lm.drop nm = x' :: t' := by rw [hrm] at hm; exact Option.some.inj hm
    have hxm : lm[nm]? = some x' := by
      have := congrArg (fun l => l[0]?) hdm
      simpa [List.getElem?_drop] using this
    have hnml : nm < lm.length := (List.getElem?_eq_some_iff.1 hxm).1
    obtain ⟨_, _, hrangem⟩ := hle m lm nm hlm hnm
    obtain ⟨pm, cm, rfl, hrlm⟩ := gl m vm lm hvm hlm
    obtain ⟨aq', e, hcm⟩ := gq m _ hvm
    cases e
    obtain ⟨adl, rfl, hcx⟩ := hrl n x hx
    obtain ⟨adm, rfl, hcxm⟩ := hrlm nm x' hxm
    have hless := fun (A : World) => less_call (n₀ := n₀) (A := A) (hrange x (List.mem_of_getElem? hx)) (hrangem x' (List.mem_of_getElem? hxm))
    refine cw_seq good (ca_draw good [.slice (some ⟨d0, 0, none⟩) ls.length ls.length, .int .i64 i, .pointer (some ((⟨d0, 0, none⟩ : Addr).add (i * 1))), .int .i64 n, .slice (some adl) l.length cl, .int .i64 l.length, .bool true, .bool true, .int .i64 m, .bool false, .bool false, fnV 17, .slice (some adl) l.length cl, .slice (some ⟨d0, 0, none⟩) ls.length ls.length, .int .i64 i, .pointer (some ((⟨d0, 0, none⟩ : Addr).add (i * 1))), .int .i64 n, .pointer (some (adl.add (n * 1))), .int .i64 x, .slice (some aq) ls.length c0, .int .i64 m, .pointer (some (aq.add (m * 1))), .slice (some adm) lm.length cm, .slice (some ⟨d0, 0, none⟩) ls.length ls.length, .int .i64 m, .pointer (some ((⟨d0, 0, none⟩ : Addr).add (m * 1))), .int .i64 nm, .pointer (some (adm.add (nm * 1))), .int .i64 x', .bool (decide (k10 x < k10 x')), .bool (decide (k10 x < k10 x')), .bool (decide (k10 x < k10 x'))] [] (by kernel_rfl) rfl ?_ ⟨#[y, ptr bl, ptr bf, j3, .slice (some ⟨d0, 0, none⟩) ls.length ls.length, .int .i64 m, .int .i64 i, .slice (some adl) l.length cl, j8, j9, j10, .slice (some aq) ls.length c0, .int .i64 ls.length, .int .i64 i, .bool (decide ((i : Int) < ls.length)), .int .i64 i, .pointer (some (aq.add (i * 1))), .slice (some adl) l.length cl, .slice (some ⟨d0, 0, none⟩) ls.length ls.length, .int .i64 i, .pointer (some ((⟨d0, 0, none⟩ : Addr).add (i * 1))), .int .i64 n, .slice (some adl) l.length cl, .int .i64 l.length, .bool true, .bool true, .int .i64 m, .bool false, .bool false, fnV 17, .slice (some adl) l.length cl, .slice (some ⟨d0, 0, none⟩) ls.length ls.length, .int .i64 i, .pointer (some ((⟨d0, 0, none⟩ : Addr).add (i * 1))), .int .i64 n, .pointer (some (adl.add (n * 1))), .int .i64 x, .slice (some aq) ls.length c0, .int .i64 m, .pointer (some (aq.add (m * 1))), .slice (some adm) lm.length cm, .slice (some ⟨d0, 0, none⟩) ls.length ls.length, .int .i64 m, .pointer (some ((⟨d0, 0, none⟩ : Addr).add (m * 1))), .int .i64 nm, .pointer (some (adm.add (nm * 1))), .int .i64 x', .bool (decide (k10 x < k10 x')), .bool (decide (k10 x < k10 x')), .bool (decide (k10 x < k10 x')), z50, z51, j52, j53, j54, j55, j56, j57, j58, j59, j60, j61, j62, j63, j64, j65, j66, j67, j68, j69, j70, j71, j72, j73, j74], []⟩ _ (by kernel_rfl) rfl ?_)
    · intro jj o ho
      match jj, ho with
      | 0, ho => cases ho; exact sa_quiet rfl [29] (all1 (aop_mv rfl (by kernel_rfl))) rfl
      | 1, ho => cases ho; exact sa_quiet rfl [29] (all1 (aop_mv rfl (by kernel_rfl))) rfl
      | 2, ho => cases ho; exact sa_quiet rfl [29] (all1 (aop_index (k := .i64) (cap := ls.length) (p := ⟨d0, 0, none⟩) rfl (by kernel_rfl) (by kernel_rfl) rfl rfl hlt)) rfl
      | 3, ho => cases ho; exact sa_quiet rfl [29] (all1 (aop_load rfl (by kernel_rfl) rfl (gat i n hn))) rfl
      | 4, ho => cases ho; exact sa_quiet rfl [29] (all1 (aop_mv rfl (by kernel_rfl))) rfl
      | 5, ho => cases ho; exact sa_quiet rfl [29] (all1 (aop_lenV (b := some adl) (len := l.length) (cap := cl) rfl rfl rfl rfl (by kernel_rfl) rfl)) rfl
      | 6, ho => cases ho; exact sa_quiet rfl [29] (all1 (aop_int (k := .i64) (m := n) (n := l.length) rfl (by kernel_rfl) (by kernel_rfl) (by simp [intV]; omega))) rfl
      | 7, ho => cases ho; exact sa_quiet rfl [29] (all1 (aop_mv rfl (by kernel_rfl))) rfl
      | 8, ho => cases ho; exact sa_quiet rfl [29] (all1 (aop_mv rfl (by kernel_rfl))) rfl
      | 9, ho => cases ho; exact sa_quiet rfl [29] (all1 (aop_int (k := .i64) (m := m) (n := 0) (v := .bool false) rfl (by kernel_rfl) (by kernel_rfl) (by simp [intV] <;> omega))) rfl
      | 10, ho => cases ho; exact sa_quiet rfl [29] (all1 (aop_mv rfl (by kernel_rfl))) rfl
      | 11, ho => cases ho; exact sa_quiet rfl [29] (all1 (aop_load (p := ⟨bf, 0, none⟩) rfl (by kernel_rfl) rfl gbf)) rfl
      | 12, ho => cases ho; exact sa_quiet rfl [29] (all1 (aop_mv rfl (by kernel_rfl))) rfl
      | 13, ho => cases ho; exact sa_quiet rfl [29] (all1 (aop_mv rfl (by kernel_rfl))) rfl
      | 14, ho => cases ho; exact sa_quiet rfl [29] (all1 (aop_mv rfl (by kernel_rfl))) rfl
      | 15, ho => cases ho; exact sa_quiet rfl [29] (all1 (aop_index (k := .i64) (cap := ls.length) (p := ⟨d0, 0, none⟩) rfl (by kernel_rfl) (by kernel_rfl) rfl rfl hlt)) rfl
      | 16, ho => cases ho; exact sa_quiet rfl [29] (all1 (aop_load rfl (by kernel_rfl) rfl (gat i n hn))) rfl
      | 17, ho => cases ho; exact sa_quiet rfl [29] (all1 (aop_index (k := .i64) (p := adl) (len := l.length) (cap := cl) rfl (by kernel_rfl) (by kernel_rfl) rfl rfl hend)) rfl
      | 18, ho => cases ho; exact sa_quiet rfl [29] (all1 (aop_load rfl (by kernel_rfl) rfl hcx)) rfl
      | 19, ho => cases ho; exact sa_quiet rfl [29] (all1 (aop_load (p := ⟨bl, 0, none⟩) rfl (by kernel_rfl) rfl gbl)) rfl
      | 20, ho => cases ho; exact sa_quiet rfl [29] (all1 (aop_mv rfl (by kernel_rfl))) rfl
      | 21, ho => cases ho; exact sa_quiet rfl [29] (all1 (aop_index (k := .i64) (p := aq) (len := ls.length) (cap := c0) rfl (by kernel_rfl) (by kernel_rfl) rfl rfl (by omega))) rfl
      | 22, ho => cases ho; exact sa_quiet rfl [29] (all1 (aop_load rfl (by kernel_rfl) rfl hcm)) rfl
      | 23, ho => cases ho; exact sa_quiet rfl [29] (all1 (aop_mv rfl (by kernel_rfl))) rfl
      | 24, ho => cases ho; exact sa_quiet rfl [29] (all1 (aop_mv rfl (by kernel_rfl))) rfl
      | 25, ho => cases ho; exact sa_quiet rfl [29] (all1 (aop_index (k := .i64) (len := ls.length) (cap := ls.length) (p := ⟨d0, 0, none⟩) rfl (by kernel_rfl) (by kernel_rfl) rfl rfl (by omega))) rfl
      | 26, ho => cases ho; exact sa_quiet rfl [29] (all1 (aop_load rfl (by kernel_rfl) rfl (gat m nm hnm))) rfl
      | 27, ho => cases ho; exact sa_quiet rfl [29] (all1 (aop_index (k := .i64) (p := adm) (len := lm.length) (cap := cm) rfl (by kernel_rfl) (by kernel_rfl) rfl rfl hnml)) rfl
      | 28, ho => cases ho; exact sa_quiet rfl [29] (all1 (aop_load rfl (by kernel_rfl) rfl hcxm)) rfl
      | 29, ho => cases ho; exact sa_acts rfl (runOp_callv (y := fnV 17) (l := [.int .i64 x, .int .i64 x']) (hless _) (by kernel_rfl) (by kernel_rfl))
      | 30, ho => cases ho; exact sa_quiet rfl [32] (all1 (aop_picks (b := false) rfl (by kernel_rfl) (by kernel_rfl))) rfl
      | 31, ho => cases ho; exact sa_quiet rfl [32] (all1 (aop_picks (b := true) rfl (by kernel_rfl) (by kernel_rfl))) rfl
      | n + 32, ho => simp at ho
    by_cases hk : k10 x < k10 x'
    · refine cw_cond good true (congrArg Value.bool (decide_eq_true hk)) ?_
      refine cw_region good ?_
      refine wpO_mv (.int .i64 i) rfl ?_
      refine wpO_as (.int .i64 i) rfl ?_
      simp only [Act.put, List.setIfInBounds_toArray, List.set_cons_succ, List.set_cons_zero]
      refine cw_region good ?_
      refine wpO_val (aop_int (k := .i64) (m := i) (n := 1) (v := .int .i64 (i + 1 : Nat)) rfl rfl rfl (intV_add (by omega) (by omega) (by omega))) ?_
      refine wpO_mv (.int .i64 (i + 1 : Nat)) rfl ?_
      simp only [Act.put, List.setIfInBounds_toArray, List.set_cons_succ, List.set_cons_zero]
      exact ⟨ls.length - (i + 1), by omega, rfl, i + 1, (some i), _, _, _, _, _, _, _, _, _, _, _, _, _, _, _, _, _, _, _, _, _, _, _, _, _, _, _, _, _, _, _, _, _, _, _, _, _, _, _, _, rfl, by omega, best_less hb hm hrs hk, rfl⟩
    · refine cw_cond good false (congrArg Value.bool (decide_eq_false hk)) (cw_skip good ?_)
      refine cw_region good ?_
      refine wpO_val (aop_int (k := .i64) (m := i) (n := 1) (v := .int .i64 (i + 1 : Nat)) rfl rfl rfl (intV_add (by omega) (by omega) (by omega))) ?_
      refine wpO_mv (.int .i64 (i + 1 : Nat)) rfl ?_
      simp only [Act.put, List.setIfInBounds_toArray, List.set_cons_succ, List.set_cons_zero]
      exact ⟨ls.length - (i + 1), by omega, rfl, i + 1, (some m), _, _, _, _, _, _, _, _, _, _, _, _, _, _, _, _, _, _, _, _, _, _, _, _, _, _, _, _, _, _, _, _, _, _, _, _, _, _, _, _, rfl, by omega, best_not hb hm hrs hk, rfl⟩
end Go.Proofs.Ytipomlcnmaldkaa
