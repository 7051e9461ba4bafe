/-
  SeqAll's second loop: all that it asks is as it asks it, each time. No condition.
-/
import Derived.Test.YtipomlcnmaldkaaM3
import Derived.Test.YtipomlcnmaldkaaB7
namespace Go.Proofs.Ytipomlcnmaldkaa
open Go.Abs
variable {n₀ : Nat}
set_option maxRecDepth 8000
theorem take_max (la : List Int) (n : Int) : la.take n.toNat = la.take (max 0 (min n la.length)).toNat := by
  rw [List.take_eq_take_iff]; omega
theorem drop_max (la : List Int) (n : Int) : la.drop n.toNat = la.drop (max 0 (min n la.length)).toNat := by
  by_cases h : n.toNat ≤ la.length
  · rw [show (max 0 (min n (la.length : Int))).toNat = n.toNat by omega]
  · rw [List.drop_eq_nil_of_le (by omega), List.drop_eq_nil_of_le (by omega)]
theorem all3 {R : Nat → Prop} {p0 p1 p2 : Nat} (h0 : R p0) (h1 : R p1) (h2 : R p2) : ∀ q ∈ [p0, p1, p2], R q := fun q hq => by
  rcases List.mem_cons.1 hq with rfl | hq
  · exact h0
  · exact all2 h1 h2 q hq
theorem aop_pk {A : World} {ρ : Operand → Value} {o : Oper} {c x y : Operand} {b : Bool} {v : Value} (h : o.op = .pick c x y) (hc : ρ c = .bool b) (hv : (if b then ρ x else ρ y) = v) : AOp Try.prog ρ o A (.value v) A := hv ▸ aop_pick h hc
theorem sl_to {A : World} {ρ : Operand → Value} {o : Oper} {x hi : Operand} {p : Option Addr} {len cap m : Nat} (ho : o.op = .slice 22 x none (some hi) none) (hx : ρ x = .slice p len cap) (hh : ρ hi = .int .i64 m) (hml : m ≤ len) (hlen : len ≤ cap)
    (hb : ∀ a, p = some a → ∃ cs t' fz, A.heap[a.block]? = some (.cells cs t' fz) ∧ fz ≠ (2, 0) ∧ (fz = (1, 0) → Try.prog.cellsOf 3 = Try.prog.cellsOf t')) : AOp Try.prog ρ o A (.value (.slice p m cap)) A := by
  have := aop_slice (k := .i64) (l := 0) (h := m) (P := Try.prog) (A := A) (e := 3) ho hx rfl rfl (.inl ⟨rfl, rfl⟩) (by rw [Option.map_some, hh]) (Nat.zero_le _) (by omega) hlen hb
  rwa [slice0] at this
set_option maxHeartbeats 8000000 in
theorem all_loop2 {A : World} {F : Foot} {p q : Option Addr} {la lb : List Int} {c d kb b1 b2 bc qc m : Nat} {n k : Int} {v1 v2 v17 : Value} {Q : Exit → Act → World → Prop} (hla : la.length ≤ 30) (hlb : lb.length ≤ 30) (hn : n < 9223372036854775808) (hcl : la.length ≤ c)
    (hm : (max 0 (min n la.length)).toNat = m) (h : Asn.all [valsJ b1 p c la (), lstV 3 v1 (la.map (twF k)), lstV 3 v2 (la.filter (fun x => x.tmod 2 != 0)), lstV 3 v17 (la ++ lb), cel kb (.int .i64 k), cel bc (.slice (some ⟨qc, 0, none⟩) 3 3), blk qc (.cells #[valsV b1, .nilFunc, valsV b2] 26 (0, 0)), valsJ b2 q d lb ()] F A) {j1 j3 j4 j5 j6 j9 j11 j15 j20 j21 j22 j23 j24 j25 j26 j27 j28 j29 j30 j31 j32 j33 j34 j35 j36 j37 j38 j39 j40 j41 j42 j43 j44 j45 j46 j47 j48 j49 j50 j51 j52 j53 j54 j55 j56 j57 j58 j59 j60 j61 j62 j63 j64 j65 j66 j67 j68 j69 j70 j71 j72 j73 j74 j75 j76 j77 j78 j79 j80 j81 j82 j83 j84 j85 j86 j87 j88 j89 j90 j91 j92 j93 j94 j95 j96 j97 j98 j99 j100 j101 j102 j103 j104 j105 j106 j107 j108 j109 j110 j111 j112 j113 j114 j115 j116 j117 j118 j119 j120 j121 j122 j123 j124 j125 j126 j127 j128 j129 j130 j131 j132 j133 j134 j135 j136 j137 j138 : Value}
    (hQ : ∀ (A' : World) (F' : Foot) (z80 z81 z82 z83 z84 z85 z86 z87 z88 z89 z90 z91 z92 z93 z94 z95 z96 z97 z98 z99 z100 z101 z102 z103 z104 z105 z106 z107 z108 z109 z110 z111 z112 z113 z114 z115 z116 z117 z118 z119 z120 z121 z122 z123 z124 z125 z126 z127 z128 z129 z130 z131 z132 z133 z134 z135 z136 z137 z138 : Value), Asn.all [valsJ b1 p c la (), lstV 3 v1 (la.map (twF k)), lstV 3 v2 (la.filter (fun x => x.tmod 2 != 0)), lstV 3 v17 (la ++ lb), cel kb (.int .i64 k), cel bc (.slice (some ⟨qc, 0, none⟩) 3 3), blk qc (.cells #[valsV b1, .nilFunc, valsV b2] 26 (0, 0)), valsJ b2 q d lb ()] F' A' → Q (.exit 2) ⟨#[.slice p la.length c, j1, .int .i64 n, j3, j4, j5, j6, ptr kb, .bool false, j9, valsV b1, j11, v1, v2, .int .i64 (la.foldl addF 7), j15, .int .i64 m, v17, chainV bc, .int .i64 (2 : Nat), j20, j21, j22, j23, j24, j25, j26, j27, j28, j29, j30, j31, j32, j33, j34, j35, j36, j37, j38, j39, j40, j41, j42, j43, j44, j45, j46, j47, j48, j49, j50, j51, j52, j53, j54, j55, j56, j57, j58, j59, j60, j61, j62, j63, j64, j65, j66, j67, j68, j69, j70, j71, j72, j73, j74, j75, j76, j77, j78, j79, z80, z81, z82, z83, z84, z85, z86, z87, z88, z89, z90, z91, z92, z93, z94, z95, z96, z97, z98, z99, z100, z101, z102, z103, z104, z105, z106, z107, z108, z109, z110, z111, z112, z113, z114, z115, z116, z117, z118, z119, z120, z121, z122, z123, z124, z125, z126, z127, z128, z129, z130, z131, z132, z133, z134, z135, z136, z137, z138], []⟩ A') :
    wpL Try.prog n₀ none c6b Q ⟨#[.slice p la.length c, j1, .int .i64 n, j3, j4, j5, j6, ptr kb, .bool false, j9, valsV b1, j11, v1, v2, .int .i64 (la.foldl addF 7), j15, .int .i64 m, v17, chainV bc, .int .i64 (0 : Nat), j20, j21, j22, j23, j24, j25, j26, j27, j28, j29, j30, j31, j32, j33, j34, j35, j36, j37, j38, j39, j40, j41, j42, j43, j44, j45, j46, j47, j48, j49, j50, j51, j52, j53, j54, j55, j56, j57, j58, j59, j60, j61, j62, j63, j64, j65, j66, j67, j68, j69, j70, j71, j72, j73, j74, j75, j76, j77, j78, j79, j80, j81, j82, j83, j84, j85, j86, j87, j88, j89, j90, j91, j92, j93, j94, j95, j96, j97, j98, j99, j100, j101, j102, j103, j104, j105, j106, j107, j108, j109, j110, j111, j112, j113, j114, j115, j116, j117, j118, j119, j120, j121, j122, j123, j124, j125, j126, j127, j128, j129, j130, j131, j132, j133, j134, j135, j136, j137, j138], []⟩ A := by
  refine wpL_ind (fun nn a A' => ∃ (i : Nat) (F' : Foot) (z80 z81 z82 z83 z84 z85 z86 z87 z88 z89 z90 z91 z92 z93 z94 z95 z96 z97 z98 z99 z100 z101 z102 z103 z104 z105 z106 z107 z108 z109 z110 z111 z112 z113 z114 z115 z116 z117 z118 z119 z120 z121 z122 z123 z124 z125 z126 z127 z128 z129 z130 z131 z132 z133 z134 z135 z136 z137 z138 : Value), nn = 2 - i ∧ i ≤ 2 ∧ Asn.all [valsJ b1 p c la (), lstV 3 v1 (la.map (twF k)), lstV 3 v2 (la.filter (fun x => x.tmod 2 != 0)), lstV 3 v17 (la ++ lb), cel kb (.int .i64 k), cel bc (.slice (some ⟨qc, 0, none⟩) 3 3), blk qc (.cells #[valsV b1, .nilFunc, valsV b2] 26 (0, 0)), valsJ b2 q d lb ()] F' A' ∧ a = ⟨#[.slice p la.length c, j1, .int .i64 n, j3, j4, j5, j6, ptr kb, .bool false, j9, valsV b1, j11, v1, v2, .int .i64 (la.foldl addF 7), j15, .int .i64 m, v17, chainV bc, .int .i64 i, j20, j21, j22, j23, j24, j25, j26, j27, j28, j29, j30, j31, j32, j33, j34, j35, j36, j37, j38, j39, j40, j41, j42, j43, j44, j45, j46, j47, j48, j49, j50, j51, j52, j53, j54, j55, j56, j57, j58, j59, j60, j61, j62, j63, j64, j65, j66, j67, j68, j69, j70, j71, j72, j73, j74, j75, j76, j77, j78, j79, z80, z81, z82, z83, z84, z85, z86, z87, z88, z89, z90, z91, z92, z93, z94, z95, z96, z97, z98, z99, z100, z101, z102, z103, z104, z105, z106, z107, z108, z109, z110, z111, z112, z113, z114, z115, z116, z117, z118, z119, z120, z121, z122, z123, z124, z125, z126, z127, z128, z129, z130, z131, z132, z133, z134, z135, z136, z137, z138], []⟩) ?_ 2 _ _
    ⟨0, F, j80, j81, j82, j83, j84, j85, j86, j87, j88, j89, j90, j91, j92, j93, j94, j95, j96, j97, j98, j99, j100, j101, j102, j103, j104, j105, j106, j107, j108, j109, j110, j111, j112, j113, j114, j115, j116, j117, j118, j119, j120, j121, j122, j123, j124, j125, j126, j127, j128, j129, j130, j131, j132, j133, j134, j135, j136, j137, j138, rfl, by decide, h, rfl⟩
  clear h
  rintro nn _ A' ⟨i, F', z80, z81, z82, z83, z84, z85, z86, z87, z88, z89, z90, z91, z92, z93, z94, z95, z96, z97, z98, z99, z100, z101, z102, z103, z104, z105, z106, z107, z108, z109, z110, z111, z112, z113, z114, z115, z116, z117, z118, z119, z120, z121, z122, z123, z124, z125, z126, z127, z128, z129, z130, z131, z132, z133, z134, z135, z136, z137, z138, rfl, hi, h, rfl⟩
  have hml : m ≤ la.length := by omega
  have g1 := vals_gives (n₀ := n₀) (b := b1) (p := p) (cap := c) (l := la) (by omega)
  have g2 := vals_gives (n₀ := n₀) (b := b2) (p := q) (cap := d) (l := lb) (by omega)
  have oR : Owns (Asn.all [lstV 3 v1 (la.map (twF k)), lstV 3 v2 (la.filter (fun x => x.tmod 2 != 0)), lstV 3 v17 (la ++ lb), cel kb (.int .i64 k), cel bc (.slice (some ⟨qc, 0, none⟩) 3 3), blk qc (.cells #[valsV b1, .nilFunc, valsV b2] 26 (0, 0)), valsJ b2 q d lb ()]) :=
    Owns.sep Owns.lstV (Owns.sep Owns.lstV (Owns.sep Owns.lstV (Owns.sep Owns.cel (Owns.sep Owns.cel (Owns.sep Owns.blk (g2.loc ()))))))
  have gZ := gives_frame g1 oR
  -- what lies there, wherever all of it lies
  have rA : ∀ {F : Foot} {A : World}, Asn.all [valsJ b1 p c la (), lstV 3 v1 (la.map (twF k)), lstV 3 v2 (la.filter (fun x => x.tmod 2 != 0)), lstV 3 v17 (la ++ lb), cel kb (.int .i64 k), cel bc (.slice (some ⟨qc, 0, none⟩) 3 3), blk qc (.cells #[valsV b1, .nilFunc, valsV b2] 26 (0, 0)), valsJ b2 q d lb ()] F A → Rd A p la ∧ ∀ ad, p = some ad → RoB A ad.block := fun h => by
    obtain ⟨_, k1⟩ := Asn.left h
    obtain ⟨_, k2⟩ := Asn.right k1
    exact k2.2
  have r1 : ∀ {F : Foot} {A : World}, Asn.all [valsJ b1 p c la (), lstV 3 v1 (la.map (twF k)), lstV 3 v2 (la.filter (fun x => x.tmod 2 != 0)), lstV 3 v17 (la ++ lb), cel kb (.int .i64 k), cel bc (.slice (some ⟨qc, 0, none⟩) 3 3), blk qc (.cells #[valsV b1, .nilFunc, valsV b2] 26 (0, 0)), valsJ b2 q d lb ()] F A → ∃ pp cc, v1 = .slice pp (la.map (twF k)).length cc ∧ Rd A pp (la.map (twF k)) := fun h => by
    obtain ⟨_, k1⟩ := Asn.left (Asn.perm _ [1, 0, 2, 3, 4, 5, 6, 7] h (by decide))
    exact lst_told k1
  have r2 : ∀ {F : Foot} {A : World}, Asn.all [valsJ b1 p c la (), lstV 3 v1 (la.map (twF k)), lstV 3 v2 (la.filter (fun x => x.tmod 2 != 0)), lstV 3 v17 (la ++ lb), cel kb (.int .i64 k), cel bc (.slice (some ⟨qc, 0, none⟩) 3 3), blk qc (.cells #[valsV b1, .nilFunc, valsV b2] 26 (0, 0)), valsJ b2 q d lb ()] F A → ∃ pp cc, v2 = .slice pp (la.filter (fun x => x.tmod 2 != 0)).length cc ∧ Rd A pp (la.filter (fun x => x.tmod 2 != 0)) := fun h => by
    obtain ⟨_, k1⟩ := Asn.left (Asn.perm _ [2, 0, 1, 3, 4, 5, 6, 7] h (by decide))
    exact lst_told k1
  have r17 : ∀ {F : Foot} {A : World}, Asn.all [valsJ b1 p c la (), lstV 3 v1 (la.map (twF k)), lstV 3 v2 (la.filter (fun x => x.tmod 2 != 0)), lstV 3 v17 (la ++ lb), cel kb (.int .i64 k), cel bc (.slice (some ⟨qc, 0, none⟩) 3 3), blk qc (.cells #[valsV b1, .nilFunc, valsV b2] 26 (0, 0)), valsJ b2 q d lb ()] F A → ∃ pp cc, v17 = .slice pp (la ++ lb).length cc ∧ Rd A pp (la ++ lb) := fun h => by
    obtain ⟨_, k1⟩ := Asn.left (Asn.perm _ [3, 0, 1, 2, 4, 5, 6, 7] h (by decide))
    exact lst_told k1
  have hf30 : (la.filter (fun x => x.tmod 2 != 0)).length ≤ 30 := Nat.le_trans (List.length_filter_le _ _) hla
  refine cw_seq good (cw_seq good (cw_region good ?_))
  refine wpO_mv (.int .i64 i) rfl ?_
  refine wpO_val (aop_int rfl (k := .i64) (m := i) (n := 2) (v := .bool (decide ((i : Int) < 2))) rfl rfl rfl) ?_
  simp only [Act.put, List.setIfInBounds_toArray, List.set_cons_succ, List.set_cons_zero]
  by_cases hlt : i < 2
  case neg =>
    refine cw_cond good false (congrArg Value.bool (by simp; omega)) (cw_exit good ?_)
    have e : i = 2 := by omega
    subst e
    exact hQ _ _ _ _ _ _ _ _ _ _ _ _ _ _ _ _ _ _ _ _ _ _ _ _ _ _ _ _ _ _ _ _ _ _ _ _ _ _ _ _ _ _ _ _ _ _ _ _ _ _ _ _ _ _ _ _ _ _ _ _ _ h
  refine cw_cond good true (congrArg Value.bool (by simp; omega)) (cw_skip good ?_)
  -- the calls, one behind the other
  obtain ⟨x1, W1, F1, c1, h1, t1⟩ := z_list gZ h (by omega)
  have h1 : Asn.all [valsJ b1 p c la (), lstV 3 v1 (la.map (twF k)), lstV 3 v2 (la.filter (fun x => x.tmod 2 != 0)), lstV 3 v17 (la ++ lb), cel kb (.int .i64 k), cel bc (.slice (some ⟨qc, 0, none⟩) 3 3), blk qc (.cells #[valsV b1, .nilFunc, valsV b2] 26 (0, 0)), valsJ b2 q d lb ()] F1 W1 := h1
  have e1 := told_eq (n₀ := n₀) (by omega) t1 ⟨p, c, rfl, (rA h1).1⟩
  have oR1 : Owns (Asn.all [lstV 3 v1 (la.map (twF k)), lstV 3 v2 (la.filter (fun x => x.tmod 2 != 0)), lstV 3 v17 (la ++ lb), cel bc (.slice (some ⟨qc, 0, none⟩) 3 3), blk qc (.cells #[valsV b1, .nilFunc, valsV b2] 26 (0, 0)), valsJ b2 q d lb ()]) :=
    Owns.sep Owns.lstV (Owns.sep Owns.lstV (Owns.sep Owns.lstV (Owns.sep Owns.cel (Owns.sep Owns.blk (g2.loc ())))))
  obtain ⟨V2, W2, x2, W3, F3, c2, c3, h3, t3⟩ := z_map (gives_frame g1 oR1) (tw_spec (kb := kb) (k := k)) rfl rfl
    (Asn.comm (Asn.perm _ [4, 0, 1, 2, 3, 5, 6, 7] h1 (by decide))) (by omega)
  have h3 : Asn.all [cel kb (.int .i64 k), valsJ b1 p c la (), lstV 3 v1 (la.map (twF k)), lstV 3 v2 (la.filter (fun x => x.tmod 2 != 0)), lstV 3 v17 (la ++ lb), cel bc (.slice (some ⟨qc, 0, none⟩) 3 3), blk qc (.cells #[valsV b1, .nilFunc, valsV b2] 26 (0, 0)), valsJ b2 q d lb ()] F3 W3 := Asn.comm h3
  have h3 : Asn.all [valsJ b1 p c la (), lstV 3 v1 (la.map (twF k)), lstV 3 v2 (la.filter (fun x => x.tmod 2 != 0)), lstV 3 v17 (la ++ lb), cel kb (.int .i64 k), cel bc (.slice (some ⟨qc, 0, none⟩) 3 3), blk qc (.cells #[valsV b1, .nilFunc, valsV b2] 26 (0, 0)), valsJ b2 q d lb ()] F3 W3 := Asn.perm _ [1, 2, 3, 4, 0, 5, 6, 7] h3 (by decide)
  have e3 := told_eq (n₀ := n₀) (by rw [List.length_map]; omega) t3 (r1 h3)
  obtain ⟨V4, W4, x3, W5, F5, c4, c5, h5, t5⟩ := z_keep gZ odd_p rfl rfl h3 (by omega)
  have h5 : Asn.all [valsJ b1 p c la (), lstV 3 v1 (la.map (twF k)), lstV 3 v2 (la.filter (fun x => x.tmod 2 != 0)), lstV 3 v17 (la ++ lb), cel kb (.int .i64 k), cel bc (.slice (some ⟨qc, 0, none⟩) 3 3), blk qc (.cells #[valsV b1, .nilFunc, valsV b2] 26 (0, 0)), valsJ b2 q d lb ()] F5 W5 := h5
  have e5 := told_eq (n₀ := n₀) (by omega) t5 (r2 h5)
  obtain ⟨V6, W6, x4, W7, F7, c6', c7, ro6, h7, t7⟩ := z_take gZ hn rfl h5 (by omega)
  have h7 : Asn.all [valsJ b1 p c la (), lstV 3 v1 (la.map (twF k)), lstV 3 v2 (la.filter (fun x => x.tmod 2 != 0)), lstV 3 v17 (la ++ lb), cel kb (.int .i64 k), cel bc (.slice (some ⟨qc, 0, none⟩) 3 3), blk qc (.cells #[valsV b1, .nilFunc, valsV b2] 26 (0, 0)), valsJ b2 q d lb ()] F7 W7 := h7
  rw [take_max, hm] at t7
  have hlm : (la.take m).length = m := by rw [List.length_take]; omega
  have e7 := told_eq (n₀ := n₀) (y := .slice p m c) (by rw [hlm]; omega) t7 ⟨p, c, by rw [hlm], Rd_take (rA h7).1⟩
  obtain ⟨V8, W8, x5, W9, F9, c8, c9, ro8, h9, t9⟩ := z_skip gZ hn rfl h7 (by omega)
  have h9 : Asn.all [valsJ b1 p c la (), lstV 3 v1 (la.map (twF k)), lstV 3 v2 (la.filter (fun x => x.tmod 2 != 0)), lstV 3 v17 (la ++ lb), cel kb (.int .i64 k), cel bc (.slice (some ⟨qc, 0, none⟩) 3 3), blk qc (.cells #[valsV b1, .nilFunc, valsV b2] 26 (0, 0)), valsJ b2 q d lb ()] F9 W9 := h9
  rw [drop_max, hm] at t9
  have hld : (la.drop m).length = la.length - m := List.length_drop
  have e9 := told_eq (n₀ := n₀) (y := .slice (if c = m then p else p.map (·.add (m * 1))) (la.length - m) (c - m)) (by rw [hld]; omega) t9 ⟨_, c - m, by rw [hld], by
    have := Rd_drop (c := c) (x := m) (k := la.length) (rA h9).1 hcl
    rwa [List.take_of_length_le (by rw [List.length_drop]; omega)] at this⟩
  have oR2 : Owns (Asn.all [lstV 3 v1 (la.map (twF k)), lstV 3 v2 (la.filter (fun x => x.tmod 2 != 0)), lstV 3 v17 (la ++ lb), cel kb (.int .i64 k)]) := Owns.sep Owns.lstV (Owns.sep Owns.lstV (Owns.sep Owns.lstV Owns.cel))
  have hch : ((chainJ bc qc (valsV b1) (valsV b2) (valsJ b1 p c la ()) (valsJ b2 q d lb ())).sep (Asn.all [lstV 3 v1 (la.map (twF k)), lstV 3 v2 (la.filter (fun x => x.tmod 2 != 0)), lstV 3 v17 (la ++ lb), cel kb (.int .i64 k)])) F9 W9 :=
    Asn.assoc' (Asn.map' (Asn.perm _ [5, 6, 0, 7, 1, 2, 3, 4] h9 (by decide)) fun _ h => Asn.assoc' (Asn.map' h fun _ h => Asn.assoc' h))
  obtain ⟨x6, W10, F10, c10, h10, t10⟩ := z_list (gives_frame (chain_gives g1 g2) oR2) hch (by rw [List.length_append]; omega)
  have h10 := Asn.perm _ [2, 4, 5, 6, 7, 0, 1, 3] (Asn.cat (l := [cel bc (.slice (some ⟨qc, 0, none⟩) 3 3), blk qc (.cells #[valsV b1, .nilFunc, valsV b2] 26 (0, 0)), valsJ b1 p c la (), valsJ b2 q d lb ()]) (l' := [lstV 3 v1 (la.map (twF k)), lstV 3 v2 (la.filter (fun x => x.tmod 2 != 0)), lstV 3 v17 (la ++ lb), cel kb (.int .i64 k)]) h10) (by decide)
  have e10 := told_eq (n₀ := n₀) (by rw [List.length_append]; omega) t10 (r17 h10)
  have h10 : Asn.all [valsJ b1 p c la (), lstV 3 v1 (la.map (twF k)), lstV 3 v2 (la.filter (fun x => x.tmod 2 != 0)), lstV 3 v17 (la ++ lb), cel kb (.int .i64 k), cel bc (.slice (some ⟨qc, 0, none⟩) 3 3), blk qc (.cells #[valsV b1, .nilFunc, valsV b2] 26 (0, 0)), valsJ b2 q d lb ()] F10 W10 := h10
  obtain ⟨W11, F11, c11, h11, _⟩ := fold_call (n₀ := n₀) (u := 7) gZ add_gpec rfl h10

  refine cw_seq good (cw_block good ?_)
  refine cw_seq good (cw_seq good (cw_region good ?_))
  refine wpO_mv (valsV b1) rfl ?_
  simp only [Act.put, List.setIfInBounds_toArray, List.set_cons_succ, List.set_cons_zero]
  refine wpO_call (f := 13) (first := #[]) (cap := #[]) (l := [valsV b1]) (xs := #[valsV b1]) ⟨rfl, rfl, rfl⟩ rfl rfl rfl ⟨_, _, c1, ?_⟩
  simp only [Act.put, List.setIfInBounds_toArray, List.set_cons_succ, List.set_cons_zero]
  refine wpO_mv (.slice p la.length c) rfl ?_
  simp only [Act.put, List.setIfInBounds_toArray, List.set_cons_succ, List.set_cons_zero]
  refine wpO_call (f := 15) (first := #[]) (cap := #[]) (l := [x1, .slice p la.length c]) (xs := #[x1, .slice p la.length c]) ⟨rfl, rfl, rfl⟩ rfl rfl rfl ⟨_, _, e1, ?_⟩
  simp only [Act.put, List.setIfInBounds_toArray, List.set_cons_succ, List.set_cons_zero]
  refine wpO_val (aop_not (b := true) rfl rfl) ?_
  refine wpO_mv (.bool false) rfl ?_
  simp only [Act.put, List.setIfInBounds_toArray, List.set_cons_succ, List.set_cons_zero]
  refine wpO_mv (valsV b1) rfl ?_
  refine wpO_val (aop_func (l := []) (l' := [ptr kb]) rfl rfl rfl) ?_
  simp only [Act.put, List.setIfInBounds_toArray, List.set_cons_succ, List.set_cons_zero]
  refine wpO_call (f := 10) (first := #[]) (cap := #[]) (l := [valsV b1, twV kb]) (xs := #[valsV b1, twV kb]) ⟨rfl, rfl, rfl⟩ rfl rfl rfl ⟨_, _, c2, ?_⟩
  simp only [Act.put, List.setIfInBounds_toArray, List.set_cons_succ, List.set_cons_zero]
  refine wpO_call (f := 13) (first := #[]) (cap := #[]) (l := [V2]) (xs := #[V2]) ⟨rfl, rfl, rfl⟩ rfl rfl rfl ⟨_, _, c3, ?_⟩
  simp only [Act.put, List.setIfInBounds_toArray, List.set_cons_succ, List.set_cons_zero]
  refine wpO_mv (v1) rfl ?_
  simp only [Act.put, List.setIfInBounds_toArray, List.set_cons_succ, List.set_cons_zero]
  refine wpO_call (f := 15) (first := #[]) (cap := #[]) (l := [x2, v1]) (xs := #[x2, v1]) ⟨rfl, rfl, rfl⟩ rfl rfl rfl ⟨_, _, e3, ?_⟩
  simp only [Act.put, List.setIfInBounds_toArray, List.set_cons_succ, List.set_cons_zero]
  refine wpO_val (aop_not (b := true) rfl rfl) ?_
  refine wpO_val (aop_pick (b := false) rfl rfl) ?_
  simp only [Act.put, List.setIfInBounds_toArray, List.set_cons_succ, List.set_cons_zero]
  refine wpO_mv (.bool false) rfl ?_
  simp only [Act.put, List.setIfInBounds_toArray, List.set_cons_succ, List.set_cons_zero]
  refine wpO_mv (valsV b1) rfl ?_
  simp only [Act.put, List.setIfInBounds_toArray, List.set_cons_succ, List.set_cons_zero]
  refine wpO_call (f := 19) (first := #[]) (cap := #[]) (l := [valsV b1, fnV 25]) (xs := #[valsV b1, fnV 25]) ⟨rfl, rfl, rfl⟩ rfl rfl rfl ⟨_, _, c4, ?_⟩
  simp only [Act.put, List.setIfInBounds_toArray, List.set_cons_succ, List.set_cons_zero]
  refine wpO_call (f := 13) (first := #[]) (cap := #[]) (l := [V4]) (xs := #[V4]) ⟨rfl, rfl, rfl⟩ rfl rfl rfl ⟨_, _, c5, ?_⟩
  simp only [Act.put, List.setIfInBounds_toArray, List.set_cons_succ, List.set_cons_zero]
  refine wpO_mv (v2) rfl ?_
  simp only [Act.put, List.setIfInBounds_toArray, List.set_cons_succ, List.set_cons_zero]
  refine wpO_call (f := 15) (first := #[]) (cap := #[]) (l := [x3, v2]) (xs := #[x3, v2]) ⟨rfl, rfl, rfl⟩ rfl rfl rfl ⟨_, _, e5, ?_⟩
  simp only [Act.put, List.setIfInBounds_toArray, List.set_cons_succ, List.set_cons_zero]
  refine wpO_val (aop_not (b := true) rfl rfl) ?_
  refine wpO_val (aop_pick (b := false) rfl rfl) ?_
  simp only [Act.put, List.setIfInBounds_toArray, List.set_cons_succ, List.set_cons_zero]
  refine cw_cond good false rfl (cw_skip good ?_)
  refine cw_seq good (ca_draw good [valsV b1, .int .i64 n, V6, x4, .slice p la.length c, .int .i64 m, .slice p m c, .bool true, .bool false, .bool false, valsV b1, .int .i64 n, V8, x5, .slice p la.length c, .int .i64 m, .slice (if c = m then p else p.map (·.add (m * 1))) (la.length - m) (c - m), .bool true, .bool false, .bool false, .bool false, chainV bc, x6, v17, .bool true, .bool false, .bool false, .bool false, valsV b1, .int .i64 (la.foldl addF 7), .int .i64 (la.foldl addF 7), .bool false, .bool false] [W5, W5, W5, W6, W7, W7, W7, W7, W7, W7, W7, W7, W7, W8, W9, W9, W9, W9, W9, W9, W9, W9, W9, W10, W10, W10, W10, W10, W10, W10, W11, W11, W11, W11] (by kernel_rfl) rfl ?_ ⟨#[.slice p la.length c, j1, .int .i64 n, j3, j4, j5, j6, ptr kb, .bool false, j9, valsV b1, j11, v1, v2, .int .i64 (la.foldl addF 7), j15, .int .i64 m, v17, chainV bc, .int .i64 i, j20, j21, j22, j23, j24, j25, j26, j27, j28, j29, j30, j31, j32, j33, j34, j35, j36, j37, j38, j39, j40, j41, j42, j43, j44, j45, j46, j47, j48, j49, j50, j51, j52, j53, j54, j55, j56, j57, j58, j59, j60, j61, j62, j63, j64, j65, j66, j67, j68, j69, j70, j71, j72, j73, j74, j75, j76, j77, j78, j79, .int .i64 i, .bool (decide ((i : Int) < 2)), z82, z83, valsV b1, x1, .slice p la.length c, .bool true, .bool false, .bool false, valsV b1, twV kb, V2, x2, v1, .bool true, .bool false, .bool false, .bool false, valsV b1, V4, x3, v2, .bool true, .bool false, .bool false, valsV b1, .int .i64 n, V6, x4, .slice p la.length c, .int .i64 m, .slice p m c, .bool true, .bool false, .bool false, valsV b1, .int .i64 n, V8, x5, .slice p la.length c, .int .i64 m, .slice (if c = m then p else p.map (·.add (m * 1))) (la.length - m) (c - m), .bool true, .bool false, .bool false, .bool false, chainV bc, x6, v17, .bool true, .bool false, .bool false, .bool false, valsV b1, .int .i64 (la.foldl addF 7), .int .i64 (la.foldl addF 7), .bool false, .bool false], []⟩ W11 (by kernel_rfl) rfl ?_)
  · intro jj o ho
    have roW : ∀ {F : Foot} {A : World}, Asn.all [valsJ b1 p c la (), lstV 3 v1 (la.map (twF k)), lstV 3 v2 (la.filter (fun x => x.tmod 2 != 0)), lstV 3 v17 (la ++ lb), cel kb (.int .i64 k), cel bc (.slice (some ⟨qc, 0, none⟩) 3 3), blk qc (.cells #[valsV b1, .nilFunc, valsV b2] 26 (0, 0)), valsJ b2 q d lb ()] F A → ∀ ad, p = some ad → ∃ cs t' fz, A.heap[ad.block]? = some (.cells cs t' fz) ∧ fz ≠ (2, 0) ∧ (fz = (1, 0) → Try.prog.cellsOf 3 = Try.prog.cellsOf t') := fun h ad e => ro_block ((rA h).2 ad e)
    have ro6' : ∀ ad, p = some ad → ∃ cs t' fz, W6.heap[ad.block]? = some (.cells cs t' fz) ∧ fz ≠ (2, 0) ∧ (fz = (1, 0) → Try.prog.cellsOf 3 = Try.prog.cellsOf t') := fun ad e => ro_block (((rA h5).2 ad e).kept ro6)
    have ro8' : ∀ ad, p = some ad → ∃ cs t' fz, W8.heap[ad.block]? = some (.cells cs t' fz) ∧ fz ≠ (2, 0) ∧ (fz = (1, 0) → Try.prog.cellsOf 3 = Try.prog.cellsOf t') := fun ad e => ro_block (((rA h7).2 ad e).kept ro8)
    match jj, ho with
    | 0, ho => cases ho; exact sa_quiet rfl [2] (all1 (aop_mv rfl (by kernel_rfl))) rfl
    | 1, ho => cases ho; exact sa_quiet rfl [2] (all1 (aop_mv rfl (by kernel_rfl))) rfl
    | 2, ho => cases ho; exact sa_acts rfl (runOp_call (l := [valsV b1, .int .i64 n]) ⟨rfl, rfl, rfl⟩ c6' (by kernel_rfl) (by kernel_rfl))
    | 3, ho => cases ho; exact sa_acts rfl (runOp_call (l := [V6]) ⟨rfl, rfl, rfl⟩ c7 (by kernel_rfl) (by kernel_rfl))
    | 4, ho => cases ho; exact sa_quiet rfl [2, 3, 7] (all3 (aop_mv rfl (by kernel_rfl)) (aop_mv rfl (by kernel_rfl)) (aop_mv rfl (by kernel_rfl))) rfl
    | 5, ho => cases ho; exact sa_quiet rfl [2, 3, 7] (all3 (aop_mv rfl (by kernel_rfl)) (aop_mv rfl (by kernel_rfl)) (aop_mv rfl (by kernel_rfl))) rfl
    | 6, ho => cases ho; exact sa_quiet rfl [2, 3, 7] (all3 (sl_to rfl (by kernel_rfl) (by kernel_rfl) hml hcl (roW h5)) (sl_to rfl (by kernel_rfl) (by kernel_rfl) hml hcl ro6') (sl_to rfl (by kernel_rfl) (by kernel_rfl) hml hcl (roW h7))) rfl
    | 7, ho => cases ho; exact sa_acts rfl (runOp_call (l := [x4, .slice p m c]) ⟨rfl, rfl, rfl⟩ e7 (by kernel_rfl) (by kernel_rfl))
    | 8, ho => cases ho; exact sa_quiet rfl [12] (all1 (aop_not (b := true) rfl (by kernel_rfl))) rfl
    | 9, ho => cases ho; exact sa_quiet rfl [12] (all1 (aop_mv rfl (by kernel_rfl))) rfl
    | 10, ho => cases ho; exact sa_quiet rfl [12] (all1 (aop_mv rfl (by kernel_rfl))) rfl
    | 11, ho => cases ho; exact sa_quiet rfl [12] (all1 (aop_mv rfl (by kernel_rfl))) rfl
    | 12, ho => cases ho; exact sa_acts rfl (runOp_call (l := [valsV b1, .int .i64 n]) ⟨rfl, rfl, rfl⟩ c8 (by kernel_rfl) (by kernel_rfl))
    | 13, ho => cases ho; exact sa_acts rfl (runOp_call (l := [V8]) ⟨rfl, rfl, rfl⟩ c9 (by kernel_rfl) (by kernel_rfl))
    | 14, ho => cases ho; exact sa_quiet rfl [12, 13, 17] (all3 (aop_mv rfl (by kernel_rfl)) (aop_mv rfl (by kernel_rfl)) (aop_mv rfl (by kernel_rfl))) rfl
    | 15, ho => cases ho; exact sa_quiet rfl [12, 13, 17] (all3 (aop_mv rfl (by kernel_rfl)) (aop_mv rfl (by kernel_rfl)) (aop_mv rfl (by kernel_rfl))) rfl
    | 16, ho => cases ho; exact sa_quiet rfl [12, 13, 17] (all3 (aop_from (k := .i64) (len := la.length) (cap := c) (l := m) rfl (by kernel_rfl) rfl rfl (by kernel_rfl) hml hcl (roW h7)) (aop_from (k := .i64) (len := la.length) (cap := c) (l := m) rfl (by kernel_rfl) rfl rfl (by kernel_rfl) hml hcl ro8') (aop_from (k := .i64) (len := la.length) (cap := c) (l := m) rfl (by kernel_rfl) rfl rfl (by kernel_rfl) hml hcl (roW h9))) rfl
    | 17, ho => cases ho; exact sa_acts rfl (runOp_call (l := [x5, .slice (if c = m then p else p.map (·.add (m * 1))) (la.length - m) (c - m)]) ⟨rfl, rfl, rfl⟩ e9 (by kernel_rfl) (by kernel_rfl))
    | 18, ho => cases ho; exact sa_quiet rfl [22] (all1 (aop_not (b := true) rfl (by kernel_rfl))) rfl
    | 19, ho => cases ho; exact sa_quiet rfl [22] (all1 (aop_pk (b := false) rfl (by kernel_rfl) (by kernel_rfl))) rfl
    | 20, ho => cases ho; exact sa_quiet rfl [22] (all1 (aop_mv rfl (by kernel_rfl))) rfl
    | 21, ho => cases ho; exact sa_quiet rfl [22] (all1 (aop_mv rfl (by kernel_rfl))) rfl
    | 22, ho => cases ho; exact sa_acts rfl (runOp_call (l := [chainV bc]) ⟨rfl, rfl, rfl⟩ c10 (by kernel_rfl) (by kernel_rfl))
    | 23, ho => cases ho; exact sa_quiet rfl [22, 24] (all2 (aop_mv rfl (by kernel_rfl)) (aop_mv rfl (by kernel_rfl))) rfl
    | 24, ho => cases ho; exact sa_acts rfl (runOp_call (l := [x6, v17]) ⟨rfl, rfl, rfl⟩ e10 (by kernel_rfl) (by kernel_rfl))
    | 25, ho => cases ho; exact sa_quiet rfl [29] (all1 (aop_not (b := true) rfl (by kernel_rfl))) rfl
    | 26, ho => cases ho; exact sa_quiet rfl [29] (all1 (aop_pk (b := false) rfl (by kernel_rfl) (by kernel_rfl))) rfl
    | 27, ho => cases ho; exact sa_quiet rfl [29] (all1 (aop_mv rfl (by kernel_rfl))) rfl
    | 28, ho => cases ho; exact sa_quiet rfl [29] (all1 (aop_mv rfl (by kernel_rfl))) rfl
    | 29, ho => cases ho; exact sa_acts rfl (runOp_call (l := [valsV b1, .int .i64 7, fnV 27]) ⟨rfl, rfl, rfl⟩ c11 (by kernel_rfl) (by kernel_rfl))
    | 30, ho => cases ho; exact sa_quiet rfl [29, 33] (all2 (aop_mv rfl (by kernel_rfl)) (aop_mv rfl (by kernel_rfl))) rfl
    | 31, ho => cases ho; exact sa_quiet rfl [33] (all1 (aop_int (k := .i64) (m := la.foldl addF 7) (n := la.foldl addF 7) (v := .bool false) rfl (by kernel_rfl) (by kernel_rfl) (by simp [intV]))) rfl
    | 32, ho => cases ho; exact sa_quiet rfl [33] (all1 (aop_pk (b := false) rfl (by kernel_rfl) (by kernel_rfl))) rfl
    | n + 33, ho => simp at ho
  refine cw_cond good false rfl (cw_skip good ?_)
  refine cw_region good ?_
  refine wpO_mv (.int .i64 i) rfl ?_
  refine wpO_val (aop_int (k := .i64) (m := i) (n := 1) (v := .int .i64 (i + 1 : Nat)) rfl rfl rfl (intV_add (by omega) (by omega) (by omega))) ?_
  refine wpO_as (.int .i64 (i + 1 : Nat)) rfl ?_
  simp only [Act.put, List.setIfInBounds_toArray, List.set_cons_succ, List.set_cons_zero]
  exact ⟨2 - (i + 1), by omega, i + 1, F11, _, _, _, _, _, _, _, _, _, _, _, _, _, _, _, _, _, _, _, _, _, _, _, _, _, _, _, _, _, _, _, _, _, _, _, _, _, _, _, _, _, _, _, _, _, _, _, _, _, _, _, _, _, _, _, _, _, _, _, rfl, by omega, h11, rfl⟩
end Go.Proofs.Ytipomlcnmaldkaa
