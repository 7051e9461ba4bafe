/-
  SeqAll answers true, of any two lists that may be read and any two numbers. No condition.
-/
import Derived.Test.YtipomlcnmaldkaaM4
import Derived.Test.YtipomlcnmaldkaaM1
namespace Go.Proofs.Ytipomlcnmaldkaa
open Go.Abs
variable {n₀ : Nat}
set_option maxRecDepth 8000
theorem add_lst {I : Asn} {F : Foot} {A : World} (h : I F A) : ((lstV 3 (.slice none 0 0) []).sep I) F A := ⟨fun _ => False, F, .inl ⟨rfl, rfl, fun _ h => h⟩, h, fun _ h => h.elim, fun b => by simp⟩
set_option maxHeartbeats 8000000 in
theorem all_call {A : World} {F : Foot} {p q : Option Addr} {la0 lb0 : List Int} {c d : Nat} {n k : Int} (h : ((rd p la0).sep (rd q lb0)) F A) (hc : la0.length ≤ c) (hd : lb0.length ≤ d) (hn : n < 9223372036854775808) :
    ∃ A', SndCall Try.prog n₀ 6 #[.slice p la0.length c, .slice q lb0.length d, .int .i64 n, .int .i64 k] A (.bool true) A' := by
  have hlen : (la0.take 30).length = min la0.length 30 := by rw [List.length_take, Nat.min_comm]
  have hlen' : (lb0.take 30).length = min lb0.length 30 := by rw [List.length_take, Nat.min_comm]
  have h0 : ((rd p (la0.take 30)).sep (rd q (lb0.take 30))) F A := Asn.map' (Asn.map h fun _ h => rd_take h) fun _ h => rd_take h
  generalize la0.take 30 = la at hlen h0
  generalize lb0.take 30 = lb at hlen' h0
  have hla : la.length ≤ 30 := by omega
  have hlb : lb.length ≤ 30 := by omega
  have hcl : la.length ≤ c := by omega
  -- the number
  obtain ⟨F1, h1, _⟩ := Asn.new (Owns.sep Owns.rd Owns.rd) h0 (.int .i64 k) 3
  generalize hkb : A.heap.size = kb at h1
  generalize hA1 : A.alloc (.cells #[.int .i64 k] 3 (0, 0)) = A1 at h1
  obtain ⟨_, q1⟩ := Asn.right h1
  obtain ⟨_, qp⟩ := Asn.left q1
  obtain ⟨_, qq⟩ := Asn.right q1
  have hcut : SndCall Try.prog n₀ 9 #[.slice p la0.length c, .int .i64 30] A1 (.slice p la.length c) A1 := by rw [hlen]; exact cut_call hc qp.2.2
  have hcut' : SndCall Try.prog n₀ 9 #[.slice q lb0.length d, .int .i64 30] A1 (.slice q lb.length d) A1 := by rw [hlen']; exact cut_call hd qq.2.2
  -- what comes one by one
  obtain ⟨b1, A2, F2, c2, h2, _⟩ := of_do (n₀ := n₀) (v := .slice p la.length c) (Owns.sep Owns.cel (Owns.sep Owns.rd Owns.rd)) h1 rfl
  obtain ⟨b2, A3, F3, c3, h3, _⟩ := of_do (n₀ := n₀) (v := .slice q lb.length d) (Owns.sep Owns.cel (Owns.sep Owns.cel (Owns.sep Owns.rd Owns.rd))) h2 rfl
  have h3 : Asn.all [cel kb (.int .i64 k), cel b1 (.slice p la.length c), rd p la, valsJ b2 q d lb ()] F3 A3 := Asn.perm [cel b2 (.slice q lb.length d), cel b1 (.slice p la.length c), cel kb (.int .i64 k), rd p la, rd q lb] [2, 1, 3, 0, 4] h3 (by decide)
  have h3 := add_lst (add_lst h3)
  have o2 : Owns (valsJ b2 q d lb ()) := Owns.sep Owns.cel Owns.rd
  have : wpF Try.prog n₀ 6 #[.slice p la0.length c, .slice q lb0.length d, .int .i64 n, .int .i64 k] (fun v A' => v = .bool true) A := by
    refine wpF_fn (ts := #[.slice p la0.length c, .slice q lb0.length d, .int .i64 n, .int .i64 k, undef, undef, undef, undef, undef, undef, undef, undef, undef, undef, undef, undef, undef, undef, undef, undef, undef, undef, undef, undef, undef, undef, undef, undef, undef, undef, undef, undef, undef, undef, undef, undef, undef, undef, undef, undef, undef, undef, undef, undef, undef, undef, undef, undef, undef, undef, undef, undef, undef, undef, undef, undef, undef, undef, undef, undef, undef, undef, undef, undef, undef, undef, undef, undef, undef, undef, undef, undef, undef, undef, undef, undef, undef, undef, undef, undef, undef, undef, undef, undef, undef, undef, undef, undef, undef, undef, undef, undef, undef, undef, undef, undef, undef, undef, undef, undef, undef, undef, undef, undef, undef, undef, undef, undef, undef, undef, undef, undef, undef, undef, undef, undef, undef, undef, undef, undef, undef, undef, undef, undef, undef, undef, undef, undef, undef, undef, undef, undef, undef, undef, undef, undef, undef, undef, undef]) good ⟨rfl, rfl, rfl⟩ (by kernel_rfl) ?_
    refine cw_seq good (cw_region good ?_)
    refine wpO_val (aop_box (v := .int .i64 k) rfl rfl rfl) ?_
    rw [hkb, hA1]
    refine wpO_as (.bool false) rfl ?_
    simp only [Act.put, List.setIfInBounds_toArray, List.set_cons_succ, List.set_cons_zero]
    refine cw_seq good (cw_region good ?_)
    refine wpO_call (f := 8) (first := #[]) (cap := #[]) (l := []) (xs := #[]) ⟨rfl, rfl, rfl⟩ rfl rfl rfl ⟨_, _, begun_call, ?_⟩
    simp only [Act.put, List.setIfInBounds_toArray, List.set_cons_succ, List.set_cons_zero]
    refine wpO_as (.bool true) rfl ?_
    simp only [Act.put, List.setIfInBounds_toArray, List.set_cons_succ, List.set_cons_zero]
    refine cw_seq good (cw_seq good (cw_region good ?_))
    refine wpO_mv (.bool true) rfl ?_
    refine wpO_val (aop_not (b := true) rfl rfl) ?_
    simp only [Act.put, List.setIfInBounds_toArray, List.set_cons_succ, List.set_cons_zero]
    refine cw_cond good false rfl (cw_skip good ?_)
    refine cw_seq good (cw_region good ?_)
    refine wpO_mv (.slice p la0.length c) rfl ?_
    simp only [Act.put, List.setIfInBounds_toArray, List.set_cons_succ, List.set_cons_zero]
    refine wpO_call (f := 9) (first := #[]) (cap := #[]) (l := [.slice p la0.length c, .int .i64 30]) (xs := #[.slice p la0.length c, .int .i64 30]) ⟨rfl, rfl, rfl⟩ rfl rfl rfl ⟨_, _, hcut, ?_⟩
    simp only [Act.put, List.setIfInBounds_toArray, List.set_cons_succ, List.set_cons_zero]
    refine wpO_mv (.slice q lb0.length d) rfl ?_
    simp only [Act.put, List.setIfInBounds_toArray, List.set_cons_succ, List.set_cons_zero]
    refine wpO_call (f := 9) (first := #[]) (cap := #[]) (l := [.slice q lb0.length d, .int .i64 30]) (xs := #[.slice q lb0.length d, .int .i64 30]) ⟨rfl, rfl, rfl⟩ rfl rfl rfl ⟨_, _, hcut', ?_⟩
    simp only [Act.put, List.setIfInBounds_toArray, List.set_cons_succ, List.set_cons_zero]
    refine wpO_as (.slice p la.length c) rfl ?_
    refine wpO_as (.slice q lb.length d) rfl ?_
    simp only [Act.put, List.setIfInBounds_toArray, List.set_cons_succ, List.set_cons_zero]
    refine cw_seq good (cw_region good ?_)
    refine wpO_mv (.slice p la.length c) rfl ?_
    simp only [Act.put, List.setIfInBounds_toArray, List.set_cons_succ, List.set_cons_zero]
    refine wpO_call (f := 11) (first := #[]) (cap := #[]) (l := [.slice p la.length c]) (xs := #[.slice p la.length c]) ⟨rfl, rfl, rfl⟩ rfl rfl rfl ⟨_, _, c2, ?_⟩
    simp only [Act.put, List.setIfInBounds_toArray, List.set_cons_succ, List.set_cons_zero]
    refine wpO_mv (.slice q lb.length d) rfl ?_
    simp only [Act.put, List.setIfInBounds_toArray, List.set_cons_succ, List.set_cons_zero]
    refine wpO_call (f := 11) (first := #[]) (cap := #[]) (l := [.slice q lb.length d]) (xs := #[.slice q lb.length d]) ⟨rfl, rfl, rfl⟩ rfl rfl rfl ⟨_, _, c3, ?_⟩
    simp only [Act.put, List.setIfInBounds_toArray, List.set_cons_succ, List.set_cons_zero]
    refine wpO_as (valsV b1) rfl ?_
    refine wpO_as (valsV b2) rfl ?_
    simp only [Act.put, List.setIfInBounds_toArray, List.set_cons_succ, List.set_cons_zero]
    refine cw_seq good (cw_region good ?_)
    refine wpO_as (.slice none 0 0) rfl ?_
    refine wpO_as (.slice none 0 0) rfl ?_
    simp only [Act.put, List.setIfInBounds_toArray, List.set_cons_succ, List.set_cons_zero]
    refine cw_seq good (cw_region good ?_)
    refine wpO_as (.int .i64 7) rfl ?_
    simp only [Act.put, List.setIfInBounds_toArray, List.set_cons_succ, List.set_cons_zero]
    refine cw_seq good (cw_seq good (cw_region good ?_))
    refine wpO_as (.int .i64 (0 : Nat)) rfl ?_
    simp only [Act.put, List.setIfInBounds_toArray, List.set_cons_succ, List.set_cons_zero]
    refine cw_block good (cw_loop good ?_)
    refine all_loop1 o2 hla h3 (fun v1 v2 A4 F4 _ _ _ _ _ _ _ _ _ _ _ _ _ _ _ _ _ _ _ _ _ _ _ _ _ _ _ _ _ _ _ _ _ _ _ _ h4 _ => ?_)
    -- both, behind one another
    obtain ⟨_, k1⟩ := Asn.left (Asn.perm _ [4, 0, 1, 2, 3, 5] h4 (by decide))
    obtain ⟨v3, A5, F5, ap1, h5, _⟩ := lstV_grow (c2 := c) appTy (Owns.sep Owns.lstV (Owns.sep Owns.lstV (Owns.sep Owns.cel (Owns.sep Owns.cel (Owns.sep Owns.rd o2))))) (add_lst h4) k1.2.1 rfl (by simp; omega)
    obtain ⟨_, k2⟩ := Asn.left (Asn.perm [lstV 3 v3 ([] ++ la), lstV 3 v1 (la.map (twF k)), lstV 3 v2 (la.filter (fun x => x.tmod 2 != 0)), cel kb (.int .i64 k), cel b1 (.slice p la.length c), rd p la, valsJ b2 q d lb ()] [6, 0, 1, 2, 3, 4, 5] h5 (by decide))
    obtain ⟨_, k3⟩ := Asn.right k2
    obtain ⟨v17, A6, F6, ap2, h6, _⟩ := lstV_grow (c2 := d) appTy (Owns.sep Owns.lstV (Owns.sep Owns.lstV (Owns.sep Owns.cel (Owns.sep Owns.cel (Owns.sep Owns.rd o2))))) h5 k3.2.1 rfl (by simp; omega)
    rw [List.nil_append] at h6
    obtain ⟨F7, h7, _⟩ := Asn.newO (Owns.sep Owns.lstV (Owns.sep Owns.lstV (Owns.sep Owns.lstV (Owns.sep Owns.cel (Owns.sep Owns.cel (Owns.sep Owns.rd o2)))))) h6 (.cells #[valsV b1, .nilFunc, valsV b2] 26 (0, 0))
    generalize hqc : A6.heap.size = qc at h7
    generalize hA7 : A6.alloc (.cells #[valsV b1, .nilFunc, valsV b2] 26 (0, 0)) = A7 at h7
    obtain ⟨F8, h8, _⟩ := Asn.new (Owns.sep Owns.blk (Owns.sep Owns.lstV (Owns.sep Owns.lstV (Owns.sep Owns.lstV (Owns.sep Owns.cel (Owns.sep Owns.cel (Owns.sep Owns.rd o2))))))) h7 (.slice (some ⟨qc, 0, none⟩) 3 3) 47
    have c8 : SndCall Try.prog n₀ 23 #[.slice (some ⟨qc, 0, none⟩) 3 3] A7 _ _ := chain_call rfl
    generalize hbc : A7.heap.size = bc at h8 c8
    generalize hA8 : A7.alloc (.cells #[.slice (some ⟨qc, 0, none⟩) 3 3] 47 (0, 0)) = A8 at h8 c8
    have h9 := Asn.perm [cel bc (.slice (some ⟨qc, 0, none⟩) 3 3), blk qc (.cells #[valsV b1, .nilFunc, valsV b2] 26 (0, 0)), lstV 3 v17 (la ++ lb), lstV 3 v1 (la.map (twF k)), lstV 3 v2 (la.filter (fun x => x.tmod 2 != 0)), cel kb (.int .i64 k), cel b1 (.slice p la.length c), rd p la, valsJ b2 q d lb ()] [6, 7, 3, 4, 2, 5, 0, 1, 8] h8 (by decide)
    have h10 : Asn.all [valsJ b1 p c la (), lstV 3 v1 (la.map (twF k)), lstV 3 v2 (la.filter (fun x => x.tmod 2 != 0)), lstV 3 v17 (la ++ lb), cel kb (.int .i64 k), cel bc (.slice (some ⟨qc, 0, none⟩) 3 3), blk qc (.cells #[valsV b1, .nilFunc, valsV b2] 26 (0, 0)), valsJ b2 q d lb ()] F8 A8 := Asn.assoc' h9
    generalize hm : (max 0 (min n (la.length : Int))).toNat = m
    refine cw_seq good (cw_region good ?_)
    refine wpO_mv (.int .i64 n) rfl ?_
    refine wpO_mv (.slice p la.length c) rfl ?_
    simp only [Act.put, List.setIfInBounds_toArray, List.set_cons_succ, List.set_cons_zero]
    refine wpO_val (aop_len rfl rfl rfl rfl rfl) ?_
    refine wpO_val (aop_min (k := .i64) (m := n) (n := la.length) rfl rfl rfl rfl) ?_
    simp only [Act.put, List.setIfInBounds_toArray, List.set_cons_succ, List.set_cons_zero]
    refine wpO_val (aop_max (k := .i64) (m := 0) (n := if (la.length : Int) < n then (la.length : Int) else n) rfl rfl rfl rfl) ?_
    rw [show (if (0 : Int) < (if (la.length : Int) < n then (la.length : Int) else n) then (if (la.length : Int) < n then (la.length : Int) else n) else 0) = (m : Int) by split <;> split at * <;> omega]
    simp only [Act.put, List.setIfInBounds_toArray, List.set_cons_succ, List.set_cons_zero]
    refine wpO_as (.int .i64 m) rfl ?_
    simp only [Act.put, List.setIfInBounds_toArray, List.set_cons_succ, List.set_cons_zero]
    refine cw_seq good (cw_region good ?_)
    refine wpO_mv (.slice p la.length c) rfl ?_
    simp only [Act.put, List.setIfInBounds_toArray, List.set_cons_succ, List.set_cons_zero]
    refine wpO_val (ap1 _ _ _ rfl rfl rfl rfl) ?_
    simp only [Act.put, List.setIfInBounds_toArray, List.set_cons_succ, List.set_cons_zero]
    refine wpO_mv (.slice q lb.length d) rfl ?_
    simp only [Act.put, List.setIfInBounds_toArray, List.set_cons_succ, List.set_cons_zero]
    refine wpO_val (ap2 _ _ _ rfl rfl rfl rfl) ?_
    refine wpO_as (v17) rfl ?_
    simp only [Act.put, List.setIfInBounds_toArray, List.set_cons_succ, List.set_cons_zero]
    refine cw_seq good (cw_region good ?_)
    refine wpO_mv (valsV b1) rfl ?_
    refine wpO_mv (valsV b2) rfl ?_
    simp only [Act.put, List.setIfInBounds_toArray, List.set_cons_succ, List.set_cons_zero]
    refine wpO_val (run_slice3 (a := valsV b1) (b := .nilFunc) (c := valsV b2) rfl rfl rfl rfl rfl rfl rfl rfl rfl rfl rfl rfl) ?_
    rw [hqc, hA7]
    simp only [Act.put, List.setIfInBounds_toArray, List.set_cons_succ, List.set_cons_zero]
    refine wpO_call (f := 23) (first := #[]) (cap := #[]) (l := [.slice (some ⟨qc, 0, none⟩) 3 3]) (xs := #[.slice (some ⟨qc, 0, none⟩) 3 3]) ⟨rfl, rfl, rfl⟩ rfl rfl rfl ⟨_, _, c8, ?_⟩
    simp only [Act.put, List.setIfInBounds_toArray, List.set_cons_succ, List.set_cons_zero]
    refine wpO_as (chainV bc) rfl ?_
    simp only [Act.put, List.setIfInBounds_toArray, List.set_cons_succ, List.set_cons_zero]
    refine cw_seq good (cw_seq good (cw_region good ?_))
    refine wpO_as (.int .i64 (0 : Nat)) rfl ?_
    simp only [Act.put, List.setIfInBounds_toArray, List.set_cons_succ, List.set_cons_zero]
    refine cw_block good (cw_loop good ?_)
    refine all_loop2 hla hlb hn hcl hm h10 (fun A9 F9 _ _ _ _ _ _ _ _ _ _ _ _ _ _ _ _ _ _ _ _ _ _ _ _ _ _ _ _ _ _ _ _ _ _ _ _ _ _ _ _ _ _ _ _ _ _ _ _ _ _ _ _ _ _ _ _ _ _ _ _ => ?_)
    refine cw_seq good (cw_region good ?_)
    refine wpO_as (.bool true) rfl ?_
    exact cw_ret good (ret_one (.bool true) rfl rfl)
  obtain ⟨v, A', h1, rfl⟩ := this
  exact ⟨A', h1⟩
end Go.Proofs.Ytipomlcnmaldkaa
/-
  asterismlaw3.SeqAll answers true whatever it is handed, whatever the machine draws, and what it is handed reads behind the call as it did. No condition.
-/
namespace Go.Proofs.Ytipomlcnmaldkaa
open Go.ChangeShapes Go.WideShapes Go.ChangeAt Go.RowKit Go.Abs
theorem vs4 {ι : Ren} {a b c d a' b' c' d' : Value} (h : VRel Try.prog ι a a') (k : VRel Try.prog ι b b') (m : VRel Try.prog ι c c') (n : VRel Try.prog ι d d') : Vs Try.prog ι #[a, b, c, d] #[a', b', c', d'] := ⟨rfl, fun i x x' hx hx' => by
  match i, hx, hx' with
  | 0, hx, hx' => cases hx; cases hx'; exact h
  | 1, hx, hx' => cases hx; cases hx'; exact k
  | 2, hx, hx' => cases hx; cases hx'; exact m
  | 3, hx, hx' => cases hx; cases hx'; exact n
  | n + 4, hx, _ => simp at hx⟩
theorem rd_both {A : World} {p q : Option Addr} {l l' : List Int} (h : rd p l (fun _ => False) A) (h' : rd q l' (fun _ => False) A) : ((rd p l).sep (rd q l')) (fun _ => False) A := ⟨_, _, h, h', fun _ h => h.elim, fun b => by simp⟩
/-- The call, whatever it is handed. -/
theorem seqAll_calls {W : World} {v u : Value} {n k : Int} (hv : v = .slice none 0 0 ∨ ∃ a cap l, v = .slice (some a) (List.length l) cap ∧ l.length ≤ cap ∧ Lies W l a) (hu : u = .slice none 0 0 ∨ ∃ a cap l, u = .slice (some a) (List.length l) cap ∧ l.length ≤ cap ∧ Lies W l a) (hn : n < 9223372036854775808) :
    Calls Try.prog 6 #[v, u, .int .i64 n, .int .i64 k] W fun e W' => e = .returned (.bool true) ∧ Below W.heap.size W W' := by
  rcases hv with rfl | ⟨a, cap, l, rfl, hc, hL⟩ <;> rcases hu with rfl | ⟨a', cap', l', rfl, hc', hL'⟩
  · obtain ⟨A', h⟩ := all_call (n₀ := W.heap.size) (A := inW 3 []) (c := 0) (d := 0) (n := n) (k := k) (rd_both rd_none rd_none) (Nat.le_refl _) (Nat.le_refl _) hn
    exact ro_call h rfl (sim_in (ls := []) (fun p hp => by cases hp)) (vs4 (.slice0 _ _) (.slice0 _ _) (.int _ _) (.int _ _)) in_free in_ro
  · obtain ⟨A', h⟩ := all_call (n₀ := W.heap.size) (A := inW 3 [(l', a')]) (c := 0) (d := cap') (n := n) (k := k) (rd_both rd_none (in_rd (k := 0) (p := (l', a')) rfl)) (Nat.le_refl _) hc' hn
    exact ro_call h rfl (sim_in (ls := [(l', a')]) (fun p hp => by simp only [List.mem_cons, List.not_mem_nil, or_false] at hp; subst hp; exact hL')) (vs4 (.slice0 _ _) (in_slice (k := 0) (p := (l', a')) rfl hL') (.int _ _) (.int _ _)) in_free in_ro
  · obtain ⟨A', h⟩ := all_call (n₀ := W.heap.size) (A := inW 3 [(l, a)]) (c := cap) (d := 0) (n := n) (k := k) (rd_both (in_rd (k := 0) (p := (l, a)) rfl) rd_none) hc (Nat.le_refl _) hn
    exact ro_call h rfl (sim_in (ls := [(l, a)]) (fun p hp => by simp only [List.mem_cons, List.not_mem_nil, or_false] at hp; subst hp; exact hL)) (vs4 (in_slice (k := 0) (p := (l, a)) rfl hL) (.slice0 _ _) (.int _ _) (.int _ _)) in_free in_ro
  · obtain ⟨A', h⟩ := all_call (n₀ := W.heap.size) (A := inW 3 [(l, a), (l', a')]) (c := cap) (d := cap') (n := n) (k := k) (rd_both (in_rd (k := 0) (p := (l, a)) rfl) (in_rd (k := 1) (p := (l', a')) rfl)) hc hc' hn
    exact ro_call h rfl (sim_in (ls := [(l, a), (l', a')]) (fun p hp => by
      simp only [List.mem_cons, List.not_mem_nil, or_false] at hp
      rcases hp with rfl | rfl
      · exact hL
      · exact hL')) (vs4 (in_slice (k := 0) (p := (l, a)) rfl hL) (in_slice (k := 1) (p := (l', a')) rfl hL') (.int _ _) (.int _ _)) in_free in_ro

set_option maxRecDepth 100000 in
theorem seqAll_lifted (os : Os) (started : os.Started) (H : Type) (enc : TypeId × Value → H) :
    ReturnsInHanded {} Try.checked os 6 .any (Rows.seqAllSpec.pre6 enc Try.prog Try.f6 Rows.seqAllRow.domain false) (Rows.seqAllSpec.post enc Try.prog Try.f6 false true false false) := by
  refine returnsInHanded_of_change (C := Try.checked) own started (by kernel_rfl) Try.func6
    (ChangeSpec.witness6 (enc := enc) (C := Try.checked) false ⟨#[], #[.slice none 0 0, .slice none 0 0, .int .i64 0, .int .i64 0], []⟩ 8 (by kernel_rfl) (by kernel_rfl) (by kernel_rfl) (by kernel_rfl)) ?_
  intro W base args ds gs before hval0 hW hcnd _
  have hW' := hW
  obtain ⟨p, q, hA0, hV, rfl, hfz, hnd⟩ := hW
  have hA : DataW.TrodAll enc Try.prog W 0 (fun _ => true) true Try.f6.params.toList args.toList ds p := hA0
  rw [Try.params6] at hA
  obtain ⟨v, vs1, d, ds1, p1, q1, hargs, rfl, rfl, hd, hA1⟩ := trodAll_cons hA
  obtain ⟨u, vs2, e, ds2, p2, q2, rfl, rfl, rfl, he, hA2⟩ := trodAll_cons hA1
  obtain ⟨x, vs3, f, ds3, p3, q3, rfl, rfl, rfl, hf, hA3⟩ := trodAll_cons hA2
  obtain ⟨y, vs4, g, ds4, p4, q4, rfl, rfl, rfl, hg, hA4⟩ := trodAll_cons hA3
  obtain ⟨rfl, rfl, rfl⟩ := trodAll_nil hA4
  obtain ⟨rfl, rfl⟩ := trodVars_none hV
  have hargs : args = #[v, u, x, y] := by cases args; simp_all
  subst hargs
  have hv : Value.okWide Try.prog W .any base 22 v := hval0 0 22 v (by rw [Try.params6]; rfl) rfl
  have hu : Value.okWide Try.prog W .any base 22 u := hval0 1 22 u (by rw [Try.params6]; rfl) rfl
  have hx : Value.okWide Try.prog W .any base 3 x := hval0 2 3 x (by rw [Try.params6]; rfl) rfl
  have hy : Value.okWide Try.prog W .any base 3 y := hval0 3 3 y (by rw [Try.params6]; rfl) rfl
  obtain ⟨n, rfl, rfl, rfl, hwf⟩ := open_int Try.underlying3 hx hf
  obtain ⟨k, rfl, rfl, rfl, hwf'⟩ := open_int Try.underlying3 hy hg
  have hopen := open_ints Try.underlying22 Try.underlying3 (by kernel_rfl) hv hd
  have hopen' := open_ints Try.underlying22 Try.underlying3 (by kernel_rfl) hu he
  clear hA0 hval0
  simp only [List.append_nil] at hW'
  have hlt : ∀ x ∈ p1, x.block < W.heap.size := fun x hx => hW'.lt x (by simp [hx])
  have hlt' : ∀ x ∈ p2, x.block < W.heap.size := fun x hx => hW'.lt x (by simp [hx])
  refine (seqAll_calls hopen hopen' (lit_lt hwf).2).mono fun e' W' ⟨he', hB⟩ => ?_
  subst he'
  refine ⟨_, rfl, post_of_below (pa := p1 ++ (p2 ++ ([] ++ []))) (pv := []) hW' hB (fun _ _ _ => trodAll_mk1 (shut_bool Try.underlying4 true)) (fun sp hsp => ?_) (fun _ _ => rfl) (by simp)
    (ok_one (by kernel_rfl) rfl (okWide_bool_mk Try.underlying4 true))⟩
  show DataW.TrodAll enc Try.prog W' 0 sp true Try.f6.params.toList [v, u, .int .i64 n, .int .i64 k] [d, e, .lit (.int .i64 n), .lit (.int .i64 k)] (p1 ++ (p2 ++ ([] ++ [])))
  rw [Try.params6]
  exact ⟨p1, _, WideElems.Trod_stays laidOut (by kernel_rfl) (of_decide_eq_true (by kernel_rfl)) hd (fun x hx => hB.same (hlt x hx)) (fun x hx => hsp x (by simp [hx])),
    trodAll_mk3 (WideElems.Trod_stays laidOut (by kernel_rfl) (of_decide_eq_true (by kernel_rfl)) he (fun x hx => hB.same (hlt' x hx)) (fun x hx => hsp x (by simp [hx]))) (shut_int Try.underlying3 hwf) (shut_int Try.underlying3 hwf'), rfl⟩

theorem seqAll_holds : Rows.SeqAllSaid :=
  OpenClaim.holds_of_wide 6 Try.f6 rfl rfl rfl rfl rfl rfl rfl ⟨rfl, rfl, rfl, rfl, rfl⟩ rfl rfl rfl rfl rfl (by kernel_rfl) Try.func6 (by kernel_rfl)
    (of_decide_eq_true (by kernel_rfl)) (by unfold Func.isWrapper; first | (rw [if_pos (by decide +kernel)]; kernel_rfl) | (rw [if_neg (by decide +kernel)]; exact ⟨rfl, rfl⟩))
    (fun os started H enc _ => seqAll_lifted os started H enc)
end Go.Proofs.Ytipomlcnmaldkaa
