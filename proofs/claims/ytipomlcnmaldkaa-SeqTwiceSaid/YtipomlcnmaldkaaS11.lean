/-
  SeqTwice answers true, of any list that may be read and any two numbers. No condition.
-/
import Derived.Test.YtipomlcnmaldkaaS10
import Derived.Test.YtipomlcnmaldkaaS7
namespace Go.Proofs.Ytipomlcnmaldkaa
open Go.Abs
variable {n₀ : Nat}
set_option maxRecDepth 4000
def fnV (f : Nat) : Value := .func (.func f) #[] #[]
theorem rem_p2 : Ppec Try.prog n₀ (fnV 20) (fun x => x.tmod 2 == 0) := fun A x => by
  have : wpF Try.prog n₀ 20 #[.int .i64 x] (fun r A' => r = .bool (x.tmod 2 == 0) ∧ A' = A) A := by
    refine wpF_fn (ts := #[.int .i64 x, undef, undef, undef, undef, undef]) good ⟨rfl, rfl, rfl⟩ rfl ?_
    refine cw_seq good (cw_region good ?_)
    refine wpO_as (.bool false) rfl ?_
    refine cw_seq good (cw_region good ?_)
    refine wpO_mv (.int .i64 x) rfl ?_
    refine wpO_val (aop_int (k := .i64) (m := x) (n := 2) rfl rfl rfl rfl) ?_
    refine wpO_val (aop_int (k := .i64) (m := x.tmod 2) (n := 0) rfl rfl rfl rfl) ?_
    refine wpO_as (.bool (x.tmod 2 == 0)) rfl ?_
    exact cw_ret good (ret_one (.bool (x.tmod 2 == 0)) rfl ⟨rfl, rfl⟩)
  obtain ⟨v, A1, h1, rfl, rfl⟩ := this
  exact ⟨20, _, _, #[], #[], ⟨rfl, rfl, rfl⟩, rfl, h1⟩
theorem rem_p3 : Ppec Try.prog n₀ (fnV 21) (fun x => x.tmod 3 == 0) := fun A x => by
  have : wpF Try.prog n₀ 21 #[.int .i64 x] (fun r A' => r = .bool (x.tmod 3 == 0) ∧ A' = A) A := by
    refine wpF_fn (ts := #[.int .i64 x, undef, undef, undef, undef, undef]) good ⟨rfl, rfl, rfl⟩ rfl ?_
    refine cw_seq good (cw_region good ?_)
    refine wpO_as (.bool false) rfl ?_
    refine cw_seq good (cw_region good ?_)
    refine wpO_mv (.int .i64 x) rfl ?_
    refine wpO_val (aop_int (k := .i64) (m := x) (n := 3) rfl rfl rfl rfl) ?_
    refine wpO_val (aop_int (k := .i64) (m := x.tmod 3) (n := 0) rfl rfl rfl rfl) ?_
    refine wpO_as (.bool (x.tmod 3 == 0)) rfl ?_
    exact cw_ret good (ret_one (.bool (x.tmod 3 == 0)) rfl ⟨rfl, rfl⟩)
  obtain ⟨v, A1, h1, rfl, rfl⟩ := this
  exact ⟨21, _, _, #[], #[], ⟨rfl, rfl, rfl⟩, rfl, h1⟩
theorem rem_p6 : Ppec Try.prog n₀ (fnV 22) (fun x => x.tmod 6 == 0) := fun A x => by
  have : wpF Try.prog n₀ 22 #[.int .i64 x] (fun r A' => r = .bool (x.tmod 6 == 0) ∧ A' = A) A := by
    refine wpF_fn (ts := #[.int .i64 x, undef, undef, undef, undef, undef]) good ⟨rfl, rfl, rfl⟩ rfl ?_
    refine cw_seq good (cw_region good ?_)
    refine wpO_as (.bool false) rfl ?_
    refine cw_seq good (cw_region good ?_)
    refine wpO_mv (.int .i64 x) rfl ?_
    refine wpO_val (aop_int (k := .i64) (m := x) (n := 6) rfl rfl rfl rfl) ?_
    refine wpO_val (aop_int (k := .i64) (m := x.tmod 6) (n := 0) rfl rfl rfl rfl) ?_
    refine wpO_as (.bool (x.tmod 6 == 0)) rfl ?_
    exact cw_ret good (ret_one (.bool (x.tmod 6 == 0)) rfl ⟨rfl, rfl⟩)
  obtain ⟨v, A1, h1, rfl, rfl⟩ := this
  exact ⟨22, _, _, #[], #[], ⟨rfl, rfl, rfl⟩, rfl, h1⟩
theorem gives_frame {s : Value} {J R : Asn} {l : List Int} (H : Gives n₀ s J l) (hR : Owns R) : Gives n₀ s (J.sep R) l := by
  refine ⟨fun _ => Owns.sep (H.loc ()) hR, fun {α y I st} Hy {b0 a0 b1 a1 F A} h hr => ?_⟩
  have h1 : ((J.sep (I a0)).sep R) F A := Asn.assoc' (Asn.map' (Asn.assoc h) fun _ h => Asn.comm h)
  obtain ⟨A2, F2, c2, h2, S2⟩ := Asn.frame (Owns.sep (H.loc ()) (Hy.loc a0)) hR (Owns.sep (H.loc ()) (Hy.loc a1)) h1 (R := fun A2 => CallV Try.prog n₀ s #[y] A undef A2) (fun F1 h => H.run Hy (b1 := b1) h hr)
  exact ⟨A2, F2, c2, Asn.assoc' (Asn.map' (Asn.assoc h2) fun _ h => Asn.comm h), S2⟩
theorem add_add (a : Addr) (i j : Nat) : (a.add i).add j = a.add (i + j) := by
  unfold Addr.add
  by_cases hi : i = 0
  · subst hi; simp
  · by_cases hj : j = 0
    · subst hj; simp [hi]
    · simp [hi, hj, Nat.add_assoc]
theorem Rd_drop {A : World} {p : Option Addr} {l : List Int} {c x k : Nat} (h : Rd A p l) (hc : l.length ≤ c) : Rd A (if c = x then p else p.map (·.add (x * 1))) ((l.drop x).take k) := by
  intro i y hy
  rw [List.getElem?_take] at hy
  split at hy
  case isFalse => cases hy
  rw [List.getElem?_drop] at hy
  have hlt : x + i < l.length := (List.getElem?_eq_some_iff.1 hy).1
  obtain ⟨ad, rfl, hcell⟩ := h _ _ hy
  rw [if_neg (by omega)]
  refine ⟨_, rfl, ?_⟩
  rw [add_add]
  rw [show x * 1 + i * 1 = (x + i) * 1 by omega]
  exact hcell
theorem six (l : List Int) : (l.filter fun x => x.tmod 2 == 0).filter (fun x => x.tmod 3 == 0) = l.filter fun x => x.tmod 6 == 0 := by
  rw [List.filter_filter]
  congr 1
  funext x
  have e2 : (x.tmod 2 == 0) = decide ((2 : Int) ∣ x) := by rw [Bool.eq_iff_iff]; simp [Int.dvd_iff_tmod_eq_zero]
  have e3 : (x.tmod 3 == 0) = decide ((3 : Int) ∣ x) := by rw [Bool.eq_iff_iff]; simp [Int.dvd_iff_tmod_eq_zero]
  have e6 : (x.tmod 6 == 0) = decide ((6 : Int) ∣ x) := by rw [Bool.eq_iff_iff]; simp [Int.dvd_iff_tmod_eq_zero]
  rw [e2, e3, e6, ← Bool.decide_and, decide_eq_decide]
  omega
theorem between (l : List Int) (n k : Nat) : (l.drop (min n l.length)).take (min (min n l.length + min k l.length) l.length - min n l.length) = (l.drop n).take k := by
  by_cases h : n ≤ l.length
  · rw [Nat.min_eq_left h, List.take_eq_take_iff, List.length_drop]
    omega
  · rw [show l.drop n = [] from List.drop_eq_nil_of_le (by omega), show l.drop (min n l.length) = [] from List.drop_eq_nil_of_le (by omega)]
    simp

theorem twice_call {A : World} {F : Foot} {p : Option Addr} {l : List Int} {c : Nat} {n k : Int} (h : rd p l F A) (hc : l.length ≤ c) (hn : n < 9223372036854775808) (hk : k < 9223372036854775808) :
    ∃ A', SndCall Try.prog n₀ 5 #[.slice p l.length c, .int .i64 n, .int .i64 k] A (.bool true) A' := by
  have hlen : (l.take 30).length = min l.length 30 := by rw [List.length_take, Nat.min_comm]
  generalize hl' : l.take 30 = l' at hlen
  have h0 : rd p l' F A := hl' ▸ rd_take h
  have hl30 : l'.length ≤ 30 := by omega
  have hcut : SndCall Try.prog n₀ 9 #[.slice p l.length c, .int .i64 30] A (.slice p l'.length c) A := by rw [hlen]; exact cut_call hc h.2.2
  -- what comes one by one
  obtain ⟨b1, A1, F1, c1, h1, _⟩ := of_do (n₀ := n₀) (v := .slice p l'.length c) Owns.rd h0 rfl
  have g1 := vals_gives (n₀ := n₀) (b := b1) (p := p) (cap := c) (l := l') (by omega)
  have h1 : valsJ b1 p c l' () F1 A1 := h1
  generalize hJ1 : valsJ b1 p c l' () = J1 at h1 g1
  have o1 : Owns J1 := hJ1 ▸ Owns.sep Owns.cel Owns.rd
  -- skipped, taken
  obtain ⟨bn1, bs1, A2, F2, c2, h2, _⟩ := skip_do (n₀ := n₀) (s := valsV b1) (n := n) o1 h1 rfl
  have g2 := skip_gives (bn := bn1) (bs := bs1) g1 hn
  obtain ⟨bn2, bs2, A3, F3, c3, h3, _⟩ := take_do' (n₀ := n₀) (s := skipV bn1 bs1) (n := k) (g2.loc ()) h2 rfl
  have g3 := take_gives (bn := bn2) (bs := bs2) g2 hk
  obtain ⟨v1, A4, F4, c4, h4, _⟩ := gives_list g3 h3 (by simp only [List.length_take, List.length_drop]; omega)
  generalize hX : (l'.drop n.toNat).take k.toNat = X at h4
  have h4' := Asn.cat (l := [cel bn2 (.int .i64 k), cel bs2 (skipV bn1 bs1), cel bn1 (.int .i64 n), cel bs1 (valsV b1), J1]) (l' := [lstV 3 v1 X]) h4
  obtain ⟨F5, h5, _⟩ := Asn.drop (I := cel bn2 (.int .i64 k)) h4'
  obtain ⟨F6, h6, _⟩ := Asn.drop (I := cel bs2 (skipV bn1 bs1)) h5
  obtain ⟨F7, h7, _⟩ := Asn.drop (I := cel bn1 (.int .i64 n)) h6
  obtain ⟨F8, h8, _⟩ := Asn.drop (I := cel bs1 (valsV b1)) h7
  have h8 : (J1.sep (lstV 3 v1 X)) F8 A4 := h8
  have g4 := gives_frame g1 (R := lstV 3 v1 X) Owns.lstV
  -- kept twice
  obtain ⟨bs3, bf3, A5, F9, c5, h9, _⟩ := keep_do (n₀ := n₀) (s := valsV b1) (f := fnV 20) (g4.loc ()) h8 rfl rfl
  have g5 := keep_gives (bs := bs3) (bf := bf3) rem_p2 g4
  obtain ⟨bs4, bf4, A6, F10, c6, h10, _⟩ := keep_do (n₀ := n₀) (s := keepV bs3 bf3) (f := fnV 21) (g5.loc ()) h9 rfl rfl
  have g6 := keep_gives (bs := bs4) (bf := bf4) rem_p3 g5
  have hM : ∀ q : Int → Bool, (l'.filter q).length ≤ 30 := fun q => Nat.le_trans (List.length_filter_le _ _) hl30
  obtain ⟨v2, A7, F11, c7, h11, _⟩ := gives_list g6 h10 (by rw [six]; exact Nat.lt_of_le_of_lt (hM _) (by decide))
  rw [six] at h11
  have h11' := Asn.cat (l := [cel bs4 (keepV bs3 bf3), cel bf4 (fnV 21), cel bs3 (valsV b1), cel bf3 (fnV 20), J1, lstV 3 v1 X]) (l' := [lstV 3 v2 (l'.filter fun x => x.tmod 6 == 0)]) h11
  obtain ⟨F12, h12, _⟩ := Asn.drop (I := cel bs4 (keepV bs3 bf3)) h11'
  obtain ⟨F13, h13, _⟩ := Asn.drop (I := cel bf4 (fnV 21)) h12
  obtain ⟨F14, h14, _⟩ := Asn.drop (I := cel bs3 (valsV b1)) h13
  obtain ⟨F15, h15, _⟩ := Asn.drop (I := cel bf3 (fnV 20)) h14
  have h15 : (J1.sep ((lstV 3 v1 X).sep (lstV 3 v2 (l'.filter fun x => x.tmod 6 == 0)))) F15 A7 := h15
  have g7 := gives_frame g1 (R := (lstV 3 v1 X).sep (lstV 3 v2 (l'.filter fun x => x.tmod 6 == 0))) (Owns.sep Owns.lstV Owns.lstV)
  -- kept once
  obtain ⟨bs5, bf5, A8, F16, c8, h16, _⟩ := keep_do (n₀ := n₀) (s := valsV b1) (f := fnV 22) (g7.loc ()) h15 rfl rfl
  have g8 := keep_gives (bs := bs5) (bf := bf5) rem_p6 g7
  obtain ⟨v3, A9, F17, c9, h17, _⟩ := gives_list g8 h16 (Nat.lt_of_le_of_lt (hM _) (by decide))
  -- what was told
  obtain ⟨_, k1⟩ := Asn.right h15
  obtain ⟨_, k2⟩ := Asn.left k1
  obtain ⟨pv1, rfl, r1⟩ := lstV_rd k2
  obtain ⟨_, k3⟩ := Asn.left h15
  rw [← hJ1] at k3
  obtain ⟨_, k4⟩ := Asn.right k3
  obtain ⟨_, k5⟩ := Asn.left h17
  obtain ⟨_, k6⟩ := Asn.right k5
  obtain ⟨_, k6⟩ := Asn.right k6
  obtain ⟨_, k6⟩ := Asn.right k6
  obtain ⟨_, k6⟩ := Asn.right k6
  obtain ⟨pv2, rfl, r2⟩ := lstV_rd k6
  obtain ⟨_, k7⟩ := Asn.right h17
  obtain ⟨pv3, rfl, r3⟩ := lstV_rd k7
  have hxl : min n.toNat l'.length ≤ l'.length := Nat.min_le_right _ _
  have hX2 : (l'.drop (min n.toNat l'.length)).take (min (min n.toNat l'.length + min k.toNat l'.length) l'.length - min n.toNat l'.length) = X := (between l' n.toNat k.toNat).trans hX
  generalize hx : min n.toNat l'.length = x at hxl hX2
  generalize hz : min k.toNat l'.length = z at hX2
  have hzl : z ≤ l'.length := by omega
  generalize hy : min (x + z) l'.length = y at hX2
  have hxy : x ≤ y ∧ y ≤ l'.length := by omega
  have hXl : X.length = y - x := by rw [← hX2, List.length_take, List.length_drop]; omega
  have r0 : Rd A7 (if c = x then p else p.map (·.add (x * 1))) X := hX2 ▸ Rd_drop k4.2.1 (by omega)
  have e1 : SndCall Try.prog n₀ 15 #[.slice pv1 X.length X.length, .slice (if c = x then p else p.map (·.add (x * 1))) (y - x) (c - x)] A7 (.bool true) A7 := by
    rw [← hXl]; exact eq_true (by omega) r1 r0
  have e2 := eq_true (n₀ := n₀) (c := (l'.filter fun x => x.tmod 6 == 0).length) (d := (l'.filter fun x => x.tmod 6 == 0).length) (Nat.lt_of_le_of_lt (hM _) (by decide)) r2 r3
  have : wpF Try.prog n₀ 5 #[.slice p l.length c, .int .i64 n, .int .i64 k] (fun v A' => v = .bool true) A := by
    refine wpF_fn (ts := #[.slice p l.length c, .int .i64 n, .int .i64 k, undef, undef, undef, undef, undef, undef, undef, undef, undef, undef, undef, undef, undef, undef, undef, undef, undef, undef, undef, undef, undef, undef, undef, undef, undef, undef, undef, undef, undef, undef, undef, undef, undef, undef, undef, undef, undef, undef, undef, undef, undef, undef, undef, undef, undef, undef, undef, undef, undef, undef, undef, undef, undef, undef, undef, undef, undef, undef, undef]) good ⟨rfl, rfl, rfl⟩ (by kernel_rfl) ?_
    refine cw_seq good (cw_region good ?_)
    refine wpO_as (.bool false) rfl ?_
    simp only [Act.put, List.setIfInBounds_toArray, List.set_cons_succ, List.set_cons_zero]
    refine cw_seq good (cw_region good ?_)
    refine wpO_call (f := 8) (first := #[]) (cap := #[]) (l := []) (xs := #[]) ⟨rfl, rfl, rfl⟩ rfl rfl rfl ⟨_, _, begun_call, ?_⟩
    refine wpO_as (.bool true) rfl ?_
    simp only [Act.put, List.setIfInBounds_toArray, List.set_cons_succ, List.set_cons_zero]
    refine cw_seq good (cw_seq good (cw_region good ?_))
    refine wpO_mv (.bool true) rfl ?_
    refine wpO_val (aop_not (b := true) rfl rfl) ?_
    simp only [Act.put, List.setIfInBounds_toArray, List.set_cons_succ, List.set_cons_zero]
    refine cw_cond good false rfl (cw_skip good ?_)
    refine cw_seq good (cw_region good ?_)
    refine wpO_mv (.slice p l.length c) rfl ?_
    refine wpO_call (f := 9) (first := #[]) (cap := #[]) (l := [.slice p l.length c, .int .i64 30]) (xs := #[.slice p l.length c, .int .i64 30]) ⟨rfl, rfl, rfl⟩ rfl rfl rfl ⟨_, _, hcut, ?_⟩
    refine wpO_as (.slice p l'.length c) rfl ?_
    simp only [Act.put, List.setIfInBounds_toArray, List.set_cons_succ, List.set_cons_zero]
    refine cw_seq good (cw_seq good (cw_region good ?_))
    refine wpO_mv (.int .i64 n) rfl ?_
    by_cases hn0 : n < 0
    · refine wpO_val (aop_int (k := .i64) (m := n) (n := 0) (v := .bool true) rfl rfl rfl (by simp [intV, hn0])) ?_
      refine wpO_mv (.bool true) rfl ?_
      simp only [Act.put, List.setIfInBounds_toArray, List.set_cons_succ, List.set_cons_zero]
      refine wpO_not ?_
      refine wpO_not ?_
      refine wpO_val (aop_pick (b := true) rfl rfl) ?_
      simp only [Act.put, List.setIfInBounds_toArray, List.set_cons_succ, List.set_cons_zero]
      refine cw_cond good true rfl ?_
      refine cw_seq good (cw_region good ?_)
      refine wpO_as (.bool true) rfl ?_
      exact cw_ret good (ret_one (.bool true) rfl rfl)
    refine wpO_val (aop_int (k := .i64) (m := n) (n := 0) (v := .bool false) rfl rfl rfl (by simp [intV]; omega)) ?_
    refine wpO_mv (.bool false) rfl ?_
    simp only [Act.put, List.setIfInBounds_toArray, List.set_cons_succ, List.set_cons_zero]
    refine wpO_mv (.int .i64 k) rfl ?_
    refine wpO_val (aop_int (k := .i64) (m := k) (n := 0) rfl rfl rfl rfl) ?_
    refine wpO_val (aop_pick (b := false) rfl rfl) ?_
    simp only [Act.put, List.setIfInBounds_toArray, List.set_cons_succ, List.set_cons_zero]
    by_cases hk0 : k < 0
    · refine cw_cond good true (congrArg Value.bool (by simpa using hk0)) ?_
      refine cw_seq good (cw_region good ?_)
      refine wpO_as (.bool true) rfl ?_
      exact cw_ret good (ret_one (.bool true) rfl rfl)
    refine cw_cond good false (congrArg Value.bool (by simpa using hk0)) (cw_skip good ?_)
    refine cw_seq good (cw_region good ?_)
    refine wpO_mv (.slice p l'.length c) rfl ?_
    refine wpO_call (f := 11) (first := #[]) (cap := #[]) (l := [.slice p l'.length c]) (xs := #[.slice p l'.length c]) ⟨rfl, rfl, rfl⟩ rfl rfl rfl ⟨_, _, c1, ?_⟩
    refine wpO_as (valsV b1) rfl ?_
    simp only [Act.put, List.setIfInBounds_toArray, List.set_cons_succ, List.set_cons_zero]
    refine cw_seq good (cw_region good ?_)
    refine wpO_mv (.int .i64 n) rfl ?_
    refine wpO_mv (.slice p l'.length c) rfl ?_
    refine wpO_val (aop_len rfl rfl rfl rfl rfl) ?_
    refine wpO_val (aop_min (k := .i64) (m := n) (n := l'.length) rfl rfl rfl rfl) ?_
    rw [show (if (l'.length : Int) < n then (l'.length : Int) else n) = (x : Int) by split <;> omega]
    simp only [Act.put, List.setIfInBounds_toArray, List.set_cons_succ, List.set_cons_zero]
    refine wpO_as (.int .i64 x) rfl ?_
    simp only [Act.put, List.setIfInBounds_toArray, List.set_cons_succ, List.set_cons_zero]
    refine cw_seq good (cw_region good ?_)
    refine wpO_mv (.int .i64 x) rfl ?_
    refine wpO_mv (.int .i64 k) rfl ?_
    refine wpO_mv (.slice p l'.length c) rfl ?_
    refine wpO_val (aop_len rfl rfl rfl rfl rfl) ?_
    simp only [Act.put, List.setIfInBounds_toArray, List.set_cons_succ, List.set_cons_zero]
    refine wpO_val (aop_min (k := .i64) (m := k) (n := l'.length) rfl rfl rfl rfl) ?_
    rw [show (if (l'.length : Int) < k then (l'.length : Int) else k) = (z : Int) by split <;> omega]
    simp only [Act.put, List.setIfInBounds_toArray, List.set_cons_succ, List.set_cons_zero]
    refine wpO_val (aop_int (k := .i64) (m := x) (n := z) (v := .int .i64 (x + z : Nat)) rfl rfl rfl (intV_add (by omega) (by omega) (by omega))) ?_
    refine wpO_mv (.slice p l'.length c) rfl ?_
    refine wpO_val (aop_len rfl rfl rfl rfl rfl) ?_
    simp only [Act.put, List.setIfInBounds_toArray, List.set_cons_succ, List.set_cons_zero]
    refine wpO_val (aop_min (k := .i64) (m := (x + z : Nat)) (n := l'.length) rfl rfl rfl rfl) ?_
    rw [show (if (l'.length : Int) < ((x + z : Nat) : Int) then (l'.length : Int) else ((x + z : Nat) : Int)) = (y : Int) by split <;> omega]
    simp only [Act.put, List.setIfInBounds_toArray, List.set_cons_succ, List.set_cons_zero]
    refine wpO_as (.int .i64 y) rfl ?_
    simp only [Act.put, List.setIfInBounds_toArray, List.set_cons_succ, List.set_cons_zero]
    refine cw_seq good (cw_region good ?_)
    refine wpO_mv (valsV b1) rfl ?_
    refine wpO_mv (.int .i64 n) rfl ?_
    simp only [Act.put, List.setIfInBounds_toArray, List.set_cons_succ, List.set_cons_zero]
    refine wpO_call (f := 18) (first := #[]) (cap := #[]) (l := [valsV b1, .int .i64 n]) (xs := #[valsV b1, .int .i64 n]) ⟨rfl, rfl, rfl⟩ rfl rfl rfl ⟨_, _, c2, ?_⟩
    refine wpO_mv (.int .i64 k) rfl ?_
    simp only [Act.put, List.setIfInBounds_toArray, List.set_cons_succ, List.set_cons_zero]
    refine wpO_call (f := 14) (first := #[]) (cap := #[]) (l := [skipV bn1 bs1, .int .i64 k]) (xs := #[skipV bn1 bs1, .int .i64 k]) ⟨rfl, rfl, rfl⟩ rfl rfl rfl ⟨_, _, c3, ?_⟩
    simp only [Act.put, List.setIfInBounds_toArray, List.set_cons_succ, List.set_cons_zero]
    refine wpO_call (f := 13) (first := #[]) (cap := #[]) (l := [takeV bn2 bs2]) (xs := #[takeV bn2 bs2]) ⟨rfl, rfl, rfl⟩ rfl rfl rfl ⟨_, _, c4, ?_⟩
    refine wpO_as (.slice pv1 X.length X.length) rfl ?_
    simp only [Act.put, List.setIfInBounds_toArray, List.set_cons_succ, List.set_cons_zero]
    refine cw_seq good (cw_region good ?_)
    refine wpO_mv (valsV b1) rfl ?_
    simp only [Act.put, List.setIfInBounds_toArray, List.set_cons_succ, List.set_cons_zero]
    refine wpO_call (f := 19) (first := #[]) (cap := #[]) (l := [valsV b1, fnV 20]) (xs := #[valsV b1, fnV 20]) ⟨rfl, rfl, rfl⟩ rfl rfl rfl ⟨_, _, c5, ?_⟩
    simp only [Act.put, List.setIfInBounds_toArray, List.set_cons_succ, List.set_cons_zero]
    refine wpO_call (f := 19) (first := #[]) (cap := #[]) (l := [keepV bs3 bf3, fnV 21]) (xs := #[keepV bs3 bf3, fnV 21]) ⟨rfl, rfl, rfl⟩ rfl rfl rfl ⟨_, _, c6, ?_⟩
    simp only [Act.put, List.setIfInBounds_toArray, List.set_cons_succ, List.set_cons_zero]
    refine wpO_call (f := 13) (first := #[]) (cap := #[]) (l := [keepV bs4 bf4]) (xs := #[keepV bs4 bf4]) ⟨rfl, rfl, rfl⟩ rfl rfl rfl ⟨_, _, c7, ?_⟩
    refine wpO_as (.slice pv2 (l'.filter fun x => x.tmod 6 == 0).length (l'.filter fun x => x.tmod 6 == 0).length) rfl ?_
    simp only [Act.put, List.setIfInBounds_toArray, List.set_cons_succ, List.set_cons_zero]
    refine cw_seq good (cw_region good ?_)
    refine wpO_mv (.slice pv1 X.length X.length) rfl ?_
    refine wpO_mv (.slice p l'.length c) rfl ?_
    refine wpO_mv (.int .i64 x) rfl ?_
    refine wpO_mv (.int .i64 y) rfl ?_
    simp only [Act.put, List.setIfInBounds_toArray, List.set_cons_succ, List.set_cons_zero]
    refine wpO_val (aop_slice (k := .i64) (l := x) (h := y) rfl rfl rfl rfl (.inr rfl) rfl hxy.1 (by omega) (by omega) fun a ha => ro_block (k4.2.2 a ha)) ?_
    simp only [Act.put, List.setIfInBounds_toArray, List.set_cons_succ, List.set_cons_zero]
    refine wpO_call (f := 15) (first := #[]) (cap := #[]) (l := [.slice pv1 X.length X.length, .slice (if c = x then p else p.map (·.add (x * 1))) (y - x) (c - x)]) (xs := #[.slice pv1 X.length X.length, .slice (if c = x then p else p.map (·.add (x * 1))) (y - x) (c - x)]) ⟨rfl, rfl, rfl⟩ rfl rfl rfl ⟨_, _, e1, ?_⟩
    simp only [Act.put, List.setIfInBounds_toArray, List.set_cons_succ, List.set_cons_zero]
    refine wpO_mv (.bool true) rfl ?_
    simp only [Act.put, List.setIfInBounds_toArray, List.set_cons_succ, List.set_cons_zero]
    refine wpO_mv (.slice pv2 (l'.filter fun x => x.tmod 6 == 0).length (l'.filter fun x => x.tmod 6 == 0).length) rfl ?_
    refine wpO_mv (valsV b1) rfl ?_
    simp only [Act.put, List.setIfInBounds_toArray, List.set_cons_succ, List.set_cons_zero]
    refine wpO_call (f := 19) (first := #[]) (cap := #[]) (l := [valsV b1, fnV 22]) (xs := #[valsV b1, fnV 22]) ⟨rfl, rfl, rfl⟩ rfl rfl rfl ⟨_, _, c8, ?_⟩
    simp only [Act.put, List.setIfInBounds_toArray, List.set_cons_succ, List.set_cons_zero]
    refine wpO_call (f := 13) (first := #[]) (cap := #[]) (l := [keepV bs5 bf5]) (xs := #[keepV bs5 bf5]) ⟨rfl, rfl, rfl⟩ rfl rfl rfl ⟨_, _, c9, ?_⟩
    simp only [Act.put, List.setIfInBounds_toArray, List.set_cons_succ, List.set_cons_zero]
    refine wpO_call (f := 15) (first := #[]) (cap := #[]) (l := [.slice pv2 (l'.filter fun x => x.tmod 6 == 0).length (l'.filter fun x => x.tmod 6 == 0).length, .slice pv3 (l'.filter fun x => x.tmod 6 == 0).length (l'.filter fun x => x.tmod 6 == 0).length]) (xs := #[.slice pv2 (l'.filter fun x => x.tmod 6 == 0).length (l'.filter fun x => x.tmod 6 == 0).length, .slice pv3 (l'.filter fun x => x.tmod 6 == 0).length (l'.filter fun x => x.tmod 6 == 0).length]) ⟨rfl, rfl, rfl⟩ rfl rfl rfl ⟨_, _, e2, ?_⟩
    refine wpO_val (aop_pick (b := true) rfl rfl) ?_
    simp only [Act.put, List.setIfInBounds_toArray, List.set_cons_succ, List.set_cons_zero]
    refine wpO_as (.bool true) rfl ?_
    exact cw_ret good (ret_one (.bool true) rfl rfl)
  obtain ⟨v, A', h1, rfl⟩ := this
  exact ⟨A', h1⟩
end Go.Proofs.Ytipomlcnmaldkaa
