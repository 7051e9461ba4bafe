/-
  bitmap.Of, bitmap.Span. No condition.
-/
import Derived.Test.YtfkdkfleaiaoiaaM2
namespace Go.Proofs.Ytfkdkfleaiaoiaa
open Go.Abs
variable {n₀ : Nat}
set_option maxRecDepth 8000
theorem of_take {L : List Int} {k : Nat} {x : Int} (h : L[k]? = some x) : ofL (L.take (k + 1)) = if 0 ≤ x ∧ x < 65536 then addSp (ofL (L.take k)) x (x + 1) else ofL (L.take k) := by
  obtain ⟨hk, e⟩ := List.getElem?_eq_some_iff.1 h
  unfold ofL
  rw [List.take_succ_eq_append_getElem hk, List.foldl_append, e]
  rfl
set_option maxHeartbeats 8000000 in
/-- bitmap.Of. -/
theorem of_call {l : List Int} {J : Asn} {F : Foot} {A : World} {p : Option Addr} {c : Nat} (hJ : Owns J) (h : J F A) (hp : p = none → l = [] ∧ c = 0) (hr : Rd A p l) (hro : ∀ ad, p = some ad → RoB A ad.block) (hlen : l.length ≤ 60) :
    ∃ v A' F', SndCall Try.prog n₀ 11 #[.slice p l.length c] A (.agg #[v]) A' ∧ ((spans v (ofL (sorted l))).sep J) F' A' ∧ Step F A F' A' := by
  obtain ⟨F1, h1, S1⟩ := Asn.new hJ h (.slice none 0 0) 27
  generalize hq2 : A.heap.size = q2 at h1
  generalize hA1 : A.alloc (.cells #[.slice none 0 0] 27 (0, 0)) = A1 at h1 S1
  have hr1 : Rd A1 p l := fun i x hx => by
    obtain ⟨ad, e, hc⟩ := hr i x hx
    refine ⟨ad, e, (cell_eq (A := A) (A' := A1) ?_).trans hc⟩
    rw [add_block]
    exact S1.ro _ (hro ad e)
  obtain ⟨v0, A2, F2, c2, h2, S2⟩ := clone_call (n₀ := n₀) (c := c) (Owns.sep Owns.cel hJ) h1 hp hr1 (fun ad e => (hro ad e).kept S1.ro) (by omega)
  obtain ⟨A3, c3, h3, S3⟩ := sort_call (n₀ := n₀) (Owns.sep Owns.cel hJ) h2 (by omega)
  have hL : (sorted l).length ≤ 60 := by rw [sorted_len]; exact hlen
  generalize sorted l = L at h3 hL ⊢
  obtain ⟨_, k3⟩ := Asn.left h3
  obtain ⟨pv, rfl, _⟩ := own3_rd k3
  obtain ⟨F4, h4, S4⟩ := Asn.new (Owns.sep Owns.own3 (Owns.sep Owns.cel hJ)) h3 (.slice none 0 0) 27
  generalize hq3 : A3.heap.size = q3 at h4
  generalize hA4 : A3.alloc (.cells #[.slice none 0 0] 27 (0, 0)) = A4 at h4 S4
  have h5 : Asn.all [cel q3 (.slice none 0 0), spans (.slice none 0 0) ([]), own3 (.slice pv L.length L.length) L, cel q2 (.slice none 0 0), J] F4 A4 := Asn.perm [spans (.slice none 0 0) [], cel q3 (.slice none 0 0), own3 (.slice pv L.length L.length) L, cel q2 (.slice none 0 0), J] [1, 0, 2, 3, 4] ⟨fun _ => False, F4, .inl ⟨rfl, rfl, fun _ h => h⟩, h4, fun _ h => h.elim, fun b => by simp⟩ (by decide)
  suffices hw : wpF Try.prog n₀ 11 #[.slice p l.length c] (fun r A' => ∃ v F', r = .agg #[v] ∧ ((spans v (ofL L)).sep J) F' A' ∧ Step F A F' A') A by
    obtain ⟨r, A', h1, v, F', rfl, h2, h3⟩ := hw
    exact ⟨v, A', F', h1, h2, h3⟩
  refine wpF_fn (ts := #[.slice p l.length c, undef, undef, undef, undef, undef, undef, undef, undef, undef, undef, undef, undef, undef, undef, undef, undef, undef, undef, undef, undef, undef, undef, undef, undef, undef, undef, undef]) good ⟨rfl, rfl, rfl⟩ (by kernel_rfl) ?_
  refine cw_seq good (cw_region good ?_)
  refine wpO_val (aop_allocT (cs := #[.slice none 0 0]) rfl rfl rfl rfl) ?_
  rw [hq2, hA1]
  simp only [Act.put, List.setIfInBounds_toArray, List.set_cons_succ, List.set_cons_zero]
  refine cw_seq good (cw_region good ?_)
  refine wpO_mv (.slice p l.length c) (by kernel_rfl) ?_
  simp only [Act.put, List.setIfInBounds_toArray, List.set_cons_succ, List.set_cons_zero]
  refine wpO_call (f := 31) (first := #[]) (cap := #[]) (l := [.slice p l.length c]) (xs := #[.slice p l.length c]) ⟨rfl, rfl, rfl⟩ rfl (by kernel_rfl) rfl ⟨_, _, c2, ?_⟩
  simp only [Act.put, List.setIfInBounds_toArray, List.set_cons_succ, List.set_cons_zero]
  refine wpO_as (.slice pv L.length L.length) (by kernel_rfl) ?_
  simp only [Act.put, List.setIfInBounds_toArray, List.set_cons_zero]
  refine cw_seq good (cw_region good ?_)
  refine wpO_mv (.slice pv L.length L.length) (by kernel_rfl) ?_
  simp only [Act.put, List.setIfInBounds_toArray, List.set_cons_succ, List.set_cons_zero]
  refine wpO_call (f := 32) (first := #[]) (cap := #[]) (l := [.slice pv L.length L.length]) (xs := #[.slice pv L.length L.length]) ⟨rfl, rfl, rfl⟩ rfl (by kernel_rfl) rfl ⟨_, _, c3, ?_⟩
  simp only [Act.put, List.setIfInBounds_toArray, List.set_cons_succ, List.set_cons_zero]
  refine cw_seq good (cw_region good ?_)
  refine wpO_val (aop_allocT (cs := #[.slice none 0 0]) rfl rfl rfl rfl) ?_
  rw [hq3, hA4]
  simp only [Act.put, List.setIfInBounds_toArray, List.set_cons_succ, List.set_cons_zero]
  refine cw_seq good (cw_seq good (cw_region good ?_))
  refine wpO_mv (.slice pv L.length L.length) (by kernel_rfl) ?_
  refine wpO_val (aop_lenV (b := pv) (len := L.length) (cap := L.length) rfl rfl rfl rfl (by kernel_rfl) rfl) ?_
  refine wpO_mv (.int .i64 (0 : Nat)) (by kernel_rfl) ?_
  simp only [Act.put, List.setIfInBounds_toArray, List.set_cons_succ, List.set_cons_zero]
  refine cw_block good (cw_loop good ?_)
  refine wpL_ind (fun nn e A' => ∃ (k : Nat) (vs : Value) (F' : Foot) (zz : Nat → Value), nn = L.length - k ∧ k ≤ L.length ∧ Asn.all [cel q3 vs, spans vs (ofL (L.take k)), own3 (.slice pv L.length L.length) L, cel q2 (.slice none 0 0), J] F' A' ∧ Step F A F' A' ∧ e = ⟨#[.slice pv L.length L.length, undef, ptr q2, ptr q3, undef, (zz 5), .slice p l.length c, .slice pv L.length L.length, .slice pv L.length L.length, undef, .slice pv L.length L.length, .int .i64 L.length, .int .i64 k, (zz 13), (zz 14), (zz 15), (zz 16), (zz 17), (zz 18), (zz 19), (zz 20), (zz 21), (zz 22), (zz 23), (zz 24), (zz 25), (zz 26), undef], []⟩) ?_ L.length _ _ ⟨0, .slice none 0 0, F4, (fun ix => (⟨#[.slice pv L.length L.length, undef, ptr q2, ptr q3, undef, undef, .slice p l.length c, .slice pv L.length L.length, .slice pv L.length L.length, undef, .slice pv L.length L.length, .int .i64 L.length, .int .i64 (0 : Nat), undef, undef, undef, undef, undef, undef, undef, undef, undef, undef, undef, undef, undef, undef, undef], []⟩ : Act).tmps.getD ix undef), rfl, by omega, h5, S1.trans (S2.trans (S3.trans S4)), by kernel_rfl⟩
  rintro nn _ A' ⟨k, vs, F', zz, rfl, hk, h, hS, rfl⟩
  by_cases hlt : k < L.length
  case neg =>
    refine cw_seq good (cw_region good ?_)
    refine wpO_val (aop_int (k := .i64) (m := k) (n := L.length) (v := .bool false) rfl (by kernel_rfl) (by kernel_rfl) (by simp [intV]; omega)) ?_
    simp only [Act.put, List.setIfInBounds_toArray, List.set_cons_succ, List.set_cons_zero]
    refine cw_seq good (cw_cond good false (by kernel_rfl) (cw_exit good ?_))
    obtain rfl : k = L.length := by omega
    rw [List.take_length] at h
    obtain ⟨_, hc3⟩ := Asn.left h
    obtain ⟨_, t3, hb3⟩ := hc3
    have h6 := Asn.perm [cel q3 vs, spans vs (ofL L), own3 (.slice pv L.length L.length) L, cel q2 (.slice none 0 0), J] [3, 0, 1, 2, 4] h (by decide)
    refine cw_seq good (cw_region good ?_)
    refine wpO_val (aop_loadT (n := 1) (p := ⟨q3, 0, none⟩) (xs := #[vs]) rfl (by kernel_rfl) rfl hb3 rfl (Nat.le_refl 1) rfl) ?_
    simp only [Act.put, List.setIfInBounds_toArray, List.set_cons_succ, List.set_cons_zero]
    have ho : isOne vs = true := by
      obtain ⟨_, hk⟩ := Asn.left (Asn.perm [cel q3 vs, spans vs (ofL L), own3 (.slice pv L.length L.length) L, cel q2 (.slice none 0 0), J] [1, 0, 2, 3, 4] h (by decide))
      obtain ⟨_, rfl⟩ := spans_val hk
      rfl
    obtain ⟨h7, S7⟩ := Asn.put (Owns.sep Owns.cel (Owns.sep Owns.spans (Owns.sep Owns.own3 hJ))) h6 vs
    refine wpO_unit (aop_storeT1 (p := ⟨q2, 0, none⟩) (v := vs) rfl (by kernel_rfl) (by kernel_rfl) rfl ho (Asn.get h6) (Asn.soft h6)) ?_
    simp only [Act.put]
    obtain ⟨_, hc2⟩ := Asn.left h7
    obtain ⟨_, t2, hb2⟩ := hc2
    obtain ⟨F8, h8, S8⟩ := Asn.drop h7
    obtain ⟨F9, h9, S9⟩ := Asn.drop h8
    obtain ⟨F10, h10, S10⟩ := Asn.drop (Asn.swap h9)
    exact cw_ret good (ret_cell (t := 2) (u := 27) (b := q2) rfl (by kernel_rfl) rfl hb2 ⟨vs, F10, rfl, h10, hS.trans (S7.trans (S8.trans (S9.trans S10)))⟩)
  obtain ⟨x, hx⟩ : ∃ x, L[k]? = some x := ⟨_, List.getElem?_eq_getElem hlt⟩
  have hot := of_take hx
  have hol := of_len (L.take k)
  rw [List.length_take] at hol
  obtain ⟨_, k4⟩ := Asn.left (Asn.perm [cel q3 vs, spans vs (ofL (L.take k)), own3 (.slice pv L.length L.length) L, cel q2 (.slice none 0 0), J] [2, 0, 1, 3, 4] h (by decide))
  obtain ⟨p', e, hr4⟩ := own3_rd k4
  injection e with e1 _ _
  subst e1
  obtain ⟨ad, rfl, hcx⟩ := hr4 k x hx
  refine cw_seq good (cw_region good ?_)
  refine wpO_val (aop_int (k := .i64) (m := k) (n := L.length) (v := .bool true) rfl (by kernel_rfl) (by kernel_rfl) (by simp [intV]; omega)) ?_
  simp only [Act.put, List.setIfInBounds_toArray, List.set_cons_succ, List.set_cons_zero]
  refine cw_seq good (cw_cond good true (by kernel_rfl) (cw_skip good ?_))
  refine cw_seq good (cw_block good (cw_seq good (cw_region good ?_)))
  refine wpO_val (aop_index (k := .i64) (len := L.length) (cap := L.length) (i := k) (p := ad) rfl (by kernel_rfl) (by kernel_rfl) rfl rfl hlt) ?_
  refine wpO_val (aop_load (v := .int .i64 x) rfl (by kernel_rfl) rfl hcx) ?_
  refine wpO_as (.int .i64 x) (by kernel_rfl) ?_
  simp only [Act.put, List.setIfInBounds_toArray, List.set_cons_succ, List.set_cons_zero]
  refine cw_seq good (cw_region good ?_)
  refine wpO_mv (.int .i64 x) (by kernel_rfl) ?_
  refine wpO_val (aop_int (k := .i64) (m := x) (n := 0) (v := .bool (decide (x ≥ 0))) rfl (by kernel_rfl) (by kernel_rfl) rfl) ?_
  simp only [Act.put, List.setIfInBounds_toArray, List.set_cons_succ, List.set_cons_zero]
  by_cases hx0 : 0 ≤ x
  case neg =>
    rw [show decide (x ≥ 0) = false from decide_eq_false hx0]
    refine wpO_mv (.bool false) (by kernel_rfl) ?_
    simp only [Act.put, List.setIfInBounds_toArray, List.set_cons_succ, List.set_cons_zero]
    with_reducible refine wpO_not ?_ (hw := by kernel_rfl)
    with_reducible refine wpO_not ?_ (hw := by kernel_rfl)
    refine wpO_val (aop_picks (b := false) (v := .bool false) rfl (by kernel_rfl) (by kernel_rfl)) ?_
    simp only [Act.put, List.setIfInBounds_toArray, List.set_cons_succ, List.set_cons_zero]
    refine cw_cond good false (by kernel_rfl) (cw_skip good ?_)
    refine cw_region good ?_
    refine wpO_val (aop_int (k := .i64) (m := k) (n := 1) (v := .int .i64 (k + 1 : Nat)) rfl (by kernel_rfl) (by kernel_rfl) (intV_add (by omega) (by omega) (by omega))) ?_
    refine wpO_mv (.int .i64 (k + 1 : Nat)) (by kernel_rfl) ?_
    simp only [Act.put, List.setIfInBounds_toArray, List.set_cons_succ, List.set_cons_zero]
    exact ⟨L.length - (k + 1), by omega, k + 1, vs, F', (fun ix => (⟨#[.slice (some ad) L.length L.length, undef, ptr q2, ptr q3, undef, .int .i64 x, .slice p l.length c, .slice (some ad) L.length L.length, .slice (some ad) L.length L.length, undef, .slice (some ad) L.length L.length, .int .i64 L.length, .int .i64 (k + 1 : Nat), .bool true, .pointer (some (ad.add (k * 1))), .int .i64 x, .int .i64 x, .bool false, .bool false, undef, undef, .bool false, (zz 22), (zz 23), (zz 24), (zz 25), .int .i64 (k + 1 : Nat), undef], []⟩ : Act).tmps.getD ix undef), rfl, by omega, by rw [hot, if_neg (fun hh => hx0 hh.1)]; exact h, hS, by kernel_rfl⟩
  rw [show decide (x ≥ 0) = true from decide_eq_true hx0]
  refine wpO_mv (.bool true) (by kernel_rfl) ?_
  simp only [Act.put, List.setIfInBounds_toArray, List.set_cons_succ, List.set_cons_zero]
  with_reducible refine wpO_mv (.int .i64 x) (by kernel_rfl) ?_ (hw := by kernel_rfl)
  simp only [Act.put, List.setIfInBounds_toArray, List.set_cons_succ, List.set_cons_zero]
  with_reducible refine wpO_val (v := .bool (decide (x < 65536))) (A1 := A') ?_ ?_ (hw := by kernel_rfl)
  · exact aop_int (k := .i64) (m := x) (n := 65536) (v := .bool (decide (x < 65536))) rfl (by kernel_rfl) (by kernel_rfl) rfl
  refine wpO_val (aop_picks (b := true) (v := .bool (decide (x < 65536))) rfl (by kernel_rfl) (by kernel_rfl)) ?_
  simp only [Act.put, List.setIfInBounds_toArray, List.set_cons_succ, List.set_cons_zero]
  by_cases hx1 : x < 65536
  · refine cw_cond good true (congrArg Value.bool (decide_eq_true hx1)) ?_
    obtain ⟨vs', A5, F5, c5, h6, S6⟩ := add_call (n₀ := n₀) (f := x) (t := x + 1) (Owns.sep Owns.own3 (Owns.sep Owns.cel hJ)) (by omega) h
    refine cw_region good ?_
    refine wpO_mv (.int .i64 x) (by kernel_rfl) ?_
    refine wpO_mv (.int .i64 x) (by kernel_rfl) ?_
    refine wpO_val (aop_int (k := .i64) (m := x) (n := 1) (v := .int .i64 (x + 1)) rfl (by kernel_rfl) (by kernel_rfl) (intV_add rfl (by omega) (by omega))) ?_
    simp only [Act.put, List.setIfInBounds_toArray, List.set_cons_succ, List.set_cons_zero]
    refine wpO_call (f := 33) (first := #[]) (cap := #[]) (l := [ptr q3, .int .i64 x, .int .i64 (x + 1)]) (xs := #[ptr q3, .int .i64 x, .int .i64 (x + 1)]) ⟨rfl, rfl, rfl⟩ rfl (by kernel_rfl) rfl ⟨_, _, c5, ?_⟩
    simp only [Act.put, List.setIfInBounds_toArray, List.set_cons_succ, List.set_cons_zero]
    refine cw_region good ?_
    refine wpO_val (aop_int (k := .i64) (m := k) (n := 1) (v := .int .i64 (k + 1 : Nat)) rfl (by kernel_rfl) (by kernel_rfl) (intV_add (by omega) (by omega) (by omega))) ?_
    refine wpO_mv (.int .i64 (k + 1 : Nat)) (by kernel_rfl) ?_
    simp only [Act.put, List.setIfInBounds_toArray, List.set_cons_succ, List.set_cons_zero]
    exact ⟨L.length - (k + 1), by omega, k + 1, vs', F5, (fun ix => (⟨#[.slice (some ad) L.length L.length, undef, ptr q2, ptr q3, undef, .int .i64 x, .slice p l.length c, .slice (some ad) L.length L.length, .slice (some ad) L.length L.length, undef, .slice (some ad) L.length L.length, .int .i64 L.length, .int .i64 (k + 1 : Nat), .bool true, .pointer (some (ad.add (k * 1))), .int .i64 x, .int .i64 x, .bool true, .bool true, .int .i64 x, .bool (decide (x < 65536)), .bool (decide (x < 65536)), .int .i64 x, .int .i64 x, .int .i64 (x + 1), undef, .int .i64 (k + 1 : Nat), undef], []⟩ : Act).tmps.getD ix undef), rfl, by omega, by rw [hot, if_pos ⟨hx0, hx1⟩]; exact h6, hS.trans S6, by kernel_rfl⟩
  · refine cw_cond good false (congrArg Value.bool (decide_eq_false hx1)) (cw_skip good ?_)
    refine cw_region good ?_
    refine wpO_val (aop_int (k := .i64) (m := k) (n := 1) (v := .int .i64 (k + 1 : Nat)) rfl (by kernel_rfl) (by kernel_rfl) (intV_add (by omega) (by omega) (by omega))) ?_
    refine wpO_mv (.int .i64 (k + 1 : Nat)) (by kernel_rfl) ?_
    simp only [Act.put, List.setIfInBounds_toArray, List.set_cons_succ, List.set_cons_zero]
    exact ⟨L.length - (k + 1), by omega, k + 1, vs, F', (fun ix => (⟨#[.slice (some ad) L.length L.length, undef, ptr q2, ptr q3, undef, .int .i64 x, .slice p l.length c, .slice (some ad) L.length L.length, .slice (some ad) L.length L.length, undef, .slice (some ad) L.length L.length, .int .i64 L.length, .int .i64 (k + 1 : Nat), .bool true, .pointer (some (ad.add (k * 1))), .int .i64 x, .int .i64 x, .bool true, .bool true, .int .i64 x, .bool (decide (x < 65536)), .bool (decide (x < 65536)), (zz 22), (zz 23), (zz 24), (zz 25), .int .i64 (k + 1 : Nat), undef], []⟩ : Act).tmps.getD ix undef), rfl, by omega, by rw [hot, if_neg (fun hh => hx1 hh.2)]; exact h, hS, by kernel_rfl⟩
set_option maxHeartbeats 8000000 in
/-- bitmap.Span. -/
theorem span_call {from_ to_ : Int} {J : Asn} {F : Foot} {A : World} (hJ : Owns J) (h : J F A) :
    ∃ v A' F', SndCall Try.prog n₀ 27 #[.int .i64 from_, .int .i64 to_] A (.agg #[v]) A' ∧ ((spans v (addSp [] (if from_ < 0 then 0 else from_) (if (65536 : Int) < to_ then 65536 else to_))).sep J) F' A' ∧ Step F A F' A' := by
  obtain ⟨F1, h1, S1⟩ := Asn.new hJ h (.slice none 0 0) 27
  generalize hq4 : A.heap.size = q4 at h1
  generalize hA1 : A.alloc (.cells #[.slice none 0 0] 27 (0, 0)) = A1 at h1 S1
  obtain ⟨F2, h2, S2⟩ := Asn.new (Owns.sep Owns.cel hJ) h1 (.slice none 0 0) 27
  generalize hq5 : A1.heap.size = q5 at h2
  generalize hA2 : A1.alloc (.cells #[.slice none 0 0] 27 (0, 0)) = A2 at h2 S2
  have h3 : Asn.all [cel q5 (.slice none 0 0), spans (.slice none 0 0) [], cel q4 (.slice none 0 0), J] F2 A2 := Asn.perm [spans (.slice none 0 0) [], cel q5 (.slice none 0 0), cel q4 (.slice none 0 0), J] [1, 0, 2, 3] ⟨fun _ => False, F2, .inl ⟨rfl, rfl, fun _ h => h⟩, h2, fun _ h => h.elim, fun b => by simp⟩ (by decide)
  obtain ⟨vs, A3, F3, c3, h4, S3⟩ := add_call (n₀ := n₀) (f := (if from_ < 0 then 0 else from_)) (t := (if (65536 : Int) < to_ then 65536 else to_)) (Owns.sep Owns.cel hJ) (by decide) h3
  generalize addSp [] (if from_ < 0 then 0 else from_) (if (65536 : Int) < to_ then 65536 else to_) = m at h4 ⊢
  obtain ⟨_, hc3⟩ := Asn.left h4
  obtain ⟨_, t3, hb3⟩ := hc3
  have h6 := Asn.perm [cel q5 vs, spans vs m, cel q4 (.slice none 0 0), J] [2, 0, 1, 3] h4 (by decide)
  have ho : isOne vs = true := by
    obtain ⟨_, hk⟩ := Asn.left (Asn.perm [cel q5 vs, spans vs m, cel q4 (.slice none 0 0), J] [1, 0, 2, 3] h4 (by decide))
    obtain ⟨_, rfl⟩ := spans_val hk
    rfl
  obtain ⟨h7, S7⟩ := Asn.put (Owns.sep Owns.cel (Owns.sep Owns.spans hJ)) h6 vs
  obtain ⟨_, hc2⟩ := Asn.left h7
  obtain ⟨_, t2, hb2⟩ := hc2
  obtain ⟨F8, h8, S8⟩ := Asn.drop h7
  obtain ⟨F9, h9, S9⟩ := Asn.drop h8
  suffices hw : wpF Try.prog n₀ 27 #[.int .i64 from_, .int .i64 to_] (fun r A' => r = .agg #[vs] ∧ A' = A3.setCell ⟨q4, 0, none⟩ vs) A by
    obtain ⟨r, A', h1, rfl, rfl⟩ := hw
    exact ⟨vs, _, F9, h1, h9, S1.trans (S2.trans (S3.trans (S7.trans (S8.trans S9))))⟩
  refine wpF_fn (ts := #[.int .i64 from_, .int .i64 to_, undef, undef, undef, undef, undef, undef, undef, undef, undef, undef]) good ⟨rfl, rfl, rfl⟩ (by kernel_rfl) ?_
  refine cw_seq good (cw_region good ?_)
  refine wpO_val (aop_allocT (cs := #[.slice none 0 0]) rfl rfl rfl rfl) ?_
  rw [hq4, hA1]
  simp only [Act.put, List.setIfInBounds_toArray, List.set_cons_succ, List.set_cons_zero]
  refine cw_seq good (cw_region good ?_)
  refine wpO_val (aop_allocT (cs := #[.slice none 0 0]) rfl rfl rfl rfl) ?_
  rw [hq5, hA2]
  simp only [Act.put, List.setIfInBounds_toArray, List.set_cons_succ, List.set_cons_zero]
  refine cw_seq good (cw_region good ?_)
  refine wpO_mv (.int .i64 from_) (by kernel_rfl) ?_
  refine wpO_val (aop_max (k := .i64) (m := from_) (n := 0) rfl rfl (by kernel_rfl) (by kernel_rfl)) ?_
  refine wpO_mv (.int .i64 to_) (by kernel_rfl) ?_
  simp only [Act.put, List.setIfInBounds_toArray, List.set_cons_succ, List.set_cons_zero]
  refine wpO_val (aop_min (k := .i64) (m := to_) (n := 65536) rfl rfl (by kernel_rfl) (by kernel_rfl)) ?_
  simp only [Act.put, List.setIfInBounds_toArray, List.set_cons_succ, List.set_cons_zero]
  refine wpO_call (f := 33) (first := #[]) (cap := #[]) (l := [ptr q5, .int .i64 (if from_ < 0 then 0 else from_), .int .i64 (if (65536 : Int) < to_ then 65536 else to_)]) (xs := #[ptr q5, .int .i64 (if from_ < 0 then 0 else from_), .int .i64 (if (65536 : Int) < to_ then 65536 else to_)]) ⟨rfl, rfl, rfl⟩ rfl (by kernel_rfl) rfl ⟨_, _, c3, ?_⟩
  simp only [Act.put, List.setIfInBounds_toArray, List.set_cons_succ, List.set_cons_zero]
  refine cw_seq good (cw_region good ?_)
  refine wpO_val (aop_loadT (n := 1) (p := ⟨q5, 0, none⟩) (xs := #[vs]) rfl (by kernel_rfl) rfl hb3 rfl (Nat.le_refl 1) rfl) ?_
  simp only [Act.put, List.setIfInBounds_toArray, List.set_cons_succ, List.set_cons_zero]
  refine wpO_unit (aop_storeT1 (p := ⟨q4, 0, none⟩) (v := vs) rfl (by kernel_rfl) (by kernel_rfl) rfl ho (Asn.get h6) (Asn.soft h6)) ?_
  simp only [Act.put]
  exact cw_ret good (ret_cell (t := 4) (u := 27) (b := q4) rfl (by kernel_rfl) rfl hb2 ⟨rfl, rfl⟩)
end Go.Proofs.Ytfkdkfleaiaoiaa
/-
  bitmap.And. No condition.
-/
namespace Go.Proofs.Ytfkdkfleaiaoiaa
open Go.Abs
variable {n₀ : Nat}
set_option maxRecDepth 8000
def fromOf (x0 y0 : Int) : Int := if x0 < y0 then y0 else x0
def toOf (x1 y1 : Int) : Int := if y1 < x1 then y1 else x1
def andAdd (m : List Sp) (x y : Sp) : List Sp := if fromOf x.1 y.1 < toOf x.2 y.2 then addSp m (fromOf x.1 y.1) (toOf x.2 y.2) else m
def andGo : Nat → List Sp → List Sp → List Sp → List Sp
  | n + 1, x :: a, y :: b, m => if x.2 < y.2 then andGo n a (y :: b) (andAdd m x y) else andGo n (x :: a) b (andAdd m x y)
  | _, _, _, m => m
def andL (a b : List Sp) : List Sp := andGo (a.length + b.length) a b []
theorem andGo_nil {n : Nat} {b m : List Sp} : andGo n [] b m = m := by cases n <;> rfl
theorem andGo_nil2 {n : Nat} {a m : List Sp} : andGo n a [] m = m := by cases n <;> cases a <;> rfl
theorem andAdd_len {m : List Sp} {x y : Sp} : (andAdd m x y).length ≤ m.length + 1 := by
  unfold andAdd
  split
  · exact add_len
  · omega
theorem drop_at {m : List Sp} {k : Nat} {s : Sp} (h : m[k]? = some s) : m.drop k = s :: m.drop (k + 1) := by
  obtain ⟨hk, e⟩ := List.getElem?_eq_some_iff.1 h
  rw [List.drop_eq_getElem_cons hk, e]
theorem fill2 {A : World} {q : Nat} {J : Asn} {F : Foot} {u u' : Value} (hJ : Owns J) (h : ((blk q (.cells #[u, u'] 42 (0, 0))).sep J) F A) (x y : Int) :
    A.cell? ⟨q, 0, none⟩ = some u ∧ A.frozen? ⟨q, 0, none⟩ = false ∧ (A.setCell ⟨q, 0, none⟩ (.int .i64 x)).cell? ((⟨q, 0, none⟩ : Addr).add 1) = some u' ∧ (A.setCell ⟨q, 0, none⟩ (.int .i64 x)).frozen? ((⟨q, 0, none⟩ : Addr).add 1) = false ∧
    ((blk q (.cells #[.int .i64 x, .int .i64 y] 42 (0, 0))).sep J) F ((A.setCell ⟨q, 0, none⟩ (.int .i64 x)).setCell ((⟨q, 0, none⟩ : Addr).add 1) (.int .i64 y)) ∧ Step F A F ((A.setCell ⟨q, 0, none⟩ (.int .i64 x)).setCell ((⟨q, 0, none⟩ : Addr).add 1) (.int .i64 y)) := by
  obtain ⟨h2, S2⟩ := Asn.putAt (i := 0) hJ h (.inl rfl) (.int .i64 x)
  obtain ⟨h3, S3⟩ := Asn.putAt (i := 1) hJ h2 (.inl rfl) (.int .i64 y)
  exact ⟨Asn.cellAt h rfl, Asn.softAt h (.inl rfl), Asn.cellAt h2 rfl, Asn.softAt h2 (.inl rfl), h3, S2.trans S3⟩
theorem run_store2 {a : Act} {A A1 : World} {o : Oper} {t : TypeId} {x y : Operand} {p : Addr} {u u' v v' : Value} (h : o.op = .store t x y) (hx : a.eval x = .pointer (some p)) (hy : a.eval y = .agg #[v, v']) (h1 : tyOf Try.prog t 2 true = true) (hv : isOne v = true) (hv' : isOne v' = true) (hc : A.cell? p = some u) (hz : A.frozen? p = false)
    (hc' : (A.setCell p v).cell? (p.add 1) = some u') (hz' : (A.setCell p v).frozen? (p.add 1) = false) (he : (A.setCell p v).setCell (p.add 1) v' = A1) : RunOp Try.prog (Wd Try.prog n₀) o a A undef A1 := by
  subst he
  exact ⟨_, _, aop_storeT2 h hx hy h1 hv hv' hc hz hc' hz', rfl, rfl⟩
theorem run_alloc2 {w : World} {ρ : Operand → Value} : RegOk Try.prog w ρ (.alloc 42) ∧ ∀ o : Oper, o.op = .alloc 42 → (execOp ρ o).run Try.prog w = .ok (.value (ptr w.heap.size)) (w.alloc (.cells #[.int .i64 0, .int .i64 0] 42 (0, 0))) := by
  refine ⟨trivial, fun o h => ?_⟩
  rcases aop_allocT (P := Try.prog) (A := w) (ρ := ρ) (cs := #[.int .i64 0, .int .i64 0]) h rfl rfl rfl with ⟨_, _, e, _⟩ | ⟨_, h⟩ | ⟨c, _, hc, _⟩ | ⟨c, _, _, _, _, _, _, hc, _⟩ | ⟨c, _, _, _, _, _, hc, _⟩
  · exfalso
    have := congrArg (fun w => w.heap.size) e
    simp at this
  · exact h
  · rw [h] at hc; cases hc
  · rw [h] at hc; cases hc
  · rw [h] at hc; cases hc
set_option maxHeartbeats 16000000 in
/-- bitmap.And. -/
theorem and_call {va vb : Value} {a b : List Sp} {J : Asn} {F : Foot} {A : World} (hJ : Owns J) (hml : a.length + b.length < 90000) (h : ((spans va a).sep ((spans vb b).sep J)) F A) :
    ∃ v A' F', SndCall Try.prog n₀ 22 #[.agg #[va], .agg #[vb]] A (.agg #[v]) A' ∧ Asn.all [spans v (andL a b), spans va a, spans vb b, J] F' A' ∧ Step F A F' A' := by
  obtain ⟨_, ha⟩ := Asn.left h
  obtain ⟨pa, rfl⟩ := spans_val ha
  obtain ⟨_, hb'⟩ := Asn.left (Asn.swap h)
  obtain ⟨pb, rfl⟩ := spans_val hb'
  have o0 : Owns ((spans (.slice pa a.length a.length) a).sep ((spans (.slice pb b.length b.length) b).sep J)) := Owns.sep Owns.spans (Owns.sep Owns.spans hJ)
  obtain ⟨F1, h1, S1⟩ := Asn.new o0 h (.slice pa a.length a.length) 27
  generalize hq2 : A.heap.size = q2 at h1
  generalize hA1 : A.alloc (.cells #[.slice pa a.length a.length] 27 (0, 0)) = A1 at h1 S1
  obtain ⟨F2, h2, S2⟩ := Asn.new (Owns.sep Owns.cel o0) h1 (.slice pb b.length b.length) 27
  generalize hq3 : A1.heap.size = q3 at h2
  generalize hA2 : A1.alloc (.cells #[.slice pb b.length b.length] 27 (0, 0)) = A2 at h2 S2
  obtain ⟨F3, h3, S3⟩ := Asn.new (Owns.sep Owns.cel (Owns.sep Owns.cel o0)) h2 (.slice none 0 0) 27
  generalize hq4 : A2.heap.size = q4 at h3
  generalize hA3 : A2.alloc (.cells #[.slice none 0 0] 27 (0, 0)) = A3 at h3 S3
  obtain ⟨F4, h4, S4⟩ := Asn.new (Owns.sep Owns.cel (Owns.sep Owns.cel (Owns.sep Owns.cel o0))) h3 (.slice none 0 0) 27
  generalize hq5 : A3.heap.size = q5 at h4
  generalize hA4 : A3.alloc (.cells #[.slice none 0 0] 27 (0, 0)) = A4 at h4 S4
  have h5 : Asn.all [cel q5 (.slice none 0 0), spans (.slice none 0 0) [], cel q2 (.slice pa a.length a.length), cel q3 (.slice pb b.length b.length), spans (.slice pa a.length a.length) a, spans (.slice pb b.length b.length) b, cel q4 (.slice none 0 0), J] F4 A4 := Asn.perm [spans (.slice none 0 0) [], cel q5 (.slice none 0 0), cel q4 (.slice none 0 0), cel q3 (.slice pb b.length b.length), cel q2 (.slice pa a.length a.length), spans (.slice pa a.length a.length) a, spans (.slice pb b.length b.length) b, J] [1, 0, 4, 3, 5, 6, 2, 7] ⟨fun _ => False, F4, .inl ⟨rfl, rfl, fun _ h => h⟩, h4, fun _ h => h.elim, fun b => by simp⟩ (by decide)
  suffices hw : wpF Try.prog n₀ 22 #[.agg #[Value.slice pa a.length a.length], .agg #[Value.slice pb b.length b.length]] (fun r A' => ∃ v F', r = .agg #[v] ∧ Asn.all [spans v (andL a b), spans (.slice pa a.length a.length) a, spans (.slice pb b.length b.length) b, J] F' A' ∧ Step F A F' A') A by
    obtain ⟨r, A', h1, v, F', rfl, h2, h3⟩ := hw
    exact ⟨v, A', F', h1, h2, h3⟩
  refine wpF_fn (ts := #[.agg #[Value.slice pa a.length a.length], .agg #[Value.slice pb b.length b.length], undef, undef, undef, undef, undef, undef, undef, undef, undef, undef, undef, undef, undef, undef, undef, undef, undef, undef, undef, undef, undef, undef, undef, undef, undef, undef, undef, undef, undef, undef, undef, undef, undef, undef, undef, undef, undef, undef, undef, undef, undef, undef, undef, undef, undef, undef, undef, undef, undef, undef, undef, undef, undef, undef, undef, undef, undef, undef]) good ⟨rfl, rfl, rfl⟩ (by kernel_rfl) ?_
  refine cw_seq good (cw_region good ?_)
  refine wpO_val (aop_boxT (v := .agg #[Value.slice pa a.length a.length]) (cs := #[.slice pa a.length a.length]) rfl (by kernel_rfl) rfl) ?_
  rw [hq2, hA1]
  simp only [Act.put, List.setIfInBounds_toArray, List.set_cons_succ, List.set_cons_zero]
  refine wpO_val (aop_boxT (v := .agg #[Value.slice pb b.length b.length]) (cs := #[.slice pb b.length b.length]) rfl (by kernel_rfl) rfl) ?_
  rw [hq3, hA2]
  simp only [Act.put, List.setIfInBounds_toArray, List.set_cons_succ, List.set_cons_zero]
  refine wpO_val (aop_allocT (cs := #[.slice none 0 0]) rfl rfl rfl rfl) ?_
  rw [hq4, hA3]
  simp only [Act.put, List.setIfInBounds_toArray, List.set_cons_succ, List.set_cons_zero]
  refine cw_seq good (cw_region good ?_)
  refine wpO_val (aop_allocT (cs := #[.slice none 0 0]) rfl rfl rfl rfl) ?_
  rw [hq5, hA4]
  simp only [Act.put, List.setIfInBounds_toArray, List.set_cons_succ, List.set_cons_zero]
  refine cw_seq good (cw_seq good (cw_region good ?_))
  refine wpO_as (.int .i64 (0 : Nat)) (by kernel_rfl) ?_
  refine wpO_as (.int .i64 (0 : Nat)) (by kernel_rfl) ?_
  simp only [Act.put, List.setIfInBounds_toArray, List.set_cons_succ, List.set_cons_zero]
  refine cw_block good (cw_loop good ?_)
  refine wpL_ind (fun nn e A' => ∃ (i k : Nat) (vm : Value) (m : List Sp) (F' : Foot) (zz : Nat → Value), nn = (a.length - i) + (b.length - k) ∧ i ≤ a.length ∧ k ≤ b.length ∧ m.length ≤ i + k ∧ andL a b = andGo nn (a.drop i) (b.drop k) m ∧ Asn.all [cel q5 vm, spans vm m, cel q2 (.slice pa a.length a.length), cel q3 (.slice pb b.length b.length), spans (.slice pa a.length a.length) a, spans (.slice pb b.length b.length) b, cel q4 (.slice none 0 0), J] F' A' ∧ Step F A F' A' ∧ e = ⟨#[.agg #[Value.slice pa a.length a.length], .agg #[Value.slice pb b.length b.length], ptr q2, ptr q3, ptr q4, ptr q5, .int .i64 i, .int .i64 k, (zz 8), (zz 9), (zz 10), (zz 11), (zz 12), (zz 13), (zz 14), (zz 15), (zz 16), (zz 17), (zz 18), (zz 19), (zz 20), (zz 21), (zz 22), (zz 23), (zz 24), (zz 25), (zz 26), (zz 27), (zz 28), (zz 29), (zz 30), (zz 31), (zz 32), (zz 33), (zz 34), (zz 35), (zz 36), (zz 37), (zz 38), (zz 39), (zz 40), (zz 41), (zz 42), (zz 43), (zz 44), (zz 45), (zz 46), (zz 47), (zz 48), (zz 49), (zz 50), (zz 51), (zz 52), (zz 53), (zz 54), (zz 55), (zz 56), (zz 57), (zz 58), undef], []⟩) ?_ (a.length + b.length) _ _ ⟨0, 0, .slice none 0 0, [], F4, (fun ix => (⟨#[.agg #[Value.slice pa a.length a.length], .agg #[Value.slice pb b.length b.length], ptr q2, ptr q3, ptr q4, ptr q5, .int .i64 (0 : Nat), .int .i64 (0 : Nat), undef, undef, undef, undef, undef, undef, undef, undef, undef, undef, undef, undef, undef, undef, undef, undef, undef, undef, undef, undef, undef, undef, undef, undef, undef, undef, undef, undef, undef, undef, undef, undef, undef, undef, undef, undef, undef, undef, undef, undef, undef, undef, undef, undef, undef, undef, undef, undef, undef, undef, undef, undef], []⟩ : Act).tmps.getD ix undef), rfl, by omega, by omega, Nat.le_refl _, rfl, h5, S1.trans (S2.trans (S3.trans S4)), by kernel_rfl⟩
  rintro nn _ A' ⟨i, k, vm, m, F', zz, hnn, hi, hk, hm, hgo, h, hS, rfl⟩
  have g2 : A'.cell? ⟨q2, 0, none⟩ = some (.slice pa a.length a.length) := Asn.get (Asn.perm [cel q5 vm, spans vm m, cel q2 (.slice pa a.length a.length), cel q3 (.slice pb b.length b.length), spans (.slice pa a.length a.length) a, spans (.slice pb b.length b.length) b, cel q4 (.slice none 0 0), J] [2, 0, 1, 3, 4, 5, 6, 7] h (by decide))
  have g3 : A'.cell? ⟨q3, 0, none⟩ = some (.slice pb b.length b.length) := Asn.get (Asn.perm [cel q5 vm, spans vm m, cel q2 (.slice pa a.length a.length), cel q3 (.slice pb b.length b.length), spans (.slice pa a.length a.length) a, spans (.slice pb b.length b.length) b, cel q4 (.slice none 0 0), J] [3, 0, 1, 2, 4, 5, 6, 7] h (by decide))
  by_cases hia : i < a.length
  case neg =>
    have hfin : andL a b = m := by rw [hgo, List.drop_eq_nil_of_le (by omega), andGo_nil]
    refine cw_seq good (cw_seq good (cw_region good ?_))
    refine wpO_mv (.int .i64 i) (by kernel_rfl) ?_
    refine wpO_val (aop_field0 (p := (⟨q2, 0, none⟩ : Addr)) (n := 1) (g := false) rfl (by kernel_rfl) rfl rfl rfl (by decide) (by decide) rfl) ?_
    refine wpO_val (aop_load (v := .slice pa a.length a.length) rfl (by kernel_rfl) rfl g2) ?_
    simp only [Act.put, List.setIfInBounds_toArray, List.set_cons_succ, List.set_cons_zero]
    refine wpO_val (aop_lenV (b := pa) (len := a.length) (cap := a.length) rfl rfl rfl rfl (by kernel_rfl) rfl) ?_
    refine wpO_val (aop_int (k := .i64) (m := i) (n := a.length) (v := .bool false) rfl (by kernel_rfl) (by kernel_rfl) (by simp [intV]; omega)) ?_
    refine wpO_mv (.bool false) (by kernel_rfl) ?_
    simp only [Act.put, List.setIfInBounds_toArray, List.set_cons_succ, List.set_cons_zero]
    with_reducible refine wpO_not ?_ (hw := by kernel_rfl)
    with_reducible refine wpO_not ?_ (hw := by kernel_rfl)
    with_reducible refine wpO_not ?_ (hw := by kernel_rfl)
    simp only [Act.put, List.setIfInBounds_toArray, List.set_cons_succ, List.set_cons_zero]
    with_reducible refine wpO_not ?_ (hw := by kernel_rfl)
    with_reducible refine wpO_not ?_ (hw := by kernel_rfl)
    refine wpO_val (aop_picks (b := false) (v := .bool false) rfl (by kernel_rfl) (by kernel_rfl)) ?_
    simp only [Act.put, List.setIfInBounds_toArray, List.set_cons_succ, List.set_cons_zero]
    refine cw_cond good false (by kernel_rfl) (cw_exit good ?_)
    obtain ⟨_, hc5⟩ := Asn.left h
    obtain ⟨_, t5, hb5⟩ := hc5
    have ho : isOne vm = true := by
      obtain ⟨_, hk⟩ := Asn.left (Asn.swap h)
      obtain ⟨_, rfl⟩ := spans_val hk
      rfl
    have h6 := Asn.perm [cel q5 vm, spans vm m, cel q2 (.slice pa a.length a.length), cel q3 (.slice pb b.length b.length), spans (.slice pa a.length a.length) a, spans (.slice pb b.length b.length) b, cel q4 (.slice none 0 0), J] [6, 0, 1, 2, 3, 4, 5, 7] h (by decide)
    obtain ⟨h7, S7⟩ := Asn.put (Owns.sep Owns.cel (Owns.sep Owns.spans (Owns.sep Owns.cel (Owns.sep Owns.cel (Owns.sep Owns.spans (Owns.sep Owns.spans hJ)))))) h6 vm
    refine cw_seq good (cw_region good ?_)
    refine wpO_val (aop_loadT (n := 1) (p := ⟨q5, 0, none⟩) (xs := #[vm]) rfl (by kernel_rfl) rfl hb5 rfl (Nat.le_refl 1) rfl) ?_
    simp only [Act.put, List.setIfInBounds_toArray, List.set_cons_succ, List.set_cons_zero]
    refine wpO_unit (aop_storeT1 (p := ⟨q4, 0, none⟩) (v := vm) rfl (by kernel_rfl) (by kernel_rfl) rfl ho (Asn.get h6) (Asn.soft h6)) ?_
    simp only [Act.put]
    obtain ⟨_, hc4⟩ := Asn.left h7
    obtain ⟨_, t4, hb4⟩ := hc4
    obtain ⟨F8, h8, S8⟩ := Asn.drop h7
    obtain ⟨F9, h9, S9⟩ := Asn.drop h8
    have h9' := Asn.perm [spans vm m, cel q2 (.slice pa a.length a.length), cel q3 (.slice pb b.length b.length), spans (.slice pa a.length a.length) a, spans (.slice pb b.length b.length) b, J] [1, 2, 0, 3, 4, 5] h9 (by decide)
    obtain ⟨F10, h10, S10⟩ := Asn.drop h9'
    obtain ⟨F11, h11, S11⟩ := Asn.drop h10
    rw [hfin]
    exact cw_ret good (ret_cell (t := 4) (u := 27) (b := q4) rfl (by kernel_rfl) rfl hb4 ⟨vm, F11, rfl, h11, hS.trans (S7.trans (S8.trans (S9.trans (S10.trans S11))))⟩)
  by_cases hkb : k < b.length
  case neg =>
    have hfin : andL a b = m := by rw [hgo, List.drop_eq_nil_of_le (i := k) (by omega), andGo_nil2]
    refine cw_seq good (cw_seq good (cw_region good ?_))
    refine wpO_mv (.int .i64 i) (by kernel_rfl) ?_
    refine wpO_val (aop_field0 (p := (⟨q2, 0, none⟩ : Addr)) (n := 1) (g := false) rfl (by kernel_rfl) rfl rfl rfl (by decide) (by decide) rfl) ?_
    refine wpO_val (aop_load (v := .slice pa a.length a.length) rfl (by kernel_rfl) rfl g2) ?_
    simp only [Act.put, List.setIfInBounds_toArray, List.set_cons_succ, List.set_cons_zero]
    refine wpO_val (aop_lenV (b := pa) (len := a.length) (cap := a.length) rfl rfl rfl rfl (by kernel_rfl) rfl) ?_
    refine wpO_val (aop_int (k := .i64) (m := i) (n := a.length) (v := .bool true) rfl (by kernel_rfl) (by kernel_rfl) (by simp [intV]; omega)) ?_
    refine wpO_mv (.bool true) (by kernel_rfl) ?_
    simp only [Act.put, List.setIfInBounds_toArray, List.set_cons_succ, List.set_cons_zero]
    with_reducible refine wpO_mv (.int .i64 k) (by kernel_rfl) ?_ (hw := by kernel_rfl)
    simp only [Act.put, List.setIfInBounds_toArray, List.set_cons_succ, List.set_cons_zero]
    with_reducible refine wpO_val (v := .pointer (some (⟨q3, 0, none⟩ : Addr))) (A1 := A') ?_ ?_ (hw := by kernel_rfl)
    · exact aop_field0 (p := (⟨q3, 0, none⟩ : Addr)) (n := 1) (g := false) rfl (by kernel_rfl) rfl rfl rfl (by decide) (by decide) rfl
    simp only [Act.put, List.setIfInBounds_toArray, List.set_cons_succ, List.set_cons_zero]
    with_reducible refine wpO_val (v := .slice pb b.length b.length) (A1 := A') ?_ ?_ (hw := by kernel_rfl)
    · exact aop_load (v := .slice pb b.length b.length) rfl (by kernel_rfl) rfl g3
    simp only [Act.put, List.setIfInBounds_toArray, List.set_cons_succ, List.set_cons_zero]
    with_reducible refine wpO_val (v := .int .i64 b.length) (A1 := A') ?_ ?_ (hw := by kernel_rfl)
    · exact aop_lenV (b := pb) (len := b.length) (cap := b.length) rfl rfl rfl rfl (by kernel_rfl) rfl
    simp only [Act.put, List.setIfInBounds_toArray, List.set_cons_succ, List.set_cons_zero]
    with_reducible refine wpO_val (v := .bool false) (A1 := A') ?_ ?_ (hw := by kernel_rfl)
    · exact aop_int (k := .i64) (m := k) (n := b.length) (v := .bool false) rfl (by kernel_rfl) (by kernel_rfl) (by simp [intV]; omega)
    refine wpO_val (aop_picks (b := true) (v := .bool false) rfl (by kernel_rfl) (by kernel_rfl)) ?_
    simp only [Act.put, List.setIfInBounds_toArray, List.set_cons_succ, List.set_cons_zero]
    refine cw_cond good false (by kernel_rfl) (cw_exit good ?_)
    obtain ⟨_, hc5⟩ := Asn.left h
    obtain ⟨_, t5, hb5⟩ := hc5
    have ho : isOne vm = true := by
      obtain ⟨_, hk⟩ := Asn.left (Asn.swap h)
      obtain ⟨_, rfl⟩ := spans_val hk
      rfl
    have h6 := Asn.perm [cel q5 vm, spans vm m, cel q2 (.slice pa a.length a.length), cel q3 (.slice pb b.length b.length), spans (.slice pa a.length a.length) a, spans (.slice pb b.length b.length) b, cel q4 (.slice none 0 0), J] [6, 0, 1, 2, 3, 4, 5, 7] h (by decide)
    obtain ⟨h7, S7⟩ := Asn.put (Owns.sep Owns.cel (Owns.sep Owns.spans (Owns.sep Owns.cel (Owns.sep Owns.cel (Owns.sep Owns.spans (Owns.sep Owns.spans hJ)))))) h6 vm
    refine cw_seq good (cw_region good ?_)
    refine wpO_val (aop_loadT (n := 1) (p := ⟨q5, 0, none⟩) (xs := #[vm]) rfl (by kernel_rfl) rfl hb5 rfl (Nat.le_refl 1) rfl) ?_
    simp only [Act.put, List.setIfInBounds_toArray, List.set_cons_succ, List.set_cons_zero]
    refine wpO_unit (aop_storeT1 (p := ⟨q4, 0, none⟩) (v := vm) rfl (by kernel_rfl) (by kernel_rfl) rfl ho (Asn.get h6) (Asn.soft h6)) ?_
    simp only [Act.put]
    obtain ⟨_, hc4⟩ := Asn.left h7
    obtain ⟨_, t4, hb4⟩ := hc4
    obtain ⟨F8, h8, S8⟩ := Asn.drop h7
    obtain ⟨F9, h9, S9⟩ := Asn.drop h8
    have h9' := Asn.perm [spans vm m, cel q2 (.slice pa a.length a.length), cel q3 (.slice pb b.length b.length), spans (.slice pa a.length a.length) a, spans (.slice pb b.length b.length) b, J] [1, 2, 0, 3, 4, 5] h9 (by decide)
    obtain ⟨F10, h10, S10⟩ := Asn.drop h9'
    obtain ⟨F11, h11, S11⟩ := Asn.drop h10
    rw [hfin]
    exact cw_ret good (ret_cell (t := 4) (u := 27) (b := q4) rfl (by kernel_rfl) rfl hb4 ⟨vm, F11, rfl, h11, hS.trans (S7.trans (S8.trans (S9.trans (S10.trans S11))))⟩)
  obtain ⟨s, hs⟩ : ∃ s, a[i]? = some s := ⟨_, List.getElem?_eq_getElem hia⟩
  obtain ⟨x0, x1⟩ := s
  obtain ⟨u, hu⟩ : ∃ s, b[k]? = some s := ⟨_, List.getElem?_eq_getElem hkb⟩
  obtain ⟨y0, y1⟩ := u
  obtain ⟨nn, rfl⟩ : ∃ n', nn = n' + 1 := ⟨nn - 1, by omega⟩
  rw [drop_at hs, drop_at hu] at hgo
  simp only [andGo] at hgo
  have h6 := Asn.perm [cel q5 vm, spans vm m, cel q2 (.slice pa a.length a.length), cel q3 (.slice pb b.length b.length), spans (.slice pa a.length a.length) a, spans (.slice pb b.length b.length) b, cel q4 (.slice none 0 0), J] [4, 0, 1, 2, 3, 5, 6, 7] h (by decide)
  obtain ⟨_, hsa⟩ := Asn.left h6
  obtain ⟨da, ea, hda⟩ := spans_get hsa hs
  injection ea with ea1 _ _
  subst ea1
  have h6b := Asn.perm [cel q5 vm, spans vm m, cel q2 (.slice (some ⟨da, 0, none⟩) a.length a.length), cel q3 (.slice pb b.length b.length), spans (.slice (some ⟨da, 0, none⟩) a.length a.length) a, spans (.slice pb b.length b.length) b, cel q4 (.slice none 0 0), J] [5, 0, 1, 2, 3, 4, 6, 7] h (by decide)
  obtain ⟨_, hsb⟩ := Asn.left h6b
  obtain ⟨db, eb, hdb⟩ := spans_get hsb hu
  injection eb with eb1 _ _
  subst eb1
  obtain ⟨G1, j1, T1⟩ := Asn.newO (Owns.sep Owns.cel (Owns.sep Owns.spans (Owns.sep Owns.cel (Owns.sep Owns.cel (Owns.sep Owns.spans (Owns.sep Owns.spans (Owns.sep Owns.cel hJ))))))) h (.cells #[.int .i64 0, .int .i64 0] 42 (0, 0))
  have eB1 : (A'.alloc (.cells #[.int .i64 0, .int .i64 0] 42 (0, 0))).heap[A'.heap.size]? = some (.cells #[.int .i64 0, .int .i64 0] 42 (0, 0)) := alloc_at
  generalize hqa : A'.heap.size = qa at j1 eB1
  generalize hB1 : A'.alloc (.cells #[.int .i64 0, .int .i64 0] 42 (0, 0)) = B1 at j1 T1 eB1
  obtain ⟨G2, j2, T2⟩ := Asn.newO (Owns.sep Owns.blk (Owns.sep Owns.cel (Owns.sep Owns.spans (Owns.sep Owns.cel (Owns.sep Owns.cel (Owns.sep Owns.spans (Owns.sep Owns.spans (Owns.sep Owns.cel hJ)))))))) j1 (.cells #[.int .i64 0, .int .i64 0] 42 (0, 0))
  generalize hqb : B1.heap.size = qb at j2
  generalize hB2 : B1.alloc (.cells #[.int .i64 0, .int .i64 0] 42 (0, 0)) = B2 at j2 T2
  have eBb : B2.heap[qb]? = some (.cells #[.int .i64 0, .int .i64 0] 42 (0, 0)) := Asn.at j2
  have eBa : B2.heap[qa]? = some (.cells #[.int .i64 0, .int .i64 0] 42 (0, 0)) := Asn.at (Asn.swap j2)
  obtain ⟨c0, z0, c1, z1, j3, T3⟩ := fill2 (Owns.sep Owns.blk (Owns.sep Owns.cel (Owns.sep Owns.spans (Owns.sep Owns.cel (Owns.sep Owns.cel (Owns.sep Owns.spans (Owns.sep Owns.spans (Owns.sep Owns.cel hJ)))))))) (Asn.swap j2) x0 x1
  generalize hB3 : (B2.setCell ⟨qa, 0, none⟩ (.int .i64 x0)).setCell ((⟨qa, 0, none⟩ : Addr).add 1) (.int .i64 x1) = B3 at j3 T3
  obtain ⟨d0, w0, d1, w1, j4, T4⟩ := fill2 (Owns.sep Owns.blk (Owns.sep Owns.cel (Owns.sep Owns.spans (Owns.sep Owns.cel (Owns.sep Owns.cel (Owns.sep Owns.spans (Owns.sep Owns.spans (Owns.sep Owns.cel hJ)))))))) (Asn.swap j3) y0 y1
  generalize hB4 : (B3.setCell ⟨qb, 0, none⟩ (.int .i64 y0)).setCell ((⟨qb, 0, none⟩ : Addr).add 1) (.int .i64 y1) = B4 at j4 T4
  have at2' : ∀ {F : Foot} {B : World}, ((blk qa (.cells #[.int .i64 0, .int .i64 0] 42 (0, 0))).sep (Asn.all [cel q5 vm, spans vm m, cel q2 (.slice (some ⟨da, 0, none⟩) a.length a.length), cel q3 (.slice (some ⟨db, 0, none⟩) b.length b.length), spans (.slice (some ⟨da, 0, none⟩) a.length a.length) a, spans (.slice (some ⟨db, 0, none⟩) b.length b.length) b, cel q4 (.slice none 0 0), J])) F B → True := fun _ => trivial
  have key : ∀ {F : Foot} {B : World} {u v : Obj}, ((blk qb u).sep ((blk qa v).sep (Asn.all [cel q5 vm, spans vm m, cel q2 (.slice (some ⟨da, 0, none⟩) a.length a.length), cel q3 (.slice (some ⟨db, 0, none⟩) b.length b.length), spans (.slice (some ⟨da, 0, none⟩) a.length a.length) a, spans (.slice (some ⟨db, 0, none⟩) b.length b.length) b, cel q4 (.slice none 0 0), J]))) F B → B.cell? ⟨q2, 0, none⟩ = some (.slice (some ⟨da, 0, none⟩) a.length a.length) ∧ B.cell? ⟨q3, 0, none⟩ = some (.slice (some ⟨db, 0, none⟩) b.length b.length) ∧ B.heap[da]? = some (.cells (cells2 a) 42 (1, 0)) ∧ B.heap[db]? = some (.cells (cells2 b) 42 (1, 0)) := fun {F B u v} h => by
    obtain ⟨_, r1⟩ := Asn.right h
    obtain ⟨_, r2⟩ := Asn.right r1
    obtain ⟨_, ka⟩ := Asn.left (Asn.perm [cel q5 vm, spans vm m, cel q2 (.slice (some ⟨da, 0, none⟩) a.length a.length), cel q3 (.slice (some ⟨db, 0, none⟩) b.length b.length), spans (.slice (some ⟨da, 0, none⟩) a.length a.length) a, spans (.slice (some ⟨db, 0, none⟩) b.length b.length) b, cel q4 (.slice none 0 0), J] [4, 0, 1, 2, 3, 5, 6, 7] r2 (by decide))
    obtain ⟨_, kb⟩ := Asn.left (Asn.perm [cel q5 vm, spans vm m, cel q2 (.slice (some ⟨da, 0, none⟩) a.length a.length), cel q3 (.slice (some ⟨db, 0, none⟩) b.length b.length), spans (.slice (some ⟨da, 0, none⟩) a.length a.length) a, spans (.slice (some ⟨db, 0, none⟩) b.length b.length) b, cel q4 (.slice none 0 0), J] [5, 0, 1, 2, 3, 4, 6, 7] r2 (by decide))
    obtain ⟨d', e', hd'⟩ := spans_get ka hs
    injection e' with e1 _ _
    cases e1
    obtain ⟨d'', e'', hd''⟩ := spans_get kb hu
    injection e'' with e1 _ _
    cases e1
    exact ⟨Asn.get (Asn.perm [cel q5 vm, spans vm m, cel q2 (.slice (some ⟨da, 0, none⟩) a.length a.length), cel q3 (.slice (some ⟨db, 0, none⟩) b.length b.length), spans (.slice (some ⟨da, 0, none⟩) a.length a.length) a, spans (.slice (some ⟨db, 0, none⟩) b.length b.length) b, cel q4 (.slice none 0 0), J] [2, 0, 1, 3, 4, 5, 6, 7] r2 (by decide)), Asn.get (Asn.perm [cel q5 vm, spans vm m, cel q2 (.slice (some ⟨da, 0, none⟩) a.length a.length), cel q3 (.slice (some ⟨db, 0, none⟩) b.length b.length), spans (.slice (some ⟨da, 0, none⟩) a.length a.length) a, spans (.slice (some ⟨db, 0, none⟩) b.length b.length) b, cel q4 (.slice none 0 0), J] [3, 0, 1, 2, 4, 5, 6, 7] r2 (by decide)), hd', hd''⟩
  obtain ⟨g2a, g3a, hda2, hdb2⟩ := key j2
  obtain ⟨g2b, g3b, hda3, hdb3⟩ := key (Asn.swap j3)
  refine cw_seq good (cw_seq good (cw_region good ?_))
  refine wpO_mv (.int .i64 i) (by kernel_rfl) ?_
  refine wpO_val (aop_field0 (p := (⟨q2, 0, none⟩ : Addr)) (n := 1) (g := false) rfl (by kernel_rfl) rfl rfl rfl (by decide) (by decide) rfl) ?_
  refine wpO_val (aop_load (v := .slice (some ⟨da, 0, none⟩) a.length a.length) rfl (by kernel_rfl) rfl g2) ?_
  simp only [Act.put, List.setIfInBounds_toArray, List.set_cons_succ, List.set_cons_zero]
  refine wpO_val (aop_lenV (b := (some ⟨da, 0, none⟩)) (len := a.length) (cap := a.length) rfl rfl rfl rfl (by kernel_rfl) rfl) ?_
  refine wpO_val (aop_int (k := .i64) (m := i) (n := a.length) (v := .bool true) rfl (by kernel_rfl) (by kernel_rfl) (by simp [intV]; omega)) ?_
  refine wpO_mv (.bool true) (by kernel_rfl) ?_
  simp only [Act.put, List.setIfInBounds_toArray, List.set_cons_succ, List.set_cons_zero]
  with_reducible refine wpO_mv (.int .i64 k) (by kernel_rfl) ?_ (hw := by kernel_rfl)
  simp only [Act.put, List.setIfInBounds_toArray, List.set_cons_succ, List.set_cons_zero]
  with_reducible refine wpO_val (v := .pointer (some (⟨q3, 0, none⟩ : Addr))) (A1 := A') ?_ ?_ (hw := by kernel_rfl)
  · exact aop_field0 (p := (⟨q3, 0, none⟩ : Addr)) (n := 1) (g := false) rfl (by kernel_rfl) rfl rfl rfl (by decide) (by decide) rfl
  simp only [Act.put, List.setIfInBounds_toArray, List.set_cons_succ, List.set_cons_zero]
  with_reducible refine wpO_val (v := .slice (some ⟨db, 0, none⟩) b.length b.length) (A1 := A') ?_ ?_ (hw := by kernel_rfl)
  · exact aop_load (v := .slice (some ⟨db, 0, none⟩) b.length b.length) rfl (by kernel_rfl) rfl g3
  simp only [Act.put, List.setIfInBounds_toArray, List.set_cons_succ, List.set_cons_zero]
  with_reducible refine wpO_val (v := .int .i64 b.length) (A1 := A') ?_ ?_ (hw := by kernel_rfl)
  · exact aop_lenV (b := (some ⟨db, 0, none⟩)) (len := b.length) (cap := b.length) rfl rfl rfl rfl (by kernel_rfl) rfl
  simp only [Act.put, List.setIfInBounds_toArray, List.set_cons_succ, List.set_cons_zero]
  with_reducible refine wpO_val (v := .bool true) (A1 := A') ?_ ?_ (hw := by kernel_rfl)
  · exact aop_int (k := .i64) (m := k) (n := b.length) (v := .bool true) rfl (by kernel_rfl) (by kernel_rfl) (by simp [intV]; omega)
  refine wpO_val (aop_picks (b := true) (v := .bool true) rfl (by kernel_rfl) (by kernel_rfl)) ?_
  simp only [Act.put, List.setIfInBounds_toArray, List.set_cons_succ, List.set_cons_zero]
  refine cw_cond good true (by kernel_rfl) (cw_skip good ?_)
  refine cw_block good ?_
  refine cw_seq good (ca_draw good [ptr q2, .slice (some ⟨da, 0, none⟩) a.length a.length, .int .i64 i, .pointer (some ((⟨da, 0, none⟩ : Addr).add (i * 2))), .agg #[Value.int .i64 x0, Value.int .i64 x1], ptr q3, .slice (some ⟨db, 0, none⟩) b.length b.length, .int .i64 k, .pointer (some ((⟨db, 0, none⟩ : Addr).add (k * 2))), .agg #[Value.int .i64 y0, Value.int .i64 y1], ptr qa, ptr qb, undef, undef] [A', A', A', A', A', A', A', A', A', A', A', B1, B2, B3, B4] (by kernel_rfl) rfl ?_ ⟨#[.agg #[Value.slice (some ⟨da, 0, none⟩) a.length a.length], .agg #[Value.slice (some ⟨db, 0, none⟩) b.length b.length], ptr q2, ptr q3, ptr q4, ptr q5, .int .i64 i, .int .i64 k, ptr qa, ptr qb, (zz 10), (zz 11), .int .i64 i, .pointer (some (⟨q2, 0, none⟩ : Addr)), .slice (some ⟨da, 0, none⟩) a.length a.length, .int .i64 a.length, .bool true, .bool true, .int .i64 k, .pointer (some (⟨q3, 0, none⟩ : Addr)), .slice (some ⟨db, 0, none⟩) b.length b.length, .int .i64 b.length, .bool true, .bool true, ptr q2, .slice (some ⟨da, 0, none⟩) a.length a.length, .int .i64 i, .pointer (some ((⟨da, 0, none⟩ : Addr).add (i * 2))), .agg #[Value.int .i64 x0, Value.int .i64 x1], ptr q3, .slice (some ⟨db, 0, none⟩) b.length b.length, .int .i64 k, .pointer (some ((⟨db, 0, none⟩ : Addr).add (k * 2))), .agg #[Value.int .i64 y0, Value.int .i64 y1], (zz 34), (zz 35), (zz 36), (zz 37), (zz 38), (zz 39), (zz 40), (zz 41), (zz 42), (zz 43), (zz 44), (zz 45), (zz 46), (zz 47), (zz 48), (zz 49), (zz 50), (zz 51), (zz 52), (zz 53), (zz 54), (zz 55), (zz 56), (zz 57), (zz 58), undef], []⟩ _ (by kernel_rfl) rfl ?_)
  · intro jj o ho
    match jj, ho with
    | 0, ho => cases ho; exact sa_quiet rfl [12] (all1 (aop_field0 (p := (⟨q2, 0, none⟩ : Addr)) (n := 1) (g := false) rfl (by kernel_rfl) rfl rfl rfl (by decide) (by decide) rfl)) rfl
    | 1, ho => cases ho; exact sa_quiet rfl [12] (all1 (aop_load (p := ⟨q2, 0, none⟩) rfl (by kernel_rfl) rfl g2a)) rfl
    | 2, ho => cases ho; exact sa_quiet rfl [12] (all1 (aop_mv rfl (by kernel_rfl))) rfl
    | 3, ho => cases ho; exact sa_quiet rfl [12] (all1 (aop_indexT (k := .i64) (len := a.length) (cap := a.length) (i := i) (p := ⟨da, 0, none⟩) (n := 2) (g := true) rfl (by kernel_rfl) (by kernel_rfl) rfl rfl hia)) rfl
    | 4, ho => cases ho; exact sa_quiet rfl [12] (all1 (aop_loadT (n := 2) (p := (⟨da, 0, none⟩ : Addr).add (i * 2)) (cs := cells2 a) (tq := 42) (fz := (1, 0)) rfl (by kernel_rfl) rfl (by rw [add_at2]; exact hda2) (by rw [add_at2]) (by rw [add_at2, cells2_size]; show i * 2 + 2 ≤ _; omega) (by rw [add_at2]; exact cells2_cut hs))) rfl
    | 5, ho => cases ho; exact sa_quiet rfl [12, 13] (all2 (aop_field0 (p := (⟨q3, 0, none⟩ : Addr)) (n := 1) (g := false) rfl (by kernel_rfl) rfl rfl rfl (by decide) (by decide) rfl) (aop_field0 (p := (⟨q3, 0, none⟩ : Addr)) (n := 1) (g := false) rfl (by kernel_rfl) rfl rfl rfl (by decide) (by decide) rfl)) rfl
    | 6, ho => cases ho; exact sa_quiet rfl [12, 13] (all2 (aop_load (p := ⟨q3, 0, none⟩) rfl (by kernel_rfl) rfl g3a) (aop_load (p := ⟨q3, 0, none⟩) rfl (by kernel_rfl) rfl g3b)) rfl
    | 7, ho => cases ho; exact sa_quiet rfl [12, 13] (all2 (aop_mv rfl (by kernel_rfl)) (aop_mv rfl (by kernel_rfl))) rfl
    | 8, ho => cases ho; exact sa_quiet rfl [12, 13] (all2 (aop_indexT (k := .i64) (len := b.length) (cap := b.length) (i := k) (p := ⟨db, 0, none⟩) (n := 2) (g := true) rfl (by kernel_rfl) (by kernel_rfl) rfl rfl hkb) (aop_indexT (k := .i64) (len := b.length) (cap := b.length) (i := k) (p := ⟨db, 0, none⟩) (n := 2) (g := true) rfl (by kernel_rfl) (by kernel_rfl) rfl rfl hkb)) rfl
    | 9, ho => cases ho; exact sa_quiet rfl [12, 13] (all2 (aop_loadT (n := 2) (p := (⟨db, 0, none⟩ : Addr).add (k * 2)) (cs := cells2 b) (tq := 42) (fz := (1, 0)) rfl (by kernel_rfl) rfl (by rw [add_at2]; exact hdb2) (by rw [add_at2]) (by rw [add_at2, cells2_size]; show k * 2 + 2 ≤ _; omega) (by rw [add_at2]; exact cells2_cut hu)) (aop_loadT (n := 2) (p := (⟨db, 0, none⟩ : Addr).add (k * 2)) (cs := cells2 b) (tq := 42) (fz := (1, 0)) rfl (by kernel_rfl) rfl (by rw [add_at2]; exact hdb3) (by rw [add_at2]) (by rw [add_at2, cells2_size]; show k * 2 + 2 ≤ _; omega) (by rw [add_at2]; exact cells2_cut hu))) rfl
    | 10, ho => cases ho; exact sa_makes rfl (.cells #[.int .i64 0, .int .i64 0] 42 (0, 0)) hB1.symm rfl (.inl (congrArg ptr hqa.symm)) ptr (congrArg ptr hqa.symm) (fun w => ⟨run_alloc2.1, run_alloc2.2 _ rfl⟩) [12] (all1 (by show B2.heap[A'.heap.size]? = _; rw [hqa]; exact eBa))
    | 11, ho => cases ho; exact sa_makes rfl (.cells #[.int .i64 0, .int .i64 0] 42 (0, 0)) hB2.symm rfl (.inl (congrArg ptr hqb.symm)) ptr (congrArg ptr hqb.symm) (fun w => ⟨run_alloc2.1, run_alloc2.2 _ rfl⟩) [12] (all1 (by show B2.heap[B1.heap.size]? = _; rw [hqb]; exact eBb))
    | 12, ho => cases ho; exact sa_acts rfl (run_store2 (p := ⟨qa, 0, none⟩) (v := .int .i64 x0) (v' := .int .i64 x1) rfl (by kernel_rfl) (by kernel_rfl) rfl rfl rfl c0 z0 c1 z1 hB3)
    | 13, ho => cases ho; exact sa_acts rfl (run_store2 (p := ⟨qb, 0, none⟩) (v := .int .i64 y0) (v' := .int .i64 y1) rfl (by kernel_rfl) (by kernel_rfl) rfl rfl rfl d0 w0 d1 w1 hB4)
    | n + 14, ho => simp at ho
  have ga0 : B4.cell? ((⟨qa, 0, none⟩ : Addr).add (0 * 1)) = some (.int .i64 x0) := by rw [at0]; exact Asn.cellAt (Asn.swap j4) rfl
  have ga1 : B4.cell? ((⟨qa, 0, none⟩ : Addr).add (1 * 1)) = some (.int .i64 x1) := by rw [at1]; exact Asn.cellAt (Asn.swap j4) rfl
  have gb0 : B4.cell? ((⟨qb, 0, none⟩ : Addr).add (0 * 1)) = some (.int .i64 y0) := by rw [at0]; exact Asn.cellAt j4 rfl
  have gb1 : B4.cell? ((⟨qb, 0, none⟩ : Addr).add (1 * 1)) = some (.int .i64 y1) := by rw [at1]; exact Asn.cellAt j4 rfl
  refine cw_seq good (cw_seq good (ca_draw good [.pointer (some ((⟨qa, 0, none⟩ : Addr).add (0 * 1))), .int .i64 x0, .pointer (some ((⟨qb, 0, none⟩ : Addr).add (0 * 1))), .int .i64 y0, .int .i64 (fromOf x0 y0), .pointer (some ((⟨qa, 0, none⟩ : Addr).add (1 * 1))), .int .i64 x1, .pointer (some ((⟨qb, 0, none⟩ : Addr).add (1 * 1))), .int .i64 y1, .int .i64 (toOf x1 y1), .int .i64 (fromOf x0 y0), .int .i64 (toOf x1 y1)] [] (by kernel_rfl) rfl ?_ ⟨#[.agg #[Value.slice (some ⟨da, 0, none⟩) a.length a.length], .agg #[Value.slice (some ⟨db, 0, none⟩) b.length b.length], ptr q2, ptr q3, ptr q4, ptr q5, .int .i64 i, .int .i64 k, ptr qa, ptr qb, .int .i64 (fromOf x0 y0), .int .i64 (toOf x1 y1), .int .i64 i, .pointer (some (⟨q2, 0, none⟩ : Addr)), .slice (some ⟨da, 0, none⟩) a.length a.length, .int .i64 a.length, .bool true, .bool true, .int .i64 k, .pointer (some (⟨q3, 0, none⟩ : Addr)), .slice (some ⟨db, 0, none⟩) b.length b.length, .int .i64 b.length, .bool true, .bool true, ptr q2, .slice (some ⟨da, 0, none⟩) a.length a.length, .int .i64 i, .pointer (some ((⟨da, 0, none⟩ : Addr).add (i * 2))), .agg #[Value.int .i64 x0, Value.int .i64 x1], ptr q3, .slice (some ⟨db, 0, none⟩) b.length b.length, .int .i64 k, .pointer (some ((⟨db, 0, none⟩ : Addr).add (k * 2))), .agg #[Value.int .i64 y0, Value.int .i64 y1], .pointer (some ((⟨qa, 0, none⟩ : Addr).add (0 * 1))), .int .i64 x0, .pointer (some ((⟨qb, 0, none⟩ : Addr).add (0 * 1))), .int .i64 y0, .int .i64 (fromOf x0 y0), .pointer (some ((⟨qa, 0, none⟩ : Addr).add (1 * 1))), .int .i64 x1, .pointer (some ((⟨qb, 0, none⟩ : Addr).add (1 * 1))), .int .i64 y1, .int .i64 (toOf x1 y1), (zz 44), (zz 45), (zz 46), (zz 47), (zz 48), (zz 49), (zz 50), (zz 51), (zz 52), (zz 53), (zz 54), (zz 55), (zz 56), (zz 57), (zz 58), undef], []⟩ _ (by kernel_rfl) rfl ?_))
  · intro jj o ho
    match jj, ho with
    | 0, ho => cases ho; exact sa_quiet rfl [12] (all1 (aop_indexA (k := .i64) (len := 2) (i := 0) (p := ⟨qa, 0, none⟩) (n := 1) (g := false) rfl (by kernel_rfl) (by kernel_rfl) rfl rfl (by decide))) rfl
    | 1, ho => cases ho; exact sa_quiet rfl [12] (all1 (aop_load (p := (⟨qa, 0, none⟩ : Addr).add (0 * 1)) rfl (by kernel_rfl) rfl ga0)) rfl
    | 2, ho => cases ho; exact sa_quiet rfl [12] (all1 (aop_indexA (k := .i64) (len := 2) (i := 0) (p := ⟨qb, 0, none⟩) (n := 1) (g := false) rfl (by kernel_rfl) (by kernel_rfl) rfl rfl (by decide))) rfl
    | 3, ho => cases ho; exact sa_quiet rfl [12] (all1 (aop_load (p := (⟨qb, 0, none⟩ : Addr).add (0 * 1)) rfl (by kernel_rfl) rfl gb0)) rfl
    | 4, ho => cases ho; exact sa_quiet rfl [12] (all1 (aop_max (k := .i64) (m := x0) (n := y0) rfl rfl (by kernel_rfl) (by kernel_rfl))) rfl
    | 5, ho => cases ho; exact sa_quiet rfl [12] (all1 (aop_indexA (k := .i64) (len := 2) (i := 1) (p := ⟨qa, 0, none⟩) (n := 1) (g := false) rfl (by kernel_rfl) (by kernel_rfl) rfl rfl (by decide))) rfl
    | 6, ho => cases ho; exact sa_quiet rfl [12] (all1 (aop_load (p := (⟨qa, 0, none⟩ : Addr).add (1 * 1)) rfl (by kernel_rfl) rfl ga1)) rfl
    | 7, ho => cases ho; exact sa_quiet rfl [12] (all1 (aop_indexA (k := .i64) (len := 2) (i := 1) (p := ⟨qb, 0, none⟩) (n := 1) (g := false) rfl (by kernel_rfl) (by kernel_rfl) rfl rfl (by decide))) rfl
    | 8, ho => cases ho; exact sa_quiet rfl [12] (all1 (aop_load (p := (⟨qb, 0, none⟩ : Addr).add (1 * 1)) rfl (by kernel_rfl) rfl gb1)) rfl
    | 9, ho => cases ho; exact sa_quiet rfl [12] (all1 (aop_min (k := .i64) (m := x1) (n := y1) rfl rfl (by kernel_rfl) (by kernel_rfl))) rfl
    | 10, ho => cases ho; exact sa_quiet rfl [12] (all1 (aop_as rfl (by kernel_rfl))) rfl
    | 11, ho => cases ho; exact sa_quiet rfl [12] (all1 (aop_as rfl (by kernel_rfl))) rfl
    | n + 12, ho => simp at ho
  refine cw_seq good (cw_region good ?_)
  refine wpO_mv (.int .i64 (fromOf x0 y0)) (by kernel_rfl) ?_
  refine wpO_mv (.int .i64 (toOf x1 y1)) (by kernel_rfl) ?_
  refine wpO_val (aop_int (k := .i64) (m := fromOf x0 y0) (n := toOf x1 y1) (v := .bool (decide (fromOf x0 y0 < toOf x1 y1))) rfl (by kernel_rfl) (by kernel_rfl) rfl) ?_
  simp only [Act.put, List.setIfInBounds_toArray, List.set_cons_succ, List.set_cons_zero]
  have hlen := andAdd_len (m := m) (x := (x0, x1)) (y := (y0, y1))
  by_cases hft : fromOf x0 y0 < toOf x1 y1
  · refine cw_cond good true (congrArg Value.bool (decide_eq_true hft)) ?_
    have j5 := Asn.perm [blk qb (.cells #[.int .i64 y0, .int .i64 y1] 42 (0, 0)), blk qa (.cells #[.int .i64 x0, .int .i64 x1] 42 (0, 0)), cel q5 vm, spans vm m, cel q2 (.slice (some ⟨da, 0, none⟩) a.length a.length), cel q3 (.slice (some ⟨db, 0, none⟩) b.length b.length), spans (.slice (some ⟨da, 0, none⟩) a.length a.length) a, spans (.slice (some ⟨db, 0, none⟩) b.length b.length) b, cel q4 (.slice none 0 0), J] [2, 3, 0, 1, 4, 5, 6, 7, 8, 9] j4 (by decide)
    obtain ⟨vm', Bm, Fm, c5, j6, S6⟩ := add_call (n₀ := n₀) (f := fromOf x0 y0) (t := toOf x1 y1) (Owns.sep Owns.blk (Owns.sep Owns.blk (Owns.sep Owns.cel (Owns.sep Owns.cel (Owns.sep Owns.spans (Owns.sep Owns.spans (Owns.sep Owns.cel hJ))))))) (by omega) j5
    generalize hmv : addSp m (fromOf x0 y0) (toOf x1 y1) = m' at j6
    have jm := Asn.perm [cel q5 vm', spans vm' m', blk qb (.cells #[.int .i64 y0, .int .i64 y1] 42 (0, 0)), blk qa (.cells #[.int .i64 x0, .int .i64 x1] 42 (0, 0)), cel q2 (.slice (some ⟨da, 0, none⟩) a.length a.length), cel q3 (.slice (some ⟨db, 0, none⟩) b.length b.length), spans (.slice (some ⟨da, 0, none⟩) a.length a.length) a, spans (.slice (some ⟨db, 0, none⟩) b.length b.length) b, cel q4 (.slice none 0 0), J] [2, 3, 0, 1, 4, 5, 6, 7, 8, 9] j6 (by decide)
    have Sm := hS.trans (T1.trans (T2.trans (T3.trans (T4.trans S6))))
    replace hmv : m' = andAdd m (x0, x1) (y0, y1) := by rw [← hmv]; simp only [andAdd]; rw [if_pos hft]
    have hlen2 : m'.length ≤ m.length + 1 := by rw [hmv]; exact hlen
    refine cw_region good ?_
    refine wpO_mv (.int .i64 (fromOf x0 y0)) (by kernel_rfl) ?_
    refine wpO_mv (.int .i64 (toOf x1 y1)) (by kernel_rfl) ?_
    simp only [Act.put, List.setIfInBounds_toArray, List.set_cons_succ, List.set_cons_zero]
    refine wpO_call (f := 33) (first := #[]) (cap := #[]) (l := [ptr q5, .int .i64 (fromOf x0 y0), .int .i64 (toOf x1 y1)]) (xs := #[ptr q5, .int .i64 (fromOf x0 y0), .int .i64 (toOf x1 y1)]) ⟨rfl, rfl, rfl⟩ rfl (by kernel_rfl) rfl ⟨_, _, c5, ?_⟩
    simp only [Act.put, List.setIfInBounds_toArray, List.set_cons_succ, List.set_cons_zero]
    have ka1 : Bm.cell? ⟨qa, 1, none⟩ = some (.int .i64 x1) := Asn.cellAt (Asn.swap jm) rfl
    have kb1 : Bm.cell? ⟨qb, 1, none⟩ = some (.int .i64 y1) := Asn.cellAt jm rfl
    obtain ⟨Fd, jd, Sd⟩ := Asn.drop jm
    obtain ⟨Fe, je, Se⟩ := Asn.drop jd
    refine cw_seq good (cw_region good ?_)
    refine wpO_val (aop_indexA (k := .i64) (len := 2) (i := 1) (p := ⟨qa, 0, none⟩) (n := 1) (g := false) rfl (by kernel_rfl) (by kernel_rfl) rfl rfl (by decide)) ?_
    rw [at1]
    refine wpO_val (aop_load (v := .int .i64 x1) rfl (by kernel_rfl) rfl ka1) ?_
    refine wpO_val (aop_indexA (k := .i64) (len := 2) (i := 1) (p := ⟨qb, 0, none⟩) (n := 1) (g := false) rfl (by kernel_rfl) (by kernel_rfl) rfl rfl (by decide)) ?_
    rw [at1]
    simp only [Act.put, List.setIfInBounds_toArray, List.set_cons_succ, List.set_cons_zero]
    refine wpO_val (aop_load (v := .int .i64 y1) rfl (by kernel_rfl) rfl kb1) ?_
    refine wpO_val (aop_int (k := .i64) (m := x1) (n := y1) (v := .bool (decide (x1 < y1))) rfl (by kernel_rfl) (by kernel_rfl) rfl) ?_
    simp only [Act.put, List.setIfInBounds_toArray, List.set_cons_succ, List.set_cons_zero]
    by_cases hxy : x1 < y1
    · rw [if_pos hxy] at hgo
      refine cw_cond good true (congrArg Value.bool (decide_eq_true hxy)) ?_
      refine cw_region good ?_
      refine wpO_mv (.int .i64 i) (by kernel_rfl) ?_
      refine wpO_val (aop_int (k := .i64) (m := i) (n := 1) (v := .int .i64 (i + 1 : Nat)) rfl (by kernel_rfl) (by kernel_rfl) (intV_add (by omega) (by omega) (by omega))) ?_
      refine wpO_as (.int .i64 (i + 1 : Nat)) (by kernel_rfl) ?_
      simp only [Act.put, List.setIfInBounds_toArray, List.set_cons_succ, List.set_cons_zero]
      exact ⟨nn, Nat.lt_succ_self nn, i + 1, k, vm', m', Fe, (fun ix => (⟨#[.agg #[Value.slice (some ⟨da, 0, none⟩) a.length a.length], .agg #[Value.slice (some ⟨db, 0, none⟩) b.length b.length], ptr q2, ptr q3, ptr q4, ptr q5, .int .i64 (i + 1 : Nat), .int .i64 k, ptr qa, ptr qb, .int .i64 (fromOf x0 y0), .int .i64 (toOf x1 y1), .int .i64 i, .pointer (some (⟨q2, 0, none⟩ : Addr)), .slice (some ⟨da, 0, none⟩) a.length a.length, .int .i64 a.length, .bool true, .bool true, .int .i64 k, .pointer (some (⟨q3, 0, none⟩ : Addr)), .slice (some ⟨db, 0, none⟩) b.length b.length, .int .i64 b.length, .bool true, .bool true, ptr q2, .slice (some ⟨da, 0, none⟩) a.length a.length, .int .i64 i, .pointer (some ((⟨da, 0, none⟩ : Addr).add (i * 2))), .agg #[Value.int .i64 x0, Value.int .i64 x1], ptr q3, .slice (some ⟨db, 0, none⟩) b.length b.length, .int .i64 k, .pointer (some ((⟨db, 0, none⟩ : Addr).add (k * 2))), .agg #[Value.int .i64 y0, Value.int .i64 y1], .pointer (some ((⟨qa, 0, none⟩ : Addr).add (0 * 1))), .int .i64 x0, .pointer (some ((⟨qb, 0, none⟩ : Addr).add (0 * 1))), .int .i64 y0, .int .i64 (fromOf x0 y0), .pointer (some ⟨qa, 1, none⟩), .int .i64 x1, .pointer (some ⟨qb, 1, none⟩), .int .i64 y1, .int .i64 (toOf x1 y1), .int .i64 (fromOf x0 y0), .int .i64 (toOf x1 y1), .bool (decide (fromOf x0 y0 < toOf x1 y1)), .int .i64 (fromOf x0 y0), .int .i64 (toOf x1 y1), undef, .pointer (some ⟨qa, 1, none⟩), .int .i64 x1, .pointer (some ⟨qb, 1, none⟩), .int .i64 y1, .bool (decide (x1 < y1)), .int .i64 i, .int .i64 (i + 1 : Nat), (zz 57), (zz 58), undef], []⟩ : Act).tmps.getD ix undef), by omega, by omega, by omega, by omega, by rw [hmv, drop_at hu]; exact hgo, je, Sm.trans (Sd.trans Se), by kernel_rfl⟩
    · rw [if_neg hxy] at hgo
      refine cw_cond good false (congrArg Value.bool (decide_eq_false hxy)) ?_
      refine cw_region good ?_
      refine wpO_mv (.int .i64 k) (by kernel_rfl) ?_
      refine wpO_val (aop_int (k := .i64) (m := k) (n := 1) (v := .int .i64 (k + 1 : Nat)) rfl (by kernel_rfl) (by kernel_rfl) (intV_add (by omega) (by omega) (by omega))) ?_
      refine wpO_as (.int .i64 (k + 1 : Nat)) (by kernel_rfl) ?_
      simp only [Act.put, List.setIfInBounds_toArray, List.set_cons_succ, List.set_cons_zero]
      exact ⟨nn, Nat.lt_succ_self nn, i, k + 1, vm', m', Fe, (fun ix => (⟨#[.agg #[Value.slice (some ⟨da, 0, none⟩) a.length a.length], .agg #[Value.slice (some ⟨db, 0, none⟩) b.length b.length], ptr q2, ptr q3, ptr q4, ptr q5, .int .i64 i, .int .i64 (k + 1 : Nat), ptr qa, ptr qb, .int .i64 (fromOf x0 y0), .int .i64 (toOf x1 y1), .int .i64 i, .pointer (some (⟨q2, 0, none⟩ : Addr)), .slice (some ⟨da, 0, none⟩) a.length a.length, .int .i64 a.length, .bool true, .bool true, .int .i64 k, .pointer (some (⟨q3, 0, none⟩ : Addr)), .slice (some ⟨db, 0, none⟩) b.length b.length, .int .i64 b.length, .bool true, .bool true, ptr q2, .slice (some ⟨da, 0, none⟩) a.length a.length, .int .i64 i, .pointer (some ((⟨da, 0, none⟩ : Addr).add (i * 2))), .agg #[Value.int .i64 x0, Value.int .i64 x1], ptr q3, .slice (some ⟨db, 0, none⟩) b.length b.length, .int .i64 k, .pointer (some ((⟨db, 0, none⟩ : Addr).add (k * 2))), .agg #[Value.int .i64 y0, Value.int .i64 y1], .pointer (some ((⟨qa, 0, none⟩ : Addr).add (0 * 1))), .int .i64 x0, .pointer (some ((⟨qb, 0, none⟩ : Addr).add (0 * 1))), .int .i64 y0, .int .i64 (fromOf x0 y0), .pointer (some ⟨qa, 1, none⟩), .int .i64 x1, .pointer (some ⟨qb, 1, none⟩), .int .i64 y1, .int .i64 (toOf x1 y1), .int .i64 (fromOf x0 y0), .int .i64 (toOf x1 y1), .bool (decide (fromOf x0 y0 < toOf x1 y1)), .int .i64 (fromOf x0 y0), .int .i64 (toOf x1 y1), undef, .pointer (some ⟨qa, 1, none⟩), .int .i64 x1, .pointer (some ⟨qb, 1, none⟩), .int .i64 y1, .bool (decide (x1 < y1)), (zz 55), (zz 56), .int .i64 k, .int .i64 (k + 1 : Nat), undef], []⟩ : Act).tmps.getD ix undef), by omega, by omega, by omega, by omega, by rw [hmv, drop_at hs]; exact hgo, je, Sm.trans (Sd.trans Se), by kernel_rfl⟩
  · refine cw_cond good false (congrArg Value.bool (decide_eq_false hft)) (cw_skip good ?_)
    have jm := j4
    have Sm := hS.trans (T1.trans (T2.trans (T3.trans T4)))
    have hmv : m = andAdd m (x0, x1) (y0, y1) := by simp only [andAdd]; rw [if_neg hft]
    generalize hBm : B4 = Bm at jm Sm
    obtain ⟨vm', hvm'⟩ : ∃ v, v = vm := ⟨vm, rfl⟩
    obtain ⟨m', hm'⟩ : ∃ v, v = m := ⟨m, rfl⟩
    rw [← hvm', ← hm'] at jm
    replace hmv : m' = andAdd m (x0, x1) (y0, y1) := hm'.trans hmv
    have hlen2 : m'.length ≤ m.length + 1 := by rw [hm']; omega
    have ka1 : Bm.cell? ⟨qa, 1, none⟩ = some (.int .i64 x1) := Asn.cellAt (Asn.swap jm) rfl
    have kb1 : Bm.cell? ⟨qb, 1, none⟩ = some (.int .i64 y1) := Asn.cellAt jm rfl
    obtain ⟨Fd, jd, Sd⟩ := Asn.drop jm
    obtain ⟨Fe, je, Se⟩ := Asn.drop jd
    refine cw_seq good (cw_region good ?_)
    refine wpO_val (aop_indexA (k := .i64) (len := 2) (i := 1) (p := ⟨qa, 0, none⟩) (n := 1) (g := false) rfl (by kernel_rfl) (by kernel_rfl) rfl rfl (by decide)) ?_
    rw [at1]
    refine wpO_val (aop_load (v := .int .i64 x1) rfl (by kernel_rfl) rfl ka1) ?_
    refine wpO_val (aop_indexA (k := .i64) (len := 2) (i := 1) (p := ⟨qb, 0, none⟩) (n := 1) (g := false) rfl (by kernel_rfl) (by kernel_rfl) rfl rfl (by decide)) ?_
    rw [at1]
    simp only [Act.put, List.setIfInBounds_toArray, List.set_cons_succ, List.set_cons_zero]
    refine wpO_val (aop_load (v := .int .i64 y1) rfl (by kernel_rfl) rfl kb1) ?_
    refine wpO_val (aop_int (k := .i64) (m := x1) (n := y1) (v := .bool (decide (x1 < y1))) rfl (by kernel_rfl) (by kernel_rfl) rfl) ?_
    simp only [Act.put, List.setIfInBounds_toArray, List.set_cons_succ, List.set_cons_zero]
    by_cases hxy : x1 < y1
    · rw [if_pos hxy] at hgo
      refine cw_cond good true (congrArg Value.bool (decide_eq_true hxy)) ?_
      refine cw_region good ?_
      refine wpO_mv (.int .i64 i) (by kernel_rfl) ?_
      refine wpO_val (aop_int (k := .i64) (m := i) (n := 1) (v := .int .i64 (i + 1 : Nat)) rfl (by kernel_rfl) (by kernel_rfl) (intV_add (by omega) (by omega) (by omega))) ?_
      refine wpO_as (.int .i64 (i + 1 : Nat)) (by kernel_rfl) ?_
      simp only [Act.put, List.setIfInBounds_toArray, List.set_cons_succ, List.set_cons_zero]
      exact ⟨nn, Nat.lt_succ_self nn, i + 1, k, vm', m', Fe, (fun ix => (⟨#[.agg #[Value.slice (some ⟨da, 0, none⟩) a.length a.length], .agg #[Value.slice (some ⟨db, 0, none⟩) b.length b.length], ptr q2, ptr q3, ptr q4, ptr q5, .int .i64 (i + 1 : Nat), .int .i64 k, ptr qa, ptr qb, .int .i64 (fromOf x0 y0), .int .i64 (toOf x1 y1), .int .i64 i, .pointer (some (⟨q2, 0, none⟩ : Addr)), .slice (some ⟨da, 0, none⟩) a.length a.length, .int .i64 a.length, .bool true, .bool true, .int .i64 k, .pointer (some (⟨q3, 0, none⟩ : Addr)), .slice (some ⟨db, 0, none⟩) b.length b.length, .int .i64 b.length, .bool true, .bool true, ptr q2, .slice (some ⟨da, 0, none⟩) a.length a.length, .int .i64 i, .pointer (some ((⟨da, 0, none⟩ : Addr).add (i * 2))), .agg #[Value.int .i64 x0, Value.int .i64 x1], ptr q3, .slice (some ⟨db, 0, none⟩) b.length b.length, .int .i64 k, .pointer (some ((⟨db, 0, none⟩ : Addr).add (k * 2))), .agg #[Value.int .i64 y0, Value.int .i64 y1], .pointer (some ((⟨qa, 0, none⟩ : Addr).add (0 * 1))), .int .i64 x0, .pointer (some ((⟨qb, 0, none⟩ : Addr).add (0 * 1))), .int .i64 y0, .int .i64 (fromOf x0 y0), .pointer (some ⟨qa, 1, none⟩), .int .i64 x1, .pointer (some ⟨qb, 1, none⟩), .int .i64 y1, .int .i64 (toOf x1 y1), .int .i64 (fromOf x0 y0), .int .i64 (toOf x1 y1), .bool (decide (fromOf x0 y0 < toOf x1 y1)), (zz 47), (zz 48), (zz 49), .pointer (some ⟨qa, 1, none⟩), .int .i64 x1, .pointer (some ⟨qb, 1, none⟩), .int .i64 y1, .bool (decide (x1 < y1)), .int .i64 i, .int .i64 (i + 1 : Nat), (zz 57), (zz 58), undef], []⟩ : Act).tmps.getD ix undef), by omega, by omega, by omega, by omega, by rw [hmv, drop_at hu]; exact hgo, je, Sm.trans (Sd.trans Se), by kernel_rfl⟩
    · rw [if_neg hxy] at hgo
      refine cw_cond good false (congrArg Value.bool (decide_eq_false hxy)) ?_
      refine cw_region good ?_
      refine wpO_mv (.int .i64 k) (by kernel_rfl) ?_
      refine wpO_val (aop_int (k := .i64) (m := k) (n := 1) (v := .int .i64 (k + 1 : Nat)) rfl (by kernel_rfl) (by kernel_rfl) (intV_add (by omega) (by omega) (by omega))) ?_
      refine wpO_as (.int .i64 (k + 1 : Nat)) (by kernel_rfl) ?_
      simp only [Act.put, List.setIfInBounds_toArray, List.set_cons_succ, List.set_cons_zero]
      exact ⟨nn, Nat.lt_succ_self nn, i, k + 1, vm', m', Fe, (fun ix => (⟨#[.agg #[Value.slice (some ⟨da, 0, none⟩) a.length a.length], .agg #[Value.slice (some ⟨db, 0, none⟩) b.length b.length], ptr q2, ptr q3, ptr q4, ptr q5, .int .i64 i, .int .i64 (k + 1 : Nat), ptr qa, ptr qb, .int .i64 (fromOf x0 y0), .int .i64 (toOf x1 y1), .int .i64 i, .pointer (some (⟨q2, 0, none⟩ : Addr)), .slice (some ⟨da, 0, none⟩) a.length a.length, .int .i64 a.length, .bool true, .bool true, .int .i64 k, .pointer (some (⟨q3, 0, none⟩ : Addr)), .slice (some ⟨db, 0, none⟩) b.length b.length, .int .i64 b.length, .bool true, .bool true, ptr q2, .slice (some ⟨da, 0, none⟩) a.length a.length, .int .i64 i, .pointer (some ((⟨da, 0, none⟩ : Addr).add (i * 2))), .agg #[Value.int .i64 x0, Value.int .i64 x1], ptr q3, .slice (some ⟨db, 0, none⟩) b.length b.length, .int .i64 k, .pointer (some ((⟨db, 0, none⟩ : Addr).add (k * 2))), .agg #[Value.int .i64 y0, Value.int .i64 y1], .pointer (some ((⟨qa, 0, none⟩ : Addr).add (0 * 1))), .int .i64 x0, .pointer (some ((⟨qb, 0, none⟩ : Addr).add (0 * 1))), .int .i64 y0, .int .i64 (fromOf x0 y0), .pointer (some ⟨qa, 1, none⟩), .int .i64 x1, .pointer (some ⟨qb, 1, none⟩), .int .i64 y1, .int .i64 (toOf x1 y1), .int .i64 (fromOf x0 y0), .int .i64 (toOf x1 y1), .bool (decide (fromOf x0 y0 < toOf x1 y1)), (zz 47), (zz 48), (zz 49), .pointer (some ⟨qa, 1, none⟩), .int .i64 x1, .pointer (some ⟨qb, 1, none⟩), .int .i64 y1, .bool (decide (x1 < y1)), (zz 55), (zz 56), .int .i64 k, .int .i64 (k + 1 : Nat), undef], []⟩ : Act).tmps.getD ix undef), by omega, by omega, by omega, by omega, by rw [hmv, drop_at hs]; exact hgo, je, Sm.trans (Sd.trans Se), by kernel_rfl⟩
end Go.Proofs.Ytfkdkfleaiaoiaa
/-
  The plain law of BitmapRank, the rest: what is in both of spans and a row from nothing on; truth values held against one another. No condition.
-/
namespace Go.Proofs.Ytfkdkfleaiaoiaa
open Go.Abs
theorem add_snoc {m : List Sp} {f t : Int} (h : ∀ s, m.getLast? = some s → s.2 < f) (hft : f < t) : addSp m f t = m ++ [(f, t)] := by
  unfold addSp
  cases hm : m.getLast? with
  | none => simp only; rw [if_pos hft]
  | some s =>
    have := h s hm
    simp only
    rw [if_neg (by omega), if_pos hft]
theorem and_go {lo i : Int} {m : List Sp} (h : WF lo m) (hlo : -1 ≤ lo) : ∀ {n : Nat} {acc : List Sp}, m.length < n → (∀ s, acc.getLast? = some s → s.2 ≤ lo) → andGo n m [(0, i)] acc = acc ++ clip m i := by
  induction h with
  | nil => intro n acc _ _; rw [andGo_nil]; simp [clip]
  | @cons lo f t m h1 h2 h3 h ih =>
    intro n acc hn hacc
    obtain ⟨n, rfl⟩ : ∃ k, n = k + 1 := ⟨n - 1, by simp at hn; omega⟩
    have hn' : m.length < n := by simpa using hn
    have hf : fromOf f 0 = f := by unfold fromOf; rw [if_neg (by omega)]
    have hl : ∀ s, acc.getLast? = some s → s.2 < f := fun s hs => by have := hacc s hs; omega
    simp only [andGo]
    by_cases hti : t < i
    · rw [if_pos hti]
      have ha : andAdd acc (f, t) (0, i) = acc ++ [(f, t)] := by
        have ht : toOf t i = t := by unfold toOf; rw [if_neg (by omega)]
        simp only [andAdd, hf, ht]
        rw [if_pos h2, add_snoc hl h2]
      rw [ha, ih (by omega) hn' (fun s hs => by simp at hs; subst hs; exact Int.le_refl _)]
      simp only [clip]
      rw [if_pos hti, List.append_assoc]; rfl
    · rw [if_neg hti]
      have ht : toOf t i = i := by unfold toOf; split <;> omega
      simp only [andAdd, hf, ht, clip]
      rw [if_neg hti]
      split
      · rename_i hfi; rw [add_snoc hl hfi]
      · simp
theorem and_clip {i : Int} {m : List Sp} (h : WF (-1) m) : andL m [(0, i)] = clip m i := by
  unfold andL
  rw [and_go h (by decide) (by simp) (fun s hs => by simp at hs)]; rfl
theorem wf_clip {lo i : Int} {m : List Sp} (h : WF lo m) (hi : i ≤ 65536) : WF lo (clip m i) := by
  induction h with
  | nil => exact .nil
  | cons h1 h2 h3 h ih =>
    simp only [clip]
    split
    · exact .cons h1 h2 h3 ih
    · split
      · exact .cons h1 ‹_› hi .nil
      · exact .nil
theorem clip_len {i : Int} : ∀ {m : List Sp}, (clip m i).length ≤ m.length
  | [] => Nat.le_refl _
  | (f, t) :: m => by
    have := clip_len (i := i) (m := m)
    simp only [clip]
    split
    · simpa using this
    · split <;> simp
/-- What is in both of m and the numbers below i. -/
theorem and_span {i : Int} {m : List Sp} (h : WF (-1) m) (h0 : 0 ≤ i) (h1 : i ≤ 65536) : ∀ {b : List Sp}, b = addSp [] (if (0 : Int) < 0 then 0 else 0) (if (65536 : Int) < i then 65536 else i) → b.length ≤ 1 ∧ WF (-1) (andL m b) ∧ (andL m b).length ≤ m.length ∧ count (andL m b) = rank m i := by
  intro b hb
  rw [if_neg (by decide), if_neg (by omega), addSp_nil] at hb
  by_cases hi : 0 < i
  · rw [if_pos hi] at hb
    subst hb
    rw [and_clip h]
    exact ⟨by simp, wf_clip h h1, clip_len, count_clip h h1⟩
  · rw [if_neg hi] at hb
    subst hb
    have e : andL m [] = [] := andGo_nil2
    rw [e, rank_low h (by omega)]
    exact ⟨by simp, .nil, by simp, rfl⟩
/-- What Select tells. -/
theorem sel_law {m : List Sp} {k : Int} (h : WF (-1) m) : (0 ≤ sel0 m k ↔ 0 ≤ k ∧ k < count m) ∧ (0 ≤ sel0 m k → rank m (sel0 m k) = k ∧ has m (sel0 m k) = true) := by
  unfold sel0
  by_cases hk : k < 0
  · rw [if_pos hk]
    exact ⟨⟨fun h => absurd h (by decide), fun h => by omega⟩, fun h => absurd h (by decide)⟩
  · rw [if_neg hk]
    by_cases hc : k < count m
    · obtain ⟨g1, g2, g3⟩ := sel_in h (by omega) hc
      exact ⟨⟨fun _ => ⟨by omega, hc⟩, fun _ => by omega⟩, fun _ => ⟨g2, g3⟩⟩
    · rw [sel_out h (by omega)]
      exact ⟨⟨fun h => absurd h (by decide), fun h => by omega⟩, fun h => absurd h (by decide)⟩
section
variable {P : Program} {A : World} {ρ : Operand → Value} {o : Oper}
theorem run_boolEq {t : TypeId} {a b : Bool} {w : World} (hu : P.underlying t = some .bool) : (Op.equal t (.bool a) (.bool b)).run P w = .ok (a == b) w := by
  unfold Op.equal Op.maxDepth Op.equalIn
  simp only [Sem.run_bind, run_under hu, Result.andThen, Sem.run_pure]
theorem aop_boolNeq {t : TypeId} {x y : Operand} {z : TypeId} {a b : Bool} (h : o.op = .binOp .neq t x y z) (hx : ρ x = .bool a) (hy : ρ y = .bool b) (hu : P.underlying t = some .bool) : AOp P ρ o A (.value (.bool (a != b))) A := by
  refine .inl ⟨_, rfl, rfl, rfl, ?_, by rw [h]; rfl, fun w => ?_⟩
  · rw [h]; intro u hu
    simp only [Op.operands, List.mem_toArray, List.mem_cons, List.not_mem_nil, or_false] at hu
    rcases hu with rfl | rfl
    · rw [hx]; rfl
    · rw [hy]; rfl
  · unfold execOp; rw [h]; simp only [hx, hy]
    have e1 : (eqGuard .neq t x y (.bool a) (.bool b)).run P w = .ok () w := rfl
    have e2 : (binOp .neq t (.bool a) (.bool b)).run P w = .ok (.bool (a != b)) w := by
      show (do Pure.pure (Value.bool (!(← Op.equal t (.bool a) (.bool b)))) : Sem Value).run P w = _
      simp only [Sem.run_bind, run_boolEq hu, Result.andThen, Sem.run_pure]
      rfl
    simp only [Sem.run_bind, e1, e2, Result.andThen, Sem.run_pure]
theorem aop_boolEql {t : TypeId} {x y : Operand} {z : TypeId} {a b : Bool} (h : o.op = .binOp .eql t x y z) (hx : ρ x = .bool a) (hy : ρ y = .bool b) (hu : P.underlying t = some .bool) : AOp P ρ o A (.value (.bool (a == b))) A := by
  refine .inl ⟨_, rfl, rfl, rfl, ?_, by rw [h]; rfl, fun w => ?_⟩
  · rw [h]; intro u hu
    simp only [Op.operands, List.mem_toArray, List.mem_cons, List.not_mem_nil, or_false] at hu
    rcases hu with rfl | rfl
    · rw [hx]; rfl
    · rw [hy]; rfl
  · unfold execOp; rw [h]; simp only [hx, hy]
    have e1 : (eqGuard .eql t x y (.bool a) (.bool b)).run P w = .ok () w := rfl
    have e2 : (binOp .eql t (.bool a) (.bool b)).run P w = .ok (.bool (a == b)) w := by
      show (do Pure.pure (Value.bool (← Op.equal t (.bool a) (.bool b))) : Sem Value).run P w = _
      simp only [Sem.run_bind, run_boolEq hu, Result.andThen, Sem.run_pure]
    simp only [Sem.run_bind, e1, e2, Result.andThen, Sem.run_pure]
end
end Go.Proofs.Ytfkdkfleaiaoiaa
/-
  asterismlaw7.BitmapRank answers true. No condition.
-/
namespace Go.Proofs.Ytfkdkfleaiaoiaa
open Go.Abs
variable {n₀ : Nat}
set_option maxRecDepth 8000
theorem all3 {R : Nat → Prop} {p0 p1 p2 : Nat} (h0 : R p0) (h1 : R p1) (h2 : R p2) : ∀ q ∈ [p0, p1, p2], R q := fun q hq => by
  rcases List.mem_cons.1 hq with rfl | hq
  · exact h0
  · exact all2 h1 h2 q hq
theorem wpO_stepN {P : Program} {n₀ : Nat} {ops : Array Oper} {o : Oper} {os : List Oper} {Q : Act → World → Prop} {a : Act} {A A1 : World} {v : Value} (h : RunOp P (Wd P n₀) o a A v A1) (k : wpO P n₀ ops os Q (a.put o.dst v) A1) (hw : Region.wanted o (yielded ops a.tmps) = true) : wpO P n₀ ops (o :: os) Q a A := by
  unfold wpO; rw [if_pos hw]; exact ⟨v, A1, h, k⟩
theorem wpO_callN {n₀ : Nat} {a : Act} {A A1 : World} {o : Oper} {c : Call} {g : Operand} {f : FuncId} {fn : Func} {code : Code} {v : Value} {l : List Value} (h : SndCall Try.prog n₀ f l.toArray A v A1) (H : IsFn Try.prog f fn code) (hg : a.eval g = .func (.func f) #[] #[]) (hx : c.args.toList.map a.eval = l) (ho : o.op = .call c) (hc : c.callee = .value g) : RunOp Try.prog (Wd Try.prog n₀) o a A v A1 :=
  run_named H h hg hx ho hc
def lft : Code → Code | .seq x _ => x | c => c
def rgt : Code → Code | .seq _ y => y | c => c
def rgts : Nat → Code → Code | 0, c => c | n + 1, c => rgts n (rgt c)
theorem cel_at {b : Nat} {v : Value} {J : Asn} {F : Foot} {A : World} (h : ((cel b v).sep J) F A) : ∃ t, A.heap[b]? = some (.cells #[v] t (0, 0)) := by
  obtain ⟨_, h1⟩ := Asn.left h
  obtain ⟨_, t, h2⟩ := h1
  exact ⟨t, h2⟩
end Go.Proofs.Ytfkdkfleaiaoiaa
