/-
  Spans that are read; a pair in a variable of its own. No condition.
-/
import Derived.Test.YtfkdkfleaiaoiaaM1
namespace Go.Proofs.Ytfkdkfleaiaoiaa
open Go.Abs Go.RowKit
variable {n₀ : Nat}
set_option maxRecDepth 8000
theorem spans_val {v : Value} {m : List Sp} {F : Foot} {A : World} (h : spans v m F A) : ∃ p, v = .slice p m.length m.length := by
  rcases h with ⟨e, rfl, _⟩ | ⟨_, d, rfl, _⟩
  · exact ⟨none, by rw [e]⟩
  · exact ⟨_, rfl⟩
theorem spans_get {v : Value} {m : List Sp} {k : Nat} {s : Sp} {F : Foot} {A : World} (h : spans v m F A) (hk : m[k]? = some s) : ∃ d, v = .slice (some ⟨d, 0, none⟩) m.length m.length ∧ A.heap[d]? = some (.cells (cells2 m) 42 (1, 0)) := by
  rcases h with ⟨e, _, _⟩ | ⟨_, d, rfl, hb⟩
  · have := (List.getElem?_eq_some_iff.1 hk).1
    omega
  · exact ⟨d, rfl, hb.2⟩
theorem cells2_cut {m : List Sp} {k : Nat} {s : Sp} (hk : m[k]? = some s) : (cells2 m).extract (k * 2) (k * 2 + 2) = #[.int .i64 s.1, .int .i64 s.2] := by
  obtain ⟨h1, h2⟩ := cells2_at hk
  obtain ⟨l1, e1⟩ := Array.getElem?_eq_some_iff.1 h1
  obtain ⟨l2, e2⟩ := Array.getElem?_eq_some_iff.1 h2
  apply Array.ext
  · simp; omega
  · intro i hi1 hi2
    have hi : i < 2 := by simpa using hi2
    match i, hi with
    | 0, _ => simp [e1]
    | 1, _ => simp [e2]
theorem at0 (q : Nat) : (⟨q, 0, none⟩ : Addr).add (0 * 1) = ⟨q, 0, none⟩ := add_at q 0
theorem at1 (q : Nat) : (⟨q, 0, none⟩ : Addr).add (1 * 1) = ⟨q, 1, none⟩ := add_at q 1
/-- A pair, laid into a variable of its own. -/
theorem pair_var {J : Asn} {F : Foot} {A : World} (hJ : Owns J) (h : J F A) (x y : Int) : ∃ A1 A2 F', A.alloc (.cells #[.int .i64 0, .int .i64 0] 42 (0, 0)) = A1 ∧ (A1.setCell ⟨A.heap.size, 0, none⟩ (.int .i64 x)).setCell ((⟨A.heap.size, 0, none⟩ : Addr).add 1) (.int .i64 y) = A2 ∧
    A1.cell? ⟨A.heap.size, 0, none⟩ = some (.int .i64 0) ∧ A1.frozen? ⟨A.heap.size, 0, none⟩ = false ∧ (A1.setCell ⟨A.heap.size, 0, none⟩ (.int .i64 x)).cell? ((⟨A.heap.size, 0, none⟩ : Addr).add 1) = some (.int .i64 0) ∧ (A1.setCell ⟨A.heap.size, 0, none⟩ (.int .i64 x)).frozen? ((⟨A.heap.size, 0, none⟩ : Addr).add 1) = false ∧
    ((blk A.heap.size (.cells #[.int .i64 x, .int .i64 y] 42 (0, 0))).sep J) F' A2 ∧ Step F A F' A2 := by
  obtain ⟨F1, h1, S1⟩ := Asn.newO hJ h (.cells #[.int .i64 0, .int .i64 0] 42 (0, 0))
  generalize A.heap.size = q at h1 ⊢
  obtain ⟨h2, S2⟩ := Asn.putAt (i := 0) hJ h1 (.inl rfl) (.int .i64 x)
  obtain ⟨h3, S3⟩ := Asn.putAt (i := 1) hJ h2 (.inl rfl) (.int .i64 y)
  have e : (⟨q, 0, none⟩ : Addr).add 1 = ⟨q, 1, none⟩ := rfl
  rw [e]
  exact ⟨_, _, F1, rfl, rfl, Asn.cellAt h1 rfl, Asn.softAt h1 (.inl rfl), Asn.cellAt h2 rfl, Asn.softAt h2 (.inl rfl), h3, S1.trans (S2.trans S3)⟩
theorem wf_take {lo : Int} {m : List Sp} (h : WF lo m) : ∀ k, WF lo (m.take k) := by
  induction h with
  | nil => intro k; rw [List.take_nil]; exact .nil
  | cons h1 h2 h3 h ih =>
    intro k
    cases k with
    | zero => exact .nil
    | succ k => rw [List.take_succ_cons]; exact .cons h1 h2 h3 (ih k)
theorem rank_le {lo i : Int} {m : List Sp} (h : WF lo m) (hlo : lo ≤ 65536) : rank m i ≤ 65536 - lo := by
  induction h with
  | nil => show (0 : Int) ≤ _; omega
  | @cons lo f t m h1 h2 h3 h ih =>
    have := ih h3
    simp only [rank]
    split
    · split <;> omega
    · omega
theorem rank_append {a b : List Sp} {i : Int} : rank (a ++ b) i = rank a i + rank b i := by
  induction a with
  | nil => show _ = 0 + _; rw [List.nil_append]; omega
  | cons s a ih =>
    obtain ⟨f, t⟩ := s
    rw [List.cons_append]
    simp only [rank, ih]
    omega
theorem rank_take {m : List Sp} {k : Nat} {f t i : Int} (h : m[k]? = some (f, t)) : rank (m.take (k + 1)) i = rank (m.take k) i + (if f < i then (if i < t then i else t) - f else 0) := by
  obtain ⟨hk, e⟩ := List.getElem?_eq_some_iff.1 h
  rw [List.take_succ_eq_append_getElem hk, rank_append, e]
  simp [rank]
theorem wf_at {lo : Int} {m : List Sp} (h : WF lo m) : ∀ {k : Nat} {f t : Int}, m[k]? = some (f, t) → lo < f ∧ f < t ∧ t ≤ 65536 := by
  induction h with
  | nil => intro k f t e; simp at e
  | cons h1 h2 h3 h ih =>
    intro k f t e
    cases k with
    | zero => cases e; exact ⟨h1, h2, h3⟩
    | succ k =>
      have := ih (k := k) (by simpa using e)
      omega
theorem sel_drop {m : List Sp} {k : Int} {j : Nat} : sel (m.drop j) k = if h : j < m.length then (if k < (m[j]).2 - (m[j]).1 then (m[j]).1 + k else sel (m.drop (j + 1)) (k - ((m[j]).2 - (m[j]).1))) else -1 := by
  split
  · rename_i h
    rw [List.drop_eq_getElem_cons h]
    obtain ⟨f, t⟩ := m[j]
    rfl
  · rw [List.drop_eq_nil_of_le (by omega)]; rfl
end Go.Proofs.Ytfkdkfleaiaoiaa
/-
  Map.Rank. No condition.
-/
namespace Go.Proofs.Ytfkdkfleaiaoiaa
open Go.Abs
variable {n₀ : Nat}
set_option maxRecDepth 8000
set_option maxHeartbeats 8000000 in
/-- Map.Rank. -/
theorem rank_call {v : Value} {m : List Sp} {i : Int} {J : Asn} {F : Foot} {A : World} (hJ : Owns J) (hwf : WF (-1) m) (hml : m.length < 100000) (h : ((spans v m).sep J) F A) :
    ∃ A' F', SndCall Try.prog n₀ 16 #[.agg #[v], .int .i64 i] A (.int .i64 (rank m i)) A' ∧ ((spans v m).sep J) F' A' ∧ Step F A F' A' := by
  obtain ⟨F1, h1, S1⟩ := Asn.new (Owns.sep Owns.spans hJ) h v 27
  obtain ⟨_, hsv⟩ := Asn.left h
  obtain ⟨pv, rfl⟩ := spans_val hsv
  suffices hw : wpF Try.prog n₀ 16 #[.agg #[Value.slice pv m.length m.length], .int .i64 i] (fun r A' => r = .int .i64 (rank m i) ∧ ∃ F', ((spans (.slice pv m.length m.length) m).sep J) F' A' ∧ Step F A F' A') A by
    obtain ⟨r, A', h1, rfl, F', h2, h3⟩ := hw
    exact ⟨A', F', h1, h2, h3⟩
  generalize hq0 : A.heap.size = q0 at h1
  generalize hA1 : A.alloc (.cells #[.slice pv m.length m.length] 27 (0, 0)) = A1 at h1 S1
  have gv := Asn.get h1
  refine wpF_fn (ts := #[.agg #[Value.slice pv m.length m.length], .int .i64 i, undef, undef, undef, undef, undef, undef, undef, undef, undef, undef, undef, undef, undef, undef, undef, undef, undef, undef, undef, undef, undef, undef, undef, undef, undef, undef, undef, undef]) good ⟨rfl, rfl, rfl⟩ (by kernel_rfl) ?_
  refine cw_seq good (cw_region good ?_)
  refine wpO_val (aop_boxT (v := .agg #[Value.slice pv m.length m.length]) (cs := #[.slice pv m.length m.length]) rfl (by kernel_rfl) rfl) ?_
  rw [hq0, hA1]
  refine wpO_as (.int .i64 0) (by kernel_rfl) ?_
  simp only [Act.put, List.setIfInBounds_toArray, List.set_cons_succ, List.set_cons_zero]
  refine cw_seq good (cw_region good ?_)
  refine wpO_as (.int .i64 0) (by kernel_rfl) ?_
  simp only [Act.put, List.setIfInBounds_toArray, List.set_cons_succ, List.set_cons_zero]
  refine cw_seq good (cw_seq good (cw_region good ?_))
  refine wpO_val (aop_field0 (p := (⟨q0, 0, none⟩ : Addr)) (n := 1) (g := false) rfl (by kernel_rfl) rfl rfl rfl (by decide) (by decide) rfl) ?_
  refine wpO_val (aop_load (v := .slice pv m.length m.length) rfl (by kernel_rfl) rfl gv) ?_
  refine wpO_val (aop_lenV (b := pv) (len := m.length) (cap := m.length) rfl rfl rfl rfl (by kernel_rfl) rfl) ?_
  simp only [Act.put, List.setIfInBounds_toArray, List.set_cons_succ, List.set_cons_zero]
  refine wpO_mv (.int .i64 (0 : Nat)) (by kernel_rfl) ?_
  simp only [Act.put, List.setIfInBounds_toArray, List.set_cons_succ, List.set_cons_zero]
  refine cw_block good (cw_loop good ?_)
  refine wpL_ind (fun nn e A' => ∃ (k : Nat) (F' : Foot) (zz : Nat → Value), nn = m.length - k ∧ k ≤ m.length ∧ Asn.all [cel q0 (.slice pv m.length m.length), spans (.slice pv m.length m.length) m, J] F' A' ∧ Step F A F' A' ∧ e = ⟨#[.agg #[Value.slice pv m.length m.length], .int .i64 i, ptr q0, undef, .int .i64 0, .int .i64 (rank (m.take k) i), undef, (zz 7), ptr q0, .slice pv m.length m.length, .int .i64 m.length, .int .i64 k, (zz 12), (zz 13), (zz 14), (zz 15), (zz 16), (zz 17), (zz 18), (zz 19), (zz 20), (zz 21), (zz 22), (zz 23), (zz 24), (zz 25), (zz 26), (zz 27), (zz 28), undef], []⟩) ?_ m.length _ _ ⟨0, F1, (fun ix => (⟨#[.agg #[Value.slice pv m.length m.length], .int .i64 i, ptr q0, undef, .int .i64 0, .int .i64 0, undef, undef, ptr q0, .slice pv m.length m.length, .int .i64 m.length, .int .i64 (0 : Nat), undef, undef, undef, undef, undef, undef, undef, undef, undef, undef, undef, undef, undef, undef, undef, undef, undef, undef], []⟩ : Act).tmps.getD ix undef), rfl, by omega, h1, S1, by kernel_rfl⟩
  rintro nn _ A' ⟨k, F', zz, rfl, hk, h, hS, rfl⟩
  by_cases hlt : k < m.length
  case neg =>
    refine cw_seq good (cw_region good ?_)
    refine wpO_val (aop_int (k := .i64) (m := k) (n := m.length) (v := .bool false) rfl (by kernel_rfl) (by kernel_rfl) (by simp [intV]; omega)) ?_
    simp only [Act.put, List.setIfInBounds_toArray, List.set_cons_succ, List.set_cons_zero]
    refine cw_seq good (cw_cond good false (by kernel_rfl) (cw_exit good ?_))
    obtain rfl : k = m.length := by omega
    rw [List.take_length]
    refine cw_seq good (cw_region good ?_)
    refine wpO_mv (.int .i64 (rank m i)) (by kernel_rfl) ?_
    refine wpO_as (.int .i64 (rank m i)) (by kernel_rfl) ?_
    simp only [Act.put, List.setIfInBounds_toArray, List.set_cons_succ, List.set_cons_zero]
    obtain ⟨F5, h5, S5⟩ := Asn.drop h
    exact cw_ret good (ret_one (.int .i64 (rank m i)) (by kernel_rfl) ⟨rfl, F5, h5, hS.trans S5⟩)
  obtain ⟨s, hs⟩ : ∃ s, m[k]? = some s := ⟨_, List.getElem?_eq_getElem hlt⟩
  obtain ⟨f, t⟩ := s
  have hft := wf_at hwf hs
  have hrk := rank_take (i := i) hs
  have hr0 : 0 ≤ rank (m.take k) i := rank_nonneg (wf_take hwf k)
  have hr1 : rank (m.take k) i ≤ 65536 - (-1) := rank_le (wf_take hwf k) (by omega)
  obtain ⟨_, hsp⟩ := Asn.left (Asn.perm _ [1, 0, 2] h (by decide))
  obtain ⟨d, e, hd⟩ := spans_get hsp hs
  injection e with e1 _ _
  subst e1
  obtain ⟨A1', A2, F2, eA1, eA2, c0, z0, c1, z1, h2, S2⟩ := pair_var (Owns.sep Owns.cel (Owns.sep Owns.spans hJ)) h f t
  generalize hq : A'.heap.size = q at eA2 c0 z0 c1 z1 h2
  have gf : A2.cell? ⟨q, 0, none⟩ = some (.int .i64 f) := Asn.cellAt h2 rfl
  have gt : A2.cell? ⟨q, 1, none⟩ = some (.int .i64 t) := Asn.cellAt h2 rfl
  refine cw_seq good (cw_region good ?_)
  refine wpO_val (aop_int (k := .i64) (m := k) (n := m.length) (v := .bool true) rfl (by kernel_rfl) (by kernel_rfl) (by simp [intV]; omega)) ?_
  simp only [Act.put, List.setIfInBounds_toArray, List.set_cons_succ, List.set_cons_zero]
  refine cw_seq good (cw_cond good true (by kernel_rfl) (cw_skip good ?_))
  refine cw_seq good (cw_block good (cw_seq good (cw_region good ?_)))
  refine wpO_val (aop_indexT (k := .i64) (len := m.length) (cap := m.length) (i := k) (p := ⟨d, 0, none⟩) (n := 2) (g := true) rfl (by kernel_rfl) (by kernel_rfl) rfl rfl hlt) ?_
  rw [add_at2]
  refine wpO_val (aop_loadT (n := 2) (p := ⟨d, k * 2, none⟩) (xs := #[.int .i64 f, .int .i64 t]) rfl (by kernel_rfl) rfl hd rfl (by rw [cells2_size]; show k * 2 + 2 ≤ _; omega) (cells2_cut hs)) ?_
  refine wpO_val (aop_allocT (cs := #[.int .i64 0, .int .i64 0]) rfl rfl rfl rfl) ?_
  rw [hq, eA1]
  simp only [Act.put, List.setIfInBounds_toArray, List.set_cons_succ, List.set_cons_zero]
  refine wpO_unit (aop_storeT2 (p := ⟨q, 0, none⟩) (v := .int .i64 f) (v' := .int .i64 t) rfl (by kernel_rfl) (by kernel_rfl) rfl rfl rfl c0 z0 c1 z1) ?_
  rw [eA2]
  simp only [Act.put]
  refine cw_seq good (cw_region good ?_)
  refine wpO_mv (.int .i64 i) (by kernel_rfl) ?_
  refine wpO_val (aop_indexA (k := .i64) (len := 2) (i := 0) (p := ⟨q, 0, none⟩) (n := 1) (g := false) rfl (by kernel_rfl) (by kernel_rfl) rfl rfl (by decide)) ?_
  rw [at0]
  refine wpO_val (aop_load (v := .int .i64 f) rfl (by kernel_rfl) rfl gf) ?_
  simp only [Act.put, List.setIfInBounds_toArray, List.set_cons_succ, List.set_cons_zero]
  refine wpO_val (aop_int (k := .i64) (m := i) (n := f) (v := .bool (decide (i > f))) rfl (by kernel_rfl) (by kernel_rfl) rfl) ?_
  simp only [Act.put, List.setIfInBounds_toArray, List.set_cons_succ, List.set_cons_zero]
  by_cases hif : f < i
  · refine cw_cond good true (congrArg Value.bool (decide_eq_true hif)) ?_
    refine cw_region good ?_
    refine wpO_mv (.int .i64 (rank (m.take k) i)) (by kernel_rfl) ?_
    refine wpO_mv (.int .i64 i) (by kernel_rfl) ?_
    refine wpO_val (aop_indexA (k := .i64) (len := 2) (i := 1) (p := ⟨q, 0, none⟩) (n := 1) (g := false) rfl (by kernel_rfl) (by kernel_rfl) rfl rfl (by decide)) ?_
    rw [at1]
    simp only [Act.put, List.setIfInBounds_toArray, List.set_cons_succ, List.set_cons_zero]
    refine wpO_val (aop_load (v := .int .i64 t) rfl (by kernel_rfl) rfl gt) ?_
    refine wpO_val (aop_min (k := .i64) (m := i) (n := t) rfl rfl (by kernel_rfl) (by kernel_rfl)) ?_
    refine wpO_val (aop_indexA (k := .i64) (len := 2) (i := 0) (p := ⟨q, 0, none⟩) (n := 1) (g := false) rfl (by kernel_rfl) (by kernel_rfl) rfl rfl (by decide)) ?_
    rw [at0]
    simp only [Act.put, List.setIfInBounds_toArray, List.set_cons_succ, List.set_cons_zero]
    refine wpO_val (aop_load (v := .int .i64 f) rfl (by kernel_rfl) rfl gf) ?_
    refine wpO_val (aop_int (k := .i64) (m := (if t < i then t else i)) (n := f) (v := .int .i64 ((if t < i then t else i) - f)) rfl (by kernel_rfl) (by kernel_rfl) (intV_sub rfl (by split <;> omega) (by split <;> omega))) ?_
    refine wpO_val (aop_int (k := .i64) (m := rank (m.take k) i) (n := ((if t < i then t else i) - f)) (v := .int .i64 (rank (m.take (k + 1)) i)) rfl (by kernel_rfl) (by kernel_rfl) (intV_add (by rw [hrk, if_pos hif]; split <;> split <;> omega) (by rw [hrk, if_pos hif]; split <;> omega) (by rw [hrk, if_pos hif]; split <;> omega))) ?_
    simp only [Act.put, List.setIfInBounds_toArray, List.set_cons_succ, List.set_cons_zero]
    refine wpO_as (.int .i64 (rank (m.take (k + 1)) i)) (by kernel_rfl) ?_
    simp only [Act.put, List.setIfInBounds_toArray, List.set_cons_succ, List.set_cons_zero]
    obtain ⟨F5, h5, S5⟩ := Asn.drop h2
    refine cw_region good ?_
    refine wpO_val (aop_int (k := .i64) (m := k) (n := 1) (v := .int .i64 (k + 1 : Nat)) rfl (by kernel_rfl) (by kernel_rfl) (intV_add (by omega) (by omega) (by omega))) ?_
    refine wpO_mv (.int .i64 (k + 1 : Nat)) (by kernel_rfl) ?_
    simp only [Act.put, List.setIfInBounds_toArray, List.set_cons_succ, List.set_cons_zero]
    exact ⟨m.length - (k + 1), by omega, k + 1, F5, (fun ix => (⟨#[.agg #[Value.slice (some ⟨d, 0, none⟩) m.length m.length], .int .i64 i, ptr q0, undef, .int .i64 0, .int .i64 (rank (m.take (k + 1)) i), undef, ptr q, ptr q0, .slice (some ⟨d, 0, none⟩) m.length m.length, .int .i64 m.length, .int .i64 (k + 1 : Nat), .bool true, .pointer (some ⟨d, k * 2, none⟩), .agg #[Value.int .i64 f, Value.int .i64 t], .int .i64 i, .pointer (some ⟨q, 0, none⟩), .int .i64 f, .bool (decide (i > f)), .int .i64 (rank (m.take k) i), .int .i64 i, .pointer (some ⟨q, 1, none⟩), .int .i64 t, .int .i64 (if t < i then t else i), .pointer (some ⟨q, 0, none⟩), .int .i64 f, .int .i64 ((if t < i then t else i) - f), .int .i64 (rank (m.take (k + 1)) i), .int .i64 (k + 1 : Nat), undef], []⟩ : Act).tmps.getD ix undef), rfl, by omega, h5, hS.trans (S2.trans S5), by kernel_rfl⟩
  · refine cw_cond good false (congrArg Value.bool (decide_eq_false hif)) (cw_skip good ?_)
    have hrk2 : rank (m.take k) i = rank (m.take (k + 1)) i := by rw [hrk, if_neg hif]; omega
    rw [hrk2]
    obtain ⟨F5, h5, S5⟩ := Asn.drop h2
    refine cw_region good ?_
    refine wpO_val (aop_int (k := .i64) (m := k) (n := 1) (v := .int .i64 (k + 1 : Nat)) rfl (by kernel_rfl) (by kernel_rfl) (intV_add (by omega) (by omega) (by omega))) ?_
    refine wpO_mv (.int .i64 (k + 1 : Nat)) (by kernel_rfl) ?_
    simp only [Act.put, List.setIfInBounds_toArray, List.set_cons_succ, List.set_cons_zero]
    exact ⟨m.length - (k + 1), by omega, k + 1, F5, (fun ix => (⟨#[.agg #[Value.slice (some ⟨d, 0, none⟩) m.length m.length], .int .i64 i, ptr q0, undef, .int .i64 0, .int .i64 (rank (m.take (k + 1)) i), undef, ptr q, ptr q0, .slice (some ⟨d, 0, none⟩) m.length m.length, .int .i64 m.length, .int .i64 (k + 1 : Nat), .bool true, .pointer (some ⟨d, k * 2, none⟩), .agg #[Value.int .i64 f, Value.int .i64 t], .int .i64 i, .pointer (some ⟨q, 0, none⟩), .int .i64 f, .bool (decide (i > f)), (zz 19), (zz 20), (zz 21), (zz 22), (zz 23), (zz 24), (zz 25), (zz 26), (zz 27), .int .i64 (k + 1 : Nat), undef], []⟩ : Act).tmps.getD ix undef), rfl, by omega, h5, hS.trans (S2.trans S5), by kernel_rfl⟩
end Go.Proofs.Ytfkdkfleaiaoiaa
/-
  Map.Select, Map.Count. No condition.
-/
namespace Go.Proofs.Ytfkdkfleaiaoiaa
open Go.Abs
variable {n₀ : Nat}
set_option maxRecDepth 8000
def sel0 (m : List Sp) (k : Int) : Int := if k < 0 then -1 else sel m k
set_option maxHeartbeats 8000000 in
/-- Map.Select. -/
theorem select_call {v : Value} {m : List Sp} {k0 : Int} {J : Asn} {F : Foot} {A : World} (hJ : Owns J) (hwf : WF (-1) m) (hml : m.length < 100000) (hk0 : k0 < 9223372036854775808) (h : ((spans v m).sep J) F A) :
    ∃ A' F', SndCall Try.prog n₀ 17 #[.agg #[v], .int .i64 k0] A (.int .i64 (sel0 m k0)) A' ∧ ((spans v m).sep J) F' A' ∧ Step F A F' A' := by
  obtain ⟨F1, h1, S1⟩ := Asn.new (Owns.sep Owns.spans hJ) h v 27
  obtain ⟨_, hsv⟩ := Asn.left h
  obtain ⟨pv, rfl⟩ := spans_val hsv
  suffices hw : wpF Try.prog n₀ 17 #[.agg #[Value.slice pv m.length m.length], .int .i64 k0] (fun r A' => r = .int .i64 (sel0 m k0) ∧ ∃ F', ((spans (.slice pv m.length m.length) m).sep J) F' A' ∧ Step F A F' A') A by
    obtain ⟨r, A', h1, rfl, F', h2, h3⟩ := hw
    exact ⟨A', F', h1, h2, h3⟩
  generalize hq0 : A.heap.size = q0 at h1
  generalize hA1 : A.alloc (.cells #[.slice pv m.length m.length] 27 (0, 0)) = A1 at h1 S1
  have gv := Asn.get h1
  refine wpF_fn (ts := #[.agg #[Value.slice pv m.length m.length], .int .i64 k0, undef, undef, undef, undef, undef, undef, undef, undef, undef, undef, undef, undef, undef, undef, undef, undef, undef, undef, undef, undef, undef, undef, undef, undef, undef, undef, undef, undef, undef, undef, undef]) good ⟨rfl, rfl, rfl⟩ (by kernel_rfl) ?_
  refine cw_seq good (cw_region good ?_)
  refine wpO_val (aop_boxT (v := .agg #[Value.slice pv m.length m.length]) (cs := #[.slice pv m.length m.length]) rfl (by kernel_rfl) rfl) ?_
  rw [hq0, hA1]
  refine wpO_as (.int .i64 0) (by kernel_rfl) ?_
  simp only [Act.put, List.setIfInBounds_toArray, List.set_cons_succ, List.set_cons_zero]
  refine cw_seq good (cw_seq good (cw_region good ?_))
  refine wpO_mv (.int .i64 k0) (by kernel_rfl) ?_
  refine wpO_val (aop_int (k := .i64) (m := k0) (n := 0) (v := .bool (decide (k0 < 0))) rfl (by kernel_rfl) (by kernel_rfl) rfl) ?_
  simp only [Act.put, List.setIfInBounds_toArray, List.set_cons_succ, List.set_cons_zero]
  by_cases hneg : k0 < 0
  case pos =>
    refine cw_cond good true (congrArg Value.bool (decide_eq_true hneg)) ?_
    refine cw_seq good (cw_region good ?_)
    refine wpO_as (.int .i64 (-1)) (by kernel_rfl) ?_
    simp only [Act.put, List.setIfInBounds_toArray, List.set_cons_succ, List.set_cons_zero]
    obtain ⟨F5, h5, S5⟩ := Asn.drop h1
    exact cw_ret good (ret_one (.int .i64 (-1)) (by kernel_rfl) ⟨by simp only [sel0, if_pos hneg], F5, h5, S1.trans S5⟩)
  refine cw_cond good false (congrArg Value.bool (decide_eq_false hneg)) (cw_skip good ?_)
  have hs0 : sel0 m k0 = sel m k0 := by simp only [sel0, if_neg hneg]
  rw [hs0, show decide (k0 < 0) = false from decide_eq_false hneg]
  refine cw_seq good (cw_seq good (cw_region good ?_))
  refine wpO_val (aop_field0 (p := (⟨q0, 0, none⟩ : Addr)) (n := 1) (g := false) rfl (by kernel_rfl) rfl rfl rfl (by decide) (by decide) rfl) ?_
  refine wpO_val (aop_load (v := .slice pv m.length m.length) rfl (by kernel_rfl) rfl gv) ?_
  refine wpO_val (aop_lenV (b := pv) (len := m.length) (cap := m.length) rfl rfl rfl rfl (by kernel_rfl) rfl) ?_
  simp only [Act.put, List.setIfInBounds_toArray, List.set_cons_succ, List.set_cons_zero]
  refine wpO_mv (.int .i64 (0 : Nat)) (by kernel_rfl) ?_
  simp only [Act.put, List.setIfInBounds_toArray, List.set_cons_succ, List.set_cons_zero]
  refine cw_block good (cw_loop good ?_)
  refine wpL_ind (fun nn e A' => ∃ (k : Nat) (kk : Int) (F' : Foot) (zz : Nat → Value), nn = m.length - k ∧ k ≤ m.length ∧ 0 ≤ kk ∧ kk ≤ k0 ∧ sel m k0 = sel (m.drop k) kk ∧ Asn.all [cel q0 (.slice pv m.length m.length), spans (.slice pv m.length m.length) m, J] F' A' ∧ Step F A F' A' ∧ e = ⟨#[.agg #[Value.slice pv m.length m.length], .int .i64 kk, ptr q0, undef, .int .i64 0, undef, (zz 6), (zz 7), .int .i64 k0, .bool false, ptr q0, .slice pv m.length m.length, .int .i64 m.length, .int .i64 k, (zz 14), (zz 15), (zz 16), (zz 17), (zz 18), (zz 19), (zz 20), (zz 21), (zz 22), (zz 23), (zz 24), (zz 25), (zz 26), (zz 27), (zz 28), (zz 29), (zz 30), (zz 31), (zz 32)], []⟩) ?_ m.length _ _ ⟨0, k0, F1, (fun ix => (⟨#[.agg #[Value.slice pv m.length m.length], .int .i64 k0, ptr q0, undef, .int .i64 0, undef, undef, undef, .int .i64 k0, .bool false, ptr q0, .slice pv m.length m.length, .int .i64 m.length, .int .i64 (0 : Nat), undef, undef, undef, undef, undef, undef, undef, undef, undef, undef, undef, undef, undef, undef, undef, undef, undef, undef, undef], []⟩ : Act).tmps.getD ix undef), rfl, by omega, by omega, by omega, rfl, h1, S1, by kernel_rfl⟩
  rintro nn _ A' ⟨k, kk, F', zz, rfl, hk, hkk0, hkk1, hsel, h, hS, rfl⟩
  by_cases hlt : k < m.length
  case neg =>
    refine cw_seq good (cw_region good ?_)
    refine wpO_val (aop_int (k := .i64) (m := k) (n := m.length) (v := .bool false) rfl (by kernel_rfl) (by kernel_rfl) (by simp [intV]; omega)) ?_
    simp only [Act.put, List.setIfInBounds_toArray, List.set_cons_succ, List.set_cons_zero]
    refine cw_seq good (cw_cond good false (by kernel_rfl) (cw_exit good ?_))
    refine cw_seq good (cw_region good ?_)
    refine wpO_as (.int .i64 (-1)) (by kernel_rfl) ?_
    simp only [Act.put, List.setIfInBounds_toArray, List.set_cons_succ, List.set_cons_zero]
    obtain ⟨F5, h5, S5⟩ := Asn.drop h
    rw [List.drop_eq_nil_of_le (by omega)] at hsel
    exact cw_ret good (ret_one (.int .i64 (-1)) (by kernel_rfl) ⟨by rw [hsel]; rfl, F5, h5, hS.trans S5⟩)
  obtain ⟨s, hs⟩ : ∃ s, m[k]? = some s := ⟨_, List.getElem?_eq_getElem hlt⟩
  obtain ⟨f, t⟩ := s
  have hft := wf_at hwf hs
  have hdr : m.drop k = (f, t) :: m.drop (k + 1) := by
    rw [List.drop_eq_getElem_cons hlt]
    rw [List.getElem?_eq_getElem hlt] at hs
    injection hs with e
    rw [e]
  rw [hdr] at hsel
  simp only [sel] at hsel
  obtain ⟨_, hsp⟩ := Asn.left (Asn.perm _ [1, 0, 2] h (by decide))
  obtain ⟨d, e, hd⟩ := spans_get hsp hs
  injection e with e1 _ _
  subst e1
  obtain ⟨A1', A2, F2, eA1, eA2, c0, z0, c1, z1, h2, S2⟩ := pair_var (Owns.sep Owns.cel (Owns.sep Owns.spans hJ)) h f t
  generalize hq : A'.heap.size = q at eA2 c0 z0 c1 z1 h2
  have gf : A2.cell? ⟨q, 0, none⟩ = some (.int .i64 f) := Asn.cellAt h2 rfl
  have gt : A2.cell? ⟨q, 1, none⟩ = some (.int .i64 t) := Asn.cellAt h2 rfl
  refine cw_seq good (cw_region good ?_)
  refine wpO_val (aop_int (k := .i64) (m := k) (n := m.length) (v := .bool true) rfl (by kernel_rfl) (by kernel_rfl) (by simp [intV]; omega)) ?_
  simp only [Act.put, List.setIfInBounds_toArray, List.set_cons_succ, List.set_cons_zero]
  refine cw_seq good (cw_cond good true (by kernel_rfl) (cw_skip good ?_))
  refine cw_seq good (cw_block good (cw_seq good (cw_region good ?_)))
  refine wpO_val (aop_indexT (k := .i64) (len := m.length) (cap := m.length) (i := k) (p := ⟨d, 0, none⟩) (n := 2) (g := true) rfl (by kernel_rfl) (by kernel_rfl) rfl rfl hlt) ?_
  rw [add_at2]
  refine wpO_val (aop_loadT (n := 2) (p := ⟨d, k * 2, none⟩) (xs := #[.int .i64 f, .int .i64 t]) rfl (by kernel_rfl) rfl hd rfl (by rw [cells2_size]; show k * 2 + 2 ≤ _; omega) (cells2_cut hs)) ?_
  refine wpO_val (aop_allocT (cs := #[.int .i64 0, .int .i64 0]) rfl rfl rfl rfl) ?_
  rw [hq, eA1]
  simp only [Act.put, List.setIfInBounds_toArray, List.set_cons_succ, List.set_cons_zero]
  refine wpO_unit (aop_storeT2 (p := ⟨q, 0, none⟩) (v := .int .i64 f) (v' := .int .i64 t) rfl (by kernel_rfl) (by kernel_rfl) rfl rfl rfl c0 z0 c1 z1) ?_
  rw [eA2]
  simp only [Act.put]
  refine cw_seq good (cw_region good ?_)
  refine wpO_val (aop_indexA (k := .i64) (len := 2) (i := 1) (p := ⟨q, 0, none⟩) (n := 1) (g := false) rfl (by kernel_rfl) (by kernel_rfl) rfl rfl (by decide)) ?_
  rw [at1]
  refine wpO_val (aop_load (v := .int .i64 t) rfl (by kernel_rfl) rfl gt) ?_
  refine wpO_val (aop_indexA (k := .i64) (len := 2) (i := 0) (p := ⟨q, 0, none⟩) (n := 1) (g := false) rfl (by kernel_rfl) (by kernel_rfl) rfl rfl (by decide)) ?_
  rw [at0]
  simp only [Act.put, List.setIfInBounds_toArray, List.set_cons_succ, List.set_cons_zero]
  refine wpO_val (aop_load (v := .int .i64 f) rfl (by kernel_rfl) rfl gf) ?_
  refine wpO_val (aop_int (k := .i64) (m := t) (n := f) (v := .int .i64 (t - f)) rfl (by kernel_rfl) (by kernel_rfl) (intV_sub rfl (by omega) (by omega))) ?_
  refine wpO_as (.int .i64 (t - f)) (by kernel_rfl) ?_
  simp only [Act.put, List.setIfInBounds_toArray, List.set_cons_succ, List.set_cons_zero]
  refine cw_seq good (cw_region good ?_)
  refine wpO_mv (.int .i64 kk) (by kernel_rfl) ?_
  refine wpO_mv (.int .i64 (t - f)) (by kernel_rfl) ?_
  refine wpO_val (aop_int (k := .i64) (m := kk) (n := t - f) (v := .bool (decide (kk < t - f))) rfl (by kernel_rfl) (by kernel_rfl) rfl) ?_
  simp only [Act.put, List.setIfInBounds_toArray, List.set_cons_succ, List.set_cons_zero]
  by_cases hin : kk < t - f
  · refine cw_cond good true (congrArg Value.bool (decide_eq_true hin)) ?_
    rw [if_pos hin] at hsel
    refine cw_seq good (cw_region good ?_)
    refine wpO_val (aop_indexA (k := .i64) (len := 2) (i := 0) (p := ⟨q, 0, none⟩) (n := 1) (g := false) rfl (by kernel_rfl) (by kernel_rfl) rfl rfl (by decide)) ?_
    rw [at0]
    refine wpO_val (aop_load (v := .int .i64 f) rfl (by kernel_rfl) rfl gf) ?_
    refine wpO_mv (.int .i64 kk) (by kernel_rfl) ?_
    simp only [Act.put, List.setIfInBounds_toArray, List.set_cons_succ, List.set_cons_zero]
    refine wpO_val (aop_int (k := .i64) (m := f) (n := kk) (v := .int .i64 (f + kk)) rfl (by kernel_rfl) (by kernel_rfl) (intV_add rfl (by omega) (by omega))) ?_
    refine wpO_as (.int .i64 (f + kk)) (by kernel_rfl) ?_
    simp only [Act.put, List.setIfInBounds_toArray, List.set_cons_succ, List.set_cons_zero]
    obtain ⟨F5, h5, S5⟩ := Asn.drop h2
    obtain ⟨F6, h6, S6⟩ := Asn.drop h5
    exact cw_ret good (ret_one (.int .i64 (f + kk)) (by kernel_rfl) ⟨by rw [hsel], F6, h6, hS.trans (S2.trans (S5.trans S6))⟩)
  · refine cw_cond good false (congrArg Value.bool (decide_eq_false hin)) ?_
    rw [if_neg hin] at hsel
    refine cw_region good ?_
    refine wpO_mv (.int .i64 kk) (by kernel_rfl) ?_
    refine wpO_mv (.int .i64 (t - f)) (by kernel_rfl) ?_
    refine wpO_val (aop_int (k := .i64) (m := kk) (n := t - f) (v := .int .i64 (kk - (t - f))) rfl (by kernel_rfl) (by kernel_rfl) (intV_sub rfl (by omega) (by omega))) ?_
    simp only [Act.put, List.setIfInBounds_toArray, List.set_cons_succ, List.set_cons_zero]
    refine wpO_as (.int .i64 (kk - (t - f))) (by kernel_rfl) ?_
    simp only [Act.put, List.setIfInBounds_toArray, List.set_cons_succ, List.set_cons_zero]
    obtain ⟨F5, h5, S5⟩ := Asn.drop h2
    refine cw_region good ?_
    refine wpO_val (aop_int (k := .i64) (m := k) (n := 1) (v := .int .i64 (k + 1 : Nat)) rfl (by kernel_rfl) (by kernel_rfl) (intV_add (by omega) (by omega) (by omega))) ?_
    refine wpO_mv (.int .i64 (k + 1 : Nat)) (by kernel_rfl) ?_
    simp only [Act.put, List.setIfInBounds_toArray, List.set_cons_succ, List.set_cons_zero]
    exact ⟨m.length - (k + 1), by omega, k + 1, kk - (t - f), F5, (fun ix => (⟨#[.agg #[Value.slice (some ⟨d, 0, none⟩) m.length m.length], .int .i64 (kk - (t - f)), ptr q0, undef, .int .i64 0, undef, ptr q, .int .i64 (t - f), .int .i64 k0, .bool false, ptr q0, .slice (some ⟨d, 0, none⟩) m.length m.length, .int .i64 m.length, .int .i64 (k + 1 : Nat), .bool true, .pointer (some ⟨d, k * 2, none⟩), .agg #[Value.int .i64 f, Value.int .i64 t], .pointer (some ⟨q, 1, none⟩), .int .i64 t, .pointer (some ⟨q, 0, none⟩), .int .i64 f, .int .i64 (t - f), .int .i64 kk, .int .i64 (t - f), .bool (decide (kk < t - f)), (zz 25), (zz 26), (zz 27), (zz 28), .int .i64 kk, .int .i64 (t - f), .int .i64 (kk - (t - f)), .int .i64 (k + 1 : Nat)], []⟩ : Act).tmps.getD ix undef), rfl, by omega, by omega, by omega, hsel, h5, hS.trans (S2.trans S5), by kernel_rfl⟩
set_option maxHeartbeats 8000000 in
/-- Map.Count. -/
theorem count_call {v : Value} {m : List Sp} {J : Asn} {F : Foot} {A : World} (hJ : Owns J) (hwf : WF (-1) m) (hml : m.length < 100000) (h : ((spans v m).sep J) F A) :
    ∃ A' F', SndCall Try.prog n₀ 28 #[.agg #[v]] A (.int .i64 (count m)) A' ∧ ((spans v m).sep J) F' A' ∧ Step F A F' A' := by
  obtain ⟨F1, h1, S1⟩ := Asn.new (Owns.sep Owns.spans hJ) h v 27
  have h1b := Asn.swap h1
  have hat : (A.alloc (.cells #[v] 27 (0, 0))).heap[A.heap.size]? = some (.cells #[v] 27 (0, 0)) := alloc_at
  generalize hq0 : A.heap.size = q0 at h1b hat
  generalize hA1 : A.alloc (.cells #[v] 27 (0, 0)) = A1 at h1b S1 hat
  obtain ⟨A2, F2, c2, h2, S2⟩ := rank_call (n₀ := n₀) (i := 65536) (Owns.sep Owns.cel hJ) hwf hml h1b
  obtain ⟨F3, h3, S3⟩ := Asn.drop (Asn.swap h2)
  suffices hw : wpF Try.prog n₀ 28 #[.agg #[v]] (fun r A' => r = .int .i64 (count m) ∧ A' = A2) A by
    obtain ⟨r, A', h1, rfl, rfl⟩ := hw
    exact ⟨A', F3, h1, h3, S1.trans (S2.trans S3)⟩
  refine wpF_fn (ts := #[.agg #[v], undef, undef, undef, undef]) good ⟨rfl, rfl, rfl⟩ (by kernel_rfl) ?_
  refine cw_seq good (cw_region good ?_)
  refine wpO_val (aop_boxT (v := .agg #[v]) (cs := #[v]) rfl (by kernel_rfl) rfl) ?_
  rw [hq0, hA1]
  refine wpO_as (.int .i64 0) (by kernel_rfl) ?_
  simp only [Act.put, List.setIfInBounds_toArray, List.set_cons_succ, List.set_cons_zero]
  refine cw_seq good (cw_region good ?_)
  refine wpO_val (aop_loadT (n := 1) (p := ⟨q0, 0, none⟩) (xs := #[v]) rfl (by kernel_rfl) rfl hat rfl (Nat.le_refl 1) rfl) ?_
  simp only [Act.put, List.setIfInBounds_toArray, List.set_cons_succ, List.set_cons_zero]
  refine wpO_call (f := 16) (first := #[]) (cap := #[]) (l := [.agg #[v], .int .i64 65536]) (xs := #[.agg #[v], .int .i64 65536]) ⟨rfl, rfl, rfl⟩ rfl (by kernel_rfl) rfl ⟨_, _, c2, ?_⟩
  simp only [Act.put, List.setIfInBounds_toArray, List.set_cons_succ, List.set_cons_zero]
  refine wpO_as (.int .i64 (count m)) (by kernel_rfl) ?_
  simp only [Act.put, List.setIfInBounds_toArray, List.set_cons_succ, List.set_cons_zero]
  exact cw_ret good (ret_one (.int .i64 (count m)) (by kernel_rfl) ⟨rfl, rfl⟩)
end Go.Proofs.Ytfkdkfleaiaoiaa
/-
  Map.Has. No condition.
-/
namespace Go.Proofs.Ytfkdkfleaiaoiaa
open Go.Abs
variable {n₀ : Nat}
set_option maxRecDepth 8000
set_option maxHeartbeats 8000000 in
theorem has1_call {b : Nat} {f t i : Int} {F : Foot} {A : World} {J : Asn} (hJ : Owns J) (h : ((cel b (.int .i64 i)).sep J) F A) :
    ∃ A' F', SndCall Try.prog n₀ 36 #[.agg #[Value.int .i64 f, Value.int .i64 t], ptr b] A (.bool (decide (f ≤ i) && decide (i < t))) A' ∧ ((cel b (.int .i64 i)).sep J) F' A' ∧ Step F A F' A' := by
  obtain ⟨F1, h1, S1⟩ := Asn.newO (Owns.sep Owns.cel hJ) h (.cells #[.int .i64 f, .int .i64 t] 42 (0, 0))
  obtain ⟨F2, h2, S2⟩ := Asn.drop h1
  suffices hw : wpF Try.prog n₀ 36 #[.agg #[Value.int .i64 f, Value.int .i64 t], ptr b] (fun r A' => r = .bool (decide (f ≤ i) && decide (i < t)) ∧ A' = A.alloc (.cells #[.int .i64 f, .int .i64 t] 42 (0, 0))) A by
    obtain ⟨r, A', h1, rfl, rfl⟩ := hw
    exact ⟨_, F2, h1, h2, S1.trans S2⟩
  generalize hq : A.heap.size = q at h1
  generalize hA1 : A.alloc (.cells #[.int .i64 f, .int .i64 t] 42 (0, 0)) = A1 at h1 S1
  have gf : A1.cell? ⟨q, 0, none⟩ = some (.int .i64 f) := Asn.cellAt h1 rfl
  have gt : A1.cell? ⟨q, 1, none⟩ = some (.int .i64 t) := Asn.cellAt h1 rfl
  obtain ⟨_, hr⟩ := Asn.right h1
  have gi : A1.cell? ⟨b, 0, none⟩ = some (.int .i64 i) := Asn.get hr
  refine wpF_fn (ts := #[.agg #[Value.int .i64 f, Value.int .i64 t], ptr b, undef, undef, undef, undef, undef, undef, undef, undef, undef, undef, undef, undef]) good ⟨rfl, rfl, rfl⟩ (by kernel_rfl) ?_
  refine cw_seq good (cw_region good ?_)
  refine wpO_val (aop_boxT (v := .agg #[Value.int .i64 f, Value.int .i64 t]) (cs := #[.int .i64 f, .int .i64 t]) rfl (by kernel_rfl) rfl) ?_
  rw [hq, hA1]
  refine wpO_as (.bool false) (by kernel_rfl) ?_
  simp only [Act.put, List.setIfInBounds_toArray, List.set_cons_succ, List.set_cons_zero]
  refine cw_seq good (cw_region good ?_)
  refine wpO_val (aop_load (v := .int .i64 i) rfl (by kernel_rfl) rfl gi) ?_
  refine wpO_val (aop_indexA (k := .i64) (len := 2) (i := 0) (p := ⟨q, 0, none⟩) (n := 1) (g := false) rfl (by kernel_rfl) (by kernel_rfl) rfl rfl (by decide)) ?_
  rw [at0]
  refine wpO_val (aop_load (v := .int .i64 f) rfl (by kernel_rfl) rfl gf) ?_
  simp only [Act.put, List.setIfInBounds_toArray, List.set_cons_succ, List.set_cons_zero]
  refine wpO_val (aop_int (k := .i64) (m := i) (n := f) (v := .bool (decide (i ≥ f))) rfl (by kernel_rfl) (by kernel_rfl) rfl) ?_
  simp only [Act.put, List.setIfInBounds_toArray, List.set_cons_succ, List.set_cons_zero]
  by_cases hfi : f ≤ i
  · rw [show decide (i ≥ f) = true from decide_eq_true hfi]
    refine wpO_mv (.bool true) (by kernel_rfl) ?_
    simp only [Act.put, List.setIfInBounds_toArray, List.set_cons_succ, List.set_cons_zero]
    with_reducible refine wpO_val (v := .int .i64 i) (A1 := A1) ?_ ?_ (hw := by kernel_rfl)
    · exact aop_load (v := .int .i64 i) rfl (by kernel_rfl) rfl gi
    simp only [Act.put, List.setIfInBounds_toArray, List.set_cons_succ, List.set_cons_zero]
    with_reducible refine wpO_val (v := .pointer (some ((⟨q, 0, none⟩ : Addr).add (1 * 1)))) (A1 := A1) ?_ ?_ (hw := by kernel_rfl)
    · exact aop_indexA (k := .i64) (len := 2) (i := 1) (p := ⟨q, 0, none⟩) (n := 1) (g := false) rfl (by kernel_rfl) (by kernel_rfl) rfl rfl (by decide)
    rw [at1]
    simp only [Act.put, List.setIfInBounds_toArray, List.set_cons_succ, List.set_cons_zero]
    with_reducible refine wpO_val (v := .int .i64 t) (A1 := A1) ?_ ?_ (hw := by kernel_rfl)
    · exact aop_load (v := .int .i64 t) rfl (by kernel_rfl) rfl gt
    simp only [Act.put, List.setIfInBounds_toArray, List.set_cons_succ, List.set_cons_zero]
    with_reducible refine wpO_val (v := .bool (decide (i < t))) (A1 := A1) ?_ ?_ (hw := by kernel_rfl)
    · exact aop_int (k := .i64) (m := i) (n := t) (v := .bool (decide (i < t))) rfl (by kernel_rfl) (by kernel_rfl) rfl
    refine wpO_val (aop_picks (b := true) (v := .bool (decide (i < t))) rfl (by kernel_rfl) (by kernel_rfl)) ?_
    simp only [Act.put, List.setIfInBounds_toArray, List.set_cons_succ, List.set_cons_zero]
    refine wpO_as (.bool (decide (i < t))) (by kernel_rfl) ?_
    simp only [Act.put, List.setIfInBounds_toArray, List.set_cons_succ, List.set_cons_zero]
    exact cw_ret good (ret_one (.bool (decide (i < t))) (by kernel_rfl) ⟨by first | rfl | rw [Bool.true_and] | simp [hfi], rfl⟩)
  · rw [show decide (i ≥ f) = false from decide_eq_false hfi]
    refine wpO_mv (.bool false) (by kernel_rfl) ?_
    simp only [Act.put, List.setIfInBounds_toArray, List.set_cons_succ, List.set_cons_zero]
    with_reducible refine wpO_not ?_ (hw := by kernel_rfl)
    with_reducible refine wpO_not ?_ (hw := by kernel_rfl)
    with_reducible refine wpO_not ?_ (hw := by kernel_rfl)
    simp only [Act.put, List.setIfInBounds_toArray, List.set_cons_succ, List.set_cons_zero]
    with_reducible refine wpO_not ?_ (hw := by kernel_rfl)
    refine wpO_val (aop_picks (b := false) (v := .bool false) rfl (by kernel_rfl) (by kernel_rfl)) ?_
    refine wpO_as (.bool false) (by kernel_rfl) ?_
    simp only [Act.put, List.setIfInBounds_toArray, List.set_cons_succ, List.set_cons_zero]
    exact cw_ret good (ret_one (.bool false) (by kernel_rfl) ⟨by first | rfl | rw [Bool.false_and] | simp [hfi], rfl⟩)
theorem has_drop {m : List Sp} {k : Nat} {f t i : Int} (h : m[k]? = some (f, t)) : has (m.drop k) i = ((decide (f ≤ i) && decide (i < t)) || has (m.drop (k + 1)) i) := by
  obtain ⟨hk, e⟩ := List.getElem?_eq_some_iff.1 h
  rw [List.drop_eq_getElem_cons hk, e]
  rfl
set_option maxHeartbeats 8000000 in
/-- slices.IndexFunc, of who has i. -/
theorem index_call {b : Nat} {pv : Option Addr} {m : List Sp} {i : Int} {F : Foot} {A : World} {J : Asn} (hJ : Owns J) (hml : m.length < 100000) (h : Asn.all [cel b (.int .i64 i), spans (.slice pv m.length m.length) m, J] F A) :
    ∃ r A' F', SndCall Try.prog n₀ 45 #[.slice pv m.length m.length, .func (.func 36) #[] #[ptr b]] A (.int .i64 r) A' ∧ decide (r ≥ 0) = has m i ∧ Asn.all [cel b (.int .i64 i), spans (.slice pv m.length m.length) m, J] F' A' ∧ Step F A F' A' := by
  suffices hw : wpF Try.prog n₀ 45 #[.slice pv m.length m.length, .func (.func 36) #[] #[ptr b]] (fun r A' => ∃ r', r = .int .i64 r' ∧ decide (r' ≥ 0) = has m i ∧ ∃ F', Asn.all [cel b (.int .i64 i), spans (.slice pv m.length m.length) m, J] F' A' ∧ Step F A F' A') A by
    obtain ⟨r, A', h1, r', rfl, h2, F', h3, h4⟩ := hw
    exact ⟨r', A', F', h1, h2, h3, h4⟩
  refine wpF_fn (ts := #[.slice pv m.length m.length, .func (.func 36) #[] #[ptr b], undef, undef, undef, undef, undef, undef, undef, undef, undef, undef, undef, undef, undef, undef, undef, undef, undef]) good ⟨rfl, rfl, rfl⟩ (by kernel_rfl) ?_
  refine cw_seq good (cw_region good ?_)
  refine wpO_as (.int .i64 0) (by kernel_rfl) ?_
  simp only [Act.put, List.setIfInBounds_toArray, List.set_cons_succ, List.set_cons_zero]
  refine cw_seq good (cw_seq good (cw_region good ?_))
  refine wpO_mv (.slice pv m.length m.length) (by kernel_rfl) ?_
  refine wpO_val (aop_lenV (b := pv) (len := m.length) (cap := m.length) rfl rfl rfl rfl (by kernel_rfl) rfl) ?_
  refine wpO_mv (.int .i64 (0 : Nat)) (by kernel_rfl) ?_
  simp only [Act.put, List.setIfInBounds_toArray, List.set_cons_succ, List.set_cons_zero]
  refine cw_block good (cw_loop good ?_)
  refine wpL_ind (fun nn e A' => ∃ (k : Nat) (F' : Foot) (zz : Nat → Value), nn = m.length - k ∧ k ≤ m.length ∧ has m i = has (m.drop k) i ∧ Asn.all [cel b (.int .i64 i), spans (.slice pv m.length m.length) m, J] F' A' ∧ Step F A F' A' ∧ e = ⟨#[.slice pv m.length m.length, .func (.func 36) #[] #[ptr b], undef, undef, .int .i64 0, (zz 5), .slice pv m.length m.length, .int .i64 m.length, .int .i64 k, (zz 9), (zz 10), (zz 11), (zz 12), (zz 13), (zz 14), (zz 15), (zz 16), (zz 17), (zz 18)], []⟩) ?_ m.length _ _ ⟨0, F, (fun ix => (⟨#[.slice pv m.length m.length, .func (.func 36) #[] #[ptr b], undef, undef, .int .i64 0, undef, .slice pv m.length m.length, .int .i64 m.length, .int .i64 (0 : Nat), undef, undef, undef, undef, undef, undef, undef, undef, undef, undef], []⟩ : Act).tmps.getD ix undef), rfl, by omega, rfl, h, .refl, by kernel_rfl⟩
  rintro nn _ A' ⟨k, F', zz, rfl, hk, hhas, h, hS, rfl⟩
  by_cases hlt : k < m.length
  case neg =>
    refine cw_seq good (cw_region good ?_)
    refine wpO_val (aop_int (k := .i64) (m := k) (n := m.length) (v := .bool false) rfl (by kernel_rfl) (by kernel_rfl) (by simp [intV]; omega)) ?_
    simp only [Act.put, List.setIfInBounds_toArray, List.set_cons_succ, List.set_cons_zero]
    refine cw_seq good (cw_cond good false (by kernel_rfl) (cw_exit good ?_))
    refine cw_seq good (cw_region good ?_)
    refine wpO_as (.int .i64 (-1)) (by kernel_rfl) ?_
    simp only [Act.put, List.setIfInBounds_toArray, List.set_cons_succ, List.set_cons_zero]
    rw [List.drop_eq_nil_of_le (by omega)] at hhas
    exact cw_ret good (ret_one (.int .i64 (-1)) (by kernel_rfl) ⟨-1, rfl, by rw [hhas]; rfl, F', h, hS⟩)
  obtain ⟨s, hs⟩ : ∃ s, m[k]? = some s := ⟨_, List.getElem?_eq_getElem hlt⟩
  obtain ⟨f, t⟩ := s
  rw [has_drop hs] at hhas
  obtain ⟨_, hsp⟩ := Asn.left (Asn.perm _ [1, 0, 2] h (by decide))
  obtain ⟨d, e, hd⟩ := spans_get hsp hs
  injection e with e1 _ _
  subst e1
  obtain ⟨A2, F2, c2, h2, S2⟩ := has1_call (n₀ := n₀) (f := f) (t := t) (Owns.sep Owns.spans hJ) h
  refine cw_seq good (cw_region good ?_)
  refine wpO_val (aop_int (k := .i64) (m := k) (n := m.length) (v := .bool true) rfl (by kernel_rfl) (by kernel_rfl) (by simp [intV]; omega)) ?_
  simp only [Act.put, List.setIfInBounds_toArray, List.set_cons_succ, List.set_cons_zero]
  refine cw_seq good (cw_cond good true (by kernel_rfl) (cw_skip good ?_))
  refine cw_seq good (cw_block good (cw_seq good (cw_region good ?_)))
  refine wpO_mv (.int .i64 k) (by kernel_rfl) ?_
  refine wpO_as (.int .i64 k) (by kernel_rfl) ?_
  simp only [Act.put, List.setIfInBounds_toArray, List.set_cons_succ, List.set_cons_zero]
  refine cw_seq good (cw_region good ?_)
  refine wpO_mv (.func (.func 36) #[] #[ptr b]) (by kernel_rfl) ?_
  refine wpO_mv (.slice (some ⟨d, 0, none⟩) m.length m.length) (by kernel_rfl) ?_
  refine wpO_mv (.int .i64 k) (by kernel_rfl) ?_
  simp only [Act.put, List.setIfInBounds_toArray, List.set_cons_succ, List.set_cons_zero]
  refine wpO_val (aop_indexT (k := .i64) (len := m.length) (cap := m.length) (i := k) (p := ⟨d, 0, none⟩) (n := 2) (g := true) rfl (by kernel_rfl) (by kernel_rfl) rfl rfl hlt) ?_
  rw [add_at2]
  refine wpO_val (aop_loadT (n := 2) (p := ⟨d, k * 2, none⟩) (xs := #[.int .i64 f, .int .i64 t]) rfl (by kernel_rfl) rfl hd rfl (by rw [cells2_size]; show k * 2 + 2 ≤ _; omega) (cells2_cut hs)) ?_
  simp only [Act.put, List.setIfInBounds_toArray, List.set_cons_succ, List.set_cons_zero]
  refine wpO_call (f := 36) (first := #[]) (cap := #[ptr b]) (l := [.agg #[Value.int .i64 f, Value.int .i64 t]]) (xs := #[.agg #[Value.int .i64 f, Value.int .i64 t], ptr b]) ⟨rfl, rfl, rfl⟩ (by kernel_rfl) (by kernel_rfl) rfl ⟨_, _, c2, ?_⟩
  simp only [Act.put, List.setIfInBounds_toArray, List.set_cons_succ, List.set_cons_zero]
  by_cases hin : (decide (f ≤ i) && decide (i < t)) = true
  · refine cw_cond good true (congrArg Value.bool hin) ?_
    refine cw_seq good (cw_region good ?_)
    refine wpO_mv (.int .i64 k) (by kernel_rfl) ?_
    refine wpO_as (.int .i64 k) (by kernel_rfl) ?_
    simp only [Act.put, List.setIfInBounds_toArray, List.set_cons_succ, List.set_cons_zero]
    exact cw_ret good (ret_one (.int .i64 k) (by kernel_rfl) ⟨k, rfl, by rw [hhas, hin]; simp, F2, h2, hS.trans S2⟩)
  · have hin' := Bool.eq_false_iff.2 hin
    refine cw_cond good false (congrArg Value.bool hin') (cw_skip good ?_)
    rw [hin', Bool.false_or] at hhas
    refine cw_region good ?_
    refine wpO_val (aop_int (k := .i64) (m := k) (n := 1) (v := .int .i64 (k + 1 : Nat)) rfl (by kernel_rfl) (by kernel_rfl) (intV_add (by omega) (by omega) (by omega))) ?_
    refine wpO_mv (.int .i64 (k + 1 : Nat)) (by kernel_rfl) ?_
    simp only [Act.put, List.setIfInBounds_toArray, List.set_cons_succ, List.set_cons_zero]
    exact ⟨m.length - (k + 1), by omega, k + 1, F2, (fun ix => (⟨#[.slice (some ⟨d, 0, none⟩) m.length m.length, .func (.func 36) #[] #[ptr b], undef, undef, .int .i64 0, .int .i64 k, .slice (some ⟨d, 0, none⟩) m.length m.length, .int .i64 m.length, .int .i64 (k + 1 : Nat), .bool true, .int .i64 k, .func (.func 36) #[] #[ptr b], .slice (some ⟨d, 0, none⟩) m.length m.length, .int .i64 k, .pointer (some ⟨d, k * 2, none⟩), .agg #[Value.int .i64 f, Value.int .i64 t], .bool (decide (f ≤ i) && decide (i < t)), (zz 17), .int .i64 (k + 1 : Nat)], []⟩ : Act).tmps.getD ix undef), rfl, by omega, hhas, h2, hS.trans S2, by kernel_rfl⟩
set_option maxHeartbeats 8000000 in
/-- Map.Has. -/
theorem has_call {v : Value} {m : List Sp} {i : Int} {J : Asn} {F : Foot} {A : World} (hJ : Owns J) (hml : m.length < 100000) (h : ((spans v m).sep J) F A) :
    ∃ A' F', SndCall Try.prog n₀ 14 #[.agg #[v], .int .i64 i] A (.bool (has m i)) A' ∧ ((spans v m).sep J) F' A' ∧ Step F A F' A' := by
  obtain ⟨F1, h1, S1⟩ := Asn.new (Owns.sep Owns.spans hJ) h v 27
  obtain ⟨_, hsv⟩ := Asn.left h
  obtain ⟨pv, rfl⟩ := spans_val hsv
  generalize hq0 : A.heap.size = q0 at h1
  generalize hA1 : A.alloc (.cells #[.slice pv m.length m.length] 27 (0, 0)) = A1 at h1 S1
  obtain ⟨F2, h2, S2⟩ := Asn.new (Owns.sep Owns.cel (Owns.sep Owns.spans hJ)) h1 (.int .i64 i) 3
  generalize hb : A1.heap.size = b at h2
  generalize hA2 : A1.alloc (.cells #[.int .i64 i] 3 (0, 0)) = A2 at h2 S2
  have h3 := Asn.perm [cel b (.int .i64 i), cel q0 (.slice pv m.length m.length), spans (.slice pv m.length m.length) m, J] [0, 2, 1, 3] h2 (by decide)
  obtain ⟨r, A3, F3, c3, hr, h4, S4⟩ := index_call (n₀ := n₀) (Owns.sep Owns.cel hJ) hml h3
  have gv : A2.cell? ⟨q0, 0, none⟩ = some (.slice pv m.length m.length) := Asn.get (Asn.perm [cel b (.int .i64 i), cel q0 (.slice pv m.length m.length), spans (.slice pv m.length m.length) m, J] [1, 0, 2, 3] h2 (by decide))
  have c5 : SndCall Try.prog n₀ 35 #[.slice pv m.length m.length, .func (.func 36) #[] #[ptr b]] A2 (.bool (has m i)) A3 := by
    suffices hw : wpF Try.prog n₀ 35 #[.slice pv m.length m.length, .func (.func 36) #[] #[ptr b]] (fun r A' => r = .bool (has m i) ∧ A' = A3) A2 by
      obtain ⟨r, A', h1, rfl, rfl⟩ := hw
      exact h1
    refine wpF_fn (ts := #[.slice pv m.length m.length, .func (.func 36) #[] #[ptr b], undef, undef, undef, undef, undef, undef, undef]) good ⟨rfl, rfl, rfl⟩ (by kernel_rfl) ?_
    refine cw_seq good (cw_region good ?_)
    refine wpO_as (.bool false) (by kernel_rfl) ?_
    simp only [Act.put, List.setIfInBounds_toArray, List.set_cons_succ, List.set_cons_zero]
    refine cw_seq good (cw_region good ?_)
    refine wpO_mv (.slice pv m.length m.length) (by kernel_rfl) ?_
    refine wpO_mv (.func (.func 36) #[] #[ptr b]) (by kernel_rfl) ?_
    simp only [Act.put, List.setIfInBounds_toArray, List.set_cons_succ, List.set_cons_zero]
    refine wpO_call (f := 45) (first := #[]) (cap := #[]) (l := [.slice pv m.length m.length, .func (.func 36) #[] #[ptr b]]) (xs := #[.slice pv m.length m.length, .func (.func 36) #[] #[ptr b]]) ⟨rfl, rfl, rfl⟩ rfl (by kernel_rfl) rfl ⟨_, _, c3, ?_⟩
    simp only [Act.put, List.setIfInBounds_toArray, List.set_cons_succ, List.set_cons_zero]
    refine wpO_val (aop_int (k := .i64) (m := r) (n := 0) (v := .bool (decide (r ≥ 0))) rfl (by kernel_rfl) (by kernel_rfl) rfl) ?_
    simp only [Act.put, List.setIfInBounds_toArray, List.set_cons_succ, List.set_cons_zero]
    refine wpO_as (.bool (decide (r ≥ 0))) (by kernel_rfl) ?_
    simp only [Act.put, List.setIfInBounds_toArray, List.set_cons_succ, List.set_cons_zero]
    exact cw_ret good (ret_one (.bool (decide (r ≥ 0))) (by kernel_rfl) ⟨by rw [hr], rfl⟩)
  obtain ⟨F5, h5, S5⟩ := Asn.drop h4
  obtain ⟨F6, h6, S6⟩ := Asn.drop (Asn.swap h5)
  suffices hw : wpF Try.prog n₀ 14 #[.agg #[Value.slice pv m.length m.length], .int .i64 i] (fun r A' => r = .bool (has m i) ∧ A' = A3) A by
    obtain ⟨r, A', h1, rfl, rfl⟩ := hw
    exact ⟨A', F6, h1, h6, S1.trans (S2.trans (S4.trans (S5.trans S6)))⟩
  refine wpF_fn (ts := #[.agg #[Value.slice pv m.length m.length], .int .i64 i, undef, undef, undef, undef, undef, undef, undef]) good ⟨rfl, rfl, rfl⟩ (by kernel_rfl) ?_
  refine cw_seq good (cw_region good ?_)
  refine wpO_val (aop_boxT (v := .agg #[Value.slice pv m.length m.length]) (cs := #[.slice pv m.length m.length]) rfl (by kernel_rfl) rfl) ?_
  rw [hq0, hA1]
  simp only [Act.put, List.setIfInBounds_toArray, List.set_cons_succ, List.set_cons_zero]
  refine wpO_val (aop_boxT (v := .int .i64 i) (cs := #[.int .i64 i]) rfl (by kernel_rfl) rfl) ?_
  rw [hb, hA2]
  refine wpO_as (.bool false) (by kernel_rfl) ?_
  simp only [Act.put, List.setIfInBounds_toArray, List.set_cons_succ, List.set_cons_zero]
  refine cw_seq good (cw_region good ?_)
  refine wpO_val (aop_field0 (p := (⟨q0, 0, none⟩ : Addr)) (n := 1) (g := false) rfl (by kernel_rfl) rfl rfl rfl (by decide) (by decide) rfl) ?_
  refine wpO_val (aop_load (v := .slice pv m.length m.length) rfl (by kernel_rfl) rfl gv) ?_
  simp only [Act.put, List.setIfInBounds_toArray, List.set_cons_succ, List.set_cons_zero]
  refine wpO_val (aop_func (l := []) (l' := [ptr b]) rfl rfl (by kernel_rfl)) ?_
  simp only [Act.put, List.setIfInBounds_toArray, List.set_cons_succ, List.set_cons_zero]
  refine wpO_call (f := 35) (first := #[]) (cap := #[]) (l := [.slice pv m.length m.length, .func (.func 36) #[] #[ptr b]]) (xs := #[.slice pv m.length m.length, .func (.func 36) #[] #[ptr b]]) ⟨rfl, rfl, rfl⟩ rfl (by kernel_rfl) rfl ⟨_, _, c5, ?_⟩
  simp only [Act.put, List.setIfInBounds_toArray, List.set_cons_succ, List.set_cons_zero]
  refine wpO_as (.bool (has m i)) (by kernel_rfl) ?_
  simp only [Act.put, List.setIfInBounds_toArray, List.set_cons_succ, List.set_cons_zero]
  exact cw_ret good (ret_one (.bool (has m i)) (by kernel_rfl) ⟨rfl, rfl⟩)
end Go.Proofs.Ytfkdkfleaiaoiaa
