/-
  The calls of cut, Of, Map, Take, and the function that counts what is asked for. No condition.
-/
import Derived.Test.YtipomlcnmaldkaaS4
namespace Go.Proofs.Ytipomlcnmaldkaa
open Go.Abs
variable {n₀ : Nat}
set_option maxRecDepth 4000
theorem ro_block {A : World} {e : TypeId} {b : Nat} (h : RoB A b) : ∃ cs t' fz, A.heap[b]? = some (.cells cs t' fz) ∧ fz ≠ (2, 0) ∧ (fz = (1, 0) → Try.prog.cellsOf e = Try.prog.cellsOf t') := by
  obtain ⟨cs, t, n, h1, h2⟩ := h
  exact ⟨cs, t, (0, n), h1, by simp, by simp⟩
theorem slice0 {p : Option Addr} {h cap : Nat} : Value.slice (if cap = 0 then p else p.map (·.add (0 * 1))) (h - 0) (cap - 0) = .slice p h cap := by
  have e : p.map (·.add (0 * 1)) = p := by cases p <;> simp [Addr.add]
  rw [e]; simp
theorem cut_call {A : World} {p : Option Addr} {n c : Nat} (hc : n ≤ c) (hb : ∀ ad, p = some ad → RoB A ad.block) : SndCall Try.prog n₀ 9 #[.slice p n c, .int .i64 30] A (.slice p (min n 30) c) A := by
  have : wpF Try.prog n₀ 9 #[.slice p n c, .int .i64 30] (fun v A' => v = .slice p (min n 30) c ∧ A' = A) A := by
    refine wpF_fn (ts := #[.slice p n c, .int .i64 30, undef, undef, undef, undef, undef, undef, undef, undef, undef, undef, undef]) good ⟨rfl, rfl, rfl⟩ (by kernel_rfl) ?_
    refine cw_seq good (cw_region good ?_)
    refine wpO_as (.slice none 0 0) rfl ?_
    refine cw_seq good (cw_seq good (cw_region good ?_))
    refine wpO_mv (.slice p n c) rfl ?_
    refine wpO_val (aop_len rfl rfl rfl rfl rfl) ?_
    refine wpO_mv (.int .i64 30) rfl ?_
    refine wpO_val (aop_int (k := .i64) (m := n) (n := 30) rfl rfl rfl rfl) ?_
    simp only [Act.put, List.setIfInBounds_toArray, List.set_cons_succ, List.set_cons_zero]
    by_cases h : n > 30
    · refine cw_cond good true (congrArg Value.bool (by simp; omega)) ?_
      refine cw_seq good (cw_region good ?_)
      refine wpO_mv (.slice p n c) rfl ?_
      refine wpO_mv (.int .i64 30) rfl ?_
      refine wpO_val (aop_slice (k := .i64) (l := 0) (h := 30) rfl rfl rfl rfl (.inl ⟨rfl, rfl⟩) rfl (by omega) (by omega) hc fun a ha => ro_block (hb a ha)) ?_
      rw [slice0]
      refine wpO_as (.slice p 30 c) rfl ?_
      exact cw_ret good (ret_one (.slice p 30 c) rfl ⟨by rw [Nat.min_eq_right (by omega)], rfl⟩)
    · refine cw_cond good false (congrArg Value.bool (by simp; omega)) (cw_skip good ?_)
      refine cw_seq good (cw_region good ?_)
      refine wpO_mv (.slice p n c) rfl ?_
      refine wpO_as (.slice p n c) rfl ?_
      exact cw_ret good (ret_one (.slice p n c) rfl ⟨by rw [Nat.min_eq_left (by omega)], rfl⟩)
  obtain ⟨v, A1, h1, rfl, rfl⟩ := this
  exact h1
theorem values_call {A : World} {v : Value} (hv : isOne v = true) : SndCall Try.prog n₀ 37 #[v] A (valsV A.heap.size) (A.alloc (.cells #[v] 22 (0, 0))) := by
  have : wpF Try.prog n₀ 37 #[v] (fun r A' => r = valsV A.heap.size ∧ A' = A.alloc (.cells #[v] 22 (0, 0))) A := by
    refine wpF_fn (ts := #[v, undef, undef, undef]) good ⟨rfl, rfl, rfl⟩ rfl ?_
    refine cw_seq good (cw_region good ?_)
    refine wpO_val (aop_box (v := v) rfl rfl hv) ?_
    refine wpO_as .nilFunc rfl ?_
    refine cw_seq good (cw_region good ?_)
    refine wpO_val (aop_func (l := []) (l' := [ptr A.heap.size]) rfl rfl rfl) ?_
    refine wpO_as (valsV A.heap.size) rfl ?_
    exact cw_ret good (ret_one (valsV A.heap.size) rfl ⟨rfl, rfl⟩)
  obtain ⟨v, A1, h1, rfl, rfl⟩ := this
  exact h1
theorem of_call {A : World} {v : Value} (hv : isOne v = true) : SndCall Try.prog n₀ 11 #[v] A (valsV A.heap.size) (A.alloc (.cells #[v] 22 (0, 0))) := by
  have : wpF Try.prog n₀ 11 #[v] (fun r A' => r = valsV A.heap.size ∧ A' = A.alloc (.cells #[v] 22 (0, 0))) A := by
    refine wpF_fn (ts := #[v, undef, undef, undef, undef]) good ⟨rfl, rfl, rfl⟩ rfl ?_
    refine cw_seq good (cw_region good ?_)
    refine wpO_as .nilFunc rfl ?_
    refine cw_seq good (cw_region good ?_)
    refine wpO_mv v rfl ?_
    refine wpO_call (f := 37) (first := #[]) (cap := #[]) (l := [v]) (xs := #[v]) ⟨rfl, rfl, rfl⟩ rfl rfl rfl ⟨_, _, values_call hv, ?_⟩
    refine wpO_as (valsV A.heap.size) rfl ?_
    exact cw_ret good (ret_one (valsV A.heap.size) rfl ⟨rfl, rfl⟩)
  obtain ⟨v, A1, h1, rfl, rfl⟩ := this
  exact h1
theorem map_call {A : World} {s f : Value} (hs : isOne s = true) (hf : isOne f = true) : SndCall Try.prog n₀ 10 #[s, f] A (mapV A.heap.size (A.heap.size + 1)) ((A.alloc (.cells #[s] 26 (0, 0))).alloc (.cells #[f] 29 (0, 0))) := by
  have : wpF Try.prog n₀ 10 #[s, f] (fun r A' => r = mapV A.heap.size (A.heap.size + 1) ∧ A' = (A.alloc (.cells #[s] 26 (0, 0))).alloc (.cells #[f] 29 (0, 0))) A := by
    refine wpF_fn (ts := #[s, f, undef, undef, undef, undef]) good ⟨rfl, rfl, rfl⟩ rfl ?_
    refine cw_seq good (cw_region good ?_)
    refine wpO_val (aop_box (v := s) rfl rfl hs) ?_
    refine wpO_val (aop_box (v := f) rfl rfl hf) ?_
    refine wpO_as .nilFunc rfl ?_
    refine cw_seq good (cw_region good ?_)
    have e : (A.alloc (.cells #[s] 26 (0, 0))).heap.size = A.heap.size + 1 := by simp
    rw [e]
    refine wpO_val (aop_func (l := []) (l' := [ptr A.heap.size, ptr (A.heap.size + 1)]) rfl rfl rfl) ?_
    refine wpO_as (mapV A.heap.size (A.heap.size + 1)) rfl ?_
    exact cw_ret good (ret_one (mapV A.heap.size (A.heap.size + 1)) rfl ⟨rfl, rfl⟩)
  obtain ⟨v, A1, h1, rfl, rfl⟩ := this
  exact h1
theorem take_call {A : World} {s : Value} {n : Int} (hs : isOne s = true) : SndCall Try.prog n₀ 14 #[s, .int .i64 n] A (takeV (A.heap.size + 1) A.heap.size) ((A.alloc (.cells #[s] 26 (0, 0))).alloc (.cells #[.int .i64 n] 3 (0, 0))) := by
  have : wpF Try.prog n₀ 14 #[s, .int .i64 n] (fun r A' => r = takeV (A.heap.size + 1) A.heap.size ∧ A' = (A.alloc (.cells #[s] 26 (0, 0))).alloc (.cells #[.int .i64 n] 3 (0, 0))) A := by
    refine wpF_fn (ts := #[s, .int .i64 n, undef, undef, undef, undef]) good ⟨rfl, rfl, rfl⟩ rfl ?_
    refine cw_seq good (cw_region good ?_)
    refine wpO_val (aop_box (v := s) rfl rfl hs) ?_
    refine wpO_val (aop_box (v := .int .i64 n) rfl rfl rfl) ?_
    refine wpO_as .nilFunc rfl ?_
    refine cw_seq good (cw_region good ?_)
    have e : (A.alloc (.cells #[s] 26 (0, 0))).heap.size = A.heap.size + 1 := by simp
    rw [e]
    refine wpO_val (aop_func (l := []) (l' := [ptr (A.heap.size + 1), ptr A.heap.size]) rfl rfl rfl) ?_
    refine wpO_as (takeV (A.heap.size + 1) A.heap.size) rfl ?_
    exact cw_ret good (ret_one (takeV (A.heap.size + 1) A.heap.size) rfl ⟨rfl, rfl⟩)
  obtain ⟨v, A1, h1, rfl, rfl⟩ := this
  exact h1
def askV (c : Nat) : Value := .func (.func 12) #[] #[ptr c]
def askFn (m : Nat) (x : Int) : Option (Int × Nat) := if m < 4611686018427387904 then some (x, m + 1) else none
theorem ask_spec {c : Nat} : Fpec Try.prog n₀ (askV c) (fun m : Nat => cel c (.int .i64 m)) askFn := by
  refine ⟨fun _ => Owns.cel, fun {m F A x v m'} h hf => ?_⟩
  unfold askFn at hf
  split at hf
  case isFalse => cases hf
  rename_i hm
  cases hf
  obtain ⟨h1, S1⟩ := Asn.put Owns.nil (Asn.emp h) (.int .i64 (m + 1 : Nat))
  have : wpF Try.prog n₀ 12 #[.int .i64 x, ptr c] (fun r A' => r = .int .i64 x ∧ A' = A.setCell ⟨c, 0, none⟩ (.int .i64 (m + 1 : Nat))) A := by
    refine wpF_fn (ts := #[.int .i64 x, ptr c, undef, undef, undef, undef, undef]) good ⟨rfl, rfl, rfl⟩ rfl ?_
    refine cw_seq good (cw_region good ?_)
    refine wpO_as (.int .i64 0) rfl ?_
    refine cw_seq good (cw_region good ?_)
    refine wpO_val (aop_load rfl rfl rfl (Asn.get (Asn.emp h))) ?_
    refine wpO_val (aop_int (k := .i64) (m := m) (n := 1) (v := .int .i64 (m + 1 : Nat)) rfl rfl rfl (intV_add (by omega) (by omega) (by omega))) ?_
    refine wpO_unit (aop_store (v := .int .i64 (m + 1 : Nat)) rfl rfl rfl rfl rfl (Asn.get (Asn.emp h)) (Asn.soft (Asn.emp h))) ?_
    refine cw_seq good (cw_region good ?_)
    refine wpO_mv (.int .i64 x) rfl ?_
    refine wpO_as (.int .i64 x) rfl ?_
    exact cw_ret good (ret_one (.int .i64 x) rfl ⟨rfl, rfl⟩)
  obtain ⟨r, A1, h2, rfl, rfl⟩ := this
  exact ⟨_, F, ⟨12, _, _, _, _, ⟨rfl, rfl, rfl⟩, rfl, h2⟩, Asn.unnil h1, S1⟩
end Go.Proofs.Ytipomlcnmaldkaa
