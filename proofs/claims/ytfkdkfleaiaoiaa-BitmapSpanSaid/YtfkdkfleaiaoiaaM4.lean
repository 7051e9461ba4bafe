/-
  bitmap.Not. No condition.
-/
import Derived.Test.YtfkdkfleaiaoiaaM3
namespace Go.Proofs.Ytfkdkfleaiaoiaa
open Go.Abs
variable {n₀ : Nat}
set_option maxRecDepth 8000
/-- Up to n, what lies between the spans: what there is so far, and from where on. -/
def notGo (n : Int) : List Sp → Int → List Sp → List Sp × Int
  | [], fr, acc => (acc, fr)
  | s :: m, fr, acc => if s.1 ≥ n then (acc, fr) else notGo n m s.2 (if fr < s.1 then addSp acc fr s.1 else acc)
def notEnd (n : Int) (r : List Sp × Int) : List Sp := if r.2 < n then addSp r.1 r.2 n else r.1
def notL (m : List Sp) (n0 : Int) : List Sp := notEnd (if (65536 : Int) < n0 then 65536 else n0) (notGo (if (65536 : Int) < n0 then 65536 else n0) m 0 [])
noncomputable def c26 : Code := match Try.prog.funcs[26]? with
  | some fn => (match fn.body with | some c => c | none => .skip)
  | none => .skip
set_option maxHeartbeats 8000000 in
/-- bitmap.Not, from behind its loop. -/
theorem not_rest {q2 q4 q5 : Nat} {n fr : Int} {vm v : Value} {acc m : List Sp} {J : Asn} {F0 F : Foot} {A0 A : World} (hJ : Owns J) (hl : acc.length < 100000) (h : Asn.all [cel q5 vm, spans vm acc, cel q2 v, spans v m, cel q4 (.slice none 0 0), J] F A) (hS : Step F0 A0 F A) (zz : Nat → Value) :
    wpC Try.prog n₀ none (rgts 5 c26) (retQ Try.prog Try.f26 (fun r A' => ∃ v' F', r = .agg #[v'] ∧ Asn.all [spans v' (notEnd n (acc, fr)), spans v m, J] F' A' ∧ Step F0 A0 F' A')) ⟨#[(zz 0), .int .i64 n, (zz 2), (zz 3), ptr q4, ptr q5, .int .i64 fr, (zz 7), (zz 8), (zz 9), (zz 10), (zz 11), (zz 12), (zz 13), (zz 14), (zz 15), (zz 16), (zz 17), (zz 18), (zz 19), (zz 20), (zz 21), (zz 22), (zz 23), (zz 24), (zz 25), (zz 26), (zz 27), (zz 28), (zz 29), (zz 30), (zz 31), (zz 32), (zz 33), (zz 34), (zz 35), (zz 36), (zz 37), (zz 38), (zz 39)], []⟩ A := by
  have key : ∀ {vm : Value} {acc : List Sp} {F : Foot} {A : World} (zz : Nat → Value), Asn.all [cel q5 vm, spans vm acc, cel q2 v, spans v m, cel q4 (.slice none 0 0), J] F A → Step F0 A0 F A → notEnd n (acc, fr) = acc ∨ True → ∀ {acc' : List Sp}, acc' = acc → wpC Try.prog n₀ none (rgt (rgts 5 c26)) (retQ Try.prog Try.f26 (fun r A' => ∃ v' F', r = .agg #[v'] ∧ Asn.all [spans v' acc', spans v m, J] F' A' ∧ Step F0 A0 F' A')) ⟨#[(zz 0), (zz 1), (zz 2), (zz 3), ptr q4, ptr q5, (zz 6), (zz 7), (zz 8), (zz 9), (zz 10), (zz 11), (zz 12), (zz 13), (zz 14), (zz 15), (zz 16), (zz 17), (zz 18), (zz 19), (zz 20), (zz 21), (zz 22), (zz 23), (zz 24), (zz 25), (zz 26), (zz 27), (zz 28), (zz 29), (zz 30), (zz 31), (zz 32), (zz 33), (zz 34), (zz 35), (zz 36), (zz 37), (zz 38), (zz 39)], []⟩ A := by
    intro vm acc F A zz h hS _ acc' eacc
    subst eacc
    obtain ⟨u5, hb5⟩ := cel_at h
    have ho : isOne vm = true := by
      obtain ⟨_, hk⟩ := Asn.left (Asn.swap h)
      obtain ⟨_, rfl⟩ := spans_val hk
      rfl
    have h6 := Asn.perm [cel q5 vm, spans vm acc', cel q2 v, spans v m, cel q4 (.slice none 0 0), J] [4, 0, 1, 2, 3, 5] h (by decide)
    obtain ⟨h7, S7⟩ := Asn.put (Owns.sep Owns.cel (Owns.sep Owns.spans (Owns.sep Owns.cel (Owns.sep Owns.spans hJ)))) h6 vm
    refine cw_seq good (cw_region good ?_)
    refine wpO_val (aop_loadT (n := 1) (p := ⟨q5, 0, none⟩) (xs := #[vm]) rfl (by kernel_rfl) rfl hb5 rfl (Nat.le_refl 1) rfl) ?_
    simp only [Act.put, List.setIfInBounds_toArray, List.set_cons_succ, List.set_cons_zero]
    refine wpO_unit (aop_storeT1 (p := ⟨q4, 0, none⟩) (v := vm) rfl (by kernel_rfl) (by kernel_rfl) rfl ho (Asn.get h6) (Asn.soft h6)) ?_
    simp only [Act.put]
    obtain ⟨u4, hb4⟩ := cel_at h7
    obtain ⟨F8, h8, S8⟩ := Asn.drop h7
    obtain ⟨F9, h9, S9⟩ := Asn.drop h8
    obtain ⟨F10, h10, S10⟩ := Asn.drop (Asn.swap h9)
    exact cw_ret good (ret_cell (t := 4) (u := 27) (b := q4) rfl (by kernel_rfl) rfl hb4 ⟨vm, F10, rfl, h10, hS.trans (S7.trans (S8.trans (S9.trans S10)))⟩)
  refine cw_seq good (cw_seq good (cw_region good ?_))
  refine wpO_mv (.int .i64 fr) (by kernel_rfl) ?_
  refine wpO_mv (.int .i64 n) (by kernel_rfl) ?_
  refine wpO_val (aop_int (k := .i64) (m := fr) (n := n) (v := .bool (decide (fr < n))) rfl (by kernel_rfl) (by kernel_rfl) rfl) ?_
  simp only [Act.put, List.setIfInBounds_toArray, List.set_cons_succ, List.set_cons_zero]
  by_cases hfn : fr < n
  · refine cw_cond good true (congrArg Value.bool (decide_eq_true hfn)) ?_
    obtain ⟨vm', A5, F5, c5, h6, S6⟩ := add_call (n₀ := n₀) (f := fr) (t := n) (Owns.sep Owns.cel (Owns.sep Owns.spans (Owns.sep Owns.cel hJ))) hl h
    refine cw_region good ?_
    refine wpO_mv (.int .i64 fr) (by kernel_rfl) ?_
    refine wpO_mv (.int .i64 n) (by kernel_rfl) ?_
    simp only [Act.put, List.setIfInBounds_toArray, List.set_cons_succ, List.set_cons_zero]
    refine wpO_call (f := 33) (first := #[]) (cap := #[]) (l := [ptr q5, .int .i64 fr, .int .i64 n]) (xs := #[ptr q5, .int .i64 fr, .int .i64 n]) ⟨rfl, rfl, rfl⟩ rfl (by kernel_rfl) rfl ⟨_, _, c5, ?_⟩
    simp only [Act.put, List.setIfInBounds_toArray, List.set_cons_succ, List.set_cons_zero]
    obtain ⟨zq, hzq⟩ : ∃ zq : Nat → Value, (⟨#[(zz 0), .int .i64 n, (zz 2), (zz 3), ptr q4, ptr q5, .int .i64 fr, (zz 7), (zz 8), (zz 9), (zz 10), (zz 11), (zz 12), (zz 13), (zz 14), (zz 15), (zz 16), (zz 17), (zz 18), (zz 19), (zz 20), (zz 21), (zz 22), (zz 23), (zz 24), (zz 25), (zz 26), (zz 27), (zz 28), (zz 29), (zz 30), (zz 31), (zz 32), .int .i64 fr, .int .i64 n, .bool (decide (fr < n)), .int .i64 fr, .int .i64 n, undef, (zz 39)], []⟩ : Act) = ⟨#[(zq 0), (zq 1), (zq 2), (zq 3), ptr q4, ptr q5, (zq 6), (zq 7), (zq 8), (zq 9), (zq 10), (zq 11), (zq 12), (zq 13), (zq 14), (zq 15), (zq 16), (zq 17), (zq 18), (zq 19), (zq 20), (zq 21), (zq 22), (zq 23), (zq 24), (zq 25), (zq 26), (zq 27), (zq 28), (zq 29), (zq 30), (zq 31), (zq 32), (zq 33), (zq 34), (zq 35), (zq 36), (zq 37), (zq 38), (zq 39)], []⟩ := ⟨(fun ix => (⟨#[(zz 0), .int .i64 n, (zz 2), (zz 3), ptr q4, ptr q5, .int .i64 fr, (zz 7), (zz 8), (zz 9), (zz 10), (zz 11), (zz 12), (zz 13), (zz 14), (zz 15), (zz 16), (zz 17), (zz 18), (zz 19), (zz 20), (zz 21), (zz 22), (zz 23), (zz 24), (zz 25), (zz 26), (zz 27), (zz 28), (zz 29), (zz 30), (zz 31), (zz 32), .int .i64 fr, .int .i64 n, .bool (decide (fr < n)), .int .i64 fr, .int .i64 n, undef, (zz 39)], []⟩ : Act).tmps.getD ix undef), by kernel_rfl⟩
    exact wpC_norm _ hzq (key zq h6 (hS.trans S6) (.inr trivial) (by simp only [notEnd]; rw [if_pos hfn]))
  · refine cw_cond good false (congrArg Value.bool (decide_eq_false hfn)) (cw_skip good ?_)
    obtain ⟨zq, hzq⟩ : ∃ zq : Nat → Value, (⟨#[(zz 0), .int .i64 n, (zz 2), (zz 3), ptr q4, ptr q5, .int .i64 fr, (zz 7), (zz 8), (zz 9), (zz 10), (zz 11), (zz 12), (zz 13), (zz 14), (zz 15), (zz 16), (zz 17), (zz 18), (zz 19), (zz 20), (zz 21), (zz 22), (zz 23), (zz 24), (zz 25), (zz 26), (zz 27), (zz 28), (zz 29), (zz 30), (zz 31), (zz 32), .int .i64 fr, .int .i64 n, .bool (decide (fr < n)), (zz 36), (zz 37), (zz 38), (zz 39)], []⟩ : Act) = ⟨#[(zq 0), (zq 1), (zq 2), (zq 3), ptr q4, ptr q5, (zq 6), (zq 7), (zq 8), (zq 9), (zq 10), (zq 11), (zq 12), (zq 13), (zq 14), (zq 15), (zq 16), (zq 17), (zq 18), (zq 19), (zq 20), (zq 21), (zq 22), (zq 23), (zq 24), (zq 25), (zq 26), (zq 27), (zq 28), (zq 29), (zq 30), (zq 31), (zq 32), (zq 33), (zq 34), (zq 35), (zq 36), (zq 37), (zq 38), (zq 39)], []⟩ := ⟨(fun ix => (⟨#[(zz 0), .int .i64 n, (zz 2), (zz 3), ptr q4, ptr q5, .int .i64 fr, (zz 7), (zz 8), (zz 9), (zz 10), (zz 11), (zz 12), (zz 13), (zz 14), (zz 15), (zz 16), (zz 17), (zz 18), (zz 19), (zz 20), (zz 21), (zz 22), (zz 23), (zz 24), (zz 25), (zz 26), (zz 27), (zz 28), (zz 29), (zz 30), (zz 31), (zz 32), .int .i64 fr, .int .i64 n, .bool (decide (fr < n)), (zz 36), (zz 37), (zz 38), (zz 39)], []⟩ : Act).tmps.getD ix undef), by kernel_rfl⟩
    exact wpC_norm _ hzq (key zq h hS (.inr trivial) (by simp only [notEnd]; rw [if_neg hfn]))
set_option maxHeartbeats 16000000 in
/-- bitmap.Not. -/
theorem not_call {v : Value} {m : List Sp} {n0 : Int} {J : Asn} {F : Foot} {A : World} (hJ : Owns J) (hml : m.length < 90000) (h : ((spans v m).sep J) F A) :
    ∃ v' A' F', SndCall Try.prog n₀ 26 #[.agg #[v], .int .i64 n0] A (.agg #[v']) A' ∧ Asn.all [spans v' (notL m n0), spans v m, J] F' A' ∧ Step F A F' A' := by
  obtain ⟨_, hsv⟩ := Asn.left h
  obtain ⟨pv, rfl⟩ := spans_val hsv
  obtain ⟨F1, h1, S1⟩ := Asn.new (Owns.sep Owns.spans hJ) h (.slice pv m.length m.length) 27
  generalize hq2 : A.heap.size = q2 at h1
  generalize hA1 : A.alloc (.cells #[.slice pv m.length m.length] 27 (0, 0)) = A1 at h1 S1
  obtain ⟨F2, h2, S2⟩ := Asn.new (Owns.sep Owns.cel (Owns.sep Owns.spans hJ)) h1 (.slice none 0 0) 27
  generalize hq4 : A1.heap.size = q4 at h2
  generalize hA2 : A1.alloc (.cells #[.slice none 0 0] 27 (0, 0)) = A2 at h2 S2
  obtain ⟨F3, h3, S3⟩ := Asn.new (Owns.sep Owns.cel (Owns.sep Owns.cel (Owns.sep Owns.spans hJ))) h2 (.slice none 0 0) 27
  generalize hq5 : A2.heap.size = q5 at h3
  generalize hA3 : A2.alloc (.cells #[.slice none 0 0] 27 (0, 0)) = A3 at h3 S3
  have h4 : Asn.all [cel q5 (.slice none 0 0), spans (.slice none 0 0) [], cel q2 (.slice pv m.length m.length), spans (.slice pv m.length m.length) m, cel q4 (.slice none 0 0), J] F3 A3 := Asn.perm [spans (.slice none 0 0) [], cel q5 (.slice none 0 0), cel q4 (.slice none 0 0), cel q2 (.slice pv m.length m.length), spans (.slice pv m.length m.length) m, J] [1, 0, 3, 4, 2, 5] ⟨fun _ => False, F3, .inl ⟨rfl, rfl, fun _ h => h⟩, h3, fun _ h => h.elim, fun b => by simp⟩ (by decide)
  have gv : A3.cell? ⟨q2, 0, none⟩ = some (.slice pv m.length m.length) := Asn.get (Asn.perm [cel q5 (.slice none 0 0), spans (.slice none 0 0) [], cel q2 (.slice pv m.length m.length), spans (.slice pv m.length m.length) m, cel q4 (.slice none 0 0), J] [2, 0, 1, 3, 4, 5] h4 (by decide))
  unfold notL
  suffices hw : wpF Try.prog n₀ 26 #[.agg #[Value.slice pv m.length m.length], .int .i64 n0] (fun r A' => ∃ v' F', r = .agg #[v'] ∧ Asn.all [spans v' (notEnd (if (65536 : Int) < n0 then 65536 else n0) (notGo (if (65536 : Int) < n0 then 65536 else n0) m 0 [])), spans (.slice pv m.length m.length) m, J] F' A' ∧ Step F A F' A') A by
    obtain ⟨r, A', h1, v, F', rfl, h2, h3⟩ := hw
    exact ⟨v, A', F', h1, h2, h3⟩
  obtain ⟨n, hn⟩ : ∃ n, n = (if (65536 : Int) < n0 then 65536 else n0) := ⟨_, rfl⟩
  rw [← hn]
  refine wpF_fn (fn := Try.f26) (ts := #[.agg #[Value.slice pv m.length m.length], .int .i64 n0, undef, undef, undef, undef, undef, undef, undef, undef, undef, undef, undef, undef, undef, undef, undef, undef, undef, undef, undef, undef, undef, undef, undef, undef, undef, undef, undef, undef, undef, undef, undef, undef, undef, undef, undef, undef, undef, undef]) good ⟨rfl, rfl, rfl⟩ (by kernel_rfl) ?_
  refine cw_seq good (cw_region good ?_)
  refine wpO_val (aop_boxT (v := .agg #[Value.slice pv m.length m.length]) (cs := #[.slice pv m.length m.length]) rfl (by kernel_rfl) rfl) ?_
  rw [hq2, hA1]
  simp only [Act.put, List.setIfInBounds_toArray, List.set_cons_succ, List.set_cons_zero]
  refine wpO_val (aop_allocT (cs := #[.slice none 0 0]) rfl rfl rfl rfl) ?_
  rw [hq4, hA2]
  simp only [Act.put, List.setIfInBounds_toArray, List.set_cons_succ, List.set_cons_zero]
  refine cw_seq good (cw_region good ?_)
  refine wpO_mv (.int .i64 n0) (by kernel_rfl) ?_
  refine wpO_val (aop_min (k := .i64) (m := n0) (n := 65536) rfl rfl (by kernel_rfl) (by kernel_rfl)) ?_
  rw [← hn]
  refine wpO_as (.int .i64 n) (by kernel_rfl) ?_
  simp only [Act.put, List.setIfInBounds_toArray, List.set_cons_succ, List.set_cons_zero]
  refine cw_seq good (cw_region good ?_)
  refine wpO_val (aop_allocT (cs := #[.slice none 0 0]) rfl rfl rfl rfl) ?_
  rw [hq5, hA3]
  simp only [Act.put, List.setIfInBounds_toArray, List.set_cons_succ, List.set_cons_zero]
  refine cw_seq good (cw_region good ?_)
  refine wpO_as (.int .i64 0) (by kernel_rfl) ?_
  simp only [Act.put, List.setIfInBounds_toArray, List.set_cons_succ, List.set_cons_zero]
  refine cw_seq good (cw_seq good (cw_region good ?_))
  refine wpO_val (aop_field0 (p := (⟨q2, 0, none⟩ : Addr)) (n := 1) (g := false) rfl (by kernel_rfl) rfl rfl rfl (by decide) (by decide) rfl) ?_
  refine wpO_val (aop_load (v := .slice pv m.length m.length) rfl (by kernel_rfl) rfl gv) ?_
  refine wpO_val (aop_lenV (b := pv) (len := m.length) (cap := m.length) rfl rfl rfl rfl (by kernel_rfl) rfl) ?_
  simp only [Act.put, List.setIfInBounds_toArray, List.set_cons_succ, List.set_cons_zero]
  refine wpO_mv (.int .i64 (0 : Nat)) (by kernel_rfl) ?_
  simp only [Act.put, List.setIfInBounds_toArray, List.set_cons_succ, List.set_cons_zero]
  refine cw_block good (cw_loop good ?_)
  refine wpL_ind (fun nn e A' => ∃ (k : Nat) (fr : Int) (acc : List Sp) (vm : Value) (F' : Foot) (zz : Nat → Value), nn = m.length - k ∧ k ≤ m.length ∧ acc.length ≤ k ∧ notGo n m 0 [] = notGo n (m.drop k) fr acc ∧ Asn.all [cel q5 vm, spans vm acc, cel q2 (.slice pv m.length m.length), spans (.slice pv m.length m.length) m, cel q4 (.slice none 0 0), J] F' A' ∧ Step F A F' A' ∧ e = ⟨#[.agg #[Value.slice pv m.length m.length], .int .i64 n, ptr q2, undef, ptr q4, ptr q5, .int .i64 fr, undef, (zz 8), .int .i64 n0, .int .i64 n, ptr q2, .slice pv m.length m.length, .int .i64 m.length, .int .i64 k, (zz 15), (zz 16), (zz 17), (zz 18), (zz 19), (zz 20), (zz 21), (zz 22), (zz 23), (zz 24), (zz 25), (zz 26), (zz 27), (zz 28), (zz 29), (zz 30), (zz 31), (zz 32), undef, undef, undef, undef, undef, undef, undef], []⟩) ?_ m.length _ _ ⟨0, 0, [], .slice none 0 0, F3, (fun ix => (⟨#[.agg #[Value.slice pv m.length m.length], .int .i64 n, ptr q2, undef, ptr q4, ptr q5, .int .i64 0, undef, undef, .int .i64 n0, .int .i64 n, ptr q2, .slice pv m.length m.length, .int .i64 m.length, .int .i64 (0 : Nat), undef, undef, undef, undef, undef, undef, undef, undef, undef, undef, undef, undef, undef, undef, undef, undef, undef, undef, undef, undef, undef, undef, undef, undef, undef], []⟩ : Act).tmps.getD ix undef), rfl, by omega, Nat.le_refl _, rfl, h4, S1.trans (S2.trans S3), by kernel_rfl⟩
  rintro nn _ A' ⟨k, fr, acc, vm, F', zz, rfl, hk, hacc, hgo, h, hS, rfl⟩
  by_cases hlt : k < m.length
  case neg =>
    refine cw_seq good (cw_region good ?_)
    refine wpO_val (aop_int (k := .i64) (m := k) (n := m.length) (v := .bool false) rfl (by kernel_rfl) (by kernel_rfl) (by simp [intV]; omega)) ?_
    simp only [Act.put, List.setIfInBounds_toArray, List.set_cons_succ, List.set_cons_zero]
    refine cw_seq good (cw_cond good false (by kernel_rfl) (cw_exit good ?_))
    rw [List.drop_eq_nil_of_le (by omega)] at hgo
    simp only [notGo] at hgo
    obtain ⟨zq, hzq⟩ : ∃ zq : Nat → Value, (⟨#[.agg #[Value.slice pv m.length m.length], .int .i64 n, ptr q2, undef, ptr q4, ptr q5, .int .i64 fr, undef, (zz 8), .int .i64 n0, .int .i64 n, ptr q2, .slice pv m.length m.length, .int .i64 m.length, .int .i64 k, .bool false, (zz 16), (zz 17), (zz 18), (zz 19), (zz 20), (zz 21), (zz 22), (zz 23), (zz 24), (zz 25), (zz 26), (zz 27), (zz 28), (zz 29), (zz 30), (zz 31), (zz 32), undef, undef, undef, undef, undef, undef, undef], []⟩ : Act) = ⟨#[(zq 0), .int .i64 n, (zq 2), (zq 3), ptr q4, ptr q5, .int .i64 fr, (zq 7), (zq 8), (zq 9), (zq 10), (zq 11), (zq 12), (zq 13), (zq 14), (zq 15), (zq 16), (zq 17), (zq 18), (zq 19), (zq 20), (zq 21), (zq 22), (zq 23), (zq 24), (zq 25), (zq 26), (zq 27), (zq 28), (zq 29), (zq 30), (zq 31), (zq 32), (zq 33), (zq 34), (zq 35), (zq 36), (zq 37), (zq 38), (zq 39)], []⟩ := ⟨(fun ix => (⟨#[.agg #[Value.slice pv m.length m.length], .int .i64 n, ptr q2, undef, ptr q4, ptr q5, .int .i64 fr, undef, (zz 8), .int .i64 n0, .int .i64 n, ptr q2, .slice pv m.length m.length, .int .i64 m.length, .int .i64 k, .bool false, (zz 16), (zz 17), (zz 18), (zz 19), (zz 20), (zz 21), (zz 22), (zz 23), (zz 24), (zz 25), (zz 26), (zz 27), (zz 28), (zz 29), (zz 30), (zz 31), (zz 32), undef, undef, undef, undef, undef, undef, undef], []⟩ : Act).tmps.getD ix undef), by kernel_rfl⟩
    rw [hgo]
    exact wpC_norm _ hzq (not_rest hJ (by omega) h hS zq)
  obtain ⟨s, hs⟩ : ∃ s, m[k]? = some s := ⟨_, List.getElem?_eq_getElem hlt⟩
  obtain ⟨f, t⟩ := s
  rw [drop_at hs] at hgo
  simp only [notGo] at hgo
  obtain ⟨_, hsp⟩ := Asn.left (Asn.perm [cel q5 vm, spans vm acc, cel q2 (.slice pv m.length m.length), spans (.slice pv m.length m.length) m, cel q4 (.slice none 0 0), J] [3, 0, 1, 2, 4, 5] h (by decide))
  obtain ⟨d, e, hd⟩ := spans_get hsp hs
  injection e with e1 _ _
  subst e1
  obtain ⟨A1', A2', F2', eA1, eA2, c0, z0, c1, z1, h2', S2'⟩ := pair_var (Owns.sep Owns.cel (Owns.sep Owns.spans (Owns.sep Owns.cel (Owns.sep Owns.spans (Owns.sep Owns.cel hJ))))) h f t
  generalize hq : A'.heap.size = q at eA2 c0 z0 c1 z1 h2'
  have gf : A2'.cell? ⟨q, 0, none⟩ = some (.int .i64 f) := Asn.cellAt h2' rfl
  have gt : A2'.cell? ⟨q, 1, none⟩ = some (.int .i64 t) := Asn.cellAt h2' rfl
  refine cw_seq good (cw_region good ?_)
  refine wpO_val (aop_int (k := .i64) (m := k) (n := m.length) (v := .bool true) rfl (by kernel_rfl) (by kernel_rfl) (by simp [intV]; omega)) ?_
  simp only [Act.put, List.setIfInBounds_toArray, List.set_cons_succ, List.set_cons_zero]
  refine cw_seq good (cw_cond good true (by kernel_rfl) (cw_skip good ?_))
  refine cw_seq good (cw_block good (cw_seq good (cw_region good ?_)))
  refine wpO_val (aop_indexT (k := .i64) (len := m.length) (cap := m.length) (i := k) (p := ⟨d, 0, none⟩) (n := 2) (g := true) rfl (by kernel_rfl) (by kernel_rfl) rfl rfl hlt) ?_
  rw [add_at2]
  refine wpO_val (aop_loadT (n := 2) (p := ⟨d, k * 2, none⟩) (xs := #[.int .i64 f, .int .i64 t]) rfl (by kernel_rfl) rfl hd rfl (by rw [cells2_size]; show k * 2 + 2 ≤ _; omega) (cells2_cut hs)) ?_
  refine wpO_val (aop_allocT (cs := #[.int .i64 0, .int .i64 0]) rfl rfl rfl rfl) ?_
  rw [hq, eA1]
  simp only [Act.put, List.setIfInBounds_toArray, List.set_cons_succ, List.set_cons_zero]
  refine wpO_unit (aop_storeT2 (p := ⟨q, 0, none⟩) (v := .int .i64 f) (v' := .int .i64 t) rfl (by kernel_rfl) (by kernel_rfl) rfl rfl rfl c0 z0 c1 z1) ?_
  rw [eA2]
  simp only [Act.put]
  refine cw_seq good (cw_seq good (cw_region good ?_))
  refine wpO_val (aop_indexA (k := .i64) (len := 2) (i := 0) (p := ⟨q, 0, none⟩) (n := 1) (g := false) rfl (by kernel_rfl) (by kernel_rfl) rfl rfl (by decide)) ?_
  rw [at0]
  refine wpO_val (aop_load (v := .int .i64 f) rfl (by kernel_rfl) rfl gf) ?_
  refine wpO_mv (.int .i64 n) (by kernel_rfl) ?_
  simp only [Act.put, List.setIfInBounds_toArray, List.set_cons_succ, List.set_cons_zero]
  refine wpO_val (aop_int (k := .i64) (m := f) (n := n) (v := .bool (decide (f ≥ n))) rfl (by kernel_rfl) (by kernel_rfl) rfl) ?_
  simp only [Act.put, List.setIfInBounds_toArray, List.set_cons_succ, List.set_cons_zero]
  obtain ⟨F5, h5, S5⟩ := Asn.drop h2'
  by_cases hfn : f ≥ n
  case pos =>
    rw [if_pos hfn] at hgo
    refine cw_cond good true (congrArg Value.bool (decide_eq_true hfn)) (cw_exit good ?_)
    obtain ⟨zq, hzq⟩ : ∃ zq : Nat → Value, (⟨#[.agg #[Value.slice (some ⟨d, 0, none⟩) m.length m.length], .int .i64 n, ptr q2, undef, ptr q4, ptr q5, .int .i64 fr, undef, ptr q, .int .i64 n0, .int .i64 n, ptr q2, .slice (some ⟨d, 0, none⟩) m.length m.length, .int .i64 m.length, .int .i64 k, .bool true, .pointer (some ⟨d, k * 2, none⟩), .agg #[Value.int .i64 f, Value.int .i64 t], .pointer (some ⟨q, 0, none⟩), .int .i64 f, .int .i64 n, .bool (decide (f ≥ n)), (zz 22), (zz 23), (zz 24), (zz 25), (zz 26), (zz 27), (zz 28), (zz 29), (zz 30), (zz 31), (zz 32), undef, undef, undef, undef, undef, undef, undef], []⟩ : Act) = ⟨#[(zq 0), .int .i64 n, (zq 2), (zq 3), ptr q4, ptr q5, .int .i64 fr, (zq 7), (zq 8), (zq 9), (zq 10), (zq 11), (zq 12), (zq 13), (zq 14), (zq 15), (zq 16), (zq 17), (zq 18), (zq 19), (zq 20), (zq 21), (zq 22), (zq 23), (zq 24), (zq 25), (zq 26), (zq 27), (zq 28), (zq 29), (zq 30), (zq 31), (zq 32), (zq 33), (zq 34), (zq 35), (zq 36), (zq 37), (zq 38), (zq 39)], []⟩ := ⟨(fun ix => (⟨#[.agg #[Value.slice (some ⟨d, 0, none⟩) m.length m.length], .int .i64 n, ptr q2, undef, ptr q4, ptr q5, .int .i64 fr, undef, ptr q, .int .i64 n0, .int .i64 n, ptr q2, .slice (some ⟨d, 0, none⟩) m.length m.length, .int .i64 m.length, .int .i64 k, .bool true, .pointer (some ⟨d, k * 2, none⟩), .agg #[Value.int .i64 f, Value.int .i64 t], .pointer (some ⟨q, 0, none⟩), .int .i64 f, .int .i64 n, .bool (decide (f ≥ n)), (zz 22), (zz 23), (zz 24), (zz 25), (zz 26), (zz 27), (zz 28), (zz 29), (zz 30), (zz 31), (zz 32), undef, undef, undef, undef, undef, undef, undef], []⟩ : Act).tmps.getD ix undef), by kernel_rfl⟩
    rw [hgo]
    exact wpC_norm _ hzq (not_rest hJ (by omega) h5 (hS.trans (S2'.trans S5)) zq)
  rw [if_neg hfn] at hgo
  refine cw_cond good false (congrArg Value.bool (decide_eq_false hfn)) (cw_skip good ?_)
  refine cw_seq good (cw_seq good (cw_region good ?_))
  refine wpO_mv (.int .i64 fr) (by kernel_rfl) ?_
  refine wpO_val (aop_indexA (k := .i64) (len := 2) (i := 0) (p := ⟨q, 0, none⟩) (n := 1) (g := false) rfl (by kernel_rfl) (by kernel_rfl) rfl rfl (by decide)) ?_
  rw [at0]
  refine wpO_val (aop_load (v := .int .i64 f) rfl (by kernel_rfl) rfl gf) ?_
  simp only [Act.put, List.setIfInBounds_toArray, List.set_cons_succ, List.set_cons_zero]
  refine wpO_val (aop_int (k := .i64) (m := fr) (n := f) (v := .bool (decide (fr < f))) rfl (by kernel_rfl) (by kernel_rfl) rfl) ?_
  simp only [Act.put, List.setIfInBounds_toArray, List.set_cons_succ, List.set_cons_zero]
  by_cases hff : fr < f
  · rw [if_pos hff] at hgo
    refine cw_cond good true (congrArg Value.bool (decide_eq_true hff)) ?_
    have h6 := Asn.perm [blk q (.cells #[Value.int .i64 f, Value.int .i64 t] 42 (0, 0)), cel q5 vm, spans vm acc, cel q2 (.slice (some ⟨d, 0, none⟩) m.length m.length), spans (.slice (some ⟨d, 0, none⟩) m.length m.length) m, cel q4 (.slice none 0 0), J] [1, 2, 0, 3, 4, 5, 6] h2' (by decide)
    obtain ⟨vm', A6, F6, c6, h7, S6⟩ := add_call (n₀ := n₀) (f := fr) (t := f) (Owns.sep Owns.blk (Owns.sep Owns.cel (Owns.sep Owns.spans (Owns.sep Owns.cel hJ)))) (by omega) h6
    have h8 := Asn.perm [cel q5 vm', spans vm' (addSp acc fr f), blk q (.cells #[Value.int .i64 f, Value.int .i64 t] 42 (0, 0)), cel q2 (.slice (some ⟨d, 0, none⟩) m.length m.length), spans (.slice (some ⟨d, 0, none⟩) m.length m.length) m, cel q4 (.slice none 0 0), J] [2, 0, 1, 3, 4, 5, 6] h7 (by decide)
    have hal := add_len (m := acc) (f := fr) (t := f)
    refine cw_region good ?_
    refine wpO_mv (.int .i64 fr) (by kernel_rfl) ?_
    refine wpO_val (aop_indexA (k := .i64) (len := 2) (i := 0) (p := ⟨q, 0, none⟩) (n := 1) (g := false) rfl (by kernel_rfl) (by kernel_rfl) rfl rfl (by decide)) ?_
    rw [at0]
    refine wpO_val (aop_load (v := .int .i64 f) rfl (by kernel_rfl) rfl gf) ?_
    simp only [Act.put, List.setIfInBounds_toArray, List.set_cons_succ, List.set_cons_zero]
    refine wpO_call (f := 33) (first := #[]) (cap := #[]) (l := [ptr q5, .int .i64 fr, .int .i64 f]) (xs := #[ptr q5, .int .i64 fr, .int .i64 f]) ⟨rfl, rfl, rfl⟩ rfl (by kernel_rfl) rfl ⟨_, _, c6, ?_⟩
    simp only [Act.put, List.setIfInBounds_toArray, List.set_cons_succ, List.set_cons_zero]
    have kt : A6.cell? ⟨q, 1, none⟩ = some (.int .i64 t) := Asn.cellAt h8 rfl
    refine cw_region good ?_
    refine wpO_val (aop_indexA (k := .i64) (len := 2) (i := 1) (p := ⟨q, 0, none⟩) (n := 1) (g := false) rfl (by kernel_rfl) (by kernel_rfl) rfl rfl (by decide)) ?_
    rw [at1]
    refine wpO_val (aop_load (v := .int .i64 t) rfl (by kernel_rfl) rfl kt) ?_
    refine wpO_as (.int .i64 t) (by kernel_rfl) ?_
    simp only [Act.put, List.setIfInBounds_toArray, List.set_cons_succ, List.set_cons_zero]
    obtain ⟨F9, h9, S9⟩ := Asn.drop h8
    refine cw_region good ?_
    refine wpO_val (aop_int (k := .i64) (m := k) (n := 1) (v := .int .i64 (k + 1 : Nat)) rfl (by kernel_rfl) (by kernel_rfl) (intV_add (by omega) (by omega) (by omega))) ?_
    refine wpO_mv (.int .i64 (k + 1 : Nat)) (by kernel_rfl) ?_
    simp only [Act.put, List.setIfInBounds_toArray, List.set_cons_succ, List.set_cons_zero]
    exact ⟨m.length - (k + 1), by omega, k + 1, t, addSp acc fr f, vm', F9, (fun ix => (⟨#[.agg #[Value.slice (some ⟨d, 0, none⟩) m.length m.length], .int .i64 n, ptr q2, undef, ptr q4, ptr q5, .int .i64 t, undef, ptr q, .int .i64 n0, .int .i64 n, ptr q2, .slice (some ⟨d, 0, none⟩) m.length m.length, .int .i64 m.length, .int .i64 (k + 1 : Nat), .bool true, .pointer (some ⟨d, k * 2, none⟩), .agg #[Value.int .i64 f, Value.int .i64 t], .pointer (some ⟨q, 0, none⟩), .int .i64 f, .int .i64 n, .bool (decide (f ≥ n)), .int .i64 fr, .pointer (some ⟨q, 0, none⟩), .int .i64 f, .bool (decide (fr < f)), .int .i64 fr, .pointer (some ⟨q, 0, none⟩), .int .i64 f, undef, .pointer (some ⟨q, 1, none⟩), .int .i64 t, .int .i64 (k + 1 : Nat), undef, undef, undef, undef, undef, undef, undef], []⟩ : Act).tmps.getD ix undef), rfl, by omega, by omega, hgo, h9, hS.trans (S2'.trans (S6.trans S9)), by kernel_rfl⟩
  · rw [if_neg hff] at hgo
    refine cw_cond good false (congrArg Value.bool (decide_eq_false hff)) (cw_skip good ?_)
    have kt : A2'.cell? ⟨q, 1, none⟩ = some (.int .i64 t) := Asn.cellAt h2' rfl
    refine cw_region good ?_
    refine wpO_val (aop_indexA (k := .i64) (len := 2) (i := 1) (p := ⟨q, 0, none⟩) (n := 1) (g := false) rfl (by kernel_rfl) (by kernel_rfl) rfl rfl (by decide)) ?_
    rw [at1]
    refine wpO_val (aop_load (v := .int .i64 t) rfl (by kernel_rfl) rfl kt) ?_
    refine wpO_as (.int .i64 t) (by kernel_rfl) ?_
    simp only [Act.put, List.setIfInBounds_toArray, List.set_cons_succ, List.set_cons_zero]
    obtain ⟨F9, h9, S9⟩ := Asn.drop h2'
    refine cw_region good ?_
    refine wpO_val (aop_int (k := .i64) (m := k) (n := 1) (v := .int .i64 (k + 1 : Nat)) rfl (by kernel_rfl) (by kernel_rfl) (intV_add (by omega) (by omega) (by omega))) ?_
    refine wpO_mv (.int .i64 (k + 1 : Nat)) (by kernel_rfl) ?_
    simp only [Act.put, List.setIfInBounds_toArray, List.set_cons_succ, List.set_cons_zero]
    exact ⟨m.length - (k + 1), by omega, k + 1, t, acc, vm, F9, (fun ix => (⟨#[.agg #[Value.slice (some ⟨d, 0, none⟩) m.length m.length], .int .i64 n, ptr q2, undef, ptr q4, ptr q5, .int .i64 t, undef, ptr q, .int .i64 n0, .int .i64 n, ptr q2, .slice (some ⟨d, 0, none⟩) m.length m.length, .int .i64 m.length, .int .i64 (k + 1 : Nat), .bool true, .pointer (some ⟨d, k * 2, none⟩), .agg #[Value.int .i64 f, Value.int .i64 t], .pointer (some ⟨q, 0, none⟩), .int .i64 f, .int .i64 n, .bool (decide (f ≥ n)), .int .i64 fr, .pointer (some ⟨q, 0, none⟩), .int .i64 f, .bool (decide (fr < f)), (zz 26), (zz 27), (zz 28), (zz 29), .pointer (some ⟨q, 1, none⟩), .int .i64 t, .int .i64 (k + 1 : Nat), undef, undef, undef, undef, undef, undef, undef], []⟩ : Act).tmps.getD ix undef), rfl, by omega, by omega, hgo, h9, hS.trans (S2'.trans S9), by kernel_rfl⟩
end Go.Proofs.Ytfkdkfleaiaoiaa
/-
  Pairs compared. No condition.
-/
namespace Go.Proofs.Ytfkdkfleaiaoiaa
open Go.Abs
theorem run_intEq {d : Nat} {a b : Int} {w : World} : (Op.equalIn (d + 1) 3 (.int .i64 a) (.int .i64 b)).run Try.prog w = .ok (a == b) w := by
  have hu : ∀ w, (underlying 3).run Try.prog w = .ok (.int .i64) w := run_under rfl
  unfold Op.equalIn
  simp only [Sem.run_bind, hu, Result.andThen, if_true, Sem.run_pure]
theorem run_part {a b : Int} {w : World} : (part 3 #[.int .i64 a, .int .i64 b] (0 * 1)).run Try.prog w = .ok (.int .i64 a) w ∧ (part 3 #[.int .i64 a, .int .i64 b] (1 * 1)).run Try.prog w = .ok (.int .i64 b) w := by
  have h : tyOf Try.prog 3 1 false = true := rfl
  constructor
  · unfold part
    simp only [Sem.run_bind, run_agg h, Result.andThen, Bool.false_eq_true, if_false]
    rfl
  · unfold part
    simp only [Sem.run_bind, run_agg h, Result.andThen, Bool.false_eq_true, if_false]
    rfl
theorem run_pairEq {a b c d : Int} {w : World} : (Op.equal 42 (.agg #[.int .i64 a, .int .i64 b]) (.agg #[.int .i64 c, .int .i64 d])).run Try.prog w = .ok (a == c && b == d) w := by
  have hu : ∀ w, (underlying 42).run Try.prog w = .ok (.array 2 3) w := run_under rfl
  have hs : ∀ w, (sizeOf 3).run Try.prog w = .ok 1 w := run_szT (g := false) rfl
  have p1 : ∀ a b w, (part 3 #[.int .i64 a, .int .i64 b] 0).run Try.prog w = .ok (.int .i64 a) w := fun a b w => run_part.1
  have p2 : ∀ a b w, (part 3 #[.int .i64 a, .int .i64 b] 1).run Try.prog w = .ok (.int .i64 b) w := fun a b w => run_part.2
  unfold Op.equal Op.maxDepth
  rw [Op.equalIn]
  simp only [Sem.run_bind, hu, hs, Result.andThen]
  simp [Std.Legacy.Range.forIn_eq_forIn_range', List.range', Sem.run_bind, Result.andThen, p1, run_intEq]
  by_cases h1 : a = c
  · by_cases h2 : b = d
    · simp [h1, h2, Sem.run_bind, Result.andThen, p2, run_intEq]
    · simp [h1, h2, Sem.run_bind, Result.andThen, p2, run_intEq]
  · simp [h1]
theorem aop_pairNeq {A : World} {ρ : Operand → Value} {o : Oper} {x y : Operand} {z : TypeId} {a b c d : Int} (h : o.op = .binOp .neq 42 x y z) (hx : ρ x = .agg #[.int .i64 a, .int .i64 b]) (hy : ρ y = .agg #[.int .i64 c, .int .i64 d]) : AOp Try.prog ρ o A (.value (.bool (!(a == c && b == d)))) A := by
  refine .inl ⟨_, rfl, rfl, rfl, ?_, by rw [h]; rfl, fun w => ?_⟩
  · rw [h]; intro u hu
    simp only [Op.operands, List.mem_toArray, List.mem_cons, List.not_mem_nil, or_false] at hu
    rcases hu with rfl | rfl
    · rw [hx]; rfl
    · rw [hy]; rfl
  · unfold execOp; rw [h]; simp only [hx, hy]
    have e1 : (eqGuard .neq 42 x y (.agg #[.int .i64 a, .int .i64 b]) (.agg #[.int .i64 c, .int .i64 d])).run Try.prog w = .ok () w := by
      have hg : Try.prog.eqGuardType Try.prog.depth 42 = false := by kernel_rfl
      unfold eqGuard
      simp [program, hg, Sem.run, Bind.bind, Sem.bind, Pure.pure]
    have e2 : (binOp .neq 42 (.agg #[.int .i64 a, .int .i64 b]) (.agg #[.int .i64 c, .int .i64 d])).run Try.prog w = .ok (.bool (!(a == c && b == d))) w := by
      show (do Pure.pure (Value.bool (!(← Op.equal 42 _ _))) : Sem Value).run Try.prog w = _
      simp only [Sem.run_bind, run_pairEq, Result.andThen, Sem.run_pure]
    simp only [Sem.run_bind, e1, e2, Result.andThen, Sem.run_pure]
end Go.Proofs.Ytfkdkfleaiaoiaa
/-
  slices.Equal, bitmap.Eq, bitmap.Without. No condition.
-/
namespace Go.Proofs.Ytfkdkfleaiaoiaa
open Go.Abs
variable {n₀ : Nat}
set_option maxRecDepth 8000
theorem take_eq_next {a b : List Sp} {k : Nat} {s u : Sp} (h : a.take k = b.take k) (hs : a[k]? = some s) (hu : b[k]? = some u) (e : s = u) : a.take (k + 1) = b.take (k + 1) := by
  obtain ⟨h1, e1⟩ := List.getElem?_eq_some_iff.1 hs
  obtain ⟨h2, e2⟩ := List.getElem?_eq_some_iff.1 hu
  rw [List.take_succ_eq_append_getElem h1, List.take_succ_eq_append_getElem h2, h, e1, e2, e]
set_option maxHeartbeats 8000000 in
/-- slices.Equal, of spans. -/
theorem equal_call {pa pb : Option Addr} {a b : List Sp} {A : World} {Fa Fb : Foot} (hml : a.length + b.length < 90000) (ha : spans (.slice pa a.length a.length) a Fa A) (hb : spans (.slice pb b.length b.length) b Fb A) :
    SndCall Try.prog n₀ 40 #[.slice pa a.length a.length, .slice pb b.length b.length] A (.bool (decide (a = b))) A := by
  suffices hw : wpF Try.prog n₀ 40 #[.slice pa a.length a.length, .slice pb b.length b.length] (fun r A' => r = .bool (decide (a = b)) ∧ A' = A) A by
    obtain ⟨r, A', h1, rfl, rfl⟩ := hw
    exact h1
  refine wpF_fn (ts := #[.slice pa a.length a.length, .slice pb b.length b.length, undef, undef, undef, undef, undef, undef, undef, undef, undef, undef, undef, undef, undef, undef, undef, undef, undef, undef, undef, undef, undef, undef, undef, undef]) good ⟨rfl, rfl, rfl⟩ (by kernel_rfl) ?_
  refine cw_seq good (cw_region good ?_)
  refine wpO_as (.bool false) (by kernel_rfl) ?_
  simp only [Act.put, List.setIfInBounds_toArray, List.set_cons_succ, List.set_cons_zero]
  refine cw_seq good (cw_seq good (cw_region good ?_))
  refine wpO_mv (.slice pa a.length a.length) (by kernel_rfl) ?_
  refine wpO_val (aop_lenV (b := pa) (len := a.length) (cap := a.length) rfl rfl rfl rfl (by kernel_rfl) rfl) ?_
  refine wpO_mv (.slice pb b.length b.length) (by kernel_rfl) ?_
  simp only [Act.put, List.setIfInBounds_toArray, List.set_cons_succ, List.set_cons_zero]
  refine wpO_val (aop_lenV (b := pb) (len := b.length) (cap := b.length) rfl rfl rfl rfl (by kernel_rfl) rfl) ?_
  simp only [Act.put, List.setIfInBounds_toArray, List.set_cons_succ, List.set_cons_zero]
  by_cases hlen : a.length = b.length
  case neg =>
    refine wpO_val (aop_int (k := .i64) (m := a.length) (n := b.length) (v := .bool true) rfl (by kernel_rfl) (by kernel_rfl) (by simp [intV]; omega)) ?_
    simp only [Act.put, List.setIfInBounds_toArray, List.set_cons_succ, List.set_cons_zero]
    refine cw_cond good true (by kernel_rfl) ?_
    refine cw_seq good (cw_region good ?_)
    refine wpO_as (.bool false) (by kernel_rfl) ?_
    simp only [Act.put, List.setIfInBounds_toArray, List.set_cons_succ, List.set_cons_zero]
    exact cw_ret good (ret_one (.bool false) (by kernel_rfl) ⟨by rw [decide_eq_false (fun e => hlen (by rw [e]))], rfl⟩)
  refine wpO_val (aop_int (k := .i64) (m := a.length) (n := b.length) (v := .bool false) rfl (by kernel_rfl) (by kernel_rfl) (by simp [intV]; omega)) ?_
  simp only [Act.put, List.setIfInBounds_toArray, List.set_cons_succ, List.set_cons_zero]
  refine cw_cond good false (by kernel_rfl) (cw_skip good ?_)
  refine cw_seq good (cw_seq good (cw_region good ?_))
  refine wpO_mv (.slice pa a.length a.length) (by kernel_rfl) ?_
  refine wpO_val (aop_lenV (b := pa) (len := a.length) (cap := a.length) rfl rfl rfl rfl (by kernel_rfl) rfl) ?_
  refine wpO_mv (.int .i64 (0 : Nat)) (by kernel_rfl) ?_
  simp only [Act.put, List.setIfInBounds_toArray, List.set_cons_succ, List.set_cons_zero]
  refine cw_block good (cw_loop good ?_)
  refine wpL_ind (fun nn e A' => ∃ (k : Nat) (zz : Nat → Value), A' = A ∧ nn = a.length - k ∧ k ≤ a.length ∧ a.take k = b.take k ∧ e = ⟨#[.slice pa a.length a.length, .slice pb b.length b.length, undef, undef, .bool false, (zz 5), .slice pa a.length a.length, .int .i64 a.length, .slice pb b.length b.length, .int .i64 b.length, .bool false, .slice pa a.length a.length, .int .i64 a.length, .int .i64 k, (zz 14), (zz 15), (zz 16), (zz 17), (zz 18), (zz 19), (zz 20), (zz 21), (zz 22), (zz 23), (zz 24), (zz 25)], []⟩) ?_ a.length _ _ ⟨0, (fun ix => (⟨#[.slice pa a.length a.length, .slice pb b.length b.length, undef, undef, .bool false, undef, .slice pa a.length a.length, .int .i64 a.length, .slice pb b.length b.length, .int .i64 b.length, .bool false, .slice pa a.length a.length, .int .i64 a.length, .int .i64 (0 : Nat), undef, undef, undef, undef, undef, undef, undef, undef, undef, undef, undef, undef], []⟩ : Act).tmps.getD ix undef), rfl, rfl, by omega, rfl, by kernel_rfl⟩
  rintro nn _ _ ⟨k, zz, rfl, rfl, hk, htk, rfl⟩
  by_cases hlt : k < a.length
  case neg =>
    refine cw_seq good (cw_region good ?_)
    refine wpO_val (aop_int (k := .i64) (m := k) (n := a.length) (v := .bool false) rfl (by kernel_rfl) (by kernel_rfl) (by simp [intV]; omega)) ?_
    simp only [Act.put, List.setIfInBounds_toArray, List.set_cons_succ, List.set_cons_zero]
    refine cw_seq good (cw_cond good false (by kernel_rfl) (cw_exit good ?_))
    refine cw_seq good (cw_region good ?_)
    refine wpO_as (.bool true) (by kernel_rfl) ?_
    simp only [Act.put, List.setIfInBounds_toArray, List.set_cons_succ, List.set_cons_zero]
    have eab : a = b := by
      rw [List.take_of_length_le (by omega), List.take_of_length_le (by omega)] at htk
      exact htk
    exact cw_ret good (ret_one (.bool true) (by kernel_rfl) ⟨by rw [decide_eq_true eab], rfl⟩)
  obtain ⟨s, hs⟩ : ∃ s, a[k]? = some s := ⟨_, List.getElem?_eq_getElem hlt⟩
  obtain ⟨x0, x1⟩ := s
  obtain ⟨u, hu⟩ : ∃ s, b[k]? = some s := ⟨_, List.getElem?_eq_getElem (by omega)⟩
  obtain ⟨y0, y1⟩ := u
  obtain ⟨da, ea, hda⟩ := spans_get ha hs
  injection ea with ea1 _ _
  subst ea1
  obtain ⟨db, eb, hdb⟩ := spans_get hb hu
  injection eb with eb1 _ _
  subst eb1
  refine cw_seq good (cw_region good ?_)
  refine wpO_val (aop_int (k := .i64) (m := k) (n := a.length) (v := .bool true) rfl (by kernel_rfl) (by kernel_rfl) (by simp [intV]; omega)) ?_
  simp only [Act.put, List.setIfInBounds_toArray, List.set_cons_succ, List.set_cons_zero]
  refine cw_seq good (cw_cond good true (by kernel_rfl) (cw_skip good ?_))
  refine cw_seq good (cw_block good (cw_seq good (cw_region good ?_)))
  refine wpO_mv (.int .i64 k) (by kernel_rfl) ?_
  refine wpO_as (.int .i64 k) (by kernel_rfl) ?_
  simp only [Act.put, List.setIfInBounds_toArray, List.set_cons_succ, List.set_cons_zero]
  refine cw_seq good (ca_draw good [.slice (some ⟨da, 0, none⟩) a.length a.length, .int .i64 k, .pointer (some ((⟨da, 0, none⟩ : Addr).add (k * 2))), .agg #[Value.int .i64 x0, Value.int .i64 x1], .slice (some ⟨db, 0, none⟩) b.length b.length, .int .i64 k, .pointer (some ((⟨db, 0, none⟩ : Addr).add (k * 2))), .agg #[Value.int .i64 y0, Value.int .i64 y1], .bool (!(x0 == y0 && x1 == y1))] [] (by kernel_rfl) rfl ?_ ⟨#[.slice (some ⟨da, 0, none⟩) a.length a.length, .slice (some ⟨db, 0, none⟩) b.length b.length, undef, undef, .bool false, .int .i64 k, .slice (some ⟨da, 0, none⟩) a.length a.length, .int .i64 a.length, .slice (some ⟨db, 0, none⟩) b.length b.length, .int .i64 b.length, .bool false, .slice (some ⟨da, 0, none⟩) a.length a.length, .int .i64 a.length, .int .i64 k, .bool true, .int .i64 k, .slice (some ⟨da, 0, none⟩) a.length a.length, .int .i64 k, .pointer (some ((⟨da, 0, none⟩ : Addr).add (k * 2))), .agg #[Value.int .i64 x0, Value.int .i64 x1], .slice (some ⟨db, 0, none⟩) b.length b.length, .int .i64 k, .pointer (some ((⟨db, 0, none⟩ : Addr).add (k * 2))), .agg #[Value.int .i64 y0, Value.int .i64 y1], .bool (!(x0 == y0 && x1 == y1)), (zz 25)], []⟩ _ (by kernel_rfl) rfl ?_)
  · intro jj o ho
    match jj, ho with
    | 0, ho => cases ho; exact sa_quiet rfl [9] (all1 (aop_mv rfl (by kernel_rfl))) rfl
    | 1, ho => cases ho; exact sa_quiet rfl [9] (all1 (aop_mv rfl (by kernel_rfl))) rfl
    | 2, ho => cases ho; exact sa_quiet rfl [9] (all1 (aop_indexT (k := .i64) (len := a.length) (cap := a.length) (i := k) (p := ⟨da, 0, none⟩) (n := 2) (g := true) rfl (by kernel_rfl) (by kernel_rfl) rfl rfl hlt)) rfl
    | 3, ho => cases ho; exact sa_quiet rfl [9] (all1 (aop_loadT (n := 2) (p := (⟨da, 0, none⟩ : Addr).add (k * 2)) (cs := cells2 a) (tq := 42) (fz := (1, 0)) rfl (by kernel_rfl) rfl (by rw [add_at2]; exact hda) (by rw [add_at2]) (by rw [add_at2, cells2_size]; show k * 2 + 2 ≤ _; omega) (by rw [add_at2]; exact cells2_cut hs))) rfl
    | 4, ho => cases ho; exact sa_quiet rfl [9] (all1 (aop_mv rfl (by kernel_rfl))) rfl
    | 5, ho => cases ho; exact sa_quiet rfl [9] (all1 (aop_mv rfl (by kernel_rfl))) rfl
    | 6, ho => cases ho; exact sa_quiet rfl [9] (all1 (aop_indexT (k := .i64) (len := b.length) (cap := b.length) (i := k) (p := ⟨db, 0, none⟩) (n := 2) (g := true) rfl (by kernel_rfl) (by kernel_rfl) rfl rfl (by omega))) rfl
    | 7, ho => cases ho; exact sa_quiet rfl [9] (all1 (aop_loadT (n := 2) (p := (⟨db, 0, none⟩ : Addr).add (k * 2)) (cs := cells2 b) (tq := 42) (fz := (1, 0)) rfl (by kernel_rfl) rfl (by rw [add_at2]; exact hdb) (by rw [add_at2]) (by rw [add_at2, cells2_size]; show k * 2 + 2 ≤ _; omega) (by rw [add_at2]; exact cells2_cut hu))) rfl
    | 8, ho => cases ho; exact sa_quiet rfl [9] (all1 (aop_pairNeq (a := x0) (b := x1) (c := y0) (d := y1) rfl (by kernel_rfl) (by kernel_rfl))) rfl
    | n + 9, ho => simp at ho
  by_cases hxy : x0 = y0 ∧ x1 = y1
  · refine cw_cond good false (congrArg Value.bool (by simp [hxy.1, hxy.2])) (cw_skip good ?_)
    refine cw_region good ?_
    refine wpO_val (aop_int (k := .i64) (m := k) (n := 1) (v := .int .i64 (k + 1 : Nat)) rfl (by kernel_rfl) (by kernel_rfl) (intV_add (by omega) (by omega) (by omega))) ?_
    refine wpO_mv (.int .i64 (k + 1 : Nat)) (by kernel_rfl) ?_
    simp only [Act.put, List.setIfInBounds_toArray, List.set_cons_succ, List.set_cons_zero]
    exact ⟨a.length - (k + 1), by omega, k + 1, (fun ix => (⟨#[.slice (some ⟨da, 0, none⟩) a.length a.length, .slice (some ⟨db, 0, none⟩) b.length b.length, undef, undef, .bool false, .int .i64 k, .slice (some ⟨da, 0, none⟩) a.length a.length, .int .i64 a.length, .slice (some ⟨db, 0, none⟩) b.length b.length, .int .i64 b.length, .bool false, .slice (some ⟨da, 0, none⟩) a.length a.length, .int .i64 a.length, .int .i64 (k + 1 : Nat), .bool true, .int .i64 k, .slice (some ⟨da, 0, none⟩) a.length a.length, .int .i64 k, .pointer (some ((⟨da, 0, none⟩ : Addr).add (k * 2))), .agg #[Value.int .i64 x0, Value.int .i64 x1], .slice (some ⟨db, 0, none⟩) b.length b.length, .int .i64 k, .pointer (some ((⟨db, 0, none⟩ : Addr).add (k * 2))), .agg #[Value.int .i64 y0, Value.int .i64 y1], .bool (!(x0 == y0 && x1 == y1)), .int .i64 (k + 1 : Nat)], []⟩ : Act).tmps.getD ix undef), rfl, rfl, by omega, take_eq_next htk hs hu (by rw [hxy.1, hxy.2]), by kernel_rfl⟩
  · have hne : (!(x0 == y0 && x1 == y1)) = true := by
      simp only [Bool.not_eq_true', Bool.and_eq_false_iff, beq_eq_false_iff_ne, ne_eq]
      by_cases h0 : x0 = y0
      · exact .inr fun h1 => hxy ⟨h0, h1⟩
      · exact .inl h0
    refine cw_cond good true (congrArg Value.bool hne) ?_
    refine cw_seq good (cw_region good ?_)
    refine wpO_as (.bool false) (by kernel_rfl) ?_
    simp only [Act.put, List.setIfInBounds_toArray, List.set_cons_succ, List.set_cons_zero]
    have nab : ¬ a = b := fun e => by
      subst e
      rw [hs] at hu
      cases hu
      exact hxy ⟨rfl, rfl⟩
    exact cw_ret good (ret_one (.bool false) (by kernel_rfl) ⟨by rw [decide_eq_false nab], rfl⟩)
set_option maxHeartbeats 8000000 in
/-- bitmap.Eq. -/
theorem eq_call {va vb : Value} {a b : List Sp} {J : Asn} {F : Foot} {A : World} (hJ : Owns J) (hml : a.length + b.length < 90000) (h : Asn.all [spans va a, spans vb b, J] F A) :
    ∃ A' F', SndCall Try.prog n₀ 25 #[.agg #[va], .agg #[vb]] A (.bool (decide (a = b))) A' ∧ Asn.all [spans va a, spans vb b, J] F' A' ∧ Step F A F' A' := by
  obtain ⟨_, ha⟩ := Asn.left h
  obtain ⟨pa, rfl⟩ := spans_val ha
  obtain ⟨_, hb'⟩ := Asn.left (Asn.swap h)
  obtain ⟨pb, rfl⟩ := spans_val hb'
  have o0 : Owns (Asn.all [spans (.slice pa a.length a.length) a, spans (.slice pb b.length b.length) b, J]) := Owns.sep Owns.spans (Owns.sep Owns.spans hJ)
  obtain ⟨F1, h1, S1⟩ := Asn.new o0 h (.slice pa a.length a.length) 27
  generalize hq2 : A.heap.size = q2 at h1
  generalize hA1 : A.alloc (.cells #[.slice pa a.length a.length] 27 (0, 0)) = A1 at h1 S1
  obtain ⟨F2, h2, S2⟩ := Asn.new (Owns.sep Owns.cel o0) h1 (.slice pb b.length b.length) 27
  generalize hq3 : A1.heap.size = q3 at h2
  generalize hA2 : A1.alloc (.cells #[.slice pb b.length b.length] 27 (0, 0)) = A2 at h2 S2
  have g3 : A2.cell? ⟨q3, 0, none⟩ = some (.slice pb b.length b.length) := Asn.get h2
  have g2 : A2.cell? ⟨q2, 0, none⟩ = some (.slice pa a.length a.length) := Asn.get (Asn.swap h2)
  obtain ⟨F3, h3, S3⟩ := Asn.drop h2
  obtain ⟨F4, h4, S4⟩ := Asn.drop h3
  obtain ⟨_, ka⟩ := Asn.left h4
  obtain ⟨_, kb⟩ := Asn.left (Asn.swap h4)
  have c1 := equal_call (n₀ := n₀) hml ka kb
  suffices hw : wpF Try.prog n₀ 25 #[.agg #[Value.slice pa a.length a.length], .agg #[Value.slice pb b.length b.length]] (fun r A' => r = .bool (decide (a = b)) ∧ A' = A2) A by
    obtain ⟨r, A', h1, rfl, rfl⟩ := hw
    exact ⟨_, F4, h1, h4, S1.trans (S2.trans (S3.trans S4))⟩
  refine wpF_fn (ts := #[.agg #[Value.slice pa a.length a.length], .agg #[Value.slice pb b.length b.length], undef, undef, undef, undef, undef, undef, undef, undef]) good ⟨rfl, rfl, rfl⟩ (by kernel_rfl) ?_
  refine cw_seq good (cw_region good ?_)
  refine wpO_val (aop_boxT (v := .agg #[Value.slice pa a.length a.length]) (cs := #[.slice pa a.length a.length]) rfl (by kernel_rfl) rfl) ?_
  rw [hq2, hA1]
  simp only [Act.put, List.setIfInBounds_toArray, List.set_cons_succ, List.set_cons_zero]
  refine wpO_val (aop_boxT (v := .agg #[Value.slice pb b.length b.length]) (cs := #[.slice pb b.length b.length]) rfl (by kernel_rfl) rfl) ?_
  rw [hq3, hA2]
  refine wpO_as (.bool false) (by kernel_rfl) ?_
  simp only [Act.put, List.setIfInBounds_toArray, List.set_cons_succ, List.set_cons_zero]
  refine cw_seq good (cw_region good ?_)
  refine wpO_val (aop_field0 (p := (⟨q2, 0, none⟩ : Addr)) (n := 1) (g := false) rfl (by kernel_rfl) rfl rfl rfl (by decide) (by decide) rfl) ?_
  refine wpO_val (aop_load (v := .slice pa a.length a.length) rfl (by kernel_rfl) rfl g2) ?_
  refine wpO_val (aop_field0 (p := (⟨q3, 0, none⟩ : Addr)) (n := 1) (g := false) rfl (by kernel_rfl) rfl rfl rfl (by decide) (by decide) rfl) ?_
  simp only [Act.put, List.setIfInBounds_toArray, List.set_cons_succ, List.set_cons_zero]
  refine wpO_val (aop_load (v := .slice pb b.length b.length) rfl (by kernel_rfl) rfl g3) ?_
  simp only [Act.put, List.setIfInBounds_toArray, List.set_cons_succ, List.set_cons_zero]
  refine wpO_call (f := 40) (first := #[]) (cap := #[]) (l := [.slice pa a.length a.length, .slice pb b.length b.length]) (xs := #[.slice pa a.length a.length, .slice pb b.length b.length]) ⟨rfl, rfl, rfl⟩ rfl (by kernel_rfl) rfl ⟨_, _, c1, ?_⟩
  simp only [Act.put, List.setIfInBounds_toArray, List.set_cons_succ, List.set_cons_zero]
  refine wpO_as (.bool (decide (a = b))) (by kernel_rfl) ?_
  simp only [Act.put, List.setIfInBounds_toArray, List.set_cons_succ, List.set_cons_zero]
  exact cw_ret good (ret_one (.bool (decide (a = b))) (by kernel_rfl) ⟨rfl, rfl⟩)
set_option maxHeartbeats 8000000 in
/-- bitmap.Without. -/
theorem without_call {va vb : Value} {a b : List Sp} {J : Asn} {F : Foot} {A : World} (hJ : Owns J) (hml : a.length + (notL b 65536).length < 90000) (hmb : b.length < 90000) (h : Asn.all [spans va a, spans vb b, J] F A) :
    ∃ v A' F', SndCall Try.prog n₀ 24 #[.agg #[va], .agg #[vb]] A (.agg #[v]) A' ∧ Asn.all [spans v (andL a (notL b 65536)), spans va a, spans vb b, J] F' A' ∧ Step F A F' A' := by
  have o0 : Owns (Asn.all [spans va a, spans vb b, J]) := Owns.sep Owns.spans (Owns.sep Owns.spans hJ)
  obtain ⟨F1, h1, S1⟩ := Asn.new o0 h va 27
  generalize hq2 : A.heap.size = q2 at h1
  generalize hA1 : A.alloc (.cells #[va] 27 (0, 0)) = A1 at h1 S1
  obtain ⟨F2, h2, S2⟩ := Asn.new (Owns.sep Owns.cel o0) h1 vb 27
  generalize hq3 : A1.heap.size = q3 at h2
  generalize hA2 : A1.alloc (.cells #[vb] 27 (0, 0)) = A2 at h2 S2
  obtain ⟨F3, h3, S3⟩ := Asn.new (Owns.sep Owns.cel (Owns.sep Owns.cel o0)) h2 (.slice none 0 0) 27
  generalize hq4 : A2.heap.size = q4 at h3
  generalize hA3 : A2.alloc (.cells #[.slice none 0 0] 27 (0, 0)) = A3 at h3 S3
  have h4 := Asn.perm [cel q4 (.slice none 0 0), cel q3 vb, cel q2 va, spans va a, spans vb b, J] [4, 3, 0, 1, 2, 5] h3 (by decide)
  obtain ⟨u2, hb2⟩ := cel_at (J := Asn.all [spans va a, spans vb b, cel q4 (.slice none 0 0), cel q3 vb, J]) (Asn.perm [cel q4 (.slice none 0 0), cel q3 vb, cel q2 va, spans va a, spans vb b, J] [2, 3, 4, 0, 1, 5] h3 (by decide))
  obtain ⟨u3, hb3⟩ := cel_at (J := Asn.all [spans va a, spans vb b, cel q4 (.slice none 0 0), cel q2 va, J]) (Asn.perm [cel q4 (.slice none 0 0), cel q3 vb, cel q2 va, spans va a, spans vb b, J] [1, 3, 4, 0, 2, 5] h3 (by decide))
  obtain ⟨v1, A4, F4, c4, h5, S4⟩ := not_call (n₀ := n₀) (n0 := 65536) (J := Asn.all [spans va a, cel q4 (.slice none 0 0), cel q3 vb, cel q2 va, J]) (Owns.sep Owns.spans (Owns.sep Owns.cel (Owns.sep Owns.cel (Owns.sep Owns.cel hJ)))) hmb h4
  have h6 := Asn.perm [spans v1 (notL b 65536), spans vb b, spans va a, cel q4 (.slice none 0 0), cel q3 vb, cel q2 va, J] [2, 0, 1, 3, 4, 5, 6] h5 (by decide)
  obtain ⟨u2', hb2'⟩ := cel_at (J := Asn.all [spans v1 (notL b 65536), spans vb b, spans va a, cel q4 (.slice none 0 0), cel q3 vb, J]) (Asn.perm [spans v1 (notL b 65536), spans vb b, spans va a, cel q4 (.slice none 0 0), cel q3 vb, cel q2 va, J] [5, 0, 1, 2, 3, 4, 6] h5 (by decide))
  obtain ⟨v2, A5, F5, c5, h7, S5⟩ := and_call (n₀ := n₀) (J := Asn.all [spans vb b, cel q4 (.slice none 0 0), cel q3 vb, cel q2 va, J]) (Owns.sep Owns.spans (Owns.sep Owns.cel (Owns.sep Owns.cel (Owns.sep Owns.cel hJ)))) hml h6
  have h8 := Asn.perm [spans v2 (andL a (notL b 65536)), spans va a, spans v1 (notL b 65536), spans vb b, cel q4 (.slice none 0 0), cel q3 vb, cel q2 va, J] [4, 0, 1, 3, 2, 5, 6, 7] h7 (by decide)
  have hov : isOne v2 = true := by
    obtain ⟨_, hk⟩ := Asn.left h7
    obtain ⟨_, rfl⟩ := spans_val hk
    rfl
  obtain ⟨h9, S9⟩ := Asn.put (Owns.sep Owns.spans (Owns.sep Owns.spans (Owns.sep Owns.spans (Owns.sep Owns.spans (Owns.sep Owns.cel (Owns.sep Owns.cel hJ)))))) h8 v2
  obtain ⟨u4, hb4⟩ := cel_at h9
  have h10 := Asn.perm [cel q4 v2, spans v2 (andL a (notL b 65536)), spans va a, spans vb b, spans v1 (notL b 65536), cel q3 vb, cel q2 va, J] [0, 4, 5, 6, 1, 2, 3, 7] h9 (by decide)
  obtain ⟨F11, h11, S11⟩ := Asn.drop h10
  obtain ⟨F12, h12, S12⟩ := Asn.drop h11
  obtain ⟨F13, h13, S13⟩ := Asn.drop h12
  obtain ⟨F14, h14, S14⟩ := Asn.drop h13
  suffices hw : wpF Try.prog n₀ 24 #[.agg #[va], .agg #[vb]] (fun r A' => r = .agg #[v2] ∧ A' = A5.setCell ⟨q4, 0, none⟩ v2) A by
    obtain ⟨r, A', h1, rfl, rfl⟩ := hw
    exact ⟨v2, _, F14, h1, h14, S1.trans (S2.trans (S3.trans (S4.trans (S5.trans (S9.trans (S11.trans (S12.trans (S13.trans S14))))))))⟩
  refine wpF_fn (ts := #[.agg #[va], .agg #[vb], undef, undef, undef, undef, undef, undef, undef]) good ⟨rfl, rfl, rfl⟩ (by kernel_rfl) ?_
  refine cw_seq good (cw_region good ?_)
  refine wpO_val (aop_boxT (v := .agg #[va]) (cs := #[va]) rfl (by kernel_rfl) rfl) ?_
  rw [hq2, hA1]
  simp only [Act.put, List.setIfInBounds_toArray, List.set_cons_succ, List.set_cons_zero]
  refine wpO_val (aop_boxT (v := .agg #[vb]) (cs := #[vb]) rfl (by kernel_rfl) rfl) ?_
  rw [hq3, hA2]
  simp only [Act.put, List.setIfInBounds_toArray, List.set_cons_succ, List.set_cons_zero]
  refine wpO_val (aop_allocT (cs := #[.slice none 0 0]) rfl rfl rfl rfl) ?_
  rw [hq4, hA3]
  simp only [Act.put, List.setIfInBounds_toArray, List.set_cons_succ, List.set_cons_zero]
  refine cw_seq good (ca_draw good [.agg #[va], .agg #[vb], .agg #[v1], .agg #[v2], undef] [A3, A3, A3, A4, A5, (A5.setCell ⟨q4, 0, none⟩ v2)] (by kernel_rfl) rfl ?_ ⟨#[.agg #[va], .agg #[vb], ptr q2, ptr q3, ptr q4, .agg #[va], .agg #[vb], .agg #[v1], .agg #[v2]], []⟩ _ (by kernel_rfl) rfl ?_)
  · intro jj o ho
    match jj, ho with
    | 0, ho => cases ho; exact sa_quiet rfl [2, 3] (all2 (aop_loadT (n := 1) (p := ⟨q2, 0, none⟩) (xs := #[va]) rfl (by kernel_rfl) rfl hb2 rfl (Nat.le_refl 1) rfl) (aop_loadT (n := 1) (p := ⟨q2, 0, none⟩) (xs := #[va]) rfl (by kernel_rfl) rfl hb2' rfl (Nat.le_refl 1) rfl)) rfl
    | 1, ho => cases ho; exact sa_quiet rfl [2] (all1 (aop_loadT (n := 1) (p := ⟨q3, 0, none⟩) (xs := #[vb]) rfl (by kernel_rfl) rfl hb3 rfl (Nat.le_refl 1) rfl)) rfl
    | 2, ho => cases ho; exact sa_acts rfl (run_named (f := 26) (l := [.agg #[vb], .int .i64 65536]) ⟨rfl, rfl, rfl⟩ c4 (by kernel_rfl) (by kernel_rfl))
    | 3, ho => cases ho; exact sa_acts rfl (run_named (f := 22) (l := [.agg #[va], .agg #[v1]]) ⟨rfl, rfl, rfl⟩ c5 (by kernel_rfl) (by kernel_rfl))
    | 4, ho => cases ho; exact sa_acts rfl ⟨_, _, aop_storeT1 (p := ⟨q4, 0, none⟩) (v := v2) rfl (by kernel_rfl) (by kernel_rfl) rfl hov (Asn.get h8) (Asn.soft h8), rfl, rfl⟩
    | n + 5, ho => simp at ho
  exact cw_ret good (ret_cell (t := 4) (u := 27) (b := q4) rfl (by kernel_rfl) rfl hb4 ⟨rfl, rfl⟩)
end Go.Proofs.Ytfkdkfleaiaoiaa
