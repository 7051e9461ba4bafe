/-
  slices.Clone of spans, Map.Runs. No condition.
-/
import Derived.Test.YtfkdkfleaiaoiaaM10
namespace Go.Proofs.Ytfkdkfleaiaoiaa
open Go.Abs
variable {n₀ : Nat}
set_option maxRecDepth 8000
/-- append([][2]int, m...). -/
theorem clone2_app {d : Nat} {m : List Sp} {J : Asn} {F : Foot} {A : World} (hJ : Owns J) (hml : m.length < 90000) (hne : 0 < m.length) (h : ((spans (.slice (some ⟨d, 0, none⟩) m.length m.length) m).sep J) F A) :
    ∃ d' A2 F2, (∀ (o : Oper) (c : Call) (ρ : Operand → Value), o.op = .call c → c.callee = .builtin .append → c.argTypes = #[25, 25] → c.args.toList.map ρ = [.slice (some ⟨A.heap.size, 0, none⟩) 0 0, .slice (some ⟨d, 0, none⟩) m.length m.length] → AOp Try.prog ρ o (A.alloc (.cells #[] 42 (0, 0))) (.value (.slice (some ⟨d', 0, none⟩) m.length m.length)) A2) ∧
      Asn.all [spans (.slice (some ⟨d', 0, none⟩) m.length m.length) m, spans (.slice (some ⟨d, 0, none⟩) m.length m.length) m, J] F2 A2 ∧ Step F A F2 A2 := by
  obtain ⟨F1, h1, S1⟩ := Asn.newO (Owns.sep Owns.spans hJ) h (.cells #[] 42 (0, 0))
  generalize hq : A.heap.size = q at h1
  generalize hA1 : A.alloc (.cells #[] 42 (0, 0)) = A1 at h1 S1
  obtain ⟨_, ks⟩ := Asn.left (Asn.swap h1)
  obtain ⟨p, ep, hsrc⟩ := src_cells ks
  obtain ⟨F3, h3, S3⟩ := Asn.newO (Owns.sep Owns.blk (Owns.sep Owns.spans hJ)) h1 (.cells (cells2 m) 42 (1, 0))
  obtain ⟨F4, h4, S4⟩ := Asn.drop (Asn.swap h3)
  refine ⟨A1.heap.size, _, F4, fun o c ρ ho hc ht ha => ?_, Asn.map h4 fun F hb => .inr ⟨hne, A1.heap.size, rfl, hb⟩, S1.trans (S3.trans S4)⟩
  obtain ⟨ie, z, H, hz0, hsz, hzc, hby⟩ := app_args ht
  refine .inr (.inr (.inl ⟨c, _, ho, hc, rfl, 42, ie, z, some ⟨q, 0, none⟩, 0, 0, _, m.length, H, map_list ha, by rw [hz0]; rfl,
    .inr ⟨by omega, Nat.le_refl _, by omega, by rw [hby]; decide, by rw [hzc, hsz], #[], cells2 m, ?_, ?_, by simp, by simp, by rw [cells2_size, hsz], cells2_one, .inl ⟨by simp, fun a h => by cases h; exact ⟨_, _, _, Asn.at h1, by simp, by simp⟩⟩⟩⟩))
  · rw [hsz]; simp [Builtin.firstCells, loadCells, loadCellsFrom]
  · rw [hz0, hsz]; simpa [appSrc] using hsrc
set_option maxHeartbeats 8000000 in
/-- slices.Clone, of spans. -/
theorem clone2_call {v : Value} {m : List Sp} {J : Asn} {F : Foot} {A : World} (hJ : Owns J) (hml : m.length < 90000) (h : ((spans v m).sep J) F A) :
    ∃ v' A' F', SndCall Try.prog n₀ 41 #[v] A v' A' ∧ Asn.all [spans v' m, spans v m, J] F' A' ∧ Step F A F' A' := by
  suffices hw : wpF Try.prog n₀ 41 #[v] (fun v' A' => ∃ F', Asn.all [spans v' m, spans v m, J] F' A' ∧ Step F A F' A') A by
    obtain ⟨v', A', h1, F', h2, h3⟩ := hw
    exact ⟨v', A', F', h1, h2, h3⟩
  have hs : (m.length = 0 ∧ v = .slice none 0 0) ∨ (0 < m.length ∧ ∃ d, v = .slice (some ⟨d, 0, none⟩) m.length m.length) := by
    obtain ⟨_, _, h1, _⟩ := h
    rcases h1 with ⟨a, b, _⟩ | ⟨a, d, b, _⟩
    · exact .inl ⟨a, b⟩
    · exact .inr ⟨a, d, b⟩
  rcases hs with ⟨hm, rfl⟩ | ⟨hm, d, rfl⟩
  case inl =>
    refine wpF_fn (ts := #[.slice none 0 0, undef, undef, undef, undef, undef, undef, undef]) good ⟨rfl, rfl, rfl⟩ (by kernel_rfl) ?_
    refine cw_seq good (cw_region good ?_)
    refine wpO_as (.slice none 0 0) (by kernel_rfl) ?_
    simp only [Act.put, List.setIfInBounds_toArray, List.set_cons_succ, List.set_cons_zero]
    refine cw_seq good (cw_seq good (cw_region good ?_))
    refine wpO_mv (.slice none 0 0) (by kernel_rfl) ?_
    refine wpO_val (aop_eqNil (v := .slice none 0 0) (w := .slice none 0 0) (b := true) rfl (by kernel_rfl) (by kernel_rfl) rfl rfl) ?_
    simp only [Act.put, List.setIfInBounds_toArray, List.set_cons_succ, List.set_cons_zero]
    refine cw_cond good true (by kernel_rfl) ?_
    refine cw_seq good (cw_region good ?_)
    refine wpO_as (.slice none 0 0) (by kernel_rfl) ?_
    simp only [Act.put, List.setIfInBounds_toArray, List.set_cons_succ, List.set_cons_zero]
    refine cw_ret good (ret_one (.slice none 0 0) (by kernel_rfl) ⟨F, ⟨fun _ => False, F, .inl ⟨hm, rfl, fun _ h => h⟩, h, fun _ h => h.elim, fun b => by simp⟩, .refl⟩)
  case inr =>
    obtain ⟨d', A2, F2, ap, h2, S2⟩ := clone2_app hJ hml hm h
    refine wpF_fn (ts := #[.slice (some ⟨d, 0, none⟩) m.length m.length, undef, undef, undef, undef, undef, undef, undef]) good ⟨rfl, rfl, rfl⟩ (by kernel_rfl) ?_
    refine cw_seq good (cw_region good ?_)
    refine wpO_as (.slice none 0 0) (by kernel_rfl) ?_
    simp only [Act.put, List.setIfInBounds_toArray, List.set_cons_succ, List.set_cons_zero]
    refine cw_seq good (cw_seq good (cw_region good ?_))
    refine wpO_mv (.slice (some ⟨d, 0, none⟩) m.length m.length) (by kernel_rfl) ?_
    refine wpO_val (aop_eqNil (v := .slice (some ⟨d, 0, none⟩) m.length m.length) (w := .slice none 0 0) (b := false) rfl (by kernel_rfl) (by kernel_rfl) rfl rfl) ?_
    simp only [Act.put, List.setIfInBounds_toArray, List.set_cons_succ, List.set_cons_zero]
    refine cw_cond good false (by kernel_rfl) (cw_skip good ?_)
    refine cw_seq good (cw_region good ?_)
    refine wpO_val (aop_sliceT0 (e := 42) (n := 2) (g := true) rfl rfl rfl) ?_
    refine wpO_mv (.slice (some ⟨d, 0, none⟩) m.length m.length) (by kernel_rfl) ?_
    simp only [Act.put, List.setIfInBounds_toArray, List.set_cons_succ, List.set_cons_zero]
    refine wpO_val (ap _ _ _ rfl rfl rfl (by kernel_rfl)) ?_
    simp only [Act.put, List.setIfInBounds_toArray, List.set_cons_succ, List.set_cons_zero]
    refine wpO_as (.slice (some ⟨d', 0, none⟩) m.length m.length) (by kernel_rfl) ?_
    simp only [Act.put, List.setIfInBounds_toArray, List.set_cons_succ, List.set_cons_zero]
    exact cw_ret good (ret_one (.slice (some ⟨d', 0, none⟩) m.length m.length) (by kernel_rfl) ⟨F2, h2, S2⟩)
set_option maxHeartbeats 8000000 in
/-- Map.Runs. -/
theorem runs_call {v : Value} {m : List Sp} {J : Asn} {F : Foot} {A : World} (hJ : Owns J) (hml : m.length < 90000) (h : ((spans v m).sep J) F A) :
    ∃ v' A' F', SndCall Try.prog n₀ 29 #[.agg #[v]] A v' A' ∧ Asn.all [spans v' m, spans v m, J] F' A' ∧ Step F A F' A' := by
  obtain ⟨F1, h1, S1⟩ := Asn.new (Owns.sep Owns.spans hJ) h v 27
  generalize hq1 : A.heap.size = q1 at h1
  generalize hA1 : A.alloc (.cells #[v] 27 (0, 0)) = A1 at h1 S1
  have g1 : A1.cell? ⟨q1, 0, none⟩ = some v := Asn.get h1
  obtain ⟨F2, h2, S2⟩ := Asn.drop h1
  obtain ⟨v', A3, F3, c3, h3, S3⟩ := clone2_call (n₀ := n₀) hJ hml h2
  suffices hw : wpF Try.prog n₀ 29 #[.agg #[v]] (fun r A' => r = v' ∧ A' = A3) A by
    obtain ⟨r, A', h1, rfl, rfl⟩ := hw
    exact ⟨_, _, F3, h1, h3, S1.trans (S2.trans S3)⟩
  refine wpF_fn (ts := #[.agg #[v], undef, undef, undef, undef, undef]) good ⟨rfl, rfl, rfl⟩ (by kernel_rfl) ?_
  refine cw_seq good (cw_region good ?_)
  refine wpO_val (aop_boxT (v := .agg #[v]) (cs := #[v]) rfl (by kernel_rfl) rfl) ?_
  rw [hq1, hA1]
  simp only [Act.put, List.setIfInBounds_toArray, List.set_cons_succ, List.set_cons_zero]
  refine wpO_as (.slice none 0 0) (by kernel_rfl) ?_
  simp only [Act.put, List.setIfInBounds_toArray, List.set_cons_succ, List.set_cons_zero]
  refine cw_seq good (cw_region good ?_)
  refine wpO_val (aop_field0 (p := (⟨q1, 0, none⟩ : Addr)) (n := 1) (g := false) rfl (by kernel_rfl) rfl rfl rfl (by decide) (by decide) rfl) ?_
  refine wpO_val (aop_load (v := v) rfl (by kernel_rfl) rfl g1) ?_
  simp only [Act.put, List.setIfInBounds_toArray, List.set_cons_succ, List.set_cons_zero]
  refine wpO_call (f := 41) (first := #[]) (cap := #[]) (l := [v]) (xs := #[v]) ⟨rfl, rfl, rfl⟩ rfl (by kernel_rfl) rfl ⟨_, _, c3, ?_⟩
  simp only [Act.put, List.setIfInBounds_toArray, List.set_cons_succ, List.set_cons_zero]
  refine wpO_as (v') (by kernel_rfl) ?_
  simp only [Act.put, List.setIfInBounds_toArray, List.set_cons_succ, List.set_cons_zero]
  exact cw_ret good (ret_one v' (by kernel_rfl) ⟨rfl, rfl⟩)
end Go.Proofs.Ytfkdkfleaiaoiaa
/-
  asterismlaw7.BitmapRuns answers true. No condition.
-/
namespace Go.Proofs.Ytfkdkfleaiaoiaa
open Go.Abs
variable {n₀ : Nat}
set_option maxRecDepth 8000
theorem pair_at {A : World} {d k : Nat} {m : List Sp} {t : TypeId} {fz : Nat × Nat} {s : Sp} (hb : A.heap[d]? = some (.cells (cells2 m) t fz)) (hs : m[k]? = some s) : A.cell? (((⟨d, 0, none⟩ : Addr).add (k * 2)).add (0 * 1)) = some (.int .i64 s.1) ∧ A.cell? (((⟨d, 0, none⟩ : Addr).add (k * 2)).add (1 * 1)) = some (.int .i64 s.2) := by
  obtain ⟨h1, h2⟩ := cells2_at hs
  refine ⟨?_, ?_⟩
  · rw [add_at2, show (⟨d, k * 2, none⟩ : Addr).add (0 * 1) = ⟨d, k * 2, none⟩ from rfl]
    simp only [World.cell?, hb]; exact h1
  · rw [add_at2, add_at1]
    simp only [World.cell?, hb]; exact h2
theorem wf_next {lo : Int} {m : List Sp} (h : WF lo m) : ∀ {k : Nat} {s u : Sp}, m[k]? = some s → m[k + 1]? = some u → s.2 < u.1 := by
  induction h with
  | nil => intro k s u e; simp at e
  | @cons lo f t m h1 h2 h3 h ih =>
    intro k s u e e'
    cases k with
    | zero =>
      cases e
      have : m[0]? = some u := by simpa using e'
      cases h with
      | nil => simp at this
      | cons g1 _ _ _ => simp at this; subst this; exact g1
    | succ k => exact ih (by simpa using e) (by simpa using e')
theorem has_take {m : List Sp} {k : Nat} {f t : Int} (h : m[k]? = some (f, t)) (i : Int) : has (m.take (k + 1)) i = (has (m.take k) i || (decide (f ≤ i) && decide (i < t))) := by
  obtain ⟨hk, e⟩ := List.getElem?_eq_some_iff.1 h
  rw [List.take_succ_eq_append_getElem hk, has_append, e, has_one]
/-- A list of pairs that may be read. -/
def Pairs (A : World) (p : Option Addr) (l : List Sp) : Prop := l ≠ [] → p = some ⟨0, 0, none⟩ ∧ ∃ n, A.heap[0]? = some (.cells (cells2 l) 42 (0, n + 1))
theorem Pairs.at {F F' : Foot} {A A' : World} {p : Option Addr} {l : List Sp} (h : Pairs A p l) (S : Step F A F' A') {k : Nat} {s : Sp} (hs : l[k]? = some s) : p = some ⟨0, 0, none⟩ ∧ ∃ n, A'.heap[0]? = some (.cells (cells2 l) 42 (0, n + 1)) := by
  obtain ⟨h1, n, h2⟩ := h (fun e => by subst e; simp at hs)
  exact ⟨h1, n, (S.ro 0 ⟨_, _, n + 1, h2, Nat.succ_pos _⟩).trans h2⟩
noncomputable def c8 : Code := match Try.prog.funcs[8]? with
  | some fn => (match fn.body with | some c => c | none => .skip)
  | none => .skip
set_option maxHeartbeats 32000000 in
/-- BitmapRuns, from where its set is made. -/
theorem runs_rest {p : Option Addr} {l : List Sp} {c q4 : Nat} {v : Value} {m : List Sp} {F : Foot} {A : World} (hwf : WF (-1) m) (h : Asn.all [cel q4 v, spans v m, Asn.nil] F A) (zz : Nat → Value) :
    wpC Try.prog n₀ none (rgts 5 c8) (retQ Try.prog Try.f8 (fun r _ => r = .bool true)) ⟨#[.slice p l.length c, undef, .bool false, .bool true, ptr q4, (zz 5), (zz 6), (zz 7), (zz 8), .bool true, .bool true, .bool false, (zz 12), (zz 13), (zz 14), (zz 15), (zz 16), (zz 17), (zz 18), (zz 19), (zz 20), (zz 21), (zz 22), (zz 23), (zz 24), (zz 25), (zz 26), (zz 27), (zz 28), (zz 29), (zz 30), (zz 31), (zz 32), (zz 33), (zz 34), (zz 35), (zz 36), (zz 37), (zz 38), (zz 39), (zz 40), (zz 41), (zz 42), (zz 43), (zz 44), (zz 45), (zz 46), (zz 47), (zz 48), (zz 49), (zz 50), (zz 51), (zz 52), (zz 53), (zz 54), (zz 55), (zz 56), (zz 57), (zz 58), (zz 59), (zz 60), (zz 61), (zz 62), (zz 63), (zz 64), (zz 65), (zz 66), (zz 67), (zz 68), (zz 69), (zz 70), (zz 71), (zz 72), (zz 73), (zz 74), (zz 75), (zz 76), (zz 77), (zz 78), (zz 79), (zz 80), (zz 81), (zz 82), (zz 83), (zz 84), (zz 85), (zz 86), (zz 87), (zz 88), (zz 89), (zz 90), (zz 91), (zz 92), (zz 93), (zz 94), (zz 95), (zz 96), (zz 97), (zz 98), (zz 99), (zz 100), (zz 101), (zz 102), (zz 103)], []⟩ A := by
  have hml := wf_short hwf
  obtain ⟨F21, hh21, _⟩ := Asn.new (Owns.sep Owns.cel (Owns.sep Owns.spans Owns.nil)) h (.slice none 0 0) 27
  have al21 : (A.alloc (.cells #[.slice none 0 0] 27 (0, 0))).heap[A.heap.size]? = some (.cells #[.slice none 0 0] 27 (0, 0)) := alloc_at
  generalize hq6 : A.heap.size = q6 at hh21 al21
  generalize hA21 : A.alloc (.cells #[.slice none 0 0] 27 (0, 0)) = A21 at hh21 al21
  have hh22 := Asn.perm [cel q6 (.slice none 0 0), cel q4 v, spans v m, Asn.nil] [1, 0, 2, 3] hh21 (by decide)
  obtain ⟨u23, hb23⟩ := cel_at hh22
  have hh24 := Asn.perm [cel q4 v, cel q6 (.slice none 0 0), spans v m, Asn.nil] [2, 0, 1, 3] hh22 (by decide)
  obtain ⟨vr, A25, F25, cr, hh25, _⟩ := runs_call (n₀ := n₀) (J := Asn.all [cel q4 v, cel q6 (.slice none 0 0), Asn.nil]) (Owns.sep Owns.cel (Owns.sep Owns.cel Owns.nil)) (by omega) hh24
  obtain ⟨_, kr⟩ := Asn.left hh25
  obtain ⟨pr, rfl⟩ := spans_val kr
  have hh26 := Asn.perm [spans (.slice pr m.length m.length) m, spans v m, cel q4 v, cel q6 (.slice none 0 0), Asn.nil] [3, 0, 2, 1, 4] hh25 (by decide)
  have hh27 : Asn.all [cel q6 (.slice none 0 0), spans (.slice none 0 0) [], spans (.slice pr m.length m.length) m, cel q4 v, spans v m, Asn.nil] F25 A25 := Asn.perm [spans (.slice none 0 0) [], cel q6 (.slice none 0 0), spans (.slice pr m.length m.length) m, cel q4 v, spans v m, Asn.nil] [1, 0, 2, 3, 4, 5] ⟨fun _ => False, _, .inl ⟨rfl, rfl, fun _ h => h⟩, hh26, fun _ h => h.elim, fun b => by simp⟩ (by decide)
  refine cw_seq good (cw_region good ?_)
  refine wpO_val (aop_allocT (cs := #[.slice none 0 0]) rfl rfl rfl rfl) ?_
  rw [hq6, hA21]
  simp only [Act.put, List.setIfInBounds_toArray, List.set_cons_succ, List.set_cons_zero]
  refine cw_seq good (cw_region good ?_)
  refine wpO_val (aop_loadT (n := 1) (p := ⟨q4, 0, none⟩) (xs := #[v]) rfl (by kernel_rfl) rfl hb23 rfl (Nat.le_refl 1) rfl) ?_
  simp only [Act.put, List.setIfInBounds_toArray, List.set_cons_succ, List.set_cons_zero]
  refine wpO_call (f := 29) (first := #[]) (cap := #[]) (l := [.agg #[v]]) (xs := #[.agg #[v]]) ⟨rfl, rfl, rfl⟩ rfl (by kernel_rfl) rfl ⟨_, _, cr, ?_⟩
  simp only [Act.put, List.setIfInBounds_toArray, List.set_cons_succ, List.set_cons_zero]
  refine wpO_as (.slice pr m.length m.length) (by kernel_rfl) ?_
  simp only [Act.put, List.setIfInBounds_toArray, List.set_cons_succ, List.set_cons_zero]
  refine cw_seq good (cw_seq good (cw_region good ?_))
  refine wpO_as (.int .i64 (0 : Nat)) (by kernel_rfl) ?_
  simp only [Act.put, List.setIfInBounds_toArray, List.set_cons_succ, List.set_cons_zero]
  refine cw_block good (cw_loop good ?_)
  refine wpL_ind (fun nn e A' => ∃ (k : Nat) (vn : Value) (F' : Foot) (zz : Nat → Value), nn = m.length - k ∧ k ≤ m.length ∧ Asn.all [cel q6 vn, spans vn (m.take k), spans (.slice pr m.length m.length) m, cel q4 v, spans v m, Asn.nil] F' A' ∧ e = ⟨#[.slice p l.length c, undef, .bool false, .bool true, ptr q4, (zz 5), ptr q6, .slice pr m.length m.length, .int .i64 k, .bool true, .bool true, .bool false, (zz 12), (zz 13), (zz 14), (zz 15), (zz 16), (zz 17), (zz 18), (zz 19), (zz 20), (zz 21), (zz 22), (zz 23), (zz 24), (zz 25), (zz 26), (zz 27), (zz 28), (zz 29), (zz 30), (zz 31), (zz 32), (zz 33), (zz 34), (zz 35), (zz 36), (zz 37), (zz 38), (zz 39), (zz 40), (zz 41), (zz 42), (zz 43), (zz 44), (zz 45), (zz 46), (zz 47), (zz 48), (zz 49), (zz 50), (zz 51), (zz 52), (zz 53), (zz 54), (zz 55), (zz 56), (zz 57), (zz 58), (zz 59), (zz 60), (zz 61), (zz 62), (zz 63), (zz 64), (zz 65), (zz 66), (zz 67), (zz 68), (zz 69), (zz 70), (zz 71), (zz 72), (zz 73), (zz 74), (zz 75), (zz 76), (zz 77), (zz 78), (zz 79), (zz 80), (zz 81), (zz 82), (zz 83), (zz 84), (zz 85), (zz 86), (zz 87), (zz 88), (zz 89), (zz 90), (zz 91), (zz 92), (zz 93), (zz 94), (zz 95), (zz 96), (zz 97), (zz 98), (zz 99), (zz 100), (zz 101), (zz 102), (zz 103)], []⟩) ?_ m.length _ _ ⟨0, .slice none 0 0, F25, (fun ix => (⟨#[.slice p l.length c, undef, .bool false, .bool true, ptr q4, (zz 5), ptr q6, .slice pr m.length m.length, .int .i64 (0 : Nat), .bool true, .bool true, .bool false, (zz 12), (zz 13), (zz 14), (zz 15), (zz 16), (zz 17), (zz 18), (zz 19), (zz 20), (zz 21), (zz 22), (zz 23), (zz 24), (zz 25), (zz 26), (zz 27), (zz 28), (zz 29), (zz 30), (zz 31), (zz 32), (zz 33), (zz 34), .agg #[v], .slice pr m.length m.length, (zz 37), (zz 38), (zz 39), (zz 40), (zz 41), (zz 42), (zz 43), (zz 44), (zz 45), (zz 46), (zz 47), (zz 48), (zz 49), (zz 50), (zz 51), (zz 52), (zz 53), (zz 54), (zz 55), (zz 56), (zz 57), (zz 58), (zz 59), (zz 60), (zz 61), (zz 62), (zz 63), (zz 64), (zz 65), (zz 66), (zz 67), (zz 68), (zz 69), (zz 70), (zz 71), (zz 72), (zz 73), (zz 74), (zz 75), (zz 76), (zz 77), (zz 78), (zz 79), (zz 80), (zz 81), (zz 82), (zz 83), (zz 84), (zz 85), (zz 86), (zz 87), (zz 88), (zz 89), (zz 90), (zz 91), (zz 92), (zz 93), (zz 94), (zz 95), (zz 96), (zz 97), (zz 98), (zz 99), (zz 100), (zz 101), (zz 102), (zz 103)], []⟩ : Act).tmps.getD ix undef), rfl, by omega, hh27, by kernel_rfl⟩
  rintro nn _ A' ⟨k, vn, F', zz, rfl, hk, h, rfl⟩
  by_cases hlt : k < m.length
  case neg =>
    obtain rfl : k = m.length := by omega
    rw [List.take_length] at h
    have hh41 := Asn.perm [cel q6 vn, spans vn m, spans (.slice pr m.length m.length) m, cel q4 v, spans v m, Asn.nil] [3, 0, 1, 2, 4, 5] h (by decide)
    obtain ⟨u42, hb42⟩ := cel_at hh41
    have hh43 := Asn.perm [cel q4 v, cel q6 vn, spans vn m, spans (.slice pr m.length m.length) m, spans v m, Asn.nil] [1, 0, 2, 3, 4, 5] hh41 (by decide)
    obtain ⟨u44, hb44⟩ := cel_at hh43
    have hh45 := Asn.perm [cel q6 vn, cel q4 v, spans vn m, spans (.slice pr m.length m.length) m, spans v m, Asn.nil] [4, 2, 0, 1, 3, 5] hh43 (by decide)
    obtain ⟨A46, F46, c46, hh46, _⟩ := same_is (n₀ := n₀) (J := Asn.all [cel q6 vn, cel q4 v, spans (.slice pr m.length m.length) m, Asn.nil]) (Owns.sep Owns.cel (Owns.sep Owns.cel (Owns.sep Owns.spans Owns.nil))) hwf hwf hh45
    rw [decide_eq_true rfl] at c46
    refine cw_seq good (cw_seq good (cw_region good ?_))
    refine wpO_mv (.int .i64 m.length) (by kernel_rfl) ?_
    refine wpO_mv (.slice pr m.length m.length) (by kernel_rfl) ?_
    refine wpO_val (aop_lenV (b := pr) (len := m.length) (cap := m.length) rfl rfl rfl rfl (by kernel_rfl) rfl) ?_
    simp only [Act.put, List.setIfInBounds_toArray, List.set_cons_succ, List.set_cons_zero]
    refine wpO_val (aop_int (k := .i64) (m := m.length) (n := m.length) (v := .bool false) rfl (by kernel_rfl) (by kernel_rfl) (by simp [intV] <;> omega)) ?_
    simp only [Act.put, List.setIfInBounds_toArray, List.set_cons_succ, List.set_cons_zero]
    refine cw_cond good false (by kernel_rfl) (cw_exit good ?_)
    refine cw_seq good (cw_region good ?_)
    refine wpO_val (aop_loadT (n := 1) (p := ⟨q4, 0, none⟩) (xs := #[v]) rfl (by kernel_rfl) rfl hb42 rfl (Nat.le_refl 1) rfl) ?_
    simp only [Act.put, List.setIfInBounds_toArray, List.set_cons_succ, List.set_cons_zero]
    refine wpO_val (aop_loadT (n := 1) (p := ⟨q6, 0, none⟩) (xs := #[vn]) rfl (by kernel_rfl) rfl hb44 rfl (Nat.le_refl 1) rfl) ?_
    simp only [Act.put, List.setIfInBounds_toArray, List.set_cons_succ, List.set_cons_zero]
    refine wpO_call (f := 25) (first := #[]) (cap := #[]) (l := [.agg #[v], .agg #[vn]]) (xs := #[.agg #[v], .agg #[vn]]) ⟨rfl, rfl, rfl⟩ rfl (by kernel_rfl) rfl ⟨_, _, c46, ?_⟩
    simp only [Act.put, List.setIfInBounds_toArray, List.set_cons_succ, List.set_cons_zero]
    refine wpO_as (.bool true) (by kernel_rfl) ?_
    simp only [Act.put, List.setIfInBounds_toArray, List.set_cons_succ, List.set_cons_zero]
    exact cw_ret good (ret_one (.bool true) (by kernel_rfl) rfl)
  obtain ⟨s, hs⟩ : ∃ s, m[k]? = some s := ⟨_, List.getElem?_eq_getElem hlt⟩
  obtain ⟨f, t⟩ := s
  have hft := wf_at hwf hs
  have hh61 := Asn.perm [cel q6 vn, spans vn (m.take k), spans (.slice pr m.length m.length) m, cel q4 v, spans v m, Asn.nil] [2, 0, 1, 3, 4, 5] h (by decide)
  obtain ⟨_, k4⟩ := Asn.left hh61
  obtain ⟨d, e, hd⟩ := spans_get k4 hs
  injection e with e1 _ _
  subst e1
  obtain ⟨gf, gt⟩ := pair_at hd hs
  have hwt := wf_take hwf k
  have hh82 := Asn.perm [spans (.slice (some ⟨d, 0, none⟩) m.length m.length) m, cel q6 vn, spans vn (m.take k), cel q4 v, spans v m, Asn.nil] [1, 0, 2, 3, 4, 5] hh61 (by decide)
  obtain ⟨u83, hb83⟩ := cel_at hh82
  obtain ⟨v81, A81, F81, c81, hh81, S81⟩ := span_call (n₀ := n₀) (J := Asn.all [cel q6 vn, spans (.slice (some ⟨d, 0, none⟩) m.length m.length) m, spans vn (m.take k), cel q4 v, spans v m, Asn.nil]) (from_ := f) (to_ := t) (Owns.sep Owns.cel (Owns.sep Owns.spans (Owns.sep Owns.spans (Owns.sep Owns.cel (Owns.sep Owns.spans Owns.nil))))) hh82
  obtain ⟨m81, hm81⟩ : ∃ m1, m1 = addSp [] (if f < 0 then 0 else f) (if (65536 : Int) < t then 65536 else t) := ⟨_, rfl⟩
  rw [← hm81] at hh81
  have w81 : WF (-1) m81 := by rw [hm81]; exact wf_add .nil (by split <;> omega) (by split <;> omega)
  have hh84 := Asn.perm [spans v81 m81, cel q6 vn, spans (.slice (some ⟨d, 0, none⟩) m.length m.length) m, spans vn (m.take k), cel q4 v, spans v m, Asn.nil] [1, 0, 2, 3, 4, 5, 6] hh81 (by decide)
  obtain ⟨u85, hb85⟩ := cel_at hh84
  have hh86 := Asn.perm [cel q6 vn, spans v81 m81, spans (.slice (some ⟨d, 0, none⟩) m.length m.length) m, spans vn (m.take k), cel q4 v, spans v m, Asn.nil] [3, 1, 0, 2, 4, 5, 6] hh84 (by decide)
  obtain ⟨v87, m87, A87, F87, w87, e87, c87, hh87, S87⟩ := or_is (n₀ := n₀) (J := Asn.all [cel q6 vn, spans (.slice (some ⟨d, 0, none⟩) m.length m.length) m, cel q4 v, spans v m, Asn.nil]) (Owns.sep Owns.cel (Owns.sep Owns.spans (Owns.sep Owns.cel (Owns.sep Owns.spans Owns.nil)))) hwt w81 hh86
  have o89 := spans_one hh87
  have hh90 := Asn.perm [spans v87 m87, spans vn (m.take k), spans v81 m81, cel q6 vn, spans (.slice (some ⟨d, 0, none⟩) m.length m.length) m, cel q4 v, spans v m, Asn.nil] [3, 0, 1, 2, 4, 5, 6, 7] hh87 (by decide)
  obtain ⟨hh91, S91⟩ := Asn.put (Owns.sep Owns.spans (Owns.sep Owns.spans (Owns.sep Owns.spans (Owns.sep Owns.spans (Owns.sep Owns.cel (Owns.sep Owns.spans Owns.nil)))))) hh90 v87
  generalize hA91 : A87.setCell ⟨q6, 0, none⟩ v87 = A91 at hh91 S91
  have hh92 := Asn.perm [cel q6 v87, spans v87 m87, spans vn (m.take k), spans v81 m81, spans (.slice (some ⟨d, 0, none⟩) m.length m.length) m, cel q4 v, spans v m, Asn.nil] [2, 3, 0, 1, 4, 5, 6, 7] hh91 (by decide)
  obtain ⟨F93, hh93, S93⟩ := Asn.drop hh92
  obtain ⟨F94, hh94, S94⟩ := Asn.drop hh93
  have hsp : ∀ i, has m81 i = (decide (f ≤ i) && decide (i < t)) := fun i => by
    rw [hm81, if_neg (by omega), if_neg (by omega), has_add (lo := -1) .nil (show lst [] ≤ f from by show (-1 : Int) ≤ f; omega)]; rfl
  have hes : m87 = m.take (k + 1) := wf_same w87 (wf_take hwf (k + 1)) fun i => by rw [e87, has_take hs, hsp]
  subst hes
  refine cw_seq good (cw_seq good (cw_region good ?_))
  refine wpO_mv (.int .i64 k) (by kernel_rfl) ?_
  refine wpO_mv (.slice (some ⟨d, 0, none⟩) m.length m.length) (by kernel_rfl) ?_
  refine wpO_val (aop_lenV (b := (some ⟨d, 0, none⟩)) (len := m.length) (cap := m.length) rfl rfl rfl rfl (by kernel_rfl) rfl) ?_
  simp only [Act.put, List.setIfInBounds_toArray, List.set_cons_succ, List.set_cons_zero]
  refine wpO_val (aop_int (k := .i64) (m := k) (n := m.length) (v := .bool true) rfl (by kernel_rfl) (by kernel_rfl) (by simp [intV] <;> omega)) ?_
  simp only [Act.put, List.setIfInBounds_toArray, List.set_cons_succ, List.set_cons_zero]
  refine cw_cond good true (by kernel_rfl) (cw_skip good ?_)
  by_cases hk0 : 0 < k
  · obtain ⟨j, hj⟩ : ∃ j, j = k - 1 := ⟨_, rfl⟩
    obtain ⟨s', hs'⟩ : ∃ s, m[j]? = some s := ⟨_, List.getElem?_eq_getElem (by omega)⟩
    have hnx := wf_next hwf hs' (show m[j + 1]? = some (f, t) by rw [show j + 1 = k by omega]; exact hs)
    obtain ⟨f', t'⟩ := s'
    simp only at hnx
    obtain ⟨_, gt'⟩ := pair_at hd hs'
    refine cw_seq good (cw_block good (cw_seq good (cw_seq good (ca_draw good [.slice (some ⟨d, 0, none⟩) m.length m.length, .int .i64 k, .pointer (some ((⟨d, 0, none⟩ : Addr).add (k * 2))), .pointer (some (((⟨d, 0, none⟩ : Addr).add (k * 2)).add (0 * 1))), .int .i64 f, .slice (some ⟨d, 0, none⟩) m.length m.length, .int .i64 k, .pointer (some ((⟨d, 0, none⟩ : Addr).add (k * 2))), .pointer (some (((⟨d, 0, none⟩ : Addr).add (k * 2)).add (1 * 1))), .int .i64 t, .bool false, .bool false, .slice (some ⟨d, 0, none⟩) m.length m.length, .int .i64 k, .pointer (some ((⟨d, 0, none⟩ : Addr).add (k * 2))), .pointer (some (((⟨d, 0, none⟩ : Addr).add (k * 2)).add (0 * 1))), .int .i64 f, .bool false, .bool false, .bool false, .slice (some ⟨d, 0, none⟩) m.length m.length, .int .i64 k, .pointer (some ((⟨d, 0, none⟩ : Addr).add (k * 2))), .pointer (some (((⟨d, 0, none⟩ : Addr).add (k * 2)).add (1 * 1))), .int .i64 t, .bool false, .bool false, .bool false, .int .i64 k, .bool true, .bool true, .slice (some ⟨d, 0, none⟩) m.length m.length, .int .i64 k, .pointer (some ((⟨d, 0, none⟩ : Addr).add (k * 2))), .pointer (some (((⟨d, 0, none⟩ : Addr).add (k * 2)).add (0 * 1))), .int .i64 f, .slice (some ⟨d, 0, none⟩) m.length m.length, .int .i64 k, .int .i64 j, .pointer (some ((⟨d, 0, none⟩ : Addr).add (j * 2))), .pointer (some (((⟨d, 0, none⟩ : Addr).add (j * 2)).add (1 * 1))), .int .i64 t', .bool false, .bool false, .bool false] [A', A', A', A', A', A', A', A', A', A', A', A', A', A', A', A', A', A', A', A', A', A', A', A', A', A', A', A', A', A', A', A', A', A', A', A', A', A', A', A', A', A', A', A', A', A'] (by kernel_rfl) rfl ?_ ⟨#[.slice p l.length c, undef, .bool false, .bool true, ptr q4, (zz 5), ptr q6, .slice (some ⟨d, 0, none⟩) m.length m.length, .int .i64 k, .bool true, .bool true, .bool false, (zz 12), (zz 13), (zz 14), (zz 15), (zz 16), (zz 17), (zz 18), (zz 19), (zz 20), (zz 21), (zz 22), (zz 23), (zz 24), (zz 25), (zz 26), (zz 27), (zz 28), (zz 29), (zz 30), (zz 31), (zz 32), (zz 33), (zz 34), (zz 35), (zz 36), .int .i64 k, .slice (some ⟨d, 0, none⟩) m.length m.length, .int .i64 m.length, .bool true, (zz 41), (zz 42), .slice (some ⟨d, 0, none⟩) m.length m.length, .int .i64 k, .pointer (some ((⟨d, 0, none⟩ : Addr).add (k * 2))), .pointer (some (((⟨d, 0, none⟩ : Addr).add (k * 2)).add (0 * 1))), .int .i64 f, .slice (some ⟨d, 0, none⟩) m.length m.length, .int .i64 k, .pointer (some ((⟨d, 0, none⟩ : Addr).add (k * 2))), .pointer (some (((⟨d, 0, none⟩ : Addr).add (k * 2)).add (1 * 1))), .int .i64 t, .bool false, .bool false, .slice (some ⟨d, 0, none⟩) m.length m.length, .int .i64 k, .pointer (some ((⟨d, 0, none⟩ : Addr).add (k * 2))), .pointer (some (((⟨d, 0, none⟩ : Addr).add (k * 2)).add (0 * 1))), .int .i64 f, .bool false, .bool false, .bool false, .slice (some ⟨d, 0, none⟩) m.length m.length, .int .i64 k, .pointer (some ((⟨d, 0, none⟩ : Addr).add (k * 2))), .pointer (some (((⟨d, 0, none⟩ : Addr).add (k * 2)).add (1 * 1))), .int .i64 t, .bool false, .bool false, .bool false, .int .i64 k, .bool true, .bool true, .slice (some ⟨d, 0, none⟩) m.length m.length, .int .i64 k, .pointer (some ((⟨d, 0, none⟩ : Addr).add (k * 2))), .pointer (some (((⟨d, 0, none⟩ : Addr).add (k * 2)).add (0 * 1))), .int .i64 f, .slice (some ⟨d, 0, none⟩) m.length m.length, .int .i64 k, .int .i64 j, .pointer (some ((⟨d, 0, none⟩ : Addr).add (j * 2))), .pointer (some (((⟨d, 0, none⟩ : Addr).add (j * 2)).add (1 * 1))), .int .i64 t', .bool false, .bool false, .bool false, (zz 88), (zz 89), (zz 90), (zz 91), (zz 92), (zz 93), (zz 94), (zz 95), (zz 96), (zz 97), (zz 98), (zz 99), (zz 100), (zz 101), (zz 102), (zz 103)], []⟩ _ (by kernel_rfl) rfl ?_))))
    · intro jj o ho
      match jj, ho with
      | 0, ho => cases ho; exact sa_quiet rfl [45] (all1 (aop_mv rfl (by kernel_rfl))) rfl
      | 1, ho => cases ho; exact sa_quiet rfl [45] (all1 (aop_mv rfl (by kernel_rfl))) rfl
      | 2, ho => cases ho; exact sa_quiet rfl [45] (all1 (aop_indexT (k := .i64) (len := m.length) (cap := m.length) (i := k) (p := ⟨d, 0, none⟩) (n := 2) (g := true) rfl (by kernel_rfl) (by kernel_rfl) rfl rfl hlt)) rfl
      | 3, ho => cases ho; exact sa_quiet rfl [45] (all1 (aop_indexA (k := .i64) (len := 2) (i := 0) (p := ((⟨d, 0, none⟩ : Addr).add (k * 2))) (n := 1) (g := false) rfl (by kernel_rfl) (by kernel_rfl) rfl rfl (by decide))) rfl
      | 4, ho => cases ho; exact sa_quiet rfl [45] (all1 (aop_load (p := ((⟨d, 0, none⟩ : Addr).add (k * 2)).add (0 * 1)) rfl (by kernel_rfl) rfl gf)) rfl
      | 5, ho => cases ho; exact sa_quiet rfl [45] (all1 (aop_mv rfl (by kernel_rfl))) rfl
      | 6, ho => cases ho; exact sa_quiet rfl [45] (all1 (aop_mv rfl (by kernel_rfl))) rfl
      | 7, ho => cases ho; exact sa_quiet rfl [45] (all1 (aop_indexT (k := .i64) (len := m.length) (cap := m.length) (i := k) (p := ⟨d, 0, none⟩) (n := 2) (g := true) rfl (by kernel_rfl) (by kernel_rfl) rfl rfl hlt)) rfl
      | 8, ho => cases ho; exact sa_quiet rfl [45] (all1 (aop_indexA (k := .i64) (len := 2) (i := 1) (p := ((⟨d, 0, none⟩ : Addr).add (k * 2))) (n := 1) (g := false) rfl (by kernel_rfl) (by kernel_rfl) rfl rfl (by decide))) rfl
      | 9, ho => cases ho; exact sa_quiet rfl [45] (all1 (aop_load (p := ((⟨d, 0, none⟩ : Addr).add (k * 2)).add (1 * 1)) rfl (by kernel_rfl) rfl gt)) rfl
      | 10, ho => cases ho; exact sa_quiet rfl [45] (all1 (aop_int (k := .i64) (m := f) (n := t) rfl (by kernel_rfl) (by kernel_rfl) (by simp [intV]; omega))) rfl
      | 11, ho => cases ho; exact sa_quiet rfl [45] (all1 (aop_mv rfl (by kernel_rfl))) rfl
      | 12, ho => cases ho; exact sa_quiet rfl [45] (all1 (aop_mv rfl (by kernel_rfl))) rfl
      | 13, ho => cases ho; exact sa_quiet rfl [45] (all1 (aop_mv rfl (by kernel_rfl))) rfl
      | 14, ho => cases ho; exact sa_quiet rfl [45] (all1 (aop_indexT (k := .i64) (len := m.length) (cap := m.length) (i := k) (p := ⟨d, 0, none⟩) (n := 2) (g := true) rfl (by kernel_rfl) (by kernel_rfl) rfl rfl hlt)) rfl
      | 15, ho => cases ho; exact sa_quiet rfl [45] (all1 (aop_indexA (k := .i64) (len := 2) (i := 0) (p := ((⟨d, 0, none⟩ : Addr).add (k * 2))) (n := 1) (g := false) rfl (by kernel_rfl) (by kernel_rfl) rfl rfl (by decide))) rfl
      | 16, ho => cases ho; exact sa_quiet rfl [45] (all1 (aop_load (p := ((⟨d, 0, none⟩ : Addr).add (k * 2)).add (0 * 1)) rfl (by kernel_rfl) rfl gf)) rfl
      | 17, ho => cases ho; exact sa_quiet rfl [45] (all1 (aop_int (k := .i64) (m := f) (n := 0) rfl (by kernel_rfl) (by kernel_rfl) (by simp [intV]; omega))) rfl
      | 18, ho => cases ho; exact sa_quiet rfl [45] (all1 (aop_picks (b := false) rfl (by kernel_rfl) (by kernel_rfl))) rfl
      | 19, ho => cases ho; exact sa_quiet rfl [45] (all1 (aop_mv rfl (by kernel_rfl))) rfl
      | 20, ho => cases ho; exact sa_quiet rfl [45] (all1 (aop_mv rfl (by kernel_rfl))) rfl
      | 21, ho => cases ho; exact sa_quiet rfl [45] (all1 (aop_mv rfl (by kernel_rfl))) rfl
      | 22, ho => cases ho; exact sa_quiet rfl [45] (all1 (aop_indexT (k := .i64) (len := m.length) (cap := m.length) (i := k) (p := ⟨d, 0, none⟩) (n := 2) (g := true) rfl (by kernel_rfl) (by kernel_rfl) rfl rfl hlt)) rfl
      | 23, ho => cases ho; exact sa_quiet rfl [45] (all1 (aop_indexA (k := .i64) (len := 2) (i := 1) (p := ((⟨d, 0, none⟩ : Addr).add (k * 2))) (n := 1) (g := false) rfl (by kernel_rfl) (by kernel_rfl) rfl rfl (by decide))) rfl
      | 24, ho => cases ho; exact sa_quiet rfl [45] (all1 (aop_load (p := ((⟨d, 0, none⟩ : Addr).add (k * 2)).add (1 * 1)) rfl (by kernel_rfl) rfl gt)) rfl
      | 25, ho => cases ho; exact sa_quiet rfl [45] (all1 (aop_int (k := .i64) (m := t) (n := 65536) rfl (by kernel_rfl) (by kernel_rfl) (by simp [intV]; omega))) rfl
      | 26, ho => cases ho; exact sa_quiet rfl [45] (all1 (aop_picks (b := false) rfl (by kernel_rfl) (by kernel_rfl))) rfl
      | 27, ho => cases ho; exact sa_quiet rfl [45] (all1 (aop_mv rfl (by kernel_rfl))) rfl
      | 28, ho => cases ho; exact sa_quiet rfl [45] (all1 (aop_mv rfl (by kernel_rfl))) rfl
      | 29, ho => cases ho; exact sa_quiet rfl [45] (all1 (aop_int (k := .i64) (m := k) (n := 0) rfl (by kernel_rfl) (by kernel_rfl) (by simp [intV]; omega))) rfl
      | 30, ho => cases ho; exact sa_quiet rfl [45] (all1 (aop_mv rfl (by kernel_rfl))) rfl
      | 31, ho => cases ho; exact sa_quiet rfl [45] (all1 (aop_mv rfl (by kernel_rfl))) rfl
      | 32, ho => cases ho; exact sa_quiet rfl [45] (all1 (aop_mv rfl (by kernel_rfl))) rfl
      | 33, ho => cases ho; exact sa_quiet rfl [45] (all1 (aop_indexT (k := .i64) (len := m.length) (cap := m.length) (i := k) (p := ⟨d, 0, none⟩) (n := 2) (g := true) rfl (by kernel_rfl) (by kernel_rfl) rfl rfl hlt)) rfl
      | 34, ho => cases ho; exact sa_quiet rfl [45] (all1 (aop_indexA (k := .i64) (len := 2) (i := 0) (p := ((⟨d, 0, none⟩ : Addr).add (k * 2))) (n := 1) (g := false) rfl (by kernel_rfl) (by kernel_rfl) rfl rfl (by decide))) rfl
      | 35, ho => cases ho; exact sa_quiet rfl [45] (all1 (aop_load (p := ((⟨d, 0, none⟩ : Addr).add (k * 2)).add (0 * 1)) rfl (by kernel_rfl) rfl gf)) rfl
      | 36, ho => cases ho; exact sa_quiet rfl [45] (all1 (aop_mv rfl (by kernel_rfl))) rfl
      | 37, ho => cases ho; exact sa_quiet rfl [45] (all1 (aop_mv rfl (by kernel_rfl))) rfl
      | 38, ho => cases ho; exact sa_quiet rfl [45] (all1 (aop_int (k := .i64) (m := k) (n := 1) rfl (by kernel_rfl) (by kernel_rfl) (intV_sub (by omega) (by omega) (by omega)))) rfl
      | 39, ho => cases ho; exact sa_quiet rfl [45] (all1 (aop_indexT (k := .i64) (len := m.length) (cap := m.length) (i := j) (p := ⟨d, 0, none⟩) (n := 2) (g := true) rfl (by kernel_rfl) (by kernel_rfl) rfl rfl (by omega))) rfl
      | 40, ho => cases ho; exact sa_quiet rfl [45] (all1 (aop_indexA (k := .i64) (len := 2) (i := 1) (p := ((⟨d, 0, none⟩ : Addr).add (j * 2))) (n := 1) (g := false) rfl (by kernel_rfl) (by kernel_rfl) rfl rfl (by decide))) rfl
      | 41, ho => cases ho; exact sa_quiet rfl [45] (all1 (aop_load (p := ((⟨d, 0, none⟩ : Addr).add (j * 2)).add (1 * 1)) rfl (by kernel_rfl) rfl gt')) rfl
      | 42, ho => cases ho; exact sa_quiet rfl [45] (all1 (aop_int (k := .i64) (m := f) (n := t') rfl (by kernel_rfl) (by kernel_rfl) (by simp [intV]; omega))) rfl
      | 43, ho => cases ho; exact sa_quiet rfl [45] (all1 (aop_picks (b := true) rfl (by kernel_rfl) (by kernel_rfl))) rfl
      | 44, ho => cases ho; exact sa_quiet rfl [45] (all1 (aop_picks (b := false) rfl (by kernel_rfl) (by kernel_rfl))) rfl
      | n + 45, ho => simp at ho
    refine cw_cond good false (by kernel_rfl) (cw_skip good ?_)
    refine ca_draw good [.agg #[vn], .slice (some ⟨d, 0, none⟩) m.length m.length, .int .i64 k, .pointer (some ((⟨d, 0, none⟩ : Addr).add (k * 2))), .pointer (some (((⟨d, 0, none⟩ : Addr).add (k * 2)).add (0 * 1))), .int .i64 f, .slice (some ⟨d, 0, none⟩) m.length m.length, .int .i64 k, .pointer (some ((⟨d, 0, none⟩ : Addr).add (k * 2))), .pointer (some (((⟨d, 0, none⟩ : Addr).add (k * 2)).add (1 * 1))), .int .i64 t, .agg #[v81], .agg #[v87], undef] [A', A', A', A', A', A', A', A', A', A', A', A', A81, A87, A91] (by kernel_rfl) rfl ?_ ⟨#[.slice p l.length c, undef, .bool false, .bool true, ptr q4, (zz 5), ptr q6, .slice (some ⟨d, 0, none⟩) m.length m.length, .int .i64 k, .bool true, .bool true, .bool false, (zz 12), (zz 13), (zz 14), (zz 15), (zz 16), (zz 17), (zz 18), (zz 19), (zz 20), (zz 21), (zz 22), (zz 23), (zz 24), (zz 25), (zz 26), (zz 27), (zz 28), (zz 29), (zz 30), (zz 31), (zz 32), (zz 33), (zz 34), (zz 35), (zz 36), .int .i64 k, .slice (some ⟨d, 0, none⟩) m.length m.length, .int .i64 m.length, .bool true, (zz 41), (zz 42), .slice (some ⟨d, 0, none⟩) m.length m.length, .int .i64 k, .pointer (some ((⟨d, 0, none⟩ : Addr).add (k * 2))), .pointer (some (((⟨d, 0, none⟩ : Addr).add (k * 2)).add (0 * 1))), .int .i64 f, .slice (some ⟨d, 0, none⟩) m.length m.length, .int .i64 k, .pointer (some ((⟨d, 0, none⟩ : Addr).add (k * 2))), .pointer (some (((⟨d, 0, none⟩ : Addr).add (k * 2)).add (1 * 1))), .int .i64 t, .bool false, .bool false, .slice (some ⟨d, 0, none⟩) m.length m.length, .int .i64 k, .pointer (some ((⟨d, 0, none⟩ : Addr).add (k * 2))), .pointer (some (((⟨d, 0, none⟩ : Addr).add (k * 2)).add (0 * 1))), .int .i64 f, .bool false, .bool false, .bool false, .slice (some ⟨d, 0, none⟩) m.length m.length, .int .i64 k, .pointer (some ((⟨d, 0, none⟩ : Addr).add (k * 2))), .pointer (some (((⟨d, 0, none⟩ : Addr).add (k * 2)).add (1 * 1))), .int .i64 t, .bool false, .bool false, .bool false, .int .i64 k, .bool true, .bool true, .slice (some ⟨d, 0, none⟩) m.length m.length, .int .i64 k, .pointer (some ((⟨d, 0, none⟩ : Addr).add (k * 2))), .pointer (some (((⟨d, 0, none⟩ : Addr).add (k * 2)).add (0 * 1))), .int .i64 f, .slice (some ⟨d, 0, none⟩) m.length m.length, .int .i64 k, .int .i64 j, .pointer (some ((⟨d, 0, none⟩ : Addr).add (j * 2))), .pointer (some (((⟨d, 0, none⟩ : Addr).add (j * 2)).add (1 * 1))), .int .i64 t', .bool false, .bool false, .bool false, .agg #[vn], .slice (some ⟨d, 0, none⟩) m.length m.length, .int .i64 k, .pointer (some ((⟨d, 0, none⟩ : Addr).add (k * 2))), .pointer (some (((⟨d, 0, none⟩ : Addr).add (k * 2)).add (0 * 1))), .int .i64 f, .slice (some ⟨d, 0, none⟩) m.length m.length, .int .i64 k, .pointer (some ((⟨d, 0, none⟩ : Addr).add (k * 2))), .pointer (some (((⟨d, 0, none⟩ : Addr).add (k * 2)).add (1 * 1))), .int .i64 t, .agg #[v81], .agg #[v87], (zz 101), (zz 102), (zz 103)], []⟩ _ (by kernel_rfl) rfl ?_
    · intro jj o ho
      match jj, ho with
      | 0, ho => cases ho; exact sa_quiet rfl [11, 12] (all2 (aop_loadT (n := 1) (p := ⟨q6, 0, none⟩) (xs := #[vn]) rfl (by kernel_rfl) rfl hb83 rfl (Nat.le_refl 1) rfl) (aop_loadT (n := 1) (p := ⟨q6, 0, none⟩) (xs := #[vn]) rfl (by kernel_rfl) rfl hb85 rfl (Nat.le_refl 1) rfl)) rfl
      | 1, ho => cases ho; exact sa_quiet rfl [11] (all1 (aop_mv rfl (by kernel_rfl))) rfl
      | 2, ho => cases ho; exact sa_quiet rfl [11] (all1 (aop_mv rfl (by kernel_rfl))) rfl
      | 3, ho => cases ho; exact sa_quiet rfl [11] (all1 (aop_indexT (k := .i64) (len := m.length) (cap := m.length) (i := k) (p := ⟨d, 0, none⟩) (n := 2) (g := true) rfl (by kernel_rfl) (by kernel_rfl) rfl rfl hlt)) rfl
      | 4, ho => cases ho; exact sa_quiet rfl [11] (all1 (aop_indexA (k := .i64) (len := 2) (i := 0) (p := ((⟨d, 0, none⟩ : Addr).add (k * 2))) (n := 1) (g := false) rfl (by kernel_rfl) (by kernel_rfl) rfl rfl (by decide))) rfl
      | 5, ho => cases ho; exact sa_quiet rfl [11] (all1 (aop_load (p := ((⟨d, 0, none⟩ : Addr).add (k * 2)).add (0 * 1)) rfl (by kernel_rfl) rfl gf)) rfl
      | 6, ho => cases ho; exact sa_quiet rfl [11] (all1 (aop_mv rfl (by kernel_rfl))) rfl
      | 7, ho => cases ho; exact sa_quiet rfl [11] (all1 (aop_mv rfl (by kernel_rfl))) rfl
      | 8, ho => cases ho; exact sa_quiet rfl [11] (all1 (aop_indexT (k := .i64) (len := m.length) (cap := m.length) (i := k) (p := ⟨d, 0, none⟩) (n := 2) (g := true) rfl (by kernel_rfl) (by kernel_rfl) rfl rfl hlt)) rfl
      | 9, ho => cases ho; exact sa_quiet rfl [11] (all1 (aop_indexA (k := .i64) (len := 2) (i := 1) (p := ((⟨d, 0, none⟩ : Addr).add (k * 2))) (n := 1) (g := false) rfl (by kernel_rfl) (by kernel_rfl) rfl rfl (by decide))) rfl
      | 10, ho => cases ho; exact sa_quiet rfl [11] (all1 (aop_load (p := ((⟨d, 0, none⟩ : Addr).add (k * 2)).add (1 * 1)) rfl (by kernel_rfl) rfl gt)) rfl
      | 11, ho => cases ho; exact sa_acts rfl (run_named (f := 27) (l := [.int .i64 f, .int .i64 t]) ⟨rfl, rfl, rfl⟩ c81 (by kernel_rfl) (by kernel_rfl))
      | 12, ho => cases ho; exact sa_acts rfl (run_named (f := 23) (l := [.agg #[vn], .agg #[v81]]) ⟨rfl, rfl, rfl⟩ c87 (by kernel_rfl) (by kernel_rfl))
      | 13, ho => cases ho; exact sa_acts rfl (run_store1 (p := ⟨q6, 0, none⟩) (v := v87) rfl (by kernel_rfl) (by kernel_rfl) rfl o89 (Asn.get hh90) (Asn.soft hh90) hA91)
      | n + 14, ho => simp at ho
    refine cw_region good ?_
    refine wpO_mv (.int .i64 k) (by kernel_rfl) ?_
    refine wpO_val (aop_int (k := .i64) (m := k) (n := 1) (v := .int .i64 (k + 1 : Nat)) rfl (by kernel_rfl) (by kernel_rfl) (intV_add (by omega) (by omega) (by omega))) ?_
    refine wpO_as (.int .i64 (k + 1 : Nat)) (by kernel_rfl) ?_
    simp only [Act.put, List.setIfInBounds_toArray, List.set_cons_succ, List.set_cons_zero]
    exact ⟨m.length - (k + 1), by omega, k + 1, v87, _, (fun ix => (⟨#[.slice p l.length c, undef, .bool false, .bool true, ptr q4, (zz 5), ptr q6, .slice (some ⟨d, 0, none⟩) m.length m.length, .int .i64 (k + 1 : Nat), .bool true, .bool true, .bool false, (zz 12), (zz 13), (zz 14), (zz 15), (zz 16), (zz 17), (zz 18), (zz 19), (zz 20), (zz 21), (zz 22), (zz 23), (zz 24), (zz 25), (zz 26), (zz 27), (zz 28), (zz 29), (zz 30), (zz 31), (zz 32), (zz 33), (zz 34), (zz 35), (zz 36), .int .i64 k, .slice (some ⟨d, 0, none⟩) m.length m.length, .int .i64 m.length, .bool true, .int .i64 k, .int .i64 (k + 1 : Nat), .slice (some ⟨d, 0, none⟩) m.length m.length, .int .i64 k, .pointer (some ((⟨d, 0, none⟩ : Addr).add (k * 2))), .pointer (some (((⟨d, 0, none⟩ : Addr).add (k * 2)).add (0 * 1))), .int .i64 f, .slice (some ⟨d, 0, none⟩) m.length m.length, .int .i64 k, .pointer (some ((⟨d, 0, none⟩ : Addr).add (k * 2))), .pointer (some (((⟨d, 0, none⟩ : Addr).add (k * 2)).add (1 * 1))), .int .i64 t, .bool false, .bool false, .slice (some ⟨d, 0, none⟩) m.length m.length, .int .i64 k, .pointer (some ((⟨d, 0, none⟩ : Addr).add (k * 2))), .pointer (some (((⟨d, 0, none⟩ : Addr).add (k * 2)).add (0 * 1))), .int .i64 f, .bool false, .bool false, .bool false, .slice (some ⟨d, 0, none⟩) m.length m.length, .int .i64 k, .pointer (some ((⟨d, 0, none⟩ : Addr).add (k * 2))), .pointer (some (((⟨d, 0, none⟩ : Addr).add (k * 2)).add (1 * 1))), .int .i64 t, .bool false, .bool false, .bool false, .int .i64 k, .bool true, .bool true, .slice (some ⟨d, 0, none⟩) m.length m.length, .int .i64 k, .pointer (some ((⟨d, 0, none⟩ : Addr).add (k * 2))), .pointer (some (((⟨d, 0, none⟩ : Addr).add (k * 2)).add (0 * 1))), .int .i64 f, .slice (some ⟨d, 0, none⟩) m.length m.length, .int .i64 k, .int .i64 j, .pointer (some ((⟨d, 0, none⟩ : Addr).add (j * 2))), .pointer (some (((⟨d, 0, none⟩ : Addr).add (j * 2)).add (1 * 1))), .int .i64 t', .bool false, .bool false, .bool false, .agg #[vn], .slice (some ⟨d, 0, none⟩) m.length m.length, .int .i64 k, .pointer (some ((⟨d, 0, none⟩ : Addr).add (k * 2))), .pointer (some (((⟨d, 0, none⟩ : Addr).add (k * 2)).add (0 * 1))), .int .i64 f, .slice (some ⟨d, 0, none⟩) m.length m.length, .int .i64 k, .pointer (some ((⟨d, 0, none⟩ : Addr).add (k * 2))), .pointer (some (((⟨d, 0, none⟩ : Addr).add (k * 2)).add (1 * 1))), .int .i64 t, .agg #[v81], .agg #[v87], (zz 101), (zz 102), (zz 103)], []⟩ : Act).tmps.getD ix undef), rfl, by omega, Asn.perm [cel q6 v87, spans v87 (m.take (k + 1)), spans (.slice (some ⟨d, 0, none⟩) m.length m.length) m, cel q4 v, spans v m, Asn.nil] [0, 1, 2, 3, 4, 5] hh94 (by decide), by kernel_rfl⟩
  · have hk00 : k = 0 := by omega
    refine cw_seq good (cw_block good (cw_seq good (cw_seq good (ca_draw good [.slice (some ⟨d, 0, none⟩) m.length m.length, .int .i64 k, .pointer (some ((⟨d, 0, none⟩ : Addr).add (k * 2))), .pointer (some (((⟨d, 0, none⟩ : Addr).add (k * 2)).add (0 * 1))), .int .i64 f, .slice (some ⟨d, 0, none⟩) m.length m.length, .int .i64 k, .pointer (some ((⟨d, 0, none⟩ : Addr).add (k * 2))), .pointer (some (((⟨d, 0, none⟩ : Addr).add (k * 2)).add (1 * 1))), .int .i64 t, .bool false, .bool false, .slice (some ⟨d, 0, none⟩) m.length m.length, .int .i64 k, .pointer (some ((⟨d, 0, none⟩ : Addr).add (k * 2))), .pointer (some (((⟨d, 0, none⟩ : Addr).add (k * 2)).add (0 * 1))), .int .i64 f, .bool false, .bool false, .bool false, .slice (some ⟨d, 0, none⟩) m.length m.length, .int .i64 k, .pointer (some ((⟨d, 0, none⟩ : Addr).add (k * 2))), .pointer (some (((⟨d, 0, none⟩ : Addr).add (k * 2)).add (1 * 1))), .int .i64 t, .bool false, .bool false, .bool false, .int .i64 k, .bool false, .bool false, undef, undef, undef, undef, undef, undef, undef, undef, undef, undef, undef, undef, .bool false, .bool false] [A', A', A', A', A', A', A', A', A', A', A', A', A', A', A', A', A', A', A', A', A', A', A', A', A', A', A', A', A', A', A', A', A', A', A', A', A', A', A', A', A', A', A', A', A', A'] (by kernel_rfl) rfl ?_ ⟨#[.slice p l.length c, undef, .bool false, .bool true, ptr q4, (zz 5), ptr q6, .slice (some ⟨d, 0, none⟩) m.length m.length, .int .i64 k, .bool true, .bool true, .bool false, (zz 12), (zz 13), (zz 14), (zz 15), (zz 16), (zz 17), (zz 18), (zz 19), (zz 20), (zz 21), (zz 22), (zz 23), (zz 24), (zz 25), (zz 26), (zz 27), (zz 28), (zz 29), (zz 30), (zz 31), (zz 32), (zz 33), (zz 34), (zz 35), (zz 36), .int .i64 k, .slice (some ⟨d, 0, none⟩) m.length m.length, .int .i64 m.length, .bool true, (zz 41), (zz 42), .slice (some ⟨d, 0, none⟩) m.length m.length, .int .i64 k, .pointer (some ((⟨d, 0, none⟩ : Addr).add (k * 2))), .pointer (some (((⟨d, 0, none⟩ : Addr).add (k * 2)).add (0 * 1))), .int .i64 f, .slice (some ⟨d, 0, none⟩) m.length m.length, .int .i64 k, .pointer (some ((⟨d, 0, none⟩ : Addr).add (k * 2))), .pointer (some (((⟨d, 0, none⟩ : Addr).add (k * 2)).add (1 * 1))), .int .i64 t, .bool false, .bool false, .slice (some ⟨d, 0, none⟩) m.length m.length, .int .i64 k, .pointer (some ((⟨d, 0, none⟩ : Addr).add (k * 2))), .pointer (some (((⟨d, 0, none⟩ : Addr).add (k * 2)).add (0 * 1))), .int .i64 f, .bool false, .bool false, .bool false, .slice (some ⟨d, 0, none⟩) m.length m.length, .int .i64 k, .pointer (some ((⟨d, 0, none⟩ : Addr).add (k * 2))), .pointer (some (((⟨d, 0, none⟩ : Addr).add (k * 2)).add (1 * 1))), .int .i64 t, .bool false, .bool false, .bool false, .int .i64 k, .bool false, .bool false, undef, undef, undef, undef, undef, undef, undef, undef, undef, undef, undef, undef, .bool false, .bool false, (zz 88), (zz 89), (zz 90), (zz 91), (zz 92), (zz 93), (zz 94), (zz 95), (zz 96), (zz 97), (zz 98), (zz 99), (zz 100), (zz 101), (zz 102), (zz 103)], []⟩ _ (by kernel_rfl) rfl ?_))))
    · intro jj o ho
      match jj, ho with
      | 0, ho => cases ho; exact sa_quiet rfl [45] (all1 (aop_mv rfl (by kernel_rfl))) rfl
      | 1, ho => cases ho; exact sa_quiet rfl [45] (all1 (aop_mv rfl (by kernel_rfl))) rfl
      | 2, ho => cases ho; exact sa_quiet rfl [45] (all1 (aop_indexT (k := .i64) (len := m.length) (cap := m.length) (i := k) (p := ⟨d, 0, none⟩) (n := 2) (g := true) rfl (by kernel_rfl) (by kernel_rfl) rfl rfl hlt)) rfl
      | 3, ho => cases ho; exact sa_quiet rfl [45] (all1 (aop_indexA (k := .i64) (len := 2) (i := 0) (p := ((⟨d, 0, none⟩ : Addr).add (k * 2))) (n := 1) (g := false) rfl (by kernel_rfl) (by kernel_rfl) rfl rfl (by decide))) rfl
      | 4, ho => cases ho; exact sa_quiet rfl [45] (all1 (aop_load (p := ((⟨d, 0, none⟩ : Addr).add (k * 2)).add (0 * 1)) rfl (by kernel_rfl) rfl gf)) rfl
      | 5, ho => cases ho; exact sa_quiet rfl [45] (all1 (aop_mv rfl (by kernel_rfl))) rfl
      | 6, ho => cases ho; exact sa_quiet rfl [45] (all1 (aop_mv rfl (by kernel_rfl))) rfl
      | 7, ho => cases ho; exact sa_quiet rfl [45] (all1 (aop_indexT (k := .i64) (len := m.length) (cap := m.length) (i := k) (p := ⟨d, 0, none⟩) (n := 2) (g := true) rfl (by kernel_rfl) (by kernel_rfl) rfl rfl hlt)) rfl
      | 8, ho => cases ho; exact sa_quiet rfl [45] (all1 (aop_indexA (k := .i64) (len := 2) (i := 1) (p := ((⟨d, 0, none⟩ : Addr).add (k * 2))) (n := 1) (g := false) rfl (by kernel_rfl) (by kernel_rfl) rfl rfl (by decide))) rfl
      | 9, ho => cases ho; exact sa_quiet rfl [45] (all1 (aop_load (p := ((⟨d, 0, none⟩ : Addr).add (k * 2)).add (1 * 1)) rfl (by kernel_rfl) rfl gt)) rfl
      | 10, ho => cases ho; exact sa_quiet rfl [45] (all1 (aop_int (k := .i64) (m := f) (n := t) rfl (by kernel_rfl) (by kernel_rfl) (by simp [intV]; omega))) rfl
      | 11, ho => cases ho; exact sa_quiet rfl [45] (all1 (aop_mv rfl (by kernel_rfl))) rfl
      | 12, ho => cases ho; exact sa_quiet rfl [45] (all1 (aop_mv rfl (by kernel_rfl))) rfl
      | 13, ho => cases ho; exact sa_quiet rfl [45] (all1 (aop_mv rfl (by kernel_rfl))) rfl
      | 14, ho => cases ho; exact sa_quiet rfl [45] (all1 (aop_indexT (k := .i64) (len := m.length) (cap := m.length) (i := k) (p := ⟨d, 0, none⟩) (n := 2) (g := true) rfl (by kernel_rfl) (by kernel_rfl) rfl rfl hlt)) rfl
      | 15, ho => cases ho; exact sa_quiet rfl [45] (all1 (aop_indexA (k := .i64) (len := 2) (i := 0) (p := ((⟨d, 0, none⟩ : Addr).add (k * 2))) (n := 1) (g := false) rfl (by kernel_rfl) (by kernel_rfl) rfl rfl (by decide))) rfl
      | 16, ho => cases ho; exact sa_quiet rfl [45] (all1 (aop_load (p := ((⟨d, 0, none⟩ : Addr).add (k * 2)).add (0 * 1)) rfl (by kernel_rfl) rfl gf)) rfl
      | 17, ho => cases ho; exact sa_quiet rfl [45] (all1 (aop_int (k := .i64) (m := f) (n := 0) rfl (by kernel_rfl) (by kernel_rfl) (by simp [intV]; omega))) rfl
      | 18, ho => cases ho; exact sa_quiet rfl [45] (all1 (aop_picks (b := false) rfl (by kernel_rfl) (by kernel_rfl))) rfl
      | 19, ho => cases ho; exact sa_quiet rfl [45] (all1 (aop_mv rfl (by kernel_rfl))) rfl
      | 20, ho => cases ho; exact sa_quiet rfl [45] (all1 (aop_mv rfl (by kernel_rfl))) rfl
      | 21, ho => cases ho; exact sa_quiet rfl [45] (all1 (aop_mv rfl (by kernel_rfl))) rfl
      | 22, ho => cases ho; exact sa_quiet rfl [45] (all1 (aop_indexT (k := .i64) (len := m.length) (cap := m.length) (i := k) (p := ⟨d, 0, none⟩) (n := 2) (g := true) rfl (by kernel_rfl) (by kernel_rfl) rfl rfl hlt)) rfl
      | 23, ho => cases ho; exact sa_quiet rfl [45] (all1 (aop_indexA (k := .i64) (len := 2) (i := 1) (p := ((⟨d, 0, none⟩ : Addr).add (k * 2))) (n := 1) (g := false) rfl (by kernel_rfl) (by kernel_rfl) rfl rfl (by decide))) rfl
      | 24, ho => cases ho; exact sa_quiet rfl [45] (all1 (aop_load (p := ((⟨d, 0, none⟩ : Addr).add (k * 2)).add (1 * 1)) rfl (by kernel_rfl) rfl gt)) rfl
      | 25, ho => cases ho; exact sa_quiet rfl [45] (all1 (aop_int (k := .i64) (m := t) (n := 65536) rfl (by kernel_rfl) (by kernel_rfl) (by simp [intV]; omega))) rfl
      | 26, ho => cases ho; exact sa_quiet rfl [45] (all1 (aop_picks (b := false) rfl (by kernel_rfl) (by kernel_rfl))) rfl
      | 27, ho => cases ho; exact sa_quiet rfl [45] (all1 (aop_mv rfl (by kernel_rfl))) rfl
      | 28, ho => cases ho; exact sa_quiet rfl [45] (all1 (aop_mv rfl (by kernel_rfl))) rfl
      | 29, ho => cases ho; exact sa_quiet rfl [45] (all1 (aop_int (k := .i64) (m := k) (n := 0) rfl (by kernel_rfl) (by kernel_rfl) (by simp [intV]; omega))) rfl
      | 30, ho => cases ho; exact sa_quiet rfl [45] (all1 (aop_mv rfl (by kernel_rfl))) rfl
      | 31, ho => cases ho; exact sa_not rfl rfl rfl
      | 32, ho => cases ho; exact sa_not rfl rfl rfl
      | 33, ho => cases ho; exact sa_not rfl rfl rfl
      | 34, ho => cases ho; exact sa_not rfl rfl rfl
      | 35, ho => cases ho; exact sa_not rfl rfl rfl
      | 36, ho => cases ho; exact sa_not rfl rfl rfl
      | 37, ho => cases ho; exact sa_not rfl rfl rfl
      | 38, ho => cases ho; exact sa_not rfl rfl rfl
      | 39, ho => cases ho; exact sa_not rfl rfl rfl
      | 40, ho => cases ho; exact sa_not rfl rfl rfl
      | 41, ho => cases ho; exact sa_not rfl rfl rfl
      | 42, ho => cases ho; exact sa_not rfl rfl rfl
      | 43, ho => cases ho; exact sa_quiet rfl [45] (all1 (aop_picks (b := false) rfl (by kernel_rfl) (by kernel_rfl))) rfl
      | 44, ho => cases ho; exact sa_quiet rfl [45] (all1 (aop_picks (b := false) rfl (by kernel_rfl) (by kernel_rfl))) rfl
      | n + 45, ho => simp at ho
    refine cw_cond good false (by kernel_rfl) (cw_skip good ?_)
    refine ca_draw good [.agg #[vn], .slice (some ⟨d, 0, none⟩) m.length m.length, .int .i64 k, .pointer (some ((⟨d, 0, none⟩ : Addr).add (k * 2))), .pointer (some (((⟨d, 0, none⟩ : Addr).add (k * 2)).add (0 * 1))), .int .i64 f, .slice (some ⟨d, 0, none⟩) m.length m.length, .int .i64 k, .pointer (some ((⟨d, 0, none⟩ : Addr).add (k * 2))), .pointer (some (((⟨d, 0, none⟩ : Addr).add (k * 2)).add (1 * 1))), .int .i64 t, .agg #[v81], .agg #[v87], undef] [A', A', A', A', A', A', A', A', A', A', A', A', A81, A87, A91] (by kernel_rfl) rfl ?_ ⟨#[.slice p l.length c, undef, .bool false, .bool true, ptr q4, (zz 5), ptr q6, .slice (some ⟨d, 0, none⟩) m.length m.length, .int .i64 k, .bool true, .bool true, .bool false, (zz 12), (zz 13), (zz 14), (zz 15), (zz 16), (zz 17), (zz 18), (zz 19), (zz 20), (zz 21), (zz 22), (zz 23), (zz 24), (zz 25), (zz 26), (zz 27), (zz 28), (zz 29), (zz 30), (zz 31), (zz 32), (zz 33), (zz 34), (zz 35), (zz 36), .int .i64 k, .slice (some ⟨d, 0, none⟩) m.length m.length, .int .i64 m.length, .bool true, (zz 41), (zz 42), .slice (some ⟨d, 0, none⟩) m.length m.length, .int .i64 k, .pointer (some ((⟨d, 0, none⟩ : Addr).add (k * 2))), .pointer (some (((⟨d, 0, none⟩ : Addr).add (k * 2)).add (0 * 1))), .int .i64 f, .slice (some ⟨d, 0, none⟩) m.length m.length, .int .i64 k, .pointer (some ((⟨d, 0, none⟩ : Addr).add (k * 2))), .pointer (some (((⟨d, 0, none⟩ : Addr).add (k * 2)).add (1 * 1))), .int .i64 t, .bool false, .bool false, .slice (some ⟨d, 0, none⟩) m.length m.length, .int .i64 k, .pointer (some ((⟨d, 0, none⟩ : Addr).add (k * 2))), .pointer (some (((⟨d, 0, none⟩ : Addr).add (k * 2)).add (0 * 1))), .int .i64 f, .bool false, .bool false, .bool false, .slice (some ⟨d, 0, none⟩) m.length m.length, .int .i64 k, .pointer (some ((⟨d, 0, none⟩ : Addr).add (k * 2))), .pointer (some (((⟨d, 0, none⟩ : Addr).add (k * 2)).add (1 * 1))), .int .i64 t, .bool false, .bool false, .bool false, .int .i64 k, .bool false, .bool false, undef, undef, undef, undef, undef, undef, undef, undef, undef, undef, undef, undef, .bool false, .bool false, .agg #[vn], .slice (some ⟨d, 0, none⟩) m.length m.length, .int .i64 k, .pointer (some ((⟨d, 0, none⟩ : Addr).add (k * 2))), .pointer (some (((⟨d, 0, none⟩ : Addr).add (k * 2)).add (0 * 1))), .int .i64 f, .slice (some ⟨d, 0, none⟩) m.length m.length, .int .i64 k, .pointer (some ((⟨d, 0, none⟩ : Addr).add (k * 2))), .pointer (some (((⟨d, 0, none⟩ : Addr).add (k * 2)).add (1 * 1))), .int .i64 t, .agg #[v81], .agg #[v87], (zz 101), (zz 102), (zz 103)], []⟩ _ (by kernel_rfl) rfl ?_
    · intro jj o ho
      match jj, ho with
      | 0, ho => cases ho; exact sa_quiet rfl [11, 12] (all2 (aop_loadT (n := 1) (p := ⟨q6, 0, none⟩) (xs := #[vn]) rfl (by kernel_rfl) rfl hb83 rfl (Nat.le_refl 1) rfl) (aop_loadT (n := 1) (p := ⟨q6, 0, none⟩) (xs := #[vn]) rfl (by kernel_rfl) rfl hb85 rfl (Nat.le_refl 1) rfl)) rfl
      | 1, ho => cases ho; exact sa_quiet rfl [11] (all1 (aop_mv rfl (by kernel_rfl))) rfl
      | 2, ho => cases ho; exact sa_quiet rfl [11] (all1 (aop_mv rfl (by kernel_rfl))) rfl
      | 3, ho => cases ho; exact sa_quiet rfl [11] (all1 (aop_indexT (k := .i64) (len := m.length) (cap := m.length) (i := k) (p := ⟨d, 0, none⟩) (n := 2) (g := true) rfl (by kernel_rfl) (by kernel_rfl) rfl rfl hlt)) rfl
      | 4, ho => cases ho; exact sa_quiet rfl [11] (all1 (aop_indexA (k := .i64) (len := 2) (i := 0) (p := ((⟨d, 0, none⟩ : Addr).add (k * 2))) (n := 1) (g := false) rfl (by kernel_rfl) (by kernel_rfl) rfl rfl (by decide))) rfl
      | 5, ho => cases ho; exact sa_quiet rfl [11] (all1 (aop_load (p := ((⟨d, 0, none⟩ : Addr).add (k * 2)).add (0 * 1)) rfl (by kernel_rfl) rfl gf)) rfl
      | 6, ho => cases ho; exact sa_quiet rfl [11] (all1 (aop_mv rfl (by kernel_rfl))) rfl
      | 7, ho => cases ho; exact sa_quiet rfl [11] (all1 (aop_mv rfl (by kernel_rfl))) rfl
      | 8, ho => cases ho; exact sa_quiet rfl [11] (all1 (aop_indexT (k := .i64) (len := m.length) (cap := m.length) (i := k) (p := ⟨d, 0, none⟩) (n := 2) (g := true) rfl (by kernel_rfl) (by kernel_rfl) rfl rfl hlt)) rfl
      | 9, ho => cases ho; exact sa_quiet rfl [11] (all1 (aop_indexA (k := .i64) (len := 2) (i := 1) (p := ((⟨d, 0, none⟩ : Addr).add (k * 2))) (n := 1) (g := false) rfl (by kernel_rfl) (by kernel_rfl) rfl rfl (by decide))) rfl
      | 10, ho => cases ho; exact sa_quiet rfl [11] (all1 (aop_load (p := ((⟨d, 0, none⟩ : Addr).add (k * 2)).add (1 * 1)) rfl (by kernel_rfl) rfl gt)) rfl
      | 11, ho => cases ho; exact sa_acts rfl (run_named (f := 27) (l := [.int .i64 f, .int .i64 t]) ⟨rfl, rfl, rfl⟩ c81 (by kernel_rfl) (by kernel_rfl))
      | 12, ho => cases ho; exact sa_acts rfl (run_named (f := 23) (l := [.agg #[vn], .agg #[v81]]) ⟨rfl, rfl, rfl⟩ c87 (by kernel_rfl) (by kernel_rfl))
      | 13, ho => cases ho; exact sa_acts rfl (run_store1 (p := ⟨q6, 0, none⟩) (v := v87) rfl (by kernel_rfl) (by kernel_rfl) rfl o89 (Asn.get hh90) (Asn.soft hh90) hA91)
      | n + 14, ho => simp at ho
    refine cw_region good ?_
    refine wpO_mv (.int .i64 k) (by kernel_rfl) ?_
    refine wpO_val (aop_int (k := .i64) (m := k) (n := 1) (v := .int .i64 (k + 1 : Nat)) rfl (by kernel_rfl) (by kernel_rfl) (intV_add (by omega) (by omega) (by omega))) ?_
    refine wpO_as (.int .i64 (k + 1 : Nat)) (by kernel_rfl) ?_
    simp only [Act.put, List.setIfInBounds_toArray, List.set_cons_succ, List.set_cons_zero]
    exact ⟨m.length - (k + 1), by omega, k + 1, v87, _, (fun ix => (⟨#[.slice p l.length c, undef, .bool false, .bool true, ptr q4, (zz 5), ptr q6, .slice (some ⟨d, 0, none⟩) m.length m.length, .int .i64 (k + 1 : Nat), .bool true, .bool true, .bool false, (zz 12), (zz 13), (zz 14), (zz 15), (zz 16), (zz 17), (zz 18), (zz 19), (zz 20), (zz 21), (zz 22), (zz 23), (zz 24), (zz 25), (zz 26), (zz 27), (zz 28), (zz 29), (zz 30), (zz 31), (zz 32), (zz 33), (zz 34), (zz 35), (zz 36), .int .i64 k, .slice (some ⟨d, 0, none⟩) m.length m.length, .int .i64 m.length, .bool true, .int .i64 k, .int .i64 (k + 1 : Nat), .slice (some ⟨d, 0, none⟩) m.length m.length, .int .i64 k, .pointer (some ((⟨d, 0, none⟩ : Addr).add (k * 2))), .pointer (some (((⟨d, 0, none⟩ : Addr).add (k * 2)).add (0 * 1))), .int .i64 f, .slice (some ⟨d, 0, none⟩) m.length m.length, .int .i64 k, .pointer (some ((⟨d, 0, none⟩ : Addr).add (k * 2))), .pointer (some (((⟨d, 0, none⟩ : Addr).add (k * 2)).add (1 * 1))), .int .i64 t, .bool false, .bool false, .slice (some ⟨d, 0, none⟩) m.length m.length, .int .i64 k, .pointer (some ((⟨d, 0, none⟩ : Addr).add (k * 2))), .pointer (some (((⟨d, 0, none⟩ : Addr).add (k * 2)).add (0 * 1))), .int .i64 f, .bool false, .bool false, .bool false, .slice (some ⟨d, 0, none⟩) m.length m.length, .int .i64 k, .pointer (some ((⟨d, 0, none⟩ : Addr).add (k * 2))), .pointer (some (((⟨d, 0, none⟩ : Addr).add (k * 2)).add (1 * 1))), .int .i64 t, .bool false, .bool false, .bool false, .int .i64 k, .bool false, .bool false, undef, undef, undef, undef, undef, undef, undef, undef, undef, undef, undef, undef, .bool false, .bool false, .agg #[vn], .slice (some ⟨d, 0, none⟩) m.length m.length, .int .i64 k, .pointer (some ((⟨d, 0, none⟩ : Addr).add (k * 2))), .pointer (some (((⟨d, 0, none⟩ : Addr).add (k * 2)).add (0 * 1))), .int .i64 f, .slice (some ⟨d, 0, none⟩) m.length m.length, .int .i64 k, .pointer (some ((⟨d, 0, none⟩ : Addr).add (k * 2))), .pointer (some (((⟨d, 0, none⟩ : Addr).add (k * 2)).add (1 * 1))), .int .i64 t, .agg #[v81], .agg #[v87], (zz 101), (zz 102), (zz 103)], []⟩ : Act).tmps.getD ix undef), rfl, by omega, Asn.perm [cel q6 v87, spans v87 (m.take (k + 1)), spans (.slice (some ⟨d, 0, none⟩) m.length m.length) m, cel q4 v, spans v m, Asn.nil] [0, 1, 2, 3, 4, 5] hh94 (by decide), by kernel_rfl⟩
set_option maxHeartbeats 32000000 in
theorem runs_law {p : Option Addr} {l : List Sp} {c : Nat} {A : World} (hP : Pairs A p l) : ∃ A', SndCall Try.prog n₀ 8 #[.slice p l.length c] A (.bool true) A' := by
  suffices hw : wpF Try.prog n₀ 8 #[.slice p l.length c] (fun r _ => r = .bool true) A by
    obtain ⟨r, A', h1, rfl⟩ := hw
    exact ⟨A', h1⟩
  have h0 : Asn.nil (fun _ => False) A := fun _ h => h
  obtain ⟨F1, h1, S1⟩ := Asn.new Owns.nil h0 (.slice none 0 0) 27
  generalize hq4 : A.heap.size = q4 at h1
  generalize hA1 : A.alloc (.cells #[.slice none 0 0] 27 (0, 0)) = A1 at h1 S1
  have h2 : Asn.all [cel q4 (.slice none 0 0), spans (.slice none 0 0) [], Asn.nil] F1 A1 := Asn.perm [spans (.slice none 0 0) [], cel q4 (.slice none 0 0), Asn.nil] [1, 0, 2] ⟨fun _ => False, F1, .inl ⟨rfl, rfl, fun _ h => h⟩, h1, fun _ h => h.elim, fun b => by simp⟩ (by decide)
  refine wpF_fn (fn := Try.f8) (ts := #[.slice p l.length c, undef, undef, undef, undef, undef, undef, undef, undef, undef, undef, undef, undef, undef, undef, undef, undef, undef, undef, undef, undef, undef, undef, undef, undef, undef, undef, undef, undef, undef, undef, undef, undef, undef, undef, undef, undef, undef, undef, undef, undef, undef, undef, undef, undef, undef, undef, undef, undef, undef, undef, undef, undef, undef, undef, undef, undef, undef, undef, undef, undef, undef, undef, undef, undef, undef, undef, undef, undef, undef, undef, undef, undef, undef, undef, undef, undef, undef, undef, undef, undef, undef, undef, undef, undef, undef, undef, undef, undef, undef, undef, undef, undef, undef, undef, undef, undef, undef, undef, undef, undef, undef, undef, undef]) good ⟨rfl, rfl, rfl⟩ (by kernel_rfl) ?_
  refine cw_seq good (cw_region good ?_)
  refine wpO_as (.bool false) (by kernel_rfl) ?_
  simp only [Act.put, List.setIfInBounds_toArray, List.set_cons_succ, List.set_cons_zero]
  refine cw_seq good (cw_region good ?_)
  refine wpO_call (f := 9) (first := #[]) (cap := #[]) (l := []) (xs := #[]) ⟨rfl, rfl, rfl⟩ rfl rfl rfl ⟨_, _, begun_call, ?_⟩
  simp only [Act.put, List.setIfInBounds_toArray, List.set_cons_succ, List.set_cons_zero]
  refine wpO_as (.bool true) (by kernel_rfl) ?_
  simp only [Act.put, List.setIfInBounds_toArray, List.set_cons_succ, List.set_cons_zero]
  refine cw_seq good (cw_seq good (cw_region good ?_))
  refine wpO_mv (.bool true) (by kernel_rfl) ?_
  refine wpO_val (aop_not (b := true) rfl (by kernel_rfl)) ?_
  simp only [Act.put, List.setIfInBounds_toArray, List.set_cons_succ, List.set_cons_zero]
  refine cw_cond good false (by kernel_rfl) (cw_skip good ?_)
  refine cw_seq good (cw_region good ?_)
  refine wpO_val (aop_allocT (cs := #[.slice none 0 0]) rfl rfl rfl rfl) ?_
  rw [hq4, hA1]
  simp only [Act.put, List.setIfInBounds_toArray, List.set_cons_succ, List.set_cons_zero]
  refine cw_seq good (cw_seq good (cw_region good ?_))
  refine wpO_as (.int .i64 (0 : Nat)) (by kernel_rfl) ?_
  simp only [Act.put, List.setIfInBounds_toArray, List.set_cons_succ, List.set_cons_zero]
  refine cw_block good (cw_loop good ?_)
  refine wpL_ind (fun nn e A' => ∃ (k : Nat) (v : Value) (m : List Sp) (F' : Foot) (zz : Nat → Value), nn = 10 - k ∧ k ≤ 10 ∧ WF (-1) m ∧ Asn.all [cel q4 v, spans v m, Asn.nil] F' A' ∧ Step (fun _ => False) A F' A' ∧ e = ⟨#[.slice p l.length c, undef, .bool false, .bool true, ptr q4, .int .i64 k, (zz 6), (zz 7), (zz 8), .bool true, .bool true, .bool false, (zz 12), (zz 13), (zz 14), (zz 15), (zz 16), (zz 17), (zz 18), (zz 19), (zz 20), (zz 21), (zz 22), (zz 23), (zz 24), (zz 25), (zz 26), (zz 27), (zz 28), (zz 29), (zz 30), (zz 31), (zz 32), (zz 33), (zz 34), (zz 35), (zz 36), (zz 37), (zz 38), (zz 39), (zz 40), (zz 41), (zz 42), (zz 43), (zz 44), (zz 45), (zz 46), (zz 47), (zz 48), (zz 49), (zz 50), (zz 51), (zz 52), (zz 53), (zz 54), (zz 55), (zz 56), (zz 57), (zz 58), (zz 59), (zz 60), (zz 61), (zz 62), (zz 63), (zz 64), (zz 65), (zz 66), (zz 67), (zz 68), (zz 69), (zz 70), (zz 71), (zz 72), (zz 73), (zz 74), (zz 75), (zz 76), (zz 77), (zz 78), (zz 79), (zz 80), (zz 81), (zz 82), (zz 83), (zz 84), (zz 85), (zz 86), (zz 87), (zz 88), (zz 89), (zz 90), (zz 91), (zz 92), (zz 93), (zz 94), (zz 95), (zz 96), (zz 97), (zz 98), (zz 99), (zz 100), (zz 101), (zz 102), (zz 103)], []⟩) ?_ 10 _ _ ⟨0, .slice none 0 0, [], F1, (fun ix => (⟨#[.slice p l.length c, undef, .bool false, .bool true, ptr q4, .int .i64 (0 : Nat), undef, undef, undef, .bool true, .bool true, .bool false, undef, undef, undef, undef, undef, undef, undef, undef, undef, undef, undef, undef, undef, undef, undef, undef, undef, undef, undef, undef, undef, undef, undef, undef, undef, undef, undef, undef, undef, undef, undef, undef, undef, undef, undef, undef, undef, undef, undef, undef, undef, undef, undef, undef, undef, undef, undef, undef, undef, undef, undef, undef, undef, undef, undef, undef, undef, undef, undef, undef, undef, undef, undef, undef, undef, undef, undef, undef, undef, undef, undef, undef, undef, undef, undef, undef, undef, undef, undef, undef, undef, undef, undef, undef, undef, undef, undef, undef, undef, undef, undef, undef], []⟩ : Act).tmps.getD ix undef), rfl, by omega, .nil, h2, S1, by kernel_rfl⟩
  rintro nn _ A' ⟨k, v, m, F', zz, rfl, hk, hwf, h, hS, rfl⟩
  by_cases hlt : k < l.length
  case neg =>
    refine cw_seq good (cw_seq good (cw_region good ?_))
    refine wpO_mv (.int .i64 k) (by kernel_rfl) ?_
    refine wpO_mv (.slice p l.length c) (by kernel_rfl) ?_
    refine wpO_val (aop_lenV (b := p) (len := l.length) (cap := c) rfl rfl rfl rfl (by kernel_rfl) rfl) ?_
    simp only [Act.put, List.setIfInBounds_toArray, List.set_cons_succ, List.set_cons_zero]
    refine wpO_val (aop_int (k := .i64) (m := k) (n := l.length) (v := .bool false) rfl (by kernel_rfl) (by kernel_rfl) (by simp [intV]; omega)) ?_
    refine wpO_mv (.bool false) (by kernel_rfl) ?_
    simp only [Act.put, List.setIfInBounds_toArray, List.set_cons_succ, List.set_cons_zero]
    with_reducible refine wpO_not ?_ (hw := by kernel_rfl)
    with_reducible refine wpO_not ?_ (hw := by kernel_rfl)
    refine wpO_val (aop_picks (b := false) (v := .bool false) rfl (by kernel_rfl) (by kernel_rfl)) ?_
    simp only [Act.put, List.setIfInBounds_toArray, List.set_cons_succ, List.set_cons_zero]
    refine cw_cond good false (by kernel_rfl) (cw_exit good ?_)
    obtain ⟨zq, hzq⟩ : ∃ zq : Nat → Value, (⟨#[.slice p l.length c, undef, .bool false, .bool true, ptr q4, .int .i64 k, (zz 6), (zz 7), (zz 8), .bool true, .bool true, .bool false, .int .i64 k, .slice p l.length c, .int .i64 l.length, .bool false, .bool false, undef, undef, .bool false, (zz 20), (zz 21), (zz 22), (zz 23), (zz 24), (zz 25), (zz 26), (zz 27), (zz 28), (zz 29), (zz 30), (zz 31), (zz 32), (zz 33), (zz 34), (zz 35), (zz 36), (zz 37), (zz 38), (zz 39), (zz 40), (zz 41), (zz 42), (zz 43), (zz 44), (zz 45), (zz 46), (zz 47), (zz 48), (zz 49), (zz 50), (zz 51), (zz 52), (zz 53), (zz 54), (zz 55), (zz 56), (zz 57), (zz 58), (zz 59), (zz 60), (zz 61), (zz 62), (zz 63), (zz 64), (zz 65), (zz 66), (zz 67), (zz 68), (zz 69), (zz 70), (zz 71), (zz 72), (zz 73), (zz 74), (zz 75), (zz 76), (zz 77), (zz 78), (zz 79), (zz 80), (zz 81), (zz 82), (zz 83), (zz 84), (zz 85), (zz 86), (zz 87), (zz 88), (zz 89), (zz 90), (zz 91), (zz 92), (zz 93), (zz 94), (zz 95), (zz 96), (zz 97), (zz 98), (zz 99), (zz 100), (zz 101), (zz 102), (zz 103)], []⟩ : Act) = ⟨#[.slice p l.length c, undef, .bool false, .bool true, ptr q4, (zq 5), (zq 6), (zq 7), (zq 8), .bool true, .bool true, .bool false, (zq 12), (zq 13), (zq 14), (zq 15), (zq 16), (zq 17), (zq 18), (zq 19), (zq 20), (zq 21), (zq 22), (zq 23), (zq 24), (zq 25), (zq 26), (zq 27), (zq 28), (zq 29), (zq 30), (zq 31), (zq 32), (zq 33), (zq 34), (zq 35), (zq 36), (zq 37), (zq 38), (zq 39), (zq 40), (zq 41), (zq 42), (zq 43), (zq 44), (zq 45), (zq 46), (zq 47), (zq 48), (zq 49), (zq 50), (zq 51), (zq 52), (zq 53), (zq 54), (zq 55), (zq 56), (zq 57), (zq 58), (zq 59), (zq 60), (zq 61), (zq 62), (zq 63), (zq 64), (zq 65), (zq 66), (zq 67), (zq 68), (zq 69), (zq 70), (zq 71), (zq 72), (zq 73), (zq 74), (zq 75), (zq 76), (zq 77), (zq 78), (zq 79), (zq 80), (zq 81), (zq 82), (zq 83), (zq 84), (zq 85), (zq 86), (zq 87), (zq 88), (zq 89), (zq 90), (zq 91), (zq 92), (zq 93), (zq 94), (zq 95), (zq 96), (zq 97), (zq 98), (zq 99), (zq 100), (zq 101), (zq 102), (zq 103)], []⟩ := ⟨(fun ix => (⟨#[.slice p l.length c, undef, .bool false, .bool true, ptr q4, .int .i64 k, (zz 6), (zz 7), (zz 8), .bool true, .bool true, .bool false, .int .i64 k, .slice p l.length c, .int .i64 l.length, .bool false, .bool false, undef, undef, .bool false, (zz 20), (zz 21), (zz 22), (zz 23), (zz 24), (zz 25), (zz 26), (zz 27), (zz 28), (zz 29), (zz 30), (zz 31), (zz 32), (zz 33), (zz 34), (zz 35), (zz 36), (zz 37), (zz 38), (zz 39), (zz 40), (zz 41), (zz 42), (zz 43), (zz 44), (zz 45), (zz 46), (zz 47), (zz 48), (zz 49), (zz 50), (zz 51), (zz 52), (zz 53), (zz 54), (zz 55), (zz 56), (zz 57), (zz 58), (zz 59), (zz 60), (zz 61), (zz 62), (zz 63), (zz 64), (zz 65), (zz 66), (zz 67), (zz 68), (zz 69), (zz 70), (zz 71), (zz 72), (zz 73), (zz 74), (zz 75), (zz 76), (zz 77), (zz 78), (zz 79), (zz 80), (zz 81), (zz 82), (zz 83), (zz 84), (zz 85), (zz 86), (zz 87), (zz 88), (zz 89), (zz 90), (zz 91), (zz 92), (zz 93), (zz 94), (zz 95), (zz 96), (zz 97), (zz 98), (zz 99), (zz 100), (zz 101), (zz 102), (zz 103)], []⟩ : Act).tmps.getD ix undef), by kernel_rfl⟩
    exact wpC_norm _ hzq (runs_rest hwf h zq)
  by_cases hk1 : k < 10
  case neg =>
    refine cw_seq good (cw_seq good (cw_region good ?_))
    refine wpO_mv (.int .i64 k) (by kernel_rfl) ?_
    refine wpO_mv (.slice p l.length c) (by kernel_rfl) ?_
    refine wpO_val (aop_lenV (b := p) (len := l.length) (cap := c) rfl rfl rfl rfl (by kernel_rfl) rfl) ?_
    simp only [Act.put, List.setIfInBounds_toArray, List.set_cons_succ, List.set_cons_zero]
    refine wpO_val (aop_int (k := .i64) (m := k) (n := l.length) (v := .bool true) rfl (by kernel_rfl) (by kernel_rfl) (by simp [intV]; omega)) ?_
    refine wpO_mv (.bool true) (by kernel_rfl) ?_
    simp only [Act.put, List.setIfInBounds_toArray, List.set_cons_succ, List.set_cons_zero]
    with_reducible refine wpO_mv (.int .i64 k) (by kernel_rfl) ?_ (hw := by kernel_rfl)
    simp only [Act.put, List.setIfInBounds_toArray, List.set_cons_succ, List.set_cons_zero]
    with_reducible refine wpO_val (v := .bool false) (A1 := A') ?_ ?_ (hw := by kernel_rfl)
    · exact aop_int (k := .i64) (m := k) (n := 10) (v := .bool false) rfl (by kernel_rfl) (by kernel_rfl) (by simp [intV]; omega)
    refine wpO_val (aop_picks (b := true) (v := .bool false) rfl (by kernel_rfl) (by kernel_rfl)) ?_
    simp only [Act.put, List.setIfInBounds_toArray, List.set_cons_succ, List.set_cons_zero]
    refine cw_cond good false (by kernel_rfl) (cw_exit good ?_)
    obtain ⟨zq, hzq⟩ : ∃ zq : Nat → Value, (⟨#[.slice p l.length c, undef, .bool false, .bool true, ptr q4, .int .i64 k, (zz 6), (zz 7), (zz 8), .bool true, .bool true, .bool false, .int .i64 k, .slice p l.length c, .int .i64 l.length, .bool true, .bool true, .int .i64 k, .bool false, .bool false, (zz 20), (zz 21), (zz 22), (zz 23), (zz 24), (zz 25), (zz 26), (zz 27), (zz 28), (zz 29), (zz 30), (zz 31), (zz 32), (zz 33), (zz 34), (zz 35), (zz 36), (zz 37), (zz 38), (zz 39), (zz 40), (zz 41), (zz 42), (zz 43), (zz 44), (zz 45), (zz 46), (zz 47), (zz 48), (zz 49), (zz 50), (zz 51), (zz 52), (zz 53), (zz 54), (zz 55), (zz 56), (zz 57), (zz 58), (zz 59), (zz 60), (zz 61), (zz 62), (zz 63), (zz 64), (zz 65), (zz 66), (zz 67), (zz 68), (zz 69), (zz 70), (zz 71), (zz 72), (zz 73), (zz 74), (zz 75), (zz 76), (zz 77), (zz 78), (zz 79), (zz 80), (zz 81), (zz 82), (zz 83), (zz 84), (zz 85), (zz 86), (zz 87), (zz 88), (zz 89), (zz 90), (zz 91), (zz 92), (zz 93), (zz 94), (zz 95), (zz 96), (zz 97), (zz 98), (zz 99), (zz 100), (zz 101), (zz 102), (zz 103)], []⟩ : Act) = ⟨#[.slice p l.length c, undef, .bool false, .bool true, ptr q4, (zq 5), (zq 6), (zq 7), (zq 8), .bool true, .bool true, .bool false, (zq 12), (zq 13), (zq 14), (zq 15), (zq 16), (zq 17), (zq 18), (zq 19), (zq 20), (zq 21), (zq 22), (zq 23), (zq 24), (zq 25), (zq 26), (zq 27), (zq 28), (zq 29), (zq 30), (zq 31), (zq 32), (zq 33), (zq 34), (zq 35), (zq 36), (zq 37), (zq 38), (zq 39), (zq 40), (zq 41), (zq 42), (zq 43), (zq 44), (zq 45), (zq 46), (zq 47), (zq 48), (zq 49), (zq 50), (zq 51), (zq 52), (zq 53), (zq 54), (zq 55), (zq 56), (zq 57), (zq 58), (zq 59), (zq 60), (zq 61), (zq 62), (zq 63), (zq 64), (zq 65), (zq 66), (zq 67), (zq 68), (zq 69), (zq 70), (zq 71), (zq 72), (zq 73), (zq 74), (zq 75), (zq 76), (zq 77), (zq 78), (zq 79), (zq 80), (zq 81), (zq 82), (zq 83), (zq 84), (zq 85), (zq 86), (zq 87), (zq 88), (zq 89), (zq 90), (zq 91), (zq 92), (zq 93), (zq 94), (zq 95), (zq 96), (zq 97), (zq 98), (zq 99), (zq 100), (zq 101), (zq 102), (zq 103)], []⟩ := ⟨(fun ix => (⟨#[.slice p l.length c, undef, .bool false, .bool true, ptr q4, .int .i64 k, (zz 6), (zz 7), (zz 8), .bool true, .bool true, .bool false, .int .i64 k, .slice p l.length c, .int .i64 l.length, .bool true, .bool true, .int .i64 k, .bool false, .bool false, (zz 20), (zz 21), (zz 22), (zz 23), (zz 24), (zz 25), (zz 26), (zz 27), (zz 28), (zz 29), (zz 30), (zz 31), (zz 32), (zz 33), (zz 34), (zz 35), (zz 36), (zz 37), (zz 38), (zz 39), (zz 40), (zz 41), (zz 42), (zz 43), (zz 44), (zz 45), (zz 46), (zz 47), (zz 48), (zz 49), (zz 50), (zz 51), (zz 52), (zz 53), (zz 54), (zz 55), (zz 56), (zz 57), (zz 58), (zz 59), (zz 60), (zz 61), (zz 62), (zz 63), (zz 64), (zz 65), (zz 66), (zz 67), (zz 68), (zz 69), (zz 70), (zz 71), (zz 72), (zz 73), (zz 74), (zz 75), (zz 76), (zz 77), (zz 78), (zz 79), (zz 80), (zz 81), (zz 82), (zz 83), (zz 84), (zz 85), (zz 86), (zz 87), (zz 88), (zz 89), (zz 90), (zz 91), (zz 92), (zz 93), (zz 94), (zz 95), (zz 96), (zz 97), (zz 98), (zz 99), (zz 100), (zz 101), (zz 102), (zz 103)], []⟩ : Act).tmps.getD ix undef), by kernel_rfl⟩
    exact wpC_norm _ hzq (runs_rest hwf h zq)
  obtain ⟨s, hs⟩ : ∃ s, l[k]? = some s := ⟨_, List.getElem?_eq_getElem hlt⟩
  obtain ⟨f, t⟩ := s
  obtain ⟨rfl, n, hd⟩ := hP.at hS hs
  obtain ⟨gf, gt⟩ := pair_at hd hs
  obtain ⟨u83, hb83⟩ := cel_at h
  obtain ⟨v81, A81, F81, c81, hh81, S81⟩ := span_call (n₀ := n₀) (J := Asn.all [cel q4 v, spans v m, Asn.nil]) (from_ := f) (to_ := t) (Owns.sep Owns.cel (Owns.sep Owns.spans Owns.nil)) h
  obtain ⟨m81, hm81⟩ : ∃ m1, m1 = addSp [] (if f < 0 then 0 else f) (if (65536 : Int) < t then 65536 else t) := ⟨_, rfl⟩
  rw [← hm81] at hh81
  have w81 : WF (-1) m81 := by rw [hm81]; exact wf_add .nil (by split <;> omega) (by split <;> omega)
  have hh84 := Asn.perm [spans v81 m81, cel q4 v, spans v m, Asn.nil] [1, 0, 2, 3] hh81 (by decide)
  obtain ⟨u85, hb85⟩ := cel_at hh84
  have hh86 := Asn.perm [cel q4 v, spans v81 m81, spans v m, Asn.nil] [2, 1, 0, 3] hh84 (by decide)
  obtain ⟨v87, m87, A87, F87, w87, e87, c87, hh87, S87⟩ := or_is (n₀ := n₀) (J := Asn.all [cel q4 v, Asn.nil]) (Owns.sep Owns.cel Owns.nil) hwf w81 hh86
  have o89 := spans_one hh87
  have hh90 := Asn.perm [spans v87 m87, spans v m, spans v81 m81, cel q4 v, Asn.nil] [3, 0, 1, 2, 4] hh87 (by decide)
  obtain ⟨hh91, S91⟩ := Asn.put (Owns.sep Owns.spans (Owns.sep Owns.spans (Owns.sep Owns.spans Owns.nil))) hh90 v87
  generalize hA91 : A87.setCell ⟨q4, 0, none⟩ v87 = A91 at hh91 S91
  have hh92 := Asn.perm [cel q4 v87, spans v87 m87, spans v m, spans v81 m81, Asn.nil] [2, 3, 0, 1, 4] hh91 (by decide)
  obtain ⟨F93, hh93, S93⟩ := Asn.drop hh92
  obtain ⟨F94, hh94, S94⟩ := Asn.drop hh93
  refine cw_seq good (cw_seq good (cw_region good ?_))
  refine wpO_mv (.int .i64 k) (by kernel_rfl) ?_
  refine wpO_mv (.slice (some ⟨0, 0, none⟩) l.length c) (by kernel_rfl) ?_
  refine wpO_val (aop_lenV (b := (some ⟨0, 0, none⟩)) (len := l.length) (cap := c) rfl rfl rfl rfl (by kernel_rfl) rfl) ?_
  simp only [Act.put, List.setIfInBounds_toArray, List.set_cons_succ, List.set_cons_zero]
  refine wpO_val (aop_int (k := .i64) (m := k) (n := l.length) (v := .bool true) rfl (by kernel_rfl) (by kernel_rfl) (by simp [intV]; omega)) ?_
  refine wpO_mv (.bool true) (by kernel_rfl) ?_
  simp only [Act.put, List.setIfInBounds_toArray, List.set_cons_succ, List.set_cons_zero]
  with_reducible refine wpO_mv (.int .i64 k) (by kernel_rfl) ?_ (hw := by kernel_rfl)
  simp only [Act.put, List.setIfInBounds_toArray, List.set_cons_succ, List.set_cons_zero]
  with_reducible refine wpO_val (v := .bool true) (A1 := A') ?_ ?_ (hw := by kernel_rfl)
  · exact aop_int (k := .i64) (m := k) (n := 10) (v := .bool true) rfl (by kernel_rfl) (by kernel_rfl) (by simp [intV]; omega)
  refine wpO_val (aop_picks (b := true) (v := .bool true) rfl (by kernel_rfl) (by kernel_rfl)) ?_
  simp only [Act.put, List.setIfInBounds_toArray, List.set_cons_succ, List.set_cons_zero]
  refine cw_cond good true (by kernel_rfl) (cw_skip good ?_)
  refine cw_seq good (cw_block good (ca_draw good [.agg #[v], .slice (some ⟨0, 0, none⟩) l.length c, .int .i64 k, .pointer (some ((⟨0, 0, none⟩ : Addr).add (k * 2))), .pointer (some (((⟨0, 0, none⟩ : Addr).add (k * 2)).add (0 * 1))), .int .i64 f, .slice (some ⟨0, 0, none⟩) l.length c, .int .i64 k, .pointer (some ((⟨0, 0, none⟩ : Addr).add (k * 2))), .pointer (some (((⟨0, 0, none⟩ : Addr).add (k * 2)).add (1 * 1))), .int .i64 t, .agg #[v81], .agg #[v87], undef] [A', A', A', A', A', A', A', A', A', A', A', A', A81, A87, A91] (by kernel_rfl) rfl ?_ ⟨#[.slice (some ⟨0, 0, none⟩) l.length c, undef, .bool false, .bool true, ptr q4, .int .i64 k, (zz 6), (zz 7), (zz 8), .bool true, .bool true, .bool false, .int .i64 k, .slice (some ⟨0, 0, none⟩) l.length c, .int .i64 l.length, .bool true, .bool true, .int .i64 k, .bool true, .bool true, (zz 20), (zz 21), .agg #[v], .slice (some ⟨0, 0, none⟩) l.length c, .int .i64 k, .pointer (some ((⟨0, 0, none⟩ : Addr).add (k * 2))), .pointer (some (((⟨0, 0, none⟩ : Addr).add (k * 2)).add (0 * 1))), .int .i64 f, .slice (some ⟨0, 0, none⟩) l.length c, .int .i64 k, .pointer (some ((⟨0, 0, none⟩ : Addr).add (k * 2))), .pointer (some (((⟨0, 0, none⟩ : Addr).add (k * 2)).add (1 * 1))), .int .i64 t, .agg #[v81], .agg #[v87], (zz 35), (zz 36), (zz 37), (zz 38), (zz 39), (zz 40), (zz 41), (zz 42), (zz 43), (zz 44), (zz 45), (zz 46), (zz 47), (zz 48), (zz 49), (zz 50), (zz 51), (zz 52), (zz 53), (zz 54), (zz 55), (zz 56), (zz 57), (zz 58), (zz 59), (zz 60), (zz 61), (zz 62), (zz 63), (zz 64), (zz 65), (zz 66), (zz 67), (zz 68), (zz 69), (zz 70), (zz 71), (zz 72), (zz 73), (zz 74), (zz 75), (zz 76), (zz 77), (zz 78), (zz 79), (zz 80), (zz 81), (zz 82), (zz 83), (zz 84), (zz 85), (zz 86), (zz 87), (zz 88), (zz 89), (zz 90), (zz 91), (zz 92), (zz 93), (zz 94), (zz 95), (zz 96), (zz 97), (zz 98), (zz 99), (zz 100), (zz 101), (zz 102), (zz 103)], []⟩ _ (by kernel_rfl) rfl ?_))
  · intro jj o ho
    match jj, ho with
    | 0, ho => cases ho; exact sa_quiet rfl [11, 12] (all2 (aop_loadT (n := 1) (p := ⟨q4, 0, none⟩) (xs := #[v]) rfl (by kernel_rfl) rfl hb83 rfl (Nat.le_refl 1) rfl) (aop_loadT (n := 1) (p := ⟨q4, 0, none⟩) (xs := #[v]) rfl (by kernel_rfl) rfl hb85 rfl (Nat.le_refl 1) rfl)) rfl
    | 1, ho => cases ho; exact sa_quiet rfl [11] (all1 (aop_mv rfl (by kernel_rfl))) rfl
    | 2, ho => cases ho; exact sa_quiet rfl [11] (all1 (aop_mv rfl (by kernel_rfl))) rfl
    | 3, ho => cases ho; exact sa_quiet rfl [11] (all1 (aop_indexT (k := .i64) (len := l.length) (cap := c) (i := k) (p := ⟨0, 0, none⟩) (n := 2) (g := true) rfl (by kernel_rfl) (by kernel_rfl) rfl rfl hlt)) rfl
    | 4, ho => cases ho; exact sa_quiet rfl [11] (all1 (aop_indexA (k := .i64) (len := 2) (i := 0) (p := ((⟨0, 0, none⟩ : Addr).add (k * 2))) (n := 1) (g := false) rfl (by kernel_rfl) (by kernel_rfl) rfl rfl (by decide))) rfl
    | 5, ho => cases ho; exact sa_quiet rfl [11] (all1 (aop_load (p := ((⟨0, 0, none⟩ : Addr).add (k * 2)).add (0 * 1)) rfl (by kernel_rfl) rfl gf)) rfl
    | 6, ho => cases ho; exact sa_quiet rfl [11] (all1 (aop_mv rfl (by kernel_rfl))) rfl
    | 7, ho => cases ho; exact sa_quiet rfl [11] (all1 (aop_mv rfl (by kernel_rfl))) rfl
    | 8, ho => cases ho; exact sa_quiet rfl [11] (all1 (aop_indexT (k := .i64) (len := l.length) (cap := c) (i := k) (p := ⟨0, 0, none⟩) (n := 2) (g := true) rfl (by kernel_rfl) (by kernel_rfl) rfl rfl hlt)) rfl
    | 9, ho => cases ho; exact sa_quiet rfl [11] (all1 (aop_indexA (k := .i64) (len := 2) (i := 1) (p := ((⟨0, 0, none⟩ : Addr).add (k * 2))) (n := 1) (g := false) rfl (by kernel_rfl) (by kernel_rfl) rfl rfl (by decide))) rfl
    | 10, ho => cases ho; exact sa_quiet rfl [11] (all1 (aop_load (p := ((⟨0, 0, none⟩ : Addr).add (k * 2)).add (1 * 1)) rfl (by kernel_rfl) rfl gt)) rfl
    | 11, ho => cases ho; exact sa_acts rfl (run_named (f := 27) (l := [.int .i64 f, .int .i64 t]) ⟨rfl, rfl, rfl⟩ c81 (by kernel_rfl) (by kernel_rfl))
    | 12, ho => cases ho; exact sa_acts rfl (run_named (f := 23) (l := [.agg #[v], .agg #[v81]]) ⟨rfl, rfl, rfl⟩ c87 (by kernel_rfl) (by kernel_rfl))
    | 13, ho => cases ho; exact sa_acts rfl (run_store1 (p := ⟨q4, 0, none⟩) (v := v87) rfl (by kernel_rfl) (by kernel_rfl) rfl o89 (Asn.get hh90) (Asn.soft hh90) hA91)
    | n + 14, ho => simp at ho
  refine cw_region good ?_
  refine wpO_mv (.int .i64 k) (by kernel_rfl) ?_
  refine wpO_val (aop_int (k := .i64) (m := k) (n := 1) (v := .int .i64 (k + 1 : Nat)) rfl (by kernel_rfl) (by kernel_rfl) (intV_add (by omega) (by omega) (by omega))) ?_
  refine wpO_as (.int .i64 (k + 1 : Nat)) (by kernel_rfl) ?_
  simp only [Act.put, List.setIfInBounds_toArray, List.set_cons_succ, List.set_cons_zero]
  exact ⟨10 - (k + 1), by omega, k + 1, v87, m87, _, (fun ix => (⟨#[.slice (some ⟨0, 0, none⟩) l.length c, undef, .bool false, .bool true, ptr q4, .int .i64 (k + 1 : Nat), (zz 6), (zz 7), (zz 8), .bool true, .bool true, .bool false, .int .i64 k, .slice (some ⟨0, 0, none⟩) l.length c, .int .i64 l.length, .bool true, .bool true, .int .i64 k, .bool true, .bool true, .int .i64 k, .int .i64 (k + 1 : Nat), .agg #[v], .slice (some ⟨0, 0, none⟩) l.length c, .int .i64 k, .pointer (some ((⟨0, 0, none⟩ : Addr).add (k * 2))), .pointer (some (((⟨0, 0, none⟩ : Addr).add (k * 2)).add (0 * 1))), .int .i64 f, .slice (some ⟨0, 0, none⟩) l.length c, .int .i64 k, .pointer (some ((⟨0, 0, none⟩ : Addr).add (k * 2))), .pointer (some (((⟨0, 0, none⟩ : Addr).add (k * 2)).add (1 * 1))), .int .i64 t, .agg #[v81], .agg #[v87], (zz 35), (zz 36), (zz 37), (zz 38), (zz 39), (zz 40), (zz 41), (zz 42), (zz 43), (zz 44), (zz 45), (zz 46), (zz 47), (zz 48), (zz 49), (zz 50), (zz 51), (zz 52), (zz 53), (zz 54), (zz 55), (zz 56), (zz 57), (zz 58), (zz 59), (zz 60), (zz 61), (zz 62), (zz 63), (zz 64), (zz 65), (zz 66), (zz 67), (zz 68), (zz 69), (zz 70), (zz 71), (zz 72), (zz 73), (zz 74), (zz 75), (zz 76), (zz 77), (zz 78), (zz 79), (zz 80), (zz 81), (zz 82), (zz 83), (zz 84), (zz 85), (zz 86), (zz 87), (zz 88), (zz 89), (zz 90), (zz 91), (zz 92), (zz 93), (zz 94), (zz 95), (zz 96), (zz 97), (zz 98), (zz 99), (zz 100), (zz 101), (zz 102), (zz 103)], []⟩ : Act).tmps.getD ix undef), rfl, by omega, w87, Asn.perm [cel q4 v87, spans v87 m87, Asn.nil] [0, 1, 2] hh94 (by decide), hS.trans (S81.trans (S87.trans (S91.trans (S93.trans S94)))), by kernel_rfl⟩
end Go.Proofs.Ytfkdkfleaiaoiaa
