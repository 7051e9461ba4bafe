/-
  What Or holds two spans against one another by. No condition.
-/
import Derived.Test.YtfkdkfleaiaoiaaM4
import Derived.ProofKit
import Derived.Sort.Grow
import Derived.Test.YtfkdkfleaiaoiaaB16
import Derived.Shelf.SlSortCmp.WholeK
import Derived.Test.YtfkdkfleaiaoiaaProg
import Derived.Test.YtfkdkfleaiaoiaaB15
namespace Go.Proofs.Ytfkdkfleaiaoiaa
open Go.Abs Go.RowKit Go.Sort
set_option maxHeartbeats 4000000 in
theorem closure39 (x y : Int × Int) (W : World) (hx : 0 ≤ x.1 ∧ x.1 ≤ 65536) (hy : 0 ≤ y.1 ∧ y.1 ≤ 65536) : Calls Try.prog 39 #[.agg #[.int .i64 x.1, .int .i64 x.2], .agg #[.int .i64 y.1, .int .i64 y.2]] W fun e w' => e = .returned (.int .i64 (x.1 - y.1)) ∧ ∃ q os', w' = grow (W.drewN q) os' := by
  go_enter Try.func39, Try.ntmps39
  go_wp2
  go_ret
  exact ⟨rfl, 0, _, by rw [alloc_eq_grow, alloc_eq_grow, grow_grow]; rfl⟩
end Go.Proofs.Ytfkdkfleaiaoiaa
/-
  slices.Grow, of nil. No condition.
-/
namespace Go.Proofs.Ytfkdkfleaiaoiaa
open Go.Abs
variable {n₀ : Nat}
set_option maxRecDepth 8000
theorem zeroCells_size {z : Array Value} {n : Nat} : (Builtin.zeroCells z n).size = n * z.size := by
  simp [Builtin.zeroCells]
theorem ty42 : ∃ ie z, Try.prog.info? 42 = some ie ∧ ie.zero = some z ∧ z.cells = #[.int .i64 0, .int .i64 0] ∧ ie.size = 2 ∧ ie.bytes = 16 := ⟨_, _, rfl, rfl, rfl, rfl, rfl⟩
/-- append(nil, make([][2]int, n)...). -/
theorem zeros_app {n : Nat} {J : Asn} {F : Foot} {A : World} (hJ : Owns J) (h : J F A) (hn : 0 < n) (hl : n < 100000) :
    ∃ zs A2 F2, zs.size = n * 2 ∧ (∀ (o : Oper) (c : Call) (ρ : Operand → Value), o.op = .call c → c.callee = .builtin .append → c.argTypes = #[25, 3] → c.args.toList.map ρ = [.slice none 0 0, .int .i64 n] → AOp Try.prog ρ o A (.value (.slice (some ⟨A.heap.size, 0, none⟩) n n)) A2) ∧
      ((blk A.heap.size (.cells zs 42 (1, 0))).sep J) F2 A2 ∧ Step F A F2 A2 := by
  obtain ⟨ie, z, hi, hz, hzc, hsz, hby⟩ := ty42
  obtain ⟨F1, h1, S1⟩ := Asn.newO hJ h (.cells (Builtin.zeroCells #[.int .i64 0, .int .i64 0] n) 42 (1, 0))
  have hw : IntKind.i64.wrap (n : Int) = n := wrap_id (by omega) (by omega)
  refine ⟨Builtin.zeroCells #[.int .i64 0, .int .i64 0] n, _, F1, by rw [zeroCells_size]; rfl, fun o c ρ ho hc ht ha => .inr (.inr (.inl ⟨c, _, ho, hc, rfl, 42, ie, z, none, 0, 0, .int .i64 n, n, ⟨hz, ⟨25, by rw [ht]; rfl, rfl⟩, hi, fun t h => by rw [ht] at h; cases h; exact .inr (.inr ⟨_, rfl⟩)⟩, map_list ha, ?_,
    .inr ⟨by omega, Nat.le_refl _, by omega, by rw [hby]; decide, by rw [hzc, hsz]; rfl, #[], Builtin.zeroCells #[.int .i64 0, .int .i64 0] n, ?_, ?_, by simp, by simp, by rw [zeroCells_size, hsz]; rfl, ?_, .inl ⟨by simp, fun a h => by cases h⟩⟩⟩)), h1, S1⟩
  · rw [show zerosOf Try.prog c.argTypes = true by rw [ht]; rfl, hby]
    simp only [appN, hw]
    rw [if_neg (by omega), if_neg (by omega), Int.toNat_natCast]
  · rfl
  · rw [show zerosOf Try.prog c.argTypes = true by rw [ht]; rfl, hsz]
    simp only [appSrc, Bool.not_true, Bool.false_eq_true, if_false]
    rw [if_neg (by omega)]
    simp only [Sem.run_bind, run_zeroT hi hz, Result.andThen, hzc, Sem.run_pure]
  · simp only [List.all_eq_true]
    intro x hx
    simp only [Builtin.zeroCells, Array.toList_map, List.mem_map] at hx
    obtain ⟨j, _, rfl⟩ := hx
    have : ∀ k : Nat, k < 2 → isOne (#[Value.int .i64 0, Value.int .i64 0][k]!) = true := fun k hk => by
      match k, hk with
      | 0, _ => rfl
      | 1, _ => rfl
    exact this _ (Nat.mod_lt _ (by decide))
set_option maxHeartbeats 8000000 in
/-- slices.Grow, of nil. -/
theorem grow_call {n : Nat} {J : Asn} {F : Foot} {A : World} (hJ : Owns J) (h : J F A) (hl : n < 100000) :
    ∃ v A' F', SndCall Try.prog n₀ 46 #[.slice none 0 0, .int .i64 n] A v A' ∧ Step F A F' A' ∧ ((n = 0 ∧ v = .slice none 0 0 ∧ J F' A') ∨ (0 < n ∧ ∃ d zs, v = .slice (some ⟨d, 0, none⟩) 0 n ∧ zs.size = n * 2 ∧ ((blk d (.cells zs 42 (1, 0))).sep J) F' A')) := by
  suffices hw : wpF Try.prog n₀ 46 #[.slice none 0 0, .int .i64 n] (fun v A' => ∃ F', Step F A F' A' ∧ ((n = 0 ∧ v = .slice none 0 0 ∧ J F' A') ∨ (0 < n ∧ ∃ d zs, v = .slice (some ⟨d, 0, none⟩) 0 n ∧ zs.size = n * 2 ∧ ((blk d (.cells zs 42 (1, 0))).sep J) F' A'))) A by
    obtain ⟨v, A', h1, F', h2, h3⟩ := hw
    exact ⟨v, A', F', h1, h2, h3⟩
  refine wpF_fn (ts := #[.slice none 0 0, .int .i64 n, undef, undef, undef, undef, undef, undef, undef, undef, undef, undef, undef, undef, undef, undef, undef, undef, undef, undef, undef, undef, undef, undef, undef, undef, undef]) good ⟨rfl, rfl, rfl⟩ (by kernel_rfl) ?_
  refine cw_seq good (cw_region good ?_)
  refine wpO_as (.slice none 0 0) (by kernel_rfl) ?_
  simp only [Act.put, List.setIfInBounds_toArray, List.set_cons_succ, List.set_cons_zero]
  refine cw_seq good (cw_seq good (cw_region good ?_))
  refine wpO_mv (.int .i64 n) (by kernel_rfl) ?_
  refine wpO_val (aop_int (k := .i64) (m := n) (n := 0) (v := .bool false) rfl (by kernel_rfl) (by kernel_rfl) (by simp [intV] <;> omega)) ?_
  simp only [Act.put, List.setIfInBounds_toArray, List.set_cons_succ, List.set_cons_zero]
  refine cw_cond good false (by kernel_rfl) (cw_skip good ?_)
  refine cw_seq good (cw_seq good (cw_region good ?_))
  refine wpO_mv (.int .i64 n) (by kernel_rfl) ?_
  refine wpO_mv (.slice none 0 0) (by kernel_rfl) ?_
  refine wpO_val (aop_cap0 rfl rfl rfl rfl (by kernel_rfl) rfl) ?_
  simp only [Act.put, List.setIfInBounds_toArray, List.set_cons_succ, List.set_cons_zero]
  refine wpO_mv (.slice none 0 0) (by kernel_rfl) ?_
  refine wpO_val (aop_lenV (b := none) (len := 0) (cap := 0) rfl rfl rfl rfl (by kernel_rfl) rfl) ?_
  refine wpO_val (aop_int (k := .i64) (m := 0) (n := 0) (v := .int .i64 0) rfl (by kernel_rfl) (by kernel_rfl) (intV_sub rfl (by decide) (by decide))) ?_
  simp only [Act.put, List.setIfInBounds_toArray, List.set_cons_succ, List.set_cons_zero]
  refine wpO_val (aop_int (k := .i64) (m := n) (n := 0) (v := .int .i64 n) rfl (by kernel_rfl) (by kernel_rfl) (intV_sub (by omega) (by omega) (by omega))) ?_
  refine wpO_as (.int .i64 n) (by kernel_rfl) ?_
  simp only [Act.put, List.setIfInBounds_toArray, List.set_cons_succ, List.set_cons_zero]
  refine cw_seq good (cw_region good ?_)
  refine wpO_mv (.int .i64 n) (by kernel_rfl) ?_
  refine wpO_val (aop_int (k := .i64) (m := n) (n := 0) (v := .bool (decide ((n : Int) > 0))) rfl (by kernel_rfl) (by kernel_rfl) rfl) ?_
  simp only [Act.put, List.setIfInBounds_toArray, List.set_cons_succ, List.set_cons_zero]
  by_cases hn : 0 < n
  · refine cw_cond good true (congrArg Value.bool (decide_eq_true (by omega))) ?_
    obtain ⟨zs, A2, F2, hzs, ap, h2, S2⟩ := zeros_app hJ h hn hl
    generalize hd : A.heap.size = d at ap h2
    refine cw_region good ?_
    refine wpO_mv (.slice none 0 0) (by kernel_rfl) ?_
    refine wpO_mv (.slice none 0 0) (by kernel_rfl) ?_
    refine wpO_val (aop_cap0 rfl rfl rfl rfl (by kernel_rfl) rfl) ?_
    simp only [Act.put, List.setIfInBounds_toArray, List.set_cons_succ, List.set_cons_zero]
    refine wpO_val (aop_sliceK (k := .i64) (b := none) (len := 0) (cap := 0) (h := 0) (n := 2) (g := true) rfl (by kernel_rfl) rfl rfl (by kernel_rfl) (Nat.le_refl _) (Nat.le_refl _) (fun a e => by cases e)) ?_
    refine wpO_mv (.int .i64 n) (by kernel_rfl) ?_
    simp only [Act.put, List.setIfInBounds_toArray, List.set_cons_succ, List.set_cons_zero]
    refine wpO_val (ap _ _ _ rfl rfl rfl (by kernel_rfl)) ?_
    simp only [Act.put, List.setIfInBounds_toArray, List.set_cons_succ, List.set_cons_zero]
    refine wpO_mv (.slice none 0 0) (by kernel_rfl) ?_
    refine wpO_val (aop_lenV (b := none) (len := 0) (cap := 0) rfl rfl rfl rfl (by kernel_rfl) rfl) ?_
    refine wpO_val (aop_sliceK (k := .i64) (b := some ⟨d, 0, none⟩) (len := n) (cap := n) (h := 0) (n := 2) (g := true) rfl (by kernel_rfl) rfl rfl (by kernel_rfl) (Nat.zero_le _) (Nat.le_refl _) (fun a e => by cases e; exact ⟨_, _, _, Asn.at h2, by simp, fun _ => rfl⟩)) ?_
    simp only [Act.put, List.setIfInBounds_toArray, List.set_cons_succ, List.set_cons_zero]
    refine wpO_as (.slice (some ⟨d, 0, none⟩) 0 n) (by kernel_rfl) ?_
    simp only [Act.put, List.setIfInBounds_toArray, List.set_cons_zero]
    refine cw_seq good (cw_region good ?_)
    refine wpO_mv (.slice (some ⟨d, 0, none⟩) 0 n) (by kernel_rfl) ?_
    refine wpO_as (.slice (some ⟨d, 0, none⟩) 0 n) (by kernel_rfl) ?_
    simp only [Act.put, List.setIfInBounds_toArray, List.set_cons_succ, List.set_cons_zero]
    exact cw_ret good (ret_one (.slice (some ⟨d, 0, none⟩) 0 n) (by kernel_rfl) ⟨F2, S2, .inr ⟨hn, d, zs, rfl, hzs, h2⟩⟩)
  · refine cw_cond good false (congrArg Value.bool (decide_eq_false (by omega))) (cw_skip good ?_)
    refine cw_seq good (cw_region good ?_)
    refine wpO_mv (.slice none 0 0) (by kernel_rfl) ?_
    refine wpO_as (.slice none 0 0) (by kernel_rfl) ?_
    simp only [Act.put, List.setIfInBounds_toArray, List.set_cons_succ, List.set_cons_zero]
    exact cw_ret good (ret_one (.slice none 0 0) (by kernel_rfl) ⟨F, .refl, .inl ⟨by omega, rfl, h⟩⟩)
end Go.Proofs.Ytfkdkfleaiaoiaa
/-
  slices.Concat, of two. No condition.
-/
namespace Go.Proofs.Ytfkdkfleaiaoiaa
open Go.Abs
variable {n₀ : Nat}
set_option maxRecDepth 8000
theorem putL_size : ∀ {new : List Value} {cs : Array Value} {k : Nat}, (putL cs k new).size = cs.size
  | [], _, _ => rfl
  | v :: new, cs, k => by simp only [putL]; rw [putL_size]; simp
theorem putL_both {zs : Array Value} {a b : List Sp} (h : zs.size = (a.length + b.length) * 2) : putL (putL zs 0 (cells2 a).toList) (a.length * 2) (cells2 b).toList = cells2 (a ++ b) := by
  have la : (cells2 a).toList.length = a.length * 2 := by simpa using cells2_size (m := a)
  have lb : (cells2 b).toList.length = b.length * 2 := by simpa using cells2_size (m := b)
  have lz : zs.toList.length = (a.length + b.length) * 2 := by simpa using h
  have e1 : putL zs 0 (cells2 a).toList = ((cells2 a).toList ++ zs.toList.drop (a.length * 2)).toArray := by
    have := putL_toList (cells2 a).toList [] (zs.toList.take (a.length * 2)) (zs.toList.drop (a.length * 2)) (by rw [List.length_take]; omega)
    simpa using this
  have e2 := putL_toList (cells2 b).toList (cells2 a).toList (zs.toList.drop (a.length * 2)) [] (by rw [List.length_drop]; omega)
  rw [e1]
  rw [la] at e2
  simp only [List.append_nil] at e2
  rw [e2]
  simp [cells2]
theorem src_cells {v : Value} {m : List Sp} {F : Foot} {A : World} (h : spans v m F A) : ∃ p, v = .slice p m.length m.length ∧ (Builtin.firstCells 2 m.length v).run Try.prog A = .ok (cells2 m) A := by
  rcases h with ⟨e, rfl, _⟩ | ⟨_, d, rfl, hb⟩
  · obtain rfl : m = [] := List.eq_nil_of_length_eq_zero e
    exact ⟨none, rfl, rfl⟩
  · refine ⟨_, rfl, ?_⟩
    have := Go.Abs.run_loadCells (P := Try.prog) (m.length * 2) ⟨d, 0, none⟩ 0 #[] (cells2 m) 42 (1, 0) hb.2 rfl (by rw [cells2_size]; simp)
    have e1 : (cells2 m).extract 0 (m.length * 2) = cells2 m := by rw [← cells2_size]; simp
    simpa [Builtin.firstCells, loadCells, e1] using this
theorem cells2_one {m : List Sp} : (cells2 m).toList.all isOne = true := by
  simp only [cells2, List.all_eq_true, List.mem_flatMap]
  rintro x ⟨s, _, hx⟩
  simp only [List.mem_cons, List.not_mem_nil, or_false] at hx
  rcases hx with rfl | rfl <;> rfl
theorem app_args {c : Call} (ht : c.argTypes = #[25, 25]) : ∃ ie z, AppAt Try.prog c.argTypes 42 ie z ∧ zerosOf Try.prog c.argTypes = false ∧ ie.size = 2 ∧ z.cells.size = 2 ∧ ie.bytes = 16 := by
  obtain ⟨ie, z, hi, hz, hzc, hsz, hby⟩ := ty42
  exact ⟨ie, z, ⟨hz, ⟨25, by rw [ht]; rfl, rfl⟩, hi, fun t h => by rw [ht] at h; cases h; exact .inl ⟨_, rfl⟩⟩, by rw [ht]; rfl, hsz, by rw [hzc]; rfl, hby⟩
/-- Spans laid behind what there is, where there is room. -/
theorem app_in {d n cur : Nat} {cs : Array Value} {v : Value} {m : List Sp} {R : Asn} {F Fm : Foot} {A : World} (hR : Owns R) (h : ((blk d (.cells cs 42 (1, 0))).sep R) F A) (hcs : cs.size = n * 2) (hm : spans v m Fm A) (hfit : cur + m.length ≤ n) :
    ∃ A2, (∀ (o : Oper) (c : Call) (ρ : Operand → Value), o.op = .call c → c.callee = .builtin .append → c.argTypes = #[25, 25] → c.args.toList.map ρ = [.slice (some ⟨d, 0, none⟩) cur n, v] → AOp Try.prog ρ o A (.value (.slice (some ⟨d, 0, none⟩) (cur + m.length) n)) A2) ∧
      ((blk d (.cells (putL cs (cur * 2) (cells2 m).toList) 42 (1, 0))).sep R) F A2 ∧ Step F A F A2 := by
  obtain ⟨p, rfl, hsrc⟩ := src_cells hm
  obtain ⟨A2, r, h2, S2⟩ := store_in (P := Try.prog) (off := cur * 2) (i := 0) hR (.inr rfl) (cells2_one (m := m)) h (by have := cells2_size (m := m); simp only [Array.length_toList]; omega)
  refine ⟨A2, fun o c ρ ho hc ht ha => ?_, h2, S2⟩
  obtain ⟨ie, z, H, hz0, hsz, _, _⟩ := app_args ht
  refine .inr (.inr (.inl ⟨c, _, ho, hc, rfl, 42, ie, z, some ⟨d, 0, none⟩, cur, n, _, m.length, H, map_list ha, by rw [hz0]; rfl, .inl ⟨hfit, cells2 m, ?_, ?_, rfl⟩⟩))
  · rw [hz0, hsz]; simpa [appSrc] using hsrc
  · rw [hsz]
    show (storeCells ((⟨d, 0, none⟩ : Addr).add (cur * 2)) (cells2 m).toList).run Try.prog A = _
    rw [add_at2]; exact r
theorem app_nil {v : Value} {Fm : Foot} {A : World} (hm : spans v [] Fm A) (o : Oper) (c : Call) (ρ : Operand → Value) (ho : o.op = .call c) (hc : c.callee = .builtin .append) (ht : c.argTypes = #[25, 25]) (ha : c.args.toList.map ρ = [.slice none 0 0, v]) : AOp Try.prog ρ o A (.value (.slice none 0 0)) A := by
  obtain ⟨p, rfl, hsrc⟩ := src_cells hm
  obtain ⟨ie, z, H, hz0, hsz, _, _⟩ := app_args ht
  refine .inr (.inr (.inl ⟨c, _, ho, hc, rfl, 42, ie, z, none, 0, 0, _, 0, H, map_list ha, by rw [hz0]; rfl, .inl ⟨Nat.le_refl _, cells2 [], ?_, rfl, rfl⟩⟩))
  rw [hz0, hsz]; simpa [appSrc] using hsrc
set_option maxHeartbeats 16000000 in
/-- slices.Concat, of two. -/
theorem concat_call {qs : Nat} {va vb : Value} {a b : List Sp} {J : Asn} {F : Foot} {A : World} (hJ : Owns J) (hml : a.length + b.length < 90000) (h : Asn.all [blk qs (.cells #[va, vb] 25 (0, 0)), spans va a, spans vb b, J] F A) :
    ∃ v A' F', SndCall Try.prog n₀ 37 #[.slice (some ⟨qs, 0, none⟩) 2 2] A v A' ∧ Asn.all [spans v (a ++ b), spans va a, spans vb b, J] F' A' ∧ Step F A F' A' := by
  have o0 : Owns (Asn.all [blk qs (.cells #[va, vb] 25 (0, 0)), spans va a, spans vb b, J]) := Owns.sep Owns.blk (Owns.sep Owns.spans (Owns.sep Owns.spans hJ))
  obtain ⟨_, ka⟩ := Asn.left (Asn.perm _ [1, 0, 2, 3] h (by decide))
  obtain ⟨pa, rfl⟩ := spans_val ka
  obtain ⟨_, kb⟩ := Asn.left (Asn.perm _ [2, 0, 1, 3] h (by decide))
  obtain ⟨pb, rfl⟩ := spans_val kb
  obtain ⟨v0, A1, F1, c1, S1, hg⟩ := grow_call (n₀ := n₀) (n := a.length + b.length) o0 h (by omega)
  have h1 : ∃ F1', Asn.all [blk qs (.cells #[.slice pa a.length a.length, .slice pb b.length b.length] 25 (0, 0)), spans (.slice pa a.length a.length) a, spans (.slice pb b.length b.length) b, J] F1' A1 := by
    rcases hg with ⟨_, _, h⟩ | ⟨_, _, _, _, _, h⟩
    · exact ⟨_, h⟩
    · exact Asn.right h
  obtain ⟨_, h1⟩ := h1
  have g0 : A.cell? ((⟨qs, 0, none⟩ : Addr).add (0 * 1)) = some (.slice pa a.length a.length) := by rw [at0]; exact Asn.cellAt h rfl
  have g1 : A.cell? ((⟨qs, 0, none⟩ : Addr).add (1 * 1)) = some (.slice pb b.length b.length) := by rw [at1]; exact Asn.cellAt h rfl
  have k0 : A1.cell? ((⟨qs, 0, none⟩ : Addr).add (0 * 1)) = some (.slice pa a.length a.length) := by rw [at0]; exact Asn.cellAt h1 rfl
  -- what the appends leave
  have hap : ∃ v1 A2 v2 A3 F3, (∀ (o : Oper) (c : Call) (ρ : Operand → Value), o.op = .call c → c.callee = .builtin .append → c.argTypes = #[25, 25] → c.args.toList.map ρ = [v0, .slice pa a.length a.length] → AOp Try.prog ρ o A1 (.value v1) A2) ∧
      A2.cell? ((⟨qs, 0, none⟩ : Addr).add (1 * 1)) = some (.slice pb b.length b.length) ∧
      (∀ (o : Oper) (c : Call) (ρ : Operand → Value), o.op = .call c → c.callee = .builtin .append → c.argTypes = #[25, 25] → c.args.toList.map ρ = [v1, .slice pb b.length b.length] → AOp Try.prog ρ o A2 (.value v2) A3) ∧
      Asn.all [spans v2 (a ++ b), spans (.slice pa a.length a.length) a, spans (.slice pb b.length b.length) b, J] F3 A3 ∧ Step F A F3 A3 := by
    rcases hg with ⟨e, rfl, hj⟩ | ⟨hn, d, zs, rfl, hzs, hj⟩
    · obtain rfl : a = [] := List.eq_nil_of_length_eq_zero (by omega)
      obtain rfl : b = [] := List.eq_nil_of_length_eq_zero (by omega)
      obtain ⟨_, ja⟩ := Asn.left (Asn.perm _ [1, 0, 2, 3] hj (by decide))
      obtain ⟨_, jb⟩ := Asn.left (Asn.perm _ [2, 0, 1, 3] hj (by decide))
      obtain ⟨F3, h3, S3⟩ := Asn.drop hj
      exact ⟨.slice none 0 0, A1, .slice none 0 0, A1, F3, app_nil ja, by rw [at1]; exact Asn.cellAt hj rfl, app_nil jb, ⟨fun _ => False, F3, .inl ⟨rfl, rfl, fun _ h => h⟩, h3, fun _ h => h.elim, fun b => by simp⟩, S1.trans S3⟩
    · obtain ⟨_, jr⟩ := Asn.right hj
      obtain ⟨_, ja⟩ := Asn.left (Asn.perm _ [1, 0, 2, 3] jr (by decide))
      obtain ⟨A2, ap1, h2, S2⟩ := app_in (cur := 0) o0 hj hzs ja (by omega)
      obtain ⟨_, j2r⟩ := Asn.right h2
      obtain ⟨_, jb⟩ := Asn.left (Asn.perm _ [2, 0, 1, 3] j2r (by decide))
      have hs2 : (putL zs (0 * 2) (cells2 a).toList).size = (a.length + b.length) * 2 := by rw [putL_size]; exact hzs
      obtain ⟨A3, ap2, h3, S3⟩ := app_in (cur := 0 + a.length) o0 h2 hs2 jb (by omega)
      have hfin : putL (putL zs (0 * 2) (cells2 a).toList) ((0 + a.length) * 2) (cells2 b).toList = cells2 (a ++ b) := by
        rw [Nat.zero_mul, Nat.zero_add]
        exact putL_both hzs
      rw [hfin] at h3
      obtain ⟨F4, h4, S4⟩ := Asn.drop (Asn.swap h3)
      refine ⟨_, A2, _, A3, F4, ap1, by rw [at1]; exact Asn.cellAt j2r rfl, ap2, Asn.map h4 fun F hb => .inr ⟨by simp; omega, d, by simp, hb⟩, S1.trans (S2.trans (S3.trans S4))⟩
  obtain ⟨v1, A2, v2, A3, F3, ap1, k1, ap2, h3, S3⟩ := hap
  suffices hw : wpF Try.prog n₀ 37 #[.slice (some ⟨qs, 0, none⟩) 2 2] (fun r A' => r = v2 ∧ A' = A3) A by
    obtain ⟨r, A', h1, rfl, rfl⟩ := hw
    exact ⟨_, _, F3, h1, h3, S3⟩
  refine wpF_fn (ts := #[.slice (some ⟨qs, 0, none⟩) 2 2, undef, undef, undef, undef, undef, undef, undef, undef, undef, undef, undef, undef, undef, undef, undef, undef, undef, undef, undef, undef, undef, undef, undef, undef, undef, undef, undef, undef, undef, undef, undef, undef, undef, undef, undef]) good ⟨rfl, rfl, rfl⟩ (by kernel_rfl) ?_
  refine cw_seq good (cw_region good ?_)
  refine wpO_as (.slice none 0 0) (by kernel_rfl) ?_
  simp only [Act.put, List.setIfInBounds_toArray, List.set_cons_succ, List.set_cons_zero]
  refine cw_seq good (cw_region good ?_)
  refine wpO_as (.int .i64 (0 : Nat)) (by kernel_rfl) ?_
  simp only [Act.put, List.setIfInBounds_toArray, List.set_cons_succ, List.set_cons_zero]
  refine cw_seq good (cw_seq good (cw_region good ?_))
  refine wpO_mv (.slice (some ⟨qs, 0, none⟩) 2 2) (by kernel_rfl) ?_
  refine wpO_val (aop_lenV (b := (some ⟨qs, 0, none⟩)) (len := 2) (cap := 2) rfl rfl rfl rfl (by kernel_rfl) rfl) ?_
  refine wpO_mv (.int .i64 (0 : Nat)) (by kernel_rfl) ?_
  simp only [Act.put, List.setIfInBounds_toArray, List.set_cons_succ, List.set_cons_zero]
  refine cw_block good (cw_loop good ?_)
  refine wpL_step ?_
  refine cw_seq good (cw_region good ?_)
  refine wpO_val (aop_int (k := .i64) (m := (0 : Nat)) (n := (2 : Nat)) (v := .bool true) rfl (by kernel_rfl) (by kernel_rfl) rfl) ?_
  simp only [Act.put, List.setIfInBounds_toArray, List.set_cons_succ, List.set_cons_zero]
  refine cw_seq good (cw_cond good true (by kernel_rfl) (cw_skip good ?_))
  refine cw_seq good (cw_block good (cw_seq good (cw_region good ?_)))
  refine wpO_val (aop_index (k := .i64) (len := 2) (cap := 2) (i := 0) (p := ⟨qs, 0, none⟩) rfl (by kernel_rfl) (by kernel_rfl) rfl rfl (by decide)) ?_
  refine wpO_val (aop_load (v := .slice pa a.length a.length) rfl (by kernel_rfl) rfl g0) ?_
  refine wpO_as (.slice pa a.length a.length) (by kernel_rfl) ?_
  simp only [Act.put, List.setIfInBounds_toArray, List.set_cons_succ, List.set_cons_zero]
  refine cw_seq good (cw_region good ?_)
  refine wpO_mv (.int .i64 (0 : Nat)) (by kernel_rfl) ?_
  refine wpO_mv (.slice pa a.length a.length) (by kernel_rfl) ?_
  refine wpO_val (aop_lenV (b := pa) (len := a.length) (cap := a.length) rfl rfl rfl rfl (by kernel_rfl) rfl) ?_
  simp only [Act.put, List.setIfInBounds_toArray, List.set_cons_succ, List.set_cons_zero]
  refine wpO_val (aop_int (k := .i64) (m := (0 : Nat)) (n := a.length) (v := .int .i64 (a.length : Nat)) rfl (by kernel_rfl) (by kernel_rfl) (intV_add (by omega) (by omega) (by omega))) ?_
  refine wpO_as (.int .i64 (a.length : Nat)) (by kernel_rfl) ?_
  simp only [Act.put, List.setIfInBounds_toArray, List.set_cons_succ, List.set_cons_zero]
  refine cw_seq good (cw_region good ?_)
  refine wpO_mv (.int .i64 (a.length : Nat)) (by kernel_rfl) ?_
  refine wpO_val (aop_int (k := .i64) (m := (a.length : Nat)) (n := 0) (v := .bool false) rfl (by kernel_rfl) (by kernel_rfl) (by simp [intV] <;> omega)) ?_
  simp only [Act.put, List.setIfInBounds_toArray, List.set_cons_succ, List.set_cons_zero]
  refine cw_cond good false (by kernel_rfl) (cw_skip good ?_)
  refine cw_region good ?_
  refine wpO_val (aop_int (k := .i64) (m := (0 : Nat)) (n := 1) (v := .int .i64 (1 : Nat)) rfl (by kernel_rfl) (by kernel_rfl) rfl) ?_
  refine wpO_mv (.int .i64 (1 : Nat)) (by kernel_rfl) ?_
  simp only [Act.put, List.setIfInBounds_toArray, List.set_cons_succ, List.set_cons_zero]
  refine wpL_step ?_
  refine cw_seq good (cw_region good ?_)
  refine wpO_val (aop_int (k := .i64) (m := (1 : Nat)) (n := (2 : Nat)) (v := .bool true) rfl (by kernel_rfl) (by kernel_rfl) rfl) ?_
  simp only [Act.put, List.setIfInBounds_toArray, List.set_cons_succ, List.set_cons_zero]
  refine cw_seq good (cw_cond good true (by kernel_rfl) (cw_skip good ?_))
  refine cw_seq good (cw_block good (cw_seq good (cw_region good ?_)))
  refine wpO_val (aop_index (k := .i64) (len := 2) (cap := 2) (i := 1) (p := ⟨qs, 0, none⟩) rfl (by kernel_rfl) (by kernel_rfl) rfl rfl (by decide)) ?_
  refine wpO_val (aop_load (v := .slice pb b.length b.length) rfl (by kernel_rfl) rfl g1) ?_
  refine wpO_as (.slice pb b.length b.length) (by kernel_rfl) ?_
  simp only [Act.put, List.setIfInBounds_toArray, List.set_cons_succ, List.set_cons_zero]
  refine cw_seq good (cw_region good ?_)
  refine wpO_mv (.int .i64 (a.length : Nat)) (by kernel_rfl) ?_
  refine wpO_mv (.slice pb b.length b.length) (by kernel_rfl) ?_
  refine wpO_val (aop_lenV (b := pb) (len := b.length) (cap := b.length) rfl rfl rfl rfl (by kernel_rfl) rfl) ?_
  simp only [Act.put, List.setIfInBounds_toArray, List.set_cons_succ, List.set_cons_zero]
  refine wpO_val (aop_int (k := .i64) (m := (a.length : Nat)) (n := b.length) (v := .int .i64 (a.length + b.length : Nat)) rfl (by kernel_rfl) (by kernel_rfl) (intV_add (by omega) (by omega) (by omega))) ?_
  refine wpO_as (.int .i64 (a.length + b.length : Nat)) (by kernel_rfl) ?_
  simp only [Act.put, List.setIfInBounds_toArray, List.set_cons_succ, List.set_cons_zero]
  refine cw_seq good (cw_region good ?_)
  refine wpO_mv (.int .i64 (a.length + b.length : Nat)) (by kernel_rfl) ?_
  refine wpO_val (aop_int (k := .i64) (m := (a.length + b.length : Nat)) (n := 0) (v := .bool false) rfl (by kernel_rfl) (by kernel_rfl) (by simp [intV] <;> omega)) ?_
  simp only [Act.put, List.setIfInBounds_toArray, List.set_cons_succ, List.set_cons_zero]
  refine cw_cond good false (by kernel_rfl) (cw_skip good ?_)
  refine cw_region good ?_
  refine wpO_val (aop_int (k := .i64) (m := (1 : Nat)) (n := 1) (v := .int .i64 (2 : Nat)) rfl (by kernel_rfl) (by kernel_rfl) rfl) ?_
  refine wpO_mv (.int .i64 (2 : Nat)) (by kernel_rfl) ?_
  simp only [Act.put, List.setIfInBounds_toArray, List.set_cons_succ, List.set_cons_zero]
  refine wpL_step ?_
  refine cw_seq good (cw_region good ?_)
  refine wpO_val (aop_int (k := .i64) (m := (2 : Nat)) (n := (2 : Nat)) (v := .bool false) rfl (by kernel_rfl) (by kernel_rfl) rfl) ?_
  simp only [Act.put, List.setIfInBounds_toArray, List.set_cons_succ, List.set_cons_zero]
  refine cw_seq good (cw_cond good false (by kernel_rfl) (cw_exit good ?_))
  refine cw_seq good (cw_region good ?_)
  refine wpO_mv (.int .i64 (a.length + b.length : Nat)) (by kernel_rfl) ?_
  simp only [Act.put, List.setIfInBounds_toArray, List.set_cons_succ, List.set_cons_zero]
  refine wpO_call (f := 46) (first := #[]) (cap := #[]) (l := [.slice none 0 0, .int .i64 (a.length + b.length : Nat)]) (xs := #[.slice none 0 0, .int .i64 (a.length + b.length : Nat)]) ⟨rfl, rfl, rfl⟩ rfl (by kernel_rfl) rfl ⟨_, _, c1, ?_⟩
  simp only [Act.put, List.setIfInBounds_toArray, List.set_cons_succ, List.set_cons_zero]
  refine wpO_as (v0) (by kernel_rfl) ?_
  simp only [Act.put, List.setIfInBounds_toArray, List.set_cons_succ, List.set_cons_zero]
  refine cw_seq good (cw_seq good (cw_region good ?_))
  refine wpO_mv (.slice (some ⟨qs, 0, none⟩) 2 2) (by kernel_rfl) ?_
  refine wpO_val (aop_lenV (b := (some ⟨qs, 0, none⟩)) (len := 2) (cap := 2) rfl rfl rfl rfl (by kernel_rfl) rfl) ?_
  refine wpO_mv (.int .i64 (0 : Nat)) (by kernel_rfl) ?_
  simp only [Act.put, List.setIfInBounds_toArray, List.set_cons_succ, List.set_cons_zero]
  refine cw_block good (cw_loop good ?_)
  refine wpL_step ?_
  refine cw_seq good (cw_region good ?_)
  refine wpO_val (aop_int (k := .i64) (m := (0 : Nat)) (n := (2 : Nat)) (v := .bool true) rfl (by kernel_rfl) (by kernel_rfl) rfl) ?_
  simp only [Act.put, List.setIfInBounds_toArray, List.set_cons_succ, List.set_cons_zero]
  refine cw_seq good (cw_cond good true (by kernel_rfl) (cw_skip good ?_))
  refine cw_seq good (cw_block good (cw_seq good (cw_region good ?_)))
  refine wpO_val (aop_index (k := .i64) (len := 2) (cap := 2) (i := 0) (p := ⟨qs, 0, none⟩) rfl (by kernel_rfl) (by kernel_rfl) rfl rfl (by decide)) ?_
  refine wpO_val (aop_load (v := .slice pa a.length a.length) rfl (by kernel_rfl) rfl k0) ?_
  refine wpO_as (.slice pa a.length a.length) (by kernel_rfl) ?_
  simp only [Act.put, List.setIfInBounds_toArray, List.set_cons_succ, List.set_cons_zero]
  refine cw_region good ?_
  refine wpO_mv (v0) (by kernel_rfl) ?_
  refine wpO_mv (.slice pa a.length a.length) (by kernel_rfl) ?_
  simp only [Act.put, List.setIfInBounds_toArray, List.set_cons_succ, List.set_cons_zero]
  refine wpO_val (ap1 _ _ _ rfl rfl rfl (by kernel_rfl)) ?_
  simp only [Act.put, List.setIfInBounds_toArray, List.set_cons_succ, List.set_cons_zero]
  refine wpO_as (v1) (by kernel_rfl) ?_
  simp only [Act.put, List.setIfInBounds_toArray, List.set_cons_succ, List.set_cons_zero]
  refine cw_region good ?_
  refine wpO_val (aop_int (k := .i64) (m := (0 : Nat)) (n := 1) (v := .int .i64 (1 : Nat)) rfl (by kernel_rfl) (by kernel_rfl) rfl) ?_
  refine wpO_mv (.int .i64 (1 : Nat)) (by kernel_rfl) ?_
  simp only [Act.put, List.setIfInBounds_toArray, List.set_cons_succ, List.set_cons_zero]
  refine wpL_step ?_
  refine cw_seq good (cw_region good ?_)
  refine wpO_val (aop_int (k := .i64) (m := (1 : Nat)) (n := (2 : Nat)) (v := .bool true) rfl (by kernel_rfl) (by kernel_rfl) rfl) ?_
  simp only [Act.put, List.setIfInBounds_toArray, List.set_cons_succ, List.set_cons_zero]
  refine cw_seq good (cw_cond good true (by kernel_rfl) (cw_skip good ?_))
  refine cw_seq good (cw_block good (cw_seq good (cw_region good ?_)))
  refine wpO_val (aop_index (k := .i64) (len := 2) (cap := 2) (i := 1) (p := ⟨qs, 0, none⟩) rfl (by kernel_rfl) (by kernel_rfl) rfl rfl (by decide)) ?_
  refine wpO_val (aop_load (v := .slice pb b.length b.length) rfl (by kernel_rfl) rfl k1) ?_
  refine wpO_as (.slice pb b.length b.length) (by kernel_rfl) ?_
  simp only [Act.put, List.setIfInBounds_toArray, List.set_cons_succ, List.set_cons_zero]
  refine cw_region good ?_
  refine wpO_mv (v1) (by kernel_rfl) ?_
  refine wpO_mv (.slice pb b.length b.length) (by kernel_rfl) ?_
  simp only [Act.put, List.setIfInBounds_toArray, List.set_cons_succ, List.set_cons_zero]
  refine wpO_val (ap2 _ _ _ rfl rfl rfl (by kernel_rfl)) ?_
  simp only [Act.put, List.setIfInBounds_toArray, List.set_cons_succ, List.set_cons_zero]
  refine wpO_as (v2) (by kernel_rfl) ?_
  simp only [Act.put, List.setIfInBounds_toArray, List.set_cons_succ, List.set_cons_zero]
  refine cw_region good ?_
  refine wpO_val (aop_int (k := .i64) (m := (1 : Nat)) (n := 1) (v := .int .i64 (2 : Nat)) rfl (by kernel_rfl) (by kernel_rfl) rfl) ?_
  refine wpO_mv (.int .i64 (2 : Nat)) (by kernel_rfl) ?_
  simp only [Act.put, List.setIfInBounds_toArray, List.set_cons_succ, List.set_cons_zero]
  refine wpL_step ?_
  refine cw_seq good (cw_region good ?_)
  refine wpO_val (aop_int (k := .i64) (m := (2 : Nat)) (n := (2 : Nat)) (v := .bool false) rfl (by kernel_rfl) (by kernel_rfl) rfl) ?_
  simp only [Act.put, List.setIfInBounds_toArray, List.set_cons_succ, List.set_cons_zero]
  refine cw_seq good (cw_cond good false (by kernel_rfl) (cw_exit good ?_))
  refine cw_seq good (cw_region good ?_)
  refine wpO_mv (v2) (by kernel_rfl) ?_
  refine wpO_as (v2) (by kernel_rfl) ?_
  simp only [Act.put, List.setIfInBounds_toArray, List.set_cons_succ, List.set_cons_zero]
  exact cw_ret good (ret_one (v2) (by kernel_rfl) ⟨rfl, rfl⟩)
end Go.Proofs.Ytfkdkfleaiaoiaa
/-
  The kit's contract of slices.SortFunc at pairs, laid at this program (written by the kit's lay-shelf and lay-plain): the table of numbers, its facts.
-/
namespace Go.Proofs
open Go.Shelf
def Try.laysSlF06_f38_ren : Go.Shelf.Ren := ⟨fun | 6 => 38 | 15 => 44 | 14 => 47 | 28 => 57 | 29 => 58 | 20 => 59 | 21 => 60 | 22 => 61 | 23 => 62 | 24 => 63 | 25 => 64 | 26 => 65 | 27 => 66 | 46 => 73 | 47 => 68 | 48 => 69 | 49 => 74 | 50 => 75 | 57 => 77 | n => n, fun | 22 => 25 | 24 => 42 | 25 => 58 | 3 => 3 | 39 => 63 | 0 => 0 | 53 => 78 | 55 => 80 | 4 => 4 | 46 => 71 | 45 => 70 | 50 => 75 | 5 => 5 | 9 => 9 | 66 => 86 | 70 => 90 | 76 => 94 | 77 => 95 | n => n, fun | n => n⟩
theorem Try.laysSlF06_f38 : Go.Proofs.SlLaysF0.n6 Try.prog Try.laysSlF06_f38_ren := {
  mixed := by kernel_rfl
  f6 := ⟨Try.f38.name, by decide, Try.func38.trans (congrArg some (by kernel_rfl))⟩
  f14 := ⟨Try.f47.name, by decide, Try.func47.trans (congrArg some (by kernel_rfl))⟩
  f15 := Try.func44.trans (congrArg some (by kernel_rfl))
  f20 := ⟨Try.f59.name, by decide, Try.func59.trans (congrArg some (by kernel_rfl))⟩
  f21 := ⟨Try.f60.name, by decide, Try.func60.trans (congrArg some (by kernel_rfl))⟩
  f22 := ⟨Try.f61.name, by decide, Try.func61.trans (congrArg some (by kernel_rfl))⟩
  f23 := ⟨Try.f62.name, by decide, Try.func62.trans (congrArg some (by kernel_rfl))⟩
  f24 := ⟨Try.f63.name, by decide, Try.func63.trans (congrArg some (by kernel_rfl))⟩
  f25 := ⟨Try.f64.name, by decide, Try.func64.trans (congrArg some (by kernel_rfl))⟩
  f26 := ⟨Try.f65.name, by decide, Try.func65.trans (congrArg some (by kernel_rfl))⟩
  f27 := ⟨Try.f66.name, by decide, Try.func66.trans (congrArg some (by kernel_rfl))⟩
  f28 := Try.func57.trans (congrArg some (by kernel_rfl))
  f29 := Try.func58.trans (congrArg some (by kernel_rfl))
  f46 := ⟨Try.f73.name, by decide, Try.func73.trans (congrArg some (by kernel_rfl))⟩
  f47 := Try.func68.trans (congrArg some (by kernel_rfl))
  f48 := Try.func69.trans (congrArg some (by kernel_rfl))
  f49 := ⟨Try.f74.name, by decide, Try.func74.trans (congrArg some (by kernel_rfl))⟩
  f50 := ⟨Try.f75.name, by decide, Try.func75.trans (congrArg some (by kernel_rfl))⟩
  f57 := ⟨Try.f77.name, by decide, Try.func77.trans (congrArg some (by kernel_rfl))⟩
  t0 := Try.underlying0
  a0 := Try.isAgg0
  z0 := Try.sizeOf0
  v0 := Try.zeroValue0
  t3 := Try.underlying3
  a3 := Try.isAgg3
  z3 := Try.sizeOf3
  v3 := Try.zeroValue3
  t4 := Try.underlying4
  a4 := Try.isAgg4
  z4 := Try.sizeOf4
  v4 := Try.zeroValue4
  t5 := Try.underlying5
  a5 := Try.isAgg5
  z5 := Try.sizeOf5
  v5 := Try.zeroValue5
  t9 := Try.underlying9
  a9 := Try.isAgg9
  z9 := Try.sizeOf9
  v9 := Try.zeroValue9
  t22 := Try.underlying25
  a22 := Try.isAgg25
  z22 := Try.sizeOf25
  v22 := Try.zeroValue25
  t25 := Try.underlying58
  a25 := Try.isAgg58
  z25 := Try.sizeOf58
  v25 := Try.zeroValue58
  t39 := Try.underlying63
  a39 := Try.isAgg63
  z39 := Try.sizeOf63
  v39 := Try.zeroValue63
  t45 := Try.underlying70
  a45 := Try.isAgg70
  z45 := Try.sizeOf70
  v45 := Try.zeroValue70
  t46 := Try.underlying71
  a46 := Try.isAgg71
  z46 := Try.sizeOf71
  v46 := Try.zeroValue71
  t50 := Try.underlying75
  a50 := Try.isAgg75
  z50 := Try.sizeOf75
  v50 := Try.zeroValue75
  t53 := Try.underlying78
  a53 := Try.isAgg78
  z53 := Try.sizeOf78
  v53 := Try.zeroValue78
  t55 := Try.underlying80
  a55 := Try.isAgg80
  z55 := Try.sizeOf80
  v55 := Try.zeroValue80
  t66 := Try.underlying86
  a66 := Try.isAgg86
  z66 := Try.sizeOf86
  v66 := Try.zeroValue86
  t70 := Try.underlying90
  a70 := Try.isAgg90
  z70 := Try.sizeOf90
  v70 := Try.zeroValue90
  t76 := Try.underlying94
  a76 := Try.isAgg94
  z76 := Try.sizeOf94
  v76 := Try.zeroValue94
  t77 := Try.underlying95
  a77 := Try.isAgg95
  z77 := Try.sizeOf95
  v77 := Try.zeroValue95 }
open Go.RowKit Go.Lib Go.Sort in
/-- **slices.SortFunc: WHAT THE ROW HOLDS, TO THE ELEMENT.** (LAID AT THE INSTANCE 'slices.SortFunc[[][2]int,[2]int]': no walk: one application.) -/
theorem Try.slices_SortFunc_eq {α : Type} [Inhabited α] (k : Nat) (aE : ∀ w, (isAgg 42).run Try.prog w = .ok true w) (zE : ∀ w, (Go.sizeOf 42).run Try.prog w = .ok k w) (enc : α → List Value) (hk : ∀ x, (enc x).length = k) (h1 : ∀ x, ∀ v ∈ enc x, v.oneCell' = true) (cf : α → α → Int) (hO : SWO (ltOf cf)) (g : Nat) (cb : Array Value) (blk off cap : Nat) (d : Array α) (w : World) (eg : ∀ args w, (callFunc g args).run Try.prog w = .ok (.enter g args) w) (hcmp : CmpLays Try.prog g cb enc k cf blk off d.size w) (hH : HoldsK enc k w blk off d) (hblk : blk < w.heap.size) (hsz : d.size < 4611686018427387904) :
    Calls Try.prog 38 #[.slice (some ⟨blk, off, none⟩) d.size cap, .func (.func g) #[] cb] w fun e w' =>
      e = .returned (.tuple #[]) ∧ ∃ n os, w' = sortWorldK enc k w blk off n (pdq (ltOf cf) d 0 d.size (Lib.bitLen d.size) true true) os := AnyQ.slices_SortFunc_eq Try.laysSlF06_f38 k aE zE enc hk h1 cf hO g cb blk off cap d w eg hcmp hH hblk hsz
end Go.Proofs
/-
  slices.SortFunc at spans, by where they begin. No condition.
-/
namespace Go.Proofs.Ytfkdkfleaiaoiaa
open Go.Abs Go.RowKit Go.Sort Go.Lib
variable {n₀ : Nat}
set_option maxRecDepth 8000
/-- A span that begins where a number may stand. -/
abbrev Pt := { s : Int × Int // 0 ≤ s.1 ∧ s.1 ≤ 65536 }
instance : Inhabited Pt := ⟨⟨(0, 0), by decide⟩⟩
def encP (x : Pt) : List Value := [.int .i64 x.1.1, .int .i64 x.1.2]
def cfP (x y : Pt) : Int := x.1.1 - y.1.1
theorem ltP (x y : Pt) : ltOf cfP x y = decide (x.1.1 < y.1.1) := by
  unfold ltOf cfP
  by_cases h : x.1.1 < y.1.1
  · rw [decide_eq_true h, decide_eq_true (by omega)]
  · rw [decide_eq_false h, decide_eq_false (by omega)]
theorem swoP : SWO (ltOf cfP) where
  irrefl x := by rw [ltP]; simp
  trans x y z h1 h2 := by rw [ltP] at *; simp at *; omega
  ntrans x y z h1 h2 := by rw [ltP] at *; simp at *; omega
theorem flatP (d : Array Pt) : flatK encP 2 d = cells2 (d.toList.map (·.1)) := by
  apply Array.ext
  · rw [size_flatK, cells2_size]; simp
  · intro i h1 h2
    rw [size_flatK] at h1
    have hd : i / 2 < d.size := by omega
    have hs : (d.toList.map (·.1))[i / 2]? = some (d[i / 2]).1 := by simp [hd]
    obtain ⟨e1, e2⟩ := cells2_at hs
    have hg := get_flatK encP 2 d i h1
    rw [getElem!_pos _ i (by rw [size_flatK]; exact h1)] at hg
    rw [hg, getElem!_pos d (i / 2) hd]
    have hi : i = i / 2 * 2 + i % 2 := by omega
    rcases (by omega : i % 2 = 0 ∨ i % 2 = 1) with h | h
    · rw [h]
      have : i / 2 * 2 = i := by omega
      rw [this] at e1
      rw [Array.getElem?_eq_getElem h2] at e1
      injection e1 with e1
      rw [e1]; rfl
    · rw [h]
      have : i / 2 * 2 + 1 = i := by omega
      rw [this] at e2
      rw [Array.getElem?_eq_getElem h2] at e2
      injection e2 with e2
      rw [e2]; rfl
def fn39 : Value := .func (.func 39) #[] #[]
theorem sortf_snd {m : List Sp} (hm : ∀ s ∈ m, 0 ≤ s.1 ∧ s.1 ≤ 65536) (hl : m.length < 90000) : ∃ m' : List Sp, m'.Perm m ∧ m'.Pairwise (fun s u => s.1 ≤ u.1) ∧
    ∀ {n₀ d cap : Nat} {A : World}, A.heap[d]? = some (.cells (cells2 m) 42 (1, 0)) → 0 < cap → SndCall Try.prog n₀ 38 #[.slice (some ⟨d, 0, none⟩) m.length cap, fn39] A undef (turn A d (.cells (cells2 m') 42 (1, 0))) := by
  obtain ⟨d, hd⟩ : ∃ d : Array Pt, d.toList.map (·.1) = m := ⟨(m.attach.map fun s => (⟨s.1, hm s.1 s.2⟩ : Pt)).toArray, by simp [Function.comp_def, List.attach_map_subtype_val]⟩
  have hsz : d.size = m.length := by rw [← hd]; simp
  obtain ⟨h1, h2⟩ := pdq_sorts (ltOf cfP) swoP d 0 d.size (Lib.bitLen d.size) true true (Nat.zero_le _) (Nat.le_refl _) (Or.inl rfl)
  generalize hd' : pdq (ltOf cfP) d 0 d.size (Lib.bitLen d.size) true true = d' at h1 h2
  obtain ⟨hs', _, hp⟩ := h1
  have hp' : d'.toList.Perm d.toList := by
    have e1 : d'.extract 0 d.size = d' := by rw [← hs']; simp
    have e2 : d.extract 0 d.size = d := by simp
    rwa [e1, e2] at hp
  have hm' : (d'.toList.map (·.1)).Perm m := by rw [← hd]; exact hp'.map _
  refine ⟨d'.toList.map (·.1), hm', ?_, fun {n₀ dd cap A} hA hcap => ?_⟩
  · rw [List.pairwise_iff_getElem]
    intro i j hi hj hij
    have hi' : i < d'.size := by simpa using hi
    have hj' : j < d'.size := by simpa using hj
    have := h2 i j (Nat.zero_le _) hij (by omega)
    rw [ltP, getElem!_pos d' j hj', getElem!_pos d' i hi'] at this
    simp at this
    simpa using this
  · have pl : ∀ {m : List Sp} (i : Nat) x, (cells2 m)[i]? = some x → plain x = true := fun {m} i x hx => by
      have hx' : x ∈ (cells2 m).toList := by
        have := Array.mem_of_getElem? hx
        simpa using this
      simp only [cells2, List.mem_flatMap] at hx'
      obtain ⟨s, _, hs⟩ := hx'
      simp only [List.mem_cons, List.not_mem_nil, or_false] at hs
      rcases hs with rfl | rfl <;> rfl
    have hlen' : (d'.toList.map (·.1)).length = m.length := hm'.length_eq
    refine snd_turn2 (g := fn39) rfl hA (.inr rfl) (by rw [cells2_size, cells2_size, hlen']) (.inl hcap) pl pl fun W blk off cap' cw tw fw hW hfw hcells => ?_
    have hb : blk < W.heap.size := (Array.getElem?_eq_some_iff.1 hW).1
    have hH : HoldsK encP 2 W blk off d := by
      unfold HoldsK
      rw [flatP, hd]
      exact holds_of hW hfw hcells
    have eg : ∀ args w, (callFunc 39 args).run Try.prog w = .ok (.enter 39 args) w := enters_of Try.func39 (by kernel_rfl) rfl
    have := Go.Proofs.Try.slices_SortFunc_eq (α := Pt) 2 (run_agg (n := 2) rfl) (run_szT (g := true) rfl) encP (fun _ => rfl) (fun x v hv => by simp [encP] at hv; rcases hv with rfl | rfl <;> rfl) cfP swoP 39 #[] blk off cap' d W eg (fun _ _ _ _ x y => closure39 x.1 y.1 _ x.2 y.2) hH hb (by omega)
    rw [hsz] at this
    refine this.mono ?_
    rintro e W' ⟨rfl, n, os, rfl⟩
    refine ⟨rfl, ?_⟩
    rw [← hsz, hd']
    unfold sortWorldK putRowK
    rw [flatP]
    refine turned_putV hb fun cw' tw' fw' h h0 => ?_
    rw [hW] at h; cases h
    rw [cells2_size, hlen'] at h0 ⊢
    have hlt : m.length * 2 - 1 < (cells2 m).size := by rw [cells2_size]; omega
    have := hcells (m.length * 2 - 1) _ (Array.getElem?_eq_getElem hlt)
    have := (Array.getElem?_eq_some_iff.1 this).1
    omega
end Go.Proofs.Ytfkdkfleaiaoiaa
