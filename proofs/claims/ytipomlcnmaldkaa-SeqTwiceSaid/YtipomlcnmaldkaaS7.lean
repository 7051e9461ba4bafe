/-
  SeqLazy answers true, of any list that may be read and any number. No condition.
-/
import Derived.Test.YtipomlcnmaldkaaS6
namespace Go.Proofs.Ytipomlcnmaldkaa
open Go.Abs Go.RowKit
variable {n₀ : Nat}
set_option maxRecDepth 4000
theorem begun_tells : tells Try.prog know0 1000 8 [] (.bool true) = true := by decide +kernel
theorem begun_known : Known Try.prog (knowTrue [8]) := knownTrue fun f hf W => by
  have e : f = 8 := by simpa using hf
  subst e
  exact tells_ok good known0 begun_tells W
theorem begun_call {A : World} : SndCall Try.prog n₀ 8 #[] A (.bool true) A := snd_known begun_known rfl

theorem lazy_call {A : World} {F : Foot} {p : Option Addr} {l : List Int} {c : Nat} {n : Int} (h : rd p l F A) (hc : l.length ≤ c) (hn : n < 9223372036854775808) : ∃ A', SndCall Try.prog n₀ 3 #[.slice p l.length c, .int .i64 n] A (.bool true) A' := by
  have hlen : (l.take 30).length = min l.length 30 := by rw [List.length_take, Nat.min_comm]
  generalize hl' : l.take 30 = l' at hlen
  have h0 : rd p l' F A := hl' ▸ rd_take h
  have hl30 : l'.length ≤ 30 := by omega
  have hcut : SndCall Try.prog n₀ 9 #[.slice p l.length c, .int .i64 30] A (.slice p l'.length c) A := by rw [hlen]; exact cut_call hc h.2.2
  -- the count
  obtain ⟨F1, h1, _⟩ := Asn.new Owns.rd h0 (.int .i64 0) 3
  obtain ⟨h2, _⟩ := Asn.put Owns.rd h1 (.int .i64 0)
  generalize hca : A.heap.size = ca at h1 h2
  generalize hA1 : A.alloc (.cells #[.int .i64 0] 3 (0, 0)) = A1 at h1 h2
  generalize hA2 : A1.setCell ⟨ca, 0, none⟩ (.int .i64 0) = A2 at h2
  -- what comes one by one
  obtain ⟨b1, A3, F3, c3, h3, _⟩ := of_do (n₀ := n₀) (v := .slice p l'.length c) (Owns.sep Owns.cel Owns.rd) h2 rfl
  have h3' : ((valsJ b1 p c l' ()).sep (cel ca (.int .i64 (0 : Nat)))) F3 A3 := Asn.assoc' (Asn.perm [cel b1 (.slice p l'.length c), cel ca (.int .i64 0), rd p l'] [0, 2, 1] h3 (by decide))
  obtain ⟨bs, bf, A4, F4, c4, h4, _⟩ := map_do (n₀ := n₀) (s := valsV b1) (f := askV ca) (J := valsJ b1 p c l') (K := fun m : Nat => cel ca (.int .i64 m)) (p := 0) (q := ()) Owns.cel (Owns.sep Owns.cel Owns.rd) h3' rfl rfl
  have hM := map_spec (n₀ := n₀) (bs := bs) (bf := bf) (ask_spec (c := ca)) (vals_spec (b := b1) (p := p) (cap := c) (l := l') (by omega))
  have ga : A4.cell? ⟨ca, 0, none⟩ = some (.int .i64 (0 : Nat)) := let ⟨_, q⟩ := Asn.right h4; Asn.get q
  obtain ⟨bn, bt, A5, F5, c5, h5, _⟩ := take_do (n₀ := n₀) (s := mapV bs bf) (n := n) (hM.loc _) h4 rfl
  have hT := take_spec (bn := bn) (bs := bt) hM hn
  obtain ⟨v, A6, F6, c6, h6, _⟩ := list_call hT h5 (run_lazy hl30 hn)
  generalize hm : (max 0 (min n (l'.length : Int))).toNat = m at h6
  have hm' : m ≤ l'.length := by omega
  obtain ⟨_, hv⟩ := Asn.right h6
  obtain ⟨pv, rfl, hrv⟩ := lstV_rd hv
  obtain ⟨_, hk⟩ := Asn.left h6
  have hk2 : Asn.all [cel bn (.int .i64 n), cel bt (mapV bs bf), valsJ b1 p c l' (), cel ca (.int .i64 m), cel bs (valsV b1), cel bf (askV ca)] _ A6 := hk
  have gm : A6.cell? ⟨ca, 0, none⟩ = some (.int .i64 m) := Asn.get (Asn.perm _ [3, 0, 1, 2, 4, 5] hk2 (by decide))
  obtain ⟨_, hr⟩ := Asn.left (Asn.perm _ [2, 0, 1, 3, 4, 5] hk2 (by decide))
  obtain ⟨_, hr⟩ := Asn.right hr
  have hlm : (l'.take m).length = m := by rw [List.length_take]; omega
  rw [hlm] at c6
  have ceq : SndCall Try.prog n₀ 15 #[.slice pv m m, .slice p m c] A6 (.bool true) A6 := by
    have := eq_true (n₀ := n₀) (c := m) (d := c) (by rw [hlm]; omega) hrv (Rd_take (k := m) hr.2.1)
    rw [hlm] at this
    exact this
  have : wpF Try.prog n₀ 3 #[.slice p l.length c, .int .i64 n] (fun v A' => v = .bool true) A := by
    refine wpF_fn (ts := #[.slice p l.length c, .int .i64 n, undef, undef, undef, undef, undef, undef, undef, undef, undef, undef, undef, undef, undef, undef, undef, undef, undef, undef, undef, undef, undef, undef, undef, undef, undef, undef, undef, undef, undef, undef, undef, undef, undef, undef, undef, undef, undef, undef]) good ⟨rfl, rfl, rfl⟩ (by kernel_rfl) ?_
    refine cw_seq good (cw_region good ?_)
    refine wpO_as (.bool false) rfl ?_
    simp only [Act.put, List.setIfInBounds_toArray, List.set_cons_succ, List.set_cons_zero]
    refine cw_seq good (cw_region good ?_)
    refine wpO_call (f := 8) (first := #[]) (cap := #[]) (l := []) (xs := #[]) ⟨rfl, rfl, rfl⟩ rfl rfl rfl ⟨_, _, begun_call, ?_⟩
    refine wpO_as (.bool true) rfl ?_
    simp only [Act.put, List.setIfInBounds_toArray, List.set_cons_succ, List.set_cons_zero]
    refine cw_seq good (cw_seq good (cw_region good ?_))
    refine wpO_mv (.bool true) rfl ?_
    refine wpO_val (aop_not (b := true) rfl rfl) ?_
    simp only [Act.put, List.setIfInBounds_toArray, List.set_cons_succ, List.set_cons_zero]
    refine cw_cond good false rfl (cw_skip good ?_)
    refine cw_seq good (cw_region good ?_)
    refine wpO_mv (.slice p l.length c) rfl ?_
    refine wpO_call (f := 9) (first := #[]) (cap := #[]) (l := [.slice p l.length c, .int .i64 30]) (xs := #[.slice p l.length c, .int .i64 30]) ⟨rfl, rfl, rfl⟩ rfl rfl rfl ⟨_, _, hcut, ?_⟩
    refine wpO_as (.slice p l'.length c) rfl ?_
    simp only [Act.put, List.setIfInBounds_toArray, List.set_cons_succ, List.set_cons_zero]
    refine cw_seq good (cw_region good ?_)
    refine wpO_val (aop_alloc rfl rfl rfl rfl) ?_
    rw [hca, hA1]
    refine wpO_unit (aop_store (p := ⟨ca, 0, none⟩) (v := .int .i64 0) rfl rfl rfl rfl rfl (Asn.get h1) (Asn.soft h1)) ?_
    rw [hA2]
    simp only [Act.put, List.setIfInBounds_toArray, List.set_cons_succ, List.set_cons_zero]
    refine cw_seq good (cw_region good ?_)
    refine wpO_mv (.slice p l'.length c) rfl ?_
    refine wpO_call (f := 11) (first := #[]) (cap := #[]) (l := [.slice p l'.length c]) (xs := #[.slice p l'.length c]) ⟨rfl, rfl, rfl⟩ rfl rfl rfl ⟨_, _, c3, ?_⟩
    refine wpO_val (aop_func (l := []) (l' := [ptr ca]) rfl rfl rfl) ?_
    simp only [Act.put, List.setIfInBounds_toArray, List.set_cons_succ, List.set_cons_zero]
    refine wpO_call (f := 10) (first := #[]) (cap := #[]) (l := [valsV b1, askV ca]) (xs := #[valsV b1, askV ca]) ⟨rfl, rfl, rfl⟩ rfl rfl rfl ⟨_, _, c4, ?_⟩
    refine wpO_as (mapV bs bf) rfl ?_
    simp only [Act.put, List.setIfInBounds_toArray, List.set_cons_succ, List.set_cons_zero]
    refine cw_seq good (cw_seq good (cw_region good ?_))
    refine wpO_val (aop_load rfl rfl rfl ga) ?_
    refine wpO_val (aop_int (k := .i64) (m := (0 : Nat)) (n := 0) (v := .bool false) rfl rfl rfl rfl) ?_
    simp only [Act.put, List.setIfInBounds_toArray, List.set_cons_succ, List.set_cons_zero]
    refine cw_cond good false rfl (cw_skip good ?_)
    refine cw_seq good (cw_region good ?_)
    refine wpO_mv (mapV bs bf) rfl ?_
    refine wpO_mv (.int .i64 n) rfl ?_
    simp only [Act.put, List.setIfInBounds_toArray, List.set_cons_succ, List.set_cons_zero]
    refine wpO_call (f := 14) (first := #[]) (cap := #[]) (l := [mapV bs bf, .int .i64 n]) (xs := #[mapV bs bf, .int .i64 n]) ⟨rfl, rfl, rfl⟩ rfl rfl rfl ⟨_, _, c5, ?_⟩
    refine wpO_call (f := 13) (first := #[]) (cap := #[]) (l := [takeV bn bt]) (xs := #[takeV bn bt]) ⟨rfl, rfl, rfl⟩ rfl rfl rfl ⟨_, _, c6, ?_⟩
    refine wpO_as (.slice pv m m) rfl ?_
    simp only [Act.put, List.setIfInBounds_toArray, List.set_cons_succ, List.set_cons_zero]
    refine cw_seq good (cw_region good ?_)
    refine wpO_mv (.int .i64 n) rfl ?_
    refine wpO_mv (.slice p l'.length c) rfl ?_
    refine wpO_val (aop_len rfl rfl rfl rfl rfl) ?_
    refine wpO_val (aop_min (k := .i64) (m := n) (n := l'.length) rfl rfl rfl rfl) ?_
    simp only [Act.put, List.setIfInBounds_toArray, List.set_cons_succ, List.set_cons_zero]
    have e1 : (if (0 : Int) < (if (l'.length : Int) < n then (l'.length : Int) else n) then (if (l'.length : Int) < n then (l'.length : Int) else n) else 0) = (m : Int) := by split <;> split at * <;> omega
    refine wpO_val (aop_max (k := .i64) (m := 0) (n := if (l'.length : Int) < n then (l'.length : Int) else n) rfl rfl rfl rfl) ?_
    rw [e1]
    refine wpO_as (.int .i64 m) rfl ?_
    simp only [Act.put, List.setIfInBounds_toArray, List.set_cons_succ, List.set_cons_zero]
    refine cw_seq good (cw_region good ?_)
    refine wpO_val (aop_load rfl rfl rfl gm) ?_
    refine wpO_mv (.int .i64 m) rfl ?_
    refine wpO_val (aop_int (k := .i64) (m := m) (n := m) (v := .bool true) rfl rfl rfl (by simp [intV])) ?_
    refine wpO_mv (.bool true) rfl ?_
    simp only [Act.put, List.setIfInBounds_toArray, List.set_cons_succ, List.set_cons_zero]
    refine wpO_mv (.slice pv m m) rfl ?_
    refine wpO_mv (.slice p l'.length c) rfl ?_
    refine wpO_mv (.int .i64 m) rfl ?_
    simp only [Act.put, List.setIfInBounds_toArray, List.set_cons_succ, List.set_cons_zero]
    refine wpO_val (aop_slice (k := .i64) (l := 0) (h := m) rfl rfl rfl rfl (.inl ⟨rfl, rfl⟩) rfl (by omega) (by omega) (by omega) fun a ha => ro_block (hr.2.2 a ha)) ?_
    rw [slice0]
    simp only [Act.put, List.setIfInBounds_toArray, List.set_cons_succ, List.set_cons_zero]
    refine wpO_call (f := 15) (first := #[]) (cap := #[]) (l := [.slice pv m m, .slice p m c]) (xs := #[.slice pv m m, .slice p m c]) ⟨rfl, rfl, rfl⟩ rfl rfl rfl ⟨_, _, ceq, ?_⟩
    refine wpO_val (aop_pick (b := true) rfl rfl) ?_
    simp only [Act.put, List.setIfInBounds_toArray, List.set_cons_succ, List.set_cons_zero]
    refine wpO_as (.bool true) rfl ?_
    exact cw_ret good (ret_one (.bool true) rfl rfl)
  obtain ⟨v, A', h1, rfl⟩ := this
  exact ⟨A', h1⟩
end Go.Proofs.Ytipomlcnmaldkaa
