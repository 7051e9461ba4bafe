/-
  seq.Take: the first ones. No condition.
-/
import Derived.Test.YtipomlcnmaldkaaS2
namespace Go.Proofs.Ytipomlcnmaldkaa
open Go.Abs
variable {n₀ : Nat}
set_option maxRecDepth 4000
def ptr (b : Nat) : Value := .pointer (some ⟨b, 0, none⟩)
def takeV (bn bs : Nat) : Value := .func (.func 39) #[] #[ptr bn, ptr bs]
def takeY (lb yb : Nat) : Value := .func (.func 40) #[] #[ptr lb, ptr yb]
def takeSt {α : Type} (st : α → Int → Option (Bool × α)) : Nat × α → Int → Option (Bool × (Nat × α)) :=
  fun s x => if 0 < s.1 ∧ s.1 < 9223372036854775808 then (st s.2 x).map fun b => (b.1 && decide (1 < s.1), (s.1 - 1, b.2)) else none
def takeRun {β : Type} (n : Int) (run : ∀ α : Type, (α → Int → Option (Bool × α)) → β → α → Option (β × α)) : ∀ α : Type, (α → Int → Option (Bool × α)) → β → α → Option (β × α) :=
  fun α st s a => if n < 1 then some (s, a) else (run (Nat × α) (takeSt st) s (n.toNat, a)).map fun r => (r.1, r.2.2)
def takeI {α : Type} (lb yb : Nat) (y : Value) (I : α → Asn) : Nat × α → Asn := fun s => (cel lb (.int .i64 s.1)).sep ((cel yb y).sep (I s.2))
def takeJ {β : Type} (bn bs : Nat) (n : Int) (s : Value) (J : β → Asn) : β → Asn := fun p => (cel bn (.int .i64 n)).sep ((cel bs s).sep (J p))
theorem takeY_spec {α : Type} {lb yb : Nat} {y : Value} {I : α → Asn} {st : α → Int → Option (Bool × α)} (H : Ypec Try.prog n₀ y I st) : Ypec Try.prog n₀ (takeY lb yb) (takeI lb yb y I) (takeSt st) := by
  refine ⟨rfl, fun s => Owns.sep Owns.cel (Owns.sep Owns.cel (H.loc _)), fun {s F A x b s'} h hst => ?_⟩
  obtain ⟨m, a⟩ := s
  unfold takeSt at hst
  split at hst
  case isFalse => cases hst
  rename_i hm
  obtain ⟨hm, hm2⟩ := hm
  simp only at hm hm2 hst
  cases hs : st a x with
  | none => simp [hs] at hst
  | some r =>
    obtain ⟨bb, a'⟩ := r
    simp [hs] at hst
    obtain ⟨rfl, rfl⟩ := hst
    obtain ⟨h1, S1⟩ := Asn.put (Owns.sep Owns.cel (H.loc a)) h (.int .i64 (m - 1 : Nat))
    have h2 : Asn.all [I a, cel lb (.int .i64 (m - 1 : Nat)), cel yb y] F (A.setCell ⟨lb, 0, none⟩ (.int .i64 (m - 1 : Nat))) := Asn.perm [cel lb (.int .i64 (m - 1 : Nat)), cel yb y, I a] [2, 0, 1] h1 (by decide)
    obtain ⟨A2, F2, c2, h3, S2⟩ := Asn.frame (H.loc a) (Owns.sep Owns.cel Owns.cel) (H.loc a') h2 (R := fun A2 => CallV Try.prog n₀ y #[.int .i64 x] (A.setCell ⟨lb, 0, none⟩ (.int .i64 (m - 1 : Nat))) (.bool bb) A2) (fun F1 h1 => H.run h1 hs)
    have h4 : takeI lb yb y I (m - 1, a') F2 A2 := Asn.perm [I a', cel lb (.int .i64 (m - 1 : Nat)), cel yb y] [1, 2, 0] h3 (by decide)
    have : wpF Try.prog n₀ 40 #[.int .i64 x, ptr lb, ptr yb] (fun v A' => v = .bool (bb && decide (1 < m)) ∧ A' = A2) A := by
      refine wpF_fn (ts := #[.int .i64 x, ptr lb, ptr yb, undef, undef, undef, undef, undef, undef, undef, undef, undef, undef, undef]) good ⟨rfl, rfl, rfl⟩ rfl ?_
      refine cw_seq good (cw_region good ?_)
      refine wpO_as (.bool false) rfl ?_
      refine cw_seq good (cw_region good ?_)
      refine wpO_val (aop_load rfl rfl rfl (Asn.get h)) ?_
      refine wpO_val (aop_int (k := .i64) (m := m) (n := 1) (v := .int .i64 (m - 1 : Nat)) rfl rfl rfl (intV_sub (by omega) (by omega) (by omega))) ?_
      refine wpO_unit (aop_store (v := .int .i64 (m - 1 : Nat)) rfl rfl rfl rfl rfl (Asn.get h) (Asn.soft h)) ?_
      refine cw_seq good (cw_region good ?_)
      simp only [Act.put, List.setIfInBounds_toArray, List.set_cons_succ, List.set_cons_zero]
      refine wpO_val (aop_load rfl rfl rfl (Asn.get (Asn.swap h1))) ?_
      refine wpO_mv (.int .i64 x) rfl ?_
      refine wpO_callv (y := y) (l := [.int .i64 x]) c2 rfl rfl ?_
      refine wpO_mv (.bool bb) rfl ?_
      simp only [Act.put, List.setIfInBounds_toArray, List.set_cons_succ, List.set_cons_zero]
      cases bb with
      | false =>
        refine wpO_not ?_
        refine wpO_not ?_
        refine wpO_val (aop_pick (b := false) rfl rfl) ?_
        refine wpO_as (.bool false) rfl ?_
        exact cw_ret good (ret_one (.bool false) rfl ⟨rfl, rfl⟩)
      | true =>
        refine wpO_val (aop_load rfl rfl rfl (Asn.get h4)) ?_
        refine wpO_val (aop_int (k := .i64) (m := (m - 1 : Nat)) (n := 0) (v := .bool (decide (1 < m))) rfl rfl rfl (by simp only [intV]; congr 2; apply decide_eq_decide.2; omega)) ?_
        refine wpO_val (aop_pick (b := true) rfl rfl) ?_
        refine wpO_as (.bool (decide (1 < m))) rfl ?_
        exact cw_ret good (ret_one (.bool (decide (1 < m))) rfl ⟨by simp, rfl⟩)
    obtain ⟨v, A3, h5, rfl, rfl⟩ := this
    exact ⟨A3, F2, ⟨40, _, _, _, _, ⟨rfl, rfl, rfl⟩, rfl, h5⟩, h4, S1.trans S2⟩
theorem take_spec {β : Type} {bn bs : Nat} {n : Int} {s : Value} {J : β → Asn} {run : ∀ α : Type, (α → Int → Option (Bool × α)) → β → α → Option (β × α)} (Hs : Hands Try.prog n₀ s J run) (hn : n < 9223372036854775808) :
    Hands Try.prog n₀ (takeV bn bs) (takeJ bn bs n s J) (takeRun n run) := by
  refine ⟨fun _ => Owns.sep Owns.cel (Owns.sep Owns.cel (Hs.loc _)), fun {α y I st} H {b0 a0 b1 a1 F A} h hr => ?_⟩
  have hl : Asn.all [cel bn (.int .i64 n), cel bs s, J b0, I a0] F A := Asn.cat (l := [cel bn (.int .i64 n), cel bs s, J b0]) (l' := [I a0]) h
  have hO1 : Owns (Asn.all [cel bn (.int .i64 n), cel bs s, J b0, I a0]) := Owns.sep Owns.cel (Owns.sep Owns.cel (Owns.sep (Hs.loc _) (H.loc _)))
  obtain ⟨F1, h1, S1⟩ := Asn.new hO1 hl y 39
  have gn : (A.alloc (.cells #[y] 39 (0, 0))).cell? ⟨bn, 0, none⟩ = some (.int .i64 n) := Asn.get (Asn.swap h1)
  unfold takeRun at hr
  by_cases hlt : n < 1
  · rw [if_pos hlt] at hr
    cases hr
    obtain ⟨F2, h2, S2⟩ := Asn.drop h1
    have : wpF Try.prog n₀ 39 #[y, ptr bn, ptr bs] (fun v A' => v = undef ∧ A' = A.alloc (.cells #[y] 39 (0, 0))) A := by
      refine wpF_fn (ts := #[y, ptr bn, ptr bs, undef, undef, undef, undef, undef, undef, undef, undef]) good ⟨rfl, rfl, rfl⟩ rfl ?_
      refine cw_seq good (cw_region good ?_)
      refine wpO_val (aop_box (v := y) rfl rfl H.one) ?_
      refine cw_seq good (cw_seq good (cw_region good ?_))
      refine wpO_val (aop_load rfl rfl rfl gn) ?_
      refine wpO_val (aop_int (k := .i64) (m := n) (n := 1) rfl rfl rfl rfl) ?_
      refine cw_cond good true (congrArg Value.bool (by simpa using hlt)) (cw_ret good ?_)
      exact ret_none ⟨rfl, rfl⟩
    obtain ⟨v, A3, h5, rfl, rfl⟩ := this
    exact ⟨_, F2, ⟨39, _, _, _, _, ⟨rfl, rfl, rfl⟩, rfl, h5⟩, Asn.assoc' (Asn.map' h2 fun _ h => Asn.assoc' h), S1.trans S2⟩
  · rw [if_neg hlt] at hr
    have hr' : ∃ m1, run (Nat × α) (takeSt st) b0 (n.toNat, a0) = some (b1, (m1, a1)) := by
      cases hx : run (Nat × α) (takeSt st) b0 (n.toNat, a0) with
      | none => simp [hx] at hr
      | some r => obtain ⟨q, p, a⟩ := r; simp [hx] at hr; obtain ⟨rfl, rfl⟩ := hr; exact ⟨p, rfl⟩
    obtain ⟨m1, hr'⟩ := hr'
    obtain ⟨F2, h2, S2⟩ := Asn.new (Owns.sep Owns.cel hO1) h1 (.int .i64 0) 3
    obtain ⟨h3, S3⟩ := Asn.put (Owns.sep Owns.cel hO1) h2 (.int .i64 n)
    have e : ((n.toNat : Nat) : Int) = n := by omega
    have h4 : Asn.all [cel (A.alloc (.cells #[y] 39 (0, 0))).heap.size (.int .i64 (n.toNat : Nat)), cel A.heap.size y, cel bn (.int .i64 n), cel bs s, J b0, I a0] F2 (((A.alloc (.cells #[y] 39 (0, 0))).alloc (.cells #[.int .i64 0] 3 (0, 0))).setCell ⟨(A.alloc (.cells #[y] 39 (0, 0))).heap.size, 0, none⟩ (.int .i64 n)) := by rw [e]; exact h3
    have h5 := Asn.perm _ [4, 0, 1, 5, 2, 3] h4 (by decide)
    have hT := takeY_spec (lb := (A.alloc (.cells #[y] 39 (0, 0))).heap.size) (yb := A.heap.size) H
    have h6 : (((J b0).sep (takeI (A.alloc (.cells #[y] 39 (0, 0))).heap.size A.heap.size y I (n.toNat, a0))).sep ((cel bn (.int .i64 n)).sep (cel bs s))) F2 _ := Asn.assoc' (Asn.map' h5 fun _ h => Asn.assoc' (Asn.map' h fun _ h => Asn.assoc' h))
    obtain ⟨A2, F3, c2, h7, S4⟩ := Asn.frame (Owns.sep (Hs.loc b0) (hT.loc _)) (Owns.sep Owns.cel Owns.cel) (Owns.sep (Hs.loc b1) (hT.loc (m1, a1))) h6 (R := fun A2 => CallV Try.prog n₀ s #[takeY (A.alloc (.cells #[y] 39 (0, 0))).heap.size A.heap.size] _ undef A2) (fun F1 h => Hs.run hT h hr')
    have h8 : Asn.all [J b1, cel (A.alloc (.cells #[y] 39 (0, 0))).heap.size (.int .i64 m1), cel A.heap.size y, I a1, cel bn (.int .i64 n), cel bs s] F3 A2 := Asn.cat (l := [J b1, cel (A.alloc (.cells #[y] 39 (0, 0))).heap.size (.int .i64 m1), cel A.heap.size y, I a1]) (l' := [cel bn (.int .i64 n), cel bs s]) h7
    have h9 := Asn.perm _ [1, 2, 4, 5, 0, 3] h8 (by decide)
    obtain ⟨F4, h10, S5⟩ := Asn.drop (I := cel (A.alloc (.cells #[y] 39 (0, 0))).heap.size (.int .i64 m1)) h9
    obtain ⟨F5, h11, S6⟩ := Asn.drop (I := cel A.heap.size y) h10
    have : wpF Try.prog n₀ 39 #[y, ptr bn, ptr bs] (fun v A' => v = undef ∧ A' = A2) A := by
      refine wpF_fn (ts := #[y, ptr bn, ptr bs, undef, undef, undef, undef, undef, undef, undef, undef]) good ⟨rfl, rfl, rfl⟩ rfl ?_
      refine cw_seq good (cw_region good ?_)
      refine wpO_val (aop_box (v := y) rfl rfl H.one) ?_
      refine cw_seq good (cw_seq good (cw_region good ?_))
      refine wpO_val (aop_load rfl rfl rfl gn) ?_
      refine wpO_val (aop_int (k := .i64) (m := n) (n := 1) rfl rfl rfl rfl) ?_
      refine cw_cond good false (congrArg Value.bool (by simpa using hlt)) (cw_skip good ?_)
      refine cw_seq good (cw_region good ?_)
      refine wpO_val (aop_load rfl rfl rfl gn) ?_
      refine wpO_val (aop_alloc rfl rfl rfl rfl) ?_
      refine wpO_unit (aop_store (v := .int .i64 n) rfl rfl rfl rfl rfl (Asn.get h2) (Asn.soft h2)) ?_
      refine cw_region good ?_
      simp only [Act.put, List.setIfInBounds_toArray, List.set_cons_succ, List.set_cons_zero]
      refine wpO_val (aop_load rfl rfl rfl (Asn.get (J := _) (Asn.perm _ [5, 0, 1, 2, 3, 4] h5 (by decide)))) ?_
      refine wpO_val (aop_func (l := []) (l' := [ptr (A.alloc (.cells #[y] 39 (0, 0))).heap.size, ptr A.heap.size]) rfl rfl rfl) ?_
      simp only [Act.put, List.setIfInBounds_toArray, List.set_cons_succ, List.set_cons_zero]
      refine wpO_call (f := 35) (first := #[]) (cap := #[]) (l := [s, takeY (A.alloc (.cells #[y] 39 (0, 0))).heap.size A.heap.size]) (xs := #[s, takeY (A.alloc (.cells #[y] 39 (0, 0))).heap.size A.heap.size]) ⟨rfl, rfl, rfl⟩ rfl rfl rfl ⟨undef, A2, each_some c2, ?_⟩
      exact ret_none ⟨rfl, rfl⟩
    obtain ⟨v, A3, h12, rfl, rfl⟩ := this
    exact ⟨_, F5, ⟨39, _, _, _, _, ⟨rfl, rfl, rfl⟩, rfl, h12⟩, Asn.assoc' (Asn.map' (Asn.perm [cel bn (.int .i64 n), cel bs s, J b1, I a1] [0, 1, 2, 3] h11 (by decide)) fun _ h => Asn.assoc' h), S1.trans (S2.trans (S3.trans (S4.trans (S5.trans S6))))⟩
end Go.Proofs.Ytipomlcnmaldkaa
