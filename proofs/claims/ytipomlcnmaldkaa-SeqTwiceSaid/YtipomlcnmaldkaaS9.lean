/-
  seq.Keep and seq.Skip: those that a test lets through; those behind the first ones. No condition.
-/
import Derived.Test.YtipomlcnmaldkaaS6
namespace Go.Proofs.Ytipomlcnmaldkaa
open Go.Abs
variable {n₀ : Nat}
set_option maxRecDepth 4000
def keepV (bs bf : Nat) : Value := .func (.func 44) #[] #[ptr bs, ptr bf]
def keepY (bf yb : Nat) : Value := .func (.func 45) #[] #[ptr bf, ptr yb]
def keepSt {α : Type} (p : Int → Bool) (st : α → Int → Option (Bool × α)) : α → Int → Option (Bool × α) := fun a x => if p x then st a x else some (true, a)
def keepI {α : Type} (bf yb : Nat) (f y : Value) (I : α → Asn) : α → Asn := fun a => (cel bf f).sep ((cel yb y).sep (I a))
def keepJ {β : Type} (bs bf : Nat) (s f : Value) (J : β → Asn) : β → Asn := fun q => (cel bs s).sep ((cel bf f).sep (J q))
theorem keepY_spec {α : Type} {bf yb : Nat} {f y : Value} {p : Int → Bool} {I : α → Asn} {st : α → Int → Option (Bool × α)} (Hp : Ppec Try.prog n₀ f p) (H : Ypec Try.prog n₀ y I st) : Ypec Try.prog n₀ (keepY bf yb) (keepI bf yb f y I) (keepSt p st) := by
  refine ⟨rfl, fun s => Owns.sep Owns.cel (Owns.sep Owns.cel (H.loc _)), fun {a F A x b s'} h hst => ?_⟩
  have gy : A.cell? ⟨yb, 0, none⟩ = some y := Asn.get (Asn.swap h)
  unfold keepSt at hst
  cases hpx : p x with
  | false =>
    rw [hpx] at hst
    cases hst
    have hpc := Hp A x
    rw [hpx] at hpc
    have : wpF Try.prog n₀ 45 #[.int .i64 x, ptr bf, ptr yb] (fun v A' => v = .bool true ∧ A' = A) A := by
      refine wpF_fn (ts := #[.int .i64 x, ptr bf, ptr yb, undef, undef, undef, undef, undef, undef, undef, undef, undef, undef, undef]) good ⟨rfl, rfl, rfl⟩ (by kernel_rfl) ?_
      refine cw_seq good (cw_region good ?_)
      refine wpO_as (.bool false) rfl ?_
      refine cw_seq good (cw_region good ?_)
      refine wpO_val (aop_load rfl rfl rfl (Asn.get h)) ?_
      refine wpO_mv (.int .i64 x) rfl ?_
      simp only [Act.put, List.setIfInBounds_toArray, List.set_cons_succ, List.set_cons_zero]
      refine wpO_callv (y := f) (l := [.int .i64 x]) hpc rfl rfl ?_
      refine wpO_val (aop_not (b := false) rfl rfl) ?_
      refine wpO_mv (.bool true) rfl ?_
      simp only [Act.put, List.setIfInBounds_toArray, List.set_cons_succ, List.set_cons_zero]
      refine wpO_not ?_
      refine wpO_not ?_
      refine wpO_not ?_
      refine wpO_val (aop_pick (b := true) rfl rfl) ?_
      simp only [Act.put, List.setIfInBounds_toArray, List.set_cons_succ, List.set_cons_zero]
      refine wpO_as (.bool true) rfl ?_
      exact cw_ret good (ret_one (.bool true) rfl ⟨rfl, rfl⟩)
    obtain ⟨v, A3, h5, rfl, rfl⟩ := this
    exact ⟨_, F, ⟨45, _, _, _, _, ⟨rfl, rfl, rfl⟩, rfl, h5⟩, h, .refl⟩
  | true =>
    rw [hpx] at hst
    have hpc := Hp A x
    rw [hpx] at hpc
    have h2 : Asn.all [I a, cel bf f, cel yb y] F A := Asn.perm [cel bf f, cel yb y, I a] [2, 0, 1] h (by decide)
    obtain ⟨A2, F2, c2, h3, S2⟩ := Asn.frame (H.loc a) (Owns.sep Owns.cel Owns.cel) (H.loc s') h2 (R := fun A2 => CallV Try.prog n₀ y #[.int .i64 x] A (.bool b) A2) (fun F1 h1 => H.run h1 hst)
    have h4 : keepI bf yb f y I s' F2 A2 := Asn.perm [I s', cel bf f, cel yb y] [1, 2, 0] h3 (by decide)
    have : wpF Try.prog n₀ 45 #[.int .i64 x, ptr bf, ptr yb] (fun v A' => v = .bool b ∧ A' = A2) A := by
      refine wpF_fn (ts := #[.int .i64 x, ptr bf, ptr yb, undef, undef, undef, undef, undef, undef, undef, undef, undef, undef, undef]) good ⟨rfl, rfl, rfl⟩ (by kernel_rfl) ?_
      refine cw_seq good (cw_region good ?_)
      refine wpO_as (.bool false) rfl ?_
      refine cw_seq good (cw_region good ?_)
      refine wpO_val (aop_load rfl rfl rfl (Asn.get h)) ?_
      refine wpO_mv (.int .i64 x) rfl ?_
      simp only [Act.put, List.setIfInBounds_toArray, List.set_cons_succ, List.set_cons_zero]
      refine wpO_callv (y := f) (l := [.int .i64 x]) hpc rfl rfl ?_
      refine wpO_val (aop_not (b := true) rfl rfl) ?_
      refine wpO_mv (.bool false) rfl ?_
      simp only [Act.put, List.setIfInBounds_toArray, List.set_cons_succ, List.set_cons_zero]
      refine wpO_val (aop_load rfl rfl rfl gy) ?_
      refine wpO_mv (.int .i64 x) rfl ?_
      simp only [Act.put, List.setIfInBounds_toArray, List.set_cons_succ, List.set_cons_zero]
      refine wpO_callv (y := y) (l := [.int .i64 x]) c2 rfl rfl ?_
      refine wpO_val (aop_pick (b := false) rfl rfl) ?_
      simp only [Act.put, List.setIfInBounds_toArray, List.set_cons_succ, List.set_cons_zero]
      refine wpO_as (.bool b) rfl ?_
      exact cw_ret good (ret_one (.bool b) rfl ⟨rfl, rfl⟩)
    obtain ⟨v, A3, h5, rfl, rfl⟩ := this
    exact ⟨_, F2, ⟨45, _, _, _, _, ⟨rfl, rfl, rfl⟩, rfl, h5⟩, h4, S2⟩
theorem keep_spec {β : Type} {bs bf : Nat} {s f : Value} {p : Int → Bool} {J : β → Asn} {run : ∀ α : Type, (α → Int → Option (Bool × α)) → β → α → Option (β × α)} (Hp : Ppec Try.prog n₀ f p) (Hs : Hands Try.prog n₀ s J run) :
    Hands Try.prog n₀ (keepV bs bf) (keepJ bs bf s f J) (fun α st q a => run α (keepSt p st) q a) := by
  refine ⟨fun _ => Owns.sep Owns.cel (Owns.sep Owns.cel (Hs.loc _)), fun {α y I st} H {b0 a0 b1 a1 F A} h hr => ?_⟩
  have hl : Asn.all [cel bs s, cel bf f, J b0, I a0] F A := Asn.cat (l := [cel bs s, cel bf f, J b0]) (l' := [I a0]) h
  obtain ⟨F1, h1, S1⟩ := Asn.new (Owns.sep Owns.cel (Owns.sep Owns.cel (Owns.sep (Hs.loc _) (H.loc _)))) hl y 39
  have h2 : ((cel bs s).sep ((J b0).sep (keepI bf A.heap.size f y I a0))) F1 (A.alloc (.cells #[y] 39 (0, 0))) := Asn.perm [cel A.heap.size y, cel bs s, cel bf f, J b0, I a0] [1, 3, 2, 0, 4] h1 (by decide)
  have hM := keepY_spec (bf := bf) (yb := A.heap.size) Hp H
  obtain ⟨A2, F2, c2, h3, S2⟩ := Asn.frame (Owns.sep (Hs.loc b0) (hM.loc a0)) Owns.cel (Owns.sep (Hs.loc b1) (hM.loc a1)) (Asn.comm h2) (R := fun A2 => CallV Try.prog n₀ s #[keepY bf A.heap.size] (A.alloc (.cells #[y] 39 (0, 0))) undef A2) (fun F1 h => Hs.run hM h hr)
  have h4 : Asn.all [cel bs s, J b1, cel bf f, cel A.heap.size y, I a1] F2 A2 := Asn.comm h3
  obtain ⟨F3, h6, S3⟩ := Asn.drop (I := cel A.heap.size y) (Asn.perm _ [3, 0, 2, 1, 4] h4 (by decide))
  have h7 : ((keepJ bs bf s f J b1).sep (I a1)) F3 A2 := Asn.assoc' (Asn.map' h6 fun _ h => Asn.assoc' h)
  have : wpF Try.prog n₀ 44 #[y, ptr bs, ptr bf] (fun v A' => v = undef ∧ A' = A2) A := by
    refine wpF_fn (ts := #[y, ptr bs, ptr bf, undef, undef, undef, undef]) good ⟨rfl, rfl, rfl⟩ rfl ?_
    refine cw_seq good (cw_region good ?_)
    refine wpO_val (aop_box (v := y) rfl rfl H.one) ?_
    refine cw_region good ?_
    refine wpO_val (aop_load rfl rfl rfl (Asn.get h2)) ?_
    refine wpO_val (aop_func (l := []) (l' := [ptr bf, ptr A.heap.size]) rfl rfl rfl) ?_
    simp only [Act.put, List.setIfInBounds_toArray, List.set_cons_succ, List.set_cons_zero]
    refine wpO_call (f := 35) (first := #[]) (cap := #[]) (l := [s, keepY bf A.heap.size]) (xs := #[s, keepY bf A.heap.size]) ⟨rfl, rfl, rfl⟩ rfl rfl rfl ⟨undef, A2, each_some c2, ?_⟩
    exact ret_none ⟨rfl, rfl⟩
  obtain ⟨v, A3, h8, rfl, rfl⟩ := this
  exact ⟨A3, F3, ⟨44, _, _, _, _, ⟨rfl, rfl, rfl⟩, rfl, h8⟩, h7, S1.trans (S2.trans S3)⟩

def skipV (bn bs : Nat) : Value := .func (.func 42) #[] #[ptr bn, ptr bs]
def skipY (lb yb : Nat) : Value := .func (.func 43) #[] #[ptr lb, ptr yb]
def skipSt {α : Type} (st : α → Int → Option (Bool × α)) : Int × α → Int → Option (Bool × (Int × α)) :=
  fun s x => if s.1 ≤ 0 then (st s.2 x).map fun b => (b.1, (s.1, b.2)) else if s.1 < 9223372036854775808 then some (true, (s.1 - 1, s.2)) else none
def skipRun {β : Type} (n : Int) (run : ∀ α : Type, (α → Int → Option (Bool × α)) → β → α → Option (β × α)) : ∀ α : Type, (α → Int → Option (Bool × α)) → β → α → Option (β × α) :=
  fun α st s a => (run (Int × α) (skipSt st) s (n, a)).map fun r => (r.1, r.2.2)
def skipI {α : Type} (lb yb : Nat) (y : Value) (I : α → Asn) : Int × α → Asn := fun s => (cel lb (.int .i64 s.1)).sep ((cel yb y).sep (I s.2))
theorem skipY_spec {α : Type} {lb yb : Nat} {y : Value} {I : α → Asn} {st : α → Int → Option (Bool × α)} (H : Ypec Try.prog n₀ y I st) : Ypec Try.prog n₀ (skipY lb yb) (skipI lb yb y I) (skipSt st) := by
  refine ⟨rfl, fun s => Owns.sep Owns.cel (Owns.sep Owns.cel (H.loc _)), fun {s F A x b s'} h hst => ?_⟩
  obtain ⟨m, a⟩ := s
  unfold skipSt at hst
  simp only at hst
  by_cases hm : m ≤ 0
  · rw [if_pos hm] at hst
    cases hs : st a x with
    | none => simp [hs] at hst
    | some r =>
      obtain ⟨bb, a'⟩ := r
      simp [hs] at hst
      obtain ⟨rfl, rfl⟩ := hst
      have h2 : Asn.all [I a, cel lb (.int .i64 m), cel yb y] F A := Asn.perm [cel lb (.int .i64 m), cel yb y, I a] [2, 0, 1] h (by decide)
      obtain ⟨A2, F2, c2, h3, S2⟩ := Asn.frame (H.loc a) (Owns.sep Owns.cel Owns.cel) (H.loc a') h2 (R := fun A2 => CallV Try.prog n₀ y #[.int .i64 x] A (.bool bb) A2) (fun F1 h1 => H.run h1 hs)
      have h4 : skipI lb yb y I (m, a') F2 A2 := Asn.perm [I a', cel lb (.int .i64 m), cel yb y] [1, 2, 0] h3 (by decide)
      have : wpF Try.prog n₀ 43 #[.int .i64 x, ptr lb, ptr yb] (fun v A' => v = .bool bb ∧ A' = A2) A := by
        refine wpF_fn (ts := #[.int .i64 x, ptr lb, ptr yb, undef, undef, undef, undef, undef, undef, undef, undef, undef]) good ⟨rfl, rfl, rfl⟩ (by kernel_rfl) ?_
        refine cw_seq good (cw_region good ?_)
        refine wpO_as (.bool false) rfl ?_
        refine cw_seq good (cw_seq good (cw_region good ?_))
        refine wpO_val (aop_load rfl rfl rfl (Asn.get h)) ?_
        refine wpO_val (aop_int (k := .i64) (m := m) (n := 0) rfl rfl rfl rfl) ?_
        simp only [Act.put, List.setIfInBounds_toArray, List.set_cons_succ, List.set_cons_zero]
        refine cw_cond good false (congrArg Value.bool (by simpa using hm)) (cw_skip good ?_)
        refine cw_seq good (cw_region good ?_)
        refine wpO_val (aop_load rfl rfl rfl (Asn.get (Asn.swap h))) ?_
        refine wpO_mv (.int .i64 x) rfl ?_
        simp only [Act.put, List.setIfInBounds_toArray, List.set_cons_succ, List.set_cons_zero]
        refine wpO_callv (y := y) (l := [.int .i64 x]) c2 rfl rfl ?_
        refine wpO_as (.bool bb) rfl ?_
        exact cw_ret good (ret_one (.bool bb) rfl ⟨rfl, rfl⟩)
      obtain ⟨v, A3, h5, rfl, rfl⟩ := this
      exact ⟨_, F2, ⟨43, _, _, _, _, ⟨rfl, rfl, rfl⟩, rfl, h5⟩, h4, S2⟩
  · rw [if_neg hm] at hst
    by_cases hm2 : m < 9223372036854775808
    · rw [if_pos hm2] at hst
      cases hst
      obtain ⟨h1, S1⟩ := Asn.put (Owns.sep Owns.cel (H.loc a)) h (.int .i64 (m - 1))
      have : wpF Try.prog n₀ 43 #[.int .i64 x, ptr lb, ptr yb] (fun v A' => v = .bool true ∧ A' = A.setCell ⟨lb, 0, none⟩ (.int .i64 (m - 1))) A := by
        refine wpF_fn (ts := #[.int .i64 x, ptr lb, ptr yb, undef, undef, undef, undef, undef, undef, undef, undef, undef]) good ⟨rfl, rfl, rfl⟩ (by kernel_rfl) ?_
        refine cw_seq good (cw_region good ?_)
        refine wpO_as (.bool false) rfl ?_
        refine cw_seq good (cw_seq good (cw_region good ?_))
        refine wpO_val (aop_load rfl rfl rfl (Asn.get h)) ?_
        refine wpO_val (aop_int (k := .i64) (m := m) (n := 0) rfl rfl rfl rfl) ?_
        simp only [Act.put, List.setIfInBounds_toArray, List.set_cons_succ, List.set_cons_zero]
        refine cw_cond good true (congrArg Value.bool (by simpa using hm)) ?_
        refine cw_seq good (cw_region good ?_)
        refine wpO_val (aop_load rfl rfl rfl (Asn.get h)) ?_
        refine wpO_val (aop_int (k := .i64) (m := m) (n := 1) (v := .int .i64 (m - 1)) rfl rfl rfl (intV_sub rfl (by omega) (by omega))) ?_
        refine wpO_unit (aop_store (v := .int .i64 (m - 1)) rfl rfl rfl rfl rfl (Asn.get h) (Asn.soft h)) ?_
        simp only [Act.put, List.setIfInBounds_toArray, List.set_cons_succ, List.set_cons_zero]
        refine cw_seq good (cw_region good ?_)
        refine wpO_as (.bool true) rfl ?_
        exact cw_ret good (ret_one (.bool true) rfl ⟨rfl, rfl⟩)
      obtain ⟨v, A3, h5, rfl, rfl⟩ := this
      exact ⟨_, F, ⟨43, _, _, _, _, ⟨rfl, rfl, rfl⟩, rfl, h5⟩, h1, S1⟩
    · rw [if_neg hm2] at hst; cases hst
theorem skip_spec {β : Type} {bn bs : Nat} {n : Int} {s : Value} {J : β → Asn} {run : ∀ α : Type, (α → Int → Option (Bool × α)) → β → α → Option (β × α)} (Hs : Hands Try.prog n₀ s J run) :
    Hands Try.prog n₀ (skipV bn bs) (takeJ bn bs n s J) (skipRun n run) := by
  refine ⟨fun _ => Owns.sep Owns.cel (Owns.sep Owns.cel (Hs.loc _)), fun {α y I st} H {b0 a0 b1 a1 F A} h hr => ?_⟩
  have hl : Asn.all [cel bn (.int .i64 n), cel bs s, J b0, I a0] F A := Asn.cat (l := [cel bn (.int .i64 n), cel bs s, J b0]) (l' := [I a0]) h
  have hO1 : Owns (Asn.all [cel bn (.int .i64 n), cel bs s, J b0, I a0]) := Owns.sep Owns.cel (Owns.sep Owns.cel (Owns.sep (Hs.loc _) (H.loc _)))
  obtain ⟨F1, h1, S1⟩ := Asn.new hO1 hl y 39
  have gn : (A.alloc (.cells #[y] 39 (0, 0))).cell? ⟨bn, 0, none⟩ = some (.int .i64 n) := Asn.get (Asn.swap h1)
  have hr' : ∃ m1, run (Int × α) (skipSt st) b0 (n, a0) = some (b1, (m1, a1)) := by
    unfold skipRun at hr
    cases hx : run (Int × α) (skipSt st) b0 (n, a0) with
    | none => simp [hx] at hr
    | some r => obtain ⟨q, p, a⟩ := r; simp [hx] at hr; obtain ⟨rfl, rfl⟩ := hr; exact ⟨p, rfl⟩
  obtain ⟨m1, hr'⟩ := hr'
  obtain ⟨F2, h2, S2⟩ := Asn.new (Owns.sep Owns.cel hO1) h1 (.int .i64 0) 3
  obtain ⟨h4, S3⟩ := Asn.put (Owns.sep Owns.cel hO1) h2 (.int .i64 n)
  generalize hlb : (A.alloc (.cells #[y] 39 (0, 0))).heap.size = lb at h2 h4 S3
  have h5 := Asn.perm [cel lb (.int .i64 n), cel A.heap.size y, cel bn (.int .i64 n), cel bs s, J b0, I a0] [4, 0, 1, 5, 2, 3] h4 (by decide)
  have hT := skipY_spec (lb := lb) (yb := A.heap.size) H
  have h6 : (((J b0).sep (skipI lb A.heap.size y I (n, a0))).sep ((cel bn (.int .i64 n)).sep (cel bs s))) F2 _ := Asn.assoc' (Asn.map' h5 fun _ h => Asn.assoc' (Asn.map' h fun _ h => Asn.assoc' h))
  obtain ⟨A2, F3, c2, h7, S4⟩ := Asn.frame (Owns.sep (Hs.loc b0) (hT.loc _)) (Owns.sep Owns.cel Owns.cel) (Owns.sep (Hs.loc b1) (hT.loc (m1, a1))) h6 (R := fun A2 => CallV Try.prog n₀ s #[skipY lb A.heap.size] _ undef A2) (fun F1 h => Hs.run hT h hr')
  have h8 : Asn.all [J b1, cel lb (.int .i64 m1), cel A.heap.size y, I a1, cel bn (.int .i64 n), cel bs s] F3 A2 := Asn.cat (l := [J b1, cel lb (.int .i64 m1), cel A.heap.size y, I a1]) (l' := [cel bn (.int .i64 n), cel bs s]) h7
  obtain ⟨F4, h10, S5⟩ := Asn.drop (I := cel lb (.int .i64 m1)) (Asn.perm _ [1, 2, 4, 5, 0, 3] h8 (by decide))
  obtain ⟨F5, h11, S6⟩ := Asn.drop (I := cel A.heap.size y) h10
  have : wpF Try.prog n₀ 42 #[y, ptr bn, ptr bs] (fun v A' => v = undef ∧ A' = A2) A := by
    refine wpF_fn (ts := #[y, ptr bn, ptr bs, undef, undef, undef, undef, undef, undef]) good ⟨rfl, rfl, rfl⟩ rfl ?_
    refine cw_seq good (cw_region good ?_)
    refine wpO_val (aop_box (v := y) rfl rfl H.one) ?_
    refine cw_seq good (cw_region good ?_)
    refine wpO_val (aop_load rfl rfl rfl gn) ?_
    refine wpO_val (aop_alloc rfl rfl rfl rfl) ?_
    rw [hlb]
    refine wpO_unit (aop_store (p := ⟨lb, 0, none⟩) (v := .int .i64 n) rfl rfl rfl rfl rfl (Asn.get h2) (Asn.soft h2)) ?_
    refine cw_region good ?_
    simp only [Act.put, List.setIfInBounds_toArray, List.set_cons_succ, List.set_cons_zero]
    refine wpO_val (aop_load rfl rfl rfl (Asn.get (J := _) (Asn.perm _ [5, 0, 1, 2, 3, 4] h5 (by decide)))) ?_
    refine wpO_val (aop_func (l := []) (l' := [ptr lb, ptr A.heap.size]) rfl rfl rfl) ?_
    simp only [Act.put, List.setIfInBounds_toArray, List.set_cons_succ, List.set_cons_zero]
    refine wpO_call (f := 35) (first := #[]) (cap := #[]) (l := [s, skipY lb A.heap.size]) (xs := #[s, skipY lb A.heap.size]) ⟨rfl, rfl, rfl⟩ rfl rfl rfl ⟨undef, A2, each_some c2, ?_⟩
    exact ret_none ⟨rfl, rfl⟩
  obtain ⟨v, A3, h12, rfl, rfl⟩ := this
  exact ⟨_, F5, ⟨42, _, _, _, _, ⟨rfl, rfl, rfl⟩, rfl, h12⟩, Asn.assoc' (Asn.map' (Asn.perm [cel bn (.int .i64 n), cel bs s, J b1, I a1] [0, 1, 2, 3] h11 (by decide)) fun _ h => Asn.assoc' h), S1.trans (S2.trans (S3.trans (S4.trans (S5.trans S6))))⟩
end Go.Proofs.Ytipomlcnmaldkaa
