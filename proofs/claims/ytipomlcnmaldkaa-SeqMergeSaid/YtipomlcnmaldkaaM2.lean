/-
  seq.Keep and seq.Skip: those that a test lets through; those behind the first ones. No condition.
-/
import Derived.Test.YtipomlcnmaldkaaM1
namespace Go.Proofs.Ytipomlcnmaldkaa
open Go.Abs
variable {n₀ : Nat}
set_option maxRecDepth 4000
def keepV (bs bf : Nat) : Value := .func (.func 44) #[] #[ptr bs, ptr bf]
def keepY (bf yb : Nat) : Value := .func (.func 45) #[] #[ptr bf, ptr yb]
def keepSt {α : Type} (p : Int → Bool) (st : α → Int → Option (Bool × α)) : α → Int → Option (Bool × α) := fun a x => if p x then st a x else some (true, a)
def keepI {α : Type} (bf yb : Nat) (f y : Value) (I : α → Asn) : α → Asn := fun a => (cel bf f).sep ((cel yb y).sep (I a))
def keepJ {β : Type} (bs bf : Nat) (s f : Value) (J : β → Asn) : β → Asn := fun q => (cel bs s).sep ((cel bf f).sep (J q))
theorem keepY_spec {α : Type} {bf yb : Nat} {f y : Value} {p : Int → Bool} {I : α → Asn} {st : α → Int → Option (Bool × α)} (Hp : Ppec Try.prog n₀ f p) (H : Ypec Try.prog n₀ y I st) : Ypec Try.prog n₀ (keepY bf yb) (keepI bf yb f y I) (keepSt p st) := by
  refine ⟨rfl, fun s => Owns.sep Owns.cel (Owns.sep Owns.cel (H.loc _)), fun {a F A x b s'} h hst => ?_⟩
  have gy : A.cell? ⟨yb, 0, none⟩ = some y := Asn.get (Asn.swap h)
  unfold keepSt at hst
  cases hpx : p x with
  | false =>
    rw [hpx] at hst
    cases hst
    have hpc := Hp A x
    rw [hpx] at hpc
    have : wpF Try.prog n₀ 45 #[.int .i64 x, ptr bf, ptr yb] (fun v A' => v = .bool true ∧ A' = A) A := by
      refine wpF_fn (ts := #[.int .i64 x, ptr bf, ptr yb, undef, undef, undef, undef, undef, undef, undef, undef, undef, undef, undef]) good ⟨rfl, rfl, rfl⟩ (by kernel_rfl) ?_
      refine cw_seq good (cw_region good ?_)
      refine wpO_as (.bool false) rfl ?_
      refine cw_seq good (cw_region good ?_)
      refine wpO_val (aop_load rfl rfl rfl (Asn.get h)) ?_
      refine wpO_mv (.int .i64 x) rfl ?_
      simp only [Act.put, List.setIfInBounds_toArray, List.set_cons_succ, List.set_cons_zero]
      refine wpO_callv (y := f) (l := [.int .i64 x]) hpc rfl rfl ?_
      refine wpO_val (aop_not (b := false) rfl rfl) ?_
      refine wpO_mv (.bool true) rfl ?_
      simp only [Act.put, List.setIfInBounds_toArray, List.set_cons_succ, List.set_cons_zero]
      refine wpO_not ?_
      refine wpO_not ?_
      refine wpO_not ?_
      refine wpO_val (aop_pick (b := true) rfl rfl) ?_
      simp only [Act.put, List.setIfInBounds_toArray, List.set_cons_succ, List.set_cons_zero]
      refine wpO_as (.bool true) rfl ?_
      exact cw_ret good (ret_one (.bool true) rfl ⟨rfl, rfl⟩)
    obtain ⟨v, A3, h5, rfl, rfl⟩ := this
    exact ⟨_, F, ⟨45, _, _, _, _, ⟨rfl, rfl, rfl⟩, rfl, h5⟩, h, .refl⟩
  | true =>
    rw [hpx] at hst
    have hpc := Hp A x
    rw [hpx] at hpc
    have h2 : Asn.all [I a, cel bf f, cel yb y] F A := Asn.perm [cel bf f, cel yb y, I a] [2, 0, 1] h (by decide)
    obtain ⟨A2, F2, c2, h3, S2⟩ := Asn.frame (H.loc a) (Owns.sep Owns.cel Owns.cel) (H.loc s') h2 (R := fun A2 => CallV Try.prog n₀ y #[.int .i64 x] A (.bool b) A2) (fun F1 h1 => H.run h1 hst)
    have h4 : keepI bf yb f y I s' F2 A2 := Asn.perm [I s', cel bf f, cel yb y] [1, 2, 0] h3 (by decide)
    have : wpF Try.prog n₀ 45 #[.int .i64 x, ptr bf, ptr yb] (fun v A' => v = .bool b ∧ A' = A2) A := by
      refine wpF_fn (ts := #[.int .i64 x, ptr bf, ptr yb, undef, undef, undef, undef, undef, undef, undef, undef, undef, undef, undef]) good ⟨rfl, rfl, rfl⟩ (by kernel_rfl) ?_
      refine cw_seq good (cw_region good ?_)
      refine wpO_as (.bool false) rfl ?_
      refine cw_seq good (cw_region good ?_)
      refine wpO_val (aop_load rfl rfl rfl (Asn.get h)) ?_
      refine wpO_mv (.int .i64 x) rfl ?_
      simp only [Act.put, List.setIfInBounds_toArray, List.set_cons_succ, List.set_cons_zero]
      refine wpO_callv (y := f) (l := [.int .i64 x]) hpc rfl rfl ?_
      refine wpO_val (aop_not (b := true) rfl rfl) ?_
      refine wpO_mv (.bool false) rfl ?_
      simp only [Act.put, List.setIfInBounds_toArray, List.set_cons_succ, List.set_cons_zero]
      refine wpO_val (aop_load rfl rfl rfl gy) ?_
      refine wpO_mv (.int .i64 x) rfl ?_
      simp only [Act.put, List.setIfInBounds_toArray, List.set_cons_succ, List.set_cons_zero]
      refine wpO_callv (y := y) (l := [.int .i64 x]) c2 rfl rfl ?_
      refine wpO_val (aop_pick (b := false) rfl rfl) ?_
      simp only [Act.put, List.setIfInBounds_toArray, List.set_cons_succ, List.set_cons_zero]
      refine wpO_as (.bool b) rfl ?_
      exact cw_ret good (ret_one (.bool b) rfl ⟨rfl, rfl⟩)
    obtain ⟨v, A3, h5, rfl, rfl⟩ := this
    exact ⟨_, F2, ⟨45, _, _, _, _, ⟨rfl, rfl, rfl⟩, rfl, h5⟩, h4, S2⟩
theorem keep_spec {β : Type} {bs bf : Nat} {s f : Value} {p : Int → Bool} {J : β → Asn} {run : ∀ α : Type, (α → Int → Option (Bool × α)) → β → α → Option (β × α)} (Hp : Ppec Try.prog n₀ f p) (Hs : Hands Try.prog n₀ s J run) :
    Hands Try.prog n₀ (keepV bs bf) (keepJ bs bf s f J) (fun α st q a => run α (keepSt p st) q a) := by
  refine ⟨fun _ => Owns.sep Owns.cel (Owns.sep Owns.cel (Hs.loc _)), fun {α y I st} H {b0 a0 b1 a1 F A} h hr => ?_⟩
  have hl : Asn.all [cel bs s, cel bf f, J b0, I a0] F A := Asn.cat (l := [cel bs s, cel bf f, J b0]) (l' := [I a0]) h
  obtain ⟨F1, h1, S1⟩ := Asn.new (Owns.sep Owns.cel (Owns.sep Owns.cel (Owns.sep (Hs.loc _) (H.loc _)))) hl y 39
  have h2 : ((cel bs s).sep ((J b0).sep (keepI bf A.heap.size f y I a0))) F1 (A.alloc (.cells #[y] 39 (0, 0))) := Asn.perm [cel A.heap.size y, cel bs s, cel bf f, J b0, I a0] [1, 3, 2, 0, 4] h1 (by decide)
  have hM := keepY_spec (bf := bf) (yb := A.heap.size) Hp H
  obtain ⟨A2, F2, c2, h3, S2⟩ := Asn.frame (Owns.sep (Hs.loc b0) (hM.loc a0)) Owns.cel (Owns.sep (Hs.loc b1) (hM.loc a1)) (Asn.comm h2) (R := fun A2 => CallV Try.prog n₀ s #[keepY bf A.heap.size] (A.alloc (.cells #[y] 39 (0, 0))) undef A2) (fun F1 h => Hs.run hM h hr)
  have h4 : Asn.all [cel bs s, J b1, cel bf f, cel A.heap.size y, I a1] F2 A2 := Asn.comm h3
  obtain ⟨F3, h6, S3⟩ := Asn.drop (I := cel A.heap.size y) (Asn.perm _ [3, 0, 2, 1, 4] h4 (by decide))
  have h7 : ((keepJ bs bf s f J b1).sep (I a1)) F3 A2 := Asn.assoc' (Asn.map' h6 fun _ h => Asn.assoc' h)
  have : wpF Try.prog n₀ 44 #[y, ptr bs, ptr bf] (fun v A' => v = undef ∧ A' = A2) A := by
    refine wpF_fn (ts := #[y, ptr bs, ptr bf, undef, undef, undef, undef]) good ⟨rfl, rfl, rfl⟩ rfl ?_
    refine cw_seq good (cw_region good ?_)
    refine wpO_val (aop_box (v := y) rfl rfl H.one) ?_
    refine cw_region good ?_
    refine wpO_val (aop_load rfl rfl rfl (Asn.get h2)) ?_
    refine wpO_val (aop_func (l := []) (l' := [ptr bf, ptr A.heap.size]) rfl rfl rfl) ?_
    simp only [Act.put, List.setIfInBounds_toArray, List.set_cons_succ, List.set_cons_zero]
    refine wpO_call (f := 35) (first := #[]) (cap := #[]) (l := [s, keepY bf A.heap.size]) (xs := #[s, keepY bf A.heap.size]) ⟨rfl, rfl, rfl⟩ rfl rfl rfl ⟨undef, A2, each_some c2, ?_⟩
    exact ret_none ⟨rfl, rfl⟩
  obtain ⟨v, A3, h8, rfl, rfl⟩ := this
  exact ⟨A3, F3, ⟨44, _, _, _, _, ⟨rfl, rfl, rfl⟩, rfl, h8⟩, h7, S1.trans (S2.trans S3)⟩

def skipV (bn bs : Nat) : Value := .func (.func 42) #[] #[ptr bn, ptr bs]
def skipY (lb yb : Nat) : Value := .func (.func 43) #[] #[ptr lb, ptr yb]
def skipSt {α : Type} (st : α → Int → Option (Bool × α)) : Int × α → Int → Option (Bool × (Int × α)) :=
  fun s x => if s.1 ≤ 0 then (st s.2 x).map fun b => (b.1, (s.1, b.2)) else if s.1 < 9223372036854775808 then some (true, (s.1 - 1, s.2)) else none
def skipRun {β : Type} (n : Int) (run : ∀ α : Type, (α → Int → Option (Bool × α)) → β → α → Option (β × α)) : ∀ α : Type, (α → Int → Option (Bool × α)) → β → α → Option (β × α) :=
  fun α st s a => (run (Int × α) (skipSt st) s (n, a)).map fun r => (r.1, r.2.2)
def skipI {α : Type} (lb yb : Nat) (y : Value) (I : α → Asn) : Int × α → Asn := fun s => (cel lb (.int .i64 s.1)).sep ((cel yb y).sep (I s.2))
theorem skipY_spec {α : Type} {lb yb : Nat} {y : Value} {I : α → Asn} {st : α → Int → Option (Bool × α)} (H : Ypec Try.prog n₀ y I st) : Ypec Try.prog n₀ (skipY lb yb) (skipI lb yb y I) (skipSt st) := by
  refine ⟨rfl, fun s => Owns.sep Owns.cel (Owns.sep Owns.cel (H.loc _)), fun {s F A x b s'} h hst => ?_⟩
  obtain ⟨m, a⟩ := s
  unfold skipSt at hst
  simp only at hst
  by_cases hm : m ≤ 0
  · rw [if_pos hm] at hst
    cases hs : st a x with
    | none => simp [hs] at hst
    | some r =>
      obtain ⟨bb, a'⟩ := r
      simp [hs] at hst
      obtain ⟨rfl, rfl⟩ := hst
      have h2 : Asn.all [I a, cel lb (.int .i64 m), cel yb y] F A := Asn.perm [cel lb (.int .i64 m), cel yb y, I a] [2, 0, 1] h (by decide)
      obtain ⟨A2, F2, c2, h3, S2⟩ := Asn.frame (H.loc a) (Owns.sep Owns.cel Owns.cel) (H.loc a') h2 (R := fun A2 => CallV Try.prog n₀ y #[.int .i64 x] A (.bool bb) A2) (fun F1 h1 => H.run h1 hs)
      have h4 : skipI lb yb y I (m, a') F2 A2 := Asn.perm [I a', cel lb (.int .i64 m), cel yb y] [1, 2, 0] h3 (by decide)
      have : wpF Try.prog n₀ 43 #[.int .i64 x, ptr lb, ptr yb] (fun v A' => v = .bool bb ∧ A' = A2) A := by
        refine wpF_fn (ts := #[.int .i64 x, ptr lb, ptr yb, undef, undef, undef, undef, undef, undef, undef, undef, undef]) good ⟨rfl, rfl, rfl⟩ (by kernel_rfl) ?_
        refine cw_seq good (cw_region good ?_)
        refine wpO_as (.bool false) rfl ?_
        refine cw_seq good (cw_seq good (cw_region good ?_))
        refine wpO_val (aop_load rfl rfl rfl (Asn.get h)) ?_
        refine wpO_val (aop_int (k := .i64) (m := m) (n := 0) rfl rfl rfl rfl) ?_
        simp only [Act.put, List.setIfInBounds_toArray, List.set_cons_succ, List.set_cons_zero]
        refine cw_cond good false (congrArg Value.bool (by simpa using hm)) (cw_skip good ?_)
        refine cw_seq good (cw_region good ?_)
        refine wpO_val (aop_load rfl rfl rfl (Asn.get (Asn.swap h))) ?_
        refine wpO_mv (.int .i64 x) rfl ?_
        simp only [Act.put, List.setIfInBounds_toArray, List.set_cons_succ, List.set_cons_zero]
        refine wpO_callv (y := y) (l := [.int .i64 x]) c2 rfl rfl ?_
        refine wpO_as (.bool bb) rfl ?_
        exact cw_ret good (ret_one (.bool bb) rfl ⟨rfl, rfl⟩)
      obtain ⟨v, A3, h5, rfl, rfl⟩ := this
      exact ⟨_, F2, ⟨43, _, _, _, _, ⟨rfl, rfl, rfl⟩, rfl, h5⟩, h4, S2⟩
  · rw [if_neg hm] at hst
    by_cases hm2 : m < 9223372036854775808
    · rw [if_pos hm2] at hst
      cases hst
      obtain ⟨h1, S1⟩ := Asn.put (Owns.sep Owns.cel (H.loc a)) h (.int .i64 (m - 1))
      have : wpF Try.prog n₀ 43 #[.int .i64 x, ptr lb, ptr yb] (fun v A' => v = .bool true ∧ A' = A.setCell ⟨lb, 0, none⟩ (.int .i64 (m - 1))) A := by
        refine wpF_fn (ts := #[.int .i64 x, ptr lb, ptr yb, undef, undef, undef, undef, undef, undef, undef, undef, undef]) good ⟨rfl, rfl, rfl⟩ (by kernel_rfl) ?_
        refine cw_seq good (cw_region good ?_)
        refine wpO_as (.bool false) rfl ?_
        refine cw_seq good (cw_seq good (cw_region good ?_))
        refine wpO_val (aop_load rfl rfl rfl (Asn.get h)) ?_
        refine wpO_val (aop_int (k := .i64) (m := m) (n := 0) rfl rfl rfl rfl) ?_
        simp only [Act.put, List.setIfInBounds_toArray, List.set_cons_succ, List.set_cons_zero]
        refine cw_cond good true (congrArg Value.bool (by simpa using hm)) ?_
        refine cw_seq good (cw_region good ?_)
        refine wpO_val (aop_load rfl rfl rfl (Asn.get h)) ?_
        refine wpO_val (aop_int (k := .i64) (m := m) (n := 1) (v := .int .i64 (m - 1)) rfl rfl rfl (intV_sub rfl (by omega) (by omega))) ?_
        refine wpO_unit (aop_store (v := .int .i64 (m - 1)) rfl rfl rfl rfl rfl (Asn.get h) (Asn.soft h)) ?_
        simp only [Act.put, List.setIfInBounds_toArray, List.set_cons_succ, List.set_cons_zero]
        refine cw_seq good (cw_region good ?_)
        refine wpO_as (.bool true) rfl ?_
        exact cw_ret good (ret_one (.bool true) rfl ⟨rfl, rfl⟩)
      obtain ⟨v, A3, h5, rfl, rfl⟩ := this
      exact ⟨_, F, ⟨43, _, _, _, _, ⟨rfl, rfl, rfl⟩, rfl, h5⟩, h1, S1⟩
    · rw [if_neg hm2] at hst; cases hst
theorem skip_spec {β : Type} {bn bs : Nat} {n : Int} {s : Value} {J : β → Asn} {run : ∀ α : Type, (α → Int → Option (Bool × α)) → β → α → Option (β × α)} (Hs : Hands Try.prog n₀ s J run) :
    Hands Try.prog n₀ (skipV bn bs) (takeJ bn bs n s J) (skipRun n run) := by
  refine ⟨fun _ => Owns.sep Owns.cel (Owns.sep Owns.cel (Hs.loc _)), fun {α y I st} H {b0 a0 b1 a1 F A} h hr => ?_⟩
  have hl : Asn.all [cel bn (.int .i64 n), cel bs s, J b0, I a0] F A := Asn.cat (l := [cel bn (.int .i64 n), cel bs s, J b0]) (l' := [I a0]) h
  have hO1 : Owns (Asn.all [cel bn (.int .i64 n), cel bs s, J b0, I a0]) := Owns.sep Owns.cel (Owns.sep Owns.cel (Owns.sep (Hs.loc _) (H.loc _)))
  obtain ⟨F1, h1, S1⟩ := Asn.new hO1 hl y 39
  have gn : (A.alloc (.cells #[y] 39 (0, 0))).cell? ⟨bn, 0, none⟩ = some (.int .i64 n) := Asn.get (Asn.swap h1)
  have hr' : ∃ m1, run (Int × α) (skipSt st) b0 (n, a0) = some (b1, (m1, a1)) := by
    unfold skipRun at hr
    cases hx : run (Int × α) (skipSt st) b0 (n, a0) with
    | none => simp [hx] at hr
    | some r => obtain ⟨q, p, a⟩ := r; simp [hx] at hr; obtain ⟨rfl, rfl⟩ := hr; exact ⟨p, rfl⟩
  obtain ⟨m1, hr'⟩ := hr'
  obtain ⟨F2, h2, S2⟩ := Asn.new (Owns.sep Owns.cel hO1) h1 (.int .i64 0) 3
  obtain ⟨h4, S3⟩ := Asn.put (Owns.sep Owns.cel hO1) h2 (.int .i64 n)
  generalize hlb : (A.alloc (.cells #[y] 39 (0, 0))).heap.size = lb at h2 h4 S3
  have h5 := Asn.perm [cel lb (.int .i64 n), cel A.heap.size y, cel bn (.int .i64 n), cel bs s, J b0, I a0] [4, 0, 1, 5, 2, 3] h4 (by decide)
  have hT := skipY_spec (lb := lb) (yb := A.heap.size) H
  have h6 : (((J b0).sep (skipI lb A.heap.size y I (n, a0))).sep ((cel bn (.int .i64 n)).sep (cel bs s))) F2 _ := Asn.assoc' (Asn.map' h5 fun _ h => Asn.assoc' (Asn.map' h fun _ h => Asn.assoc' h))
  obtain ⟨A2, F3, c2, h7, S4⟩ := Asn.frame (Owns.sep (Hs.loc b0) (hT.loc _)) (Owns.sep Owns.cel Owns.cel) (Owns.sep (Hs.loc b1) (hT.loc (m1, a1))) h6 (R := fun A2 => CallV Try.prog n₀ s #[skipY lb A.heap.size] _ undef A2) (fun F1 h => Hs.run hT h hr')
  have h8 : Asn.all [J b1, cel lb (.int .i64 m1), cel A.heap.size y, I a1, cel bn (.int .i64 n), cel bs s] F3 A2 := Asn.cat (l := [J b1, cel lb (.int .i64 m1), cel A.heap.size y, I a1]) (l' := [cel bn (.int .i64 n), cel bs s]) h7
  obtain ⟨F4, h10, S5⟩ := Asn.drop (I := cel lb (.int .i64 m1)) (Asn.perm _ [1, 2, 4, 5, 0, 3] h8 (by decide))
  obtain ⟨F5, h11, S6⟩ := Asn.drop (I := cel A.heap.size y) h10
  have : wpF Try.prog n₀ 42 #[y, ptr bn, ptr bs] (fun v A' => v = undef ∧ A' = A2) A := by
    refine wpF_fn (ts := #[y, ptr bn, ptr bs, undef, undef, undef, undef, undef, undef]) good ⟨rfl, rfl, rfl⟩ rfl ?_
    refine cw_seq good (cw_region good ?_)
    refine wpO_val (aop_box (v := y) rfl rfl H.one) ?_
    refine cw_seq good (cw_region good ?_)
    refine wpO_val (aop_load rfl rfl rfl gn) ?_
    refine wpO_val (aop_alloc rfl rfl rfl rfl) ?_
    rw [hlb]
    refine wpO_unit (aop_store (p := ⟨lb, 0, none⟩) (v := .int .i64 n) rfl rfl rfl rfl rfl (Asn.get h2) (Asn.soft h2)) ?_
    refine cw_region good ?_
    simp only [Act.put, List.setIfInBounds_toArray, List.set_cons_succ, List.set_cons_zero]
    refine wpO_val (aop_load rfl rfl rfl (Asn.get (J := _) (Asn.perm _ [5, 0, 1, 2, 3, 4] h5 (by decide)))) ?_
    refine wpO_val (aop_func (l := []) (l' := [ptr lb, ptr A.heap.size]) rfl rfl rfl) ?_
    simp only [Act.put, List.setIfInBounds_toArray, List.set_cons_succ, List.set_cons_zero]
    refine wpO_call (f := 35) (first := #[]) (cap := #[]) (l := [s, skipY lb A.heap.size]) (xs := #[s, skipY lb A.heap.size]) ⟨rfl, rfl, rfl⟩ rfl rfl rfl ⟨undef, A2, each_some c2, ?_⟩
    exact ret_none ⟨rfl, rfl⟩
  obtain ⟨v, A3, h12, rfl, rfl⟩ := this
  exact ⟨_, F5, ⟨42, _, _, _, _, ⟨rfl, rfl, rfl⟩, rfl, h12⟩, Asn.assoc' (Asn.map' (Asn.perm [cel bn (.int .i64 n), cel bs s, J b1, I a1] [0, 1, 2, 3] h11 (by decide)) fun _ h => Asn.assoc' h), S1.trans (S2.trans (S3.trans (S4.trans (S5.trans S6))))⟩
end Go.Proofs.Ytipomlcnmaldkaa
/-
  What comes, as lists: taken, skipped, kept; and the calls that make it. No condition.
-/
namespace Go.Proofs.Ytipomlcnmaldkaa
open Go.Abs
variable {n₀ : Nat}
set_option maxRecDepth 4000
def runL (l : List Int) : ∀ α : Type, (α → Int → Option (Bool × α)) → Unit → α → Option (Unit × α) := fun _ st _ a => (foldY st l a).map fun a' => ((), a')
/-- What is handed on is the list l. -/
def Gives (n₀ : Nat) (s : Value) (J : Asn) (l : List Int) : Prop := Hands Try.prog n₀ s (fun _ : Unit => J) (runL l)
theorem hands_mono {β : Type} {s : Value} {J : β → Asn} {run run' : ∀ α : Type, (α → Int → Option (Bool × α)) → β → α → Option (β × α)} (h : ∀ α st b a r, run' α st b a = some r → run α st b a = some r) (H : Hands Try.prog n₀ s J run) : Hands Try.prog n₀ s J run' :=
  ⟨H.loc, fun Hy _ _ _ _ _ _ hJ hr => H.run Hy hJ (h _ _ _ _ _ hr)⟩
theorem fold_take {α : Type} {st : α → Int → Option (Bool × α)} : ∀ (l : List Int) (m : Nat) (a a1 : α), 0 < m → m < 9223372036854775808 → foldY st (l.take m) a = some a1 → ∃ m', foldY (takeSt st) l (m, a) = some (m', a1)
  | [], m, a, a1, _, _, h => by
    rw [List.take_nil] at h
    cases h; exact ⟨m, rfl⟩
  | x :: l, m + 1, a, a1, _, h2, h => by
    rw [List.take_succ_cons] at h
    unfold foldY at h ⊢
    unfold takeSt
    simp only [Nat.succ_pos, h2, and_self, if_true]
    cases hs : st a x with
    | none => rw [hs] at h; cases h
    | some r =>
      obtain ⟨b, a'⟩ := r
      rw [hs] at h
      cases b with
      | false => cases h; exact ⟨m, by simp⟩
      | true =>
        by_cases hm : 1 < m + 1
        · obtain ⟨m', hm'⟩ := fold_take l m a' a1 (by omega) (by omega) h
          refine ⟨m', ?_⟩
          simp only [Option.map_some, Bool.true_and, hm, decide_true, Nat.add_sub_cancel]
          exact hm'
        · have : m = 0 := by omega
          subst this
          rw [List.take_zero] at h
          cases h
          exact ⟨0, by simp⟩
theorem fold_skip {α : Type} {st : α → Int → Option (Bool × α)} : ∀ (l : List Int) (n : Int) (a a1 : α), n < 9223372036854775808 → foldY st (l.drop n.toNat) a = some a1 → ∃ m', foldY (skipSt st) l (n, a) = some (m', a1)
  | [], n, a, a1, _, h => by
    rw [List.drop_nil] at h
    cases h; exact ⟨n, rfl⟩
  | x :: l, n, a, a1, h2, h => by
    unfold foldY skipSt
    simp only
    by_cases hn : n ≤ 0
    · have e : n.toNat = 0 := by omega
      rw [e, List.drop_zero] at h
      rw [if_pos hn]
      unfold foldY at h
      cases hs : st a x with
      | none => rw [hs] at h; cases h
      | some r =>
        obtain ⟨b, a'⟩ := r
        rw [hs] at h
        cases b with
        | false => cases h; exact ⟨n, rfl⟩
        | true =>
          obtain ⟨m', hm'⟩ := fold_skip l n a' a1 h2 (by rw [e, List.drop_zero]; exact h)
          exact ⟨m', hm'⟩
    · rw [if_neg hn, if_pos h2]
      have e : n.toNat = (n - 1).toNat + 1 := by omega
      rw [e, List.drop_succ_cons] at h
      obtain ⟨m', hm'⟩ := fold_skip l (n - 1) a a1 (by omega) h
      exact ⟨m', hm'⟩
theorem fold_keep {α : Type} {p : Int → Bool} {st : α → Int → Option (Bool × α)} : ∀ (l : List Int) (a : α), foldY (keepSt p st) l a = foldY st (l.filter p) a
  | [], _ => rfl
  | x :: l, a => by
    cases hp : p x with
    | false =>
      have e : keepSt p st a x = some (true, a) := by simp [keepSt, hp]
      rw [List.filter_cons_of_neg (by rw [hp]; decide)]
      simp only [foldY, e]
      exact fold_keep l a
    | true =>
      have e : keepSt p st a x = st a x := by simp [keepSt, hp]
      rw [List.filter_cons_of_pos hp]
      simp only [foldY, e]
      cases hs : st a x with
      | none => rfl
      | some r =>
        obtain ⟨b, a'⟩ := r
        cases b with
        | false => rfl
        | true => exact fold_keep l a'
theorem fold_list : ∀ (l acc : List Int), acc.length + l.length < 16777216 → foldY stL l acc = some (acc ++ l)
  | [], acc, _ => by simp [foldY]
  | x :: l, acc, h => by
    simp only [List.length_cons] at h
    have e : stL acc x = some (true, acc ++ [x]) := by unfold stL; rw [if_pos (by omega)]
    simp only [foldY, e]
    rw [fold_list l (acc ++ [x]) (by simp; omega)]
    simp
theorem runL_some {l : List Int} {α : Type} {st : α → Int → Option (Bool × α)} {b : Unit} {a : α} {r : Unit × α} (h : runL l α st b a = some r) : foldY st l a = some r.2 := by
  unfold runL at h
  cases hf : foldY st l a with
  | none => rw [hf] at h; cases h
  | some a' => rw [hf] at h; cases h; rfl
theorem vals_gives {b : Nat} {p : Option Addr} {cap : Nat} {l : List Int} (hl : l.length < 2 ^ 62) : Gives n₀ (valsV b) (valsJ b p cap l ()) l := vals_spec hl
theorem take_gives {bn bs : Nat} {n : Int} {s : Value} {J : Asn} {l : List Int} (H : Gives n₀ s J l) (hn : n < 9223372036854775808) : Gives n₀ (takeV bn bs) (takeJ bn bs n s (fun _ : Unit => J) ()) (l.take n.toNat) := by
  refine hands_mono (fun α st b a r hr => ?_) (take_spec (bn := bn) (bs := bs) H hn)
  have h := runL_some hr
  unfold takeRun
  by_cases h1 : n < 1
  · rw [if_pos h1]
    have e : n.toNat = 0 := by omega
    rw [e, List.take_zero] at h
    obtain ⟨r1, r2⟩ := r
    cases h; rfl
  · rw [if_neg h1]
    obtain ⟨m', hm'⟩ := fold_take l n.toNat a r.2 (by omega) (by omega) h
    unfold runL
    rw [hm']; rfl
theorem skip_gives {bn bs : Nat} {n : Int} {s : Value} {J : Asn} {l : List Int} (H : Gives n₀ s J l) (hn : n < 9223372036854775808) : Gives n₀ (skipV bn bs) (takeJ bn bs n s (fun _ : Unit => J) ()) (l.drop n.toNat) := by
  refine hands_mono (fun α st b a r hr => ?_) (skip_spec (bn := bn) (bs := bs) (n := n) H)
  have h := runL_some hr
  obtain ⟨m', hm'⟩ := fold_skip l n a r.2 hn h
  unfold skipRun runL
  rw [hm']; rfl
theorem keep_gives {bs bf : Nat} {s f : Value} {p : Int → Bool} {J : Asn} {l : List Int} (Hp : Ppec Try.prog n₀ f p) (H : Gives n₀ s J l) : Gives n₀ (keepV bs bf) (keepJ bs bf s f (fun _ : Unit => J) ()) (l.filter p) := by
  refine hands_mono (fun α st b a r hr => ?_) (keep_spec (bs := bs) (bf := bf) Hp H)
  have h := runL_some hr
  unfold runL
  rw [fold_keep, h]; rfl
theorem gives_list {s : Value} {J : Asn} {l : List Int} {F : Foot} {A : World} (H : Gives n₀ s J l) (h : J F A) (hl : l.length < 16777216) : ∃ v A' F', SndCall Try.prog n₀ 13 #[s] A v A' ∧ (J.sep (lstV 3 v l)) F' A' ∧ Step F A F' A' :=
  list_call H (b0 := ()) h (b1 := ()) (by
    unfold runL
    rw [fold_list l [] (by simpa using hl)]; rfl)
theorem skip_call {A : World} {s : Value} {n : Int} (hs : isOne s = true) : SndCall Try.prog n₀ 18 #[s, .int .i64 n] A (skipV (A.heap.size + 1) A.heap.size) ((A.alloc (.cells #[s] 26 (0, 0))).alloc (.cells #[.int .i64 n] 3 (0, 0))) := by
  have : wpF Try.prog n₀ 18 #[s, .int .i64 n] (fun r A' => r = skipV (A.heap.size + 1) A.heap.size ∧ A' = (A.alloc (.cells #[s] 26 (0, 0))).alloc (.cells #[.int .i64 n] 3 (0, 0))) A := by
    refine wpF_fn (ts := #[s, .int .i64 n, undef, undef, undef, undef]) good ⟨rfl, rfl, rfl⟩ rfl ?_
    refine cw_seq good (cw_region good ?_)
    refine wpO_val (aop_box (v := s) rfl rfl hs) ?_
    refine wpO_val (aop_box (v := .int .i64 n) rfl rfl rfl) ?_
    refine wpO_as .nilFunc rfl ?_
    refine cw_seq good (cw_region good ?_)
    rw [alloc_sz]
    refine wpO_val (aop_func (l := []) (l' := [ptr (A.heap.size + 1), ptr A.heap.size]) rfl rfl rfl) ?_
    refine wpO_as (skipV (A.heap.size + 1) A.heap.size) rfl ?_
    exact cw_ret good (ret_one (skipV (A.heap.size + 1) A.heap.size) rfl ⟨rfl, rfl⟩)
  obtain ⟨v, A1, h1, rfl, rfl⟩ := this
  exact h1
theorem keep_call {A : World} {s f : Value} (hs : isOne s = true) (hf : isOne f = true) : SndCall Try.prog n₀ 19 #[s, f] A (keepV A.heap.size (A.heap.size + 1)) ((A.alloc (.cells #[s] 26 (0, 0))).alloc (.cells #[f] 39 (0, 0))) := by
  have : wpF Try.prog n₀ 19 #[s, f] (fun r A' => r = keepV A.heap.size (A.heap.size + 1) ∧ A' = (A.alloc (.cells #[s] 26 (0, 0))).alloc (.cells #[f] 39 (0, 0))) A := by
    refine wpF_fn (ts := #[s, f, undef, undef, undef, undef]) good ⟨rfl, rfl, rfl⟩ rfl ?_
    refine cw_seq good (cw_region good ?_)
    refine wpO_val (aop_box (v := s) rfl rfl hs) ?_
    refine wpO_val (aop_box (v := f) rfl rfl hf) ?_
    refine wpO_as .nilFunc rfl ?_
    refine cw_seq good (cw_region good ?_)
    rw [alloc_sz]
    refine wpO_val (aop_func (l := []) (l' := [ptr A.heap.size, ptr (A.heap.size + 1)]) rfl rfl rfl) ?_
    refine wpO_as (keepV A.heap.size (A.heap.size + 1)) rfl ?_
    exact cw_ret good (ret_one (keepV A.heap.size (A.heap.size + 1)) rfl ⟨rfl, rfl⟩)
  obtain ⟨v, A1, h1, rfl, rfl⟩ := this
  exact h1
theorem skip_do {J : Asn} {s : Value} {n : Int} {F : Foot} {A : World} (hJ : Owns J) (h : J F A) (hs : isOne s = true) :
    ∃ bn bs A' F', SndCall Try.prog n₀ 18 #[s, .int .i64 n] A (skipV bn bs) A' ∧ takeJ bn bs n s (fun _ : Unit => J) () F' A' ∧ Step F A F' A' := by
  obtain ⟨F1, h1, S1⟩ := Asn.new hJ h s 26
  obtain ⟨F2, h2, S2⟩ := Asn.new (Owns.sep Owns.cel hJ) h1 (.int .i64 n) 3
  rw [alloc_sz] at h2
  exact ⟨_, _, _, F2, skip_call hs, h2, S1.trans S2⟩
theorem keep_do {J : Asn} {s f : Value} {F : Foot} {A : World} (hJ : Owns J) (h : J F A) (hs : isOne s = true) (hf : isOne f = true) :
    ∃ bs bf A' F', SndCall Try.prog n₀ 19 #[s, f] A (keepV bs bf) A' ∧ keepJ bs bf s f (fun _ : Unit => J) () F' A' ∧ Step F A F' A' := by
  obtain ⟨F1, h1, S1⟩ := Asn.new hJ h s 26
  obtain ⟨F2, h2, S2⟩ := Asn.new (Owns.sep Owns.cel hJ) h1 f 39
  rw [alloc_sz] at h2
  exact ⟨_, _, _, F2, keep_call hs hf, Asn.swap h2, S1.trans S2⟩
theorem take_do' {J : Asn} {s : Value} {n : Int} {F : Foot} {A : World} (hJ : Owns J) (h : J F A) (hs : isOne s = true) :
    ∃ bn bs A' F', SndCall Try.prog n₀ 14 #[s, .int .i64 n] A (takeV bn bs) A' ∧ takeJ bn bs n s (fun _ : Unit => J) () F' A' ∧ Step F A F' A' := take_do (J := fun _ : Unit => J) (q := ()) hJ h hs
end Go.Proofs.Ytipomlcnmaldkaa
/-
  SeqTwice answers true, of any list that may be read and any two numbers. No condition.
-/
namespace Go.Proofs.Ytipomlcnmaldkaa
open Go.Abs
variable {n₀ : Nat}
set_option maxRecDepth 4000
def fnV (f : Nat) : Value := .func (.func f) #[] #[]
theorem rem_p2 : Ppec Try.prog n₀ (fnV 20) (fun x => x.tmod 2 == 0) := fun A x => by
  have : wpF Try.prog n₀ 20 #[.int .i64 x] (fun r A' => r = .bool (x.tmod 2 == 0) ∧ A' = A) A := by
    refine wpF_fn (ts := #[.int .i64 x, undef, undef, undef, undef, undef]) good ⟨rfl, rfl, rfl⟩ rfl ?_
    refine cw_seq good (cw_region good ?_)
    refine wpO_as (.bool false) rfl ?_
    refine cw_seq good (cw_region good ?_)
    refine wpO_mv (.int .i64 x) rfl ?_
    refine wpO_val (aop_int (k := .i64) (m := x) (n := 2) rfl rfl rfl rfl) ?_
    refine wpO_val (aop_int (k := .i64) (m := x.tmod 2) (n := 0) rfl rfl rfl rfl) ?_
    refine wpO_as (.bool (x.tmod 2 == 0)) rfl ?_
    exact cw_ret good (ret_one (.bool (x.tmod 2 == 0)) rfl ⟨rfl, rfl⟩)
  obtain ⟨v, A1, h1, rfl, rfl⟩ := this
  exact ⟨20, _, _, #[], #[], ⟨rfl, rfl, rfl⟩, rfl, h1⟩
theorem rem_p3 : Ppec Try.prog n₀ (fnV 21) (fun x => x.tmod 3 == 0) := fun A x => by
  have : wpF Try.prog n₀ 21 #[.int .i64 x] (fun r A' => r = .bool (x.tmod 3 == 0) ∧ A' = A) A := by
    refine wpF_fn (ts := #[.int .i64 x, undef, undef, undef, undef, undef]) good ⟨rfl, rfl, rfl⟩ rfl ?_
    refine cw_seq good (cw_region good ?_)
    refine wpO_as (.bool false) rfl ?_
    refine cw_seq good (cw_region good ?_)
    refine wpO_mv (.int .i64 x) rfl ?_
    refine wpO_val (aop_int (k := .i64) (m := x) (n := 3) rfl rfl rfl rfl) ?_
    refine wpO_val (aop_int (k := .i64) (m := x.tmod 3) (n := 0) rfl rfl rfl rfl) ?_
    refine wpO_as (.bool (x.tmod 3 == 0)) rfl ?_
    exact cw_ret good (ret_one (.bool (x.tmod 3 == 0)) rfl ⟨rfl, rfl⟩)
  obtain ⟨v, A1, h1, rfl, rfl⟩ := this
  exact ⟨21, _, _, #[], #[], ⟨rfl, rfl, rfl⟩, rfl, h1⟩
theorem rem_p6 : Ppec Try.prog n₀ (fnV 22) (fun x => x.tmod 6 == 0) := fun A x => by
  have : wpF Try.prog n₀ 22 #[.int .i64 x] (fun r A' => r = .bool (x.tmod 6 == 0) ∧ A' = A) A := by
    refine wpF_fn (ts := #[.int .i64 x, undef, undef, undef, undef, undef]) good ⟨rfl, rfl, rfl⟩ rfl ?_
    refine cw_seq good (cw_region good ?_)
    refine wpO_as (.bool false) rfl ?_
    refine cw_seq good (cw_region good ?_)
    refine wpO_mv (.int .i64 x) rfl ?_
    refine wpO_val (aop_int (k := .i64) (m := x) (n := 6) rfl rfl rfl rfl) ?_
    refine wpO_val (aop_int (k := .i64) (m := x.tmod 6) (n := 0) rfl rfl rfl rfl) ?_
    refine wpO_as (.bool (x.tmod 6 == 0)) rfl ?_
    exact cw_ret good (ret_one (.bool (x.tmod 6 == 0)) rfl ⟨rfl, rfl⟩)
  obtain ⟨v, A1, h1, rfl, rfl⟩ := this
  exact ⟨22, _, _, #[], #[], ⟨rfl, rfl, rfl⟩, rfl, h1⟩
theorem gives_frame {s : Value} {J R : Asn} {l : List Int} (H : Gives n₀ s J l) (hR : Owns R) : Gives n₀ s (J.sep R) l := by
  refine ⟨fun _ => Owns.sep (H.loc ()) hR, fun {α y I st} Hy {b0 a0 b1 a1 F A} h hr => ?_⟩
  have h1 : ((J.sep (I a0)).sep R) F A := Asn.assoc' (Asn.map' (Asn.assoc h) fun _ h => Asn.comm h)
  obtain ⟨A2, F2, c2, h2, S2⟩ := Asn.frame (Owns.sep (H.loc ()) (Hy.loc a0)) hR (Owns.sep (H.loc ()) (Hy.loc a1)) h1 (R := fun A2 => CallV Try.prog n₀ s #[y] A undef A2) (fun F1 h => H.run Hy (b1 := b1) h hr)
  exact ⟨A2, F2, c2, Asn.assoc' (Asn.map' (Asn.assoc h2) fun _ h => Asn.comm h), S2⟩
theorem add_add (a : Addr) (i j : Nat) : (a.add i).add j = a.add (i + j) := by
  unfold Addr.add
  by_cases hi : i = 0
  · subst hi; simp
  · by_cases hj : j = 0
    · subst hj; simp [hi]
    · simp [hi, hj, Nat.add_assoc]
theorem Rd_drop {A : World} {p : Option Addr} {l : List Int} {c x k : Nat} (h : Rd A p l) (hc : l.length ≤ c) : Rd A (if c = x then p else p.map (·.add (x * 1))) ((l.drop x).take k) := by
  intro i y hy
  rw [List.getElem?_take] at hy
  split at hy
  case isFalse => cases hy
  rw [List.getElem?_drop] at hy
  have hlt : x + i < l.length := (List.getElem?_eq_some_iff.1 hy).1
  obtain ⟨ad, rfl, hcell⟩ := h _ _ hy
  rw [if_neg (by omega)]
  refine ⟨_, rfl, ?_⟩
  rw [add_add]
  rw [show x * 1 + i * 1 = (x + i) * 1 by omega]
  exact hcell
theorem six (l : List Int) : (l.filter fun x => x.tmod 2 == 0).filter (fun x => x.tmod 3 == 0) = l.filter fun x => x.tmod 6 == 0 := by
  rw [List.filter_filter]
  congr 1
  funext x
  have e2 : (x.tmod 2 == 0) = decide ((2 : Int) ∣ x) := by rw [Bool.eq_iff_iff]; simp [Int.dvd_iff_tmod_eq_zero]
  have e3 : (x.tmod 3 == 0) = decide ((3 : Int) ∣ x) := by rw [Bool.eq_iff_iff]; simp [Int.dvd_iff_tmod_eq_zero]
  have e6 : (x.tmod 6 == 0) = decide ((6 : Int) ∣ x) := by rw [Bool.eq_iff_iff]; simp [Int.dvd_iff_tmod_eq_zero]
  rw [e2, e3, e6, ← Bool.decide_and, decide_eq_decide]
  omega
theorem between (l : List Int) (n k : Nat) : (l.drop (min n l.length)).take (min (min n l.length + min k l.length) l.length - min n l.length) = (l.drop n).take k := by
  by_cases h : n ≤ l.length
  · rw [Nat.min_eq_left h, List.take_eq_take_iff, List.length_drop]
    omega
  · rw [show l.drop n = [] from List.drop_eq_nil_of_le (by omega), show l.drop (min n l.length) = [] from List.drop_eq_nil_of_le (by omega)]
    simp

theorem twice_call {A : World} {F : Foot} {p : Option Addr} {l : List Int} {c : Nat} {n k : Int} (h : rd p l F A) (hc : l.length ≤ c) (hn : n < 9223372036854775808) (hk : k < 9223372036854775808) :
    ∃ A', SndCall Try.prog n₀ 5 #[.slice p l.length c, .int .i64 n, .int .i64 k] A (.bool true) A' := by
  have hlen : (l.take 30).length = min l.length 30 := by rw [List.length_take, Nat.min_comm]
  generalize hl' : l.take 30 = l' at hlen
  have h0 : rd p l' F A := hl' ▸ rd_take h
  have hl30 : l'.length ≤ 30 := by omega
  have hcut : SndCall Try.prog n₀ 9 #[.slice p l.length c, .int .i64 30] A (.slice p l'.length c) A := by rw [hlen]; exact cut_call hc h.2.2
  -- what comes one by one
  obtain ⟨b1, A1, F1, c1, h1, _⟩ := of_do (n₀ := n₀) (v := .slice p l'.length c) Owns.rd h0 rfl
  have g1 := vals_gives (n₀ := n₀) (b := b1) (p := p) (cap := c) (l := l') (by omega)
  have h1 : valsJ b1 p c l' () F1 A1 := h1
  generalize hJ1 : valsJ b1 p c l' () = J1 at h1 g1
  have o1 : Owns J1 := hJ1 ▸ Owns.sep Owns.cel Owns.rd
  -- skipped, taken
  obtain ⟨bn1, bs1, A2, F2, c2, h2, _⟩ := skip_do (n₀ := n₀) (s := valsV b1) (n := n) o1 h1 rfl
  have g2 := skip_gives (bn := bn1) (bs := bs1) g1 hn
  obtain ⟨bn2, bs2, A3, F3, c3, h3, _⟩ := take_do' (n₀ := n₀) (s := skipV bn1 bs1) (n := k) (g2.loc ()) h2 rfl
  have g3 := take_gives (bn := bn2) (bs := bs2) g2 hk
  obtain ⟨v1, A4, F4, c4, h4, _⟩ := gives_list g3 h3 (by simp only [List.length_take, List.length_drop]; omega)
  generalize hX : (l'.drop n.toNat).take k.toNat = X at h4
  have h4' := Asn.cat (l := [cel bn2 (.int .i64 k), cel bs2 (skipV bn1 bs1), cel bn1 (.int .i64 n), cel bs1 (valsV b1), J1]) (l' := [lstV 3 v1 X]) h4
  obtain ⟨F5, h5, _⟩ := Asn.drop (I := cel bn2 (.int .i64 k)) h4'
  obtain ⟨F6, h6, _⟩ := Asn.drop (I := cel bs2 (skipV bn1 bs1)) h5
  obtain ⟨F7, h7, _⟩ := Asn.drop (I := cel bn1 (.int .i64 n)) h6
  obtain ⟨F8, h8, _⟩ := Asn.drop (I := cel bs1 (valsV b1)) h7
  have h8 : (J1.sep (lstV 3 v1 X)) F8 A4 := h8
  have g4 := gives_frame g1 (R := lstV 3 v1 X) Owns.lstV
  -- kept twice
  obtain ⟨bs3, bf3, A5, F9, c5, h9, _⟩ := keep_do (n₀ := n₀) (s := valsV b1) (f := fnV 20) (g4.loc ()) h8 rfl rfl
  have g5 := keep_gives (bs := bs3) (bf := bf3) rem_p2 g4
  obtain ⟨bs4, bf4, A6, F10, c6, h10, _⟩ := keep_do (n₀ := n₀) (s := keepV bs3 bf3) (f := fnV 21) (g5.loc ()) h9 rfl rfl
  have g6 := keep_gives (bs := bs4) (bf := bf4) rem_p3 g5
  have hM : ∀ q : Int → Bool, (l'.filter q).length ≤ 30 := fun q => Nat.le_trans (List.length_filter_le _ _) hl30
  obtain ⟨v2, A7, F11, c7, h11, _⟩ := gives_list g6 h10 (by rw [six]; exact Nat.lt_of_le_of_lt (hM _) (by decide))
  rw [six] at h11
  have h11' := Asn.cat (l := [cel bs4 (keepV bs3 bf3), cel bf4 (fnV 21), cel bs3 (valsV b1), cel bf3 (fnV 20), J1, lstV 3 v1 X]) (l' := [lstV 3 v2 (l'.filter fun x => x.tmod 6 == 0)]) h11
  obtain ⟨F12, h12, _⟩ := Asn.drop (I := cel bs4 (keepV bs3 bf3)) h11'
  obtain ⟨F13, h13, _⟩ := Asn.drop (I := cel bf4 (fnV 21)) h12
  obtain ⟨F14, h14, _⟩ := Asn.drop (I := cel bs3 (valsV b1)) h13
  obtain ⟨F15, h15, _⟩ := Asn.drop (I := cel bf3 (fnV 20)) h14
  have h15 : (J1.sep ((lstV 3 v1 X).sep (lstV 3 v2 (l'.filter fun x => x.tmod 6 == 0)))) F15 A7 := h15
  have g7 := gives_frame g1 (R := (lstV 3 v1 X).sep (lstV 3 v2 (l'.filter fun x => x.tmod 6 == 0))) (Owns.sep Owns.lstV Owns.lstV)
  -- kept once
  obtain ⟨bs5, bf5, A8, F16, c8, h16, _⟩ := keep_do (n₀ := n₀) (s := valsV b1) (f := fnV 22) (g7.loc ()) h15 rfl rfl
  have g8 := keep_gives (bs := bs5) (bf := bf5) rem_p6 g7
  obtain ⟨v3, A9, F17, c9, h17, _⟩ := gives_list g8 h16 (Nat.lt_of_le_of_lt (hM _) (by decide))
  -- what was told
  obtain ⟨_, k1⟩ := Asn.right h15
  obtain ⟨_, k2⟩ := Asn.left k1
  obtain ⟨pv1, rfl, r1⟩ := lstV_rd k2
  obtain ⟨_, k3⟩ := Asn.left h15
  rw [← hJ1] at k3
  obtain ⟨_, k4⟩ := Asn.right k3
  obtain ⟨_, k5⟩ := Asn.left h17
  obtain ⟨_, k6⟩ := Asn.right k5
  obtain ⟨_, k6⟩ := Asn.right k6
  obtain ⟨_, k6⟩ := Asn.right k6
  obtain ⟨_, k6⟩ := Asn.right k6
  obtain ⟨pv2, rfl, r2⟩ := lstV_rd k6
  obtain ⟨_, k7⟩ := Asn.right h17
  obtain ⟨pv3, rfl, r3⟩ := lstV_rd k7
  have hxl : min n.toNat l'.length ≤ l'.length := Nat.min_le_right _ _
  have hX2 : (l'.drop (min n.toNat l'.length)).take (min (min n.toNat l'.length + min k.toNat l'.length) l'.length - min n.toNat l'.length) = X := (between l' n.toNat k.toNat).trans hX
  generalize hx : min n.toNat l'.length = x at hxl hX2
  generalize hz : min k.toNat l'.length = z at hX2
  have hzl : z ≤ l'.length := by omega
  generalize hy : min (x + z) l'.length = y at hX2
  have hxy : x ≤ y ∧ y ≤ l'.length := by omega
  have hXl : X.length = y - x := by rw [← hX2, List.length_take, List.length_drop]; omega
  have r0 : Rd A7 (if c = x then p else p.map (·.add (x * 1))) X := hX2 ▸ Rd_drop k4.2.1 (by omega)
  have e1 : SndCall Try.prog n₀ 15 #[.slice pv1 X.length X.length, .slice (if c = x then p else p.map (·.add (x * 1))) (y - x) (c - x)] A7 (.bool true) A7 := by
    rw [← hXl]; exact eq_true (by omega) r1 r0
  have e2 := eq_true (n₀ := n₀) (c := (l'.filter fun x => x.tmod 6 == 0).length) (d := (l'.filter fun x => x.tmod 6 == 0).length) (Nat.lt_of_le_of_lt (hM _) (by decide)) r2 r3
  have : wpF Try.prog n₀ 5 #[.slice p l.length c, .int .i64 n, .int .i64 k] (fun v A' => v = .bool true) A := by
    refine wpF_fn (ts := #[.slice p l.length c, .int .i64 n, .int .i64 k, undef, undef, undef, undef, undef, undef, undef, undef, undef, undef, undef, undef, undef, undef, undef, undef, undef, undef, undef, undef, undef, undef, undef, undef, undef, undef, undef, undef, undef, undef, undef, undef, undef, undef, undef, undef, undef, undef, undef, undef, undef, undef, undef, undef, undef, undef, undef, undef, undef, undef, undef, undef, undef, undef, undef, undef, undef, undef, undef]) good ⟨rfl, rfl, rfl⟩ (by kernel_rfl) ?_
    refine cw_seq good (cw_region good ?_)
    refine wpO_as (.bool false) rfl ?_
    simp only [Act.put, List.setIfInBounds_toArray, List.set_cons_succ, List.set_cons_zero]
    refine cw_seq good (cw_region good ?_)
    refine wpO_call (f := 8) (first := #[]) (cap := #[]) (l := []) (xs := #[]) ⟨rfl, rfl, rfl⟩ rfl rfl rfl ⟨_, _, begun_call, ?_⟩
    refine wpO_as (.bool true) rfl ?_
    simp only [Act.put, List.setIfInBounds_toArray, List.set_cons_succ, List.set_cons_zero]
    refine cw_seq good (cw_seq good (cw_region good ?_))
    refine wpO_mv (.bool true) rfl ?_
    refine wpO_val (aop_not (b := true) rfl rfl) ?_
    simp only [Act.put, List.setIfInBounds_toArray, List.set_cons_succ, List.set_cons_zero]
    refine cw_cond good false rfl (cw_skip good ?_)
    refine cw_seq good (cw_region good ?_)
    refine wpO_mv (.slice p l.length c) rfl ?_
    refine wpO_call (f := 9) (first := #[]) (cap := #[]) (l := [.slice p l.length c, .int .i64 30]) (xs := #[.slice p l.length c, .int .i64 30]) ⟨rfl, rfl, rfl⟩ rfl rfl rfl ⟨_, _, hcut, ?_⟩
    refine wpO_as (.slice p l'.length c) rfl ?_
    simp only [Act.put, List.setIfInBounds_toArray, List.set_cons_succ, List.set_cons_zero]
    refine cw_seq good (cw_seq good (cw_region good ?_))
    refine wpO_mv (.int .i64 n) rfl ?_
    by_cases hn0 : n < 0
    · refine wpO_val (aop_int (k := .i64) (m := n) (n := 0) (v := .bool true) rfl rfl rfl (by simp [intV, hn0])) ?_
      refine wpO_mv (.bool true) rfl ?_
      simp only [Act.put, List.setIfInBounds_toArray, List.set_cons_succ, List.set_cons_zero]
      refine wpO_not ?_
      refine wpO_not ?_
      refine wpO_val (aop_pick (b := true) rfl rfl) ?_
      simp only [Act.put, List.setIfInBounds_toArray, List.set_cons_succ, List.set_cons_zero]
      refine cw_cond good true rfl ?_
      refine cw_seq good (cw_region good ?_)
      refine wpO_as (.bool true) rfl ?_
      exact cw_ret good (ret_one (.bool true) rfl rfl)
    refine wpO_val (aop_int (k := .i64) (m := n) (n := 0) (v := .bool false) rfl rfl rfl (by simp [intV]; omega)) ?_
    refine wpO_mv (.bool false) rfl ?_
    simp only [Act.put, List.setIfInBounds_toArray, List.set_cons_succ, List.set_cons_zero]
    refine wpO_mv (.int .i64 k) rfl ?_
    refine wpO_val (aop_int (k := .i64) (m := k) (n := 0) rfl rfl rfl rfl) ?_
    refine wpO_val (aop_pick (b := false) rfl rfl) ?_
    simp only [Act.put, List.setIfInBounds_toArray, List.set_cons_succ, List.set_cons_zero]
    by_cases hk0 : k < 0
    · refine cw_cond good true (congrArg Value.bool (by simpa using hk0)) ?_
      refine cw_seq good (cw_region good ?_)
      refine wpO_as (.bool true) rfl ?_
      exact cw_ret good (ret_one (.bool true) rfl rfl)
    refine cw_cond good false (congrArg Value.bool (by simpa using hk0)) (cw_skip good ?_)
    refine cw_seq good (cw_region good ?_)
    refine wpO_mv (.slice p l'.length c) rfl ?_
    refine wpO_call (f := 11) (first := #[]) (cap := #[]) (l := [.slice p l'.length c]) (xs := #[.slice p l'.length c]) ⟨rfl, rfl, rfl⟩ rfl rfl rfl ⟨_, _, c1, ?_⟩
    refine wpO_as (valsV b1) rfl ?_
    simp only [Act.put, List.setIfInBounds_toArray, List.set_cons_succ, List.set_cons_zero]
    refine cw_seq good (cw_region good ?_)
    refine wpO_mv (.int .i64 n) rfl ?_
    refine wpO_mv (.slice p l'.length c) rfl ?_
    refine wpO_val (aop_len rfl rfl rfl rfl rfl) ?_
    refine wpO_val (aop_min (k := .i64) (m := n) (n := l'.length) rfl rfl rfl rfl) ?_
    rw [show (if (l'.length : Int) < n then (l'.length : Int) else n) = (x : Int) by split <;> omega]
    simp only [Act.put, List.setIfInBounds_toArray, List.set_cons_succ, List.set_cons_zero]
    refine wpO_as (.int .i64 x) rfl ?_
    simp only [Act.put, List.setIfInBounds_toArray, List.set_cons_succ, List.set_cons_zero]
    refine cw_seq good (cw_region good ?_)
    refine wpO_mv (.int .i64 x) rfl ?_
    refine wpO_mv (.int .i64 k) rfl ?_
    refine wpO_mv (.slice p l'.length c) rfl ?_
    refine wpO_val (aop_len rfl rfl rfl rfl rfl) ?_
    simp only [Act.put, List.setIfInBounds_toArray, List.set_cons_succ, List.set_cons_zero]
    refine wpO_val (aop_min (k := .i64) (m := k) (n := l'.length) rfl rfl rfl rfl) ?_
    rw [show (if (l'.length : Int) < k then (l'.length : Int) else k) = (z : Int) by split <;> omega]
    simp only [Act.put, List.setIfInBounds_toArray, List.set_cons_succ, List.set_cons_zero]
    refine wpO_val (aop_int (k := .i64) (m := x) (n := z) (v := .int .i64 (x + z : Nat)) rfl rfl rfl (intV_add (by omega) (by omega) (by omega))) ?_
    refine wpO_mv (.slice p l'.length c) rfl ?_
    refine wpO_val (aop_len rfl rfl rfl rfl rfl) ?_
    simp only [Act.put, List.setIfInBounds_toArray, List.set_cons_succ, List.set_cons_zero]
    refine wpO_val (aop_min (k := .i64) (m := (x + z : Nat)) (n := l'.length) rfl rfl rfl rfl) ?_
    rw [show (if (l'.length : Int) < ((x + z : Nat) : Int) then (l'.length : Int) else ((x + z : Nat) : Int)) = (y : Int) by split <;> omega]
    simp only [Act.put, List.setIfInBounds_toArray, List.set_cons_succ, List.set_cons_zero]
    refine wpO_as (.int .i64 y) rfl ?_
    simp only [Act.put, List.setIfInBounds_toArray, List.set_cons_succ, List.set_cons_zero]
    refine cw_seq good (cw_region good ?_)
    refine wpO_mv (valsV b1) rfl ?_
    refine wpO_mv (.int .i64 n) rfl ?_
    simp only [Act.put, List.setIfInBounds_toArray, List.set_cons_succ, List.set_cons_zero]
    refine wpO_call (f := 18) (first := #[]) (cap := #[]) (l := [valsV b1, .int .i64 n]) (xs := #[valsV b1, .int .i64 n]) ⟨rfl, rfl, rfl⟩ rfl rfl rfl ⟨_, _, c2, ?_⟩
    refine wpO_mv (.int .i64 k) rfl ?_
    simp only [Act.put, List.setIfInBounds_toArray, List.set_cons_succ, List.set_cons_zero]
    refine wpO_call (f := 14) (first := #[]) (cap := #[]) (l := [skipV bn1 bs1, .int .i64 k]) (xs := #[skipV bn1 bs1, .int .i64 k]) ⟨rfl, rfl, rfl⟩ rfl rfl rfl ⟨_, _, c3, ?_⟩
    simp only [Act.put, List.setIfInBounds_toArray, List.set_cons_succ, List.set_cons_zero]
    refine wpO_call (f := 13) (first := #[]) (cap := #[]) (l := [takeV bn2 bs2]) (xs := #[takeV bn2 bs2]) ⟨rfl, rfl, rfl⟩ rfl rfl rfl ⟨_, _, c4, ?_⟩
    refine wpO_as (.slice pv1 X.length X.length) rfl ?_
    simp only [Act.put, List.setIfInBounds_toArray, List.set_cons_succ, List.set_cons_zero]
    refine cw_seq good (cw_region good ?_)
    refine wpO_mv (valsV b1) rfl ?_
    simp only [Act.put, List.setIfInBounds_toArray, List.set_cons_succ, List.set_cons_zero]
    refine wpO_call (f := 19) (first := #[]) (cap := #[]) (l := [valsV b1, fnV 20]) (xs := #[valsV b1, fnV 20]) ⟨rfl, rfl, rfl⟩ rfl rfl rfl ⟨_, _, c5, ?_⟩
    simp only [Act.put, List.setIfInBounds_toArray, List.set_cons_succ, List.set_cons_zero]
    refine wpO_call (f := 19) (first := #[]) (cap := #[]) (l := [keepV bs3 bf3, fnV 21]) (xs := #[keepV bs3 bf3, fnV 21]) ⟨rfl, rfl, rfl⟩ rfl rfl rfl ⟨_, _, c6, ?_⟩
    simp only [Act.put, List.setIfInBounds_toArray, List.set_cons_succ, List.set_cons_zero]
    refine wpO_call (f := 13) (first := #[]) (cap := #[]) (l := [keepV bs4 bf4]) (xs := #[keepV bs4 bf4]) ⟨rfl, rfl, rfl⟩ rfl rfl rfl ⟨_, _, c7, ?_⟩
    refine wpO_as (.slice pv2 (l'.filter fun x => x.tmod 6 == 0).length (l'.filter fun x => x.tmod 6 == 0).length) rfl ?_
    simp only [Act.put, List.setIfInBounds_toArray, List.set_cons_succ, List.set_cons_zero]
    refine cw_seq good (cw_region good ?_)
    refine wpO_mv (.slice pv1 X.length X.length) rfl ?_
    refine wpO_mv (.slice p l'.length c) rfl ?_
    refine wpO_mv (.int .i64 x) rfl ?_
    refine wpO_mv (.int .i64 y) rfl ?_
    simp only [Act.put, List.setIfInBounds_toArray, List.set_cons_succ, List.set_cons_zero]
    refine wpO_val (aop_slice (k := .i64) (l := x) (h := y) rfl rfl rfl rfl (.inr rfl) rfl hxy.1 (by omega) (by omega) fun a ha => ro_block (k4.2.2 a ha)) ?_
    simp only [Act.put, List.setIfInBounds_toArray, List.set_cons_succ, List.set_cons_zero]
    refine wpO_call (f := 15) (first := #[]) (cap := #[]) (l := [.slice pv1 X.length X.length, .slice (if c = x then p else p.map (·.add (x * 1))) (y - x) (c - x)]) (xs := #[.slice pv1 X.length X.length, .slice (if c = x then p else p.map (·.add (x * 1))) (y - x) (c - x)]) ⟨rfl, rfl, rfl⟩ rfl rfl rfl ⟨_, _, e1, ?_⟩
    simp only [Act.put, List.setIfInBounds_toArray, List.set_cons_succ, List.set_cons_zero]
    refine wpO_mv (.bool true) rfl ?_
    simp only [Act.put, List.setIfInBounds_toArray, List.set_cons_succ, List.set_cons_zero]
    refine wpO_mv (.slice pv2 (l'.filter fun x => x.tmod 6 == 0).length (l'.filter fun x => x.tmod 6 == 0).length) rfl ?_
    refine wpO_mv (valsV b1) rfl ?_
    simp only [Act.put, List.setIfInBounds_toArray, List.set_cons_succ, List.set_cons_zero]
    refine wpO_call (f := 19) (first := #[]) (cap := #[]) (l := [valsV b1, fnV 22]) (xs := #[valsV b1, fnV 22]) ⟨rfl, rfl, rfl⟩ rfl rfl rfl ⟨_, _, c8, ?_⟩
    simp only [Act.put, List.setIfInBounds_toArray, List.set_cons_succ, List.set_cons_zero]
    refine wpO_call (f := 13) (first := #[]) (cap := #[]) (l := [keepV bs5 bf5]) (xs := #[keepV bs5 bf5]) ⟨rfl, rfl, rfl⟩ rfl rfl rfl ⟨_, _, c9, ?_⟩
    simp only [Act.put, List.setIfInBounds_toArray, List.set_cons_succ, List.set_cons_zero]
    refine wpO_call (f := 15) (first := #[]) (cap := #[]) (l := [.slice pv2 (l'.filter fun x => x.tmod 6 == 0).length (l'.filter fun x => x.tmod 6 == 0).length, .slice pv3 (l'.filter fun x => x.tmod 6 == 0).length (l'.filter fun x => x.tmod 6 == 0).length]) (xs := #[.slice pv2 (l'.filter fun x => x.tmod 6 == 0).length (l'.filter fun x => x.tmod 6 == 0).length, .slice pv3 (l'.filter fun x => x.tmod 6 == 0).length (l'.filter fun x => x.tmod 6 == 0).length]) ⟨rfl, rfl, rfl⟩ rfl rfl rfl ⟨_, _, e2, ?_⟩
    refine wpO_val (aop_pick (b := true) rfl rfl) ?_
    simp only [Act.put, List.setIfInBounds_toArray, List.set_cons_succ, List.set_cons_zero]
    refine wpO_as (.bool true) rfl ?_
    exact cw_ret good (ret_one (.bool true) rfl rfl)
  obtain ⟨v, A', h1, rfl⟩ := this
  exact ⟨A', h1⟩
end Go.Proofs.Ytipomlcnmaldkaa
/-
  seq.Chain, of three, the second of them nothing; seq.Fold. No condition.
-/
namespace Go.Proofs.Ytipomlcnmaldkaa
open Go.Abs
variable {n₀ : Nat}
set_option maxRecDepth 4000
theorem each_nil {y : Value} {A : World} : SndCall Try.prog n₀ 35 #[.nilFunc, y] A undef A := by
  have : wpF Try.prog n₀ 35 #[.nilFunc, y] (fun v A1 => v = undef ∧ A1 = A) A := by
    refine wpF_fn (ts := #[.nilFunc, y, undef, undef, undef, undef, undef, undef, undef]) good ⟨rfl, rfl, rfl⟩ rfl ?_
    refine cw_seq good (cw_region good ?_)
    refine wpO_mv .nilFunc rfl ?_
    refine wpO_val (aop_neNil (v := .nilFunc) (w := .nilFunc) (b := true) rfl rfl rfl rfl rfl) ?_
    refine cw_cond good false rfl (cw_skip good ?_)
    exact ret_none ⟨rfl, rfl⟩
  obtain ⟨v, A1, h1, rfl, rfl⟩ := this
  exact h1
def chainV (b : Nat) : Value := .func (.func 46) #[] #[ptr b]
def chainY (yb mb : Nat) : Value := .func (.func 47) #[] #[ptr yb, ptr mb]
def chainSt {α : Type} (st : α → Int → Option (Bool × α)) : Bool × α → Int → Option (Bool × (Bool × α)) := fun s x => (st s.2 x).map fun b => (b.1, (b.1, b.2))
def chainI {α : Type} (yb mb : Nat) (y : Value) (I : α → Asn) : Bool × α → Asn := fun s => (cel mb (.bool s.1)).sep ((cel yb y).sep (I s.2))
theorem chainY_spec {α : Type} {yb mb : Nat} {y : Value} {I : α → Asn} {st : α → Int → Option (Bool × α)} (H : Ypec Try.prog n₀ y I st) : Ypec Try.prog n₀ (chainY yb mb) (chainI yb mb y I) (chainSt st) := by
  refine ⟨rfl, fun s => Owns.sep Owns.cel (Owns.sep Owns.cel (H.loc _)), fun {s F A x b s'} h hst => ?_⟩
  obtain ⟨m, a⟩ := s
  unfold chainSt at hst
  simp only at hst
  cases hs : st a x with
  | none => simp [hs] at hst
  | some r =>
    obtain ⟨bb, a'⟩ := r
    simp [hs] at hst
    obtain ⟨rfl, rfl⟩ := hst
    have h2 : Asn.all [I a, cel mb (.bool m), cel yb y] F A := Asn.perm [cel mb (.bool m), cel yb y, I a] [2, 0, 1] h (by decide)
    obtain ⟨A2, F2, c2, h3, S2⟩ := Asn.frame (H.loc a) (Owns.sep Owns.cel Owns.cel) (H.loc a') h2 (R := fun A2 => CallV Try.prog n₀ y #[.int .i64 x] A (.bool bb) A2) (fun F1 h1 => H.run h1 hs)
    have h4 : Asn.all [cel mb (.bool m), cel yb y, I a'] F2 A2 := Asn.perm [I a', cel mb (.bool m), cel yb y] [1, 2, 0] h3 (by decide)
    obtain ⟨h5, S5⟩ := Asn.put (Owns.sep Owns.cel (H.loc a')) h4 (.bool bb)
    have : wpF Try.prog n₀ 47 #[.int .i64 x, ptr yb, ptr mb] (fun v A' => v = .bool bb ∧ A' = A2.setCell ⟨mb, 0, none⟩ (.bool bb)) A := by
      refine wpF_fn (ts := #[.int .i64 x, ptr yb, ptr mb, undef, undef, undef, undef, undef, undef]) good ⟨rfl, rfl, rfl⟩ rfl ?_
      refine cw_seq good (cw_region good ?_)
      refine wpO_as (.bool false) rfl ?_
      refine cw_seq good (cw_region good ?_)
      refine wpO_val (aop_load rfl rfl rfl (Asn.get (Asn.swap h))) ?_
      refine wpO_mv (.int .i64 x) rfl ?_
      simp only [Act.put, List.setIfInBounds_toArray, List.set_cons_succ, List.set_cons_zero]
      refine wpO_callv (y := y) (l := [.int .i64 x]) c2 rfl rfl ?_
      refine wpO_unit (aop_store (v := .bool bb) rfl rfl rfl rfl rfl (Asn.get h4) (Asn.soft h4)) ?_
      simp only [Act.put, List.setIfInBounds_toArray, List.set_cons_succ, List.set_cons_zero]
      refine cw_seq good (cw_region good ?_)
      refine wpO_val (aop_load rfl rfl rfl (Asn.get h5)) ?_
      refine wpO_as (.bool bb) rfl ?_
      exact cw_ret good (ret_one (.bool bb) rfl ⟨rfl, rfl⟩)
    obtain ⟨v, A3, h6, rfl, rfl⟩ := this
    exact ⟨_, F2, ⟨47, _, _, _, _, ⟨rfl, rfl, rfl⟩, rfl, h6⟩, h5, S2.trans S5⟩
theorem fold_chain {α : Type} {st : α → Int → Option (Bool × α)} : ∀ (l l' : List Int) (a a1 : α), foldY st (l ++ l') a = some a1 → ∃ m a2, foldY (chainSt st) l (true, a) = some (m, a2) ∧ (m = false → a2 = a1) ∧ (m = true → foldY st l' a2 = some a1)
  | [], l', a, a1, h => ⟨true, a, rfl, by simp, fun _ => h⟩
  | x :: l, l', a, a1, h => by
    simp only [List.cons_append, foldY] at h
    cases hs : st a x with
    | none => rw [hs] at h; cases h
    | some r =>
      obtain ⟨b, a'⟩ := r
      rw [hs] at h
      have e : chainSt st (true, a) x = some (b, (b, a')) := by simp [chainSt, hs]
      cases b with
      | false => cases h; exact ⟨false, a1, by simp only [foldY, e], fun _ => rfl, by simp⟩
      | true =>
        obtain ⟨m, a2, h1, h2, h3⟩ := fold_chain l l' a' a1 h
        exact ⟨m, a2, by simp only [foldY, e]; exact h1, h2, h3⟩
def chainJ (b q : Nat) (s t : Value) (J K : Asn) : Asn := Asn.all [cel b (.slice (some ⟨q, 0, none⟩) 3 3), blk q (.cells #[s, .nilFunc, t] 26 (0, 0)), J, K]
theorem blk_cell {b : Nat} {c : Array Value} {t : TypeId} {J : Asn} {F : Foot} {A : World} (h : ((blk b (.cells c t (0, 0))).sep J) F A) (i : Nat) : A.cell? ((⟨b, 0, none⟩ : Addr).add (i * 1)) = c[i]? := by
  rw [cell_add (a := ⟨b, 0, none⟩) (Asn.at h) rfl]; simp
theorem chain_gives {b q : Nat} {s t : Value} {J K : Asn} {l l' : List Int} (H : Gives n₀ s J l) (H' : Gives n₀ t K l') : Gives n₀ (chainV b) (chainJ b q s t J K) (l ++ l') := by
  have oJ := H.loc ()
  have oK := H'.loc ()
  have oC : Owns (chainJ b q s t J K) := Owns.sep Owns.cel (Owns.sep Owns.blk (Owns.sep oJ oK))
  refine ⟨fun _ => oC, fun {α y I st} Hy {b0 a0 b1 a1 F A} h hr => ?_⟩
  have hf := runL_some hr
  simp only at hf
  obtain ⟨m, a2, f1, f2, f3⟩ := fold_chain l l' a0 a1 hf
  have hl := Asn.cat (l := [cel b (.slice (some ⟨q, 0, none⟩) 3 3), blk q (.cells #[s, .nilFunc, t] 26 (0, 0)), J, K]) (l' := [I a0]) h
  obtain ⟨F1, h1, S1⟩ := Asn.new (Owns.sep Owns.cel (Owns.sep Owns.blk (Owns.sep oJ (Owns.sep oK (Hy.loc a0))))) hl y 39
  obtain ⟨F2, h2, S2⟩ := Asn.new (Owns.sep Owns.cel (Owns.sep Owns.cel (Owns.sep Owns.blk (Owns.sep oJ (Owns.sep oK (Hy.loc a0)))))) h1 (.bool false) 4
  obtain ⟨h3, S3⟩ := Asn.put (Owns.sep Owns.cel (Owns.sep Owns.cel (Owns.sep Owns.blk (Owns.sep oJ (Owns.sep oK (Hy.loc a0)))))) h2 (.bool true)
  generalize hyb : A.heap.size = yb at h1 h2 h3
  generalize hA1 : A.alloc (.cells #[y] 39 (0, 0)) = A1 at h1 h2 h3 S1 S2 S3
  generalize hmb : A1.heap.size = mb at h2 h3 S2 S3
  generalize hA2 : A1.alloc (.cells #[.bool false] 4 (0, 0)) = A2 at h2 h3 S2 S3
  generalize hA3 : A2.setCell ⟨mb, 0, none⟩ (.bool true) = A3 at h3 S3
  have hT := chainY_spec (yb := yb) (mb := mb) Hy
  -- the first
  have h4 := Asn.perm [cel mb (.bool true), cel yb y, cel b (.slice (some ⟨q, 0, none⟩) 3 3), blk q (.cells #[s, .nilFunc, t] 26 (0, 0)), J, K, I a0] [4, 0, 1, 6, 2, 3, 5] h3 (by decide)
  have h5 : ((J.sep (chainI yb mb y I (true, a0))).sep (Asn.all [cel b (.slice (some ⟨q, 0, none⟩) 3 3), blk q (.cells #[s, .nilFunc, t] 26 (0, 0)), K])) F2 A3 := Asn.assoc' (Asn.map' h4 fun _ h => Asn.assoc' (Asn.map' h fun _ h => Asn.assoc' h))
  obtain ⟨A4, F3, c4, h6, S4⟩ := Asn.frame (Owns.sep oJ (hT.loc _)) (Owns.sep Owns.cel (Owns.sep Owns.blk oK)) (Owns.sep oJ (hT.loc (m, a2))) h5 (R := fun A4 => CallV Try.prog n₀ s #[chainY yb mb] A3 undef A4)
    (fun F1 h => H.run hT (b0 := ()) (b1 := ()) h (by unfold runL; rw [f1]; rfl))
  have h7 := Asn.cat (l := [J, cel mb (.bool m), cel yb y, I a2]) (l' := [cel b (.slice (some ⟨q, 0, none⟩) 3 3), blk q (.cells #[s, .nilFunc, t] 26 (0, 0)), K]) h6
  have gm4 := Asn.get (Asn.perm _ [1, 0, 2, 3, 4, 5, 6] h7 (by decide))
  have gq3 := fun i => blk_cell (Asn.perm _ [5, 0, 1, 2, 3, 4, 6] h4 (by decide)) i
  have gq4 := fun i => blk_cell (Asn.perm _ [5, 0, 1, 2, 3, 4, 6] h7 (by decide)) i
  have gb3 := Asn.get (Asn.perm _ [4, 0, 1, 2, 3, 5, 6] h4 (by decide))
  have gm3 := Asn.get h3
  -- the end: what lies there, wherever it ends
  have fin : ∀ {A5 : World} {F4 : Foot} {m' : Bool}, Step F A F4 A5 → Asn.all [J, cel mb (.bool m'), cel yb y, I a1, cel b (.slice (some ⟨q, 0, none⟩) 3 3), blk q (.cells #[s, .nilFunc, t] 26 (0, 0)), K] F4 A5 → ∃ F', ((chainJ b q s t J K).sep (I a1)) F' A5 ∧ Step F A F' A5 := by
    intro A5 F4 m' SS hh
    obtain ⟨F5, h8, S8⟩ := Asn.drop (I := cel mb (.bool m')) (Asn.perm _ [1, 2, 4, 5, 0, 6, 3] hh (by decide))
    obtain ⟨F6, h9, S9⟩ := Asn.drop (I := cel yb y) h8
    exact ⟨F6, Asn.assoc' (Asn.map' h9 fun _ h => Asn.assoc' (Asn.map' h fun _ h => Asn.assoc' h)), SS.trans (S8.trans S9)⟩
  have S14 := S1.trans (S2.trans (S3.trans S4))
  have : wpF Try.prog n₀ 46 #[y, ptr b] (fun v A' => v = undef ∧ ∃ F', ((chainJ b q s t J K).sep (I a1)) F' A' ∧ Step F A F' A') A := by
    refine wpF_fn (ts := #[y, ptr b, undef, undef, undef, undef, undef, undef, undef, undef, undef, undef, undef, undef, undef, undef, undef, undef]) good ⟨rfl, rfl, rfl⟩ (by kernel_rfl) ?_
    refine cw_seq good (cw_region good ?_)
    refine wpO_val (aop_box (v := y) rfl rfl Hy.one) ?_
    rw [hyb, hA1]
    simp only [Act.put, List.setIfInBounds_toArray, List.set_cons_succ, List.set_cons_zero]
    refine cw_seq good (cw_region good ?_)
    refine wpO_val (aop_alloc rfl rfl rfl rfl) ?_
    rw [hmb, hA2]
    refine wpO_unit (aop_store (p := ⟨mb, 0, none⟩) (v := .bool true) rfl rfl rfl rfl rfl (Asn.get h2) (Asn.soft h2)) ?_
    rw [hA3]
    simp only [Act.put, List.setIfInBounds_toArray, List.set_cons_succ, List.set_cons_zero]
    refine cw_seq good (cw_region good ?_)
    refine wpO_val (aop_load rfl rfl rfl gb3) ?_
    refine wpO_val (aop_len rfl rfl rfl rfl rfl) ?_
    refine wpO_mv (.int .i64 (0 : Nat)) rfl ?_
    simp only [Act.put, List.setIfInBounds_toArray, List.set_cons_succ, List.set_cons_zero]
    refine cw_block good (cw_loop good (wpL_step ?_))
    refine cw_seq good (cw_region good ?_)
    refine wpO_val (aop_int (k := .i64) (m := (0 : Nat)) (n := (3 : Nat)) (v := .bool true) rfl rfl rfl rfl) ?_
    simp only [Act.put, List.setIfInBounds_toArray, List.set_cons_succ, List.set_cons_zero]
    refine cw_seq good (cw_cond good true rfl (cw_skip good ?_))
    refine cw_seq good (cw_block good ?_)
    refine cw_seq good (cw_region good ?_)
    refine wpO_val (aop_index (k := .i64) (i := 0) (len := 3) (cap := 3) (p := ⟨q, 0, none⟩) rfl rfl rfl rfl rfl (by decide)) ?_
    simp only [Act.put, List.setIfInBounds_toArray, List.set_cons_succ, List.set_cons_zero]
    refine wpO_val (aop_load (v := s) rfl rfl rfl (gq3 0)) ?_
    refine wpO_as (s) rfl ?_
    simp only [Act.put, List.setIfInBounds_toArray, List.set_cons_succ, List.set_cons_zero]
    refine cw_seq good (cw_seq good (cw_region good ?_))
    refine wpO_val (aop_load rfl rfl rfl gm3) ?_
    refine wpO_val (aop_not (b := true) rfl rfl) ?_
    simp only [Act.put, List.setIfInBounds_toArray, List.set_cons_succ, List.set_cons_zero]
    refine cw_cond good false rfl (cw_skip good ?_)
    refine cw_region good ?_
    refine wpO_mv (s) rfl ?_
    refine wpO_val (aop_func (l := []) (l' := [ptr yb, ptr mb]) rfl rfl rfl) ?_
    simp only [Act.put, List.setIfInBounds_toArray, List.set_cons_succ, List.set_cons_zero]
    refine wpO_call (f := 35) (first := #[]) (cap := #[]) (l := [s, chainY yb mb]) (xs := #[s, chainY yb mb]) ⟨rfl, rfl, rfl⟩ rfl rfl rfl ⟨undef, _, each_some c4, ?_⟩
    simp only [Act.put, List.setIfInBounds_toArray, List.set_cons_succ, List.set_cons_zero]
    refine cw_region good ?_
    refine wpO_val (aop_int (k := .i64) (m := (0 : Nat)) (n := 1) (v := .int .i64 (1 : Nat)) rfl rfl rfl rfl) ?_
    refine wpO_mv (.int .i64 (1 : Nat)) rfl ?_
    simp only [Act.put, List.setIfInBounds_toArray, List.set_cons_succ, List.set_cons_zero]
    refine wpL_step ?_
    refine cw_seq good (cw_region good ?_)
    refine wpO_val (aop_int (k := .i64) (m := (1 : Nat)) (n := (3 : Nat)) (v := .bool true) rfl rfl rfl rfl) ?_
    simp only [Act.put, List.setIfInBounds_toArray, List.set_cons_succ, List.set_cons_zero]
    refine cw_seq good (cw_cond good true rfl (cw_skip good ?_))
    refine cw_seq good (cw_block good ?_)
    refine cw_seq good (cw_region good ?_)
    refine wpO_val (aop_index (k := .i64) (i := 1) (len := 3) (cap := 3) (p := ⟨q, 0, none⟩) rfl rfl rfl rfl rfl (by decide)) ?_
    simp only [Act.put, List.setIfInBounds_toArray, List.set_cons_succ, List.set_cons_zero]
    refine wpO_val (aop_load (v := .nilFunc) rfl rfl rfl (gq4 1)) ?_
    refine wpO_as (.nilFunc) rfl ?_
    simp only [Act.put, List.setIfInBounds_toArray, List.set_cons_succ, List.set_cons_zero]
    refine cw_seq good (cw_seq good (cw_region good ?_))
    refine wpO_val (aop_load rfl rfl rfl gm4) ?_
    cases m with
    | false =>
      refine wpO_val (aop_not (b := false) rfl rfl) ?_
      simp only [Act.put, List.setIfInBounds_toArray, List.set_cons_succ, List.set_cons_zero]
      refine cw_cond good true rfl (cw_ret good ?_)
      obtain ⟨F', e1, e2⟩ := fin S14 (f2 rfl ▸ h7)
      exact ret_none ⟨rfl, F', e1, e2⟩
    | true =>
      refine wpO_val (aop_not (b := true) rfl rfl) ?_
      simp only [Act.put, List.setIfInBounds_toArray, List.set_cons_succ, List.set_cons_zero]
      refine cw_cond good false rfl (cw_skip good ?_)
      refine cw_region good ?_
      refine wpO_mv (.nilFunc) rfl ?_
      refine wpO_val (aop_func (l := []) (l' := [ptr yb, ptr mb]) rfl rfl rfl) ?_
      simp only [Act.put, List.setIfInBounds_toArray, List.set_cons_succ, List.set_cons_zero]
      refine wpO_call (f := 35) (first := #[]) (cap := #[]) (l := [.nilFunc, chainY yb mb]) (xs := #[.nilFunc, chainY yb mb]) ⟨rfl, rfl, rfl⟩ rfl rfl rfl ⟨undef, _, each_nil, ?_⟩
      simp only [Act.put, List.setIfInBounds_toArray, List.set_cons_succ, List.set_cons_zero]
      refine cw_region good ?_
      refine wpO_val (aop_int (k := .i64) (m := (1 : Nat)) (n := 1) (v := .int .i64 (2 : Nat)) rfl rfl rfl rfl) ?_
      refine wpO_mv (.int .i64 (2 : Nat)) rfl ?_
      simp only [Act.put, List.setIfInBounds_toArray, List.set_cons_succ, List.set_cons_zero]
      refine wpL_step ?_
      obtain ⟨m2, a3, k1, k2, k3⟩ := fold_chain l' [] a2 a1 (by rw [List.append_nil]; exact f3 rfl)
      have k4 : a3 = a1 := by
        cases m2 with
        | false => exact k2 rfl
        | true => have := k3 rfl; cases this; rfl
      subst k4
      have h8 := Asn.perm _ [6, 1, 2, 3, 4, 5, 0] h7 (by decide)
      have h9 : ((K.sep (chainI yb mb y I (true, a2))).sep (Asn.all [cel b (.slice (some ⟨q, 0, none⟩) 3 3), blk q (.cells #[s, .nilFunc, t] 26 (0, 0)), J])) F3 A4 := Asn.assoc' (Asn.map' h8 fun _ h => Asn.assoc' (Asn.map' h fun _ h => Asn.assoc' h))
      obtain ⟨A5, F4, c5, h10, S5⟩ := Asn.frame (Owns.sep oK (hT.loc _)) (Owns.sep Owns.cel (Owns.sep Owns.blk oJ)) (Owns.sep oK (hT.loc (m2, a3))) h9 (R := fun A5 => CallV Try.prog n₀ t #[chainY yb mb] A4 undef A5)
        (fun F1 h => H'.run hT (b0 := ()) (b1 := ()) h (by unfold runL; rw [k1]; rfl))
      have h11 := Asn.cat (l := [K, cel mb (.bool m2), cel yb y, I a3]) (l' := [cel b (.slice (some ⟨q, 0, none⟩) 3 3), blk q (.cells #[s, .nilFunc, t] 26 (0, 0)), J]) h10
      refine cw_seq good (cw_region good ?_)
      refine wpO_val (aop_int (k := .i64) (m := (2 : Nat)) (n := (3 : Nat)) (v := .bool true) rfl rfl rfl rfl) ?_
      simp only [Act.put, List.setIfInBounds_toArray, List.set_cons_succ, List.set_cons_zero]
      refine cw_seq good (cw_cond good true rfl (cw_skip good ?_))
      refine cw_seq good (cw_block good ?_)
      refine cw_seq good (cw_region good ?_)
      refine wpO_val (aop_index (k := .i64) (i := 2) (len := 3) (cap := 3) (p := ⟨q, 0, none⟩) rfl rfl rfl rfl rfl (by decide)) ?_
      simp only [Act.put, List.setIfInBounds_toArray, List.set_cons_succ, List.set_cons_zero]
      refine wpO_val (aop_load (v := t) rfl rfl rfl (gq4 2)) ?_
      refine wpO_as (t) rfl ?_
      simp only [Act.put, List.setIfInBounds_toArray, List.set_cons_succ, List.set_cons_zero]
      refine cw_seq good (cw_seq good (cw_region good ?_))
      refine wpO_val (aop_load rfl rfl rfl gm4) ?_
      refine wpO_val (aop_not (b := true) rfl rfl) ?_
      simp only [Act.put, List.setIfInBounds_toArray, List.set_cons_succ, List.set_cons_zero]
      refine cw_cond good false rfl (cw_skip good ?_)
      refine cw_region good ?_
      refine wpO_mv (t) rfl ?_
      refine wpO_val (aop_func (l := []) (l' := [ptr yb, ptr mb]) rfl rfl rfl) ?_
      simp only [Act.put, List.setIfInBounds_toArray, List.set_cons_succ, List.set_cons_zero]
      refine wpO_call (f := 35) (first := #[]) (cap := #[]) (l := [t, chainY yb mb]) (xs := #[t, chainY yb mb]) ⟨rfl, rfl, rfl⟩ rfl rfl rfl ⟨undef, _, each_some c5, ?_⟩
      simp only [Act.put, List.setIfInBounds_toArray, List.set_cons_succ, List.set_cons_zero]
      refine cw_region good ?_
      refine wpO_val (aop_int (k := .i64) (m := (2 : Nat)) (n := 1) (v := .int .i64 (3 : Nat)) rfl rfl rfl rfl) ?_
      refine wpO_mv (.int .i64 (3 : Nat)) rfl ?_
      simp only [Act.put, List.setIfInBounds_toArray, List.set_cons_succ, List.set_cons_zero]
      refine wpL_step ?_
      refine cw_seq good (cw_region good ?_)
      refine wpO_val (aop_int (k := .i64) (m := (3 : Nat)) (n := (3 : Nat)) (v := .bool false) rfl rfl rfl rfl) ?_
      simp only [Act.put, List.setIfInBounds_toArray, List.set_cons_succ, List.set_cons_zero]
      refine cw_seq good (cw_cond good false rfl (cw_exit good ?_))
      obtain ⟨F', e1, e2⟩ := fin (S14.trans S5) (Asn.perm _ [6, 1, 2, 3, 4, 5, 0] h11 (by decide))
      exact ret_none ⟨rfl, F', e1, e2⟩
  obtain ⟨v, A5, h8, rfl, F', h9, h10⟩ := this
  exact ⟨A5, F', ⟨46, _, _, _, _, ⟨rfl, rfl, rfl⟩, rfl, h8⟩, h9, h10⟩
end Go.Proofs.Ytipomlcnmaldkaa
/-
  seq.Fold; seq.Map of what turns each by itself; the functions that SeqAll hands in. No condition.
-/
namespace Go.Proofs.Ytipomlcnmaldkaa
open Go.Abs
variable {n₀ : Nat}
set_option maxRecDepth 4000
def foldV (fb ub : Nat) : Value := .func (.func 48) #[] #[ptr fb, ptr ub]
/-- What makes one number of two. -/
def Gpec (n₀ : Nat) (f : Value) (g : Int → Int → Int) : Prop := ∀ (A : World) (u x : Int), CallV Try.prog n₀ f #[.int .i64 u, .int .i64 x] A (.int .i64 (g u x)) A
def foldSt (g : Int → Int → Int) (u : Int) (x : Int) : Option (Bool × Int) := some (true, g u x)
theorem foldY_foldl (g : Int → Int → Int) : ∀ (l : List Int) (u : Int), foldY (foldSt g) l u = some (l.foldl g u)
  | [], _ => rfl
  | x :: l, u => by simp only [foldY, foldSt, List.foldl_cons]; exact foldY_foldl g l (g u x)
def foldI (fb ub : Nat) (f : Value) : Int → Asn := fun u => (cel ub (.int .i64 u)).sep (cel fb f)
theorem foldY_spec {fb ub : Nat} {f : Value} {g : Int → Int → Int} (Hg : Gpec n₀ f g) : Ypec Try.prog n₀ (foldV fb ub) (foldI fb ub f) (foldSt g) := by
  refine ⟨rfl, fun _ => Owns.sep Owns.cel Owns.cel, fun {u F A x b s'} h hst => ?_⟩
  cases hst
  obtain ⟨h1, S1⟩ := Asn.put Owns.cel h (.int .i64 (g u x))
  have : wpF Try.prog n₀ 48 #[.int .i64 x, ptr fb, ptr ub] (fun v A' => v = .bool true ∧ A' = A.setCell ⟨ub, 0, none⟩ (.int .i64 (g u x))) A := by
    refine wpF_fn (ts := #[.int .i64 x, ptr fb, ptr ub, undef, undef, undef, undef, undef, undef]) good ⟨rfl, rfl, rfl⟩ rfl ?_
    refine cw_seq good (cw_region good ?_)
    refine wpO_as (.bool false) rfl ?_
    refine cw_seq good (cw_region good ?_)
    refine wpO_val (aop_load rfl rfl rfl (Asn.get (Asn.comm h))) ?_
    refine wpO_val (aop_load rfl rfl rfl (Asn.get h)) ?_
    refine wpO_mv (.int .i64 x) rfl ?_
    simp only [Act.put, List.setIfInBounds_toArray, List.set_cons_succ, List.set_cons_zero]
    refine wpO_callv (y := f) (l := [.int .i64 u, .int .i64 x]) (Hg A u x) rfl rfl ?_
    refine wpO_unit (aop_store (v := .int .i64 (g u x)) rfl rfl rfl rfl rfl (Asn.get h) (Asn.soft h)) ?_
    simp only [Act.put, List.setIfInBounds_toArray, List.set_cons_succ, List.set_cons_zero]
    refine cw_seq good (cw_region good ?_)
    refine wpO_as (.bool true) rfl ?_
    exact cw_ret good (ret_one (.bool true) rfl ⟨rfl, rfl⟩)
  obtain ⟨v, A3, h6, rfl, rfl⟩ := this
  exact ⟨_, F, ⟨48, _, _, _, _, ⟨rfl, rfl, rfl⟩, rfl, h6⟩, h1, S1⟩
theorem fold_call {s f : Value} {g : Int → Int → Int} {J : Asn} {l : List Int} {u : Int} {F : Foot} {A : World} (H : Gives n₀ s J l) (Hg : Gpec n₀ f g) (hf : isOne f = true) (h : J F A) :
    ∃ A' F', SndCall Try.prog n₀ 26 #[s, .int .i64 u, f] A (.int .i64 (l.foldl g u)) A' ∧ J F' A' ∧ Step F A F' A' := by
  obtain ⟨F1, h1, S1⟩ := Asn.new (H.loc ()) h (.int .i64 u) 3
  obtain ⟨F2, h2, S2⟩ := Asn.new (Owns.sep Owns.cel (H.loc ())) h1 f 43
  generalize hub : A.heap.size = ub at h1 h2
  generalize hA1 : A.alloc (.cells #[.int .i64 u] 3 (0, 0)) = A1 at h1 h2 S1 S2
  generalize hfb : A1.heap.size = fb at h2
  generalize hA2 : A1.alloc (.cells #[f] 43 (0, 0)) = A2 at h2 S2
  have h3 : (J.sep (foldI fb ub f u)) F2 A2 := Asn.perm [cel fb f, cel ub (.int .i64 u), J] [2, 1, 0] h2 (by decide)
  obtain ⟨A3, F3, c3, h4, S3⟩ := H.run (foldY_spec (fb := fb) (ub := ub) Hg) (b0 := ()) (b1 := ()) h3 (a1 := l.foldl g u) (by unfold runL; rw [foldY_foldl]; rfl)
  obtain ⟨F4, h5, S4⟩ := Asn.take h4
  have : wpF Try.prog n₀ 26 #[s, .int .i64 u, f] (fun v A' => v = .int .i64 (l.foldl g u) ∧ A' = A3) A := by
    refine wpF_fn (ts := #[s, .int .i64 u, f, undef, undef, undef, undef, undef, undef, undef, undef]) good ⟨rfl, rfl, rfl⟩ (by kernel_rfl) ?_
    refine cw_seq good (cw_region good ?_)
    refine wpO_val (aop_box (v := .int .i64 u) rfl rfl rfl) ?_
    rw [hub, hA1]
    refine wpO_val (aop_box (v := f) rfl rfl hf) ?_
    rw [hfb, hA2]
    refine wpO_as (.int .i64 0) rfl ?_
    simp only [Act.put, List.setIfInBounds_toArray, List.set_cons_succ, List.set_cons_zero]
    refine cw_seq good (cw_region good ?_)
    refine wpO_mv s rfl ?_
    refine wpO_val (aop_func (l := []) (l' := [ptr fb, ptr ub]) rfl rfl rfl) ?_
    simp only [Act.put, List.setIfInBounds_toArray, List.set_cons_succ, List.set_cons_zero]
    refine wpO_call (f := 35) (first := #[]) (cap := #[]) (l := [s, foldV fb ub]) (xs := #[s, foldV fb ub]) ⟨rfl, rfl, rfl⟩ rfl rfl rfl ⟨undef, A3, each_some c3, ?_⟩
    simp only [Act.put, List.setIfInBounds_toArray, List.set_cons_succ, List.set_cons_zero]
    refine cw_seq good (cw_region good ?_)
    refine wpO_val (aop_load rfl rfl rfl (Asn.get (Asn.swap h4))) ?_
    refine wpO_as (.int .i64 (l.foldl g u)) rfl ?_
    exact cw_ret good (ret_one (.int .i64 (l.foldl g u)) rfl ⟨rfl, rfl⟩)
  obtain ⟨v, A4, h6, rfl, rfl⟩ := this
  exact ⟨A4, F4, h6, h5, S1.trans (S2.trans (S3.trans S4))⟩

def w64 (z : Int) : Int := IntKind.i64.wrap z
def addF (u x : Int) : Int := w64 (w64 (u * 3) + x)
theorem add_gpec : Gpec n₀ (fnV 27) addF := fun A u x => by
  have : wpF Try.prog n₀ 27 #[.int .i64 u, .int .i64 x] (fun r A' => r = .int .i64 (addF u x) ∧ A' = A) A := by
    refine wpF_fn (ts := #[.int .i64 u, .int .i64 x, undef, undef, undef, undef, undef, undef, undef]) good ⟨rfl, rfl, rfl⟩ rfl ?_
    refine cw_seq good (cw_region good ?_)
    refine wpO_as (.int .i64 0) rfl ?_
    refine cw_seq good (cw_region good ?_)
    refine wpO_mv (.int .i64 u) rfl ?_
    refine wpO_val (aop_int (k := .i64) (m := u) (n := 3) (v := .int .i64 (w64 (u * 3))) rfl rfl rfl rfl) ?_
    simp only [Act.put, List.setIfInBounds_toArray, List.set_cons_succ, List.set_cons_zero]
    refine wpO_mv (.int .i64 x) rfl ?_
    simp only [Act.put, List.setIfInBounds_toArray, List.set_cons_succ, List.set_cons_zero]
    refine wpO_val (aop_int (k := .i64) (m := w64 (u * 3)) (n := x) (v := .int .i64 (addF u x)) rfl rfl rfl rfl) ?_
    refine wpO_as (.int .i64 (addF u x)) rfl ?_
    exact cw_ret good (ret_one (.int .i64 (addF u x)) rfl ⟨rfl, rfl⟩)
  obtain ⟨v, A1, h1, rfl, rfl⟩ := this
  exact ⟨27, _, _, #[], #[], ⟨rfl, rfl, rfl⟩, rfl, h1⟩
theorem odd_p : Ppec Try.prog n₀ (fnV 25) (fun x => x.tmod 2 != 0) := fun A x => by
  have : wpF Try.prog n₀ 25 #[.int .i64 x] (fun r A' => r = .bool (x.tmod 2 != 0) ∧ A' = A) A := by
    refine wpF_fn (ts := #[.int .i64 x, undef, undef, undef, undef, undef]) good ⟨rfl, rfl, rfl⟩ rfl ?_
    refine cw_seq good (cw_region good ?_)
    refine wpO_as (.bool false) rfl ?_
    refine cw_seq good (cw_region good ?_)
    refine wpO_mv (.int .i64 x) rfl ?_
    refine wpO_val (aop_int (k := .i64) (m := x) (n := 2) rfl rfl rfl rfl) ?_
    refine wpO_val (aop_int (k := .i64) (m := x.tmod 2) (n := 0) rfl rfl rfl rfl) ?_
    refine wpO_as (.bool (x.tmod 2 != 0)) rfl ?_
    exact cw_ret good (ret_one (.bool (x.tmod 2 != 0)) rfl ⟨rfl, rfl⟩)
  obtain ⟨v, A1, h1, rfl, rfl⟩ := this
  exact ⟨25, _, _, #[], #[], ⟨rfl, rfl, rfl⟩, rfl, h1⟩
def twV (kb : Nat) : Value := .func (.func 24) #[] #[ptr kb]
def twF (k x : Int) : Int := w64 (w64 (x * 2) + k)
theorem tw_spec {kb : Nat} {k : Int} : Fpec Try.prog n₀ (twV kb) (fun _ : Unit => cel kb (.int .i64 k)) (fun _ x => some (twF k x, ())) := by
  refine ⟨fun _ => Owns.cel, fun {m F A x v m'} h hf => ?_⟩
  cases hf
  have : wpF Try.prog n₀ 24 #[.int .i64 x, ptr kb] (fun r A' => r = .int .i64 (twF k x) ∧ A' = A) A := by
    refine wpF_fn (ts := #[.int .i64 x, ptr kb, undef, undef, undef, undef, undef, undef]) good ⟨rfl, rfl, rfl⟩ rfl ?_
    refine cw_seq good (cw_region good ?_)
    refine wpO_as (.int .i64 0) rfl ?_
    refine cw_seq good (cw_region good ?_)
    refine wpO_mv (.int .i64 x) rfl ?_
    refine wpO_val (aop_int (k := .i64) (m := x) (n := 2) (v := .int .i64 (w64 (x * 2))) rfl rfl rfl rfl) ?_
    refine wpO_val (aop_load rfl rfl rfl (Asn.get (Asn.emp h))) ?_
    simp only [Act.put, List.setIfInBounds_toArray, List.set_cons_succ, List.set_cons_zero]
    refine wpO_val (aop_int (k := .i64) (m := w64 (x * 2)) (n := k) (v := .int .i64 (twF k x)) rfl rfl rfl rfl) ?_
    refine wpO_as (.int .i64 (twF k x)) rfl ?_
    exact cw_ret good (ret_one (.int .i64 (twF k x)) rfl ⟨rfl, rfl⟩)
  obtain ⟨r, A1, h2, rfl, rfl⟩ := this
  exact ⟨_, F, ⟨24, _, _, _, _, ⟨rfl, rfl, rfl⟩, rfl, h2⟩, h, .refl⟩
theorem fold_map {α : Type} {g : Int → Int} {st : α → Int → Option (Bool × α)} : ∀ (l : List Int) (a a1 : α), foldY st (l.map g) a = some a1 → foldY (mapSt (fun (_ : Unit) x => some (g x, ())) st) l ((), a) = some ((), a1)
  | [], a, a1, h => by cases h; rfl
  | x :: l, a, a1, h => by
    simp only [List.map_cons, foldY] at h
    cases hs : st a (g x) with
    | none => rw [hs] at h; cases h
    | some r =>
      obtain ⟨b, a'⟩ := r
      rw [hs] at h
      have e : mapSt (fun (_ : Unit) x => some (g x, ())) st ((), a) x = some (b, ((), a')) := by simp [mapSt, hs]
      cases b with
      | false => cases h; simp only [foldY, e]
      | true => simp only [foldY, e]; exact fold_map l a' a1 h
theorem map_gives {bs bf : Nat} {s f : Value} {K : Asn} {g : Int → Int} {J : Asn} {l : List Int} (Hf : Fpec Try.prog n₀ f (fun _ : Unit => K) (fun _ x => some (g x, ()))) (H : Gives n₀ s J l) :
    Gives n₀ (mapV bs bf) (mapJ bs bf s f (fun _ : Unit => K) (fun _ : Unit => J) ((), ())) (l.map g) := by
  have HM := map_spec (bs := bs) (bf := bf) Hf H
  refine ⟨fun _ => HM.loc ((), ()), fun {α y I st} Hy {b0 a0 b1 a1 F A} h hr => ?_⟩
  exact HM.run Hy (b0 := ((), ())) (b1 := ((), ())) h (by
    have := fold_map l a0 a1 (runL_some hr)
    unfold mapRun runL
    rw [this]; rfl)
end Go.Proofs.Ytipomlcnmaldkaa
