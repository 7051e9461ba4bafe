/-
  What comes, as lists: taken, skipped, kept; and the calls that make it. No condition.
-/
import Derived.Test.YtipomlcnmaldkaaS9
namespace Go.Proofs.Ytipomlcnmaldkaa
open Go.Abs
variable {n₀ : Nat}
set_option maxRecDepth 4000
def runL (l : List Int) : ∀ α : Type, (α → Int → Option (Bool × α)) → Unit → α → Option (Unit × α) := fun _ st _ a => (foldY st l a).map fun a' => ((), a')
/-- What is handed on is the list l. -/
def Gives (n₀ : Nat) (s : Value) (J : Asn) (l : List Int) : Prop := Hands Try.prog n₀ s (fun _ : Unit => J) (runL l)
theorem hands_mono {β : Type} {s : Value} {J : β → Asn} {run run' : ∀ α : Type, (α → Int → Option (Bool × α)) → β → α → Option (β × α)} (h : ∀ α st b a r, run' α st b a = some r → run α st b a = some r) (H : Hands Try.prog n₀ s J run) : Hands Try.prog n₀ s J run' :=
  ⟨H.loc, fun Hy _ _ _ _ _ _ hJ hr => H.run Hy hJ (h _ _ _ _ _ hr)⟩
theorem fold_take {α : Type} {st : α → Int → Option (Bool × α)} : ∀ (l : List Int) (m : Nat) (a a1 : α), 0 < m → m < 9223372036854775808 → foldY st (l.take m) a = some a1 → ∃ m', foldY (takeSt st) l (m, a) = some (m', a1)
  | [], m, a, a1, _, _, h => by
    rw [List.take_nil] at h
    cases h; exact ⟨m, rfl⟩
  | x :: l, m + 1, a, a1, _, h2, h => by
    rw [List.take_succ_cons] at h
    unfold foldY at h ⊢
    unfold takeSt
    simp only [Nat.succ_pos, h2, and_self, if_true]
    cases hs : st a x with
    | none => rw [hs] at h; cases h
    | some r =>
      obtain ⟨b, a'⟩ := r
      rw [hs] at h
      cases b with
      | false => cases h; exact ⟨m, by simp⟩
      | true =>
        by_cases hm : 1 < m + 1
        · obtain ⟨m', hm'⟩ := fold_take l m a' a1 (by omega) (by omega) h
          refine ⟨m', ?_⟩
          simp only [Option.map_some, Bool.true_and, hm, decide_true, Nat.add_sub_cancel]
          exact hm'
        · have : m = 0 := by omega
          subst this
          rw [List.take_zero] at h
          cases h
          exact ⟨0, by simp⟩
theorem fold_skip {α : Type} {st : α → Int → Option (Bool × α)} : ∀ (l : List Int) (n : Int) (a a1 : α), n < 9223372036854775808 → foldY st (l.drop n.toNat) a = some a1 → ∃ m', foldY (skipSt st) l (n, a) = some (m', a1)
  | [], n, a, a1, _, h => by
    rw [List.drop_nil] at h
    cases h; exact ⟨n, rfl⟩
  | x :: l, n, a, a1, h2, h => by
    unfold foldY skipSt
    simp only
    by_cases hn : n ≤ 0
    · have e : n.toNat = 0 := by omega
      rw [e, List.drop_zero] at h
      rw [if_pos hn]
      unfold foldY at h
      cases hs : st a x with
      | none => rw [hs] at h; cases h
      | some r =>
        obtain ⟨b, a'⟩ := r
        rw [hs] at h
        cases b with
        | false => cases h; exact ⟨n, rfl⟩
        | true =>
          obtain ⟨m', hm'⟩ := fold_skip l n a' a1 h2 (by rw [e, List.drop_zero]; exact h)
          exact ⟨m', hm'⟩
    · rw [if_neg hn, if_pos h2]
      have e : n.toNat = (n - 1).toNat + 1 := by omega
      rw [e, List.drop_succ_cons] at h
      obtain ⟨m', hm'⟩ := fold_skip l (n - 1) a a1 (by omega) h
      exact ⟨m', hm'⟩
theorem fold_keep {α : Type} {p : Int → Bool} {st : α → Int → Option (Bool × α)} : ∀ (l : List Int) (a : α), foldY (keepSt p st) l a = foldY st (l.filter p) a
  | [], _ => rfl
  | x :: l, a => by
    cases hp : p x with
    | false =>
      have e : keepSt p st a x = some (true, a) := by simp [keepSt, hp]
      rw [List.filter_cons_of_neg (by rw [hp]; decide)]
      simp only [foldY, e]
      exact fold_keep l a
    | true =>
      have e : keepSt p st a x = st a x := by simp [keepSt, hp]
      rw [List.filter_cons_of_pos hp]
      simp only [foldY, e]
      cases hs : st a x with
      | none => rfl
      | some r =>
        obtain ⟨b, a'⟩ := r
        cases b with
        | false => rfl
        | true => exact fold_keep l a'
theorem fold_list : ∀ (l acc : List Int), acc.length + l.length < 16777216 → foldY stL l acc = some (acc ++ l)
  | [], acc, _ => by simp [foldY]
  | x :: l, acc, h => by
    simp only [List.length_cons] at h
    have e : stL acc x = some (true, acc ++ [x]) := by unfold stL; rw [if_pos (by omega)]
    simp only [foldY, e]
    rw [fold_list l (acc ++ [x]) (by simp; omega)]
    simp
theorem runL_some {l : List Int} {α : Type} {st : α → Int → Option (Bool × α)} {b : Unit} {a : α} {r : Unit × α} (h : runL l α st b a = some r) : foldY st l a = some r.2 := by
  unfold runL at h
  cases hf : foldY st l a with
  | none => rw [hf] at h; cases h
  | some a' => rw [hf] at h; cases h; rfl
theorem vals_gives {b : Nat} {p : Option Addr} {cap : Nat} {l : List Int} (hl : l.length < 2 ^ 62) : Gives n₀ (valsV b) (valsJ b p cap l ()) l := vals_spec hl
theorem take_gives {bn bs : Nat} {n : Int} {s : Value} {J : Asn} {l : List Int} (H : Gives n₀ s J l) (hn : n < 9223372036854775808) : Gives n₀ (takeV bn bs) (takeJ bn bs n s (fun _ : Unit => J) ()) (l.take n.toNat) := by
  refine hands_mono (fun α st b a r hr => ?_) (take_spec (bn := bn) (bs := bs) H hn)
  have h := runL_some hr
  unfold takeRun
  by_cases h1 : n < 1
  · rw [if_pos h1]
    have e : n.toNat = 0 := by omega
    rw [e, List.take_zero] at h
    obtain ⟨r1, r2⟩ := r
    cases h; rfl
  · rw [if_neg h1]
    obtain ⟨m', hm'⟩ := fold_take l n.toNat a r.2 (by omega) (by omega) h
    unfold runL
    rw [hm']; rfl
theorem skip_gives {bn bs : Nat} {n : Int} {s : Value} {J : Asn} {l : List Int} (H : Gives n₀ s J l) (hn : n < 9223372036854775808) : Gives n₀ (skipV bn bs) (takeJ bn bs n s (fun _ : Unit => J) ()) (l.drop n.toNat) := by
  refine hands_mono (fun α st b a r hr => ?_) (skip_spec (bn := bn) (bs := bs) (n := n) H)
  have h := runL_some hr
  obtain ⟨m', hm'⟩ := fold_skip l n a r.2 hn h
  unfold skipRun runL
  rw [hm']; rfl
theorem keep_gives {bs bf : Nat} {s f : Value} {p : Int → Bool} {J : Asn} {l : List Int} (Hp : Ppec Try.prog n₀ f p) (H : Gives n₀ s J l) : Gives n₀ (keepV bs bf) (keepJ bs bf s f (fun _ : Unit => J) ()) (l.filter p) := by
  refine hands_mono (fun α st b a r hr => ?_) (keep_spec (bs := bs) (bf := bf) Hp H)
  have h := runL_some hr
  unfold runL
  rw [fold_keep, h]; rfl
theorem gives_list {s : Value} {J : Asn} {l : List Int} {F : Foot} {A : World} (H : Gives n₀ s J l) (h : J F A) (hl : l.length < 16777216) : ∃ v A' F', SndCall Try.prog n₀ 13 #[s] A v A' ∧ (J.sep (lstV 3 v l)) F' A' ∧ Step F A F' A' :=
  list_call H (b0 := ()) h (b1 := ()) (by
    unfold runL
    rw [fold_list l [] (by simpa using hl)]; rfl)
theorem skip_call {A : World} {s : Value} {n : Int} (hs : isOne s = true) : SndCall Try.prog n₀ 18 #[s, .int .i64 n] A (skipV (A.heap.size + 1) A.heap.size) ((A.alloc (.cells #[s] 26 (0, 0))).alloc (.cells #[.int .i64 n] 3 (0, 0))) := by
  have : wpF Try.prog n₀ 18 #[s, .int .i64 n] (fun r A' => r = skipV (A.heap.size + 1) A.heap.size ∧ A' = (A.alloc (.cells #[s] 26 (0, 0))).alloc (.cells #[.int .i64 n] 3 (0, 0))) A := by
    refine wpF_fn (ts := #[s, .int .i64 n, undef, undef, undef, undef]) good ⟨rfl, rfl, rfl⟩ rfl ?_
    refine cw_seq good (cw_region good ?_)
    refine wpO_val (aop_box (v := s) rfl rfl hs) ?_
    refine wpO_val (aop_box (v := .int .i64 n) rfl rfl rfl) ?_
    refine wpO_as .nilFunc rfl ?_
    refine cw_seq good (cw_region good ?_)
    rw [alloc_sz]
    refine wpO_val (aop_func (l := []) (l' := [ptr (A.heap.size + 1), ptr A.heap.size]) rfl rfl rfl) ?_
    refine wpO_as (skipV (A.heap.size + 1) A.heap.size) rfl ?_
    exact cw_ret good (ret_one (skipV (A.heap.size + 1) A.heap.size) rfl ⟨rfl, rfl⟩)
  obtain ⟨v, A1, h1, rfl, rfl⟩ := this
  exact h1
theorem keep_call {A : World} {s f : Value} (hs : isOne s = true) (hf : isOne f = true) : SndCall Try.prog n₀ 19 #[s, f] A (keepV A.heap.size (A.heap.size + 1)) ((A.alloc (.cells #[s] 26 (0, 0))).alloc (.cells #[f] 39 (0, 0))) := by
  have : wpF Try.prog n₀ 19 #[s, f] (fun r A' => r = keepV A.heap.size (A.heap.size + 1) ∧ A' = (A.alloc (.cells #[s] 26 (0, 0))).alloc (.cells #[f] 39 (0, 0))) A := by
    refine wpF_fn (ts := #[s, f, undef, undef, undef, undef]) good ⟨rfl, rfl, rfl⟩ rfl ?_
    refine cw_seq good (cw_region good ?_)
    refine wpO_val (aop_box (v := s) rfl rfl hs) ?_
    refine wpO_val (aop_box (v := f) rfl rfl hf) ?_
    refine wpO_as .nilFunc rfl ?_
    refine cw_seq good (cw_region good ?_)
    rw [alloc_sz]
    refine wpO_val (aop_func (l := []) (l' := [ptr A.heap.size, ptr (A.heap.size + 1)]) rfl rfl rfl) ?_
    refine wpO_as (keepV A.heap.size (A.heap.size + 1)) rfl ?_
    exact cw_ret good (ret_one (keepV A.heap.size (A.heap.size + 1)) rfl ⟨rfl, rfl⟩)
  obtain ⟨v, A1, h1, rfl, rfl⟩ := this
  exact h1
theorem skip_do {J : Asn} {s : Value} {n : Int} {F : Foot} {A : World} (hJ : Owns J) (h : J F A) (hs : isOne s = true) :
    ∃ bn bs A' F', SndCall Try.prog n₀ 18 #[s, .int .i64 n] A (skipV bn bs) A' ∧ takeJ bn bs n s (fun _ : Unit => J) () F' A' ∧ Step F A F' A' := by
  obtain ⟨F1, h1, S1⟩ := Asn.new hJ h s 26
  obtain ⟨F2, h2, S2⟩ := Asn.new (Owns.sep Owns.cel hJ) h1 (.int .i64 n) 3
  rw [alloc_sz] at h2
  exact ⟨_, _, _, F2, skip_call hs, h2, S1.trans S2⟩
theorem keep_do {J : Asn} {s f : Value} {F : Foot} {A : World} (hJ : Owns J) (h : J F A) (hs : isOne s = true) (hf : isOne f = true) :
    ∃ bs bf A' F', SndCall Try.prog n₀ 19 #[s, f] A (keepV bs bf) A' ∧ keepJ bs bf s f (fun _ : Unit => J) () F' A' ∧ Step F A F' A' := by
  obtain ⟨F1, h1, S1⟩ := Asn.new hJ h s 26
  obtain ⟨F2, h2, S2⟩ := Asn.new (Owns.sep Owns.cel hJ) h1 f 39
  rw [alloc_sz] at h2
  exact ⟨_, _, _, F2, keep_call hs hf, Asn.swap h2, S1.trans S2⟩
theorem take_do' {J : Asn} {s : Value} {n : Int} {F : Foot} {A : World} (hJ : Owns J) (h : J F A) (hs : isOne s = true) :
    ∃ bn bs A' F', SndCall Try.prog n₀ 14 #[s, .int .i64 n] A (takeV bn bs) A' ∧ takeJ bn bs n s (fun _ : Unit => J) () F' A' ∧ Step F A F' A' := take_do (J := fun _ : Unit => J) (q := ()) hJ h hs
end Go.Proofs.Ytipomlcnmaldkaa
