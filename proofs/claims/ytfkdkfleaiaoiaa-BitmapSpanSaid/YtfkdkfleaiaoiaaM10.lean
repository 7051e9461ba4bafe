/-
  Sets as spans and as rising lists: who is in; the k-th; how many; the runs.
-/
import Derived.Test.YtfkdkfleaiaoiaaM9
import Derived.Test.YtfkdkfleaiaoiaaM3
import Derived.Test.YtfkdkfleaiaoiaaM8
namespace Go.Proofs.Ytfkdkfleaiaoiaa
open Go.Abs
theorem wf_next {lo : Int} {m : List Sp} (h : WF lo m) : ∀ {k : Nat} {s u : Sp}, m[k]? = some s → m[k + 1]? = some u → s.2 < u.1 := by
  induction h with
  | nil => intro k s u e; simp at e
  | @cons lo f t m h1 h2 h3 h ih =>
    intro k s u e e'
    cases k with
    | zero =>
      cases e
      have : m[0]? = some u := by simpa using e'
      cases h with
      | nil => simp at this
      | cons g1 _ _ _ => simp at this; subst this; exact g1
    | succ k => exact ih (by simpa using e) (by simpa using e')
abbrev Rises (l : List Int) : Prop := l.Pairwise (· < ·)
theorem rises_eq : ∀ {a b : List Int}, Rises a → Rises b → (∀ i, i ∈ a ↔ i ∈ b) → a = b
  | [], [], _, _, _ => rfl
  | [], y :: b, _, _, h => by have := (h y).2 List.mem_cons_self; cases this
  | x :: a, [], _, _, h => by have := (h x).1 List.mem_cons_self; cases this
  | x :: a, y :: b, ha, hb, h => by
    have ha' := List.pairwise_cons.1 ha
    have hb' := List.pairwise_cons.1 hb
    have e : x = y := by
      rcases List.mem_cons.1 ((h x).1 List.mem_cons_self) with e | h1
      · exact e
      · rcases List.mem_cons.1 ((h y).2 List.mem_cons_self) with e | h2
        · exact e.symm
        · have := ha'.1 y h2; have := hb'.1 x h1; omega
    subst e
    rw [rises_eq ha'.2 hb'.2 fun i => ?_]
    constructor
    · intro hi
      rcases List.mem_cons.1 ((h i).1 (List.mem_cons_of_mem _ hi)) with rfl | h1
      · have := ha'.1 _ hi; omega
      · exact h1
    · intro hi
      rcases List.mem_cons.1 ((h i).2 (List.mem_cons_of_mem _ hi)) with rfl | h1
      · have := hb'.1 _ hi; omega
      · exact h1
theorem mem_spanE {s : Sp} {i : Int} : i ∈ spanE s ↔ s.1 ≤ i ∧ i < s.2 := by
  unfold spanE
  rw [List.mem_map]
  constructor
  · rintro ⟨j, hj, rfl⟩
    have := List.mem_range.1 hj
    omega
  · rintro ⟨h1, h2⟩
    exact ⟨(i - s.1).toNat, List.mem_range.2 (by omega), by omega⟩
theorem mem_allE {m : List Sp} {i : Int} : i ∈ allE m ↔ has m i = true := by
  unfold allE has
  rw [List.mem_flatMap, List.any_eq_true]
  constructor
  · rintro ⟨s, hs, h⟩
    have := mem_spanE.1 h
    exact ⟨s, hs, by simp; omega⟩
  · rintro ⟨s, hs, h⟩
    exact ⟨s, hs, mem_spanE.2 (by simpa using h)⟩
theorem rises_span (s : Sp) : Rises (spanE s) := by
  unfold spanE
  rw [Rises, List.pairwise_map]
  refine List.Pairwise.imp ?_ List.pairwise_lt_range
  intro a b h; omega
theorem rises_all {lo : Int} {m : List Sp} (h : WF lo m) : Rises (allE m) ∧ ∀ i ∈ allE m, lo < i := by
  induction h with
  | nil => exact ⟨List.Pairwise.nil, fun i h => by cases h⟩
  | @cons lo f t m h1 h2 h3 h ih =>
    have e : allE ((f, t) :: m) = spanE (f, t) ++ allE m := rfl
    rw [e]
    refine ⟨List.pairwise_append.2 ⟨rises_span _, ih.1, fun a ha b hb => ?_⟩, fun i hi => ?_⟩
    · have := mem_spanE.1 ha; have := ih.2 b hb; simp only at *; omega
    · rcases List.mem_append.1 hi with hi | hi
      · have := mem_spanE.1 hi; simp only at *; omega
      · have := ih.2 i hi; omega
/-- The numbers of a set, by who is in. -/
theorem all_eq {m : List Sp} {S : List Int} (h : WF (-1) m) (hS : Rises S) (hm : ∀ i, i ∈ S ↔ has m i = true) : allE m = S :=
  rises_eq (rises_all h).1 hS fun i => mem_allE.trans (hm i).symm
theorem sel_all {m : List Sp} : ∀ {k : Nat}, (∀ s ∈ m, s.1 < s.2) → k < (allE m).length → sel m k = (allE m).getD k 0 := by
  induction m with
  | nil => intro k _ h; simp [allE] at h
  | cons s m ih =>
    intro k hs hk
    obtain ⟨f, t⟩ := s
    have hft : f < t := hs _ List.mem_cons_self
    have e : allE ((f, t) :: m) = spanE (f, t) ++ allE m := rfl
    rw [e] at hk ⊢
    have hl : (spanE (f, t)).length = (t - f).toNat := spanE_len _
    simp only [sel]
    by_cases hc : (k : Int) < t - f
    · rw [if_pos hc]
      have h1 : k < (spanE (f, t)).length := by rw [hl]; omega
      unfold List.getD
      rw [List.getElem?_append_left h1]
      unfold spanE
      rw [List.getElem?_map, List.getElem?_range (by simp only; omega)]
      rfl
    · rw [if_neg hc]
      have h1 : (spanE (f, t)).length ≤ k := by rw [hl]; omega
      have e2 : (k : Int) - (t - f) = ((k - (spanE (f, t)).length : Nat) : Int) := by rw [hl]; omega
      rw [e2, ih (fun s h => hs s (List.mem_cons_of_mem _ h)) (by rw [List.length_append] at hk; omega)]
      unfold List.getD
      rw [List.getElem?_append_right h1]
theorem rank_end {m : List Sp} (h : ∀ s ∈ m, s.1 < s.2 ∧ s.2 ≤ 65536) : rank m 65536 = (allE m).length := by
  induction m with
  | nil => rfl
  | cons s m ih =>
    obtain ⟨f, t⟩ := s
    have hft := h _ List.mem_cons_self
    have e : allE ((f, t) :: m) = spanE (f, t) ++ allE m := rfl
    rw [e, List.length_append, spanE_len]
    simp only [rank]
    rw [ih fun s hs => h s (List.mem_cons_of_mem _ hs)]
    simp only at hft ⊢
    rw [if_pos (by omega)]
    split <;> omega
section
variable {m : List Sp} (h : WF (-1) m)
include h
theorem count_all : count m = (allE m).length := rank_end fun s hs => ⟨(wf_mem h s hs).2.1, (wf_mem h s hs).2.2⟩
theorem sel0_all {k : Nat} (hk : k < (allE m).length) : sel0 m k = (allE m).getD k 0 := by
  unfold sel0
  rw [if_neg (by omega)]
  exact sel_all (fun s hs => (wf_mem h s hs).2.1) hk
theorem at_all {k : Nat} (hk : k < (allE m).length) : rank m ((allE m).getD k 0) = k ∧ has m ((allE m).getD k 0) = true := by
  have h1 := (sel_law (k := k) h).1.2 ⟨by omega, by rw [count_all h]; omega⟩
  have := (sel_law (k := k) h).2 h1
  rw [sel0_all h hk] at this
  exact this
theorem all_rng : ∀ j, (allE m).getD j 0 ≤ 65536 ∧ 0 ≤ (allE m).getD j 0 := fun j => by
  by_cases hj : j < (allE m).length
  · have h1 := (at_all h hj).2
    have := has_range h h1
    unfold inR at this
    simp at this
    simp only [List.getD] at *
    omega
  · have : (allE m).getD j 0 = 0 := by unfold List.getD; rw [List.getElem?_eq_none (by omega)]; rfl
    omega
theorem all_len : (allE m).length ≤ 65537 := by
  have := count_all h
  have := count_fits h
  omega
end
theorem allE_tk {m : List Sp} {k : Nat} (h : k < m.length) : allE (m.take (k + 1)) = allE (m.take k) ++ spanE (m.getD k (0, 0)) := by
  rw [take_cut h, allE_append]; simp [allE]
theorem bump_snoc (l : List (Int × Int)) (a b : Int) : bump (l ++ [(a, b)]) = l ++ [(a, b + 1)] := by
  unfold bump
  have e : (l ++ [(a, b)]).length - 1 = l.length := by simp
  rw [e, List.set_append_right _ _ (Nat.le_refl _)]
  simp [List.getD]
theorem last_span (l : List Int) {s : Sp} (h : s.1 < s.2) : (l ++ spanE s).getD ((l ++ spanE s).length - 1) 0 = s.2 - 1 := by
  have hl := spanE_len s
  rw [List.length_append, hl]
  unfold List.getD
  rw [List.getElem?_append_right (by omega)]
  unfold spanE
  rw [List.getElem?_map, List.getElem?_range (by omega)]
  simp only [Option.map_some, Option.getD_some]
  omega
theorem runsTo_succ (s : List Int) (i : Nat) : runsTo s (i + 1) = if 0 < i ∧ s.getD i 0 = s.getD (i - 1) 0 + 1 then bump (runsTo s i) else runsTo s i ++ [(s.getD i 0, s.getD i 0 + 1)] := rfl
/-- The runs of a set's numbers are its spans. -/
theorem runs_at {m : List Sp} (h : WF (-1) m) : ∀ k, k ≤ m.length → runsTo (allE m) (allE (m.take k)).length = m.take k
  | 0, _ => rfl
  | k + 1, hk => by
    have ih := runs_at h k (by omega)
    have hs := wf_at h (show m[k]? = some ((m.getD k (0, 0)).1, (m.getD k (0, 0)).2) from by rw [getD_at (by omega)]; exact List.getElem?_eq_getElem (by omega))
    have step : ∀ j : Nat, (j : Int) < (m.getD k (0, 0)).2 - (m.getD k (0, 0)).1 → runsTo (allE m) ((allE (m.take k)).length + (j + 1)) = m.take k ++ [((m.getD k (0, 0)).1, (m.getD k (0, 0)).1 + j + 1)] := by
      intro j
      have at_ : ∀ j : Nat, (j : Int) < (m.getD k (0, 0)).2 - (m.getD k (0, 0)).1 → (allE m).getD ((allE (m.take k)).length + j) 0 = (m.getD k (0, 0)).1 + j := fun j hj => by
        unfold List.getD
        rw [allE_at (by omega) (by omega)]; rfl
      induction j with
      | zero =>
        intro hj
        have h0 := at_ 0 hj
        rw [← Nat.add_assoc]
        simp only [runsTo, Nat.add_zero] at h0 ⊢
        rw [h0, ih, if_neg]
        · simp
        · rintro ⟨hp, e⟩
          -- the one ahead is in an earlier span
          have hk0 : 0 < k := by
            rcases Nat.eq_zero_or_pos k with rfl | h
            · simp [allE] at hp
            · exact h
          have hpre : (allE m).getD ((allE (m.take k)).length - 1) 0 = (allE (m.take k)).getD ((allE (m.take k)).length - 1) 0 := by
            have hm : allE m = allE (m.take k) ++ allE (m.drop k) := by rw [← allE_append, List.take_append_drop]
            conv => lhs; rw [hm]
            unfold List.getD
            rw [List.getElem?_append_left (by omega)]
          obtain ⟨k', rfl⟩ : ∃ k', k = k' + 1 := ⟨k - 1, by omega⟩
          have hs' := wf_at h (show m[k']? = some ((m.getD k' (0, 0)).1, (m.getD k' (0, 0)).2) from by rw [getD_at (by omega)]; exact List.getElem?_eq_getElem (by omega))
          have hnx := wf_next h (show m[k']? = some (m.getD k' (0, 0)) from by rw [getD_at (by omega)]; exact List.getElem?_eq_getElem (by omega)) (show m[k' + 1]? = some (m.getD (k' + 1) (0, 0)) from by rw [getD_at (by omega)]; exact List.getElem?_eq_getElem (by omega))
          rw [hpre, allE_tk (by omega)] at e
          have e3 := last_span (allE (m.take k')) hs'.2.1
          rw [e3] at e
          omega
      | succ j ihj =>
        intro hj
        have ihj := ihj (by omega)
        have h1 := at_ (j + 1) hj
        have h2 := at_ j (by omega)
        rw [show (allE (m.take k)).length + (j + 1 + 1) = ((allE (m.take k)).length + (j + 1)) + 1 by omega]
        rw [runsTo_succ, h1, show (allE (m.take k)).length + (j + 1) - 1 = (allE (m.take k)).length + j by omega, h2, if_pos ⟨by omega, by omega⟩, ihj, bump_snoc]
        congr 2
        simp only [Prod.mk.injEq, true_and]
        omega
    have hlast := step (((m.getD k (0, 0)).2 - (m.getD k (0, 0)).1).toNat - 1) (by omega)
    rw [allE_take (by omega), show ((m.getD k (0, 0)).2 - (m.getD k (0, 0)).1).toNat = (((m.getD k (0, 0)).2 - (m.getD k (0, 0)).1).toNat - 1) + 1 by omega, hlast, take_cut (by omega)]
    congr 1
    have : (m.getD k (0, 0)).1 + (((((m.getD k (0, 0)).2 - (m.getD k (0, 0)).1).toNat - 1 : Nat)) : Int) + 1 = (m.getD k (0, 0)).2 := by omega
    rw [this]
theorem runs_all {m : List Sp} (h : WF (-1) m) : runsTo (allE m) (allE m).length = m := by
  have := runs_at h m.length (Nat.le_refl _)
  rwa [List.take_length] at this
end Go.Proofs.Ytfkdkfleaiaoiaa
/-
  Sort, begun, at the new kind of assertion.
-/
namespace Go.Proofs.Ytfkdkfleaiaoiaa
open Go.Abs
variable {n₀ : Nat}
theorem begun_ctr : Ctr Try.prog n₀ 9 [] [] Unit (fun _ => True) (fun _ => .o (.v (.bool true))) (fun _ => []) := fun F A h => ⟨(), A, F, trivial, begun_call, h, .refl⟩
theorem ints_v (l : List Int) : ints l = vcells eI l := by
  unfold ints vcells
  congr 1
  induction l with
  | nil => rfl
  | cons x l ih => simp [ih, eI, C1.den]
theorem mv_step {F F' : Ft} {A A' : World} (S : Step F.own A F'.own A') (hi : F'.imm = F.imm) : Mv F A F' A' := ⟨S.size, S.kept, S.grow, fun _b hb => .inr (.inl (hi ▸ hb))⟩
theorem sort_ctr {q : Nat} {z : Bool} {xs : List Int} (hl : xs.length < 16000000) : Ctr Try.prog n₀ 32 [.o (.s 1 q 1 0 xs.length xs.length z)] [.vec 1 q 1 eI (0 : Int) xs 3 (mdOf xs) z] Unit (fun _ => True) (fun _ => .o (.v undef)) (fun _ => [.vec 1 q 1 eI (0 : Int) (sorted xs) 3 (mdOf xs) z]) := fun F A h => by
  have h := As.unE h
  have hq : (⟨q, 0 * 1, none⟩ : Addr) = ⟨q, 0, none⟩ := by rw [Nat.zero_mul]
  cases z with
  | true =>
    obtain ⟨hF, rfl⟩ := h
    subst hF
    refine ⟨(), A, _, trivial, ?_, As.addE ⟨rfl, by simp [sorted]⟩, .refl⟩
    exact sort_nil
  | false =>
    obtain ⟨hw, o1, o2, fz, hfz, hb⟩ := h
    rw [← ints_v] at hb
    have ho : own3 (.slice (some ⟨q, 0, none⟩) xs.length xs.length) xs F.own A := by
      cases xs with
      | nil =>
        cases hfz
        exact .inr ⟨rfl, q, rfl, fun b => by rw [o1]; simp [mdOf, Md.mine], hb⟩
      | cons x xs =>
        cases hfz
        exact .inl (.inr ⟨by simp, q, rfl, fun b => by rw [o1]; simp [mdOf, Md.mine], hb⟩)
    obtain ⟨A', c, h2, S⟩ := sort_call (n₀ := n₀) (J := Asn.nil) Owns.nil (Asn.emp ho) (by omega)
    have k := Asn.unnil h2
    refine ⟨(), A', F, trivial, ?_, As.addE ⟨hw, o1, o2, fz, hfz, ?_⟩, mv_step S rfl⟩
    · have : (SV.o (.s 1 q 1 0 xs.length xs.length false)).den = .slice (some ⟨q, 0, none⟩) xs.length xs.length := by
        show Value.slice (some ⟨q, 0 * 1, none⟩) _ _ = _
        rw [hq]
      simp only [List.map_cons, List.map_nil, this]
      exact c
    · rw [← ints_v]
      have e : (sorted xs).length = xs.length := sorted_len
      rcases k with (⟨_, e1, _⟩ | ⟨_, d, e1, hB⟩) | ⟨e0, d, e1, hB⟩
      · cases e1
      · simp only [Value.slice.injEq, Option.some.injEq, Addr.mk.injEq] at e1
        obtain ⟨⟨rfl, _⟩, _⟩ := e1
        cases xs with
        | nil => simp [sorted] at *
        | cons x xs => cases hfz; exact hB.2
      · simp only [Value.slice.injEq, Option.some.injEq, Addr.mk.injEq] at e1
        obtain ⟨⟨rfl, _⟩, _⟩ := e1
        have : xs = [] := List.eq_nil_of_length_eq_zero (by rw [← e, e0]; rfl)
        subst this
        cases hfz
        have e3 : sorted ([] : List Int) = [] := by simp [sorted]
        rw [e3]
        exact hB.2
end Go.Proofs.Ytfkdkfleaiaoiaa
/-
  Plain helps: a span laid behind the others, in terms of places.
-/
namespace Go.Proofs.Ytfkdkfleaiaoiaa
open Go.Abs
theorem isE_set {α : Type} {l : List α} {i : Nat} {x : α} : (l.set i x).isEmpty = l.isEmpty := by
  cases l with
  | nil => rfl
  | cons => cases i <;> rfl
theorem isE_snoc {α : Type} {l : List α} {x : α} : (l ++ [x]).isEmpty = false := by cases l <;> rfl
theorem last_cut {m : List Sp} {s : Sp} : (m ++ [s]).length - 1 = m.length := by simp
theorem addSp_in {m : List Sp} {f t : Int} (h : 0 < m.length) (h2 : f ≤ (m.getD (m.length - 1) ((0, 0) : Int × Int)).2) :
    addSp m f t = m.set (m.length - 1) ((m.getD (m.length - 1) ((0, 0) : Int × Int)).1, if (m.getD (m.length - 1) ((0, 0) : Int × Int)).2 < t then t else (m.getD (m.length - 1) ((0, 0) : Int × Int)).2) := by
  rcases List.eq_nil_or_concat m with rfl | ⟨m, ⟨a, b⟩, rfl⟩
  · exact absurd h (by simp)
  · rw [List.concat_eq_append] at *
    rw [last_cut] at h2 ⊢
    have e : (m ++ [(a, b)]).getD m.length ((0, 0) : Int × Int) = (a, b) := by rw [List.getD_eq_getElem?_getD]; simp
    rw [e] at h2 ⊢
    rw [addSp_snoc, if_pos h2]
    simp
theorem addSp_out {m : List Sp} {f t : Int} (h : ¬ (0 < m.length ∧ f ≤ (m.getD (m.length - 1) ((0, 0) : Int × Int)).2)) :
    addSp m f t = if f < t then m ++ [(f, t)] else m := by
  rcases List.eq_nil_or_concat m with rfl | ⟨m, ⟨a, b⟩, rfl⟩
  · rw [addSp_nil]; rfl
  · rw [List.concat_eq_append] at *
    rw [last_cut] at h
    have e : (m ++ [(a, b)]).getD m.length ((0, 0) : Int × Int) = (a, b) := by rw [List.getD_eq_getElem?_getD]; simp
    rw [e] at h
    rw [addSp_snoc, if_neg (fun h2 => h ⟨by simp, h2⟩)]
theorem ofL_take {L : List Int} {k : Nat} (h : k < L.length) : ofL (L.take (k + 1)) = if 0 ≤ L.getD k 0 ∧ L.getD k 0 < 65536 then addSp (ofL (L.take k)) (L.getD k 0) (L.getD k 0 + 1) else ofL (L.take k) :=
  of_take (by rw [getD_at h]; exact List.getElem?_eq_getElem h)
theorem addSp_len {m : List Sp} {f t : Int} : (addSp m f t).length ≤ m.length + 1 := by
  by_cases h : 0 < m.length ∧ f ≤ (m.getD (m.length - 1) ((0, 0) : Int × Int)).2
  · rw [addSp_in h.1 h.2, List.length_set]; omega
  · rw [addSp_out h]
    split
    · simp
    · omega
theorem ofL_len (L : List Int) : ∀ k, k ≤ L.length → (ofL (L.take k)).length ≤ k := by
  intro k
  induction k with
  | zero => intro _; simp [ofL]
  | succ k ih =>
    intro hk
    rw [ofL_take (by omega)]
    have := ih (by omega)
    split
    · have := addSp_len (m := ofL (L.take k)) (f := L.getD k 0) (t := L.getD k 0 + 1); omega
    · omega
end Go.Proofs.Ytfkdkfleaiaoiaa
/-
  Of as who is in; SetOf's list rises; the numbers below n that are in, that are out.
-/
namespace Go.Proofs.Ytfkdkfleaiaoiaa
open Go.Abs
theorem sorted_mem {l : List Int} {i : Int} : i ∈ sorted l ↔ i ∈ l := List.mem_mergeSort
theorem sorted_le (l : List Int) : (sorted l).Pairwise (· ≤ ·) := by
  have := List.pairwise_mergeSort (le := fun x y : Int => decide (x ≤ y)) (fun a b c h1 h2 => by simp only [decide_eq_true_eq] at *; omega) (fun a b => by simp only [Bool.or_eq_true, decide_eq_true_eq]; omega) l
  exact this.imp fun h => by simpa using h
theorem of_has {L : List Int} (hs : L.Pairwise (· ≤ ·)) (i : Int) : has (ofL L) i = true ↔ i ∈ L ∧ 0 ≤ i ∧ i < 65536 := by
  have : ∀ (l : List Int) (m : List Sp), WF (-1) m → l.Pairwise (· ≤ ·) → (∀ x ∈ l, 0 ≤ x → lst m ≤ x) → (has (l.foldl (fun m i => if 0 ≤ i ∧ i < 65536 then addSp m i (i + 1) else m) m) i = true ↔ has m i = true ∨ (i ∈ l ∧ 0 ≤ i ∧ i < 65536)) := by
    intro l
    induction l with
    | nil => exact fun m _ _ _ => by simp
    | cons x l ih =>
      intro m hw hp hl
      obtain ⟨hx, hp'⟩ := List.pairwise_cons.1 hp
      rw [List.foldl_cons]
      by_cases h : 0 ≤ x ∧ x < 65536
      · rw [if_pos h, ih _ (wf_add hw (by omega) (by omega)) hp' (fun y hy h0 => ?_), has_add hw (hl x List.mem_cons_self h.1)]
        · simp only [Bool.or_eq_true, Bool.and_eq_true, decide_eq_true_eq, List.mem_cons]
          constructor
          · rintro ((h1 | h1) | h1)
            · exact .inl h1
            · exact .inr ⟨.inl (by omega), by omega⟩
            · exact .inr ⟨.inr h1.1, h1.2⟩
          · rintro (h1 | ⟨h1 | h1, h2⟩)
            · exact .inl (.inl h1)
            · exact .inl (.inr (by omega))
            · exact .inr ⟨h1, h2⟩
        · have := hx y hy
          rcases lst_add (m := m) (f := x) (t := x + 1) with e | e
          · rw [e]; exact Int.le_trans (hl x List.mem_cons_self h.1) this
          · rw [e]; exact this
      · rw [if_neg h, ih _ hw hp' fun y hy h0 => hl y (List.mem_cons_of_mem _ hy) h0]
        simp only [List.mem_cons]
        constructor
        · rintro (h1 | h1)
          · exact .inl h1
          · exact .inr ⟨.inr h1.1, h1.2⟩
        · rintro (h1 | ⟨h1 | h1, h2⟩)
          · exact .inl h1
          · exact absurd (h1 ▸ h2) h
          · exact .inr ⟨h1, h2⟩
  have := this L [] .nil hs (fun x _ h => by show (-1 : Int) ≤ x; omega)
  unfold ofL
  rw [this]
  simp [has]
theorem of_mem {l : List Int} (i : Int) : has (ofL (sorted l)) i = true ↔ i ∈ l ∧ 0 ≤ i ∧ i < 65536 := by rw [of_has (sorted_le l), sorted_mem]
theorem posB_up (s : List Int) (x : Int) : ∀ n j, posB s x n ≤ j → j < n → x < s.getD j 0
  | 0, _, _, h => by omega
  | n + 1, j, h, hj => by
    simp only [posB] at h
    split at h
    · rename_i hx
      by_cases e : j = n
      · rw [e]; exact hx
      · exact posB_up s x n j h (by omega)
    · omega
theorem posB_dn (s : List Int) (x : Int) : ∀ n, 0 < posB s x n → s.getD (posB s x n - 1) 0 ≤ x
  | 0, h => by simp [posB] at h
  | n + 1, h => by
    simp only [posB] at h ⊢
    split at h
    · rename_i hx
      rw [if_pos hx]; exact posB_dn s x n h
    · rename_i hx
      rw [if_neg hx, Nat.add_sub_cancel]; omega
theorem ins_is {s : List Int} (hs : Rises s) (x : Int) : Rises (insS s x) ∧ ∀ i, i ∈ insS s x ↔ i ∈ s ∨ (i = x ∧ 0 ≤ x ∧ x < 65536) := by
  have at_lt : ∀ {a b : Nat}, a < b → b < s.length → s.getD a 0 < s.getD b 0 := fun {a b} hab hb => by
    rw [getD_at (show a < s.length by omega), getD_at hb]
    exact List.pairwise_iff_getElem.1 hs a b (by omega) hb hab
  unfold insS
  have hle := posB_le s x s.length
  have hup := posB_up s x s.length
  have hdn := posB_dn s x s.length
  generalize hp : posB s x s.length = p at hle hup hdn ⊢
  split
  · rename_i h
    exact ⟨hs, fun i => ⟨.inl, fun h1 => h1.elim id fun h2 => by omega⟩⟩
  · rename_i h
    split
    · rename_i h1
      refine ⟨hs, fun i => ⟨.inl, fun h2 => h2.elim id fun h3 => ?_⟩⟩
      rw [h3.1, ← h1.2, getD_at (show p - 1 < s.length by omega)]
      exact List.getElem_mem _
    · rename_i h1
      have hlow : ∀ i ∈ s.take p, i < x := fun i hi => by
        obtain ⟨j, hj, rfl⟩ := List.getElem_of_mem hi
        have hj' : j < p := by rw [List.length_take] at hj; omega
        have hd := hdn (by omega)
        have hne : s.getD (p - 1) 0 ≠ x := fun e => h1 ⟨by omega, e⟩
        rw [List.getElem_take, ← getD_at (d := 0) (show j < s.length by omega)]
        by_cases e : j = p - 1
        · subst e; omega
        · have := at_lt (show j < p - 1 by omega) (by omega); omega
      have hhigh : ∀ i ∈ s.drop p, x < i := fun i hi => by
        obtain ⟨j, hj, rfl⟩ := List.getElem_of_mem hi
        rw [List.length_drop] at hj
        rw [List.getElem_drop, ← getD_at (d := 0) (show p + j < s.length by omega)]
        exact hup _ (by omega) (by omega)
      have hcut : Rises (s.take p ++ s.drop p) := by rw [List.take_append_drop]; exact hs
      obtain ⟨c1, c2, c3⟩ := List.pairwise_append.1 hcut
      refine ⟨?_, fun i => ?_⟩
      · rw [List.append_assoc]
        refine List.pairwise_append.2 ⟨c1, List.pairwise_append.2 ⟨List.pairwise_singleton _ _, c2, fun a ha b hb => ?_⟩, fun a ha b hb => ?_⟩
        · rw [List.mem_singleton.1 ha]; exact hhigh b hb
        · rcases List.mem_append.1 hb with hb | hb
          · rw [List.mem_singleton.1 hb]; exact hlow a ha
          · exact c3 a ha b hb
      · have e : i ∈ s ↔ i ∈ s.take p ∨ i ∈ s.drop p := by rw [← List.mem_append, List.take_append_drop]
        rw [e]
        simp only [List.mem_append, List.mem_singleton]
        constructor
        · rintro ((h2 | h2) | h2)
          · exact .inl (.inl h2)
          · exact .inr ⟨h2, by omega⟩
          · exact .inl (.inr h2)
        · rintro ((h2 | h2) | h2)
          · exact .inl (.inl h2)
          · exact .inr h2
          · exact .inl (.inr h2.1)
theorem setOf_is (l : List Int) : Rises (setOf l) ∧ ∀ i, i ∈ setOf l ↔ i ∈ l ∧ 0 ≤ i ∧ i < 65536 := by
  have : ∀ (l s : List Int), Rises s → Rises (l.foldl insS s) ∧ ∀ i, i ∈ l.foldl insS s ↔ i ∈ s ∨ (i ∈ l ∧ 0 ≤ i ∧ i < 65536) := by
    intro l
    induction l with
    | nil => exact fun s hs => ⟨hs, fun i => by simp⟩
    | cons x l ih =>
      intro s hs
      obtain ⟨h1, h2⟩ := ins_is hs x
      obtain ⟨h3, h4⟩ := ih _ h1
      refine ⟨h3, fun i => ?_⟩
      rw [List.foldl_cons, h4, h2]
      simp only [List.mem_cons]
      constructor
      · rintro ((h | ⟨rfl, h⟩) | ⟨h, h'⟩)
        · exact .inl h
        · exact .inr ⟨.inl rfl, h⟩
        · exact .inr ⟨.inr h, h'⟩
      · rintro (h | ⟨rfl | h, h'⟩)
        · exact .inl (.inl h)
        · exact .inl (.inr ⟨rfl, h'⟩)
        · exact .inr ⟨h, h'⟩
  obtain ⟨h1, h2⟩ := this l [] List.Pairwise.nil
  exact ⟨h1, fun i => by rw [setOf, h2]; simp⟩
/-- What Of makes has the numbers that SetOf lists. -/
theorem of_set (l : List Int) : allE (ofL (sorted l)) = setOf l := all_eq (wf_of _) (setOf_is l).1 fun i => by rw [(setOf_is l).2, of_mem]
/-- Below n: those of S, those not of S. -/
def below (S : List Int) (b : Bool) (n : Nat) : List Int := ((List.range n).map fun (j : Nat) => (j : Int)).filter fun i => decide (i ∈ S) == b
theorem below_succ {S : List Int} {b : Bool} {n : Nat} : below S b (n + 1) = if decide ((n : Int) ∈ S) = b then below S b n ++ [(n : Int)] else below S b n := by
  unfold below
  rw [List.range_succ, List.map_append, List.filter_append]
  by_cases h : decide ((n : Int) ∈ S) = b
  · rw [if_pos h]; simp [List.filter, h]
  · rw [if_neg h]
    have : (decide ((n : Int) ∈ S) == b) = false := by simpa using h
    simp [List.filter, this]
theorem below_rises (S : List Int) (b : Bool) (n : Nat) : Rises (below S b n) := by
  refine List.Pairwise.filter _ ?_
  rw [List.pairwise_map]
  exact List.Pairwise.imp (fun h => by omega) List.pairwise_lt_range
theorem below_mem {S : List Int} {b : Bool} {n : Nat} {i : Int} : i ∈ below S b n ↔ 0 ≤ i ∧ i < n ∧ decide (i ∈ S) = b := by
  unfold below
  rw [List.mem_filter, List.mem_map]
  constructor
  · rintro ⟨⟨j, hj, rfl⟩, h⟩
    have := List.mem_range.1 hj
    exact ⟨by omega, by omega, by simpa using h⟩
  · rintro ⟨h0, h1, h2⟩
    exact ⟨⟨i.toNat, List.mem_range.2 (by omega), by omega⟩, by simpa using h2⟩
theorem below_len (S : List Int) (b : Bool) (n : Nat) : (below S b n).length ≤ n := by
  refine Nat.le_trans (List.length_filter_le _ _) ?_
  simp
theorem inR_iff {i : Int} : inR i = true ↔ 0 ≤ i ∧ i < 65536 := by unfold inR; simp
section
variable {l : List Int} {m r r2 a : List Sp} {n : Int}
/-- What is not in, below n. -/
theorem not_all (hm : m = ofL (sorted l)) (hr : IsNot m n r) (hn : n ≤ 65536) : allE r = below (setOf l) false n.toNat := by
  subst hm
  refine all_eq hr.1 (below_rises _ _ _) fun i => ?_
  rw [below_mem, hr.2]
  have h1 := of_mem (l := l) i
  have h2 := (setOf_is l).2 i
  have h3 := inR_iff (i := i)
  simp only [Bool.and_eq_true, decide_eq_true_eq, Bool.not_eq_true', h2, h3, ← Bool.not_eq_true, h1]
  constructor
  · rintro ⟨a1, a2, a3⟩; exact ⟨⟨by omega, by omega⟩, a3⟩
  · rintro ⟨⟨a1, a2⟩, a3⟩; exact ⟨by omega, by omega, a3⟩
theorem notnot_all (hm : m = ofL (sorted l)) (hr : IsNot m n r) (hr2 : IsNot r n r2) (hn : n ≤ 65536) : allE r2 = below (setOf l) true n.toNat := by
  subst hm
  refine all_eq hr2.1 (below_rises _ _ _) fun i => ?_
  rw [below_mem, hr2.2, hr.2]
  have h1 := of_mem (l := l) i
  have h2 := (setOf_is l).2 i
  have h3 := inR_iff (i := i)
  have e : decide (i ∈ setOf l) = has (ofL (sorted l)) i := by rw [Bool.eq_iff_iff, decide_eq_true_eq, h2, h1]
  rw [e]
  have e2 : ∀ a b h : Bool, (a && b && !(a && b && !h)) = (a && b && h) := by intro a b h; cases a <;> cases b <;> cases h <;> rfl
  rw [e2]
  simp only [Bool.and_eq_true, decide_eq_true_eq, h3]
  constructor
  · rintro ⟨a1, a2, a3⟩; exact ⟨⟨by omega, by omega⟩, a3⟩
  · rintro ⟨⟨a1, a2⟩, a3⟩; exact ⟨by omega, by omega, a3⟩
/-- In, and below n. -/
theorem and_below (hm : m = ofL (sorted l)) {sp : List Sp} (hs : sp = addSp [] (if (0 : Int) < 0 then 0 else 0) (if (65536 : Int) < n then 65536 else n)) (ha : IsAnd m sp a) (hn : n ≤ 65536) : a = ofL (sorted (below (setOf l) true n.toNat)) := by
  subst hm
  refine wf_same ha.1 (wf_of _) fun i => ?_
  have hsp : has (addSp [] (if (0 : Int) < 0 then 0 else 0) (if (65536 : Int) < n then 65536 else n)) i = (decide (0 ≤ i) && decide (i < n)) := by
    rw [has_add (lo := -1) .nil (by decide), if_neg (show ¬ (0 : Int) < 0 by omega), if_neg (show ¬ (65536 : Int) < n by omega)]; rfl
  rw [ha.2, Bool.eq_iff_iff, of_mem, below_mem, Bool.and_eq_true, of_mem, hs, hsp, decide_eq_true_eq, (setOf_is l).2, Bool.and_eq_true, decide_eq_true_eq, decide_eq_true_eq]
  constructor
  · rintro ⟨⟨h1, h2⟩, h3⟩; exact ⟨⟨h2.1, by omega, h1, h2⟩, h2⟩
  · rintro ⟨⟨h1, h2, h3⟩, h4⟩; exact ⟨h3, h1, by omega⟩
end
end Go.Proofs.Ytfkdkfleaiaoiaa
namespace Go.Proofs.Ytfkdkfleaiaoiaa
open Go.Abs
theorem emp0 {α : Type} {l : List α} (h : l.isEmpty = true) : l.length = 0 := by
  rw [List.isEmpty_iff.1 h]; rfl
theorem set_one {x : Value} {m : List Sp} : GE [.as (setA x m)] Unit (fun _ => isOne x = true) (fun _ => [.as (setA x m)]) := fun F A h => by
  obtain ⟨h1, _⟩ := As.unE h
  refine ⟨(), F, ?_, h, .refl⟩
  rcases h1 with ⟨_, rfl, _⟩ | ⟨_, _, rfl, _⟩ <;> rfl
end Go.Proofs.Ytfkdkfleaiaoiaa
