/-
  seq.Chain, of three, the second of them nothing; seq.Fold. No condition.
-/
import Derived.Test.YtipomlcnmaldkaaM2
import Derived.Test.YtipomlcnmaldkaaB6
namespace Go.Proofs.Ytipomlcnmaldkaa
open Go.Abs
variable {n₀ : Nat}
set_option maxRecDepth 4000
theorem each_nil {y : Value} {A : World} : SndCall Try.prog n₀ 35 #[.nilFunc, y] A undef A := by
  have : wpF Try.prog n₀ 35 #[.nilFunc, y] (fun v A1 => v = undef ∧ A1 = A) A := by
    refine wpF_fn (ts := #[.nilFunc, y, undef, undef, undef, undef, undef, undef, undef]) good ⟨rfl, rfl, rfl⟩ rfl ?_
    refine cw_seq good (cw_region good ?_)
    refine wpO_mv .nilFunc rfl ?_
    refine wpO_val (aop_neNil (v := .nilFunc) (w := .nilFunc) (b := true) rfl rfl rfl rfl rfl) ?_
    refine cw_cond good false rfl (cw_skip good ?_)
    exact ret_none ⟨rfl, rfl⟩
  obtain ⟨v, A1, h1, rfl, rfl⟩ := this
  exact h1
def chainV (b : Nat) : Value := .func (.func 46) #[] #[ptr b]
def chainY (yb mb : Nat) : Value := .func (.func 47) #[] #[ptr yb, ptr mb]
def chainSt {α : Type} (st : α → Int → Option (Bool × α)) : Bool × α → Int → Option (Bool × (Bool × α)) := fun s x => (st s.2 x).map fun b => (b.1, (b.1, b.2))
def chainI {α : Type} (yb mb : Nat) (y : Value) (I : α → Asn) : Bool × α → Asn := fun s => (cel mb (.bool s.1)).sep ((cel yb y).sep (I s.2))
theorem chainY_spec {α : Type} {yb mb : Nat} {y : Value} {I : α → Asn} {st : α → Int → Option (Bool × α)} (H : Ypec Try.prog n₀ y I st) : Ypec Try.prog n₀ (chainY yb mb) (chainI yb mb y I) (chainSt st) := by
  refine ⟨rfl, fun s => Owns.sep Owns.cel (Owns.sep Owns.cel (H.loc _)), fun {s F A x b s'} h hst => ?_⟩
  obtain ⟨m, a⟩ := s
  unfold chainSt at hst
  simp only at hst
  cases hs : st a x with
  | none => simp [hs] at hst
  | some r =>
    obtain ⟨bb, a'⟩ := r
    simp [hs] at hst
    obtain ⟨rfl, rfl⟩ := hst
    have h2 : Asn.all [I a, cel mb (.bool m), cel yb y] F A := Asn.perm [cel mb (.bool m), cel yb y, I a] [2, 0, 1] h (by decide)
    obtain ⟨A2, F2, c2, h3, S2⟩ := Asn.frame (H.loc a) (Owns.sep Owns.cel Owns.cel) (H.loc a') h2 (R := fun A2 => CallV Try.prog n₀ y #[.int .i64 x] A (.bool bb) A2) (fun F1 h1 => H.run h1 hs)
    have h4 : Asn.all [cel mb (.bool m), cel yb y, I a'] F2 A2 := Asn.perm [I a', cel mb (.bool m), cel yb y] [1, 2, 0] h3 (by decide)
    obtain ⟨h5, S5⟩ := Asn.put (Owns.sep Owns.cel (H.loc a')) h4 (.bool bb)
    have : wpF Try.prog n₀ 47 #[.int .i64 x, ptr yb, ptr mb] (fun v A' => v = .bool bb ∧ A' = A2.setCell ⟨mb, 0, none⟩ (.bool bb)) A := by
      refine wpF_fn (ts := #[.int .i64 x, ptr yb, ptr mb, undef, undef, undef, undef, undef, undef]) good ⟨rfl, rfl, rfl⟩ rfl ?_
      refine cw_seq good (cw_region good ?_)
      refine wpO_as (.bool false) rfl ?_
      refine cw_seq good (cw_region good ?_)
      refine wpO_val (aop_load rfl rfl rfl (Asn.get (Asn.swap h))) ?_
      refine wpO_mv (.int .i64 x) rfl ?_
      simp only [Act.put, List.setIfInBounds_toArray, List.set_cons_succ, List.set_cons_zero]
      refine wpO_callv (y := y) (l := [.int .i64 x]) c2 rfl rfl ?_
      refine wpO_unit (aop_store (v := .bool bb) rfl rfl rfl rfl rfl (Asn.get h4) (Asn.soft h4)) ?_
      simp only [Act.put, List.setIfInBounds_toArray, List.set_cons_succ, List.set_cons_zero]
      refine cw_seq good (cw_region good ?_)
      refine wpO_val (aop_load rfl rfl rfl (Asn.get h5)) ?_
      refine wpO_as (.bool bb) rfl ?_
      exact cw_ret good (ret_one (.bool bb) rfl ⟨rfl, rfl⟩)
    obtain ⟨v, A3, h6, rfl, rfl⟩ := this
    exact ⟨_, F2, ⟨47, _, _, _, _, ⟨rfl, rfl, rfl⟩, rfl, h6⟩, h5, S2.trans S5⟩
theorem fold_chain {α : Type} {st : α → Int → Option (Bool × α)} : ∀ (l l' : List Int) (a a1 : α), foldY st (l ++ l') a = some a1 → ∃ m a2, foldY (chainSt st) l (true, a) = some (m, a2) ∧ (m = false → a2 = a1) ∧ (m = true → foldY st l' a2 = some a1)
  | [], l', a, a1, h => ⟨true, a, rfl, by simp, fun _ => h⟩
  | x :: l, l', a, a1, h => by
    simp only [List.cons_append, foldY] at h
    cases hs : st a x with
    | none => rw [hs] at h; cases h
    | some r =>
      obtain ⟨b, a'⟩ := r
      rw [hs] at h
      have e : chainSt st (true, a) x = some (b, (b, a')) := by simp [chainSt, hs]
      cases b with
      | false => cases h; exact ⟨false, a1, by simp only [foldY, e], fun _ => rfl, by simp⟩
      | true =>
        obtain ⟨m, a2, h1, h2, h3⟩ := fold_chain l l' a' a1 h
        exact ⟨m, a2, by simp only [foldY, e]; exact h1, h2, h3⟩
def chainJ (b q : Nat) (s t : Value) (J K : Asn) : Asn := Asn.all [cel b (.slice (some ⟨q, 0, none⟩) 3 3), blk q (.cells #[s, .nilFunc, t] 26 (0, 0)), J, K]
theorem blk_cell {b : Nat} {c : Array Value} {t : TypeId} {J : Asn} {F : Foot} {A : World} (h : ((blk b (.cells c t (0, 0))).sep J) F A) (i : Nat) : A.cell? ((⟨b, 0, none⟩ : Addr).add (i * 1)) = c[i]? := by
  rw [cell_add (a := ⟨b, 0, none⟩) (Asn.at h) rfl]; simp
theorem chain_gives {b q : Nat} {s t : Value} {J K : Asn} {l l' : List Int} (H : Gives n₀ s J l) (H' : Gives n₀ t K l') : Gives n₀ (chainV b) (chainJ b q s t J K) (l ++ l') := by
  have oJ := H.loc ()
  have oK := H'.loc ()
  have oC : Owns (chainJ b q s t J K) := Owns.sep Owns.cel (Owns.sep Owns.blk (Owns.sep oJ oK))
  refine ⟨fun _ => oC, fun {α y I st} Hy {b0 a0 b1 a1 F A} h hr => ?_⟩
  have hf := runL_some hr
  simp only at hf
  obtain ⟨m, a2, f1, f2, f3⟩ := fold_chain l l' a0 a1 hf
  have hl := Asn.cat (l := [cel b (.slice (some ⟨q, 0, none⟩) 3 3), blk q (.cells #[s, .nilFunc, t] 26 (0, 0)), J, K]) (l' := [I a0]) h
  obtain ⟨F1, h1, S1⟩ := Asn.new (Owns.sep Owns.cel (Owns.sep Owns.blk (Owns.sep oJ (Owns.sep oK (Hy.loc a0))))) hl y 39
  obtain ⟨F2, h2, S2⟩ := Asn.new (Owns.sep Owns.cel (Owns.sep Owns.cel (Owns.sep Owns.blk (Owns.sep oJ (Owns.sep oK (Hy.loc a0)))))) h1 (.bool false) 4
  obtain ⟨h3, S3⟩ := Asn.put (Owns.sep Owns.cel (Owns.sep Owns.cel (Owns.sep Owns.blk (Owns.sep oJ (Owns.sep oK (Hy.loc a0)))))) h2 (.bool true)
  generalize hyb : A.heap.size = yb at h1 h2 h3
  generalize hA1 : A.alloc (.cells #[y] 39 (0, 0)) = A1 at h1 h2 h3 S1 S2 S3
  generalize hmb : A1.heap.size = mb at h2 h3 S2 S3
  generalize hA2 : A1.alloc (.cells #[.bool false] 4 (0, 0)) = A2 at h2 h3 S2 S3
  generalize hA3 : A2.setCell ⟨mb, 0, none⟩ (.bool true) = A3 at h3 S3
  have hT := chainY_spec (yb := yb) (mb := mb) Hy
  -- the first
  have h4 := Asn.perm [cel mb (.bool true), cel yb y, cel b (.slice (some ⟨q, 0, none⟩) 3 3), blk q (.cells #[s, .nilFunc, t] 26 (0, 0)), J, K, I a0] [4, 0, 1, 6, 2, 3, 5] h3 (by decide)
  have h5 : ((J.sep (chainI yb mb y I (true, a0))).sep (Asn.all [cel b (.slice (some ⟨q, 0, none⟩) 3 3), blk q (.cells #[s, .nilFunc, t] 26 (0, 0)), K])) F2 A3 := Asn.assoc' (Asn.map' h4 fun _ h => Asn.assoc' (Asn.map' h fun _ h => Asn.assoc' h))
  obtain ⟨A4, F3, c4, h6, S4⟩ := Asn.frame (Owns.sep oJ (hT.loc _)) (Owns.sep Owns.cel (Owns.sep Owns.blk oK)) (Owns.sep oJ (hT.loc (m, a2))) h5 (R := fun A4 => CallV Try.prog n₀ s #[chainY yb mb] A3 undef A4)
    (fun F1 h => H.run hT (b0 := ()) (b1 := ()) h (by unfold runL; rw [f1]; rfl))
  have h7 := Asn.cat (l := [J, cel mb (.bool m), cel yb y, I a2]) (l' := [cel b (.slice (some ⟨q, 0, none⟩) 3 3), blk q (.cells #[s, .nilFunc, t] 26 (0, 0)), K]) h6
  have gm4 := Asn.get (Asn.perm _ [1, 0, 2, 3, 4, 5, 6] h7 (by decide))
  have gq3 := fun i => blk_cell (Asn.perm _ [5, 0, 1, 2, 3, 4, 6] h4 (by decide)) i
  have gq4 := fun i => blk_cell (Asn.perm _ [5, 0, 1, 2, 3, 4, 6] h7 (by decide)) i
  have gb3 := Asn.get (Asn.perm _ [4, 0, 1, 2, 3, 5, 6] h4 (by decide))
  have gm3 := Asn.get h3
  -- the end: what lies there, wherever it ends
  have fin : ∀ {A5 : World} {F4 : Foot} {m' : Bool}, Step F A F4 A5 → Asn.all [J, cel mb (.bool m'), cel yb y, I a1, cel b (.slice (some ⟨q, 0, none⟩) 3 3), blk q (.cells #[s, .nilFunc, t] 26 (0, 0)), K] F4 A5 → ∃ F', ((chainJ b q s t J K).sep (I a1)) F' A5 ∧ Step F A F' A5 := by
    intro A5 F4 m' SS hh
    obtain ⟨F5, h8, S8⟩ := Asn.drop (I := cel mb (.bool m')) (Asn.perm _ [1, 2, 4, 5, 0, 6, 3] hh (by decide))
    obtain ⟨F6, h9, S9⟩ := Asn.drop (I := cel yb y) h8
    exact ⟨F6, Asn.assoc' (Asn.map' h9 fun _ h => Asn.assoc' (Asn.map' h fun _ h => Asn.assoc' h)), SS.trans (S8.trans S9)⟩
  have S14 := S1.trans (S2.trans (S3.trans S4))
  have : wpF Try.prog n₀ 46 #[y, ptr b] (fun v A' => v = undef ∧ ∃ F', ((chainJ b q s t J K).sep (I a1)) F' A' ∧ Step F A F' A') A := by
    refine wpF_fn (ts := #[y, ptr b, undef, undef, undef, undef, undef, undef, undef, undef, undef, undef, undef, undef, undef, undef, undef, undef]) good ⟨rfl, rfl, rfl⟩ (by kernel_rfl) ?_
    refine cw_seq good (cw_region good ?_)
    refine wpO_val (aop_box (v := y) rfl rfl Hy.one) ?_
    rw [hyb, hA1]
    simp only [Act.put, List.setIfInBounds_toArray, List.set_cons_succ, List.set_cons_zero]
    refine cw_seq good (cw_region good ?_)
    refine wpO_val (aop_alloc rfl rfl rfl rfl) ?_
    rw [hmb, hA2]
    refine wpO_unit (aop_store (p := ⟨mb, 0, none⟩) (v := .bool true) rfl rfl rfl rfl rfl (Asn.get h2) (Asn.soft h2)) ?_
    rw [hA3]
    simp only [Act.put, List.setIfInBounds_toArray, List.set_cons_succ, List.set_cons_zero]
    refine cw_seq good (cw_region good ?_)
    refine wpO_val (aop_load rfl rfl rfl gb3) ?_
    refine wpO_val (aop_len rfl rfl rfl rfl rfl) ?_
    refine wpO_mv (.int .i64 (0 : Nat)) rfl ?_
    simp only [Act.put, List.setIfInBounds_toArray, List.set_cons_succ, List.set_cons_zero]
    refine cw_block good (cw_loop good (wpL_step ?_))
    refine cw_seq good (cw_region good ?_)
    refine wpO_val (aop_int (k := .i64) (m := (0 : Nat)) (n := (3 : Nat)) (v := .bool true) rfl rfl rfl rfl) ?_
    simp only [Act.put, List.setIfInBounds_toArray, List.set_cons_succ, List.set_cons_zero]
    refine cw_seq good (cw_cond good true rfl (cw_skip good ?_))
    refine cw_seq good (cw_block good ?_)
    refine cw_seq good (cw_region good ?_)
    refine wpO_val (aop_index (k := .i64) (i := 0) (len := 3) (cap := 3) (p := ⟨q, 0, none⟩) rfl rfl rfl rfl rfl (by decide)) ?_
    simp only [Act.put, List.setIfInBounds_toArray, List.set_cons_succ, List.set_cons_zero]
    refine wpO_val (aop_load (v := s) rfl rfl rfl (gq3 0)) ?_
    refine wpO_as (s) rfl ?_
    simp only [Act.put, List.setIfInBounds_toArray, List.set_cons_succ, List.set_cons_zero]
    refine cw_seq good (cw_seq good (cw_region good ?_))
    refine wpO_val (aop_load rfl rfl rfl gm3) ?_
    refine wpO_val (aop_not (b := true) rfl rfl) ?_
    simp only [Act.put, List.setIfInBounds_toArray, List.set_cons_succ, List.set_cons_zero]
    refine cw_cond good false rfl (cw_skip good ?_)
    refine cw_region good ?_
    refine wpO_mv (s) rfl ?_
    refine wpO_val (aop_func (l := []) (l' := [ptr yb, ptr mb]) rfl rfl rfl) ?_
    simp only [Act.put, List.setIfInBounds_toArray, List.set_cons_succ, List.set_cons_zero]
    refine wpO_call (f := 35) (first := #[]) (cap := #[]) (l := [s, chainY yb mb]) (xs := #[s, chainY yb mb]) ⟨rfl, rfl, rfl⟩ rfl rfl rfl ⟨undef, _, each_some c4, ?_⟩
    simp only [Act.put, List.setIfInBounds_toArray, List.set_cons_succ, List.set_cons_zero]
    refine cw_region good ?_
    refine wpO_val (aop_int (k := .i64) (m := (0 : Nat)) (n := 1) (v := .int .i64 (1 : Nat)) rfl rfl rfl rfl) ?_
    refine wpO_mv (.int .i64 (1 : Nat)) rfl ?_
    simp only [Act.put, List.setIfInBounds_toArray, List.set_cons_succ, List.set_cons_zero]
    refine wpL_step ?_
    refine cw_seq good (cw_region good ?_)
    refine wpO_val (aop_int (k := .i64) (m := (1 : Nat)) (n := (3 : Nat)) (v := .bool true) rfl rfl rfl rfl) ?_
    simp only [Act.put, List.setIfInBounds_toArray, List.set_cons_succ, List.set_cons_zero]
    refine cw_seq good (cw_cond good true rfl (cw_skip good ?_))
    refine cw_seq good (cw_block good ?_)
    refine cw_seq good (cw_region good ?_)
    refine wpO_val (aop_index (k := .i64) (i := 1) (len := 3) (cap := 3) (p := ⟨q, 0, none⟩) rfl rfl rfl rfl rfl (by decide)) ?_
    simp only [Act.put, List.setIfInBounds_toArray, List.set_cons_succ, List.set_cons_zero]
    refine wpO_val (aop_load (v := .nilFunc) rfl rfl rfl (gq4 1)) ?_
    refine wpO_as (.nilFunc) rfl ?_
    simp only [Act.put, List.setIfInBounds_toArray, List.set_cons_succ, List.set_cons_zero]
    refine cw_seq good (cw_seq good (cw_region good ?_))
    refine wpO_val (aop_load rfl rfl rfl gm4) ?_
    cases m with
    | false =>
      refine wpO_val (aop_not (b := false) rfl rfl) ?_
      simp only [Act.put, List.setIfInBounds_toArray, List.set_cons_succ, List.set_cons_zero]
      refine cw_cond good true rfl (cw_ret good ?_)
      obtain ⟨F', e1, e2⟩ := fin S14 (f2 rfl ▸ h7)
      exact ret_none ⟨rfl, F', e1, e2⟩
    | true =>
      refine wpO_val (aop_not (b := true) rfl rfl) ?_
      simp only [Act.put, List.setIfInBounds_toArray, List.set_cons_succ, List.set_cons_zero]
      refine cw_cond good false rfl (cw_skip good ?_)
      refine cw_region good ?_
      refine wpO_mv (.nilFunc) rfl ?_
      refine wpO_val (aop_func (l := []) (l' := [ptr yb, ptr mb]) rfl rfl rfl) ?_
      simp only [Act.put, List.setIfInBounds_toArray, List.set_cons_succ, List.set_cons_zero]
      refine wpO_call (f := 35) (first := #[]) (cap := #[]) (l := [.nilFunc, chainY yb mb]) (xs := #[.nilFunc, chainY yb mb]) ⟨rfl, rfl, rfl⟩ rfl rfl rfl ⟨undef, _, each_nil, ?_⟩
      simp only [Act.put, List.setIfInBounds_toArray, List.set_cons_succ, List.set_cons_zero]
      refine cw_region good ?_
      refine wpO_val (aop_int (k := .i64) (m := (1 : Nat)) (n := 1) (v := .int .i64 (2 : Nat)) rfl rfl rfl rfl) ?_
      refine wpO_mv (.int .i64 (2 : Nat)) rfl ?_
      simp only [Act.put, List.setIfInBounds_toArray, List.set_cons_succ, List.set_cons_zero]
      refine wpL_step ?_
      obtain ⟨m2, a3, k1, k2, k3⟩ := fold_chain l' [] a2 a1 (by rw [List.append_nil]; exact f3 rfl)
      have k4 : a3 = a1 := by
        cases m2 with
        | false => exact k2 rfl
        | true => have := k3 rfl; cases this; rfl
      subst k4
      have h8 := Asn.perm _ [6, 1, 2, 3, 4, 5, 0] h7 (by decide)
      have h9 : ((K.sep (chainI yb mb y I (true, a2))).sep (Asn.all [cel b (.slice (some ⟨q, 0, none⟩) 3 3), blk q (.cells #[s, .nilFunc, t] 26 (0, 0)), J])) F3 A4 := Asn.assoc' (Asn.map' h8 fun _ h => Asn.assoc' (Asn.map' h fun _ h => Asn.assoc' h))
      obtain ⟨A5, F4, c5, h10, S5⟩ := Asn.frame (Owns.sep oK (hT.loc _)) (Owns.sep Owns.cel (Owns.sep Owns.blk oJ)) (Owns.sep oK (hT.loc (m2, a3))) h9 (R := fun A5 => CallV Try.prog n₀ t #[chainY yb mb] A4 undef A5)
        (fun F1 h => H'.run hT (b0 := ()) (b1 := ()) h (by unfold runL; rw [k1]; rfl))
      have h11 := Asn.cat (l := [K, cel mb (.bool m2), cel yb y, I a3]) (l' := [cel b (.slice (some ⟨q, 0, none⟩) 3 3), blk q (.cells #[s, .nilFunc, t] 26 (0, 0)), J]) h10
      refine cw_seq good (cw_region good ?_)
      refine wpO_val (aop_int (k := .i64) (m := (2 : Nat)) (n := (3 : Nat)) (v := .bool true) rfl rfl rfl rfl) ?_
      simp only [Act.put, List.setIfInBounds_toArray, List.set_cons_succ, List.set_cons_zero]
      refine cw_seq good (cw_cond good true rfl (cw_skip good ?_))
      refine cw_seq good (cw_block good ?_)
      refine cw_seq good (cw_region good ?_)
      refine wpO_val (aop_index (k := .i64) (i := 2) (len := 3) (cap := 3) (p := ⟨q, 0, none⟩) rfl rfl rfl rfl rfl (by decide)) ?_
      simp only [Act.put, List.setIfInBounds_toArray, List.set_cons_succ, List.set_cons_zero]
      refine wpO_val (aop_load (v := t) rfl rfl rfl (gq4 2)) ?_
      refine wpO_as (t) rfl ?_
      simp only [Act.put, List.setIfInBounds_toArray, List.set_cons_succ, List.set_cons_zero]
      refine cw_seq good (cw_seq good (cw_region good ?_))
      refine wpO_val (aop_load rfl rfl rfl gm4) ?_
      refine wpO_val (aop_not (b := true) rfl rfl) ?_
      simp only [Act.put, List.setIfInBounds_toArray, List.set_cons_succ, List.set_cons_zero]
      refine cw_cond good false rfl (cw_skip good ?_)
      refine cw_region good ?_
      refine wpO_mv (t) rfl ?_
      refine wpO_val (aop_func (l := []) (l' := [ptr yb, ptr mb]) rfl rfl rfl) ?_
      simp only [Act.put, List.setIfInBounds_toArray, List.set_cons_succ, List.set_cons_zero]
      refine wpO_call (f := 35) (first := #[]) (cap := #[]) (l := [t, chainY yb mb]) (xs := #[t, chainY yb mb]) ⟨rfl, rfl, rfl⟩ rfl rfl rfl ⟨undef, _, each_some c5, ?_⟩
      simp only [Act.put, List.setIfInBounds_toArray, List.set_cons_succ, List.set_cons_zero]
      refine cw_region good ?_
      refine wpO_val (aop_int (k := .i64) (m := (2 : Nat)) (n := 1) (v := .int .i64 (3 : Nat)) rfl rfl rfl rfl) ?_
      refine wpO_mv (.int .i64 (3 : Nat)) rfl ?_
      simp only [Act.put, List.setIfInBounds_toArray, List.set_cons_succ, List.set_cons_zero]
      refine wpL_step ?_
      refine cw_seq good (cw_region good ?_)
      refine wpO_val (aop_int (k := .i64) (m := (3 : Nat)) (n := (3 : Nat)) (v := .bool false) rfl rfl rfl rfl) ?_
      simp only [Act.put, List.setIfInBounds_toArray, List.set_cons_succ, List.set_cons_zero]
      refine cw_seq good (cw_cond good false rfl (cw_exit good ?_))
      obtain ⟨F', e1, e2⟩ := fin (S14.trans S5) (Asn.perm _ [6, 1, 2, 3, 4, 5, 0] h11 (by decide))
      exact ret_none ⟨rfl, F', e1, e2⟩
  obtain ⟨v, A5, h8, rfl, F', h9, h10⟩ := this
  exact ⟨A5, F', ⟨46, _, _, _, _, ⟨rfl, rfl, rfl⟩, rfl, h8⟩, h9, h10⟩
end Go.Proofs.Ytipomlcnmaldkaa
/-
  seq.Fold; seq.Map of what turns each by itself; the functions that SeqAll hands in. No condition.
-/
namespace Go.Proofs.Ytipomlcnmaldkaa
open Go.Abs
variable {n₀ : Nat}
set_option maxRecDepth 4000
def foldV (fb ub : Nat) : Value := .func (.func 48) #[] #[ptr fb, ptr ub]
/-- What makes one number of two. -/
def Gpec (n₀ : Nat) (f : Value) (g : Int → Int → Int) : Prop := ∀ (A : World) (u x : Int), CallV Try.prog n₀ f #[.int .i64 u, .int .i64 x] A (.int .i64 (g u x)) A
def foldSt (g : Int → Int → Int) (u : Int) (x : Int) : Option (Bool × Int) := some (true, g u x)
theorem foldY_foldl (g : Int → Int → Int) : ∀ (l : List Int) (u : Int), foldY (foldSt g) l u = some (l.foldl g u)
  | [], _ => rfl
  | x :: l, u => by simp only [foldY, foldSt, List.foldl_cons]; exact foldY_foldl g l (g u x)
def foldI (fb ub : Nat) (f : Value) : Int → Asn := fun u => (cel ub (.int .i64 u)).sep (cel fb f)
theorem foldY_spec {fb ub : Nat} {f : Value} {g : Int → Int → Int} (Hg : Gpec n₀ f g) : Ypec Try.prog n₀ (foldV fb ub) (foldI fb ub f) (foldSt g) := by
  refine ⟨rfl, fun _ => Owns.sep Owns.cel Owns.cel, fun {u F A x b s'} h hst => ?_⟩
  cases hst
  obtain ⟨h1, S1⟩ := Asn.put Owns.cel h (.int .i64 (g u x))
  have : wpF Try.prog n₀ 48 #[.int .i64 x, ptr fb, ptr ub] (fun v A' => v = .bool true ∧ A' = A.setCell ⟨ub, 0, none⟩ (.int .i64 (g u x))) A := by
    refine wpF_fn (ts := #[.int .i64 x, ptr fb, ptr ub, undef, undef, undef, undef, undef, undef]) good ⟨rfl, rfl, rfl⟩ rfl ?_
    refine cw_seq good (cw_region good ?_)
    refine wpO_as (.bool false) rfl ?_
    refine cw_seq good (cw_region good ?_)
    refine wpO_val (aop_load rfl rfl rfl (Asn.get (Asn.comm h))) ?_
    refine wpO_val (aop_load rfl rfl rfl (Asn.get h)) ?_
    refine wpO_mv (.int .i64 x) rfl ?_
    simp only [Act.put, List.setIfInBounds_toArray, List.set_cons_succ, List.set_cons_zero]
    refine wpO_callv (y := f) (l := [.int .i64 u, .int .i64 x]) (Hg A u x) rfl rfl ?_
    refine wpO_unit (aop_store (v := .int .i64 (g u x)) rfl rfl rfl rfl rfl (Asn.get h) (Asn.soft h)) ?_
    simp only [Act.put, List.setIfInBounds_toArray, List.set_cons_succ, List.set_cons_zero]
    refine cw_seq good (cw_region good ?_)
    refine wpO_as (.bool true) rfl ?_
    exact cw_ret good (ret_one (.bool true) rfl ⟨rfl, rfl⟩)
  obtain ⟨v, A3, h6, rfl, rfl⟩ := this
  exact ⟨_, F, ⟨48, _, _, _, _, ⟨rfl, rfl, rfl⟩, rfl, h6⟩, h1, S1⟩
theorem fold_call {s f : Value} {g : Int → Int → Int} {J : Asn} {l : List Int} {u : Int} {F : Foot} {A : World} (H : Gives n₀ s J l) (Hg : Gpec n₀ f g) (hf : isOne f = true) (h : J F A) :
    ∃ A' F', SndCall Try.prog n₀ 26 #[s, .int .i64 u, f] A (.int .i64 (l.foldl g u)) A' ∧ J F' A' ∧ Step F A F' A' := by
  obtain ⟨F1, h1, S1⟩ := Asn.new (H.loc ()) h (.int .i64 u) 3
  obtain ⟨F2, h2, S2⟩ := Asn.new (Owns.sep Owns.cel (H.loc ())) h1 f 43
  generalize hub : A.heap.size = ub at h1 h2
  generalize hA1 : A.alloc (.cells #[.int .i64 u] 3 (0, 0)) = A1 at h1 h2 S1 S2
  generalize hfb : A1.heap.size = fb at h2
  generalize hA2 : A1.alloc (.cells #[f] 43 (0, 0)) = A2 at h2 S2
  have h3 : (J.sep (foldI fb ub f u)) F2 A2 := Asn.perm [cel fb f, cel ub (.int .i64 u), J] [2, 1, 0] h2 (by decide)
  obtain ⟨A3, F3, c3, h4, S3⟩ := H.run (foldY_spec (fb := fb) (ub := ub) Hg) (b0 := ()) (b1 := ()) h3 (a1 := l.foldl g u) (by unfold runL; rw [foldY_foldl]; rfl)
  obtain ⟨F4, h5, S4⟩ := Asn.take h4
  have : wpF Try.prog n₀ 26 #[s, .int .i64 u, f] (fun v A' => v = .int .i64 (l.foldl g u) ∧ A' = A3) A := by
    refine wpF_fn (ts := #[s, .int .i64 u, f, undef, undef, undef, undef, undef, undef, undef, undef]) good ⟨rfl, rfl, rfl⟩ (by kernel_rfl) ?_
    refine cw_seq good (cw_region good ?_)
    refine wpO_val (aop_box (v := .int .i64 u) rfl rfl rfl) ?_
    rw [hub, hA1]
    refine wpO_val (aop_box (v := f) rfl rfl hf) ?_
    rw [hfb, hA2]
    refine wpO_as (.int .i64 0) rfl ?_
    simp only [Act.put, List.setIfInBounds_toArray, List.set_cons_succ, List.set_cons_zero]
    refine cw_seq good (cw_region good ?_)
    refine wpO_mv s rfl ?_
    refine wpO_val (aop_func (l := []) (l' := [ptr fb, ptr ub]) rfl rfl rfl) ?_
    simp only [Act.put, List.setIfInBounds_toArray, List.set_cons_succ, List.set_cons_zero]
    refine wpO_call (f := 35) (first := #[]) (cap := #[]) (l := [s, foldV fb ub]) (xs := #[s, foldV fb ub]) ⟨rfl, rfl, rfl⟩ rfl rfl rfl ⟨undef, A3, each_some c3, ?_⟩
    simp only [Act.put, List.setIfInBounds_toArray, List.set_cons_succ, List.set_cons_zero]
    refine cw_seq good (cw_region good ?_)
    refine wpO_val (aop_load rfl rfl rfl (Asn.get (Asn.swap h4))) ?_
    refine wpO_as (.int .i64 (l.foldl g u)) rfl ?_
    exact cw_ret good (ret_one (.int .i64 (l.foldl g u)) rfl ⟨rfl, rfl⟩)
  obtain ⟨v, A4, h6, rfl, rfl⟩ := this
  exact ⟨A4, F4, h6, h5, S1.trans (S2.trans (S3.trans S4))⟩

def w64 (z : Int) : Int := IntKind.i64.wrap z
def addF (u x : Int) : Int := w64 (w64 (u * 3) + x)
theorem add_gpec : Gpec n₀ (fnV 27) addF := fun A u x => by
  have : wpF Try.prog n₀ 27 #[.int .i64 u, .int .i64 x] (fun r A' => r = .int .i64 (addF u x) ∧ A' = A) A := by
    refine wpF_fn (ts := #[.int .i64 u, .int .i64 x, undef, undef, undef, undef, undef, undef, undef]) good ⟨rfl, rfl, rfl⟩ rfl ?_
    refine cw_seq good (cw_region good ?_)
    refine wpO_as (.int .i64 0) rfl ?_
    refine cw_seq good (cw_region good ?_)
    refine wpO_mv (.int .i64 u) rfl ?_
    refine wpO_val (aop_int (k := .i64) (m := u) (n := 3) (v := .int .i64 (w64 (u * 3))) rfl rfl rfl rfl) ?_
    simp only [Act.put, List.setIfInBounds_toArray, List.set_cons_succ, List.set_cons_zero]
    refine wpO_mv (.int .i64 x) rfl ?_
    simp only [Act.put, List.setIfInBounds_toArray, List.set_cons_succ, List.set_cons_zero]
    refine wpO_val (aop_int (k := .i64) (m := w64 (u * 3)) (n := x) (v := .int .i64 (addF u x)) rfl rfl rfl rfl) ?_
    refine wpO_as (.int .i64 (addF u x)) rfl ?_
    exact cw_ret good (ret_one (.int .i64 (addF u x)) rfl ⟨rfl, rfl⟩)
  obtain ⟨v, A1, h1, rfl, rfl⟩ := this
  exact ⟨27, _, _, #[], #[], ⟨rfl, rfl, rfl⟩, rfl, h1⟩
theorem odd_p : Ppec Try.prog n₀ (fnV 25) (fun x => x.tmod 2 != 0) := fun A x => by
  have : wpF Try.prog n₀ 25 #[.int .i64 x] (fun r A' => r = .bool (x.tmod 2 != 0) ∧ A' = A) A := by
    refine wpF_fn (ts := #[.int .i64 x, undef, undef, undef, undef, undef]) good ⟨rfl, rfl, rfl⟩ rfl ?_
    refine cw_seq good (cw_region good ?_)
    refine wpO_as (.bool false) rfl ?_
    refine cw_seq good (cw_region good ?_)
    refine wpO_mv (.int .i64 x) rfl ?_
    refine wpO_val (aop_int (k := .i64) (m := x) (n := 2) rfl rfl rfl rfl) ?_
    refine wpO_val (aop_int (k := .i64) (m := x.tmod 2) (n := 0) rfl rfl rfl rfl) ?_
    refine wpO_as (.bool (x.tmod 2 != 0)) rfl ?_
    exact cw_ret good (ret_one (.bool (x.tmod 2 != 0)) rfl ⟨rfl, rfl⟩)
  obtain ⟨v, A1, h1, rfl, rfl⟩ := this
  exact ⟨25, _, _, #[], #[], ⟨rfl, rfl, rfl⟩, rfl, h1⟩
def twV (kb : Nat) : Value := .func (.func 24) #[] #[ptr kb]
def twF (k x : Int) : Int := w64 (w64 (x * 2) + k)
theorem tw_spec {kb : Nat} {k : Int} : Fpec Try.prog n₀ (twV kb) (fun _ : Unit => cel kb (.int .i64 k)) (fun _ x => some (twF k x, ())) := by
  refine ⟨fun _ => Owns.cel, fun {m F A x v m'} h hf => ?_⟩
  cases hf
  have : wpF Try.prog n₀ 24 #[.int .i64 x, ptr kb] (fun r A' => r = .int .i64 (twF k x) ∧ A' = A) A := by
    refine wpF_fn (ts := #[.int .i64 x, ptr kb, undef, undef, undef, undef, undef, undef]) good ⟨rfl, rfl, rfl⟩ rfl ?_
    refine cw_seq good (cw_region good ?_)
    refine wpO_as (.int .i64 0) rfl ?_
    refine cw_seq good (cw_region good ?_)
    refine wpO_mv (.int .i64 x) rfl ?_
    refine wpO_val (aop_int (k := .i64) (m := x) (n := 2) (v := .int .i64 (w64 (x * 2))) rfl rfl rfl rfl) ?_
    refine wpO_val (aop_load rfl rfl rfl (Asn.get (Asn.emp h))) ?_
    simp only [Act.put, List.setIfInBounds_toArray, List.set_cons_succ, List.set_cons_zero]
    refine wpO_val (aop_int (k := .i64) (m := w64 (x * 2)) (n := k) (v := .int .i64 (twF k x)) rfl rfl rfl rfl) ?_
    refine wpO_as (.int .i64 (twF k x)) rfl ?_
    exact cw_ret good (ret_one (.int .i64 (twF k x)) rfl ⟨rfl, rfl⟩)
  obtain ⟨r, A1, h2, rfl, rfl⟩ := this
  exact ⟨_, F, ⟨24, _, _, _, _, ⟨rfl, rfl, rfl⟩, rfl, h2⟩, h, .refl⟩
theorem fold_map {α : Type} {g : Int → Int} {st : α → Int → Option (Bool × α)} : ∀ (l : List Int) (a a1 : α), foldY st (l.map g) a = some a1 → foldY (mapSt (fun (_ : Unit) x => some (g x, ())) st) l ((), a) = some ((), a1)
  | [], a, a1, h => by cases h; rfl
  | x :: l, a, a1, h => by
    simp only [List.map_cons, foldY] at h
    cases hs : st a (g x) with
    | none => rw [hs] at h; cases h
    | some r =>
      obtain ⟨b, a'⟩ := r
      rw [hs] at h
      have e : mapSt (fun (_ : Unit) x => some (g x, ())) st ((), a) x = some (b, ((), a')) := by simp [mapSt, hs]
      cases b with
      | false => cases h; simp only [foldY, e]
      | true => simp only [foldY, e]; exact fold_map l a' a1 h
theorem map_gives {bs bf : Nat} {s f : Value} {K : Asn} {g : Int → Int} {J : Asn} {l : List Int} (Hf : Fpec Try.prog n₀ f (fun _ : Unit => K) (fun _ x => some (g x, ()))) (H : Gives n₀ s J l) :
    Gives n₀ (mapV bs bf) (mapJ bs bf s f (fun _ : Unit => K) (fun _ : Unit => J) ((), ())) (l.map g) := by
  have HM := map_spec (bs := bs) (bf := bf) Hf H
  refine ⟨fun _ => HM.loc ((), ()), fun {α y I st} Hy {b0 a0 b1 a1 F A} h hr => ?_⟩
  exact HM.run Hy (b0 := ((), ())) (b1 := ((), ())) h (by
    have := fold_map l a0 a1 (runL_some hr)
    unfold mapRun runL
    rw [this]; rfl)
end Go.Proofs.Ytipomlcnmaldkaa
/-
  SeqAll's first loop: what is twice and a number more, what is odd, and the sum, one by one. No condition.
-/
namespace Go.Proofs.Ytipomlcnmaldkaa
open Go.Abs
variable {n₀ : Nat}
set_option maxRecDepth 8000
/-- The code of SeqAll, and parts of code. -/
noncomputable def c6 : Code := match Try.prog.funcs[6]? with
  | some fn => (match fn.body with | some c => c | none => .skip)
  | none => .skip
def lft : Code → Code | .seq x _ => x | c => c
def rgt : Code → Code | .seq _ y => y | c => c
def inl : Code → Code | .block _ x => x | .loop x => x | c => c
def rgts : Nat → Code → Code | 0, c => c | n + 1, c => rgts n (rgt c)
noncomputable def c6a : Code := inl (inl (rgt (lft (rgts 7 c6))))
noncomputable def c6b : Code := inl (inl (rgt (lft (rgts 11 c6))))
theorem appTy : AppTy Try.prog 22 22 3 := ⟨rfl, ⟨_, rfl⟩, _, _, rfl, rfl, rfl, rfl, by decide⟩
theorem take_next {l : List Int} {i : Nat} {x : Int} (h : l[i]? = some x) : l.take (i + 1) = l.take i ++ [x] := by
  rw [List.take_add_one, h]; rfl
theorem rd_one {A : World} {b : Nat} {x : Int} {t : TypeId} (h : A.heap[b]? = some (.cells #[.int .i64 x] t (0, 0))) : Rd A (some ⟨b, 0, none⟩) [x] := fun i y hy => by
  match i, hy with
  | 0, hy => cases hy; exact ⟨_, rfl, by rw [cell_add (a := ⟨b, 0, none⟩) h rfl]; rfl⟩
  | n + 1, hy => simp at hy

set_option maxHeartbeats 4000000 in
theorem all_loop1 {A : World} {F : Foot} {p : Option Addr} {la : List Int} {c kb b1 : Nat} {k : Int} {J2 : Asn} {Q : Exit → Act → World → Prop} {v1 v2 : Value} (o2 : Owns J2) (hla : la.length ≤ 30)
    (h : Asn.all [lstV 3 v1 [], lstV 3 v2 [], cel kb (.int .i64 k), cel b1 (.slice p la.length c), rd p la, J2] F A) {j1 j2 j3 j4 j5 j6 j8 j9 j10 j11 j16 j17 j18 j19 j20 j21 j22 j23 j24 j25 j26 j27 j28 j29 j30 j31 j32 j33 j34 j35 j36 j37 j38 j39 j40 j41 j42 j43 j44 j45 j46 j47 j48 j49 j50 j51 j52 j53 j54 j55 j56 j57 j58 j59 j60 j61 j62 j63 j64 j65 j66 j67 j68 j69 j70 j71 j72 j73 j74 j75 j76 j77 j78 j79 j80 j81 j82 j83 j84 j85 j86 j87 j88 j89 j90 j91 j92 j93 j94 j95 j96 j97 j98 j99 j100 j101 j102 j103 j104 j105 j106 j107 j108 j109 j110 j111 j112 j113 j114 j115 j116 j117 j118 j119 j120 j121 j122 j123 j124 j125 j126 j127 j128 j129 j130 j131 j132 j133 j134 j135 j136 j137 j138 : Value}
    (hQ : ∀ (v1' v2' : Value) (A' : World) (F' : Foot) (z31 z32 z33 z34 z35 z36 z37 z38 z39 z40 z41 z42 z43 z44 z45 z46 z47 z48 z49 z50 z51 z52 z53 z54 z55 z56 z57 z58 z59 z60 z61 z62 z63 z64 z65 z66 : Value), Asn.all [lstV 3 v1' (la.map (twF k)), lstV 3 v2' (la.filter (fun x => x.tmod 2 != 0)), cel kb (.int .i64 k), cel b1 (.slice p la.length c), rd p la, J2] F' A' → Step F A F' A' →
      Q (.exit 0) ⟨#[.slice p la.length c, j1, j2, j3, j4, j5, j6, ptr kb, j8, j9, j10, j11, v1', v2', .int .i64 (la.foldl addF 7), .int .i64 la.length, j16, j17, j18, j19, j20, j21, j22, j23, j24, j25, j26, j27, j28, j29, j30, z31, z32, z33, z34, z35, z36, z37, z38, z39, z40, z41, z42, z43, z44, z45, z46, z47, z48, z49, z50, z51, z52, z53, z54, z55, z56, z57, z58, z59, z60, z61, z62, z63, z64, z65, z66, j67, j68, j69, j70, j71, j72, j73, j74, j75, j76, j77, j78, j79, j80, j81, j82, j83, j84, j85, j86, j87, j88, j89, j90, j91, j92, j93, j94, j95, j96, j97, j98, j99, j100, j101, j102, j103, j104, j105, j106, j107, j108, j109, j110, j111, j112, j113, j114, j115, j116, j117, j118, j119, j120, j121, j122, j123, j124, j125, j126, j127, j128, j129, j130, j131, j132, j133, j134, j135, j136, j137, j138], []⟩ A') :
    wpL Try.prog n₀ none c6a Q ⟨#[.slice p la.length c, j1, j2, j3, j4, j5, j6, ptr kb, j8, j9, j10, j11, v1, v2, .int .i64 7, .int .i64 (0 : Nat), j16, j17, j18, j19, j20, j21, j22, j23, j24, j25, j26, j27, j28, j29, j30, j31, j32, j33, j34, j35, j36, j37, j38, j39, j40, j41, j42, j43, j44, j45, j46, j47, j48, j49, j50, j51, j52, j53, j54, j55, j56, j57, j58, j59, j60, j61, j62, j63, j64, j65, j66, j67, j68, j69, j70, j71, j72, j73, j74, j75, j76, j77, j78, j79, j80, j81, j82, j83, j84, j85, j86, j87, j88, j89, j90, j91, j92, j93, j94, j95, j96, j97, j98, j99, j100, j101, j102, j103, j104, j105, j106, j107, j108, j109, j110, j111, j112, j113, j114, j115, j116, j117, j118, j119, j120, j121, j122, j123, j124, j125, j126, j127, j128, j129, j130, j131, j132, j133, j134, j135, j136, j137, j138], []⟩ A := by
  refine wpL_ind (fun n a A' => ∃ (i : Nat) (v1 v2 : Value) (F' : Foot) (z31 z32 z33 z34 z35 z36 z37 z38 z39 z40 z41 z42 z43 z44 z45 z46 z47 z48 z49 z50 z51 z52 z53 z54 z55 z56 z57 z58 z59 z60 z61 z62 z63 z64 z65 z66 : Value), n = la.length - i ∧ i ≤ la.length ∧ Asn.all [lstV 3 v1 ((la.take i).map (twF k)), lstV 3 v2 ((la.take i).filter (fun x => x.tmod 2 != 0)), cel kb (.int .i64 k), cel b1 (.slice p la.length c), rd p la, J2] F' A' ∧ Step F A F' A' ∧
    a = ⟨#[.slice p la.length c, j1, j2, j3, j4, j5, j6, ptr kb, j8, j9, j10, j11, v1, v2, .int .i64 ((la.take i).foldl addF 7), .int .i64 i, j16, j17, j18, j19, j20, j21, j22, j23, j24, j25, j26, j27, j28, j29, j30, z31, z32, z33, z34, z35, z36, z37, z38, z39, z40, z41, z42, z43, z44, z45, z46, z47, z48, z49, z50, z51, z52, z53, z54, z55, z56, z57, z58, z59, z60, z61, z62, z63, z64, z65, z66, j67, j68, j69, j70, j71, j72, j73, j74, j75, j76, j77, j78, j79, j80, j81, j82, j83, j84, j85, j86, j87, j88, j89, j90, j91, j92, j93, j94, j95, j96, j97, j98, j99, j100, j101, j102, j103, j104, j105, j106, j107, j108, j109, j110, j111, j112, j113, j114, j115, j116, j117, j118, j119, j120, j121, j122, j123, j124, j125, j126, j127, j128, j129, j130, j131, j132, j133, j134, j135, j136, j137, j138], []⟩) ?_ la.length _ _
    ⟨0, v1, v2, F, j31, j32, j33, j34, j35, j36, j37, j38, j39, j40, j41, j42, j43, j44, j45, j46, j47, j48, j49, j50, j51, j52, j53, j54, j55, j56, j57, j58, j59, j60, j61, j62, j63, j64, j65, j66, by simp, by simp, h, .refl, rfl⟩
  clear h
  rintro n _ A' ⟨i, v1, v2, F', z31, z32, z33, z34, z35, z36, z37, z38, z39, z40, z41, z42, z43, z44, z45, z46, z47, z48, z49, z50, z51, z52, z53, z54, z55, z56, z57, z58, z59, z60, z61, z62, z63, z64, z65, z66, rfl, hi, h, hS, rfl⟩
  refine cw_seq good (cw_seq good (cw_region good ?_))
  refine wpO_mv (.int .i64 i) rfl ?_
  refine wpO_mv (.slice p la.length c) rfl ?_
  refine wpO_val (aop_len rfl rfl rfl rfl rfl) ?_
  refine wpO_val (aop_int rfl (k := .i64) (m := i) (n := la.length) rfl rfl rfl) ?_
  simp only [Act.put, List.setIfInBounds_toArray, List.set_cons_succ, List.set_cons_zero]
  by_cases hlt : i < la.length
  case neg =>
    refine cw_cond good false (congrArg Value.bool (by simpa using hlt)) (cw_exit good ?_)
    have e : la.take i = la := List.take_of_length_le (by omega)
    have e2 : i = la.length := by omega
    rw [e] at h
    rw [e, e2]
    exact hQ _ _ _ _ _ _ _ _ _ _ _ _ _ _ _ _ _ _ _ _ _ _ _ _ _ _ _ _ _ _ _ _ _ _ _ _ _ _ _ _ h hS
  refine cw_cond good true (congrArg Value.bool (by simpa using hlt)) (cw_skip good ?_)
  obtain ⟨x, hx⟩ : ∃ x, la[i]? = some x := ⟨_, List.getElem?_eq_getElem hlt⟩
  have hO := fun (v1 v2 : Value) (l1 l2 : List Int) => Owns.sep (Owns.lstV (t := 3) (v := v1) (acc := l1)) (Owns.sep (Owns.lstV (t := 3) (v := v2) (acc := l2)) (Owns.sep (Owns.cel (b := kb) (v := .int .i64 k)) (Owns.sep (Owns.cel (b := b1) (v := .slice p la.length c)) (Owns.sep (Owns.rd (p := p) (l := la)) o2))))
  obtain ⟨_, hrd⟩ := Asn.left (Asn.perm _ [4, 0, 1, 2, 3, 5] h (by decide))
  obtain ⟨ad, rfl, hc⟩ := hrd.2.1 i x hx
  have hRo := hrd.2.2 ad rfl
  -- the first append
  obtain ⟨F1, h1, S1⟩ := Asn.newO (hO _ _ _ _) h (.cells #[.int .i64 (twF k x)] 3 (0, 0))
  have hat := Asn.at h1
  have gk1 := Asn.get (Asn.perm [blk A'.heap.size (.cells #[.int .i64 (twF k x)] 3 (0, 0)), lstV 3 v1 ((la.take i).map (twF k)), lstV 3 v2 ((la.take i).filter (fun x => x.tmod 2 != 0)), cel kb (.int .i64 k), cel b1 (.slice (some ad) la.length c), rd (some ad) la, J2] [3, 0, 1, 2, 4, 5, 6] h1 (by decide))
  have h2 := Asn.perm [blk A'.heap.size (.cells #[.int .i64 (twF k x)] 3 (0, 0)), lstV 3 v1 ((la.take i).map (twF k)), lstV 3 v2 ((la.take i).filter (fun x => x.tmod 2 != 0)), cel kb (.int .i64 k), cel b1 (.slice (some ad) la.length c), rd (some ad) la, J2] [1, 0, 2, 3, 4, 5, 6] h1 (by decide)
  obtain ⟨v1', A2, F2, hap, h3, S2⟩ := lstV_grow (p := some ⟨A'.heap.size, 0, none⟩) (l := [twF k x]) (n := 1) (c2 := 1) appTy (Owns.sep Owns.blk (Owns.sep Owns.lstV (Owns.sep Owns.cel (Owns.sep Owns.cel (Owns.sep Owns.rd o2))))) h2 (rd_one hat) rfl (by simp; omega)
  obtain ⟨F3, h4, S3⟩ := Asn.drop (Asn.swap h3)
  have hc1 : (A'.alloc (.cells #[.int .i64 (twF k x)] 3 (0, 0))).cell? (ad.add (i * 1)) = some (.int .i64 x) := (cell_eq (A := A') (by rw [add_block]; exact S1.ro _ hRo)).trans hc
  have hc2 : A2.cell? (ad.add (i * 1)) = some (.int .i64 x) := (cell_eq (A := A') (by rw [add_block]; exact (S1.ro.trans S2.ro) _ hRo)).trans hc
  have e1 : (la.take i).map (twF k) ++ [twF k x] = (la.take (i + 1)).map (twF k) := by rw [take_next hx]; simp
  rw [e1] at h4
  refine cw_seq good (cw_block good ?_)

  refine cw_seq good (cw_draw good [v1, .slice (some ad) la.length c, .int .i64 i, .pointer (some (ad.add (i * 1))), .int .i64 x, .int .i64 (w64 (x * 2)), .int .i64 k, .int .i64 (twF k x), .slice (some ⟨A'.heap.size, 0, none⟩) 1 1, v1', v1'] [A', A', A', A', A', A', A', A', A', (A'.alloc (.cells #[.int .i64 (twF k x)] 3 (0, 0))), A2, A2] (by kernel_rfl) rfl ?_ ⟨#[.slice (some ad) la.length c, j1, j2, j3, j4, j5, j6, ptr kb, j8, j9, j10, j11, v1', v2, .int .i64 ((la.take i).foldl addF 7), .int .i64 i, j16, j17, j18, j19, j20, j21, j22, j23, j24, j25, j26, j27, j28, j29, j30, .int .i64 i, .slice (some ad) la.length c, .int .i64 la.length, .bool (decide ((i : Int) < la.length)), z35, z36, v1, .slice (some ad) la.length c, .int .i64 i, .pointer (some (ad.add (i * 1))), .int .i64 x, .int .i64 (w64 (x * 2)), .int .i64 k, .int .i64 (twF k x), .slice (some ⟨A'.heap.size, 0, none⟩) 1 1, v1', z47, z48, z49, z50, z51, z52, z53, z54, z55, z56, z57, z58, z59, z60, z61, z62, z63, z64, z65, z66, j67, j68, j69, j70, j71, j72, j73, j74, j75, j76, j77, j78, j79, j80, j81, j82, j83, j84, j85, j86, j87, j88, j89, j90, j91, j92, j93, j94, j95, j96, j97, j98, j99, j100, j101, j102, j103, j104, j105, j106, j107, j108, j109, j110, j111, j112, j113, j114, j115, j116, j117, j118, j119, j120, j121, j122, j123, j124, j125, j126, j127, j128, j129, j130, j131, j132, j133, j134, j135, j136, j137, j138], []⟩ A2 (by kernel_rfl) rfl ?_)
  · intro jj o ho
    match jj, ho with
    | 0, ho => cases ho; exact step_quiet rfl [9] (all1 (aop_mv rfl (by kernel_rfl))) rfl
    | 1, ho => cases ho; exact step_quiet rfl [9] (all1 (aop_mv rfl (by kernel_rfl))) rfl
    | 2, ho => cases ho; exact step_quiet rfl [9] (all1 (aop_mv rfl (by kernel_rfl))) rfl
    | 3, ho => cases ho; exact step_quiet rfl [9] (all1 (aop_index (k := .i64) (cap := c) rfl (by kernel_rfl) (by kernel_rfl) rfl rfl hlt)) rfl
    | 4, ho => cases ho; exact step_quiet rfl [9] (all1 (aop_load rfl (by kernel_rfl) rfl hc1)) rfl
    | 5, ho => cases ho; exact step_quiet rfl [9] (all1 (aop_int (k := .i64) (m := x) (n := 2) (v := .int .i64 (w64 (x * 2))) rfl (by kernel_rfl) (by kernel_rfl) rfl)) rfl
    | 6, ho => cases ho; exact step_quiet rfl [9] (all1 (aop_load (p := ⟨kb, 0, none⟩) rfl (by kernel_rfl) rfl gk1)) rfl
    | 7, ho => cases ho; exact step_quiet rfl [9] (all1 (aop_int (k := .i64) (m := w64 (x * 2)) (n := k) (v := .int .i64 (twF k x)) rfl (by kernel_rfl) (by kernel_rfl) rfl)) rfl
    | 8, ho => cases ho; exact step_makes rfl (.cells #[.int .i64 (twF k x)] 3 (0, 0)) rfl rfl (.inr (.inl ⟨1, 1, rfl⟩)) (fun b => .slice (some ⟨b, 0, none⟩) 1 1) rfl (fun w => run_slice1 (v := .int .i64 (twF k x)) rfl (by kernel_rfl) rfl rfl rfl rfl rfl rfl) [9] (all1 hat)
    | 9, ho => cases ho; exact step_acts rfl ⟨_, _, hap _ _ _ rfl rfl rfl (by kernel_rfl), rfl, rfl⟩
    | 10, ho => cases ho; exact step_quiet rfl [11] (all1 (aop_as rfl (by kernel_rfl))) rfl
    | n + 11, ho => simp at ho

  refine cw_seq good (cw_seq good (cw_region good ?_))
  refine wpO_mv (.slice (some ad) la.length c) rfl ?_
  refine wpO_mv (.int .i64 i) rfl ?_
  simp only [Act.put, List.setIfInBounds_toArray, List.set_cons_succ, List.set_cons_zero]
  refine wpO_val (aop_index (k := .i64) (cap := c) rfl rfl rfl rfl rfl hlt) ?_
  refine wpO_val (aop_load rfl rfl rfl hc2) ?_
  refine wpO_val (aop_int (k := .i64) (m := x) (n := 2) (v := .int .i64 (x.tmod 2)) rfl rfl rfl rfl) ?_
  refine wpO_val (aop_int (k := .i64) (m := x.tmod 2) (n := 0) (v := .bool (x.tmod 2 != 0)) rfl rfl rfl rfl) ?_
  simp only [Act.put, List.setIfInBounds_toArray, List.set_cons_succ, List.set_cons_zero]
  by_cases ho : (x.tmod 2 != 0) = true
  case neg =>
    have ho' : (x.tmod 2 != 0) = false := by simpa using ho
    refine cw_cond good false (congrArg Value.bool ho') (cw_skip good ?_)
    have e2 : (la.take i).filter (fun x => x.tmod 2 != 0) = (la.take (i + 1)).filter (fun x => x.tmod 2 != 0) := by rw [take_next hx, List.filter_append, List.filter_cons_of_neg (by rw [ho']; decide), List.filter_nil, List.append_nil]
    rw [e2] at h4
    refine cw_region good ?_
    refine wpO_mv (.int .i64 ((la.take i).foldl addF 7)) rfl ?_
    refine wpO_val (aop_int (k := .i64) (m := (la.take i).foldl addF 7) (n := 3) (v := .int .i64 (w64 ((la.take i).foldl addF 7 * 3))) rfl rfl rfl rfl) ?_
    simp only [Act.put, List.setIfInBounds_toArray, List.set_cons_succ, List.set_cons_zero]
    refine wpO_mv (.slice (some ad) la.length c) rfl ?_
    refine wpO_mv (.int .i64 i) rfl ?_
    simp only [Act.put, List.setIfInBounds_toArray, List.set_cons_succ, List.set_cons_zero]
    refine wpO_val (aop_index (k := .i64) (cap := c) rfl rfl rfl rfl rfl hlt) ?_
    refine wpO_val (aop_load rfl rfl rfl hc2) ?_
    simp only [Act.put, List.setIfInBounds_toArray, List.set_cons_succ, List.set_cons_zero]
    refine wpO_val (aop_int (k := .i64) (m := w64 ((la.take i).foldl addF 7 * 3)) (n := x) (v := .int .i64 (addF ((la.take i).foldl addF 7) x)) rfl rfl rfl rfl) ?_
    refine wpO_as (.int .i64 (addF ((la.take i).foldl addF 7) x)) rfl ?_
    simp only [Act.put, List.setIfInBounds_toArray, List.set_cons_succ, List.set_cons_zero]
    refine cw_region good ?_
    refine wpO_mv (.int .i64 i) rfl ?_
    refine wpO_val (aop_int (k := .i64) (m := i) (n := 1) (v := .int .i64 (i + 1 : Nat)) rfl rfl rfl (intV_add (by omega) (by omega) (by omega))) ?_
    refine wpO_as (.int .i64 (i + 1 : Nat)) rfl ?_
    simp only [Act.put, List.setIfInBounds_toArray, List.set_cons_succ, List.set_cons_zero]
    have e3 : addF ((la.take i).foldl addF 7) x = (la.take (i + 1)).foldl addF 7 := by rw [take_next hx]; simp
    rw [e3]
    exact ⟨la.length - (i + 1), by omega, i + 1, v1', v2, F3, _, _, _, _, _, _, _, _, _, _, _, _, _, _, _, _, _, _, _, _, _, _, _, _, _, _, _, _, _, _, _, _, _, _, _, _, rfl, by omega, h4, hS.trans (S1.trans (S2.trans S3)), rfl⟩

  refine cw_cond good true (congrArg Value.bool ho) ?_
  refine cw_region good ?_
  refine wpO_mv v2 rfl ?_
  refine wpO_mv (.slice (some ad) la.length c) rfl ?_
  refine wpO_mv (.int .i64 i) rfl ?_
  simp only [Act.put, List.setIfInBounds_toArray, List.set_cons_succ, List.set_cons_zero]
  refine wpO_val (aop_index (k := .i64) (cap := c) rfl rfl rfl rfl rfl hlt) ?_
  refine wpO_val (aop_load rfl rfl rfl hc2) ?_
  simp only [Act.put, List.setIfInBounds_toArray, List.set_cons_succ, List.set_cons_zero]
  obtain ⟨F5, h5, S5⟩ := Asn.newO (hO _ _ _ _) h4 (.cells #[.int .i64 x] 3 (0, 0))
  have hat5 := Asn.at h5
  have h6 := Asn.perm [blk A2.heap.size (.cells #[.int .i64 x] 3 (0, 0)), lstV 3 v1' ((la.take (i + 1)).map (twF k)), lstV 3 v2 ((la.take i).filter (fun x => x.tmod 2 != 0)), cel kb (.int .i64 k), cel b1 (.slice (some ad) la.length c), rd (some ad) la, J2] [2, 0, 1, 3, 4, 5, 6] h5 (by decide)
  obtain ⟨v2', A4, F6, hap2, h7, S6⟩ := lstV_grow (p := some ⟨A2.heap.size, 0, none⟩) (l := [x]) (n := 1) (c2 := 1) appTy (Owns.sep Owns.blk (Owns.sep Owns.lstV (Owns.sep Owns.cel (Owns.sep Owns.cel (Owns.sep Owns.rd o2))))) h6 (rd_one hat5) rfl (by have := List.length_filter_le (fun x => x.tmod 2 != 0) (la.take i); rw [List.length_take] at this; simp only [List.length_cons, List.length_nil]; omega)
  obtain ⟨F7, h8, S7⟩ := Asn.drop (Asn.swap h7)
  have e2 : (la.take i).filter (fun x => x.tmod 2 != 0) ++ [x] = (la.take (i + 1)).filter (fun x => x.tmod 2 != 0) := by rw [take_next hx, List.filter_append, show [x].filter (fun x => x.tmod 2 != 0) = [x] from by simp only [List.filter_cons, ho, if_true, List.filter_nil]]
  rw [e2] at h8
  have h9 := Asn.swap h8
  have hc4 : A4.cell? (ad.add (i * 1)) = some (.int .i64 x) := (cell_eq (A := A') (by rw [add_block]; exact (S1.ro.trans (S2.ro.trans (S5.ro.trans S6.ro))) _ hRo)).trans hc
  refine wpO_val (aop_slice1 (v := .int .i64 x) rfl rfl rfl rfl rfl rfl rfl rfl) ?_
  refine wpO_val (hap2 _ _ _ rfl rfl rfl rfl) ?_
  refine wpO_as v2' rfl ?_
  simp only [Act.put, List.setIfInBounds_toArray, List.set_cons_succ, List.set_cons_zero]
  refine cw_region good ?_
  refine wpO_mv (.int .i64 ((la.take i).foldl addF 7)) rfl ?_
  refine wpO_val (aop_int (k := .i64) (m := (la.take i).foldl addF 7) (n := 3) (v := .int .i64 (w64 ((la.take i).foldl addF 7 * 3))) rfl rfl rfl rfl) ?_
  simp only [Act.put, List.setIfInBounds_toArray, List.set_cons_succ, List.set_cons_zero]
  refine wpO_mv (.slice (some ad) la.length c) rfl ?_
  refine wpO_mv (.int .i64 i) rfl ?_
  simp only [Act.put, List.setIfInBounds_toArray, List.set_cons_succ, List.set_cons_zero]
  refine wpO_val (aop_index (k := .i64) (cap := c) rfl rfl rfl rfl rfl hlt) ?_
  refine wpO_val (aop_load rfl rfl rfl hc4) ?_
  simp only [Act.put, List.setIfInBounds_toArray, List.set_cons_succ, List.set_cons_zero]
  refine wpO_val (aop_int (k := .i64) (m := w64 ((la.take i).foldl addF 7 * 3)) (n := x) (v := .int .i64 (addF ((la.take i).foldl addF 7) x)) rfl rfl rfl rfl) ?_
  refine wpO_as (.int .i64 (addF ((la.take i).foldl addF 7) x)) rfl ?_
  simp only [Act.put, List.setIfInBounds_toArray, List.set_cons_succ, List.set_cons_zero]
  refine cw_region good ?_
  refine wpO_mv (.int .i64 i) rfl ?_
  refine wpO_val (aop_int (k := .i64) (m := i) (n := 1) (v := .int .i64 (i + 1 : Nat)) rfl rfl rfl (intV_add (by omega) (by omega) (by omega))) ?_
  refine wpO_as (.int .i64 (i + 1 : Nat)) rfl ?_
  simp only [Act.put, List.setIfInBounds_toArray, List.set_cons_succ, List.set_cons_zero]
  have e3 : addF ((la.take i).foldl addF 7) x = (la.take (i + 1)).foldl addF 7 := by rw [take_next hx]; simp
  rw [e3]
  exact ⟨la.length - (i + 1), by omega, i + 1, v1', v2', F7, _, _, _, _, _, _, _, _, _, _, _, _, _, _, _, _, _, _, _, _, _, _, _, _, _, _, _, _, _, _, _, _, _, _, _, _, rfl, by omega, h9, hS.trans (S1.trans (S2.trans (S3.trans (S5.trans (S6.trans S7))))), rfl⟩

end Go.Proofs.Ytipomlcnmaldkaa
/-
  What SeqAll asks, each by itself: a list of what is turned, kept, taken, skipped; and that all that lay there lies there still. No condition.
-/
namespace Go.Proofs.Ytipomlcnmaldkaa
open Go.Abs
variable {n₀ : Nat}
set_option maxRecDepth 8000
/-- What a call of List told, and where it may be read. -/
def Told (A : World) (x : Value) (l : List Int) : Prop := ∃ p, x = .slice p l.length l.length ∧ Rd A p l
theorem z_list {s : Value} {Z : Asn} {l : List Int} {F : Foot} {A : World} (g : Gives n₀ s Z l) (h : Z F A) (hl : l.length < 16777216) : ∃ x A' F', SndCall Try.prog n₀ 13 #[s] A x A' ∧ Z F' A' ∧ Told A' x l := by
  obtain ⟨x, A1, F1, c1, h1, _⟩ := gives_list g h hl
  obtain ⟨_, q⟩ := Asn.right h1
  obtain ⟨F2, h2, _⟩ := Asn.take h1
  exact ⟨x, A1, F2, c1, h2, lstV_rd q⟩
theorem z_keep {s f : Value} {p : Int → Bool} {Z : Asn} {l : List Int} {F : Foot} {A : World} (g : Gives n₀ s Z l) (Hp : Ppec Try.prog n₀ f p) (hs : isOne s = true) (hf : isOne f = true) (h : Z F A) (hl : l.length < 16777216) :
    ∃ V A1 x A2 F', SndCall Try.prog n₀ 19 #[s, f] A V A1 ∧ SndCall Try.prog n₀ 13 #[V] A1 x A2 ∧ Z F' A2 ∧ Told A2 x (l.filter p) := by
  obtain ⟨bs, bf, A1, F1, c1, h1, _⟩ := keep_do (n₀ := n₀) (s := s) (f := f) (g.loc ()) h hs hf
  obtain ⟨x, A2, F2, c2, h2, t⟩ := z_list (keep_gives (bs := bs) (bf := bf) Hp g) h1 (Nat.lt_of_le_of_lt (List.length_filter_le _ _) hl)
  obtain ⟨F3, h3, _⟩ := Asn.drop h2
  obtain ⟨F4, h4, _⟩ := Asn.drop h3
  exact ⟨_, A1, x, A2, F4, c1, c2, h4, t⟩
theorem z_take {s : Value} {n : Int} {Z : Asn} {l : List Int} {F : Foot} {A : World} (g : Gives n₀ s Z l) (hn : n < 9223372036854775808) (hs : isOne s = true) (h : Z F A) (hl : l.length < 16777216) :
    ∃ V A1 x A2 F', SndCall Try.prog n₀ 14 #[s, .int .i64 n] A V A1 ∧ SndCall Try.prog n₀ 13 #[V] A1 x A2 ∧ RoKept A A1 ∧ Z F' A2 ∧ Told A2 x (l.take n.toNat) := by
  obtain ⟨bn, bs, A1, F1, c1, h1, S1⟩ := take_do' (n₀ := n₀) (s := s) (n := n) (g.loc ()) h hs
  obtain ⟨x, A2, F2, c2, h2, t⟩ := z_list (take_gives (bn := bn) (bs := bs) g hn) h1 (by rw [List.length_take]; omega)
  obtain ⟨F3, h3, _⟩ := Asn.drop h2
  obtain ⟨F4, h4, _⟩ := Asn.drop h3
  exact ⟨_, A1, x, A2, F4, c1, c2, S1.ro, h4, t⟩
theorem z_skip {s : Value} {n : Int} {Z : Asn} {l : List Int} {F : Foot} {A : World} (g : Gives n₀ s Z l) (hn : n < 9223372036854775808) (hs : isOne s = true) (h : Z F A) (hl : l.length < 16777216) :
    ∃ V A1 x A2 F', SndCall Try.prog n₀ 18 #[s, .int .i64 n] A V A1 ∧ SndCall Try.prog n₀ 13 #[V] A1 x A2 ∧ RoKept A A1 ∧ Z F' A2 ∧ Told A2 x (l.drop n.toNat) := by
  obtain ⟨bn, bs, A1, F1, c1, h1, S1⟩ := skip_do (n₀ := n₀) (s := s) (n := n) (g.loc ()) h hs
  obtain ⟨x, A2, F2, c2, h2, t⟩ := z_list (skip_gives (bn := bn) (bs := bs) g hn) h1 (by rw [List.length_drop]; omega)
  obtain ⟨F3, h3, _⟩ := Asn.drop h2
  obtain ⟨F4, h4, _⟩ := Asn.drop h3
  exact ⟨_, A1, x, A2, F4, c1, c2, S1.ro, h4, t⟩
theorem z_map {s f : Value} {J K : Asn} {gf : Int → Int} {l : List Int} {F : Foot} {A : World} (g : Gives n₀ s J l) (Hf : Fpec Try.prog n₀ f (fun _ : Unit => K) (fun _ x => some (gf x, ()))) (hs : isOne s = true) (hf : isOne f = true) (h : (J.sep K) F A) (hl : l.length < 16777216) :
    ∃ V A1 x A2 F', SndCall Try.prog n₀ 10 #[s, f] A V A1 ∧ SndCall Try.prog n₀ 13 #[V] A1 x A2 ∧ (J.sep K) F' A2 ∧ Told A2 x (l.map gf) := by
  obtain ⟨bs, bf, A1, F1, c1, h1, _⟩ := map_do (n₀ := n₀) (s := s) (f := f) (J := fun _ : Unit => J) (K := fun _ : Unit => K) (p := ()) (q := ()) (Hf.loc ()) (g.loc ()) h hs hf
  obtain ⟨x, A2, F2, c2, h2, t⟩ := z_list (map_gives (bs := bs) (bf := bf) Hf g) h1 (by rw [List.length_map]; exact hl)
  obtain ⟨F3, h3, _⟩ := Asn.drop (Asn.perm [J, K, cel bs s, cel bf f] [2, 3, 0, 1] h2 (by decide))
  obtain ⟨F4, h4, _⟩ := Asn.drop h3
  exact ⟨_, A1, x, A2, F4, c1, c2, h4, t⟩
theorem told_eq {A : World} {x y : Value} {l : List Int} (hl : l.length < 2 ^ 62) (hx : Told A x l) (hy : ∃ p c, y = .slice p l.length c ∧ Rd A p l) : SndCall Try.prog n₀ 15 #[x, y] A (.bool true) A := by
  obtain ⟨p, rfl, h1⟩ := hx
  obtain ⟨q, c, rfl, h2⟩ := hy
  exact eq_true hl h1 h2
theorem lst_told {v : Value} {l : List Int} {F : Foot} {A : World} (h : lstV 3 v l F A) : ∃ p c, v = .slice p l.length c ∧ Rd A p l := let ⟨p, e, r⟩ := lstV_rd h; ⟨p, _, e, r⟩
theorem chain_call {A : World} {v : Value} (hv : isOne v = true) : SndCall Try.prog n₀ 23 #[v] A (chainV A.heap.size) (A.alloc (.cells #[v] 47 (0, 0))) := by
  have : wpF Try.prog n₀ 23 #[v] (fun r A' => r = chainV A.heap.size ∧ A' = A.alloc (.cells #[v] 47 (0, 0))) A := by
    refine wpF_fn (ts := #[v, undef, undef, undef]) good ⟨rfl, rfl, rfl⟩ rfl ?_
    refine cw_seq good (cw_region good ?_)
    refine wpO_val (aop_box (v := v) rfl rfl hv) ?_
    refine wpO_as .nilFunc rfl ?_
    refine cw_seq good (cw_region good ?_)
    refine wpO_val (aop_func (l := []) (l' := [ptr A.heap.size]) rfl rfl rfl) ?_
    refine wpO_as (chainV A.heap.size) rfl ?_
    exact cw_ret good (ret_one (chainV A.heap.size) rfl ⟨rfl, rfl⟩)
  obtain ⟨v, A1, h1, rfl, rfl⟩ := this
  exact h1
/-- From the l-th on. -/
theorem aop_from {A : World} {ρ : Operand → Value} {o : Oper} {t e : TypeId} {x : Operand} {lo : Operand} {b : Option Addr} {len cap l : Nat} {k : IntKind} (ho : o.op = .slice t x (some lo) none none) (hx : ρ x = .slice b len cap) (hu : Try.prog.underlying t = some (.slice e)) (h1 : one Try.prog e = true)
    (hlo : ρ lo = .int k l) (hl : l ≤ len) (hlen : len ≤ cap) (hb : ∀ a, b = some a → ∃ cs t' fz, A.heap[a.block]? = some (.cells cs t' fz) ∧ fz ≠ (2, 0) ∧ (fz = (1, 0) → Try.prog.cellsOf e = Try.prog.cellsOf t')) :
    AOp Try.prog ρ o A (.value (.slice (if cap = l then b else b.map (·.add (l * 1))) (len - l) (cap - l))) A := by
  refine .inr (.inl ⟨?_, ?_⟩)
  · rw [ho]
    refine ⟨fun a l' c' h' => ?_, fun e' h' => ?_, fun el he a l' c' h' => ?_⟩
    · rw [hx] at h'; cases h'; exact hlen
    · rw [hu] at h'; cases h'
    · rw [hu] at he; cases he; rw [hx] at h'; cases h'; exact hb a rfl
  · unfold execOp; rw [ho]
    have hs : (sizeOf e).run Try.prog A = .ok 1 A := run_sizeOne h1 A
    have hun : (underlying t).run Try.prog A = .ok (.slice e) A := by simp [underlying, program, Sem.run, Bind.bind, Sem.bind, Pure.pure, hu]
    have hbd : (Instr.sliceBounds true len cap (some (.int k l)) none none).run Try.prog A = .ok (l, len, cap) A := by
      unfold Instr.sliceBounds
      simp only [Sem.run_bind, Sem.run_pure, Result.andThen, run_bound (v := .int k l) rfl hl, Option.isSome_none]
    simp only [Instr.sliceAt, Instr.slice, hx, hlo, Option.map_some, Sem.run_bind, Sem.run_pure, Result.andThen, hun, hs, hbd, Option.map_none]
theorem runOp_call {a : Act} {A A1 : World} {o : Oper} {c : Call} {g : Operand} {f : FuncId} {fn : Func} {code : Code} {v : Value} {l : List Value} (H : IsFn Try.prog f fn code) (h : SndCall Try.prog n₀ f l.toArray A v A1) (hg : a.eval g = .func (.func f) #[] #[]) (hx : c.args.toList.map a.eval = l)
    (ho : o.op = .call c := by rfl) (hc : c.callee = .value g := by rfl) : RunOp Try.prog (Wd Try.prog n₀) o a A v A1 := by
  have e : c.args.map a.eval = l.toArray := by rw [← hx, ← Array.toList_map]
  have e2 : #[] ++ c.args.map a.eval ++ #[] = l.toArray := by rw [e]; simp
  exact ⟨_, _, .inr (.inr (.inr (.inl ⟨c, g, f, #[], #[], fn, code, ho, hc, hg, H.at_, H.body, H.name, rfl, rfl⟩))), e2 ▸ h⟩
end Go.Proofs.Ytipomlcnmaldkaa
