/-
  each, slices.Values and seq.List, at the widest level: whatever hands numbers on, and whatever takes them. No condition.
-/
import Derived.Test.YtipomlcnmaldkaaBase
import Derived.Test.YtipomlcnmaldkaaB4
namespace Go.Proofs.Ytipomlcnmaldkaa
open Go.Abs
variable {n₀ : Nat}
set_option maxRecDepth 4000

/-- each, of what is there. -/
theorem each_some {s y v : Value} {A A' : World} (h : CallV Try.prog n₀ s #[y] A v A') : SndCall Try.prog n₀ 35 #[s, y] A undef A' := by
  have : wpF Try.prog n₀ 35 #[s, y] (fun v A1 => v = undef ∧ A1 = A') A := by
    refine wpF_fn (ts := #[s, y, undef, undef, undef, undef, undef, undef, undef]) good ⟨rfl, rfl, rfl⟩ rfl ?_
    refine cw_seq good (cw_region good ?_)
    refine wpO_mv s rfl ?_
    obtain ⟨f, fn, code, first, cap, h1, rfl, h2⟩ := h
    refine wpO_val (aop_neNil (v := .func (.func f) first cap) (w := .nilFunc) (b := false) rfl rfl rfl rfl rfl) ?_
    refine cw_cond good true rfl ?_
    refine cw_region good ?_
    refine wpO_mv (.func (.func f) first cap) rfl ?_
    refine wpO_mv y rfl ?_
    refine wpO_callv (y := .func (.func f) first cap) (l := [y]) ⟨f, fn, code, first, cap, h1, rfl, h2⟩ rfl rfl ?_
    exact ret_none ⟨rfl, rfl⟩
  obtain ⟨v, A1, h1, rfl, rfl⟩ := this
  exact h1

def valsV (b : Nat) : Value := .func (.func 49) #[] #[.pointer (some ⟨b, 0, none⟩)]
def valsJ (b : Nat) (p : Option Addr) (cap : Nat) (l : List Int) : Unit → Asn := fun _ => (cel b (.slice p l.length cap)).sep (rd p l)
theorem vals_spec {b : Nat} {p : Option Addr} {cap : Nat} {l : List Int} (hl : l.length < 2 ^ 62) : Hands Try.prog n₀ (valsV b) (valsJ b p cap l) (fun _ st _ a => (foldY st l a).map fun a' => ((), a')) := by
  refine ⟨fun _ => Owns.sep Owns.cel Owns.rd, fun {α y I st} H {b0 a0 b1 a1 F A} h hr => ?_⟩
  have hr' : foldY st l a0 = some a1 := by
    cases hf : foldY st l a0 with
    | none => rw [hf] at hr; cases hr
    | some a' => rw [hf] at hr; cases hr; rfl
  have hJ : Owns ((rd p l).sep (I a0)) := Owns.sep Owns.rd (H.loc _)
  have h' := Asn.assoc h
  have : wpF Try.prog n₀ 49 #[y, .pointer (some ⟨b, 0, none⟩)] (fun v A' => v = undef ∧ ∃ F', ((valsJ b p cap l ()).sep (I a1)) F' A' ∧ Step F A F' A') A := by
    refine wpF_fn (ts := #[y, .pointer (some ⟨b, 0, none⟩), undef, undef, undef, undef, undef, undef, undef, undef, undef, undef, undef, undef, undef, undef]) good ⟨rfl, rfl, rfl⟩ rfl ?_
    refine cw_seq good (cw_region good ?_)
    refine wpO_val (aop_load rfl rfl rfl (Asn.get h')) ?_
    refine wpO_val (aop_len rfl rfl rfl rfl rfl) ?_
    refine wpO_mv (.int .i64 0) rfl ?_
    refine cw_block good (cw_loop good ?_)
    refine wpL_ind (fun n a A' => ∃ i ai F', n = l.length - i ∧ i ≤ l.length ∧ foldY st (l.drop i) ai = some a1 ∧ ((I ai).sep (valsJ b p cap l ())) F' A' ∧ Step F A F' A' ∧
      ∃ w2 w3 w4 w8 w9 w10 w11 w12 w13 w14 w15, a = ⟨#[y, .pointer (some ⟨b, 0, none⟩), w2, w3, w4, .slice p l.length cap, .int .i64 l.length, .int .i64 i, w8, w9, w10, w11, w12, w13, w14, w15], []⟩) ?_ (l.length) _ _
      ⟨0, a0, F, by simp, by simp, hr', Asn.comm h, .refl, _, _, _, _, _, _, _, _, _, _, _, rfl⟩
    rintro n _ A' ⟨i, ai, F', rfl, hi, hf, hA, hS, w2, w3, w4, w8, w9, w10, w11, w12, w13, w14, w15, rfl⟩
    refine cw_seq good (cw_region good ?_)
    refine wpO_val (aop_int rfl (k := .i64) (m := i) (n := l.length) rfl rfl rfl) ?_
    by_cases hlt : i < l.length
    · refine cw_seq good (cw_cond good true (congrArg Value.bool (by simpa using hlt)) (cw_skip good ?_))
      obtain ⟨x, hx⟩ : ∃ x, l[i]? = some x := ⟨_, List.getElem?_eq_getElem hlt⟩
      have hd : l.drop i = x :: l.drop (i + 1) := by
        rw [List.drop_eq_getElem_cons hlt]
        rw [List.getElem?_eq_getElem hlt] at hx; cases hx; rfl
      obtain ⟨_, hvj⟩ := Asn.right hA
      obtain ⟨_, hrd⟩ := Asn.right hvj
      obtain ⟨ad, rfl, hc⟩ := hrd.2.1 i x hx
      refine cw_seq good (cw_block good ?_)
      refine cw_seq good (cw_region good ?_)
      refine wpO_val (aop_index rfl rfl rfl rfl rfl hlt) ?_
      refine wpO_val (aop_load rfl rfl rfl hc) ?_
      refine wpO_as (.int .i64 x) rfl ?_
      refine cw_seq good (cw_region good ?_)
      refine wpO_mv y rfl ?_
      refine wpO_mv (.int .i64 x) rfl ?_
      rw [hd] at hf
      unfold foldY at hf
      cases hst : st ai x with
      | none => rw [hst] at hf; cases hf
      | some r =>
        obtain ⟨bb, a2⟩ := r
        rw [hst] at hf
        obtain ⟨A2, F2, hcall, hA2, hS2⟩ := Asn.frame (H.loc ai) (Owns.sep Owns.cel Owns.rd) (H.loc a2) hA (R := fun A2 => CallV Try.prog n₀ y #[.int .i64 x] A' (.bool bb) A2) (fun F1 h1 => H.run h1 hst)
        simp only [Act.put, List.setIfInBounds_toArray, List.set_cons_succ, List.set_cons_zero]
        refine wpO_callv (y := y) (l := [.int .i64 x]) hcall rfl rfl ?_
        refine wpO_val (aop_not (b := bb) rfl rfl) ?_
        cases bb with
        | false =>
          cases hf
          refine cw_cond good true rfl (cw_ret good ?_)
          exact ret_none ⟨rfl, F2, Asn.comm hA2, hS.trans hS2⟩
        | true =>
          refine cw_cond good false rfl (cw_skip good ?_)
          refine cw_region good ?_
          refine wpO_val (aop_int (k := .i64) (m := i) (n := 1) (v := .int .i64 (i + 1 : Nat)) rfl rfl rfl (intV_add (by omega) (by omega) (by omega))) ?_
          refine wpO_mv (.int .i64 (i + 1 : Nat)) rfl ?_
          exact ⟨l.length - (i + 1), by omega, i + 1, a2, F2, rfl, by omega, hf, hA2, hS.trans hS2, _, _, _, _, _, _, _, _, _, _, _, rfl⟩
    · refine cw_seq good (cw_cond good false (congrArg Value.bool (by simpa using hlt)) (cw_exit good ?_))
      have : l.drop i = [] := List.drop_eq_nil_of_le (by omega)
      rw [this] at hf; cases hf
      exact ret_none ⟨rfl, F', Asn.comm hA, hS⟩
  obtain ⟨v, A1, h1, rfl, F', h2, h3⟩ := this
  exact ⟨A1, F', ⟨49, _, _, _, _, ⟨rfl, rfl, rfl⟩, rfl, h1⟩, h2, h3⟩

def listY (c : Nat) : Value := .func (.func 38) #[] #[.pointer (some ⟨c, 0, none⟩)]
theorem ints_push {acc : List Int} {x : Int} : (ints acc).push (.int .i64 x) = ints (acc ++ [x]) := by simp [ints]
theorem list_spec {c : Nat} : Ypec Try.prog n₀ (listY c) (lst 3 c) stL := by
  refine ⟨rfl, fun _ => Owns.lst, fun {acc F A x b s'} h hst => ?_⟩
  have hlen : acc.length < 16777216 ∧ b = true ∧ s' = acc ++ [x] := by
    unfold stL at hst
    split at hst
    · rename_i h; cases hst; exact ⟨h, rfl, rfl⟩
    · cases hst
  obtain ⟨hlen, rfl, rfl⟩ := hlen
  have : wpF Try.prog n₀ 38 #[.int .i64 x, .pointer (some ⟨c, 0, none⟩)] (fun v A' => v = .bool true ∧ ∃ F', lst 3 c (acc ++ [x]) F' A' ∧ Step F A F' A') A := by
    refine wpF_fn (ts := #[.int .i64 x, .pointer (some ⟨c, 0, none⟩), undef, undef, undef, undef, undef, undef]) good ⟨rfl, rfl, rfl⟩ rfl ?_
    refine cw_seq good (cw_region good ?_)
    refine wpO_as (.bool false) rfl ?_
    refine cw_seq good (cw_region good ?_)
    rcases h with ⟨rfl, h⟩ | ⟨hne, d, h⟩
    · have he := Asn.emp h
      obtain ⟨F1, h1, S1⟩ := Asn.newO (Owns.sep Owns.cel Owns.nil) he (.cells #[.int .i64 x] 3 (0, 0))
      obtain ⟨F2, h2, S2⟩ := Asn.newO (Owns.sep Owns.blk (Owns.sep Owns.cel Owns.nil)) h1 (.cells (ints [x]) 3 (1, 0))
      have h3 := Asn.swap (Asn.map' h2 fun _ => Asn.swap)
      obtain ⟨h4, S4⟩ := Asn.put (Owns.sep Owns.blk (Owns.sep Owns.blk Owns.nil)) h3 (.slice (some ⟨(A.alloc (.cells #[.int .i64 x] 3 (0, 0))).heap.size, 0, none⟩) 1 1)
      refine wpO_val (aop_load rfl rfl rfl (Asn.get he)) ?_
      refine wpO_mv (.int .i64 x) rfl ?_
      refine wpO_val (aop_slice1 rfl rfl rfl rfl rfl rfl rfl rfl) ?_
      refine wpO_val (aop_append1 (b := none) (k := 0) (cs := #[]) rfl rfl rfl rfl rfl rfl rfl rfl rfl (by decide) rfl (Asn.at h1) rfl (by decide) (.inl ⟨rfl, rfl, rfl, rfl⟩)) ?_
      simp only [Act.put, List.setIfInBounds_toArray, List.set_cons_succ, List.set_cons_zero]
      refine wpO_unit (aop_store (v := .slice (some ⟨(A.alloc (.cells #[.int .i64 x] 3 (0, 0))).heap.size, 0, none⟩) 1 1) rfl rfl rfl rfl rfl (Asn.get h3) (Asn.soft h3)) ?_
      refine cw_seq good (cw_region good ?_)
      refine wpO_as (.bool true) rfl ?_
      refine cw_ret good ?_
      obtain ⟨F5, h5, S5⟩ := Asn.take (Asn.assoc' h4)
      exact ret_one (.bool true) rfl ⟨rfl, F5, .inr ⟨by simp, _, h5⟩, S1.trans (S2.trans (S4.trans S5))⟩
    · have hlen0 : 0 < acc.length := List.length_pos_iff.2 hne
      have he := Asn.emp h
      obtain ⟨F1, h1, S1⟩ := Asn.newO (Owns.sep (Owns.sep Owns.cel Owns.blk) Owns.nil) he (.cells #[.int .i64 x] 3 (0, 0))
      have hb : ((blk d (.cells (ints acc) 3 (1, 0))).sep ((blk A.heap.size (.cells #[.int .i64 x] 3 (0, 0))).sep ((cel c (.slice (some ⟨d, 0, none⟩) acc.length acc.length)).sep Asn.nil))) F1 (A.alloc (.cells #[.int .i64 x] 3 (0, 0))) :=
        Asn.swap (Asn.map' h1 fun _ h => Asn.swap (Asn.assoc h))
      obtain ⟨hk, Sk⟩ := Asn.killed (e := 3) (Owns.sep Owns.blk (Owns.sep Owns.cel Owns.nil)) hb
      obtain ⟨F2, h2, S2⟩ := Asn.newO (Owns.sep Owns.blk (Owns.sep Owns.blk (Owns.sep Owns.cel Owns.nil))) hk (.cells (ints (acc ++ [x])) 3 (1, 0))
      have hsz : (kill (A.alloc (.cells #[.int .i64 x] 3 (0, 0))) d 3).heap.size = (A.alloc (.cells #[.int .i64 x] 3 (0, 0))).heap.size := kill_size _ _
      have h3 := Asn.swap (Asn.map' h2 fun _ h => Asn.swap (Asn.map' h fun _ h => Asn.swap h))
      obtain ⟨h4, S4⟩ := Asn.put (Owns.sep Owns.blk (Owns.sep Owns.blk (Owns.sep Owns.blk Owns.nil))) h3 (.slice (some ⟨(A.alloc (.cells #[.int .i64 x] 3 (0, 0))).heap.size, 0, none⟩) (acc.length + 1) (acc.length + 1))
      refine wpO_val (aop_load rfl rfl rfl (Asn.get (Asn.assoc he))) ?_
      refine wpO_mv (.int .i64 x) rfl ?_
      refine wpO_val (aop_slice1 rfl rfl rfl rfl rfl rfl rfl rfl) ?_
      refine wpO_val (aop_append1 (b := some ⟨d, 0, none⟩) (k := acc.length) (cs := ints acc) rfl rfl rfl rfl rfl rfl rfl rfl rfl (by decide) rfl (Asn.at h1) rfl (by omega) (.inr ⟨d, rfl, hlen0, by simp [ints], Asn.at hb, rfl⟩)) ?_
      rw [ints_push]
      simp only [Act.put, List.setIfInBounds_toArray, List.set_cons_succ, List.set_cons_zero]
      refine wpO_unit (aop_store (v := .slice (some ⟨(A.alloc (.cells #[.int .i64 x] 3 (0, 0))).heap.size, 0, none⟩) (acc.length + 1) (acc.length + 1)) rfl rfl rfl rfl rfl (Asn.get h3) (Asn.soft h3)) ?_
      refine cw_seq good (cw_region good ?_)
      refine wpO_as (.bool true) rfl ?_
      refine cw_ret good ?_
      obtain ⟨F5, h5, S5⟩ := Asn.take (Asn.assoc' h4)
      refine ret_one (.bool true) rfl ⟨rfl, F5, .inr ⟨by simp, (A.alloc (.cells #[.int .i64 x] 3 (0, 0))).heap.size, ?_⟩, S1.trans (Sk.trans (S2.trans (S4.trans S5)))⟩
      rw [List.length_append, List.length_singleton]
      rw [hsz] at h5
      exact h5
  obtain ⟨v, A1, h1, rfl, F', h2, h3⟩ := this
  exact ⟨A1, F', ⟨38, _, _, _, _, ⟨rfl, rfl, rfl⟩, rfl, h1⟩, h2, h3⟩

/-- What comes, as a list. -/
theorem list_call {β : Type} {s : Value} {J : β → Asn} {run : ∀ α : Type, (α → Int → Option (Bool × α)) → β → α → Option (β × α)} (H : Hands Try.prog n₀ s J run) {b0 b1 : β} {acc : List Int} {F : Foot} {A : World} (h : J b0 F A) (hr : run (List Int) stL b0 [] = some (b1, acc)) :
    ∃ v A' F', SndCall Try.prog n₀ 13 #[s] A v A' ∧ ((J b1).sep (lstV 3 v acc)) F' A' ∧ Step F A F' A' := by
  have : wpF Try.prog n₀ 13 #[s] (fun v A' => ∃ F', ((J b1).sep (lstV 3 v acc)) F' A' ∧ Step F A F' A') A := by
    refine wpF_fn (ts := #[s, undef, undef, undef, undef, undef, undef, undef]) good ⟨rfl, rfl, rfl⟩ rfl ?_
    refine cw_seq good (cw_region good ?_)
    refine wpO_as (.slice none 0 0) rfl ?_
    refine cw_seq good (cw_region good ?_)
    refine wpO_val (aop_alloc rfl rfl rfl rfl) ?_
    obtain ⟨F1, h1, S1⟩ := Asn.new (H.loc b0) h (.slice none 0 0) 22
    have h1' : ((J b0).sep (lst 3 A.heap.size [])) F1 (A.alloc (.cells #[.slice none 0 0] 22 (0, 0))) := Asn.comm (Asn.map h1 fun _ h => .inl ⟨rfl, h⟩)
    obtain ⟨A2, F2, hc, h2, S2⟩ := H.run (list_spec (n₀ := n₀) (c := A.heap.size)) h1' hr
    refine cw_seq good (cw_region good ?_)
    refine wpO_mv s rfl ?_
    refine wpO_val (aop_func (l := []) (l' := [.pointer (some ⟨A.heap.size, 0, none⟩)]) rfl rfl rfl) ?_
    simp only [Act.put, List.setIfInBounds_toArray, List.set_cons_succ, List.set_cons_zero]
    refine wpO_call (f := 35) (first := #[]) (cap := #[]) (l := [s, listY A.heap.size]) (xs := #[s, listY A.heap.size]) ⟨rfl, rfl, rfl⟩ rfl rfl rfl ⟨undef, A2, each_some hc, ?_⟩
    refine cw_seq good (cw_region good ?_)
    obtain ⟨v, hv, F3, h3, S3⟩ := lst_out h2
    refine wpO_val (aop_load rfl rfl rfl hv) ?_
    refine wpO_as v rfl ?_
    refine cw_ret good ?_
    exact ret_one v rfl ⟨F3, h3, S1.trans (S2.trans S3)⟩
  obtain ⟨v, A1, h1, F', h2, h3⟩ := this
  exact ⟨v, A1, F', h1, h2, h3⟩
end Go.Proofs.Ytipomlcnmaldkaa
