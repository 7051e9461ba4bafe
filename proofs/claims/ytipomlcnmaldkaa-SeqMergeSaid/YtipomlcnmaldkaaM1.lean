/-
  each, slices.Values and seq.List, at the widest level: whatever hands numbers on, and whatever takes them. No condition.
-/
import Derived.Test.YtipomlcnmaldkaaBase
import Derived.Test.YtipomlcnmaldkaaB4
import Derived.Test.YtipomlcnmaldkaaB5
namespace Go.Proofs.Ytipomlcnmaldkaa
open Go.Abs
variable {n₀ : Nat}
set_option maxRecDepth 4000

/-- each, of what is there. -/
theorem each_some {s y v : Value} {A A' : World} (h : CallV Try.prog n₀ s #[y] A v A') : SndCall Try.prog n₀ 35 #[s, y] A undef A' := by
  have : wpF Try.prog n₀ 35 #[s, y] (fun v A1 => v = undef ∧ A1 = A') A := by
    refine wpF_fn (ts := #[s, y, undef, undef, undef, undef, undef, undef, undef]) good ⟨rfl, rfl, rfl⟩ rfl ?_
    refine cw_seq good (cw_region good ?_)
    refine wpO_mv s rfl ?_
    obtain ⟨f, fn, code, first, cap, h1, rfl, h2⟩ := h
    refine wpO_val (aop_neNil (v := .func (.func f) first cap) (w := .nilFunc) (b := false) rfl rfl rfl rfl rfl) ?_
    refine cw_cond good true rfl ?_
    refine cw_region good ?_
    refine wpO_mv (.func (.func f) first cap) rfl ?_
    refine wpO_mv y rfl ?_
    refine wpO_callv (y := .func (.func f) first cap) (l := [y]) ⟨f, fn, code, first, cap, h1, rfl, h2⟩ rfl rfl ?_
    exact ret_none ⟨rfl, rfl⟩
  obtain ⟨v, A1, h1, rfl, rfl⟩ := this
  exact h1

def valsV (b : Nat) : Value := .func (.func 49) #[] #[.pointer (some ⟨b, 0, none⟩)]
def valsJ (b : Nat) (p : Option Addr) (cap : Nat) (l : List Int) : Unit → Asn := fun _ => (cel b (.slice p l.length cap)).sep (rd p l)
theorem vals_spec {b : Nat} {p : Option Addr} {cap : Nat} {l : List Int} (hl : l.length < 2 ^ 62) : Hands Try.prog n₀ (valsV b) (valsJ b p cap l) (fun _ st _ a => (foldY st l a).map fun a' => ((), a')) := by
  refine ⟨fun _ => Owns.sep Owns.cel Owns.rd, fun {α y I st} H {b0 a0 b1 a1 F A} h hr => ?_⟩
  have hr' : foldY st l a0 = some a1 := by
    cases hf : foldY st l a0 with
    | none => rw [hf] at hr; cases hr
    | some a' => rw [hf] at hr; cases hr; rfl
  have hJ : Owns ((rd p l).sep (I a0)) := Owns.sep Owns.rd (H.loc _)
  have h' := Asn.assoc h
  have : wpF Try.prog n₀ 49 #[y, .pointer (some ⟨b, 0, none⟩)] (fun v A' => v = undef ∧ ∃ F', ((valsJ b p cap l ()).sep (I a1)) F' A' ∧ Step F A F' A') A := by
    refine wpF_fn (ts := #[y, .pointer (some ⟨b, 0, none⟩), undef, undef, undef, undef, undef, undef, undef, undef, undef, undef, undef, undef, undef, undef]) good ⟨rfl, rfl, rfl⟩ rfl ?_
    refine cw_seq good (cw_region good ?_)
    refine wpO_val (aop_load rfl rfl rfl (Asn.get h')) ?_
    refine wpO_val (aop_len rfl rfl rfl rfl rfl) ?_
    refine wpO_mv (.int .i64 0) rfl ?_
    refine cw_block good (cw_loop good ?_)
    refine wpL_ind (fun n a A' => ∃ i ai F', n = l.length - i ∧ i ≤ l.length ∧ foldY st (l.drop i) ai = some a1 ∧ ((I ai).sep (valsJ b p cap l ())) F' A' ∧ Step F A F' A' ∧
      ∃ w2 w3 w4 w8 w9 w10 w11 w12 w13 w14 w15, a = ⟨#[y, .pointer (some ⟨b, 0, none⟩), w2, w3, w4, .slice p l.length cap, .int .i64 l.length, .int .i64 i, w8, w9, w10, w11, w12, w13, w14, w15], []⟩) ?_ (l.length) _ _
      ⟨0, a0, F, by simp, by simp, hr', Asn.comm h, .refl, _, _, _, _, _, _, _, _, _, _, _, rfl⟩
    rintro n _ A' ⟨i, ai, F', rfl, hi, hf, hA, hS, w2, w3, w4, w8, w9, w10, w11, w12, w13, w14, w15, rfl⟩
    refine cw_seq good (cw_region good ?_)
    refine wpO_val (aop_int rfl (k := .i64) (m := i) (n := l.length) rfl rfl rfl) ?_
    by_cases hlt : i < l.length
    · refine cw_seq good (cw_cond good true (congrArg Value.bool (by simpa using hlt)) (cw_skip good ?_))
      obtain ⟨x, hx⟩ : ∃ x, l[i]? = some x := ⟨_, List.getElem?_eq_getElem hlt⟩
      have hd : l.drop i = x :: l.drop (i + 1) := by
        rw [List.drop_eq_getElem_cons hlt]
        rw [List.getElem?_eq_getElem hlt] at hx; cases hx; rfl
      obtain ⟨_, hvj⟩ := Asn.right hA
      obtain ⟨_, hrd⟩ := Asn.right hvj
      obtain ⟨ad, rfl, hc⟩ := hrd.2.1 i x hx
      refine cw_seq good (cw_block good ?_)
      refine cw_seq good (cw_region good ?_)
      refine wpO_val (aop_index rfl rfl rfl rfl rfl hlt) ?_
      refine wpO_val (aop_load rfl rfl rfl hc) ?_
      refine wpO_as (.int .i64 x) rfl ?_
      refine cw_seq good (cw_region good ?_)
      refine wpO_mv y rfl ?_
      refine wpO_mv (.int .i64 x) rfl ?_
      rw [hd] at hf
      unfold foldY at hf
      cases hst : st ai x with
      | none => rw [hst] at hf; cases hf
      | some r =>
        obtain ⟨bb, a2⟩ := r
        rw [hst] at hf
        obtain ⟨A2, F2, hcall, hA2, hS2⟩ := Asn.frame (H.loc ai) (Owns.sep Owns.cel Owns.rd) (H.loc a2) hA (R := fun A2 => CallV Try.prog n₀ y #[.int .i64 x] A' (.bool bb) A2) (fun F1 h1 => H.run h1 hst)
        simp only [Act.put, List.setIfInBounds_toArray, List.set_cons_succ, List.set_cons_zero]
        refine wpO_callv (y := y) (l := [.int .i64 x]) hcall rfl rfl ?_
        refine wpO_val (aop_not (b := bb) rfl rfl) ?_
        cases bb with
        | false =>
          cases hf
          refine cw_cond good true rfl (cw_ret good ?_)
          exact ret_none ⟨rfl, F2, Asn.comm hA2, hS.trans hS2⟩
        | true =>
          refine cw_cond good false rfl (cw_skip good ?_)
          refine cw_region good ?_
          refine wpO_val (aop_int (k := .i64) (m := i) (n := 1) (v := .int .i64 (i + 1 : Nat)) rfl rfl rfl (intV_add (by omega) (by omega) (by omega))) ?_
          refine wpO_mv (.int .i64 (i + 1 : Nat)) rfl ?_
          exact ⟨l.length - (i + 1), by omega, i + 1, a2, F2, rfl, by omega, hf, hA2, hS.trans hS2, _, _, _, _, _, _, _, _, _, _, _, rfl⟩
    · refine cw_seq good (cw_cond good false (congrArg Value.bool (by simpa using hlt)) (cw_exit good ?_))
      have : l.drop i = [] := List.drop_eq_nil_of_le (by omega)
      rw [this] at hf; cases hf
      exact ret_none ⟨rfl, F', Asn.comm hA, hS⟩
  obtain ⟨v, A1, h1, rfl, F', h2, h3⟩ := this
  exact ⟨A1, F', ⟨49, _, _, _, _, ⟨rfl, rfl, rfl⟩, rfl, h1⟩, h2, h3⟩

def listY (c : Nat) : Value := .func (.func 38) #[] #[.pointer (some ⟨c, 0, none⟩)]
theorem ints_push {acc : List Int} {x : Int} : (ints acc).push (.int .i64 x) = ints (acc ++ [x]) := by simp [ints]
theorem list_spec {c : Nat} : Ypec Try.prog n₀ (listY c) (lst 3 c) stL := by
  refine ⟨rfl, fun _ => Owns.lst, fun {acc F A x b s'} h hst => ?_⟩
  have hlen : acc.length < 16777216 ∧ b = true ∧ s' = acc ++ [x] := by
    unfold stL at hst
    split at hst
    · rename_i h; cases hst; exact ⟨h, rfl, rfl⟩
    · cases hst
  obtain ⟨hlen, rfl, rfl⟩ := hlen
  have : wpF Try.prog n₀ 38 #[.int .i64 x, .pointer (some ⟨c, 0, none⟩)] (fun v A' => v = .bool true ∧ ∃ F', lst 3 c (acc ++ [x]) F' A' ∧ Step F A F' A') A := by
    refine wpF_fn (ts := #[.int .i64 x, .pointer (some ⟨c, 0, none⟩), undef, undef, undef, undef, undef, undef]) good ⟨rfl, rfl, rfl⟩ rfl ?_
    refine cw_seq good (cw_region good ?_)
    refine wpO_as (.bool false) rfl ?_
    refine cw_seq good (cw_region good ?_)
    rcases h with ⟨rfl, h⟩ | ⟨hne, d, h⟩
    · have he := Asn.emp h
      obtain ⟨F1, h1, S1⟩ := Asn.newO (Owns.sep Owns.cel Owns.nil) he (.cells #[.int .i64 x] 3 (0, 0))
      obtain ⟨F2, h2, S2⟩ := Asn.newO (Owns.sep Owns.blk (Owns.sep Owns.cel Owns.nil)) h1 (.cells (ints [x]) 3 (1, 0))
      have h3 := Asn.swap (Asn.map' h2 fun _ => Asn.swap)
      obtain ⟨h4, S4⟩ := Asn.put (Owns.sep Owns.blk (Owns.sep Owns.blk Owns.nil)) h3 (.slice (some ⟨(A.alloc (.cells #[.int .i64 x] 3 (0, 0))).heap.size, 0, none⟩) 1 1)
      refine wpO_val (aop_load rfl rfl rfl (Asn.get he)) ?_
      refine wpO_mv (.int .i64 x) rfl ?_
      refine wpO_val (aop_slice1 rfl rfl rfl rfl rfl rfl rfl rfl) ?_
      refine wpO_val (aop_append1 (b := none) (k := 0) (cs := #[]) rfl rfl rfl rfl rfl rfl rfl rfl rfl (by decide) rfl (Asn.at h1) rfl (by decide) (.inl ⟨rfl, rfl, rfl, rfl⟩)) ?_
      simp only [Act.put, List.setIfInBounds_toArray, List.set_cons_succ, List.set_cons_zero]
      refine wpO_unit (aop_store (v := .slice (some ⟨(A.alloc (.cells #[.int .i64 x] 3 (0, 0))).heap.size, 0, none⟩) 1 1) rfl rfl rfl rfl rfl (Asn.get h3) (Asn.soft h3)) ?_
      refine cw_seq good (cw_region good ?_)
      refine wpO_as (.bool true) rfl ?_
      refine cw_ret good ?_
      obtain ⟨F5, h5, S5⟩ := Asn.take (Asn.assoc' h4)
      exact ret_one (.bool true) rfl ⟨rfl, F5, .inr ⟨by simp, _, h5⟩, S1.trans (S2.trans (S4.trans S5))⟩
    · have hlen0 : 0 < acc.length := List.length_pos_iff.2 hne
      have he := Asn.emp h
      obtain ⟨F1, h1, S1⟩ := Asn.newO (Owns.sep (Owns.sep Owns.cel Owns.blk) Owns.nil) he (.cells #[.int .i64 x] 3 (0, 0))
      have hb : ((blk d (.cells (ints acc) 3 (1, 0))).sep ((blk A.heap.size (.cells #[.int .i64 x] 3 (0, 0))).sep ((cel c (.slice (some ⟨d, 0, none⟩) acc.length acc.length)).sep Asn.nil))) F1 (A.alloc (.cells #[.int .i64 x] 3 (0, 0))) :=
        Asn.swap (Asn.map' h1 fun _ h => Asn.swap (Asn.assoc h))
      obtain ⟨hk, Sk⟩ := Asn.killed (e := 3) (Owns.sep Owns.blk (Owns.sep Owns.cel Owns.nil)) hb
      obtain ⟨F2, h2, S2⟩ := Asn.newO (Owns.sep Owns.blk (Owns.sep Owns.blk (Owns.sep Owns.cel Owns.nil))) hk (.cells (ints (acc ++ [x])) 3 (1, 0))
      have hsz : (kill (A.alloc (.cells #[.int .i64 x] 3 (0, 0))) d 3).heap.size = (A.alloc (.cells #[.int .i64 x] 3 (0, 0))).heap.size := kill_size _ _
      have h3 := Asn.swap (Asn.map' h2 fun _ h => Asn.swap (Asn.map' h fun _ h => Asn.swap h))
      obtain ⟨h4, S4⟩ := Asn.put (Owns.sep Owns.blk (Owns.sep Owns.blk (Owns.sep Owns.blk Owns.nil))) h3 (.slice (some ⟨(A.alloc (.cells #[.int .i64 x] 3 (0, 0))).heap.size, 0, none⟩) (acc.length + 1) (acc.length + 1))
      refine wpO_val (aop_load rfl rfl rfl (Asn.get (Asn.assoc he))) ?_
      refine wpO_mv (.int .i64 x) rfl ?_
      refine wpO_val (aop_slice1 rfl rfl rfl rfl rfl rfl rfl rfl) ?_
      refine wpO_val (aop_append1 (b := some ⟨d, 0, none⟩) (k := acc.length) (cs := ints acc) rfl rfl rfl rfl rfl rfl rfl rfl rfl (by decide) rfl (Asn.at h1) rfl (by omega) (.inr ⟨d, rfl, hlen0, by simp [ints], Asn.at hb, rfl⟩)) ?_
      rw [ints_push]
      simp only [Act.put, List.setIfInBounds_toArray, List.set_cons_succ, List.set_cons_zero]
      refine wpO_unit (aop_store (v := .slice (some ⟨(A.alloc (.cells #[.int .i64 x] 3 (0, 0))).heap.size, 0, none⟩) (acc.length + 1) (acc.length + 1)) rfl rfl rfl rfl rfl (Asn.get h3) (Asn.soft h3)) ?_
      refine cw_seq good (cw_region good ?_)
      refine wpO_as (.bool true) rfl ?_
      refine cw_ret good ?_
      obtain ⟨F5, h5, S5⟩ := Asn.take (Asn.assoc' h4)
      refine ret_one (.bool true) rfl ⟨rfl, F5, .inr ⟨by simp, (A.alloc (.cells #[.int .i64 x] 3 (0, 0))).heap.size, ?_⟩, S1.trans (Sk.trans (S2.trans (S4.trans S5)))⟩
      rw [List.length_append, List.length_singleton]
      rw [hsz] at h5
      exact h5
  obtain ⟨v, A1, h1, rfl, F', h2, h3⟩ := this
  exact ⟨A1, F', ⟨38, _, _, _, _, ⟨rfl, rfl, rfl⟩, rfl, h1⟩, h2, h3⟩

/-- What comes, as a list. -/
theorem list_call {β : Type} {s : Value} {J : β → Asn} {run : ∀ α : Type, (α → Int → Option (Bool × α)) → β → α → Option (β × α)} (H : Hands Try.prog n₀ s J run) {b0 b1 : β} {acc : List Int} {F : Foot} {A : World} (h : J b0 F A) (hr : run (List Int) stL b0 [] = some (b1, acc)) :
    ∃ v A' F', SndCall Try.prog n₀ 13 #[s] A v A' ∧ ((J b1).sep (lstV 3 v acc)) F' A' ∧ Step F A F' A' := by
  have : wpF Try.prog n₀ 13 #[s] (fun v A' => ∃ F', ((J b1).sep (lstV 3 v acc)) F' A' ∧ Step F A F' A') A := by
    refine wpF_fn (ts := #[s, undef, undef, undef, undef, undef, undef, undef]) good ⟨rfl, rfl, rfl⟩ rfl ?_
    refine cw_seq good (cw_region good ?_)
    refine wpO_as (.slice none 0 0) rfl ?_
    refine cw_seq good (cw_region good ?_)
    refine wpO_val (aop_alloc rfl rfl rfl rfl) ?_
    obtain ⟨F1, h1, S1⟩ := Asn.new (H.loc b0) h (.slice none 0 0) 22
    have h1' : ((J b0).sep (lst 3 A.heap.size [])) F1 (A.alloc (.cells #[.slice none 0 0] 22 (0, 0))) := Asn.comm (Asn.map h1 fun _ h => .inl ⟨rfl, h⟩)
    obtain ⟨A2, F2, hc, h2, S2⟩ := H.run (list_spec (n₀ := n₀) (c := A.heap.size)) h1' hr
    refine cw_seq good (cw_region good ?_)
    refine wpO_mv s rfl ?_
    refine wpO_val (aop_func (l := []) (l' := [.pointer (some ⟨A.heap.size, 0, none⟩)]) rfl rfl rfl) ?_
    simp only [Act.put, List.setIfInBounds_toArray, List.set_cons_succ, List.set_cons_zero]
    refine wpO_call (f := 35) (first := #[]) (cap := #[]) (l := [s, listY A.heap.size]) (xs := #[s, listY A.heap.size]) ⟨rfl, rfl, rfl⟩ rfl rfl rfl ⟨undef, A2, each_some hc, ?_⟩
    refine cw_seq good (cw_region good ?_)
    obtain ⟨v, hv, F3, h3, S3⟩ := lst_out h2
    refine wpO_val (aop_load rfl rfl rfl hv) ?_
    refine wpO_as v rfl ?_
    refine cw_ret good ?_
    exact ret_one v rfl ⟨F3, h3, S1.trans (S2.trans S3)⟩
  obtain ⟨v, A1, h1, F', h2, h3⟩ := this
  exact ⟨v, A1, F', h1, h2, h3⟩
end Go.Proofs.Ytipomlcnmaldkaa
/-
  seq.Map: what comes of it is what comes, each turned. No condition.
-/
namespace Go.Proofs.Ytipomlcnmaldkaa
open Go.Abs
variable {n₀ : Nat}
set_option maxRecDepth 4000
def mapV (bs bf : Nat) : Value := .func (.func 34) #[] #[.pointer (some ⟨bs, 0, none⟩), .pointer (some ⟨bf, 0, none⟩)]
def mapY (yb bf : Nat) : Value := .func (.func 36) #[] #[.pointer (some ⟨yb, 0, none⟩), .pointer (some ⟨bf, 0, none⟩)]
def mapSt {φ α : Type} (fn : φ → Int → Option (Int × φ)) (st : α → Int → Option (Bool × α)) : φ × α → Int → Option (Bool × (φ × α)) :=
  fun s x => (fn s.1 x).bind fun v => (st s.2 v.1).map fun b => (b.1, (v.2, b.2))
def mapRun {φ β : Type} (fn : φ → Int → Option (Int × φ)) (run : ∀ α : Type, (α → Int → Option (Bool × α)) → β → α → Option (β × α)) : ∀ α : Type, (α → Int → Option (Bool × α)) → φ × β → α → Option ((φ × β) × α) :=
  fun α st s a => (run (φ × α) (mapSt fn st) s.2 (s.1, a)).map fun r => ((r.2.1, r.1), r.2.2)
def mapI {φ α : Type} (yb bf : Nat) (y f : Value) (K : φ → Asn) (I : α → Asn) : φ × α → Asn := fun s => (K s.1).sep ((I s.2).sep ((cel yb y).sep (cel bf f)))
theorem mapY_spec {φ α : Type} {yb bf : Nat} {y f : Value} {K : φ → Asn} {fn : φ → Int → Option (Int × φ)} {I : α → Asn} {st : α → Int → Option (Bool × α)} (Hf : Fpec Try.prog n₀ f K fn) (Hy : Ypec Try.prog n₀ y I st) :
    Ypec Try.prog n₀ (mapY yb bf) (mapI yb bf y f K I) (mapSt fn st) := by
  refine ⟨rfl, fun s => Owns.sep (Hf.loc _) (Owns.sep (Hy.loc _) (Owns.sep Owns.cel Owns.cel)), fun {s F A x b s'} h hst => ?_⟩
  obtain ⟨p, a⟩ := s
  unfold mapSt at hst
  cases hfn : fn p x with
  | none => rw [hfn] at hst; cases hst
  | some v =>
    obtain ⟨v, p'⟩ := v
    rw [hfn] at hst
    cases hs : st a v with
    | none => simp [hs] at hst
    | some r =>
      obtain ⟨bb, a'⟩ := r
      simp [hs] at hst
      obtain ⟨rfl, rfl⟩ := hst
      have hO := Owns.sep (Owns.cel (b := yb) (v := y)) (Owns.cel (b := bf) (v := f))
      obtain ⟨A1, F1, c1, h1, S1⟩ := Asn.frame (Hf.loc p) (Owns.sep (Hy.loc a) hO) (Hf.loc p') h (R := fun A1 => CallV Try.prog n₀ f #[.int .i64 x] A (.int .i64 v) A1) (fun F1 h1 => Hf.run h1 hfn)
      obtain ⟨A2, F2, c2, h2, S2⟩ := Asn.frame (Hy.loc a) (Owns.sep (Hf.loc p') hO) (Hy.loc a') (Asn.swap h1) (R := fun A2 => CallV Try.prog n₀ y #[.int .i64 v] A1 (.bool bb) A2) (fun F1 h1 => Hy.run h1 hs)
      have gy : A.cell? ⟨yb, 0, none⟩ = some y := let ⟨_, q⟩ := Asn.right h; let ⟨_, q⟩ := Asn.right q; Asn.get q
      have gf : A.cell? ⟨bf, 0, none⟩ = some f := let ⟨_, q⟩ := Asn.right h; let ⟨_, q⟩ := Asn.right q; Asn.get (Asn.comm q)
      have gy1 : A1.cell? ⟨yb, 0, none⟩ = some y := let ⟨_, q⟩ := Asn.right h1; let ⟨_, q⟩ := Asn.right q; Asn.get q
      have : wpF Try.prog n₀ 36 #[.int .i64 x, .pointer (some ⟨yb, 0, none⟩), .pointer (some ⟨bf, 0, none⟩)] (fun v A' => v = .bool bb ∧ A' = A2) A := by
        refine wpF_fn (ts := #[.int .i64 x, .pointer (some ⟨yb, 0, none⟩), .pointer (some ⟨bf, 0, none⟩), undef, undef, undef, undef, undef, undef, undef]) good ⟨rfl, rfl, rfl⟩ rfl ?_
        refine cw_seq good (cw_region good ?_)
        refine wpO_as (.bool false) rfl ?_
        simp only [Act.put, List.setIfInBounds_toArray, List.set_cons_succ, List.set_cons_zero]
        refine cw_seq good (cw_draw good [y, f, .int .i64 x, .int .i64 v, .bool bb, .bool bb] [A, A, A, A, A1, A2, A2] (by kernel_rfl) rfl ?_ ⟨#[.int .i64 x, .pointer (some ⟨yb, 0, none⟩), .pointer (some ⟨bf, 0, none⟩), undef, .bool bb, y, f, .int .i64 x, .int .i64 v, .bool bb], []⟩ A2 (by kernel_rfl) rfl ?_)
        · intro i o ho
          match i, ho with
          | 0, ho => cases ho; exact step_quiet rfl [3, 4] (all2 (aop_load rfl rfl rfl gy) (aop_load rfl rfl rfl gy1)) rfl
          | 1, ho => cases ho; exact step_quiet rfl [3] (all1 (aop_load rfl rfl rfl gf)) rfl
          | 2, ho => cases ho; exact step_quiet rfl [3] (all1 (aop_mv rfl rfl)) rfl
          | 3, ho => cases ho; exact step_acts rfl (runOp_callv (y := f) (l := [.int .i64 x]) c1 rfl rfl)
          | 4, ho => cases ho; exact step_acts rfl (runOp_callv (y := y) (l := [.int .i64 v]) c2 rfl rfl)
          | 5, ho => cases ho; exact step_quiet rfl [6] (all1 (aop_as rfl rfl)) rfl
          | n + 6, ho => simp at ho
        · refine cw_ret good ?_
          exact ret_one (.bool bb) rfl ⟨rfl, rfl⟩
      obtain ⟨v, A3, h3, rfl, rfl⟩ := this
      exact ⟨A3, F2, ⟨36, _, _, _, _, ⟨rfl, rfl, rfl⟩, rfl, h3⟩, Asn.swap h2, S1.trans S2⟩

def mapJ {φ β : Type} (bs bf : Nat) (s f : Value) (K : φ → Asn) (J : β → Asn) : φ × β → Asn := fun p => (J p.2).sep ((K p.1).sep ((cel bs s).sep (cel bf f)))
theorem map_spec {φ β : Type} {bs bf : Nat} {s f : Value} {K : φ → Asn} {fn : φ → Int → Option (Int × φ)} {J : β → Asn} {run : ∀ α : Type, (α → Int → Option (Bool × α)) → β → α → Option (β × α)} (Hf : Fpec Try.prog n₀ f K fn) (Hs : Hands Try.prog n₀ s J run) :
    Hands Try.prog n₀ (mapV bs bf) (mapJ bs bf s f K J) (mapRun fn run) := by
  have hO : ∀ p : φ × β, Owns (mapJ bs bf s f K J p) := fun p => Owns.sep (Hs.loc _) (Owns.sep (Hf.loc _) (Owns.sep Owns.cel Owns.cel))
  refine ⟨hO, fun {α y I st} H {b0 a0 b1 a1 F A} h hr => ?_⟩
  obtain ⟨p0, q0⟩ := b0
  obtain ⟨p1, q1⟩ := b1
  have hr' : run (φ × α) (mapSt fn st) q0 (p0, a0) = some (q1, (p1, a1)) := by
    unfold mapRun at hr
    cases hx : run (φ × α) (mapSt fn st) q0 (p0, a0) with
    | none => simp [hx] at hr
    | some r => obtain ⟨q, p, a⟩ := r; simp [hx] at hr; obtain ⟨⟨rfl, rfl⟩, rfl⟩ := hr; rfl
  have hl : Asn.all [J q0, K p0, cel bs s, cel bf f, I a0] F A := Asn.cat (l := [J q0, K p0, cel bs s, cel bf f]) (l' := [I a0]) h
  obtain ⟨F1, h1, S1⟩ := Asn.new (Owns.sep (Hs.loc q0) (Owns.sep (Hf.loc p0) (Owns.sep Owns.cel (Owns.sep Owns.cel (H.loc a0))))) hl y 39
  have h2 : ((cel bs s).sep ((J q0).sep (mapI A.heap.size bf y f K I (p0, a0)))) F1 (A.alloc (.cells #[y] 39 (0, 0))) :=
    Asn.perm [cel A.heap.size y, J q0, K p0, cel bs s, cel bf f, I a0] [3, 1, 2, 5, 0, 4] h1 (by decide)
  have hM := mapY_spec (yb := A.heap.size) (bf := bf) Hf H
  obtain ⟨A2, F2, c2, h3, S2⟩ := Asn.frame (Owns.sep (Hs.loc q0) (hM.loc (p0, a0))) Owns.cel (Owns.sep (Hs.loc q1) (hM.loc (p1, a1))) (Asn.comm h2) (R := fun A2 => CallV Try.prog n₀ s #[mapY A.heap.size bf] (A.alloc (.cells #[y] 39 (0, 0))) undef A2) (fun F1 h => Hs.run hM h hr')
  have h4 : Asn.all [cel bs s, J q1, K p1, I a1, cel A.heap.size y, cel bf f] F2 A2 := Asn.comm h3
  have h5 := Asn.perm _ [4, 1, 2, 0, 5, 3] h4 (by decide)
  obtain ⟨F3, h6, S3⟩ := Asn.drop (I := cel A.heap.size y) h5
  have h7 : ((mapJ bs bf s f K J (p1, q1)).sep (I a1)) F3 A2 := Asn.assoc' (Asn.map' h6 fun _ h => Asn.assoc' (Asn.map' h fun _ h => Asn.assoc' h))
  have : wpF Try.prog n₀ 34 #[y, .pointer (some ⟨bs, 0, none⟩), .pointer (some ⟨bf, 0, none⟩)] (fun v A' => v = undef ∧ A' = A2) A := by
    refine wpF_fn (ts := #[y, .pointer (some ⟨bs, 0, none⟩), .pointer (some ⟨bf, 0, none⟩), undef, undef, undef, undef]) good ⟨rfl, rfl, rfl⟩ rfl ?_
    refine cw_seq good (cw_region good ?_)
    refine wpO_val (aop_box (v := y) rfl rfl H.one) ?_
    refine cw_region good ?_
    refine wpO_val (aop_load rfl rfl rfl (Asn.get h2)) ?_
    refine wpO_val (aop_func (l := []) (l' := [.pointer (some ⟨A.heap.size, 0, none⟩), .pointer (some ⟨bf, 0, none⟩)]) rfl rfl rfl) ?_
    simp only [Act.put, List.setIfInBounds_toArray, List.set_cons_succ, List.set_cons_zero]
    refine wpO_call (f := 35) (first := #[]) (cap := #[]) (l := [s, mapY A.heap.size bf]) (xs := #[s, mapY A.heap.size bf]) ⟨rfl, rfl, rfl⟩ rfl rfl rfl ⟨undef, A2, each_some c2, ?_⟩
    exact ret_none ⟨rfl, rfl⟩
  obtain ⟨v, A3, h8, rfl, rfl⟩ := this
  exact ⟨A3, F3, ⟨34, _, _, _, _, ⟨rfl, rfl, rfl⟩, rfl, h8⟩, h7, S1.trans (S2.trans S3)⟩
end Go.Proofs.Ytipomlcnmaldkaa
/-
  seq.Take: the first ones. No condition.
-/
namespace Go.Proofs.Ytipomlcnmaldkaa
open Go.Abs
variable {n₀ : Nat}
set_option maxRecDepth 4000
def ptr (b : Nat) : Value := .pointer (some ⟨b, 0, none⟩)
def takeV (bn bs : Nat) : Value := .func (.func 39) #[] #[ptr bn, ptr bs]
def takeY (lb yb : Nat) : Value := .func (.func 40) #[] #[ptr lb, ptr yb]
def takeSt {α : Type} (st : α → Int → Option (Bool × α)) : Nat × α → Int → Option (Bool × (Nat × α)) :=
  fun s x => if 0 < s.1 ∧ s.1 < 9223372036854775808 then (st s.2 x).map fun b => (b.1 && decide (1 < s.1), (s.1 - 1, b.2)) else none
def takeRun {β : Type} (n : Int) (run : ∀ α : Type, (α → Int → Option (Bool × α)) → β → α → Option (β × α)) : ∀ α : Type, (α → Int → Option (Bool × α)) → β → α → Option (β × α) :=
  fun α st s a => if n < 1 then some (s, a) else (run (Nat × α) (takeSt st) s (n.toNat, a)).map fun r => (r.1, r.2.2)
def takeI {α : Type} (lb yb : Nat) (y : Value) (I : α → Asn) : Nat × α → Asn := fun s => (cel lb (.int .i64 s.1)).sep ((cel yb y).sep (I s.2))
def takeJ {β : Type} (bn bs : Nat) (n : Int) (s : Value) (J : β → Asn) : β → Asn := fun p => (cel bn (.int .i64 n)).sep ((cel bs s).sep (J p))
theorem takeY_spec {α : Type} {lb yb : Nat} {y : Value} {I : α → Asn} {st : α → Int → Option (Bool × α)} (H : Ypec Try.prog n₀ y I st) : Ypec Try.prog n₀ (takeY lb yb) (takeI lb yb y I) (takeSt st) := by
  refine ⟨rfl, fun s => Owns.sep Owns.cel (Owns.sep Owns.cel (H.loc _)), fun {s F A x b s'} h hst => ?_⟩
  obtain ⟨m, a⟩ := s
  unfold takeSt at hst
  split at hst
  case isFalse => cases hst
  rename_i hm
  obtain ⟨hm, hm2⟩ := hm
  simp only at hm hm2 hst
  cases hs : st a x with
  | none => simp [hs] at hst
  | some r =>
    obtain ⟨bb, a'⟩ := r
    simp [hs] at hst
    obtain ⟨rfl, rfl⟩ := hst
    obtain ⟨h1, S1⟩ := Asn.put (Owns.sep Owns.cel (H.loc a)) h (.int .i64 (m - 1 : Nat))
    have h2 : Asn.all [I a, cel lb (.int .i64 (m - 1 : Nat)), cel yb y] F (A.setCell ⟨lb, 0, none⟩ (.int .i64 (m - 1 : Nat))) := Asn.perm [cel lb (.int .i64 (m - 1 : Nat)), cel yb y, I a] [2, 0, 1] h1 (by decide)
    obtain ⟨A2, F2, c2, h3, S2⟩ := Asn.frame (H.loc a) (Owns.sep Owns.cel Owns.cel) (H.loc a') h2 (R := fun A2 => CallV Try.prog n₀ y #[.int .i64 x] (A.setCell ⟨lb, 0, none⟩ (.int .i64 (m - 1 : Nat))) (.bool bb) A2) (fun F1 h1 => H.run h1 hs)
    have h4 : takeI lb yb y I (m - 1, a') F2 A2 := Asn.perm [I a', cel lb (.int .i64 (m - 1 : Nat)), cel yb y] [1, 2, 0] h3 (by decide)
    have : wpF Try.prog n₀ 40 #[.int .i64 x, ptr lb, ptr yb] (fun v A' => v = .bool (bb && decide (1 < m)) ∧ A' = A2) A := by
      refine wpF_fn (ts := #[.int .i64 x, ptr lb, ptr yb, undef, undef, undef, undef, undef, undef, undef, undef, undef, undef, undef]) good ⟨rfl, rfl, rfl⟩ rfl ?_
      refine cw_seq good (cw_region good ?_)
      refine wpO_as (.bool false) rfl ?_
      refine cw_seq good (cw_region good ?_)
      refine wpO_val (aop_load rfl rfl rfl (Asn.get h)) ?_
      refine wpO_val (aop_int (k := .i64) (m := m) (n := 1) (v := .int .i64 (m - 1 : Nat)) rfl rfl rfl (intV_sub (by omega) (by omega) (by omega))) ?_
      refine wpO_unit (aop_store (v := .int .i64 (m - 1 : Nat)) rfl rfl rfl rfl rfl (Asn.get h) (Asn.soft h)) ?_
      refine cw_seq good (cw_region good ?_)
      simp only [Act.put, List.setIfInBounds_toArray, List.set_cons_succ, List.set_cons_zero]
      refine wpO_val (aop_load rfl rfl rfl (Asn.get (Asn.swap h1))) ?_
      refine wpO_mv (.int .i64 x) rfl ?_
      refine wpO_callv (y := y) (l := [.int .i64 x]) c2 rfl rfl ?_
      refine wpO_mv (.bool bb) rfl ?_
      simp only [Act.put, List.setIfInBounds_toArray, List.set_cons_succ, List.set_cons_zero]
      cases bb with
      | false =>
        refine wpO_not ?_
        refine wpO_not ?_
        refine wpO_val (aop_pick (b := false) rfl rfl) ?_
        refine wpO_as (.bool false) rfl ?_
        exact cw_ret good (ret_one (.bool false) rfl ⟨rfl, rfl⟩)
      | true =>
        refine wpO_val (aop_load rfl rfl rfl (Asn.get h4)) ?_
        refine wpO_val (aop_int (k := .i64) (m := (m - 1 : Nat)) (n := 0) (v := .bool (decide (1 < m))) rfl rfl rfl (by simp only [intV]; congr 2; apply decide_eq_decide.2; omega)) ?_
        refine wpO_val (aop_pick (b := true) rfl rfl) ?_
        refine wpO_as (.bool (decide (1 < m))) rfl ?_
        exact cw_ret good (ret_one (.bool (decide (1 < m))) rfl ⟨by simp, rfl⟩)
    obtain ⟨v, A3, h5, rfl, rfl⟩ := this
    exact ⟨A3, F2, ⟨40, _, _, _, _, ⟨rfl, rfl, rfl⟩, rfl, h5⟩, h4, S1.trans S2⟩
theorem take_spec {β : Type} {bn bs : Nat} {n : Int} {s : Value} {J : β → Asn} {run : ∀ α : Type, (α → Int → Option (Bool × α)) → β → α → Option (β × α)} (Hs : Hands Try.prog n₀ s J run) (hn : n < 9223372036854775808) :
    Hands Try.prog n₀ (takeV bn bs) (takeJ bn bs n s J) (takeRun n run) := by
  refine ⟨fun _ => Owns.sep Owns.cel (Owns.sep Owns.cel (Hs.loc _)), fun {α y I st} H {b0 a0 b1 a1 F A} h hr => ?_⟩
  have hl : Asn.all [cel bn (.int .i64 n), cel bs s, J b0, I a0] F A := Asn.cat (l := [cel bn (.int .i64 n), cel bs s, J b0]) (l' := [I a0]) h
  have hO1 : Owns (Asn.all [cel bn (.int .i64 n), cel bs s, J b0, I a0]) := Owns.sep Owns.cel (Owns.sep Owns.cel (Owns.sep (Hs.loc _) (H.loc _)))
  obtain ⟨F1, h1, S1⟩ := Asn.new hO1 hl y 39
  have gn : (A.alloc (.cells #[y] 39 (0, 0))).cell? ⟨bn, 0, none⟩ = some (.int .i64 n) := Asn.get (Asn.swap h1)
  unfold takeRun at hr
  by_cases hlt : n < 1
  · rw [if_pos hlt] at hr
    cases hr
    obtain ⟨F2, h2, S2⟩ := Asn.drop h1
    have : wpF Try.prog n₀ 39 #[y, ptr bn, ptr bs] (fun v A' => v = undef ∧ A' = A.alloc (.cells #[y] 39 (0, 0))) A := by
      refine wpF_fn (ts := #[y, ptr bn, ptr bs, undef, undef, undef, undef, undef, undef, undef, undef]) good ⟨rfl, rfl, rfl⟩ rfl ?_
      refine cw_seq good (cw_region good ?_)
      refine wpO_val (aop_box (v := y) rfl rfl H.one) ?_
      refine cw_seq good (cw_seq good (cw_region good ?_))
      refine wpO_val (aop_load rfl rfl rfl gn) ?_
      refine wpO_val (aop_int (k := .i64) (m := n) (n := 1) rfl rfl rfl rfl) ?_
      refine cw_cond good true (congrArg Value.bool (by simpa using hlt)) (cw_ret good ?_)
      exact ret_none ⟨rfl, rfl⟩
    obtain ⟨v, A3, h5, rfl, rfl⟩ := this
    exact ⟨_, F2, ⟨39, _, _, _, _, ⟨rfl, rfl, rfl⟩, rfl, h5⟩, Asn.assoc' (Asn.map' h2 fun _ h => Asn.assoc' h), S1.trans S2⟩
  · rw [if_neg hlt] at hr
    have hr' : ∃ m1, run (Nat × α) (takeSt st) b0 (n.toNat, a0) = some (b1, (m1, a1)) := by
      cases hx : run (Nat × α) (takeSt st) b0 (n.toNat, a0) with
      | none => simp [hx] at hr
      | some r => obtain ⟨q, p, a⟩ := r; simp [hx] at hr; obtain ⟨rfl, rfl⟩ := hr; exact ⟨p, rfl⟩
    obtain ⟨m1, hr'⟩ := hr'
    obtain ⟨F2, h2, S2⟩ := Asn.new (Owns.sep Owns.cel hO1) h1 (.int .i64 0) 3
    obtain ⟨h3, S3⟩ := Asn.put (Owns.sep Owns.cel hO1) h2 (.int .i64 n)
    have e : ((n.toNat : Nat) : Int) = n := by omega
    have h4 : Asn.all [cel (A.alloc (.cells #[y] 39 (0, 0))).heap.size (.int .i64 (n.toNat : Nat)), cel A.heap.size y, cel bn (.int .i64 n), cel bs s, J b0, I a0] F2 (((A.alloc (.cells #[y] 39 (0, 0))).alloc (.cells #[.int .i64 0] 3 (0, 0))).setCell ⟨(A.alloc (.cells #[y] 39 (0, 0))).heap.size, 0, none⟩ (.int .i64 n)) := by rw [e]; exact h3
    have h5 := Asn.perm _ [4, 0, 1, 5, 2, 3] h4 (by decide)
    have hT := takeY_spec (lb := (A.alloc (.cells #[y] 39 (0, 0))).heap.size) (yb := A.heap.size) H
    have h6 : (((J b0).sep (takeI (A.alloc (.cells #[y] 39 (0, 0))).heap.size A.heap.size y I (n.toNat, a0))).sep ((cel bn (.int .i64 n)).sep (cel bs s))) F2 _ := Asn.assoc' (Asn.map' h5 fun _ h => Asn.assoc' (Asn.map' h fun _ h => Asn.assoc' h))
    obtain ⟨A2, F3, c2, h7, S4⟩ := Asn.frame (Owns.sep (Hs.loc b0) (hT.loc _)) (Owns.sep Owns.cel Owns.cel) (Owns.sep (Hs.loc b1) (hT.loc (m1, a1))) h6 (R := fun A2 => CallV Try.prog n₀ s #[takeY (A.alloc (.cells #[y] 39 (0, 0))).heap.size A.heap.size] _ undef A2) (fun F1 h => Hs.run hT h hr')
    have h8 : Asn.all [J b1, cel (A.alloc (.cells #[y] 39 (0, 0))).heap.size (.int .i64 m1), cel A.heap.size y, I a1, cel bn (.int .i64 n), cel bs s] F3 A2 := Asn.cat (l := [J b1, cel (A.alloc (.cells #[y] 39 (0, 0))).heap.size (.int .i64 m1), cel A.heap.size y, I a1]) (l' := [cel bn (.int .i64 n), cel bs s]) h7
    have h9 := Asn.perm _ [1, 2, 4, 5, 0, 3] h8 (by decide)
    obtain ⟨F4, h10, S5⟩ := Asn.drop (I := cel (A.alloc (.cells #[y] 39 (0, 0))).heap.size (.int .i64 m1)) h9
    obtain ⟨F5, h11, S6⟩ := Asn.drop (I := cel A.heap.size y) h10
    have : wpF Try.prog n₀ 39 #[y, ptr bn, ptr bs] (fun v A' => v = undef ∧ A' = A2) A := by
      refine wpF_fn (ts := #[y, ptr bn, ptr bs, undef, undef, undef, undef, undef, undef, undef, undef]) good ⟨rfl, rfl, rfl⟩ rfl ?_
      refine cw_seq good (cw_region good ?_)
      refine wpO_val (aop_box (v := y) rfl rfl H.one) ?_
      refine cw_seq good (cw_seq good (cw_region good ?_))
      refine wpO_val (aop_load rfl rfl rfl gn) ?_
      refine wpO_val (aop_int (k := .i64) (m := n) (n := 1) rfl rfl rfl rfl) ?_
      refine cw_cond good false (congrArg Value.bool (by simpa using hlt)) (cw_skip good ?_)
      refine cw_seq good (cw_region good ?_)
      refine wpO_val (aop_load rfl rfl rfl gn) ?_
      refine wpO_val (aop_alloc rfl rfl rfl rfl) ?_
      refine wpO_unit (aop_store (v := .int .i64 n) rfl rfl rfl rfl rfl (Asn.get h2) (Asn.soft h2)) ?_
      refine cw_region good ?_
      simp only [Act.put, List.setIfInBounds_toArray, List.set_cons_succ, List.set_cons_zero]
      refine wpO_val (aop_load rfl rfl rfl (Asn.get (J := _) (Asn.perm _ [5, 0, 1, 2, 3, 4] h5 (by decide)))) ?_
      refine wpO_val (aop_func (l := []) (l' := [ptr (A.alloc (.cells #[y] 39 (0, 0))).heap.size, ptr A.heap.size]) rfl rfl rfl) ?_
      simp only [Act.put, List.setIfInBounds_toArray, List.set_cons_succ, List.set_cons_zero]
      refine wpO_call (f := 35) (first := #[]) (cap := #[]) (l := [s, takeY (A.alloc (.cells #[y] 39 (0, 0))).heap.size A.heap.size]) (xs := #[s, takeY (A.alloc (.cells #[y] 39 (0, 0))).heap.size A.heap.size]) ⟨rfl, rfl, rfl⟩ rfl rfl rfl ⟨undef, A2, each_some c2, ?_⟩
      exact ret_none ⟨rfl, rfl⟩
    obtain ⟨v, A3, h12, rfl, rfl⟩ := this
    exact ⟨_, F5, ⟨39, _, _, _, _, ⟨rfl, rfl, rfl⟩, rfl, h12⟩, Asn.assoc' (Asn.map' (Asn.perm [cel bn (.int .i64 n), cel bs s, J b1, I a1] [0, 1, 2, 3] h11 (by decide)) fun _ h => Asn.assoc' h), S1.trans (S2.trans (S3.trans (S4.trans (S5.trans S6))))⟩
end Go.Proofs.Ytipomlcnmaldkaa
/-
  eq answers true of two lists that are alike. No condition.
-/
namespace Go.Proofs.Ytipomlcnmaldkaa
open Go.Abs
variable {n₀ : Nat}
set_option maxRecDepth 4000
theorem eq_true {A : World} {p q : Option Addr} {l : List Int} {c d : Nat} (hl : l.length < 2 ^ 62) (hp : Rd A p l) (hq : Rd A q l) : SndCall Try.prog n₀ 15 #[.slice p l.length c, .slice q l.length d] A (.bool true) A := by
  have : wpF Try.prog n₀ 15 #[.slice p l.length c, .slice q l.length d] (fun v A' => v = .bool true ∧ A' = A) A := by
    refine wpF_fn (ts := #[.slice p l.length c, .slice q l.length d, undef, undef, undef, undef, undef, undef, undef, undef, undef, undef, undef, undef, undef, undef, undef, undef, undef, undef, undef, undef, undef, undef, undef, undef]) good ⟨rfl, rfl, rfl⟩ (by kernel_rfl) ?_
    refine cw_seq good (cw_region good ?_)
    refine wpO_as (.bool false) rfl ?_
    refine cw_seq good (cw_seq good (cw_region good ?_))
    refine wpO_mv (.slice p l.length c) rfl ?_
    refine wpO_val (aop_len rfl rfl rfl rfl rfl) ?_
    refine wpO_mv (.slice q l.length d) rfl ?_
    refine wpO_val (aop_len rfl rfl rfl rfl rfl) ?_
    refine wpO_val (aop_int (k := .i64) (m := l.length) (n := l.length) (v := .bool false) rfl rfl rfl (by simp [intV])) ?_
    refine cw_cond good false rfl (cw_skip good ?_)
    simp only [Act.put, List.setIfInBounds_toArray, List.set_cons_succ, List.set_cons_zero]
    refine cw_seq good (cw_seq good (cw_region good ?_))
    refine wpO_as (.int .i64 0) rfl ?_
    refine cw_block good (cw_loop good ?_)
    refine wpL_ind (fun n a A' => ∃ i : Nat, n = l.length - i ∧ i ≤ l.length ∧ A' = A ∧ ∃ w6 w7 w8 w9 w10 w11 w12 w13 w14 w15 w16 w17 w18 w19 w20 w21 w22 w23 w24 w25, a = ⟨#[.slice p l.length c, .slice q l.length d, undef, undef, .bool false, .int .i64 i, w6, w7, w8, w9, w10, w11, w12, w13, w14, w15, w16, w17, w18, w19, w20, w21, w22, w23, w24, w25], []⟩) ?_ l.length _ _
      ⟨0, by simp, by simp, rfl, _, _, _, _, _, _, _, _, _, _, _, _, _, _, _, _, _, _, _, _, rfl⟩
    rintro n _ A' ⟨i, rfl, hi, rfl, w6, w7, w8, w9, w10, w11, w12, w13, w14, w15, w16, w17, w18, w19, w20, w21, w22, w23, w24, w25, rfl⟩
    refine cw_seq good (cw_seq good (cw_region good ?_))
    refine wpO_mv (.int .i64 i) rfl ?_
    refine wpO_mv (.slice p l.length c) rfl ?_
    refine wpO_val (aop_len rfl rfl rfl rfl rfl) ?_
    refine wpO_val (aop_int rfl (k := .i64) (m := i) (n := l.length) rfl rfl rfl) ?_
    simp only [Act.put, List.setIfInBounds_toArray, List.set_cons_succ, List.set_cons_zero]
    by_cases hlt : i < l.length
    · refine cw_cond good true (congrArg Value.bool (by simpa using hlt)) (cw_skip good ?_)
      obtain ⟨x, hx⟩ : ∃ x, l[i]? = some x := ⟨_, List.getElem?_eq_getElem hlt⟩
      obtain ⟨ad, rfl, hc⟩ := hp i x hx
      obtain ⟨ad', rfl, hc'⟩ := hq i x hx
      refine cw_seq good (cw_block good ?_)
      refine cw_seq good (cw_draw good [.slice (some ad) l.length c, .int .i64 i, .pointer (some (ad.add (i * 1))), .int .i64 x, .slice (some ad') l.length d, .int .i64 i, .pointer (some (ad'.add (i * 1))), .int .i64 x, .bool false] [] (by kernel_rfl) rfl ?_
        ⟨#[.slice (some ad) l.length c, .slice (some ad') l.length d, undef, undef, .bool false, .int .i64 i, w6, w7, w8, w9, w10, .int .i64 i, .slice (some ad) l.length c, .int .i64 l.length, .bool (decide ((i : Int) < l.length)), w15, w16, .slice (some ad) l.length c, .int .i64 i, .pointer (some (ad.add (i * 1))), .int .i64 x, .slice (some ad') l.length d, .int .i64 i, .pointer (some (ad'.add (i * 1))), .int .i64 x, .bool false], []⟩ A' (by kernel_rfl) rfl ?_)
      · intro j o ho
        match j, ho with
        | 0, ho => cases ho; exact step_quiet rfl [9] (all1 (aop_mv rfl (by kernel_rfl))) rfl
        | 1, ho => cases ho; exact step_quiet rfl [9] (all1 (aop_mv rfl (by kernel_rfl))) rfl
        | 2, ho => cases ho; exact step_quiet rfl [9] (all1 (aop_index (k := .i64) (cap := c) rfl (by kernel_rfl) (by kernel_rfl) rfl rfl hlt)) rfl
        | 3, ho => cases ho; exact step_quiet rfl [9] (all1 (aop_load rfl (by kernel_rfl) rfl hc)) rfl
        | 4, ho => cases ho; exact step_quiet rfl [9] (all1 (aop_mv rfl (by kernel_rfl))) rfl
        | 5, ho => cases ho; exact step_quiet rfl [9] (all1 (aop_mv rfl (by kernel_rfl))) rfl
        | 6, ho => cases ho; exact step_quiet rfl [9] (all1 (aop_index (k := .i64) (cap := d) rfl (by kernel_rfl) (by kernel_rfl) rfl rfl hlt)) rfl
        | 7, ho => cases ho; exact step_quiet rfl [9] (all1 (aop_load rfl (by kernel_rfl) rfl hc')) rfl
        | 8, ho => cases ho; exact step_quiet rfl [9] (all1 (aop_int (k := .i64) (m := x) (n := x) (v := .bool false) rfl (by kernel_rfl) (by kernel_rfl) (by simp [intV]))) rfl
        | n + 9, ho => simp at ho
      · refine cw_cond good false rfl (cw_skip good ?_)
        refine cw_region good ?_
        refine wpO_mv (.int .i64 i) rfl ?_
        refine wpO_val (aop_int (k := .i64) (m := i) (n := 1) (v := .int .i64 (i + 1 : Nat)) rfl rfl rfl (intV_add (by omega) (by omega) (by omega))) ?_
        simp only [Act.put, List.setIfInBounds_toArray, List.set_cons_succ, List.set_cons_zero]
        refine wpO_as (.int .i64 (i + 1 : Nat)) rfl ?_
        exact ⟨l.length - (i + 1), by omega, i + 1, rfl, by omega, rfl, _, _, _, _, _, _, _, _, _, _, _, _, _, _, _, _, _, _, _, _, rfl⟩
    · refine cw_cond good false (congrArg Value.bool (by simpa using hlt)) (cw_exit good ?_)
      refine cw_seq good (cw_region good ?_)
      refine wpO_as (.bool true) rfl ?_
      exact cw_ret good (ret_one (.bool true) rfl ⟨rfl, rfl⟩)
  obtain ⟨v, A1, h1, rfl, rfl⟩ := this
  exact h1
end Go.Proofs.Ytipomlcnmaldkaa
/-
  The calls of cut, Of, Map, Take, and the function that counts what is asked for. No condition.
-/
namespace Go.Proofs.Ytipomlcnmaldkaa
open Go.Abs
variable {n₀ : Nat}
set_option maxRecDepth 4000
theorem ro_block {A : World} {e : TypeId} {b : Nat} (h : RoB A b) : ∃ cs t' fz, A.heap[b]? = some (.cells cs t' fz) ∧ fz ≠ (2, 0) ∧ (fz = (1, 0) → Try.prog.cellsOf e = Try.prog.cellsOf t') := by
  obtain ⟨cs, t, n, h1, h2⟩ := h
  exact ⟨cs, t, (0, n), h1, by simp, by simp⟩
theorem slice0 {p : Option Addr} {h cap : Nat} : Value.slice (if cap = 0 then p else p.map (·.add (0 * 1))) (h - 0) (cap - 0) = .slice p h cap := by
  have e : p.map (·.add (0 * 1)) = p := by cases p <;> simp [Addr.add]
  rw [e]; simp
theorem cut_call {A : World} {p : Option Addr} {n c : Nat} (hc : n ≤ c) (hb : ∀ ad, p = some ad → RoB A ad.block) : SndCall Try.prog n₀ 9 #[.slice p n c, .int .i64 30] A (.slice p (min n 30) c) A := by
  have : wpF Try.prog n₀ 9 #[.slice p n c, .int .i64 30] (fun v A' => v = .slice p (min n 30) c ∧ A' = A) A := by
    refine wpF_fn (ts := #[.slice p n c, .int .i64 30, undef, undef, undef, undef, undef, undef, undef, undef, undef, undef, undef]) good ⟨rfl, rfl, rfl⟩ (by kernel_rfl) ?_
    refine cw_seq good (cw_region good ?_)
    refine wpO_as (.slice none 0 0) rfl ?_
    refine cw_seq good (cw_seq good (cw_region good ?_))
    refine wpO_mv (.slice p n c) rfl ?_
    refine wpO_val (aop_len rfl rfl rfl rfl rfl) ?_
    refine wpO_mv (.int .i64 30) rfl ?_
    refine wpO_val (aop_int (k := .i64) (m := n) (n := 30) rfl rfl rfl rfl) ?_
    simp only [Act.put, List.setIfInBounds_toArray, List.set_cons_succ, List.set_cons_zero]
    by_cases h : n > 30
    · refine cw_cond good true (congrArg Value.bool (by simp; omega)) ?_
      refine cw_seq good (cw_region good ?_)
      refine wpO_mv (.slice p n c) rfl ?_
      refine wpO_mv (.int .i64 30) rfl ?_
      refine wpO_val (aop_slice (k := .i64) (l := 0) (h := 30) rfl rfl rfl rfl (.inl ⟨rfl, rfl⟩) rfl (by omega) (by omega) hc fun a ha => ro_block (hb a ha)) ?_
      rw [slice0]
      refine wpO_as (.slice p 30 c) rfl ?_
      exact cw_ret good (ret_one (.slice p 30 c) rfl ⟨by rw [Nat.min_eq_right (by omega)], rfl⟩)
    · refine cw_cond good false (congrArg Value.bool (by simp; omega)) (cw_skip good ?_)
      refine cw_seq good (cw_region good ?_)
      refine wpO_mv (.slice p n c) rfl ?_
      refine wpO_as (.slice p n c) rfl ?_
      exact cw_ret good (ret_one (.slice p n c) rfl ⟨by rw [Nat.min_eq_left (by omega)], rfl⟩)
  obtain ⟨v, A1, h1, rfl, rfl⟩ := this
  exact h1
theorem values_call {A : World} {v : Value} (hv : isOne v = true) : SndCall Try.prog n₀ 37 #[v] A (valsV A.heap.size) (A.alloc (.cells #[v] 22 (0, 0))) := by
  have : wpF Try.prog n₀ 37 #[v] (fun r A' => r = valsV A.heap.size ∧ A' = A.alloc (.cells #[v] 22 (0, 0))) A := by
    refine wpF_fn (ts := #[v, undef, undef, undef]) good ⟨rfl, rfl, rfl⟩ rfl ?_
    refine cw_seq good (cw_region good ?_)
    refine wpO_val (aop_box (v := v) rfl rfl hv) ?_
    refine wpO_as .nilFunc rfl ?_
    refine cw_seq good (cw_region good ?_)
    refine wpO_val (aop_func (l := []) (l' := [ptr A.heap.size]) rfl rfl rfl) ?_
    refine wpO_as (valsV A.heap.size) rfl ?_
    exact cw_ret good (ret_one (valsV A.heap.size) rfl ⟨rfl, rfl⟩)
  obtain ⟨v, A1, h1, rfl, rfl⟩ := this
  exact h1
theorem of_call {A : World} {v : Value} (hv : isOne v = true) : SndCall Try.prog n₀ 11 #[v] A (valsV A.heap.size) (A.alloc (.cells #[v] 22 (0, 0))) := by
  have : wpF Try.prog n₀ 11 #[v] (fun r A' => r = valsV A.heap.size ∧ A' = A.alloc (.cells #[v] 22 (0, 0))) A := by
    refine wpF_fn (ts := #[v, undef, undef, undef, undef]) good ⟨rfl, rfl, rfl⟩ rfl ?_
    refine cw_seq good (cw_region good ?_)
    refine wpO_as .nilFunc rfl ?_
    refine cw_seq good (cw_region good ?_)
    refine wpO_mv v rfl ?_
    refine wpO_call (f := 37) (first := #[]) (cap := #[]) (l := [v]) (xs := #[v]) ⟨rfl, rfl, rfl⟩ rfl rfl rfl ⟨_, _, values_call hv, ?_⟩
    refine wpO_as (valsV A.heap.size) rfl ?_
    exact cw_ret good (ret_one (valsV A.heap.size) rfl ⟨rfl, rfl⟩)
  obtain ⟨v, A1, h1, rfl, rfl⟩ := this
  exact h1
theorem map_call {A : World} {s f : Value} (hs : isOne s = true) (hf : isOne f = true) : SndCall Try.prog n₀ 10 #[s, f] A (mapV A.heap.size (A.heap.size + 1)) ((A.alloc (.cells #[s] 26 (0, 0))).alloc (.cells #[f] 29 (0, 0))) := by
  have : wpF Try.prog n₀ 10 #[s, f] (fun r A' => r = mapV A.heap.size (A.heap.size + 1) ∧ A' = (A.alloc (.cells #[s] 26 (0, 0))).alloc (.cells #[f] 29 (0, 0))) A := by
    refine wpF_fn (ts := #[s, f, undef, undef, undef, undef]) good ⟨rfl, rfl, rfl⟩ rfl ?_
    refine cw_seq good (cw_region good ?_)
    refine wpO_val (aop_box (v := s) rfl rfl hs) ?_
    refine wpO_val (aop_box (v := f) rfl rfl hf) ?_
    refine wpO_as .nilFunc rfl ?_
    refine cw_seq good (cw_region good ?_)
    have e : (A.alloc (.cells #[s] 26 (0, 0))).heap.size = A.heap.size + 1 := by simp
    rw [e]
    refine wpO_val (aop_func (l := []) (l' := [ptr A.heap.size, ptr (A.heap.size + 1)]) rfl rfl rfl) ?_
    refine wpO_as (mapV A.heap.size (A.heap.size + 1)) rfl ?_
    exact cw_ret good (ret_one (mapV A.heap.size (A.heap.size + 1)) rfl ⟨rfl, rfl⟩)
  obtain ⟨v, A1, h1, rfl, rfl⟩ := this
  exact h1
theorem take_call {A : World} {s : Value} {n : Int} (hs : isOne s = true) : SndCall Try.prog n₀ 14 #[s, .int .i64 n] A (takeV (A.heap.size + 1) A.heap.size) ((A.alloc (.cells #[s] 26 (0, 0))).alloc (.cells #[.int .i64 n] 3 (0, 0))) := by
  have : wpF Try.prog n₀ 14 #[s, .int .i64 n] (fun r A' => r = takeV (A.heap.size + 1) A.heap.size ∧ A' = (A.alloc (.cells #[s] 26 (0, 0))).alloc (.cells #[.int .i64 n] 3 (0, 0))) A := by
    refine wpF_fn (ts := #[s, .int .i64 n, undef, undef, undef, undef]) good ⟨rfl, rfl, rfl⟩ rfl ?_
    refine cw_seq good (cw_region good ?_)
    refine wpO_val (aop_box (v := s) rfl rfl hs) ?_
    refine wpO_val (aop_box (v := .int .i64 n) rfl rfl rfl) ?_
    refine wpO_as .nilFunc rfl ?_
    refine cw_seq good (cw_region good ?_)
    have e : (A.alloc (.cells #[s] 26 (0, 0))).heap.size = A.heap.size + 1 := by simp
    rw [e]
    refine wpO_val (aop_func (l := []) (l' := [ptr (A.heap.size + 1), ptr A.heap.size]) rfl rfl rfl) ?_
    refine wpO_as (takeV (A.heap.size + 1) A.heap.size) rfl ?_
    exact cw_ret good (ret_one (takeV (A.heap.size + 1) A.heap.size) rfl ⟨rfl, rfl⟩)
  obtain ⟨v, A1, h1, rfl, rfl⟩ := this
  exact h1
def askV (c : Nat) : Value := .func (.func 12) #[] #[ptr c]
def askFn (m : Nat) (x : Int) : Option (Int × Nat) := if m < 4611686018427387904 then some (x, m + 1) else none
theorem ask_spec {c : Nat} : Fpec Try.prog n₀ (askV c) (fun m : Nat => cel c (.int .i64 m)) askFn := by
  refine ⟨fun _ => Owns.cel, fun {m F A x v m'} h hf => ?_⟩
  unfold askFn at hf
  split at hf
  case isFalse => cases hf
  rename_i hm
  cases hf
  obtain ⟨h1, S1⟩ := Asn.put Owns.nil (Asn.emp h) (.int .i64 (m + 1 : Nat))
  have : wpF Try.prog n₀ 12 #[.int .i64 x, ptr c] (fun r A' => r = .int .i64 x ∧ A' = A.setCell ⟨c, 0, none⟩ (.int .i64 (m + 1 : Nat))) A := by
    refine wpF_fn (ts := #[.int .i64 x, ptr c, undef, undef, undef, undef, undef]) good ⟨rfl, rfl, rfl⟩ rfl ?_
    refine cw_seq good (cw_region good ?_)
    refine wpO_as (.int .i64 0) rfl ?_
    refine cw_seq good (cw_region good ?_)
    refine wpO_val (aop_load rfl rfl rfl (Asn.get (Asn.emp h))) ?_
    refine wpO_val (aop_int (k := .i64) (m := m) (n := 1) (v := .int .i64 (m + 1 : Nat)) rfl rfl rfl (intV_add (by omega) (by omega) (by omega))) ?_
    refine wpO_unit (aop_store (v := .int .i64 (m + 1 : Nat)) rfl rfl rfl rfl rfl (Asn.get (Asn.emp h)) (Asn.soft (Asn.emp h))) ?_
    refine cw_seq good (cw_region good ?_)
    refine wpO_mv (.int .i64 x) rfl ?_
    refine wpO_as (.int .i64 x) rfl ?_
    exact cw_ret good (ret_one (.int .i64 x) rfl ⟨rfl, rfl⟩)
  obtain ⟨r, A1, h2, rfl, rfl⟩ := this
  exact ⟨_, F, ⟨12, _, _, _, _, ⟨rfl, rfl, rfl⟩, rfl, h2⟩, Asn.unnil h1, S1⟩
end Go.Proofs.Ytipomlcnmaldkaa
/-
  The calls, as what lies where; and how much is asked for. No condition.
-/
namespace Go.Proofs.Ytipomlcnmaldkaa
open Go.Abs
variable {n₀ : Nat}
set_option maxRecDepth 4000
theorem alloc_sz {A : World} {o : Obj} : (A.alloc o).heap.size = A.heap.size + 1 := by simp
theorem of_do {I : Asn} {F : Foot} {A : World} {v : Value} (hO : Owns I) (h : I F A) (hv : isOne v = true) : ∃ b A' F', SndCall Try.prog n₀ 11 #[v] A (valsV b) A' ∧ ((cel b v).sep I) F' A' ∧ Step F A F' A' := by
  obtain ⟨F1, h1, S1⟩ := Asn.new hO h v 22
  exact ⟨_, _, F1, of_call hv, h1, S1⟩
theorem map_do {φ β : Type} {s f : Value} {K : φ → Asn} {J : β → Asn} {p : φ} {q : β} {F : Foot} {A : World} (hK : Owns (K p)) (hJ : Owns (J q)) (h : ((J q).sep (K p)) F A) (hs : isOne s = true) (hf : isOne f = true) :
    ∃ bs bf A' F', SndCall Try.prog n₀ 10 #[s, f] A (mapV bs bf) A' ∧ mapJ bs bf s f K J (p, q) F' A' ∧ Step F A F' A' := by
  obtain ⟨F1, h1, S1⟩ := Asn.new (Owns.sep hJ hK) h s 26
  obtain ⟨F2, h2, S2⟩ := Asn.new (Owns.sep Owns.cel (Owns.sep hJ hK)) h1 f 29
  rw [alloc_sz] at h2
  exact ⟨_, _, _, F2, map_call hs hf, Asn.perm [cel (A.heap.size + 1) f, cel A.heap.size s, J q, K p] [2, 3, 1, 0] h2 (by decide), S1.trans S2⟩
theorem take_do {β : Type} {s : Value} {J : β → Asn} {q : β} {n : Int} {F : Foot} {A : World} (hJ : Owns (J q)) (h : J q F A) (hs : isOne s = true) :
    ∃ bn bs A' F', SndCall Try.prog n₀ 14 #[s, .int .i64 n] A (takeV bn bs) A' ∧ takeJ bn bs n s J q F' A' ∧ Step F A F' A' := by
  obtain ⟨F1, h1, S1⟩ := Asn.new hJ h s 26
  obtain ⟨F2, h2, S2⟩ := Asn.new (Owns.sep Owns.cel hJ) h1 (.int .i64 n) 3
  rw [alloc_sz] at h2
  exact ⟨_, _, _, F2, take_call hs, h2, S1.trans S2⟩
theorem rd_take {p : Option Addr} {l : List Int} {k : Nat} {F : Foot} {A : World} (h : rd p l F A) : rd p (l.take k) F A :=
  ⟨h.1, fun i x hx => h.2.1 i x (by
    rw [List.getElem?_take] at hx
    split at hx
    · exact hx
    · cases hx), h.2.2⟩
theorem Rd_take {p : Option Addr} {l : List Int} {k : Nat} {A : World} (h : Rd A p l) : Rd A p (l.take k) := fun i x hx => h i x (by
    rw [List.getElem?_take] at hx
    split at hx
    · exact hx
    · cases hx)

/-- What is asked for, and what is taken. -/
theorem fold_lazy : ∀ (l : List Int) (k m : Nat) (acc : List Int), 0 < m → m < 9223372036854775808 → k + l.length < 1000 → acc.length + l.length < 1000 →
    ∃ m', foldY (mapSt askFn (takeSt stL)) l (k, (m, acc)) = some (k + min m l.length, (m', acc ++ l.take m))
  | [], k, m, acc, _, _, _, _ => ⟨m, by simp [foldY]⟩
  | x :: l, k, m, acc, hm, hm2, hk, ha => by
    simp only [List.length_cons] at hk ha
    have h1 : askFn k x = some (x, k + 1) := by unfold askFn; rw [if_pos (by omega)]
    have h2 : stL acc x = some (true, acc ++ [x]) := by unfold stL; rw [if_pos (by omega)]
    have h3 : mapSt askFn (takeSt stL) (k, (m, acc)) x = some (decide (1 < m), (k + 1, (m - 1, acc ++ [x]))) := by
      simp only [mapSt, h1, takeSt, Option.bind_some, h2]
      rw [if_pos ⟨hm, hm2⟩]
      simp
    unfold foldY
    rw [h3]
    by_cases h : 1 < m
    · simp only [h, decide_true]
      obtain ⟨m', hm'⟩ := fold_lazy l (k + 1) (m - 1) (acc ++ [x]) (by omega) (by omega) (by omega) (by simp; omega)
      refine ⟨m', ?_⟩
      rw [hm']
      have e1 : k + 1 + min (m - 1) l.length = k + min m (l.length + 1) := by omega
      have e2 : acc ++ [x] ++ l.take (m - 1) = acc ++ (x :: l).take m := by
        obtain ⟨m0, rfl⟩ : ∃ m0, m = m0 + 1 := ⟨m - 1, by omega⟩
        simp
      rw [e1, e2]; rfl
    · have hm1 : m = 1 := by omega
      subst hm1
      refine ⟨0, ?_⟩
      simp
theorem run_lazy {l : List Int} {n : Int} (hl : l.length ≤ 30) (hn : n < 9223372036854775808) :
    takeRun n (mapRun askFn (fun _ st _ a => (foldY st l a).map fun a' => ((), a'))) (List Int) stL (0, ()) [] = some (((max 0 (min n l.length)).toNat, ()), l.take (max 0 (min n l.length)).toNat) := by
  unfold takeRun
  by_cases h : n < 1
  · rw [if_pos h]
    have : (max 0 (min n (l.length : Int))).toNat = 0 := by omega
    rw [this]; simp
  · rw [if_neg h]
    obtain ⟨m', hm'⟩ := fold_lazy l 0 n.toNat [] (by omega) (by omega) (by omega) (by simp; omega)
    have e : (max 0 (min n (l.length : Int))).toNat = min n.toNat l.length := by omega
    unfold mapRun
    simp only [hm', Option.map_some, e]
    simp [List.take_eq_take_iff]
end Go.Proofs.Ytipomlcnmaldkaa
/-
  SeqLazy answers true, of any list that may be read and any number. No condition.
-/
namespace Go.Proofs.Ytipomlcnmaldkaa
open Go.Abs Go.RowKit
variable {n₀ : Nat}
set_option maxRecDepth 4000
theorem begun_tells : tells Try.prog know0 1000 8 [] (.bool true) = true := by decide +kernel
theorem begun_known : Known Try.prog (knowTrue [8]) := knownTrue fun f hf W => by
  have e : f = 8 := by simpa using hf
  subst e
  exact tells_ok good known0 begun_tells W
theorem begun_call {A : World} : SndCall Try.prog n₀ 8 #[] A (.bool true) A := snd_known begun_known rfl

theorem lazy_call {A : World} {F : Foot} {p : Option Addr} {l : List Int} {c : Nat} {n : Int} (h : rd p l F A) (hc : l.length ≤ c) (hn : n < 9223372036854775808) : ∃ A', SndCall Try.prog n₀ 3 #[.slice p l.length c, .int .i64 n] A (.bool true) A' := by
  have hlen : (l.take 30).length = min l.length 30 := by rw [List.length_take, Nat.min_comm]
  generalize hl' : l.take 30 = l' at hlen
  have h0 : rd p l' F A := hl' ▸ rd_take h
  have hl30 : l'.length ≤ 30 := by omega
  have hcut : SndCall Try.prog n₀ 9 #[.slice p l.length c, .int .i64 30] A (.slice p l'.length c) A := by rw [hlen]; exact cut_call hc h.2.2
  -- the count
  obtain ⟨F1, h1, _⟩ := Asn.new Owns.rd h0 (.int .i64 0) 3
  obtain ⟨h2, _⟩ := Asn.put Owns.rd h1 (.int .i64 0)
  generalize hca : A.heap.size = ca at h1 h2
  generalize hA1 : A.alloc (.cells #[.int .i64 0] 3 (0, 0)) = A1 at h1 h2
  generalize hA2 : A1.setCell ⟨ca, 0, none⟩ (.int .i64 0) = A2 at h2
  -- what comes one by one
  obtain ⟨b1, A3, F3, c3, h3, _⟩ := of_do (n₀ := n₀) (v := .slice p l'.length c) (Owns.sep Owns.cel Owns.rd) h2 rfl
  have h3' : ((valsJ b1 p c l' ()).sep (cel ca (.int .i64 (0 : Nat)))) F3 A3 := Asn.assoc' (Asn.perm [cel b1 (.slice p l'.length c), cel ca (.int .i64 0), rd p l'] [0, 2, 1] h3 (by decide))
  obtain ⟨bs, bf, A4, F4, c4, h4, _⟩ := map_do (n₀ := n₀) (s := valsV b1) (f := askV ca) (J := valsJ b1 p c l') (K := fun m : Nat => cel ca (.int .i64 m)) (p := 0) (q := ()) Owns.cel (Owns.sep Owns.cel Owns.rd) h3' rfl rfl
  have hM := map_spec (n₀ := n₀) (bs := bs) (bf := bf) (ask_spec (c := ca)) (vals_spec (b := b1) (p := p) (cap := c) (l := l') (by omega))
  have ga : A4.cell? ⟨ca, 0, none⟩ = some (.int .i64 (0 : Nat)) := let ⟨_, q⟩ := Asn.right h4; Asn.get q
  obtain ⟨bn, bt, A5, F5, c5, h5, _⟩ := take_do (n₀ := n₀) (s := mapV bs bf) (n := n) (hM.loc _) h4 rfl
  have hT := take_spec (bn := bn) (bs := bt) hM hn
  obtain ⟨v, A6, F6, c6, h6, _⟩ := list_call hT h5 (run_lazy hl30 hn)
  generalize hm : (max 0 (min n (l'.length : Int))).toNat = m at h6
  have hm' : m ≤ l'.length := by omega
  obtain ⟨_, hv⟩ := Asn.right h6
  obtain ⟨pv, rfl, hrv⟩ := lstV_rd hv
  obtain ⟨_, hk⟩ := Asn.left h6
  have hk2 : Asn.all [cel bn (.int .i64 n), cel bt (mapV bs bf), valsJ b1 p c l' (), cel ca (.int .i64 m), cel bs (valsV b1), cel bf (askV ca)] _ A6 := hk
  have gm : A6.cell? ⟨ca, 0, none⟩ = some (.int .i64 m) := Asn.get (Asn.perm _ [3, 0, 1, 2, 4, 5] hk2 (by decide))
  obtain ⟨_, hr⟩ := Asn.left (Asn.perm _ [2, 0, 1, 3, 4, 5] hk2 (by decide))
  obtain ⟨_, hr⟩ := Asn.right hr
  have hlm : (l'.take m).length = m := by rw [List.length_take]; omega
  rw [hlm] at c6
  have ceq : SndCall Try.prog n₀ 15 #[.slice pv m m, .slice p m c] A6 (.bool true) A6 := by
    have := eq_true (n₀ := n₀) (c := m) (d := c) (by rw [hlm]; omega) hrv (Rd_take (k := m) hr.2.1)
    rw [hlm] at this
    exact this
  have : wpF Try.prog n₀ 3 #[.slice p l.length c, .int .i64 n] (fun v A' => v = .bool true) A := by
    refine wpF_fn (ts := #[.slice p l.length c, .int .i64 n, undef, undef, undef, undef, undef, undef, undef, undef, undef, undef, undef, undef, undef, undef, undef, undef, undef, undef, undef, undef, undef, undef, undef, undef, undef, undef, undef, undef, undef, undef, undef, undef, undef, undef, undef, undef, undef, undef]) good ⟨rfl, rfl, rfl⟩ (by kernel_rfl) ?_
    refine cw_seq good (cw_region good ?_)
    refine wpO_as (.bool false) rfl ?_
    simp only [Act.put, List.setIfInBounds_toArray, List.set_cons_succ, List.set_cons_zero]
    refine cw_seq good (cw_region good ?_)
    refine wpO_call (f := 8) (first := #[]) (cap := #[]) (l := []) (xs := #[]) ⟨rfl, rfl, rfl⟩ rfl rfl rfl ⟨_, _, begun_call, ?_⟩
    refine wpO_as (.bool true) rfl ?_
    simp only [Act.put, List.setIfInBounds_toArray, List.set_cons_succ, List.set_cons_zero]
    refine cw_seq good (cw_seq good (cw_region good ?_))
    refine wpO_mv (.bool true) rfl ?_
    refine wpO_val (aop_not (b := true) rfl rfl) ?_
    simp only [Act.put, List.setIfInBounds_toArray, List.set_cons_succ, List.set_cons_zero]
    refine cw_cond good false rfl (cw_skip good ?_)
    refine cw_seq good (cw_region good ?_)
    refine wpO_mv (.slice p l.length c) rfl ?_
    refine wpO_call (f := 9) (first := #[]) (cap := #[]) (l := [.slice p l.length c, .int .i64 30]) (xs := #[.slice p l.length c, .int .i64 30]) ⟨rfl, rfl, rfl⟩ rfl rfl rfl ⟨_, _, hcut, ?_⟩
    refine wpO_as (.slice p l'.length c) rfl ?_
    simp only [Act.put, List.setIfInBounds_toArray, List.set_cons_succ, List.set_cons_zero]
    refine cw_seq good (cw_region good ?_)
    refine wpO_val (aop_alloc rfl rfl rfl rfl) ?_
    rw [hca, hA1]
    refine wpO_unit (aop_store (p := ⟨ca, 0, none⟩) (v := .int .i64 0) rfl rfl rfl rfl rfl (Asn.get h1) (Asn.soft h1)) ?_
    rw [hA2]
    simp only [Act.put, List.setIfInBounds_toArray, List.set_cons_succ, List.set_cons_zero]
    refine cw_seq good (cw_region good ?_)
    refine wpO_mv (.slice p l'.length c) rfl ?_
    refine wpO_call (f := 11) (first := #[]) (cap := #[]) (l := [.slice p l'.length c]) (xs := #[.slice p l'.length c]) ⟨rfl, rfl, rfl⟩ rfl rfl rfl ⟨_, _, c3, ?_⟩
    refine wpO_val (aop_func (l := []) (l' := [ptr ca]) rfl rfl rfl) ?_
    simp only [Act.put, List.setIfInBounds_toArray, List.set_cons_succ, List.set_cons_zero]
    refine wpO_call (f := 10) (first := #[]) (cap := #[]) (l := [valsV b1, askV ca]) (xs := #[valsV b1, askV ca]) ⟨rfl, rfl, rfl⟩ rfl rfl rfl ⟨_, _, c4, ?_⟩
    refine wpO_as (mapV bs bf) rfl ?_
    simp only [Act.put, List.setIfInBounds_toArray, List.set_cons_succ, List.set_cons_zero]
    refine cw_seq good (cw_seq good (cw_region good ?_))
    refine wpO_val (aop_load rfl rfl rfl ga) ?_
    refine wpO_val (aop_int (k := .i64) (m := (0 : Nat)) (n := 0) (v := .bool false) rfl rfl rfl rfl) ?_
    simp only [Act.put, List.setIfInBounds_toArray, List.set_cons_succ, List.set_cons_zero]
    refine cw_cond good false rfl (cw_skip good ?_)
    refine cw_seq good (cw_region good ?_)
    refine wpO_mv (mapV bs bf) rfl ?_
    refine wpO_mv (.int .i64 n) rfl ?_
    simp only [Act.put, List.setIfInBounds_toArray, List.set_cons_succ, List.set_cons_zero]
    refine wpO_call (f := 14) (first := #[]) (cap := #[]) (l := [mapV bs bf, .int .i64 n]) (xs := #[mapV bs bf, .int .i64 n]) ⟨rfl, rfl, rfl⟩ rfl rfl rfl ⟨_, _, c5, ?_⟩
    refine wpO_call (f := 13) (first := #[]) (cap := #[]) (l := [takeV bn bt]) (xs := #[takeV bn bt]) ⟨rfl, rfl, rfl⟩ rfl rfl rfl ⟨_, _, c6, ?_⟩
    refine wpO_as (.slice pv m m) rfl ?_
    simp only [Act.put, List.setIfInBounds_toArray, List.set_cons_succ, List.set_cons_zero]
    refine cw_seq good (cw_region good ?_)
    refine wpO_mv (.int .i64 n) rfl ?_
    refine wpO_mv (.slice p l'.length c) rfl ?_
    refine wpO_val (aop_len rfl rfl rfl rfl rfl) ?_
    refine wpO_val (aop_min (k := .i64) (m := n) (n := l'.length) rfl rfl rfl rfl) ?_
    simp only [Act.put, List.setIfInBounds_toArray, List.set_cons_succ, List.set_cons_zero]
    have e1 : (if (0 : Int) < (if (l'.length : Int) < n then (l'.length : Int) else n) then (if (l'.length : Int) < n then (l'.length : Int) else n) else 0) = (m : Int) := by split <;> split at * <;> omega
    refine wpO_val (aop_max (k := .i64) (m := 0) (n := if (l'.length : Int) < n then (l'.length : Int) else n) rfl rfl rfl rfl) ?_
    rw [e1]
    refine wpO_as (.int .i64 m) rfl ?_
    simp only [Act.put, List.setIfInBounds_toArray, List.set_cons_succ, List.set_cons_zero]
    refine cw_seq good (cw_region good ?_)
    refine wpO_val (aop_load rfl rfl rfl gm) ?_
    refine wpO_mv (.int .i64 m) rfl ?_
    refine wpO_val (aop_int (k := .i64) (m := m) (n := m) (v := .bool true) rfl rfl rfl (by simp [intV])) ?_
    refine wpO_mv (.bool true) rfl ?_
    simp only [Act.put, List.setIfInBounds_toArray, List.set_cons_succ, List.set_cons_zero]
    refine wpO_mv (.slice pv m m) rfl ?_
    refine wpO_mv (.slice p l'.length c) rfl ?_
    refine wpO_mv (.int .i64 m) rfl ?_
    simp only [Act.put, List.setIfInBounds_toArray, List.set_cons_succ, List.set_cons_zero]
    refine wpO_val (aop_slice (k := .i64) (l := 0) (h := m) rfl rfl rfl rfl (.inl ⟨rfl, rfl⟩) rfl (by omega) (by omega) (by omega) fun a ha => ro_block (hr.2.2 a ha)) ?_
    rw [slice0]
    simp only [Act.put, List.setIfInBounds_toArray, List.set_cons_succ, List.set_cons_zero]
    refine wpO_call (f := 15) (first := #[]) (cap := #[]) (l := [.slice pv m m, .slice p m c]) (xs := #[.slice pv m m, .slice p m c]) ⟨rfl, rfl, rfl⟩ rfl rfl rfl ⟨_, _, ceq, ?_⟩
    refine wpO_val (aop_pick (b := true) rfl rfl) ?_
    simp only [Act.put, List.setIfInBounds_toArray, List.set_cons_succ, List.set_cons_zero]
    refine wpO_as (.bool true) rfl ?_
    exact cw_ret good (ret_one (.bool true) rfl rfl)
  obtain ⟨v, A', h1, rfl⟩ := this
  exact ⟨A', h1⟩
end Go.Proofs.Ytipomlcnmaldkaa
/-
  asterismlaw3.SeqLazy answers true whatever it is handed, whatever the machine draws, and what it is handed reads behind the call as it did. No condition.
-/
namespace Go.Proofs.Ytipomlcnmaldkaa
open Go.ChangeShapes Go.WideShapes Go.ChangeAt Go.RowKit Go.Abs
theorem vs2 {ι : Ren} {a b a' b' : Value} (h : VRel Try.prog ι a a') (k : VRel Try.prog ι b b') : Vs Try.prog ι #[a, b] #[a', b'] := ⟨rfl, fun i x x' hx hx' => by
  match i, hx, hx' with
  | 0, hx, hx' => cases hx; cases hx'; exact h
  | 1, hx, hx' => cases hx; cases hx'; exact k
  | n + 2, hx, _ => simp at hx⟩
theorem lit_lt {n : Int} (h : (Lit.int .i64 n).wf = true) : -9223372036854775808 ≤ n ∧ n < 9223372036854775808 := by
  have e1 : IntKind.min .i64 = -9223372036854775808 := rfl
  have e2 : IntKind.max .i64 = 9223372036854775807 := rfl
  simp only [Lit.wf, e1, e2, Bool.and_eq_true, decide_eq_true_eq] at h
  omega
theorem laidOut : laidOutB Try.prog = true := by kernel_rfl
/-- The call, whatever it is handed. -/
theorem seqLazy_calls {W : World} {v : Value} {n : Int} (hv : v = .slice none 0 0 ∨ ∃ a cap l, v = .slice (some a) (List.length l) cap ∧ l.length ≤ cap ∧ Lies W l a) (hn : n < 9223372036854775808) :
    Calls Try.prog 3 #[v, .int .i64 n] W fun e W' => e = .returned (.bool true) ∧ Below W.heap.size W W' := by
  rcases hv with rfl | ⟨a, cap, l, rfl, hc, hL⟩
  · obtain ⟨A', h⟩ := lazy_call (n₀ := W.heap.size) (A := inW 3 []) (c := 0) (n := n) (rd_none) (Nat.le_refl _) hn
    exact ro_call h rfl (sim_in (ls := []) (fun p hp => by cases hp)) (vs2 (.slice0 _ _) (.int _ _)) in_free in_ro
  · obtain ⟨A', h⟩ := lazy_call (n₀ := W.heap.size) (A := inW 3 [(l, a)]) (c := cap) (n := n) (in_rd (k := 0) (p := (l, a)) rfl) hc hn
    exact ro_call h rfl (sim_in (ls := [(l, a)]) (fun p hp => by simp only [List.mem_cons, List.not_mem_nil, or_false] at hp; subst hp; exact hL)) (vs2 (in_slice (k := 0) (p := (l, a)) rfl hL) (.int _ _)) in_free in_ro

set_option maxRecDepth 100000 in
theorem seqLazy_lifted (os : Os) (started : os.Started) (H : Type) (enc : TypeId × Value → H) :
    ReturnsInHanded {} Try.checked os 3 .any (Rows.seqLazySpec.pre6 enc Try.prog Try.f3 Rows.seqLazyRow.domain false) (Rows.seqLazySpec.post enc Try.prog Try.f3 false true false false) := by
  refine returnsInHanded_of_change (C := Try.checked) own started (by kernel_rfl) Try.func3
    (ChangeSpec.witness6 (enc := enc) (C := Try.checked) false ⟨#[], #[.slice none 0 0, .int .i64 0], []⟩ 8 (by kernel_rfl) (by kernel_rfl) (by kernel_rfl) (by kernel_rfl)) ?_
  intro W base args ds gs before hval0 hW hcnd _
  have hW' := hW
  obtain ⟨p, q, hA0, hV, rfl, hfz, hnd⟩ := hW
  have hA : DataW.TrodAll enc Try.prog W 0 (fun _ => true) true Try.f3.params.toList args.toList ds p := hA0
  rw [Try.params3] at hA
  obtain ⟨v, v', d, d', p1, p2, rfl, rfl, rfl, hd, hd'⟩ := trodAll_two hA
  obtain ⟨rfl, rfl⟩ := trodVars_none hV
  have hv : Value.okWide Try.prog W .any base 22 v := hval0 0 22 v (by rw [Try.params3]; rfl) rfl
  have hv' : Value.okWide Try.prog W .any base 3 v' := hval0 1 3 v' (by rw [Try.params3]; rfl) rfl
  obtain ⟨n, rfl, rfl, rfl, hwf⟩ := open_int Try.underlying3 hv' hd'
  have hopen := open_ints Try.underlying22 Try.underlying3 (by kernel_rfl) hv hd
  clear hA0 hval0
  simp only [List.append_nil] at hW'
  have hlt : ∀ x ∈ p1, x.block < W.heap.size := fun x hx => hW'.lt x hx
  refine (seqLazy_calls hopen (lit_lt hwf).2).mono fun e W' ⟨he, hB⟩ => ?_
  subst he
  refine ⟨_, rfl, post_of_below (pa := p1 ++ []) (pv := []) hW' hB (fun _ _ _ => trodAll_mk1 (shut_bool Try.underlying4 true)) (fun sp hsp => ?_) (fun _ _ => rfl) (by simp)
    (ok_one (by kernel_rfl) rfl (okWide_bool_mk Try.underlying4 true))⟩
  show DataW.TrodAll enc Try.prog W' 0 sp true Try.f3.params.toList [v, .int .i64 n] [d, .lit (.int .i64 n)] (p1 ++ [])
  rw [Try.params3]
  exact trodAll_mk2 (WideElems.Trod_stays laidOut (by kernel_rfl) (of_decide_eq_true (by kernel_rfl)) hd (fun x hx => hB.same (hlt x hx)) (fun x hx => hsp x hx)) (shut_int Try.underlying3 hwf)

theorem seqLazy_holds : Rows.SeqLazySaid :=
  OpenClaim.holds_of_wide 3 Try.f3 rfl rfl rfl rfl rfl rfl rfl ⟨rfl, rfl, rfl, rfl, rfl⟩ rfl rfl rfl rfl rfl (by kernel_rfl) Try.func3 (by kernel_rfl)
    (of_decide_eq_true (by kernel_rfl)) (by unfold Func.isWrapper; first | (rw [if_pos (by decide +kernel)]; kernel_rfl) | (rw [if_neg (by decide +kernel)]; exact ⟨rfl, rfl⟩))
    (fun os started H enc _ => seqLazy_lifted os started H enc)
end Go.Proofs.Ytipomlcnmaldkaa
