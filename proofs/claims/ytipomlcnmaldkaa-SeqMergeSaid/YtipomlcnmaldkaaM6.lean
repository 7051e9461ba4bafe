/-
  asterismlaw3.SeqMerge answers true whatever it is handed, whatever the machine draws, and what it is handed reads behind the call as it did. No condition.
-/
import Derived.Test.YtipomlcnmaldkaaM5
import Derived.Test.YtipomlcnmaldkaaM1
import Derived.Deep.Matrix
namespace Go.Proofs.Ytipomlcnmaldkaa
open Go.ChangeShapes Go.WideShapes Go.ChangeAt Go.RowKit Go.Abs
section
variable (W : World) (a : Addr) (len cap : Nat) (R : Nat → Option Addr) (L C : Nat → Nat) (Z : Nat → List Int)
/-- Rows of whole numbers, as they lie in a world. -/
structure Rows0 : Prop where
  spot : a.spot = none
  le : len ≤ cap
  blk : ∃ c t fz, W.heap[a.block]? = some (.cells c t fz)
  at_ : ∀ r, r < len → W.cell? (a.add r) = some (.slice (R r) (L r) (C r)) ∧ L r ≤ C r ∧ (Z r).length = C r ∧ (R r = none → C r = 0) ∧ ∀ a', R r = some a' → ∀ c, c < C r → W.cell? (a'.add c) = some (.int .i64 ((Z r).getD c 0))
def rowL (r : Nat) : List Int := (Z r).take (L r)
def rowObj (r : Nat) : Obj := if C r = 0 then .cells #[] 3 (2, 0) else .cells (ints (rowL L Z r)) 3 (0, (rowL L Z r).length + 1)
def rowV (r : Nat) : Value := match R r with
  | none => .slice none (L r) (C r)
  | some _ => .slice (some ⟨r, 0, none⟩) (L r) (C r)
def rowsV : List Value := (List.range len).map (rowV R L C)
def rowsL : List (List Int) := (List.range len).map (rowL L Z)
/-- The canonical world: each row's block (where there is nothing, a block left behind), the rows last. -/
def inL : World := { (default : World) with heap := ((List.range len).map (rowObj L C Z)).toArray.push (.cells (rowsV len R L C).toArray 22 (0, len + 1)) }
def inLR : Ren := fun k => if k < len then (if C k = 0 then some ⟨a.block, 0, some (0, 0)⟩ else (R k).map fun a' => ⟨a'.block, a'.off, none⟩) else if k = len then some ⟨a.block, a.off, none⟩ else none
variable {W a len cap R L C Z}
theorem inL_size : (inL len R L C Z).heap.size = len + 1 := by simp [inL]
theorem inL_row {r : Nat} (h : r < len) : (inL len R L C Z).heap[r]? = some (rowObj L C Z r) := by
  show (((List.range len).map (rowObj L C Z)).toArray.push _)[r]? = _
  rw [Array.getElem?_push, if_neg (by simp; omega)]
  simp [h]
theorem inL_last : (inL len R L C Z).heap[len]? = some (.cells (rowsV len R L C).toArray 22 (0, len + 1)) := by
  show (((List.range len).map (rowObj L C Z)).toArray.push _)[len]? = _
  rw [Array.getElem?_push, if_pos (by simp)]
theorem inL_cases {k : Nat} {o : Obj} (h : (inL len R L C Z).heap[k]? = some o) : (k < len ∧ o = rowObj L C Z k) ∨ (k = len ∧ o = .cells (rowsV len R L C).toArray 22 (0, len + 1)) := by
  have hk : k < len + 1 := by
    have := lt_of_some h
    rwa [inL_size] at this
  by_cases e : k < len
  · rw [inL_row e] at h; cases h; exact .inl ⟨e, rfl⟩
  · obtain rfl : k = len := by omega
    rw [inL_last] at h; cases h; exact .inr ⟨rfl, rfl⟩
theorem inL_ro (k : Nat) (o : Obj) (h : (inL len R L C Z).heap[k]? = some o) : wr o = false := by
  rcases inL_cases h with ⟨_, rfl⟩ | ⟨_, rfl⟩
  · unfold rowObj
    split
    · rfl
    · simp [wr]
  · simp [wr]
theorem inL_free (k : Nat) (h : (inL len R L C Z).heap.size ≤ k) : inLR a len R C k = none := by
  rw [inL_size] at h
  unfold inLR
  rw [if_neg (by omega), if_neg (by omega)]
theorem cell_blk {p : Addr} {v : Value} (h : W.cell? p = some v) : p.spot = none ∧ ∃ c t fz, W.heap[p.block]? = some (.cells c t fz) := by
  unfold World.cell? at h
  split at h
  · rename_i c t fz hb
    split at h
    · cases h
    · rename_i hs
      refine ⟨?_, c, t, fz, hb⟩
      cases hp : p.spot with
      | none => rfl
      | some s => rw [hp] at hs; simp at hs
  · cases h
theorem add_zero' (p : Addr) : p.add 0 = p := by simp [Addr.add]
/-- A row that has room lies somewhere. -/
theorem row_at (H : Rows0 W a len cap R L C Z) {r : Nat} (hr : r < len) (hC : C r ≠ 0) : ∃ a', R r = some a' ∧ a'.spot = none ∧ ∃ c t fz, W.heap[a'.block]? = some (.cells c t fz) := by
  obtain ⟨_, _, _, hn, hc⟩ := H.at_ r hr
  cases hR : R r with
  | none => exact absurd (hn hR) hC
  | some a' =>
    have := hc a' hR 0 (by omega)
    rw [add_zero'] at this
    obtain ⟨h1, h2⟩ := cell_blk this
    exact ⟨a', rfl, h1, h2⟩
theorem row_rel (H : Rows0 W a len cap R L C Z) {r : Nat} (hr : r < len) : VRel Try.prog (inLR a len R C) (rowV R L C r) (.slice (R r) (L r) (C r)) := by
  obtain ⟨_, hLC, _, hn, _⟩ := H.at_ r hr
  unfold rowV
  cases hR : R r with
  | none => exact .slice0 _ _
  | some a' =>
    refine .slice ?_
    by_cases hC : C r = 0
    · exact .inr ⟨by omega, hC, rfl, ⟨a.block, 0, some (0, 0)⟩, (0, 0), by simp [inLR, hr, hC], rfl⟩
    · obtain ⟨a'', e, hs, _⟩ := row_at H hr hC
      rw [hR] at e; cases e
      exact .inl ⟨⟨rfl, hs, ⟨a'.block, a'.off, none⟩, by simp [inLR, hr, hC, hR], rfl, by simp⟩, .inl rfl⟩
theorem sim_inL (H : Rows0 W a len cap R L C Z) : Sim Try.prog W.heap.size (inLR a len R C) (inL len R L C Z) W where
  obj k e o hb ho := by
    rcases inL_cases ho with ⟨hk, rfl⟩ | ⟨rfl, rfl⟩
    · unfold rowObj
      by_cases hC : C k = 0
      · rw [if_pos hC]; exact .inl ⟨rfl, rfl⟩
      · rw [if_neg hC]
        obtain ⟨a', hR, hs, c, t, fz, hc⟩ := row_at H hk hC
        simp only [inLR, hk, if_true, hC, if_false, hR, Option.map_some, Option.some.injEq] at hb
        subst hb
        refine .inr ⟨c, t, fz, hc, fun i x hx => ?_, .inr (.inr ⟨rfl, by simp [ints]⟩), fun hn => absurd (Nat.succ_pos _) hn, fun hf => by simp at hf, fun _ => rfl⟩
        obtain ⟨_, hLC, hZ, _, hcell⟩ := H.at_ k hk
        rw [ints_at] at hx
        obtain ⟨z, hz, rfl⟩ := Option.map_eq_some_iff.1 hx
        unfold rowL at hz
        rw [List.getElem?_take] at hz
        split at hz
        · rename_i hi
          have := hcell a' hR i (by omega)
          rw [cell_add hc hs] at this
          refine ⟨_, by rw [Nat.add_comm]; exact this, ?_⟩
          rw [List.getD_eq_getElem?_getD, hz]
          exact .int _ _
        · cases hz
    · simp only [inLR, Nat.lt_irrefl, if_false, if_true, Option.some.injEq] at hb
      subst hb
      obtain ⟨c, t, fz, hc⟩ := H.blk
      refine .inr ⟨c, t, fz, hc, fun i x hx => ?_, .inr (.inr ⟨rfl, by simp [rowsV]⟩), fun hn => absurd (Nat.succ_pos _) hn, fun hf => by simp at hf, fun _ => rfl⟩
      simp only [rowsV, List.getElem?_toArray, List.getElem?_map, Option.map_eq_some_iff] at hx
      obtain ⟨r, hr, rfl⟩ := hx
      have hrl := List.mem_range.1 (List.mem_of_getElem? hr)
      obtain rfl : i = r := by
        obtain ⟨h1, h2⟩ := List.getElem?_eq_some_iff.1 hr
        simpa using h2
      have := (H.at_ i hrl).1
      rw [cell_add hc H.spot] at this
      exact ⟨_, by rw [Nat.add_comm]; exact this, row_rel H hrl⟩
  inj b b' e e' o o' _ _ ho _ hw := by rw [inL_ro b o ho] at hw; cases hw
  dom k e hb := by
    unfold inLR at hb
    obtain ⟨c, t, fz, hc⟩ := H.blk
    have ha : a.block < W.heap.size := lt_of_some hc
    split at hb
    · rename_i hk
      split at hb
      · cases hb; exact ha
      · rename_i hC
        obtain ⟨a', hR, _, c', t', fz', hc'⟩ := row_at H hk hC
        rw [hR] at hb
        cases hb; exact lt_of_some hc'
    · split at hb
      · cases hb; exact ha
      · cases hb
  lo := Nat.le_refl _
theorem inL_reads {F F' : Foot} {A' : World} (H : Rows0 W a len cap R L C Z) (S : Step F (inL len R L C Z) F' A') : RdV A' (some ⟨len, 0, none⟩) (rowsV len R L C) ∧
    ∀ (i : Nat) (v : Value) (l : List Int), (rowsV len R L C)[i]? = some v → (rowsL len L Z)[i]? = some l → ∃ p c, v = .slice p l.length c ∧ Rd A' p l := by
  have hlast : A'.heap[len]? = some (.cells (rowsV len R L C).toArray 22 (0, len + 1)) := by
    rw [S.ro len ⟨_, _, _, inL_last, Nat.succ_pos _⟩]; exact inL_last
  refine ⟨fun i x hx => ⟨_, rfl, ?_⟩, fun i v l hv hl => ?_⟩
  · rw [cell_add (a := ⟨len, 0, none⟩) hlast rfl]
    simpa using hx
  · simp only [rowsV, rowsL, List.getElem?_map, Option.map_eq_some_iff] at hv hl
    obtain ⟨r, hr, rfl⟩ := hv
    obtain ⟨r', hr', rfl⟩ := hl
    rw [hr] at hr'; cases hr'
    have hrl : r < len := List.mem_range.1 (List.mem_of_getElem? hr)
    obtain ⟨_, hLC, hZ, hn, _⟩ := H.at_ r hrl
    have hlen : (rowL L Z r).length = L r := by unfold rowL; rw [List.length_take]; omega
    by_cases hC : C r = 0
    · have h0 : rowL L Z r = [] := List.eq_nil_of_length_eq_zero (by omega)
      unfold rowV
      rw [hlen]
      split
      · exact ⟨_, _, rfl, fun i x hx => by rw [h0] at hx; simp at hx⟩
      · exact ⟨_, _, rfl, fun i x hx => by rw [h0] at hx; simp at hx⟩
    · obtain ⟨a', hR, _⟩ := row_at H hrl hC
      have hrow : (inL len R L C Z).heap[r]? = some (.cells (ints (rowL L Z r)) 3 (0, (rowL L Z r).length + 1)) := by
        rw [inL_row hrl, rowObj, if_neg hC]
      have hrow' : A'.heap[r]? = some (.cells (ints (rowL L Z r)) 3 (0, (rowL L Z r).length + 1)) := by
        rw [S.ro r ⟨_, _, _, hrow, Nat.succ_pos _⟩]; exact hrow
      unfold rowV
      rw [hR, hlen]
      refine ⟨_, _, rfl, fun i x hx => ⟨_, rfl, ?_⟩⟩
      rw [cell_add (a := ⟨r, 0, none⟩) hrow' rfl, ints_at]
      simp [hx]
end
theorem nothing {A : World} : Asn.all [lstG 22 (.slice none 0 0) [], lines 3 [] [], lstV 3 (.slice none 0 0) []] (fun _ => False) A :=
  ⟨_, fun _ => False, .inl ⟨rfl, rfl, fun _ h => h⟩, ⟨fun _ => False, fun _ => False, fun _ h => h, .inl ⟨rfl, rfl, fun _ h => h⟩, fun _ h => h.elim, fun _ => by simp⟩, fun _ h => h.elim, fun _ => by simp⟩
/-- The call, whatever it is handed. -/
theorem seqMerge_calls {W : World} {v : Value} {n : Int} (hv : v = .slice none 0 0 ∨ ∃ a len cap R L C Z, v = .slice (some a) len cap ∧ Rows0 W a len cap R L C Z) (hn : n < 9223372036854775808) :
    Calls Try.prog 4 #[v, .int .i64 n] W fun e W' => e = .returned (.bool true) ∧ Below W.heap.size W W' := by
  rcases hv with rfl | ⟨a, len, cap, R, L, C, Z, rfl, H⟩
  · obtain ⟨A', h⟩ := merge_law (n₀ := W.heap.size) (A := inW 3 []) (F := fun _ => False) (q := none) (c0 := 0) (vs := []) (ls := []) (n := n) rfl hn (fun _ => ⟨fun i x hx => by simp at hx, fun i v l hv => by simp at hv⟩) nothing
    exact ro_call h rfl (sim_in (ls := []) (fun p hp => by cases hp)) (vs2 (.slice0 _ _) (.int _ _)) in_free in_ro
  · have hl : (rowsV len R L C).length = (rowsL len L Z).length := by simp [rowsV, rowsL]
    obtain ⟨A', h⟩ := merge_law (n₀ := W.heap.size) (A := inL len R L C Z) (F := fun _ => False) (q := some ⟨len, 0, none⟩) (c0 := cap) (n := n) hl hn (fun S => inL_reads H S) nothing
    have hlen : (rowsV len R L C).length = len := by simp [rowsV]
    rw [hlen] at h
    exact ro_call h rfl (sim_inL H) (vs2 (.slice (.inl ⟨⟨rfl, H.spot, ⟨a.block, a.off, none⟩, by simp [inLR], rfl, by simp⟩, .inl rfl⟩)) (.int _ _)) inL_free inL_ro
theorem open_rows {W : World} {H : Type} {enc : TypeId × Value → H} {base : Nat} {v : Value} {d : DataW H} {ps : List MemPlace}
    (hval : Value.okWide Try.prog W .any base 34 v) (hd : DataW.Trod enc Try.prog W 0 (fun _ => true) true 34 v d ps) : v = .slice none 0 0 ∨ ∃ a len cap R L C Z, v = .slice (some a) len cap ∧ Rows0 W a len cap R L C Z := by
  have ht : Try.prog.underlying 34 = some (.slice 22) := rfl
  obtain ⟨fuel, hd⟩ := hd
  have hone : isOne v = true := by
    unfold Value.okWide at hval
    rw [ht] at hval
    simp only at hval
    unfold Cell.okWide at hval
    rw [ht] at hval
    simp only at hval
    unfold Cell.ok at hval
    rw [ht] at hval
    cases v <;> simp_all [isOne]
  rw [isOne_cells hone] at hd
  rcases Go.Deep.open_int_rows ht Try.underlying22 Try.underlying3 (by kernel_rfl) (by kernel_rfl) hd with ⟨h, _⟩ | ⟨a, len, cap, R, L, C, Z, h, _, hl, _, _, hr⟩
  · left; simpa using h
  · right
    have hv : v = .slice (some a) len cap := by simpa using h
    subst hv
    have hhas : W.has Try.prog .any base a 22 cap := by
      unfold Value.okWide at hval
      rw [ht] at hval
      simp only at hval
      unfold Cell.okWide at hval
      rw [ht] at hval
      simp only at hval
      unfold Cell.ok at hval
      rw [ht] at hval
      exact hval.2.2
    obtain ⟨_, hsp, row, cells, hsh, _⟩ := hhas
    unfold World.shape? at hsh
    split at hsh
    case h_2 => cases hsh
    rename_i c t' fz hb
    refine ⟨a, len, cap, R, L, C, Z, rfl, ⟨hsp, hl, ⟨c, t', fz, hb⟩, fun r hrl => ?_⟩⟩
    obtain ⟨h1, h2, _, h4, _, h6, h7⟩ := hr r (by omega)
    exact ⟨h1, h2, h4, h6, fun a' e c hc => (h7 a' e).2 c hc⟩

set_option maxRecDepth 100000 in
theorem seqMerge_lifted (os : Os) (started : os.Started) (H : Type) (enc : TypeId × Value → H) :
    ReturnsInHanded {} Try.checked os 4 .any (Rows.seqMergeSpec.pre6 enc Try.prog Try.f4 Rows.seqMergeRow.domain false) (Rows.seqMergeSpec.post enc Try.prog Try.f4 false true false false) := by
  refine returnsInHanded_of_change (C := Try.checked) own started (by kernel_rfl) Try.func4
    (ChangeSpec.witness6 (enc := enc) (C := Try.checked) false ⟨#[], #[.slice none 0 0, .int .i64 0], []⟩ 8 (by kernel_rfl) (by kernel_rfl) (by kernel_rfl) (by kernel_rfl)) ?_
  intro W base args ds gs before hval0 hW hcnd _
  have hW' := hW
  obtain ⟨p, q, hA0, hV, rfl, hfz, hnd⟩ := hW
  have hA : DataW.TrodAll enc Try.prog W 0 (fun _ => true) true Try.f4.params.toList args.toList ds p := hA0
  rw [Try.params4] at hA
  obtain ⟨v, v', d, d', p1, p2, rfl, rfl, rfl, hd, hd'⟩ := trodAll_two hA
  obtain ⟨rfl, rfl⟩ := trodVars_none hV
  have hv : Value.okWide Try.prog W .any base 34 v := hval0 0 34 v (by rw [Try.params4]; rfl) rfl
  have hv' : Value.okWide Try.prog W .any base 3 v' := hval0 1 3 v' (by rw [Try.params4]; rfl) rfl
  obtain ⟨n, rfl, rfl, rfl, hwf⟩ := open_int Try.underlying3 hv' hd'
  have hopen := open_rows hv hd
  clear hA0 hval0
  simp only [List.append_nil] at hW'
  have hlt : ∀ x ∈ p1, x.block < W.heap.size := fun x hx => hW'.lt x hx
  refine (seqMerge_calls hopen (lit_lt hwf).2).mono fun e W' ⟨he, hB⟩ => ?_
  subst he
  refine ⟨_, rfl, post_of_below (pa := p1 ++ []) (pv := []) hW' hB (fun _ _ _ => trodAll_mk1 (shut_bool Try.underlying4 true)) (fun sp hsp => ?_) (fun _ _ => rfl) (by simp)
    (ok_one (by kernel_rfl) rfl (okWide_bool_mk Try.underlying4 true))⟩
  show DataW.TrodAll enc Try.prog W' 0 sp true Try.f4.params.toList [v, .int .i64 n] [d, .lit (.int .i64 n)] (p1 ++ [])
  rw [Try.params4]
  exact trodAll_mk2 (WideElems.Trod_stays laidOut (by kernel_rfl) (of_decide_eq_true (by kernel_rfl)) hd (fun x hx => hB.same (hlt x hx)) (fun x hx => hsp x hx)) (shut_int Try.underlying3 hwf)

theorem seqMerge_holds : Rows.SeqMergeSaid :=
  OpenClaim.holds_of_wide 4 Try.f4 rfl rfl rfl rfl rfl rfl rfl ⟨rfl, rfl, rfl, rfl, rfl⟩ rfl rfl rfl rfl rfl (by kernel_rfl) Try.func4 (by kernel_rfl)
    (of_decide_eq_true (by kernel_rfl)) (by unfold Func.isWrapper; first | (rw [if_pos (by decide +kernel)]; kernel_rfl) | (rw [if_neg (by decide +kernel)]; exact ⟨rfl, rfl⟩))
    (fun os started H enc _ => seqMerge_lifted os started H enc)
end Go.Proofs.Ytipomlcnmaldkaa
