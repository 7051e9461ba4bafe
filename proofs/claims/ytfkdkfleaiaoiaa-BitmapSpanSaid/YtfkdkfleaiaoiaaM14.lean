/-
  Lists of whole numbers that are handed in, of which the first sixty are looked at: as parts of a canonical world.
-/
import Derived.Test.YtfkdkfleaiaoiaaBase
import Derived.Test.YtfkdkfleaiaoiaaM10
import Derived.Test.YtfkdkfleaiaoiaaB17
import Derived.Test.YtfkdkfleaiaoiaaM13
import Derived.Test.YtfkdkfleaiaoiaaB18
namespace Go.Proofs.Ytfkdkfleaiaoiaa
open Go.ChangeShapes Go.WideShapes Go.ChangeAt Go.RowKit Go.Abs
theorem lit_lt {n : Int} (h : (Lit.int .i64 n).wf = true) : -9223372036854775808 ≤ n ∧ n < 9223372036854775808 := by
  have e1 : IntKind.min .i64 = -9223372036854775808 := rfl
  have e2 : IntKind.max .i64 = 9223372036854775807 := rfl
  simp only [Lit.wf, e1, e2, Bool.and_eq_true, decide_eq_true_eq] at h
  omega
theorem laidOut : laidOutB Try.prog = true := by kernel_rfl
theorem vs3 {ι : Ren} {a b c a' b' c' : Value} (h : VRel Try.prog ι a a') (k : VRel Try.prog ι b b') (m : VRel Try.prog ι c c') : Vs Try.prog ι #[a, b, c] #[a', b', c'] := ⟨rfl, fun i x x' hx hx' => by
  match i, hx, hx' with
  | 0, hx, hx' => cases hx; cases hx'; exact h
  | 1, hx, hx' => cases hx; cases hx'; exact k
  | 2, hx, hx' => cases hx; cases hx'; exact m
  | n + 3, hx, _ => simp at hx⟩
section
variable {W : World}
def ArgT (ls : List (List Int × Addr)) (v : Value) (k : Nat) (z : Bool) (l : List Int) (c : Nat) : Prop :=
  (z = true ∧ v = .slice none 0 0 ∧ l = [] ∧ c = 0) ∨ (z = false ∧ ∃ a, ls[k]? = some (l.take 60, a) ∧ l.length ≤ c ∧ v = .slice (some a) l.length c)
theorem lies_take {l : List Int} {a : Addr} {k : Nat} (h : Lies W l a) : Lies W (l.take k) a := by
  obtain ⟨h1, c, t, fz, h2, h3⟩ := h
  exact ⟨h1, c, t, fz, h2, fun i x hx => h3 i x (by
    rw [List.getElem?_take] at hx
    split at hx
    · exact hx
    · cases hx)⟩
theorem argT_add {ls : List (List Int × Addr)} {v : Value} (h : AllLie W ls) (hv : OpenInts W v) : ∃ ls' k z l c, AllLie W ls' ∧ (∀ (k : Nat) q, ls[k]? = some q → ls'[k]? = some q) ∧ ArgT ls' v k z l c := by
  rcases hv with rfl | ⟨a, cap, l, rfl, hc, hL⟩
  · exact ⟨ls, 0, true, [], 0, h, fun _ _ h => h, .inl ⟨rfl, rfl, rfl, rfl⟩⟩
  · refine ⟨ls ++ [(l.take 60, a)], ls.length, false, l, cap, fun p hp => ?_, fun k q hq => ?_, .inr ⟨rfl, a, by simp, hc, rfl⟩⟩
    · rcases List.mem_append.1 hp with hp | hp
      · exact h p hp
      · simp only [List.mem_cons, List.not_mem_nil, or_false] at hp
        subst hp; exact lies_take hL
    · rw [List.getElem?_append_left (List.getElem?_eq_some_iff.1 hq).1]; exact hq
theorem ArgT.mono {ls ls' : List (List Int × Addr)} {v : Value} {k c : Nat} {z : Bool} {l : List Int} (h : ArgT ls v k z l c) (m : ∀ (k : Nat) q, ls[k]? = some q → ls'[k]? = some q) : ArgT ls' v k z l c := by
  rcases h with h | ⟨h0, a, h1, h2⟩
  · exact .inl h
  · exact .inr ⟨h0, a, m _ _ h1, h2⟩
theorem ArgT.fits {ls : List (List Int × Addr)} {v : Value} {k c : Nat} {z : Bool} {l : List Int} (h : ArgT ls v k z l c) : l.length ≤ c := by
  rcases h with ⟨_, _, rfl, rfl⟩ | ⟨_, _, _, h, _⟩
  · exact Nat.le_refl _
  · exact h
theorem ArgT.nil {ls : List (List Int × Addr)} {v : Value} {k c : Nat} {z : Bool} {l : List Int} (h : ArgT ls v k z l c) (e : z = true) : l.length = 0 := by
  rcases h with ⟨_, _, rfl, _⟩ | ⟨h, _⟩
  · rfl
  · rw [e] at h; cases h
theorem ArgT.vec {ls : List (List Int × Addr)} {v : Value} {k c : Nat} {z : Bool} {l : List Int} (h : ArgT ls v k z l c) (g : Nat) : ∃ G : Ft, (∀ b, ¬ G.own b) ∧ (Ch.den (.vec g k 1 eI (0 : Int) (l.take 60) 3 .imm z)).p G (inW 3 ls) := by
  rcases h with ⟨rfl, _, rfl, _⟩ | ⟨rfl, a, h1, _⟩
  · exact ⟨Ft.no, fun _ h => h, rfl, rfl⟩
  · exact ⟨⟨fun _ => False, fun b => b = k⟩, fun _ h => h, fun _ => rfl, fun b => by simp [Md.mine], fun b => by simp [Md.mine], (0, (l.take 60).length + 1), by simp [Md.fz], by rw [← ints_v]; simp [inW, h1]⟩
theorem ArgT.rel {ls : List (List Int × Addr)} {v : Value} {k c : Nat} {z : Bool} {l : List Int} (h : ArgT ls v k z l c) (hl : AllLie W ls) (g : Nat) : VRel Try.prog (Go.Abs.inR ls) (SV.den (.o (.s g k 1 0 l.length c z))) v := by
  rcases h with ⟨rfl, rfl, rfl, rfl⟩ | ⟨rfl, a, h1, _, rfl⟩
  · exact .slice0 _ _
  · have : SV.den (.o (.s g k 1 0 l.length c false)) = .slice (some ⟨k, 0, none⟩) l.length c := by
      show Value.slice (some ⟨k, 0 * 1, none⟩) _ _ = _
      rw [Nat.zero_mul]
    rw [this]
    exact in_slice h1 (hl _ (List.mem_of_getElem? h1))
theorem two_in {a b : Ch} {G H : Ft} {A : World} (h1 : a.den.p G A) (h2 : b.den.p H A) (o1 : ∀ b, ¬ G.own b) (o2 : ∀ b, ¬ H.own b) : (hpA [a, b]).p (Ft.un G H) A :=
  ⟨G, H, h1, As.addE h2, ⟨fun _ => Iff.rfl, fun _ => Iff.rfl, fun b h => (o1 b h).elim, fun b h => (o1 b h).elim, fun b _ h => (o2 b h).elim⟩⟩
end
end Go.Proofs.Ytfkdkfleaiaoiaa
/-
  asterismlaw7.BitmapSpan answers true whatever it is handed, whatever the machine draws, and what it is handed reads behind the call as it did. No condition.
-/
namespace Go.Proofs.Ytfkdkfleaiaoiaa
open Go.ChangeShapes Go.WideShapes Go.ChangeAt Go.RowKit Go.Abs
theorem vs2 {ι : Ren} {a b a' b' : Value} (h : VRel Try.prog ι a a') (k : VRel Try.prog ι b b') : Vs Try.prog ι #[a, b] #[a', b'] := ⟨rfl, fun i x x' hx hx' => by
  match i, hx, hx' with
  | 0, hx, hx' => cases hx; cases hx'; exact h
  | 1, hx, hx' => cases hx; cases hx'; exact k
  | n + 2, hx, _ => simp at hx⟩
/-- What a row's reading says of a slice of pairs. -/
def OpenPairs (W : World) (v : Value) : Prop := v = .slice none 0 0 ∨ ∃ a cap l, v = .slice (some a) (List.length l) cap ∧ l.length ≤ cap ∧ LiesC W (pairCells l) a
theorem pair_v (l : List (Int × Int)) : pairCells l = vcells eP l := by
  unfold pairCells vcells
  congr 1
/-- The call, whatever it is handed. -/
theorem bitmapSpan_calls {W : World} {v : Value} {i : Int} (hv : OpenPairs W v) :
    Calls Try.prog 5 #[v, .int .i64 i] W fun e W' => e = .returned (.bool true) ∧ Below W.heap.size W W' := by
  rcases hv with rfl | ⟨a, cap, l, rfl, _, hL⟩
  · obtain ⟨_, A', F', _, h, _, _⟩ := span_law (n₀ := W.heap.size) (q := 0) (c := 0) (z := true) (l := []) (i := i) (fun _ => rfl) Ft.no (inC []) (As.addE ⟨rfl, rfl⟩)
    exact ro_call h rfl (sim_inC (ls := []) (fun p hp => by cases hp)) (vs2 (.slice0 _ _) (.int _ _)) inC_free inC_ro
  · obtain ⟨_, A', F', _, h, _, _⟩ := span_law (n₀ := W.heap.size) (q := 0) (c := cap) (z := false) (l := l) (i := i) (fun h => by cases h) ⟨fun _ => False, fun b => b = 0⟩ (inC [((pairCells l, 42), a)])
      (As.addE ⟨fun _ => rfl, fun b => by simp [Md.mine], fun b => by simp [Md.mine], (0, (pairCells l).size + 1), by simp [Md.fz], by rw [← pair_v]; exact inC_get (p := ((pairCells l, 42), a)) rfl⟩)
    exact ro_call h rfl (sim_inC (ls := [((pairCells l, 42), a)]) (fun p hp => by simp only [List.mem_cons, List.not_mem_nil, or_false] at hp; subst hp; exact hL)) (vs2 (inC_rel (k := 0) (p := ((pairCells l, 42), a)) rfl hL) (.int _ _)) inC_free inC_ro

set_option maxRecDepth 100000 in
theorem bitmapSpan_lifted (os : Os) (started : os.Started) (H : Type) (enc : TypeId × Value → H) :
    ReturnsInHanded {} Try.checked os 5 .any (Rows.bitmapSpanSpec.pre6 enc Try.prog Try.f5 Rows.bitmapSpanRow.domain false) (Rows.bitmapSpanSpec.post enc Try.prog Try.f5 false true false false) := by
  refine returnsInHanded_of_change (C := Try.checked) own started (by kernel_rfl) Try.func5
    (ChangeSpec.witness6 (enc := enc) (C := Try.checked) false ⟨#[], #[.slice none 0 0, .int .i64 0], []⟩ 8 (by kernel_rfl) (by kernel_rfl) (by kernel_rfl) (by kernel_rfl)) ?_
  intro W base args ds gs before hval0 hW hcnd _
  have hW' := hW
  obtain ⟨p, q, hA0, hV, rfl, hfz, hnd⟩ := hW
  have hA : DataW.TrodAll enc Try.prog W 0 (fun _ => true) true Try.f5.params.toList args.toList ds p := hA0
  rw [Try.params5] at hA
  obtain ⟨v, v', d, d', p1, p2, rfl, rfl, rfl, hd, hd'⟩ := trodAll_two hA
  obtain ⟨rfl, rfl⟩ := trodVars_none hV
  have hv : Value.okWide Try.prog W .any base 25 v := hval0 0 25 v (by rw [Try.params5]; rfl) rfl
  have hv' : Value.okWide Try.prog W .any base 3 v' := hval0 1 3 v' (by rw [Try.params5]; rfl) rfl
  obtain ⟨n, rfl, rfl, rfl, hwf⟩ := open_int Try.underlying3 hv' hd'
  have hopen := open_pairs Try.underlying25 Try.underlying42 Try.underlying3 (by kernel_rfl) (by kernel_rfl) hv hd
  clear hA0 hval0
  simp only [List.append_nil] at hW'
  have hlt : ∀ x ∈ p1, x.block < W.heap.size := fun x hx => hW'.lt x hx
  refine (bitmapSpan_calls hopen).mono fun e W' ⟨he, hB⟩ => ?_
  subst he
  refine ⟨_, rfl, post_of_below (pa := p1 ++ []) (pv := []) hW' hB (fun _ _ _ => trodAll_mk1 (shut_bool Try.underlying4 true)) (fun sp hsp => ?_) (fun _ _ => rfl) (by simp)
    (ok_one (by kernel_rfl) rfl (okWide_bool_mk Try.underlying4 true))⟩
  show DataW.TrodAll enc Try.prog W' 0 sp true Try.f5.params.toList [v, .int .i64 n] [d, .lit (.int .i64 n)] (p1 ++ [])
  rw [Try.params5]
  exact trodAll_mk2 (WideElems.Trod_stays laidOut (by kernel_rfl) (of_decide_eq_true (by kernel_rfl)) hd (fun x hx => hB.same (hlt x hx)) (fun x hx => hsp x (by simp [hx]))) (shut_int Try.underlying3 hwf)

theorem bitmapSpan_holds : Rows.BitmapSpanSaid :=
  OpenClaim.holds_of_wide 5 Try.f5 rfl rfl rfl rfl rfl rfl rfl ⟨rfl, rfl, rfl, rfl, rfl⟩ rfl rfl rfl rfl rfl (by kernel_rfl) Try.func5 (by kernel_rfl)
    (of_decide_eq_true (by kernel_rfl)) (by unfold Func.isWrapper; first | (rw [if_pos (by decide +kernel)]; kernel_rfl) | (rw [if_neg (by decide +kernel)]; exact ⟨rfl, rfl⟩))
    (fun os started H enc _ => bitmapSpan_lifted os started H enc)
end Go.Proofs.Ytfkdkfleaiaoiaa
