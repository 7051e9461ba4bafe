/-
  Lists of whole numbers that are handed in, of which the first sixty are looked at: as parts of a canonical world.
-/
import Derived.Test.YtfkdkfleaiaoiaaBase
import Derived.Test.YtfkdkfleaiaoiaaM10
import Derived.Test.YtfkdkfleaiaoiaaB17
import Derived.Test.YtfkdkfleaiaoiaaM14
namespace Go.Proofs.Ytfkdkfleaiaoiaa
open Go.ChangeShapes Go.WideShapes Go.ChangeAt Go.RowKit Go.Abs
theorem lit_lt {n : Int} (h : (Lit.int .i64 n).wf = true) : -9223372036854775808 ≤ n ∧ n < 9223372036854775808 := by
  have e1 : IntKind.min .i64 = -9223372036854775808 := rfl
  have e2 : IntKind.max .i64 = 9223372036854775807 := rfl
  simp only [Lit.wf, e1, e2, Bool.and_eq_true, decide_eq_true_eq] at h
  omega
theorem laidOut : laidOutB Try.prog = true := by kernel_rfl
theorem vs3 {ι : Ren} {a b c a' b' c' : Value} (h : VRel Try.prog ι a a') (k : VRel Try.prog ι b b') (m : VRel Try.prog ι c c') : Vs Try.prog ι #[a, b, c] #[a', b', c'] := ⟨rfl, fun i x x' hx hx' => by
  match i, hx, hx' with
  | 0, hx, hx' => cases hx; cases hx'; exact h
  | 1, hx, hx' => cases hx; cases hx'; exact k
  | 2, hx, hx' => cases hx; cases hx'; exact m
  | n + 3, hx, _ => simp at hx⟩
section
variable {W : World}
def ArgT (ls : List (List Int × Addr)) (v : Value) (k : Nat) (z : Bool) (l : List Int) (c : Nat) : Prop :=
  (z = true ∧ v = .slice none 0 0 ∧ l = [] ∧ c = 0) ∨ (z = false ∧ ∃ a, ls[k]? = some (l.take 60, a) ∧ l.length ≤ c ∧ v = .slice (some a) l.length c)
theorem lies_take {l : List Int} {a : Addr} {k : Nat} (h : Lies W l a) : Lies W (l.take k) a := by
  obtain ⟨h1, c, t, fz, h2, h3⟩ := h
  exact ⟨h1, c, t, fz, h2, fun i x hx => h3 i x (by
    rw [List.getElem?_take] at hx
    split at hx
    · exact hx
    · cases hx)⟩
theorem argT_add {ls : List (List Int × Addr)} {v : Value} (h : AllLie W ls) (hv : OpenInts W v) : ∃ ls' k z l c, AllLie W ls' ∧ (∀ (k : Nat) q, ls[k]? = some q → ls'[k]? = some q) ∧ ArgT ls' v k z l c := by
  rcases hv with rfl | ⟨a, cap, l, rfl, hc, hL⟩
  · exact ⟨ls, 0, true, [], 0, h, fun _ _ h => h, .inl ⟨rfl, rfl, rfl, rfl⟩⟩
  · refine ⟨ls ++ [(l.take 60, a)], ls.length, false, l, cap, fun p hp => ?_, fun k q hq => ?_, .inr ⟨rfl, a, by simp, hc, rfl⟩⟩
    · rcases List.mem_append.1 hp with hp | hp
      · exact h p hp
      · simp only [List.mem_cons, List.not_mem_nil, or_false] at hp
        subst hp; exact lies_take hL
    · rw [List.getElem?_append_left (List.getElem?_eq_some_iff.1 hq).1]; exact hq
theorem ArgT.mono {ls ls' : List (List Int × Addr)} {v : Value} {k c : Nat} {z : Bool} {l : List Int} (h : ArgT ls v k z l c) (m : ∀ (k : Nat) q, ls[k]? = some q → ls'[k]? = some q) : ArgT ls' v k z l c := by
  rcases h with h | ⟨h0, a, h1, h2⟩
  · exact .inl h
  · exact .inr ⟨h0, a, m _ _ h1, h2⟩
theorem ArgT.fits {ls : List (List Int × Addr)} {v : Value} {k c : Nat} {z : Bool} {l : List Int} (h : ArgT ls v k z l c) : l.length ≤ c := by
  rcases h with ⟨_, _, rfl, rfl⟩ | ⟨_, _, _, h, _⟩
  · exact Nat.le_refl _
  · exact h
theorem ArgT.nil {ls : List (List Int × Addr)} {v : Value} {k c : Nat} {z : Bool} {l : List Int} (h : ArgT ls v k z l c) (e : z = true) : l.length = 0 := by
  rcases h with ⟨_, _, rfl, _⟩ | ⟨h, _⟩
  · rfl
  · rw [e] at h; cases h
theorem ArgT.vec {ls : List (List Int × Addr)} {v : Value} {k c : Nat} {z : Bool} {l : List Int} (h : ArgT ls v k z l c) (g : Nat) : ∃ G : Ft, (∀ b, ¬ G.own b) ∧ (Ch.den (.vec g k 1 eI (0 : Int) (l.take 60) 3 .imm z)).p G (inW 3 ls) := by
  rcases h with ⟨rfl, _, rfl, _⟩ | ⟨rfl, a, h1, _⟩
  · exact ⟨Ft.no, fun _ h => h, rfl, rfl⟩
  · exact ⟨⟨fun _ => False, fun b => b = k⟩, fun _ h => h, fun _ => rfl, fun b => by simp [Md.mine], fun b => by simp [Md.mine], (0, (l.take 60).length + 1), by simp [Md.fz], by rw [← ints_v]; simp [inW, h1]⟩
theorem ArgT.rel {ls : List (List Int × Addr)} {v : Value} {k c : Nat} {z : Bool} {l : List Int} (h : ArgT ls v k z l c) (hl : AllLie W ls) (g : Nat) : VRel Try.prog (Go.Abs.inR ls) (SV.den (.o (.s g k 1 0 l.length c z))) v := by
  rcases h with ⟨rfl, rfl, rfl, rfl⟩ | ⟨rfl, a, h1, _, rfl⟩
  · exact .slice0 _ _
  · have : SV.den (.o (.s g k 1 0 l.length c false)) = .slice (some ⟨k, 0, none⟩) l.length c := by
      show Value.slice (some ⟨k, 0 * 1, none⟩) _ _ = _
      rw [Nat.zero_mul]
    rw [this]
    exact in_slice h1 (hl _ (List.mem_of_getElem? h1))
theorem two_in {a b : Ch} {G H : Ft} {A : World} (h1 : a.den.p G A) (h2 : b.den.p H A) (o1 : ∀ b, ¬ G.own b) (o2 : ∀ b, ¬ H.own b) : (hpA [a, b]).p (Ft.un G H) A :=
  ⟨G, H, h1, As.addE h2, ⟨fun _ => Iff.rfl, fun _ => Iff.rfl, fun b h => (o1 b h).elim, fun b h => (o1 b h).elim, fun b _ h => (o2 b h).elim⟩⟩
end
end Go.Proofs.Ytfkdkfleaiaoiaa
/-
  asterismlaw7.BitmapAll answers true whatever it is handed, whatever the machine draws, and what it is handed reads behind the call as it did. No condition.
-/
namespace Go.Proofs.Ytfkdkfleaiaoiaa
open Go.ChangeShapes Go.WideShapes Go.ChangeAt Go.RowKit Go.Abs
/-- The call, whatever it is handed. -/
theorem bitmapAll_calls {W : World} {v w : Value} {i : Int} (hv : OpenInts W v) (hw : OpenInts W w) :
    Calls Try.prog 3 #[v, w, .int .i64 i] W fun e W' => e = .returned (.bool true) ∧ Below W.heap.size W W' := by
  obtain ⟨m1, k1, z1, l1, c1, g1, _, h1⟩ := argT_add allLie_nil hv
  obtain ⟨m2, k2, z2, l2, c2, g2, j2, h2⟩ := argT_add g1 hw
  have h1 := h1.mono j2
  obtain ⟨G, o1, p1⟩ := h1.vec 1
  obtain ⟨H, o2, p2⟩ := h2.vec 2
  obtain ⟨_, A', F', _, h, _, _⟩ := all_law (n₀ := W.heap.size) (i := i) h1.nil h2.nil h1.fits h2.fits _ (inW 3 m2) (two_in p1 p2 o1 o2)
  exact ro_call h rfl (sim_in g2) (vs3 (h1.rel g2 1) (h2.rel g2 2) (.int _ _)) in_free in_ro

set_option maxRecDepth 100000 in
theorem bitmapAll_lifted (os : Os) (started : os.Started) (H : Type) (enc : TypeId × Value → H) :
    ReturnsInHanded {} Try.checked os 3 .any (Rows.bitmapAllSpec.pre6 enc Try.prog Try.f3 Rows.bitmapAllRow.domain false) (Rows.bitmapAllSpec.post enc Try.prog Try.f3 false true false false) := by
  refine returnsInHanded_of_change (C := Try.checked) own started (by kernel_rfl) Try.func3
    (ChangeSpec.witness6 (enc := enc) (C := Try.checked) false ⟨#[], #[.slice none 0 0, .slice none 0 0, .int .i64 0], []⟩ 8 (by kernel_rfl) (by kernel_rfl) (by kernel_rfl) (by kernel_rfl)) ?_
  intro W base args ds gs before hval0 hW hcnd _
  have hW' := hW
  obtain ⟨p, q, hA0, hV, rfl, hfz, hnd⟩ := hW
  have hA : DataW.TrodAll enc Try.prog W 0 (fun _ => true) true Try.f3.params.toList args.toList ds p := hA0
  rw [Try.params3] at hA
  obtain ⟨v, v', v'', d, d', d'', p1, p2, p3, rfl, rfl, rfl, hd, hd', hd''⟩ := trodAll_three hA
  obtain ⟨rfl, rfl⟩ := trodVars_none hV
  have hv : Value.okWide Try.prog W .any base 22 v := hval0 0 22 v (by rw [Try.params3]; rfl) rfl
  have hv' : Value.okWide Try.prog W .any base 22 v' := hval0 1 22 v' (by rw [Try.params3]; rfl) rfl
  have hv'' : Value.okWide Try.prog W .any base 3 v'' := hval0 2 3 v'' (by rw [Try.params3]; rfl) rfl
  obtain ⟨k, rfl, rfl, rfl, hwf'⟩ := open_int Try.underlying3 hv'' hd''
  have hopen := open_ints Try.underlying22 Try.underlying3 (by kernel_rfl) hv hd
  have hopen' := open_ints Try.underlying22 Try.underlying3 (by kernel_rfl) hv' hd'
  clear hA0 hval0
  simp only [List.append_nil] at hW'
  have hlt : ∀ x ∈ p1 ++ p2, x.block < W.heap.size := fun x hx => hW'.lt x (by simpa [List.append_assoc] using hx)
  refine (bitmapAll_calls hopen hopen').mono fun e W' ⟨he, hB⟩ => ?_
  subst he
  refine ⟨_, rfl, post_of_below (pa := p1 ++ (p2 ++ [])) (pv := []) hW' hB (fun _ _ _ => trodAll_mk1 (shut_bool Try.underlying4 true)) (fun sp hsp => ?_) (fun _ _ => rfl) (by simp)
    (ok_one (by kernel_rfl) rfl (okWide_bool_mk Try.underlying4 true))⟩
  show DataW.TrodAll enc Try.prog W' 0 sp true Try.f3.params.toList [v, v', .int .i64 k] [d, d', .lit (.int .i64 k)] (p1 ++ (p2 ++ []))
  rw [Try.params3]
  exact trodAll_mk3 (WideElems.Trod_stays laidOut (by kernel_rfl) (of_decide_eq_true (by kernel_rfl)) hd (fun x hx => hB.same (hlt x (by simp [hx]))) (fun x hx => hsp x (by simp [hx])))
    (WideElems.Trod_stays laidOut (by kernel_rfl) (of_decide_eq_true (by kernel_rfl)) hd' (fun x hx => hB.same (hlt x (by simp [hx]))) (fun x hx => hsp x (by simp [hx])))
    (shut_int Try.underlying3 hwf')

theorem bitmapAll_holds : Rows.BitmapAllSaid :=
  OpenClaim.holds_of_wide 3 Try.f3 rfl rfl rfl rfl rfl rfl rfl ⟨rfl, rfl, rfl, rfl, rfl⟩ rfl rfl rfl rfl rfl (by kernel_rfl) Try.func3 (by kernel_rfl)
    (of_decide_eq_true (by kernel_rfl)) (by unfold Func.isWrapper; first | (rw [if_pos (by decide +kernel)]; kernel_rfl) | (rw [if_neg (by decide +kernel)]; exact ⟨rfl, rfl⟩))
    (fun os started H enc _ => bitmapAll_lifted os started H enc)
end Go.Proofs.Ytfkdkfleaiaoiaa
