/-
  asterismlaw7.BitmapLaws answers true whatever it is handed, whatever the machine draws, and what it is handed reads behind the call as it did. No condition.
-/
import Derived.Test.YtfkdkfleaiaoiaaM10
import Derived.Test.YtfkdkfleaiaoiaaM5
import Derived.Test.YtfkdkfleaiaoiaaB17
namespace Go.Proofs.Ytfkdkfleaiaoiaa
open Go.ChangeShapes Go.WideShapes Go.ChangeAt Go.RowKit Go.Abs
/-- The call, whatever it is handed. -/
theorem bitmapLaws_calls {W : World} {a b c : Value} (ha : OpenInts W a) (hb : OpenInts W b) (hc : OpenInts W c) :
    Calls Try.prog 6 #[a, b, c] W fun e W' => e = .returned (.bool true) ∧ Below W.heap.size W W' := by
  obtain ⟨l1, p, l, n, g1, _, h1⟩ := arg_add allLie_nil ha
  obtain ⟨l2, p', l', n', g2, k2, h2⟩ := arg_add g1 hb
  obtain ⟨l3, p'', l'', n'', g3, k3, h3⟩ := arg_add g2 hc
  have h1 := (h1.mono k2).mono k3
  have h2 := h2.mono k3
  have r1 := h1.rd (t := 3)
  have r2 := h2.rd (t := 3)
  have r3 := h3.rd (t := 3)
  obtain ⟨A', h⟩ := laws_law (n₀ := W.heap.size) (A := inW 3 l3) h1.fits h1.nil r1.2.1 r1.2.2 h2.fits h2.nil r2.2.1 r2.2.2 h3.fits h3.nil r3.2.1 r3.2.2
  exact ro_call h rfl (sim_in g3) (vs3 (h1.rel g3) (h2.rel g3) (h3.rel g3)) in_free in_ro

set_option maxRecDepth 100000 in
theorem bitmapLaws_lifted (os : Os) (started : os.Started) (H : Type) (enc : TypeId × Value → H) :
    ReturnsInHanded {} Try.checked os 6 .any (Rows.bitmapLawsSpec.pre6 enc Try.prog Try.f6 Rows.bitmapLawsRow.domain false) (Rows.bitmapLawsSpec.post enc Try.prog Try.f6 false true false false) := by
  refine returnsInHanded_of_change (C := Try.checked) own started (by kernel_rfl) Try.func6
    (ChangeSpec.witness6 (enc := enc) (C := Try.checked) false ⟨#[], #[.slice none 0 0, .slice none 0 0, .slice none 0 0], []⟩ 8 (by kernel_rfl) (by kernel_rfl) (by kernel_rfl) (by kernel_rfl)) ?_
  intro W base args ds gs before hval0 hW hcnd _
  have hW' := hW
  obtain ⟨p, q, hA0, hV, rfl, hfz, hnd⟩ := hW
  have hA : DataW.TrodAll enc Try.prog W 0 (fun _ => true) true Try.f6.params.toList args.toList ds p := hA0
  rw [Try.params6] at hA
  obtain ⟨v, v', v'', d, d', d'', p1, p2, p3, rfl, rfl, rfl, hd, hd', hd''⟩ := trodAll_three hA
  obtain ⟨rfl, rfl⟩ := trodVars_none hV
  have hv : Value.okWide Try.prog W .any base 22 v := hval0 0 22 v (by rw [Try.params6]; rfl) rfl
  have hv' : Value.okWide Try.prog W .any base 22 v' := hval0 1 22 v' (by rw [Try.params6]; rfl) rfl
  have hv'' : Value.okWide Try.prog W .any base 22 v'' := hval0 2 22 v'' (by rw [Try.params6]; rfl) rfl
  have hopen := open_ints Try.underlying22 Try.underlying3 (by kernel_rfl) hv hd
  have hopen' := open_ints Try.underlying22 Try.underlying3 (by kernel_rfl) hv' hd'
  have hopen'' := open_ints Try.underlying22 Try.underlying3 (by kernel_rfl) hv'' hd''
  clear hA0 hval0
  simp only [List.append_nil] at hW'
  have hlt : ∀ x ∈ p1 ++ (p2 ++ p3), x.block < W.heap.size := fun x hx => hW'.lt x (by simpa [List.append_assoc] using hx)
  refine (bitmapLaws_calls hopen hopen' hopen'').mono fun e W' ⟨he, hB⟩ => ?_
  subst he
  refine ⟨_, rfl, post_of_below (pa := p1 ++ (p2 ++ p3)) (pv := []) hW' hB (fun _ _ _ => trodAll_mk1 (shut_bool Try.underlying4 true)) (fun sp hsp => ?_) (fun _ _ => rfl) (by simp)
    (ok_one (by kernel_rfl) rfl (okWide_bool_mk Try.underlying4 true))⟩
  show DataW.TrodAll enc Try.prog W' 0 sp true Try.f6.params.toList [v, v', v''] [d, d', d''] (p1 ++ (p2 ++ p3))
  rw [Try.params6]
  exact trodAll_mk3 (WideElems.Trod_stays laidOut (by kernel_rfl) (of_decide_eq_true (by kernel_rfl)) hd (fun x hx => hB.same (hlt x (by simp [hx]))) (fun x hx => hsp x (by simp [hx])))
    (WideElems.Trod_stays laidOut (by kernel_rfl) (of_decide_eq_true (by kernel_rfl)) hd' (fun x hx => hB.same (hlt x (by simp [hx]))) (fun x hx => hsp x (by simp [hx])))
    (WideElems.Trod_stays laidOut (by kernel_rfl) (of_decide_eq_true (by kernel_rfl)) hd'' (fun x hx => hB.same (hlt x (by simp [hx]))) (fun x hx => hsp x (by simp [hx])))

theorem bitmapLaws_holds : Rows.BitmapLawsSaid :=
  OpenClaim.holds_of_wide 6 Try.f6 rfl rfl rfl rfl rfl rfl rfl ⟨rfl, rfl, rfl, rfl, rfl⟩ rfl rfl rfl rfl rfl (by kernel_rfl) Try.func6 (by kernel_rfl)
    (of_decide_eq_true (by kernel_rfl)) (by unfold Func.isWrapper; first | (rw [if_pos (by decide +kernel)]; kernel_rfl) | (rw [if_neg (by decide +kernel)]; exact ⟨rfl, rfl⟩))
    (fun os started H enc _ => bitmapLaws_lifted os started H enc)
end Go.Proofs.Ytfkdkfleaiaoiaa
