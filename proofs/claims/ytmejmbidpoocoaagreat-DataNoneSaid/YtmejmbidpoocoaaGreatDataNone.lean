/-
  asterismlaw12.DataNone answers true, whatever the machine draws; the call has no argument and nothing that was there turns. No condition.
-/
import Derived.Test.YtmejmbidpoocoaaGreatBgT2
namespace Go.Proofs.YtmejmbidpoocoaaGreat
open Go.ChangeShapes Go.WideShapes Go.ChangeAt Go.RowKit Go.Abs

set_option maxRecDepth 1000000 in
theorem dataNone_begun : tellsM Tryz.prog (knowTrue [33]) bgms 1000 8 [] (.bool true) = true := by decide +kernel
theorem dataNone_known : Known Tryz.prog (knowTrue [8]) := knownTrue fun f hf W => by
  have e : f = 8 := by simpa using hf
  subst e
  exact tellsM_ok good known11 bgok dataNone_begun W
set_option maxRecDepth 1000000 in
theorem dataNone_tells : tells Tryz.prog (knowTrue [8]) 1000 7 [] (.bool true) = true := by decide +kernel

theorem dataNone_calls (W : World) : Calls Tryz.prog 7 #[] W fun e W' => e = .returned (.bool true) ∧ Below W.heap.size W W' := tells_ok good dataNone_known dataNone_tells W

set_option maxRecDepth 100000 in
theorem dataNone_lifted (os : Os) (started : os.Started) (H : Type) (enc : TypeId × Value → H) :
    ReturnsInHanded {} Tryz.checked os 7 .any (Rows.dataNoneSpec.pre6 enc Tryz.prog Tryz.f7 Rows.dataNoneRow.domain false) (Rows.dataNoneSpec.post enc Tryz.prog Tryz.f7 false true false false) := by
  refine returnsInHanded_of_change (C := Tryz.checked) own started (by kernel_rfl) Tryz.func7
    (ChangeSpec.witness6 (enc := enc) (C := Tryz.checked) false ⟨#[], #[], []⟩ 8 (by kernel_rfl) (by kernel_rfl) (by kernel_rfl) (by kernel_rfl)) ?_
  intro W base args ds gs before hval0 hW hcnd _
  have hW' := hW
  obtain ⟨p, q, hA0, hV, rfl, hfz, hnd⟩ := hW
  have hA : DataW.TrodAll enc Tryz.prog W 0 (fun _ => true) true Tryz.f7.params.toList args.toList ds p := hA0
  rw [Tryz.params7] at hA
  obtain ⟨rfl, rfl, rfl⟩ := trodAll_none hA
  obtain ⟨rfl, rfl⟩ := trodVars_none hV
  clear hA0 hval0
  simp only [List.append_nil] at hW'
  refine (dataNone_calls W).mono fun e W' ⟨he, hB⟩ => ?_
  subst he
  exact ⟨_, rfl, post_of_below (pa := []) (pv := []) hW' hB (fun _ _ _ => trodAll_mk1 (shut_bool Tryz.underlying4 true)) (fun _ _ => trodAll_mk0) (fun _ _ => rfl) rfl
    (ok_one (by kernel_rfl) rfl (okWide_bool_mk Tryz.underlying4 true))⟩

theorem dataNone_holds : Rows.DataNoneSaid :=
  OpenClaim.holds_of_wide 7 Tryz.f7 rfl rfl rfl rfl rfl rfl rfl ⟨rfl, rfl, rfl, rfl, rfl⟩ rfl rfl rfl rfl rfl (by kernel_rfl) Tryz.func7 (by kernel_rfl)
    (of_decide_eq_true (by kernel_rfl)) (by unfold Func.isWrapper; first | (rw [if_pos (by decide +kernel)]; kernel_rfl) | (rw [if_neg (by decide +kernel)]; exact ⟨rfl, rfl⟩))
    (fun os started H enc _ => dataNone_lifted os started H enc)

end Go.Proofs.YtmejmbidpoocoaaGreat
