/-
  asterismlaw15.LoadOrder answers true, whichever two truth values it is handed, whatever the machine draws; nothing that was there turns. No condition.
-/
import Derived.Test.YtfagmgocbfalbaaGreatBeg3
import Derived.Test.YtfagmgocbfalbaaGreatOrdT4
namespace Go.Proofs.YtfagmgocbfalbaaGreat
open Go.ChangeShapes Go.WideShapes Go.ChangeAt Go.RowKit Go.Abs

theorem loadOrder_known : Known Tryz.prog (knowTrue [12]) := knownTrue fun f hf W => by
  have e : f = 12 := by simpa using hf
  subst e
  exact calls_12 W
theorem loadOrder_ok : ∀ m ∈ ordms ++ stams, MemoOk Tryz.prog (knowTrue [12]) 2000 m := fun m hm => by
  simp only [List.mem_append] at hm
  exact MemoOk.know (know0_le _) (by
    rcases hm with hm | hm
    · exact MemoOk.mono (by decide) (ordok m hm)
    · exact MemoOk.mono (by decide) (staok m hm))
set_option maxRecDepth 1000000 in
theorem loadOrder_tt : tellsM Tryz.prog (knowTrue [12]) (ordms ++ stams) 1000 4 [.bool true, .bool true] (.bool true) = true := by decide +kernel
set_option maxRecDepth 1000000 in
theorem loadOrder_tf : tellsM Tryz.prog (knowTrue [12]) (ordms ++ stams) 1000 4 [.bool true, .bool false] (.bool true) = true := by decide +kernel
set_option maxRecDepth 1000000 in
theorem loadOrder_ft : tellsM Tryz.prog (knowTrue [12]) (ordms ++ stams) 1000 4 [.bool false, .bool true] (.bool true) = true := by decide +kernel
set_option maxRecDepth 1000000 in
theorem loadOrder_ff : tellsM Tryz.prog (knowTrue [12]) (ordms ++ stams) 1000 4 [.bool false, .bool false] (.bool true) = true := by decide +kernel

theorem loadOrder_calls (b c : Bool) (W : World) : Calls Tryz.prog 4 #[.bool b, .bool c] W fun e W' => e = .returned (.bool true) ∧ Below W.heap.size W W' := by
  cases b <;> cases c
  · exact tellsM_ok good loadOrder_known loadOrder_ok loadOrder_ff W
  · exact tellsM_ok good loadOrder_known loadOrder_ok loadOrder_ft W
  · exact tellsM_ok good loadOrder_known loadOrder_ok loadOrder_tf W
  · exact tellsM_ok good loadOrder_known loadOrder_ok loadOrder_tt W

set_option maxRecDepth 100000 in
theorem loadOrder_lifted (os : Os) (started : os.Started) (H : Type) (enc : TypeId × Value → H) :
    ReturnsInHanded {} Tryz.checked os 4 .any (Rows.loadOrderSpec.pre6 enc Tryz.prog Tryz.f4 Rows.loadOrderRow.domain false) (Rows.loadOrderSpec.post enc Tryz.prog Tryz.f4 false true false false) := by
  refine returnsInHanded_of_change (C := Tryz.checked) own started (by kernel_rfl) Tryz.func4
    (ChangeSpec.witness6 (enc := enc) (C := Tryz.checked) false ⟨#[], #[.bool false, .bool false], []⟩ 8 (by kernel_rfl) (by kernel_rfl) (by kernel_rfl) (by kernel_rfl)) ?_
  intro W base args ds gs before hval0 hW hcnd _
  have hW' := hW
  obtain ⟨p, q, hA0, hV, rfl, hfz, hnd⟩ := hW
  have hA : DataW.TrodAll enc Tryz.prog W 0 (fun _ => true) true Tryz.f4.params.toList args.toList ds p := hA0
  rw [Tryz.params4] at hA
  obtain ⟨v, v', d, d', p1, p2, rfl, rfl, rfl, hd, hd'⟩ := trodAll_two hA
  obtain ⟨rfl, rfl⟩ := trodVars_none hV
  have hv : Value.okWide Tryz.prog W .any base 4 v := hval0 0 4 v (by rw [Tryz.params4]; rfl) rfl
  have hv' : Value.okWide Tryz.prog W .any base 4 v' := hval0 1 4 v' (by rw [Tryz.params4]; rfl) rfl
  obtain ⟨b, rfl, rfl, rfl⟩ := open_bool Tryz.underlying4 hv hd
  obtain ⟨c, rfl, rfl, rfl⟩ := open_bool Tryz.underlying4 hv' hd'
  clear hA0 hval0
  simp only [List.append_nil] at hW'
  refine (loadOrder_calls b c W).mono fun e W' ⟨he, hB⟩ => ?_
  subst he
  refine ⟨_, rfl, post_of_below (pa := []) (pv := []) hW' hB (fun _ _ _ => trodAll_mk1 (shut_bool Tryz.underlying4 true)) (fun _ _ => ?_) (fun _ _ => rfl) rfl
    (ok_one (by kernel_rfl) rfl (okWide_bool_mk Tryz.underlying4 true))⟩
  show DataW.TrodAll enc Tryz.prog W' 0 _ true Tryz.f4.params.toList [.bool b, .bool c] [.lit (.bool b), .lit (.bool c)] []
  rw [Tryz.params4]
  exact trodAll_mk2 (shut_bool Tryz.underlying4 b) (shut_bool Tryz.underlying4 c)

theorem loadOrder_holds : Rows.LoadOrderSaid :=
  OpenClaim.holds_of_wide 4 Tryz.f4 rfl rfl rfl rfl rfl rfl rfl ⟨rfl, rfl, rfl, rfl, rfl⟩ rfl rfl rfl rfl rfl (by kernel_rfl) Tryz.func4 (by kernel_rfl)
    (of_decide_eq_true (by kernel_rfl)) (by unfold Func.isWrapper; first | (rw [if_pos (by decide +kernel)]; kernel_rfl) | (rw [if_neg (by decide +kernel)]; exact ⟨rfl, rfl⟩))
    (fun os started H enc _ => loadOrder_lifted os started H enc)
end Go.Proofs.YtfagmgocbfalbaaGreat
