/-
  asterismlaw11.TableOwn answers true, whatever it is handed, whatever the machine draws; nothing that was there turns. No condition.
-/
import Derived.Test.YthkoolfmealabaaGreatN30
import Derived.Test.YthkoolfmealabaaGreatN12
import Derived.Test.YthkoolfmealabaaGreatN26
import Derived.ChangeMaps5
import Derived.Test.YthkoolfmealabaaGreatRows
import Derived.Test.YthkoolfmealabaaGreatChecked
namespace Go.Proofs.YthkoolfmealabaaGreat
open Go.ChangeShapes Go.WideShapes Go.ChangeAt Go.RowKit Go.Abs
theorem own : ownKnob Tryz.prog.godebug = none := by kernel_rfl
theorem vs2 {ι : Ren} {a b a' b' : Value} (h : VRel Tryz.prog ι a a') (k : VRel Tryz.prog ι b b') : Vs Tryz.prog ι #[a, b] #[a', b'] := ⟨rfl, fun i x x' hx hx' => by
  match i, hx, hx' with
  | 0, hx, hx' => cases hx; cases hx'; exact h
  | 1, hx, hx' => cases hx; cases hx'; exact k
  | n + 2, hx, _ => simp at hx⟩
theorem own_law {n₀ : Nat} {id : Int} {city : ByteArray} : Ctr Tryz.prog n₀ 3 [.o (.v (.int .i64 id)), .o (.v (.string city))] [] Unit (fun _ => True) (fun _ => .o (.v (.bool true))) (fun _ => []) := by
  cases h : tOk (cutS city 12) with
  | true => exact own_ok h
  | false => exact own_no h
theorem tableOwn_calls {W : World} (id : Int) (city : ByteArray) :
    Calls Tryz.prog 3 #[.int .i64 id, .string city] W fun e W' => e = .returned (.bool true) ∧ Below W.heap.size W W' := by
  obtain ⟨_, A', F', _, h, _, _⟩ := own_law (n₀ := W.heap.size) (id := id) (city := city) Ft.no (inC []) rfl
  exact ro_call h rfl (sim_inC (ls := []) (fun p hp => by cases hp)) (vs2 (.int _ _) (.string _)) inC_free inC_ro

set_option maxRecDepth 100000 in
theorem tableOwn_lifted (os : Os) (started : os.Started) (H : Type) (enc : TypeId × Value → H) :
    ReturnsInHanded {} Tryz.checked os 3 .any (Rows.tableOwnSpec.pre6 enc Tryz.prog Tryz.f3 Rows.tableOwnRow.domain false) (Rows.tableOwnSpec.post enc Tryz.prog Tryz.f3 false true false false) := by
  refine returnsInHanded_of_change (C := Tryz.checked) own started (by kernel_rfl) Tryz.func3
    (ChangeSpec.witness6 (enc := enc) (C := Tryz.checked) false ⟨#[], #[.int .i64 0, .string ⟨#[]⟩], []⟩ 8 (by kernel_rfl) (by kernel_rfl) (by kernel_rfl) (by kernel_rfl)) ?_
  intro W base args ds gs before hval0 hW hcnd _
  have hW' := hW
  obtain ⟨p, q, hA0, hV, rfl, hfz, hnd⟩ := hW
  have hA : DataW.TrodAll enc Tryz.prog W 0 (fun _ => true) true Tryz.f3.params.toList args.toList ds p := hA0
  rw [Tryz.params3] at hA
  obtain ⟨v, v', d, d', p1, p2, rfl, rfl, rfl, hd, hd'⟩ := trodAll_two hA
  obtain ⟨rfl, rfl⟩ := trodVars_none hV
  have hv : Value.okWide Tryz.prog W .any base 2 v := hval0 0 2 v (by rw [Tryz.params3]; rfl) rfl
  have hv' : Value.okWide Tryz.prog W .any base 9 v' := hval0 1 9 v' (by rw [Tryz.params3]; rfl) rfl
  obtain ⟨n, rfl, rfl, rfl, hwf⟩ := open_int Tryz.underlying2 hv hd
  obtain ⟨s, rfl, rfl, rfl, hsz⟩ := Go.ChangeMaps.open_string Tryz.underlying9 hv' hd'
  clear hA0 hval0
  simp only [List.append_nil] at hW'
  refine (tableOwn_calls n s).mono fun e W' ⟨he, hB⟩ => ?_
  subst he
  refine ⟨_, rfl, post_of_below (pa := []) (pv := []) hW' hB (fun _ _ _ => trodAll_mk1 (shut_bool Tryz.underlying4 true)) (fun _ _ => ?_) (fun _ _ => rfl) rfl
    (ok_one (by kernel_rfl) rfl (okWide_bool_mk Tryz.underlying4 true))⟩
  show DataW.TrodAll enc Tryz.prog W' 0 _ true Tryz.f3.params.toList [.int .i64 n, .string s] [.lit (.int .i64 n), .lit (.string s.data.toList)] []
  rw [Tryz.params3]
  exact trodAll_mk2 (shut_int Tryz.underlying2 hwf) (Go.ChangeMaps.shut_string Tryz.underlying9 hsz)

theorem tableOwn_holds : Rows.TableOwnSaid :=
  OpenClaim.holds_of_wide 3 Tryz.f3 rfl rfl rfl rfl rfl rfl rfl ⟨rfl, rfl, rfl, rfl, rfl⟩ rfl rfl rfl rfl rfl (by kernel_rfl) Tryz.func3 (by kernel_rfl)
    (of_decide_eq_true (by kernel_rfl)) (by unfold Func.isWrapper; first | (rw [if_pos (by decide +kernel)]; kernel_rfl) | (rw [if_neg (by decide +kernel)]; exact ⟨rfl, rfl⟩))
    (fun os started H enc _ => tableOwn_lifted os started H enc)
end Go.Proofs.YthkoolfmealabaaGreat
