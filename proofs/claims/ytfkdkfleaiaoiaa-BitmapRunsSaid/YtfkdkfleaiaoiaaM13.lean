/-
  asterismlaw7.BitmapRuns answers true whatever it is handed, whatever the machine draws, and what it is handed reads behind the call as it did. No condition.
-/
import Derived.Test.YtfkdkfleaiaoiaaM12
import Derived.Test.YtfkdkfleaiaoiaaM5
import Derived.Test.YtfkdkfleaiaoiaaB18
namespace Go.Proofs.Ytfkdkfleaiaoiaa
open Go.ChangeShapes Go.WideShapes Go.ChangeAt Go.RowKit Go.Abs
theorem vs1 {ι : Ren} {a a' : Value} (h : VRel Try.prog ι a a') : Vs Try.prog ι #[a] #[a'] := ⟨rfl, fun i x x' hx hx' => by
  match i, hx, hx' with
  | 0, hx, hx' => cases hx; cases hx'; exact h
  | n + 1, hx, _ => simp at hx⟩
/-- What a row's reading says of a slice of pairs. -/
def OpenPairs (W : World) (v : Value) : Prop := v = .slice none 0 0 ∨ ∃ a cap l, v = .slice (some a) (List.length l) cap ∧ l.length ≤ cap ∧ LiesC W (pairCells l) a
/-- The call, whatever it is handed. -/
theorem bitmapRuns_calls {W : World} {v : Value} (hv : OpenPairs W v) :
    Calls Try.prog 8 #[v] W fun e W' => e = .returned (.bool true) ∧ Below W.heap.size W W' := by
  rcases hv with rfl | ⟨a, cap, l, rfl, _, hL⟩
  · obtain ⟨A', h⟩ := runs_law (n₀ := W.heap.size) (A := inC []) (p := none) (l := []) (c := 0) (fun e => absurd rfl e)
    exact ro_call h rfl (sim_inC (ls := []) (fun p hp => by cases hp)) (vs1 (.slice0 _ _)) inC_free inC_ro
  · obtain ⟨A', h⟩ := runs_law (n₀ := W.heap.size) (A := inC [((pairCells l, 42), a)]) (p := some ⟨0, 0, none⟩) (l := l) (c := cap) (fun _ => ⟨rfl, (pairCells l).size, inC_get (p := ((pairCells l, 42), a)) rfl⟩)
    exact ro_call h rfl (sim_inC (ls := [((pairCells l, 42), a)]) (fun p hp => by simp only [List.mem_cons, List.not_mem_nil, or_false] at hp; subst hp; exact hL)) (vs1 (inC_rel (k := 0) (p := ((pairCells l, 42), a)) rfl hL)) inC_free inC_ro

set_option maxRecDepth 100000 in
theorem bitmapRuns_lifted (os : Os) (started : os.Started) (H : Type) (enc : TypeId × Value → H) :
    ReturnsInHanded {} Try.checked os 8 .any (Rows.bitmapRunsSpec.pre6 enc Try.prog Try.f8 Rows.bitmapRunsRow.domain false) (Rows.bitmapRunsSpec.post enc Try.prog Try.f8 false true false false) := by
  refine returnsInHanded_of_change (C := Try.checked) own started (by kernel_rfl) Try.func8
    (ChangeSpec.witness6 (enc := enc) (C := Try.checked) false ⟨#[], #[.slice none 0 0], []⟩ 8 (by kernel_rfl) (by kernel_rfl) (by kernel_rfl) (by kernel_rfl)) ?_
  intro W base args ds gs before hval0 hW hcnd _
  have hW' := hW
  obtain ⟨p, q, hA0, hV, rfl, hfz, hnd⟩ := hW
  have hA : DataW.TrodAll enc Try.prog W 0 (fun _ => true) true Try.f8.params.toList args.toList ds p := hA0
  rw [Try.params8] at hA
  obtain ⟨v, vs1, d, ds1, p1, q1, hargs, rfl, rfl, hd, hA1⟩ := trodAll_cons hA
  obtain ⟨rfl, rfl, rfl⟩ := trodAll_nil hA1
  obtain ⟨rfl, rfl⟩ := trodVars_none hV
  have hargs : args = #[v] := by cases args; simp_all
  subst hargs
  have hv : Value.okWide Try.prog W .any base 25 v := hval0 0 25 v (by rw [Try.params8]; rfl) rfl
  have hopen := open_pairs Try.underlying25 Try.underlying42 Try.underlying3 (by kernel_rfl) (by kernel_rfl) hv hd
  clear hA0 hval0
  simp only [List.append_nil] at hW'
  have hlt : ∀ x ∈ p1, x.block < W.heap.size := fun x hx => hW'.lt x hx
  refine (bitmapRuns_calls hopen).mono fun e W' ⟨he, hB⟩ => ?_
  subst he
  refine ⟨_, rfl, post_of_below (pa := p1 ++ []) (pv := []) hW' hB (fun _ _ _ => trodAll_mk1 (shut_bool Try.underlying4 true)) (fun sp hsp => ?_) (fun _ _ => rfl) (by simp)
    (ok_one (by kernel_rfl) rfl (okWide_bool_mk Try.underlying4 true))⟩
  show DataW.TrodAll enc Try.prog W' 0 sp true Try.f8.params.toList [v] [d] (p1 ++ [])
  rw [Try.params8, List.append_nil]
  exact trodAll_mk1 (WideElems.Trod_stays laidOut (by kernel_rfl) (of_decide_eq_true (by kernel_rfl)) hd (fun x hx => hB.same (hlt x hx)) (fun x hx => hsp x (by simp [hx])))

theorem bitmapRuns_holds : Rows.BitmapRunsSaid :=
  OpenClaim.holds_of_wide 8 Try.f8 rfl rfl rfl rfl rfl rfl rfl ⟨rfl, rfl, rfl, rfl, rfl⟩ rfl rfl rfl rfl rfl (by kernel_rfl) Try.func8 (by kernel_rfl)
    (of_decide_eq_true (by kernel_rfl)) (by unfold Func.isWrapper; first | (rw [if_pos (by decide +kernel)]; kernel_rfl) | (rw [if_neg (by decide +kernel)]; exact ⟨rfl, rfl⟩))
    (fun os started H enc _ => bitmapRuns_lifted os started H enc)
end Go.Proofs.Ytfkdkfleaiaoiaa
