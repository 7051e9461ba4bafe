/-
  asterismlaw7.BitmapRank answers true whatever it is handed, whatever the machine draws, and what it is handed reads behind the call as it did. No condition.
-/
import Derived.Test.YtfkdkfleaiaoiaaM4
import Derived.Test.YtfkdkfleaiaoiaaB5
namespace Go.Proofs.Ytfkdkfleaiaoiaa
open Go.ChangeShapes Go.WideShapes Go.ChangeAt Go.RowKit Go.Abs
theorem lit_lt {n : Int} (h : (Lit.int .i64 n).wf = true) : -9223372036854775808 ≤ n ∧ n < 9223372036854775808 := by
  have e1 : IntKind.min .i64 = -9223372036854775808 := rfl
  have e2 : IntKind.max .i64 = 9223372036854775807 := rfl
  simp only [Lit.wf, e1, e2, Bool.and_eq_true, decide_eq_true_eq] at h
  omega
theorem laidOut : laidOutB Try.prog = true := by kernel_rfl
theorem vs3 {ι : Ren} {a b c a' b' c' : Value} (h : VRel Try.prog ι a a') (k : VRel Try.prog ι b b') (m : VRel Try.prog ι c c') : Vs Try.prog ι #[a, b, c] #[a', b', c'] := ⟨rfl, fun i x x' hx hx' => by
  match i, hx, hx' with
  | 0, hx, hx' => cases hx; cases hx'; exact h
  | 1, hx, hx' => cases hx; cases hx'; exact k
  | 2, hx, hx' => cases hx; cases hx'; exact m
  | n + 3, hx, _ => simp at hx⟩
/-- The call, whatever it is handed. -/
theorem bitmapRank_calls {W : World} {v : Value} {n k : Int} (hv : v = .slice none 0 0 ∨ ∃ a cap l, v = .slice (some a) (List.length l) cap ∧ l.length ≤ cap ∧ Lies W l a) (hn : n < 9223372036854775808) (_hk : k < 9223372036854775808) :
    Calls Try.prog 7 #[v, .int .i64 n, .int .i64 k] W fun e W' => e = .returned (.bool true) ∧ Below W.heap.size W W' := by
  rcases hv with rfl | ⟨a, cap, l, rfl, hc, hL⟩
  · obtain ⟨A', h⟩ := rank_law (n₀ := W.heap.size) (A := inW 3 []) (p := none) (l := []) (c := 0) (k := n) (i := k) (Nat.le_refl _) (fun _ => ⟨rfl, rfl⟩) (fun i x hx => by simp at hx) (fun ad e => by cases e) hn
    exact ro_call h rfl (sim_in (ls := []) (fun p hp => by cases hp)) (vs3 (.slice0 _ _) (.int _ _) (.int _ _)) in_free in_ro
  · have hrd := in_rd (t := 3) (ls := [(l, a)]) (k := 0) (p := (l, a)) rfl
    obtain ⟨A', h⟩ := rank_law (n₀ := W.heap.size) (A := inW 3 [(l, a)]) (p := some ⟨0, 0, none⟩) (l := l) (c := cap) (k := n) (i := k) hc (fun e => by cases e) hrd.2.1 hrd.2.2 hn
    exact ro_call h rfl (sim_in (ls := [(l, a)]) (fun p hp => by simp only [List.mem_cons, List.not_mem_nil, or_false] at hp; subst hp; exact hL)) (vs3 (in_slice (k := 0) (p := (l, a)) rfl hL) (.int _ _) (.int _ _)) in_free in_ro

set_option maxRecDepth 100000 in
theorem bitmapRank_lifted (os : Os) (started : os.Started) (H : Type) (enc : TypeId × Value → H) :
    ReturnsInHanded {} Try.checked os 7 .any (Rows.bitmapRankSpec.pre6 enc Try.prog Try.f7 Rows.bitmapRankRow.domain false) (Rows.bitmapRankSpec.post enc Try.prog Try.f7 false true false false) := by
  refine returnsInHanded_of_change (C := Try.checked) own started (by kernel_rfl) Try.func7
    (ChangeSpec.witness6 (enc := enc) (C := Try.checked) false ⟨#[], #[.slice none 0 0, .int .i64 0, .int .i64 0], []⟩ 8 (by kernel_rfl) (by kernel_rfl) (by kernel_rfl) (by kernel_rfl)) ?_
  intro W base args ds gs before hval0 hW hcnd _
  have hW' := hW
  obtain ⟨p, q, hA0, hV, rfl, hfz, hnd⟩ := hW
  have hA : DataW.TrodAll enc Try.prog W 0 (fun _ => true) true Try.f7.params.toList args.toList ds p := hA0
  rw [Try.params7] at hA
  obtain ⟨v, v', v'', d, d', d'', p1, p2, p3, rfl, rfl, rfl, hd, hd', hd''⟩ := trodAll_three hA
  obtain ⟨rfl, rfl⟩ := trodVars_none hV
  have hv : Value.okWide Try.prog W .any base 22 v := hval0 0 22 v (by rw [Try.params7]; rfl) rfl
  have hv' : Value.okWide Try.prog W .any base 3 v' := hval0 1 3 v' (by rw [Try.params7]; rfl) rfl
  have hv'' : Value.okWide Try.prog W .any base 3 v'' := hval0 2 3 v'' (by rw [Try.params7]; rfl) rfl
  obtain ⟨n, rfl, rfl, rfl, hwf⟩ := open_int Try.underlying3 hv' hd'
  obtain ⟨k, rfl, rfl, rfl, hwf'⟩ := open_int Try.underlying3 hv'' hd''
  have hopen := open_ints Try.underlying22 Try.underlying3 (by kernel_rfl) hv hd
  clear hA0 hval0
  simp only [List.append_nil] at hW'
  have hlt : ∀ x ∈ p1, x.block < W.heap.size := fun x hx => hW'.lt x hx
  refine (bitmapRank_calls hopen (lit_lt hwf).2 (lit_lt hwf').2).mono fun e W' ⟨he, hB⟩ => ?_
  subst he
  refine ⟨_, rfl, post_of_below (pa := p1 ++ ([] ++ [])) (pv := []) hW' hB (fun _ _ _ => trodAll_mk1 (shut_bool Try.underlying4 true)) (fun sp hsp => ?_) (fun _ _ => rfl) (by simp)
    (ok_one (by kernel_rfl) rfl (okWide_bool_mk Try.underlying4 true))⟩
  show DataW.TrodAll enc Try.prog W' 0 sp true Try.f7.params.toList [v, .int .i64 n, .int .i64 k] [d, .lit (.int .i64 n), .lit (.int .i64 k)] (p1 ++ ([] ++ []))
  rw [Try.params7]
  exact trodAll_mk3 (WideElems.Trod_stays laidOut (by kernel_rfl) (of_decide_eq_true (by kernel_rfl)) hd (fun x hx => hB.same (hlt x hx)) (fun x hx => hsp x hx)) (shut_int Try.underlying3 hwf) (shut_int Try.underlying3 hwf')

theorem bitmapRank_holds : Rows.BitmapRankSaid :=
  OpenClaim.holds_of_wide 7 Try.f7 rfl rfl rfl rfl rfl rfl rfl ⟨rfl, rfl, rfl, rfl, rfl⟩ rfl rfl rfl rfl rfl (by kernel_rfl) Try.func7 (by kernel_rfl)
    (of_decide_eq_true (by kernel_rfl)) (by unfold Func.isWrapper; first | (rw [if_pos (by decide +kernel)]; kernel_rfl) | (rw [if_neg (by decide +kernel)]; exact ⟨rfl, rfl⟩))
    (fun os started H enc _ => bitmapRank_lifted os started H enc)
end Go.Proofs.Ytfkdkfleaiaoiaa
