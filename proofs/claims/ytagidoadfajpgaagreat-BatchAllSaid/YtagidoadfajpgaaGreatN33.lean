/-
  Ye.
-/
import Derived.Test.YtagidoadfajpgaaGreatN31
import Derived.Test.YtagidoadfajpgaaGreatN32
import Derived.Test.YtagidoadfajpgaaGreatN11
import Derived.Test.YtagidoadfajpgaaGreatN22
import Derived.Deep.Grids
import Derived.ChangeMaps5
import Derived.Test.YtagidoadfajpgaaGreatRows
import Derived.Test.YtagidoadfajpgaaGreatChecked
namespace Go.Proofs.YtagidoadfajpgaaGreat
open Go.ChangeShapes Go.WideShapes Go.ChangeAt Go.RowKit Go.Abs
theorem a1x {W : World} {va vb : Value} (A : OpsArg W va) (B : OpsArg W vb) : Calls Tryz.prog 7 #[va, vb] W fun e W' => e = .returned (.bool true) /\ Below W.heap.size W W' :=
 b8y A B (a37 (A.hz 0) (A.ho 0) (B.hz A.n) (B.ho A.n))
theorem own : ownKnob Tryz.prog.godebug = none := by kernel_rfl
theorem a9v : laidOutB Tryz.prog = true := by kernel_rfl
set_option maxRecDepth 100000 in
theorem a1c (os : Os) (started : os.Started) (H : Type) (enc : TypeId × Value -> H) :
  ReturnsInHanded {} Tryz.checked os 7 .any (Rows.batchAllSpec.pre6 enc Tryz.prog Tryz.f7 Rows.batchAllRow.domain false) (Rows.batchAllSpec.post enc Tryz.prog Tryz.f7 false true false false) := by
 refine returnsInHanded_of_change (C := Tryz.checked) own started (by kernel_rfl) Tryz.func7
  (ChangeSpec.witness6 (enc := enc) (C := Tryz.checked) false ⟨#[], #[.slice none 0 0, .slice none 0 0], []⟩ 8 (by kernel_rfl) (by kernel_rfl) (by kernel_rfl) (by kernel_rfl)) ?_
 intro W base args ds gs before hval0 hW hcnd _
 have hW' := hW
 obtain ⟨p, q, hA0, hV, rfl, hfz, hnd⟩ := hW
 have hA : DataW.TrodAll enc Tryz.prog W 0 (fun _ => true) true Tryz.f7.params.toList args.toList ds p := hA0
 rw [Tryz.params7] at hA
 obtain ⟨v, vs1, d, ds1, p1, q1, hargs, rfl, rfl, hd, hA1⟩ := trodAll_cons hA
 obtain ⟨v2, vs2, d2, ds2, p2, q2, hargs2, rfl, rfl, hd2, hA2⟩ := trodAll_cons hA1
 obtain ⟨rfl, rfl, rfl⟩ := trodAll_nil hA2
 obtain ⟨rfl, rfl⟩ := trodVars_none hV
 have hargs : args = #[v, v2] := by cases args; simp_all
 subst hargs
 have hv : Value.okWide Tryz.prog W .any base 22 v := hval0 0 22 v (by rw [Tryz.params7]; rfl) rfl
 have hv2 : Value.okWide Tryz.prog W .any base 22 v2 := hval0 1 22 v2 (by rw [Tryz.params7]; rfl) rfl
 obtain ⟨A⟩ := b3W (a5U hv hd)
 obtain ⟨B⟩ := b3W (a5U hv2 hd2)
 clear hA0 hval0
 simp only [List.append_nil] at hW'
 have hlt : ∀ x ∈ p1 ++ p2, x.block < W.heap.size := fun x hx => hW'.lt x (by simpa using hx)
 refine (a1x A B).mono fun e W' ⟨he, hB⟩ => ?_
 subst he
 refine ⟨_, rfl, a2i (pa := p1 ++ p2) (pv := []) hW' hB (fun _ _ _ => trodAll_mk1 (shut_bool Tryz.underlying4 true)) (fun sp hsp => ?_) (fun _ _ => rfl) (by simp)
  (ok_one (by kernel_rfl) rfl (okWide_bool_mk Tryz.underlying4 true))⟩
 show DataW.TrodAll enc Tryz.prog W' 0 sp true Tryz.f7.params.toList [v, v2] [d, d2] (p1 ++ p2)
 rw [Tryz.params7]
 have h1 := WideElems.Trod_stays a9v (by kernel_rfl) (of_decide_eq_true (by kernel_rfl)) hd (fun x hx => hB.same (hlt x (by simp [hx]))) (fun x hx => hsp x (by simp [hx]))
 have h2 := WideElems.Trod_stays a9v (by kernel_rfl) (of_decide_eq_true (by kernel_rfl)) hd2 (fun x hx => hB.same (hlt x (by simp [hx]))) (fun x hx => hsp x (by simp [hx]))
 have h3 := trodAll_mk2 h1 h2
 simpa using h3
theorem jn1 {a b : Bool} (h : (a && b) = true) : a = true := (Bool.and_eq_true_iff.1 h).1
theorem jn2 {a b : Bool} (h : (a && b) = true) : b = true := (Bool.and_eq_true_iff.1 h).2
theorem jA : (Rows.batchAllRow.inPlace == Tryz.pinned.checked.prog.inPlace 7 && Rows.batchAllRow.unfollowed == Tryz.pinned.checked.prog.unfollowed 7 && Rows.batchAllRow.recurses == Tryz.pinned.checked.prog.recurses 7 && Rows.batchAllRow.named == Tryz.pinned.checked.prog.varsNamed 7) = true := by kernel_rfl
theorem jE : (Tryz.pinned.checked.prog.stops == [] && Tryz.pinned.checked.prog.stopKnobs == [] && Tryz.pinned.checked.prog.stopsHeard && Tryz.pinned.checked.prog.mayEnter && Rows.batchAllRow.lifted == Tryz.pinned.checked.prog.liftsFinal) = true := by kernel_rfl
theorem jL : joinedFacts Tryz.pinned.checked.prog 7 Tryz.f7 Rows.batchAllSpec Rows.batchAllRow = true := by
  unfold joinedFacts
  rw [jn1 (jn1 (jn1 jA)), jn2 (jn1 (jn1 jA)), jn2 (jn1 jA), jn2 jA, jn1 (jn1 (jn1 (jn1 jE))), jn2 (jn1 (jn1 (jn1 jE))), jn2 (jn1 (jn1 jE)), jn2 (jn1 jE), jn2 jE]
  kernel_rfl
theorem batchAll_holds : Rows.BatchAllSaid :=
 OpenClaim.holds_of_wide 7 Tryz.f7 rfl rfl rfl rfl rfl rfl rfl ⟨rfl, rfl, rfl, rfl, rfl⟩ rfl rfl rfl rfl rfl (by kernel_rfl) Tryz.func7 jL
  (of_decide_eq_true (by kernel_rfl)) (by unfold Func.isWrapper; first | (rw [if_pos (by decide +kernel)]; kernel_rfl) | (rw [if_neg (by decide +kernel)]; exact ⟨rfl, rfl⟩))
  (fun os started H enc _ => a1c os started H enc)
end Go.Proofs.YtagidoadfajpgaaGreat
