/-
  Ut.
-/
import Derived.Test.YthkoolfmealabaaGreatN32
import Derived.Test.YthkoolfmealabaaGreatN12
import Derived.Test.YthkoolfmealabaaGreatN23
import Derived.Deep.Grids
import Derived.ChangeMaps5
import Derived.Test.YthkoolfmealabaaGreatRows
import Derived.Test.YthkoolfmealabaaGreatChecked
namespace Go.Proofs.YthkoolfmealabaaGreat
open Go.ChangeShapes Go.WideShapes Go.ChangeAt Go.RowKit Go.Abs
theorem own : ownKnob Tryz.prog.godebug = none := by kernel_rfl
theorem laidOut : laidOutB Tryz.prog = true := by kernel_rfl
set_option maxRecDepth 100000 in
theorem tableAll_lifted (os : Os) (started : os.Started) (H : Type) (enc : TypeId × Value -> H) :
  ReturnsInHanded {} Tryz.checked os 6 .any (Rows.tableAllSpec.pre6 enc Tryz.prog Tryz.f6 Rows.tableAllRow.domain false) (Rows.tableAllSpec.post enc Tryz.prog Tryz.f6 false true false false) := by
 refine returnsInHanded_of_change (C := Tryz.checked) own started (by kernel_rfl) Tryz.func6
  (ChangeSpec.witness6 (enc := enc) (C := Tryz.checked) false ⟨#[], #[.slice none 0 0, .int .i64 0, .string ⟨#[]⟩], []⟩ 8 (by kernel_rfl) (by kernel_rfl) (by kernel_rfl) (by kernel_rfl)) ?_
 intro W base args ds gs before hval0 hW hcnd _
 have hW' := hW
 obtain ⟨p, q, hA0, hV, rfl, hfz, hnd⟩ := hW
 have hA : DataW.TrodAll enc Tryz.prog W 0 (fun _ => true) true Tryz.f6.params.toList args.toList ds p := hA0
 rw [Tryz.params6] at hA
 obtain ⟨v, vs1, d, ds1, p1, q1, hargs, rfl, rfl, hd, hA1⟩ := trodAll_cons hA
 obtain ⟨v2, vs2, d2, ds2, p2, q2, hargs2, rfl, rfl, hd2, hA2⟩ := trodAll_cons hA1
 obtain ⟨v3, vs3', d3, ds3, p3, q3, hargs3, rfl, rfl, hd3, hA3⟩ := trodAll_cons hA2
 obtain ⟨rfl, rfl, rfl⟩ := trodAll_nil hA3
 obtain ⟨rfl, rfl⟩ := trodVars_none hV
 have hargs : args = #[v, v2, v3] := by cases args; simp_all
 subst hargs
 have hv : Value.okWide Tryz.prog W .any base 59 v := hval0 0 59 v (by rw [Tryz.params6]; rfl) rfl
 have hv2 : Value.okWide Tryz.prog W .any base 3 v2 := hval0 1 3 v2 (by rw [Tryz.params6]; rfl) rfl
 have hv3 : Value.okWide Tryz.prog W .any base 9 v3 := hval0 2 9 v3 (by rw [Tryz.params6]; rfl) rfl
 have hopen := open_ops hv hd
 obtain ⟨n, rfl, rfl, rfl, hwf⟩ := open_int Tryz.underlying3 hv2 hd2
 obtain ⟨s, rfl, rfl, rfl, hsz⟩ := Go.ChangeMaps.open_string Tryz.underlying9 hv3 hd3
 clear hA0 hval0
 simp only [List.append_nil, List.nil_append] at hW'
 have hlt : ∀ x ∈ p1, x.block < W.heap.size := fun x hx => hW'.lt x (by simpa using hx)
 refine (tableAll_calls hopen).mono fun e W' ⟨he, hB⟩ => ?_
 subst he
 refine ⟨_, rfl, post_of_below (pa := p1) (pv := []) hW' hB (fun _ _ _ => trodAll_mk1 (shut_bool Tryz.underlying4 true)) (fun sp hsp => ?_) (fun _ _ => rfl) (by simp)
  (ok_one (by kernel_rfl) rfl (okWide_bool_mk Tryz.underlying4 true))⟩
 show DataW.TrodAll enc Tryz.prog W' 0 sp true Tryz.f6.params.toList [v, .int .i64 n, .string s] [d, .lit (.int .i64 n), .lit (.string s.data.toList)] p1
 rw [Tryz.params6]
 have h1 := WideElems.Trod_stays laidOut (by kernel_rfl) (of_decide_eq_true (by kernel_rfl)) hd (fun x hx => hB.same (hlt x hx)) (fun x hx => hsp x (by simp [hx]))
 have h2 := trodAll_mk3 h1 (shut_int (enc := enc) (P := Tryz.prog) (w := W') (base := 0) (spare := sp) (held := true) Tryz.underlying3 hwf) (Go.ChangeMaps.shut_string Tryz.underlying9 hsz)
 have e : p1 ++ (([] : List MemPlace) ++ []) = p1 := by simp
 rw [e] at h2
 exact h2
theorem tableAll_holds : Rows.TableAllSaid :=
 OpenClaim.holds_of_wide 6 Tryz.f6 rfl rfl rfl rfl rfl rfl rfl ⟨rfl, rfl, rfl, rfl, rfl⟩ rfl rfl rfl rfl rfl (by kernel_rfl) Tryz.func6 (by kernel_rfl)
  (of_decide_eq_true (by kernel_rfl)) (by unfold Func.isWrapper; first | (rw [if_pos (by decide +kernel)]; kernel_rfl) | (rw [if_neg (by decide +kernel)]; exact ⟨rfl, rfl⟩))
  (fun os started H enc _ => tableAll_lifted os started H enc)
end Go.Proofs.YthkoolfmealabaaGreat
