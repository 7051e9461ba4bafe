/-
  Closed calls that answer true, whatever the machine draws: what the laws' begun() say. No condition.
-/
import Derived.Test.YtfagmgocbfalbaaGreatFifT1
import Derived.Test.YtfagmgocbfalbaaGreatBeg2
namespace Go.Proofs.YtfagmgocbfalbaaGreat
open Go.Abs Go.RowKit
set_option maxRecDepth 1000000 in
theorem fift2 : memoB Tryz.prog know0 [] 1000 fifm2 = true := by decide +kernel
set_option maxRecDepth 1000000 in
theorem fift3 : memoB Tryz.prog know0 [] 1000 fifm3 = true := by decide +kernel
noncomputable def fifms : List Memo := [fifm0, fifm1, fifm2, fifm3]
theorem fifok : ∀ m ∈ fifms, MemoOk Tryz.prog know0 (0 + 1000) m := memos_cons (memoB_ok (N := 0) memos_nil fift0) <| memos_cons (memoB_ok (N := 0) memos_nil fift1) <| memos_cons (memoB_ok (N := 0) memos_nil fift2) <| memos_cons (memoB_ok (N := 0) memos_nil fift3) memos_nil
theorem b15_known : Known Tryz.prog (knowTrue [30, 31]) := knownTrue fun f hf W => by
  have e : f = 30 ∨ f = 31 := by simpa using hf
  rcases e with rfl | rfl
  · exact calls_30 W
  · exact calls_31 W
theorem b15_ok : ∀ m ∈ fifms ++ stams, MemoOk Tryz.prog (knowTrue [30, 31]) 2000 m := fun m hm => by
  simp only [List.mem_append] at hm
  exact MemoOk.know (know0_le _) (by
    rcases hm with hm | hm
    · exact MemoOk.mono (by decide) (fifok m hm)
    · exact MemoOk.mono (by decide) (staok m hm))
set_option maxRecDepth 1000000 in
theorem b15_tells : tellsM Tryz.prog (knowTrue [30, 31]) (fifms ++ stams) 1000 12 [] (.bool true) = true := by decide +kernel
theorem calls_12 (W : World) : Calls Tryz.prog 12 ⟨[]⟩ W fun e W' => e = .returned (.bool true) ∧ Below W.heap.size W W' := tellsM_ok good b15_known b15_ok b15_tells W
theorem b15w_known : Known Tryz.prog (knowTrue [12]) := knownTrue fun f hf W => by
  have e : f = 12 := by simpa using hf
  subst e
  exact calls_12 W
set_option maxRecDepth 1000000 in
theorem b15w_tells : tells Tryz.prog (knowTrue [12]) 1000 52 [] (.bool true) = true := by decide +kernel
theorem calls_52 (W : World) : Calls Tryz.prog 52 ⟨[]⟩ W fun e W' => e = .returned (.bool true) ∧ Below W.heap.size W W' := tells_ok good b15w_known b15w_tells W
end Go.Proofs.YtfagmgocbfalbaaGreat
