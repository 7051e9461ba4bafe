/-
  Closed calls that answer true, whatever the machine draws: what the laws' begun() say. No condition.
-/
import Derived.Test.YtfagmgocbfalbaaGreatBeg3
import Derived.Test.YtfagmgocbfalbaaGreatSixT1
namespace Go.Proofs.YtfagmgocbfalbaaGreat
open Go.Abs Go.RowKit
theorem b16_known : Known Tryz.prog (knowTrue [52]) := knownTrue fun f hf W => by
  have e : f = 52 := by simpa using hf
  subst e
  exact calls_52 W
theorem b16_ok : ∀ m ∈ sixms ++ stams, MemoOk Tryz.prog (knowTrue [52]) 2000 m := fun m hm => by
  simp only [List.mem_append] at hm
  exact MemoOk.know (know0_le _) (by
    rcases hm with hm | hm
    · exact MemoOk.mono (by decide) (sixok m hm)
    · exact MemoOk.mono (by decide) (staok m hm))
set_option maxRecDepth 1000000 in
theorem b16_tells : tellsM Tryz.prog (knowTrue [52]) (sixms ++ stams) 1000 18 [] (.bool true) = true := by decide +kernel
theorem calls_18 (W : World) : Calls Tryz.prog 18 ⟨[]⟩ W fun e W' => e = .returned (.bool true) ∧ Below W.heap.size W W' := tellsM_ok good b16_known b16_ok b16_tells W
end Go.Proofs.YtfagmgocbfalbaaGreat
