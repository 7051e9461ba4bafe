/-
  Closed calls that answer true, whatever the machine draws: what the laws' begun() say. No condition.
-/
import Derived.Test.YtfagmgocbfalbaaGreatBeg1
import Derived.Test.YtfagmgocbfalbaaGreatFouT1
namespace Go.Proofs.YtfagmgocbfalbaaGreat
open Go.Abs Go.RowKit
theorem b14_known : Known Tryz.prog (knowTrue [29]) := knownTrue fun f hf W => by
  have e : f = 29 := by simpa using hf
  subst e
  exact calls_29 W
theorem b14_ok : ∀ m ∈ foums ++ stams, MemoOk Tryz.prog (knowTrue [29]) 2000 m := fun m hm => by
  simp only [List.mem_append] at hm
  exact MemoOk.know (know0_le _) (by
    rcases hm with hm | hm
    · exact MemoOk.mono (by decide) (fouok m hm)
    · exact MemoOk.mono (by decide) (staok m hm))
set_option maxRecDepth 1000000 in
theorem b14_tells : tellsM Tryz.prog (knowTrue [29]) (foums ++ stams) 1000 31 [] (.bool true) = true := by decide +kernel
theorem calls_31 (W : World) : Calls Tryz.prog 31 ⟨[]⟩ W fun e W' => e = .returned (.bool true) ∧ Below W.heap.size W W' := tellsM_ok good b14_known b14_ok b14_tells W
end Go.Proofs.YtfagmgocbfalbaaGreat
