/-
  Closed calls that answer true, whatever the machine draws: what the laws' begun() say. No condition.
-/
import Derived.Test.YtfagmgocbfalbaaGreatTweT1
namespace Go.Proofs.YtfagmgocbfalbaaGreat
open Go.Abs Go.RowKit
set_option maxRecDepth 1000000 in
theorem b11_tells : tells Tryz.prog know0 1000 110 [] (.bool true) = true := by decide +kernel
theorem calls_110 (W : World) : Calls Tryz.prog 110 ⟨[]⟩ W fun e W' => e = .returned (.bool true) ∧ Below W.heap.size W W' := tells_ok good known0 b11_tells W
theorem b12_known : Known Tryz.prog (knowTrue [110]) := knownTrue fun f hf W => by
  have e : f = 110 := by simpa using hf
  subst e
  exact calls_110 W
theorem b12_ok : ∀ m ∈ twems ++ stams, MemoOk Tryz.prog (knowTrue [110]) 2000 m := fun m hm => by
  simp only [List.mem_append] at hm
  exact MemoOk.know (know0_le _) (by
    rcases hm with hm | hm
    · exact MemoOk.mono (by decide) (tweok m hm)
    · exact MemoOk.mono (by decide) (staok m hm))
set_option maxRecDepth 1000000 in
theorem b12_tells : tellsM Tryz.prog (knowTrue [110]) (twems ++ stams) 1000 29 [] (.bool true) = true := by decide +kernel
theorem calls_29 (W : World) : Calls Tryz.prog 29 ⟨[]⟩ W fun e W' => e = .returned (.bool true) ∧ Below W.heap.size W W' := tellsM_ok good b12_known b12_ok b12_tells W
theorem b13_known : Known Tryz.prog (knowTrue [29]) := knownTrue fun f hf W => by
  have e : f = 29 := by simpa using hf
  subst e
  exact calls_29 W
theorem b13_ok : ∀ m ∈ stams, MemoOk Tryz.prog (knowTrue [29]) 2000 m := fun m hm => by
  exact MemoOk.know (know0_le _) (MemoOk.mono (by decide) (staok m hm))
set_option maxRecDepth 1000000 in
theorem b13_tells : tellsM Tryz.prog (knowTrue [29]) (stams) 1000 10 [] (.bool true) = true := by decide +kernel
theorem calls_10 (W : World) : Calls Tryz.prog 10 ⟨[]⟩ W fun e W' => e = .returned (.bool true) ∧ Below W.heap.size W W' := tellsM_ok good b13_known b13_ok b13_tells W
theorem b13w_known : Known Tryz.prog (knowTrue [10]) := knownTrue fun f hf W => by
  have e : f = 10 := by simpa using hf
  subst e
  exact calls_10 W
set_option maxRecDepth 1000000 in
theorem b13w_tells : tells Tryz.prog (knowTrue [10]) 1000 30 [] (.bool true) = true := by decide +kernel
theorem calls_30 (W : World) : Calls Tryz.prog 30 ⟨[]⟩ W fun e W' => e = .returned (.bool true) ∧ Below W.heap.size W W' := tells_ok good b13w_known b13w_tells W
end Go.Proofs.YtfagmgocbfalbaaGreat
