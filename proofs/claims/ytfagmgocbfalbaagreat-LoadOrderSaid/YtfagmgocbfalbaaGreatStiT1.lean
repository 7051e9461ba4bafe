/-
  Records that sti leans on: heaps written out, and that each call does what its record says. No condition.
-/
import Derived.Test.YtfagmgocbfalbaaGreatStiD
namespace Go.Proofs.YtfagmgocbfalbaaGreat
open Go.Abs Go.RowKit
set_option maxRecDepth 1000000 in
theorem stit0 : memoB Tryz.prog know0 [] 1000 stim0 = true := by decide +kernel
set_option maxRecDepth 1000000 in
theorem stit1 : memoB Tryz.prog know0 [] 1000 stim1 = true := by decide +kernel
set_option maxRecDepth 1000000 in
theorem stit2 : memoB Tryz.prog know0 [] 1000 stim2 = true := by decide +kernel
set_option maxRecDepth 1000000 in
theorem stit3 : memoB Tryz.prog know0 [] 1000 stim3 = true := by decide +kernel
end Go.Proofs.YtfagmgocbfalbaaGreat
