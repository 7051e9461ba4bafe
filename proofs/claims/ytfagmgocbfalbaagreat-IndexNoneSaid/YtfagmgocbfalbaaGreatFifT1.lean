/-
  Records that fif leans on: heaps written out, and that each call does what its record says. No condition.
-/
import Derived.Test.YtfagmgocbfalbaaGreatFifD
namespace Go.Proofs.YtfagmgocbfalbaaGreat
open Go.Abs Go.RowKit
set_option maxRecDepth 1000000 in
theorem fift0 : memoB Tryz.prog know0 [] 1000 fifm0 = true := by decide +kernel
set_option maxRecDepth 1000000 in
theorem fift1 : memoB Tryz.prog know0 [] 1000 fifm1 = true := by decide +kernel
end Go.Proofs.YtfagmgocbfalbaaGreat
