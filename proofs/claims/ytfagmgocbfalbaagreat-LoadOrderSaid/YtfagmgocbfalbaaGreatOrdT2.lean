/-
  Records that ord leans on: heaps written out, and that each call does what its record says. No condition.
-/
import Derived.Test.YtfagmgocbfalbaaGreatOrdD
namespace Go.Proofs.YtfagmgocbfalbaaGreat
open Go.Abs Go.RowKit
set_option maxRecDepth 1000000 in
theorem ordt3 : memoB Tryz.prog know0 [] 1000 ordm3 = true := by decide +kernel
set_option maxRecDepth 1000000 in
theorem ordt4 : memoB Tryz.prog know0 [] 1000 ordm4 = true := by decide +kernel
set_option maxRecDepth 1000000 in
theorem ordt5 : memoB Tryz.prog know0 [] 1000 ordm5 = true := by decide +kernel
end Go.Proofs.YtfagmgocbfalbaaGreat
