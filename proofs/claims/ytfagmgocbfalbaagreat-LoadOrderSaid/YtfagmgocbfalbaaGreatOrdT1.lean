/-
  Records that ord leans on: heaps written out, and that each call does what its record says. No condition.
-/
import Derived.Test.YtfagmgocbfalbaaGreatOrdD
namespace Go.Proofs.YtfagmgocbfalbaaGreat
open Go.Abs Go.RowKit
set_option maxRecDepth 1000000 in
theorem ordt0 : memoB Tryz.prog know0 [] 1000 ordm0 = true := by decide +kernel
set_option maxRecDepth 1000000 in
theorem ordt1 : memoB Tryz.prog know0 [] 1000 ordm1 = true := by decide +kernel
set_option maxRecDepth 1000000 in
theorem ordt2 : memoB Tryz.prog know0 [] 1000 ordm2 = true := by decide +kernel
end Go.Proofs.YtfagmgocbfalbaaGreat
