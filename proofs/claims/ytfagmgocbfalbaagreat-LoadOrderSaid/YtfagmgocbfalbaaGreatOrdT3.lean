/-
  Records that ord leans on: heaps written out, and that each call does what its record says. No condition.
-/
import Derived.Test.YtfagmgocbfalbaaGreatOrdD
namespace Go.Proofs.YtfagmgocbfalbaaGreat
open Go.Abs Go.RowKit
set_option maxRecDepth 1000000 in
theorem ordt6 : memoB Tryz.prog know0 [] 1000 ordm6 = true := by decide +kernel
set_option maxRecDepth 1000000 in
theorem ordt7 : memoB Tryz.prog know0 [] 1000 ordm7 = true := by decide +kernel
set_option maxRecDepth 1000000 in
theorem ordt8 : memoB Tryz.prog know0 [] 1000 ordm8 = true := by decide +kernel
end Go.Proofs.YtfagmgocbfalbaaGreat
