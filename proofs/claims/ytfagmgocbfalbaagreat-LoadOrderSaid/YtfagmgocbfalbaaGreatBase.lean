/-
  The facts of this seat's program that the core asks for: its zero values bear no address, its code bears none, its orders may be mixed.
-/
import Derived.Test.YtfagmgocbfalbaaGreatRows
import Derived.Test.YtfagmgocbfalbaaGreatChecked
import Derived.Test.YtfagmgocbfalbaaGreatA37
namespace Go.Proofs.YtfagmgocbfalbaaGreat
open Go.ChangeShapes Go.WideShapes Go.ChangeAt Go.RowKit Go.Abs

theorem own : ownKnob Tryz.prog.godebug = none := by kernel_rfl
theorem zeroFit : zeroOk Tryz.prog = true := by decide +kernel
theorem codeFit : codesOk Tryz.prog = true := by decide +kernel
theorem mixedFit : Tryz.prog.follows .mixedOrders = true := by decide +kernel
theorem good : Go.Abs.Good Tryz.prog := good_of zeroFit codeFit mixedFit
end Go.Proofs.YtfagmgocbfalbaaGreat
