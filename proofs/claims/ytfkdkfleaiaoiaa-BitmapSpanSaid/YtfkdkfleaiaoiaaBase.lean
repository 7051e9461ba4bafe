/-
  The facts of this seat's program that the core asks for: its zero values bear no address, its code bears none, its orders may be mixed.
-/
import Derived.Test.YtfkdkfleaiaoiaaRows
import Derived.Test.YtfkdkfleaiaoiaaChecked
import Derived.Test.YtfkdkfleaiaoiaaA37
namespace Go.Proofs.Ytfkdkfleaiaoiaa
open Go.ChangeShapes Go.WideShapes Go.ChangeAt Go.RowKit Go.Abs

theorem own : ownKnob Try.prog.godebug = none := by kernel_rfl
theorem zeroFit : zeroOk Try.prog = true := by decide +kernel
theorem codeFit : codesOk Try.prog = true := by decide +kernel
theorem mixedFit : Try.prog.follows .mixedOrders = true := by decide +kernel
theorem good : Go.Abs.Good Try.prog := good_of zeroFit codeFit mixedFit
end Go.Proofs.Ytfkdkfleaiaoiaa
