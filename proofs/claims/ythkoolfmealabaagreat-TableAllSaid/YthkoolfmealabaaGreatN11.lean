/-
  B4.
-/
import Derived.Test.YthkoolfmealabaaGreatN10
import Derived.KernelRfl
namespace Go.Abs
end Go.Abs
