/-
  B4.
-/
import Derived.Test.YtagidoadfajpgaaGreatN9
import Derived.KernelRfl
namespace Go.Abs
end Go.Abs
