/-
  asterismlaw11.Begun answers true, whatever the machine draws. No condition.
-/
import Derived.Test.YtmejmbidpoocoaaGreatBase
namespace Go.Proofs.YtmejmbidpoocoaaGreat
open Go.Abs Go.RowKit
set_option maxRecDepth 1000000 in
theorem begun11_tells : tells Tryz.prog know0 1000 33 [] (.bool true) = true := by decide +kernel
theorem known11 : Known Tryz.prog (knowTrue [33]) := knownTrue fun f hf W => by
  have e : f = 33 := by simpa using hf
  subst e
  exact tells_ok good known0 begun11_tells W
end Go.Proofs.YtmejmbidpoocoaaGreat
