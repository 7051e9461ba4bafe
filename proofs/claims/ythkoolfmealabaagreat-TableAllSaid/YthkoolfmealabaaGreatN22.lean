/-
  Tl.
-/
import Derived.Test.YthkoolfmealabaaGreatN9
import Derived.Test.YthkoolfmealabaaGreatN16
import Derived.Test.YthkoolfmealabaaGreatN18
namespace Go.Proofs.YthkoolfmealabaaGreat
open Go.Abs
variable {nO : Nat}
set_option maxRecDepth 100000 in
theorem begun_tells : tells Tryz.prog know0 1000 7 [] (.bool true) = true := by decide +kernel
theorem begun_known : Known Tryz.prog (knowTrue [7]) := knownTrue fun f hf W => by
 have e : f = 7 := by simpa using hf
 subst e
 exact tells_ok good known0 begun_tells W
theorem begun_ctr : Ctr Tryz.prog nO 7 [] [] Unit (fun _ => True) (fun _ => .o (.v (.bool true))) (fun _ => []) := fun F A h => ⟨(), A, F, trivial, snd_known begun_known rfl, h, .refl⟩
end Go.Proofs.YthkoolfmealabaaGreat
