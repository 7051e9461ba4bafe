/-
  Records of the calls that bg leans on: heaps written out, and that each call does what its record says.
-/
import Derived.Test.YtmejmbidpoocoaaGreatBgD
namespace Go.Proofs.YtmejmbidpoocoaaGreat
open Go.Abs
set_option maxRecDepth 1000000 in
theorem bgt0 : memoB Tryz.prog (knowTrue [33]) [] 1000 bgm0 = true := by decide +kernel
set_option maxRecDepth 1000000 in
theorem bgt1 : memoB Tryz.prog (knowTrue [33]) [] 1000 bgm1 = true := by decide +kernel
set_option maxRecDepth 1000000 in
theorem bgt2 : memoB Tryz.prog (knowTrue [33]) [] 1000 bgm2 = true := by decide +kernel
set_option maxRecDepth 1000000 in
theorem bgt3 : memoB Tryz.prog (knowTrue [33]) [] 1000 bgm3 = true := by decide +kernel
set_option maxRecDepth 1000000 in
theorem bgt4 : memoB Tryz.prog (knowTrue [33]) [] 1000 bgm4 = true := by decide +kernel
set_option maxRecDepth 1000000 in
theorem bgt5 : memoB Tryz.prog (knowTrue [33]) [] 1000 bgm5 = true := by decide +kernel
set_option maxRecDepth 1000000 in
theorem bgt6 : memoB Tryz.prog (knowTrue [33]) [] 1000 bgm6 = true := by decide +kernel
set_option maxRecDepth 1000000 in
theorem bgt7 : memoB Tryz.prog (knowTrue [33]) [] 1000 bgm7 = true := by decide +kernel
end Go.Proofs.YtmejmbidpoocoaaGreat
