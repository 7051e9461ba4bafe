/-
  Records of the calls that bg leans on: heaps written out, and that each call does what its record says.
-/
import Derived.Test.YtmejmbidpoocoaaGreatBgD
import Derived.Test.YtmejmbidpoocoaaGreatBgT1
namespace Go.Proofs.YtmejmbidpoocoaaGreat
open Go.Abs
set_option maxRecDepth 1000000 in
theorem bgt8 : memoB Tryz.prog (knowTrue [33]) [] 1000 bgm8 = true := by decide +kernel
set_option maxRecDepth 1000000 in
theorem bgt9 : memoB Tryz.prog (knowTrue [33]) [] 1000 bgm9 = true := by decide +kernel
set_option maxRecDepth 1000000 in
theorem bgt10 : memoB Tryz.prog (knowTrue [33]) [] 1000 bgm10 = true := by decide +kernel
set_option maxRecDepth 1000000 in
theorem bgt11 : memoB Tryz.prog (knowTrue [33]) [] 1000 bgm11 = true := by decide +kernel
set_option maxRecDepth 1000000 in
theorem bgt12 : memoB Tryz.prog (knowTrue [33]) [] 1000 bgm12 = true := by decide +kernel
set_option maxRecDepth 1000000 in
theorem bgt13 : memoB Tryz.prog (knowTrue [33]) [] 1000 bgm13 = true := by decide +kernel
set_option maxRecDepth 1000000 in
theorem bgt14 : memoB Tryz.prog (knowTrue [33]) [] 1000 bgm14 = true := by decide +kernel
noncomputable def bgms : List Memo := [bgm0, bgm1, bgm2, bgm3, bgm4, bgm5, bgm6, bgm7, bgm8, bgm9, bgm10, bgm11, bgm12, bgm13, bgm14]
theorem bgok : ∀ m ∈ bgms, MemoOk Tryz.prog (knowTrue [33]) (0 + 1000) m := by
  intro m hm
  simp only [bgms, List.mem_cons, List.not_mem_nil, or_false] at hm
  rcases hm with rfl | rfl | rfl | rfl | rfl | rfl | rfl | rfl | rfl | rfl | rfl | rfl | rfl | rfl | rfl
  · exact memoB_ok (N := 0) (ms := []) (fun _ h => by cases h) bgt0
  · exact memoB_ok (N := 0) (ms := []) (fun _ h => by cases h) bgt1
  · exact memoB_ok (N := 0) (ms := []) (fun _ h => by cases h) bgt2
  · exact memoB_ok (N := 0) (ms := []) (fun _ h => by cases h) bgt3
  · exact memoB_ok (N := 0) (ms := []) (fun _ h => by cases h) bgt4
  · exact memoB_ok (N := 0) (ms := []) (fun _ h => by cases h) bgt5
  · exact memoB_ok (N := 0) (ms := []) (fun _ h => by cases h) bgt6
  · exact memoB_ok (N := 0) (ms := []) (fun _ h => by cases h) bgt7
  · exact memoB_ok (N := 0) (ms := []) (fun _ h => by cases h) bgt8
  · exact memoB_ok (N := 0) (ms := []) (fun _ h => by cases h) bgt9
  · exact memoB_ok (N := 0) (ms := []) (fun _ h => by cases h) bgt10
  · exact memoB_ok (N := 0) (ms := []) (fun _ h => by cases h) bgt11
  · exact memoB_ok (N := 0) (ms := []) (fun _ h => by cases h) bgt12
  · exact memoB_ok (N := 0) (ms := []) (fun _ h => by cases h) bgt13
  · exact memoB_ok (N := 0) (ms := []) (fun _ h => by cases h) bgt14
end Go.Proofs.YtmejmbidpoocoaaGreat
