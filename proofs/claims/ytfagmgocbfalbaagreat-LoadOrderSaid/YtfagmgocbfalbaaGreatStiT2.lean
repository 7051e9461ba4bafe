/-
  Records that sti leans on: heaps written out, and that each call does what its record says. No condition.
-/
import Derived.Test.YtfagmgocbfalbaaGreatStiD
import Derived.Test.YtfagmgocbfalbaaGreatStiT1
namespace Go.Proofs.YtfagmgocbfalbaaGreat
open Go.Abs Go.RowKit
set_option maxRecDepth 1000000 in
theorem stit4 : memoB Tryz.prog know0 [] 1000 stim4 = true := by decide +kernel
set_option maxRecDepth 1000000 in
theorem stit5 : memoB Tryz.prog know0 [] 1000 stim5 = true := by decide +kernel
set_option maxRecDepth 1000000 in
theorem stit6 : memoB Tryz.prog know0 [] 1000 stim6 = true := by decide +kernel
set_option maxRecDepth 1000000 in
theorem stit7 : memoB Tryz.prog know0 [] 1000 stim7 = true := by decide +kernel
noncomputable def stims : List Memo := [stim0, stim1, stim2, stim3, stim4, stim5, stim6, stim7]
theorem stiok : ∀ m ∈ stims, MemoOk Tryz.prog know0 (0 + 1000) m := memos_cons (memoB_ok (N := 0) memos_nil stit0) <| memos_cons (memoB_ok (N := 0) memos_nil stit1) <| memos_cons (memoB_ok (N := 0) memos_nil stit2) <| memos_cons (memoB_ok (N := 0) memos_nil stit3) <| memos_cons (memoB_ok (N := 0) memos_nil stit4) <| memos_cons (memoB_ok (N := 0) memos_nil stit5) <| memos_cons (memoB_ok (N := 0) memos_nil stit6) <| memos_cons (memoB_ok (N := 0) memos_nil stit7) memos_nil
end Go.Proofs.YtfagmgocbfalbaaGreat
