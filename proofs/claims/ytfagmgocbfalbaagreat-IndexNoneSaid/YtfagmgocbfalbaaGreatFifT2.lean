/-
  Records that fif leans on: heaps written out, and that each call does what its record says. No condition.
-/
import Derived.Test.YtfagmgocbfalbaaGreatFifD
import Derived.Test.YtfagmgocbfalbaaGreatFifT1
namespace Go.Proofs.YtfagmgocbfalbaaGreat
open Go.Abs Go.RowKit
set_option maxRecDepth 1000000 in
theorem fift2 : memoB Tryz.prog know0 [] 1000 fifm2 = true := by decide +kernel
set_option maxRecDepth 1000000 in
theorem fift3 : memoB Tryz.prog know0 [] 1000 fifm3 = true := by decide +kernel
noncomputable def fifms : List Memo := [fifm0, fifm1, fifm2, fifm3]
theorem fifok : ∀ m ∈ fifms, MemoOk Tryz.prog know0 (0 + 1000) m := memos_cons (memoB_ok (N := 0) memos_nil fift0) <| memos_cons (memoB_ok (N := 0) memos_nil fift1) <| memos_cons (memoB_ok (N := 0) memos_nil fift2) <| memos_cons (memoB_ok (N := 0) memos_nil fift3) memos_nil
end Go.Proofs.YtfagmgocbfalbaaGreat
