/-
  Records that sta leans on: heaps written out, and that each call does what its record says. No condition.
-/
import Derived.Test.YtfagmgocbfalbaaGreatStaD
namespace Go.Proofs.YtfagmgocbfalbaaGreat
open Go.Abs Go.RowKit
set_option maxRecDepth 1000000 in
theorem stat0 : memoB Tryz.prog know0 stims 1000 stam0 = true := by decide +kernel
noncomputable def stams : List Memo := [stam0]
theorem staok : ∀ m ∈ stams, MemoOk Tryz.prog know0 (1000 + 1000) m := memos_cons (memoB_ok (N := 1000) stiok stat0) memos_nil
end Go.Proofs.YtfagmgocbfalbaaGreat
