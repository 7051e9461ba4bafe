/-
  Records that twe leans on: heaps written out, and that each call does what its record says. No condition.
-/
import Derived.Test.YtfagmgocbfalbaaGreatTweD
namespace Go.Proofs.YtfagmgocbfalbaaGreat
open Go.Abs Go.RowKit
set_option maxRecDepth 1000000 in
theorem twet0 : memoB Tryz.prog know0 [] 1000 twem0 = true := by decide +kernel
noncomputable def twems : List Memo := [twem0]
theorem tweok : ∀ m ∈ twems, MemoOk Tryz.prog know0 (0 + 1000) m := memos_cons (memoB_ok (N := 0) memos_nil twet0) memos_nil
end Go.Proofs.YtfagmgocbfalbaaGreat
