/-
  Records that ord leans on: heaps written out, and that each call does what its record says. No condition.
-/
import Derived.Test.YtfagmgocbfalbaaGreatOrdD
import Derived.Test.YtfagmgocbfalbaaGreatOrdT1
import Derived.Test.YtfagmgocbfalbaaGreatOrdT2
import Derived.Test.YtfagmgocbfalbaaGreatOrdT3
namespace Go.Proofs.YtfagmgocbfalbaaGreat
open Go.Abs Go.RowKit
set_option maxRecDepth 1000000 in
theorem ordt9 : memoB Tryz.prog know0 [] 1000 ordm9 = true := by decide +kernel
set_option maxRecDepth 1000000 in
theorem ordt10 : memoB Tryz.prog know0 [] 1000 ordm10 = true := by decide +kernel
set_option maxRecDepth 1000000 in
theorem ordt11 : memoB Tryz.prog know0 [] 1000 ordm11 = true := by decide +kernel
noncomputable def ordms : List Memo := [ordm0, ordm1, ordm2, ordm3, ordm4, ordm5, ordm6, ordm7, ordm8, ordm9, ordm10, ordm11]
theorem ordok : ∀ m ∈ ordms, MemoOk Tryz.prog know0 (0 + 1000) m := memos_cons (memoB_ok (N := 0) memos_nil ordt0) <| memos_cons (memoB_ok (N := 0) memos_nil ordt1) <| memos_cons (memoB_ok (N := 0) memos_nil ordt2) <| memos_cons (memoB_ok (N := 0) memos_nil ordt3) <| memos_cons (memoB_ok (N := 0) memos_nil ordt4) <| memos_cons (memoB_ok (N := 0) memos_nil ordt5) <| memos_cons (memoB_ok (N := 0) memos_nil ordt6) <| memos_cons (memoB_ok (N := 0) memos_nil ordt7) <| memos_cons (memoB_ok (N := 0) memos_nil ordt8) <| memos_cons (memoB_ok (N := 0) memos_nil ordt9) <| memos_cons (memoB_ok (N := 0) memos_nil ordt10) <| memos_cons (memoB_ok (N := 0) memos_nil ordt11) memos_nil
end Go.Proofs.YtfagmgocbfalbaaGreat
