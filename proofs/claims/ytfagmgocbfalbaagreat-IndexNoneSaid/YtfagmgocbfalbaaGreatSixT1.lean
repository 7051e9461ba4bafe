/-
  Records that six leans on: heaps written out, and that each call does what its record says. No condition.
-/
import Derived.Test.YtfagmgocbfalbaaGreatStaT1
namespace Go.Proofs.YtfagmgocbfalbaaGreat
open Go.Abs Go.RowKit
def six624 : Nat × Obj := (434, .cells #[.int .i64 (1), .int .i64 (1), .string ⟨#[]⟩, .int .i64 (2), .int .i64 (0), .string ⟨#[97]⟩] 31 (0, 0))
def six625 : Nat × Obj := (436, .cells #[.int .i64 (2), .int .i64 (0), .string ⟨#[97]⟩] 31 (0, 0))
def six626 : Nat × Obj := (437, .cells #[.int .i64 (1), .int .i64 (2), .string ⟨#[]⟩, .int .i64 (2), .int .i64 (0), .string ⟨#[97]⟩] 31 (0, 0))
def six627 : Nat × Obj := (438, .cells #[.int .i64 (1), .string ⟨#[108, 97, 110, 100]⟩, .int .i64 (0), .string ⟨#[]⟩, .slice (some ⟨434, 0, none⟩) 2 2, .int .i64 (1), .string ⟨#[108, 97, 110, 100]⟩, .int .i64 (0), .string ⟨#[]⟩, .slice (some ⟨437, 0, none⟩) 2 2] 35 (0, 0))
def six628 : Nat × Obj := (51, .cells #[.string ⟨#[108, 97, 110, 100]⟩, .slice (some ⟨48, 0, none⟩) 2 2, .string ⟨#[105, 100]⟩, .slice none 0 0, .slice (some ⟨59, 0, none⟩) 2 2, .slice (some ⟨534, 0, none⟩) 1 1, .int .i64 (2)] 123 (0, 0))
def six629 : Nat × Obj := (53, .cells #[.int .i64 (1), .slice (some ⟨502, 0, none⟩) 2 2, .pointer none, .int .i64 (0)] 209 (0, 0))
def six630 : Nat × Obj := (57, .cells #[.int .i64 (2), .slice (some ⟨509, 0, none⟩) 2 2, .pointer (some ⟨460, 0, none⟩), .int .i64 (0)] 209 (0, 0))
def six631 : Nat × Obj := (460, .cells #[.func (.func 223) #[] #[], .slice (some ⟨464, 0, none⟩) 1 1] 265 (0, 0))
def six632 : Nat × Obj := (464, .cells #[.string ⟨#[97]⟩, .int .i64 (2)] 262 (1, 0))
def six633 : Nat × Obj := (490, .cells #[.int .i64 (1), .string ⟨#[108, 97, 110, 100]⟩, .int .i64 (0), .string ⟨#[]⟩, .slice (some ⟨437, 0, none⟩) 2 2] 35 (0, 0))
def six634 : Nat × Obj := (502, .cells #[.int .i64 (1), .int .i64 (1), .string ⟨#[]⟩, .int .i64 (1), .int .i64 (2), .string ⟨#[]⟩] 31 (1, 0))
def six635 : Nat × Obj := (509, .cells #[.int .i64 (2), .int .i64 (0), .string ⟨#[97]⟩, .int .i64 (2), .int .i64 (0), .string ⟨#[97]⟩] 31 (1, 0))
def six636 : Nat × Obj := (534, .cells #[.int .i64 (0), .int .i64 (2)] 143 (1, 0))
def six637 : Nat × Obj := (545, .cells #[.string ⟨#[110, 97, 109, 101]⟩] 9 (0, 0))
def six638 : Nat × Obj := (561, .cells #[.string ⟨#[110, 97, 109, 101]⟩, .int .i64 (2), .bool false, .string ⟨#[]⟩] 125 (0, 0))
def six639 : Nat × Obj := (562, .cells #[.string ⟨#[110, 97, 109, 101]⟩] 9 (1, 0))
def six640 : Nat × Obj := (563, .cells #[.string ⟨#[108, 97, 110, 100]⟩, .slice (some ⟨562, 0, none⟩) 1 1, .pointer (some ⟨675, 0, none⟩)] 88 (0, 0))
def six641 : Nat × Obj := (675, .cells #[.func (.func 39) #[] #[], .slice (some ⟨692, 0, none⟩) 1 1] 157 (0, 0))
def six642 : Nat × Obj := (685, .cells #[.int .i64 (0), .int .i64 (2)] 143 (1, 0))
def six643 : Nat × Obj := (692, .cells #[.int .i64 (2), .int .i64 (0), .string ⟨#[97]⟩, .slice (some ⟨685, 0, none⟩) 1 1] 159 (1, 0))
def six644 : Nat × Obj := (693, .cells #[.string ⟨#[120]⟩] 9 (0, 0))
def six645 : Nat × Obj := (709, .cells #[.string ⟨#[]⟩, .int .i64 (0), .bool false, .string ⟨#[]⟩] 125 (0, 0))
def sixbx0 : Go.Abs.Lit := ⟨439, [sti302, sti303, sti2, sti402, sti37, sti49, sti52, sti54, sti57, sti59, sti72, sti375, sti421, sti423, sti425, six624, six625, six626, six627]⟩
def sixax0 : Go.Abs.Lit := ⟨545, [sti302, sti303, sti2, sti402, sti37, sti49, six628, six629, six630, sti59, sti375, sti421, six624, six626, six627, six631, six632, six633, six634, six635, six636]⟩
def sixbx1 : Go.Abs.Lit := ⟨546, [sti302, sti303, sti2, sti402, sti37, sti49, six628, six629, six630, sti59, sti375, six624, six626, six627, six631, six632, six634, six635, six636, six637]⟩
def sixax1 : Go.Abs.Lit := ⟨693, [sti302, sti303, sti2, sti402, sti37, sti49, six628, six629, six630, sti59, sti375, six624, six626, six627, six631, six632, six634, six635, six636, six637, six638, six639, six640, six641, six642, six643]⟩
def sixbx2 : Go.Abs.Lit := ⟨694, [sti302, sti303, sti2, sti402, sti37, sti49, six628, six629, six630, sti59, sti375, six624, six626, six627, six631, six632, six634, six635, six636, six637, six639, six640, six641, six642, six643, six644]⟩
def sixax2 : Go.Abs.Lit := ⟨710, [sti302, sti303, sti2, sti402, sti37, sti49, six628, six629, six630, sti59, sti375, six624, six626, six627, six631, six632, six634, six635, six636, six637, six639, six640, six641, six642, six643, six644, six645]⟩
def sixm0 : Memo := ⟨48, [.pointer (some ⟨2, 0, none⟩), .pointer (some ⟨3, 0, none⟩), .slice (some ⟨438, 0, none⟩) 2 2], sixbx0, .tuple #[], sixax0⟩
def sixm1 : Memo := ⟨50, [.pointer (some ⟨2, 0, none⟩), .string ⟨#[108, 97, 110, 100]⟩, .slice (some ⟨545, 0, none⟩) 1 1], sixbx1, .tuple #[.pointer (some ⟨563, 0, none⟩), .int .i64 (0)], sixax1⟩
def sixm2 : Memo := ⟨50, [.pointer (some ⟨2, 0, none⟩), .string ⟨#[108, 97, 110, 100]⟩, .slice (some ⟨693, 0, none⟩) 1 1], sixbx2, .tuple #[.pointer none, .int .i64 (3)], sixax2⟩
set_option maxRecDepth 1000000 in
theorem sixt0 : memoB Tryz.prog know0 [] 1000 sixm0 = true := by decide +kernel
set_option maxRecDepth 1000000 in
theorem sixt1 : memoB Tryz.prog know0 [] 1000 sixm1 = true := by decide +kernel
set_option maxRecDepth 1000000 in
theorem sixt2 : memoB Tryz.prog know0 [] 1000 sixm2 = true := by decide +kernel
noncomputable def sixms : List Memo := [sixm0, sixm1, sixm2]
theorem sixok : ∀ m ∈ sixms, MemoOk Tryz.prog know0 (0 + 1000) m := memos_cons (memoB_ok (N := 0) memos_nil sixt0) <| memos_cons (memoB_ok (N := 0) memos_nil sixt1) <| memos_cons (memoB_ok (N := 0) memos_nil sixt2) memos_nil
end Go.Proofs.YtfagmgocbfalbaaGreat
