/-
  Closed calls that answer true, whatever the machine draws: what the laws' begun() say. No condition.
-/
import Derived.Test.YtfagmgocbfalbaaGreatStaT1
import Derived.Test.YtfagmgocbfalbaaGreatBeg1
namespace Go.Proofs.YtfagmgocbfalbaaGreat
open Go.Abs Go.RowKit
def fou458 : Nat × Obj := (53, .cells #[.int .i64 (1), .slice none 0 0, .pointer (some ⟨458, 0, none⟩), .int .i64 (0)] 209 (0, 0))
def fou459 : Nat × Obj := (57, .cells #[.int .i64 (2), .slice none 0 0, .pointer (some ⟨463, 0, none⟩), .int .i64 (0)] 209 (0, 0))
def fou460 : Nat × Obj := (161, .cells #[.int .i64 (1), .slice none 0 0, .pointer (some ⟨486, 0, none⟩), .int .i64 (0)] 209 (0, 0))
def fou461 : Nat × Obj := (165, .cells #[.int .i64 (2), .slice none 0 0, .pointer (some ⟨491, 0, none⟩), .int .i64 (0)] 209 (0, 0))
def fou462 : Nat × Obj := (169, .cells #[.int .i64 (2), .slice none 0 0, .pointer (some ⟨497, 0, none⟩), .int .i64 (0)] 209 (0, 0))
def fou463 : Nat × Obj := (173, .cells #[.int .i64 (1), .slice none 0 0, .pointer (some ⟨504, 0, none⟩), .int .i64 (0)] 209 (0, 0))
def fou464 : Nat × Obj := (432, .cells #[.pointer (some ⟨2, 0, none⟩)] 28 (0, 0))
def fou465 : Nat × Obj := (433, .cells #[.int .i64 (0), .int .i64 (0), .string ⟨#[]⟩, .int .i64 (0), .string ⟨#[]⟩] 25 (0, 0))
def fou466 : Nat × Obj := (445, .cells #[.string ⟨#[108, 97, 110, 100]⟩, .string ⟨#[115, 104, 111, 112]⟩, .string ⟨#[100, 97, 121]⟩, .string ⟨#[115, 97, 108, 101]⟩] 9 (1, 0))
def fou467 : Nat × Obj := (458, .cells #[.func (.func 223) #[] #[], .slice none 0 0] 265 (0, 0))
def fou468 : Nat × Obj := (463, .cells #[.func (.func 223) #[] #[], .slice none 0 0] 265 (0, 0))
def fou469 : Nat × Obj := (486, .cells #[.func (.func 223) #[] #[], .slice none 0 0] 265 (0, 0))
def fou470 : Nat × Obj := (491, .cells #[.func (.func 223) #[] #[], .slice none 0 0] 265 (0, 0))
def fou471 : Nat × Obj := (497, .cells #[.func (.func 223) #[] #[], .slice none 0 0] 265 (0, 0))
def fou472 : Nat × Obj := (504, .cells #[.func (.func 223) #[] #[], .slice none 0 0] 265 (0, 0))
def fou473 : Nat × Obj := (545, .cells #[.string ⟨#[115, 97, 108, 101]⟩] 9 (0, 0))
def fou474 : Nat × Obj := (576, .cells #[.int .i64 (0), .int .i64 (0), .string ⟨#[]⟩, .int .i64 (0), .string ⟨#[]⟩] 25 (0, 0))
def fou475 : Nat × Obj := (577, .cells #[.slice none 0 0] 22 (0, 0))
def fou476 : Nat × Obj := (579, .cells #[.slice none 0 0] 56 (0, 0))
def fou477 : Nat × Obj := (582, .cells #[.int .i64 (0), .int .i64 (0), .string ⟨#[]⟩, .int .i64 (0), .string ⟨#[]⟩] 25 (0, 0))
def fou478 : Nat × Obj := (586, .cells #[.int .i64 (1), .int .i64 (1), .string ⟨#[]⟩, .int .i64 (2), .int .i64 (0), .string ⟨#[120]⟩, .int .i64 (2), .int .i64 (0), .string ⟨#[110]⟩, .int .i64 (0), .int .i64 (0), .string ⟨#[]⟩] 31 (0, 0))
def fou479 : Nat × Obj := (588, .cells #[.int .i64 (1), .int .i64 (1), .string ⟨#[]⟩, .int .i64 (2), .int .i64 (0), .string ⟨#[120]⟩, .int .i64 (2), .int .i64 (0), .string ⟨#[110]⟩, .int .i64 (0), .int .i64 (0), .string ⟨#[]⟩] 31 (1, 0))
def fou480 : Nat × Obj := (592, .cells #[.int .i64 (1), .int .i64 (2), .string ⟨#[]⟩, .int .i64 (2), .int .i64 (0), .string ⟨#[120]⟩, .int .i64 (2), .int .i64 (0), .string ⟨#[115]⟩, .int .i64 (0), .int .i64 (0), .string ⟨#[]⟩] 31 (0, 0))
def fou481 : Nat × Obj := (593, .cells #[.int .i64 (1), .string ⟨#[115, 104, 111, 112]⟩, .int .i64 (0), .string ⟨#[]⟩, .slice (some ⟨594, 0, none⟩) 4 4] 35 (0, 0))
def fou482 : Nat × Obj := (594, .cells #[.int .i64 (1), .int .i64 (2), .string ⟨#[]⟩, .int .i64 (2), .int .i64 (0), .string ⟨#[120]⟩, .int .i64 (2), .int .i64 (0), .string ⟨#[115]⟩, .int .i64 (0), .int .i64 (0), .string ⟨#[]⟩] 31 (1, 0))
def fou483 : Nat × Obj := (595, .cells #[.int .i64 (1), .string ⟨#[115, 104, 111, 112]⟩, .int .i64 (0), .string ⟨#[]⟩, .slice (some ⟨588, 0, none⟩) 4 4, .int .i64 (1), .string ⟨#[115, 104, 111, 112]⟩, .int .i64 (0), .string ⟨#[]⟩, .slice (some ⟨594, 0, none⟩) 4 4] 35 (0, 0))
def fou484 : Nat × Obj := (159, .cells #[.string ⟨#[115, 104, 111, 112]⟩, .slice (some ⟨152, 0, none⟩) 4 4, .string ⟨#[105, 100]⟩, .slice (some ⟨154, 0, none⟩) 1 1, .slice (some ⟨175, 0, none⟩) 4 4, .slice (some ⟨746, 0, none⟩) 1 1, .int .i64 (2)] 123 (0, 0))
def fou485 : Nat × Obj := (161, .cells #[.int .i64 (1), .slice (some ⟨694, 0, none⟩) 2 2, .pointer (some ⟨486, 0, none⟩), .int .i64 (0)] 209 (0, 0))
def fou486 : Nat × Obj := (165, .cells #[.int .i64 (2), .slice (some ⟨701, 0, none⟩) 2 2, .pointer (some ⟨491, 0, none⟩), .int .i64 (0)] 209 (0, 0))
def fou487 : Nat × Obj := (169, .cells #[.int .i64 (2), .slice (some ⟨714, 0, none⟩) 2 2, .pointer (some ⟨497, 0, none⟩), .int .i64 (0)] 209 (0, 0))
def fou488 : Nat × Obj := (173, .cells #[.int .i64 (1), .slice (some ⟨727, 0, none⟩) 2 2, .pointer (some ⟨504, 0, none⟩), .int .i64 (2)] 209 (0, 0))
def fou489 : Nat × Obj := (429, .cells #[.slice none 0 0, .slice (some ⟨762, 0, none⟩) 2 2, .slice none 0 0, .slice none 0 0] 173 (1, 0))
def fou490 : Nat × Obj := (491, .cells #[.func (.func 223) #[] #[], .slice (some ⟨626, 0, none⟩) 1 1] 265 (0, 0))
def fou491 : Nat × Obj := (497, .cells #[.func (.func 223) #[] #[], .slice (some ⟨721, 0, none⟩) 2 2] 265 (0, 0))
def fou492 : Nat × Obj := (626, .cells #[.string ⟨#[120]⟩, .int .i64 (2)] 262 (1, 0))
def fou493 : Nat × Obj := (673, .cells #[.int .i64 (1), .int .i64 (1), .string ⟨#[]⟩, .int .i64 (2), .int .i64 (0), .string ⟨#[120]⟩, .int .i64 (2), .int .i64 (0), .string ⟨#[110]⟩, .int .i64 (0), .int .i64 (0), .string ⟨#[]⟩] 31 (1, 0))
def fou494 : Nat × Obj := (676, .cells #[.int .i64 (1), .string ⟨#[115, 104, 111, 112]⟩, .int .i64 (0), .string ⟨#[]⟩, .slice (some ⟨594, 0, none⟩) 4 4] 35 (0, 0))
def fou495 : Nat × Obj := (694, .cells #[.int .i64 (1), .int .i64 (1), .string ⟨#[]⟩, .int .i64 (1), .int .i64 (2), .string ⟨#[]⟩] 31 (1, 0))
def fou496 : Nat × Obj := (701, .cells #[.int .i64 (2), .int .i64 (0), .string ⟨#[120]⟩, .int .i64 (2), .int .i64 (0), .string ⟨#[120]⟩] 31 (1, 0))
def fou497 : Nat × Obj := (714, .cells #[.int .i64 (2), .int .i64 (0), .string ⟨#[110]⟩, .int .i64 (2), .int .i64 (0), .string ⟨#[115]⟩] 31 (1, 0))
def fou498 : Nat × Obj := (721, .cells #[.string ⟨#[110]⟩, .int .i64 (1), .string ⟨#[115]⟩, .int .i64 (1)] 262 (1, 0))
def fou499 : Nat × Obj := (727, .cells #[.int .i64 (0), .int .i64 (0), .string ⟨#[]⟩, .int .i64 (0), .int .i64 (0), .string ⟨#[]⟩] 31 (1, 0))
def fou500 : Nat × Obj := (746, .cells #[.int .i64 (0), .int .i64 (2)] 143 (1, 0))
def fou501 : Nat × Obj := (760, .cells #[.int .i64 (1), .int .i64 (2), .string ⟨#[]⟩, .int .i64 (2), .int .i64 (0), .string ⟨#[120]⟩, .int .i64 (2), .int .i64 (0), .string ⟨#[115]⟩, .int .i64 (0), .int .i64 (0), .string ⟨#[]⟩] 31 (1, 0))
def fou502 : Nat × Obj := (762, .cells #[.int .i64 (0), .slice (some ⟨673, 0, none⟩) 4 4, .int .i64 (1), .slice (some ⟨760, 0, none⟩) 4 4] 175 (1, 0))
def fou503 : Nat × Obj := (834, .cells #[.slice (some ⟨746, 0, none⟩) 1 1] 56 (0, 0))
def fou504 : Nat × Obj := (837, .cells #[.int .i64 (0), .int .i64 (2)] 143 (0, 0))
def foubx0 : Go.Abs.Lit := ⟨432, [sti302, sti303, sti2, sti402, sti6, sti7, sti37, sti49, sti52, sti54, sti57, sti59, sti72, sti135, sti137, sti152, sti154, sti156, sti159, sti161, sti164, sti167, sti170, sti172, sti193, sti242, sti244, sti260, sti262, sti264, sti267, sti269, sti272, sti275, sti277, sti367, sti375, sti385, sti388, sti390, sti393, sti396, sti399, sti401, sti421, sti423, sti425]⟩
def fouax0 : Go.Abs.Lit := ⟨582, [sti302, sti303, sti2, sti402, sti6, sti7, sti37, sti49, sti52, fou458, fou459, sti59, sti72, sti135, sti137, sti152, sti154, sti156, sti159, fou460, fou461, fou462, fou463, sti172, sti193, sti242, sti244, sti367, sti375, sti388, sti421, sti423, sti425, fou464, fou465, fou466, fou467, fou468, fou469, fou470, fou471, fou472, fou473, fou474, fou475, fou476]⟩
def foubx1 : Go.Abs.Lit := ⟨596, [sti302, sti303, sti2, sti402, sti6, sti7, sti37, sti49, sti52, fou458, fou459, sti59, sti72, sti135, sti137, sti152, sti154, sti156, sti159, fou460, fou461, fou462, fou463, sti172, sti193, sti242, sti244, sti367, sti375, sti421, sti423, sti425, fou467, fou468, fou469, fou470, fou471, fou472, fou477, fou478, fou479, fou480, fou481, fou482, fou483]⟩
def fouax1 : Go.Abs.Lit := ⟨763, [sti302, sti303, sti2, sti402, sti6, sti7, sti37, sti49, sti52, fou458, fou459, sti59, sti72, sti135, sti137, sti152, sti154, sti156, fou484, fou485, fou486, fou487, fou488, sti172, sti193, sti242, sti244, sti367, sti375, sti421, fou489, fou467, fou468, fou469, fou490, fou491, fou472, fou477, fou478, fou479, fou480, fou482, fou483, fou492, fou493, fou494, fou495, fou496, fou497, fou498, fou499, fou500, fou501, fou502]⟩
def foubx2 : Go.Abs.Lit := ⟨763, [sti302, sti303, sti2, sti402, sti6, sti7, sti37, sti49, sti52, fou458, fou459, sti59, sti72, sti135, sti137, sti152, sti154, sti156, fou484, fou485, fou486, fou487, fou488, sti172, sti193, sti242, sti244, sti367, sti375, sti421, fou489, fou467, fou468, fou469, fou490, fou491, fou472, fou477, fou478, fou479, fou480, fou482, fou483, fou492, fou493, fou495, fou496, fou497, fou498, fou499, fou500, fou501, fou502]⟩
def fouax2 : Go.Abs.Lit := ⟨1102, [sti2, sti402, sti6, sti7, sti72, fou484, sti193, sti421, fou489, fou477, fou478, fou479, fou480, fou482, fou483, fou493, fou500, fou501, fou502, fou503, fou504]⟩
def foum0 : Memo := ⟨37, [.pointer (some ⟨2, 0, none⟩)], foubx0, .agg #[.int .i64 (0), .int .i64 (0), .string ⟨#[]⟩, .int .i64 (0), .string ⟨#[]⟩], fouax0⟩
def foum1 : Memo := ⟨48, [.pointer (some ⟨2, 0, none⟩), .pointer (some ⟨3, 0, none⟩), .slice (some ⟨595, 0, none⟩) 2 2], foubx1, .tuple #[], fouax1⟩
def foum2 : Memo := ⟨37, [.pointer (some ⟨2, 0, none⟩)], foubx2, .agg #[.int .i64 (10), .int .i64 (0), .string ⟨#[115, 104, 111, 112]⟩, .int .i64 (1), .string ⟨#[122, 111, 110, 101]⟩], fouax2⟩
set_option maxRecDepth 1000000 in
theorem fout0 : memoB Tryz.prog know0 [] 1000 foum0 = true := by decide +kernel
set_option maxRecDepth 1000000 in
theorem fout1 : memoB Tryz.prog know0 [] 1000 foum1 = true := by decide +kernel
set_option maxRecDepth 1000000 in
theorem fout2 : memoB Tryz.prog know0 [] 1000 foum2 = true := by decide +kernel
noncomputable def foums : List Memo := [foum0, foum1, foum2]
theorem fouok : ∀ m ∈ foums, MemoOk Tryz.prog know0 (0 + 1000) m := memos_cons (memoB_ok (N := 0) memos_nil fout0) <| memos_cons (memoB_ok (N := 0) memos_nil fout1) <| memos_cons (memoB_ok (N := 0) memos_nil fout2) memos_nil
theorem b14_known : Known Tryz.prog (knowTrue [29]) := knownTrue fun f hf W => by
  have e : f = 29 := by simpa using hf
  subst e
  exact calls_29 W
theorem b14_ok : ∀ m ∈ foums ++ stams, MemoOk Tryz.prog (knowTrue [29]) 2000 m := fun m hm => by
  simp only [List.mem_append] at hm
  exact MemoOk.know (know0_le _) (by
    rcases hm with hm | hm
    · exact MemoOk.mono (by decide) (fouok m hm)
    · exact MemoOk.mono (by decide) (staok m hm))
set_option maxRecDepth 1000000 in
theorem b14_tells : tellsM Tryz.prog (knowTrue [29]) (foums ++ stams) 1000 31 [] (.bool true) = true := by decide +kernel
theorem calls_31 (W : World) : Calls Tryz.prog 31 ⟨[]⟩ W fun e W' => e = .returned (.bool true) ∧ Below W.heap.size W W' := tellsM_ok good b14_known b14_ok b14_tells W
end Go.Proofs.YtfagmgocbfalbaaGreat
