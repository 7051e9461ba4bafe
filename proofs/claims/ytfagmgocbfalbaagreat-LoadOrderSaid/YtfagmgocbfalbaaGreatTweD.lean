/-
  Records that twe leans on: heaps written out, and that each call does what its record says. No condition.
-/
import Derived.Test.YtfagmgocbfalbaaGreatStaT1
namespace Go.Proofs.YtfagmgocbfalbaaGreat
open Go.Abs
def twe426 : Nat × Obj := (51, .cells #[.string ⟨#[108, 97, 110, 100]⟩, .slice (some ⟨48, 0, none⟩) 2 2, .string ⟨#[105, 100]⟩, .slice none 0 0, .slice (some ⟨59, 0, none⟩) 2 2, .slice (some ⟨474, 0, none⟩) 1 1, .int .i64 (1)] 123 (0, 0))
def twe427 : Nat × Obj := (53, .cells #[.int .i64 (1), .slice (some ⟨445, 0, none⟩) 1 1, .pointer none, .int .i64 (0)] 209 (0, 0))
def twe428 : Nat × Obj := (57, .cells #[.int .i64 (2), .slice (some ⟨452, 0, none⟩) 1 1, .pointer (some ⟨454, 0, none⟩), .int .i64 (0)] 209 (0, 0))
def twe429 : Nat × Obj := (159, .cells #[.string ⟨#[115, 104, 111, 112]⟩, .slice (some ⟨152, 0, none⟩) 4 4, .string ⟨#[105, 100]⟩, .slice (some ⟨154, 0, none⟩) 1 1, .slice (some ⟨175, 0, none⟩) 4 4, .slice (some ⟨536, 0, none⟩) 1 1, .int .i64 (1)] 123 (0, 0))
def twe430 : Nat × Obj := (161, .cells #[.int .i64 (1), .slice (some ⟨493, 0, none⟩) 1 1, .pointer none, .int .i64 (0)] 209 (0, 0))
def twe431 : Nat × Obj := (165, .cells #[.int .i64 (2), .slice (some ⟨500, 0, none⟩) 1 1, .pointer (some ⟨502, 0, none⟩), .int .i64 (0)] 209 (0, 0))
def twe432 : Nat × Obj := (169, .cells #[.int .i64 (2), .slice (some ⟨512, 0, none⟩) 1 1, .pointer none, .int .i64 (1)] 209 (0, 0))
def twe433 : Nat × Obj := (173, .cells #[.int .i64 (1), .slice (some ⟨519, 0, none⟩) 1 1, .pointer none, .int .i64 (0)] 209 (0, 0))
def twe434 : Nat × Obj := (432, .cells #[.int .i64 (1), .int .i64 (1), .string ⟨#[]⟩] 31 (0, 0))
def twe435 : Nat × Obj := (433, .cells #[.int .i64 (1), .int .i64 (1), .string ⟨#[]⟩, .int .i64 (2), .int .i64 (0), .string ⟨#[104, 101, 114, 101]⟩] 31 (0, 0))
def twe436 : Nat × Obj := (445, .cells #[.int .i64 (1), .int .i64 (1), .string ⟨#[]⟩] 31 (1, 0))
def twe437 : Nat × Obj := (452, .cells #[.int .i64 (2), .int .i64 (0), .string ⟨#[104, 101, 114, 101]⟩] 31 (1, 0))
def twe438 : Nat × Obj := (474, .cells #[.int .i64 (0), .int .i64 (1)] 143 (1, 0))
def twe439 : Nat × Obj := (475, .cells #[.int .i64 (1), .int .i64 (1), .string ⟨#[]⟩, .int .i64 (2), .int .i64 (0), .string ⟨#[120]⟩, .int .i64 (0), .int .i64 (0), .string ⟨#[]⟩, .int .i64 (1), .int .i64 (1), .string ⟨#[]⟩] 31 (0, 0))
def twe440 : Nat × Obj := (493, .cells #[.int .i64 (1), .int .i64 (1), .string ⟨#[]⟩] 31 (1, 0))
def twe441 : Nat × Obj := (500, .cells #[.int .i64 (2), .int .i64 (0), .string ⟨#[120]⟩] 31 (1, 0))
def twe442 : Nat × Obj := (512, .cells #[.int .i64 (0), .int .i64 (0), .string ⟨#[]⟩] 31 (1, 0))
def twe443 : Nat × Obj := (519, .cells #[.int .i64 (1), .int .i64 (1), .string ⟨#[]⟩] 31 (1, 0))
def twe444 : Nat × Obj := (536, .cells #[.int .i64 (0), .int .i64 (1)] 143 (1, 0))
def twe445 : Nat × Obj := (537, .cells #[.string ⟨#[108, 97, 110, 100]⟩, .string ⟨#[110, 97, 109, 101]⟩] 9 (0, 0))
def twe446 : Nat × Obj := (647, .cells #[.int .i64 (2), .int .i64 (0), .string ⟨#[104, 101, 114, 101]⟩] 31 (0, 0))
def twe447 : Nat × Obj := (648, .cells #[.string ⟨#[122, 111, 110, 101]⟩] 9 (0, 0))
def twe448 : Nat × Obj := (685, .cells #[.int .i64 (0), .int .i64 (0), .string ⟨#[]⟩] 31 (0, 0))
def twe449 : Nat × Obj := (686, .cells #[.string ⟨#[122, 111, 110, 101]⟩] 9 (0, 0))
def twe450 : Nat × Obj := (714, .cells #[.int .i64 (0), .int .i64 (0), .string ⟨#[]⟩] 31 (0, 0))
def twe451 : Nat × Obj := (742, .cells #[.slice (some ⟨1141, 0, none⟩) 4 4] 116 (0, 0))
def twe452 : Nat × Obj := (743, .map #[⟨.string ⟨#[108, 97, 110, 100]⟩, .pointer (some ⟨798, 0, none⟩), 0⟩, ⟨.string ⟨#[115, 104, 111, 112]⟩, .pointer (some ⟨916, 0, none⟩), 1⟩, ⟨.string ⟨#[100, 97, 121]⟩, .pointer (some ⟨1044, 0, none⟩), 2⟩, ⟨.string ⟨#[115, 97, 108, 101]⟩, .pointer (some ⟨1147, 0, none⟩), 3⟩] 4)
def twe453 : Nat × Obj := (744, .cells #[.pointer (some ⟨742, 0, none⟩), .map (some 743)] 67 (0, 0))
def twe454 : Nat × Obj := (756, .cells #[.string ⟨#[108, 97, 110, 100]⟩, .string ⟨#[115, 104, 111, 112]⟩, .string ⟨#[100, 97, 121]⟩, .string ⟨#[115, 97, 108, 101]⟩] 9 (1, 0))
def twe455 : Nat × Obj := (1066, .cells #[.string ⟨#[115, 104, 111, 112]⟩, .int .i64 (1), .bool false, .string ⟨#[115, 104, 111, 112]⟩, .string ⟨#[100, 97, 121]⟩, .int .i64 (2), .bool false, .string ⟨#[100, 97, 121]⟩, .string ⟨#[110]⟩, .int .i64 (1), .bool false, .string ⟨#[]⟩, .string ⟨#[116, 97, 103]⟩, .int .i64 (2), .bool false, .string ⟨#[]⟩] 125 (1, 0))
def twe456 : Nat × Obj := (1067, .cells #[.string ⟨#[115, 97, 108, 101]⟩, .slice (some ⟨1066, 0, none⟩) 4 4, .string ⟨#[]⟩, .slice none 0 0] 77 (0, 0))
def twe457 : Nat × Obj := (1147, .cells #[.string ⟨#[115, 97, 108, 101]⟩, .slice (some ⟨1145, 0, none⟩) 4 4, .string ⟨#[]⟩, .slice none 0 0, .slice (some ⟨1163, 0, none⟩) 4 4, .slice none 0 0, .int .i64 (0)] 123 (0, 0))
def twebx0 : Go.Abs.Lit := ⟨742, [sti302, sti303, sti2, sti402, sti37, sti49, twe426, twe427, twe428, sti59, sti135, sti137, sti139, sti152, sti154, sti156, twe429, twe430, twe431, twe432, twe433, sti172, sti242, sti244, sti246, sti260, sti262, sti264, sti267, sti269, sti272, sti275, sti277, sti367, sti375, sti385, sti388, sti390, sti393, sti396, sti399, sti401, twe434, twe435, twe436, twe437, twe438, twe439, twe440, twe441, twe442, twe443, twe444, twe445, twe446, twe447, twe448, twe449, twe450]⟩
def tweax0 : Go.Abs.Lit := ⟨1164, [sti302, sti303, sti2, sti402, twe426, twe429, sti388, twe434, twe435, twe439, twe445, twe446, twe447, twe448, twe449, twe450, twe451, twe452, twe453, twe454, twe455, twe456, twe457]⟩
def twem0 : Memo := ⟨36, [.pointer (some ⟨2, 0, none⟩)], twebx0, .pointer (some ⟨744, 0, none⟩), tweax0⟩
end Go.Proofs.YtfagmgocbfalbaaGreat
