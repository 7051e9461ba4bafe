/-
  TS0.
-/
import Derived.Test.YtagidoadfajpgaaGreatN17
namespace Go.Proofs.YtagidoadfajpgaaGreat
set_option maxHeartbeats 4000000
open Go.Abs
variable {nO : Nat}
set_option maxRecDepth 8000
attribute [local irreducible] GP ruP nxP acS gst cdP loP invS ent1 ent2 enP caA resV lgP agN
def len8 : ByteArray := ⟨#[0, 1, 2, 2, 3, 3, 3, 3, 4, 4, 4, 4, 4, 4, 4, 4, 5, 5, 5, 5, 5, 5, 5, 5, 5, 5, 5, 5, 5, 5, 5, 5, 6, 6, 6, 6, 6, 6, 6, 6, 6, 6, 6, 6, 6, 6, 6, 6, 6, 6, 6, 6, 6, 6, 6, 6, 6, 6, 6, 6, 6, 6, 6, 6, 7, 7, 7, 7, 7, 7, 7, 7, 7, 7, 7, 7, 7, 7, 7, 7, 7, 7, 7, 7, 7, 7, 7, 7, 7, 7, 7, 7, 7, 7, 7, 7, 7, 7, 7, 7, 7, 7, 7, 7, 7, 7, 7, 7, 7, 7, 7, 7, 7, 7, 7, 7, 7, 7, 7, 7, 7, 7, 7, 7, 7, 7, 7, 7, 8, 8, 8, 8, 8, 8, 8, 8, 8, 8, 8, 8, 8, 8, 8, 8, 8, 8, 8, 8, 8, 8, 8, 8, 8, 8, 8, 8, 8, 8, 8, 8, 8, 8, 8, 8, 8, 8, 8, 8, 8, 8, 8, 8, 8, 8, 8, 8, 8, 8, 8, 8, 8, 8, 8, 8, 8, 8, 8, 8, 8, 8, 8, 8, 8, 8, 8, 8, 8, 8, 8, 8, 8, 8, 8, 8, 8, 8, 8, 8, 8, 8, 8, 8, 8, 8, 8, 8, 8, 8, 8, 8, 8, 8, 8, 8, 8, 8, 8, 8, 8, 8, 8, 8, 8, 8, 8, 8, 8, 8, 8, 8, 8, 8, 8, 8, 8, 8, 8, 8, 8, 8, 8, 8, 8, 8, 8, 8]⟩
theorem len64_0   : Ctr Tryz.prog nO 203 [.o (.v (.int .u64 0))] [] (Unit) (fun _ => True) (fun r => .o (.i 0)) (fun r => []) := by
 refine fs 100 fun B => g0 fun _ => g0 fun _ => cdF (b := decide ((0 : Int) ≥ 4294967296)) (by decide) <| g0 fun _ => cdF (b := decide ((0 : Int) ≥ 65536)) (by decide) <| g0 fun _ => cdF (b := decide ((0 : Int) ≥ 256)) (by decide) <| go (fun _ => (o4 (by decide +kernel : (0 : Int) <= IntKind.wrap .u8 0) (by decide +kernel : IntKind.wrap .u8 0 < ((len8.size : Nat) : Int)) (by decide +kernel : -9223372036854775808 <= 0 + (IntKind.wrap .i64 ((byteAt len8 ((IntKind.wrap .u8 0).toNat)).toNat : Int))) (by decide +kernel : 0 + (IntKind.wrap .i64 ((byteAt len8 ((IntKind.wrap .u8 0).toNat)).toNat : Int)) < 9223372036854775808))) fun _ => rtv trivial (()) trivial [] (.o (.i (0 + (IntKind.wrap .i64 ((byteAt len8 ((IntKind.wrap .u8 0).toNat)).toNat : Int))))) rfl
theorem len_0   : Ctr Tryz.prog nO 174 [.o (.v (.int .u64 0))] [] (Unit) (fun _ => True) (fun r => .o (.i 0)) (fun r => []) := by
 refine fs 100 fun B => g0 fun _ => cdF rfl <| g0 fun _ => cl (len64_0 ) [] [] 100 fun _ _ => g0 fun _ => rt trivial (()) trivial []
theorem inso_0   : Ctr Tryz.prog nO 204 [.o (.v (.slice none 0 0)), .o (.i 0), .o (.i 0)] [] (Unit) (fun _ => True) (fun r => .o (.v undef)) (fun r => []) := by
 refine fs 100 fun B => go (fun _ => (o2 (by omega : -9223372036854775808 <= (0 : Int) + 1) (by omega : (0 : Int) + 1 < 9223372036854775808))) fun _ => lp ((Nat)) [0, 1, 2, 6] (fun _ => []) [] (fun _ => []) 120 (fun _ => True) (fun r => 1 - r) (0) trivial [] fun u hx ag102 => g0 fun _ => cdF (b := decide ((0 : Int) + 1 < 0)) (by decide) <| rt trivial (()) trivial []
theorem pdqo_0   : Ctr Tryz.prog nO 175 [.o (.v (.slice none 0 0)), .o (.i 0), .o (.i 0), .o (.i 0)] [] (Unit) (fun _ => True) (fun r => .o (.v undef)) (fun r => []) := by
 refine fs 100 fun B => g0 fun _ => g0 fun _ => lp ((Nat)) [0, 1, 2, 3, 8, 9] (fun _ => []) [] (fun _ => []) 120 (fun _ => True) (fun r => 1 - r) (0) trivial [] fun u hx ag103 => go (fun _ => (o2 (by omega : -9223372036854775808 <= (0 : Int) - 0) (by omega : (0 : Int) - 0 < 9223372036854775808))) fun _ => g0 fun _ => cdT (b := decide ((0 : Int) - 0 <= 12)) (by decide) <| g0 fun _ => cl (inso_0 ) [] [] 120 fun _ _ => rt trivial (()) trivial []
theorem sort_0   : Ctr Tryz.prog nO 148 [.o (.v (.slice none 0 0))] [] (Unit) (fun _ => True) (fun r => .o (.v undef)) (fun r => []) := by
 refine fs 100 fun B => g0 fun _ => g0 fun _ => cl (len_0 ) [] [] 100 fun _ _ => cl (pdqo_0 ) [] [] 100 fun _ _ => rt trivial (()) trivial []
theorem insc_0 {y : Value}  : Ctr Tryz.prog nO 194 [.o (.v (.slice none 0 0)), .o (.i 0), .o (.i 0), .o (.v y)] [] (Unit) (fun _ => True) (fun r => .o (.v undef)) (fun r => []) := by
 refine fs 100 fun B => go (fun _ => (o2 (by omega : -9223372036854775808 <= (0 : Int) + 1) (by omega : (0 : Int) + 1 < 9223372036854775808))) fun _ => lp ((Nat)) [0, 1, 2, 3, 8] (fun _ => []) [] (fun _ => []) 120 (fun _ => True) (fun r => 1 - r) (0) trivial [] fun u hx ag102 => g0 fun _ => cdF (b := decide ((0 : Int) + 1 < 0)) (by decide) <| rt trivial (()) trivial []
theorem pdqc_0 {y : Value}  : Ctr Tryz.prog nO 173 [.o (.v (.slice none 0 0)), .o (.i 0), .o (.i 0), .o (.i 0), .o (.v y)] [] (Unit) (fun _ => True) (fun r => .o (.v undef)) (fun r => []) := by
 refine fs 100 fun B => g0 fun _ => g0 fun _ => lp ((Nat)) [0, 1, 2, 3, 4, 10, 11] (fun _ => []) [] (fun _ => []) 120 (fun _ => True) (fun r => 1 - r) (0) trivial [] fun u hx ag103 => go (fun _ => (o2 (by omega : -9223372036854775808 <= (0 : Int) - 0) (by omega : (0 : Int) - 0 < 9223372036854775808))) fun _ => g0 fun _ => cdT (b := decide ((0 : Int) - 0 <= 12)) (by decide) <| g0 fun _ => cl (@insc_0 _ y) [] [] 120 fun _ _ => rt trivial (()) trivial []
theorem sortf_0 {y : Value}  : Ctr Tryz.prog nO 144 [.o (.v (.slice none 0 0)), .o (.v y)] [] (Unit) (fun _ => True) (fun r => .o (.v undef)) (fun r => []) := by
 refine fs 100 fun B => g0 fun _ => g0 fun _ => cl (len_0 ) [] [] 100 fun _ _ => g0 fun _ => cl (@pdqc_0 _ y) [] [] 100 fun _ _ => rt trivial (()) trivial []
end Go.Proofs.YtagidoadfajpgaaGreat
