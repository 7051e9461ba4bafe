/-
  TS0.
-/
import Derived.Test.YtagidoadfajpgaaGreatN17
namespace Go.Proofs.YtagidoadfajpgaaGreat
set_option maxHeartbeats 4000000
open Go.Abs
variable {nO : Nat}
set_option maxRecDepth 8000
attribute [local irreducible] GP ruP nxP acS gst cdP loP j6 m9 m8 enP caA n5 lgP agN
def b7Z : ByteArray := ⟨#[0, 1, 2, 2, 3, 3, 3, 3, 4, 4, 4, 4, 4, 4, 4, 4, 5, 5, 5, 5, 5, 5, 5, 5, 5, 5, 5, 5, 5, 5, 5, 5, 6, 6, 6, 6, 6, 6, 6, 6, 6, 6, 6, 6, 6, 6, 6, 6, 6, 6, 6, 6, 6, 6, 6, 6, 6, 6, 6, 6, 6, 6, 6, 6, 7, 7, 7, 7, 7, 7, 7, 7, 7, 7, 7, 7, 7, 7, 7, 7, 7, 7, 7, 7, 7, 7, 7, 7, 7, 7, 7, 7, 7, 7, 7, 7, 7, 7, 7, 7, 7, 7, 7, 7, 7, 7, 7, 7, 7, 7, 7, 7, 7, 7, 7, 7, 7, 7, 7, 7, 7, 7, 7, 7, 7, 7, 7, 7, 8, 8, 8, 8, 8, 8, 8, 8, 8, 8, 8, 8, 8, 8, 8, 8, 8, 8, 8, 8, 8, 8, 8, 8, 8, 8, 8, 8, 8, 8, 8, 8, 8, 8, 8, 8, 8, 8, 8, 8, 8, 8, 8, 8, 8, 8, 8, 8, 8, 8, 8, 8, 8, 8, 8, 8, 8, 8, 8, 8, 8, 8, 8, 8, 8, 8, 8, 8, 8, 8, 8, 8, 8, 8, 8, 8, 8, 8, 8, 8, 8, 8, 8, 8, 8, 8, 8, 8, 8, 8, 8, 8, 8, 8, 8, 8, 8, 8, 8, 8, 8, 8, 8, 8, 8, 8, 8, 8, 8, 8, 8, 8, 8, 8, 8, 8, 8, 8, 8, 8, 8, 8, 8, 8, 8, 8, 8, 8]⟩
theorem b5c   : K1 nO 203 [.o (.v (.int .u64 0))] [] (.o (.i 0)) := by
 refine fs 100 fun B => g0 fun _ => g0 fun _ => cdF (b := decide ((0 : Int) ≥ 4294967296)) (by decide) <| g0 fun _ => cdF (b := decide ((0 : Int) ≥ 65536)) (by decide) <| g0 fun _ => cdF (b := decide ((0 : Int) ≥ 256)) (by decide) <| go (fun _ => (o4 (by decide +kernel : (0 : Int) <= IntKind.wrap .u8 0) (by decide +kernel : IntKind.wrap .u8 0 < ((b7Z.size : Nat) : Int)) (by decide +kernel : -9223372036854775808 <= 0 + (IntKind.wrap .i64 ((d4 b7Z ((IntKind.wrap .u8 0).toNat)).toNat : Int))) (by decide +kernel : 0 + (IntKind.wrap .i64 ((d4 b7Z ((IntKind.wrap .u8 0).toNat)).toNat : Int)) < 9223372036854775808))) fun _ => rtv trivial (()) trivial [] (.o (.i (0 + (IntKind.wrap .i64 ((d4 b7Z ((IntKind.wrap .u8 0).toNat)).toNat : Int))))) rfl
theorem b67   : K1 nO 174 [.o (.v (.int .u64 0))] [] (.o (.i 0)) := by
 refine fs 100 fun B => g0 fun _ => cdF rfl <| g0 fun _ => cl (b5c ) [] [] 100 fun _ _ => g0 fun _ => rt trivial (()) trivial []
theorem b7f   : K1 nO 204 [.o (.v (.slice none 0 0)), .o (.i 0), .o (.i 0)] [] (.o (.v undef)) := by
 refine fs 100 fun B => go (fun _ => (o2 (by omega : -9223372036854775808 <= (0 : Int) + 1) (by omega : (0 : Int) + 1 < 9223372036854775808))) fun _ => lp ((Nat)) [0, 1, 2, 6] (fun _ => []) [] (fun _ => []) 120 (fun _ => True) (fun r => 1 - r) (0) trivial [] fun u hx ag102 => g0 fun _ => cdF (b := decide ((0 : Int) + 1 < 0)) (by decide) <| rt trivial (()) trivial []
theorem b6R   : K1 nO 175 [.o (.v (.slice none 0 0)), .o (.i 0), .o (.i 0), .o (.i 0)] [] (.o (.v undef)) := by
 refine fs 100 fun B => g0 fun _ => g0 fun _ => lp ((Nat)) [0, 1, 2, 3, 8, 9] (fun _ => []) [] (fun _ => []) 120 (fun _ => True) (fun r => 1 - r) (0) trivial [] fun u hx ag103 => go (fun _ => (o2 (by omega : -9223372036854775808 <= (0 : Int) - 0) (by omega : (0 : Int) - 0 < 9223372036854775808))) fun _ => g0 fun _ => cdT (b := decide ((0 : Int) - 0 <= 12)) (by decide) <| g0 fun _ => cl (b7f ) [] [] 120 fun _ _ => rt trivial (()) trivial []
theorem b6K   : K1 nO 148 [.o (.v (.slice none 0 0))] [] (.o (.v undef)) := by
 refine fs 100 fun B => g0 fun _ => g0 fun _ => cl (b67 ) [] [] 100 fun _ _ => cl (b6R ) [] [] 100 fun _ _ => rt trivial (()) trivial []
theorem b7g {y : Value}  : K1 nO 194 [.o (.v (.slice none 0 0)), .o (.i 0), .o (.i 0), .o (.v y)] [] (.o (.v undef)) := by
 refine fs 100 fun B => go (fun _ => (o2 (by omega : -9223372036854775808 <= (0 : Int) + 1) (by omega : (0 : Int) + 1 < 9223372036854775808))) fun _ => lp ((Nat)) [0, 1, 2, 3, 8] (fun _ => []) [] (fun _ => []) 120 (fun _ => True) (fun r => 1 - r) (0) trivial [] fun u hx ag102 => g0 fun _ => cdF (b := decide ((0 : Int) + 1 < 0)) (by decide) <| rt trivial (()) trivial []
theorem b6S {y : Value}  : K1 nO 173 [.o (.v (.slice none 0 0)), .o (.i 0), .o (.i 0), .o (.i 0), .o (.v y)] [] (.o (.v undef)) := by
 refine fs 100 fun B => g0 fun _ => g0 fun _ => lp ((Nat)) [0, 1, 2, 3, 4, 10, 11] (fun _ => []) [] (fun _ => []) 120 (fun _ => True) (fun r => 1 - r) (0) trivial [] fun u hx ag103 => go (fun _ => (o2 (by omega : -9223372036854775808 <= (0 : Int) - 0) (by omega : (0 : Int) - 0 < 9223372036854775808))) fun _ => g0 fun _ => cdT (b := decide ((0 : Int) - 0 <= 12)) (by decide) <| g0 fun _ => cl (@b7g _ y) [] [] 120 fun _ _ => rt trivial (()) trivial []
theorem b4C {y : Value}  : K1 nO 144 [.o (.v (.slice none 0 0)), .o (.v y)] [] (.o (.v undef)) := by
 refine fs 100 fun B => g0 fun _ => g0 fun _ => cl (b67 ) [] [] 100 fun _ _ => g0 fun _ => cl (@b6S _ y) [] [] 100 fun _ _ => rt trivial (()) trivial []
end Go.Proofs.YtagidoadfajpgaaGreat
