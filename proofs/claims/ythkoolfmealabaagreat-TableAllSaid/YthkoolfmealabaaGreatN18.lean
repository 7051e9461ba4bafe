/-
  Bt.
-/
import Derived.Test.YthkoolfmealabaaGreatN14
import Derived.Test.YthkoolfmealabaaGreatProg
import Derived.Test.YthkoolfmealabaaGreatN15
namespace Go.Proofs.YthkoolfmealabaaGreat
open Go.Abs
theorem zeroFit : zeroOk Tryz.prog = true := by decide +kernel
theorem codeFit : codesOk Tryz.prog = true := by decide +kernel
theorem mixedFit : Tryz.prog.follows .mixedOrders = true := by decide +kernel
theorem good : Go.Abs.Good Tryz.prog := good_of zeroFit codeFit mixedFit
end Go.Proofs.YthkoolfmealabaaGreat
namespace Go.Proofs.YthkoolfmealabaaGreat
set_option maxHeartbeats 4000000
open Go.Abs
variable {nO : Nat}
set_option maxRecDepth 8000
attribute [local irreducible] GP ruP nxP acS gst cdP loP invS ent1 ent2 enP caA resV lgP agN
theorem text_ctr {s : ByteArray} (hs : s.size < 1000000000) : Ctr Tryz.prog nO 83 [.o (.v (.string s))] [] (Unit) (fun _ => True) (fun r => .o (.cb (tOk s))) (fun r => []) := by
 refine fs good 100 (fun B => ?_)
 refine g0 good fun _ => ?_
 refine g0 good fun _ => ?_
 refine lp good ((Nat)) [0, 5] (fun r => [(6, .o (.v (.int .i64 (r : Int))))]) [] (fun _ => []) 120 (fun r => r <= s.size /\ ∀ j, j < r -> bOk (byteAt s j)) (fun r => s.size - r) (0) ⟨Nat.zero_le _, fun j hj => absurd hj (Nat.not_lt_zero j)⟩ [] (fun k hx ag103 => ?_)
 obtain ⟨hk, hn⟩ := hx
 refine g0 good fun _ => ?_
 refine cdD good ((k : Int) < (s.size : Int)) (fun h105 => ?_) (fun h105 => ?_)
 ·refine g0 good fun _ => ?_
  refine go good (fun _ => (o4 (nz k) (by omega : (k : Int) < ((s.size : Nat) : Int)) (fun (he : (!(decide (((byteAt s k).toNat : Int) < 32))) = true) => have he : ¬ (((byteAt s k).toNat : Int) < 32) := (by simpa using he); (o2 (nz k) (by omega : (k : Int) < ((s.size : Nat) : Int)))) (fun (he : (!(or (decide (((byteAt s k).toNat : Int) < 32)) (decide (((byteAt s k).toNat : Int) > 126)))) = true) => have he : ¬ ((((byteAt s k).toNat : Int) < 32) ∨ (((byteAt s k).toNat : Int) > 126)) := (by simpa using he); (o2 (nz k) (by omega : (k : Int) < ((s.size : Nat) : Int)))))) fun _ => ?_
  refine cd good (or (or (decide (((byteAt s k).toNat : Int) < 32)) (decide (((byteAt s k).toNat : Int) > 126))) (((byteAt s k).toNat : Int) == 39)) (fun h108 => ?_) (fun h108 => ?_)
  ·have h108 : ((((byteAt s k).toNat : Int) < 32) ∨ (((byteAt s k).toNat : Int) > 126)) ∨ (((byteAt s k).toNat : Int) = 39) := by simpa using h108
   refine g0 good fun _ => ?_
   exact rtv trivial (()) trivial [] (.o (.v (.bool false))) (congrArg Value.bool (decide_eq_false (fun hm => by have := hm.1 k (by omega); unfold bOk at this; omega)).symm)
  ·have h108 : ¬ (((((byteAt s k).toNat : Int) < 32) ∨ (((byteAt s k).toNat : Int) > 126)) ∨ (((byteAt s k).toNat : Int) = 39)) := by simpa using h108
   refine go good (fun _ => (o2 (by omega : -9223372036854775808 <= (k : Int) + 1) (by omega : (k : Int) + 1 < 9223372036854775808))) fun _ => ?_
   exact ag103 _ _ (k + 1) (by first | omega | (simp only; omega)) ⟨by omega, fun j hj => by rcases Nat.lt_succ_iff_lt_or_eq.1 hj with h | h; exact hn j h; subst h; unfold bOk; omega⟩ [] (by kernel_rfl) (by kernel_rfl)
 ·refine g0 good fun _ => ?_
  exact rtv trivial (()) trivial [] (.o (.cb (decide ((s.size : Int) <= 12)))) (congrArg Value.bool (decide_eq_decide.2 ⟨fun h => ⟨fun j hj => hn j (by omega), by omega⟩, fun h => by omega⟩))
theorem may_ctr {v : Va} (hs : v.s.size < 1000000000) : Ctr Tryz.prog nO 61 [.a [.v (.int .i64 v.k), .v (.int .i64 v.n), .v (.string v.s)]] [] (Unit) (fun _ => True) (fun r => .o (.cb (vOk v))) (fun r => []) := by
 refine fs good 100 (fun B => ?_)
 refine go good (fun q101 => (o1 (rfl : [C1.v (.int .i64 v.k), .v (.int .i64 v.n), .v (.string v.s)].all C1.one = true))) (fun q101 => ?_)
 refine go good (fun _ => (o1 (rfl : (q101 100) = (q101 100)))) fun _ => ?_
 refine g0 good fun _ => ?_
 refine cdE good v.k 0 (fun h1 => ?_) (fun h1 => ?_)
 ·refine go good (fun _ => (o2 (rfl : (q101 100) = (q101 100)) (fun (he : (v.n == 0) = true) => have he : v.n = 0 := (by simpa using he); (o1 (rfl : (q101 100) = (q101 100)))))) fun _ => ?_
  exact rtv trivial (()) trivial [] (.o (.cb (and (v.n == 0) (strEq v.s ⟨#[]⟩)))) (by simp [vOk, h1, strE, SV.den, C1.den])
 ·refine g0 good fun _ => ?_
  refine cdE good v.k 1 (fun h2 => ?_) (fun h2 => ?_)
  ·refine go good (fun _ => (o1 (rfl : (q101 100) = (q101 100)))) fun _ => ?_
   exact rtv trivial (()) trivial [] (.o (.cb (strEq v.s ⟨#[]⟩))) (by simp [vOk, h1, h2, strE, SV.den, C1.den])
  ·refine g0 good fun _ => ?_
   refine cdE good v.k 2 (fun h3 => ?_) (fun h3 => ?_)
   ·refine go good (fun _ => (o2 (rfl : (q101 100) = (q101 100)) (fun (he : (v.n == 0) = true) => have he : v.n = 0 := (by simpa using he); (o1 (rfl : (q101 100) = (q101 100)))))) fun _ => ?_
    refine clm good (text_ctr (s := v.s) (by assumption)) [] trivial ?_
    refine g0 good fun _ => ?_
    exact rtv trivial (()) trivial [] (.o (.cb (and (v.n == 0) (tOk v.s)))) (by simp [vOk, h1, h2, h3, SV.den, C1.den])
   ·refine g0 good fun _ => ?_
    exact rtv trivial (()) trivial [] (.o (.v (.bool false))) (by simp [vOk, h1, h2, h3, SV.den, C1.den])
theorem rmay_ctr {v : Va} (hs : v.s.size < 1000000000) : Ctr Tryz.prog nO 13 [.a [.v (.int .i64 v.k), .v (.int .i64 v.n), .v (.string v.s)]] [] (Unit) (fun _ => True) (fun r => .o (.cb (vOk v))) (fun r => []) := by
 refine fs good 100 (fun B => ?_)
 refine go good (fun q101 => (o1 (rfl : [C1.v (.int .i64 v.k), .v (.int .i64 v.n), .v (.string v.s)].all C1.one = true))) (fun q101 => ?_)
 refine go good (fun _ => (o1 (rfl : (q101 100) = (q101 100)))) fun _ => ?_
 refine g0 good fun _ => ?_
 refine cdE good v.k 0 (fun h1 => ?_) (fun h1 => ?_)
 ·refine go good (fun _ => (o2 (rfl : (q101 100) = (q101 100)) (fun (he : (v.n == 0) = true) => have he : v.n = 0 := (by simpa using he); (o1 (rfl : (q101 100) = (q101 100)))))) fun _ => ?_
  exact rtv trivial (()) trivial [] (.o (.cb (and (v.n == 0) (strEq v.s ⟨#[]⟩)))) (by simp [vOk, h1, strE, SV.den, C1.den])
 ·refine g0 good fun _ => ?_
  refine cdE good v.k 1 (fun h2 => ?_) (fun h2 => ?_)
  ·refine go good (fun _ => (o1 (rfl : (q101 100) = (q101 100)))) fun _ => ?_
   exact rtv trivial (()) trivial [] (.o (.cb (strEq v.s ⟨#[]⟩))) (by simp [vOk, h1, h2, strE, SV.den, C1.den])
  ·refine g0 good fun _ => ?_
   refine cdE good v.k 2 (fun h3 => ?_) (fun h3 => ?_)
   ·refine g0 good fun _ => ?_
    refine lp good ((Nat)) [1] (fun r => [(3, .o (.v (.int .i64 (r : Int))))]) [0] (fun _ => []) 121 (fun r => r <= v.s.size /\ ∀ j, j < r -> bOk (byteAt v.s j)) (fun r => v.s.size - r) (0) ⟨Nat.zero_le _, fun j hj => absurd hj (Nat.not_lt_zero j)⟩ [] (fun k hx ag109 => ?_)
    obtain ⟨hk, hn⟩ := hx
    refine go good (fun _ => (o1 (rfl : (q101 100) = (q101 100)))) fun _ => ?_
    refine cdD good ((k : Int) < (v.s.size : Int)) (fun h111 => ?_) (fun h111 => ?_)
    ·refine go good (fun _ => (oc (rfl : (q101 100) = (q101 100)) (nz k) (by omega : (k : Int) < ((v.s.size : Nat) : Int)) (fun (he : (!(decide (((byteAt v.s k).toNat : Int) < 32))) = true) => have he : ¬ (((byteAt v.s k).toNat : Int) < 32) := (by simpa using he); (o1 (rfl : (q101 100) = (q101 100)))) (fun (he : (!(decide (((byteAt v.s k).toNat : Int) < 32))) = true) => have he : ¬ (((byteAt v.s k).toNat : Int) < 32) := (by simpa using he); (o2 (nz k) (by omega : (k : Int) < ((v.s.size : Nat) : Int)))) (fun (he : (!(or (decide (((byteAt v.s k).toNat : Int) < 32)) (decide (((byteAt v.s k).toNat : Int) > 126)))) = true) => have he : ¬ ((((byteAt v.s k).toNat : Int) < 32) ∨ (((byteAt v.s k).toNat : Int) > 126)) := (by simpa using he); (o1 (rfl : (q101 100) = (q101 100)))) (o1 (fun (he : (!(or (decide (((byteAt v.s k).toNat : Int) < 32)) (decide (((byteAt v.s k).toNat : Int) > 126)))) = true) => have he : ¬ ((((byteAt v.s k).toNat : Int) < 32) ∨ (((byteAt v.s k).toNat : Int) > 126)) := (by simpa using he); (o2 (nz k) (by omega : (k : Int) < ((v.s.size : Nat) : Int))))))) fun _ => ?_
     refine cd good (or (or (decide (((byteAt v.s k).toNat : Int) < 32)) (decide (((byteAt v.s k).toNat : Int) > 126))) (((byteAt v.s k).toNat : Int) == 39)) (fun h113 => ?_) (fun h113 => ?_)
     ·have h113 : ((((byteAt v.s k).toNat : Int) < 32) ∨ (((byteAt v.s k).toNat : Int) > 126)) ∨ (((byteAt v.s k).toNat : Int) = 39) := by simpa using h113
      refine g0 good fun _ => ?_
      exact rtv trivial (()) trivial [] (.o (.v (.bool false))) (by have e : tOk v.s = false := (decide_eq_false (fun hm => by have := hm.1 k (by omega); unfold bOk at this; omega)); simp [vOk, h1, h2, h3, e, SV.den, C1.den])
     ·have h113 : ¬ (((((byteAt v.s k).toNat : Int) < 32) ∨ (((byteAt v.s k).toNat : Int) > 126)) ∨ (((byteAt v.s k).toNat : Int) = 39)) := by simpa using h113
      refine go good (fun _ => (o2 (by omega : -9223372036854775808 <= (k : Int) + 1) (by omega : (k : Int) + 1 < 9223372036854775808))) fun _ => ?_
      exact ag109 _ _ (k + 1) (by first | omega | (simp only; omega)) ⟨by omega, fun j hj => by rcases Nat.lt_succ_iff_lt_or_eq.1 hj with h | h; exact hn j h; subst h; unfold bOk; omega⟩ [0] (by kernel_rfl) (by kernel_rfl)
    ·refine go good (fun _ => (o2 (rfl : (q101 100) = (q101 100)) (fun (he : (v.n == 0) = true) => have he : v.n = 0 := (by simpa using he); (o1 (rfl : (q101 100) = (q101 100)))))) fun _ => ?_
     exact rtv trivial (()) trivial [] (.o (.cb (and (v.n == 0) (decide ((v.s.size : Int) <= 12))))) (by have e : tOk v.s = decide ((v.s.size : Int) <= 12) := (decide_eq_decide.2 ⟨fun h => by omega, fun h => ⟨fun j hj => hn j (by omega), by omega⟩⟩); simp [vOk, h1, h2, h3, e, SV.den, C1.den])
   ·refine g0 good fun _ => ?_
    exact rtv trivial (()) trivial [] (.o (.v (.bool false))) (by simp [vOk, h1, h2, h3, SV.den, C1.den])
theorem req_ctr {a b : Va}  : Ctr Tryz.prog nO 56 [.a [.v (.int .i64 a.k), .v (.int .i64 a.n), .v (.string a.s)], .a [.v (.int .i64 b.k), .v (.int .i64 b.n), .v (.string b.s)]] [] (Unit) (fun _ => True) (fun r => .o (.cb (eqV a b))) (fun r => []) := by
 refine fs good 100 (fun B => ?_)
 refine go good (fun q101 => (o2 (rfl : [C1.v (.int .i64 a.k), .v (.int .i64 a.n), .v (.string a.s)].all C1.one = true) (rfl : [C1.v (.int .i64 b.k), .v (.int .i64 b.n), .v (.string b.s)].all C1.one = true))) (fun q101 => ?_)
 refine go good (fun _ => (o6 (rfl : (q101 100) = (q101 100)) (rfl : (q101 101) = (q101 101)) (fun (he : (a.k == b.k) = true) => have he : a.k = b.k := (by simpa using he); (o1 (rfl : (q101 100) = (q101 100)))) (fun (he : (a.k == b.k) = true) => have he : a.k = b.k := (by simpa using he); (o1 (rfl : (q101 101) = (q101 101)))) (fun (he : (and (a.k == b.k) (a.n == b.n)) = true) => have he : (a.k = b.k) /\ (a.n = b.n) := (by simpa using he); (o1 (rfl : (q101 100) = (q101 100)))) (fun (he : (and (a.k == b.k) (a.n == b.n)) = true) => have he : (a.k = b.k) /\ (a.n = b.n) := (by simpa using he); (o1 (rfl : (q101 101) = (q101 101)))))) fun _ => ?_
 exact rt trivial (()) trivial []
theorem rcmp_ctr {a b : Va}  : Ctr Tryz.prog nO 44 [.a [.v (.int .i64 a.k), .v (.int .i64 a.n), .v (.string a.s)], .a [.v (.int .i64 b.k), .v (.int .i64 b.n), .v (.string b.s)]] [] (Unit) (fun _ => True) (fun r => .o (.v (.int .i64 (cmpV a b)))) (fun r => []) := by
 refine fs good 100 (fun B => ?_)
 refine go good (fun q101 => (o2 (rfl : [C1.v (.int .i64 a.k), .v (.int .i64 a.n), .v (.string a.s)].all C1.one = true) (rfl : [C1.v (.int .i64 b.k), .v (.int .i64 b.n), .v (.string b.s)].all C1.one = true))) (fun q101 => ?_)
 refine go good (fun _ => (o2 (rfl : (q101 100) = (q101 100)) (rfl : (q101 101) = (q101 101)))) fun _ => ?_
 refine cdD good (a.k < b.k) (fun h1 => ?_) (fun h1 => ?_)
 ·refine cdT good (b := decide (a.k < b.k)) (decide_eq_true h1) ?_
  refine g0 good fun _ => ?_
  exact rtv trivial (()) trivial [] (.o (.v (.int .i64 (-1)))) (congrArg (Value.int .i64) (by simp [cmpV, eqV, *]))
 ·refine go good (fun _ => (o4 (rfl : (q101 100) = (q101 100)) (rfl : (q101 101) = (q101 101)) (fun (he : (a.k == b.k) = true) => have he : a.k = b.k := (by simpa using he); (o1 (rfl : (q101 100) = (q101 100)))) (fun (he : (a.k == b.k) = true) => have he : a.k = b.k := (by simpa using he); (o1 (rfl : (q101 101) = (q101 101)))))) fun _ => ?_
  refine cd good (and (a.k == b.k) (decide (a.n < b.n))) (fun h2 => ?_) (fun h2 => ?_)
  ·have h2 : (a.k = b.k) /\ (a.n < b.n) := by simpa using h2
   refine cdT good (b := and (a.k == b.k) (decide (a.n < b.n))) (by simpa using h2) ?_
   refine g0 good fun _ => ?_
   exact rtv trivial (()) trivial [] (.o (.v (.int .i64 (-1)))) (congrArg (Value.int .i64) (by simp [cmpV, eqV, *]))
  ·have h2 : ¬ ((a.k = b.k) /\ (a.n < b.n)) := by simpa using h2
   refine go good (fun _ => (o6 (rfl : (q101 100) = (q101 100)) (rfl : (q101 101) = (q101 101)) (fun (he : (a.k == b.k) = true) => have he : a.k = b.k := (by simpa using he); (o1 (rfl : (q101 100) = (q101 100)))) (fun (he : (a.k == b.k) = true) => have he : a.k = b.k := (by simpa using he); (o1 (rfl : (q101 101) = (q101 101)))) (fun (he : (and (a.k == b.k) (a.n == b.n)) = true) => have he : (a.k = b.k) /\ (a.n = b.n) := (by simpa using he); (o1 (rfl : (q101 100) = (q101 100)))) (fun (he : (and (a.k == b.k) (a.n == b.n)) = true) => have he : (a.k = b.k) /\ (a.n = b.n) := (by simpa using he); (o1 (rfl : (q101 101) = (q101 101)))))) fun _ => ?_
   refine cd good (and (and (a.k == b.k) (a.n == b.n)) (strLt a.s b.s)) (fun h3 => ?_) (fun h3 => ?_)
   ·have h3 : ((a.k = b.k) /\ (a.n = b.n)) /\ ((strLt a.s b.s) = true) := by simpa using h3
    refine g0 good fun _ => ?_
    exact rtv trivial (()) trivial [] (.o (.v (.int .i64 (-1)))) (congrArg (Value.int .i64) (by simp [cmpV, eqV, *]))
   ·have h3 : ¬ (((a.k = b.k) /\ (a.n = b.n)) /\ ((strLt a.s b.s) = true)) := by simpa using h3
    refine go good (fun _ => (o6 (rfl : (q101 100) = (q101 100)) (rfl : (q101 101) = (q101 101)) (fun (he : (a.k == b.k) = true) => have he : a.k = b.k := (by simpa using he); (o1 (rfl : (q101 100) = (q101 100)))) (fun (he : (a.k == b.k) = true) => have he : a.k = b.k := (by simpa using he); (o1 (rfl : (q101 101) = (q101 101)))) (fun (he : (and (a.k == b.k) (a.n == b.n)) = true) => have he : (a.k = b.k) /\ (a.n = b.n) := (by simpa using he); (o1 (rfl : (q101 100) = (q101 100)))) (fun (he : (and (a.k == b.k) (a.n == b.n)) = true) => have he : (a.k = b.k) /\ (a.n = b.n) := (by simpa using he); (o1 (rfl : (q101 101) = (q101 101)))))) fun _ => ?_
    refine cd good (and (and (a.k == b.k) (a.n == b.n)) (strEq a.s b.s)) (fun h4 => ?_) (fun h4 => ?_)
    ·have h4 : ((a.k = b.k) /\ (a.n = b.n)) /\ ((strEq a.s b.s) = true) := by simpa using h4
     refine g0 good fun _ => ?_
     exact rtv trivial (()) trivial [] (.o (.v (.int .i64 0))) (congrArg (Value.int .i64) (by have h5 : strLt a.s b.s = false := (by cases h : strLt a.s b.s with | true => exact absurd ⟨h4.1, h⟩ h3 | false => rfl); simp [cmpV, eqV, *]))
    ·have h4 : ¬ (((a.k = b.k) /\ (a.n = b.n)) /\ ((strEq a.s b.s) = true)) := by simpa using h4
     refine g0 good fun _ => ?_
     exact rtv trivial (()) trivial [] (.o (.v (.int .i64 1))) (congrArg (Value.int .i64) (by simp [cmpV, eqV, *]))
theorem rrow_ctr {qa ca : Nat} {za : Bool} {a : List Va} {ta : TypeId} {ma : Md} {qb cb : Nat} {zb : Bool} {b : List Va} {tb : TypeId} {mb : Md} (hza : za = true -> a.length = 0) (hla : a.length < 1000000) (hzb : zb = true -> b.length = 0) (hlb : b.length < 1000000) : Ctr Tryz.prog nO 16 [.o (.s 1 qa 3 0 a.length ca za), .o (.s 2 qb 3 0 b.length cb zb)] [vc eV 1 qa a ta ma za, vc eV 2 qb b tb mb zb] (Unit) (fun _ => True) (fun r => .o (.v (.int .i64 (rowV a b)))) (fun r => [vc eV 1 qa a ta ma za, vc eV 2 qb b tb mb zb]) := by
 refine fs good 100 (fun B => ?_)
 refine g0 good fun _ => ?_
 refine g0 good fun _ => ?_
 refine lp good ((Nat)) [0, 1] (fun r => [(5, .o (.v (.int .i64 (r : Int))))]) [0, 1] (fun _ => []) 120 (fun r => r <= a.length /\ r <= b.length /\ rowV a b = rowV (a.drop r) (b.drop r)) (fun r => a.length - r) (0) ⟨Nat.zero_le _, Nat.zero_le _, rfl⟩ [] (fun i hx ag103 => ?_)
 obtain ⟨h0, h0b, hr⟩ := hx
 refine g0 good fun _ => ?_
 refine cd good (and (decide ((i : Int) < (a.length : Int))) (decide ((i : Int) < (b.length : Int)))) (fun h1 => ?_) (fun h1 => ?_)
 ·have h1 : ((i : Int) < (a.length : Int)) /\ ((i : Int) < (b.length : Int)) := by simpa using h1
  refine go good (fun _ => (oc (nz i) (by omega : (i : Int) < (a.length : Int)) (zf hza (show 0 < a.length by omega) : za = false) (rfl : qa = _) (by omega : i < a.length) (nz i) (o4 (by omega : (i : Int) < (b.length : Int)) (zf hzb (show 0 < b.length by omega) : zb = false) (rfl : qb = _) (by omega : i < b.length)))) fun _ => ?_
  refine cl good (rcmp_ctr (a := (a.getD i eV.d)) (b := (b.getD i eV.d))) [] [] 120 fun _ _ => ?_
  refine g0 good fun _ => ?_
  refine g0 good fun _ => ?_
  refine cdN good (cmpV (a.getD i eV.d) (b.getD i eV.d)) 0 (fun h2 => ?_) (fun h2 => ?_)
  ·refine g0 good fun _ => ?_
   exact rtv trivial (()) trivial [0, 1] (.o (.v (.int .i64 (cmpV (a.getD i eV.d) (b.getD i eV.d))))) (congrArg (Value.int .i64) (by rw [hr, rowV_step (by omega) (by omega), if_neg h2]))
  ·refine go good (fun _ => (o2 (by omega : -9223372036854775808 <= (i : Int) + 1) (by omega : (i : Int) + 1 < 9223372036854775808))) fun _ => ?_
   exact ag103 _ _ (i + 1) (by first | omega | (simp only; omega)) ⟨by omega, by omega, by rw [hr, rowV_step (by omega) (by omega), if_pos h2]⟩ [0, 1] (by kernel_rfl) (by kernel_rfl)
 ·have h1 : ¬ (((i : Int) < (a.length : Int)) /\ ((i : Int) < (b.length : Int))) := by simpa using h1
  have he : a.drop i = [] ∨ b.drop i = [] := by simp only [List.drop_eq_nil_iff]; omega
  rw [rowV_end he, List.length_drop, List.length_drop] at hr
  refine g0 good fun _ => ?_
  refine cdD good ((a.length : Int) < (b.length : Int)) (fun h3 => ?_) (fun h3 => ?_)
  ·refine g0 good fun _ => ?_
   exact rtv trivial (()) trivial [0, 1] (.o (.v (.int .i64 (-1)))) (congrArg (Value.int .i64) (by rw [hr, if_pos (by omega)]))
  ·refine g0 good fun _ => ?_
   refine cdD good ((a.length : Int) > (b.length : Int)) (fun h4 => ?_) (fun h4 => ?_)
   ·refine g0 good fun _ => ?_
    exact rtv trivial (()) trivial [0, 1] (.o (.v (.int .i64 1))) (congrArg (Value.int .i64) (by rw [hr, if_neg (by omega), if_pos (by omega)]))
   ·refine g0 good fun _ => ?_
    exact rtv trivial (()) trivial [0, 1] (.o (.v (.int .i64 0))) (congrArg (Value.int .i64) (by rw [hr, if_neg (by omega), if_neg (by omega)]))
theorem pcmp_ctr {qa ca : Nat} {za : Bool} {a : List ByteArray} {ta : TypeId} {ma : Md} {qb cb : Nat} {zb : Bool} {b : List ByteArray} {tb : TypeId} {mb : Md} (hza : za = true -> a.length = 0) (hla : a.length < 1000000) (hzb : zb = true -> b.length = 0) (hlb : b.length < 1000000) : Ctr Tryz.prog nO 72 [.o (.s 1 qa 1 0 a.length ca za), .o (.s 2 qb 1 0 b.length cb zb)] [vc eS 1 qa a ta ma za, vc eS 2 qb b tb mb zb] (Unit) (fun _ => True) (fun r => .o (.v (.int .i64 (cmpP a b)))) (fun r => [vc eS 1 qa a ta ma za, vc eS 2 qb b tb mb zb]) := by
 refine fs good 100 (fun B => ?_)
 refine g0 good fun _ => ?_
 refine g0 good fun _ => ?_
 refine lp good ((Nat)) [0, 1] (fun r => [(5, .o (.v (.int .i64 (r : Int))))]) [0, 1] (fun _ => []) 120 (fun r => r <= a.length /\ r <= b.length /\ cmpP a b = cmpP (a.drop r) (b.drop r)) (fun r => a.length - r) (0) ⟨Nat.zero_le _, Nat.zero_le _, rfl⟩ [] (fun i hx ag103 => ?_)
 obtain ⟨h0, h0b, hr⟩ := hx
 refine g0 good fun _ => ?_
 refine cd good (and (decide ((i : Int) < (a.length : Int))) (decide ((i : Int) < (b.length : Int)))) (fun h1 => ?_) (fun h1 => ?_)
 ·have h1 : ((i : Int) < (a.length : Int)) /\ ((i : Int) < (b.length : Int)) := by simpa using h1
  refine go good (fun _ => (oc (nz i) (by omega : (i : Int) < (a.length : Int)) (zf hza (show 0 < a.length by omega) : za = false) (rfl : qa = _) (by omega : i < a.length) (nz i) (o4 (by omega : (i : Int) < (b.length : Int)) (zf hzb (show 0 < b.length by omega) : zb = false) (rfl : qb = _) (by omega : i < b.length)))) fun _ => ?_
  refine cd good (strLt (a.getD i eS.d) (b.getD i eS.d)) (fun h2 => ?_) (fun h2 => ?_)
  ·refine g0 good fun _ => ?_
   exact rtv trivial (()) trivial [0, 1] (.o (.v (.int .i64 (-1)))) (congrArg (Value.int .i64) (by rw [hr, cmpP_step (by omega) (by omega), if_pos h2]))
  ·refine go good (fun _ => (oc (nz i) (by omega : (i : Int) < (a.length : Int)) (zf hza (show 0 < a.length by omega) : za = false) (rfl : qa = _) (by omega : i < a.length) (nz i) (o4 (by omega : (i : Int) < (b.length : Int)) (zf hzb (show 0 < b.length by omega) : zb = false) (rfl : qb = _) (by omega : i < b.length)))) fun _ => ?_
   refine cd good (!(strLt (a.getD i eS.d) (b.getD i eS.d) || strEq (a.getD i eS.d) (b.getD i eS.d))) (fun h3 => ?_) (fun h3 => ?_)
   ·refine g0 good fun _ => ?_
    exact rtv trivial (()) trivial [0, 1] (.o (.v (.int .i64 1))) (congrArg (Value.int .i64) (by rw [hr, cmpP_step (by omega) (by omega), if_neg (nb h2), if_pos h3]))
   ·refine go good (fun _ => (o2 (by omega : -9223372036854775808 <= (i : Int) + 1) (by omega : (i : Int) + 1 < 9223372036854775808))) fun _ => ?_
    exact ag103 _ _ (i + 1) (by first | omega | (simp only; omega)) ⟨by omega, by omega, by rw [hr, cmpP_step (by omega) (by omega), if_neg (nb h2), if_neg (nb h3)]⟩ [0, 1] (by kernel_rfl) (by kernel_rfl)
 ·have h1 : ¬ (((i : Int) < (a.length : Int)) /\ ((i : Int) < (b.length : Int))) := by simpa using h1
  have he : a.drop i = [] ∨ b.drop i = [] := by simp only [List.drop_eq_nil_iff]; omega
  rw [cmpP_end he, List.length_drop, List.length_drop] at hr
  refine g0 good fun _ => ?_
  refine cdD good ((a.length : Int) < (b.length : Int)) (fun h4 => ?_) (fun h4 => ?_)
  ·refine g0 good fun _ => ?_
   exact rtv trivial (()) trivial [0, 1] (.o (.v (.int .i64 (-1)))) (congrArg (Value.int .i64) (by rw [hr, if_pos (by omega)]))
  ·refine g0 good fun _ => ?_
   refine cdD good ((a.length : Int) > (b.length : Int)) (fun h5 => ?_) (fun h5 => ?_)
   ·refine g0 good fun _ => ?_
    exact rtv trivial (()) trivial [0, 1] (.o (.v (.int .i64 1))) (congrArg (Value.int .i64) (by rw [hr, if_neg (by omega), if_pos (by omega)]))
   ·refine g0 good fun _ => ?_
    exact rtv trivial (()) trivial [0, 1] (.o (.v (.int .i64 0))) (congrArg (Value.int .i64) (by rw [hr, if_neg (by omega), if_neg (by omega)]))
theorem eqpath_ctr {qa ca : Nat} {za : Bool} {a : List ByteArray} {ta : TypeId} {ma : Md} {qb cb : Nat} {zb : Bool} {b : List ByteArray} {tb : TypeId} {mb : Md} (hza : za = true -> a.length = 0) (hla : a.length < 1000000) (hzb : zb = true -> b.length = 0) (hlb : b.length < 1000000) : Ctr Tryz.prog nO 45 [.o (.s 1 qa 1 0 a.length ca za), .o (.s 2 qb 1 0 b.length cb zb)] [vc eS 1 qa a ta ma za, vc eS 2 qb b tb mb zb] (Unit) (fun _ => True) (fun r => .o (.cb (cmpP a b == 0))) (fun r => [vc eS 1 qa a ta ma za, vc eS 2 qb b tb mb zb]) := by
 refine fs good 100 (fun B => ?_)
 refine g0 good fun _ => ?_
 refine g0 good fun _ => ?_
 refine cl good (pcmp_ctr (qa := qa) (ca := ca) (za := za) (a := a) (ta := ta) (ma := ma) (qb := qb) (cb := cb) (zb := zb) (b := b) (tb := tb) (mb := mb) (by assumption) (by omega) (by assumption) (by omega)) [0, 1] [] 100 fun _ _ => ?_
 refine g0 good fun _ => ?_
 exact rt trivial (()) trivial [0, 1]
end Go.Proofs.YthkoolfmealabaaGreat
namespace Go.Proofs.YthkoolfmealabaaGreat
set_option maxHeartbeats 4000000
open Go.Abs
variable {nO : Nat}
set_option maxRecDepth 8000
attribute [local irreducible] GP ruP nxP acS gst cdP loP invS ent1 ent2 enP caA resV lgP agN
theorem add_ctr {q p : Nat} {m : List Sp} {f t : Int} {tb : TypeId} (hm : m.length < 100000) : Ctr Tryz.prog nO 67 [.o (.p 1 q 0 0 0), .o (.v (.int .i64 f)), .o (.v (.int .i64 t))] [.blk 1 q [.s 2 p 2 0 m.length m.length m.isEmpty] tb .own, vc eP 2 p m 114 .grown m.isEmpty] ((Nat)) (fun _ => True) (fun r => .o (.v undef)) (fun r => [.blk 1 q [.s 2 r 2 0 ((addSp m f t).length) ((addSp m f t).length) ((addSp m f t).isEmpty)] tb .own, vc eP 2 r (addSp m f t) 114 .grown ((addSp m f t).isEmpty)]) := by
 refine fs good 100 (fun B => ?_)
 have hl1 : ((m.length : Int) - 1).toNat = m.length - 1 := by omega
 refine go good (fun _ => (o1 (rfl : q = _))) fun _ => ?_
 refine go good (fun _ => (o5 (fun (he : (decide ((m.length : Int) > 0)) = true) => have he : (m.length : Int) > 0 := (by simpa using he); (o1 (rfl : q = _))) (fun (he : (decide ((m.length : Int) > 0)) = true) => have he : (m.length : Int) > 0 := (by simpa using he); (o2 (by omega : -9223372036854775808 <= (m.length : Int) - 1) (by omega : (m.length : Int) - 1 < 9223372036854775808))) (fun (he : (decide ((m.length : Int) > 0)) = true) => have he : (m.length : Int) > 0 := (by simpa using he); (o3 (by omega : (0 : Int) <= (m.length : Int) - 1) (by omega : (m.length : Int) - 1 < (m.length : Int)) (zfe (by omega) : m.isEmpty = false))) (fun (he : (decide ((m.length : Int) > 0)) = true) => have he : (m.length : Int) > 0 := (by simpa using he); (o2 (by decide : (0 : Int) <= 1) (by decide : (1 : Int) < 2))) (fun (he : (decide ((m.length : Int) > 0)) = true) => have he : (m.length : Int) > 0 := (by simpa using he); (o2 (rfl : p = _) (by omega : (((m.length : Int) - 1).toNat) < m.length))))) fun _ => ?_
 refine cd good (and (decide ((m.length : Int) > 0)) (decide (f <= (m.getD (((m.length : Int) - 1).toNat) eP.d).2))) (fun h1 => ?_) (fun h1 => ?_)
 ·have h1 : ((m.length : Int) > 0) /\ (f <= (m.getD (((m.length : Int) - 1).toNat) eP.d).2) := by simpa using h1
  have hA : m.set ((m.length : Int) - 1).toNat ((m.getD ((m.length : Int) - 1).toNat eP.d).1, (if (m.getD ((m.length : Int) - 1).toNat eP.d).2 < t then t else (m.getD ((m.length : Int) - 1).toNat eP.d).2)) = (addSp m f t) := by rw [hl1] at h1 ⊢; exact (addSp_in (by omega) h1.2).symm
  refine go good (fun _ => (oc (rfl : q = _) (by omega : -9223372036854775808 <= (m.length : Int) - 1) (by omega : (m.length : Int) - 1 < 9223372036854775808) (rfl : q = _) (by omega : -9223372036854775808 <= (m.length : Int) - 1) (by omega : (m.length : Int) - 1 < 9223372036854775808) (oc (by omega : (0 : Int) <= (m.length : Int) - 1) (by omega : (m.length : Int) - 1 < (m.length : Int)) (zfe (by omega) : m.isEmpty = false) (by decide : (0 : Int) <= 1) (by decide : (1 : Int) < 2) (rfl : p = _) (oc (by omega : (((m.length : Int) - 1).toNat) < m.length) (rfl : (IntKind.i64 : IntKind) = .i64) (by omega : (0 : Int) <= (m.length : Int) - 1) (by omega : (m.length : Int) - 1 < (m.length : Int)) (zfe (by omega) : m.isEmpty = false) (by decide : (0 : Int) <= 1) (o1 (by decide : (1 : Int) < 2)))))) fun _ => ?_
  refine vst good eP m ((m.getD ((m.length : Int) - 1).toNat eP.d).1, (if (m.getD ((m.length : Int) - 1).toNat eP.d).2 < t then t else (m.getD ((m.length : Int) - 1).toNat eP.d).2)) (m.set (((m.length : Int) - 1).toNat) ((m.getD ((m.length : Int) - 1).toNat eP.d).1, (if (m.getD ((m.length : Int) - 1).toNat eP.d).2 < t then t else (m.getD ((m.length : Int) - 1).toNat eP.d).2))) 2 2 p (((m.length : Int) - 1).toNat) 1 114 .grown m.isEmpty [.v (.int .i64 (if (m.getD (((m.length : Int) - 1).toNat) eP.d).2 < t then t else (m.getD (((m.length : Int) - 1).toNat) eP.d).2))] [1] (by omega) (zfe (by omega)) rfl (Nat.le_of_ble_eq_true rfl) rfl ?_
  refine gh (ge_re (l := [vc eP 2 p (m.set (((m.length : Int) - 1).toNat) ((m.getD ((m.length : Int) - 1).toNat eP.d).1, (if (m.getD ((m.length : Int) - 1).toNat eP.d).2 < t then t else (m.getD ((m.length : Int) - 1).toNat eP.d).2))) 114 .grown m.isEmpty, .blk 1 q [.s 2 p 2 0 m.length m.length m.isEmpty] tb .own]) (l' := [vc eP 2 p (addSp m f t) 114 .grown ((addSp m f t).isEmpty), .blk 1 q [.s 2 p 2 0 ((addSp m f t).length) ((addSp m f t).length) ((addSp m f t).isEmpty)] tb .own]) (by rw [<- hA]; simp only [List.length_set, isE_set])) [0, 1] [] 100 fun _ _ => ?_
  exact rt trivial (p) trivial [1, 0]
 ·have h1 : ¬ (((m.length : Int) > 0) /\ (f <= (m.getD (((m.length : Int) - 1).toNat) eP.d).2)) := by simpa using h1
  have hN : ¬ (0 < m.length /\ f <= (m.getD (m.length - 1) ((0, 0) : Int × Int)).2) := by rw [hl1] at h1; intro h; exact h1 ⟨by omega, h.2⟩
  refine g0 good fun _ => ?_
  refine cdD good (f < t) (fun h2 => ?_) (fun h2 => ?_)
  ·have hA : m ++ [(f, t)] = (addSp m f t) := by rw [addSp_out hN, if_pos h2]
   refine go good (fun q105 => (o4 (rfl : q = _) (rfl : [C1.v (.int .i64 f)].all C1.one = true) (rfl : [C1.v (.int .i64 t)].all C1.one = true) (rfl : [C1.v (.int .i64 f), .v (.int .i64 t)].all C1.one = true))) (fun q105 => ?_)
   refine apd good eP m [(⟨f, t⟩ : Int × Int)] (m ++ [(⟨f, t⟩ : Int × Int)]) 2 p .grown m.isEmpty false (.blk 100 (q105 100) [.v (.int .i64 f), .v (.int .i64 t)] 114 .own) (q105 100) 0 1 1 false 101 [2, 0] 102 114 (fun h _ => ne_of h) (by simp only [List.length_cons, List.length_nil]; omega) (src_one rfl) (by simp) rfl (fun q106 => ?_)
   refine go good (fun _ => (o2 (rfl : q = _) (rfl : [C1.s 101 q106 2 0 ((m ++ [(⟨f, t⟩ : Int × Int)]).length) ((m ++ [(⟨f, t⟩ : Int × Int)]).length) false].all C1.one = true))) fun _ => ?_
   refine gh (ge_re (l := [vc eP 101 q106 (m ++ [(⟨f, t⟩ : Int × Int)]) 114 .grown false, .blk 1 q [.s 101 q106 2 0 ((m ++ [(⟨f, t⟩ : Int × Int)]).length) ((m ++ [(⟨f, t⟩ : Int × Int)]).length) false] tb .own]) (l' := [vc eP 101 q106 (addSp m f t) 114 .grown ((addSp m f t).isEmpty), .blk 1 q [.s 101 q106 2 0 ((addSp m f t).length) ((addSp m f t).length) ((addSp m f t).isEmpty)] tb .own]) (by rw [<- hA, isE_snoc])) [0, 2] [] 102 fun _ _ => ?_
   exact rt trivial (q106) trivial [1, 0]
  ·have hA : m = (addSp m f t) := by rw [addSp_out hN, if_neg h2]
   refine gh (ge_re (l := [vc eP 2 p m 114 .grown m.isEmpty, .blk 1 q [.s 2 p 2 0 m.length m.length m.isEmpty] tb .own]) (l' := [vc eP 2 p (addSp m f t) 114 .grown ((addSp m f t).isEmpty), .blk 1 q [.s 2 p 2 0 ((addSp m f t).length) ((addSp m f t).length) ((addSp m f t).isEmpty)] tb .own]) (by rw [<- hA])) [1, 0] [] 100 fun _ _ => ?_
   exact rt trivial (p) trivial [1, 0]
theorem has1_ctr {a : Int × Int} {q : Nat} {i : Int} {tb : TypeId}  : Ctr Tryz.prog nO 71 [.a [.v (.int .i64 a.1), .v (.int .i64 a.2)], .o (.p 1 q 0 0 0)] [.blk 1 q [.v (.int .i64 i)] tb .own] (Unit) (fun _ => True) (fun r => .o (.cb (and (decide (i ≥ a.1)) (decide (i < a.2))))) (fun r => [.blk 1 q [.v (.int .i64 i)] tb .own]) := by
 refine fs good 100 (fun B => ?_)
 refine go good (fun q101 => (o1 (rfl : [C1.v (.int .i64 a.1), .v (.int .i64 a.2)].all C1.one = true))) (fun q101 => ?_)
 refine go good (fun _ => (oc (rfl : q = _) (by decide : (0 : Int) <= 0) (by decide : (0 : Int) < 2) (rfl : (q101 100) = (q101 100)) (fun (he : (decide (i ≥ a.1)) = true) => have he : i ≥ a.1 := (by simpa using he); (o1 (rfl : q = _))) (fun (he : (decide (i ≥ a.1)) = true) => have he : i ≥ a.1 := (by simpa using he); (o2 (by decide : (0 : Int) <= 1) (by decide : (1 : Int) < 2))) (o1 (fun (he : (decide (i ≥ a.1)) = true) => have he : i ≥ a.1 := (by simpa using he); (o1 (rfl : (q101 100) = (q101 100))))))) fun _ => ?_
 exact rt trivial (()) trivial [1]
end Go.Proofs.YthkoolfmealabaaGreat
namespace Go.Proofs.YthkoolfmealabaaGreat
set_option maxHeartbeats 4000000
open Go.Abs
variable {nO : Nat}
set_option maxRecDepth 8000
attribute [local irreducible] GP ruP nxP acS gst cdP loP invS ent1 ent2 enP caA resV lgP agN
theorem grow_ctr {n : Nat} (hn : n < 16000000) : Ctr Tryz.prog nO 85 [.o (.s 1 0 2 0 0 0 true), .o (.v (.int .i64 (n : Int)))] [vc eP 1 0 ([] : List Sp) 114 .grown true] ((Nat)) (fun _ => True) (fun r => .o (.s 2 r 2 0 0 n (n == 0))) (fun r => [vc eP 2 r (List.replicate n eP.d) 114 .grown (n == 0)]) := by
 refine fs good 100 (fun B => ?_)
 refine g0 good fun _ => ?_
 refine g0 good fun _ => ?_
 refine cdF good (b := decide ((n : Int) < 0)) (decide_eq_false (by omega)) ?_
 refine go good (fun _ => (o4 (by omega : -9223372036854775808 <= (0 : Int) - 0) (by omega : (0 : Int) - 0 < 9223372036854775808) (by omega : -9223372036854775808 <= (n : Int) - ((0 : Int) - 0)) (by omega : (n : Int) - ((0 : Int) - 0) < 9223372036854775808))) fun _ => ?_
 refine g0 good fun _ => ?_
 refine cdD good ((n : Int) - ((0 : Int) - 0) > 0) (fun h2 => ?_) (fun h2 => ?_)
 ·obtain ⟨k, rfl⟩ : ∃ k, n = k + 1 := ⟨n - 1, by omega⟩
  refine go good (fun _ => (o5 (rfl : 0 = 0) (rfl : true = _) (by omega : 0 <= 0) (by omega : (0 : Int) <= 0) (by omega : (0 : Int) <= 0))) fun _ => ?_
  refine apz good eP (k + 1) 100 101 114 (by omega) (by omega) (fun q106 => ?_)
  refine go good (fun _ => (o5 (rfl : q106 = _) (rfl : false = _) (by omega : (k + 1) <= (k + 1)) (by omega : (0 : Int) <= 0) (nz (k + 1)))) fun _ => ?_
  refine g0 good fun _ => ?_
  exact rt trivial (q106) trivial [0]
 ·obtain rfl : n = 0 := by omega
  refine g0 good fun _ => ?_
  exact rt trivial (0) trivial [0]
theorem concat_ctr {q : Nat} {tw : TypeId} {mw : Md} {qa ca : Nat} {a : List Sp} {ta : TypeId} {ma : Md} {qb cb : Nat} {b : List Sp} {tb : TypeId} {mb : Md} (hl : a.length + b.length < 1000000) : Ctr Tryz.prog nO 64 [.o (.s 1 q 1 0 2 2 false)] [.blk 1 q [.s 2 qa 2 0 a.length ca a.isEmpty, .s 3 qb 2 0 b.length cb b.isEmpty] tw mw, vc eP 2 qa a ta ma a.isEmpty, vc eP 3 qb b tb mb b.isEmpty] ((Nat)) (fun _ => True) (fun r => .o (.s 4 r 2 0 ((a ++ b).length) ((a ++ b).length) ((a ++ b).isEmpty))) (fun r => [vc eP 4 r (a ++ b) 114 .grown ((a ++ b).isEmpty), .blk 1 q [.s 2 qa 2 0 a.length ca a.isEmpty, .s 3 qb 2 0 b.length cb b.isEmpty] tw mw, vc eP 2 qa a ta ma a.isEmpty, vc eP 3 qb b tb mb b.isEmpty]) := by
 refine fs good 100 (fun B => ?_)
 refine g0 good fun _ => ?_
 refine g0 good fun _ => ?_
 refine g0 good fun _ => ?_
 refine lp good ((Nat)) [0, 9, 10] (fun r => [(3, .o (.v (.int .i64 (cS a b r)))), (11, .o (.v (.int .i64 (r : Int))))]) [0, 1, 2] (fun _ => []) 120 (fun r => r <= 2) (fun r => 2 - r) (0) (by omega) [] (fun | 0, hx, ag104 => ?_ | 1, hx, ag104 => ?_ | 2, hx, ag104 => ?_ | _ + 3, hx, _ => absurd hx (by omega))
 ·have hc0 : cS a b 0 = 0 := rfl
  have hc1 : cS a b 1 = a.length := rfl
  have hc2 : cS a b 2 = a.length + b.length := rfl
  have hd1 : cS a b (0 + 1) = a.length := rfl
  have hd2 : cS a b (1 + 1) = a.length + b.length := rfl
  refine g0 good fun _ => ?_
  refine cdT good (b := decide ((0 : Int) < 2)) rfl ?_
  refine go good (fun _ => (o4 (nz 0) (by omega : (0 : Int) < 2) (rfl : false = _) (rfl : q = _))) fun _ => ?_
  refine go good (fun _ => (o2 (by omega : -9223372036854775808 <= (cS a b 0) + (a.length : Int)) (by omega : (cS a b 0) + (a.length : Int) < 9223372036854775808))) fun _ => ?_
  refine g0 good fun _ => ?_
  refine cdF good (b := decide ((cS a b 0) + (a.length : Int) < 0)) (decide_eq_false (by omega)) ?_
  refine go good (fun _ => (o2 (by omega : -9223372036854775808 <= (0 : Int) + 1) (by omega : (0 : Int) + 1 < 9223372036854775808))) fun _ => ?_
  refine sv 3 (v := .o (.v (.int .i64 ((cS a b 0) + (a.length : Int))))) (v' := .o (.v (.int .i64 (cS a b (0 + 1))))) (congrArg (Value.int .i64) (by omega)) ?_
  exact ag104 _ _ (0 + 1) (by first | omega | (simp only; omega)) (by omega) [0, 1, 2] (by kernel_rfl) (by kernel_rfl)
 ·have hc0 : cS a b 0 = 0 := rfl
  have hc1 : cS a b 1 = a.length := rfl
  have hc2 : cS a b 2 = a.length + b.length := rfl
  have hd1 : cS a b (0 + 1) = a.length := rfl
  have hd2 : cS a b (1 + 1) = a.length + b.length := rfl
  refine g0 good fun _ => ?_
  refine cdT good (b := decide ((1 : Int) < 2)) rfl ?_
  refine go good (fun _ => (o4 (nz 1) (by omega : (1 : Int) < 2) (rfl : false = _) (rfl : q = _))) fun _ => ?_
  refine go good (fun _ => (o2 (by omega : -9223372036854775808 <= (cS a b 1) + (b.length : Int)) (by omega : (cS a b 1) + (b.length : Int) < 9223372036854775808))) fun _ => ?_
  refine g0 good fun _ => ?_
  refine cdF good (b := decide ((cS a b 1) + (b.length : Int) < 0)) (decide_eq_false (by omega)) ?_
  refine go good (fun _ => (o2 (by omega : -9223372036854775808 <= (1 : Int) + 1) (by omega : (1 : Int) + 1 < 9223372036854775808))) fun _ => ?_
  refine sv 3 (v := .o (.v (.int .i64 ((cS a b 1) + (b.length : Int))))) (v' := .o (.v (.int .i64 (cS a b (1 + 1))))) (congrArg (Value.int .i64) (by omega)) ?_
  exact ag104 _ _ (1 + 1) (by first | omega | (simp only; omega)) (by omega) [0, 1, 2] (by kernel_rfl) (by kernel_rfl)
 ·have hc0 : cS a b 0 = 0 := rfl
  have hc1 : cS a b 1 = a.length := rfl
  have hc2 : cS a b 2 = a.length + b.length := rfl
  have hd1 : cS a b (0 + 1) = a.length := rfl
  have hd2 : cS a b (1 + 1) = a.length + b.length := rfl
  refine g0 good fun _ => ?_
  refine cdF good (b := decide ((2 : Int) < 2)) rfl ?_
  refine g0 good fun _ => ?_
  refine gh (nil_vec 120 2 eP.f eP.d 114 .grown) [] [] 121 fun _ _ => ?_
  refine sv 23 (v := .o (.v (.int .i64 (cS a b 2)))) (v' := .o (.v (.int .i64 ((a.length + b.length : Nat) : Int)))) rfl ?_
  refine cl good (grow_ctr (n := a.length + b.length) (by omega)) [0] [(1, 120), (2, 121)] 122 (fun q2117 _ => ?_)
  refine g0 good fun _ => ?_
  refine g0 good fun _ => ?_
  refine lp good ((Nat)) [25, 26] (fun r => [(6, .o (.s 121 q2117 2 0 (kN a b r) (a.length + b.length) ((a.length + b.length) == 0))), (27, .o (.v (.int .i64 (r : Int))))]) [1, 2, 3] (fun r => [vc eP 121 q2117 (cL a b r) 114 .grown ((a.length + b.length) == 0)]) 142 (fun r => r <= 2) (fun r => 2 - r) (0) (by omega) [0] (fun | 0, hx, ag120 => ?_ | 1, hx, ag120 => ?_ | 2, hx, ag120 => ?_ | _ + 3, hx, _ => absurd hx (by omega))
  ·refine g0 good fun _ => ?_
   refine cdT good (b := decide ((0 : Int) < 2)) rfl ?_
   refine go good (fun _ => (o4 (nz 0) (by omega : (0 : Int) < 2) (rfl : false = _) (rfl : q = _))) fun _ => ?_
   refine g0 good fun _ => ?_
   refine apr good eP (cL a b 0) a (cL a b (0 + 1)) 121 q2117 (kN a b 0) 114 .grown ((a.length + b.length) == 0) [vc eP 2 qa a ta ma a.isEmpty] qa 0 a.length ca a.isEmpty [0, 2] 114 (a.length + b.length) (cL_len a b _).symm (by rw [cL_len]; simp only [kN]; omega) (s2 src_vec) rfl ?_
   refine g0 good fun _ => ?_
   refine go good (fun _ => (o2 (by omega : -9223372036854775808 <= (0 : Int) + 1) (by omega : (0 : Int) + 1 < 9223372036854775808))) fun _ => ?_
   exact ag120 _ _ (0 + 1) (by first | omega | (simp only; omega)) (by omega) [0, 2, 1, 3] (by kernel_rfl) (by kernel_rfl)
  ·refine g0 good fun _ => ?_
   refine cdT good (b := decide ((1 : Int) < 2)) rfl ?_
   refine go good (fun _ => (o4 (nz 1) (by omega : (1 : Int) < 2) (rfl : false = _) (rfl : q = _))) fun _ => ?_
   refine g0 good fun _ => ?_
   refine apr good eP (cL a b 1) b (cL a b (1 + 1)) 121 q2117 (kN a b 1) 114 .grown ((a.length + b.length) == 0) [vc eP 3 qb b tb mb b.isEmpty] qb 0 b.length cb b.isEmpty [0, 3] 114 (a.length + b.length) (cL_len a b _).symm (by rw [cL_len]; simp only [kN]; omega) (s2 src_vec) rfl ?_
   refine g0 good fun _ => ?_
   refine go good (fun _ => (o2 (by omega : -9223372036854775808 <= (1 : Int) + 1) (by omega : (1 : Int) + 1 < 9223372036854775808))) fun _ => ?_
   exact ag120 _ _ (1 + 1) (by first | omega | (simp only; omega)) (by omega) [0, 2, 3, 1] (by kernel_rfl) (by kernel_rfl)
  ·refine g0 good fun _ => ?_
   refine cdF good (b := decide ((2 : Int) < 2)) rfl ?_
   refine g0 good fun _ => ?_
   refine gh (ge_re (l := [vc eP 121 q2117 (cL a b 2) 114 .grown ((a.length + b.length) == 0)]) (l' := [vc eP 121 q2117 (a ++ b) 114 .grown ((a ++ b).isEmpty)]) (by rw [cL_two, zN])) [0] [] 142 fun _ _ => ?_
   exact rtv trivial (q2117) trivial [0, 1, 2, 3] (.o (.s 121 q2117 2 0 (kN a b 2) (a.length + b.length) ((a.length + b.length) == 0))) (by simp only [kN, zN, SV.den, C1.den, List.length_append, Nat.zero_add])
end Go.Proofs.YthkoolfmealabaaGreat
