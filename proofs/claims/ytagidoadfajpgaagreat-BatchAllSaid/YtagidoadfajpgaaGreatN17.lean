/-
  Bt.
-/
import Derived.Test.YtagidoadfajpgaaGreatN13
import Derived.Test.YtagidoadfajpgaaGreatProg
import Derived.Test.YtagidoadfajpgaaGreatN14
namespace Go.Proofs.YtagidoadfajpgaaGreat
open Go.Abs
theorem b4o : a7I Tryz.prog = true := by decide +kernel
theorem b5U : a5c Tryz.prog = true := by decide +kernel
theorem b2j : Tryz.prog.follows .mixedOrders = true := by decide +kernel
instance b9c : Go.Abs.Good Tryz.prog := b5q b4o b5U b2j
abbrev K1 (n : Nat) (f : FuncId) (a : List SV) (l : List Ch) (r : SV) : Prop := Ctr Tryz.prog n f a l Unit (fun _ => True) (fun _ => r) (fun _ => l)
end Go.Proofs.YtagidoadfajpgaaGreat
namespace Go.Proofs.YtagidoadfajpgaaGreat
set_option maxHeartbeats 4000000
open Go.Abs
variable {nO : Nat}
set_option maxRecDepth 8000
attribute [local irreducible] GP ruP nxP acS gst cdP loP j6 m9 m8 enP caA n5 lgP agN
theorem b1D {s : ByteArray} (hs : s.size < 1000000000) : K1 nO 170 [.o (.t s)] [] (.o (.cb (tOk s))) := by
 refine fs 100 fun B => g0 fun _ => g0 fun _ => lp ((Nat)) [0, 5] (fun r => [(6, .o (.i (r : Int)))]) [] (fun _ => []) 120 (fun r => r <= s.size /\ ∀ j, j < r -> bOk (d4 s j)) (fun r => s.size - r) (0) ⟨Nat.zero_le _, fun j hj => absurd hj (Nat.not_lt_zero j)⟩ [] (fun k hx ag103 => ?_)
 obtain ⟨hk, hn⟩ := hx
 refine g0 fun _ => cdD ((k : Int) < (s.size : Int)) (fun h105 => ?_) (fun h105 => ?_)
 ·refine g0 fun _ => go (fun _ => (o4 (nz k) (by omega : (k : Int) < ((s.size : Nat) : Int)) (fun (he : (!(decide (((d4 s k).toNat : Int) < 32))) = true) => have he : ¬ (((d4 s k).toNat : Int) < 32) := (by simpa using he); (o2 (nz k) (by omega : (k : Int) < ((s.size : Nat) : Int)))) (fun (he : (!(or (decide (((d4 s k).toNat : Int) < 32)) (decide (((d4 s k).toNat : Int) > 126)))) = true) => have he : ¬ ((((d4 s k).toNat : Int) < 32) ∨ (((d4 s k).toNat : Int) > 126)) := (by simpa using he); (o2 (nz k) (by omega : (k : Int) < ((s.size : Nat) : Int)))))) fun _ => cd (or (or (decide (((d4 s k).toNat : Int) < 32)) (decide (((d4 s k).toNat : Int) > 126))) (((d4 s k).toNat : Int) == 39)) (fun h108 => ?_) (fun h108 => ?_)
  ·have h108 : ((((d4 s k).toNat : Int) < 32) ∨ (((d4 s k).toNat : Int) > 126)) ∨ (((d4 s k).toNat : Int) = 39) := by simpa using h108
   refine g0 fun _ => rtv trivial (()) trivial [] (.o (.v (.bool false))) (congrArg Value.bool (decide_eq_false (fun hm => by have := hm.1 k (by omega); unfold bOk at this; omega)).symm)
  ·have h108 : ¬ (((((d4 s k).toNat : Int) < 32) ∨ (((d4 s k).toNat : Int) > 126)) ∨ (((d4 s k).toNat : Int) = 39)) := by simpa using h108
   refine go (fun _ => (o2 (by omega : -9223372036854775808 <= (k : Int) + 1) (by omega : (k : Int) + 1 < 9223372036854775808))) fun _ => ag103 _ _ (k + 1) (by first | omega | (simp only; omega)) ⟨by omega, fun j hj => by rcases Nat.lt_succ_iff_lt_or_eq.1 hj with h | h; exact hn j h; subst h; unfold bOk; omega⟩ [] (by kernel_rfl) (by kernel_rfl)
 ·refine g0 fun _ => rtv trivial (()) trivial [] (.o (.cb (decide ((s.size : Int) <= 12)))) (congrArg Value.bool (decide_eq_decide.2 ⟨fun h => ⟨fun j hj => hn j (by omega), by omega⟩, fun h => by omega⟩))
theorem a9q {v : Va} (hs : v.s.size < 1000000000) : K1 nO 140 [.a [.i v.k, .i v.n, .t v.s]] [] (.o (.cb (vOk v))) := by
 refine fs 100 fun B => g0 fun q101 => g0 fun _ => g0 fun _ => cdE v.k 0 (fun h1 => ?_) (fun h1 => ?_)
 ·refine g0 fun _ => rtv trivial (()) trivial [] (.o (.cb (and (v.n == 0) (a7 v.s ⟨#[]⟩)))) (by simp [vOk, h1, b1e, SV.den, C1.den])
 ·refine g0 fun _ => cdE v.k 1 (fun h2 => ?_) (fun h2 => ?_)
  ·refine g0 fun _ => rtv trivial (()) trivial [] (.o (.cb (a7 v.s ⟨#[]⟩))) (by simp [vOk, h1, h2, b1e, SV.den, C1.den])
  ·refine g0 fun _ => cdE v.k 2 (fun h3 => ?_) (fun h3 => ?_)
   ·refine g0 fun _ => clm (@b1D _ v.s (by assumption)) [] trivial <| g0 fun _ => rtv trivial (()) trivial [] (.o (.cb (and (v.n == 0) (tOk v.s)))) (by simp [vOk, h1, h2, h3, SV.den, C1.den])
   ·refine g0 fun _ => rtv trivial (()) trivial [] (.o (.v (.bool false))) (by simp [vOk, h1, h2, h3, SV.den, C1.den])
theorem a5O {v : Va} (hs : v.s.size < 1000000000) : K1 nO 151 [.a [.i v.k, .i v.n, .t v.s]] [] (.o (.cb (vOk v))) := by
 refine fs 100 fun B => g0 fun q101 => g0 fun _ => g0 fun _ => cdE v.k 0 (fun h1 => ?_) (fun h1 => ?_)
 ·refine g0 fun _ => rtv trivial (()) trivial [] (.o (.cb (and (v.n == 0) (a7 v.s ⟨#[]⟩)))) (by simp [vOk, h1, b1e, SV.den, C1.den])
 ·refine g0 fun _ => cdE v.k 1 (fun h2 => ?_) (fun h2 => ?_)
  ·refine g0 fun _ => rtv trivial (()) trivial [] (.o (.cb (a7 v.s ⟨#[]⟩))) (by simp [vOk, h1, h2, b1e, SV.den, C1.den])
  ·refine g0 fun _ => cdE v.k 2 (fun h3 => ?_) (fun h3 => ?_)
   ·refine g0 fun _ => lp ((Nat)) [1] (fun r => [(3, .o (.i (r : Int)))]) [0] (fun _ => []) 121 (fun r => r <= v.s.size /\ ∀ j, j < r -> bOk (d4 v.s j)) (fun r => v.s.size - r) (0) ⟨Nat.zero_le _, fun j hj => absurd hj (Nat.not_lt_zero j)⟩ [] (fun k hx ag109 => ?_)
    obtain ⟨hk, hn⟩ := hx
    refine g0 fun _ => cdD ((k : Int) < (v.s.size : Int)) (fun h111 => ?_) (fun h111 => ?_)
    ·refine go (fun _ => (o4 (nz k) (by omega : (k : Int) < ((v.s.size : Nat) : Int)) (fun (he : (!(decide (((d4 v.s k).toNat : Int) < 32))) = true) => have he : ¬ (((d4 v.s k).toNat : Int) < 32) := (by simpa using he); (o2 (nz k) (by omega : (k : Int) < ((v.s.size : Nat) : Int)))) (fun (he : (!(or (decide (((d4 v.s k).toNat : Int) < 32)) (decide (((d4 v.s k).toNat : Int) > 126)))) = true) => have he : ¬ ((((d4 v.s k).toNat : Int) < 32) ∨ (((d4 v.s k).toNat : Int) > 126)) := (by simpa using he); (o2 (nz k) (by omega : (k : Int) < ((v.s.size : Nat) : Int)))))) fun _ => cd (or (or (decide (((d4 v.s k).toNat : Int) < 32)) (decide (((d4 v.s k).toNat : Int) > 126))) (((d4 v.s k).toNat : Int) == 39)) (fun h113 => ?_) (fun h113 => ?_)
     ·have h113 : ((((d4 v.s k).toNat : Int) < 32) ∨ (((d4 v.s k).toNat : Int) > 126)) ∨ (((d4 v.s k).toNat : Int) = 39) := by simpa using h113
      refine g0 fun _ => rtv trivial (()) trivial [] (.o (.v (.bool false))) (by have e : tOk v.s = false := (decide_eq_false (fun hm => by have := hm.1 k (by omega); unfold bOk at this; omega)); simp [vOk, h1, h2, h3, e, SV.den, C1.den])
     ·have h113 : ¬ (((((d4 v.s k).toNat : Int) < 32) ∨ (((d4 v.s k).toNat : Int) > 126)) ∨ (((d4 v.s k).toNat : Int) = 39)) := by simpa using h113
      refine go (fun _ => (o2 (by omega : -9223372036854775808 <= (k : Int) + 1) (by omega : (k : Int) + 1 < 9223372036854775808))) fun _ => ag109 _ _ (k + 1) (by first | omega | (simp only; omega)) ⟨by omega, fun j hj => by rcases Nat.lt_succ_iff_lt_or_eq.1 hj with h | h; exact hn j h; subst h; unfold bOk; omega⟩ [0] (by kernel_rfl) (by kernel_rfl)
    ·refine g0 fun _ => rtv trivial (()) trivial [] (.o (.cb (and (v.n == 0) (decide ((v.s.size : Int) <= 12))))) (by have e : tOk v.s = decide ((v.s.size : Int) <= 12) := (decide_eq_decide.2 ⟨fun h => by omega, fun h => ⟨fun j hj => hn j (by omega), by omega⟩⟩); simp [vOk, h1, h2, h3, e, SV.den, C1.den])
   ·refine g0 fun _ => rtv trivial (()) trivial [] (.o (.v (.bool false))) (by simp [vOk, h1, h2, h3, SV.den, C1.den])
theorem b19 {a b : Va}  : K1 nO 134 [.a [.i a.k, .i a.n, .t a.s], .a [.i b.k, .i b.n, .t b.s]] [] (.o (.i (a6m a b))) := by
 refine fs 100 fun B => g0 fun q101 => g0 fun _ => cdD (a.k < b.k) (fun h1 => ?_) (fun h1 => ?_)
 ·refine cdT (b := decide (a.k < b.k)) (decide_eq_true h1) <| g0 fun _ => rtv trivial (()) trivial [] (.o (.i (-1))) (congrArg (Value.int .i64) (by simp [a6m, eqV, *]))
 ·refine g0 fun _ => cd (and (a.k == b.k) (decide (a.n < b.n))) (fun h2 => ?_) (fun h2 => ?_)
  ·have h2 : (a.k = b.k) /\ (a.n < b.n) := by simpa using h2
   refine cdT (b := and (a.k == b.k) (decide (a.n < b.n))) (by simpa using h2) <| g0 fun _ => rtv trivial (()) trivial [] (.o (.i (-1))) (congrArg (Value.int .i64) (by simp [a6m, eqV, *]))
  ·have h2 : ¬ ((a.k = b.k) /\ (a.n < b.n)) := by simpa using h2
   refine g0 fun _ => cd (and (and (a.k == b.k) (a.n == b.n)) (I7 a.s b.s)) (fun h3 => ?_) (fun h3 => ?_)
   ·have h3 : ((a.k = b.k) /\ (a.n = b.n)) /\ ((I7 a.s b.s) = true) := by simpa using h3
    refine g0 fun _ => rtv trivial (()) trivial [] (.o (.i (-1))) (congrArg (Value.int .i64) (by simp [a6m, eqV, *]))
   ·have h3 : ¬ (((a.k = b.k) /\ (a.n = b.n)) /\ ((I7 a.s b.s) = true)) := by simpa using h3
    refine g0 fun _ => cd (and (and (a.k == b.k) (a.n == b.n)) (a7 a.s b.s)) (fun h4 => ?_) (fun h4 => ?_)
    ·have h4 : ((a.k = b.k) /\ (a.n = b.n)) /\ ((a7 a.s b.s) = true) := by simpa using h4
     refine g0 fun _ => rtv trivial (()) trivial [] (.o (.i 0)) (congrArg (Value.int .i64) (by have h5 : I7 a.s b.s = false := (by cases h : I7 a.s b.s with | true => exact absurd ⟨h4.1, h⟩ h3 | false => rfl); simp [a6m, eqV, *]))
    ·have h4 : ¬ (((a.k = b.k) /\ (a.n = b.n)) /\ ((a7 a.s b.s) = true)) := by simpa using h4
     refine g0 fun _ => rtv trivial (()) trivial [] (.o (.i 1)) (congrArg (Value.int .i64) (by simp [a6m, eqV, *]))
theorem b1Y {qa ca : Nat} {za : Bool} {a : List Va} {ta : TypeId} {ma : Md} {qb cb : Nat} {zb : Bool} {b : List Va} {tb : TypeId} {mb : Md} (hza : za = true -> a.length = 0) (hla : a.length < 1000000) (hzb : zb = true -> b.length = 0) (hlb : b.length < 1000000) : K1 nO 89 [.o (.s 1 qa 3 0 a.length ca za), .o (.s 2 qb 3 0 b.length cb zb)] [vc eV 1 qa a ta ma za, vc eV 2 qb b tb mb zb] (.o (.i (a8P a b))) := by
 refine fs 100 fun B => g0 fun _ => g0 fun _ => lp ((Nat)) [0, 1] (fun r => [(5, .o (.i (r : Int)))]) [0, 1] (fun _ => []) 120 (fun r => r <= a.length /\ r <= b.length /\ a8P a b = a8P (a.drop r) (b.drop r)) (fun r => a.length - r) (0) ⟨Nat.zero_le _, Nat.zero_le _, rfl⟩ [] (fun i hx ag103 => ?_)
 obtain ⟨h0, h0b, hr⟩ := hx
 refine g0 fun _ => cd (and (decide ((i : Int) < (a.length : Int))) (decide ((i : Int) < (b.length : Int)))) (fun h1 => ?_) (fun h1 => ?_)
 ·have h1 : ((i : Int) < (a.length : Int)) /\ ((i : Int) < (b.length : Int)) := by simpa using h1
  refine go (fun _ => (oc (nz i) (by omega : (i : Int) < (a.length : Int)) (zf hza (show 0 < a.length by omega) : za = false) (by omega : i < a.length) (nz i) (by omega : (i : Int) < (b.length : Int)) (o2 (zf hzb (show 0 < b.length by omega) : zb = false) (by omega : i < b.length)))) fun _ => cl (@b19 _ (a.getD i eV.d) (b.getD i eV.d)) [] [] 120 fun _ _ => g0 fun _ => g0 fun _ => cdN (a6m (a.getD i eV.d) (b.getD i eV.d)) 0 (fun h2 => ?_) (fun h2 => ?_)
  ·refine g0 fun _ => rtv trivial (()) trivial [0, 1] (.o (.i (a6m (a.getD i eV.d) (b.getD i eV.d)))) (congrArg (Value.int .i64) (by rw [hr, a3p (by omega) (by omega), if_neg h2]))
  ·refine go (fun _ => (o2 (by omega : -9223372036854775808 <= (i : Int) + 1) (by omega : (i : Int) + 1 < 9223372036854775808))) fun _ => ag103 _ _ (i + 1) (by first | omega | (simp only; omega)) ⟨by omega, by omega, by rw [hr, a3p (by omega) (by omega), if_pos h2]⟩ [0, 1] (by kernel_rfl) (by kernel_rfl)
 ·have h1 : ¬ (((i : Int) < (a.length : Int)) /\ ((i : Int) < (b.length : Int))) := by simpa using h1
  have he : a.drop i = [] ∨ b.drop i = [] := by simp only [List.drop_eq_nil_iff]; omega
  rw [b10 he, List.length_drop, List.length_drop] at hr
  refine g0 fun _ => cdD ((a.length : Int) < (b.length : Int)) (fun h3 => ?_) (fun h3 => ?_)
  ·refine g0 fun _ => rtv trivial (()) trivial [0, 1] (.o (.i (-1))) (congrArg (Value.int .i64) (by rw [hr, if_pos (by omega)]))
  ·refine g0 fun _ => cdD ((a.length : Int) > (b.length : Int)) (fun h4 => ?_) (fun h4 => ?_)
   ·refine g0 fun _ => rtv trivial (()) trivial [0, 1] (.o (.i 1)) (congrArg (Value.int .i64) (by rw [hr, if_neg (by omega), if_pos (by omega)]))
   ·refine g0 fun _ => rtv trivial (()) trivial [0, 1] (.o (.i 0)) (congrArg (Value.int .i64) (by rw [hr, if_neg (by omega), if_neg (by omega)]))
end Go.Proofs.YtagidoadfajpgaaGreat
namespace Go.Proofs.YtagidoadfajpgaaGreat
set_option maxHeartbeats 4000000
open Go.Abs
variable {nO : Nat}
set_option maxRecDepth 8000
attribute [local irreducible] GP ruP nxP acS gst cdP loP j6 m9 m8 enP caA n5 lgP agN
theorem Z3 {q p : Nat} {m : List Sp} {f t : Int} {tb : TypeId} (hm : m.length < 100000) : Ctr Tryz.prog nO 146 [.o (.p 1 q 0 0 0), .o (.i f), .o (.i t)] [.blk 1 q [.s 2 p 2 0 m.length m.length m.isEmpty] tb .own, vc eP 2 p m 171 .grown m.isEmpty] ((Nat)) (fun _ => True) (fun r => .o (.v undef)) (fun r => [.blk 1 q [.s 2 r 2 0 ((c8 m f t).length) ((c8 m f t).length) ((c8 m f t).isEmpty)] tb .own, vc eP 2 r (c8 m f t) 171 .grown ((c8 m f t).isEmpty)]) := by
 refine fs 100 (fun B => ?_)
 have hl1 : ((m.length : Int) - 1).toNat = m.length - 1 := by omega
 refine g0 fun _ => go (fun _ => (o4 (fun (he : (decide ((m.length : Int) > 0)) = true) => have he : (m.length : Int) > 0 := (by simpa using he); (o2 (by omega : -9223372036854775808 <= (m.length : Int) - 1) (by omega : (m.length : Int) - 1 < 9223372036854775808))) (fun (he : (decide ((m.length : Int) > 0)) = true) => have he : (m.length : Int) > 0 := (by simpa using he); (o3 (by omega : (0 : Int) <= (m.length : Int) - 1) (by omega : (m.length : Int) - 1 < (m.length : Int)) (zfe (by omega) : m.isEmpty = false))) (fun (he : (decide ((m.length : Int) > 0)) = true) => have he : (m.length : Int) > 0 := (by simpa using he); (o2 (by decide : (0 : Int) <= 1) (by decide : (1 : Int) < 2))) (fun (he : (decide ((m.length : Int) > 0)) = true) => have he : (m.length : Int) > 0 := (by simpa using he); (o1 (by omega : (((m.length : Int) - 1).toNat) < m.length))))) fun _ => cd (and (decide ((m.length : Int) > 0)) (decide (f <= (m.getD (((m.length : Int) - 1).toNat) eP.d).2))) (fun h1 => ?_) (fun h1 => ?_)
 ·have h1 : ((m.length : Int) > 0) /\ (f <= (m.getD (((m.length : Int) - 1).toNat) eP.d).2) := by simpa using h1
  have hA : m.set ((m.length : Int) - 1).toNat ((m.getD ((m.length : Int) - 1).toNat eP.d).1, (if (m.getD ((m.length : Int) - 1).toNat eP.d).2 < t then t else (m.getD ((m.length : Int) - 1).toNat eP.d).2)) = (c8 m f t) := by rw [hl1] at h1 ⊢; exact (a6D (by omega) h1.2).symm
  refine go (fun _ => (oc (by omega : -9223372036854775808 <= (m.length : Int) - 1) (by omega : (m.length : Int) - 1 < 9223372036854775808) (by omega : -9223372036854775808 <= (m.length : Int) - 1) (by omega : (m.length : Int) - 1 < 9223372036854775808) (by omega : (0 : Int) <= (m.length : Int) - 1) (by omega : (m.length : Int) - 1 < (m.length : Int)) (oc (zfe (by omega) : m.isEmpty = false) (by decide : (0 : Int) <= 1) (by decide : (1 : Int) < 2) (by omega : (((m.length : Int) - 1).toNat) < m.length) (rfl : (IntKind.i64 : IntKind) = .i64) (by omega : (0 : Int) <= (m.length : Int) - 1) (o4 (by omega : (m.length : Int) - 1 < (m.length : Int)) (zfe (by omega) : m.isEmpty = false) (by decide : (0 : Int) <= 1) (by decide : (1 : Int) < 2))))) fun _ => vst eP m ((m.getD ((m.length : Int) - 1).toNat eP.d).1, (if (m.getD ((m.length : Int) - 1).toNat eP.d).2 < t then t else (m.getD ((m.length : Int) - 1).toNat eP.d).2)) (m.set (((m.length : Int) - 1).toNat) ((m.getD ((m.length : Int) - 1).toNat eP.d).1, (if (m.getD ((m.length : Int) - 1).toNat eP.d).2 < t then t else (m.getD ((m.length : Int) - 1).toNat eP.d).2))) 2 2 p (((m.length : Int) - 1).toNat) 1 171 .grown m.isEmpty [.i (if (m.getD (((m.length : Int) - 1).toNat) eP.d).2 < t then t else (m.getD (((m.length : Int) - 1).toNat) eP.d).2)] [1] (by omega) (zfe (by omega)) rfl (Nat.le_of_ble_eq_true rfl) rfl <| gh (b6 (l := [vc eP 2 p (m.set (((m.length : Int) - 1).toNat) ((m.getD ((m.length : Int) - 1).toNat eP.d).1, (if (m.getD ((m.length : Int) - 1).toNat eP.d).2 < t then t else (m.getD ((m.length : Int) - 1).toNat eP.d).2))) 171 .grown m.isEmpty, .blk 1 q [.s 2 p 2 0 m.length m.length m.isEmpty] tb .own]) (l' := [vc eP 2 p (c8 m f t) 171 .grown ((c8 m f t).isEmpty), .blk 1 q [.s 2 p 2 0 ((c8 m f t).length) ((c8 m f t).length) ((c8 m f t).isEmpty)] tb .own]) (by rw [<- hA]; simp only [List.length_set, a2y])) [0, 1] [] 100 fun _ _ => rt trivial (p) trivial [1, 0]
 ·have h1 : ¬ (((m.length : Int) > 0) /\ (f <= (m.getD (((m.length : Int) - 1).toNat) eP.d).2)) := by simpa using h1
  have hN : ¬ (0 < m.length /\ f <= (m.getD (m.length - 1) ((0, 0) : Int × Int)).2) := by rw [hl1] at h1; intro h; exact h1 ⟨by omega, h.2⟩
  refine g0 fun _ => cdD (f < t) (fun h2 => ?_) (fun h2 => ?_)
  ·have hA : m ++ [(f, t)] = (c8 m f t) := by rw [a1i hN, if_pos h2]
   refine g0 fun q105 => apd eP m [(⟨f, t⟩ : Int × Int)] (m ++ [(⟨f, t⟩ : Int × Int)]) 2 p .grown m.isEmpty false (.blk 100 (q105 100) [.i f, .i t] 171 .own) (q105 100) 0 1 1 false 101 [2, 0] 102 171 (fun h _ => K4 h) (by simp only [List.length_cons, List.length_nil]; omega) (o8 rfl) (by simp) rfl fun q106 => g0 fun _ => gh (b6 (l := [vc eP 101 q106 (m ++ [(⟨f, t⟩ : Int × Int)]) 171 .grown false, .blk 1 q [.s 101 q106 2 0 ((m ++ [(⟨f, t⟩ : Int × Int)]).length) ((m ++ [(⟨f, t⟩ : Int × Int)]).length) false] tb .own]) (l' := [vc eP 101 q106 (c8 m f t) 171 .grown ((c8 m f t).isEmpty), .blk 1 q [.s 101 q106 2 0 ((c8 m f t).length) ((c8 m f t).length) ((c8 m f t).isEmpty)] tb .own]) (by rw [<- hA, a2x])) [0, 2] [] 102 fun _ _ => rt trivial (q106) trivial [1, 0]
  ·have hA : m = (c8 m f t) := by rw [a1i hN, if_neg h2]
   refine gh (b6 (l := [vc eP 2 p m 171 .grown m.isEmpty, .blk 1 q [.s 2 p 2 0 m.length m.length m.isEmpty] tb .own]) (l' := [vc eP 2 p (c8 m f t) 171 .grown ((c8 m f t).isEmpty), .blk 1 q [.s 2 p 2 0 ((c8 m f t).length) ((c8 m f t).length) ((c8 m f t).isEmpty)] tb .own]) (by rw [<- hA])) [1, 0] [] 100 fun _ _ => rt trivial (p) trivial [1, 0]
theorem b2K {a : Int × Int} {q : Nat} {i : Int} {tb : TypeId}  : K1 nO 130 [.a [.i a.1, .i a.2], .o (.p 1 q 0 0 0)] [.blk 1 q [.i i] tb .own] (.o (.cb (and (decide (i ≥ a.1)) (decide (i < a.2))))) := by
 refine fs 100 fun B => g0 fun q101 => go (fun _ => (o3 (by decide : (0 : Int) <= 0) (by decide : (0 : Int) < 2) (fun (he : (decide (i ≥ a.1)) = true) => have he : i ≥ a.1 := (by simpa using he); (o2 (by decide : (0 : Int) <= 1) (by decide : (1 : Int) < 2))))) fun _ => rt trivial (()) trivial [1]
end Go.Proofs.YtagidoadfajpgaaGreat
namespace Go.Proofs.YtagidoadfajpgaaGreat
set_option maxHeartbeats 4000000
open Go.Abs
variable {nO : Nat}
set_option maxRecDepth 8000
attribute [local irreducible] GP ruP nxP acS gst cdP loP j6 m9 m8 enP caA n5 lgP agN
theorem b2M {n : Nat} (hn : n < 16000000) : Ctr Tryz.prog nO 172 [.o (.s 1 0 2 0 0 0 true), .o (.i (n : Int))] [vc eP 1 0 ([] : List Sp) 171 .grown true] ((Nat)) (fun _ => True) (fun r => .o (.s 2 r 2 0 0 n (n == 0))) (fun r => [vc eP 2 r (List.replicate n eP.d) 171 .grown (n == 0)]) := by
 refine fs 100 fun B => g0 fun _ => g0 fun _ => cdF (b := decide ((n : Int) < 0)) (decide_eq_false (by omega)) <| go (fun _ => (o4 (by omega : -9223372036854775808 <= (0 : Int) - 0) (by omega : (0 : Int) - 0 < 9223372036854775808) (by omega : -9223372036854775808 <= (n : Int) - ((0 : Int) - 0)) (by omega : (n : Int) - ((0 : Int) - 0) < 9223372036854775808))) fun _ => g0 fun _ => cdD ((n : Int) - ((0 : Int) - 0) > 0) (fun h2 => ?_) (fun h2 => ?_)
 ·obtain ⟨k, rfl⟩ : ∃ k, n = k + 1 := ⟨n - 1, by omega⟩
  refine go (fun _ => (o3 (by omega : 0 <= 0) (by omega : (0 : Int) <= 0) (by omega : (0 : Int) <= 0))) fun _ => apz eP (k + 1) 100 101 171 (by omega) (by omega) fun q106 => go (fun _ => (o3 (by omega : (k + 1) <= (k + 1)) (by omega : (0 : Int) <= 0) (nz (k + 1)))) fun _ => g0 fun _ => rt trivial (q106) trivial [0]
 ·obtain rfl : n = 0 := by omega
  refine g0 fun _ => rt trivial (0) trivial [0]
theorem a7k {q : Nat} {tw : TypeId} {mw : Md} {qa ca : Nat} {a : List Sp} {ta : TypeId} {ma : Md} {qb cb : Nat} {b : List Sp} {tb : TypeId} {mb : Md} (hl : a.length + b.length < 1000000) : Ctr Tryz.prog nO 143 [.o (.s 1 q 1 0 2 2 false)] [.blk 1 q [.s 2 qa 2 0 a.length ca a.isEmpty, .s 3 qb 2 0 b.length cb b.isEmpty] tw mw, vc eP 2 qa a ta ma a.isEmpty, vc eP 3 qb b tb mb b.isEmpty] ((Nat)) (fun _ => True) (fun r => .o (.s 4 r 2 0 ((a ++ b).length) ((a ++ b).length) ((a ++ b).isEmpty))) (fun r => [vc eP 4 r (a ++ b) 171 .grown ((a ++ b).isEmpty), .blk 1 q [.s 2 qa 2 0 a.length ca a.isEmpty, .s 3 qb 2 0 b.length cb b.isEmpty] tw mw, vc eP 2 qa a ta ma a.isEmpty, vc eP 3 qb b tb mb b.isEmpty]) := by
 refine fs 100 fun B => g0 fun _ => g0 fun _ => g0 fun _ => lp ((Nat)) [0, 9, 10] (fun r => [(3, .o (.i (cS a b r))), (11, .o (.i (r : Int)))]) [0, 1, 2] (fun _ => []) 120 (fun r => r <= 2) (fun r => 2 - r) (0) (by omega) [] (fun | 0, hx, ag104 => ?_ | 1, hx, ag104 => ?_ | 2, hx, ag104 => ?_ | _ + 3, hx, _ => absurd hx (by omega))
 ·have hc0 : cS a b 0 = 0 := rfl
  have hc1 : cS a b 1 = a.length := rfl
  have hc2 : cS a b 2 = a.length + b.length := rfl
  have hd1 : cS a b (0 + 1) = a.length := rfl
  have hd2 : cS a b (1 + 1) = a.length + b.length := rfl
  refine g0 fun _ => cdT (b := decide ((0 : Int) < 2)) rfl <| go (fun _ => (o3 (nz 0) (by omega : (0 : Int) < 2) (rfl : false = _))) fun _ => go (fun _ => (o2 (by omega : -9223372036854775808 <= (cS a b 0) + (a.length : Int)) (by omega : (cS a b 0) + (a.length : Int) < 9223372036854775808))) fun _ => g0 fun _ => cdF (b := decide ((cS a b 0) + (a.length : Int) < 0)) (decide_eq_false (by omega)) <| go (fun _ => (o2 (by omega : -9223372036854775808 <= (0 : Int) + 1) (by omega : (0 : Int) + 1 < 9223372036854775808))) fun _ => sv 3 (v := .o (.i ((cS a b 0) + (a.length : Int)))) (v' := .o (.i (cS a b (0 + 1)))) (congrArg (Value.int .i64) (by omega)) <| ag104 _ _ (0 + 1) (by first | omega | (simp only; omega)) (by omega) [0, 1, 2] (by kernel_rfl) (by kernel_rfl)
 ·have hc0 : cS a b 0 = 0 := rfl
  have hc1 : cS a b 1 = a.length := rfl
  have hc2 : cS a b 2 = a.length + b.length := rfl
  have hd1 : cS a b (0 + 1) = a.length := rfl
  have hd2 : cS a b (1 + 1) = a.length + b.length := rfl
  refine g0 fun _ => cdT (b := decide ((1 : Int) < 2)) rfl <| go (fun _ => (o3 (nz 1) (by omega : (1 : Int) < 2) (rfl : false = _))) fun _ => go (fun _ => (o2 (by omega : -9223372036854775808 <= (cS a b 1) + (b.length : Int)) (by omega : (cS a b 1) + (b.length : Int) < 9223372036854775808))) fun _ => g0 fun _ => cdF (b := decide ((cS a b 1) + (b.length : Int) < 0)) (decide_eq_false (by omega)) <| go (fun _ => (o2 (by omega : -9223372036854775808 <= (1 : Int) + 1) (by omega : (1 : Int) + 1 < 9223372036854775808))) fun _ => sv 3 (v := .o (.i ((cS a b 1) + (b.length : Int)))) (v' := .o (.i (cS a b (1 + 1)))) (congrArg (Value.int .i64) (by omega)) <| ag104 _ _ (1 + 1) (by first | omega | (simp only; omega)) (by omega) [0, 1, 2] (by kernel_rfl) (by kernel_rfl)
 ·have hc0 : cS a b 0 = 0 := rfl
  have hc1 : cS a b 1 = a.length := rfl
  have hc2 : cS a b 2 = a.length + b.length := rfl
  have hd1 : cS a b (0 + 1) = a.length := rfl
  have hd2 : cS a b (1 + 1) = a.length + b.length := rfl
  refine g0 fun _ => cdF (b := decide ((2 : Int) < 2)) rfl <| g0 fun _ => gh (e7 120 2 eP.f eP.d 171 .grown) [] [] 121 fun _ _ => sv 23 (v := .o (.i (cS a b 2))) (v' := .o (.i ((a.length + b.length : Nat) : Int))) rfl <| cl (@b2M _ (a.length + b.length) (by omega)) [0] [(1, 120), (2, 121)] 122 fun q2117 _ => g0 fun _ => g0 fun _ => lp ((Nat)) [25, 26] (fun r => [(6, .o (.s 121 q2117 2 0 (kN a b r) (a.length + b.length) ((a.length + b.length) == 0))), (27, .o (.i (r : Int)))]) [1, 2, 3] (fun r => [vc eP 121 q2117 (cL a b r) 171 .grown ((a.length + b.length) == 0)]) 142 (fun r => r <= 2) (fun r => 2 - r) (0) (by omega) [0] (fun | 0, hx, ag120 => ?_ | 1, hx, ag120 => ?_ | 2, hx, ag120 => ?_ | _ + 3, hx, _ => absurd hx (by omega))
  ·refine g0 fun _ => cdT (b := decide ((0 : Int) < 2)) rfl <| go (fun _ => (o3 (nz 0) (by omega : (0 : Int) < 2) (rfl : false = _))) fun _ => g0 fun _ => apr eP (cL a b 0) a (cL a b (0 + 1)) 121 q2117 (kN a b 0) 171 .grown ((a.length + b.length) == 0) [vc eP 2 qa a ta ma a.isEmpty] qa 0 a.length ca a.isEmpty [0, 2] 171 (a.length + b.length) (a6u a b _).symm (by rw [a6u]; simp only [kN]; omega) (s2 L0) rfl <| g0 fun _ => go (fun _ => (o2 (by omega : -9223372036854775808 <= (0 : Int) + 1) (by omega : (0 : Int) + 1 < 9223372036854775808))) fun _ => ag120 _ _ (0 + 1) (by first | omega | (simp only; omega)) (by omega) [0, 2, 1, 3] (by kernel_rfl) (by kernel_rfl)
  ·refine g0 fun _ => cdT (b := decide ((1 : Int) < 2)) rfl <| go (fun _ => (o3 (nz 1) (by omega : (1 : Int) < 2) (rfl : false = _))) fun _ => g0 fun _ => apr eP (cL a b 1) b (cL a b (1 + 1)) 121 q2117 (kN a b 1) 171 .grown ((a.length + b.length) == 0) [vc eP 3 qb b tb mb b.isEmpty] qb 0 b.length cb b.isEmpty [0, 3] 171 (a.length + b.length) (a6u a b _).symm (by rw [a6u]; simp only [kN]; omega) (s2 L0) rfl <| g0 fun _ => go (fun _ => (o2 (by omega : -9223372036854775808 <= (1 : Int) + 1) (by omega : (1 : Int) + 1 < 9223372036854775808))) fun _ => ag120 _ _ (1 + 1) (by first | omega | (simp only; omega)) (by omega) [0, 2, 3, 1] (by kernel_rfl) (by kernel_rfl)
  ·refine g0 fun _ => cdF (b := decide ((2 : Int) < 2)) rfl <| g0 fun _ => gh (b6 (l := [vc eP 121 q2117 (cL a b 2) 171 .grown ((a.length + b.length) == 0)]) (l' := [vc eP 121 q2117 (a ++ b) 171 .grown ((a ++ b).isEmpty)]) (by rw [b7F, zN])) [0] [] 142 fun _ _ => rtv trivial (q2117) trivial [0, 1, 2, 3] (.o (.s 121 q2117 2 0 (kN a b 2) (a.length + b.length) ((a.length + b.length) == 0))) (by simp only [kN, zN, SV.den, C1.den, List.length_append, Nat.zero_add])
end Go.Proofs.YtagidoadfajpgaaGreat
