/-
  T7.
-/
import Derived.Test.YtagidoadfajpgaaGreatN23
import Derived.Test.YtagidoadfajpgaaGreatN16
import Derived.Test.YtagidoadfajpgaaGreatN15
namespace Go.Proofs.YtagidoadfajpgaaGreat
set_option maxHeartbeats 4000000
open Go.Abs
variable {nO : Nat}
set_option maxRecDepth 8000
attribute [local irreducible] GP ruP nxP acS gst cdP loP j6 m9 m8 enP caA n5 lgP agN
theorem b5w (a b : ByteArray) (w : World) : (callFunc 236 #[.string a, .string b]).run Tryz.prog w = .ok (.value (.int .i64 (K6 a b))) w := by
 rw [run_callFunc_extern Tryz.func236 (by kernel_rfl) (by kernel_rfl) (by kernel_rfl) (e := Extern.BytealgCompare.compare) (by kernel_rfl), Go.Lib.run_compareString]
 rfl
theorem a7m {a b : ByteArray}  : K1 nO 229 [.o (.t a), .o (.t b)] [] (.o (.i (K6 a b))) := by
 refine fs 100 fun B => g0 fun _ => g0 fun _ => exn (f := 236) (args := [.o (.t a), .o (.t b)]) (v := .o (.i (K6 a b))) (b5w a b) rfl <| g0 fun _ => rt trivial (()) trivial []
theorem a3k {a b : ByteArray}  : K1 nO 214 [.o (.t a), .o (.t b)] [] (.o (.i (K6 a b))) := by
 refine fs 100 fun B => g0 fun _ => g0 fun _ => cl (@a7m _ a b) [] [] 100 fun _ _ => g0 fun _ => rt trivial (()) trivial []
theorem a5e {q : Nat} {all : List Kv} {n : Nat} {t : TypeId} {m : Md} {z : Bool} {k : ByteArray} {y : Value} {p : Kv -> Int} {J : As} (hn : n <= all.length) (hz : z = true -> all.length = 0) (hl : all.length < 1000000) (hm : ∀ i j, i < j -> j < n -> p (all.getD j eK.d) < 0 -> p (all.getD i eK.d) < 0) (hy : ∀ j, j < n -> a2X Tryz.prog nO y [.a [.t (all.getD j eK.d).1, .i (all.getD j eK.d).2], .o (.t k)] [.as J] Unit (fun _ => True) (fun _ => .o (.i (p (all.getD j eK.d)))) (fun _ => [.as J])) : K1 nO 230 [.o (.s 1 q 2 0 n all.length z), .o (.t k), .o (.v y)] [vc eK 1 q all t m z, .as J] (.t [(false, [.i ((a7A (all.take n) p) : Int)]), (false, [.cb (and (decide (((a7A (all.take n) p) : Int) < (n : Int))) (p (all.getD (a7A (all.take n) p) eK.d) == 0))])]) := by
 refine fs 100 fun B => g0 fun _ => g0 fun _ => g0 fun _ => lp ((Nat) × (Nat)) [0, 1, 2, 8] (fun r => [(9, .o (.i (r.1 : Int))), (10, .o (.i (r.2 : Int)))]) [0, 1] (fun _ => []) 120 (fun r => r.1 <= r.2 /\ r.2 <= n /\ (∀ j, j < r.1 -> p (all.getD j eK.d) < 0) /\ (∀ j, r.2 <= j -> j < n -> ¬ p (all.getD j eK.d) < 0)) (fun r => r.2 - r.1) (⟨0, n⟩) ⟨Nat.zero_le _, Nat.le_refl _, fun j hj => absurd hj (Nat.not_lt_zero j), fun j h1 h2 => absurd h2 (Nat.not_lt_of_le h1)⟩ [] (fun ⟨lo, hi⟩ hx ag104 => ?_)
 try dsimp only at hx
 obtain ⟨h1, h2, h3, h4⟩ := hx
 refine g0 fun _ => cdD ((lo : Int) < (hi : Int)) (fun h5 => ?_) (fun h5 => ?_)
 ·refine go (fun _ => (o2 (by omega : -9223372036854775808 <= (lo : Int) + (hi : Int)) (by omega : (lo : Int) + (hi : Int) < 9223372036854775808))) fun _ => sv 11 (v := .o (.i (IntKind.wrap .i64 (Int.fdiv (IntKind.wrap .u64 ((lo : Int) + (hi : Int))) (2 ^ 1))))) (v' := .o (.i ((((lo + hi) / 2) : Nat) : Int))) (congrArg (Value.int .i64) (mid (by omega))) <| go (fun _ => (o4 (nz ((lo + hi) / 2)) (by omega : ((((lo + hi) / 2) : Nat) : Int) < (n : Int)) (zf hz (show 0 < all.length by omega) : z = false) (by omega : ((lo + hi) / 2) < all.length))) fun _ => clv (hy ((lo + hi) / 2) (by omega)) [1] [] 120 fun _ _ => g0 fun _ => cdD ((p (all.getD ((lo + hi) / 2) eK.d)) < 0) (fun h6 => ?_) (fun h6 => ?_)
  ·refine go (fun _ => (o2 (by omega : -9223372036854775808 <= ((((lo + hi) / 2) : Nat) : Int) + 1) (by omega : ((((lo + hi) / 2) : Nat) : Int) + 1 < 9223372036854775808))) fun _ => ag104 _ _ (⟨((lo + hi) / 2) + 1, hi⟩) (by first | omega | (simp only; omega)) (by dsimp only; exact ⟨by omega, by omega, fun j hj => by rcases Nat.lt_succ_iff_lt_or_eq.1 hj with h | h; exact hm j _ h (by omega) h6; subst h; exact h6, h4⟩) [1, 0] (by kernel_rfl) (by kernel_rfl)
  ·refine g0 fun _ => ag104 _ _ (⟨lo, ((lo + hi) / 2)⟩) (by first | omega | (simp only; omega)) (by dsimp only; exact ⟨by omega, by omega, h3, fun j hj1 hj2 hj3 => by rcases Nat.eq_or_lt_of_le hj1 with h | h; subst h; exact h6 hj3; exact h6 (hm _ j h hj2 hj3)⟩) [1, 0] (by kernel_rfl) (by kernel_rfl)
 ·have hp : (a7A (all.take n) p) = lo := b4Z (d := eK.d) (by omega) (by omega) h3 (fun j hj1 hj2 => h4 j (by omega) hj2)
  refine go (fun _ => (o2 (fun (he : (decide ((lo : Int) < (n : Int))) = true) => have he : (lo : Int) < (n : Int) := (by simpa using he); (o3 (nz lo) (by omega : (lo : Int) < (n : Int)) (zf hz (show 0 < all.length by omega) : z = false))) (fun (he : (decide ((lo : Int) < (n : Int))) = true) => have he : (lo : Int) < (n : Int) := (by simpa using he); (o1 (by omega : lo < all.length))))) fun _ => b88 (fun (he : (decide ((lo : Int) < (n : Int))) = true) => have he : (lo : Int) < (n : Int) := (by simpa using he); hy lo (by omega)) [1] trivial <| g0 fun _ => rtv trivial (()) trivial [1, 0] (.t [(false, [.i (lo : Int)]), (false, [.cb (and (decide ((lo : Int) < (n : Int))) ((p (all.getD lo eK.d)) == 0))])]) (by rw [hp])
theorem a9V {a : Kv} {k : ByteArray} {qb qm : Nat} {sl : C1} {tb tm : TypeId}  : K1 nO 231 [.a [.t a.1, .i a.2], .o (.t k), .o (.p 1 qb 0 0 0)] [.blk 1 qb [.p 2 qm 0 0 0] tb .own, .blk 2 qm [.v (.func (.func 214) #[] #[]), sl] tm .own] (.o (.i (K6 a.1 k))) := by
 refine fs 100 fun B => g0 fun q101 => g0 fun _ => cl (@a3k _ a.1 k) [] [] 101 fun _ _ => g0 fun _ => rt trivial (()) trivial [1, 2]
theorem b2V {qm : Nat} {tm : TypeId} {q : Nat} {all : List Kv} {n : Nat} {t : TypeId} {m : Md} {z : Bool} {k : ByteArray} (hn : n <= all.length) (hz : z = true -> all.length = 0) (hl : all.length < 1000000) (hs : KS (all.take n)) : K1 nO 215 [.o (.p 1 qm 0 0 0), .o (.t k)] [.blk 1 qm [.v (.func (.func 214) #[] #[]), .s 2 q 2 0 n all.length z] tm .own, vc eK 2 q all t m z] (.t [(false, [.i ((a7A (all.take n) (fun x => K6 x.1 k)) : Int)]), (false, [.cb (and (decide (((a7A (all.take n) (fun x => K6 x.1 k)) : Int) < (n : Int))) (K6 (all.getD (a7A (all.take n) (fun x => K6 x.1 k)) eK.d).1 k == 0))])]) := by
 refine fs 100 (fun B => ?_)
 have hmono : ∀ i j, i < j -> j < n -> K6 (all.getD j eK.d).1 k < 0 -> K6 (all.getD i eK.d).1 k < 0 := fun i j hij hj h => a1Z (b8o hn hs hij hj) h
 refine g0 fun q101 => g0 fun _ => cdF rfl <| g0 fun _ => gh (p6 (l := [.blk 100 (q101 100) [.p 1 qm 0 0 0] 182 .own, .blk 1 qm [.v (.func (.func 214) #[] #[]), .s 2 q 2 0 n all.length z] tm .own])) [0, 1] [] 101 fun _ _ => cl (a5e (q := q) (all := all) (n := n) (t := t) (m := m) (z := z) (k := k) (y := .func (.func 231) #[] #[.pointer (some ⟨(q101 100), 0, none⟩)]) (p := fun x => K6 x.1 k) (J := (hpA [.blk 100 (q101 100) [.p 1 qm 0 0 0] 182 .own, .blk 1 qm [.v (.func (.func 214) #[] #[]), .s 2 q 2 0 n all.length z] tm .own])) hn hz hl hmono (fun j _ => a0s (b3k [.pointer (some ⟨(q101 100), 0, none⟩)] (a9V (a := all.getD j eK.d) (k := k) (qb := (q101 100)) (qm := qm) (sl := .s 2 q 2 0 n all.length z) (tb := 182) (tm := tm))))) [1, 0] [] 101 fun _ _ => gh (O5 (l := [.blk 100 (q101 100) [.p 1 qm 0 0 0] 182 .own, .blk 1 qm [.v (.func (.func 214) #[] #[]), .s 2 q 2 0 n all.length z] tm .own])) [1] [] 101 fun _ _ => g0 fun _ => rt trivial (()) trivial [1, 2]
end Go.Proofs.YtagidoadfajpgaaGreat
namespace Go.Proofs.YtagidoadfajpgaaGreat
set_option maxHeartbeats 4000000
open Go.Abs
variable {nO : Nat}
set_option maxRecDepth 8000
attribute [local irreducible] GP ruP nxP acS gst cdP loP j6 m9 m8 enP caA n5 lgP agN
theorem a0X {qm : Nat} {tm : TypeId} {q : Nat} {ps all : List Kv} {z : Bool} {k : ByteArray} (hp : all.take ps.length = ps) (hn : ps.length <= all.length) (hz : z = true ↔ all.length = 0) (hl : all.length < 1000000) (hs : KS ps) : K1 nO 215 [.o (.p 1 qm 0 0 0), .o (.t k)] [.blk 1 qm [.v (.func (.func 214) #[] #[]), .s 2 q 2 0 ps.length all.length z] tm .own, vc eK 2 q all 240 .grown z] (.t [(false, [.i ((r6 ps k : Nat) : Int)]), (false, [.cb (a0n ps k)])]) :=
 (show Ctr Tryz.prog nO 215 _ _ _ _ _ _ from by
  have h := b2V (nO := nO) (qm := qm) (tm := tm) (q := q) (all := all) (n := ps.length) (t := 240) (m := .grown) (z := z) (k := k) hn hz.1 hl (by rw [hp]; exact hs)
  rw [b2U hp hn, hp] at h
  exact h)
theorem a9b   : Ctr Tryz.prog nO 213 [.o (.v (.func (.func 214) #[] #[]))] [] ((Nat)) (fun _ => True) (fun r => .o (.p 1 r 0 0 0)) (fun r => [.blk 1 r [.v (.func (.func 214) #[] #[]), .s 2 0 2 0 (([] : List Kv).length) (([] : List Kv).length) true] 243 .own, vc eK 2 0 ([] : List Kv) 240 .grown true]) := by
 refine fs 100 fun B => g0 fun _ => g0 fun q102 => gh (e7 101 2 eK.f eK.d 240 .grown) [] [] 102 fun _ _ => rt trivial ((q102 100)) trivial [1, 0]
theorem a9c {qm : Nat} {tm : TypeId} {q : Nat} {ps all : List Kv} {z : Bool}  : K1 nO 220 [.o (.p 1 qm 0 0 0)] [.blk 1 qm [.v (.func (.func 214) #[] #[]), .s 2 q 2 0 ps.length all.length z] tm .own, vc eK 2 q all 240 .grown z] (.o (.i (ps.length : Int))) := by
 refine fs 100 fun B => g0 fun _ => g0 fun _ => cdF rfl <| g0 fun _ => rt trivial (()) trivial [0, 1]
theorem a3B {qm : Nat} {tm : TypeId} {q : Nat} {ps all : List Kv} {z : Bool} {k : ByteArray} (hp : all.take ps.length = ps) (hn : ps.length <= all.length) (hz : z = true ↔ all.length = 0) (hl : all.length < 1000000) (hs : KS ps) : K1 nO 177 [.o (.p 1 qm 0 0 0), .o (.t k)] [.blk 1 qm [.v (.func (.func 214) #[] #[]), .s 2 q 2 0 ps.length all.length z] tm .own, vc eK 2 q all 240 .grown z] (.t [(false, [.i (a0T ps k)]), (false, [.cb (a0n ps k)])]) := by
 refine fs 100 fun B => g0 fun _ => g0 fun _ => cl (a0X (qm := qm) (tm := tm) (q := q) (ps := ps) (all := all) (z := z) (k := k) (by assumption) (by omega) (by assumption) (by omega) (by assumption)) [0, 1] [] 100 fun _ _ => g0 fun _ => g0 fun _ => cd (!(a0n ps k)) (fun h1 => ?_) (fun h1 => ?_)
 ·have h1 : a0n ps k = false := by simpa using h1
  refine g0 fun _ => g0 fun _ => rtv trivial (()) trivial [0, 1] (.t [(false, [.i 0]), (false, [.v (.bool false)])]) (by simp only [SV.den, Y6, a0T, h1]; rfl)
 ·have h1 : a0n ps k = true := by simpa using h1
  have hp1 := (J3 h1).1
  refine go (fun _ => (o4 (nz (r6 ps k)) (by omega : ((r6 ps k : Nat) : Int) < (ps.length : Int)) (zf hz.1 (show 0 < all.length by omega) : z = false) (by omega : (r6 ps k) < all.length))) fun _ => rtv trivial (()) trivial [0, 1] (.t [(false, [.i ((all.getD (r6 ps k) eK.d).2)]), (false, [.v (.bool true)])]) (by simp only [SV.den, Y6, a0T, h1, if_true, a6e hp hn hp1, List.map_cons, List.map_nil]; rfl)
theorem b2y {q : Nat} {all : List Kv} {n i : Nat} (hi : i < n) (hn : n <= all.length) (hl : all.length < 1000000) : Ctr Tryz.prog nO 217 [.o (.s 1 q 2 0 n all.length false), .o (.i (i : Int)), .o (.i ((i : Int) + 1))] [vc eK 1 q all 240 .grown false] (Unit) (fun _ => True) (fun r => .o (.s 1 q 2 0 (n - 1) all.length false)) (fun r => [vc eK 1 q (rmL all eK.d i n) 240 .grown false]) := by
 refine fs 100 (fun B => ?_)
 have hyl : ((all.drop (i + 1)).take (n - (i + 1))).length = n - (i + 1) := by rw [List.length_take, List.length_drop]; omega
 have hk : i + ((all.drop (i + 1)).take (n - (i + 1))).length = n - 1 := by omega
 have hsl : (spl all i ((all.drop (i + 1)).take (n - (i + 1)))).length = all.length := P2 (by omega)
 refine g0 fun _ => go (fun _ => (o5 (by omega : n <= all.length) (nz i) (by omega : (i : Int) <= (i : Int) + 1) (by omega : (i : Int) + 1 <= (n : Int)) (by omega : (n : Int) <= (all.length : Int)))) fun _ => g0 fun _ => cdF (b := ((i : Int) == (i : Int) + 1)) (beq_eq_false_iff_ne.2 (by omega)) <| g0 fun _ => go (fun _ => (o6 (by omega : n <= all.length) (nz i) (by omega : (i : Int) <= (all.length : Int)) (by omega : n <= all.length) (by omega : (0 : Int) <= (i : Int) + 1) (by omega : (i : Int) + 1 <= (n : Int)))) fun _ => apr eK all ((all.drop (i + 1)).take (n - (i + 1))) (spl all i ((all.drop (i + 1)).take (n - (i + 1)))) 1 q i 240 .grown false [] q (ofs all.length (i + 1) 0 * 2) (n - (i + 1)) (all.length - (i + 1)) false [0] 240 all.length rfl (by omega) (s1 (b1J hi hn)) rfl ?_ (hn := hyl.symm)
 refine sv 26 (v := .o (.s 1 q 2 0 (i + ((all.drop (i + 1)).take (n - (i + 1))).length) all.length false)) (v' := .o (.s 1 q 2 0 (n - 1) all.length false)) (by rw [hk]) <| g0 fun _ => go (fun _ => (o4 (by omega : (n - 1) <= all.length) (nz (n - 1)) (by omega : (((n - 1) : Nat) : Int) <= (n : Int)) (by omega : (n : Int) <= (all.length : Int)))) fun _ => clr eK (spl all i ((all.drop (i + 1)).take (n - (i + 1)))) (rmL all eK.d i n) 1 q (ofs all.length (n - 1) 0) (n - (n - 1)) (all.length - (n - 1)) 240 .grown [] [0] (by rw [hsl, b30 (by omega)]; omega) (by omega) (by rw [b30 (by omega), show n - (n - 1) = 1 by omega]; rfl) <| g0 fun _ => rt trivial (()) trivial [0]
end Go.Proofs.YtagidoadfajpgaaGreat
namespace Go.Proofs.YtagidoadfajpgaaGreat
set_option maxHeartbeats 4000000
open Go.Abs
variable {nO : Nat}
set_option maxRecDepth 8000
attribute [local irreducible] GP ruP nxP acS gst cdP loP j6 m9 m8 enP caA n5 lgP agN
theorem b2w {q : Nat} {all : List Kv} {z : Bool} {v : Kv} {qv : Nat} (hne : z = false -> 0 < all.length) (hl : all.length < 1000000) : Ctr Tryz.prog nO 216 [.o (.s 1 q 2 0 all.length all.length z), .o (.i (all.length : Int)), .o (.s 2 qv 2 0 1 1 false)] [vc eK 1 q all 240 .grown z, .blk 2 qv [.t v.1, .i v.2] 240 .own] ((Nat)) (fun _ => True) (fun r => .o (.s 3 r 2 0 ((all ++ [v]).length) ((all ++ [v]).length) false)) (fun r => [vc eK 3 r (all ++ [v]) 240 .grown false]) := by
 refine fs 100 fun B => g0 fun _ => go (fun _ => (o3 (by omega : all.length <= all.length) (nz all.length) (by omega : (all.length : Int) <= (all.length : Int)))) fun _ => g0 fun _ => g0 fun _ => cdF (b := ((1 : Int) == 0)) (by decide) <| g0 fun _ => g0 fun _ => cdT (b := ((all.length : Int) == (all.length : Int))) (beq_self_eq_true _) <| g0 fun _ => apd eK all [v] (all ++ [v]) 1 q .grown z false (.blk 2 qv [.t v.1, .i v.2] 240 .own) qv 0 1 1 false 100 [0, 1] 101 240 (fun h _ => hne h) (by simp only [List.length_cons, List.length_nil]; omega) (o8 rfl) (by simp) rfl fun q108 => g0 fun _ => rt trivial (q108) trivial [0]
theorem b2u {q : Nat} {all : List Kv} {n : Nat} {v : Kv} {qv : Nat} (hn : n < all.length) (hl : all.length < 1000000) : Ctr Tryz.prog nO 216 [.o (.s 1 q 2 0 n all.length false), .o (.i (n : Int)), .o (.s 2 qv 2 0 1 1 false)] [vc eK 1 q all 240 .grown false, .blk 2 qv [.t v.1, .i v.2] 240 .own] (Unit) (fun _ => True) (fun r => .o (.s 1 q 2 0 (n + [v].length) all.length false)) (fun r => [vc eK 1 q (spl all n [v]) 240 .grown false]) := by
 refine fs 100 fun B => g0 fun _ => go (fun _ => (o3 (by omega : n <= all.length) (nz n) (by omega : (n : Int) <= (n : Int)))) fun _ => g0 fun _ => g0 fun _ => cdF (b := ((1 : Int) == 0)) (by decide) <| g0 fun _ => g0 fun _ => cdT (b := ((n : Int) == (n : Int))) (beq_self_eq_true _) <| g0 fun _ => apr eK all [v] (spl all n [v]) 1 q n 240 .grown false [.blk 2 qv [.t v.1, .i v.2] 240 .own] qv 0 1 1 false [0, 1] 240 all.length rfl (by simp only [List.length_cons, List.length_nil]; omega) (s2 (o8 rfl)) rfl <| g0 fun _ => rt trivial (()) trivial [0]
end Go.Proofs.YtagidoadfajpgaaGreat
