/-
  T7.
-/
import Derived.Test.YthkoolfmealabaaGreatN24
import Derived.Test.YthkoolfmealabaaGreatN17
import Derived.Test.YthkoolfmealabaaGreatN16
namespace Go.Proofs.YthkoolfmealabaaGreat
set_option maxHeartbeats 4000000
open Go.Abs
variable {nO : Nat}
set_option maxRecDepth 8000
attribute [local irreducible] GP ruP nxP acS gst cdP loP invS ent1 ent2 enP caA resV lgP agN
theorem ext_cmp (a b : ByteArray) (w : World) : (callFunc 137 #[.string a, .string b]).run Tryz.prog w = .ok (.value (.int .i64 (cmpS a b))) w := by
 rw [run_callFunc_extern Tryz.func137 (by kernel_rfl) (by kernel_rfl) (by kernel_rfl) (e := Extern.BytealgCompare.compare) (by kernel_rfl), Go.Lib.run_compareString]
 rfl
theorem cmpstr_ctr {a b : ByteArray}  : Ctr Tryz.prog nO 130 [.o (.v (.string a)), .o (.v (.string b))] [] (Unit) (fun _ => True) (fun r => .o (.v (.int .i64 (cmpS a b)))) (fun r => []) := by
 refine fs good 100 (fun B => ?_)
 refine g0 good fun _ => ?_
 refine g0 good fun _ => ?_
 refine exn good (f := 137) (args := [.o (.v (.string a)), .o (.v (.string b))]) (v := .o (.v (.int .i64 (cmpS a b)))) (ext_cmp a b) rfl ?_
 refine g0 good fun _ => ?_
 exact rt trivial (()) trivial []
theorem scompare_ctr {a b : ByteArray}  : Ctr Tryz.prog nO 117 [.o (.v (.string a)), .o (.v (.string b))] [] (Unit) (fun _ => True) (fun r => .o (.v (.int .i64 (cmpS a b)))) (fun r => []) := by
 refine fs good 100 (fun B => ?_)
 refine g0 good fun _ => ?_
 refine g0 good fun _ => ?_
 refine cl good (cmpstr_ctr (a := a) (b := b)) [] [] 100 fun _ _ => ?_
 refine g0 good fun _ => ?_
 exact rt trivial (()) trivial []
theorem bsearch_ctr {q : Nat} {all : List Kv} {n : Nat} {t : TypeId} {m : Md} {z : Bool} {k : ByteArray} {y : Value} {p : Kv -> Int} {J : As} (hn : n <= all.length) (hz : z = true -> all.length = 0) (hl : all.length < 1000000) (hm : ∀ i j, i < j -> j < n -> p (all.getD j eK.d) < 0 -> p (all.getD i eK.d) < 0) (hy : ∀ j, j < n -> CtrV Tryz.prog nO y [.a [.v (.string (all.getD j eK.d).1), .v (.int .i64 (all.getD j eK.d).2)], .o (.v (.string k))] [.as J] Unit (fun _ => True) (fun _ => .o (.v (.int .i64 (p (all.getD j eK.d))))) (fun _ => [.as J])) : Ctr Tryz.prog nO 131 [.o (.s 1 q 2 0 n all.length z), .o (.v (.string k)), .o (.v y)] [vc eK 1 q all t m z, .as J] (Unit) (fun _ => True) (fun r => .t [(false, [.v (.int .i64 ((posL (all.take n) p) : Int))]), (false, [.cb (and (decide (((posL (all.take n) p) : Int) < (n : Int))) (p (all.getD (posL (all.take n) p) eK.d) == 0))])]) (fun r => [vc eK 1 q all t m z, .as J]) := by
 refine fs good 100 (fun B => ?_)
 refine g0 good fun _ => ?_
 refine g0 good fun _ => ?_
 refine g0 good fun _ => ?_
 refine lp good ((Nat) × (Nat)) [0, 1, 2, 8] (fun r => [(9, .o (.v (.int .i64 (r.1 : Int)))), (10, .o (.v (.int .i64 (r.2 : Int))))]) [0, 1] (fun _ => []) 120 (fun r => r.1 <= r.2 /\ r.2 <= n /\ (∀ j, j < r.1 -> p (all.getD j eK.d) < 0) /\ (∀ j, r.2 <= j -> j < n -> ¬ p (all.getD j eK.d) < 0)) (fun r => r.2 - r.1) (⟨0, n⟩) ⟨Nat.zero_le _, Nat.le_refl _, fun j hj => absurd hj (Nat.not_lt_zero j), fun j h1 h2 => absurd h2 (Nat.not_lt_of_le h1)⟩ [] (fun ⟨lo, hi⟩ hx ag104 => ?_)
 try dsimp only at hx
 obtain ⟨h1, h2, h3, h4⟩ := hx
 refine g0 good fun _ => ?_
 refine cdD good ((lo : Int) < (hi : Int)) (fun h5 => ?_) (fun h5 => ?_)
 ·refine go good (fun _ => (o2 (by omega : -9223372036854775808 <= (lo : Int) + (hi : Int)) (by omega : (lo : Int) + (hi : Int) < 9223372036854775808))) fun _ => ?_
  refine sv 11 (v := .o (.v (.int .i64 (IntKind.wrap .i64 (Int.fdiv (IntKind.wrap .u64 ((lo : Int) + (hi : Int))) (2 ^ 1)))))) (v' := .o (.v (.int .i64 ((((lo + hi) / 2) : Nat) : Int)))) (congrArg (Value.int .i64) (mid (by omega))) ?_
  refine go good (fun _ => (o5 (nz ((lo + hi) / 2)) (by omega : ((((lo + hi) / 2) : Nat) : Int) < (n : Int)) (zf hz (show 0 < all.length by omega) : z = false) (rfl : q = _) (by omega : ((lo + hi) / 2) < all.length))) fun _ => ?_
  refine clv good (hy ((lo + hi) / 2) (by omega)) [1] [] 120 fun _ _ => ?_
  refine g0 good fun _ => ?_
  refine cdD good ((p (all.getD ((lo + hi) / 2) eK.d)) < 0) (fun h6 => ?_) (fun h6 => ?_)
  ·refine go good (fun _ => (o2 (by omega : -9223372036854775808 <= ((((lo + hi) / 2) : Nat) : Int) + 1) (by omega : ((((lo + hi) / 2) : Nat) : Int) + 1 < 9223372036854775808))) fun _ => ?_
   exact ag104 _ _ (⟨((lo + hi) / 2) + 1, hi⟩) (by first | omega | (simp only; omega)) (by dsimp only; exact ⟨by omega, by omega, fun j hj => by rcases Nat.lt_succ_iff_lt_or_eq.1 hj with h | h; exact hm j _ h (by omega) h6; subst h; exact h6, h4⟩) [1, 0] (by kernel_rfl) (by kernel_rfl)
  ·refine g0 good fun _ => ?_
   exact ag104 _ _ (⟨lo, ((lo + hi) / 2)⟩) (by first | omega | (simp only; omega)) (by dsimp only; exact ⟨by omega, by omega, h3, fun j hj1 hj2 hj3 => by rcases Nat.eq_or_lt_of_le hj1 with h | h; subst h; exact h6 hj3; exact h6 (hm _ j h hj2 hj3)⟩) [1, 0] (by kernel_rfl) (by kernel_rfl)
 ·have hp : (posL (all.take n) p) = lo := posL_is (d := eK.d) (by omega) (by omega) h3 (fun j hj1 hj2 => h4 j (by omega) hj2)
  refine go good (fun _ => (o2 (fun (he : (decide ((lo : Int) < (n : Int))) = true) => have he : (lo : Int) < (n : Int) := (by simpa using he); (o3 (nz lo) (by omega : (lo : Int) < (n : Int)) (zf hz (show 0 < all.length by omega) : z = false))) (fun (he : (decide ((lo : Int) < (n : Int))) = true) => have he : (lo : Int) < (n : Int) := (by simpa using he); (o2 (rfl : q = _) (by omega : lo < all.length))))) fun _ => ?_
  refine clmv good (fun (he : (decide ((lo : Int) < (n : Int))) = true) => have he : (lo : Int) < (n : Int) := (by simpa using he); hy lo (by omega)) [1] trivial ?_
  refine g0 good fun _ => ?_
  exact rtv trivial (()) trivial [1, 0] (.t [(false, [.v (.int .i64 (lo : Int))]), (false, [.cb (and (decide ((lo : Int) < (n : Int))) ((p (all.getD lo eK.d)) == 0))])]) (by rw [hp])
theorem find1_ctr {a : Kv} {k : ByteArray} {qb qm : Nat} {sl : C1} {tb tm : TypeId}  : Ctr Tryz.prog nO 132 [.a [.v (.string a.1), .v (.int .i64 a.2)], .o (.v (.string k)), .o (.p 1 qb 0 0 0)] [.blk 1 qb [.p 2 qm 0 0 0] tb .own, .blk 2 qm [.v (.func (.func 117) #[] #[]), sl] tm .own] (Unit) (fun _ => True) (fun r => .o (.v (.int .i64 (cmpS a.1 k)))) (fun r => [.blk 1 qb [.p 2 qm 0 0 0] tb .own, .blk 2 qm [.v (.func (.func 117) #[] #[]), sl] tm .own]) := by
 refine fs good 100 (fun B => ?_)
 refine go good (fun q101 => (o1 (rfl : [C1.v (.string a.1), .v (.int .i64 a.2)].all C1.one = true))) (fun q101 => ?_)
 refine go good (fun _ => (o3 (rfl : qb = _) (rfl : qm = _) (rfl : (q101 100) = (q101 100)))) fun _ => ?_
 refine cl good (scompare_ctr (a := a.1) (b := k)) [] [] 101 fun _ _ => ?_
 refine g0 good fun _ => ?_
 exact rt trivial (()) trivial [1, 2]
theorem find_ctr {qm : Nat} {tm : TypeId} {q : Nat} {all : List Kv} {n : Nat} {t : TypeId} {m : Md} {z : Bool} {k : ByteArray} (hn : n <= all.length) (hz : z = true -> all.length = 0) (hl : all.length < 1000000) (hs : KS (all.take n)) : Ctr Tryz.prog nO 118 [.o (.p 1 qm 0 0 0), .o (.v (.string k))] [.blk 1 qm [.v (.func (.func 117) #[] #[]), .s 2 q 2 0 n all.length z] tm .own, vc eK 2 q all t m z] (Unit) (fun _ => True) (fun r => .t [(false, [.v (.int .i64 ((posL (all.take n) (fun x => cmpS x.1 k)) : Int))]), (false, [.cb (and (decide (((posL (all.take n) (fun x => cmpS x.1 k)) : Int) < (n : Int))) (cmpS (all.getD (posL (all.take n) (fun x => cmpS x.1 k)) eK.d).1 k == 0))])]) (fun r => [.blk 1 qm [.v (.func (.func 117) #[] #[]), .s 2 q 2 0 n all.length z] tm .own, vc eK 2 q all t m z]) := by
 refine fs good 100 (fun B => ?_)
 have hmono : ∀ i j, i < j -> j < n -> cmpS (all.getD j eK.d).1 k < 0 -> cmpS (all.getD i eK.d).1 k < 0 := fun i j hij hj h => cmpS_trans (ks_at hn hs hij hj) h
 refine go good (fun q101 => (o1 (rfl : [C1.p 1 qm 0 0 0].all C1.one = true))) (fun q101 => ?_)
 refine go good (fun _ => (o3 (rfl : (q101 100) = (q101 100)) (rfl : (q101 100) = (q101 100)) (rfl : qm = _))) fun _ => ?_
 refine cdF good rfl ?_
 refine go good (fun _ => (o2 (rfl : (q101 100) = (q101 100)) (rfl : qm = _))) fun _ => ?_
 refine gh (ge_all (l := [.blk 100 (q101 100) [.p 1 qm 0 0 0] 107 .own, .blk 1 qm [.v (.func (.func 117) #[] #[]), .s 2 q 2 0 n all.length z] tm .own])) [0, 1] [] 101 fun _ _ => ?_
 refine cl good (bsearch_ctr (q := q) (all := all) (n := n) (t := t) (m := m) (z := z) (k := k) (y := .func (.func 132) #[] #[.pointer (some ⟨(q101 100), 0, none⟩)]) (p := fun x => cmpS x.1 k) (J := (hpA [.blk 100 (q101 100) [.p 1 qm 0 0 0] 107 .own, .blk 1 qm [.v (.func (.func 117) #[] #[]), .s 2 q 2 0 n all.length z] tm .own])) hn hz hl hmono (fun j _ => ctrV_all (ctrV [.pointer (some ⟨(q101 100), 0, none⟩)] (find1_ctr (a := all.getD j eK.d) (k := k) (qb := (q101 100)) (qm := qm) (sl := .s 2 q 2 0 n all.length z) (tb := 107) (tm := tm))))) [1, 0] [] 101 fun _ _ => ?_
 refine gh (ge_un (l := [.blk 100 (q101 100) [.p 1 qm 0 0 0] 107 .own, .blk 1 qm [.v (.func (.func 117) #[] #[]), .s 2 q 2 0 n all.length z] tm .own])) [1] [] 101 fun _ _ => ?_
 refine g0 good fun _ => ?_
 exact rt trivial (()) trivial [1, 2]
end Go.Proofs.YthkoolfmealabaaGreat
namespace Go.Proofs.YthkoolfmealabaaGreat
set_option maxHeartbeats 4000000
open Go.Abs
variable {nO : Nat}
set_option maxRecDepth 8000
attribute [local irreducible] GP ruP nxP acS gst cdP loP invS ent1 ent2 enP caA resV lgP agN
theorem find_ctr2 {qm : Nat} {tm : TypeId} {q : Nat} {ps all : List Kv} {z : Bool} {k : ByteArray} (hp : all.take ps.length = ps) (hn : ps.length <= all.length) (hz : z = true ↔ all.length = 0) (hl : all.length < 1000000) (hs : KS ps) : Ctr Tryz.prog nO 118 [.o (.p 1 qm 0 0 0), .o (.v (.string k))] [.blk 1 qm [.v (.func (.func 117) #[] #[]), .s 2 q 2 0 ps.length all.length z] tm .own, vc eK 2 q all 165 .grown z] (Unit) (fun _ => True) (fun r => .t [(false, [.v (.int .i64 ((posK ps k : Nat) : Int))]), (false, [.cb (hasK ps k)])]) (fun r => [.blk 1 qm [.v (.func (.func 117) #[] #[]), .s 2 q 2 0 ps.length all.length z] tm .own, vc eK 2 q all 165 .grown z]) :=
 (show Ctr Tryz.prog nO 118 _ _ _ _ _ _ from by
  have h := find_ctr (nO := nO) (qm := qm) (tm := tm) (q := q) (all := all) (n := ps.length) (t := 165) (m := .grown) (z := z) (k := k) hn hz.1 hl (by rw [hp]; exact hs)
  rw [find_has hp hn, hp] at h
  exact h)
theorem omnew_ctr   : Ctr Tryz.prog nO 116 [.o (.v (.func (.func 117) #[] #[]))] [] ((Nat)) (fun _ => True) (fun r => .o (.p 1 r 0 0 0)) (fun r => [.blk 1 r [.v (.func (.func 117) #[] #[]), .s 2 0 2 0 (([] : List Kv).length) (([] : List Kv).length) true] 168 .own, vc eK 2 0 ([] : List Kv) 165 .grown true]) := by
 refine fs good 100 (fun B => ?_)
 refine g0 good fun _ => ?_
 refine go good (fun q102 => (o2 (rfl : [C1.v (.func (.func 117) #[] #[])].all C1.one = true) (rfl : [C1.v (.func (.func 117) #[] #[]), .v (.slice none 0 0)].all C1.one = true))) (fun q102 => ?_)
 refine gh (nil_vec 101 2 eK.f eK.d 165 .grown) [] [] 102 fun _ _ => ?_
 exact rt trivial ((q102 100)) trivial [1, 0]
theorem omlen_ctr {qm : Nat} {tm : TypeId} {q : Nat} {ps all : List Kv} {z : Bool}  : Ctr Tryz.prog nO 94 [.o (.p 1 qm 0 0 0)] [.blk 1 qm [.v (.func (.func 117) #[] #[]), .s 2 q 2 0 ps.length all.length z] tm .own, vc eK 2 q all 165 .grown z] (Unit) (fun _ => True) (fun r => .o (.v (.int .i64 (ps.length : Int)))) (fun r => [.blk 1 qm [.v (.func (.func 117) #[] #[]), .s 2 q 2 0 ps.length all.length z] tm .own, vc eK 2 q all 165 .grown z]) := by
 refine fs good 100 (fun B => ?_)
 refine g0 good fun _ => ?_
 refine g0 good fun _ => ?_
 refine cdF good rfl ?_
 refine go good (fun _ => (o1 (rfl : qm = _))) fun _ => ?_
 exact rt trivial (()) trivial [0, 1]
theorem omget_ctr {qm : Nat} {tm : TypeId} {q : Nat} {ps all : List Kv} {z : Bool} {k : ByteArray} (hp : all.take ps.length = ps) (hn : ps.length <= all.length) (hz : z = true ↔ all.length = 0) (hl : all.length < 1000000) (hs : KS ps) : Ctr Tryz.prog nO 91 [.o (.p 1 qm 0 0 0), .o (.v (.string k))] [.blk 1 qm [.v (.func (.func 117) #[] #[]), .s 2 q 2 0 ps.length all.length z] tm .own, vc eK 2 q all 165 .grown z] (Unit) (fun _ => True) (fun r => .t [(false, [.v (.int .i64 (getK ps k))]), (false, [.cb (hasK ps k)])]) (fun r => [.blk 1 qm [.v (.func (.func 117) #[] #[]), .s 2 q 2 0 ps.length all.length z] tm .own, vc eK 2 q all 165 .grown z]) := by
 refine fs good 100 (fun B => ?_)
 refine g0 good fun _ => ?_
 refine g0 good fun _ => ?_
 refine cl good (find_ctr2 (qm := qm) (tm := tm) (q := q) (ps := ps) (all := all) (z := z) (k := k) (by assumption) (by omega) (by assumption) (by omega) (by assumption)) [0, 1] [] 100 fun _ _ => ?_
 refine g0 good fun _ => ?_
 refine g0 good fun _ => ?_
 refine cd good (!(hasK ps k)) (fun h1 => ?_) (fun h1 => ?_)
 ·have h1 : hasK ps k = false := by simpa using h1
  refine g0 good fun _ => ?_
  refine g0 good fun _ => ?_
  exact rtv trivial (()) trivial [0, 1] (.t [(false, [.v (.int .i64 0)]), (false, [.v (.bool false)])]) (by simp only [SV.den, compV, getK, h1]; rfl)
 ·have h1 : hasK ps k = true := by simpa using h1
  have hp1 := (hasK_lt h1).1
  refine go good (fun _ => (o6 (rfl : qm = _) (nz (posK ps k)) (by omega : ((posK ps k : Nat) : Int) < (ps.length : Int)) (zf hz.1 (show 0 < all.length by omega) : z = false) (rfl : q = _) (by omega : (posK ps k) < all.length))) fun _ => ?_
  exact rtv trivial (()) trivial [0, 1] (.t [(false, [.v (.int .i64 ((all.getD (posK ps k) eK.d).2))]), (false, [.v (.bool true)])]) (by simp only [SV.den, compV, getK, h1, if_true, getD_pre hp hn hp1, List.map_cons, List.map_nil]; rfl)
theorem kdel_ctr {q : Nat} {all : List Kv} {n i : Nat} (hi : i < n) (hn : n <= all.length) (hl : all.length < 1000000) : Ctr Tryz.prog nO 120 [.o (.s 1 q 2 0 n all.length false), .o (.v (.int .i64 (i : Int))), .o (.v (.int .i64 ((i : Int) + 1)))] [vc eK 1 q all 165 .grown false] (Unit) (fun _ => True) (fun r => .o (.s 1 q 2 0 (n - 1) all.length false)) (fun r => [vc eK 1 q (rmL all eK.d i n) 165 .grown false]) := by
 refine fs good 100 (fun B => ?_)
 have hyl : ((all.drop (i + 1)).take (n - (i + 1))).length = n - (i + 1) := by rw [List.length_take, List.length_drop]; omega
 have hk : i + ((all.drop (i + 1)).take (n - (i + 1))).length = n - 1 := by omega
 have hsl : (spl all i ((all.drop (i + 1)).take (n - (i + 1)))).length = all.length := spl_len (by omega)
 refine g0 good fun _ => ?_
 refine go good (fun _ => (oc (rfl : q = _) (rfl : false = _) (by omega : n <= all.length) (nz i) (by omega : (i : Int) <= (i : Int) + 1) (by omega : (i : Int) + 1 <= (n : Int)) (o1 (by omega : (n : Int) <= (all.length : Int))))) fun _ => ?_
 refine g0 good fun _ => ?_
 refine cdF good (b := ((i : Int) == (i : Int) + 1)) (beq_eq_false_iff_ne.2 (by omega)) ?_
 refine g0 good fun _ => ?_
 refine go good (fun _ => (oc (rfl : q = _) (rfl : false = _) (by omega : n <= all.length) (nz i) (by omega : (i : Int) <= (all.length : Int)) (rfl : q = _) (o4 (rfl : false = _) (by omega : n <= all.length) (by omega : (0 : Int) <= (i : Int) + 1) (by omega : (i : Int) + 1 <= (n : Int))))) fun _ => ?_
 refine apr good eK all ((all.drop (i + 1)).take (n - (i + 1))) (spl all i ((all.drop (i + 1)).take (n - (i + 1)))) 1 q i 165 .grown false [] q (ofs all.length (i + 1) 0 * 2) (n - (i + 1)) (all.length - (i + 1)) false [0] 165 all.length rfl (by omega) (s1 (src_rest hi hn)) rfl ?_ (hn := hyl.symm)
 refine sv 26 (v := .o (.s 1 q 2 0 (i + ((all.drop (i + 1)).take (n - (i + 1))).length) all.length false)) (v' := .o (.s 1 q 2 0 (n - 1) all.length false)) (by rw [hk]) ?_
 refine g0 good fun _ => ?_
 refine go good (fun _ => (o6 (rfl : q = _) (rfl : false = _) (by omega : (n - 1) <= all.length) (nz (n - 1)) (by omega : (((n - 1) : Nat) : Int) <= (n : Int)) (by omega : (n : Int) <= (all.length : Int)))) fun _ => ?_
 refine clr good eK (spl all i ((all.drop (i + 1)).take (n - (i + 1)))) (rmL all eK.d i n) 1 q (ofs all.length (n - 1) 0) (n - (n - 1)) (all.length - (n - 1)) 165 .grown [] [0] (by rw [hsl, ofs_lt (by omega)]; omega) (by omega) (by rw [ofs_lt (by omega), show n - (n - 1) = 1 by omega]; rfl) ?_
 refine g0 good fun _ => ?_
 exact rt trivial (()) trivial [0]
end Go.Proofs.YthkoolfmealabaaGreat
namespace Go.Proofs.YthkoolfmealabaaGreat
set_option maxHeartbeats 4000000
open Go.Abs
variable {nO : Nat}
set_option maxRecDepth 8000
attribute [local irreducible] GP ruP nxP acS gst cdP loP invS ent1 ent2 enP caA resV lgP agN
theorem kinE_ctr {q : Nat} {all : List Kv} {z : Bool} {v : Kv} {qv : Nat} (hne : z = false -> 0 < all.length) (hl : all.length < 1000000) : Ctr Tryz.prog nO 119 [.o (.s 1 q 2 0 all.length all.length z), .o (.v (.int .i64 (all.length : Int))), .o (.s 2 qv 2 0 1 1 false)] [vc eK 1 q all 165 .grown z, .blk 2 qv [.v (.string v.1), .v (.int .i64 v.2)] 165 .own] ((Nat)) (fun _ => True) (fun r => .o (.s 3 r 2 0 ((all ++ [v]).length) ((all ++ [v]).length) false)) (fun r => [vc eK 3 r (all ++ [v]) 165 .grown false]) := by
 refine fs good 100 (fun B => ?_)
 refine g0 good fun _ => ?_
 refine go good (fun _ => (o5 (rfl : q = _) (rfl : z = _) (by omega : all.length <= all.length) (nz all.length) (by omega : (all.length : Int) <= (all.length : Int)))) fun _ => ?_
 refine g0 good fun _ => ?_
 refine g0 good fun _ => ?_
 refine cdF good (b := ((1 : Int) == 0)) (by decide) ?_
 refine g0 good fun _ => ?_
 refine g0 good fun _ => ?_
 refine cdT good (b := ((all.length : Int) == (all.length : Int))) (beq_self_eq_true _) ?_
 refine g0 good fun _ => ?_
 refine apd good eK all [v] (all ++ [v]) 1 q .grown z false (.blk 2 qv [.v (.string v.1), .v (.int .i64 v.2)] 165 .own) qv 0 1 1 false 100 [0, 1] 101 165 (fun h _ => hne h) (by simp only [List.length_cons, List.length_nil]; omega) (src_one rfl) (by simp) rfl (fun q108 => ?_)
 refine g0 good fun _ => ?_
 exact rt trivial (q108) trivial [0]
theorem kinR_ctr {q : Nat} {all : List Kv} {n : Nat} {v : Kv} {qv : Nat} (hn : n < all.length) (hl : all.length < 1000000) : Ctr Tryz.prog nO 119 [.o (.s 1 q 2 0 n all.length false), .o (.v (.int .i64 (n : Int))), .o (.s 2 qv 2 0 1 1 false)] [vc eK 1 q all 165 .grown false, .blk 2 qv [.v (.string v.1), .v (.int .i64 v.2)] 165 .own] (Unit) (fun _ => True) (fun r => .o (.s 1 q 2 0 (n + [v].length) all.length false)) (fun r => [vc eK 1 q (spl all n [v]) 165 .grown false]) := by
 refine fs good 100 (fun B => ?_)
 refine g0 good fun _ => ?_
 refine go good (fun _ => (o5 (rfl : q = _) (rfl : false = _) (by omega : n <= all.length) (nz n) (by omega : (n : Int) <= (n : Int)))) fun _ => ?_
 refine g0 good fun _ => ?_
 refine g0 good fun _ => ?_
 refine cdF good (b := ((1 : Int) == 0)) (by decide) ?_
 refine g0 good fun _ => ?_
 refine g0 good fun _ => ?_
 refine cdT good (b := ((n : Int) == (n : Int))) (beq_self_eq_true _) ?_
 refine g0 good fun _ => ?_
 refine apr good eK all [v] (spl all n [v]) 1 q n 165 .grown false [.blk 2 qv [.v (.string v.1), .v (.int .i64 v.2)] 165 .own] qv 0 1 1 false [0, 1] 165 all.length rfl (by simp only [List.length_cons, List.length_nil]; omega) (s2 (src_one rfl)) rfl ?_
 refine g0 good fun _ => ?_
 exact rt trivial (()) trivial [0]
end Go.Proofs.YthkoolfmealabaaGreat
