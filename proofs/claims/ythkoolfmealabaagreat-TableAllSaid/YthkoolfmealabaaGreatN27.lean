/-
  Te.
-/
import Derived.Test.YthkoolfmealabaaGreatN26
namespace Go.Proofs.YthkoolfmealabaaGreat
set_option maxHeartbeats 4000000
open Go.Abs
variable {nO : Nat}
set_option maxRecDepth 8000
attribute [local irreducible] GP ruP nxP acS gst cdP loP invS ent1 ent2 enP caA resV lgP agN
def colL (x : Nat × Co) (r : Nat × Value) : List Ch := [.blk 911 x.1 [.v (.int .i64 x.2.kind), .s 912 r.1 3 0 x.2.l.length x.2.l.length x.2.l.isEmpty, .v r.2, .v (.int .i64 x.2.nulls)] 111 .own, vc eV 912 r.1 x.2.l 38 .grown x.2.l.isEmpty, .as (dictA r.2 x.2.ws x.2.b)]
def colA (x : Nat × Co) : As := boxA (fun _ : Nat × Value => True) (colL x)
theorem idxfc_ctr {q c : Nat} {z : Bool} {xs : List Cd} {t : TypeId} {m : Md} {y : Value} {p : Cd -> Bool} {J : As} (hz : z = true -> xs.length = 0) (hl : xs.length < 1000000) (hy : ∀ k, k < xs.length -> CtrV Tryz.prog nO y [.a [.v (.string (xs.getD k eC.d).name), .v (.int .i64 (xs.getD k eC.d).kind), .cb (xs.getD k eC.d).must, .v (.string (xs.getD k eC.d).to)]] [.as J] Unit (fun _ => True) (fun _ => .o (.cb (p (xs.getD k eC.d)))) (fun _ => [.as J])) : Ctr Tryz.prog nO 73 [.o (.s 1 q 4 0 xs.length c z), .o (.v y)] [vc eC 1 q xs t m z, .as J] (Unit) (fun _ => True) (fun r => .o (.v (.int .i64 (idxF xs p)))) (fun r => [vc eC 1 q xs t m z, .as J]) := by
 refine fs good 100 (fun B => ?_)
 refine g0 good fun _ => ?_
 refine g0 good fun _ => ?_
 refine lp good ((Nat)) [0, 1, 7] (fun r => [(8, .o (.v (.int .i64 (r : Int))))]) [0, 1] (fun _ => []) 120 (fun r => r <= xs.length /\ ∀ j, j < r -> p (xs.getD j eC.d) = false) (fun r => xs.length - r) (0) ⟨Nat.zero_le _, fun j hj => absurd hj (Nat.not_lt_zero j)⟩ [] (fun i hx ag103 => ?_)
 obtain ⟨hi, hn⟩ := hx
 refine g0 good fun _ => ?_
 refine cdD good ((i : Int) < (xs.length : Int)) (fun h1 => ?_) (fun h1 => ?_)
 ·refine g0 good fun _ => ?_
  refine go good (fun _ => (o5 (nz i) (by omega : (i : Int) < (xs.length : Int)) (zf hz (show 0 < xs.length by omega) : z = false) (rfl : q = _) (by omega : i < xs.length))) fun _ => ?_
  refine clv good (hy i (by omega)) [1] [] 120 fun _ _ => ?_
  refine cd good (p (xs.getD i eC.d)) (fun h2 => ?_) (fun h2 => ?_)
  ·refine g0 good fun _ => ?_
   exact rtv trivial (()) trivial [1, 0] (.o (.v (.int .i64 (i : Int)))) (congrArg (Value.int .i64) (idxF_some (d := eC.d) (by omega) h2 hn).symm)
  ·refine go good (fun _ => (o2 (by omega : -9223372036854775808 <= (i : Int) + 1) (by omega : (i : Int) + 1 < 9223372036854775808))) fun _ => ?_
   exact ag103 _ _ (i + 1) (by first | omega | (simp only; omega)) ⟨by omega, fun j hj => by rcases Nat.lt_succ_iff_lt_or_eq.1 hj with h | h; exact hn j h; subst h; exact h2⟩ [1, 0] (by kernel_rfl) (by kernel_rfl)
 ·refine g0 good fun _ => ?_
  exact rtv trivial (()) trivial [0, 1] (.o (.v (.int .i64 (-1)))) (congrArg (Value.int .i64) (idxF_none (d := eC.d) (fun j hj => hn j (by omega))).symm)
theorem tcol1_ctr {a : Cd} {q : Nat} {s : ByteArray} {tb : TypeId}  : Ctr Tryz.prog nO 74 [.a [.v (.string a.name), .v (.int .i64 a.kind), .cb a.must, .v (.string a.to)], .o (.p 1 q 0 0 0)] [.blk 1 q [.v (.string s)] tb .own] (Unit) (fun _ => True) (fun r => .o (.cb (strEq a.name s))) (fun r => [.blk 1 q [.v (.string s)] tb .own]) := by
 refine fs good 100 (fun B => ?_)
 refine go good (fun q101 => (o1 (rfl : [C1.v (.string a.name), .v (.int .i64 a.kind), .cb a.must, .v (.string a.to)].all C1.one = true))) (fun q101 => ?_)
 refine go good (fun _ => (o2 (rfl : (q101 100) = (q101 100)) (rfl : q = _))) fun _ => ?_
 exact rt trivial (()) trivial [1]
theorem tmay_ctr {q : Nat} {na ka : ByteArray} {qa ca : Nat} {za : Bool} {xa : List Cd} {ta : TypeId} {ma : Md} {qA cA : Nat} {zA : Bool} {da : List De} {qp : Nat} {zp : Bool} {xs : List (Nat × Co)} {ql cL : Nat} {lv : List Sp} {n i : Nat} {v : Va} (hza : za = true -> xa.length = 0) (hla : xa.length < 1000000) (hi : i < xa.length) (hs : v.s.size < 1000000000) : Ctr Tryz.prog nO 35 [.o (.p 1 q 0 0 0), .o (.v (.int .i64 (i : Int))), .a [.v (.int .i64 v.k), .v (.int .i64 v.n), .v (.string v.s)]] [.blk 1 q [.v (.string na), .s 2 qa 4 0 xa.length ca za, .v (.string ka), .s 3 qA 2 0 da.length cA zA, .s 4 qp 1 0 xs.length xs.length zp, .s 5 ql 2 0 lv.length cL lv.isEmpty, .v (.int .i64 (n : Int))] 78 .own, vc eC 2 qa xa ta ma za] (Unit) (fun _ => True) (fun r => .o (.cb (colOk xa i v))) (fun r => [.blk 1 q [.v (.string na), .s 2 qa 4 0 xa.length ca za, .v (.string ka), .s 3 qA 2 0 da.length cA zA, .s 4 qp 1 0 xs.length xs.length zp, .s 5 ql 2 0 lv.length cL lv.isEmpty, .v (.int .i64 (n : Int))] 78 .own, vc eC 2 qa xa ta ma za]) := by
 refine fs good 100 (fun B => ?_)
 refine go good (fun q101 => (o1 (rfl : [C1.v (.int .i64 v.k), .v (.int .i64 v.n), .v (.string v.s)].all C1.one = true))) (fun q101 => ?_)
 refine go good (fun _ => (o6 (rfl : (q101 100) = (q101 100)) (fun (he : (!(v.k == 0)) = true) => have he : ¬ (v.k = 0) := (by simpa using he); (o1 (rfl : (q101 100) = (q101 100)))) (fun (he : (!(v.k == 0)) = true) => have he : ¬ (v.k = 0) := (by simpa using he); (o1 (rfl : q = _))) (fun (he : (!(v.k == 0)) = true) => have he : ¬ (v.k = 0) := (by simpa using he); (o3 (nz i) (by omega : (i : Int) < (xa.length : Int)) (zf hza (show 0 < xa.length by omega) : za = false))) (fun (he : (!(v.k == 0)) = true) => have he : ¬ (v.k = 0) := (by simpa using he); (o2 (rfl : qa = _) (by omega : i < xa.length))) (fun (he : (or (v.k == 0) (v.k == (xa.getD i eC.d).kind)) = true) => have he : (v.k = 0) ∨ (v.k = (xa.getD i eC.d).kind) := (by simpa using he); (o1 (rfl : (q101 100) = (q101 100)))))) fun _ => ?_
 refine clm good (may_ctr (v := v) (by assumption)) [] trivial ?_
 refine g0 good fun _ => ?_
 exact rt trivial (()) trivial [1, 2]
theorem tcol_ctr {q : Nat} {na ka : ByteArray} {qa ca : Nat} {za : Bool} {xa : List Cd} {ta : TypeId} {ma : Md} {qA cA : Nat} {zA : Bool} {da : List De} {qp : Nat} {zp : Bool} {xs : List (Nat × Co)} {ql cL : Nat} {lv : List Sp} {n : Nat} {s : ByteArray} (hza : za = true -> xa.length = 0) (hla : xa.length < 1000000) : Ctr Tryz.prog nO 46 [.o (.p 1 q 0 0 0), .o (.v (.string s))] [.blk 1 q [.v (.string na), .s 2 qa 4 0 xa.length ca za, .v (.string ka), .s 3 qA 2 0 da.length cA zA, .s 4 qp 1 0 xs.length xs.length zp, .s 5 ql 2 0 lv.length cL lv.isEmpty, .v (.int .i64 (n : Int))] 78 .own, vc eC 2 qa xa ta ma za] (Unit) (fun _ => True) (fun r => .o (.v (.int .i64 (idxF xa (fun c => strEq c.name s))))) (fun r => [.blk 1 q [.v (.string na), .s 2 qa 4 0 xa.length ca za, .v (.string ka), .s 3 qA 2 0 da.length cA zA, .s 4 qp 1 0 xs.length xs.length zp, .s 5 ql 2 0 lv.length cL lv.isEmpty, .v (.int .i64 (n : Int))] 78 .own, vc eC 2 qa xa ta ma za]) := by
 refine fs good 100 (fun B => ?_)
 refine go good (fun q101 => (o1 (rfl : [C1.v (.string s)].all C1.one = true))) (fun q101 => ?_)
 refine g0 good fun _ => ?_
 refine cdF good rfl ?_
 refine go good (fun _ => (o1 (rfl : q = _))) fun _ => ?_
 refine cl good (idxfc_ctr (q := qa) (c := ca) (z := za) (xs := xa) (t := ta) (m := ma) (y := .func (.func 74) #[] #[.pointer (some ⟨(q101 100), 0, none⟩)]) (p := fun c => strEq c.name s) (J := (Ch.den (.blk 100 (q101 100) [.v (.string s)] 9 .own))) hza hla (fun k _ => ctrV_as (ctrV [.pointer (some ⟨(q101 100), 0, none⟩)] (tcol1_ctr (a := xa.getD k eC.d) (q := (q101 100)) (s := s) (tb := 9))))) [2, 0] [] 101 fun _ _ => ?_
 refine g0 good fun _ => ?_
 exact rt trivial (()) trivial [2, 0]
theorem tlive_ctr {q : Nat} {na ka : ByteArray} {qa ca : Nat} {za : Bool} {xa : List Cd} {qA cA : Nat} {zA : Bool} {da : List De} {qp : Nat} {zp : Bool} {xs : List (Nat × Co)} {ql cL : Nat} {lv : List Sp} {n : Nat}  : Ctr Tryz.prog nO 21 [.o (.p 1 q 0 0 0)] [.blk 1 q [.v (.string na), .s 2 qa 4 0 xa.length ca za, .v (.string ka), .s 3 qA 2 0 da.length cA zA, .s 4 qp 1 0 xs.length xs.length zp, .s 5 ql 2 0 lv.length cL lv.isEmpty, .v (.int .i64 (n : Int))] 78 .own] (Unit) (fun _ => True) (fun r => .a [.s 5 ql 2 0 lv.length cL lv.isEmpty]) (fun r => [.blk 1 q [.v (.string na), .s 2 qa 4 0 xa.length ca za, .v (.string ka), .s 3 qA 2 0 da.length cA zA, .s 4 qp 1 0 xs.length xs.length zp, .s 5 ql 2 0 lv.length cL lv.isEmpty, .v (.int .i64 (n : Int))] 78 .own]) := by
 refine fs good 100 (fun B => ?_)
 refine g0 good (fun q101 => ?_)
 refine g0 good fun _ => ?_
 refine cdF good rfl ?_
 refine go good (fun _ => (o3 (rfl : q = _) (rfl : (q101 100) = (q101 100)) (rfl : [C1.s 5 ql 2 0 lv.length cL lv.isEmpty].all C1.one = true))) fun _ => ?_
 exact rt (o1 (rfl : (q101 100) = (q101 100))) (()) trivial [1]
theorem tnext_ctr {q : Nat} {na ka : ByteArray} {qa ca : Nat} {za : Bool} {xa : List Cd} {qA cA : Nat} {zA : Bool} {da : List De} {qp : Nat} {zp : Bool} {xs : List (Nat × Co)} {ql cL : Nat} {lv : List Sp} {n : Nat}  : Ctr Tryz.prog nO 23 [.o (.p 1 q 0 0 0)] [.blk 1 q [.v (.string na), .s 2 qa 4 0 xa.length ca za, .v (.string ka), .s 3 qA 2 0 da.length cA zA, .s 4 qp 1 0 xs.length xs.length zp, .s 5 ql 2 0 lv.length cL lv.isEmpty, .v (.int .i64 (n : Int))] 78 .own] (Unit) (fun _ => True) (fun r => .o (.v (.int .i64 (n : Int)))) (fun r => [.blk 1 q [.v (.string na), .s 2 qa 4 0 xa.length ca za, .v (.string ka), .s 3 qA 2 0 da.length cA zA, .s 4 qp 1 0 xs.length xs.length zp, .s 5 ql 2 0 lv.length cL lv.isEmpty, .v (.int .i64 (n : Int))] 78 .own]) := by
 refine fs good 100 (fun B => ?_)
 refine g0 good fun _ => ?_
 refine g0 good fun _ => ?_
 refine cdF good rfl ?_
 refine go good (fun _ => (o1 (rfl : q = _))) fun _ => ?_
 exact rt trivial (()) trivial [0]
end Go.Proofs.YthkoolfmealabaaGreat
namespace Go.Proofs.YthkoolfmealabaaGreat
set_option maxHeartbeats 4000000
open Go.Abs
variable {nO : Nat}
set_option maxRecDepth 8000
attribute [local irreducible] GP ruP nxP acS gst cdP loP invS ent1 ent2 enP caA resV lgP agN
theorem of1_ctr {q : Nat} {x : Int} {t : TypeId}  : Ctr Tryz.prog nO 38 [.o (.s 1 q 1 0 1 1 false)] [.blk 1 q [.v (.int .i64 x)] t .own] ((Nat)) (fun _ => True) (fun r => .a [.s 3 r 2 0 ((ofL (sortI [x])).length) ((ofL (sortI [x])).length) ((ofL (sortI [x])).isEmpty)]) (fun r => [vc eP 3 r (ofL (sortI [x])) 114 .grown ((ofL (sortI [x])).isEmpty), vc eI 1 q [x] t .own false]) :=
 ctr_gh (blk_vec (g := 1) (q := q) (cs := [.v (.int .i64 x)]) (t := t) (m := .own) eI [x]) (fun _ _ => of_ctr (l := [x]) (fun h => nomatch h) (show 1 < 90000 by decide))
theorem tins_ctr {q : Nat} {na ka : ByteArray} {qa ca : Nat} {za : Bool} {xa : List Cd} {ta : TypeId} {ma : Md} {qA cA : Nat} {zA : Bool} {da : List De} {qp : Nat} {zp : Bool} {xs : List (Nat × Co)} {ql cL : Nat} {lv : List Sp} {n : Nat} {mp mL : Md} {qv cv : Nat} {zv : Bool} {vs : List Va} {tv : TypeId} {mv : Md} (hza : za = true -> xa.length = 0) (hla : xa.length < 1000000) (hzv : zv = true -> vs.length = 0) (hlv : vs.length < 1000000) (hzp : zp = true -> xs.length = 0) (hn : n < 65536) (hvx : vs.length = xs.length) (hax : xa.length = xs.length) (hok : ∀ i, i < vs.length -> colOk xa i (vs.getD i eV.d) = true) (hsz : ∀ i, i < vs.length -> (vs.getD i eV.d).s.size < 1000000000) (hf : ∀ i, i < xs.length -> (xs.getD i dX).2.Fit) (hk : ∀ i, i < xs.length -> (xs.getD i dX).2.kind = (xa.getD i eC.d).kind) (hw : WF (-1) lv) : Ctr Tryz.prog nO 12 [.o (.p 1 q 0 0 0), .o (.s 6 qv 3 0 vs.length cv zv)] [.blk 1 q [.v (.string na), .s 2 qa 4 0 xa.length ca za, .v (.string ka), .s 3 qA 2 0 da.length cA zA, .s 4 qp 1 0 xs.length xs.length zp, .s 5 ql 2 0 lv.length cL lv.isEmpty, .v (.int .i64 (n : Int))] 78 .own, vc eC 2 qa xa ta ma za, vc eV 6 qv vs tv mv zv, vc eX 4 qp xs 79 mp zp, .as (bigA colA xs), vc eP 5 ql lv 114 mL lv.isEmpty] ((Nat) × (List Sp)) (fun r => IsOr lv (ofL (sortI [(n : Int)])) r.2) (fun r => .t [(false, [.v (.int .i64 (n : Int))]), (false, [.v (.int .i64 0)])]) (fun r => [.blk 1 q [.v (.string na), .s 2 qa 4 0 xa.length ca za, .v (.string ka), .s 3 qA 2 0 da.length cA zA, .s 4 qp 1 0 ((turnX xs (insF xs vs) xs.length).length) ((turnX xs (insF xs vs) xs.length).length) zp, .s 7 r.1 2 0 r.2.length r.2.length r.2.isEmpty, .v (.int .i64 ((n + 1) : Int))] 78 .own, vc eC 2 qa xa ta ma za, vc eV 6 qv vs tv mv zv, vc eX 4 qp (turnX xs (insF xs vs) xs.length) 79 mp zp, .as (bigA colA (turnX xs (insF xs vs) xs.length)), vc eP 7 r.1 r.2 114 .grown r.2.isEmpty]) := by
 refine fs good 100 (fun B => ?_)
 refine g0 good fun _ => ?_
 refine g0 good fun _ => ?_
 refine cdF good rfl ?_
 refine go good (fun _ => (o1 (rfl : q = _))) fun _ => ?_
 refine cdF good (b := decide ((n : Int) ≥ 65536)) (decide_eq_false (by omega)) ?_
 refine go good (fun _ => (o1 (rfl : q = _))) fun _ => ?_
 refine cdF good (b := ((vs.length : Int) != (xs.length : Int))) (by rw [hvx]; simp) ?_
 refine g0 good fun _ => ?_
 refine lp good ((Nat)) [0, 1, 28, 29] (fun r => [(30, .o (.v (.int .i64 (r : Int))))]) [0, 1, 2, 3, 4, 5] (fun _ => []) 120 (fun r => r <= vs.length) (fun r => vs.length - r) (0) (Nat.zero_le _) [] (fun i hx ag106 => ?_)
 refine g0 good fun _ => ?_
 refine cdD good ((i : Int) < (vs.length : Int)) (fun h4 => ?_) (fun h4 => ?_)
 ·have hsi := hsz i (by omega)
  refine go good (fun q108 => (oc (nz i) (by omega : (i : Int) < (vs.length : Int)) (zf hzv (show 0 < vs.length by omega) : zv = false) (rfl : qv = _) (by omega : i < vs.length) (rfl : (q108 120) = (q108 120)) (o1 (rfl : [C1.v (.int .i64 ((vs.getD i eV.d).k)), .v (.int .i64 ((vs.getD i eV.d).n)), .v (.string ((vs.getD i eV.d).s))].all C1.one = true)))) (fun q108 => ?_)
  refine go good (fun _ => (o1 (rfl : (q108 120) = (q108 120)))) fun _ => ?_
  refine cl good (tmay_ctr (q := q) (na := na) (ka := ka) (qa := qa) (ca := ca) (za := za) (xa := xa) (ta := ta) (ma := ma) (qA := qA) (cA := cA) (zA := zA) (da := da) (qp := qp) (zp := zp) (xs := xs) (ql := ql) (cL := cL) (lv := lv) (n := n) (i := i) (v := (vs.getD i eV.d)) (by assumption) (by omega) (by omega) hsi) [1, 2] [] 121 fun _ _ => ?_
  refine g0 good fun _ => ?_
  refine cdF good (b := !(colOk xa i (vs.getD i eV.d))) (by rw [hok i (by omega)]; rfl) ?_
  refine go good (fun _ => (o2 (by omega : -9223372036854775808 <= (i : Int) + 1) (by omega : (i : Int) + 1 < 9223372036854775808))) fun _ => ?_
  exact ag106 _ _ (i + 1) (by first | omega | (simp only; omega)) (by omega) [0, 1, 3, 4, 5, 6] (by kernel_rfl) (by kernel_rfl)
 ·refine g0 good fun _ => ?_
  refine gh (ge_re (l := [.as (bigA colA xs)]) (l' := [.as (bigA colA (turnX xs (insF xs vs) 0))]) (by rfl)) [4] [] 120 fun _ _ => ?_
  refine lp good ((Nat)) [0, 41, 42] (fun r => [(43, .o (.v (.int .i64 (r : Int))))]) [1, 2, 3, 4, 5] (fun r => [.as (bigA colA (turnX xs (insF xs vs) r))]) 140 (fun r => r <= vs.length) (fun r => vs.length - r) (0) (Nat.zero_le _) [0] (fun i hx ag114 => ?_)
  refine g0 good fun _ => ?_
  refine cdD good ((i : Int) < (vs.length : Int)) (fun h6 => ?_) (fun h6 => ?_)
  ·have hsi := hsz i (by omega)
   obtain ⟨f1, f2, f3, f4⟩ := hf i (by omega)
   have htl := turnX_len (xs := xs) (f := insF xs vs) i
   refine go good (fun q116 => (oc (nz i) (by omega : (i : Int) < (vs.length : Int)) (zf hzv (show 0 < vs.length by omega) : zv = false) (rfl : qv = _) (by omega : i < vs.length) (rfl : (q116 140) = (q116 140)) (o1 (rfl : [C1.v (.int .i64 ((vs.getD i eV.d).k)), .v (.int .i64 ((vs.getD i eV.d).n)), .v (.string ((vs.getD i eV.d).s))].all C1.one = true)))) (fun q116 => ?_)
   refine go good (fun _ => (oc (rfl : q = _) (nz i) (by omega : (i : Int) < (xs.length : Int)) (zf hzp (show 0 < xs.length by omega) : zp = false) (rfl : qp = _) (by omega : i < xs.length) (o1 (rfl : (q116 140) = (q116 140))))) fun _ => ?_
   refine gh (big_out (I := colA) (l := (turnX xs (insF xs vs) i)) i dX (by omega)) [1] [] 141 fun _ _ => ?_
   refine gh (ge_re (l := [.as (colA ((turnX xs (insF xs vs) i).getD i dX))]) (l' := [.as (colA (xs.getD i dX))]) (by rw [turnX_at (by omega)])) [0] [] 141 fun _ _ => ?_
   refine gh (box_open (φ := fun _ => True) (L := colL (xs.getD i dX))) [0] [] 141 (fun ⟨ql118, xv118⟩ _ => ?_)
   refine cl good (capp_ctr (q := (xs.getD i dX).1) (ql := ql118) (kind := (xs.getD i dX).2.kind) (l := ((xs.getD i dX).2.l)) (x := xv118) (nulls := (xs.getD i dX).2.nulls) (ws := ((xs.getD i dX).2.ws)) (b := ((xs.getD i dX).2.b)) (v := (vs.getD i eV.d)) (by rw [cmay, hk i (by omega)]; exact hok i (by omega)) (by assumption) (by omega) (by omega) (by omega)) [0, 1, 2] [(1, 911), (2, 912)] 141 (fun ⟨ql2119, x2119⟩ _ => ?_)
   refine gh (box_shut (φ := fun _ => True) (L := colL ((xs.getD i dX).1, ((insF xs vs) i))) (ql2119, x2119) trivial) [0, 1, 2] [] 141 fun _ _ => ?_
   refine gh (big_in (I := colA) (l := (turnX xs (insF xs vs) i)) i dX ((xs.getD i dX).1, ((insF xs vs) i)) (by omega)) [0, 1] [] 141 fun _ _ => ?_
   refine go good (fun _ => (o2 (by omega : -9223372036854775808 <= (i : Int) + 1) (by omega : (i : Int) + 1 < 9223372036854775808))) fun _ => ?_
   exact ag114 _ _ (i + 1) (by first | omega | (simp only; omega)) (by omega) [0, 2, 3, 4, 5, 6] (by kernel_rfl) (by kernel_rfl)
  ·have hie : i = xs.length := by omega
   refine gh (ge_re (l := [.as (bigA colA (turnX xs (insF xs vs) i))]) (l' := [.as (bigA colA (turnX xs (insF xs vs) xs.length))]) (by rw [hie])) [0] [] 140 fun _ _ => ?_
   refine go good (fun q121 => (o3 (rfl : q = _) (rfl : q = _) (rfl : [C1.v (.int .i64 (n : Int))].all C1.one = true))) (fun q121 => ?_)
   refine cl good (of1_ctr (q := (q121 140)) (x := (n : Int)) (t := 3)) [0] [(1, 140), (3, 141)] 142 (fun q3122 _ => ?_)
   refine cl good (or_ctr (qa := ql) (ca := cL) (a := lv) (ta := 114) (ma := mL) (qb := q3122) (cb := (ofL (sortI [(n : Int)])).length) (b := (ofL (sortI [(n : Int)]))) (tb := 114) (mb := .grown) (by assumption) (wf_of _)) [7, 0] [(1, 5), (2, 141), (3, 142)] 143 (fun ⟨q9, l9⟩ hor => ?_)
   refine go good (fun _ => (o2 (rfl : q = _) (rfl : [C1.s 142 q9 2 0 l9.length l9.length l9.isEmpty].all C1.one = true))) fun _ => ?_
   refine go good (fun _ => (o5 (rfl : q = _) (by omega : -9223372036854775808 <= (n : Int) + 1) (by omega : (n : Int) + 1 < 9223372036854775808) (rfl : q = _) (rfl : [C1.v (.int .i64 ((n : Int) + 1))].all C1.one = true))) fun _ => ?_
   refine go good (fun _ => (o3 (rfl : q = _) (by omega : -9223372036854775808 <= ((n : Int) + 1) - 1) (by omega : ((n : Int) + 1) - 1 < 9223372036854775808))) fun _ => ?_
   refine gh (ge_re (l := [vc eX 4 qp xs 79 mp zp]) (l' := [vc eX 4 qp (turnX xs (insF xs vs) xs.length) 79 mp zp]) (eX_re (turnX_fst xs.length).symm)) [8] [] 143 fun _ _ => ?_
   refine gh (ge_re (l := [.blk 1 q [.v (.string na), .s 2 qa 4 0 xa.length ca za, .v (.string ka), .s 3 qA 2 0 da.length cA zA, .s 4 qp 1 0 xs.length xs.length zp, .s 142 q9 2 0 l9.length l9.length l9.isEmpty, .v (.int .i64 ((n : Int) + 1))] 78 .own]) (l' := [.blk 1 q [.v (.string na), .s 2 qa 4 0 xa.length ca za, .v (.string ka), .s 3 qA 2 0 da.length cA zA, .s 4 qp 1 0 ((turnX xs (insF xs vs) xs.length).length) ((turnX xs (insF xs vs) xs.length).length) zp, .s 142 q9 2 0 l9.length l9.length l9.isEmpty, .v (.int .i64 ((n : Int) + 1))] 78 .own]) (by rw [turnX_len])) [6] [] 143 fun _ _ => ?_
   exact rtv trivial (⟨q9, l9⟩) hor [0, 7, 8, 1, 6, 2] (.t [(false, [.v (.int .i64 (((n : Int) + 1) - 1))]), (false, [.v (.int .i64 0)])]) (congrArg (fun k => SV.den (.t [(false, [.v (.int .i64 k)]), (false, [.v (.int .i64 0)])])) (by omega : (n : Int) + 1 - 1 = n))
end Go.Proofs.YthkoolfmealabaaGreat
namespace Go.Proofs.YthkoolfmealabaaGreat
set_option maxHeartbeats 4000000
open Go.Abs
variable {nO : Nat}
set_option maxRecDepth 8000
attribute [local irreducible] GP ruP nxP acS gst cdP loP invS ent1 ent2 enP caA resV lgP agN
theorem tinst_ctr {q : Nat} {na ka : ByteArray} {qa ca : Nat} {za : Bool} {xa : List Cd} {ta : TypeId} {ma : Md} {qA cA : Nat} {zA : Bool} {da : List De} {qp : Nat} {zp : Bool} {xs : List (Nat × Co)} {ql cL : Nat} {lv : List Sp} {n qv cv : Nat} {zv : Bool} {vs : List Va} {tv : TypeId} {mv : Md} {k : Nat} (hza : za = true -> xa.length = 0) (hla : xa.length < 1000000) (hzv : zv = true -> vs.length = 0) (hlv : vs.length < 1000000) (hn : n < 65536) (hvx : vs.length = xs.length) (hax : xa.length = xs.length) (hk1 : k < vs.length) (hk2 : colOk xa k (vs.getD k eV.d) = false) (hk3 : ∀ i, i < k -> colOk xa i (vs.getD i eV.d) = true) (hsz : ∀ i, i < vs.length -> (vs.getD i eV.d).s.size < 1000000000) : Ctr Tryz.prog nO 12 [.o (.p 1 q 0 0 0), .o (.s 6 qv 3 0 vs.length cv zv)] [.blk 1 q [.v (.string na), .s 2 qa 4 0 xa.length ca za, .v (.string ka), .s 3 qA 2 0 da.length cA zA, .s 4 qp 1 0 xs.length xs.length zp, .s 5 ql 2 0 lv.length cL lv.isEmpty, .v (.int .i64 (n : Int))] 78 .own, vc eC 2 qa xa ta ma za, vc eV 6 qv vs tv mv zv] (Unit) (fun _ => True) (fun r => .t [(false, [.v (.int .i64 0)]), (false, [.v (.int .i64 4)])]) (fun r => [.blk 1 q [.v (.string na), .s 2 qa 4 0 xa.length ca za, .v (.string ka), .s 3 qA 2 0 da.length cA zA, .s 4 qp 1 0 xs.length xs.length zp, .s 5 ql 2 0 lv.length cL lv.isEmpty, .v (.int .i64 (n : Int))] 78 .own, vc eC 2 qa xa ta ma za, vc eV 6 qv vs tv mv zv]) := by
 refine fs good 100 (fun B => ?_)
 refine g0 good fun _ => ?_
 refine g0 good fun _ => ?_
 refine cdF good rfl ?_
 refine go good (fun _ => (o1 (rfl : q = _))) fun _ => ?_
 refine cdF good (b := decide ((n : Int) ≥ 65536)) (decide_eq_false (by omega)) ?_
 refine go good (fun _ => (o1 (rfl : q = _))) fun _ => ?_
 refine cdF good (b := ((vs.length : Int) != (xs.length : Int))) (by rw [hvx]; simp) ?_
 refine g0 good fun _ => ?_
 refine lp good ((Nat)) [0, 1, 28, 29] (fun r => [(30, .o (.v (.int .i64 (r : Int))))]) [0, 1, 2] (fun _ => []) 120 (fun r => r <= k) (fun r => vs.length - r) (0) (Nat.zero_le _) [] (fun i hx ag106 => ?_)
 refine g0 good fun _ => ?_
 refine cdD good ((i : Int) < (vs.length : Int)) (fun h4 => ?_) (fun h4 => ?_)
 ·have hsi := hsz i (by omega)
  refine go good (fun q108 => (oc (nz i) (by omega : (i : Int) < (vs.length : Int)) (zf hzv (show 0 < vs.length by omega) : zv = false) (rfl : qv = _) (by omega : i < vs.length) (rfl : (q108 120) = (q108 120)) (o1 (rfl : [C1.v (.int .i64 ((vs.getD i eV.d).k)), .v (.int .i64 ((vs.getD i eV.d).n)), .v (.string ((vs.getD i eV.d).s))].all C1.one = true)))) (fun q108 => ?_)
  refine go good (fun _ => (o1 (rfl : (q108 120) = (q108 120)))) fun _ => ?_
  refine cl good (tmay_ctr (q := q) (na := na) (ka := ka) (qa := qa) (ca := ca) (za := za) (xa := xa) (ta := ta) (ma := ma) (qA := qA) (cA := cA) (zA := zA) (da := da) (qp := qp) (zp := zp) (xs := xs) (ql := ql) (cL := cL) (lv := lv) (n := n) (i := i) (v := (vs.getD i eV.d)) (by assumption) (by omega) (by omega) hsi) [1, 2] [] 121 fun _ _ => ?_
  refine g0 good fun _ => ?_
  refine cd good (!(colOk xa i (vs.getD i eV.d))) (fun h5 => ?_) (fun h5 => ?_)
  ·refine g0 good fun _ => ?_
   exact rt trivial (()) trivial [0, 1, 3]
  ·have hlt : i < k := by rcases Nat.lt_or_ge i k with h | h; exact h; obtain rfl : i = k := (by omega); rw [hk2] at h5; cases h5
   refine go good (fun _ => (o2 (by omega : -9223372036854775808 <= (i : Int) + 1) (by omega : (i : Int) + 1 < 9223372036854775808))) fun _ => ?_
   exact ag106 _ _ (i + 1) (by first | omega | (simp only; omega)) hlt [0, 1, 3] (by kernel_rfl) (by kernel_rfl)
 ·omega
theorem trow_ctr {q : Nat} {na ka : ByteArray} {qa ca : Nat} {za : Bool} {xa : List Cd} {qA cA : Nat} {zA : Bool} {da : List De} {qp : Nat} {zp : Bool} {xs : List (Nat × Co)} {ql cL : Nat} {lv : List Sp} {n : Nat} {mp mL : Md} {id : Nat} (hzp : zp = true -> xs.length = 0) (hxl : xs.length < 1000000) (hll : lv.length < 1000000) (hhas : has lv (id : Int) = true) (hid : ∀ i, i < xs.length -> id < (xs.getD i dX).2.l.length) (hf : ∀ i, i < xs.length -> (xs.getD i dX).2.Fit) : Ctr Tryz.prog nO 14 [.o (.p 1 q 0 0 0), .o (.v (.int .i64 (id : Int)))] [.blk 1 q [.v (.string na), .s 2 qa 4 0 xa.length ca za, .v (.string ka), .s 3 qA 2 0 da.length cA zA, .s 4 qp 1 0 xs.length xs.length zp, .s 5 ql 2 0 lv.length cL lv.isEmpty, .v (.int .i64 (n : Int))] 78 .own, vc eX 4 qp xs 79 mp zp, .as (bigA colA xs), vc eP 5 ql lv 114 mL lv.isEmpty] ((Nat)) (fun _ => True) (fun r => .t [(false, [.s 6 r 3 0 ((rowX xs id xs.length).length) ((rowX xs id xs.length).length) ((rowX xs id xs.length).isEmpty)]), (false, [.v (.bool true)])]) (fun r => [.blk 1 q [.v (.string na), .s 2 qa 4 0 xa.length ca za, .v (.string ka), .s 3 qA 2 0 da.length cA zA, .s 4 qp 1 0 xs.length xs.length zp, .s 5 ql 2 0 lv.length cL lv.isEmpty, .v (.int .i64 (n : Int))] 78 .own, vc eX 4 qp xs 79 mp zp, .as (bigA colA xs), vc eP 5 ql lv 114 mL lv.isEmpty, vc eV 6 r (rowX xs id xs.length) 38 .grown ((rowX xs id xs.length).isEmpty)]) := by
 refine fs good 100 (fun B => ?_)
 refine g0 good fun _ => ?_
 refine go good (fun _ => (o1 (rfl : q = _))) fun _ => ?_
 refine cl good (has_ctr (qa := ql) (ca := cL) (a := lv) (ta := 114) (ma := mL) (i := (id : Int)) (by omega)) [3] [(1, 5)] 100 fun _ _ => ?_
 refine g0 good fun _ => ?_
 refine cdF good (b := !(has lv (id : Int))) (by rw [hhas]; rfl) ?_
 refine g0 good fun _ => ?_
 refine go good (fun _ => (o1 (rfl : q = _))) fun _ => ?_
 refine gh (nil_vec 100 3 eV.f eV.d 38 .grown) [] [] 101 fun _ _ => ?_
 refine sv 6 (v := .o (.v (.slice none 0 0))) (v' := .o (.s 100 0 3 0 ((rowX xs id 0).length) ((rowX xs id 0).length) ((rowX xs id 0).isEmpty))) rfl ?_
 refine lp good ((Nat) × (Nat)) [1, 25, 26] (fun r => [(27, .o (.v (.int .i64 (r.1 : Int)))), (6, .o (.s 100 r.2 3 0 ((rowX xs id r.1).length) ((rowX xs id r.1).length) ((rowX xs id r.1).isEmpty)))]) [1, 2, 3, 4] (fun r => [vc eV 100 r.2 (rowX xs id r.1) 38 .grown ((rowX xs id r.1).isEmpty)]) 121 (fun r => r.1 <= xs.length) (fun r => xs.length - r.1) (⟨0, 0⟩) (Nat.zero_le _) [0] (fun ⟨i, pq⟩ hx ag107 => ?_)
 try dsimp only at hx
 have hi := hx
 refine g0 good fun _ => ?_
 refine cdD good ((i : Int) < (xs.length : Int)) (fun h2 => ?_) (fun h2 => ?_)
 ·obtain ⟨f1, f2, f3, f4⟩ := hf i (by omega)
  have hdi := hid i (by omega)
  have hrl := rowX_len (xs := xs) (id := id) hi
  refine go good (fun _ => (o5 (nz i) (by omega : (i : Int) < (xs.length : Int)) (zf hzp (show 0 < xs.length by omega) : zp = false) (rfl : qp = _) (by omega : i < xs.length))) fun _ => ?_
  refine g0 good fun _ => ?_
  refine gh (big_out (I := colA) (l := xs) i dX (by omega)) [4] [] 121 fun _ _ => ?_
  refine gh (box_open (φ := fun _ => True) (L := colL (xs.getD i dX))) [0] [] 121 (fun ⟨ql111, xv111⟩ _ => ?_)
  refine cl good (cat_ctr (q := (xs.getD i dX).1) (ql := ql111) (kind := (xs.getD i dX).2.kind) (l := ((xs.getD i dX).2.l)) (x := xv111) (nulls := (xs.getD i dX).2.nulls) (i := id) (by omega) (by omega)) [0, 1] [(1, 911), (2, 912)] 121 fun _ _ => ?_
  refine gh (box_shut (φ := fun _ => True) (L := colL (xs.getD i dX)) (ql111, xv111) trivial) [0, 1, 2] [] 121 fun _ _ => ?_
  refine gh (big_bk (I := colA) (l := xs) i dX (by omega)) [0, 1] [] 121 fun _ _ => ?_
  refine go good (fun q113 => (o2 (rfl : (q113 121) = (q113 121)) (rfl : [C1.v (.int .i64 ((((xs.getD i dX).2.l).getD id eV.d).k)), .v (.int .i64 ((((xs.getD i dX).2.l).getD id eV.d).n)), .v (.string ((((xs.getD i dX).2.l).getD id eV.d).s))].all C1.one = true))) (fun q113 => ?_)
  refine go good (fun q114 => (o2 (rfl : (q113 121) = (q113 121)) (rfl : [C1.v (.int .i64 ((((xs.getD i dX).2.l).getD id eV.d).k)), .v (.int .i64 ((((xs.getD i dX).2.l).getD id eV.d).n)), .v (.string ((((xs.getD i dX).2.l).getD id eV.d).s))].all C1.one = true))) (fun q114 => ?_)
  refine apd good eV (rowX xs id i) [((xs.getD i dX).2.l.getD id eV.d)] (rowX xs id (i + 1)) 100 pq .grown ((rowX xs id i).isEmpty) ((rowX xs id (i + 1)).isEmpty) (.blk 122 (q114 122) [.v (.int .i64 ((((xs.getD i dX).2.l).getD id eV.d).k)), .v (.int .i64 ((((xs.getD i dX).2.l).getD id eV.d).n)), .v (.string ((((xs.getD i dX).2.l).getD id eV.d).s))] 38 .own) (q114 122) 0 1 1 false 123 [3, 0] 124 38 (fun h _ => ne_of h) (by simp only [List.length_cons, List.length_nil]; omega) (src_one rfl) (rowX_emp (by omega)) (rowX_at (by omega)) (fun q115 => ?_)
  refine g0 good fun _ => ?_
  refine go good (fun _ => (o2 (by omega : -9223372036854775808 <= (i : Int) + 1) (by omega : (i : Int) + 1 < 9223372036854775808))) fun _ => ?_
  exact ag107 _ _ (⟨i + 1, q115⟩) (by first | omega | (simp only; omega)) (by dsimp only; exact (by omega)) [0, 4, 5, 6, 3] (by kernel_rfl) (by kernel_rfl)
 ·have hie : i = xs.length := by omega
  refine g0 good fun _ => ?_
  refine gh (ge_re (l := [vc eV 100 pq (rowX xs id i) 38 .grown ((rowX xs id i).isEmpty)]) (l' := [vc eV 100 pq (rowX xs id xs.length) 38 .grown ((rowX xs id xs.length).isEmpty)]) (by rw [hie])) [0] [] 121 fun _ _ => ?_
  exact rtv trivial (pq) trivial [2, 3, 4, 1, 0] (.t [(false, [.s 100 pq 3 0 ((rowX xs id i).length) ((rowX xs id i).length) ((rowX xs id i).isEmpty)]), (false, [.v (.bool true)])]) (by rw [hie]; rfl)
end Go.Proofs.YthkoolfmealabaaGreat
namespace Go.Proofs.YthkoolfmealabaaGreat
set_option maxHeartbeats 4000000
open Go.Abs
variable {nO : Nat}
set_option maxRecDepth 100000
attribute [local irreducible] GP ruP nxP acS gst cdP loP invS ent1 ent2 enP caA resV lgP agN
theorem cmay_null (k : Int) : cmay k (⟨0, 0, ⟨#[]⟩⟩ : Va) = true := by
 have h : strE ⟨#[]⟩ = true := by simp [strE, strEq]
 simp [cmay, vOk, h]
theorem null_sz : (⟨0, 0, ⟨#[]⟩⟩ : Va).s.size < 1000000000 := by show (0 : Nat) < _; decide
theorem tdelN_ctr {q : Nat} {na ka : ByteArray} {qa ca : Nat} {za : Bool} {xa : List Cd} {qA cA : Nat} {zA : Bool} {da : List De} {qp : Nat} {zp : Bool} {xs : List (Nat × Co)} {ql cL : Nat} {lv : List Sp} {n : Nat} {mL : Md} {id : Int} (hll : lv.length < 1000000) (hno : has lv id = false) : Ctr Tryz.prog nO 19 [.o (.p 1 q 0 0 0), .o (.v (.int .i64 id))] [.blk 1 q [.v (.string na), .s 2 qa 4 0 xa.length ca za, .v (.string ka), .s 3 qA 2 0 da.length cA zA, .s 4 qp 1 0 xs.length xs.length zp, .s 5 ql 2 0 lv.length cL lv.isEmpty, .v (.int .i64 (n : Int))] 78 .own, vc eP 5 ql lv 114 mL lv.isEmpty] (Unit) (fun _ => True) (fun r => .o (.v (.bool false))) (fun r => [.blk 1 q [.v (.string na), .s 2 qa 4 0 xa.length ca za, .v (.string ka), .s 3 qA 2 0 da.length cA zA, .s 4 qp 1 0 xs.length xs.length zp, .s 5 ql 2 0 lv.length cL lv.isEmpty, .v (.int .i64 (n : Int))] 78 .own, vc eP 5 ql lv 114 mL lv.isEmpty]) := by
 refine fs good 100 (fun B => ?_)
 refine g0 good fun _ => ?_
 refine go good (fun _ => (o1 (rfl : q = _))) fun _ => ?_
 refine cl good (has_ctr (qa := ql) (ca := cL) (a := lv) (ta := 114) (ma := mL) (i := id) (by omega)) [1] [(1, 5)] 100 fun _ _ => ?_
 refine g0 good fun _ => ?_
 refine cdT good (b := !(has lv id)) (by rw [hno]; rfl) ?_
 refine g0 good fun _ => ?_
 exact rt trivial (()) trivial [1, 0]
theorem tdel_ctr {q : Nat} {na ka : ByteArray} {qa ca : Nat} {za : Bool} {xa : List Cd} {qA cA : Nat} {zA : Bool} {da : List De} {qp : Nat} {zp : Bool} {xs : List (Nat × Co)} {ql cL : Nat} {lv : List Sp} {n : Nat} {mp mL : Md} {id : Nat} (hzp : zp = true -> xs.length = 0) (hll : lv.length < 1000000) (hxl : xs.length < 1000000) (hhas : has lv (id : Int) = true) (hid : ∀ i, i < xs.length -> id < (xs.getD i dX).2.l.length) (hf : ∀ i, i < xs.length -> (xs.getD i dX).2.Fit) (hw : WF (-1) lv) : Ctr Tryz.prog nO 19 [.o (.p 1 q 0 0 0), .o (.v (.int .i64 (id : Int)))] [.blk 1 q [.v (.string na), .s 2 qa 4 0 xa.length ca za, .v (.string ka), .s 3 qA 2 0 da.length cA zA, .s 4 qp 1 0 xs.length xs.length zp, .s 5 ql 2 0 lv.length cL lv.isEmpty, .v (.int .i64 (n : Int))] 78 .own, vc eX 4 qp xs 79 mp zp, .as (bigA colA xs), vc eP 5 ql lv 114 mL lv.isEmpty] ((Nat) × (List Sp)) (fun r => IsOut lv (ofL (sortI [(id : Int)])) r.2) (fun r => .o (.v (.bool true))) (fun r => [.blk 1 q [.v (.string na), .s 2 qa 4 0 xa.length ca za, .v (.string ka), .s 3 qA 2 0 da.length cA zA, .s 4 qp 1 0 ((turnX xs (putF xs id (⟨0, 0, ⟨#[]⟩⟩ : Va)) xs.length).length) ((turnX xs (putF xs id (⟨0, 0, ⟨#[]⟩⟩ : Va)) xs.length).length) zp, .s 7 r.1 2 0 r.2.length r.2.length r.2.isEmpty, .v (.int .i64 (n : Int))] 78 .own, vc eX 4 qp (turnX xs (putF xs id (⟨0, 0, ⟨#[]⟩⟩ : Va)) xs.length) 79 mp zp, .as (bigA colA (turnX xs (putF xs id (⟨0, 0, ⟨#[]⟩⟩ : Va)) xs.length)), vc eP 7 r.1 r.2 114 .grown r.2.isEmpty]) := by
 refine fs good 100 (fun B => ?_)
 refine g0 good fun _ => ?_
 refine go good (fun _ => (o1 (rfl : q = _))) fun _ => ?_
 refine cl good (has_ctr (qa := ql) (ca := cL) (a := lv) (ta := 114) (ma := mL) (i := (id : Int)) (by omega)) [3] [(1, 5)] 100 fun _ _ => ?_
 refine g0 good fun _ => ?_
 refine cdF good (b := !(has lv (id : Int))) (by rw [hhas]; rfl) ?_
 refine go good (fun q105 => (o2 (rfl : q = _) (rfl : [C1.v (.int .i64 (id : Int))].all C1.one = true))) (fun q105 => ?_)
 refine cl good (of1_ctr (q := (q105 100)) (x := (id : Int)) (t := 3)) [0] [(1, 100), (3, 101)] 102 (fun q3106 _ => ?_)
 refine cl good (out_ctr (qa := ql) (ca := cL) (a := lv) (ta := 114) (ma := mL) (qb := q3106) (cb := (ofL (sortI [(id : Int)])).length) (b := (ofL (sortI [(id : Int)]))) (tb := 114) (mb := .grown) hw (wf_of _)) [2, 0] [(1, 5), (2, 101), (3, 102)] 103 (fun ⟨q9, l9⟩ hor => ?_)
 refine go good (fun _ => (o2 (rfl : q = _) (rfl : [C1.s 102 q9 2 0 l9.length l9.length l9.isEmpty].all C1.one = true))) fun _ => ?_
 refine go good (fun _ => (o1 (rfl : q = _))) fun _ => ?_
 refine gh (ge_re (l := [.as (bigA colA xs)]) (l' := [.as (bigA colA (turnX xs (putF xs id (⟨0, 0, ⟨#[]⟩⟩ : Va)) 0))]) (by rfl)) [6] [] 103 fun _ _ => ?_
 refine lp good ((Nat)) [1, 32, 33] (fun r => [(34, .o (.v (.int .i64 (r : Int))))]) [1, 2, 3, 4, 5, 6] (fun r => [.as (bigA colA (turnX xs (putF xs id (⟨0, 0, ⟨#[]⟩⟩ : Va)) r))]) 123 (fun r => r <= xs.length) (fun r => xs.length - r) (0) (Nat.zero_le _) [0] (fun i hx ag111 => ?_)
 refine g0 good fun _ => ?_
 refine cdD good ((i : Int) < (xs.length : Int)) (fun h2 => ?_) (fun h2 => ?_)
 ·obtain ⟨f1, f2, f3, f4⟩ := hf i (by omega)
  have hdi := hid i (by omega)
  have htl := turnX_len (xs := xs) (f := putF xs id (⟨0, 0, ⟨#[]⟩⟩ : Va)) i
  refine go good (fun _ => (o5 (nz i) (by omega : (i : Int) < (xs.length : Int)) (zf hzp (show 0 < xs.length by omega) : zp = false) (rfl : qp = _) (by omega : i < xs.length))) fun _ => ?_
  refine g0 good fun _ => ?_
  refine gh (big_out (I := colA) (l := (turnX xs (putF xs id (⟨0, 0, ⟨#[]⟩⟩ : Va)) i)) i dX (by omega)) [0] [] 123 fun _ _ => ?_
  refine gh (ge_re (l := [.as (colA ((turnX xs (putF xs id (⟨0, 0, ⟨#[]⟩⟩ : Va)) i).getD i dX))]) (l' := [.as (colA (xs.getD i dX))]) (by rw [turnX_at (by omega)])) [0] [] 123 fun _ _ => ?_
  refine gh (box_open (φ := fun _ => True) (L := colL (xs.getD i dX))) [0] [] 123 (fun ⟨ql115, xv115⟩ _ => ?_)
  refine cl good (cset_ctr (q := (xs.getD i dX).1) (ql := ql115) (kind := (xs.getD i dX).2.kind) (l := ((xs.getD i dX).2.l)) (x := xv115) (nulls := (xs.getD i dX).2.nulls) (ws := ((xs.getD i dX).2.ws)) (b := ((xs.getD i dX).2.b)) (i := id) (v := (⟨0, 0, ⟨#[]⟩⟩ : Va)) (cmay_null _) hdi null_sz (by omega) (by omega) (by omega)) [0, 1, 2] [(1, 911), (2, 912)] 123 (fun x2116 _ => ?_)
  refine gh (box_shut (φ := fun _ => True) (L := colL ((xs.getD i dX).1, ((putF xs id (⟨0, 0, ⟨#[]⟩⟩ : Va)) i))) (ql115, x2116) trivial) [0, 1, 2] [] 123 fun _ _ => ?_
  refine gh (big_in (I := colA) (l := (turnX xs (putF xs id (⟨0, 0, ⟨#[]⟩⟩ : Va)) i)) i dX ((xs.getD i dX).1, ((putF xs id (⟨0, 0, ⟨#[]⟩⟩ : Va)) i)) (by omega)) [0, 1] [] 123 fun _ _ => ?_
  refine go good (fun _ => (o2 (by omega : -9223372036854775808 <= (i : Int) + 1) (by omega : (i : Int) + 1 < 9223372036854775808))) fun _ => ?_
  exact ag111 _ _ (i + 1) (by first | omega | (simp only; omega)) (by omega) [0, 1, 2, 3, 4, 5, 6] (by kernel_rfl) (by kernel_rfl)
 ·have hie : i = xs.length := by omega
  refine gh (ge_re (l := [.as (bigA colA (turnX xs (putF xs id (⟨0, 0, ⟨#[]⟩⟩ : Va)) i))]) (l' := [.as (bigA colA (turnX xs (putF xs id (⟨0, 0, ⟨#[]⟩⟩ : Va)) xs.length))]) (by rw [hie])) [0] [] 123 fun _ _ => ?_
  refine gh (ge_re (l := [vc eX 4 qp xs 79 mp zp]) (l' := [vc eX 4 qp (turnX xs (putF xs id (⟨0, 0, ⟨#[]⟩⟩ : Va)) xs.length) 79 mp zp]) (eX_re (turnX_fst xs.length).symm)) [6] [] 123 fun _ _ => ?_
  refine gh (ge_re (l := [.blk 1 q [.v (.string na), .s 2 qa 4 0 xa.length ca za, .v (.string ka), .s 3 qA 2 0 da.length cA zA, .s 4 qp 1 0 xs.length xs.length zp, .s 102 q9 2 0 l9.length l9.length l9.isEmpty, .v (.int .i64 (n : Int))] 78 .own]) (l' := [.blk 1 q [.v (.string na), .s 2 qa 4 0 xa.length ca za, .v (.string ka), .s 3 qA 2 0 da.length cA zA, .s 4 qp 1 0 ((turnX xs (putF xs id (⟨0, 0, ⟨#[]⟩⟩ : Va)) xs.length).length) ((turnX xs (putF xs id (⟨0, 0, ⟨#[]⟩⟩ : Va)) xs.length).length) zp, .s 102 q9 2 0 l9.length l9.length l9.isEmpty, .v (.int .i64 (n : Int))] 78 .own]) (by rw [turnX_len])) [6] [] 123 fun _ _ => ?_
  refine g0 good fun _ => ?_
  exact rt trivial (⟨q9, l9⟩) hor [0, 1, 2, 3]
theorem twords_ctr {q : Nat} {na ka : ByteArray} {qa ca : Nat} {za : Bool} {xa : List Cd} {ta : TypeId} {ma : Md} {qA cA : Nat} {zA : Bool} {da : List De} {qp : Nat} {zp : Bool} {xs : List (Nat × Co)} {ql cL : Nat} {lv : List Sp} {n : Nat} {mp : Md} {s : ByteArray} {j : Nat} (hza : za = true -> xa.length = 0) (hla : xa.length < 1000000) (hzp : zp = true -> xs.length = 0) (hj : idxF xa (fun c => strEq c.name s) = (j : Int)) (hjx : j < xs.length) (hxl : xs.length < 1000000) (hf : ∀ i, i < xs.length -> (xs.getD i dX).2.Fit) : Ctr Tryz.prog nO 24 [.o (.p 1 q 0 0 0), .o (.v (.string s))] [.blk 1 q [.v (.string na), .s 2 qa 4 0 xa.length ca za, .v (.string ka), .s 3 qA 2 0 da.length cA zA, .s 4 qp 1 0 xs.length xs.length zp, .s 5 ql 2 0 lv.length cL lv.isEmpty, .v (.int .i64 (n : Int))] 78 .own, vc eC 2 qa xa ta ma za, vc eX 4 qp xs 79 mp zp, .as (bigA colA xs)] (Unit) (fun _ => True) (fun r => .o (.v (.int .i64 (((xs.getD j dX).2.ws.length : Nat) : Int)))) (fun r => [.blk 1 q [.v (.string na), .s 2 qa 4 0 xa.length ca za, .v (.string ka), .s 3 qA 2 0 da.length cA zA, .s 4 qp 1 0 xs.length xs.length zp, .s 5 ql 2 0 lv.length cL lv.isEmpty, .v (.int .i64 (n : Int))] 78 .own, vc eC 2 qa xa ta ma za, vc eX 4 qp xs 79 mp zp, .as (bigA colA xs)]) := by
 refine fs good 100 (fun B => ?_)
 obtain ⟨f1, f2, f3, f4⟩ := hf j (by omega)
 refine g0 good fun _ => ?_
 refine g0 good fun _ => ?_
 refine cl good (tcol_ctr (q := q) (na := na) (ka := ka) (qa := qa) (ca := ca) (za := za) (xa := xa) (ta := ta) (ma := ma) (qA := qA) (cA := cA) (zA := zA) (da := da) (qp := qp) (zp := zp) (xs := xs) (ql := ql) (cL := cL) (lv := lv) (n := n) (s := s) (by assumption) (by omega)) [0, 1] [] 100 fun _ _ => ?_
 refine g0 good fun _ => ?_
 refine sv 5 (v := .o (.v (.int .i64 (idxF xa (fun c => strEq c.name s))))) (v' := .o (.v (.int .i64 (j : Int)))) (by rw [hj]) ?_
 refine g0 good fun _ => ?_
 refine cdF good (b := decide ((j : Int) < 0)) (decide_eq_false (by omega)) ?_
 refine go good (fun _ => (o6 (rfl : q = _) (nz j) (by omega : (j : Int) < (xs.length : Int)) (zf hzp (show 0 < xs.length by omega) : zp = false) (rfl : qp = _) (by omega : j < xs.length))) fun _ => ?_
 refine gh (big_out (I := colA) (l := xs) j dX (by omega)) [3] [] 100 fun _ _ => ?_
 refine gh (box_open (φ := fun _ => True) (L := colL (xs.getD j dX))) [0] [] 100 (fun ⟨ql107, xv107⟩ _ => ?_)
 refine cl good (cwords_ctr (q := (xs.getD j dX).1) (ql := ql107) (kind := (xs.getD j dX).2.kind) (l := ((xs.getD j dX).2.l)) (x := xv107) (nulls := (xs.getD j dX).2.nulls) (ws := ((xs.getD j dX).2.ws)) (b := ((xs.getD j dX).2.b)) (by omega)) [0, 2] [(1, 911), (2, 912)] 100 (fun x2108 _ => ?_)
 refine gh (box_shut (φ := fun _ => True) (L := colL (xs.getD j dX)) (ql107, x2108) trivial) [0, 2, 1] [] 100 fun _ _ => ?_
 refine gh (big_bk (I := colA) (l := xs) j dX (by omega)) [0, 1] [] 100 fun _ _ => ?_
 refine g0 good fun _ => ?_
 exact rt trivial (()) trivial [1, 2, 3, 0]
end Go.Proofs.YthkoolfmealabaaGreat
namespace Go.Proofs.YthkoolfmealabaaGreat
set_option maxHeartbeats 4000000
open Go.Abs
variable {nO : Nat}
set_option maxRecDepth 100000
attribute [local irreducible] GP ruP nxP acS gst cdP loP invS ent1 ent2 enP caA resV lgP agN
theorem tsetN_ctr {q : Nat} {na ka : ByteArray} {qa ca : Nat} {za : Bool} {xa : List Cd} {ta : TypeId} {ma : Md} {qA cA : Nat} {zA : Bool} {da : List De} {qp : Nat} {zp : Bool} {xs : List (Nat × Co)} {ql cL : Nat} {lv : List Sp} {n : Nat} {mL : Md} {id : Int} {s : ByteArray} {v : Va} (hza : za = true -> xa.length = 0) (hla : xa.length < 1000000) (hll : lv.length < 1000000) (hno : has lv id = false) : Ctr Tryz.prog nO 20 [.o (.p 1 q 0 0 0), .o (.v (.int .i64 id)), .o (.v (.string s)), .a [.v (.int .i64 v.k), .v (.int .i64 v.n), .v (.string v.s)]] [.blk 1 q [.v (.string na), .s 2 qa 4 0 xa.length ca za, .v (.string ka), .s 3 qA 2 0 da.length cA zA, .s 4 qp 1 0 xs.length xs.length zp, .s 5 ql 2 0 lv.length cL lv.isEmpty, .v (.int .i64 (n : Int))] 78 .own, vc eC 2 qa xa ta ma za, vc eP 5 ql lv 114 mL lv.isEmpty] (Unit) (fun _ => True) (fun r => .o (.v (.int .i64 6))) (fun r => [.blk 1 q [.v (.string na), .s 2 qa 4 0 xa.length ca za, .v (.string ka), .s 3 qA 2 0 da.length cA zA, .s 4 qp 1 0 xs.length xs.length zp, .s 5 ql 2 0 lv.length cL lv.isEmpty, .v (.int .i64 (n : Int))] 78 .own, vc eC 2 qa xa ta ma za, vc eP 5 ql lv 114 mL lv.isEmpty]) := by
 refine fs good 100 (fun B => ?_)
 refine go good (fun q101 => (o1 (rfl : [C1.v (.int .i64 v.k), .v (.int .i64 v.n), .v (.string v.s)].all C1.one = true))) (fun q101 => ?_)
 refine g0 good fun _ => ?_
 refine cl good (tcol_ctr (q := q) (na := na) (ka := ka) (qa := qa) (ca := ca) (za := za) (xa := xa) (ta := ta) (ma := ma) (qA := qA) (cA := cA) (zA := zA) (da := da) (qp := qp) (zp := zp) (xs := xs) (ql := ql) (cL := cL) (lv := lv) (n := n) (s := s) (by assumption) (by omega)) [1, 2] [] 101 fun _ _ => ?_
 refine g0 good fun _ => ?_
 refine go good (fun _ => (o1 (rfl : q = _))) fun _ => ?_
 refine cl good (has_ctr (qa := ql) (ca := cL) (a := lv) (ta := 114) (ma := mL) (i := id) (by omega)) [3] [(1, 5)] 101 fun _ _ => ?_
 refine g0 good fun _ => ?_
 refine cdT good (b := !(has lv id)) (by rw [hno]; rfl) ?_
 refine g0 good fun _ => ?_
 exact rt trivial (()) trivial [1, 2, 0]
theorem tsetC_ctr {q : Nat} {na ka : ByteArray} {qa ca : Nat} {za : Bool} {xa : List Cd} {ta : TypeId} {ma : Md} {qA cA : Nat} {zA : Bool} {da : List De} {qp : Nat} {zp : Bool} {xs : List (Nat × Co)} {ql cL : Nat} {lv : List Sp} {n : Nat} {mL : Md} {id : Int} {s : ByteArray} {v : Va} (hza : za = true -> xa.length = 0) (hla : xa.length < 1000000) (hll : lv.length < 1000000) (hhas : has lv id = true) (hcn : idxF xa (fun c => strEq c.name s) = -1) : Ctr Tryz.prog nO 20 [.o (.p 1 q 0 0 0), .o (.v (.int .i64 id)), .o (.v (.string s)), .a [.v (.int .i64 v.k), .v (.int .i64 v.n), .v (.string v.s)]] [.blk 1 q [.v (.string na), .s 2 qa 4 0 xa.length ca za, .v (.string ka), .s 3 qA 2 0 da.length cA zA, .s 4 qp 1 0 xs.length xs.length zp, .s 5 ql 2 0 lv.length cL lv.isEmpty, .v (.int .i64 (n : Int))] 78 .own, vc eC 2 qa xa ta ma za, vc eP 5 ql lv 114 mL lv.isEmpty] (Unit) (fun _ => True) (fun r => .o (.v (.int .i64 3))) (fun r => [.blk 1 q [.v (.string na), .s 2 qa 4 0 xa.length ca za, .v (.string ka), .s 3 qA 2 0 da.length cA zA, .s 4 qp 1 0 xs.length xs.length zp, .s 5 ql 2 0 lv.length cL lv.isEmpty, .v (.int .i64 (n : Int))] 78 .own, vc eC 2 qa xa ta ma za, vc eP 5 ql lv 114 mL lv.isEmpty]) := by
 refine fs good 100 (fun B => ?_)
 refine go good (fun q101 => (o1 (rfl : [C1.v (.int .i64 v.k), .v (.int .i64 v.n), .v (.string v.s)].all C1.one = true))) (fun q101 => ?_)
 refine g0 good fun _ => ?_
 refine cl good (tcol_ctr (q := q) (na := na) (ka := ka) (qa := qa) (ca := ca) (za := za) (xa := xa) (ta := ta) (ma := ma) (qA := qA) (cA := cA) (zA := zA) (da := da) (qp := qp) (zp := zp) (xs := xs) (ql := ql) (cL := cL) (lv := lv) (n := n) (s := s) (by assumption) (by omega)) [1, 2] [] 101 fun _ _ => ?_
 refine g0 good fun _ => ?_
 refine go good (fun _ => (o1 (rfl : q = _))) fun _ => ?_
 refine cl good (has_ctr (qa := ql) (ca := cL) (a := lv) (ta := 114) (ma := mL) (i := id) (by omega)) [3] [(1, 5)] 101 fun _ _ => ?_
 refine g0 good fun _ => ?_
 refine cdF good (b := !(has lv id)) (by rw [hhas]; rfl) ?_
 refine g0 good fun _ => ?_
 refine cdT good (b := decide (idxF xa (fun c => strEq c.name s) < 0)) (decide_eq_true (by rw [hcn]; decide)) ?_
 refine g0 good fun _ => ?_
 exact rt trivial (()) trivial [1, 2, 0]
theorem tsetT_ctr {q : Nat} {na ka : ByteArray} {qa ca : Nat} {za : Bool} {xa : List Cd} {ta : TypeId} {ma : Md} {qA cA : Nat} {zA : Bool} {da : List De} {qp : Nat} {zp : Bool} {xs : List (Nat × Co)} {ql cL : Nat} {lv : List Sp} {n : Nat} {mL : Md} {id : Int} {s : ByteArray} {v : Va} {j : Nat} (hza : za = true -> xa.length = 0) (hla : xa.length < 1000000) (hll : lv.length < 1000000) (hhas : has lv id = true) (hj : idxF xa (fun c => strEq c.name s) = (j : Int)) (hjx : j < xa.length) (hs : v.s.size < 1000000000) (hok : colOk xa j v = false) : Ctr Tryz.prog nO 20 [.o (.p 1 q 0 0 0), .o (.v (.int .i64 id)), .o (.v (.string s)), .a [.v (.int .i64 v.k), .v (.int .i64 v.n), .v (.string v.s)]] [.blk 1 q [.v (.string na), .s 2 qa 4 0 xa.length ca za, .v (.string ka), .s 3 qA 2 0 da.length cA zA, .s 4 qp 1 0 xs.length xs.length zp, .s 5 ql 2 0 lv.length cL lv.isEmpty, .v (.int .i64 (n : Int))] 78 .own, vc eC 2 qa xa ta ma za, vc eP 5 ql lv 114 mL lv.isEmpty] (Unit) (fun _ => True) (fun r => .o (.v (.int .i64 4))) (fun r => [.blk 1 q [.v (.string na), .s 2 qa 4 0 xa.length ca za, .v (.string ka), .s 3 qA 2 0 da.length cA zA, .s 4 qp 1 0 xs.length xs.length zp, .s 5 ql 2 0 lv.length cL lv.isEmpty, .v (.int .i64 (n : Int))] 78 .own, vc eC 2 qa xa ta ma za, vc eP 5 ql lv 114 mL lv.isEmpty]) := by
 refine fs good 100 (fun B => ?_)
 refine go good (fun q101 => (o1 (rfl : [C1.v (.int .i64 v.k), .v (.int .i64 v.n), .v (.string v.s)].all C1.one = true))) (fun q101 => ?_)
 refine g0 good fun _ => ?_
 refine cl good (tcol_ctr (q := q) (na := na) (ka := ka) (qa := qa) (ca := ca) (za := za) (xa := xa) (ta := ta) (ma := ma) (qA := qA) (cA := cA) (zA := zA) (da := da) (qp := qp) (zp := zp) (xs := xs) (ql := ql) (cL := cL) (lv := lv) (n := n) (s := s) (by assumption) (by omega)) [1, 2] [] 101 fun _ _ => ?_
 refine g0 good fun _ => ?_
 refine sv 9 (v := .o (.v (.int .i64 (idxF xa (fun c => strEq c.name s))))) (v' := .o (.v (.int .i64 (j : Int)))) (by rw [hj]) ?_
 refine go good (fun _ => (o1 (rfl : q = _))) fun _ => ?_
 refine cl good (has_ctr (qa := ql) (ca := cL) (a := lv) (ta := 114) (ma := mL) (i := id) (by omega)) [3] [(1, 5)] 101 fun _ _ => ?_
 refine g0 good fun _ => ?_
 refine cdF good (b := !(has lv id)) (by rw [hhas]; rfl) ?_
 refine g0 good fun _ => ?_
 refine cdF good (b := decide ((j : Int) < 0)) (decide_eq_false (by omega)) ?_
 refine go good (fun _ => (o1 (rfl : (q101 100) = (q101 100)))) fun _ => ?_
 refine cl good (tmay_ctr (q := q) (na := na) (ka := ka) (qa := qa) (ca := ca) (za := za) (xa := xa) (ta := ta) (ma := ma) (qA := qA) (cA := cA) (zA := zA) (da := da) (qp := qp) (zp := zp) (xs := xs) (ql := ql) (cL := cL) (lv := lv) (n := n) (i := j) (v := v) (by assumption) (by omega) (by omega) hs) [1, 2] [] 101 fun _ _ => ?_
 refine g0 good fun _ => ?_
 refine cdT good (b := !(colOk xa j v)) (by rw [hok]; rfl) ?_
 refine g0 good fun _ => ?_
 exact rt trivial (()) trivial [0, 1, 2]
theorem set_fst {xs : List (Nat × Co)} {j : Nat} (c : Co) (h : j < xs.length) : (xs.set j ((xs.getD j dX).1, c)).map Prod.fst = xs.map Prod.fst := by
 rw [List.map_set]
 apply List.ext_getElem
 ·simp
 ·intro m h1 h2
  rw [List.getElem_set]
  split
  ·rename_i e; subst e; rw [List.getElem_map, getD_at h]
  ·rfl
theorem tset_ctr {q : Nat} {na ka : ByteArray} {qa ca : Nat} {za : Bool} {xa : List Cd} {ta : TypeId} {ma : Md} {qA cA : Nat} {zA : Bool} {da : List De} {qp : Nat} {zp : Bool} {xs : List (Nat × Co)} {ql cL : Nat} {lv : List Sp} {n : Nat} {mL mp : Md} {id : Nat} {s : ByteArray} {v : Va} {j : Nat} (hza : za = true -> xa.length = 0) (hla : xa.length < 1000000) (hll : lv.length < 1000000) (hzp : zp = true -> xs.length = 0) (hhas : has lv (id : Int) = true) (hj : idxF xa (fun c => strEq c.name s) = (j : Int)) (hjx : j < xa.length) (hax : xa.length = xs.length) (hs : v.s.size < 1000000000) (hok : colOk xa j v = true) (hk : (xs.getD j dX).2.kind = (xa.getD j eC.d).kind) (hid : id < (xs.getD j dX).2.l.length) (hf : (xs.getD j dX).2.Fit) : Ctr Tryz.prog nO 20 [.o (.p 1 q 0 0 0), .o (.v (.int .i64 (id : Int))), .o (.v (.string s)), .a [.v (.int .i64 v.k), .v (.int .i64 v.n), .v (.string v.s)]] [.blk 1 q [.v (.string na), .s 2 qa 4 0 xa.length ca za, .v (.string ka), .s 3 qA 2 0 da.length cA zA, .s 4 qp 1 0 xs.length xs.length zp, .s 5 ql 2 0 lv.length cL lv.isEmpty, .v (.int .i64 (n : Int))] 78 .own, vc eC 2 qa xa ta ma za, vc eX 4 qp xs 79 mp zp, .as (bigA colA xs), vc eP 5 ql lv 114 mL lv.isEmpty] (Unit) (fun _ => True) (fun r => .o (.v (.int .i64 0))) (fun r => [.blk 1 q [.v (.string na), .s 2 qa 4 0 xa.length ca za, .v (.string ka), .s 3 qA 2 0 da.length cA zA, .s 4 qp 1 0 ((xs.set j ((xs.getD j dX).1, ((xs.getD j dX).2.put id v))).length) ((xs.set j ((xs.getD j dX).1, ((xs.getD j dX).2.put id v))).length) zp, .s 5 ql 2 0 lv.length cL lv.isEmpty, .v (.int .i64 (n : Int))] 78 .own, vc eC 2 qa xa ta ma za, vc eX 4 qp (xs.set j ((xs.getD j dX).1, ((xs.getD j dX).2.put id v))) 79 mp zp, .as (bigA colA (xs.set j ((xs.getD j dX).1, ((xs.getD j dX).2.put id v)))), vc eP 5 ql lv 114 mL lv.isEmpty]) := by
 refine fs good 100 (fun B => ?_)
 obtain ⟨f1, f2, f3, f4⟩ := hf
 refine go good (fun q101 => (o1 (rfl : [C1.v (.int .i64 v.k), .v (.int .i64 v.n), .v (.string v.s)].all C1.one = true))) (fun q101 => ?_)
 refine g0 good fun _ => ?_
 refine cl good (tcol_ctr (q := q) (na := na) (ka := ka) (qa := qa) (ca := ca) (za := za) (xa := xa) (ta := ta) (ma := ma) (qA := qA) (cA := cA) (zA := zA) (da := da) (qp := qp) (zp := zp) (xs := xs) (ql := ql) (cL := cL) (lv := lv) (n := n) (s := s) (by assumption) (by omega)) [1, 2] [] 101 fun _ _ => ?_
 refine g0 good fun _ => ?_
 refine sv 9 (v := .o (.v (.int .i64 (idxF xa (fun c => strEq c.name s))))) (v' := .o (.v (.int .i64 (j : Int)))) (by rw [hj]) ?_
 refine go good (fun _ => (o1 (rfl : q = _))) fun _ => ?_
 refine cl good (has_ctr (qa := ql) (ca := cL) (a := lv) (ta := 114) (ma := mL) (i := (id : Int)) (by omega)) [5] [(1, 5)] 101 fun _ _ => ?_
 refine g0 good fun _ => ?_
 refine cdF good (b := !(has lv (id : Int))) (by rw [hhas]; rfl) ?_
 refine g0 good fun _ => ?_
 refine cdF good (b := decide ((j : Int) < 0)) (decide_eq_false (by omega)) ?_
 refine go good (fun _ => (o1 (rfl : (q101 100) = (q101 100)))) fun _ => ?_
 refine cl good (tmay_ctr (q := q) (na := na) (ka := ka) (qa := qa) (ca := ca) (za := za) (xa := xa) (ta := ta) (ma := ma) (qA := qA) (cA := cA) (zA := zA) (da := da) (qp := qp) (zp := zp) (xs := xs) (ql := ql) (cL := cL) (lv := lv) (n := n) (i := j) (v := v) (by assumption) (by omega) (by omega) hs) [1, 2] [] 101 fun _ _ => ?_
 refine g0 good fun _ => ?_
 refine cdF good (b := !(colOk xa j v)) (by rw [hok]; rfl) ?_
 refine go good (fun _ => (oc (rfl : q = _) (nz j) (by omega : (j : Int) < (xs.length : Int)) (zf hzp (show 0 < xs.length by omega) : zp = false) (rfl : qp = _) (by omega : j < xs.length) (o1 (rfl : (q101 100) = (q101 100))))) fun _ => ?_
 refine gh (big_out (I := colA) (l := xs) j dX (by omega)) [5] [] 101 fun _ _ => ?_
 refine gh (box_open (φ := fun _ => True) (L := colL (xs.getD j dX))) [0] [] 101 (fun ⟨ql113, xv113⟩ _ => ?_)
 refine cl good (cset_ctr (q := (xs.getD j dX).1) (ql := ql113) (kind := (xs.getD j dX).2.kind) (l := ((xs.getD j dX).2.l)) (x := xv113) (nulls := (xs.getD j dX).2.nulls) (ws := ((xs.getD j dX).2.ws)) (b := ((xs.getD j dX).2.b)) (i := id) (v := v) (by rw [cmay, hk]; exact hok) (by omega) hs (by omega) (by omega) (by omega)) [0, 1, 2] [(1, 911), (2, 912)] 101 (fun x2114 _ => ?_)
 refine gh (box_shut (φ := fun _ => True) (L := colL ((xs.getD j dX).1, ((xs.getD j dX).2.put id v))) (ql113, x2114) trivial) [0, 1, 2] [] 101 fun _ _ => ?_
 refine gh (big_in (I := colA) (l := xs) j dX ((xs.getD j dX).1, ((xs.getD j dX).2.put id v)) (by omega)) [0, 1] [] 101 fun _ _ => ?_
 refine g0 good fun _ => ?_
 refine gh (ge_re (l := [vc eX 4 qp xs 79 mp zp]) (l' := [vc eX 4 qp (xs.set j ((xs.getD j dX).1, ((xs.getD j dX).2.put id v))) 79 mp zp]) (eX_re (set_fst _ (by omega)).symm)) [5] [] 101 fun _ _ => ?_
 refine gh (ge_re (l := [.blk 1 q [.v (.string na), .s 2 qa 4 0 xa.length ca za, .v (.string ka), .s 3 qA 2 0 da.length cA zA, .s 4 qp 1 0 xs.length xs.length zp, .s 5 ql 2 0 lv.length cL lv.isEmpty, .v (.int .i64 (n : Int))] 78 .own]) (l' := [.blk 1 q [.v (.string na), .s 2 qa 4 0 xa.length ca za, .v (.string ka), .s 3 qA 2 0 da.length cA zA, .s 4 qp 1 0 ((xs.set j ((xs.getD j dX).1, ((xs.getD j dX).2.put id v))).length) ((xs.set j ((xs.getD j dX).1, ((xs.getD j dX).2.put id v))).length) zp, .s 5 ql 2 0 lv.length cL lv.isEmpty, .v (.int .i64 (n : Int))] 78 .own]) (by rw [List.length_set])) [2] [] 101 fun _ _ => ?_
 exact rt trivial (()) trivial [0, 3, 1, 2, 4]
theorem tgetC_ctr {q : Nat} {na ka : ByteArray} {qa ca : Nat} {za : Bool} {xa : List Cd} {ta : TypeId} {ma : Md} {qA cA : Nat} {zA : Bool} {da : List De} {qp : Nat} {zp : Bool} {xs : List (Nat × Co)} {ql cL : Nat} {lv : List Sp} {n : Nat} {mL : Md} {id : Int} {s : ByteArray} (hza : za = true -> xa.length = 0) (hla : xa.length < 1000000) (hll : lv.length < 1000000) (hcn : idxF xa (fun c => strEq c.name s) = -1) : Ctr Tryz.prog nO 18 [.o (.p 1 q 0 0 0), .o (.v (.int .i64 id)), .o (.v (.string s))] [.blk 1 q [.v (.string na), .s 2 qa 4 0 xa.length ca za, .v (.string ka), .s 3 qA 2 0 da.length cA zA, .s 4 qp 1 0 xs.length xs.length zp, .s 5 ql 2 0 lv.length cL lv.isEmpty, .v (.int .i64 (n : Int))] 78 .own, vc eC 2 qa xa ta ma za, vc eP 5 ql lv 114 mL lv.isEmpty] (Unit) (fun _ => True) (fun r => .t [(true, [.v (.int .i64 0), .v (.int .i64 0), .v (.string ⟨#[]⟩)]), (false, [.v (.bool false)])]) (fun r => [.blk 1 q [.v (.string na), .s 2 qa 4 0 xa.length ca za, .v (.string ka), .s 3 qA 2 0 da.length cA zA, .s 4 qp 1 0 xs.length xs.length zp, .s 5 ql 2 0 lv.length cL lv.isEmpty, .v (.int .i64 (n : Int))] 78 .own, vc eC 2 qa xa ta ma za, vc eP 5 ql lv 114 mL lv.isEmpty]) := by
 refine fs good 100 (fun B => ?_)
 refine g0 good (fun q101 => ?_)
 refine g0 good fun _ => ?_
 refine cl good (tcol_ctr (q := q) (na := na) (ka := ka) (qa := qa) (ca := ca) (za := za) (xa := xa) (ta := ta) (ma := ma) (qA := qA) (cA := cA) (zA := zA) (da := da) (qp := qp) (zp := zp) (xs := xs) (ql := ql) (cL := cL) (lv := lv) (n := n) (s := s) (by assumption) (by omega)) [1, 2] [] 101 fun _ _ => ?_
 refine g0 good fun _ => ?_
 refine sv 8 (v := .o (.v (.int .i64 (idxF xa (fun c => strEq c.name s))))) (v' := .o (.v (.int .i64 (-1)))) (by rw [hcn]) ?_
 refine go good (fun _ => (o1 (fun (he : (!(decide ((-1) < 0))) = true) => have he : ¬ ((-1) < 0) := (by simp at he); (o1 (rfl : q = _))))) fun _ => ?_
 refine clm good (has_ctr (qa := ql) (ca := cL) (a := lv) (ta := 114) (ma := mL) (i := id) (by omega)) [3] trivial ?_
 refine gh (ge_re (l := [vc eP 5 ql lv 114 mL lv.isEmpty]) (l' := [vc eP 5 ql lv 114 mL lv.isEmpty]) rfl) [0] [] 101 fun _ _ => ?_
 refine g0 good fun _ => ?_
 refine cdT good (b := or (decide ((-1) < 0)) (!(has lv id))) (by rfl) ?_
 refine go good (fun _ => (o2 (rfl : (q101 100) = (q101 100)) (rfl : [C1.v (.int .i64 0), .v (.int .i64 0), .v (.string ⟨#[]⟩)].all C1.one = true))) fun _ => ?_
 exact rt (o1 (rfl : (q101 100) = (q101 100))) (()) trivial [1, 2, 0]
theorem tgetR_ctr {q : Nat} {na ka : ByteArray} {qa ca : Nat} {za : Bool} {xa : List Cd} {ta : TypeId} {ma : Md} {qA cA : Nat} {zA : Bool} {da : List De} {qp : Nat} {zp : Bool} {xs : List (Nat × Co)} {ql cL : Nat} {lv : List Sp} {n : Nat} {mL : Md} {id : Int} {s : ByteArray} {j : Nat} (hza : za = true -> xa.length = 0) (hla : xa.length < 1000000) (hll : lv.length < 1000000) (hj : idxF xa (fun c => strEq c.name s) = (j : Int)) (hno : has lv id = false) : Ctr Tryz.prog nO 18 [.o (.p 1 q 0 0 0), .o (.v (.int .i64 id)), .o (.v (.string s))] [.blk 1 q [.v (.string na), .s 2 qa 4 0 xa.length ca za, .v (.string ka), .s 3 qA 2 0 da.length cA zA, .s 4 qp 1 0 xs.length xs.length zp, .s 5 ql 2 0 lv.length cL lv.isEmpty, .v (.int .i64 (n : Int))] 78 .own, vc eC 2 qa xa ta ma za, vc eP 5 ql lv 114 mL lv.isEmpty] (Unit) (fun _ => True) (fun r => .t [(true, [.v (.int .i64 0), .v (.int .i64 0), .v (.string ⟨#[]⟩)]), (false, [.v (.bool false)])]) (fun r => [.blk 1 q [.v (.string na), .s 2 qa 4 0 xa.length ca za, .v (.string ka), .s 3 qA 2 0 da.length cA zA, .s 4 qp 1 0 xs.length xs.length zp, .s 5 ql 2 0 lv.length cL lv.isEmpty, .v (.int .i64 (n : Int))] 78 .own, vc eC 2 qa xa ta ma za, vc eP 5 ql lv 114 mL lv.isEmpty]) := by
 refine fs good 100 (fun B => ?_)
 refine g0 good (fun q101 => ?_)
 refine g0 good fun _ => ?_
 refine cl good (tcol_ctr (q := q) (na := na) (ka := ka) (qa := qa) (ca := ca) (za := za) (xa := xa) (ta := ta) (ma := ma) (qA := qA) (cA := cA) (zA := zA) (da := da) (qp := qp) (zp := zp) (xs := xs) (ql := ql) (cL := cL) (lv := lv) (n := n) (s := s) (by assumption) (by omega)) [1, 2] [] 101 fun _ _ => ?_
 refine g0 good fun _ => ?_
 refine sv 8 (v := .o (.v (.int .i64 (idxF xa (fun c => strEq c.name s))))) (v' := .o (.v (.int .i64 (j : Int)))) (by rw [hj]) ?_
 refine go good (fun _ => (o1 (fun (he : (!(decide ((j : Int) < 0))) = true) => have he : ¬ ((j : Int) < 0) := (by simp); (o1 (rfl : q = _))))) fun _ => ?_
 refine clm good (has_ctr (qa := ql) (ca := cL) (a := lv) (ta := 114) (ma := mL) (i := id) (by omega)) [3] trivial ?_
 refine gh (ge_re (l := [vc eP 5 ql lv 114 mL lv.isEmpty]) (l' := [vc eP 5 ql lv 114 mL lv.isEmpty]) rfl) [0] [] 101 fun _ _ => ?_
 refine g0 good fun _ => ?_
 refine cdT good (b := or (decide ((j : Int) < 0)) (!(has lv id))) (by rw [hno]; simp) ?_
 refine go good (fun _ => (o2 (rfl : (q101 100) = (q101 100)) (rfl : [C1.v (.int .i64 0), .v (.int .i64 0), .v (.string ⟨#[]⟩)].all C1.one = true))) fun _ => ?_
 exact rt (o1 (rfl : (q101 100) = (q101 100))) (()) trivial [1, 2, 0]
theorem tget_ctr {q : Nat} {na ka : ByteArray} {qa ca : Nat} {za : Bool} {xa : List Cd} {ta : TypeId} {ma : Md} {qA cA : Nat} {zA : Bool} {da : List De} {qp : Nat} {zp : Bool} {xs : List (Nat × Co)} {ql cL : Nat} {lv : List Sp} {n : Nat} {mL mp : Md} {id : Nat} {s : ByteArray} {j : Nat} (hza : za = true -> xa.length = 0) (hla : xa.length < 1000000) (hll : lv.length < 1000000) (hzp : zp = true -> xs.length = 0) (hhas : has lv (id : Int) = true) (hj : idxF xa (fun c => strEq c.name s) = (j : Int)) (hjx : j < xs.length) (hid : id < (xs.getD j dX).2.l.length) (hf : (xs.getD j dX).2.Fit) : Ctr Tryz.prog nO 18 [.o (.p 1 q 0 0 0), .o (.v (.int .i64 (id : Int))), .o (.v (.string s))] [.blk 1 q [.v (.string na), .s 2 qa 4 0 xa.length ca za, .v (.string ka), .s 3 qA 2 0 da.length cA zA, .s 4 qp 1 0 xs.length xs.length zp, .s 5 ql 2 0 lv.length cL lv.isEmpty, .v (.int .i64 (n : Int))] 78 .own, vc eC 2 qa xa ta ma za, vc eX 4 qp xs 79 mp zp, .as (bigA colA xs), vc eP 5 ql lv 114 mL lv.isEmpty] (Unit) (fun _ => True) (fun r => .t [(true, [.v (.int .i64 (((xs.getD j dX).2.l.getD id eV.d).k)), .v (.int .i64 (((xs.getD j dX).2.l.getD id eV.d).n)), .v (.string (((xs.getD j dX).2.l.getD id eV.d).s))]), (false, [.v (.bool true)])]) (fun r => [.blk 1 q [.v (.string na), .s 2 qa 4 0 xa.length ca za, .v (.string ka), .s 3 qA 2 0 da.length cA zA, .s 4 qp 1 0 xs.length xs.length zp, .s 5 ql 2 0 lv.length cL lv.isEmpty, .v (.int .i64 (n : Int))] 78 .own, vc eC 2 qa xa ta ma za, vc eX 4 qp xs 79 mp zp, .as (bigA colA xs), vc eP 5 ql lv 114 mL lv.isEmpty]) := by
 refine fs good 100 (fun B => ?_)
 obtain ⟨f1, f2, f3, f4⟩ := hf
 refine g0 good (fun q101 => ?_)
 refine g0 good fun _ => ?_
 refine cl good (tcol_ctr (q := q) (na := na) (ka := ka) (qa := qa) (ca := ca) (za := za) (xa := xa) (ta := ta) (ma := ma) (qA := qA) (cA := cA) (zA := zA) (da := da) (qp := qp) (zp := zp) (xs := xs) (ql := ql) (cL := cL) (lv := lv) (n := n) (s := s) (by assumption) (by omega)) [1, 2] [] 101 fun _ _ => ?_
 refine g0 good fun _ => ?_
 refine sv 8 (v := .o (.v (.int .i64 (idxF xa (fun c => strEq c.name s))))) (v' := .o (.v (.int .i64 (j : Int)))) (by rw [hj]) ?_
 refine go good (fun _ => (o1 (fun (he : (!(decide ((j : Int) < 0))) = true) => have he : ¬ ((j : Int) < 0) := (by simp); (o1 (rfl : q = _))))) fun _ => ?_
 refine clm good (has_ctr (qa := ql) (ca := cL) (a := lv) (ta := 114) (ma := mL) (i := (id : Int)) (by omega)) [5] trivial ?_
 refine gh (ge_re (l := [vc eP 5 ql lv 114 mL lv.isEmpty]) (l' := [vc eP 5 ql lv 114 mL lv.isEmpty]) rfl) [0] [] 101 fun _ _ => ?_
 refine g0 good fun _ => ?_
 refine cdF good (b := or (decide ((j : Int) < 0)) (!(has lv (id : Int)))) (by rw [hhas, decide_eq_false (show ¬ (j : Int) < 0 by omega)]; rfl) ?_
 refine go good (fun _ => (o6 (rfl : q = _) (nz j) (by omega : (j : Int) < (xs.length : Int)) (zf hzp (show 0 < xs.length by omega) : zp = false) (rfl : qp = _) (by omega : j < xs.length))) fun _ => ?_
 refine gh (big_out (I := colA) (l := xs) j dX (by omega)) [5] [] 101 fun _ _ => ?_
 refine gh (box_open (φ := fun _ => True) (L := colL (xs.getD j dX))) [0] [] 101 (fun ⟨ql108, xv108⟩ _ => ?_)
 refine cl good (cat_ctr (q := (xs.getD j dX).1) (ql := ql108) (kind := (xs.getD j dX).2.kind) (l := ((xs.getD j dX).2.l)) (x := xv108) (nulls := (xs.getD j dX).2.nulls) (i := id) (by omega) (by omega)) [0, 1] [(1, 911), (2, 912)] 101 fun _ _ => ?_
 refine gh (box_shut (φ := fun _ => True) (L := colL (xs.getD j dX)) (ql108, xv108) trivial) [0, 1, 2] [] 101 fun _ _ => ?_
 refine gh (big_bk (I := colA) (l := xs) j dX (by omega)) [0, 1] [] 101 fun _ _ => ?_
 refine go good (fun _ => (o2 (rfl : (q101 100) = (q101 100)) (rfl : [C1.v (.int .i64 ((((xs.getD j dX).2.l).getD id eV.d).k)), .v (.int .i64 ((((xs.getD j dX).2.l).getD id eV.d).n)), .v (.string ((((xs.getD j dX).2.l).getD id eV.d).s))].all C1.one = true))) fun _ => ?_
 exact rt (o1 (rfl : (q101 100) = (q101 100))) (()) trivial [2, 3, 5, 0, 1]
theorem trowN_ctr {q : Nat} {na ka : ByteArray} {qa ca : Nat} {za : Bool} {xa : List Cd} {qA cA : Nat} {zA : Bool} {da : List De} {qp : Nat} {zp : Bool} {xs : List (Nat × Co)} {ql cL : Nat} {lv : List Sp} {n : Nat} {mL : Md} {id : Int} (hll : lv.length < 1000000) (hno : has lv id = false) : Ctr Tryz.prog nO 14 [.o (.p 1 q 0 0 0), .o (.v (.int .i64 id))] [.blk 1 q [.v (.string na), .s 2 qa 4 0 xa.length ca za, .v (.string ka), .s 3 qA 2 0 da.length cA zA, .s 4 qp 1 0 xs.length xs.length zp, .s 5 ql 2 0 lv.length cL lv.isEmpty, .v (.int .i64 (n : Int))] 78 .own, vc eP 5 ql lv 114 mL lv.isEmpty] (Unit) (fun _ => True) (fun r => .t [(false, [.v (.slice none 0 0)]), (false, [.v (.bool false)])]) (fun r => [.blk 1 q [.v (.string na), .s 2 qa 4 0 xa.length ca za, .v (.string ka), .s 3 qA 2 0 da.length cA zA, .s 4 qp 1 0 xs.length xs.length zp, .s 5 ql 2 0 lv.length cL lv.isEmpty, .v (.int .i64 (n : Int))] 78 .own, vc eP 5 ql lv 114 mL lv.isEmpty]) := by
 refine fs good 100 (fun B => ?_)
 refine g0 good fun _ => ?_
 refine go good (fun _ => (o1 (rfl : q = _))) fun _ => ?_
 refine cl good (has_ctr (qa := ql) (ca := cL) (a := lv) (ta := 114) (ma := mL) (i := id) (by omega)) [1] [(1, 5)] 100 fun _ _ => ?_
 refine g0 good fun _ => ?_
 refine cdT good (b := !(has lv id)) (by rw [hno]; rfl) ?_
 refine g0 good fun _ => ?_
 exact rt trivial (()) trivial [1, 0]
theorem tinsF_ctr {q : Nat} {na ka : ByteArray} {qa ca : Nat} {za : Bool} {xa : List Cd} {qA cA : Nat} {zA : Bool} {da : List De} {qp : Nat} {zp : Bool} {xs : List (Nat × Co)} {ql cL : Nat} {lv : List Sp} {n qv cv : Nat} {zv : Bool} {vs : List Va} {tv : TypeId} {mv : Md} (hn : n < 65536) (hvx : vs.length ≠ xs.length) : Ctr Tryz.prog nO 12 [.o (.p 1 q 0 0 0), .o (.s 6 qv 3 0 vs.length cv zv)] [.blk 1 q [.v (.string na), .s 2 qa 4 0 xa.length ca za, .v (.string ka), .s 3 qA 2 0 da.length cA zA, .s 4 qp 1 0 xs.length xs.length zp, .s 5 ql 2 0 lv.length cL lv.isEmpty, .v (.int .i64 (n : Int))] 78 .own, vc eV 6 qv vs tv mv zv] (Unit) (fun _ => True) (fun r => .t [(false, [.v (.int .i64 0)]), (false, [.v (.int .i64 1)])]) (fun r => [.blk 1 q [.v (.string na), .s 2 qa 4 0 xa.length ca za, .v (.string ka), .s 3 qA 2 0 da.length cA zA, .s 4 qp 1 0 xs.length xs.length zp, .s 5 ql 2 0 lv.length cL lv.isEmpty, .v (.int .i64 (n : Int))] 78 .own, vc eV 6 qv vs tv mv zv]) := by
 refine fs good 100 (fun B => ?_)
 refine g0 good fun _ => ?_
 refine g0 good fun _ => ?_
 refine cdF good rfl ?_
 refine go good (fun _ => (o1 (rfl : q = _))) fun _ => ?_
 refine cdF good (b := decide ((n : Int) ≥ 65536)) (decide_eq_false (by omega)) ?_
 refine go good (fun _ => (o1 (rfl : q = _))) fun _ => ?_
 refine cdT good (b := ((vs.length : Int) != (xs.length : Int))) (by simp; omega) ?_
 refine g0 good fun _ => ?_
 exact rt trivial (()) trivial [0, 1]
end Go.Proofs.YthkoolfmealabaaGreat
namespace Go.Proofs.YthkoolfmealabaaGreat
set_option maxHeartbeats 4000000
open Go.Abs
variable {nO : Nat}
set_option maxRecDepth 8000
attribute [local irreducible] GP ruP nxP acS gst cdP loP invS ent1 ent2 enP caA resV lgP agN
theorem clonec_ctr {q c : Nat} {z : Bool} {xs : List Cd} {t : TypeId} {m : Md} (hz : z = true -> xs.length = 0) (hl : xs.length < 1000000) : Ctr Tryz.prog nO 41 [.o (.s 1 q 4 0 xs.length c z)] [vc eC 1 q xs t m z] ((Nat)) (fun _ => True) (fun r => .o (.s 2 r 4 0 xs.length xs.length z)) (fun r => [vc eC 2 r xs 42 (mdOf xs) z, vc eC 1 q xs t m z]) := by
 refine fs good 100 (fun B => ?_)
 refine g0 good fun _ => ?_
 refine g0 good fun _ => ?_
 refine cd good (z == true) (fun h1 => ?_) (fun h1 => ?_)
 ·have h1 : z = true := by simpa using h1
  refine g0 good fun _ => ?_
  refine gh (nil_vec 100 4 eC.f eC.d 42 (mdOf ([] : List (Cd)))) [] [] 101 fun _ _ => ?_
  refine gh (ge_re (l := [vc eC 100 0 ([] : List (Cd)) 42 (mdOf ([] : List (Cd))) true]) (l' := [vc eC 100 0 xs 42 (mdOf xs) z]) (by rw [h1, (List.length_eq_zero_iff.1 (hz h1) : xs = [])])) [0] [] 101 fun _ _ => ?_
  exact rtv trivial (0) trivial [0, 1] (.o (.v (.slice none 0 0))) (by simp [SV.den, C1.den, h1, hz h1])
 ·have h1 : ¬ (z = true) := by simpa using h1
  have h1 : z = false := by simpa using h1
  refine g0 good (fun q104 => ?_)
  refine ap0 good eC xs 100 (q104 100) (vc eC 1 q xs t m z) q 0 xs.length c z 101 [0, 1] 102 42 (by omega) src_vec (fun q105 => ?_)
  refine g0 good fun _ => ?_
  refine gh (ge_re (l := [vc eC 101 q105 xs 42 (mdOf xs) false]) (l' := [vc eC 101 q105 xs 42 (mdOf xs) z]) (by rw [h1])) [0] [] 102 fun _ _ => ?_
  exact rtv trivial (q105) trivial [0, 1] (.o (.s 101 q105 4 0 xs.length xs.length false)) (by rw [h1]; rfl)
theorem cloned_ctr {q c : Nat} {z : Bool} {xs : List De} {t : TypeId} {m : Md} (hz : z = true -> xs.length = 0) (hl : xs.length < 1000000) : Ctr Tryz.prog nO 42 [.o (.s 1 q 2 0 xs.length c z)] [vc (eD 906) 1 q xs t m z] ((Nat)) (fun _ => True) (fun r => .o (.s 2 r 2 0 xs.length xs.length z)) (fun r => [vc (eD 906) 2 r xs 91 (mdOf xs) z, vc (eD 906) 1 q xs t m z]) := by
 refine fs good 100 (fun B => ?_)
 refine g0 good fun _ => ?_
 refine g0 good fun _ => ?_
 refine cd good (z == true) (fun h1 => ?_) (fun h1 => ?_)
 ·have h1 : z = true := by simpa using h1
  refine g0 good fun _ => ?_
  refine gh (nil_vec 100 2 (eD 906).f (eD 906).d 91 (mdOf ([] : List (De)))) [] [] 101 fun _ _ => ?_
  refine gh (ge_re (l := [vc (eD 906) 100 0 ([] : List (De)) 91 (mdOf ([] : List (De))) true]) (l' := [vc (eD 906) 100 0 xs 91 (mdOf xs) z]) (by rw [h1, (List.length_eq_zero_iff.1 (hz h1) : xs = [])])) [0] [] 101 fun _ _ => ?_
  exact rtv trivial (0) trivial [0, 1] (.o (.v (.slice none 0 0))) (by simp [SV.den, C1.den, h1, hz h1])
 ·have h1 : ¬ (z = true) := by simpa using h1
  have h1 : z = false := by simpa using h1
  refine g0 good (fun q104 => ?_)
  refine ap0 good (eD 906) xs 100 (q104 100) (vc (eD 906) 1 q xs t m z) q 0 xs.length c z 101 [0, 1] 102 91 (by omega) src_vec (fun q105 => ?_)
  refine g0 good fun _ => ?_
  refine gh (ge_re (l := [vc (eD 906) 101 q105 xs 91 (mdOf xs) false]) (l' := [vc (eD 906) 101 q105 xs 91 (mdOf xs) z]) (by rw [h1])) [0] [] 102 fun _ _ => ?_
  exact rtv trivial (q105) trivial [0, 1] (.o (.s 101 q105 2 0 xs.length xs.length false)) (by rw [h1]; rfl)
theorem clones_ctr {q c : Nat} {z : Bool} {xs : List ByteArray} {t : TypeId} {m : Md} (hz : z = true -> xs.length = 0) (hl : xs.length < 1000000) : Ctr Tryz.prog nO 43 [.o (.s 1 q 1 0 xs.length c z)] [vc eS 1 q xs t m z] ((Nat)) (fun _ => True) (fun r => .o (.s 2 r 1 0 xs.length xs.length z)) (fun r => [vc eS 2 r xs 9 (mdOf xs) z, vc eS 1 q xs t m z]) := by
 refine fs good 100 (fun B => ?_)
 refine g0 good fun _ => ?_
 refine g0 good fun _ => ?_
 refine cd good (z == true) (fun h1 => ?_) (fun h1 => ?_)
 ·have h1 : z = true := by simpa using h1
  refine g0 good fun _ => ?_
  refine gh (nil_vec 100 1 eS.f eS.d 9 (mdOf ([] : List (ByteArray)))) [] [] 101 fun _ _ => ?_
  refine gh (ge_re (l := [vc eS 100 0 ([] : List (ByteArray)) 9 (mdOf ([] : List (ByteArray))) true]) (l' := [vc eS 100 0 xs 9 (mdOf xs) z]) (by rw [h1, (List.length_eq_zero_iff.1 (hz h1) : xs = [])])) [0] [] 101 fun _ _ => ?_
  exact rtv trivial (0) trivial [0, 1] (.o (.v (.slice none 0 0))) (by simp [SV.den, C1.den, h1, hz h1])
 ·have h1 : ¬ (z = true) := by simpa using h1
  have h1 : z = false := by simpa using h1
  refine g0 good (fun q104 => ?_)
  refine ap0 good eS xs 100 (q104 100) (vc eS 1 q xs t m z) q 0 xs.length c z 101 [0, 1] 102 9 (by omega) src_vec (fun q105 => ?_)
  refine g0 good fun _ => ?_
  refine gh (ge_re (l := [vc eS 101 q105 xs 9 (mdOf xs) false]) (l' := [vc eS 101 q105 xs 9 (mdOf xs) z]) (by rw [h1])) [0] [] 102 fun _ _ => ?_
  exact rtv trivial (q105) trivial [0, 1] (.o (.s 101 q105 1 0 xs.length xs.length false)) (by rw [h1]; rfl)
theorem tform_ctr {q : Nat} {na ka : ByteArray} {qa ca : Nat} {za : Bool} {xa : List Cd} {ta : TypeId} {ma : Md} {qA cA : Nat} {zA : Bool} {da : List De} {qp : Nat} {zp : Bool} {xs : List (Nat × Co)} {ql cL : Nat} {lv : List Sp} {n : Nat} {tA : TypeId} {mA : Md} (hza : za = true -> xa.length = 0) (hla : xa.length < 1000000) (hzA : zA = true -> da.length = 0) (hlA : da.length < 1000000) (hda : ∀ i, i < da.length -> (da.getD i dD).l.length < 1000000) : Ctr Tryz.prog nO 15 [.o (.p 1 q 0 0 0)] [.blk 1 q [.v (.string na), .s 2 qa 4 0 xa.length ca za, .v (.string ka), .s 3 qA 2 0 da.length cA zA, .s 4 qp 1 0 xs.length xs.length zp, .s 5 ql 2 0 lv.length cL lv.isEmpty, .v (.int .i64 (n : Int))] 78 .own, vc eC 2 qa xa ta ma za, vc (eD 906) 3 qA da tA mA zA, .as (bigA (lefA 9) da)] ((Nat) × (Nat) × (List De)) (fun r => r.2.2.map keyD = da.map keyD) (fun r => .a [.v (.string na), .s 7 r.1 4 0 xa.length xa.length za, .v (.string ka), .s 8 r.2.1 2 0 r.2.2.length r.2.2.length zA]) (fun r => [.blk 1 q [.v (.string na), .s 2 qa 4 0 xa.length ca za, .v (.string ka), .s 3 qA 2 0 da.length cA zA, .s 4 qp 1 0 xs.length xs.length zp, .s 5 ql 2 0 lv.length cL lv.isEmpty, .v (.int .i64 (n : Int))] 78 .own, vc eC 2 qa xa ta ma za, vc (eD 906) 3 qA da tA mA zA, .as (bigA (lefA 9) da), vc eC 7 r.1 xa 42 (mdOf xa) za, vc (eD 906) 8 r.2.1 r.2.2 91 (mdOf da) zA, .as (bigA (lefA 9) r.2.2)]) := by
 refine fs good 100 (fun B => ?_)
 refine g0 good (fun q101 => ?_)
 refine g0 good fun _ => ?_
 refine cdF good rfl ?_
 refine go good (fun q103 => (o3 (rfl : q = _) (rfl : (q103 101) = (q103 101)) (rfl : [C1.v (.string na), .s 2 qa 4 0 xa.length ca za, .v (.string ka), .s 3 qA 2 0 da.length cA zA].all C1.one = true))) (fun q103 => ?_)
 refine go good (fun _ => (o1 (rfl : (q103 101) = (q103 101)))) fun _ => ?_
 refine cl good (clonec_ctr (q := qa) (c := ca) (z := za) (xs := xa) (t := ta) (m := ma) (by assumption) (by omega)) [3] [(1, 2), (2, 102)] 103 (fun q2105 _ => ?_)
 refine go good (fun _ => (o2 (rfl : (q103 101) = (q103 101)) (rfl : [C1.s 102 q2105 4 0 xa.length xa.length za].all C1.one = true))) fun _ => ?_
 refine go good (fun _ => (o1 (rfl : (q103 101) = (q103 101)))) fun _ => ?_
 refine cl good (cloned_ctr (q := qA) (c := cA) (z := zA) (xs := da) (t := tA) (m := mA) (by assumption) (by omega)) [5] [(1, 3), (2, 103)] 104 (fun q2108 _ => ?_)
 refine go good (fun _ => (o2 (rfl : (q103 101) = (q103 101)) (rfl : [C1.s 103 q2108 2 0 da.length da.length zA].all C1.one = true))) fun _ => ?_
 refine go good (fun _ => (o1 (rfl : (q103 101) = (q103 101)))) fun _ => ?_
 refine gh (ge_re (l := [vc (eD 906) 103 q2108 da 91 (mdOf da) zA]) (l' := [vc (eD 906) 103 q2108 ([] ++ da.drop 0) 91 (mdOf da) zA]) rfl) [0] [] 104 fun _ _ => ?_
 refine gh (big_nil (I := (lefA 9))) [] [] 104 fun _ _ => ?_
 refine lp good ((Nat) × (List De)) [2, 3, 22] (fun r => [(23, .o (.v (.int .i64 (r.1 : Int))))]) [2, 3, 4, 5, 6, 7, 8] (fun r => [vc (eD 906) 103 q2108 (r.2 ++ da.drop r.1) 91 (mdOf da) zA, .as (bigA (lefA 9) r.2)]) 124 (fun r => r.1 <= da.length /\ r.2.length = r.1 /\ r.2.map keyD = (da.take r.1).map keyD) (fun r => da.length - r.1) (⟨0, []⟩) ⟨Nat.zero_le _, rfl, rfl⟩ [1, 0] (fun ⟨i, nw⟩ hx ag111 => ?_)
 try dsimp only at hx
 obtain ⟨hi, hni, hkn⟩ := hx
 refine g0 good fun _ => ?_
 refine cdD good ((i : Int) < (da.length : Int)) (fun h2 => ?_) (fun h2 => ?_)
 ·have hdl := hda i (by omega)
  have hcl : (nw ++ da.drop i).length = da.length := by rw [List.length_append, List.length_drop]; omega
  refine g0 good fun _ => ?_
  refine go good (fun _ => (oc (rfl : (q103 101) = (q103 101)) (rfl : (q103 101) = (q103 101)) (nz i) (by omega : (i : Int) < (da.length : Int)) (zf hzA (show 0 < da.length by omega) : zA = false) (rfl : q2108 = _) (o1 (by omega : i < (nw ++ da.drop i).length)))) fun _ => ?_
  refine gh (big_out (I := (lefA 9)) (l := da) i dD (by omega)) [8] [] 124 fun _ _ => ?_
  refine gh (ge_op (c := vc eS 906 ((da.getD i dD).q) ((da.getD i dD).l) 9 .imm false) (I := ((lefA 9) (da.getD i dD)))) [0] [] 124 fun _ _ => ?_
  refine sv 34 (v := .o (.s 906 (((nw ++ da.drop i).getD i dD).q) 1 0 (((nw ++ da.drop i).getD i dD).l.length) (((nw ++ da.drop i).getD i dD).l.length) false)) (v' := .o (.s 906 ((da.getD i dD).q) 1 0 ((da.getD i dD).l.length) ((da.getD i dD).l.length) false)) (by rw [key_cur (by omega) hni]) ?_
  refine cl good (clones_ctr (q := (da.getD i dD).q) (c := (da.getD i dD).l.length) (z := false) (xs := (da.getD i dD).l) (t := 9) (m := .imm) (fun h => nomatch h) (by omega)) [0] [(1, 906), (2, 124)] 125 (fun q2115 _ => ?_)
  refine gh (ge_sh (c := vc eS 906 ((da.getD i dD).q) ((da.getD i dD).l) 9 .imm false) (I := ((lefA 9) (da.getD i dD)))) [1] [] 125 fun _ _ => ?_
  refine gh (big_bk (I := (lefA 9)) (l := da) i dD (by omega)) [0, 2] [] 125 fun _ _ => ?_
  refine gh (vec_imm (E := eS) (g := 124) (q := q2115) (xs := ((da.getD i dD).l)) (t := 9) (m := (mdOf ((da.getD i dD).l))) (z := false)) [1] [] 125 fun _ _ => ?_
  refine gh (ge_sh (c := vc eS 124 q2115 ((da.getD i dD).l) 9 .imm false) (I := ((lefA 9) (⟨q2115, (da.getD i dD).l, (da.getD i dD).r⟩ : De)))) [0] [] 125 fun _ _ => ?_
  refine gh (big_snoc (I := (lefA 9)) (l := nw) (x := (⟨q2115, (da.getD i dD).l, (da.getD i dD).r⟩ : De))) [0, 3] [] 125 fun _ _ => ?_
  refine go good (fun _ => (o3 (nz i) (by omega : (i : Int) < (da.length : Int)) (zf hzA (show 0 < da.length by omega) : zA = false))) fun _ => ?_
  refine vst good (eD 906) (nw ++ da.drop i) ⟨q2115, (da.getD i dD).l, ((nw ++ da.drop i).getD i dD).r⟩ ((nw ++ [(⟨q2115, (da.getD i dD).l, (da.getD i dD).r⟩ : De)]) ++ da.drop (i + 1)) 103 103 q2108 i 0 91 (mdOf da) zA [.s 124 q2115 1 0 (((da.getD i dD).l).length) (((da.getD i dD).l).length) false] [2] (by rw [List.length_append, List.length_drop]; omega) (zf hzA (show 0 < da.length by omega)) (by rw [key_cur (by omega) hni, key_set _ (by omega) hni]) (Nat.le_of_ble_eq_true rfl) rfl ?_ (hm := mdOf_mine)
  refine go good (fun _ => (o2 (by omega : -9223372036854775808 <= (i : Int) + 1) (by omega : (i : Int) + 1 < 9223372036854775808))) fun _ => ?_
  exact ag111 _ _ (⟨i + 1, nw ++ [(⟨q2115, (da.getD i dD).l, (da.getD i dD).r⟩ : De)]⟩) (by first | omega | (simp only; omega)) (by dsimp only; exact ⟨by omega, by rw [List.length_append, hni]; rfl, key_snoc (by omega) hkn⟩) [0, 1, 3, 4, 5, 6, 7, 8, 2] (by kernel_rfl) (by kernel_rfl)
 ·have hie : i = da.length := by omega
  refine go good (fun _ => (o3 (rfl : (q103 101) = (q103 101)) (rfl : (q101 100) = (q101 100)) (rfl : [C1.v (.string na), .s 102 q2105 4 0 xa.length xa.length za, .v (.string ka), .s 103 q2108 2 0 da.length da.length zA].all C1.one = true))) fun _ => ?_
  refine gh (ge_re (l := [vc (eD 906) 103 q2108 (nw ++ da.drop i) 91 (mdOf da) zA]) (l' := [vc (eD 906) 103 q2108 nw 91 (mdOf da) zA]) (by rw [hie, List.drop_length, List.append_nil])) [0] [] 124 fun _ _ => ?_
  exact rtv (o1 (rfl : (q101 100) = (q101 100))) (⟨q2105, q2108, nw⟩) (by rw [hkn, hie, List.take_length]) [7, 4, 2, 8, 3, 0, 1] (.a [.v (.string na), .s 102 q2105 4 0 xa.length xa.length za, .v (.string ka), .s 103 q2108 2 0 da.length da.length zA]) (by rw [hni, hie]; rfl)
end Go.Proofs.YthkoolfmealabaaGreat
namespace Go.Proofs.YthkoolfmealabaaGreat
set_option maxHeartbeats 4000000
open Go.Abs
variable {nO : Nat}
set_option maxRecDepth 8000
attribute [local irreducible] GP ruP nxP acS gst cdP loP invS ent1 ent2 enP caA resV lgP agN
theorem tnew_ctr {na ka : ByteArray} {qa ca : Nat} {za : Bool} {xa : List Cd} {ta : TypeId} {ma : Md} {qA cA : Nat} {zA : Bool} {da : List De} (hza : za = true -> xa.length = 0) (hla : xa.length < 1000000) (hkd : ∀ i, i < xa.length -> (xa.getD i eC.d).kind = 1 ∨ (xa.getD i eC.d).kind = 2) : Ctr Tryz.prog nO 10 [.a [.v (.string na), .s 2 qa 4 0 xa.length ca za, .v (.string ka), .s 3 qA 2 0 da.length cA zA]] [vc eC 2 qa xa ta ma za] ((Nat) × (Nat) × (List (Nat × Co))) (fun r => r.2.2.map Prod.snd = xa.map newC) (fun r => .o (.p 1 r.1 0 0 0)) (fun r => [.blk 1 r.1 [.v (.string na), .s 2 qa 4 0 xa.length ca za, .v (.string ka), .s 3 qA 2 0 da.length cA zA, .s 4 r.2.1 1 0 r.2.2.length r.2.2.length r.2.2.isEmpty, .s 5 0 2 0 (([] : List Sp).length) 0 (([] : List Sp).isEmpty), .v (.int .i64 0)] 78 .own, vc eC 2 qa xa ta ma za, vc eX 4 r.2.1 r.2.2 79 .grown r.2.2.isEmpty, .as (bigA colA r.2.2), vc eP 5 0 ([] : List Sp) 114 .grown (([] : List Sp).isEmpty)]) := by
 refine fs good 100 (fun B => ?_)
 refine go good (fun q101 => (o1 (rfl : [C1.v (.string na), .s 2 qa 4 0 xa.length ca za, .v (.string ka), .s 3 qA 2 0 da.length cA zA].all C1.one = true))) (fun q101 => ?_)
 refine go good (fun q102 => (o3 (rfl : (q101 100) = (q101 100)) (rfl : [C1.v (.string na), .s 2 qa 4 0 xa.length ca za, .v (.string ka), .s 3 qA 2 0 da.length cA zA].all C1.one = true) (rfl : [C1.v (.string na), .s 2 qa 4 0 xa.length ca za, .v (.string ka), .s 3 qA 2 0 da.length cA zA, .v (.slice none 0 0), .v (.slice none 0 0), .v (.int .i64 0)].all C1.one = true))) (fun q102 => ?_)
 refine go good (fun _ => (o1 (rfl : (q101 100) = (q101 100)))) fun _ => ?_
 refine gh (nil_vec 102 1 eX.f eX.d 79 .grown) [] [] 103 fun _ _ => ?_
 refine gh (ge_re (l := [.blk 101 (q102 101) [.v (.string na), .s 2 qa 4 0 xa.length ca za, .v (.string ka), .s 3 qA 2 0 da.length cA zA, .v (.slice none 0 0), .v (.slice none 0 0), .v (.int .i64 0)] 78 .own]) (l' := [.blk 101 (q102 101) [.v (.string na), .s 2 qa 4 0 xa.length ca za, .v (.string ka), .s 3 qA 2 0 da.length cA zA, .s 102 0 1 0 (([] : List (Nat × Co)).length) (([] : List (Nat × Co)).length) (([] : List (Nat × Co)).isEmpty), .v (.slice none 0 0), .v (.int .i64 0)] 78 .own]) rfl) [1] [] 103 fun _ _ => ?_
 refine gh (nil_vec 103 2 eP.f eP.d 114 .grown) [] [] 104 fun _ _ => ?_
 refine gh (ge_re (l := [.blk 101 (q102 101) [.v (.string na), .s 2 qa 4 0 xa.length ca za, .v (.string ka), .s 3 qA 2 0 da.length cA zA, .s 102 0 1 0 (([] : List (Nat × Co)).length) (([] : List (Nat × Co)).length) (([] : List (Nat × Co)).isEmpty), .v (.slice none 0 0), .v (.int .i64 0)] 78 .own]) (l' := [.blk 101 (q102 101) [.v (.string na), .s 2 qa 4 0 xa.length ca za, .v (.string ka), .s 3 qA 2 0 da.length cA zA, .s 102 0 1 0 (([] : List (Nat × Co)).length) (([] : List (Nat × Co)).length) (([] : List (Nat × Co)).isEmpty), .s 103 0 2 0 (([] : List Sp).length) (([] : List Sp).length) (([] : List Sp).isEmpty), .v (.int .i64 0)] 78 .own]) rfl) [1] [] 104 fun _ _ => ?_
 refine gh (big_nil (I := colA)) [] [] 104 fun _ _ => ?_
 refine lp good ((Nat) × (Nat) × (List (Nat × Co))) [3, 10, 11] (fun r => [(12, .o (.v (.int .i64 (r.1 : Int))))]) [2, 4, 5] (fun r => [.blk 101 (q102 101) [.v (.string na), .s 2 qa 4 0 xa.length ca za, .v (.string ka), .s 3 qA 2 0 da.length cA zA, .s 102 r.2.1 1 0 r.2.2.length r.2.2.length r.2.2.isEmpty, .s 103 0 2 0 (([] : List Sp).length) (([] : List Sp).length) (([] : List Sp).isEmpty), .v (.int .i64 0)] 78 .own, vc eX 102 r.2.1 r.2.2 79 .grown r.2.2.isEmpty, .as (bigA colA r.2.2)]) 124 (fun r => r.1 <= xa.length /\ r.2.2.map Prod.snd = (xa.take r.1).map newC) (fun r => xa.length - r.1) (⟨0, 0, []⟩) ⟨Nat.zero_le _, rfl⟩ [1, 3, 0] (fun ⟨i, qp, xs⟩ hx ag104 => ?_)
 try dsimp only at hx
 obtain ⟨hi, hkx⟩ := hx
 have hxl : xs.length = i := by have h := congrArg List.length hkx; rw [List.length_map, List.length_map, List.length_take] at h; omega
 refine g0 good fun _ => ?_
 refine cdD good ((i : Int) < (xa.length : Int)) (fun h1 => ?_) (fun h1 => ?_)
 ·have hki := hkd i (by omega)
  refine go good (fun q106 => (oc (nz i) (by omega : (i : Int) < (xa.length : Int)) (zf hza (show 0 < xa.length by omega) : za = false) (rfl : qa = _) (by omega : i < xa.length) (rfl : (q106 124) = (q106 124)) (o1 (rfl : [C1.v (.string ((xa.getD i eC.d).name)), .v (.int .i64 ((xa.getD i eC.d).kind)), .cb ((xa.getD i eC.d).must), .v (.string ((xa.getD i eC.d).to))].all C1.one = true)))) (fun q106 => ?_)
  refine go good (fun _ => (o2 (rfl : (q102 101) = (q102 101)) (rfl : (q106 124) = (q106 124)))) fun _ => ?_
  refine cl good (cnew_ctr (kind := (xa.getD i eC.d).kind) hki) [] [(1, 125), (2, 126)] 127 (fun q108 _ => ?_)
  refine go good (fun q109 => (o1 (rfl : [C1.p 125 q108 0 0 0].all C1.one = true))) (fun q109 => ?_)
  refine apd good eX xs [(q108, (newC (xa.getD i eC.d)))] (xs ++ [(q108, (newC (xa.getD i eC.d)))]) 102 qp .grown xs.isEmpty false (.blk 127 (q109 127) [.p 125 q108 0 0 0] 79 .own) (q109 127) 0 1 1 false 128 [6, 0] 129 79 (fun h _ => ne_of h) (by simp only [List.length_cons, List.length_nil]; omega) (src_one rfl) (by simp) rfl (fun q110 => ?_)
  refine go good (fun _ => (o2 (rfl : (q102 101) = (q102 101)) (rfl : [C1.s 128 q110 1 0 ((xs ++ [(q108, (newC (xa.getD i eC.d)))]).length) ((xs ++ [(q108, (newC (xa.getD i eC.d)))]).length) false].all C1.one = true))) fun _ => ?_
  refine gh (ge_re (l := [.blk 101 (q102 101) [.v (.string na), .s 2 qa 4 0 xa.length ca za, .v (.string ka), .s 3 qA 2 0 da.length cA zA, .s 128 q110 1 0 ((xs ++ [(q108, (newC (xa.getD i eC.d)))]).length) ((xs ++ [(q108, (newC (xa.getD i eC.d)))]).length) false, .s 103 0 2 0 (([] : List Sp).length) (([] : List Sp).length) (([] : List Sp).isEmpty), .v (.int .i64 0)] 78 .own, vc eX 128 q110 (xs ++ [(q108, (newC (xa.getD i eC.d)))]) 79 .grown false]) (l' := [.blk 101 (q102 101) [.v (.string na), .s 2 qa 4 0 xa.length ca za, .v (.string ka), .s 3 qA 2 0 da.length cA zA, .s 128 q110 1 0 ((xs ++ [(q108, (newC (xa.getD i eC.d)))]).length) ((xs ++ [(q108, (newC (xa.getD i eC.d)))]).length) ((xs ++ [(q108, (newC (xa.getD i eC.d)))]).isEmpty), .s 103 0 2 0 (([] : List Sp).length) (([] : List Sp).length) (([] : List Sp).isEmpty), .v (.int .i64 0)] 78 .own, vc eX 128 q110 (xs ++ [(q108, (newC (xa.getD i eC.d)))]) 79 .grown ((xs ++ [(q108, (newC (xa.getD i eC.d)))]).isEmpty)]) (by rw [isE_snoc])) [6, 0] [] 129 fun _ _ => ?_
  refine gh (box_shut (φ := fun _ => True) (L := colL (q108, (newC (xa.getD i eC.d)))) (0, .pointer none) trivial) [3, 4, 5] [] 129 fun _ _ => ?_
  refine gh (big_snoc (I := colA) (l := xs) (x := (q108, (newC (xa.getD i eC.d))))) [0, 5] [] 129 fun _ _ => ?_
  refine go good (fun _ => (o2 (by omega : -9223372036854775808 <= (i : Int) + 1) (by omega : (i : Int) + 1 < 9223372036854775808))) fun _ => ?_
  exact ag104 _ _ (⟨i + 1, q110, xs ++ [(q108, (newC (xa.getD i eC.d)))]⟩) (by first | omega | (simp only; omega)) (by dsimp only; exact ⟨by omega, newC_snoc (by omega) hkx⟩) [1, 2, 0, 5, 6, 7] (by kernel_rfl) (by kernel_rfl)
 ·have hie : i = xa.length := by omega
  refine g0 good fun _ => ?_
  exact rt trivial (⟨(q102 101), qp, xs⟩) (by rw [hkx, hie, List.take_length]) [0, 5, 1, 2, 3]
end Go.Proofs.YthkoolfmealabaaGreat
