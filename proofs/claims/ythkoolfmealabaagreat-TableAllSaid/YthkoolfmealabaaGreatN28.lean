/-
  Uc.
-/
import Derived.Test.YthkoolfmealabaaGreatN27
import Derived.Test.YthkoolfmealabaaGreatN21
import Derived.Test.YthkoolfmealabaaGreatN16
namespace Go.Proofs.YthkoolfmealabaaGreat
set_option maxHeartbeats 4000000
open Go.Abs
variable {nO : Nat}
set_option maxRecDepth 100000
attribute [local irreducible] GP ruP nxP acS gst cdP loP invS ent1 ent2 enP caA resV lgP agN
theorem tcopy_ctr {q : Nat} {na ka : ByteArray} {qa ca : Nat} {za : Bool} {xa : List Cd} {ta : TypeId} {ma : Md} {qA cA : Nat} {zA : Bool} {da : List De} {qp : Nat} {zp : Bool} {xs : List (Nat × Co)} {ql cL : Nat} {lv : List Sp} {n : Nat} {tA : TypeId} {mA mp mL : Md} (hza : za = true -> xa.length = 0) (hla : xa.length < 1000000) (hzA : zA = true -> da.length = 0) (hlA : da.length < 1000000) (hzp : zp = true -> xs.length = 0) (hda : ∀ i, i < da.length -> (da.getD i dD).l.length < 1000000) (hkd : ∀ i, i < xa.length -> (xa.getD i eC.d).kind = 1 ∨ (xa.getD i eC.d).kind = 2) (hax : xa.length = xs.length) (hn : n <= 65536) (hll : ∀ i, i < xs.length -> (xs.getD i dX).2.l.length = n) (hok : ∀ i, i < xs.length -> ∀ k, k < n -> cmay (xa.getD i eC.d).kind ((xs.getD i dX).2.l.getD k eV.d) = true /\ ((xs.getD i dX).2.l.getD k eV.d).s.size < 1000000000) (hf : ∀ i, i < xs.length -> (xs.getD i dX).2.Fit) : Ctr Tryz.prog nO 25 [.o (.p 1 q 0 0 0)] [.blk 1 q [.v (.string na), .s 2 qa 4 0 xa.length ca za, .v (.string ka), .s 3 qA 2 0 da.length cA zA, .s 4 qp 1 0 xs.length xs.length zp, .s 5 ql 2 0 lv.length cL lv.isEmpty, .v (.int .i64 (n : Int))] 78 .own, vc eC 2 qa xa ta ma za, vc (eD 906) 3 qA da tA mA zA, .as (bigA (lefA 9) da), vc eX 4 qp xs 79 mp zp, .as (bigA colA xs), vc eP 5 ql lv 114 mL lv.isEmpty] ((Nat) × (Nat) × (Nat) × (List De) × (Nat) × (List (Nat × Co))) (fun r => r.2.2.2.1.map keyD = da.map keyD /\ r.2.2.2.2.2.map Prod.snd = xa.map newC) (fun r => .o (.p 11 r.1 0 0 0)) (fun r => [.blk 1 q [.v (.string na), .s 2 qa 4 0 xa.length ca za, .v (.string ka), .s 3 qA 2 0 da.length cA zA, .s 4 qp 1 0 xs.length xs.length zp, .s 5 ql 2 0 lv.length cL lv.isEmpty, .v (.int .i64 (n : Int))] 78 .own, vc eC 2 qa xa ta ma za, vc (eD 906) 3 qA da tA mA zA, .as (bigA (lefA 9) da), vc eX 4 qp xs 79 mp zp, .as (bigA colA xs), vc eP 5 ql lv 114 .imm lv.isEmpty, .blk 11 r.1 [.v (.string na), .s 12 r.2.1 4 0 xa.length xa.length za, .v (.string ka), .s 13 r.2.2.1 2 0 r.2.2.2.1.length r.2.2.2.1.length zA, .s 14 r.2.2.2.2.1 1 0 ((turnX r.2.2.2.2.2 (copF xs xa) r.2.2.2.2.2.length).length) ((turnX r.2.2.2.2.2 (copF xs xa) r.2.2.2.2.2.length).length) r.2.2.2.2.2.isEmpty, .s 15 ql 2 0 lv.length cL lv.isEmpty, .v (.int .i64 (n : Int))] 78 .own, vc eC 12 r.2.1 xa 42 (mdOf xa) za, vc (eD 906) 13 r.2.2.1 r.2.2.2.1 91 (mdOf da) zA, .as (bigA (lefA 9) r.2.2.2.1), vc eX 14 r.2.2.2.2.1 (turnX r.2.2.2.2.2 (copF xs xa) r.2.2.2.2.2.length) 79 .grown r.2.2.2.2.2.isEmpty, .as (bigA colA (turnX r.2.2.2.2.2 (copF xs xa) r.2.2.2.2.2.length)), vc eP 15 ql lv 114 .imm lv.isEmpty]) := by
 refine fs good 100 (fun B => ?_)
 refine g0 good fun _ => ?_
 refine g0 good fun _ => ?_
 refine cdF good rfl ?_
 refine g0 good fun _ => ?_
 refine cl good (tform_ctr (q := q) (na := na) (ka := ka) (qa := qa) (ca := ca) (za := za) (xa := xa) (ta := ta) (ma := ma) (qA := qA) (cA := cA) (zA := zA) (da := da) (qp := qp) (zp := zp) (xs := xs) (ql := ql) (cL := cL) (lv := lv) (n := n) (tA := tA) (mA := mA) (by assumption) (by omega) (by assumption) (by omega) (by assumption)) [0, 1, 2, 3] [(7, 100), (8, 101)] 102 (fun ⟨qc2, qd2, d2⟩ hd2 => ?_)
 refine cl good (tnew_ctr (na := na) (ka := ka) (qa := qc2) (ca := xa.length) (za := za) (xa := xa) (ta := 42) (ma := (mdOf xa)) (qA := qd2) (cA := d2.length) (zA := zA) (da := d2) (by assumption) (by omega) (by assumption)) [4] [(2, 100), (3, 101), (1, 102), (4, 103), (5, 104)] 105 (fun ⟨q9, qy, ys⟩ hys => ?_)
 try dsimp only at hd2
 try dsimp only at hys
 have hyl : ys.length = xs.length := by have h := congrArg List.length hys; rw [List.length_map, List.length_map] at h; omega
 refine g0 good fun _ => ?_
 refine go good (fun _ => (o1 (rfl : q = _))) fun _ => ?_
 refine gh (ge_re (l := [.as (bigA colA ys)]) (l' := [.as (bigA colA (turnX ys (copF xs xa) 0))]) (by rfl)) [3] [] 105 fun _ _ => ?_
 refine lp good ((Nat)) [0, 3, 17, 18] (fun r => [(19, .o (.v (.int .i64 (r : Int))))]) [1, 2, 3, 4, 5, 6, 7, 8, 9, 10, 11, 12, 13] (fun r => [.as (bigA colA (turnX ys (copF xs xa) r))]) 125 (fun r => r <= xs.length) (fun r => xs.length - r) (0) (Nat.zero_le _) [0] (fun i hx ag109 => ?_)
 refine g0 good fun _ => ?_
 refine cdD good ((i : Int) < (xs.length : Int)) (fun h2 => ?_) (fun h2 => ?_)
 ·obtain ⟨f1, f2, f3, f4⟩ := hf i (by omega)
  have hli := hll i (by omega)
  have hzl := turnX_len (xs := ys) (f := copF xs xa) i
  refine go good (fun _ => (o5 (nz i) (by omega : (i : Int) < (xs.length : Int)) (zf hzp (show 0 < xs.length by omega) : zp = false) (rfl : qp = _) (by omega : i < xs.length))) fun _ => ?_
  refine g0 good fun _ => ?_
  refine gh (big_out (I := colA) (l := xs) i dX (by omega)) [12] [] 125 fun _ _ => ?_
  refine gh (box_open (φ := fun _ => True) (L := colL (xs.getD i dX))) [0] [] 125 (fun ⟨ql113, xv113⟩ _ => ?_)
  refine cl good (clen_ctr (q := (xs.getD i dX).1) (ql := ql113) (kind := (xs.getD i dX).2.kind) (l := ((xs.getD i dX).2.l)) (x := xv113) (nulls := (xs.getD i dX).2.nulls)) [0] [(1, 911), (2, 912)] 125 fun _ _ => ?_
  refine gh (box_shut (φ := fun _ => True) (L := colL (xs.getD i dX)) (ql113, xv113) trivial) [0, 1, 2] [] 125 fun _ _ => ?_
  refine gh (big_bk (I := colA) (l := xs) i dX (by omega)) [0, 1] [] 125 fun _ _ => ?_
  refine g0 good fun _ => ?_
  refine gh (ge_re (l := [.as (bigA colA (turnX ys (copF xs xa) i))]) (l' := [.as (bigA colA (yK ys xs xa i 0))]) (by rw [yK_zero hys (by omega)])) [1] [] 125 fun _ _ => ?_
  refine lp good ((Nat)) [0, 3, 4, 5, 17, 18, 19, 25] (fun r => [(26, .o (.v (.int .i64 (r : Int))))]) [1, 2, 3, 4, 5, 6, 7, 8, 9, 10, 11, 12, 13] (fun r => [.as (bigA colA (yK ys xs xa i r))]) 145 (fun r => r <= (xs.getD i dX).2.l.length) (fun r => (xs.getD i dX).2.l.length - r) (0) (Nat.zero_le _) [0] (fun k hx ag116 => ?_)
  refine g0 good fun _ => ?_
  refine cdD good ((k : Int) < (((xs.getD i dX).2.l).length : Int)) (fun h3 => ?_) (fun h3 => ?_)
  ·have hyk := yK_len (ys := ys) (xs := xs) (xa := xa) (i := i) (k := k)
   have hoi := hok i (by omega) k (by omega)
   have yl := ycol_l (ys := ys) (xs := xs) (xa := xa) (i := i) (k := k)
   have yb := ycol_b (ys := ys) (xs := xs) (xa := xa) (i := i) (k := k)
   have yn := ycol_nu (ys := ys) (xs := xs) (xa := xa) (i := i) (k := k)
   refine g0 good fun _ => ?_
   refine g0 good fun _ => ?_
   refine gh (big_out (I := colA) (l := xs) i dX (by omega)) [1] [] 145 fun _ _ => ?_
   refine gh (box_open (φ := fun _ => True) (L := colL (xs.getD i dX))) [0] [] 145 (fun ⟨ql120, xv120⟩ _ => ?_)
   refine cl good (cat_ctr (q := (xs.getD i dX).1) (ql := ql120) (kind := (xs.getD i dX).2.kind) (l := ((xs.getD i dX).2.l)) (x := xv120) (nulls := (xs.getD i dX).2.nulls) (i := k) (by omega) (by omega)) [0, 1] [(1, 911), (2, 912)] 145 fun _ _ => ?_
   refine gh (box_shut (φ := fun _ => True) (L := colL (xs.getD i dX)) (ql120, xv120) trivial) [0, 1, 2] [] 145 fun _ _ => ?_
   refine gh (big_bk (I := colA) (l := xs) i dX (by omega)) [0, 1] [] 145 fun _ _ => ?_
   refine go good (fun q122 => (o2 (rfl : (q122 145) = (q122 145)) (rfl : [C1.v (.int .i64 ((((xs.getD i dX).2.l).getD k eV.d).k)), .v (.int .i64 ((((xs.getD i dX).2.l).getD k eV.d).n)), .v (.string ((((xs.getD i dX).2.l).getD k eV.d).s))].all C1.one = true))) (fun q122 => ?_)
   refine go good (fun _ => (oc (rfl : q9 = _) (nz i) (by omega : (i : Int) < (ys.length : Int)) (zfe (show 0 < ys.length by omega) : ys.isEmpty = false) (rfl : qy = _) (by omega : i < ys.length) (o1 (rfl : (q122 145) = (q122 145))))) fun _ => ?_
   refine gh (big_out (I := colA) (l := (yK ys xs xa i k)) i dX (by omega)) [2] [] 146 fun _ _ => ?_
   refine gh (ge_re (l := [.as (colA ((yK ys xs xa i k).getD i dX))]) (l' := [.as (colA (ycol ys xs xa i k))]) (by rw [yK_get (by omega)])) [0] [] 146 fun _ _ => ?_
   refine gh (box_open (φ := fun _ => True) (L := colL (ycol ys xs xa i k))) [0] [] 146 (fun ⟨ql124, xv124⟩ _ => ?_)
   refine cl good (capp_ctr (q := (ys.getD i dX).1) (ql := ql124) (kind := (ycol ys xs xa i k).2.kind) (l := ((ycol ys xs xa i k).2.l)) (x := xv124) (nulls := (ycol ys xs xa i k).2.nulls) (ws := ((ycol ys xs xa i k).2.ws)) (b := ((ycol ys xs xa i k).2.b)) (v := (((xs.getD i dX).2.l).getD k eV.d)) (by rw [ycol_kind]; exact hoi.1) hoi.2 (by omega) (by omega) (by omega)) [0, 1, 2] [(1, 911), (2, 912)] 146 (fun ⟨ql2125, x2125⟩ _ => ?_)
   refine gh (box_shut (φ := fun _ => True) (L := colL ((ycol ys xs xa i k).1, ((ycol ys xs xa i k).2.app ((xs.getD i dX).2.l.getD k eV.d)))) (ql2125, x2125) trivial) [0, 1, 2] [] 146 fun _ _ => ?_
   refine gh (big_in (I := colA) (l := (yK ys xs xa i k)) i dX ((ycol ys xs xa i k).1, ((ycol ys xs xa i k).2.app ((xs.getD i dX).2.l.getD k eV.d))) (by omega)) [0, 1] [] 146 fun _ _ => ?_
   refine gh (ge_re (l := [.as (bigA colA ((yK ys xs xa i k).set i ((ycol ys xs xa i k).1, ((ycol ys xs xa i k).2.app ((xs.getD i dX).2.l.getD k eV.d)))))]) (l' := [.as (bigA colA (yK ys xs xa i (k + 1)))]) (congrArg (fun l => [Ch.den (.as (bigA colA l))]) (yK_put (by omega)))) [0] [] 146 fun _ _ => ?_
   refine go good (fun _ => (o2 (by omega : -9223372036854775808 <= (k : Int) + 1) (by omega : (k : Int) + 1 < 9223372036854775808))) fun _ => ?_
   exact ag116 _ _ (k + 1) (by first | omega | (simp only; omega)) (by omega) [0, 2, 3, 4, 5, 6, 7, 8, 9, 10, 11, 12, 13, 14] (by kernel_rfl) (by kernel_rfl)
  ·have hke : k = (xs.getD i dX).2.l.length := by omega
   refine gh (ge_re (l := [.as (bigA colA (yK ys xs xa i k))]) (l' := [.as (bigA colA (turnX ys (copF xs xa) (i + 1)))]) (congrArg (fun l => [Ch.den (.as (bigA colA l))]) (yK_end hke))) [0] [] 145 fun _ _ => ?_
   refine go good (fun _ => (o2 (by omega : -9223372036854775808 <= (i : Int) + 1) (by omega : (i : Int) + 1 < 9223372036854775808))) fun _ => ?_
   exact ag109 _ _ (i + 1) (by first | omega | (simp only; omega)) (by omega) [0, 2, 3, 4, 5, 6, 7, 8, 9, 10, 11, 12, 1, 13] (by kernel_rfl) (by kernel_rfl)
 ·have hie : i = ys.length := by omega
  refine gh (ge_re (l := [.as (bigA colA (turnX ys (copF xs xa) i))]) (l' := [.as (bigA colA (turnX ys (copF xs xa) ys.length))]) (by rw [hie])) [0] [] 125 fun _ _ => ?_
  refine gh (ge_re (l := [vc eX 103 qy ys 79 .grown ys.isEmpty]) (l' := [vc eX 103 qy (turnX ys (copF xs xa) ys.length) 79 .grown ys.isEmpty]) (eX_re (turnX_fst ys.length).symm)) [3] [] 125 fun _ _ => ?_
  refine gh (ge_re (l := [.blk 102 q9 [.v (.string na), .s 100 qc2 4 0 xa.length xa.length za, .v (.string ka), .s 101 qd2 2 0 d2.length d2.length zA, .s 103 qy 1 0 ys.length ys.length ys.isEmpty, .s 104 0 2 0 (([] : List Sp).length) 0 (([] : List Sp).isEmpty), .v (.int .i64 0)] 78 .own]) (l' := [.blk 102 q9 [.v (.string na), .s 100 qc2 4 0 xa.length xa.length za, .v (.string ka), .s 101 qd2 2 0 d2.length d2.length zA, .s 103 qy 1 0 ((turnX ys (copF xs xa) ys.length).length) ((turnX ys (copF xs xa) ys.length).length) ys.isEmpty, .s 104 0 2 0 (([] : List Sp).length) 0 (([] : List Sp).isEmpty), .v (.int .i64 0)] 78 .own]) (by rw [turnX_len])) [2] [] 125 fun _ _ => ?_
  refine gh (vec_imm (E := eP) (g := 5) (q := ql) (xs := lv) (t := 114) (m := mL) (z := lv.isEmpty)) [13] [] 125 fun _ _ => ?_
  refine gh (vec_two (E := eP) (g := 5) (q := ql) (xs := lv) (t := 114) (z := lv.isEmpty)) [0] [] 125 fun _ _ => ?_
  refine go good (fun _ => (o6 (rfl : q = _) (rfl : q = _) (rfl : q9 = _) (rfl : [C1.s 5 ql 2 0 lv.length cL lv.isEmpty].all C1.one = true) (rfl : q9 = _) (rfl : [C1.v (.int .i64 (n : Int))].all C1.one = true))) fun _ => ?_
  refine g0 good fun _ => ?_
  exact rt trivial (⟨q9, qc2, qd2, d2, qy, ys⟩) ⟨hd2, hys⟩ [7, 8, 9, 10, 13, 14, 0, 2, 5, 11, 12, 3, 4, 1]
end Go.Proofs.YthkoolfmealabaaGreat
namespace Go.Proofs.YthkoolfmealabaaGreat
open Go.Abs
variable {nO : Nat}
set_option maxRecDepth 8000
attribute [local irreducible] GP ruP nxP acS gst cdP loP invS ent1 ent2 enP caA resV lgP agN
theorem tins2_ctr {q : Nat} {na ka : ByteArray} {qa ca : Nat} {za : Bool} {xa : List Cd} {ta : TypeId} {ma : Md} {qA cA : Nat} {zA : Bool} {da : List De} {qp : Nat} {zp : Bool} {xs : List (Nat × Co)} {ql cL : Nat} {lv : List Sp} {n : Nat} {mp mL : Md} {qv cv : Nat} {zv : Bool} {vs : List Va} {tv : TypeId} {mv : Md} (hza : za = true -> xa.length = 0) (hla : xa.length < 1000000) (hzv : zv = true -> vs.length = 0) (hlv : vs.length < 1000000) (hzp : zp = true -> xs.length = 0) (hn : n < 65536) (hvx : vs.length = xs.length) (hax : xa.length = xs.length) (hok : ∀ i, i < vs.length -> colOk xa i (vs.getD i eV.d) = true) (hsz : ∀ i, i < vs.length -> (vs.getD i eV.d).s.size < 1000000000) (hf : ∀ i, i < xs.length -> (xs.getD i dX).2.Fit) (hk : ∀ i, i < xs.length -> (xs.getD i dX).2.kind = (xa.getD i eC.d).kind) (hw : WF (-1) lv) : Ctr Tryz.prog nO 12 [.o (.p 1 q 0 0 0), .o (.s 6 qv 3 0 vs.length cv zv)] [.blk 1 q [.v (.string na), .s 2 qa 4 0 xa.length ca za, .v (.string ka), .s 3 qA 2 0 da.length cA zA, .s 4 qp 1 0 xs.length xs.length zp, .s 5 ql 2 0 lv.length cL lv.isEmpty, .v (.int .i64 (n : Int))] 78 .own, vc eC 2 qa xa ta ma za, vc eV 6 qv vs tv mv zv, vc eX 4 qp xs 79 mp zp, .as (bigA colA xs), vc eP 5 ql lv 114 mL lv.isEmpty] ((Nat) × (List Sp) × (List (Nat × Co))) (fun r => IsOr lv (ofL (sortI [(n : Int)])) r.2.1 /\ r.2.2.length = xs.length /\ r.2.2.map Prod.fst = xs.map Prod.fst /\ ∀ i, i < xs.length -> (r.2.2.getD i dX).2 = insF xs vs i) (fun r => .t [(false, [.v (.int .i64 (n : Int))]), (false, [.v (.int .i64 0)])]) (fun r => [.blk 1 q [.v (.string na), .s 2 qa 4 0 xa.length ca za, .v (.string ka), .s 3 qA 2 0 da.length cA zA, .s 4 qp 1 0 r.2.2.length r.2.2.length zp, .s 7 r.1 2 0 r.2.1.length r.2.1.length r.2.1.isEmpty, .v (.int .i64 ((n + 1) : Int))] 78 .own, vc eC 2 qa xa ta ma za, vc eV 6 qv vs tv mv zv, vc eX 4 qp r.2.2 79 mp zp, .as (bigA colA r.2.2), vc eP 7 r.1 r.2.1 114 .grown r.2.1.isEmpty]) :=
 ctr_map (tins_ctr (q := q) (na := na) (ka := ka) (qa := qa) (ca := ca) (za := za) (xa := xa) (ta := ta) (ma := ma) (qA := qA) (cA := cA) (zA := zA) (da := da) (qp := qp) (zp := zp) (xs := xs) (ql := ql) (cL := cL) (lv := lv) (n := n) (mp := mp) (mL := mL) (qv := qv) (cv := cv) (zv := zv) (vs := vs) (tv := tv) (mv := mv) hza hla hzv hlv hzp hn hvx hax hok hsz hf hk hw) (fun r => (r.1, r.2, (turnX xs (insF xs vs) xs.length))) (fun _ h => ⟨⟨h, turnX_len _, turnX_fst _, fun i hi => by rw [turnX_get _ _ hi, if_pos hi]⟩, rfl, rfl⟩)
end Go.Proofs.YthkoolfmealabaaGreat
namespace Go.Proofs.YthkoolfmealabaaGreat
open Go.Abs
variable {nO : Nat}
set_option maxRecDepth 100000
attribute [local irreducible] GP ruP nxP acS gst cdP loP invS ent1 ent2 enP caA resV lgP agN
structure FmOk (F : Fm) : Prop where
 xl : F.xa.length < 100000
 dl : F.da.length < 100000
 kd : ∀ i, i < F.xa.length -> (F.xa.getD i eC.d).kind = 1 ∨ (F.xa.getD i eC.d).kind = 2
 dd : ∀ d ∈ F.da, d.1.length < 1000000
structure Tr where
 qa : Nat
 ca : Nat
 za : Bool
 ta : TypeId
 ma : Md
 qA : Nat
 cA : Nat
 zA : Bool
 tA : TypeId
 mA : Md
 da : List De
 qp : Nat
 zp : Bool
 mp : Md
 xs : List (Nat × Co)
 ql : Nat
 cL : Nat
 mL : Md
 lv : List Sp
structure tabP (F : Fm) (s : Ts) (k : Nat) (r : Tr) : Prop where
 fm : FmOk F
 za : r.za = true -> F.xa.length = 0
 zA : r.zA = true -> r.da.length = 0
 zp : r.zp = true -> r.xs.length = 0
 da : r.da.map keyD = F.da
 rep : TRep F.xa s (r.xs.map Prod.snd) r.lv k
def tabL (q : Nat) (F : Fm) (s : Ts) (y : Tr) : List Ch := [.blk 1 q [.v (.string F.name), .s 2 y.qa 4 0 F.xa.length y.ca y.za, .v (.string F.key), .s 3 y.qA 2 0 y.da.length y.cA y.zA, .s 4 y.qp 1 0 y.xs.length y.xs.length y.zp, .s 5 y.ql 2 0 y.lv.length y.cL y.lv.isEmpty, .v (.int .i64 (s.next : Int))] 78 .own, vc eC 2 y.qa F.xa y.ta y.ma y.za, vc (eD 906) 3 y.qA y.da y.tA y.mA y.zA, .as (bigA (lefA 9) y.da), vc eX 4 y.qp y.xs 79 y.mp y.zp, .as (bigA colA y.xs), vc eP 5 y.ql y.lv 114 y.mL y.lv.isEmpty]
def tabA (q : Nat) (F : Fm) (s : Ts) (k : Nat) : As := boxA (tabP F s k) (tabL q F s)
section
variable {F : Fm} {s : Ts} {k : Nat} {y : Tr}
theorem tabP.xl (h : tabP F s k y) : y.xs.length = F.xa.length := by have := h.rep.len; rwa [List.length_map] at this
theorem tabP.dl (h : tabP F s k y) : y.da.length = F.da.length := by have := congrArg List.length h.da; rwa [List.length_map] at this
theorem xsC {xs : List (Nat × Co)} {c : Nat} : (xs.map Prod.snd).getD c dC = (xs.getD c dX).2 := getD_snd.symm
theorem tabP.fit (h : tabP F s k y) (hk : k < 70000) : ∀ c, c < y.xs.length -> (y.xs.getD c dX).2.Fit := fun c hc => by
 rw [h.xl] at hc
 have := h.rep.fit hk hc
 rwa [xsC] at this
theorem tabP.kind (h : tabP F s k y) : ∀ c, c < y.xs.length -> (y.xs.getD c dX).2.kind = (F.xa.getD c eC.d).kind := fun c hc => by
 have := h.rep.kind c (by rw [<- h.xl]; exact hc)
 rwa [xsC] at this
theorem tabP.ll (h : tabP F s k y) : ∀ c, c < y.xs.length -> (y.xs.getD c dX).2.l.length = s.next := fun c hc => by
 have := h.rep.ll c (by rw [<- h.xl]; exact hc)
 rwa [xsC] at this
theorem tabP.dda (h : tabP F s k y) : ∀ i, i < y.da.length -> (y.da.getD i dD).l.length < 1000000 := fun i hi => by
 have := h.fm.dd (keyD (y.da.getD i dD)) (by rw [<- h.da]; exact List.mem_map_of_mem (by rw [getD_at hi]; exact List.getElem_mem hi))
 exact this
theorem tabP.lvs (h : tabP F s k y) : y.lv.length < 1000000 := by have := wf_short h.rep.wf; omega
theorem row_mem {s : Ts} {j : Nat} (hj : j < s.rows.length) : s.rows.getD j dR ∈ s.rows := by rw [getD_at hj]; exact List.getElem_mem hj
theorem tabP.has (h : tabP F s k y) {j : Nat} (hj : j < s.rows.length) : has y.lv ((s.rows.getD j dR).1 : Int) = true := by
 rw [h.rep.live]; exact Ts.is_iff.2 ⟨_, row_mem hj, rfl⟩
theorem tabP.hid (h : tabP F s k y) {j : Nat} (hj : j < s.rows.length) : ∀ c, c < y.xs.length -> (s.rows.getD j dR).1 < (y.xs.getD c dX).2.l.length := fun c hc => by
 rw [h.ll c hc]; exact h.rep.lt _ (row_mem hj)
end
theorem wdelN_ctr {q : Nat} {F : Fm} {s : Ts} {k : Nat} {id : Int} (his : s.is id = false) : Ctr Tryz.prog nO 19 [.o (.p 1 q 0 0 0), .o (.v (.int .i64 id))] [.as (tabA q F s k)] (Unit) (fun _ => True) (fun r => .o (.v (.bool false))) (fun r => [.as (tabA q F s k)]) :=
 ctr_box (ψ := tabP F s k) (L := tabL q F s) (E := []) (ψ' := fun r => tabP F s k) (L' := fun r => tabL q F s) (E' := fun r => []) [0, 6] [0, 2, 3, 4, 5, 6, 1] (fun y r => ()) (fun y r => y)
  (fun y hy => tdelN_ctr (q := q) (na := F.name) (ka := F.key) (qa := y.qa) (ca := y.ca) (za := y.za) (xa := F.xa) (qA := y.qA) (cA := y.cA) (zA := y.zA) (da := y.da) (qp := y.qp) (zp := y.zp) (xs := y.xs) (ql := y.ql) (cL := y.cL) (lv := y.lv) (n := s.next) (mL := y.mL) (id := id) hy.lvs (by rw [hy.rep.live]; exact his))
  (fun y => ⟨by kernel_rfl, by kernel_rfl⟩)
  (fun y r hy hr => ⟨trivial, rfl, ⟨hy.fm, hy.za, hy.zA, hy.zp, hy.da, hy.rep⟩⟩)
  (fun y r => ⟨by kernel_rfl, by kernel_rfl⟩)
theorem wrowN_ctr {q : Nat} {F : Fm} {s : Ts} {k : Nat} {id : Int} (his : s.is id = false) : Ctr Tryz.prog nO 14 [.o (.p 1 q 0 0 0), .o (.v (.int .i64 id))] [.as (tabA q F s k)] (Unit) (fun _ => True) (fun r => .t [(false, [.v (.slice none 0 0)]), (false, [.v (.bool false)])]) (fun r => [.as (tabA q F s k)]) :=
 ctr_box (ψ := tabP F s k) (L := tabL q F s) (E := []) (ψ' := fun r => tabP F s k) (L' := fun r => tabL q F s) (E' := fun r => []) [0, 6] [0, 2, 3, 4, 5, 6, 1] (fun y r => ()) (fun y r => y)
  (fun y hy => trowN_ctr (q := q) (na := F.name) (ka := F.key) (qa := y.qa) (ca := y.ca) (za := y.za) (xa := F.xa) (qA := y.qA) (cA := y.cA) (zA := y.zA) (da := y.da) (qp := y.qp) (zp := y.zp) (xs := y.xs) (ql := y.ql) (cL := y.cL) (lv := y.lv) (n := s.next) (mL := y.mL) (id := id) hy.lvs (by rw [hy.rep.live]; exact his))
  (fun y => ⟨by kernel_rfl, by kernel_rfl⟩)
  (fun y r hy hr => ⟨trivial, rfl, ⟨hy.fm, hy.za, hy.zA, hy.zp, hy.da, hy.rep⟩⟩)
  (fun y r => ⟨by kernel_rfl, by kernel_rfl⟩)
theorem wsetN_ctr {q : Nat} {F : Fm} {s : Ts} {k : Nat} {id : Int} {sn : ByteArray} {v : Va} (his : s.is id = false) : Ctr Tryz.prog nO 20 [.o (.p 1 q 0 0 0), .o (.v (.int .i64 id)), .o (.v (.string sn)), .a [.v (.int .i64 v.k), .v (.int .i64 v.n), .v (.string v.s)]] [.as (tabA q F s k)] (Unit) (fun _ => True) (fun r => .o (.v (.int .i64 6))) (fun r => [.as (tabA q F s k)]) :=
 ctr_box (ψ := tabP F s k) (L := tabL q F s) (E := []) (ψ' := fun r => tabP F s k) (L' := fun r => tabL q F s) (E' := fun r => []) [0, 1, 6] [0, 1, 3, 4, 5, 6, 2] (fun y r => ()) (fun y r => y)
  (fun y hy => tsetN_ctr (q := q) (na := F.name) (ka := F.key) (qa := y.qa) (ca := y.ca) (za := y.za) (xa := F.xa) (ta := y.ta) (ma := y.ma) (qA := y.qA) (cA := y.cA) (zA := y.zA) (da := y.da) (qp := y.qp) (zp := y.zp) (xs := y.xs) (ql := y.ql) (cL := y.cL) (lv := y.lv) (n := s.next) (mL := y.mL) (id := id) (s := sn) (v := v) hy.za (by have := hy.fm.xl; omega) hy.lvs (by rw [hy.rep.live]; exact his))
  (fun y => ⟨by kernel_rfl, by kernel_rfl⟩)
  (fun y r hy hr => ⟨trivial, rfl, ⟨hy.fm, hy.za, hy.zA, hy.zp, hy.da, hy.rep⟩⟩)
  (fun y r => ⟨by kernel_rfl, by kernel_rfl⟩)
theorem wsetC_ctr {q : Nat} {F : Fm} {s : Ts} {k j : Nat} {sn : ByteArray} {v : Va} (hj : j < s.rows.length) (hcn : idxF F.xa (fun c => strEq c.name sn) = -1) : Ctr Tryz.prog nO 20 [.o (.p 1 q 0 0 0), .o (.v (.int .i64 (((s.rows.getD j dR).1 : Nat) : Int))), .o (.v (.string sn)), .a [.v (.int .i64 v.k), .v (.int .i64 v.n), .v (.string v.s)]] [.as (tabA q F s k)] (Unit) (fun _ => True) (fun r => .o (.v (.int .i64 3))) (fun r => [.as (tabA q F s k)]) :=
 ctr_box (ψ := tabP F s k) (L := tabL q F s) (E := []) (ψ' := fun r => tabP F s k) (L' := fun r => tabL q F s) (E' := fun r => []) [0, 1, 6] [0, 1, 3, 4, 5, 6, 2] (fun y r => ()) (fun y r => y)
  (fun y hy => tsetC_ctr (q := q) (na := F.name) (ka := F.key) (qa := y.qa) (ca := y.ca) (za := y.za) (xa := F.xa) (ta := y.ta) (ma := y.ma) (qA := y.qA) (cA := y.cA) (zA := y.zA) (da := y.da) (qp := y.qp) (zp := y.zp) (xs := y.xs) (ql := y.ql) (cL := y.cL) (lv := y.lv) (n := s.next) (mL := y.mL) (id := (((s.rows.getD j dR).1 : Nat) : Int)) (s := sn) (v := v) hy.za (by have := hy.fm.xl; omega) hy.lvs (hy.has hj) hcn)
  (fun y => ⟨by kernel_rfl, by kernel_rfl⟩)
  (fun y r hy hr => ⟨trivial, rfl, ⟨hy.fm, hy.za, hy.zA, hy.zp, hy.da, hy.rep⟩⟩)
  (fun y r => ⟨by kernel_rfl, by kernel_rfl⟩)
theorem wsetT_ctr {q : Nat} {F : Fm} {s : Ts} {k j c : Nat} {sn : ByteArray} {v : Va} (hj : j < s.rows.length) (hc : idxF F.xa (fun c => strEq c.name sn) = (c : Int)) (hcx : c < F.xa.length) (hs : v.s.size < 1000000000) (hok : colOk F.xa c v = false) : Ctr Tryz.prog nO 20 [.o (.p 1 q 0 0 0), .o (.v (.int .i64 (((s.rows.getD j dR).1 : Nat) : Int))), .o (.v (.string sn)), .a [.v (.int .i64 v.k), .v (.int .i64 v.n), .v (.string v.s)]] [.as (tabA q F s k)] (Unit) (fun _ => True) (fun r => .o (.v (.int .i64 4))) (fun r => [.as (tabA q F s k)]) :=
 ctr_box (ψ := tabP F s k) (L := tabL q F s) (E := []) (ψ' := fun r => tabP F s k) (L' := fun r => tabL q F s) (E' := fun r => []) [0, 1, 6] [0, 1, 3, 4, 5, 6, 2] (fun y r => ()) (fun y r => y)
  (fun y hy => tsetT_ctr (q := q) (na := F.name) (ka := F.key) (qa := y.qa) (ca := y.ca) (za := y.za) (xa := F.xa) (ta := y.ta) (ma := y.ma) (qA := y.qA) (cA := y.cA) (zA := y.zA) (da := y.da) (qp := y.qp) (zp := y.zp) (xs := y.xs) (ql := y.ql) (cL := y.cL) (lv := y.lv) (n := s.next) (mL := y.mL) (id := (((s.rows.getD j dR).1 : Nat) : Int)) (s := sn) (v := v) (j := c) hy.za (by have := hy.fm.xl; omega) hy.lvs (hy.has hj) hc hcx hs hok)
  (fun y => ⟨by kernel_rfl, by kernel_rfl⟩)
  (fun y r hy hr => ⟨trivial, rfl, ⟨hy.fm, hy.za, hy.zA, hy.zp, hy.da, hy.rep⟩⟩)
  (fun y r => ⟨by kernel_rfl, by kernel_rfl⟩)
theorem getX_ne {xs : List (Nat × Co)} {c d : Nat} {x : Nat × Co} (h : d ≠ c) : ((xs.set c x).getD d dX).2 = (xs.getD d dX).2 := by
 rw [List.getD_eq_getElem?_getD, List.getD_eq_getElem?_getD, List.getElem?_set_ne (fun e => h e.symm)]
theorem wset_ctr {q : Nat} {F : Fm} {s : Ts} {k j c : Nat} {sn : ByteArray} {v : Va} (hk : k < 70000) (hj : j < s.rows.length) (hc : idxF F.xa (fun c => strEq c.name sn) = (c : Int)) (hcx : c < F.xa.length) (hs : v.s.size < 1000000000) (hok : colOk F.xa c v = true) : Ctr Tryz.prog nO 20 [.o (.p 1 q 0 0 0), .o (.v (.int .i64 (((s.rows.getD j dR).1 : Nat) : Int))), .o (.v (.string sn)), .a [.v (.int .i64 v.k), .v (.int .i64 v.n), .v (.string v.s)]] [.as (tabA q F s k)] (Unit) (fun _ => True) (fun r => .o (.v (.int .i64 0))) (fun r => [.as (tabA q F (s.put j c v) (k + 2))]) :=
 ctr_box (ψ := tabP F s k) (L := tabL q F s) (E := []) (ψ' := fun r => tabP F (s.put j c v) (k + 2)) (L' := fun r => tabL q F (s.put j c v)) (E' := fun r => []) [0, 1, 4, 5, 6] [0, 1, 5, 6, 2, 3, 4] (fun y r => ()) (fun y r => { y with xs := (y.xs.set c ((y.xs.getD c dX).1, (y.xs.getD c dX).2.put (s.rows.getD j dR).1 v)) })
  (fun y hy => tset_ctr (q := q) (na := F.name) (ka := F.key) (qa := y.qa) (ca := y.ca) (za := y.za) (xa := F.xa) (ta := y.ta) (ma := y.ma) (qA := y.qA) (cA := y.cA) (zA := y.zA) (da := y.da) (qp := y.qp) (zp := y.zp) (xs := y.xs) (ql := y.ql) (cL := y.cL) (lv := y.lv) (n := s.next) (mL := y.mL) (mp := y.mp) (id := ((s.rows.getD j dR).1)) (s := sn) (v := v) (j := c) hy.za (by have := hy.fm.xl; omega) hy.lvs hy.zp (hy.has hj) hc hcx hy.xl.symm hs hok (hy.kind c (by rw [hy.xl]; exact hcx)) (hy.hid hj c (by rw [hy.xl]; exact hcx)) (hy.fit hk c (by rw [hy.xl]; exact hcx)))
  (fun y => ⟨by kernel_rfl, by kernel_rfl⟩)
  (fun y r hy hr => ⟨trivial, rfl, ⟨hy.fm, hy.za, hy.zA, (fun h => by rw [List.length_set]; exact hy.zp h), hy.da, (rep_put hy.rep hj hcx hok (by rw [List.length_map, List.length_map, List.length_set]) (by rw [xsC, xsC, getD_at (by rw [List.length_set, hy.xl]; exact hcx), List.getElem_set_self]) (fun d hd hne => by rw [xsC, xsC, getX_ne hne]))⟩⟩)
  (fun y r => ⟨by kernel_rfl, by kernel_rfl⟩)
theorem wgetC_ctr {q : Nat} {F : Fm} {s : Ts} {k : Nat} {id : Int} {sn : ByteArray} (hcn : idxF F.xa (fun c => strEq c.name sn) = -1) : Ctr Tryz.prog nO 18 [.o (.p 1 q 0 0 0), .o (.v (.int .i64 id)), .o (.v (.string sn))] [.as (tabA q F s k)] (Unit) (fun _ => True) (fun r => .t [(true, [.v (.int .i64 0), .v (.int .i64 0), .v (.string ⟨#[]⟩)]), (false, [.v (.bool false)])]) (fun r => [.as (tabA q F s k)]) :=
 ctr_box (ψ := tabP F s k) (L := tabL q F s) (E := []) (ψ' := fun r => tabP F s k) (L' := fun r => tabL q F s) (E' := fun r => []) [0, 1, 6] [0, 1, 3, 4, 5, 6, 2] (fun y r => ()) (fun y r => y)
  (fun y hy => tgetC_ctr (q := q) (na := F.name) (ka := F.key) (qa := y.qa) (ca := y.ca) (za := y.za) (xa := F.xa) (ta := y.ta) (ma := y.ma) (qA := y.qA) (cA := y.cA) (zA := y.zA) (da := y.da) (qp := y.qp) (zp := y.zp) (xs := y.xs) (ql := y.ql) (cL := y.cL) (lv := y.lv) (n := s.next) (mL := y.mL) (id := id) (s := sn) hy.za (by have := hy.fm.xl; omega) hy.lvs hcn)
  (fun y => ⟨by kernel_rfl, by kernel_rfl⟩)
  (fun y r hy hr => ⟨trivial, rfl, ⟨hy.fm, hy.za, hy.zA, hy.zp, hy.da, hy.rep⟩⟩)
  (fun y r => ⟨by kernel_rfl, by kernel_rfl⟩)
theorem wgetR_ctr {q : Nat} {F : Fm} {s : Ts} {k : Nat} {id : Int} {sn : ByteArray} {c : Nat} (hc : idxF F.xa (fun c => strEq c.name sn) = (c : Int)) (his : s.is id = false) : Ctr Tryz.prog nO 18 [.o (.p 1 q 0 0 0), .o (.v (.int .i64 id)), .o (.v (.string sn))] [.as (tabA q F s k)] (Unit) (fun _ => True) (fun r => .t [(true, [.v (.int .i64 0), .v (.int .i64 0), .v (.string ⟨#[]⟩)]), (false, [.v (.bool false)])]) (fun r => [.as (tabA q F s k)]) :=
 ctr_box (ψ := tabP F s k) (L := tabL q F s) (E := []) (ψ' := fun r => tabP F s k) (L' := fun r => tabL q F s) (E' := fun r => []) [0, 1, 6] [0, 1, 3, 4, 5, 6, 2] (fun y r => ()) (fun y r => y)
  (fun y hy => tgetR_ctr (q := q) (na := F.name) (ka := F.key) (qa := y.qa) (ca := y.ca) (za := y.za) (xa := F.xa) (ta := y.ta) (ma := y.ma) (qA := y.qA) (cA := y.cA) (zA := y.zA) (da := y.da) (qp := y.qp) (zp := y.zp) (xs := y.xs) (ql := y.ql) (cL := y.cL) (lv := y.lv) (n := s.next) (mL := y.mL) (id := id) (s := sn) (j := c) hy.za (by have := hy.fm.xl; omega) hy.lvs hc (by rw [hy.rep.live]; exact his))
  (fun y => ⟨by kernel_rfl, by kernel_rfl⟩)
  (fun y r hy hr => ⟨trivial, rfl, ⟨hy.fm, hy.za, hy.zA, hy.zp, hy.da, hy.rep⟩⟩)
  (fun y r => ⟨by kernel_rfl, by kernel_rfl⟩)
theorem wget_ctr {q : Nat} {F : Fm} {s : Ts} {k j c : Nat} {sn : ByteArray} (hk : k < 70000) (hj : j < s.rows.length) (hc : idxF F.xa (fun c => strEq c.name sn) = (c : Int)) (hcx : c < F.xa.length) : Ctr Tryz.prog nO 18 [.o (.p 1 q 0 0 0), .o (.v (.int .i64 (((s.rows.getD j dR).1 : Nat) : Int))), .o (.v (.string sn))] [.as (tabA q F s k)] (Unit) (fun _ => True) (fun r => .t [(true, [.v (.int .i64 (((s.rows.getD j dR).2.getD c eV.d).k)), .v (.int .i64 (((s.rows.getD j dR).2.getD c eV.d).n)), .v (.string (((s.rows.getD j dR).2.getD c eV.d).s))]), (false, [.v (.bool true)])]) (fun r => [.as (tabA q F s k)]) :=
 ctr_box (ψ := tabP F s k) (L := tabL q F s) (E := []) (ψ' := fun r => tabP F s k) (L' := fun r => tabL q F s) (E' := fun r => []) [0, 1, 4, 5, 6] [0, 1, 5, 6, 2, 3, 4] (fun y r => ()) (fun y r => y)
  (fun y hy => tget_ctr (q := q) (na := F.name) (ka := F.key) (qa := y.qa) (ca := y.ca) (za := y.za) (xa := F.xa) (ta := y.ta) (ma := y.ma) (qA := y.qA) (cA := y.cA) (zA := y.zA) (da := y.da) (qp := y.qp) (zp := y.zp) (xs := y.xs) (ql := y.ql) (cL := y.cL) (lv := y.lv) (n := s.next) (mL := y.mL) (mp := y.mp) (id := ((s.rows.getD j dR).1)) (s := sn) (j := c) hy.za (by have := hy.fm.xl; omega) hy.lvs hy.zp (hy.has hj) hc (by rw [hy.xl]; exact hcx) (hy.hid hj c (by rw [hy.xl]; exact hcx)) (hy.fit hk c (by rw [hy.xl]; exact hcx)))
  (fun y => ⟨by kernel_rfl, by kernel_rfl⟩)
  (fun y r hy hr => ⟨trivial, (by have h := hy.rep.val _ (row_mem hj) c hcx; rw [xsC] at h; rw [h]), ⟨hy.fm, hy.za, hy.zA, hy.zp, hy.da, hy.rep⟩⟩)
  (fun y r => ⟨by kernel_rfl, by kernel_rfl⟩)
theorem winsF_ctr {q : Nat} {F : Fm} {s : Ts} {k : Nat} {vs : List Va} {qv cv : Nat} {zv : Bool} {tv : TypeId} {mv : Md} (hn : s.next < 65536) (hvl : vs.length ≠ F.xa.length) : Ctr Tryz.prog nO 12 [.o (.p 1 q 0 0 0), .o (.s 6 qv 3 0 vs.length cv zv)] [.as (tabA q F s k), vc eV 6 qv vs tv mv zv] (Unit) (fun _ => True) (fun r => .t [(false, [.v (.int .i64 0)]), (false, [.v (.int .i64 1)])]) (fun r => [.as (tabA q F s k), vc eV 6 qv vs tv mv zv]) :=
 ctr_box (ψ := tabP F s k) (L := tabL q F s) (E := [vc eV 6 qv vs tv mv zv]) (ψ' := fun r => tabP F s k) (L' := fun r => tabL q F s) (E' := fun r => [vc eV 6 qv vs tv mv zv]) [0, 7] [0, 2, 3, 4, 5, 6, 7, 1] (fun y r => ()) (fun y r => y)
  (fun y hy => tinsF_ctr (q := q) (na := F.name) (ka := F.key) (qa := y.qa) (ca := y.ca) (za := y.za) (xa := F.xa) (qA := y.qA) (cA := y.cA) (zA := y.zA) (da := y.da) (qp := y.qp) (zp := y.zp) (xs := y.xs) (ql := y.ql) (cL := y.cL) (lv := y.lv) (n := s.next) (qv := qv) (cv := cv) (zv := zv) (vs := vs) (tv := tv) (mv := mv) hn (by rw [hy.xl]; exact hvl))
  (fun y => ⟨by kernel_rfl, by kernel_rfl⟩)
  (fun y r hy hr => ⟨trivial, rfl, ⟨hy.fm, hy.za, hy.zA, hy.zp, hy.da, hy.rep⟩⟩)
  (fun y r => ⟨by kernel_rfl, by kernel_rfl⟩)
theorem winsT_ctr {q : Nat} {F : Fm} {s : Ts} {k : Nat} {vs : List Va} {qv cv : Nat} {zv : Bool} {tv : TypeId} {mv : Md} {c : Nat} (hzv : zv = true -> vs.length = 0) (hlv : vs.length < 1000000) (hn : s.next < 65536) (hvl : vs.length = F.xa.length) (hc1 : c < vs.length) (hc2 : colOk F.xa c (vs.getD c eV.d) = false) (hc3 : ∀ i, i < c -> colOk F.xa i (vs.getD i eV.d) = true) (hsz : ∀ i, i < vs.length -> (vs.getD i eV.d).s.size < 1000000000) : Ctr Tryz.prog nO 12 [.o (.p 1 q 0 0 0), .o (.s 6 qv 3 0 vs.length cv zv)] [.as (tabA q F s k), vc eV 6 qv vs tv mv zv] (Unit) (fun _ => True) (fun r => .t [(false, [.v (.int .i64 0)]), (false, [.v (.int .i64 4)])]) (fun r => [.as (tabA q F s k), vc eV 6 qv vs tv mv zv]) :=
 ctr_box (ψ := tabP F s k) (L := tabL q F s) (E := [vc eV 6 qv vs tv mv zv]) (ψ' := fun r => tabP F s k) (L' := fun r => tabL q F s) (E' := fun r => [vc eV 6 qv vs tv mv zv]) [0, 1, 7] [0, 1, 3, 4, 5, 6, 7, 2] (fun y r => ()) (fun y r => y)
  (fun y hy => tinst_ctr (q := q) (na := F.name) (ka := F.key) (qa := y.qa) (ca := y.ca) (za := y.za) (xa := F.xa) (ta := y.ta) (ma := y.ma) (qA := y.qA) (cA := y.cA) (zA := y.zA) (da := y.da) (qp := y.qp) (zp := y.zp) (xs := y.xs) (ql := y.ql) (cL := y.cL) (lv := y.lv) (n := s.next) (qv := qv) (cv := cv) (zv := zv) (vs := vs) (tv := tv) (mv := mv) (k := c) hy.za (by have := hy.fm.xl; omega) hzv hlv hn (by rw [hy.xl]; exact hvl) hy.xl.symm hc1 hc2 hc3 hsz)
  (fun y => ⟨by kernel_rfl, by kernel_rfl⟩)
  (fun y r hy hr => ⟨trivial, rfl, ⟨hy.fm, hy.za, hy.zA, hy.zp, hy.da, hy.rep⟩⟩)
  (fun y r => ⟨by kernel_rfl, by kernel_rfl⟩)
theorem wins_ctr {q : Nat} {F : Fm} {s : Ts} {k : Nat} {vs : List Va} {qv cv : Nat} {zv : Bool} {tv : TypeId} {mv : Md} (hk : k < 70000) (hzv : zv = true -> vs.length = 0) (hlv : vs.length < 1000000) (hn : s.next < 65536) (hvl : vs.length = F.xa.length) (hok : ∀ i, i < vs.length -> colOk F.xa i (vs.getD i eV.d) = true) (hsz : ∀ i, i < vs.length -> (vs.getD i eV.d).s.size < 1000000000) : Ctr Tryz.prog nO 12 [.o (.p 1 q 0 0 0), .o (.s 6 qv 3 0 vs.length cv zv)] [.as (tabA q F s k), vc eV 6 qv vs tv mv zv] (Unit) (fun _ => True) (fun r => .t [(false, [.v (.int .i64 (s.next : Int))]), (false, [.v (.int .i64 0)])]) (fun r => [.as (tabA q F (s.ins vs) (k + 1)), vc eV 6 qv vs tv mv zv]) :=
 ctr_box (ψ := tabP F s k) (L := tabL q F s) (E := [vc eV 6 qv vs tv mv zv]) (ψ' := fun r => tabP F (s.ins vs) (k + 1)) (L' := fun r => tabL q F (s.ins vs)) (E' := fun r => [vc eV 6 qv vs tv mv zv]) [0, 1, 7, 4, 5, 6] [0, 1, 6, 7, 3, 4, 5, 2] (fun y r => ()) (fun y r => { y with ql := r.1, cL := r.2.1.length, mL := .grown, lv := r.2.1, xs := r.2.2 })
  (fun y hy => tins2_ctr (q := q) (na := F.name) (ka := F.key) (qa := y.qa) (ca := y.ca) (za := y.za) (xa := F.xa) (ta := y.ta) (ma := y.ma) (qA := y.qA) (cA := y.cA) (zA := y.zA) (da := y.da) (qp := y.qp) (zp := y.zp) (xs := y.xs) (ql := y.ql) (cL := y.cL) (lv := y.lv) (n := s.next) (mp := y.mp) (mL := y.mL) (qv := qv) (cv := cv) (zv := zv) (vs := vs) (tv := tv) (mv := mv) hy.za (by have := hy.fm.xl; omega) hzv hlv hy.zp hn (by rw [hy.xl]; exact hvl) hy.xl.symm hok hsz (hy.fit hk) hy.kind hy.rep.wf)
  (fun y => ⟨by kernel_rfl, by kernel_rfl⟩)
  (fun y r hy hr => ⟨trivial, rfl, ⟨hy.fm, hy.za, hy.zA, (fun h => by rw [hr.2.1]; exact hy.zp h), hy.da, (rep_ins hy.rep hn hvl (fun c hc => hok c (by rw [hvl]; exact hc)) hr.1 (by rw [List.length_map, List.length_map]; exact hr.2.1) (fun c hc => by rw [xsC, xsC]; exact hr.2.2.2 c (by rw [hy.xl]; exact hc)))⟩⟩)
  (fun y r => ⟨by kernel_rfl, by kernel_rfl⟩)
theorem wdel_ctr {q : Nat} {F : Fm} {s : Ts} {k j : Nat} (hk : k < 70000) (hn : s.next <= 65536) (hj : j < s.rows.length) : Ctr Tryz.prog nO 19 [.o (.p 1 q 0 0 0), .o (.v (.int .i64 (((s.rows.getD j dR).1 : Nat) : Int)))] [.as (tabA q F s k)] (Unit) (fun _ => True) (fun r => .o (.v (.bool true))) (fun r => [.as (tabA q F (s.del j) (k + 2))]) :=
 ctr_box (ψ := tabP F s k) (L := tabL q F s) (E := []) (ψ' := fun r => tabP F (s.del j) (k + 2)) (L' := fun r => tabL q F (s.del j)) (E' := fun r => []) [0, 4, 5, 6] [0, 4, 5, 6, 1, 2, 3] (fun y r => ()) (fun y r => { y with ql := r.1, cL := r.2.length, mL := .grown, lv := r.2, xs := (turnX y.xs (putF y.xs (s.rows.getD j dR).1 (⟨0, 0, ⟨#[]⟩⟩ : Va)) y.xs.length) })
  (fun y hy => tdel_ctr (q := q) (na := F.name) (ka := F.key) (qa := y.qa) (ca := y.ca) (za := y.za) (xa := F.xa) (qA := y.qA) (cA := y.cA) (zA := y.zA) (da := y.da) (qp := y.qp) (zp := y.zp) (xs := y.xs) (ql := y.ql) (cL := y.cL) (lv := y.lv) (n := s.next) (mp := y.mp) (mL := y.mL) (id := ((s.rows.getD j dR).1)) hy.zp hy.lvs (by have := hy.fm.xl; rw [hy.xl]; omega) (hy.has hj) (hy.hid hj) (hy.fit hk) hy.rep.wf)
  (fun y => ⟨by kernel_rfl, by kernel_rfl⟩)
  (fun y r hy hr => ⟨trivial, rfl, ⟨hy.fm, hy.za, hy.zA, (fun h => by rw [turnX_len]; exact hy.zp h), hy.da, (rep_del hy.rep hn hj hr (by rw [List.length_map, List.length_map, turnX_len]) (fun c hc => by rw [xsC, xsC, turnX_get _ _ (by rw [hy.xl]; exact hc), if_pos (by rw [hy.xl]; exact hc)]; rfl))⟩⟩)
  (fun y r => ⟨by kernel_rfl, by kernel_rfl⟩)
theorem wnext_ctr {q : Nat} {F : Fm} {s : Ts} {k : Nat}  : Ctr Tryz.prog nO 23 [.o (.p 1 q 0 0 0)] [.as (tabA q F s k)] (Unit) (fun _ => True) (fun r => .o (.v (.int .i64 (s.next : Int)))) (fun r => [.as (tabA q F s k)]) :=
 ctr_box (ψ := tabP F s k) (L := tabL q F s) (E := []) (ψ' := fun r => tabP F s k) (L' := fun r => tabL q F s) (E' := fun r => []) [0] [0, 1, 2, 3, 4, 5, 6] (fun y r => ()) (fun y r => y)
  (fun y hy => tnext_ctr (q := q) (na := F.name) (ka := F.key) (qa := y.qa) (ca := y.ca) (za := y.za) (xa := F.xa) (qA := y.qA) (cA := y.cA) (zA := y.zA) (da := y.da) (qp := y.qp) (zp := y.zp) (xs := y.xs) (ql := y.ql) (cL := y.cL) (lv := y.lv) (n := s.next) )
  (fun y => ⟨by kernel_rfl, by kernel_rfl⟩)
  (fun y r hy hr => ⟨trivial, rfl, ⟨hy.fm, hy.za, hy.zA, hy.zp, hy.da, hy.rep⟩⟩)
  (fun y r => ⟨by kernel_rfl, by kernel_rfl⟩)
theorem tabP.row {F : Fm} {s : Ts} {k j : Nat} {y : Tr} (hy : tabP F s k y) (hj : j < s.rows.length) : rowX y.xs (s.rows.getD j dR).1 y.xs.length = (s.rows.getD j dR).2 := by
 have hl := hy.rep.rl _ (row_mem hj)
 apply List.ext_getElem
 ·rw [rowX_len (Nat.le_refl _), hy.xl, hl]
 ·intro c h1 h2
  have hc : c < F.xa.length := by rw [<- hl]; exact h2
  have h := hy.rep.val _ (row_mem hj) c hc
  rw [xsC, getD_at (l := (s.rows.getD j dR).2) h2, getD_at (l := y.xs) (by rw [hy.xl]; exact hc)] at h
  rw [<- h]
  simp [rowX]
theorem trow2_ctr {q : Nat} {na ka : ByteArray} {qa ca : Nat} {za : Bool} {xa : List Cd} {qA cA : Nat} {zA : Bool} {da : List De} {qp : Nat} {zp : Bool} {xs : List (Nat × Co)} {ql cL : Nat} {lv : List Sp} {n : Nat} {mp mL : Md} {id : Nat} {V : List Va} (hV : rowX xs id xs.length = V) (hzp : zp = true -> xs.length = 0) (hxl : xs.length < 1000000) (hll : lv.length < 1000000) (hhas : has lv (id : Int) = true) (hid : ∀ i, i < xs.length -> id < (xs.getD i dX).2.l.length) (hf : ∀ i, i < xs.length -> (xs.getD i dX).2.Fit) : Ctr Tryz.prog nO 14 [.o (.p 1 q 0 0 0), .o (.v (.int .i64 (id : Int)))] [.blk 1 q [.v (.string na), .s 2 qa 4 0 xa.length ca za, .v (.string ka), .s 3 qA 2 0 da.length cA zA, .s 4 qp 1 0 xs.length xs.length zp, .s 5 ql 2 0 lv.length cL lv.isEmpty, .v (.int .i64 (n : Int))] 78 .own, vc eX 4 qp xs 79 mp zp, .as (bigA colA xs), vc eP 5 ql lv 114 mL lv.isEmpty] ((Nat)) (fun _ => True) (fun r => .t [(false, [.s 6 r 3 0 V.length V.length V.isEmpty]), (false, [.v (.bool true)])]) (fun r => [.blk 1 q [.v (.string na), .s 2 qa 4 0 xa.length ca za, .v (.string ka), .s 3 qA 2 0 da.length cA zA, .s 4 qp 1 0 xs.length xs.length zp, .s 5 ql 2 0 lv.length cL lv.isEmpty, .v (.int .i64 (n : Int))] 78 .own, vc eX 4 qp xs 79 mp zp, .as (bigA colA xs), vc eP 5 ql lv 114 mL lv.isEmpty, vc eV 6 r V 38 .grown V.isEmpty]) :=
 (by subst hV; exact trow_ctr (q := q) (na := na) (ka := ka) (qa := qa) (ca := ca) (za := za) (xa := xa) (qA := qA) (cA := cA) (zA := zA) (da := da) (qp := qp) (zp := zp) (xs := xs) (ql := ql) (cL := cL) (lv := lv) (n := n) (mp := mp) (mL := mL) (id := id) hzp hxl hll hhas hid hf)
theorem wrow_ctr {q : Nat} {F : Fm} {s : Ts} {k j : Nat} (hk : k < 70000) (hj : j < s.rows.length) : Ctr Tryz.prog nO 14 [.o (.p 1 q 0 0 0), .o (.v (.int .i64 (((s.rows.getD j dR).1 : Nat) : Int)))] [.as (tabA q F s k)] ((Nat)) (fun _ => True) (fun r => .t [(false, [.s 6 r 3 0 ((s.rows.getD j dR).2.length) ((s.rows.getD j dR).2.length) ((s.rows.getD j dR).2.isEmpty)]), (false, [.v (.bool true)])]) (fun r => [.as (tabA q F s k), vc eV 6 r ((s.rows.getD j dR).2) 38 .grown ((s.rows.getD j dR).2.isEmpty)]) :=
 ctr_box (ψ := tabP F s k) (L := tabL q F s) (E := []) (ψ' := fun r => tabP F s k) (L' := fun r => tabL q F s) (E' := fun r => [vc eV 6 r ((s.rows.getD j dR).2) 38 .grown ((s.rows.getD j dR).2.isEmpty)]) [0, 4, 5, 6] [0, 5, 6, 7, 1, 2, 3, 4] (fun y r => r) (fun y r => y)
  (fun y hy => trow2_ctr (q := q) (na := F.name) (ka := F.key) (qa := y.qa) (ca := y.ca) (za := y.za) (xa := F.xa) (qA := y.qA) (cA := y.cA) (zA := y.zA) (da := y.da) (qp := y.qp) (zp := y.zp) (xs := y.xs) (ql := y.ql) (cL := y.cL) (lv := y.lv) (n := s.next) (mp := y.mp) (mL := y.mL) (id := ((s.rows.getD j dR).1)) (V := ((s.rows.getD j dR).2)) (hy.row hj) hy.zp (by have := hy.fm.xl; rw [hy.xl]; omega) hy.lvs (hy.has hj) (hy.hid hj) (hy.fit hk))
  (fun y => ⟨by kernel_rfl, by kernel_rfl⟩)
  (fun y r hy hr => ⟨trivial, rfl, ⟨hy.fm, hy.za, hy.zA, hy.zp, hy.da, hy.rep⟩⟩)
  (fun y r => ⟨by kernel_rfl, by kernel_rfl⟩)
theorem wwords_ctr {q : Nat} {F : Fm} {s : Ts} {k : Nat} {sn : ByteArray} {c : Nat} (hk : k < 70000) (hc : idxF F.xa (fun c => strEq c.name sn) = (c : Int)) (hcx : c < F.xa.length) : Ctr Tryz.prog nO 24 [.o (.p 1 q 0 0 0), .o (.v (.string sn))] [.as (tabA q F s k)] ((List Kv)) (fun r => WsRep (cntT (s.col c)) r) (fun r => .o (.v (.int .i64 (r.length : Int)))) (fun r => [.as (tabA q F s k)]) :=
 ctr_box (ψ := tabP F s k) (L := tabL q F s) (E := []) (ψ' := fun r => tabP F s k) (L' := fun r => tabL q F s) (E' := fun r => []) [0, 1, 4, 5] [0, 1, 4, 5, 2, 3, 6] (fun y r => (y.xs.getD c dX).2.ws) (fun y r => y)
  (fun y hy => twords_ctr (q := q) (na := F.name) (ka := F.key) (qa := y.qa) (ca := y.ca) (za := y.za) (xa := F.xa) (ta := y.ta) (ma := y.ma) (qA := y.qA) (cA := y.cA) (zA := y.zA) (da := y.da) (qp := y.qp) (zp := y.zp) (xs := y.xs) (ql := y.ql) (cL := y.cL) (lv := y.lv) (n := s.next) (mp := y.mp) (s := sn) (j := c) hy.za (by have := hy.fm.xl; omega) hy.zp hc (by rw [hy.xl]; exact hcx) (by have := hy.fm.xl; rw [hy.xl]; omega) (hy.fit hk))
  (fun y => ⟨by kernel_rfl, by kernel_rfl⟩)
  (fun y r hy hr => ⟨(by have h := hy.rep.ws c hcx; have e : cntT (((y.xs.map Prod.snd).getD c dC)).l = cntT (s.col c) := funext fun t => hy.rep.cnt c hcx t; rw [e, xsC] at h; exact h), rfl, ⟨hy.fm, hy.za, hy.zA, hy.zp, hy.da, hy.rep⟩⟩)
  (fun y r => ⟨by kernel_rfl, by kernel_rfl⟩)
end Go.Proofs.YthkoolfmealabaaGreat
namespace Go.Proofs.YthkoolfmealabaaGreat
open Go.Abs
variable {nO : Nat}
set_option maxRecDepth 100000
attribute [local irreducible] GP ruP nxP acS gst cdP loP invS ent1 ent2 enP caA resV lgP agN
theorem tlive2_ctr {q : Nat} {na ka : ByteArray} {qa ca : Nat} {za : Bool} {xa : List Cd} {qA cA : Nat} {zA : Bool} {da : List De} {qp : Nat} {zp : Bool} {xs : List (Nat × Co)} {ql cL : Nat} {lv : List Sp} {n : Nat} {mL : Md}  : Ctr Tryz.prog nO 21 [.o (.p 1 q 0 0 0)] [.blk 1 q [.v (.string na), .s 2 qa 4 0 xa.length ca za, .v (.string ka), .s 3 qA 2 0 da.length cA zA, .s 4 qp 1 0 xs.length xs.length zp, .s 5 ql 2 0 lv.length cL lv.isEmpty, .v (.int .i64 (n : Int))] 78 .own, vc eP 5 ql lv 114 mL lv.isEmpty] (Unit) (fun _ => True) (fun r => .a [.s 5 ql 2 0 lv.length cL lv.isEmpty]) (fun r => [.blk 1 q [.v (.string na), .s 2 qa 4 0 xa.length ca za, .v (.string ka), .s 3 qA 2 0 da.length cA zA, .s 4 qp 1 0 xs.length xs.length zp, .s 5 ql 2 0 lv.length cL lv.isEmpty, .v (.int .i64 (n : Int))] 78 .own, vc eP 5 ql lv 114 .imm lv.isEmpty, vc eP 8 ql lv 114 .imm lv.isEmpty]) :=
 ctr_post (ctr_frame [vc eP 5 ql lv 114 mL lv.isEmpty] (tlive_ctr (q := q) (na := na) (ka := ka) (qa := qa) (ca := ca) (za := za) (xa := xa) (qA := qA) (cA := cA) (zA := zA) (da := da) (qp := qp) (zp := zp) (xs := xs) (ql := ql) (cL := cL) (lv := lv) (n := n))) (fun _ _ => ge_cons _ (ge_tr (vec_imm (E := eP) (g := 5) (q := ql) (xs := lv) (t := 114) (m := mL) (z := lv.isEmpty)) (vec_two (E := eP) (g := 5) (q := ql) (xs := lv) (t := 114) (z := lv.isEmpty))))
theorem wlive_ctr {q : Nat} {F : Fm} {s : Ts} {k : Nat}  : Ctr Tryz.prog nO 21 [.o (.p 1 q 0 0 0)] [.as (tabA q F s k)] ((Nat) × (Nat) × (List Sp)) (fun r => WF (-1) r.2.2 /\ ∀ i, has r.2.2 i = s.is i) (fun r => .a [.s 8 r.1 2 0 r.2.2.length r.2.1 r.2.2.isEmpty]) (fun r => [.as (tabA q F s k), vc eP 8 r.1 r.2.2 114 .imm r.2.2.isEmpty]) :=
 ctr_box (ψ := tabP F s k) (L := tabL q F s) (E := []) (ψ' := fun r => tabP F s k) (L' := fun r => tabL q F s) (E' := fun r => [vc eP 8 r.1 r.2.2 114 .imm r.2.2.isEmpty]) [0, 6] [0, 3, 4, 5, 6, 7, 1, 2] (fun y r => (y.ql, y.cL, y.lv)) (fun y r => { y with mL := .imm })
  (fun y hy => tlive2_ctr (q := q) (na := F.name) (ka := F.key) (qa := y.qa) (ca := y.ca) (za := y.za) (xa := F.xa) (qA := y.qA) (cA := y.cA) (zA := y.zA) (da := y.da) (qp := y.qp) (zp := y.zp) (xs := y.xs) (ql := y.ql) (cL := y.cL) (lv := y.lv) (n := s.next) (mL := y.mL) )
  (fun y => ⟨by kernel_rfl, by kernel_rfl⟩)
  (fun y r hy hr => ⟨⟨hy.rep.wf, hy.rep.live⟩, rfl, ⟨hy.fm, hy.za, hy.zA, hy.zp, hy.da, hy.rep⟩⟩)
  (fun y r => ⟨by kernel_rfl, by kernel_rfl⟩)
theorem wform_ctr {q : Nat} {F : Fm} {s : Ts} {k : Nat}  : Ctr Tryz.prog nO 15 [.o (.p 1 q 0 0 0)] [.as (tabA q F s k)] ((Nat) × (Nat) × (List De) × (Bool) × (Bool) × (Md)) (fun r => r.2.2.1.map keyD = F.da /\ (r.2.2.2.1 = true -> F.xa.length = 0) /\ (r.2.2.2.2.1 = true -> r.2.2.1.length = 0)) (fun r => .a [.v (.string F.name), .s 7 r.1 4 0 F.xa.length F.xa.length r.2.2.2.1, .v (.string F.key), .s 8 r.2.1 2 0 r.2.2.1.length r.2.2.1.length r.2.2.2.2.1]) (fun r => [.as (tabA q F s k), vc eC 7 r.1 F.xa 42 (mdOf F.xa) r.2.2.2.1, vc (eD 906) 8 r.2.1 r.2.2.1 91 r.2.2.2.2.2 r.2.2.2.2.1, .as (bigA (lefA 9) r.2.2.1)]) :=
 ctr_box (ψ := tabP F s k) (L := tabL q F s) (E := []) (ψ' := fun r => tabP F s k) (L' := fun r => tabL q F s) (E' := fun r => [vc eC 7 r.1 F.xa 42 (mdOf F.xa) r.2.2.2.1, vc (eD 906) 8 r.2.1 r.2.2.1 91 r.2.2.2.2.2 r.2.2.2.2.1, .as (bigA (lefA 9) r.2.2.1)]) [0, 1, 2, 3] [0, 1, 2, 3, 7, 8, 9, 4, 5, 6] (fun y r => (r.1, r.2.1, r.2.2, y.za, y.zA, mdOf y.da)) (fun y r => y)
  (fun y hy => tform_ctr (q := q) (na := F.name) (ka := F.key) (qa := y.qa) (ca := y.ca) (za := y.za) (xa := F.xa) (ta := y.ta) (ma := y.ma) (qA := y.qA) (cA := y.cA) (zA := y.zA) (da := y.da) (qp := y.qp) (zp := y.zp) (xs := y.xs) (ql := y.ql) (cL := y.cL) (lv := y.lv) (n := s.next) (tA := y.tA) (mA := y.mA) hy.za (by have := hy.fm.xl; omega) hy.zA (by have := hy.fm.dl; rw [hy.dl]; omega) hy.dda)
  (fun y => ⟨by kernel_rfl, by kernel_rfl⟩)
  (fun y r hy hr => ⟨⟨hr.trans hy.da, hy.za, fun h => by have e := congrArg List.length hr; rw [List.length_map, List.length_map] at e; rw [e]; exact hy.zA h⟩, rfl, ⟨hy.fm, hy.za, hy.zA, hy.zp, hy.da, hy.rep⟩⟩)
  (fun y r => ⟨by kernel_rfl, by kernel_rfl⟩)
theorem wnew_ctr {na ka : ByteArray} {qa ca : Nat} {za : Bool} {xa : List Cd} {ta : TypeId} {ma : Md} {qA cA : Nat} {zA : Bool} {da : List De} {tA : TypeId} {mA : Md} (hza : za = true -> xa.length = 0) (hla : xa.length < 1000000) (hzA : zA = true -> da.length = 0) (hfm : FmOk (⟨na, ka, xa, da.map keyD⟩ : Fm)) : Ctr Tryz.prog nO 10 [.a [.v (.string na), .s 2 qa 4 0 xa.length ca za, .v (.string ka), .s 3 qA 2 0 da.length cA zA]] [vc eC 2 qa xa ta ma za, vc (eD 906) 3 qA da tA mA zA, .as (bigA (lefA 9) da)] ((Nat)) (fun _ => True) (fun r => .o (.p 1 r 0 0 0)) (fun r => [.as (tabA r (⟨na, ka, xa, da.map keyD⟩ : Fm) ⟨[], 0⟩ 0)]) :=
 ctr_shut (ψ' := fun r => tabP (⟨na, ka, xa, da.map keyD⟩ : Fm) ⟨[], 0⟩ 0) (L' := fun r => tabL r (⟨na, ka, xa, da.map keyD⟩ : Fm) ⟨[], 0⟩) (E' := fun r => []) [vc (eD 906) 3 qA da tA mA zA, .as (bigA (lefA 9) da)] [0, 1, 5, 6, 2, 3, 4] (fun r => r.1) (fun r => { qa := qa, ca := ca, za := za, ta := ta, ma := ma, qA := qA, cA := cA, zA := zA, tA := tA, mA := mA, da := da, qp := r.2.1, zp := r.2.2.isEmpty, mp := .grown, xs := r.2.2, ql := 0, cL := 0, mL := .grown, lv := [] })
  (tnew_ctr (na := na) (ka := ka) (qa := qa) (ca := ca) (za := za) (xa := xa) (ta := ta) (ma := ma) (qA := qA) (cA := cA) (zA := zA) (da := da) hza hla hfm.kd)
  (fun r hr => ⟨trivial, rfl, ⟨hfm, hza, hzA, ise_len, rfl, rep_new hr⟩⟩)
  (fun r => ⟨by kernel_rfl, by kernel_rfl⟩)
theorem tabP.okc {F : Fm} {s : Ts} {k : Nat} {y : Tr} (hy : tabP F s k y) (hsz : ∀ r ∈ s.rows, ∀ c, c < F.xa.length -> (r.2.getD c eV.d).s.size < 1000000000) : ∀ c, c < y.xs.length -> ∀ i, i < s.next -> cmay (F.xa.getD c eC.d).kind ((y.xs.getD c dX).2.l.getD i eV.d) = true /\ ((y.xs.getD c dX).2.l.getD i eV.d).s.size < 1000000000 := fun c hc i hi => by
 rw [hy.xl] at hc
 cases h : s.is (i : Int) with
 | false =>
  have e := hy.rep.dead c hc i hi h
  rw [xsC] at e
  rw [e]
  exact ⟨cmay_null _, null_sz⟩
 | true =>
  obtain ⟨r, hr, e⟩ := Ts.is_iff.1 h
  have e2 : r.1 = i := by omega
  have e3 := hy.rep.val r hr c hc
  rw [xsC, e2] at e3
  rw [e3]
  exact ⟨hy.rep.ok r hr c hc, hsz r hr c hc⟩
theorem copy_rep {F : Fm} {s : Ts} {k : Nat} {y : Tr} (hy : tabP F s k y) {ys : List (Nat × Co)} (h : ys.map Prod.snd = F.xa.map newC) : TRep F.xa s ((turnX ys (copF y.xs F.xa) ys.length).map Prod.snd) y.lv k := by
 have hl : ys.length = F.xa.length := by have := congrArg List.length h; rwa [List.length_map, List.length_map] at this
 refine rep_copy hy.rep (by rw [List.length_map, turnX_len, hl]) fun c hc => ?_
 rw [xsC, xsC, turnX_get _ _ (by rw [hl]; exact hc), if_pos (by rw [hl]; exact hc)]
 rfl
theorem wcopy_ctr {q : Nat} {F : Fm} {s : Ts} {k : Nat} (hk : k < 70000) (hn : s.next <= 65536) (hsz : ∀ r ∈ s.rows, ∀ c, c < F.xa.length -> (r.2.getD c eV.d).s.size < 1000000000) : Ctr Tryz.prog nO 25 [.o (.p 1 q 0 0 0)] [.as (tabA q F s k)] ((Nat)) (fun _ => True) (fun r => .o (.p 11 r 0 0 0)) (fun r => [.as (tabA q F s k), .as (tabA r F s k)]) :=
 ctr_map (ctr_post (ctr_box (R' := Nat × Tr) (φ' := fun r => tabP F s k r.2) (res' := fun r => .o (.p 11 r.1 0 0 0)) (ψ := tabP F s k) (L := tabL q F s) (E := []) (ψ' := fun r => tabP F s k) (L' := fun r => tabL q F s) (E' := fun r => tabL r.1 F s r.2) [0, 1, 2, 3, 4, 5, 6] [0, 1, 2, 3, 4, 5, 6, 7, 8, 9, 10, 11, 12, 13] (fun y r => (r.1, { qa := r.2.1, ca := F.xa.length, za := y.za, ta := 42, ma := mdOf F.xa, qA := r.2.2.1, cA := r.2.2.2.1.length, zA := y.zA, tA := 91, mA := mdOf y.da, da := r.2.2.2.1, qp := r.2.2.2.2.1, zp := r.2.2.2.2.2.isEmpty, mp := .grown, xs := (turnX r.2.2.2.2.2 (copF y.xs F.xa) r.2.2.2.2.2.length), ql := y.ql, cL := y.cL, mL := .imm, lv := y.lv })) (fun y r => { y with mL := .imm })
  (fun y hy => tcopy_ctr (q := q) (na := F.name) (ka := F.key) (qa := y.qa) (ca := y.ca) (za := y.za) (xa := F.xa) (ta := y.ta) (ma := y.ma) (qA := y.qA) (cA := y.cA) (zA := y.zA) (da := y.da) (qp := y.qp) (zp := y.zp) (xs := y.xs) (ql := y.ql) (cL := y.cL) (lv := y.lv) (n := s.next) (tA := y.tA) (mA := y.mA) (mp := y.mp) (mL := y.mL) hy.za (by have := hy.fm.xl; omega) hy.zA (by have := hy.fm.dl; rw [hy.dl]; omega) hy.zp hy.dda hy.fm.kd hy.xl.symm hn hy.ll (fun c hc i hi => hy.okc hsz c hc i hi) (hy.fit hk))
  (fun y => ⟨by kernel_rfl, by kernel_rfl⟩)
  (fun y r hy hr => ⟨⟨hy.fm, hy.za, fun h => by have e := congrArg List.length hr.1; rw [List.length_map, List.length_map] at e; rw [e]; exact hy.zA h, fun h => by rw [turnX_len]; exact ise_len h, hr.1.trans hy.da, copy_rep hy hr.2⟩, rfl, ⟨hy.fm, hy.za, hy.zA, hy.zp, hy.da, hy.rep⟩⟩)
  (fun y r => ⟨by kernel_rfl, by kernel_rfl⟩)) (post' := fun r => [.as (tabA q F s k), .as (tabA r.1 F s k)]) (fun r hr => ge_cons _ (show GE (tabL r.1 F s r.2) Unit (fun _ => True) (fun _ => [.as (tabA r.1 F s k)]) from box_shut (φ := tabP F s k) (L := tabL r.1 F s) r.2 hr))) (fun r => r.1) (fun r _ => ⟨trivial, rfl, rfl⟩)
end Go.Proofs.YthkoolfmealabaaGreat
namespace Go.Proofs.YthkoolfmealabaaGreat
set_option maxHeartbeats 4000000
open Go.Abs
variable {nO : Nat}
set_option maxRecDepth 100000
attribute [local irreducible] GP ruP nxP acS gst cdP loP invS ent1 ent2 enP caA resV lgP agN
def eRw : En (Nat × Rw) := ⟨2, fun x => [.v (.int .i64 (x.2.1 : Int)), .s 921 x.1 3 0 x.2.2.length x.2.2.length x.2.2.isEmpty], (0, dR)⟩
def valA (x : Nat × Rw) : As := (vc eV 921 x.1 x.2.2 38 .grown x.2.2.isEmpty).den
structure Xr where
 qa : Nat
 ca : Nat
 za : Bool
 ta : TypeId
 qA : Nat
 cA : Nat
 zA : Bool
 tA : TypeId
 da : List De
 qr : Nat
 ws : List (Nat × Rw)
 F : Fm
 n : Nat
def dXr : Xr := ⟨0, 0, true, 0, 0, 0, true, 0, [], 0, [], ⟨⟨#[]⟩, ⟨#[]⟩, [], []⟩, 0⟩
def eTb : En Xr := ⟨4, fun x => [.v (.string x.F.name), .s 931 x.qa 4 0 x.F.xa.length x.ca x.za, .v (.string x.F.key), .s 932 x.qA 2 0 x.da.length x.cA x.zA], dXr⟩
def eRs : En Xr := ⟨1, fun x => [.s 933 x.qr 2 0 x.ws.length x.ws.length x.ws.isEmpty], dXr⟩
def xL (x : Xr) : List Ch := [vc eC 931 x.qa x.F.xa x.ta .imm x.za, vc (eD 906) 932 x.qA x.da x.tA .imm x.zA, .as (bigA (lefA 9) x.da), vc eRw 933 x.qr x.ws 98 .grown x.ws.isEmpty, .as (bigA valA x.ws)]
def xA (x : Xr) : As := hpA (xL x)
structure xP (x : Xr) : Prop where
 fm : FmOk x.F
 za : x.za = true -> x.F.xa.length = 0
 zA : x.zA = true -> x.da.length = 0
 da : x.da.map keyD = x.F.da
 wl : x.ws.length < 100000
 rl : ∀ w ∈ x.ws, w.2.2.length = x.F.xa.length
def Xr.s (x : Xr) : Ts := ⟨x.ws.map Prod.snd, x.n⟩
theorem rmayT {v : Va} (hs : v.s.size < 1000000000) (hk : vOk v = true) : Ctr Tryz.prog nO 13 [.a [.v (.int .i64 v.k), .v (.int .i64 v.n), .v (.string v.s)]] [] (Unit) (fun _ => True) (fun r => .o (.v (.bool true))) (fun r => []) :=
 ctr_map (rmay_ctr hs) id fun _ _ => ⟨trivial, congrArg Value.bool hk, rfl⟩
theorem typedT {v : Va} {c : Cd} (hs : v.s.size < 1000000000) (hk : vOk v = true) : Ctr Tryz.prog nO 53 [.a [.v (.int .i64 v.k), .v (.int .i64 v.n), .v (.string v.s)], .a [.v (.string c.name), .v (.int .i64 c.kind), .cb c.must, .v (.string c.to)]] [] (Unit) (fun _ => True) (fun r => .o (.cb (and (vOk v) (or (v.k == 0) (v.k == c.kind))))) (fun r => []) := by
 refine fs good 100 (fun B => ?_)
 refine go good (fun q101 => (o2 (rfl : [C1.v (.int .i64 v.k), .v (.int .i64 v.n), .v (.string v.s)].all C1.one = true) (rfl : [C1.v (.string c.name), .v (.int .i64 c.kind), .cb c.must, .v (.string c.to)].all C1.one = true))) (fun q101 => ?_)
 refine go good (fun _ => (o1 (rfl : (q101 100) = (q101 100)))) fun _ => ?_
 refine cl good (rmayT (v := v) hs hk) [] [] 102 fun _ _ => ?_
 refine go good (fun _ => (o3 (rfl : (q101 100) = (q101 100)) (fun (he : (!(v.k == 0)) = true) => have he : ¬ (v.k = 0) := (by simpa using he); (o1 (rfl : (q101 100) = (q101 100)))) (fun (he : (!(v.k == 0)) = true) => have he : ¬ (v.k = 0) := (by simpa using he); (o1 (rfl : (q101 101) = (q101 101)))))) fun _ => ?_
 exact rtv trivial (()) trivial [] (.o (.cb (or (v.k == 0) (v.k == c.kind)))) (congrArg Value.bool (by rw [hk]; simp))
theorem rmayF {v : Va} (hs : v.s.size < 1000000000) (hk : vOk v = false) : Ctr Tryz.prog nO 13 [.a [.v (.int .i64 v.k), .v (.int .i64 v.n), .v (.string v.s)]] [] (Unit) (fun _ => True) (fun r => .o (.v (.bool false))) (fun r => []) :=
 ctr_map (rmay_ctr hs) id fun _ _ => ⟨trivial, congrArg Value.bool hk, rfl⟩
theorem typedF {v : Va} {c : Cd} (hs : v.s.size < 1000000000) (hk : vOk v = false) : Ctr Tryz.prog nO 53 [.a [.v (.int .i64 v.k), .v (.int .i64 v.n), .v (.string v.s)], .a [.v (.string c.name), .v (.int .i64 c.kind), .cb c.must, .v (.string c.to)]] [] (Unit) (fun _ => True) (fun r => .o (.cb (and (vOk v) (or (v.k == 0) (v.k == c.kind))))) (fun r => []) := by
 refine fs good 100 (fun B => ?_)
 refine go good (fun q101 => (o2 (rfl : [C1.v (.int .i64 v.k), .v (.int .i64 v.n), .v (.string v.s)].all C1.one = true) (rfl : [C1.v (.string c.name), .v (.int .i64 c.kind), .cb c.must, .v (.string c.to)].all C1.one = true))) (fun q101 => ?_)
 refine go good (fun _ => (o1 (rfl : (q101 100) = (q101 100)))) fun _ => ?_
 refine cl good (rmayF (v := v) hs hk) [] [] 102 fun _ _ => ?_
 refine g0 good fun _ => ?_
 exact rtv trivial (()) trivial [] (.o (.v (.bool false))) (congrArg Value.bool (by rw [hk]; simp))
theorem typed_ctr {v : Va} {c : Cd} (hs : v.s.size < 1000000000) : Ctr Tryz.prog nO 53 [.a [.v (.int .i64 v.k), .v (.int .i64 v.n), .v (.string v.s)], .a [.v (.string c.name), .v (.int .i64 c.kind), .cb c.must, .v (.string c.to)]] [] (Unit) (fun _ => True) (fun r => .o (.cb (and (vOk v) (or (v.k == 0) (v.k == c.kind))))) (fun r => []) := by
 cases h : vOk v
 ·have := typedF (nO := nO) (c := c) hs h; rw [h] at this; exact this
 ·have := typedT (nO := nO) (c := c) hs h; rw [h] at this; exact this
theorem colof_ctr {na ka : ByteArray} {qa ca : Nat} {za : Bool} {xa : List Cd} {ta : TypeId} {ma : Md} {qA cA : Nat} {zA : Bool} {da : List De} {s : ByteArray} (hza : za = true -> xa.length = 0) (hla : xa.length < 1000000) : Ctr Tryz.prog nO 55 [.a [.v (.string na), .s 1 qa 4 0 xa.length ca za, .v (.string ka), .s 3 qA 2 0 da.length cA zA], .o (.v (.string s))] [vc eC 1 qa xa ta ma za] (Unit) (fun _ => True) (fun r => .o (.v (.int .i64 (idxF xa (fun c => strEq c.name s))))) (fun r => [vc eC 1 qa xa ta ma za]) := by
 refine fs good 100 (fun B => ?_)
 refine go good (fun q101 => (o1 (rfl : [C1.v (.string na), .s 1 qa 4 0 xa.length ca za, .v (.string ka), .s 3 qA 2 0 da.length cA zA].all C1.one = true))) (fun q101 => ?_)
 refine g0 good fun _ => ?_
 refine lp good ((Nat)) [1, 2] (fun r => [(5, .o (.v (.int .i64 (r : Int))))]) [0, 1] (fun _ => []) 121 (fun r => r <= xa.length /\ ∀ j, j < r -> strEq (xa.getD j eC.d).name s = false) (fun r => xa.length - r) (0) ⟨Nat.zero_le _, fun j hj => absurd hj (Nat.not_lt_zero j)⟩ [] (fun i hx ag103 => ?_)
 obtain ⟨hi, hn⟩ := hx
 refine go good (fun _ => (o1 (rfl : (q101 100) = (q101 100)))) fun _ => ?_
 refine cdD good ((i : Int) < (xa.length : Int)) (fun h1 => ?_) (fun h1 => ?_)
 ·refine go good (fun _ => (o6 (rfl : (q101 100) = (q101 100)) (nz i) (by omega : (i : Int) < (xa.length : Int)) (zf hza (show 0 < xa.length by omega) : za = false) (rfl : qa = _) (by omega : i < xa.length))) fun _ => ?_
  refine cd good (strEq ((xa.getD i eC.d).name) s) (fun h2 => ?_) (fun h2 => ?_)
  ·refine g0 good fun _ => ?_
   exact rtv trivial (()) trivial [1] (.o (.v (.int .i64 (i : Int)))) (congrArg (Value.int .i64) (idxF_some (d := eC.d) (p := fun c => strEq c.name s) (by omega) h2 hn).symm)
  ·refine go good (fun _ => (o2 (by omega : -9223372036854775808 <= (i : Int) + 1) (by omega : (i : Int) + 1 < 9223372036854775808))) fun _ => ?_
   exact ag103 _ _ (i + 1) (by first | omega | (simp only; omega)) ⟨by omega, fun j hj => by rcases Nat.lt_succ_iff_lt_or_eq.1 hj with h | h; exact hn j h; subst h; exact h2⟩ [0, 1] (by kernel_rfl) (by kernel_rfl)
 ·refine g0 good fun _ => ?_
  exact rtv trivial (()) trivial [1] (.o (.v (.int .i64 (-1)))) (congrArg (Value.int .i64) (idxF_none (d := eC.d) (p := fun c => strEq c.name s) (fun j hj => hn j (by omega))).symm)
theorem pos_ws {x : Xr} {id : Int} : x.s.pos id = idxF x.ws fun w => (w.2.1 : Int) == id := by
 show idxF (x.ws.map Prod.snd) _ = _
 unfold idxF
 rw [List.findIdx?_map]; rfl
theorem dbat_ctr {q qS qR qN : Nat} {xs : List Xr} {mR : Md} {t : Nat} {id : Int} (ht : t < xs.length) (hx : xP (xs.getD t dXr)) : Ctr Tryz.prog nO 54 [.o (.p 1 q 0 0 0), .o (.v (.int .i64 (t : Int))), .o (.v (.int .i64 id))] [.blk 1 q [.s 2 qS 4 0 xs.length xs.length xs.isEmpty, .s 3 qR 1 0 xs.length xs.length xs.isEmpty, .s 4 qN 1 0 xs.length xs.length xs.isEmpty] 66 .own, vc eRs 3 qR xs 96 mR xs.isEmpty, .as (bigA xA xs)] (Unit) (fun _ => True) (fun r => .o (.v (.int .i64 ((xs.getD t dXr).s.pos id)))) (fun r => [.blk 1 q [.s 2 qS 4 0 xs.length xs.length xs.isEmpty, .s 3 qR 1 0 xs.length xs.length xs.isEmpty, .s 4 qN 1 0 xs.length xs.length xs.isEmpty] 66 .own, vc eRs 3 qR xs 96 mR xs.isEmpty, .as (bigA xA xs)]) := by
 refine fs good 100 (fun B => ?_)
 have hwl := hx.wl
 refine gh (big_out (I := xA) (l := xs) t dXr (by omega)) [2] [] 100 fun _ _ => ?_
 refine gh (ge_un (l := xL (xs.getD t dXr))) [0] [] 100 fun _ _ => ?_
 refine g0 good fun _ => ?_
 refine g0 good fun _ => ?_
 refine lp good ((Nat)) [0, 1, 2] (fun r => [(7, .o (.v (.int .i64 (r : Int))))]) [0, 1, 2, 3, 4, 5, 6, 7] (fun _ => []) 120 (fun r => r <= (xs.getD t dXr).ws.length /\ ∀ j, j < r -> ((((xs.getD t dXr).ws.getD j eRw.d).2.1 : Int) == id) = false) (fun r => (xs.getD t dXr).ws.length - r) (0) ⟨Nat.zero_le _, fun j hj => absurd hj (Nat.not_lt_zero j)⟩ [] (fun i hx ag103 => ?_)
 obtain ⟨hi, hn⟩ := hx
 refine go good (fun _ => (o6 (rfl : q = _) (nz t) (by omega : (t : Int) < (xs.length : Int)) (zfe (by omega) : xs.isEmpty = false) (rfl : qR = _) (by omega : t < xs.length))) fun _ => ?_
 refine cdD good ((i : Int) < (((xs.getD t dXr).ws.length : Nat) : Int)) (fun h1 => ?_) (fun h1 => ?_)
 ·refine go good (fun _ => (oc (rfl : q = _) (nz t) (by omega : (t : Int) < (xs.length : Int)) (zfe (by omega) : xs.isEmpty = false) (rfl : qR = _) (by omega : t < xs.length) (o5 (nz i) (by omega : (i : Int) < (((xs.getD t dXr).ws.length : Nat) : Int)) (zfe (by omega) : (xs.getD t dXr).ws.isEmpty = false) (rfl : (xs.getD t dXr).qr = (xs.getD t dXr).qr) (by omega : i < ((xs.getD t dXr).ws).length)))) fun _ => ?_
  refine cd good (((((xs.getD t dXr).ws).getD i eRw.d).2.1 : Int) == id) (fun h2 => ?_) (fun h2 => ?_)
  ·refine g0 good fun _ => ?_
   refine gh (ge_all (l := xL (xs.getD t dXr))) [0, 1, 2, 3, 4] [] 120 fun _ _ => ?_
   refine gh (big_bk (I := xA) (l := xs) t dXr (by omega)) [0, 1] [] 120 fun _ _ => ?_
   exact rtv trivial (()) trivial [1, 2, 0] (.o (.v (.int .i64 (i : Int)))) (congrArg (Value.int .i64) (pos_ws.trans (idxF_some (d := eRw.d) (by omega) h2 hn)).symm)
  ·refine go good (fun _ => (o2 (by omega : -9223372036854775808 <= (i : Int) + 1) (by omega : (i : Int) + 1 < 9223372036854775808))) fun _ => ?_
   exact ag103 _ _ (i + 1) (by first | omega | (simp only; omega)) ⟨by omega, fun j hj => by rcases Nat.lt_succ_iff_lt_or_eq.1 hj with h | h; exact hn j h; subst h; exact h2⟩ [0, 1, 2, 3, 4, 5, 6, 7] (by kernel_rfl) (by kernel_rfl)
 ·refine g0 good fun _ => ?_
  refine gh (ge_all (l := xL (xs.getD t dXr))) [0, 1, 2, 3, 4] [] 120 fun _ _ => ?_
  refine gh (big_bk (I := xA) (l := xs) t dXr (by omega)) [0, 1] [] 120 fun _ _ => ?_
  exact rtv trivial (()) trivial [1, 2, 0] (.o (.v (.int .i64 (-1)))) (congrArg (Value.int .i64) (pos_ws.trans (idxF_none (d := eRw.d) (fun j hj => hn j (by omega)))).symm)
end Go.Proofs.YthkoolfmealabaaGreat
