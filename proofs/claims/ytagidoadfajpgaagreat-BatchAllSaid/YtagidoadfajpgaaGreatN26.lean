/-
  Ub.
-/
import Derived.Test.YtagidoadfajpgaaGreatN25
import Derived.Test.YtagidoadfajpgaaGreatN21
import Derived.Test.YtagidoadfajpgaaGreatN15
namespace Go.Proofs.YtagidoadfajpgaaGreat
set_option maxHeartbeats 4000000
open Go.Abs
variable {nO : Nat}
set_option maxRecDepth 100000
attribute [local irreducible] GP ruP nxP acS gst cdP loP j6 m9 m8 enP caA n5 lgP agN
theorem a7X {q : Nat} {na ka : ByteArray} {qa ca : Nat} {za : Bool} {xa : List Cd} {ta : TypeId} {ma : Md} {qA cA : Nat} {zA : Bool} {da : List De} {qp : Nat} {zp : Bool} {xs : List (Nat × Co)} {ql cL : Nat} {lv : List Sp} {n : Nat} {mL : Md} {id : Int} {s : ByteArray} {v : Va} (hza : za = true -> xa.length = 0) (hla : xa.length < 1000000) (hll : lv.length < 1000000) (hno : has lv id = false) : K1 nO 68 [.o (.p 1 q 0 0 0), .o (.i id), .o (.t s), .a [.i v.k, .i v.n, .t v.s]] [.blk 1 q [.t na, .s 2 qa 4 0 xa.length ca za, .t ka, .s 3 qA 2 0 da.length cA zA, .s 4 qp 1 0 xs.length xs.length zp, .s 5 ql 2 0 lv.length cL lv.isEmpty, .i (n : Int)] 148 .own, vc eC 2 qa xa ta ma za, vc eP 5 ql lv 171 mL lv.isEmpty] (.o (.i 6)) := by
 refine fs 100 fun B => g0 fun q101 => g0 fun _ => cl (@M9 _ q na ka qa ca za xa ta ma qA cA zA da qp zp xs ql cL lv n s (by assumption) (by omega)) [1, 2] [] 101 fun _ _ => g0 fun _ => g0 fun _ => cl (@J1 _ ql cL lv 171 mL id (by omega)) [3] [(1, 5)] 101 fun _ _ => g0 fun _ => cdT (b := !(has lv id)) (by rw [hno]; rfl) <| g0 fun _ => rt trivial (()) trivial [1, 2, 0]
theorem a7Y {q : Nat} {na ka : ByteArray} {qa ca : Nat} {za : Bool} {xa : List Cd} {ta : TypeId} {ma : Md} {qA cA : Nat} {zA : Bool} {da : List De} {qp : Nat} {zp : Bool} {xs : List (Nat × Co)} {ql cL : Nat} {lv : List Sp} {n : Nat} {mL : Md} {id : Int} {s : ByteArray} {v : Va} (hza : za = true -> xa.length = 0) (hla : xa.length < 1000000) (hll : lv.length < 1000000) (hhas : has lv id = true) (hcn : e9 xa (fun c => a7 c.name s) = -1) : K1 nO 68 [.o (.p 1 q 0 0 0), .o (.i id), .o (.t s), .a [.i v.k, .i v.n, .t v.s]] [.blk 1 q [.t na, .s 2 qa 4 0 xa.length ca za, .t ka, .s 3 qA 2 0 da.length cA zA, .s 4 qp 1 0 xs.length xs.length zp, .s 5 ql 2 0 lv.length cL lv.isEmpty, .i (n : Int)] 148 .own, vc eC 2 qa xa ta ma za, vc eP 5 ql lv 171 mL lv.isEmpty] (.o (.i 3)) := by
 refine fs 100 fun B => g0 fun q101 => g0 fun _ => cl (@M9 _ q na ka qa ca za xa ta ma qA cA zA da qp zp xs ql cL lv n s (by assumption) (by omega)) [1, 2] [] 101 fun _ _ => g0 fun _ => g0 fun _ => cl (@J1 _ ql cL lv 171 mL id (by omega)) [3] [(1, 5)] 101 fun _ _ => g0 fun _ => cdF (b := !(has lv id)) (by rw [hhas]; rfl) <| g0 fun _ => cdT (b := decide (e9 xa (fun c => a7 c.name s) < 0)) (decide_eq_true (by rw [hcn]; decide)) <| g0 fun _ => rt trivial (()) trivial [1, 2, 0]
theorem a7W {q : Nat} {na ka : ByteArray} {qa ca : Nat} {za : Bool} {xa : List Cd} {ta : TypeId} {ma : Md} {qA cA : Nat} {zA : Bool} {da : List De} {qp : Nat} {zp : Bool} {xs : List (Nat × Co)} {ql cL : Nat} {lv : List Sp} {n : Nat} {mL : Md} {id : Int} {s : ByteArray} {v : Va} {j : Nat} (hza : za = true -> xa.length = 0) (hla : xa.length < 1000000) (hll : lv.length < 1000000) (hhas : has lv id = true) (hj : e9 xa (fun c => a7 c.name s) = (j : Int)) (hjx : j < xa.length) (hs : v.s.size < 1000000000) (hok : g9 xa j v = false) : K1 nO 68 [.o (.p 1 q 0 0 0), .o (.i id), .o (.t s), .a [.i v.k, .i v.n, .t v.s]] [.blk 1 q [.t na, .s 2 qa 4 0 xa.length ca za, .t ka, .s 3 qA 2 0 da.length cA zA, .s 4 qp 1 0 xs.length xs.length zp, .s 5 ql 2 0 lv.length cL lv.isEmpty, .i (n : Int)] 148 .own, vc eC 2 qa xa ta ma za, vc eP 5 ql lv 171 mL lv.isEmpty] (.o (.i 4)) := by
 refine fs 100 fun B => g0 fun q101 => g0 fun _ => cl (@M9 _ q na ka qa ca za xa ta ma qA cA zA da qp zp xs ql cL lv n s (by assumption) (by omega)) [1, 2] [] 101 fun _ _ => g0 fun _ => sv 9 (v := .o (.i (e9 xa (fun c => a7 c.name s)))) (v' := .o (.i (j : Int))) (by rw [hj]) <| g0 fun _ => cl (@J1 _ ql cL lv 171 mL id (by omega)) [3] [(1, 5)] 101 fun _ _ => g0 fun _ => cdF (b := !(has lv id)) (by rw [hhas]; rfl) <| g0 fun _ => cdF (b := decide ((j : Int) < 0)) (decide_eq_false (by omega)) <| g0 fun _ => cl (@a0j _ q na ka qa ca za xa ta ma qA cA zA da qp zp xs ql cL lv n j v (by assumption) (by omega) (by omega) hs) [1, 2] [] 101 fun _ _ => g0 fun _ => cdT (b := !(g9 xa j v)) (by rw [hok]; rfl) <| g0 fun _ => rt trivial (()) trivial [0, 1, 2]
theorem b4G {xs : List (Nat × Co)} {j : Nat} (c : Co) (h : j < xs.length) : (xs.set j ((xs.getD j dX).1, c)).map Prod.fst = xs.map Prod.fst := by
 rw [List.map_set]
 apply List.ext_getElem
 ·simp
 ·intro m h1 h2
  rw [List.getElem_set]
  split
  ·rename_i e; subst e; rw [List.getElem_map, a8 h]
  ·rfl
theorem b1z {q : Nat} {na ka : ByteArray} {qa ca : Nat} {za : Bool} {xa : List Cd} {ta : TypeId} {ma : Md} {qA cA : Nat} {zA : Bool} {da : List De} {qp : Nat} {zp : Bool} {xs : List (Nat × Co)} {ql cL : Nat} {lv : List Sp} {n : Nat} {mL mp : Md} {id : Nat} {s : ByteArray} {v : Va} {j : Nat} (hza : za = true -> xa.length = 0) (hla : xa.length < 1000000) (hll : lv.length < 1000000) (hzp : zp = true -> xs.length = 0) (hhas : has lv (id : Int) = true) (hj : e9 xa (fun c => a7 c.name s) = (j : Int)) (hjx : j < xa.length) (hax : xa.length = xs.length) (hs : v.s.size < 1000000000) (hok : g9 xa j v = true) (hk : (xs.getD j dX).2.kind = (xa.getD j eC.d).kind) (hid : id < (xs.getD j dX).2.l.length) (hf : (xs.getD j dX).2.Fit) : Ctr Tryz.prog nO 68 [.o (.p 1 q 0 0 0), .o (.i (id : Int)), .o (.t s), .a [.i v.k, .i v.n, .t v.s]] [.blk 1 q [.t na, .s 2 qa 4 0 xa.length ca za, .t ka, .s 3 qA 2 0 da.length cA zA, .s 4 qp 1 0 xs.length xs.length zp, .s 5 ql 2 0 lv.length cL lv.isEmpty, .i (n : Int)] 148 .own, vc eC 2 qa xa ta ma za, vc eX 4 qp xs 156 mp zp, .as (e6 q0 xs), vc eP 5 ql lv 171 mL lv.isEmpty] (Unit) (fun _ => True) (fun r => .o (.i 0)) (fun r => [.blk 1 q [.t na, .s 2 qa 4 0 xa.length ca za, .t ka, .s 3 qA 2 0 da.length cA zA, .s 4 qp 1 0 ((xs.set j ((xs.getD j dX).1, ((xs.getD j dX).2.put id v))).length) ((xs.set j ((xs.getD j dX).1, ((xs.getD j dX).2.put id v))).length) zp, .s 5 ql 2 0 lv.length cL lv.isEmpty, .i (n : Int)] 148 .own, vc eC 2 qa xa ta ma za, vc eX 4 qp (xs.set j ((xs.getD j dX).1, ((xs.getD j dX).2.put id v))) 156 mp zp, .as (e6 q0 (xs.set j ((xs.getD j dX).1, ((xs.getD j dX).2.put id v)))), vc eP 5 ql lv 171 mL lv.isEmpty]) := by
 refine fs 100 (fun B => ?_)
 obtain ⟨f1, f2, f3, f4⟩ := hf
 refine g0 fun q101 => g0 fun _ => cl (@M9 _ q na ka qa ca za xa ta ma qA cA zA da qp zp xs ql cL lv n s (by assumption) (by omega)) [1, 2] [] 101 fun _ _ => g0 fun _ => sv 9 (v := .o (.i (e9 xa (fun c => a7 c.name s)))) (v' := .o (.i (j : Int))) (by rw [hj]) <| g0 fun _ => cl (@J1 _ ql cL lv 171 mL (id : Int) (by omega)) [5] [(1, 5)] 101 fun _ _ => g0 fun _ => cdF (b := !(has lv (id : Int))) (by rw [hhas]; rfl) <| g0 fun _ => cdF (b := decide ((j : Int) < 0)) (decide_eq_false (by omega)) <| g0 fun _ => cl (@a0j _ q na ka qa ca za xa ta ma qA cA zA da qp zp xs ql cL lv n j v (by assumption) (by omega) (by omega) hs) [1, 2] [] 101 fun _ _ => g0 fun _ => cdF (b := !(g9 xa j v)) (by rw [hok]; rfl) <| go (fun _ => (o4 (nz j) (by omega : (j : Int) < (xs.length : Int)) (zf hzp (show 0 < xs.length by omega) : zp = false) (by omega : j < xs.length))) fun _ => gh (f8 (I := q0) (l := xs) j dX (by omega)) [5] [] 101 fun _ _ => gh (f9 (φ := fun _ => True) (L := a1Y (xs.getD j dX))) [0] [] 101 fun ⟨ql113, xv113⟩ _ => cl (@a6l _ ((xs.getD j dX).1) ql113 ((xs.getD j dX).2.kind) ((xs.getD j dX).2.l) xv113 ((xs.getD j dX).2.nulls) ((xs.getD j dX).2.ws) ((xs.getD j dX).2.b) id v (by rw [b0D, hk]; exact hok) (by omega) hs (by omega) (by omega) (by omega)) [0, 1, 2] [(1, 911), (2, 912)] 101 fun x2114 _ => gh (d5 (φ := fun _ => True) (L := a1Y ((xs.getD j dX).1, ((xs.getD j dX).2.put id v))) (ql113, x2114) trivial) [0, 1, 2] [] 101 fun _ _ => gh (U5 (I := q0) (l := xs) j dX ((xs.getD j dX).1, ((xs.getD j dX).2.put id v)) (by omega)) [0, 1] [] 101 fun _ _ => g0 fun _ => gh (b6 (l := [vc eX 4 qp xs 156 mp zp]) (l' := [vc eX 4 qp (xs.set j ((xs.getD j dX).1, ((xs.getD j dX).2.put id v))) 156 mp zp]) (b23 (b4G _ (by omega)).symm)) [5] [] 101 fun _ _ => gh (b6 (l := [.blk 1 q [.t na, .s 2 qa 4 0 xa.length ca za, .t ka, .s 3 qA 2 0 da.length cA zA, .s 4 qp 1 0 xs.length xs.length zp, .s 5 ql 2 0 lv.length cL lv.isEmpty, .i (n : Int)] 148 .own]) (l' := [.blk 1 q [.t na, .s 2 qa 4 0 xa.length ca za, .t ka, .s 3 qA 2 0 da.length cA zA, .s 4 qp 1 0 ((xs.set j ((xs.getD j dX).1, ((xs.getD j dX).2.put id v))).length) ((xs.set j ((xs.getD j dX).1, ((xs.getD j dX).2.put id v))).length) zp, .s 5 ql 2 0 lv.length cL lv.isEmpty, .i (n : Int)] 148 .own]) (by rw [List.length_set])) [2] [] 101 fun _ _ => rt trivial (()) trivial [0, 3, 1, 2, 4]
theorem b1C {q : Nat} {na ka : ByteArray} {qa ca : Nat} {za : Bool} {xa : List Cd} {ta : TypeId} {ma : Md} {qA cA : Nat} {zA : Bool} {da : List De} {qp : Nat} {zp : Bool} {xs : List (Nat × Co)} {ql cL : Nat} {lv : List Sp} {n : Nat} {mL mp : Md} {id : Nat} {s : ByteArray} {j : Nat} (hza : za = true -> xa.length = 0) (hla : xa.length < 1000000) (hll : lv.length < 1000000) (hzp : zp = true -> xs.length = 0) (hhas : has lv (id : Int) = true) (hj : e9 xa (fun c => a7 c.name s) = (j : Int)) (hjx : j < xs.length) (hid : id < (xs.getD j dX).2.l.length) (hf : (xs.getD j dX).2.Fit) : K1 nO 77 [.o (.p 1 q 0 0 0), .o (.i (id : Int)), .o (.t s)] [.blk 1 q [.t na, .s 2 qa 4 0 xa.length ca za, .t ka, .s 3 qA 2 0 da.length cA zA, .s 4 qp 1 0 xs.length xs.length zp, .s 5 ql 2 0 lv.length cL lv.isEmpty, .i (n : Int)] 148 .own, vc eC 2 qa xa ta ma za, vc eX 4 qp xs 156 mp zp, .as (e6 q0 xs), vc eP 5 ql lv 171 mL lv.isEmpty] (.t [(true, [.i (((xs.getD j dX).2.l.getD id eV.d).k), .i (((xs.getD j dX).2.l.getD id eV.d).n), .t (((xs.getD j dX).2.l.getD id eV.d).s)]), (false, [.v (.bool true)])]) := by
 refine fs 100 (fun B => ?_)
 obtain ⟨f1, f2, f3, f4⟩ := hf
 refine g0 fun q101 => g0 fun _ => cl (@M9 _ q na ka qa ca za xa ta ma qA cA zA da qp zp xs ql cL lv n s (by assumption) (by omega)) [1, 2] [] 101 fun _ _ => g0 fun _ => sv 8 (v := .o (.i (e9 xa (fun c => a7 c.name s)))) (v' := .o (.i (j : Int))) (by rw [hj]) <| g0 fun _ => clm (@J1 _ ql cL lv 171 mL (id : Int) (by omega)) [5] trivial <| gh (b6 (l := [vc eP 5 ql lv 171 mL lv.isEmpty]) (l' := [vc eP 5 ql lv 171 mL lv.isEmpty]) rfl) [0] [] 101 fun _ _ => g0 fun _ => cdF (b := or (decide ((j : Int) < 0)) (!(has lv (id : Int)))) (by rw [hhas, decide_eq_false (show ¬ (j : Int) < 0 by omega)]; rfl) <| go (fun _ => (o4 (nz j) (by omega : (j : Int) < (xs.length : Int)) (zf hzp (show 0 < xs.length by omega) : zp = false) (by omega : j < xs.length))) fun _ => gh (f8 (I := q0) (l := xs) j dX (by omega)) [5] [] 101 fun _ _ => gh (f9 (φ := fun _ => True) (L := a1Y (xs.getD j dX))) [0] [] 101 fun ⟨ql108, xv108⟩ _ => cl (@a5d _ ((xs.getD j dX).1) ql108 ((xs.getD j dX).2.kind) ((xs.getD j dX).2.l) xv108 ((xs.getD j dX).2.nulls) id (by omega) (by omega)) [0, 1] [(1, 911), (2, 912)] 101 fun _ _ => gh (d5 (φ := fun _ => True) (L := a1Y (xs.getD j dX)) (ql108, xv108) trivial) [0, 1, 2] [] 101 fun _ _ => gh (j9 (I := q0) (l := xs) j dX (by omega)) [0, 1] [] 101 fun _ _ => g0 fun _ => rt trivial (()) trivial [2, 3, 5, 0, 1]
theorem a74 {q : Nat} {na ka : ByteArray} {qa ca : Nat} {za : Bool} {xa : List Cd} {qA cA : Nat} {zA : Bool} {da : List De} {qp : Nat} {zp : Bool} {xs : List (Nat × Co)} {ql cL : Nat} {lv : List Sp} {n qv cv : Nat} {zv : Bool} {vs : List Va} {tv : TypeId} {mv : Md} (hn : n < 65536) (hvx : vs.length ≠ xs.length) : K1 nO 60 [.o (.p 1 q 0 0 0), .o (.s 6 qv 3 0 vs.length cv zv)] [.blk 1 q [.t na, .s 2 qa 4 0 xa.length ca za, .t ka, .s 3 qA 2 0 da.length cA zA, .s 4 qp 1 0 xs.length xs.length zp, .s 5 ql 2 0 lv.length cL lv.isEmpty, .i (n : Int)] 148 .own, vc eV 6 qv vs tv mv zv] (.t [(false, [.i 0]), (false, [.i 1])]) := by
 refine fs 100 fun B => g0 fun _ => g0 fun _ => cdF rfl <| g0 fun _ => cdF (b := decide ((n : Int) ≥ 65536)) (decide_eq_false (by omega)) <| g0 fun _ => cdT (b := ((vs.length : Int) != (xs.length : Int))) (by simp; omega) <| g0 fun _ => rt trivial (()) trivial [0, 1]
end Go.Proofs.YtagidoadfajpgaaGreat
namespace Go.Proofs.YtagidoadfajpgaaGreat
set_option maxHeartbeats 4000000
open Go.Abs
variable {nO : Nat}
set_option maxRecDepth 8000
attribute [local irreducible] GP ruP nxP acS gst cdP loP j6 m9 m8 enP caA n5 lgP agN
theorem a12 {q c : Nat} {z : Bool} {xs : List Cd} {t : TypeId} {m : Md} (hz : z = true -> xs.length = 0) (hl : xs.length < 1000000) : Ctr Tryz.prog nO 124 [.o (.s 1 q 4 0 xs.length c z)] [vc eC 1 q xs t m z] ((Nat)) (fun _ => True) (fun r => .o (.s 2 r 4 0 xs.length xs.length z)) (fun r => [vc eC 2 r xs 130 (n8 xs) z, vc eC 1 q xs t m z]) := by
 refine fs 100 fun B => g0 fun _ => g0 fun _ => cd (z == true) (fun h1 => ?_) (fun h1 => ?_)
 ·have h1 : z = true := by simpa using h1
  refine g0 fun _ => gh (e7 100 4 eC.f eC.d 130 (n8 ([] : List (Cd)))) [] [] 101 fun _ _ => gh (b6 (l := [vc eC 100 0 ([] : List (Cd)) 130 (n8 ([] : List (Cd))) true]) (l' := [vc eC 100 0 xs 130 (n8 xs) z]) (by rw [h1, (List.length_eq_zero_iff.1 (hz h1) : xs = [])])) [0] [] 101 fun _ _ => rtv trivial (0) trivial [0, 1] (.o (.v (.slice none 0 0))) (by simp [SV.den, C1.den, h1, hz h1])
 ·have h1 : ¬ (z = true) := by simpa using h1
  have h1 : z = false := by simpa using h1
  refine g0 fun q104 => ap0 eC xs 100 (q104 100) (vc eC 1 q xs t m z) q 0 xs.length c z 101 [0, 1] 102 130 (by omega) L0 fun q105 => g0 fun _ => gh (b6 (l := [vc eC 101 q105 xs 130 (n8 xs) false]) (l' := [vc eC 101 q105 xs 130 (n8 xs) z]) (by rw [h1])) [0] [] 102 fun _ _ => rtv trivial (q105) trivial [0, 1] (.o (.s 101 q105 4 0 xs.length xs.length false)) (by rw [h1]; rfl)
theorem a11 {q c : Nat} {z : Bool} {xs : List De} {t : TypeId} {m : Md} (hz : z = true -> xs.length = 0) (hl : xs.length < 1000000) : Ctr Tryz.prog nO 125 [.o (.s 1 q 2 0 xs.length c z)] [vc (eD 906) 1 q xs t m z] ((Nat)) (fun _ => True) (fun r => .o (.s 2 r 2 0 xs.length xs.length z)) (fun r => [vc (eD 906) 2 r xs 161 (n8 xs) z, vc (eD 906) 1 q xs t m z]) := by
 refine fs 100 fun B => g0 fun _ => g0 fun _ => cd (z == true) (fun h1 => ?_) (fun h1 => ?_)
 ·have h1 : z = true := by simpa using h1
  refine g0 fun _ => gh (e7 100 2 (eD 906).f (eD 906).d 161 (n8 ([] : List (De)))) [] [] 101 fun _ _ => gh (b6 (l := [vc (eD 906) 100 0 ([] : List (De)) 161 (n8 ([] : List (De))) true]) (l' := [vc (eD 906) 100 0 xs 161 (n8 xs) z]) (by rw [h1, (List.length_eq_zero_iff.1 (hz h1) : xs = [])])) [0] [] 101 fun _ _ => rtv trivial (0) trivial [0, 1] (.o (.v (.slice none 0 0))) (by simp [SV.den, C1.den, h1, hz h1])
 ·have h1 : ¬ (z = true) := by simpa using h1
  have h1 : z = false := by simpa using h1
  refine g0 fun q104 => ap0 (eD 906) xs 100 (q104 100) (vc (eD 906) 1 q xs t m z) q 0 xs.length c z 101 [0, 1] 102 161 (by omega) L0 fun q105 => g0 fun _ => gh (b6 (l := [vc (eD 906) 101 q105 xs 161 (n8 xs) false]) (l' := [vc (eD 906) 101 q105 xs 161 (n8 xs) z]) (by rw [h1])) [0] [] 102 fun _ _ => rtv trivial (q105) trivial [0, 1] (.o (.s 101 q105 2 0 xs.length xs.length false)) (by rw [h1]; rfl)
theorem a10 {q c : Nat} {z : Bool} {xs : List ByteArray} {t : TypeId} {m : Md} (hz : z = true -> xs.length = 0) (hl : xs.length < 1000000) : Ctr Tryz.prog nO 126 [.o (.s 1 q 1 0 xs.length c z)] [vc eS 1 q xs t m z] ((Nat)) (fun _ => True) (fun r => .o (.s 2 r 1 0 xs.length xs.length z)) (fun r => [vc eS 2 r xs 9 (n8 xs) z, vc eS 1 q xs t m z]) := by
 refine fs 100 fun B => g0 fun _ => g0 fun _ => cd (z == true) (fun h1 => ?_) (fun h1 => ?_)
 ·have h1 : z = true := by simpa using h1
  refine g0 fun _ => gh (e7 100 1 eS.f eS.d 9 (n8 ([] : List (ByteArray)))) [] [] 101 fun _ _ => gh (b6 (l := [vc eS 100 0 ([] : List (ByteArray)) 9 (n8 ([] : List (ByteArray))) true]) (l' := [vc eS 100 0 xs 9 (n8 xs) z]) (by rw [h1, (List.length_eq_zero_iff.1 (hz h1) : xs = [])])) [0] [] 101 fun _ _ => rtv trivial (0) trivial [0, 1] (.o (.v (.slice none 0 0))) (by simp [SV.den, C1.den, h1, hz h1])
 ·have h1 : ¬ (z = true) := by simpa using h1
  have h1 : z = false := by simpa using h1
  refine g0 fun q104 => ap0 eS xs 100 (q104 100) (vc eS 1 q xs t m z) q 0 xs.length c z 101 [0, 1] 102 9 (by omega) L0 fun q105 => g0 fun _ => gh (b6 (l := [vc eS 101 q105 xs 9 (n8 xs) false]) (l' := [vc eS 101 q105 xs 9 (n8 xs) z]) (by rw [h1])) [0] [] 102 fun _ _ => rtv trivial (q105) trivial [0, 1] (.o (.s 101 q105 1 0 xs.length xs.length false)) (by rw [h1]; rfl)
theorem a3e {q : Nat} {na ka : ByteArray} {qa ca : Nat} {za : Bool} {xa : List Cd} {ta : TypeId} {ma : Md} {qA cA : Nat} {zA : Bool} {da : List De} {qp : Nat} {zp : Bool} {xs : List (Nat × Co)} {ql cL : Nat} {lv : List Sp} {n : Nat} {tA : TypeId} {mA : Md} (hza : za = true -> xa.length = 0) (hla : xa.length < 1000000) (hzA : zA = true -> da.length = 0) (hlA : da.length < 1000000) (hda : ∀ i, i < da.length -> (da.getD i dD).l.length < 1000000) : Ctr Tryz.prog nO 74 [.o (.p 1 q 0 0 0)] [.blk 1 q [.t na, .s 2 qa 4 0 xa.length ca za, .t ka, .s 3 qA 2 0 da.length cA zA, .s 4 qp 1 0 xs.length xs.length zp, .s 5 ql 2 0 lv.length cL lv.isEmpty, .i (n : Int)] 148 .own, vc eC 2 qa xa ta ma za, vc (eD 906) 3 qA da tA mA zA, .as (e6 (n4 9) da)] ((Nat) × (Nat) × (List De)) (fun r => r.2.2.map e8 = da.map e8) (fun r => .a [.t na, .s 7 r.1 4 0 xa.length xa.length za, .t ka, .s 8 r.2.1 2 0 r.2.2.length r.2.2.length zA]) (fun r => [.blk 1 q [.t na, .s 2 qa 4 0 xa.length ca za, .t ka, .s 3 qA 2 0 da.length cA zA, .s 4 qp 1 0 xs.length xs.length zp, .s 5 ql 2 0 lv.length cL lv.isEmpty, .i (n : Int)] 148 .own, vc eC 2 qa xa ta ma za, vc (eD 906) 3 qA da tA mA zA, .as (e6 (n4 9) da), vc eC 7 r.1 xa 130 (n8 xa) za, vc (eD 906) 8 r.2.1 r.2.2 161 (n8 da) zA, .as (e6 (n4 9) r.2.2)]) := by
 refine fs 100 fun B => g0 fun q101 => g0 fun _ => cdF rfl <| g0 fun q103 => g0 fun _ => cl (@a12 _ qa ca za xa ta ma (by assumption) (by omega)) [3] [(1, 2), (2, 102)] 103 fun q2105 _ => g0 fun _ => g0 fun _ => cl (@a11 _ qA cA zA da tA mA (by assumption) (by omega)) [5] [(1, 3), (2, 103)] 104 fun q2108 _ => g0 fun _ => g0 fun _ => gh (b6 (l := [vc (eD 906) 103 q2108 da 161 (n8 da) zA]) (l' := [vc (eD 906) 103 q2108 ([] ++ da.drop 0) 161 (n8 da) zA]) rfl) [0] [] 104 fun _ _ => gh (p5 (I := (n4 9))) [] [] 104 fun _ _ => lp ((Nat) × (List De)) [2, 3, 22] (fun r => [(23, .o (.i (r.1 : Int)))]) [2, 3, 4, 5, 6, 7, 8] (fun r => [vc (eD 906) 103 q2108 (r.2 ++ da.drop r.1) 161 (n8 da) zA, .as (e6 (n4 9) r.2)]) 124 (fun r => r.1 <= da.length /\ r.2.length = r.1 /\ r.2.map e8 = (da.take r.1).map e8) (fun r => da.length - r.1) (⟨0, []⟩) ⟨Nat.zero_le _, rfl, rfl⟩ [1, 0] (fun ⟨i, nw⟩ hx ag111 => ?_)
 try dsimp only at hx
 obtain ⟨hi, hni, hkn⟩ := hx
 refine g0 fun _ => cdD ((i : Int) < (da.length : Int)) (fun h2 => ?_) (fun h2 => ?_)
 ·have hdl := hda i (by omega)
  have hcl : (nw ++ da.drop i).length = da.length := by rw [List.length_append, List.length_drop]; omega
  refine g0 fun _ => go (fun _ => (o4 (nz i) (by omega : (i : Int) < (da.length : Int)) (zf hzA (show 0 < da.length by omega) : zA = false) (by omega : i < (nw ++ da.drop i).length))) fun _ => gh (f8 (I := (n4 9)) (l := da) i dD (by omega)) [8] [] 124 fun _ _ => gh (a1t (c := vc eS 906 ((da.getD i dD).q) ((da.getD i dD).l) 9 .imm false) (I := ((n4 9) (da.getD i dD)))) [0] [] 124 fun _ _ => sv 34 (v := .o (.s 906 (((nw ++ da.drop i).getD i dD).q) 1 0 (((nw ++ da.drop i).getD i dD).l.length) (((nw ++ da.drop i).getD i dD).l.length) false)) (v' := .o (.s 906 ((da.getD i dD).q) 1 0 ((da.getD i dD).l.length) ((da.getD i dD).l.length) false)) (by rw [a2w (by omega) hni]) <| cl (@a10 _ ((da.getD i dD).q) ((da.getD i dD).l.length) false ((da.getD i dD).l) 9 .imm (fun h => nomatch h) (by omega)) [0] [(1, 906), (2, 124)] 125 fun q2115 _ => gh (x4 (c := vc eS 906 ((da.getD i dD).q) ((da.getD i dD).l) 9 .imm false) (I := ((n4 9) (da.getD i dD)))) [1] [] 125 fun _ _ => gh (j9 (I := (n4 9)) (l := da) i dD (by omega)) [0, 2] [] 125 fun _ _ => gh (k7 (E := eS) (g := 124) (q := q2115) (xs := ((da.getD i dD).l)) (t := 9) (m := (n8 ((da.getD i dD).l))) (z := false)) [1] [] 125 fun _ _ => gh (x4 (c := vc eS 124 q2115 ((da.getD i dD).l) 9 .imm false) (I := ((n4 9) (⟨q2115, (da.getD i dD).l, (da.getD i dD).r⟩ : De)))) [0] [] 125 fun _ _ => gh (i6 (I := (n4 9)) (l := nw) (x := (⟨q2115, (da.getD i dD).l, (da.getD i dD).r⟩ : De))) [0, 3] [] 125 fun _ _ => go (fun _ => (o3 (nz i) (by omega : (i : Int) < (da.length : Int)) (zf hzA (show 0 < da.length by omega) : zA = false))) fun _ => vst (eD 906) (nw ++ da.drop i) ⟨q2115, (da.getD i dD).l, ((nw ++ da.drop i).getD i dD).r⟩ ((nw ++ [(⟨q2115, (da.getD i dD).l, (da.getD i dD).r⟩ : De)]) ++ da.drop (i + 1)) 103 103 q2108 i 0 161 (n8 da) zA [.s 124 q2115 1 0 (((da.getD i dD).l).length) (((da.getD i dD).l).length) false] [2] (by rw [List.length_append, List.length_drop]; omega) (zf hzA (show 0 < da.length by omega)) (by rw [a2w (by omega) hni, a9y _ (by omega) hni]) (Nat.le_of_ble_eq_true rfl) rfl ?_ (hm := R6)
  refine go (fun _ => (o2 (by omega : -9223372036854775808 <= (i : Int) + 1) (by omega : (i : Int) + 1 < 9223372036854775808))) fun _ => ag111 _ _ (⟨i + 1, nw ++ [(⟨q2115, (da.getD i dD).l, (da.getD i dD).r⟩ : De)]⟩) (by first | omega | (simp only; omega)) (by dsimp only; exact ⟨by omega, by rw [List.length_append, hni]; rfl, a59 (by omega) hkn⟩) [0, 1, 3, 4, 5, 6, 7, 8, 2] (by kernel_rfl) (by kernel_rfl)
 ·have hie : i = da.length := by omega
  refine g0 fun _ => gh (b6 (l := [vc (eD 906) 103 q2108 (nw ++ da.drop i) 161 (n8 da) zA]) (l' := [vc (eD 906) 103 q2108 nw 161 (n8 da) zA]) (by rw [hie, List.drop_length, List.append_nil])) [0] [] 124 fun _ _ => rtv trivial (⟨q2105, q2108, nw⟩) (by rw [hkn, hie, List.take_length]) [7, 4, 2, 8, 3, 0, 1] (.a [.t na, .s 102 q2105 4 0 xa.length xa.length za, .t ka, .s 103 q2108 2 0 da.length da.length zA]) (by rw [hni, hie]; rfl)
end Go.Proofs.YtagidoadfajpgaaGreat
namespace Go.Proofs.YtagidoadfajpgaaGreat
set_option maxHeartbeats 4000000
open Go.Abs
variable {nO : Nat}
set_option maxRecDepth 8000
attribute [local irreducible] GP ruP nxP acS gst cdP loP j6 m9 m8 enP caA n5 lgP agN
theorem a5x {na ka : ByteArray} {qa ca : Nat} {za : Bool} {xa : List Cd} {ta : TypeId} {ma : Md} {qA cA : Nat} {zA : Bool} {da : List De} (hza : za = true -> xa.length = 0) (hla : xa.length < 1000000) (hkd : ∀ i, i < xa.length -> (xa.getD i eC.d).kind = 1 ∨ (xa.getD i eC.d).kind = 2) : Ctr Tryz.prog nO 92 [.a [.t na, .s 2 qa 4 0 xa.length ca za, .t ka, .s 3 qA 2 0 da.length cA zA]] [vc eC 2 qa xa ta ma za] ((Nat) × (Nat) × (List (Nat × Co))) (fun r => r.2.2.map Prod.snd = xa.map K5) (fun r => .o (.p 1 r.1 0 0 0)) (fun r => [.blk 1 r.1 [.t na, .s 2 qa 4 0 xa.length ca za, .t ka, .s 3 qA 2 0 da.length cA zA, .s 4 r.2.1 1 0 r.2.2.length r.2.2.length r.2.2.isEmpty, .s 5 0 2 0 (([] : List Sp).length) 0 (([] : List Sp).isEmpty), .i 0] 148 .own, vc eC 2 qa xa ta ma za, vc eX 4 r.2.1 r.2.2 156 .grown r.2.2.isEmpty, .as (e6 q0 r.2.2), vc eP 5 0 ([] : List Sp) 171 .grown (([] : List Sp).isEmpty)]) := by
 refine fs 100 fun B => g0 fun q101 => g0 fun q102 => g0 fun _ => gh (e7 102 1 eX.f eX.d 156 .grown) [] [] 103 fun _ _ => gh (b6 (l := [.blk 101 (q102 101) [.t na, .s 2 qa 4 0 xa.length ca za, .t ka, .s 3 qA 2 0 da.length cA zA, .v (.slice none 0 0), .v (.slice none 0 0), .i 0] 148 .own]) (l' := [.blk 101 (q102 101) [.t na, .s 2 qa 4 0 xa.length ca za, .t ka, .s 3 qA 2 0 da.length cA zA, .s 102 0 1 0 (([] : List (Nat × Co)).length) (([] : List (Nat × Co)).length) (([] : List (Nat × Co)).isEmpty), .v (.slice none 0 0), .i 0] 148 .own]) rfl) [1] [] 103 fun _ _ => gh (e7 103 2 eP.f eP.d 171 .grown) [] [] 104 fun _ _ => gh (b6 (l := [.blk 101 (q102 101) [.t na, .s 2 qa 4 0 xa.length ca za, .t ka, .s 3 qA 2 0 da.length cA zA, .s 102 0 1 0 (([] : List (Nat × Co)).length) (([] : List (Nat × Co)).length) (([] : List (Nat × Co)).isEmpty), .v (.slice none 0 0), .i 0] 148 .own]) (l' := [.blk 101 (q102 101) [.t na, .s 2 qa 4 0 xa.length ca za, .t ka, .s 3 qA 2 0 da.length cA zA, .s 102 0 1 0 (([] : List (Nat × Co)).length) (([] : List (Nat × Co)).length) (([] : List (Nat × Co)).isEmpty), .s 103 0 2 0 (([] : List Sp).length) (([] : List Sp).length) (([] : List Sp).isEmpty), .i 0] 148 .own]) rfl) [1] [] 104 fun _ _ => gh (p5 (I := q0)) [] [] 104 fun _ _ => lp ((Nat) × (Nat) × (List (Nat × Co))) [3, 10, 11] (fun r => [(12, .o (.i (r.1 : Int)))]) [2, 4, 5] (fun r => [.blk 101 (q102 101) [.t na, .s 2 qa 4 0 xa.length ca za, .t ka, .s 3 qA 2 0 da.length cA zA, .s 102 r.2.1 1 0 r.2.2.length r.2.2.length r.2.2.isEmpty, .s 103 0 2 0 (([] : List Sp).length) (([] : List Sp).length) (([] : List Sp).isEmpty), .i 0] 148 .own, vc eX 102 r.2.1 r.2.2 156 .grown r.2.2.isEmpty, .as (e6 q0 r.2.2)]) 124 (fun r => r.1 <= xa.length /\ r.2.2.map Prod.snd = (xa.take r.1).map K5) (fun r => xa.length - r.1) (⟨0, 0, []⟩) ⟨Nat.zero_le _, rfl⟩ [1, 3, 0] (fun ⟨i, qp, xs⟩ hx ag104 => ?_)
 try dsimp only at hx
 obtain ⟨hi, hkx⟩ := hx
 have hxl : xs.length = i := by have h := congrArg List.length hkx; rw [List.length_map, List.length_map, List.length_take] at h; omega
 refine g0 fun _ => cdD ((i : Int) < (xa.length : Int)) (fun h1 => ?_) (fun h1 => ?_)
 ·have hki := hkd i (by omega)
  refine go (fun q106 => (o4 (nz i) (by omega : (i : Int) < (xa.length : Int)) (zf hza (show 0 < xa.length by omega) : za = false) (by omega : i < xa.length))) fun q106 => g0 fun _ => cl (@b3m _ ((xa.getD i eC.d).kind) hki) [] [(1, 125), (2, 126)] 127 fun q108 _ => g0 fun q109 => apd eX xs [(q108, (K5 (xa.getD i eC.d)))] (xs ++ [(q108, (K5 (xa.getD i eC.d)))]) 102 qp .grown xs.isEmpty false (.blk 127 (q109 127) [.p 125 q108 0 0 0] 156 .own) (q109 127) 0 1 1 false 128 [6, 0] 129 156 (fun h _ => K4 h) (by simp only [List.length_cons, List.length_nil]; omega) (o8 rfl) (by simp) rfl fun q110 => g0 fun _ => gh (b6 (l := [.blk 101 (q102 101) [.t na, .s 2 qa 4 0 xa.length ca za, .t ka, .s 3 qA 2 0 da.length cA zA, .s 128 q110 1 0 ((xs ++ [(q108, (K5 (xa.getD i eC.d)))]).length) ((xs ++ [(q108, (K5 (xa.getD i eC.d)))]).length) false, .s 103 0 2 0 (([] : List Sp).length) (([] : List Sp).length) (([] : List Sp).isEmpty), .i 0] 148 .own, vc eX 128 q110 (xs ++ [(q108, (K5 (xa.getD i eC.d)))]) 156 .grown false]) (l' := [.blk 101 (q102 101) [.t na, .s 2 qa 4 0 xa.length ca za, .t ka, .s 3 qA 2 0 da.length cA zA, .s 128 q110 1 0 ((xs ++ [(q108, (K5 (xa.getD i eC.d)))]).length) ((xs ++ [(q108, (K5 (xa.getD i eC.d)))]).length) ((xs ++ [(q108, (K5 (xa.getD i eC.d)))]).isEmpty), .s 103 0 2 0 (([] : List Sp).length) (([] : List Sp).length) (([] : List Sp).isEmpty), .i 0] 148 .own, vc eX 128 q110 (xs ++ [(q108, (K5 (xa.getD i eC.d)))]) 156 .grown ((xs ++ [(q108, (K5 (xa.getD i eC.d)))]).isEmpty)]) (by rw [a2x])) [6, 0] [] 129 fun _ _ => gh (d5 (φ := fun _ => True) (L := a1Y (q108, (K5 (xa.getD i eC.d)))) (0, .pointer none) trivial) [3, 4, 5] [] 129 fun _ _ => gh (i6 (I := q0) (l := xs) (x := (q108, (K5 (xa.getD i eC.d))))) [0, 5] [] 129 fun _ _ => go (fun _ => (o2 (by omega : -9223372036854775808 <= (i : Int) + 1) (by omega : (i : Int) + 1 < 9223372036854775808))) fun _ => ag104 _ _ (⟨i + 1, q110, xs ++ [(q108, (K5 (xa.getD i eC.d)))]⟩) (by first | omega | (simp only; omega)) (by dsimp only; exact ⟨by omega, a9k (by omega) hkx⟩) [1, 2, 0, 5, 6, 7] (by kernel_rfl) (by kernel_rfl)
 ·have hie : i = xa.length := by omega
  refine g0 fun _ => rt trivial (⟨(q102 101), qp, xs⟩) (by rw [hkx, hie, List.take_length]) [0, 5, 1, 2, 3]
end Go.Proofs.YtagidoadfajpgaaGreat
namespace Go.Proofs.YtagidoadfajpgaaGreat
set_option maxHeartbeats 4000000
open Go.Abs
variable {nO : Nat}
set_option maxRecDepth 100000
attribute [local irreducible] GP ruP nxP acS gst cdP loP j6 m9 m8 enP caA n5 lgP agN
theorem a8a {q : Nat} {na ka : ByteArray} {qa ca : Nat} {za : Bool} {xa : List Cd} {ta : TypeId} {ma : Md} {qA cA : Nat} {zA : Bool} {da : List De} {qp : Nat} {zp : Bool} {xs : List (Nat × Co)} {ql cL : Nat} {lv : List Sp} {n : Nat} {tA : TypeId} {mA mp mL : Md} (hza : za = true -> xa.length = 0) (hla : xa.length < 1000000) (hzA : zA = true -> da.length = 0) (hlA : da.length < 1000000) (hzp : zp = true -> xs.length = 0) (hda : ∀ i, i < da.length -> (da.getD i dD).l.length < 1000000) (hkd : ∀ i, i < xa.length -> (xa.getD i eC.d).kind = 1 ∨ (xa.getD i eC.d).kind = 2) (hax : xa.length = xs.length) (hn : n <= 65536) (hll : ∀ i, i < xs.length -> (xs.getD i dX).2.l.length = n) (hok : ∀ i, i < xs.length -> ∀ k, k < n -> b0D (xa.getD i eC.d).kind ((xs.getD i dX).2.l.getD k eV.d) = true /\ ((xs.getD i dX).2.l.getD k eV.d).s.size < 1000000000) (hf : ∀ i, i < xs.length -> (xs.getD i dX).2.Fit) : Ctr Tryz.prog nO 73 [.o (.p 1 q 0 0 0)] [.blk 1 q [.t na, .s 2 qa 4 0 xa.length ca za, .t ka, .s 3 qA 2 0 da.length cA zA, .s 4 qp 1 0 xs.length xs.length zp, .s 5 ql 2 0 lv.length cL lv.isEmpty, .i (n : Int)] 148 .own, vc eC 2 qa xa ta ma za, vc (eD 906) 3 qA da tA mA zA, .as (e6 (n4 9) da), vc eX 4 qp xs 156 mp zp, .as (e6 q0 xs), vc eP 5 ql lv 171 mL lv.isEmpty] ((Nat) × (Nat) × (Nat) × (List De) × (Nat) × (List (Nat × Co))) (fun r => r.2.2.2.1.map e8 = da.map e8 /\ r.2.2.2.2.2.map Prod.snd = xa.map K5) (fun r => .o (.p 11 r.1 0 0 0)) (fun r => [.blk 1 q [.t na, .s 2 qa 4 0 xa.length ca za, .t ka, .s 3 qA 2 0 da.length cA zA, .s 4 qp 1 0 xs.length xs.length zp, .s 5 ql 2 0 lv.length cL lv.isEmpty, .i (n : Int)] 148 .own, vc eC 2 qa xa ta ma za, vc (eD 906) 3 qA da tA mA zA, .as (e6 (n4 9) da), vc eX 4 qp xs 156 mp zp, .as (e6 q0 xs), vc eP 5 ql lv 171 .imm lv.isEmpty, .blk 11 r.1 [.t na, .s 12 r.2.1 4 0 xa.length xa.length za, .t ka, .s 13 r.2.2.1 2 0 r.2.2.2.1.length r.2.2.2.1.length zA, .s 14 r.2.2.2.2.1 1 0 ((g8 r.2.2.2.2.2 (a1X xs xa) r.2.2.2.2.2.length).length) ((g8 r.2.2.2.2.2 (a1X xs xa) r.2.2.2.2.2.length).length) r.2.2.2.2.2.isEmpty, .s 15 ql 2 0 lv.length cL lv.isEmpty, .i (n : Int)] 148 .own, vc eC 12 r.2.1 xa 130 (n8 xa) za, vc (eD 906) 13 r.2.2.1 r.2.2.2.1 161 (n8 da) zA, .as (e6 (n4 9) r.2.2.2.1), vc eX 14 r.2.2.2.2.1 (g8 r.2.2.2.2.2 (a1X xs xa) r.2.2.2.2.2.length) 156 .grown r.2.2.2.2.2.isEmpty, .as (e6 q0 (g8 r.2.2.2.2.2 (a1X xs xa) r.2.2.2.2.2.length)), vc eP 15 ql lv 171 .imm lv.isEmpty]) := by
 refine fs 100 fun B => g0 fun _ => g0 fun _ => cdF rfl <| g0 fun _ => cl (@a3e _ q na ka qa ca za xa ta ma qA cA zA da qp zp xs ql cL lv n tA mA (by assumption) (by omega) (by assumption) (by omega) (by assumption)) [0, 1, 2, 3] [(7, 100), (8, 101)] 102 fun ⟨qc2, qd2, d2⟩ hd2 => cl (@a5x _ na ka qc2 xa.length za xa 130 (n8 xa) qd2 d2.length zA d2 (by assumption) (by omega) (by assumption)) [4] [(2, 100), (3, 101), (1, 102), (4, 103), (5, 104)] 105 (fun ⟨q9, qy, ys⟩ hys => ?_)
 try dsimp only at hd2
 try dsimp only at hys
 have hyl : ys.length = xs.length := by have h := congrArg List.length hys; rw [List.length_map, List.length_map] at h; omega
 refine g0 fun _ => g0 fun _ => gh (b6 (l := [.as (e6 q0 ys)]) (l' := [.as (e6 q0 (g8 ys (a1X xs xa) 0))]) (by rfl)) [3] [] 105 fun _ _ => lp ((Nat)) [0, 3, 17, 18] (fun r => [(19, .o (.i (r : Int)))]) [1, 2, 3, 4, 5, 6, 7, 8, 9, 10, 11, 12, 13] (fun r => [.as (e6 q0 (g8 ys (a1X xs xa) r))]) 125 (fun r => r <= xs.length) (fun r => xs.length - r) (0) (Nat.zero_le _) [0] fun i hx ag109 => g0 fun _ => cdD ((i : Int) < (xs.length : Int)) (fun h2 => ?_) (fun h2 => ?_)
 ·obtain ⟨f1, f2, f3, f4⟩ := hf i (by omega)
  have hli := hll i (by omega)
  have hzl := i7 (xs := ys) (f := a1X xs xa) i
  refine go (fun _ => (o4 (nz i) (by omega : (i : Int) < (xs.length : Int)) (zf hzp (show 0 < xs.length by omega) : zp = false) (by omega : i < xs.length))) fun _ => g0 fun _ => gh (f8 (I := q0) (l := xs) i dX (by omega)) [12] [] 125 fun _ _ => gh (f9 (φ := fun _ => True) (L := a1Y (xs.getD i dX))) [0] [] 125 fun ⟨ql113, xv113⟩ _ => cl (@a6o _ ((xs.getD i dX).1) ql113 ((xs.getD i dX).2.kind) ((xs.getD i dX).2.l) xv113 ((xs.getD i dX).2.nulls)) [0] [(1, 911), (2, 912)] 125 fun _ _ => gh (d5 (φ := fun _ => True) (L := a1Y (xs.getD i dX)) (ql113, xv113) trivial) [0, 1, 2] [] 125 fun _ _ => gh (j9 (I := q0) (l := xs) i dX (by omega)) [0, 1] [] 125 fun _ _ => g0 fun _ => gh (b6 (l := [.as (e6 q0 (g8 ys (a1X xs xa) i))]) (l' := [.as (e6 q0 (yK ys xs xa i 0))]) (by rw [b4q hys (by omega)])) [1] [] 125 fun _ _ => lp ((Nat)) [0, 3, 4, 5, 17, 18, 19, 25] (fun r => [(26, .o (.i (r : Int)))]) [1, 2, 3, 4, 5, 6, 7, 8, 9, 10, 11, 12, 13] (fun r => [.as (e6 q0 (yK ys xs xa i r))]) 145 (fun r => r <= (xs.getD i dX).2.l.length) (fun r => (xs.getD i dX).2.l.length - r) (0) (Nat.zero_le _) [0] fun k hx ag116 => g0 fun _ => cdD ((k : Int) < (((xs.getD i dX).2.l).length : Int)) (fun h3 => ?_) (fun h3 => ?_)
  ·have hyk := b3J (ys := ys) (xs := xs) (xa := xa) (i := i) (k := k)
   have hoi := hok i (by omega) k (by omega)
   have yl := b6p (ys := ys) (xs := xs) (xa := xa) (i := i) (k := k)
   have yb := b6q (ys := ys) (xs := xs) (xa := xa) (i := i) (k := k)
   have yn := b4p (ys := ys) (xs := xs) (xa := xa) (i := i) (k := k)
   refine g0 fun _ => g0 fun _ => gh (f8 (I := q0) (l := xs) i dX (by omega)) [1] [] 145 fun _ _ => gh (f9 (φ := fun _ => True) (L := a1Y (xs.getD i dX))) [0] [] 145 fun ⟨ql120, xv120⟩ _ => cl (@a5d _ ((xs.getD i dX).1) ql120 ((xs.getD i dX).2.kind) ((xs.getD i dX).2.l) xv120 ((xs.getD i dX).2.nulls) k (by omega) (by omega)) [0, 1] [(1, 911), (2, 912)] 145 fun _ _ => gh (d5 (φ := fun _ => True) (L := a1Y (xs.getD i dX)) (ql120, xv120) trivial) [0, 1, 2] [] 145 fun _ _ => gh (j9 (I := q0) (l := xs) i dX (by omega)) [0, 1] [] 145 fun _ _ => g0 fun q122 => go (fun _ => (o4 (nz i) (by omega : (i : Int) < (ys.length : Int)) (zfe (show 0 < ys.length by omega) : ys.isEmpty = false) (by omega : i < ys.length))) fun _ => gh (f8 (I := q0) (l := (yK ys xs xa i k)) i dX (by omega)) [2] [] 146 fun _ _ => gh (b6 (l := [.as (q0 ((yK ys xs xa i k).getD i dX))]) (l' := [.as (q0 (a0i ys xs xa i k))]) (by rw [b6s (by omega)])) [0] [] 146 fun _ _ => gh (f9 (φ := fun _ => True) (L := a1Y (a0i ys xs xa i k))) [0] [] 146 fun ⟨ql124, xv124⟩ _ => cl (@a6s _ ((ys.getD i dX).1) ql124 ((a0i ys xs xa i k).2.kind) ((a0i ys xs xa i k).2.l) xv124 ((a0i ys xs xa i k).2.nulls) ((a0i ys xs xa i k).2.ws) ((a0i ys xs xa i k).2.b) (((xs.getD i dX).2.l).getD k eV.d) (by rw [a7J]; exact hoi.1) hoi.2 (by omega) (by omega) (by omega)) [0, 1, 2] [(1, 911), (2, 912)] 146 fun ⟨ql2125, x2125⟩ _ => gh (d5 (φ := fun _ => True) (L := a1Y ((a0i ys xs xa i k).1, ((a0i ys xs xa i k).2.app ((xs.getD i dX).2.l.getD k eV.d)))) (ql2125, x2125) trivial) [0, 1, 2] [] 146 fun _ _ => gh (U5 (I := q0) (l := (yK ys xs xa i k)) i dX ((a0i ys xs xa i k).1, ((a0i ys xs xa i k).2.app ((xs.getD i dX).2.l.getD k eV.d))) (by omega)) [0, 1] [] 146 fun _ _ => gh (b6 (l := [.as (e6 q0 ((yK ys xs xa i k).set i ((a0i ys xs xa i k).1, ((a0i ys xs xa i k).2.app ((xs.getD i dX).2.l.getD k eV.d)))))]) (l' := [.as (e6 q0 (yK ys xs xa i (k + 1)))]) (congrArg (fun l => [Ch.den (.as (e6 q0 l))]) (b6r (by omega)))) [0] [] 146 fun _ _ => go (fun _ => (o2 (by omega : -9223372036854775808 <= (k : Int) + 1) (by omega : (k : Int) + 1 < 9223372036854775808))) fun _ => ag116 _ _ (k + 1) (by first | omega | (simp only; omega)) (by omega) [0, 2, 3, 4, 5, 6, 7, 8, 9, 10, 11, 12, 13, 14] (by kernel_rfl) (by kernel_rfl)
  ·have hke : k = (xs.getD i dX).2.l.length := by omega
   refine gh (b6 (l := [.as (e6 q0 (yK ys xs xa i k))]) (l' := [.as (e6 q0 (g8 ys (a1X xs xa) (i + 1)))]) (congrArg (fun l => [Ch.den (.as (e6 q0 l))]) (b6t hke))) [0] [] 145 fun _ _ => go (fun _ => (o2 (by omega : -9223372036854775808 <= (i : Int) + 1) (by omega : (i : Int) + 1 < 9223372036854775808))) fun _ => ag109 _ _ (i + 1) (by first | omega | (simp only; omega)) (by omega) [0, 2, 3, 4, 5, 6, 7, 8, 9, 10, 11, 12, 1, 13] (by kernel_rfl) (by kernel_rfl)
 ·have hie : i = ys.length := by omega
  refine gh (b6 (l := [.as (e6 q0 (g8 ys (a1X xs xa) i))]) (l' := [.as (e6 q0 (g8 ys (a1X xs xa) ys.length))]) (by rw [hie])) [0] [] 125 fun _ _ => gh (b6 (l := [vc eX 103 qy ys 156 .grown ys.isEmpty]) (l' := [vc eX 103 qy (g8 ys (a1X xs xa) ys.length) 156 .grown ys.isEmpty]) (b23 (Q6 ys.length).symm)) [3] [] 125 fun _ _ => gh (b6 (l := [.blk 102 q9 [.t na, .s 100 qc2 4 0 xa.length xa.length za, .t ka, .s 101 qd2 2 0 d2.length d2.length zA, .s 103 qy 1 0 ys.length ys.length ys.isEmpty, .s 104 0 2 0 (([] : List Sp).length) 0 (([] : List Sp).isEmpty), .i 0] 148 .own]) (l' := [.blk 102 q9 [.t na, .s 100 qc2 4 0 xa.length xa.length za, .t ka, .s 101 qd2 2 0 d2.length d2.length zA, .s 103 qy 1 0 ((g8 ys (a1X xs xa) ys.length).length) ((g8 ys (a1X xs xa) ys.length).length) ys.isEmpty, .s 104 0 2 0 (([] : List Sp).length) 0 (([] : List Sp).isEmpty), .i 0] 148 .own]) (by rw [i7])) [2] [] 125 fun _ _ => gh (k7 (E := eP) (g := 5) (q := ql) (xs := lv) (t := 171) (m := mL) (z := lv.isEmpty)) [13] [] 125 fun _ _ => gh (a4q (E := eP) (g := 5) (q := ql) (xs := lv) (t := 171) (z := lv.isEmpty)) [0] [] 125 fun _ _ => g0 fun _ => g0 fun _ => rt trivial (⟨q9, qc2, qd2, d2, qy, ys⟩) ⟨hd2, hys⟩ [7, 8, 9, 10, 13, 14, 0, 2, 5, 11, 12, 3, 4, 1]
end Go.Proofs.YtagidoadfajpgaaGreat
namespace Go.Proofs.YtagidoadfajpgaaGreat
open Go.Abs
variable {nO : Nat}
set_option maxRecDepth 8000
attribute [local irreducible] GP ruP nxP acS gst cdP loP j6 m9 m8 enP caA n5 lgP agN
theorem a75 {q : Nat} {na ka : ByteArray} {qa ca : Nat} {za : Bool} {xa : List Cd} {ta : TypeId} {ma : Md} {qA cA : Nat} {zA : Bool} {da : List De} {qp : Nat} {zp : Bool} {xs : List (Nat × Co)} {ql cL : Nat} {lv : List Sp} {n : Nat} {mp mL : Md} {qv cv : Nat} {zv : Bool} {vs : List Va} {tv : TypeId} {mv : Md} (hza : za = true -> xa.length = 0) (hla : xa.length < 1000000) (hzv : zv = true -> vs.length = 0) (hlv : vs.length < 1000000) (hzp : zp = true -> xs.length = 0) (hn : n < 65536) (hvx : vs.length = xs.length) (hax : xa.length = xs.length) (hok : ∀ i, i < vs.length -> g9 xa i (vs.getD i eV.d) = true) (hsz : ∀ i, i < vs.length -> (vs.getD i eV.d).s.size < 1000000000) (hf : ∀ i, i < xs.length -> (xs.getD i dX).2.Fit) (hk : ∀ i, i < xs.length -> (xs.getD i dX).2.kind = (xa.getD i eC.d).kind) (hw : WF (-1) lv) : Ctr Tryz.prog nO 60 [.o (.p 1 q 0 0 0), .o (.s 6 qv 3 0 vs.length cv zv)] [.blk 1 q [.t na, .s 2 qa 4 0 xa.length ca za, .t ka, .s 3 qA 2 0 da.length cA zA, .s 4 qp 1 0 xs.length xs.length zp, .s 5 ql 2 0 lv.length cL lv.isEmpty, .i (n : Int)] 148 .own, vc eC 2 qa xa ta ma za, vc eV 6 qv vs tv mv zv, vc eX 4 qp xs 156 mp zp, .as (e6 q0 xs), vc eP 5 ql lv 171 mL lv.isEmpty] ((Nat) × (List Sp) × (List (Nat × Co))) (fun r => b7P lv (ofL (d7 [(n : Int)])) r.2.1 /\ r.2.2.length = xs.length /\ r.2.2.map Prod.fst = xs.map Prod.fst /\ ∀ i, i < xs.length -> (r.2.2.getD i dX).2 = a2A xs vs i) (fun r => .t [(false, [.i (n : Int)]), (false, [.i 0])]) (fun r => [.blk 1 q [.t na, .s 2 qa 4 0 xa.length ca za, .t ka, .s 3 qA 2 0 da.length cA zA, .s 4 qp 1 0 r.2.2.length r.2.2.length zp, .s 7 r.1 2 0 r.2.1.length r.2.1.length r.2.1.isEmpty, .i ((n + 1) : Int)] 148 .own, vc eC 2 qa xa ta ma za, vc eV 6 qv vs tv mv zv, vc eX 4 qp r.2.2 156 mp zp, .as (e6 q0 r.2.2), vc eP 7 r.1 r.2.1 171 .grown r.2.1.isEmpty]) :=
 J4 (b1B (q := q) (na := na) (ka := ka) (qa := qa) (ca := ca) (za := za) (xa := xa) (ta := ta) (ma := ma) (qA := qA) (cA := cA) (zA := zA) (da := da) (qp := qp) (zp := zp) (xs := xs) (ql := ql) (cL := cL) (lv := lv) (n := n) (mp := mp) (mL := mL) (qv := qv) (cv := cv) (zv := zv) (vs := vs) (tv := tv) (mv := mv) hza hla hzv hlv hzp hn hvx hax hok hsz hf hk hw) (fun r => (r.1, r.2, (g8 xs (a2A xs vs) xs.length))) (fun _ h => ⟨⟨h, i7 _, Q6 _, fun i hi => by rw [K9 _ _ hi, if_pos hi]⟩, rfl, rfl⟩)
end Go.Proofs.YtagidoadfajpgaaGreat
open List (getD_eq_getElem?_getD ext_getElem length_map getElem_set_self length_set getElem_mem)
namespace Go.Proofs.YtagidoadfajpgaaGreat
open Go.Abs
variable {nO : Nat}
set_option maxRecDepth 100000
attribute [local irreducible] GP ruP nxP acS gst cdP loP j6 m9 m8 enP caA n5 lgP agN
structure FmOk (F : Fm) : Prop where
 xl : F.xa.length < 100000
 dl : F.da.length < 100000
 kd : ∀ i, i < F.xa.length -> (F.xa.getD i eC.d).kind = 1 ∨ (F.xa.getD i eC.d).kind = 2
 dd : ∀ d ∈ F.da, d.1.length < 1000000
structure Tr where
 qa : Nat
 ca : Nat
 za : Bool
 ta : TypeId
 ma : Md
 qA : Nat
 cA : Nat
 zA : Bool
 tA : TypeId
 mA : Md
 da : List De
 qp : Nat
 zp : Bool
 mp : Md
 xs : List (Nat × Co)
 ql : Nat
 cL : Nat
 mL : Md
 lv : List Sp
structure tabP (F : Fm) (s : Ts) (k : Nat) (r : Tr) : Prop where
 fm : FmOk F
 za : r.za = true -> F.xa.length = 0
 zA : r.zA = true -> r.da.length = 0
 zp : r.zp = true -> r.xs.length = 0
 da : r.da.map e8 = F.da
 rep : TRep F.xa s (r.xs.map Prod.snd) r.lv k
def K3 (q : Nat) (F : Fm) (s : Ts) (y : Tr) : List Ch := [.blk 1 q [.t F.name, .s 2 y.qa 4 0 F.xa.length y.ca y.za, .t F.key, .s 3 y.qA 2 0 y.da.length y.cA y.zA, .s 4 y.qp 1 0 y.xs.length y.xs.length y.zp, .s 5 y.ql 2 0 y.lv.length y.cL y.lv.isEmpty, .i (s.next : Int)] 148 .own, vc eC 2 y.qa F.xa y.ta y.ma y.za, vc (eD 906) 3 y.qA y.da y.tA y.mA y.zA, .as (e6 (n4 9) y.da), vc eX 4 y.qp y.xs 156 y.mp y.zp, .as (e6 q0 y.xs), vc eP 5 y.ql y.lv 171 y.mL y.lv.isEmpty]
def r5 (q : Nat) (F : Fm) (s : Ts) (k : Nat) : As := a7q (tabP F s k) (K3 q F s)
section
variable {F : Fm} {s : Ts} {k : Nat} {y : Tr}
theorem tabP.xl (h : tabP F s k y) : y.xs.length = F.xa.length := by have := h.rep.len; rwa [length_map] at this
theorem tabP.dl (h : tabP F s k y) : y.da.length = F.da.length := by have := congrArg List.length h.da; rwa [length_map] at this
theorem xsC {xs : List (Nat × Co)} {c : Nat} : (xs.map Prod.snd).getD c dC = (xs.getD c dX).2 := a6d.symm
theorem tabP.fit (h : tabP F s k y) (hk : k < 70000) : ∀ c, c < y.xs.length -> (y.xs.getD c dX).2.Fit := fun c hc => by
 rw [h.xl] at hc
 have := h.rep.fit hk hc
 rwa [xsC] at this
theorem tabP.kind (h : tabP F s k y) : ∀ c, c < y.xs.length -> (y.xs.getD c dX).2.kind = (F.xa.getD c eC.d).kind := fun c hc => by
 have := h.rep.kind c (by rw [<- h.xl]; exact hc)
 rwa [xsC] at this
theorem tabP.ll (h : tabP F s k y) : ∀ c, c < y.xs.length -> (y.xs.getD c dX).2.l.length = s.next := fun c hc => by
 have := h.rep.ll c (by rw [<- h.xl]; exact hc)
 rwa [xsC] at this
theorem tabP.dda (h : tabP F s k y) : ∀ i, i < y.da.length -> (y.da.getD i dD).l.length < 1000000 := fun i hi => by
 have := h.fm.dd (e8 (y.da.getD i dD)) (by rw [<- h.da]; exact List.mem_map_of_mem (by rw [a8 hi]; exact getElem_mem hi))
 exact this
theorem tabP.lvs (h : tabP F s k y) : y.lv.length < 1000000 := by have := D0 h.rep.wf; omega
theorem V8 {s : Ts} {j : Nat} (hj : j < s.rows.length) : s.rows.getD j dR ∈ s.rows := by rw [a8 hj]; exact getElem_mem hj
theorem tabP.has (h : tabP F s k y) {j : Nat} (hj : j < s.rows.length) : has y.lv ((s.rows.getD j dR).1 : Int) = true := by
 rw [h.rep.live]; exact Ts.is_iff.2 ⟨_, V8 hj, rfl⟩
theorem tabP.hid (h : tabP F s k y) {j : Nat} (hj : j < s.rows.length) : ∀ c, c < y.xs.length -> (s.rows.getD j dR).1 < (y.xs.getD c dX).2.l.length := fun c hc => by
 rw [h.ll c hc]; exact h.rep.lt _ (V8 hj)
end
theorem a7T {q : Nat} {F : Fm} {s : Ts} {k : Nat} {id : Int} (his : s.is id = false) : K1 nO 66 [.o (.p 1 q 0 0 0), .o (.i id)] [.as (r5 q F s k)] (.o (.v (.bool false))) :=
 g7 (ψ := tabP F s k) (L := K3 q F s) (E := []) (ψ' := fun r => tabP F s k) (L' := fun r => K3 q F s) (E' := fun r => []) [0, 6] [0, 2, 3, 4, 5, 6, 1] (fun y r => ()) (fun y r => y)
  (fun y hy => a79 (q := q) (na := F.name) (ka := F.key) (qa := y.qa) (ca := y.ca) (za := y.za) (xa := F.xa) (qA := y.qA) (cA := y.cA) (zA := y.zA) (da := y.da) (qp := y.qp) (zp := y.zp) (xs := y.xs) (ql := y.ql) (cL := y.cL) (lv := y.lv) (n := s.next) (mL := y.mL) (id := id) hy.lvs (by rw [hy.rep.live]; exact his))
  (fun y => ⟨by kernel_rfl, by kernel_rfl⟩)
  (fun y r hy hr => ⟨trivial, rfl, ⟨hy.fm, hy.za, hy.zA, hy.zp, hy.da, hy.rep⟩⟩)
  (fun y r => ⟨by kernel_rfl, by kernel_rfl⟩)
theorem a7M {q : Nat} {F : Fm} {s : Ts} {k : Nat} {id : Int} {sn : ByteArray} {v : Va} (his : s.is id = false) : K1 nO 68 [.o (.p 1 q 0 0 0), .o (.i id), .o (.t sn), .a [.i v.k, .i v.n, .t v.s]] [.as (r5 q F s k)] (.o (.i 6)) :=
 g7 (ψ := tabP F s k) (L := K3 q F s) (E := []) (ψ' := fun r => tabP F s k) (L' := fun r => K3 q F s) (E' := fun r => []) [0, 1, 6] [0, 1, 3, 4, 5, 6, 2] (fun y r => ()) (fun y r => y)
  (fun y hy => a7X (q := q) (na := F.name) (ka := F.key) (qa := y.qa) (ca := y.ca) (za := y.za) (xa := F.xa) (ta := y.ta) (ma := y.ma) (qA := y.qA) (cA := y.cA) (zA := y.zA) (da := y.da) (qp := y.qp) (zp := y.zp) (xs := y.xs) (ql := y.ql) (cL := y.cL) (lv := y.lv) (n := s.next) (mL := y.mL) (id := id) (s := sn) (v := v) hy.za (by have := hy.fm.xl; omega) hy.lvs (by rw [hy.rep.live]; exact his))
  (fun y => ⟨by kernel_rfl, by kernel_rfl⟩)
  (fun y r hy hr => ⟨trivial, rfl, ⟨hy.fm, hy.za, hy.zA, hy.zp, hy.da, hy.rep⟩⟩)
  (fun y r => ⟨by kernel_rfl, by kernel_rfl⟩)
theorem a7N {q : Nat} {F : Fm} {s : Ts} {k j : Nat} {sn : ByteArray} {v : Va} (hj : j < s.rows.length) (hcn : e9 F.xa (fun c => a7 c.name sn) = -1) : K1 nO 68 [.o (.p 1 q 0 0 0), .o (.i (((s.rows.getD j dR).1 : Nat) : Int)), .o (.t sn), .a [.i v.k, .i v.n, .t v.s]] [.as (r5 q F s k)] (.o (.i 3)) :=
 g7 (ψ := tabP F s k) (L := K3 q F s) (E := []) (ψ' := fun r => tabP F s k) (L' := fun r => K3 q F s) (E' := fun r => []) [0, 1, 6] [0, 1, 3, 4, 5, 6, 2] (fun y r => ()) (fun y r => y)
  (fun y hy => a7Y (q := q) (na := F.name) (ka := F.key) (qa := y.qa) (ca := y.ca) (za := y.za) (xa := F.xa) (ta := y.ta) (ma := y.ma) (qA := y.qA) (cA := y.cA) (zA := y.zA) (da := y.da) (qp := y.qp) (zp := y.zp) (xs := y.xs) (ql := y.ql) (cL := y.cL) (lv := y.lv) (n := s.next) (mL := y.mL) (id := (((s.rows.getD j dR).1 : Nat) : Int)) (s := sn) (v := v) hy.za (by have := hy.fm.xl; omega) hy.lvs (hy.has hj) hcn)
  (fun y => ⟨by kernel_rfl, by kernel_rfl⟩)
  (fun y r hy hr => ⟨trivial, rfl, ⟨hy.fm, hy.za, hy.zA, hy.zp, hy.da, hy.rep⟩⟩)
  (fun y r => ⟨by kernel_rfl, by kernel_rfl⟩)
theorem a7L {q : Nat} {F : Fm} {s : Ts} {k j c : Nat} {sn : ByteArray} {v : Va} (hj : j < s.rows.length) (hc : e9 F.xa (fun c => a7 c.name sn) = (c : Int)) (hcx : c < F.xa.length) (hs : v.s.size < 1000000000) (hok : g9 F.xa c v = false) : K1 nO 68 [.o (.p 1 q 0 0 0), .o (.i (((s.rows.getD j dR).1 : Nat) : Int)), .o (.t sn), .a [.i v.k, .i v.n, .t v.s]] [.as (r5 q F s k)] (.o (.i 4)) :=
 g7 (ψ := tabP F s k) (L := K3 q F s) (E := []) (ψ' := fun r => tabP F s k) (L' := fun r => K3 q F s) (E' := fun r => []) [0, 1, 6] [0, 1, 3, 4, 5, 6, 2] (fun y r => ()) (fun y r => y)
  (fun y hy => a7W (q := q) (na := F.name) (ka := F.key) (qa := y.qa) (ca := y.ca) (za := y.za) (xa := F.xa) (ta := y.ta) (ma := y.ma) (qA := y.qA) (cA := y.cA) (zA := y.zA) (da := y.da) (qp := y.qp) (zp := y.zp) (xs := y.xs) (ql := y.ql) (cL := y.cL) (lv := y.lv) (n := s.next) (mL := y.mL) (id := (((s.rows.getD j dR).1 : Nat) : Int)) (s := sn) (v := v) (j := c) hy.za (by have := hy.fm.xl; omega) hy.lvs (hy.has hj) hc hcx hs hok)
  (fun y => ⟨by kernel_rfl, by kernel_rfl⟩)
  (fun y r hy hr => ⟨trivial, rfl, ⟨hy.fm, hy.za, hy.zA, hy.zp, hy.da, hy.rep⟩⟩)
  (fun y r => ⟨by kernel_rfl, by kernel_rfl⟩)
theorem b5r {xs : List (Nat × Co)} {c d : Nat} {x : Nat × Co} (h : d ≠ c) : ((xs.set c x).getD d dX).2 = (xs.getD d dX).2 := by
 rw [getD_eq_getElem?_getD, getD_eq_getElem?_getD, List.getElem?_set_ne (fun e => h e.symm)]
theorem b1o {q : Nat} {F : Fm} {s : Ts} {k j c : Nat} {sn : ByteArray} {v : Va} (hk : k < 70000) (hj : j < s.rows.length) (hc : e9 F.xa (fun c => a7 c.name sn) = (c : Int)) (hcx : c < F.xa.length) (hs : v.s.size < 1000000000) (hok : g9 F.xa c v = true) : Ctr Tryz.prog nO 68 [.o (.p 1 q 0 0 0), .o (.i (((s.rows.getD j dR).1 : Nat) : Int)), .o (.t sn), .a [.i v.k, .i v.n, .t v.s]] [.as (r5 q F s k)] (Unit) (fun _ => True) (fun r => .o (.i 0)) (fun r => [.as (r5 q F (s.put j c v) (k + 2))]) :=
 g7 (ψ := tabP F s k) (L := K3 q F s) (E := []) (ψ' := fun r => tabP F (s.put j c v) (k + 2)) (L' := fun r => K3 q F (s.put j c v)) (E' := fun r => []) [0, 1, 4, 5, 6] [0, 1, 5, 6, 2, 3, 4] (fun y r => ()) (fun y r => { y with xs := (y.xs.set c ((y.xs.getD c dX).1, (y.xs.getD c dX).2.put (s.rows.getD j dR).1 v)) })
  (fun y hy => b1z (q := q) (na := F.name) (ka := F.key) (qa := y.qa) (ca := y.ca) (za := y.za) (xa := F.xa) (ta := y.ta) (ma := y.ma) (qA := y.qA) (cA := y.cA) (zA := y.zA) (da := y.da) (qp := y.qp) (zp := y.zp) (xs := y.xs) (ql := y.ql) (cL := y.cL) (lv := y.lv) (n := s.next) (mL := y.mL) (mp := y.mp) (id := ((s.rows.getD j dR).1)) (s := sn) (v := v) (j := c) hy.za (by have := hy.fm.xl; omega) hy.lvs hy.zp (hy.has hj) hc hcx hy.xl.symm hs hok (hy.kind c (by rw [hy.xl]; exact hcx)) (hy.hid hj c (by rw [hy.xl]; exact hcx)) (hy.fit hk c (by rw [hy.xl]; exact hcx)))
  (fun y => ⟨by kernel_rfl, by kernel_rfl⟩)
  (fun y r hy hr => ⟨trivial, rfl, ⟨hy.fm, hy.za, hy.zA, (fun h => by rw [length_set]; exact hy.zp h), hy.da, (b4P hy.rep hj hcx hok (by rw [length_map, length_map, length_set]) (by rw [xsC, xsC, a8 (by rw [length_set, hy.xl]; exact hcx), getElem_set_self]) (fun d hd hne => by rw [xsC, xsC, b5r hne]))⟩⟩)
  (fun y r => ⟨by kernel_rfl, by kernel_rfl⟩)
theorem a5t {q : Nat} {F : Fm} {s : Ts} {k j c : Nat} {sn : ByteArray} (hk : k < 70000) (hj : j < s.rows.length) (hc : e9 F.xa (fun c => a7 c.name sn) = (c : Int)) (hcx : c < F.xa.length) : K1 nO 77 [.o (.p 1 q 0 0 0), .o (.i (((s.rows.getD j dR).1 : Nat) : Int)), .o (.t sn)] [.as (r5 q F s k)] (.t [(true, [.i (((s.rows.getD j dR).2.getD c eV.d).k), .i (((s.rows.getD j dR).2.getD c eV.d).n), .t (((s.rows.getD j dR).2.getD c eV.d).s)]), (false, [.v (.bool true)])]) :=
 g7 (ψ := tabP F s k) (L := K3 q F s) (E := []) (ψ' := fun r => tabP F s k) (L' := fun r => K3 q F s) (E' := fun r => []) [0, 1, 4, 5, 6] [0, 1, 5, 6, 2, 3, 4] (fun y r => ()) (fun y r => y)
  (fun y hy => b1C (q := q) (na := F.name) (ka := F.key) (qa := y.qa) (ca := y.ca) (za := y.za) (xa := F.xa) (ta := y.ta) (ma := y.ma) (qA := y.qA) (cA := y.cA) (zA := y.zA) (da := y.da) (qp := y.qp) (zp := y.zp) (xs := y.xs) (ql := y.ql) (cL := y.cL) (lv := y.lv) (n := s.next) (mL := y.mL) (mp := y.mp) (id := ((s.rows.getD j dR).1)) (s := sn) (j := c) hy.za (by have := hy.fm.xl; omega) hy.lvs hy.zp (hy.has hj) hc (by rw [hy.xl]; exact hcx) (hy.hid hj c (by rw [hy.xl]; exact hcx)) (hy.fit hk c (by rw [hy.xl]; exact hcx)))
  (fun y => ⟨by kernel_rfl, by kernel_rfl⟩)
  (fun y r hy hr => ⟨trivial, (by have h := hy.rep.val _ (V8 hj) c hcx; rw [xsC] at h; rw [h]), ⟨hy.fm, hy.za, hy.zA, hy.zp, hy.da, hy.rep⟩⟩)
  (fun y r => ⟨by kernel_rfl, by kernel_rfl⟩)
theorem a26 {q : Nat} {F : Fm} {s : Ts} {k : Nat} {vs : List Va} {qv cv : Nat} {zv : Bool} {tv : TypeId} {mv : Md} (hn : s.next < 65536) (hvl : vs.length ≠ F.xa.length) : K1 nO 60 [.o (.p 1 q 0 0 0), .o (.s 6 qv 3 0 vs.length cv zv)] [.as (r5 q F s k), vc eV 6 qv vs tv mv zv] (.t [(false, [.i 0]), (false, [.i 1])]) :=
 g7 (ψ := tabP F s k) (L := K3 q F s) (E := [vc eV 6 qv vs tv mv zv]) (ψ' := fun r => tabP F s k) (L' := fun r => K3 q F s) (E' := fun r => [vc eV 6 qv vs tv mv zv]) [0, 7] [0, 2, 3, 4, 5, 6, 7, 1] (fun y r => ()) (fun y r => y)
  (fun y hy => a74 (q := q) (na := F.name) (ka := F.key) (qa := y.qa) (ca := y.ca) (za := y.za) (xa := F.xa) (qA := y.qA) (cA := y.cA) (zA := y.zA) (da := y.da) (qp := y.qp) (zp := y.zp) (xs := y.xs) (ql := y.ql) (cL := y.cL) (lv := y.lv) (n := s.next) (qv := qv) (cv := cv) (zv := zv) (vs := vs) (tv := tv) (mv := mv) hn (by rw [hy.xl]; exact hvl))
  (fun y => ⟨by kernel_rfl, by kernel_rfl⟩)
  (fun y r hy hr => ⟨trivial, rfl, ⟨hy.fm, hy.za, hy.zA, hy.zp, hy.da, hy.rep⟩⟩)
  (fun y r => ⟨by kernel_rfl, by kernel_rfl⟩)
theorem a7Q {q : Nat} {F : Fm} {s : Ts} {k : Nat} {vs : List Va} {qv cv : Nat} {zv : Bool} {tv : TypeId} {mv : Md} {c : Nat} (hzv : zv = true -> vs.length = 0) (hlv : vs.length < 1000000) (hn : s.next < 65536) (hvl : vs.length = F.xa.length) (hc1 : c < vs.length) (hc2 : g9 F.xa c (vs.getD c eV.d) = false) (hc3 : ∀ i, i < c -> g9 F.xa i (vs.getD i eV.d) = true) (hsz : ∀ i, i < vs.length -> (vs.getD i eV.d).s.size < 1000000000) : K1 nO 60 [.o (.p 1 q 0 0 0), .o (.s 6 qv 3 0 vs.length cv zv)] [.as (r5 q F s k), vc eV 6 qv vs tv mv zv] (.t [(false, [.i 0]), (false, [.i 4])]) :=
 g7 (ψ := tabP F s k) (L := K3 q F s) (E := [vc eV 6 qv vs tv mv zv]) (ψ' := fun r => tabP F s k) (L' := fun r => K3 q F s) (E' := fun r => [vc eV 6 qv vs tv mv zv]) [0, 1, 7] [0, 1, 3, 4, 5, 6, 7, 2] (fun y r => ()) (fun y r => y)
  (fun y hy => a73 (q := q) (na := F.name) (ka := F.key) (qa := y.qa) (ca := y.ca) (za := y.za) (xa := F.xa) (ta := y.ta) (ma := y.ma) (qA := y.qA) (cA := y.cA) (zA := y.zA) (da := y.da) (qp := y.qp) (zp := y.zp) (xs := y.xs) (ql := y.ql) (cL := y.cL) (lv := y.lv) (n := s.next) (qv := qv) (cv := cv) (zv := zv) (vs := vs) (tv := tv) (mv := mv) (k := c) hy.za (by have := hy.fm.xl; omega) hzv hlv hn (by rw [hy.xl]; exact hvl) hy.xl.symm hc1 hc2 hc3 hsz)
  (fun y => ⟨by kernel_rfl, by kernel_rfl⟩)
  (fun y r hy hr => ⟨trivial, rfl, ⟨hy.fm, hy.za, hy.zA, hy.zp, hy.da, hy.rep⟩⟩)
  (fun y r => ⟨by kernel_rfl, by kernel_rfl⟩)
theorem a14 {q : Nat} {F : Fm} {s : Ts} {k : Nat} {vs : List Va} {qv cv : Nat} {zv : Bool} {tv : TypeId} {mv : Md} (hk : k < 70000) (hzv : zv = true -> vs.length = 0) (hlv : vs.length < 1000000) (hn : s.next < 65536) (hvl : vs.length = F.xa.length) (hok : ∀ i, i < vs.length -> g9 F.xa i (vs.getD i eV.d) = true) (hsz : ∀ i, i < vs.length -> (vs.getD i eV.d).s.size < 1000000000) : Ctr Tryz.prog nO 60 [.o (.p 1 q 0 0 0), .o (.s 6 qv 3 0 vs.length cv zv)] [.as (r5 q F s k), vc eV 6 qv vs tv mv zv] (Unit) (fun _ => True) (fun r => .t [(false, [.i (s.next : Int)]), (false, [.i 0])]) (fun r => [.as (r5 q F (s.ins vs) (k + 1)), vc eV 6 qv vs tv mv zv]) :=
 g7 (ψ := tabP F s k) (L := K3 q F s) (E := [vc eV 6 qv vs tv mv zv]) (ψ' := fun r => tabP F (s.ins vs) (k + 1)) (L' := fun r => K3 q F (s.ins vs)) (E' := fun r => [vc eV 6 qv vs tv mv zv]) [0, 1, 7, 4, 5, 6] [0, 1, 6, 7, 3, 4, 5, 2] (fun y r => ()) (fun y r => { y with ql := r.1, cL := r.2.1.length, mL := .grown, lv := r.2.1, xs := r.2.2 })
  (fun y hy => a75 (q := q) (na := F.name) (ka := F.key) (qa := y.qa) (ca := y.ca) (za := y.za) (xa := F.xa) (ta := y.ta) (ma := y.ma) (qA := y.qA) (cA := y.cA) (zA := y.zA) (da := y.da) (qp := y.qp) (zp := y.zp) (xs := y.xs) (ql := y.ql) (cL := y.cL) (lv := y.lv) (n := s.next) (mp := y.mp) (mL := y.mL) (qv := qv) (cv := cv) (zv := zv) (vs := vs) (tv := tv) (mv := mv) hy.za (by have := hy.fm.xl; omega) hzv hlv hy.zp hn (by rw [hy.xl]; exact hvl) hy.xl.symm hok hsz (hy.fit hk) hy.kind hy.rep.wf)
  (fun y => ⟨by kernel_rfl, by kernel_rfl⟩)
  (fun y r hy hr => ⟨trivial, rfl, ⟨hy.fm, hy.za, hy.zA, (fun h => by rw [hr.2.1]; exact hy.zp h), hy.da, (b4R hy.rep hn hvl (fun c hc => hok c (by rw [hvl]; exact hc)) hr.1 (by rw [length_map, length_map]; exact hr.2.1) (fun c hc => by rw [xsC, xsC]; exact hr.2.2.2 c (by rw [hy.xl]; exact hc)))⟩⟩)
  (fun y r => ⟨by kernel_rfl, by kernel_rfl⟩)
theorem b1r {q : Nat} {F : Fm} {s : Ts} {k j : Nat} (hk : k < 70000) (hn : s.next <= 65536) (hj : j < s.rows.length) : Ctr Tryz.prog nO 66 [.o (.p 1 q 0 0 0), .o (.i (((s.rows.getD j dR).1 : Nat) : Int))] [.as (r5 q F s k)] (Unit) (fun _ => True) (fun r => .o (.v (.bool true))) (fun r => [.as (r5 q F (s.del j) (k + 2))]) :=
 g7 (ψ := tabP F s k) (L := K3 q F s) (E := []) (ψ' := fun r => tabP F (s.del j) (k + 2)) (L' := fun r => K3 q F (s.del j)) (E' := fun r => []) [0, 4, 5, 6] [0, 4, 5, 6, 1, 2, 3] (fun y r => ()) (fun y r => { y with ql := r.1, cL := r.2.length, mL := .grown, lv := r.2, xs := (g8 y.xs (a2Z y.xs (s.rows.getD j dR).1 (⟨0, 0, ⟨#[]⟩⟩ : Va)) y.xs.length) })
  (fun y hy => b1E (q := q) (na := F.name) (ka := F.key) (qa := y.qa) (ca := y.ca) (za := y.za) (xa := F.xa) (qA := y.qA) (cA := y.cA) (zA := y.zA) (da := y.da) (qp := y.qp) (zp := y.zp) (xs := y.xs) (ql := y.ql) (cL := y.cL) (lv := y.lv) (n := s.next) (mp := y.mp) (mL := y.mL) (id := ((s.rows.getD j dR).1)) hy.zp hy.lvs (by have := hy.fm.xl; rw [hy.xl]; omega) (hy.has hj) (hy.hid hj) (hy.fit hk) hy.rep.wf)
  (fun y => ⟨by kernel_rfl, by kernel_rfl⟩)
  (fun y r hy hr => ⟨trivial, rfl, ⟨hy.fm, hy.za, hy.zA, (fun h => by rw [i7]; exact hy.zp h), hy.da, (b4S hy.rep hn hj hr (by rw [length_map, length_map, i7]) (fun c hc => by rw [xsC, xsC, K9 _ _ (by rw [hy.xl]; exact hc), if_pos (by rw [hy.xl]; exact hc)]; rfl))⟩⟩)
  (fun y r => ⟨by kernel_rfl, by kernel_rfl⟩)
theorem a0z {q : Nat} {F : Fm} {s : Ts} {k : Nat}  : K1 nO 40 [.o (.p 1 q 0 0 0)] [.as (r5 q F s k)] (.o (.i (s.next : Int))) :=
 g7 (ψ := tabP F s k) (L := K3 q F s) (E := []) (ψ' := fun r => tabP F s k) (L' := fun r => K3 q F s) (E' := fun r => []) [0] [0, 1, 2, 3, 4, 5, 6] (fun y r => ()) (fun y r => y)
  (fun y hy => a71 (q := q) (na := F.name) (ka := F.key) (qa := y.qa) (ca := y.ca) (za := y.za) (xa := F.xa) (qA := y.qA) (cA := y.cA) (zA := y.zA) (da := y.da) (qp := y.qp) (zp := y.zp) (xs := y.xs) (ql := y.ql) (cL := y.cL) (lv := y.lv) (n := s.next) )
  (fun y => ⟨by kernel_rfl, by kernel_rfl⟩)
  (fun y r hy hr => ⟨trivial, rfl, ⟨hy.fm, hy.za, hy.zA, hy.zp, hy.da, hy.rep⟩⟩)
  (fun y r => ⟨by kernel_rfl, by kernel_rfl⟩)
theorem tabP.row {F : Fm} {s : Ts} {k j : Nat} {y : Tr} (hy : tabP F s k y) (hj : j < s.rows.length) : N3 y.xs (s.rows.getD j dR).1 y.xs.length = (s.rows.getD j dR).2 := by
 have hl := hy.rep.rl _ (V8 hj)
 apply ext_getElem
 ·rw [a5M (Nat.le_refl _), hy.xl, hl]
 ·intro c h1 h2
  have hc : c < F.xa.length := by rw [<- hl]; exact h2
  have h := hy.rep.val _ (V8 hj) c hc
  rw [xsC, a8 (l := (s.rows.getD j dR).2) h2, a8 (l := y.xs) (by rw [hy.xl]; exact hc)] at h
  rw [<- h]
  simp [N3]
theorem a7Z {q : Nat} {na ka : ByteArray} {qa ca : Nat} {za : Bool} {xa : List Cd} {qA cA : Nat} {zA : Bool} {da : List De} {qp : Nat} {zp : Bool} {xs : List (Nat × Co)} {ql cL : Nat} {lv : List Sp} {n : Nat} {mp mL : Md} {id : Nat} {V : List Va} (hV : N3 xs id xs.length = V) (hzp : zp = true -> xs.length = 0) (hxl : xs.length < 1000000) (hll : lv.length < 1000000) (hhas : has lv (id : Int) = true) (hid : ∀ i, i < xs.length -> id < (xs.getD i dX).2.l.length) (hf : ∀ i, i < xs.length -> (xs.getD i dX).2.Fit) : Ctr Tryz.prog nO 88 [.o (.p 1 q 0 0 0), .o (.i (id : Int))] [.blk 1 q [.t na, .s 2 qa 4 0 xa.length ca za, .t ka, .s 3 qA 2 0 da.length cA zA, .s 4 qp 1 0 xs.length xs.length zp, .s 5 ql 2 0 lv.length cL lv.isEmpty, .i (n : Int)] 148 .own, vc eX 4 qp xs 156 mp zp, .as (e6 q0 xs), vc eP 5 ql lv 171 mL lv.isEmpty] ((Nat)) (fun _ => True) (fun r => .t [(false, [.s 6 r 3 0 V.length V.length V.isEmpty]), (false, [.v (.bool true)])]) (fun r => [.blk 1 q [.t na, .s 2 qa 4 0 xa.length ca za, .t ka, .s 3 qA 2 0 da.length cA zA, .s 4 qp 1 0 xs.length xs.length zp, .s 5 ql 2 0 lv.length cL lv.isEmpty, .i (n : Int)] 148 .own, vc eX 4 qp xs 156 mp zp, .as (e6 q0 xs), vc eP 5 ql lv 171 mL lv.isEmpty, vc eV 6 r V 26 .grown V.isEmpty]) :=
 (by subst hV; exact b1A (q := q) (na := na) (ka := ka) (qa := qa) (ca := ca) (za := za) (xa := xa) (qA := qA) (cA := cA) (zA := zA) (da := da) (qp := qp) (zp := zp) (xs := xs) (ql := ql) (cL := cL) (lv := lv) (n := n) (mp := mp) (mL := mL) (id := id) hzp hxl hll hhas hid hf)
theorem a5r {q : Nat} {F : Fm} {s : Ts} {k j : Nat} (hk : k < 70000) (hj : j < s.rows.length) : Ctr Tryz.prog nO 88 [.o (.p 1 q 0 0 0), .o (.i (((s.rows.getD j dR).1 : Nat) : Int))] [.as (r5 q F s k)] ((Nat)) (fun _ => True) (fun r => .t [(false, [.s 6 r 3 0 ((s.rows.getD j dR).2.length) ((s.rows.getD j dR).2.length) ((s.rows.getD j dR).2.isEmpty)]), (false, [.v (.bool true)])]) (fun r => [.as (r5 q F s k), vc eV 6 r ((s.rows.getD j dR).2) 26 .grown ((s.rows.getD j dR).2.isEmpty)]) :=
 g7 (ψ := tabP F s k) (L := K3 q F s) (E := []) (ψ' := fun r => tabP F s k) (L' := fun r => K3 q F s) (E' := fun r => [vc eV 6 r ((s.rows.getD j dR).2) 26 .grown ((s.rows.getD j dR).2.isEmpty)]) [0, 4, 5, 6] [0, 5, 6, 7, 1, 2, 3, 4] (fun y r => r) (fun y r => y)
  (fun y hy => a7Z (q := q) (na := F.name) (ka := F.key) (qa := y.qa) (ca := y.ca) (za := y.za) (xa := F.xa) (qA := y.qA) (cA := y.cA) (zA := y.zA) (da := y.da) (qp := y.qp) (zp := y.zp) (xs := y.xs) (ql := y.ql) (cL := y.cL) (lv := y.lv) (n := s.next) (mp := y.mp) (mL := y.mL) (id := ((s.rows.getD j dR).1)) (V := ((s.rows.getD j dR).2)) (hy.row hj) hy.zp (by have := hy.fm.xl; rw [hy.xl]; omega) hy.lvs (hy.has hj) (hy.hid hj) (hy.fit hk))
  (fun y => ⟨by kernel_rfl, by kernel_rfl⟩)
  (fun y r hy hr => ⟨trivial, rfl, ⟨hy.fm, hy.za, hy.zA, hy.zp, hy.da, hy.rep⟩⟩)
  (fun y r => ⟨by kernel_rfl, by kernel_rfl⟩)
theorem a6F {q : Nat} {F : Fm} {s : Ts} {k : Nat} {sn : ByteArray} {c : Nat} (hk : k < 70000) (hc : e9 F.xa (fun c => a7 c.name sn) = (c : Int)) (hcx : c < F.xa.length) : Ctr Tryz.prog nO 137 [.o (.p 1 q 0 0 0), .o (.t sn)] [.as (r5 q F s k)] ((List Kv)) (fun r => WsRep (Y8 (s.col c)) r) (fun r => .o (.i (r.length : Int))) (fun r => [.as (r5 q F s k)]) :=
 g7 (ψ := tabP F s k) (L := K3 q F s) (E := []) (ψ' := fun r => tabP F s k) (L' := fun r => K3 q F s) (E' := fun r => []) [0, 1, 4, 5] [0, 1, 4, 5, 2, 3, 6] (fun y r => (y.xs.getD c dX).2.ws) (fun y r => y)
  (fun y hy => a6K (q := q) (na := F.name) (ka := F.key) (qa := y.qa) (ca := y.ca) (za := y.za) (xa := F.xa) (ta := y.ta) (ma := y.ma) (qA := y.qA) (cA := y.cA) (zA := y.zA) (da := y.da) (qp := y.qp) (zp := y.zp) (xs := y.xs) (ql := y.ql) (cL := y.cL) (lv := y.lv) (n := s.next) (mp := y.mp) (s := sn) (j := c) hy.za (by have := hy.fm.xl; omega) hy.zp hc (by rw [hy.xl]; exact hcx) (by have := hy.fm.xl; rw [hy.xl]; omega) (hy.fit hk))
  (fun y => ⟨by kernel_rfl, by kernel_rfl⟩)
  (fun y r hy hr => ⟨(by have h := hy.rep.ws c hcx; have e : Y8 (((y.xs.map Prod.snd).getD c dC)).l = Y8 (s.col c) := funext fun t => hy.rep.cnt c hcx t; rw [e, xsC] at h; exact h), rfl, ⟨hy.fm, hy.za, hy.zA, hy.zp, hy.da, hy.rep⟩⟩)
  (fun y r => ⟨by kernel_rfl, by kernel_rfl⟩)
end Go.Proofs.YtagidoadfajpgaaGreat
namespace Go.Proofs.YtagidoadfajpgaaGreat
open Go.Abs
variable {nO : Nat}
set_option maxRecDepth 100000
attribute [local irreducible] GP ruP nxP acS gst cdP loP j6 m9 m8 enP caA n5 lgP agN
theorem a6M {q : Nat} {na ka : ByteArray} {qa ca : Nat} {za : Bool} {xa : List Cd} {qA cA : Nat} {zA : Bool} {da : List De} {qp : Nat} {zp : Bool} {xs : List (Nat × Co)} {ql cL : Nat} {lv : List Sp} {n : Nat} {mL : Md}  : Ctr Tryz.prog nO 75 [.o (.p 1 q 0 0 0)] [.blk 1 q [.t na, .s 2 qa 4 0 xa.length ca za, .t ka, .s 3 qA 2 0 da.length cA zA, .s 4 qp 1 0 xs.length xs.length zp, .s 5 ql 2 0 lv.length cL lv.isEmpty, .i (n : Int)] 148 .own, vc eP 5 ql lv 171 mL lv.isEmpty] (Unit) (fun _ => True) (fun r => .a [.s 5 ql 2 0 lv.length cL lv.isEmpty]) (fun r => [.blk 1 q [.t na, .s 2 qa 4 0 xa.length ca za, .t ka, .s 3 qA 2 0 da.length cA zA, .s 4 qp 1 0 xs.length xs.length zp, .s 5 ql 2 0 lv.length cL lv.isEmpty, .i (n : Int)] 148 .own, vc eP 5 ql lv 171 .imm lv.isEmpty, vc eP 8 ql lv 171 .imm lv.isEmpty]) :=
 E5 (L9 [vc eP 5 ql lv 171 mL lv.isEmpty] (a72 (q := q) (na := na) (ka := ka) (qa := qa) (ca := ca) (za := za) (xa := xa) (qA := qA) (cA := cA) (zA := zA) (da := da) (qp := qp) (zp := zp) (xs := xs) (ql := ql) (cL := cL) (lv := lv) (n := n))) (fun _ _ => a0U _ (b7k (k7 (E := eP) (g := 5) (q := ql) (xs := lv) (t := 171) (m := mL) (z := lv.isEmpty)) (a4q (E := eP) (g := 5) (q := ql) (xs := lv) (t := 171) (z := lv.isEmpty))))
theorem a24 {q : Nat} {F : Fm} {s : Ts} {k : Nat}  : Ctr Tryz.prog nO 75 [.o (.p 1 q 0 0 0)] [.as (r5 q F s k)] ((Nat) × (Nat) × (List Sp)) (fun r => WF (-1) r.2.2 /\ ∀ i, has r.2.2 i = s.is i) (fun r => .a [.s 8 r.1 2 0 r.2.2.length r.2.1 r.2.2.isEmpty]) (fun r => [.as (r5 q F s k), vc eP 8 r.1 r.2.2 171 .imm r.2.2.isEmpty]) :=
 g7 (ψ := tabP F s k) (L := K3 q F s) (E := []) (ψ' := fun r => tabP F s k) (L' := fun r => K3 q F s) (E' := fun r => [vc eP 8 r.1 r.2.2 171 .imm r.2.2.isEmpty]) [0, 6] [0, 3, 4, 5, 6, 7, 1, 2] (fun y r => (y.ql, y.cL, y.lv)) (fun y r => { y with mL := .imm })
  (fun y hy => a6M (q := q) (na := F.name) (ka := F.key) (qa := y.qa) (ca := y.ca) (za := y.za) (xa := F.xa) (qA := y.qA) (cA := y.cA) (zA := y.zA) (da := y.da) (qp := y.qp) (zp := y.zp) (xs := y.xs) (ql := y.ql) (cL := y.cL) (lv := y.lv) (n := s.next) (mL := y.mL) )
  (fun y => ⟨by kernel_rfl, by kernel_rfl⟩)
  (fun y r hy hr => ⟨⟨hy.rep.wf, hy.rep.live⟩, rfl, ⟨hy.fm, hy.za, hy.zA, hy.zp, hy.da, hy.rep⟩⟩)
  (fun y r => ⟨by kernel_rfl, by kernel_rfl⟩)
theorem a27 {q : Nat} {F : Fm} {s : Ts} {k : Nat}  : Ctr Tryz.prog nO 74 [.o (.p 1 q 0 0 0)] [.as (r5 q F s k)] ((Nat) × (Nat) × (List De) × (Bool) × (Bool) × (Md)) (fun r => r.2.2.1.map e8 = F.da /\ (r.2.2.2.1 = true -> F.xa.length = 0) /\ (r.2.2.2.2.1 = true -> r.2.2.1.length = 0)) (fun r => .a [.t F.name, .s 7 r.1 4 0 F.xa.length F.xa.length r.2.2.2.1, .t F.key, .s 8 r.2.1 2 0 r.2.2.1.length r.2.2.1.length r.2.2.2.2.1]) (fun r => [.as (r5 q F s k), vc eC 7 r.1 F.xa 130 (n8 F.xa) r.2.2.2.1, vc (eD 906) 8 r.2.1 r.2.2.1 161 r.2.2.2.2.2 r.2.2.2.2.1, .as (e6 (n4 9) r.2.2.1)]) :=
 g7 (ψ := tabP F s k) (L := K3 q F s) (E := []) (ψ' := fun r => tabP F s k) (L' := fun r => K3 q F s) (E' := fun r => [vc eC 7 r.1 F.xa 130 (n8 F.xa) r.2.2.2.1, vc (eD 906) 8 r.2.1 r.2.2.1 161 r.2.2.2.2.2 r.2.2.2.2.1, .as (e6 (n4 9) r.2.2.1)]) [0, 1, 2, 3] [0, 1, 2, 3, 7, 8, 9, 4, 5, 6] (fun y r => (r.1, r.2.1, r.2.2, y.za, y.zA, n8 y.da)) (fun y r => y)
  (fun y hy => a3e (q := q) (na := F.name) (ka := F.key) (qa := y.qa) (ca := y.ca) (za := y.za) (xa := F.xa) (ta := y.ta) (ma := y.ma) (qA := y.qA) (cA := y.cA) (zA := y.zA) (da := y.da) (qp := y.qp) (zp := y.zp) (xs := y.xs) (ql := y.ql) (cL := y.cL) (lv := y.lv) (n := s.next) (tA := y.tA) (mA := y.mA) hy.za (by have := hy.fm.xl; omega) hy.zA (by have := hy.fm.dl; rw [hy.dl]; omega) hy.dda)
  (fun y => ⟨by kernel_rfl, by kernel_rfl⟩)
  (fun y r hy hr => ⟨⟨hr.trans hy.da, hy.za, fun h => by have e := congrArg List.length hr; rw [List.length_map, List.length_map] at e; rw [e]; exact hy.zA h⟩, rfl, ⟨hy.fm, hy.za, hy.zA, hy.zp, hy.da, hy.rep⟩⟩)
  (fun y r => ⟨by kernel_rfl, by kernel_rfl⟩)
theorem a5s {na ka : ByteArray} {qa ca : Nat} {za : Bool} {xa : List Cd} {ta : TypeId} {ma : Md} {qA cA : Nat} {zA : Bool} {da : List De} {tA : TypeId} {mA : Md} (hza : za = true -> xa.length = 0) (hla : xa.length < 1000000) (hzA : zA = true -> da.length = 0) (hfm : FmOk (⟨na, ka, xa, da.map e8⟩ : Fm)) : Ctr Tryz.prog nO 92 [.a [.t na, .s 2 qa 4 0 xa.length ca za, .t ka, .s 3 qA 2 0 da.length cA zA]] [vc eC 2 qa xa ta ma za, vc (eD 906) 3 qA da tA mA zA, .as (e6 (n4 9) da)] ((Nat)) (fun _ => True) (fun r => .o (.p 1 r 0 0 0)) (fun r => [.as (r5 r (⟨na, ka, xa, da.map e8⟩ : Fm) ⟨[], 0⟩ 0)]) :=
 b3i (ψ' := fun r => tabP (⟨na, ka, xa, da.map e8⟩ : Fm) ⟨[], 0⟩ 0) (L' := fun r => K3 r (⟨na, ka, xa, da.map e8⟩ : Fm) ⟨[], 0⟩) (E' := fun r => []) [vc (eD 906) 3 qA da tA mA zA, .as (e6 (n4 9) da)] [0, 1, 5, 6, 2, 3, 4] (fun r => r.1) (fun r => { qa := qa, ca := ca, za := za, ta := ta, ma := ma, qA := qA, cA := cA, zA := zA, tA := tA, mA := mA, da := da, qp := r.2.1, zp := r.2.2.isEmpty, mp := .grown, xs := r.2.2, ql := 0, cL := 0, mL := .grown, lv := [] })
  (a5x (na := na) (ka := ka) (qa := qa) (ca := ca) (za := za) (xa := xa) (ta := ta) (ma := ma) (qA := qA) (cA := cA) (zA := zA) (da := da) hza hla hfm.kd)
  (fun r hr => ⟨trivial, rfl, ⟨hfm, hza, hzA, a4P, rfl, b4Q hr⟩⟩)
  (fun r => ⟨by kernel_rfl, by kernel_rfl⟩)
theorem tabP.okc {F : Fm} {s : Ts} {k : Nat} {y : Tr} (hy : tabP F s k y) (hsz : ∀ r ∈ s.rows, ∀ c, c < F.xa.length -> (r.2.getD c eV.d).s.size < 1000000000) : ∀ c, c < y.xs.length -> ∀ i, i < s.next -> b0D (F.xa.getD c eC.d).kind ((y.xs.getD c dX).2.l.getD i eV.d) = true /\ ((y.xs.getD c dX).2.l.getD i eV.d).s.size < 1000000000 := fun c hc i hi => by
 rw [hy.xl] at hc
 cases h : s.is (i : Int) with
 | false =>
  have e := hy.rep.dead c hc i hi h
  rw [xsC] at e
  rw [e]
  exact ⟨a35 _, a9h⟩
 | true =>
  obtain ⟨r, hr, e⟩ := Ts.is_iff.1 h
  have e2 : r.1 = i := by omega
  have e3 := hy.rep.val r hr c hc
  rw [xsC, e2] at e3
  rw [e3]
  exact ⟨hy.rep.ok r hr c hc, hsz r hr c hc⟩
theorem b3l {F : Fm} {s : Ts} {k : Nat} {y : Tr} (hy : tabP F s k y) {ys : List (Nat × Co)} (h : ys.map Prod.snd = F.xa.map K5) : TRep F.xa s ((g8 ys (a1X y.xs F.xa) ys.length).map Prod.snd) y.lv k := by
 have hl : ys.length = F.xa.length := by have := congrArg List.length h; rwa [List.length_map, List.length_map] at this
 refine b16 hy.rep (by rw [List.length_map, i7, hl]) fun c hc => ?_
 rw [xsC, xsC, K9 _ _ (by rw [hl]; exact hc), if_pos (by rw [hl]; exact hc)]
 rfl
theorem a7U {q : Nat} {F : Fm} {s : Ts} {k : Nat} (hk : k < 70000) (hn : s.next <= 65536) (hsz : ∀ r ∈ s.rows, ∀ c, c < F.xa.length -> (r.2.getD c eV.d).s.size < 1000000000) : Ctr Tryz.prog nO 73 [.o (.p 1 q 0 0 0)] [.as (r5 q F s k)] ((Nat)) (fun _ => True) (fun r => .o (.p 11 r 0 0 0)) (fun r => [.as (r5 q F s k), .as (r5 r F s k)]) :=
 J4 (E5 (g7 (R' := Nat × Tr) (φ' := fun r => tabP F s k r.2) (res' := fun r => .o (.p 11 r.1 0 0 0)) (ψ := tabP F s k) (L := K3 q F s) (E := []) (ψ' := fun r => tabP F s k) (L' := fun r => K3 q F s) (E' := fun r => K3 r.1 F s r.2) [0, 1, 2, 3, 4, 5, 6] [0, 1, 2, 3, 4, 5, 6, 7, 8, 9, 10, 11, 12, 13] (fun y r => (r.1, { qa := r.2.1, ca := F.xa.length, za := y.za, ta := 130, ma := n8 F.xa, qA := r.2.2.1, cA := r.2.2.2.1.length, zA := y.zA, tA := 161, mA := n8 y.da, da := r.2.2.2.1, qp := r.2.2.2.2.1, zp := r.2.2.2.2.2.isEmpty, mp := .grown, xs := (g8 r.2.2.2.2.2 (a1X y.xs F.xa) r.2.2.2.2.2.length), ql := y.ql, cL := y.cL, mL := .imm, lv := y.lv })) (fun y r => { y with mL := .imm })
  (fun y hy => a8a (q := q) (na := F.name) (ka := F.key) (qa := y.qa) (ca := y.ca) (za := y.za) (xa := F.xa) (ta := y.ta) (ma := y.ma) (qA := y.qA) (cA := y.cA) (zA := y.zA) (da := y.da) (qp := y.qp) (zp := y.zp) (xs := y.xs) (ql := y.ql) (cL := y.cL) (lv := y.lv) (n := s.next) (tA := y.tA) (mA := y.mA) (mp := y.mp) (mL := y.mL) hy.za (by have := hy.fm.xl; omega) hy.zA (by have := hy.fm.dl; rw [hy.dl]; omega) hy.zp hy.dda hy.fm.kd hy.xl.symm hn hy.ll (fun c hc i hi => hy.okc hsz c hc i hi) (hy.fit hk))
  (fun y => ⟨by kernel_rfl, by kernel_rfl⟩)
  (fun y r hy hr => ⟨⟨hy.fm, hy.za, fun h => by have e := congrArg List.length hr.1; rw [List.length_map, List.length_map] at e; rw [e]; exact hy.zA h, fun h => by rw [i7]; exact a4P h, hr.1.trans hy.da, b3l hy hr.2⟩, rfl, ⟨hy.fm, hy.za, hy.zA, hy.zp, hy.da, hy.rep⟩⟩)
  (fun y r => ⟨by kernel_rfl, by kernel_rfl⟩)) (post' := fun r => [.as (r5 q F s k), .as (r5 r.1 F s k)]) (fun r hr => a0U _ (show GE (K3 r.1 F s r.2) Unit (fun _ => True) (fun _ => [.as (r5 r.1 F s k)]) from d5 (φ := tabP F s k) (L := K3 r.1 F s) r.2 hr))) (fun r => r.1) (fun r _ => ⟨trivial, rfl, rfl⟩)
end Go.Proofs.YtagidoadfajpgaaGreat
namespace Go.Proofs.YtagidoadfajpgaaGreat
set_option maxHeartbeats 4000000
open Go.Abs
variable {nO : Nat}
set_option maxRecDepth 100000
attribute [local irreducible] GP ruP nxP acS gst cdP loP j6 m9 m8 enP caA n5 lgP agN
def eRw : En (Nat × Rw) := ⟨2, fun x => [.i (x.2.1 : Int), .s 921 x.1 3 0 x.2.2.length x.2.2.length x.2.2.isEmpty], (0, dR)⟩
def a6I (x : Nat × Rw) : As := (vc eV 921 x.1 x.2.2 26 .grown x.2.2.isEmpty).den
structure Xr where
 qa : Nat
 ca : Nat
 za : Bool
 ta : TypeId
 qA : Nat
 cA : Nat
 zA : Bool
 tA : TypeId
 da : List De
 qr : Nat
 ws : List (Nat × Rw)
 F : Fm
 n : Nat
def dXr : Xr := ⟨0, 0, true, 0, 0, 0, true, 0, [], 0, [], ⟨⟨#[]⟩, ⟨#[]⟩, [], []⟩, 0⟩
def eTb : En Xr := ⟨4, fun x => [.t x.F.name, .s 931 x.qa 4 0 x.F.xa.length x.ca x.za, .t x.F.key, .s 932 x.qA 2 0 x.da.length x.cA x.zA], dXr⟩
def eRs : En Xr := ⟨1, fun x => [.s 933 x.qr 2 0 x.ws.length x.ws.length x.ws.isEmpty], dXr⟩
def xL (x : Xr) : List Ch := [vc eC 931 x.qa x.F.xa x.ta .imm x.za, vc (eD 906) 932 x.qA x.da x.tA .imm x.zA, .as (e6 (n4 9) x.da), vc eRw 933 x.qr x.ws 58 .grown x.ws.isEmpty, .as (e6 a6I x.ws)]
def xA (x : Xr) : As := hpA (xL x)
structure xP (x : Xr) : Prop where
 fm : FmOk x.F
 za : x.za = true -> x.F.xa.length = 0
 zA : x.zA = true -> x.da.length = 0
 da : x.da.map e8 = x.F.da
 wl : x.ws.length < 100000
 rl : ∀ w ∈ x.ws, w.2.2.length = x.F.xa.length
def Xr.s (x : Xr) : Ts := ⟨x.ws.map Prod.snd, x.n⟩
theorem b8d {v : Va} (hs : v.s.size < 1000000000) (hk : vOk v = true) : K1 nO 151 [.a [.i v.k, .i v.n, .t v.s]] [] (.o (.v (.bool true))) :=
 J4 (a5O hs) id fun _ _ => ⟨trivial, congrArg Value.bool hk, rfl⟩
theorem b6H {v : Va} {c : Cd} (hs : v.s.size < 1000000000) (hk : vOk v = true) : K1 nO 110 [.a [.i v.k, .i v.n, .t v.s], .a [.t c.name, .i c.kind, .cb c.must, .t c.to]] [] (.o (.cb (and (vOk v) (or (v.k == 0) (v.k == c.kind))))) := by
 refine fs 100 fun B => g0 fun q101 => g0 fun _ => cl (b8d (v := v) hs hk) [] [] 102 fun _ _ => g0 fun _ => rtv trivial (()) trivial [] (.o (.cb (or (v.k == 0) (v.k == c.kind)))) (congrArg Value.bool (by rw [hk]; simp))
theorem b8e {v : Va} (hs : v.s.size < 1000000000) (hk : vOk v = false) : K1 nO 151 [.a [.i v.k, .i v.n, .t v.s]] [] (.o (.v (.bool false))) :=
 J4 (a5O hs) id fun _ _ => ⟨trivial, congrArg Value.bool hk, rfl⟩
theorem b6I {v : Va} {c : Cd} (hs : v.s.size < 1000000000) (hk : vOk v = false) : K1 nO 110 [.a [.i v.k, .i v.n, .t v.s], .a [.t c.name, .i c.kind, .cb c.must, .t c.to]] [] (.o (.cb (and (vOk v) (or (v.k == 0) (v.k == c.kind))))) := by
 refine fs 100 fun B => g0 fun q101 => g0 fun _ => cl (b8e (v := v) hs hk) [] [] 102 fun _ _ => g0 fun _ => rtv trivial (()) trivial [] (.o (.v (.bool false))) (congrArg Value.bool (by rw [hk]; simp))
theorem Q5 {v : Va} {c : Cd} (hs : v.s.size < 1000000000) : K1 nO 110 [.a [.i v.k, .i v.n, .t v.s], .a [.t c.name, .i c.kind, .cb c.must, .t c.to]] [] (.o (.cb (and (vOk v) (or (v.k == 0) (v.k == c.kind))))) := by
 cases h : vOk v
 ·have := b6I (nO := nO) (c := c) hs h; rw [h] at this; exact this
 ·have := b6H (nO := nO) (c := c) hs h; rw [h] at this; exact this
theorem y9 {na ka : ByteArray} {qa ca : Nat} {za : Bool} {xa : List Cd} {ta : TypeId} {ma : Md} {qA cA : Nat} {zA : Bool} {da : List De} {s : ByteArray} (hza : za = true -> xa.length = 0) (hla : xa.length < 1000000) : K1 nO 79 [.a [.t na, .s 1 qa 4 0 xa.length ca za, .t ka, .s 3 qA 2 0 da.length cA zA], .o (.t s)] [vc eC 1 qa xa ta ma za] (.o (.i (e9 xa (fun c => a7 c.name s)))) := by
 refine fs 100 fun B => g0 fun q101 => g0 fun _ => lp ((Nat)) [1, 2] (fun r => [(5, .o (.i (r : Int)))]) [0, 1] (fun _ => []) 121 (fun r => r <= xa.length /\ ∀ j, j < r -> a7 (xa.getD j eC.d).name s = false) (fun r => xa.length - r) (0) ⟨Nat.zero_le _, fun j hj => absurd hj (Nat.not_lt_zero j)⟩ [] (fun i hx ag103 => ?_)
 obtain ⟨hi, hn⟩ := hx
 refine g0 fun _ => cdD ((i : Int) < (xa.length : Int)) (fun h1 => ?_) (fun h1 => ?_)
 ·refine go (fun _ => (o4 (nz i) (by omega : (i : Int) < (xa.length : Int)) (zf hza (show 0 < xa.length by omega) : za = false) (by omega : i < xa.length))) fun _ => cd (a7 ((xa.getD i eC.d).name) s) (fun h2 => ?_) (fun h2 => ?_)
  ·refine g0 fun _ => rtv trivial (()) trivial [1] (.o (.i (i : Int))) (congrArg (Value.int .i64) (p9 (d := eC.d) (p := fun c => a7 c.name s) (by omega) h2 hn).symm)
  ·refine go (fun _ => (o2 (by omega : -9223372036854775808 <= (i : Int) + 1) (by omega : (i : Int) + 1 < 9223372036854775808))) fun _ => ag103 _ _ (i + 1) (by first | omega | (simp only; omega)) ⟨by omega, fun j hj => by rcases Nat.lt_succ_iff_lt_or_eq.1 hj with h | h; exact hn j h; subst h; exact h2⟩ [0, 1] (by kernel_rfl) (by kernel_rfl)
 ·refine g0 fun _ => rtv trivial (()) trivial [1] (.o (.i (-1))) (congrArg (Value.int .i64) (s8 (d := eC.d) (p := fun c => a7 c.name s) (fun j hj => hn j (by omega))).symm)
theorem b3V {x : Xr} {id : Int} : x.s.pos id = e9 x.ws fun w => (w.2.1 : Int) == id := by
 show e9 (x.ws.map Prod.snd) _ = _
 unfold e9
 rw [List.findIdx?_map]; rfl
theorem N8 {q qS qR qN : Nat} {xs : List Xr} {mR : Md} {t : Nat} {id : Int} (ht : t < xs.length) (hx : xP (xs.getD t dXr)) : K1 nO 84 [.o (.p 1 q 0 0 0), .o (.i (t : Int)), .o (.i id)] [.blk 1 q [.s 2 qS 4 0 xs.length xs.length xs.isEmpty, .s 3 qR 1 0 xs.length xs.length xs.isEmpty, .s 4 qN 1 0 xs.length xs.length xs.isEmpty] 42 .own, vc eRs 3 qR xs 55 mR xs.isEmpty, .as (e6 xA xs)] (.o (.i ((xs.getD t dXr).s.pos id))) := by
 refine fs 100 (fun B => ?_)
 have hwl := hx.wl
 refine gh (f8 (I := xA) (l := xs) t dXr (by omega)) [2] [] 100 fun _ _ => gh (O5 (l := xL (xs.getD t dXr))) [0] [] 100 fun _ _ => g0 fun _ => g0 fun _ => lp ((Nat)) [0, 1, 2] (fun r => [(7, .o (.i (r : Int)))]) [0, 1, 2, 3, 4, 5, 6, 7] (fun _ => []) 120 (fun r => r <= (xs.getD t dXr).ws.length /\ ∀ j, j < r -> ((((xs.getD t dXr).ws.getD j eRw.d).2.1 : Int) == id) = false) (fun r => (xs.getD t dXr).ws.length - r) (0) ⟨Nat.zero_le _, fun j hj => absurd hj (Nat.not_lt_zero j)⟩ [] (fun i hx ag103 => ?_)
 obtain ⟨hi, hn⟩ := hx
 refine go (fun _ => (o4 (nz t) (by omega : (t : Int) < (xs.length : Int)) (zfe (by omega) : xs.isEmpty = false) (by omega : t < xs.length))) fun _ => cdD ((i : Int) < (((xs.getD t dXr).ws.length : Nat) : Int)) (fun h1 => ?_) (fun h1 => ?_)
 ·refine go (fun _ => (oc (nz t) (by omega : (t : Int) < (xs.length : Int)) (zfe (by omega) : xs.isEmpty = false) (by omega : t < xs.length) (nz i) (by omega : (i : Int) < (((xs.getD t dXr).ws.length : Nat) : Int)) (o2 (zfe (by omega) : (xs.getD t dXr).ws.isEmpty = false) (by omega : i < ((xs.getD t dXr).ws).length)))) fun _ => cd (((((xs.getD t dXr).ws).getD i eRw.d).2.1 : Int) == id) (fun h2 => ?_) (fun h2 => ?_)
  ·refine g0 fun _ => gh (p6 (l := xL (xs.getD t dXr))) [0, 1, 2, 3, 4] [] 120 fun _ _ => gh (j9 (I := xA) (l := xs) t dXr (by omega)) [0, 1] [] 120 fun _ _ => rtv trivial (()) trivial [1, 2, 0] (.o (.i (i : Int))) (congrArg (Value.int .i64) (b3V.trans (p9 (d := eRw.d) (by omega) h2 hn)).symm)
  ·refine go (fun _ => (o2 (by omega : -9223372036854775808 <= (i : Int) + 1) (by omega : (i : Int) + 1 < 9223372036854775808))) fun _ => ag103 _ _ (i + 1) (by first | omega | (simp only; omega)) ⟨by omega, fun j hj => by rcases Nat.lt_succ_iff_lt_or_eq.1 hj with h | h; exact hn j h; subst h; exact h2⟩ [0, 1, 2, 3, 4, 5, 6, 7] (by kernel_rfl) (by kernel_rfl)
 ·refine g0 fun _ => gh (p6 (l := xL (xs.getD t dXr))) [0, 1, 2, 3, 4] [] 120 fun _ _ => gh (j9 (I := xA) (l := xs) t dXr (by omega)) [0, 1] [] 120 fun _ _ => rtv trivial (()) trivial [1, 2, 0] (.o (.i (-1))) (congrArg (Value.int .i64) (b3V.trans (s8 (d := eRw.d) (fun j hj => hn j (by omega)))).symm)
end Go.Proofs.YtagidoadfajpgaaGreat
