/-
  Tl2.
-/
import Derived.Test.YtagidoadfajpgaaGreatN27
import Derived.Test.YtagidoadfajpgaaGreatN26
import Derived.Test.YtagidoadfajpgaaGreatN21
namespace Go.Proofs.YtagidoadfajpgaaGreat
set_option maxHeartbeats 4000000
open Go.Abs
variable {nO : Nat}
set_option maxRecDepth 100000
attribute [local irreducible] GP ruP ruN nxP acS gst cdP loP j6 m9 m8 enP caA n5 lgP agN
def b1 : Ts := s0.ins (I0 7 ⟨#[120]⟩)
def b2 : Ts := b1.ins (I0 8 ⟨#[121]⟩)
def b3 : Ts := b2.del 0
def a7H : Va := ⟨2, 0, ⟨#[122]⟩⟩
def b4 : Ts := b3.put 0 2 a7H
theorem b8E : a1l b2 0 = b3 := by kernel_rfl
theorem b8C : e9 t8.xa (fun c => a7 c.name ⟨#[122, 111, 110, 101]⟩) = ((2 : Nat) : Int) := by decide +kernel
theorem b8D : e9 t8.xa (fun c => a7 c.name ⟨#[99, 105, 116, 121]⟩) = ((1 : Nat) : Int) := by decide +kernel
theorem b_y : tOk ⟨#[121]⟩ = true := by decide +kernel
theorem b8B : a0g t8 b3 1 ⟨#[122, 111, 110, 101]⟩ ⟨2, 0, ⟨#[122]⟩⟩ = b4 := by kernel_rfl
theorem b8F {m : List Sp} (hw : WF (-1) m) (h : ∀ i, has m i = b4.is i) : a7j m = 1 := by
 have e : E7 m = [1] := b4l hw (by simp [a4f]) fun i => by
  rw [h, Ts.is_iff]
  constructor
  ·intro hi
   obtain rfl := List.mem_singleton.1 hi
   exact ⟨(1, (I0 8 ⟨#[121]⟩).set 2 a7H), List.mem_singleton.2 rfl, rfl⟩
  ·rintro ⟨r, hr, rfl⟩
   obtain rfl : r = (1, (I0 8 ⟨#[121]⟩).set 2 a7H) := List.mem_singleton.1 hr
   exact List.mem_singleton.2 rfl
 rw [a31 hw, e]; rfl
theorem b5Y {ws : List Kv} (h : WsRep (Y8 (b4.col 1)) ws) : ws.length = 1 :=
 (h.len ((WsRep.nil (f := fun _ => 0) fun _ => rfl).cw ⟨2, 0, ⟨#[121]⟩⟩ fun t => U3 [] ⟨2, 0, ⟨#[121]⟩⟩ t)).trans (by decide +kernel)
theorem b_x : tOk ⟨#[120]⟩ = true := by decide +kernel
theorem b0O   : K1 nO 109 [] [] (.o (.v (.bool true))) := by
 refine fs 100 fun B => g0 fun _ => cl (b1Q ) [] [(1, 100), (2, 101)] 102 fun ⟨qc103, qd103, ql103⟩ _ => cl (a5s (na := a6O) (ka := tId) (qa := qc103) (ca := F7.length) (za := false) (xa := F7) (ta := 130) (ma := .grown) (qA := qd103) (cA := (a0f ql103).length) (zA := false) (da := (a0f ql103)) (tA := 161) (mA := .imm) (fun h => nomatch h) (show 4 < 1000000 by decide) (fun h => nomatch h) b1R) [0, 1, 2] [(2, 100), (3, 101), (1, 102)] 103 fun q105 _ => gh (b6 (l := [.as (r5 q105 (⟨a6O, tId, F7, (a0f ql103).map e8⟩ : Fm) ⟨[], 0⟩ 0)]) (l' := [.as (r5 q105 t8 s0 0)]) rfl) [0] [] 103 fun _ _ => g0 fun _ => g0 fun _ => cdF rfl <| g0 fun _ => cl (@a54 _ 7 ⟨#[120]⟩) [] [(1, 103)] 104 fun q109 _ => cl (a14 (q := q105) (F := t8) (s := s0) (k := 0) (qv := q109) (cv := (I0 7 ⟨#[120]⟩).length) (zv := false) (vs := (I0 7 ⟨#[120]⟩)) (tv := 26) (mv := .own) (by decide) (fun h => nomatch h) (show 4 < 1000000 by decide) (by decide) rfl (a8v b_x) (a8u (show 1 <= 12 by decide))) [1, 0] [(1, 102), (6, 103)] 104 fun _ _ => gh (b6 (l := [.as (r5 q105 t8 (s0.ins (I0 7 ⟨#[120]⟩)) (0 + 1))]) (l' := [.as (r5 q105 t8 b1 1)]) rfl) [0] [] 104 fun _ _ => g0 fun _ => g0 fun _ => cl (@a54 _ 8 ⟨#[121]⟩) [] [(1, 104)] 105 fun q114 _ => cl (a14 (q := q105) (F := t8) (s := b1) (k := 1) (qv := q114) (cv := (I0 8 ⟨#[121]⟩).length) (zv := false) (vs := (I0 8 ⟨#[121]⟩)) (tv := 26) (mv := .own) (by decide) (fun h => nomatch h) (show 4 < 1000000 by decide) (by decide) rfl (a8v b_y) (a8u (show 1 <= 12 by decide))) [1, 0] [(1, 102), (6, 104)] 105 fun _ _ => gh (b6 (l := [.as (r5 q105 t8 (b1.ins (I0 8 ⟨#[121]⟩)) (1 + 1))]) (l' := [.as (r5 q105 t8 b2 2)]) rfl) [0] [] 105 fun _ _ => g0 fun _ => g0 fun _ => gh (e7 105 3 eV.f eV.d 26 .grown) [] [] 106 fun _ _ => cl (a26 (q := q105) (F := t8) (s := b2) (k := 2) (qv := 0) (cv := 0) (zv := true) (vs := ([] : List Va)) (tv := 26) (mv := .grown) (by decide) (by decide)) [1, 0] [(1, 102), (6, 105)] 106 fun _ _ => g0 fun _ => g0 fun _ => cl (a5v (q := q105) (F := t8) (s := b2) (k := 2) (id := (s0.next : Int)) (by decide) (by decide)) [0] [(1, 102)] 106 fun _ _ => gh (b6 (l := [.as (r5 q105 t8 (a1l b2 (s0.next : Int)) (2 + 2))]) (l' := [.as (r5 q105 t8 b3 4)]) (congrArg (fun s => [Ch.den (.as (r5 q105 t8 s 4))]) b8E)) [0] [] 106 fun _ _ => g0 fun _ => g0 fun _ => cl (a5q (q := q105) (F := t8) (s := b3) (k := 4) (id := (b1.next : Int)) (sn := ⟨#[122, 111, 110, 101]⟩) (v := (⟨2, 0, ⟨#[122]⟩⟩ : Va)) (by decide) (by decide)) [0] [(1, 102)] 106 fun _ _ => gh (b6 (l := [.as (r5 q105 t8 (a0g t8 b3 (b1.next : Int) ⟨#[122, 111, 110, 101]⟩ (⟨2, 0, ⟨#[122]⟩⟩ : Va)) (4 + 2))]) (l' := [.as (r5 q105 t8 b4 6)]) (congrArg (fun s => [Ch.den (.as (r5 q105 t8 s 6))]) b8B)) [0] [] 106 fun _ _ => g0 fun _ => g0 fun _ => cl (a7P (q := q105) (F := t8) (s := b4) (k := 6) (id := (b1.next : Int)) (j := 0) (l := (b4.rows.getD 0 dR).2) (by decide) (by decide) (by decide) rfl) [0] [(1, 102), (6, 106)] 107 fun r128 _ => g0 fun _ => g0 fun _ => cl (a7R (q := q105) (F := t8) (s := b4) (k := 6) (id := (b1.next : Int)) (j := 0) (c := 2) (sn := ⟨#[122, 111, 110, 101]⟩) (v := a7H) (by decide) (by decide) (by decide) b8C (by decide) rfl) [0] [(1, 102)] 107 fun _ _ => g0 fun q132 => g0 fun _ => cl (a3a (q := q105) (F := t8) (s := b4) (k := 6) (by decide) (by decide)) [1] [(1, 102), (11, 108)] 109 fun r134 _ => g0 fun _ => goN 3 (fun _ => trivial) fun _ => sv 59 (v := .o (.cb ((0 : Int) == 0))) (v' := .o (.v (.bool true))) (congrArg Value.bool (by decide +kernel)) <| goN 4 (fun _ => trivial) fun _ => sv 63 (v := .o (.cb ((0 : Int) == 0))) (v' := .o (.v (.bool true))) (congrArg Value.bool (by decide +kernel)) <| goN 4 (fun _ => trivial) fun _ => sv 67 (v := .o (.cb ((1 : Int) == 1))) (v' := .o (.v (.bool true))) (congrArg Value.bool (by decide +kernel)) <| goN 4 (fun _ => trivial) fun _ => sv 71 (v := .o (.cb ((s0.next : Int) == 0))) (v' := .o (.v (.bool true))) (congrArg Value.bool (by decide +kernel)) <| goN 4 (fun _ => trivial) fun _ => sv 75 (v := .o (.cb ((b1.next : Int) == 1))) (v' := .o (.v (.bool true))) (congrArg Value.bool (by decide +kernel)) <| goN 3 (fun _ => trivial) fun _ => sv 78 (v := .o (.cb (b2.is (s0.next : Int)))) (v' := .o (.v (.bool true))) (congrArg Value.bool (by decide +kernel)) <| goN 4 (fun _ => trivial) fun _ => sv 82 (v := .o (.cb (a2Y t8 b3 (b1.next : Int) ⟨#[122, 111, 110, 101]⟩ (⟨2, 0, ⟨#[122]⟩⟩ : Va) == 0))) (v' := .o (.v (.bool true))) (congrArg Value.bool (by decide +kernel)) <| goN 3 (fun _ => trivial) fun _ => sv 85 (v := .o (.v (.bool true))) (v' := .o (.v (.bool true))) (congrArg Value.bool (by decide +kernel)) <| goN 5 (fun _ => trivial) fun _ => sv 90 (v := .o (.cb (((((b4.rows.getD 0 dR).2).length : Nat) : Int) == 4))) (v' := .o (.v (.bool true))) (congrArg Value.bool (by decide +kernel)) <| goN 5 (fun _ => trivial) fun _ => sv 95 (v := .o (.cb (a7 a7H.s ⟨#[122]⟩))) (v' := .o (.v (.bool true))) (congrArg Value.bool (by decide +kernel)) <| goN 3 (fun _ => trivial) fun _ => sv 98 (v := .o (.v (.bool true))) (v' := .o (.v (.bool true))) (congrArg Value.bool (by decide +kernel)) <| g0 fun _ => cl (@a0z _ q105 t8 b4 6) [0] [(1, 102)] 109 fun _ _ => goN 3 (fun _ => trivial) fun _ => sv 103 (v := .o (.cb ((b4.next : Int) == 2))) (v' := .o (.v (.bool true))) (congrArg Value.bool (by decide +kernel)) <| g0 fun _ => cl (@a24 _ q105 t8 b4 6) [0] [(1, 102), (8, 109)] 110 fun ⟨ql151, cL151, lv151⟩ hlw => cl (@a30 _ ql151 cL151 lv151 171 .imm hlw.1) [1] [(1, 109)] 110 fun _ _ => sv 106 (v := .o (.i (a7j lv151))) (v' := .o (.i 1)) (congrArg (Value.int .i64) (b8F hlw.1 hlw.2)) <| goN 3 (fun _ => trivial) fun _ => sv 109 (v := .o (.cb ((1 : Int) == 1))) (v' := .o (.v (.bool true))) (congrArg Value.bool (by decide +kernel)) <| g0 fun _ => cl (a6F (q := q105) (F := t8) (s := b4) (k := 6) (sn := ⟨#[99, 105, 116, 121]⟩) (c := 1) (by decide) b8D (by decide)) [1] [(1, 102)] 110 fun ws156 hws => sv 111 (v := .o (.i (ws156.length : Int))) (v' := .o (.i 1)) (congrArg (fun n : Nat => Value.int .i64 (n : Int)) (b5Y hws)) <| goN 3 (fun _ => trivial) fun _ => sv 114 (v := .o (.cb ((1 : Int) == 1))) (v' := .o (.v (.bool true))) (congrArg Value.bool (by decide +kernel)) <| goN 4 (fun _ => trivial) fun _ => sv 118 (v := .o (.v (.bool true))) (v' := .o (.v (.bool true))) (congrArg Value.bool (by decide +kernel)) <| g0 fun _ => cl (@a0z _ r134 t8 b4 6) [2] [(1, 108)] 110 fun _ _ => goN 3 (fun _ => trivial) fun _ => sv 123 (v := .o (.cb ((b4.next : Int) == 2))) (v' := .o (.v (.bool true))) (congrArg Value.bool (by decide +kernel)) <| g0 fun _ => cl (@a27 _ q105 t8 b4 6) [1] [(1, 102), (7, 110), (8, 111)] 112 fun ⟨qc2163, qd2163, d2163, z1163, z2163, m2163⟩ h163 => g0 fun _ => rtv trivial (()) trivial [] (.o (.cb (a7 t8.name ⟨#[115, 104, 111, 112]⟩))) (congrArg Value.bool (by decide +kernel))
end Go.Proofs.YtagidoadfajpgaaGreat
open List (length_append length_map append_nil length_drop take_length)
namespace Go.Proofs.YtagidoadfajpgaaGreat
set_option maxHeartbeats 4000000
open Go.Abs
variable {nO : Nat}
set_option maxRecDepth 100000
attribute [local irreducible] GP ruP ruN nxP acS gst cdP loP j6 m9 m8 enP caA n5 lgP agN
theorem a1W {na ka : ByteArray} {qa ca : Nat} {za : Bool} {xa : List Cd} {ta : TypeId} {ma : Md} {qA cA : Nat} {zA : Bool} {da : List De} {tA : TypeId} {mA : Md} (hza : za = true -> xa.length = 0) (hla : xa.length < 1000000) (hzA : zA = true -> da.length = 0) (hlA : da.length < 1000000) (hda : ∀ i, i < da.length -> (da.getD i dD).l.length < 1000000) : Ctr Tryz.prog nO 116 [.a [.t na, .s 1 qa 4 0 xa.length ca za, .t ka, .s 3 qA 2 0 da.length cA zA]] [vc eC 1 qa xa ta ma za, vc (eD 906) 3 qA da tA mA zA, .as (e6 (n4 9) da)] ((Nat) × (Nat) × (List De)) (fun r => r.2.2.map e8 = da.map e8) (fun r => .a [.t na, .s 7 r.1 4 0 xa.length xa.length za, .t ka, .s 8 r.2.1 2 0 r.2.2.length r.2.2.length zA]) (fun r => [vc eC 1 qa xa ta ma za, vc (eD 906) 3 qA da tA mA zA, .as (e6 (n4 9) da), vc eC 7 r.1 xa 130 (n8 xa) za, vc (eD 906) 8 r.2.1 r.2.2 161 (n8 da) zA, .as (e6 (n4 9) r.2.2)]) := by
 refine fs 100 fun B => g0 fun q101 => g0 fun _ => cl (@a12 _ qa ca za xa ta ma (by assumption) (by omega)) [2] [(2, 102)] 103 fun q2103 _ => g0 fun _ => g0 fun _ => cl (@a11 _ qA cA zA da tA mA (by assumption) (by omega)) [4] [(1, 3), (2, 103)] 104 fun q2106 _ => g0 fun _ => g0 fun _ => gh (b6 (l := [vc (eD 906) 103 q2106 da 161 (n8 da) zA]) (l' := [vc (eD 906) 103 q2106 ([] ++ da.drop 0) 161 (n8 da) zA]) rfl) [0] [] 104 fun _ _ => gh (p5 (I := (n4 9))) [] [] 104 fun _ _ => lp ((Nat) × (List De)) [1, 2, 14] (fun r => [(15, .o (.i (r.1 : Int)))]) [2, 3, 4, 5, 6, 7] (fun r => [vc (eD 906) 103 q2106 (r.2 ++ da.drop r.1) 161 (n8 da) zA, .as (e6 (n4 9) r.2)]) 124 (fun r => r.1 <= da.length /\ r.2.length = r.1 /\ r.2.map e8 = (da.take r.1).map e8) (fun r => da.length - r.1) (⟨0, []⟩) ⟨Nat.zero_le _, rfl, rfl⟩ [1, 0] (fun ⟨i, nw⟩ hx ag109 => ?_)
 try dsimp only at hx
 obtain ⟨hi, hni, hkn⟩ := hx
 refine g0 fun _ => cdD ((i : Int) < (da.length : Int)) (fun h2 => ?_) (fun h2 => ?_)
 ·have hdl := hda i (by omega)
  have hcl : (nw ++ da.drop i).length = da.length := by rw [length_append, length_drop]; omega
  refine g0 fun _ => go (fun _ => (o4 (nz i) (by omega : (i : Int) < (da.length : Int)) (zf hzA (show 0 < da.length by omega) : zA = false) (by omega : i < (nw ++ da.drop i).length))) fun _ => gh (f8 (I := (n4 9)) (l := da) i dD (by omega)) [7] [] 124 fun _ _ => gh (a1t (c := vc eS 906 ((da.getD i dD).q) ((da.getD i dD).l) 9 .imm false) (I := ((n4 9) (da.getD i dD)))) [0] [] 124 fun _ _ => sv 26 (v := .o (.s 906 (((nw ++ da.drop i).getD i dD).q) 1 0 (((nw ++ da.drop i).getD i dD).l.length) (((nw ++ da.drop i).getD i dD).l.length) false)) (v' := .o (.s 906 ((da.getD i dD).q) 1 0 ((da.getD i dD).l.length) ((da.getD i dD).l.length) false)) (by rw [a2w (by omega) hni]) <| cl (@a10 _ ((da.getD i dD).q) ((da.getD i dD).l.length) false ((da.getD i dD).l) 9 .imm (fun h => nomatch h) (by omega)) [0] [(1, 906), (2, 124)] 125 fun q2113 _ => gh (x4 (c := vc eS 906 ((da.getD i dD).q) ((da.getD i dD).l) 9 .imm false) (I := ((n4 9) (da.getD i dD)))) [1] [] 125 fun _ _ => gh (j9 (I := (n4 9)) (l := da) i dD (by omega)) [0, 2] [] 125 fun _ _ => gh (k7 (E := eS) (g := 124) (q := q2113) (xs := ((da.getD i dD).l)) (t := 9) (m := (n8 ((da.getD i dD).l))) (z := false)) [1] [] 125 fun _ _ => gh (x4 (c := vc eS 124 q2113 ((da.getD i dD).l) 9 .imm false) (I := ((n4 9) (⟨q2113, (da.getD i dD).l, (da.getD i dD).r⟩ : De)))) [0] [] 125 fun _ _ => gh (i6 (I := (n4 9)) (l := nw) (x := (⟨q2113, (da.getD i dD).l, (da.getD i dD).r⟩ : De))) [0, 3] [] 125 fun _ _ => go (fun _ => (o3 (nz i) (by omega : (i : Int) < (da.length : Int)) (zf hzA (show 0 < da.length by omega) : zA = false))) fun _ => vst (eD 906) (nw ++ da.drop i) ⟨q2113, (da.getD i dD).l, ((nw ++ da.drop i).getD i dD).r⟩ ((nw ++ [(⟨q2113, (da.getD i dD).l, (da.getD i dD).r⟩ : De)]) ++ da.drop (i + 1)) 103 103 q2106 i 0 161 (n8 da) zA [.s 124 q2113 1 0 (((da.getD i dD).l).length) (((da.getD i dD).l).length) false] [2] (by rw [length_append, length_drop]; omega) (zf hzA (show 0 < da.length by omega)) (by rw [a2w (by omega) hni, a9y _ (by omega) hni]) (Nat.le_of_ble_eq_true rfl) rfl ?_ (hm := R6)
  refine go (fun _ => (o2 (by omega : -9223372036854775808 <= (i : Int) + 1) (by omega : (i : Int) + 1 < 9223372036854775808))) fun _ => ag109 _ _ (⟨i + 1, nw ++ [(⟨q2113, (da.getD i dD).l, (da.getD i dD).r⟩ : De)]⟩) (by first | omega | (simp only; omega)) (by dsimp only; exact ⟨by omega, by rw [length_append, hni]; rfl, a59 (by omega) hkn⟩) [0, 1, 3, 4, 5, 6, 7, 2] (by kernel_rfl) (by kernel_rfl)
 ·have hie : i = da.length := by omega
  refine g0 fun _ => gh (b6 (l := [vc (eD 906) 103 q2106 (nw ++ da.drop i) 161 (n8 da) zA]) (l' := [vc (eD 906) 103 q2106 nw 161 (n8 da) zA]) (by rw [hie, List.drop_length, append_nil])) [0] [] 124 fun _ _ => rtv trivial (⟨q2103, q2106, nw⟩) (by rw [hkn, hie, take_length]) [4, 2, 7, 3, 0, 1] (.a [.t na, .s 102 q2103 4 0 xa.length xa.length za, .t ka, .s 103 q2106 2 0 da.length da.length zA]) (by rw [hni, hie]; rfl)
theorem a8A {a : Cd} {q : Nat} {s : ByteArray} {tb : TypeId}  : K1 nO 162 [.a [.t a.name, .i a.kind, .cb a.must, .t a.to], .o (.p 1 q 0 0 0)] [.blk 1 q [.t s] tb .own] (.o (.cb (a7 a.name s))) := by
 refine fs 100 fun B => g0 fun q101 => g0 fun _ => rt trivial (()) trivial [1]
theorem N2 {na ka : ByteArray} {qa ca : Nat} {za : Bool} {xa : List Cd} {ta : TypeId} {ma : Md} {qA cA : Nat} {zA : Bool} {da : List De} {s : ByteArray} (hza : za = true -> xa.length = 0) (hla : xa.length < 1000000) : K1 nO 121 [.a [.t na, .s 1 qa 4 0 xa.length ca za, .t ka, .s 3 qA 2 0 da.length cA zA], .o (.t s)] [vc eC 1 qa xa ta ma za] (.o (.i (e9 xa (fun c => a7 c.name s)))) := by
 refine fs 100 fun B => g0 fun q101 => g0 fun _ => cl (a0Q (q := qa) (c := ca) (z := za) (xs := xa) (t := ta) (m := ma) (y := .func (.func 162) #[] #[.pointer (some ⟨(q101 101), 0, none⟩)]) (p := fun c => a7 c.name s) (J := (Ch.den (.blk 101 (q101 101) [.t s] 9 .own))) hza hla (fun k _ => a07 (b3k [.pointer (some ⟨(q101 101), 0, none⟩)] (a8A (a := xa.getD k eC.d) (q := (q101 101)) (s := s) (tb := 9))))) [2, 0] [] 102 fun _ _ => g0 fun _ => rt trivial (()) trivial [0]
def tL (x : Xr) : List Ch := [vc eC 931 x.qa x.F.xa x.ta .imm x.za, vc (eD 906) 932 x.qA x.da x.tA .imm x.zA, .as (e6 (n4 9) x.da)]
def tI (x : Xr) : As := hpA (tL x)
structure tP (x : Xr) : Prop where
 fm : FmOk x.F
 za : x.za = true -> x.F.xa.length = 0
 zA : x.zA = true -> x.da.length = 0
 da : x.da.map e8 = x.F.da
theorem tP.dd {x : Xr} (h : tP x) : ∀ i, i < x.da.length -> (x.da.getD i dD).l.length < 1000000 := fun i hi => by
 have := h.fm.dd (e8 (x.da.getD i dD)) (by rw [<- h.da]; exact List.mem_map_of_mem (a0p hi))
 exact this
theorem tP.dl {x : Xr} (h : tP x) : x.da.length < 100000 := by
 have h1 := congrArg List.length h.da
 rw [length_map] at h1
 have := h.fm.dl
 omega
theorem a3M {q c : Nat} {z : Bool} {xs : List Xr} {t : TypeId} {m : Md} {y : Value} {p : Xr -> Bool} {J : As} (hz : z = true -> xs.length = 0) (hl : xs.length < 1000000) (hy : ∀ k, k < xs.length -> a2X Tryz.prog nO y [.a [.t (xs.getD k dXr).F.name, .s 931 (xs.getD k dXr).qa 4 0 (xs.getD k dXr).F.xa.length (xs.getD k dXr).ca (xs.getD k dXr).za, .t (xs.getD k dXr).F.key, .s 932 (xs.getD k dXr).qA 2 0 (xs.getD k dXr).da.length (xs.getD k dXr).cA (xs.getD k dXr).zA]] [.as J] Unit (fun _ => True) (fun _ => .o (.cb (p (xs.getD k dXr)))) (fun _ => [.as J])) : K1 nO 114 [.o (.s 1 q 4 0 xs.length c z), .o (.v y)] [vc eTb 1 q xs t m z, .as J] (.o (.i (e9 xs p))) := by
 refine fs 100 fun B => g0 fun _ => g0 fun _ => lp ((Nat)) [0, 1, 7] (fun r => [(8, .o (.i (r : Int)))]) [0, 1] (fun _ => []) 120 (fun r => r <= xs.length /\ ∀ j, j < r -> p (xs.getD j dXr) = false) (fun r => xs.length - r) (0) ⟨Nat.zero_le _, fun j hj => absurd hj (Nat.not_lt_zero j)⟩ [] (fun i hx ag103 => ?_)
 obtain ⟨hi, hn⟩ := hx
 refine g0 fun _ => cdD ((i : Int) < (xs.length : Int)) (fun h1 => ?_) (fun h1 => ?_)
 ·refine g0 fun _ => go (fun _ => (o4 (nz i) (by omega : (i : Int) < (xs.length : Int)) (zf hz (show 0 < xs.length by omega) : z = false) (by omega : i < xs.length))) fun _ => clv (hy i (by omega)) [1] [] 120 fun _ _ => cd (p (xs.getD i dXr)) (fun h2 => ?_) (fun h2 => ?_)
  ·refine g0 fun _ => rtv trivial (()) trivial [1, 0] (.o (.i (i : Int))) (congrArg (Value.int .i64) (p9 (d := dXr) (by omega) h2 hn).symm)
  ·refine go (fun _ => (o2 (by omega : -9223372036854775808 <= (i : Int) + 1) (by omega : (i : Int) + 1 < 9223372036854775808))) fun _ => ag103 _ _ (i + 1) (by first | omega | (simp only; omega)) ⟨by omega, fun j hj => by rcases Nat.lt_succ_iff_lt_or_eq.1 hj with h | h; exact hn j h; subst h; exact h2⟩ [1, 0] (by kernel_rfl) (by kernel_rfl)
 ·refine g0 fun _ => rtv trivial (()) trivial [0, 1] (.o (.i (-1))) (congrArg (Value.int .i64) (s8 (d := dXr) (fun j hj => hn j (by omega))).symm)
theorem a1H {na ka : ByteArray} {qa ca : Nat} {za : Bool} {xa : List Cd} {qA cA : Nat} {zA : Bool} {da : List De} {q : Nat} {s : ByteArray} {tb : TypeId}  : K1 nO 115 [.a [.t na, .s 1 qa 4 0 xa.length ca za, .t ka, .s 3 qA 2 0 da.length cA zA], .o (.p 9 q 0 0 0)] [.blk 9 q [.t s] tb .own] (.o (.cb (a7 na s))) := by
 refine fs 100 fun B => g0 fun q101 => g0 fun _ => rt trivial (()) trivial [1]
theorem a1G {q qs : Nat} {xs : List Xr} {mS : Md} {s : ByteArray} (hl : xs.length < 1000000) (hn : e9 xs (fun x => a7 x.F.name s) = -1) : K1 nO 71 [.o (.p 1 q 0 0 0), .o (.t s)] [.blk 1 q [.s 2 qs 4 0 xs.length xs.length xs.isEmpty] 145 .own, vc eTb 2 qs xs 46 mS xs.isEmpty, .as (e6 tI xs)] (.t [(true, [.t ⟨#[]⟩, .v (.slice none 0 0), .t ⟨#[]⟩, .v (.slice none 0 0)]), (false, [.v (.bool false)])]) := by
 refine fs 100 fun B => g0 fun q101 => g0 fun _ => cdF rfl <| g0 fun _ => cl (a3M (q := qs) (c := xs.length) (z := xs.isEmpty) (xs := xs) (t := 46) (m := mS) (y := .func (.func 115) #[] #[.pointer (some ⟨(q101 100), 0, none⟩)]) (p := (fun x => a7 x.F.name s)) (J := (Ch.den (.blk 100 (q101 100) [.t s] 9 .own))) (fun h => List.length_eq_zero_iff.2 (List.isEmpty_iff.1 h)) (by omega) (fun k _ => a07 (b3k [.pointer (some ⟨(q101 100), 0, none⟩)] (a1H (na := (xs.getD k dXr).F.name) (ka := (xs.getD k dXr).F.key) (qa := (xs.getD k dXr).qa) (ca := (xs.getD k dXr).ca) (za := (xs.getD k dXr).za) (xa := (xs.getD k dXr).F.xa) (qA := (xs.getD k dXr).qA) (cA := (xs.getD k dXr).cA) (zA := (xs.getD k dXr).zA) (da := (xs.getD k dXr).da) (q := (q101 100)) (s := s) (tb := 9))))) [3, 1] [(1, 2)] 102 fun _ _ => g0 fun _ => sv 6 (v := .o (.i (e9 xs (fun x => a7 x.F.name s)))) (v' := .o (.i (-1))) (congrArg (fun n => Value.int .i64 n) hn) <| g0 fun _ => cdT (b := decide ((-1) < 0)) (by decide) <| g0 fun _ => rt trivial (()) trivial [3, 0, 4]
theorem Q9 {q qs : Nat} {xs : List Xr} {mS : Md} {s : ByteArray} {j : Nat} (hl : xs.length < 1000000) (hj : j < xs.length) (hn : e9 xs (fun x => a7 x.F.name s) = (j : Int)) (hp : tP (xs.getD j dXr)) : Ctr Tryz.prog nO 71 [.o (.p 1 q 0 0 0), .o (.t s)] [.blk 1 q [.s 2 qs 4 0 xs.length xs.length xs.isEmpty] 145 .own, vc eTb 2 qs xs 46 mS xs.isEmpty, .as (e6 tI xs)] ((Nat) × (Nat) × (List De)) (fun r => r.2.2.map e8 = (xs.getD j dXr).da.map e8) (fun r => .t [(true, [.t ((xs.getD j dXr).F.name), .s 7 r.1 4 0 ((xs.getD j dXr).F.xa.length) ((xs.getD j dXr).F.xa.length) ((xs.getD j dXr).za), .t ((xs.getD j dXr).F.key), .s 8 r.2.1 2 0 r.2.2.length r.2.2.length ((xs.getD j dXr).zA)]), (false, [.v (.bool true)])]) (fun r => [.blk 1 q [.s 2 qs 4 0 xs.length xs.length xs.isEmpty] 145 .own, vc eTb 2 qs xs 46 mS xs.isEmpty, .as (e6 tI xs), vc eC 7 r.1 ((xs.getD j dXr).F.xa) 130 (n8 (xs.getD j dXr).F.xa) ((xs.getD j dXr).za), vc (eD 906) 8 r.2.1 r.2.2 161 (n8 (xs.getD j dXr).da) ((xs.getD j dXr).zA), .as (e6 (n4 9) r.2.2)]) := by
 refine fs 100 fun B => g0 fun q101 => g0 fun _ => cdF rfl <| g0 fun _ => cl (a3M (q := qs) (c := xs.length) (z := xs.isEmpty) (xs := xs) (t := 46) (m := mS) (y := .func (.func 115) #[] #[.pointer (some ⟨(q101 100), 0, none⟩)]) (p := (fun x => a7 x.F.name s)) (J := (Ch.den (.blk 100 (q101 100) [.t s] 9 .own))) (fun h => List.length_eq_zero_iff.2 (List.isEmpty_iff.1 h)) (by omega) (fun k _ => a07 (b3k [.pointer (some ⟨(q101 100), 0, none⟩)] (a1H (na := (xs.getD k dXr).F.name) (ka := (xs.getD k dXr).F.key) (qa := (xs.getD k dXr).qa) (ca := (xs.getD k dXr).ca) (za := (xs.getD k dXr).za) (xa := (xs.getD k dXr).F.xa) (qA := (xs.getD k dXr).qA) (cA := (xs.getD k dXr).cA) (zA := (xs.getD k dXr).zA) (da := (xs.getD k dXr).da) (q := (q101 100)) (s := s) (tb := 9))))) [3, 1] [(1, 2)] 102 fun _ _ => g0 fun _ => sv 6 (v := .o (.i (e9 xs (fun x => a7 x.F.name s)))) (v' := .o (.i (j : Int))) (congrArg (fun n => Value.int .i64 n) hn) <| g0 fun _ => cdF (b := decide ((j : Int) < 0)) (decide_eq_false (by omega)) <| go (fun _ => (o4 (nz j) (by omega : (j : Int) < (xs.length : Int)) (zfe (by omega) : xs.isEmpty = false) (by omega : j < xs.length))) fun _ => gh (f8 (I := tI) (l := xs) j dXr hj) [4] [] 102 fun _ _ => gh (O5 (l := tL (xs.getD j dXr))) [0] [] 102 fun _ _ => cl (@a1W _ ((xs.getD j dXr).F.name) ((xs.getD j dXr).F.key) ((xs.getD j dXr).qa) ((xs.getD j dXr).ca) ((xs.getD j dXr).za) ((xs.getD j dXr).F.xa) ((xs.getD j dXr).ta) .imm ((xs.getD j dXr).qA) ((xs.getD j dXr).cA) ((xs.getD j dXr).zA) ((xs.getD j dXr).da) ((xs.getD j dXr).tA) .imm hp.za (by have := hp.fm.xl; omega) hp.zA (by have := hp.dl; omega) hp.dd) [0, 1, 2] [(1, 931), (3, 932), (7, 102), (8, 103)] 104 fun ⟨qc2107, qd2107, d2107⟩ hk2 => g0 fun _ => gh (p6 (l := tL (xs.getD j dXr))) [0, 1, 2] [] 104 fun _ _ => gh (j9 (I := tI) (l := xs) j dXr hj) [0, 4] [] 104 fun _ _ => rt trivial (⟨qc2107, qd2107, d2107⟩) hk2 [7, 4, 0, 1, 2, 3]
end Go.Proofs.YtagidoadfajpgaaGreat
open List (length_cons length_nil map_append length_map map_cons length_take getElem?_eq_getElem take_add_one)
namespace Go.Proofs.YtagidoadfajpgaaGreat
set_option maxHeartbeats 4000000
open Go.Abs
variable {nO : Nat}
set_option maxRecDepth 100000
attribute [local irreducible] GP ruP ruN nxP acS gst cdP loP j6 m9 m8 enP caA n5 lgP agN
theorem a5Z {xs : List Xr} {i : Nat} (h : i < xs.length) : ((xs.take (i + 1)).map fun x => x.F.name) = ((xs.take i).map fun x => x.F.name) ++ [(xs.getD i dXr).F.name] := by
 rw [take_add_one, getElem?_eq_getElem h, map_append, a8 h]; rfl
theorem a6Q {q qs : Nat} {xs : List Xr} {mS : Md} (hl : xs.length < 1000000) : Ctr Tryz.prog nO 38 [.o (.p 1 q 0 0 0)] [.blk 1 q [.s 2 qs 4 0 xs.length xs.length xs.isEmpty] 145 .own, vc eTb 2 qs xs 46 mS xs.isEmpty, .as (e6 tI xs)] ((Nat)) (fun _ => True) (fun r => .o (.s 5 r 1 0 (((xs.take xs.length).map fun x => x.F.name).length) (((xs.take xs.length).map fun x => x.F.name).length) (((xs.take xs.length).map fun x => x.F.name).isEmpty))) (fun r => [.blk 1 q [.s 2 qs 4 0 xs.length xs.length xs.isEmpty] 145 .own, vc eTb 2 qs xs 46 mS xs.isEmpty, .as (e6 tI xs), vc eS 5 r ((xs.take xs.length).map fun x => x.F.name) 9 .grown (((xs.take xs.length).map fun x => x.F.name).isEmpty)]) := by
 refine fs 100 fun B => g0 fun _ => g0 fun _ => cdF rfl <| g0 fun _ => g0 fun _ => gh (e7 100 1 eS.f eS.d 9 .grown) [] [] 101 fun _ _ => sv 3 (v := .o (.v (.slice none 0 0))) (v' := .o (.s 100 0 1 0 (((xs.take 0).map fun x => x.F.name).length) (((xs.take 0).map fun x => x.F.name).length) (((xs.take 0).map fun x => x.F.name).isEmpty))) rfl <| lp ((Nat) × (Nat)) [11, 12] (fun r => [(13, .o (.i (r.1 : Int))), (3, .o (.s 100 r.2 1 0 (((xs.take r.1).map fun x => x.F.name).length) (((xs.take r.1).map fun x => x.F.name).length) (((xs.take r.1).map fun x => x.F.name).isEmpty)))]) [1, 2, 3] (fun r => [vc eS 100 r.2 ((xs.take r.1).map fun x => x.F.name) 9 .grown (((xs.take r.1).map fun x => x.F.name).isEmpty)]) 121 (fun r => r.1 <= xs.length) (fun r => xs.length - r.1) (⟨0, 0⟩) (Nat.zero_le _) [0] (fun ⟨i, pq⟩ hx ag105 => ?_)
 try dsimp only at hx
 have hi := hx
 refine g0 fun _ => cdD ((i : Int) < (xs.length : Int)) (fun h1 => ?_) (fun h1 => ?_)
 ·have hnl : ((xs.take i).map fun x => x.F.name).length = i := by rw [length_map, length_take]; omega
  refine go (fun q107 => (o4 (nz i) (by omega : (i : Int) < (xs.length : Int)) (zfe (by omega) : xs.isEmpty = false) (by omega : i < xs.length))) fun q107 => g0 fun q108 => apd eS ((xs.take i).map fun x => x.F.name) [(xs.getD i dXr).F.name] ((xs.take (i + 1)).map fun x => x.F.name) 100 pq .grown (((xs.take i).map fun x => x.F.name).isEmpty) (((xs.take (i + 1)).map fun x => x.F.name).isEmpty) (.blk 122 (q108 122) [.t ((xs.getD i dXr).F.name)] 9 .own) (q108 122) 0 1 1 false 123 [2, 0] 124 9 (fun h _ => K4 h) (by simp only [length_cons, length_nil]; omega) (o8 rfl) (by rw [a5Z (by omega)]; simp) (a5Z (by omega)) fun q109 => g0 fun _ => go (fun _ => (o2 (by omega : -9223372036854775808 <= (i : Int) + 1) (by omega : (i : Int) + 1 < 9223372036854775808))) fun _ => ag105 _ _ (⟨i + 1, q109⟩) (by first | omega | (simp only; omega)) (by dsimp only; exact (by omega)) [0, 3, 4, 5] (by kernel_rfl) (by kernel_rfl)
 ·have hie : i = xs.length := by omega
  refine gh (b6 (l := [vc eS 100 pq ((xs.take i).map fun x => x.F.name) 9 .grown (((xs.take i).map fun x => x.F.name).isEmpty)]) (l' := [vc eS 100 pq ((xs.take xs.length).map fun x => x.F.name) 9 .grown (((xs.take xs.length).map fun x => x.F.name).isEmpty)]) (by rw [hie])) [0] [] 121 fun _ _ => g0 fun _ => rtv trivial (pq) trivial [1, 2, 3, 0] (.o (.s 100 pq 1 0 (((xs.take i).map fun x => x.F.name).length) (((xs.take i).map fun x => x.F.name).length) (((xs.take i).map fun x => x.F.name).isEmpty))) (by rw [hie]; rfl)
theorem b1M   : Ctr Tryz.prog nO 90 [] [] ((Nat)) (fun _ => True) (fun r => .o (.p 1 r 0 0 0)) (fun r => [.blk 1 r [.s 2 0 4 0 (([] : List Xr).length) (([] : List Xr).length) (([] : List Xr).isEmpty)] 145 .own, vc eTb 2 0 ([] : List Xr) 46 .grown (([] : List Xr).isEmpty), .as (e6 tI ([] : List Xr))]) := by
 refine fs 100 fun B => g0 fun _ => g0 fun q102 => gh (b6 (l := [.blk 100 (q102 100) [.v (.slice none 0 0)] 145 .own]) (l' := [.blk 100 (q102 100) [.s 2 0 4 0 (([] : List Xr).length) (([] : List Xr).length) (([] : List Xr).isEmpty)] 145 .own]) (by rfl)) [0] [] 101 fun _ _ => gh (e7 2 4 eTb.f eTb.d 46 .grown) [] [] 101 fun _ _ => gh (p5 (I := tI)) [] [] 101 fun _ _ => rt trivial ((q102 100)) trivial [2, 1, 0]
def mpL (zs : List (Nat × Fm × Ts)) : List (ByteArray × Nat) := zs.map fun z => (z.2.1.name, z.1)
def a0D (k : Nat) (z : Nat × Fm × Ts) : As := r5 z.1 z.2.1 z.2.2 k
def dZ : Nat × Fm × Ts := (0, ⟨⟨#[]⟩, ⟨#[]⟩, [], []⟩, ⟨[], 0⟩)
theorem b4j {a b : ByteArray} : (a == b) = true ↔ a = b := by
 cases a with | mk x =>
 cases b with | mk y =>
 have e : ((⟨x⟩ : ByteArray) == ⟨y⟩) = (x == y) := by rfl
 rw [e]
 simp
theorem a0o {zs : List (Nat × Fm × Ts)} {s : ByteArray} : a7B (mpL zs) s = match e9 (zs.map fun z => z.2.1) (fun F => a7 F.name s) with
  | .ofNat j => some (zs.getD j dZ).1
  | .negSucc _ => none := by
 induction zs with
 | nil => rfl
 | cons z zs ih =>
  show (if s == z.2.1.name then some z.1 else a7B (mpL zs) s) = _
  unfold e9 at ih ⊢
  rw [map_cons, List.findIdx?_cons]
  by_cases h : a7 z.2.1.name s = true
  ·have e := s5.1 h
   rw [h]
   subst e
   rw [if_pos (b4j.2 rfl)]
   rfl
  ·have hs : (s == z.2.1.name) = false := by
    cases e : (s == z.2.1.name) with
    | false => rfl
    | true => exact absurd (s5.2 (b4j.1 e).symm) h
   rw [hs]
   simp only [Bool.false_eq_true, if_false, Bool.eq_false_iff.2 h]
   rw [ih]
   cases List.findIdx? (fun F => a7 F.name s) (zs.map fun z => z.2.1) <;> rfl
theorem a04 {q qs qm : Nat}  : K1 nO 37 [.o (.p 1 q 0 0 0)] [.blk 1 q [.p 2 qs 0 0 0, .v (.map (some qm))] 115 .own] (.o (.p 2 qs 0 0 0)) := by
 refine fs 100 fun B => g0 fun _ => g0 fun _ => cdF rfl <| g0 fun _ => rt trivial (()) trivial [0]
theorem b0f {q qs qm : Nat} {zs : List (Nat × Fm × Ts)} {s : ByteArray} (hn : e9 (zs.map fun z => z.2.1) (fun F => a7 F.name s) = -1) : K1 nO 39 [.o (.p 1 q 0 0 0), .o (.t s)] [.blk 1 q [.p 2 qs 0 0 0, .v (.map (some qm))] 115 .own, .as (W8 qm (mpL zs))] (.o (.v (.pointer none))) := by
 refine fs 100 fun B => g0 fun _ => g0 fun _ => cdF rfl <| g0 fun _ => lkp qm (mpL zs) s (.o (.v (.pointer none))) [1] (by rw [a0o, hn]; rfl) <| g0 fun _ => rt trivial (()) trivial [1, 0]
theorem b24 {q qs qm : Nat} {zs : List (Nat × Fm × Ts)} {s : ByteArray} {j : Nat} (hn : e9 (zs.map fun z => z.2.1) (fun F => a7 F.name s) = (j : Int)) : K1 nO 39 [.o (.p 1 q 0 0 0), .o (.t s)] [.blk 1 q [.p 2 qs 0 0 0, .v (.map (some qm))] 115 .own, .as (W8 qm (mpL zs))] (.o (.p 7 ((zs.getD j dZ).1) 0 0 0)) := by
 refine fs 100 fun B => g0 fun _ => g0 fun _ => cdF rfl <| g0 fun _ => lkp qm (mpL zs) s (.o (.p 7 ((zs.getD j dZ).1) 0 0 0)) [1] (by rw [a0o, hn]; rfl) <| g0 fun _ => rt trivial (()) trivial [1, 0]
theorem a6g   : Ctr Tryz.prog nO 33 [] [] ((Nat) × (Nat) × (Nat)) (fun _ => True) (fun r => .o (.p 1 r.1 0 0 0)) (fun r => [.blk 1 r.1 [.p 2 r.2.1 0 0 0, .v (.map (some r.2.2))] 115 .own, .blk 2 r.2.1 [.s 3 0 4 0 (([] : List Xr).length) (([] : List Xr).length) (([] : List Xr).isEmpty)] 145 .own, vc eTb 3 0 ([] : List Xr) 46 .grown (([] : List Xr).isEmpty), .as (e6 tI ([] : List Xr)), .as (W8 r.2.2 (mpL []))]) := by
 refine fs 100 fun B => g0 fun _ => cl (b1M ) [] [(1, 100), (2, 101)] 102 fun q103 _ => mkm 102 fun q105 => g0 fun q106 => gh (b6 (l := [.as (W8 q105 [])]) (l' := [.as (W8 q105 (mpL []))]) rfl) [1] [] 103 fun _ _ => rt trivial (⟨(q106 102), q103, q105⟩) trivial [1, 2, 3, 4, 0]
end Go.Proofs.YtagidoadfajpgaaGreat
namespace Go.Proofs.YtagidoadfajpgaaGreat
set_option maxHeartbeats 4000000
open Go.Abs
variable {nO : Nat}
set_option maxRecDepth 100000
attribute [local irreducible] GP ruP ruN nxP acS gst cdP loP j6 m9 m8 enP caA n5 lgP agN
def kws : List ByteArray := [⟨#[116, 97, 98, 108, 101]⟩, ⟨#[107, 101, 121]⟩, ⟨#[102, 100]⟩, ⟨#[105, 110, 116]⟩, ⟨#[116, 101, 120, 116]⟩, ⟨#[109, 117, 115, 116]⟩, ⟨#[116, 111]⟩, ⟨#[108, 111, 97, 100]⟩, ⟨#[105, 110, 115, 101, 114, 116]⟩, ⟨#[100, 101, 108, 101, 116, 101]⟩, ⟨#[117, 112, 100, 97, 116, 101]⟩, ⟨#[115, 117, 109, 109, 97, 114, 121]⟩, ⟨#[111, 110]⟩, ⟨#[98, 121]⟩, ⟨#[107, 101, 101, 112]⟩, ⟨#[100, 114, 111, 112]⟩, ⟨#[102, 114, 111, 109]⟩, ⟨#[119, 104, 101, 114, 101]⟩, ⟨#[97, 110, 100]⟩, ⟨#[105, 115]⟩, ⟨#[110, 111, 116]⟩, ⟨#[110, 117, 108, 108]⟩, ⟨#[114, 111, 108, 108, 117, 112]⟩, ⟨#[99, 117, 98, 101]⟩, ⟨#[115, 104, 111, 119]⟩, ⟨#[104, 97, 118, 105, 110, 103]⟩, ⟨#[111, 114, 100, 101, 114]⟩, ⟨#[100, 101, 115, 99]⟩, ⟨#[108, 105, 109, 105, 116]⟩, ⟨#[117, 115, 105, 110, 103]⟩, ⟨#[98, 97, 115, 101]⟩, ⟨#[99, 111, 117, 110, 116]⟩, ⟨#[115, 117, 109]⟩, ⟨#[109, 105, 110]⟩, ⟨#[109, 97, 120]⟩, ⟨#[97, 118, 103]⟩, ⟨#[100, 105, 115, 116, 105, 110, 99, 116]⟩, ⟨#[114, 111, 119, 115]⟩]
def a7D (b : Int) : Bool := and (decide (b ≥ 48)) (decide (b <= 57))
def a4i (b : Int) : Bool := or (and (decide (b ≥ 97)) (decide (b <= 122))) (b == 95)
structure NmP (s : ByteArray) : Prop where
 ne : 0 < s.size
 le : s.size <= 12
 dig : a7D ((d4 s 0).toNat : Int) = false
 kw : ∀ i, i < 38 -> a7 s (kws.getD i ⟨#[]⟩) = false
 ch : ∀ i, i < s.size -> or (a4i ((d4 s i).toNat : Int)) (a7D ((d4 s i).toNat : Int)) = true
def nmB (s : ByteArray) : Bool := and (and (decide (0 < s.size)) (decide (s.size <= 12))) (and (!a7D ((d4 s 0).toNat : Int)) (and ((List.range 38).all fun i => !a7 s (kws.getD i ⟨#[]⟩)) ((List.range s.size).all fun i => or (a4i ((d4 s i).toNat : Int)) (a7D ((d4 s i).toNat : Int)))))
theorem b33 {s : ByteArray} (h : nmB s = true) : NmP s := by
 unfold nmB at h
 simp only [Bool.and_eq_true, decide_eq_true_eq, Bool.not_eq_true', List.all_eq_true, List.mem_range] at h
 exact ⟨h.1.1, h.1.2, h.2.1, h.2.2.1, h.2.2.2⟩
theorem NmP.emp {s : ByteArray} (h : NmP s) : a7 s ⟨#[]⟩ = false := by
 cases e : a7 s ⟨#[]⟩ with
 | false => rfl
 | true =>
  have := s5.1 e
  subst this
  exact absurd h.ne (by decide)
theorem H9 {a b : ByteArray} : a7 a b = a7 b a := by
 cases e : a7 a b with
 | true => rw [s5.1 e, n9]
 | false =>
  cases f : a7 b a with
  | false => rfl
  | true => rw [s5.1 f, n9] at e; cases e
theorem a5w {b : Int}  : K1 nO 180 [.o (.v (.int .u8 b))] [] (.o (.cb (a7D b))) := by
 refine fs 100 fun B => g0 fun _ => g0 fun _ => rtv trivial (()) trivial [] (.o (.cb (and (decide (b ≥ 48)) (decide (b <= 57))))) rfl
theorem b1s {b : Int}  : K1 nO 182 [.o (.v (.int .u8 b))] [] (.o (.cb (a4i b))) := by
 refine fs 100 fun B => g0 fun _ => g0 fun _ => rtv trivial (()) trivial [] (.o (.cb (or (and (decide (b ≥ 97)) (decide (b <= 122))) (b == 95)))) rfl
theorem a5Q {b : Int}  : K1 nO 190 [.o (.v (.int .u8 b))] [] (.o (.cb (a7D b))) := by
 refine fs 100 fun B => g0 fun _ => g0 fun _ => rtv trivial (()) trivial [] (.o (.cb (and (decide (b ≥ 48)) (decide (b <= 57))))) rfl
theorem b8f {b : Int} (hb : (b == 95) = true) : K1 nO 192 [.o (.v (.int .u8 b))] [] (.o (.cb (a4i b))) := by
 refine fs 100 fun B => g0 fun _ => goN 3 (fun _ => trivial) fun _ => sv 5 (v := .o (.cb (b == 95))) (v' := .o (.v (.bool true))) (congrArg Value.bool hb) <| g0 fun _ => rtv trivial (()) trivial [] (.o (.v (.bool true))) (congrArg Value.bool (by unfold a4i; rw [hb]; simp))
theorem b8g {b : Int} (hb : (b == 95) = false) : K1 nO 192 [.o (.v (.int .u8 b))] [] (.o (.cb (a4i b))) := by
 refine fs 100 fun B => g0 fun _ => goN 3 (fun _ => trivial) fun _ => sv 5 (v := .o (.cb (b == 95))) (v' := .o (.v (.bool false))) (congrArg Value.bool hb) <| g0 fun _ => rtv trivial (()) trivial [] (.o (.cb (and (decide (b ≥ 97)) (decide (b <= 122))))) (congrArg Value.bool (by unfold a4i; rw [hb]; simp))
theorem b14 {b : Int} : K1 nO 192 [.o (.v (.int .u8 b))] [] (.o (.cb (a4i b))) := by
 cases h : (b == 95) with
 | true => exact b8f h
 | false => exact b8g h
theorem b1t {s : ByteArray} (hs : NmP s) : K1 nO 181 [.o (.t s)] [] (.o (.v (.bool false))) := by
 refine fs 100 fun B => g0 fun _ => g0 fun _ => g0 fun _ => cdF (b := a7 s ⟨#[116, 97, 98, 108, 101]⟩) (hs.kw 0 (by decide)) <| g0 fun _ => cdF (b := a7 s ⟨#[107, 101, 121]⟩) (hs.kw 1 (by decide)) <| g0 fun _ => cdF (b := a7 s ⟨#[102, 100]⟩) (hs.kw 2 (by decide)) <| g0 fun _ => cdF (b := a7 s ⟨#[105, 110, 116]⟩) (hs.kw 3 (by decide)) <| g0 fun _ => cdF (b := a7 s ⟨#[116, 101, 120, 116]⟩) (hs.kw 4 (by decide)) <| g0 fun _ => cdF (b := a7 s ⟨#[109, 117, 115, 116]⟩) (hs.kw 5 (by decide)) <| g0 fun _ => cdF (b := a7 s ⟨#[116, 111]⟩) (hs.kw 6 (by decide)) <| g0 fun _ => cdF (b := a7 s ⟨#[108, 111, 97, 100]⟩) (hs.kw 7 (by decide)) <| g0 fun _ => cdF (b := a7 s ⟨#[105, 110, 115, 101, 114, 116]⟩) (hs.kw 8 (by decide)) <| g0 fun _ => cdF (b := a7 s ⟨#[100, 101, 108, 101, 116, 101]⟩) (hs.kw 9 (by decide)) <| g0 fun _ => cdF (b := a7 s ⟨#[117, 112, 100, 97, 116, 101]⟩) (hs.kw 10 (by decide)) <| g0 fun _ => cdF (b := a7 s ⟨#[115, 117, 109, 109, 97, 114, 121]⟩) (hs.kw 11 (by decide)) <| g0 fun _ => cdF (b := a7 s ⟨#[111, 110]⟩) (hs.kw 12 (by decide)) <| g0 fun _ => cdF (b := a7 s ⟨#[98, 121]⟩) (hs.kw 13 (by decide)) <| g0 fun _ => cdF (b := a7 s ⟨#[107, 101, 101, 112]⟩) (hs.kw 14 (by decide)) <| g0 fun _ => cdF (b := a7 s ⟨#[100, 114, 111, 112]⟩) (hs.kw 15 (by decide)) <| g0 fun _ => cdF (b := a7 s ⟨#[102, 114, 111, 109]⟩) (hs.kw 16 (by decide)) <| g0 fun _ => cdF (b := a7 s ⟨#[119, 104, 101, 114, 101]⟩) (hs.kw 17 (by decide)) <| g0 fun _ => cdF (b := a7 s ⟨#[97, 110, 100]⟩) (hs.kw 18 (by decide)) <| g0 fun _ => cdF (b := a7 s ⟨#[105, 115]⟩) (hs.kw 19 (by decide)) <| g0 fun _ => cdF (b := a7 s ⟨#[110, 111, 116]⟩) (hs.kw 20 (by decide)) <| g0 fun _ => cdF (b := a7 s ⟨#[110, 117, 108, 108]⟩) (hs.kw 21 (by decide)) <| g0 fun _ => cdF (b := a7 s ⟨#[114, 111, 108, 108, 117, 112]⟩) (hs.kw 22 (by decide)) <| g0 fun _ => cdF (b := a7 s ⟨#[99, 117, 98, 101]⟩) (hs.kw 23 (by decide)) <| g0 fun _ => cdF (b := a7 s ⟨#[115, 104, 111, 119]⟩) (hs.kw 24 (by decide)) <| g0 fun _ => cdF (b := a7 s ⟨#[104, 97, 118, 105, 110, 103]⟩) (hs.kw 25 (by decide)) <| g0 fun _ => cdF (b := a7 s ⟨#[111, 114, 100, 101, 114]⟩) (hs.kw 26 (by decide)) <| g0 fun _ => cdF (b := a7 s ⟨#[100, 101, 115, 99]⟩) (hs.kw 27 (by decide)) <| g0 fun _ => cdF (b := a7 s ⟨#[108, 105, 109, 105, 116]⟩) (hs.kw 28 (by decide)) <| g0 fun _ => cdF (b := a7 s ⟨#[117, 115, 105, 110, 103]⟩) (hs.kw 29 (by decide)) <| g0 fun _ => cdF (b := a7 s ⟨#[98, 97, 115, 101]⟩) (hs.kw 30 (by decide)) <| g0 fun _ => cdF (b := a7 s ⟨#[99, 111, 117, 110, 116]⟩) (hs.kw 31 (by decide)) <| g0 fun _ => cdF (b := a7 s ⟨#[115, 117, 109]⟩) (hs.kw 32 (by decide)) <| g0 fun _ => cdF (b := a7 s ⟨#[109, 105, 110]⟩) (hs.kw 33 (by decide)) <| g0 fun _ => cdF (b := a7 s ⟨#[109, 97, 120]⟩) (hs.kw 34 (by decide)) <| g0 fun _ => cdF (b := a7 s ⟨#[97, 118, 103]⟩) (hs.kw 35 (by decide)) <| g0 fun _ => cdF (b := a7 s ⟨#[100, 105, 115, 116, 105, 110, 99, 116]⟩) (hs.kw 36 (by decide)) <| g0 fun _ => cdF (b := a7 s ⟨#[114, 111, 119, 115]⟩) (hs.kw 37 (by decide)) <| g0 fun _ => rt trivial (()) trivial []
theorem a3b {s : ByteArray} (hs : NmP s) : K1 nO 157 [.o (.t s)] [] (.o (.v (.bool true))) := by
 refine fs 100 (fun B => ?_)
 have hne := hs.ne
 have hle := hs.le
 refine g0 fun _ => goN 3 (fun _ => trivial) fun _ => sv 6 (v := .o (.cb (a7 s ⟨#[]⟩))) (v' := .o (.v (.bool false))) (congrArg Value.bool hs.emp) <| goN 5 (fun _ => trivial) fun _ => sv 11 (v := .o (.cb (decide ((s.size : Int) > 12)))) (v' := .o (.v (.bool false))) (congrArg Value.bool (decide_eq_false (by omega))) <| go (fun _ => (o2 (by omega : (0 : Int) <= 0) (by omega : (0 : Int) < ((s.size : Nat) : Int)))) fun _ => cl (@a5w _ ((d4 s 0).toNat : Int)) [] [] 100 fun _ _ => goN 2 (fun _ => trivial) fun _ => sv 16 (v := .o (.cb (a7D ((d4 s 0).toNat : Int)))) (v' := .o (.v (.bool false))) (congrArg Value.bool hs.dig) <| g0 fun _ => cl (@b1t _ s (by assumption)) [] [] 100 fun _ _ => g0 fun _ => cdF rfl <| g0 fun _ => lp ((Nat)) [0, 21] (fun r => [(22, .o (.i (r : Int)))]) [] (fun _ => []) 120 (fun r => r <= s.size) (fun r => s.size - r) (0) (Nat.zero_le _) [] fun i hx ag111 => g0 fun _ => cdD ((i : Int) < (s.size : Int)) (fun h2 => ?_) (fun h2 => ?_)
 ·have hch := hs.ch i (by omega)
  refine g0 fun _ => go (fun _ => (o2 (nz i) (by omega : (i : Int) < ((s.size : Nat) : Int)))) fun _ => cl (@b1s _ ((d4 s i).toNat : Int)) [] [] 120 fun _ _ => goN 2 (fun _ => trivial) fun _ => go (fun _ => (o1 (fun (he : (!(a4i ((d4 s i).toNat : Int))) = true) => have he : ¬ ((a4i ((d4 s i).toNat : Int)) = true) := (by simpa using he); (o2 (nz i) (by omega : (i : Int) < ((s.size : Nat) : Int)))))) fun _ => clm (@a5w _ ((d4 s i).toNat : Int)) [] trivial <| g0 fun _ => cdF (b := and (!(a4i ((d4 s i).toNat : Int))) (!(a7D ((d4 s i).toNat : Int)))) (by have h := hch; revert h; cases a4i ((d4 s i).toNat : Int) <;> cases a7D ((d4 s i).toNat : Int) <;> decide) <| go (fun _ => (o2 (by omega : -9223372036854775808 <= (i : Int) + 1) (by omega : (i : Int) + 1 < 9223372036854775808))) fun _ => ag111 _ _ (i + 1) (by first | omega | (simp only; omega)) (by omega) [] (by kernel_rfl) (by kernel_rfl)
 ·refine g0 fun _ => rt trivial (()) trivial []
theorem a8E {s : ByteArray} (hs : NmP s) : K1 nO 191 [.o (.t s)] [] (.o (.v (.bool false))) := by
 refine fs 100 fun B => g0 fun _ => g0 fun q102 => gh (j7 (g := 100) (q := (q102 100)) (cs := [.t ⟨#[116, 97, 98, 108, 101]⟩, .t ⟨#[107, 101, 121]⟩, .t ⟨#[102, 100]⟩, .t ⟨#[105, 110, 116]⟩, .t ⟨#[116, 101, 120, 116]⟩, .t ⟨#[109, 117, 115, 116]⟩, .t ⟨#[116, 111]⟩, .t ⟨#[108, 111, 97, 100]⟩, .t ⟨#[105, 110, 115, 101, 114, 116]⟩, .t ⟨#[100, 101, 108, 101, 116, 101]⟩, .t ⟨#[117, 112, 100, 97, 116, 101]⟩, .t ⟨#[115, 117, 109, 109, 97, 114, 121]⟩, .t ⟨#[111, 110]⟩, .t ⟨#[98, 121]⟩, .t ⟨#[107, 101, 101, 112]⟩, .t ⟨#[100, 114, 111, 112]⟩, .t ⟨#[102, 114, 111, 109]⟩, .t ⟨#[119, 104, 101, 114, 101]⟩, .t ⟨#[97, 110, 100]⟩, .t ⟨#[105, 115]⟩, .t ⟨#[110, 111, 116]⟩, .t ⟨#[110, 117, 108, 108]⟩, .t ⟨#[114, 111, 108, 108, 117, 112]⟩, .t ⟨#[99, 117, 98, 101]⟩, .t ⟨#[115, 104, 111, 119]⟩, .t ⟨#[104, 97, 118, 105, 110, 103]⟩, .t ⟨#[111, 114, 100, 101, 114]⟩, .t ⟨#[100, 101, 115, 99]⟩, .t ⟨#[108, 105, 109, 105, 116]⟩, .t ⟨#[117, 115, 105, 110, 103]⟩, .t ⟨#[98, 97, 115, 101]⟩, .t ⟨#[99, 111, 117, 110, 116]⟩, .t ⟨#[115, 117, 109]⟩, .t ⟨#[109, 105, 110]⟩, .t ⟨#[109, 97, 120]⟩, .t ⟨#[97, 118, 103]⟩, .t ⟨#[100, 105, 115, 116, 105, 110, 99, 116]⟩, .t ⟨#[114, 111, 119, 115]⟩]) (t := 9) (m := .own) eS kws) [0] [] 101 fun _ _ => g0 fun _ => lp ((Nat)) [0, 3] (fun r => [(4, .o (.i (r : Int)))]) [0] (fun _ => []) 121 (fun r => r <= 38) (fun r => 38 - r) (0) (Nat.zero_le _) [] (fun i hx ag104 => ?_)
 have hkl : kws.length = 38 := rfl
 refine g0 fun _ => cdD ((i : Int) < 38) (fun h1 => ?_) (fun h1 => ?_)
 ·refine go (fun _ => (o4 (nz i) (by omega : (i : Int) < 38) (rfl : false = _) (by omega : i < kws.length))) fun _ => cdF (b := a7 (kws.getD i eS.d) s) (H9.trans (hs.kw i (by omega))) <| go (fun _ => (o2 (by omega : -9223372036854775808 <= (i : Int) + 1) (by omega : (i : Int) + 1 < 9223372036854775808))) fun _ => ag104 _ _ (i + 1) (by first | omega | (simp only; omega)) (by omega) [0] (by kernel_rfl) (by kernel_rfl)
 ·refine g0 fun _ => rt trivial (()) trivial []
theorem a3s {s : ByteArray} (hs : NmP s) : K1 nO 168 [.o (.t s)] [] (.o (.v (.bool true))) := by
 refine fs 100 (fun B => ?_)
 have hne := hs.ne
 have hle := hs.le
 refine g0 fun _ => goN 4 (fun _ => trivial) fun _ => sv 7 (v := .o (.cb (decide ((s.size : Int) < 1)))) (v' := .o (.v (.bool false))) (congrArg Value.bool (decide_eq_false (by omega))) <| goN 5 (fun _ => trivial) fun _ => sv 12 (v := .o (.cb (decide ((s.size : Int) > 12)))) (v' := .o (.v (.bool false))) (congrArg Value.bool (decide_eq_false (by omega))) <| go (fun _ => (o2 (by omega : (0 : Int) <= 0) (by omega : (0 : Int) < ((s.size : Nat) : Int)))) fun _ => cl (@a5Q _ ((d4 s 0).toNat : Int)) [] [] 100 fun _ _ => goN 2 (fun _ => trivial) fun _ => sv 17 (v := .o (.cb (a7D ((d4 s 0).toNat : Int)))) (v' := .o (.v (.bool false))) (congrArg Value.bool hs.dig) <| g0 fun _ => cl (@a8E _ s (by assumption)) [] [] 100 fun _ _ => g0 fun _ => cdF rfl <| g0 fun _ => lp ((Nat)) [0] (fun r => [(3, .o (.i (r : Int)))]) [] (fun _ => []) 120 (fun r => r <= s.size) (fun r => s.size - r) (0) (Nat.zero_le _) [] fun i hx ag111 => g0 fun _ => cdD ((i : Int) < (s.size : Int)) (fun h2 => ?_) (fun h2 => ?_)
 ·have hch := hs.ch i (by omega)
  refine go (fun _ => (o2 (nz i) (by omega : (i : Int) < ((s.size : Nat) : Int)))) fun _ => cl (b14 (b := ((d4 s i).toNat : Int))) [] [] 120 fun _ _ => go (fun _ => (o1 (fun (he : (!(a4i ((d4 s i).toNat : Int))) = true) => have he : ¬ ((a4i ((d4 s i).toNat : Int)) = true) := (by simpa using he); (o2 (nz i) (by omega : (i : Int) < ((s.size : Nat) : Int)))))) fun _ => clm (@a5Q _ ((d4 s i).toNat : Int)) [] trivial <| g0 fun _ => cdF (b := and (!(a4i ((d4 s i).toNat : Int))) (!(a7D ((d4 s i).toNat : Int)))) (by have h := hch; revert h; cases a4i ((d4 s i).toNat : Int) <;> cases a7D ((d4 s i).toNat : Int) <;> decide) <| go (fun _ => (o2 (by omega : -9223372036854775808 <= (i : Int) + 1) (by omega : (i : Int) + 1 < 9223372036854775808))) fun _ => ag111 _ _ (i + 1) (by first | omega | (simp only; omega)) (by omega) [] (by kernel_rfl) (by kernel_rfl)
 ·refine g0 fun _ => rt trivial (()) trivial []
end Go.Proofs.YtagidoadfajpgaaGreat
namespace Go.Proofs.YtagidoadfajpgaaGreat
set_option maxHeartbeats 4000000
open Go.Abs
variable {nO : Nat}
set_option maxRecDepth 100000
attribute [local irreducible] GP ruP ruN nxP acS gst cdP loP j6 m9 m8 enP caA n5 lgP agN
structure DpA (xa : List Cd) (d : De) : Prop where
 l1 : 0 < d.l.length
 l3 : d.l.length <= 3
 li : ∀ i, i < d.l.length -> 0 <= e9 xa (fun c => a7 c.name (d.l.getD i eS.d))
 lu : ∀ i, i < d.l.length -> ∀ j, j < i -> a7 (d.l.getD i eS.d) (d.l.getD j eS.d) = false
 lr : ∀ i, i < d.l.length -> a7 d.r (d.l.getD i eS.d) = false
 ri : 0 <= e9 xa (fun c => a7 c.name d.r)
structure FmA (xs : List Xr) (na ka : ByteArray) (xa : List Cd) (da : List De) : Prop where
 x8 : xs.length < 8
 nm : NmP na
 new : e9 xs (fun x => a7 x.F.name na) = -1
 c1 : 0 < xa.length
 c6 : xa.length <= 6
 d3 : da.length <= 3
 cn : ∀ i, i < xa.length -> NmP (xa.getD i eC.d).name
 cu : ∀ i, i < xa.length -> ∀ j, j < i -> a7 (xa.getD i eC.d).name (xa.getD j eC.d).name = false
 key : a7 ka ⟨#[]⟩ = true ∨ 0 <= e9 xa (fun c => a7 c.name ka)
 kd : ∀ i, i < xa.length -> (xa.getD i eC.d).kind = 1 ∨ (xa.getD i eC.d).kind = 2
 dp : ∀ i, i < da.length -> DpA xa (da.getD i dD)
 rf : ∀ i, i < xa.length -> a7 (xa.getD i eC.d).to ⟨#[]⟩ = true ∨ (a7 (xa.getD i eC.d).to ⟨#[]⟩ = false /\ ∃ j c : Nat, j < xs.length /\ e9 xs (fun x => a7 x.F.name (xa.getD i eC.d).to) = (j : Int) /\ a7 (xs.getD j dXr).F.key ⟨#[]⟩ = false /\ c < (xs.getD j dXr).F.xa.length /\ e9 (xs.getD j dXr).F.xa (fun c => a7 c.name (xs.getD j dXr).F.key) = (c : Int) /\ ((xs.getD j dXr).F.xa.getD c eC.d).kind = (xa.getD i eC.d).kind)
theorem b1P {q c : Nat} {z : Bool} {n : Nat} {xs : List ByteArray} {t : TypeId} {m : Md} {s : ByteArray} (hz : z = true -> xs.length = 0) (hl : xs.length < 1000000) (hn : n <= xs.length) (hno : ∀ j, j < n -> a7 s (xs.getD j eS.d) = false) : K1 nO 218 [.o (.s 1 q 1 0 n c z), .o (.t s)] [vc eS 1 q xs t m z] (.o (.i (-1))) := by
 refine fs 100 fun B => g0 fun _ => g0 fun _ => lp ((Nat)) [0, 1, 7] (fun r => [(8, .o (.i (r : Int)))]) [0] (fun _ => []) 120 (fun r => r <= n) (fun r => n - r) (0) (Nat.zero_le _) [] fun i hx ag103 => g0 fun _ => cdD ((i : Int) < (n : Int)) (fun h1 => ?_) (fun h1 => ?_)
 ·refine g0 fun _ => go (fun _ => (o4 (nz i) (by omega : (i : Int) < (n : Int)) (zf hz (show 0 < xs.length by omega) : z = false) (by omega : i < xs.length))) fun _ => cdF (b := a7 s (xs.getD i eS.d)) (hno i (by omega)) <| go (fun _ => (o2 (by omega : -9223372036854775808 <= (i : Int) + 1) (by omega : (i : Int) + 1 < 9223372036854775808))) fun _ => ag103 _ _ (i + 1) (by first | omega | (simp only; omega)) (by omega) [0] (by kernel_rfl) (by kernel_rfl)
 ·refine g0 fun _ => rt trivial (()) trivial [0]
theorem a5J {q c : Nat} {z : Bool} {n : Nat} {xs : List ByteArray} {t : TypeId} {m : Md} {s : ByteArray} (hz : z = true -> xs.length = 0) (hl : xs.length < 1000000) (hn : n <= xs.length) (hno : ∀ j, j < n -> a7 s (xs.getD j eS.d) = false) : K1 nO 183 [.o (.s 1 q 1 0 n c z), .o (.t s)] [vc eS 1 q xs t m z] (.o (.v (.bool false))) := by
 refine fs 100 fun B => g0 fun _ => g0 fun _ => cl (@b1P _ q c z n xs t m s hz (by omega) (by omega) hno) [0] [] 100 fun _ _ => g0 fun _ => rtv trivial (()) trivial [0] (.o (.cb (decide ((-1) ≥ 0)))) rfl
theorem a1E {q c : Nat} {z : Bool} {xs : List ByteArray} {m : Md} (hz : z = true -> xs.length = 0) (hl : xs.length < 1000000) (hcp : xs.length <= c) (hu : ∀ i, i < xs.length -> ∀ j, j < i -> a7 (xs.getD i eS.d) (xs.getD j eS.d) = false) : K1 nO 158 [.o (.s 1 q 1 0 xs.length c z)] [vc eS 1 q xs 9 m z] (.o (.v (.bool false))) := by
 refine fs 100 fun B => g0 fun _ => g0 fun _ => lp ((Nat)) [0, 5, 6] (fun r => [(7, .o (.i (r : Int)))]) [0] (fun _ => []) 120 (fun r => r <= xs.length) (fun r => xs.length - r) (0) (Nat.zero_le _) [] fun i hx ag103 => g0 fun _ => cdD ((i : Int) < (xs.length : Int)) (fun h1 => ?_) (fun h1 => ?_)
 ·refine go (fun _ => (o4 (nz i) (by omega : (i : Int) < (xs.length : Int)) (zf hz (show 0 < xs.length by omega) : z = false) (by omega : i < xs.length))) fun _ => go (fun _ => (o3 (by omega : xs.length <= c) (nz i) (by omega : (i : Int) <= (c : Int)))) fun _ => cl (@a5J _ q c z i xs 9 m (xs.getD i eS.d) hz (by omega) (by omega) (hu i (by omega))) [0] [] 120 fun _ _ => cdF rfl <| go (fun _ => (o2 (by omega : -9223372036854775808 <= (i : Int) + 1) (by omega : (i : Int) + 1 < 9223372036854775808))) fun _ => ag103 _ _ (i + 1) (by first | omega | (simp only; omega)) (by omega) [0] (by kernel_rfl) (by kernel_rfl)
 ·refine g0 fun _ => rt trivial (()) trivial [0]
end Go.Proofs.YtagidoadfajpgaaGreat
namespace Go.Proofs.YtagidoadfajpgaaGreat
set_option maxHeartbeats 4000000
open Go.Abs
variable {nO : Nat}
set_option maxRecDepth 100000
attribute [local irreducible] GP ruP ruN nxP acS gst cdP loP j6 m9 m8 enP caA n5 lgP agN
theorem b00 {α : Type} {l : List α} {p : α -> Bool} {d : α} (h : ∀ i, i < l.length -> p (l.getD i d) = false) : l.any p = false := by
 rw [List.any_eq_false]
 intro x hx
 obtain ⟨i, hi, rfl⟩ := List.getElem_of_mem hx
 have := h i hi
 rw [a8 hi] at this
 rw [this]; decide
theorem a6i {na ka : ByteArray} {qa ca : Nat} {za : Bool} {xa : List Cd} {ta : TypeId} {ma : Md} {qA cA : Nat} {zA : Bool} {da : List De} {qb : Nat} {s : ByteArray} (hza : za = true -> xa.length = 0) (hla : xa.length < 1000000) : K1 nO 185 [.o (.t s), .o (.p 9 qb 0 0 0)] [.blk 9 qb [.t na, .s 1 qa 4 0 xa.length ca za, .t ka, .s 3 qA 2 0 da.length cA zA] 46 .own, vc eC 1 qa xa ta ma za] (.o (.cb (decide (e9 xa (fun c => a7 c.name s) < 0)))) := by
 refine fs 100 fun B => g0 fun _ => g0 fun _ => cl (@N2 _ na ka qa ca za xa ta ma qA cA zA da s (by assumption) (by omega)) [1] [] 100 fun _ _ => g0 fun _ => rt trivial (()) trivial [1, 0]
theorem a9I {q c : Nat} {z : Bool} {xs : List ByteArray} {t : TypeId} {m : Md} {y : Value} {p : ByteArray -> Bool} {J : As} (hz : z = true -> xs.length = 0) (hl : xs.length < 1000000) (hy : ∀ k, k < xs.length -> a2X Tryz.prog nO y [.o (.t (xs.getD k eS.d))] [.as J] Unit (fun _ => True) (fun _ => .o (.cb (p (xs.getD k eS.d)))) (fun _ => [.as J])) : K1 nO 219 [.o (.s 1 q 1 0 xs.length c z), .o (.v y)] [vc eS 1 q xs t m z, .as J] (.o (.i (e9 xs p))) := by
 refine fs 100 fun B => g0 fun _ => g0 fun _ => lp ((Nat)) [0, 1, 7] (fun r => [(8, .o (.i (r : Int)))]) [0, 1] (fun _ => []) 120 (fun r => r <= xs.length /\ ∀ j, j < r -> p (xs.getD j eS.d) = false) (fun r => xs.length - r) (0) ⟨Nat.zero_le _, fun j hj => absurd hj (Nat.not_lt_zero j)⟩ [] (fun i hx ag103 => ?_)
 obtain ⟨hi, hn⟩ := hx
 refine g0 fun _ => cdD ((i : Int) < (xs.length : Int)) (fun h1 => ?_) (fun h1 => ?_)
 ·refine g0 fun _ => go (fun _ => (o4 (nz i) (by omega : (i : Int) < (xs.length : Int)) (zf hz (show 0 < xs.length by omega) : z = false) (by omega : i < xs.length))) fun _ => clv (hy i (by omega)) [1] [] 120 fun _ _ => cd (p (xs.getD i eS.d)) (fun h2 => ?_) (fun h2 => ?_)
  ·refine g0 fun _ => rtv trivial (()) trivial [1, 0] (.o (.i (i : Int))) (congrArg (Value.int .i64) (p9 (d := eS.d) (by omega) h2 hn).symm)
  ·refine go (fun _ => (o2 (by omega : -9223372036854775808 <= (i : Int) + 1) (by omega : (i : Int) + 1 < 9223372036854775808))) fun _ => ag103 _ _ (i + 1) (by first | omega | (simp only; omega)) ⟨by omega, fun j hj => by rcases Nat.lt_succ_iff_lt_or_eq.1 hj with h | h; exact hn j h; subst h; exact h2⟩ [1, 0] (by kernel_rfl) (by kernel_rfl)
 ·refine g0 fun _ => rtv trivial (()) trivial [0, 1] (.o (.i (-1))) (congrArg (Value.int .i64) (s8 (d := eS.d) (fun j hj => hn j (by omega))).symm)
theorem b0u {q c : Nat} {z : Bool} {xs : List ByteArray} {t : TypeId} {m : Md} {y : Value} {p : ByteArray -> Bool} {J : As} (hz : z = true -> xs.length = 0) (hl : xs.length < 1000000) (hy : ∀ k, k < xs.length -> a2X Tryz.prog nO y [.o (.t (xs.getD k eS.d))] [.as J] Unit (fun _ => True) (fun _ => .o (.cb (p (xs.getD k eS.d)))) (fun _ => [.as J])) : K1 nO 186 [.o (.s 1 q 1 0 xs.length c z), .o (.v y)] [vc eS 1 q xs t m z, .as J] (.o (.cb (xs.any p))) := by
 refine fs 100 fun B => g0 fun _ => g0 fun _ => cl (@a9I _ q c z xs t m y p J (by assumption) (by omega) hy) [0, 1] [] 100 fun _ _ => g0 fun _ => rtv trivial (()) trivial [0, 1] (.o (.cb (decide (e9 xs p ≥ 0)))) (congrArg Value.bool R9)
theorem b5J {na ka : ByteArray} {qa ca : Nat} {za : Bool} {xa : List Cd} {ta : TypeId} {ma : Md} {qA cA : Nat} {zA : Bool} {da : List De} {q5 c5 : Nat} {z5 : Bool} {l : List ByteArray} {m5 : Md} {r : ByteArray} {qq : Nat} (hza : za = true -> xa.length = 0) (hla : xa.length < 1000000) (hz5 : z5 = true -> l.length = 0) (hc5 : l.length <= c5) (hd : DpA xa ⟨qq, l, r⟩) : K1 nO 161 [.a [.t na, .s 1 qa 4 0 xa.length ca za, .t ka, .s 3 qA 2 0 da.length cA zA], .a [.s 5 q5 1 0 l.length c5 z5, .t r]] [vc eC 1 qa xa ta ma za, vc eS 5 q5 l 9 m5 z5] (.o (.v (.bool true))) := by
 refine fs 100 (fun B => ?_)
 have hl1 := hd.l1
 have hl3 := hd.l3
 dsimp only at hl1 hl3
 have hri := hd.ri
 dsimp only at hri
 refine g0 fun q101 => g0 fun _ => goN 5 (fun _ => trivial) fun _ => sv 11 (v := .o (.cb (decide ((l.length : Int) > 0)))) (v' := .o (.v (.bool true))) (congrArg Value.bool (decide_eq_true (by omega))) <| goN 6 (fun _ => trivial) fun _ => sv 17 (v := .o (.cb (decide ((l.length : Int) <= 3)))) (v' := .o (.v (.bool true))) (congrArg Value.bool (decide_eq_true (by omega))) <| g0 fun _ => gh (p6 (l := [.blk 100 (q101 100) [.t na, .s 1 qa 4 0 xa.length ca za, .t ka, .s 3 qA 2 0 da.length cA zA] 46 .own, vc eC 1 qa xa ta ma za])) [1, 2] [] 102 fun _ _ => cl (b0u (q := q5) (c := c5) (z := z5) (xs := l) (t := 9) (m := m5) (y := .func (.func 185) #[] #[.pointer (some ⟨(q101 100), 0, none⟩)]) (p := (fun s => decide (e9 xa (fun c => a7 c.name s) < 0))) (J := (hpA [.blk 100 (q101 100) [.t na, .s 1 qa 4 0 xa.length ca za, .t ka, .s 3 qA 2 0 da.length cA zA] 46 .own, vc eC 1 qa xa ta ma za])) hz5 (by omega) (fun k _ => a0s (b3k [.pointer (some ⟨(q101 100), 0, none⟩)] (a6i (na := na) (ka := ka) (qa := qa) (ca := ca) (za := za) (xa := xa) (ta := ta) (ma := ma) (qA := qA) (cA := cA) (zA := zA) (da := da) (qb := (q101 100)) (s := l.getD k eS.d) hza hla)))) [2, 0] [(1, 5)] 102 fun _ _ => gh (O5 (l := [.blk 100 (q101 100) [.t na, .s 1 qa 4 0 xa.length ca za, .t ka, .s 3 qA 2 0 da.length cA zA] 46 .own, vc eC 1 qa xa ta ma za])) [1] [] 102 fun _ _ => goN 3 (fun _ => trivial) fun _ => sv 24 (v := .o (.cb (!(l.any (fun s => decide (e9 xa (fun c => a7 c.name s) < 0)))))) (v' := .o (.v (.bool true))) (congrArg Value.bool (by rw [b00 (d := eS.d) (fun i hi => decide_eq_false (by have := hd.li i hi; dsimp only at this; omega))]; rfl)) <| g0 fun _ => cl (@a1E _ q5 c5 z5 l m5 hz5 (by omega) hc5 hd.lu) [2] [(1, 5)] 102 fun _ _ => goN 3 (fun _ => trivial) fun _ => sv 30 (v := .o (.v (.bool true))) (v' := .o (.v (.bool true))) (congrArg Value.bool rfl) <| g0 fun _ => cl (@a6i _ na ka qa ca za xa ta ma qA cA zA da (q101 100) r hza hla) [1, 2] [(9, 100)] 102 fun _ _ => goN 3 (fun _ => trivial) fun _ => sv 37 (v := .o (.cb (!(decide (e9 xa (fun c => a7 c.name r) < 0))))) (v' := .o (.v (.bool true))) (congrArg Value.bool (by rw [decide_eq_false (by omega)]; rfl)) <| g0 fun _ => cl (@a5J _ q5 c5 z5 l.length l 9 m5 r hz5 (by omega) (by omega) hd.lr) [2] [(1, 5)] 102 fun _ _ => g0 fun _ => rt trivial (()) trivial [2, 0]
end Go.Proofs.YtagidoadfajpgaaGreat
open List (length_cons length_nil map_append length_map length_take getElem?_eq_getElem getElem_take getElem_map take_add_one)
namespace Go.Proofs.YtagidoadfajpgaaGreat
set_option maxHeartbeats 4000000
open Go.Abs
variable {nO : Nat}
set_option maxRecDepth 100000
attribute [local irreducible] GP ruP ruN nxP acS gst cdP loP j6 m9 m8 enP caA n5 lgP agN
theorem b0A {xa : List Cd} {i : Nat} (h : i < xa.length) : ((xa.take (i + 1)).map fun c => c.name) = ((xa.take i).map fun c => c.name) ++ [(xa.getD i eC.d).name] := by
 rw [take_add_one, getElem?_eq_getElem h, map_append, a8 h]; rfl
theorem b7E {xa : List Cd} {n i : Nat} (h : i < n) (hn : n <= xa.length) : ((xa.take n).map fun c => c.name).getD i eS.d = (xa.getD i eC.d).name := by
 rw [a8 (by rw [length_map, length_take]; omega), a8 (by omega), getElem_map, getElem_take]
theorem a9K {q c : Nat} {z : Bool} {xs : List De} {t : TypeId} {m : Md} {y : Value} {p : De -> Bool} {J : As} (hz : z = true -> xs.length = 0) (hl : xs.length < 1000000) (hy : ∀ k, k < xs.length -> a2X Tryz.prog nO y [.a [.s 906 (xs.getD k dD).q 1 0 (xs.getD k dD).l.length (xs.getD k dD).l.length false, .t (xs.getD k dD).r]] [.as J] Unit (fun _ => True) (fun _ => .o (.cb (p (xs.getD k dD)))) (fun _ => [.as J])) : K1 nO 184 [.o (.s 1 q 2 0 xs.length c z), .o (.v y)] [vc (eD 906) 1 q xs t m z, .as J] (.o (.i (e9 xs p))) := by
 refine fs 100 fun B => g0 fun _ => g0 fun _ => lp ((Nat)) [0, 1, 7] (fun r => [(8, .o (.i (r : Int)))]) [0, 1] (fun _ => []) 120 (fun r => r <= xs.length /\ ∀ j, j < r -> p (xs.getD j dD) = false) (fun r => xs.length - r) (0) ⟨Nat.zero_le _, fun j hj => absurd hj (Nat.not_lt_zero j)⟩ [] (fun i hx ag103 => ?_)
 obtain ⟨hi, hn⟩ := hx
 refine g0 fun _ => cdD ((i : Int) < (xs.length : Int)) (fun h1 => ?_) (fun h1 => ?_)
 ·refine g0 fun _ => go (fun _ => (o4 (nz i) (by omega : (i : Int) < (xs.length : Int)) (zf hz (show 0 < xs.length by omega) : z = false) (by omega : i < xs.length))) fun _ => clv (hy i (by omega)) [1] [] 120 fun _ _ => cd (p (xs.getD i dD)) (fun h2 => ?_) (fun h2 => ?_)
  ·refine g0 fun _ => rtv trivial (()) trivial [1, 0] (.o (.i (i : Int))) (congrArg (Value.int .i64) (p9 (d := dD) (by omega) h2 hn).symm)
  ·refine go (fun _ => (o2 (by omega : -9223372036854775808 <= (i : Int) + 1) (by omega : (i : Int) + 1 < 9223372036854775808))) fun _ => ag103 _ _ (i + 1) (by first | omega | (simp only; omega)) ⟨by omega, fun j hj => by rcases Nat.lt_succ_iff_lt_or_eq.1 hj with h | h; exact hn j h; subst h; exact h2⟩ [1, 0] (by kernel_rfl) (by kernel_rfl)
 ·refine g0 fun _ => rtv trivial (()) trivial [0, 1] (.o (.i (-1))) (congrArg (Value.int .i64) (s8 (d := dD) (fun j hj => hn j (by omega))).symm)
theorem b0v {q c : Nat} {z : Bool} {xs : List De} {t : TypeId} {m : Md} {y : Value} {p : De -> Bool} {J : As} (hz : z = true -> xs.length = 0) (hl : xs.length < 1000000) (hy : ∀ k, k < xs.length -> a2X Tryz.prog nO y [.a [.s 906 (xs.getD k dD).q 1 0 (xs.getD k dD).l.length (xs.getD k dD).l.length false, .t (xs.getD k dD).r]] [.as J] Unit (fun _ => True) (fun _ => .o (.cb (p (xs.getD k dD)))) (fun _ => [.as J])) : K1 nO 159 [.o (.s 1 q 2 0 xs.length c z), .o (.v y)] [vc (eD 906) 1 q xs t m z, .as J] (.o (.cb (xs.any p))) := by
 refine fs 100 fun B => g0 fun _ => g0 fun _ => cl (@a9K _ q c z xs t m y p J (by assumption) (by omega) hy) [0, 1] [] 100 fun _ _ => g0 fun _ => rtv trivial (()) trivial [0, 1] (.o (.cb (decide (e9 xs p ≥ 0)))) (congrArg Value.bool R9)
theorem a61 {na ka : ByteArray} {qa ca : Nat} {za : Bool} {xa : List Cd} {ta : TypeId} {ma : Md} {qA cA : Nat} {zA : Bool} {da : List De} {qb k : Nat} (hza : za = true -> xa.length = 0) (hla : xa.length < 1000000) (hkd : k < da.length) (hd : DpA xa (da.getD k dD)) : K1 nO 160 [.a [.s 906 ((da.getD k dD).q) 1 0 ((da.getD k dD).l.length) ((da.getD k dD).l.length) false, .t ((da.getD k dD).r)], .o (.p 9 qb 0 0 0)] [.blk 9 qb [.t na, .s 1 qa 4 0 xa.length ca za, .t ka, .s 3 qA 2 0 da.length cA zA] 46 .own, vc eC 1 qa xa ta ma za, .as (e6 (n4 9) da)] (.o (.v (.bool false))) := by
 refine fs 100 fun B => g0 fun q101 => g0 fun _ => gh (f8 (I := (n4 9)) (l := da) k dD (by omega)) [3] [] 101 fun _ _ => gh (a1t (c := vc eS 906 ((da.getD k dD).q) ((da.getD k dD).l) 9 .imm false) (I := ((n4 9) (da.getD k dD)))) [0] [] 101 fun _ _ => cl (@b5J _ na ka qa ca za xa ta ma qA cA zA da ((da.getD k dD).q) ((da.getD k dD).l.length) false ((da.getD k dD).l) .imm ((da.getD k dD).r) ((da.getD k dD).q) (by assumption) (by omega) (fun h => nomatch h) (Nat.le_refl _) hd) [4, 0] [(5, 906)] 101 fun _ _ => g0 fun _ => gh (x4 (c := vc eS 906 ((da.getD k dD).q) ((da.getD k dD).l) 9 .imm false) (I := ((n4 9) (da.getD k dD)))) [1] [] 101 fun _ _ => gh (j9 (I := (n4 9)) (l := da) k dD (by omega)) [0, 2] [] 101 fun _ _ => rt trivial (()) trivial [3, 1, 0]
theorem a9m {q qs : Nat} {xs : List Xr} {mS : Md} {na ka : ByteArray} {qa ca : Nat} {za : Bool} {xa : List Cd} {ta : TypeId} {ma : Md} {qA cA : Nat} {zA : Bool} {da : List De} {tA : TypeId} {mA : Md} (hza : za = true -> xa.length = 0) (hla : xa.length < 1000000) (hzA : zA = true -> da.length = 0) (hlA : da.length < 1000000) (hA : FmA xs na ka xa da) : K1 nO 117 [.o (.p 1 q 0 0 0), .a [.t na, .s 5 qa 4 0 xa.length ca za, .t ka, .s 6 qA 2 0 da.length cA zA]] [.blk 1 q [.s 2 qs 4 0 xs.length xs.length xs.isEmpty] 145 .own, vc eTb 2 qs xs 46 mS xs.isEmpty, .as (e6 tI xs), vc eC 5 qa xa ta ma za, vc (eD 906) 6 qA da tA mA zA, .as (e6 (n4 9) da)] (.o (.v (.bool true))) := by
 refine fs 100 (fun B => ?_)
 have hx8 := hA.x8
 have hc1 := hA.c1
 have hc6 := hA.c6
 refine g0 fun q101 => g0 fun _ => cl (@a1G _ q qs xs mS na (by omega) hA.new) [1, 2, 3] [] 101 fun _ _ => g0 fun q104 => g0 fun _ => cl (@a3b _ na hA.nm) [] [] 102 fun _ _ => g0 fun _ => clm (@N2 _ na ka qa ca za xa ta ma qA cA zA da ka hza hla) [5] trivial <| gh (b6 (l := [vc eC 5 qa xa ta ma za]) (l' := [vc eC 5 qa xa ta ma za]) rfl) [0] [] 102 fun _ _ => g0 fun _ => cdF (b := and (!a7 ka ⟨#[]⟩) (decide (e9 xa (fun c => a7 c.name ka) < 0))) (by rcases hA.key with h | h; rw [h]; rfl; rw [decide_eq_false (by omega), Bool.and_false]) <| g0 fun _ => g0 fun _ => gh (e7 102 1 eS.f eS.d 9 .grown) [] [] 103 fun _ _ => sv 7 (v := .o (.v (.slice none 0 0))) (v' := .o (.s 102 0 1 0 (((xa.take 0).map fun c => c.name).length) (((xa.take 0).map fun c => c.name).length) (((xa.take 0).map fun c => c.name).isEmpty))) rfl <| lp2 (Nat) (Nat) [3, 37, 38] (fun r => [(39, .o (.i (r.1 : Int))), (7, .o (.s 102 r.2 1 0 (((xa.take r.1).map fun c => c.name).length) (((xa.take r.1).map fun c => c.name).length) (((xa.take r.1).map fun c => c.name).isEmpty)))]) [1, 2, 3, 4, 5, 6, 7, 8] (fun r => [vc eS 102 r.2 ((xa.take r.1).map fun c => c.name) 9 .grown (((xa.take r.1).map fun c => c.name).isEmpty)]) 123 (fun r => r.1 <= xa.length) (fun r => xa.length - r.1) (⟨0, 0⟩) (Nat.zero_le _) [0] (fun i pq hx ag111 => ?_)
 try dsimp only at hx
 have hi := hx
 refine g0 fun _ => cdD ((i : Int) < (xa.length : Int)) (fun h2 => ?_) (fun h2 => ?_)
 ·have hcl : ((xa.take i).map fun c => c.name).length = i := by rw [length_map, length_take]; omega
  refine go (fun q113 => (o4 (nz i) (by omega : (i : Int) < (xa.length : Int)) (zf hza (show 0 < xa.length by omega) : za = false) (by omega : i < xa.length))) fun q113 => g0 fun _ => cl (@a3b _ ((xa.getD i eC.d).name) (hA.cn i (by omega))) [] [] 124 fun _ _ => g0 fun _ => cdF rfl <| g0 fun q117 => apd eS ((xa.take i).map fun c => c.name) [(xa.getD i eC.d).name] ((xa.take (i + 1)).map fun c => c.name) 102 pq .grown (((xa.take i).map fun c => c.name).isEmpty) (((xa.take (i + 1)).map fun c => c.name).isEmpty) (.blk 124 (q117 124) [.t ((xa.getD i eC.d).name)] 9 .own) (q117 124) 0 1 1 false 125 [2, 0] 126 9 (fun h _ => K4 h) (by simp only [length_cons, length_nil]; omega) (o8 rfl) (by rw [b0A (by omega)]; simp) (b0A (by omega)) fun q118 => g0 fun _ => go (fun _ => (o2 (by omega : -9223372036854775808 <= (i : Int) + 1) (by omega : (i : Int) + 1 < 9223372036854775808))) fun _ => ag111 _ _ (⟨i + 1, q118⟩) (by first | omega | (simp only; omega)) (by dsimp only; exact (by omega)) [0, 3, 4, 5, 6, 7, 8, 9, 10] (by kernel_rfl) (by kernel_rfl)
 ·refine g0 fun _ => cl (@a1E _ pq (((xa.take i).map fun c => c.name).length) (((xa.take i).map fun c => c.name).isEmpty) ((xa.take i).map fun c => c.name) .grown (fun h => by simpa using h) (by rw [length_map, length_take]; omega) (Nat.le_refl _) (fun a ha b hb => by rw [length_map, length_take] at ha; rw [b7E (by omega) hi, b7E (by omega) hi]; exact hA.cu a (by omega) b hb)) [0] [(1, 102)] 123 fun _ _ => g0 fun _ => gh (p6 (l := [.blk 100 (q101 100) [.t na, .s 5 qa 4 0 xa.length ca za, .t ka, .s 6 qA 2 0 da.length cA zA] 46 .own, vc eC 5 qa xa ta ma za, .as (e6 (n4 9) da)])) [6, 1, 8] [] 123 fun _ _ => cl (b0v (q := qA) (c := cA) (z := zA) (xs := da) (t := tA) (m := mA) (y := .func (.func 160) #[] #[.pointer (some ⟨(q101 100), 0, none⟩)]) (p := (fun _ => false)) (J := (hpA [.blk 100 (q101 100) [.t na, .s 5 qa 4 0 xa.length ca za, .t ka, .s 6 qA 2 0 da.length cA zA] 46 .own, vc eC 5 qa xa ta ma za, .as (e6 (n4 9) da)])) hzA hlA (fun k hk => a0s (b3k [.pointer (some ⟨(q101 100), 0, none⟩)] (a61 (na := na) (ka := ka) (qa := qa) (ca := ca) (za := za) (xa := xa) (ta := ta) (ma := ma) (qA := qA) (cA := cA) (zA := zA) (da := da) (qb := (q101 100)) (k := k) hza hla hk (hA.dp k hk))))) [6, 0] [(1, 6)] 123 fun _ _ => gh (O5 (l := [.blk 100 (q101 100) [.t na, .s 5 qa 4 0 xa.length ca za, .t ka, .s 6 qA 2 0 da.length cA zA] 46 .own, vc eC 5 qa xa ta ma za, .as (e6 (n4 9) da)])) [1] [] 123 fun _ _ => g0 fun _ => rtv trivial (()) trivial [6, 7, 8, 1, 3, 2] (.o (.cb (!(da.any (fun _ => false))))) (congrArg Value.bool (by rw [b00 (d := dD) (fun _ _ => rfl)]; rfl))
end Go.Proofs.YtagidoadfajpgaaGreat
namespace Go.Proofs.YtagidoadfajpgaaGreat
set_option maxHeartbeats 4000000
open Go.Abs
variable {nO : Nat}
set_option maxRecDepth 100000
attribute [local irreducible] GP ruP ruN nxP acS gst cdP loP j6 m9 m8 enP caA n5 lgP agN
theorem a8C {a : Cd}  : K1 nO 119 [.a [.t a.name, .i a.kind, .cb a.must, .t a.to]] [] (.o (.cb (and (a.kind != 1) (a.kind != 2)))) := by
 refine fs 100 fun B => g0 fun q101 => g0 fun _ => rt trivial (()) trivial []
theorem b0w {q c : Nat} {z : Bool} {xs : List Cd} {t : TypeId} {m : Md} {y : Value} {p : Cd -> Bool} {J : As} (hz : z = true -> xs.length = 0) (hl : xs.length < 1000000) (hy : ∀ k, k < xs.length -> a2X Tryz.prog nO y [.a [.t (xs.getD k eC.d).name, .i (xs.getD k eC.d).kind, .cb (xs.getD k eC.d).must, .t (xs.getD k eC.d).to]] [.as J] Unit (fun _ => True) (fun _ => .o (.cb (p (xs.getD k eC.d)))) (fun _ => [.as J])) : K1 nO 118 [.o (.s 1 q 4 0 xs.length c z), .o (.v y)] [vc eC 1 q xs t m z, .as J] (.o (.cb (xs.any p))) := by
 refine fs 100 fun B => g0 fun _ => g0 fun _ => cl (@a0Q _ q c z xs t m y p J (by assumption) (by omega) hy) [0, 1] [] 100 fun _ _ => g0 fun _ => rtv trivial (()) trivial [0, 1] (.o (.cb (decide (e9 xs p ≥ 0)))) (congrArg Value.bool R9)
theorem b17 {q qs : Nat} {xs : List Xr} {mS : Md} {na ka : ByteArray} {qa ca : Nat} {za : Bool} {xa : List Cd} {ta : TypeId} {ma : Md} {qA cA : Nat} {zA : Bool} {da : List De} (hza : za = true -> xa.length = 0) (hla : xa.length < 1000000) (hA : FmA xs na ka xa da) (hxt : ∀ i, i < xs.length -> tP (xs.getD i dXr)) : K1 nO 120 [.o (.p 1 q 0 0 0), .a [.t na, .s 5 qa 4 0 xa.length ca za, .t ka, .s 6 qA 2 0 da.length cA zA]] [.blk 1 q [.s 2 qs 4 0 xs.length xs.length xs.isEmpty] 145 .own, vc eTb 2 qs xs 46 mS xs.isEmpty, .as (e6 tI xs), vc eC 5 qa xa ta ma za] (.o (.i 0)) := by
 refine fs 100 (fun B => ?_)
 have hx8 := hA.x8
 have hc6 := hA.c6
 refine g0 fun q101 => g0 fun _ => lp ((Nat)) [0, 10, 11] (fun r => [(12, .o (.i (r : Int)))]) [0, 1, 2, 3, 4] (fun _ => []) 121 (fun r => r <= xa.length) (fun r => xa.length - r) (0) (Nat.zero_le _) [] fun i hx ag103 => g0 fun _ => cdD ((i : Int) < (xa.length : Int)) (fun h1 => ?_) (fun h1 => ?_)
 ·refine go (fun q105 => (o4 (nz i) (by omega : (i : Int) < (xa.length : Int)) (zf hza (show 0 < xa.length by omega) : za = false) (by omega : i < xa.length))) fun q105 => g0 fun _ => cd (a7 ((xa.getD i eC.d).to) ⟨#[]⟩) (fun h2 => ?_) (fun h2 => ?_)
  ·refine go (fun _ => (o2 (by omega : -9223372036854775808 <= (i : Int) + 1) (by omega : (i : Int) + 1 < 9223372036854775808))) fun _ => ag103 _ _ (i + 1) (by first | omega | (simp only; omega)) (by omega) [1, 2, 3, 4, 5] (by kernel_rfl) (by kernel_rfl)
  ·obtain ⟨_, j, c, hj, hn, hk, hc, hcc, hkk⟩ := (hA.rf i (by omega)).resolve_left (by rw [h2]; decide)
   have hfl := (hxt j hj).fm.xl
   refine g0 fun _ => cl (@Q9 _ q qs xs mS ((xa.getD i eC.d).to) j (by omega) hj hn (hxt j hj)) [2, 3, 4] [(7, 122), (8, 123)] 124 fun ⟨qc2109, qd2109, d2109⟩ hd2 => g0 fun q110 => g0 fun _ => cdF rfl <| g0 fun _ => cdF (b := a7 ((xs.getD j dXr).F.key) ⟨#[]⟩) hk <| g0 fun _ => cl (@N2 _ ((xs.getD j dXr).F.name) ((xs.getD j dXr).F.key) qc2109 ((xs.getD j dXr).F.xa.length) ((xs.getD j dXr).za) ((xs.getD j dXr).F.xa) 130 (n8 (xs.getD j dXr).F.xa) qd2109 d2109.length ((xs.getD j dXr).zA) d2109 ((xs.getD j dXr).F.key) (hxt j hj).za (by omega)) [4] [(1, 122), (3, 123)] 125 fun _ _ => sv 39 (v := .o (.i (e9 ((xs.getD j dXr).F.xa) (fun c => a7 c.name ((xs.getD j dXr).F.key))))) (v' := .o (.i (c : Int))) (congrArg (fun n => Value.int .i64 n) hcc) <| go (fun _ => (o4 (nz c) (by omega : (c : Int) < (((xs.getD j dXr).F.xa.length : Nat) : Int)) (zf (hxt j hj).za (show 0 < (xs.getD j dXr).F.xa.length by omega) : (xs.getD j dXr).za = false) (by omega : c < ((xs.getD j dXr).F.xa).length))) fun _ => cdF (b := ((((xs.getD j dXr).F.xa).getD c eC.d).kind != (xa.getD i eC.d).kind)) (by rw [hkk]; simp) <| go (fun _ => (o2 (by omega : -9223372036854775808 <= (i : Int) + 1) (by omega : (i : Int) + 1 < 9223372036854775808))) fun _ => ag103 _ _ (i + 1) (by first | omega | (simp only; omega)) (by omega) [8, 2, 3, 4, 9] (by kernel_rfl) (by kernel_rfl)
 ·refine g0 fun _ => rt trivial (()) trivial [1, 2, 3, 4]
end Go.Proofs.YtagidoadfajpgaaGreat
open List (length_cons length_nil ext_getElem length_map length_set getElem_mem findIdx?_eq_none_iff getElem_of_mem getElem_set getElem_map)
namespace Go.Proofs.YtagidoadfajpgaaGreat
set_option maxHeartbeats 4000000
open Go.Abs
variable {nO : Nat}
set_option maxRecDepth 100000
attribute [local irreducible] GP ruP ruN nxP acS gst cdP loP j6 m9 m8 enP caA n5 lgP agN
theorem b48 {ka : ByteArray} {xa : List Cd} (h : ∀ i, i < xa.length -> a7 (xa.getD i eC.d).name ka = false) : xa = xa.map (b5 ka) := by
 apply ext_getElem
 ·rw [length_map]
 ·intro i h1 h2
  have := h i h1
  rw [a8 h1] at this
  rw [getElem_map]
  unfold b5
  rw [this]; rfl
theorem b49 {ka : ByteArray} {xa : List Cd} {j : Nat} (hj : j < xa.length) (hu : ∀ i, i < xa.length -> ∀ k, k < i -> a7 (xa.getD i eC.d).name (xa.getD k eC.d).name = false) (he : a7 (xa.getD j eC.d).name ka = true) : xa.set j { xa.getD j eC.d with must := true } = xa.map (b5 ka) := by
 apply ext_getElem
 ·rw [length_set, length_map]
 ·intro i h1 h2
  have h3 : i < xa.length := by rwa [length_map] at h2
  have e := s5.1 he
  rw [getElem_set, getElem_map]
  by_cases hij : j = i
  ·subst hij
   rw [if_pos rfl]
   rw [a8 hj] at he ⊢
   unfold b5
   rw [he]; rfl
  ·rw [if_neg hij]
   have hne : a7 (xa[i]).name ka = false := by
    rw [<- e, <- a8 (d := eC.d) h3]
    rcases Nat.lt_or_gt_of_ne hij with h | h
    ·exact hu i h3 j h
    ·rw [H9]; exact hu j hj i h
   unfold b5
   rw [hne]; rfl
theorem b5n {ka : ByteArray} {xa : List Cd} (h : 0 <= e9 xa (fun c => a7 c.name ka)) : (e9 xa (fun c => a7 c.name ka)).toNat < xa.length /\ a7 (xa.getD (e9 xa (fun c => a7 c.name ka)).toNat eC.d).name ka = true := by
 unfold e9 at h ⊢
 split at h
 ·rename_i i hi
  obtain ⟨h1, h2, _⟩ := List.findIdx?_eq_some_iff_getElem.1 hi
  refine ⟨?_, ?_⟩
  ·exact h1
  ·show a7 (xa.getD i eC.d).name ka = true
   rw [a8 h1]; exact h2
 ·exact absurd h (by decide)
theorem b5o {ka : ByteArray} {xa : List Cd} (h : ¬ 0 <= e9 xa (fun c => a7 c.name ka)) : ∀ i, i < xa.length -> a7 (xa.getD i eC.d).name ka = false := fun i hi => by
 unfold e9 at h
 split at h
 ·rename_i j hj
  exact absurd (Int.natCast_nonneg j) h
 ·rename_i hj
  rw [findIdx?_eq_none_iff] at hj
  rw [a8 hi]
  exact hj _ (getElem_mem hi)
theorem FmA.tP {xs : List Xr} {na ka : ByteArray} {xa : List Cd} {da d2 : List De} {qc qd : Nat} {za zA : Bool} {t t' : TypeId} {c c' : Nat} (h : FmA xs na ka xa da) (hz : za = true -> xa.length = 0) (hZ : zA = true -> da.length = 0) (hd : d2.map e8 = da.map e8) : tP (⟨qc, c, za, t, qd, c', zA, t', d2, 0, [], ⟨na, ka, xa.map (b5 ka), da.map e8⟩, 0⟩ : Xr) where
 fm := ⟨by show (xa.map (b5 ka)).length < _; rw [length_map]; have := h.c6; omega, by show (da.map e8).length < _; rw [length_map]; have := h.d3; omega, fun i hi => by
  have hi2 : i < xa.length := by have := hi; rwa [length_map] at this
  have := h.kd i hi2
  show ((xa.map (b5 ka)).getD i eC.d).kind = 1 ∨ ((xa.map (b5 ka)).getD i eC.d).kind = 2
  rw [a8 (by rw [length_map]; exact hi2), getElem_map]
  rw [a8 hi2] at this
  unfold b5
  split <;> exact this, fun d hd => by
  obtain ⟨x, hx, rfl⟩ := List.mem_map.1 hd
  obtain ⟨i, hi, rfl⟩ := getElem_of_mem hx
  have := (h.dp i hi).l3
  rw [a8 hi] at this
  show (da[i]).l.length < _
  omega⟩
 za h2 := by show (xa.map (b5 ka)).length = 0; rw [length_map]; exact hz h2
 zA h2 := by have e := congrArg List.length hd; rw [length_map, length_map] at e; show d2.length = 0; rw [e]; exact hZ h2
 da := hd
theorem a5K {q qs : Nat} {xs : List Xr} {na ka : ByteArray} {qa ca : Nat} {za : Bool} {xa : List Cd} {ta : TypeId} {ma : Md} {qA cA : Nat} {zA : Bool} {da : List De} {tA : TypeId} {mA : Md} (hza : za = true -> xa.length = 0) (hla : xa.length < 1000000) (hzA : zA = true -> da.length = 0) (hlA : da.length < 1000000) (hA : FmA xs na ka xa da) (hxt : ∀ i, i < xs.length -> tP (xs.getD i dXr)) : Ctr Tryz.prog nO 72 [.o (.p 1 q 0 0 0), .a [.t na, .s 5 qa 4 0 xa.length ca za, .t ka, .s 6 qA 2 0 da.length cA zA]] [.blk 1 q [.s 2 qs 4 0 xs.length xs.length xs.isEmpty] 145 .own, vc eTb 2 qs xs 46 .grown xs.isEmpty, .as (e6 tI xs), vc eC 5 qa xa ta ma za, vc (eD 906) 6 qA da tA mA zA, .as (e6 (n4 9) da)] ((Nat) × (Nat) × (Nat) × (List De)) (fun r => r.2.2.2.map e8 = da.map e8) (fun r => .o (.i 0)) (fun r => [.blk 1 q [.s 2 r.1 4 0 ((xs ++ [(⟨r.2.1, xa.length, za, 130, r.2.2.1, r.2.2.2.length, zA, 161, r.2.2.2, 0, [], ⟨na, ka, (xa.map (b5 ka)), da.map e8⟩, 0⟩ : Xr)]).length) ((xs ++ [(⟨r.2.1, xa.length, za, 130, r.2.2.1, r.2.2.2.length, zA, 161, r.2.2.2, 0, [], ⟨na, ka, (xa.map (b5 ka)), da.map e8⟩, 0⟩ : Xr)]).length) ((xs ++ [(⟨r.2.1, xa.length, za, 130, r.2.2.1, r.2.2.2.length, zA, 161, r.2.2.2, 0, [], ⟨na, ka, (xa.map (b5 ka)), da.map e8⟩, 0⟩ : Xr)]).isEmpty)] 145 .own, vc eTb 2 r.1 (xs ++ [(⟨r.2.1, xa.length, za, 130, r.2.2.1, r.2.2.2.length, zA, 161, r.2.2.2, 0, [], ⟨na, ka, (xa.map (b5 ka)), da.map e8⟩, 0⟩ : Xr)]) 46 .grown ((xs ++ [(⟨r.2.1, xa.length, za, 130, r.2.2.1, r.2.2.2.length, zA, 161, r.2.2.2, 0, [], ⟨na, ka, (xa.map (b5 ka)), da.map e8⟩, 0⟩ : Xr)]).isEmpty), .as (e6 tI (xs ++ [(⟨r.2.1, xa.length, za, 130, r.2.2.1, r.2.2.2.length, zA, 161, r.2.2.2, 0, [], ⟨na, ka, (xa.map (b5 ka)), da.map e8⟩, 0⟩ : Xr)])), vc eC 5 qa xa ta ma za, vc (eD 906) 6 qA da tA mA zA, .as (e6 (n4 9) da)]) := by
 refine fs 100 (fun B => ?_)
 have hx8 := hA.x8
 have hc1 := hA.c1
 have hc6 := hA.c6
 have hd3 := hA.d3
 refine g0 fun q101 => g0 fun _ => cdF rfl <| g0 fun _ => cdF (b := or (or (or (decide ((xs.length : Int) ≥ 8)) ((xa.length : Int) == 0)) (decide ((xa.length : Int) > 6))) (decide ((da.length : Int) > 3))) (by simp only [Bool.or_eq_false_iff, decide_eq_false_iff_not, beq_eq_false_iff_ne]; omega) <| g0 fun _ => cl (@a9m _ q qs xs .grown na ka qa ca za xa ta ma qA cA zA da tA mA hza hla hzA hlA hA) [1, 2, 3, 4, 5, 6] [] 101 fun _ _ => g0 fun _ => cdF rfl <| g0 fun _ => gh (p6 (l := [])) [] [] 101 fun _ _ => cl (b0w (q := qa) (c := ca) (z := za) (xs := xa) (t := ta) (m := ma) (y := .func (.func 119) #[] #[]) (p := fun a => and (a.kind != 1) (a.kind != 2)) (J := (hpA [])) hza hla (fun k _ => a0s (b3k [] (a8C (a := xa.getD k eC.d))))) [4, 0] [(1, 5)] 101 fun _ _ => gh (O5 (l := [])) [1] [] 101 fun _ _ => g0 fun _ => cdF (b := (xa.any (fun a => and (a.kind != 1) (a.kind != 2)))) (b00 (d := eC.d) (fun i hi => by rcases hA.kd i hi with h | h <;> rw [h] <;> rfl)) <| g0 fun _ => cl (@b17 _ q qs xs .grown na ka qa ca za xa ta ma qA cA zA da hza hla hA hxt) [1, 2, 3, 0] [] 101 fun _ _ => g0 fun _ => g0 fun _ => cdF (b := ((0 : Int) != 0)) rfl <| g0 fun _ => cl (@a1W _ na ka qa ca za xa ta ma qA cA zA da tA mA hza hla hzA hlA (fun i hi => by have := (hA.dp i hi).l3; omega)) [3, 4, 5] [(1, 5), (3, 6), (7, 101), (8, 102)] 103 fun ⟨qc2114, qd2114, d2114⟩ hd2 => g0 fun _ => g0 fun _ => cl (@N2 _ na ka qc2114 xa.length za xa 130 (n8 xa) qd2114 d2114.length zA d2114 ka hza hla) [3] [(1, 101), (3, 102)] 103 fun _ _ => g0 fun _ => g0 fun _ => cdD (e9 xa (fun c => a7 c.name ka) ≥ 0) (fun h6 => ?_) (fun h6 => ?_)
 ·have hkp := b5n (ka := ka) (xa := xa) (by omega)
  have hk1 := hkp.1
  have hk2 := hkp.2
  refine go (fun _ => (o3 (by omega : (0 : Int) <= e9 xa (fun c => a7 c.name ka)) (by omega : e9 xa (fun c => a7 c.name ka) < (xa.length : Int)) (zf hza (show 0 < xa.length by omega) : za = false))) fun _ => vst eC xa ({ xa.getD (e9 xa (fun c => a7 c.name ka)).toNat eC.d with must := true }) (xa.map (b5 ka)) 101 101 qc2114 ((e9 xa (fun c => a7 c.name ka)).toNat) 2 130 (n8 xa) za [.v (.bool true)] [0] hk1 (zf hza (show 0 < xa.length by omega)) (b49 hk1 hA.cu hk2).symm (Nat.le_of_ble_eq_true rfl) rfl ?_ (hm := R6)
  refine gh (b6 (l := [.blk 100 (q101 100) [.t na, .s 101 qc2114 4 0 xa.length xa.length za, .t ka, .s 102 qd2114 2 0 d2114.length d2114.length zA] 46 .own]) (l' := [.blk 100 (q101 100) [.t na, .s 101 qc2114 4 0 ((xa.map (b5 ka)).length) xa.length za, .t ka, .s 102 qd2114 2 0 d2114.length d2114.length zA] 46 .own]) (by rw [length_map])) [9] [] 103 fun _ _ => g0 fun q121 => apd eTb xs [(⟨qc2114, xa.length, za, 130, qd2114, d2114.length, zA, 161, d2114, 0, [], ⟨na, ka, (xa.map (b5 ka)), da.map e8⟩, 0⟩ : Xr)] (xs ++ [(⟨qc2114, xa.length, za, 130, qd2114, d2114.length, zA, 161, d2114, 0, [], ⟨na, ka, (xa.map (b5 ka)), da.map e8⟩, 0⟩ : Xr)]) 2 qs .grown xs.isEmpty ((xs ++ [(⟨qc2114, xa.length, za, 130, qd2114, d2114.length, zA, 161, d2114, 0, [], ⟨na, ka, (xa.map (b5 ka)), da.map e8⟩, 0⟩ : Xr)]).isEmpty) (.blk 103 (q121 103) [.t na, .s 101 qc2114 4 0 ((xa.map (b5 ka)).length) xa.length za, .t ka, .s 102 qd2114 2 0 d2114.length d2114.length zA] 46 .own) (q121 103) 0 1 1 false 104 [9, 0] 105 46 (fun h _ => K4 h) (by simp only [length_cons, length_nil]; omega) (o8 rfl) (by simp) rfl fun q122 => g0 fun _ => g0 fun _ => gh (k7 (E := eC) (g := 101) (q := qc2114) (xs := (xa.map (b5 ka))) (t := 130) (m := (n8 xa)) (z := za)) [3] [] 105 fun _ _ => gh (k7 (E := (eD 906)) (g := 102) (q := qd2114) (xs := d2114) (t := 161) (m := (n8 da)) (z := zA)) [7] [] 105 fun _ _ => gh (p6 (l := tL (⟨qc2114, xa.length, za, 130, qd2114, d2114.length, zA, 161, d2114, 0, [], ⟨na, ka, (xa.map (b5 ka)), da.map e8⟩, 0⟩ : Xr))) [1, 0, 8] [] 105 fun _ _ => gh (i6 (I := tI) (l := xs) (x := (⟨qc2114, xa.length, za, 130, qd2114, d2114.length, zA, 161, d2114, 0, [], ⟨na, ka, (xa.map (b5 ka)), da.map e8⟩, 0⟩ : Xr))) [0, 8] [] 105 fun _ _ => rt trivial (⟨q122, qc2114, qd2114, d2114⟩) hd2 [7, 1, 0, 4, 5, 6]
 ·refine gh (b6 (l := [vc eC 101 qc2114 xa 130 (n8 xa) za]) (l' := [vc eC 101 qc2114 (xa.map (b5 ka)) 130 (n8 xa) za]) (by rw [<- b48 (b5o (ka := ka) (xa := xa) (by omega))])) [0] [] 103 fun _ _ => gh (b6 (l := [.blk 100 (q101 100) [.t na, .s 101 qc2114 4 0 xa.length xa.length za, .t ka, .s 102 qd2114 2 0 d2114.length d2114.length zA] 46 .own]) (l' := [.blk 100 (q101 100) [.t na, .s 101 qc2114 4 0 ((xa.map (b5 ka)).length) xa.length za, .t ka, .s 102 qd2114 2 0 d2114.length d2114.length zA] 46 .own]) (by rw [length_map])) [9] [] 103 fun _ _ => g0 fun q125 => apd eTb xs [(⟨qc2114, xa.length, za, 130, qd2114, d2114.length, zA, 161, d2114, 0, [], ⟨na, ka, (xa.map (b5 ka)), da.map e8⟩, 0⟩ : Xr)] (xs ++ [(⟨qc2114, xa.length, za, 130, qd2114, d2114.length, zA, 161, d2114, 0, [], ⟨na, ka, (xa.map (b5 ka)), da.map e8⟩, 0⟩ : Xr)]) 2 qs .grown xs.isEmpty ((xs ++ [(⟨qc2114, xa.length, za, 130, qd2114, d2114.length, zA, 161, d2114, 0, [], ⟨na, ka, (xa.map (b5 ka)), da.map e8⟩, 0⟩ : Xr)]).isEmpty) (.blk 103 (q125 103) [.t na, .s 101 qc2114 4 0 ((xa.map (b5 ka)).length) xa.length za, .t ka, .s 102 qd2114 2 0 d2114.length d2114.length zA] 46 .own) (q125 103) 0 1 1 false 104 [9, 0] 105 46 (fun h _ => K4 h) (by simp only [length_cons, length_nil]; omega) (o8 rfl) (by simp) rfl fun q126 => g0 fun _ => g0 fun _ => gh (k7 (E := eC) (g := 101) (q := qc2114) (xs := (xa.map (b5 ka))) (t := 130) (m := (n8 xa)) (z := za)) [3] [] 105 fun _ _ => gh (k7 (E := (eD 906)) (g := 102) (q := qd2114) (xs := d2114) (t := 161) (m := (n8 da)) (z := zA)) [7] [] 105 fun _ _ => gh (p6 (l := tL (⟨qc2114, xa.length, za, 130, qd2114, d2114.length, zA, 161, d2114, 0, [], ⟨na, ka, (xa.map (b5 ka)), da.map e8⟩, 0⟩ : Xr))) [1, 0, 8] [] 105 fun _ _ => gh (i6 (I := tI) (l := xs) (x := (⟨qc2114, xa.length, za, 130, qd2114, d2114.length, zA, 161, d2114, 0, [], ⟨na, ka, (xa.map (b5 ka)), da.map e8⟩, 0⟩ : Xr))) [0, 8] [] 105 fun _ _ => rt trivial (⟨q126, qc2114, qd2114, d2114⟩) hd2 [7, 1, 0, 4, 5, 6]
end Go.Proofs.YtagidoadfajpgaaGreat
