/-
  Xp.
-/
import Derived.Test.YtagidoadfajpgaaGreatN30
namespace Go.Proofs.YtagidoadfajpgaaGreat
set_option maxHeartbeats 4000000
open Go.Abs
variable {nO : Nat}
set_option maxRecDepth 100000
attribute [local irreducible] GP ruP ruN nxP acS gst cdP loP j6 m9 m8 enP caA n5 lgP agN
set_option synthInstance.maxHeartbeats 1000000 in
set_option synthInstance.maxSize 5000 in
theorem a8h : ∀ i, i < 4 -> FmD (I8.take i) (I8.getD i dFm) /\ nI (I8.getD i dFm).name I8 = (i : Int) := by decide +kernel
theorem b4A : ∀ i, i < 4 -> a0h (I8.getD i dFm) = I8.getD i dFm
 | 0, _ => by kernel_rfl
 | 1, _ => by kernel_rfl
 | 2, _ => by kernel_rfl
 | 3, _ => by kernel_rfl
theorem b3P : FmN I8 := ⟨by decide, fun i hi => ⟨(a8h i hi).1, b4A i hi, (a8h i hi).2⟩⟩
def L7 : Fm := I8.getD 0 dFm
def F8 : Fm := I8.getD 1 dFm
def a6Y : Va := ⟨1, 1, ⟨#[]⟩⟩
def a4T : List Va := [a6Y, ⟨2, 0, ⟨#[104, 101, 114, 101]⟩⟩]
def a2b : List Va := [a6Y, ⟨2, 0, ⟨#[120]⟩⟩, a21, a6Y]
def lA : List (Fm × Ts) := (sL 4).set 0 (L7, ⟨[(0, a4T)], 1⟩)
def lB : List (Fm × Ts) := lA.set 1 (F8, ⟨[(0, a2b)], 1⟩)
def b8O (F : Fm) (vs : List Va) : Bool := vs.length == F.xa.length && (List.range vs.length).all fun i => g9 F.xa i (vs.getD i eV.d)
theorem a5V {F : Fm} {vs : List Va} (h : b8O F vs = true) : okV F vs := by
 unfold b8O at h
 rw [Bool.and_eq_true, List.all_eq_true] at h
 exact ⟨by simpa using h.1, fun i hi => h.2 i (List.mem_range.2 hi)⟩
theorem b8n : (sL 4).set 0 (L7, insS L7 ⟨[], 0⟩ a4T) = lA := by
 rw [(Y1 (s := ⟨[], 0⟩) (a5V (F := L7) (vs := a4T) (by decide +kernel))).1]; rfl
theorem b8m : lA.set 1 (F8, insS F8 ⟨[], 0⟩ a2b) = lB := by
 rw [(Y1 (s := ⟨[], 0⟩) (a5V (F := F8) (vs := a2b) (by decide +kernel))).1]; rfl
theorem b8R : a3J F8 ⟨[], 0⟩ a2b = 0 /\ a3K F8 a2b = 0 := (Y1 (s := ⟨[], 0⟩) (a5V (F := F8) (vs := a2b) (by decide +kernel))).2
theorem b7a : FmN (lB.map Prod.fst) := b3P
theorem b85 : bnd lB 1 := by
 intro j F s e
 match j with
 | 0 => cases e; decide
 | 1 => cases e; decide
 | 2 => cases e; decide
 | 3 => cases e; decide
 | j + 4 => exact absurd e (by rw [List.getElem?_eq_none (by show 4 <= j + 4; omega)]; intro h; cases h)
theorem szD {vs : List Va} (h : (vs.all fun v => decide (v.s.size < 1000000000)) = true) : ∀ i, i < vs.length -> (vs.getD i eV.d).s.size < 1000000000 := fun i hi => by
 rw [a8 hi]
 exact of_decide_eq_true (List.all_eq_true.1 h _ (List.getElem_mem hi))
theorem a9U {q k : Nat} {ps : List Nat} {l : List (Fm × Ts)} {j : Nat} {F : Fm} {s : Ts} {a b : Va} {qv : Nat} (e : l[j]? = some (F, s)) (hk : k < 70000) (hn : s.next < 65536) (hsz : ∀ i, i < [a, b].length -> ([a, b].getD i eV.d).s.size < 1000000000) : Ctr Tryz.prog nO 60 [.o (.p 1 (ps.getD j 0) 0 0 0), .o (.s 6 qv 3 0 2 2 false)] [.as (ddA q k ps l), .blk 6 qv [.i a.k, .i a.n, .t a.s, .i b.k, .i b.n, .t b.s] 26 .own] (Unit) (fun _ => True) (fun r => .t [(false, [.i (a3J F s [a, b])]), (false, [.i (a3K F [a, b])])]) (fun r => [.as (ddA q (k + 2) ps (l.set j (F, (insS F s [a, b])))), vc eV 6 qv [a, b] 26 .own false]) :=
 a3X (a0U _ (j7 (g := 6) (q := qv) (cs := [.i a.k, .i a.n, .t a.s, .i b.k, .i b.n, .t b.s]) (t := 26) (m := .own) eV [a, b])) (fun _ _ => S7 (vs := [a, b]) e hk (fun h => nomatch h) (show 2 < 1000000 by decide) hn hsz)
theorem a9T {q k : Nat} {ps : List Nat} {l : List (Fm × Ts)} {j : Nat} {F : Fm} {s : Ts} {a b c d : Va} {qv : Nat} (e : l[j]? = some (F, s)) (hk : k < 70000) (hn : s.next < 65536) (hsz : ∀ i, i < [a, b, c, d].length -> ([a, b, c, d].getD i eV.d).s.size < 1000000000) : Ctr Tryz.prog nO 60 [.o (.p 1 (ps.getD j 0) 0 0 0), .o (.s 6 qv 3 0 4 4 false)] [.as (ddA q k ps l), .blk 6 qv [.i a.k, .i a.n, .t a.s, .i b.k, .i b.n, .t b.s, .i c.k, .i c.n, .t c.s, .i d.k, .i d.n, .t d.s] 26 .own] (Unit) (fun _ => True) (fun r => .t [(false, [.i (a3J F s [a, b, c, d])]), (false, [.i (a3K F [a, b, c, d])])]) (fun r => [.as (ddA q (k + 2) ps (l.set j (F, (insS F s [a, b, c, d])))), vc eV 6 qv [a, b, c, d] 26 .own false]) :=
 a3X (a0U _ (j7 (g := 6) (q := qv) (cs := [.i a.k, .i a.n, .t a.s, .i b.k, .i b.n, .t b.s, .i c.k, .i c.n, .t c.s, .i d.k, .i d.n, .t d.s]) (t := 26) (m := .own) eV [a, b, c, d])) (fun _ _ => S7 (vs := [a, b, c, d]) e hk (fun h => nomatch h) (show 4 < 1000000 by decide) hn hsz)
theorem a5p   : K1 nO 61 [] [] (.o (.v (.bool true))) := by
 refine fs 100 fun B => g0 fun _ => cl (b0O ) [] [] 100 fun _ _ => g0 fun _ => rt trivial (()) trivial []
theorem a5h   : K1 nO 18 [] [] (.o (.v (.bool true))) := by
 refine fs 100 fun B => g0 fun _ => cl (V7 ) [] [(1, 100), (2, 101)] 102 fun ⟨q103, w103, ps103⟩ hpl => g0 fun _ => g0 fun _ => cl (z8 (q := q103) (k := 0) (ps := ps103) (l := (sL 4)) (j := 0) (s := ⟨#[108, 97, 110, 100]⟩) (by decide) (by decide +kernel)) [0] [(1, 100), (7, 102)] 103 fun _ _ => g0 fun _ => cl (z8 (q := q103) (k := 0) (ps := ps103) (l := (sL 4)) (j := 1) (s := ⟨#[115, 104, 111, 112]⟩) (by decide) (by decide +kernel)) [0] [(1, 100), (7, 103)] 104 fun _ _ => g0 fun _ => cl (a2N (q := q103) (k := 0) (ps := ps103) (l := (sL 4)) (s := ⟨#[120]⟩) (by decide +kernel)) [0] [(1, 100)] 104 fun _ _ => goN 3 (fun _ => trivial) fun _ => gh (f9 (φ := ddP ps103 (sL 4)) (L := ddL q103 0)) [0] [(1, 100), (2, 961), (3, 962)] 104 fun y hy => g0 fun _ => cl (@a04 _ q103 y.qs y.qm) [0] [(1, 100), (2, 961)] 104 fun _ _ => g0 fun _ => cdF rfl <| gh (d5 (φ := ddP ps103 (sL 4)) (L := ddL q103 0) y hy) [0, 1, 2, 3, 4, 5] [] 104 fun _ _ => g0 fun q115 => g0 fun _ => cl (z8 (q := q103) (k := 0) (ps := ps103) (l := (sL 4)) (j := 0) (s := ⟨#[108, 97, 110, 100]⟩) (by decide) (by decide +kernel)) [1] [(1, 100), (7, 105)] 106 fun _ _ => g0 fun q118 => cl (a9U (q := q103) (k := 0) (ps := ps103) (l := (sL 4)) (j := 0) (F := L7) (s := ⟨[], 0⟩) (a := a6Y) (b := ⟨2, 0, ⟨#[104, 101, 114, 101]⟩⟩) (qv := (q118 106)) (by kernel_rfl) (by decide) (by decide) (szD (by decide +kernel))) [1, 0] [(1, 105), (6, 106)] 107 fun _ _ => gh (b6 (l := [.as (ddA q103 (0 + 2) ps103 ((sL 4).set 0 (L7, (insS L7 ⟨[], 0⟩ [a6Y, ⟨2, 0, ⟨#[104, 101, 114, 101]⟩⟩]))))]) (l' := [.as (ddA q103 2 ps103 lA)]) (congrArg (fun z => [Ch.den (.as (ddA q103 2 ps103 z))]) b8n)) [0] [] 107 fun _ _ => g0 fun _ => cl (z8 (q := q103) (k := 2) (ps := ps103) (l := lA) (j := 1) (s := ⟨#[115, 104, 111, 112]⟩) (by decide) (by decide +kernel)) [0] [(1, 100), (7, 107)] 108 fun _ _ => g0 fun q122 => cl (a9T (q := q103) (k := 2) (ps := ps103) (l := lA) (j := 1) (F := F8) (s := ⟨[], 0⟩) (a := a6Y) (b := ⟨2, 0, ⟨#[120]⟩⟩) (c := a21) (d := a6Y) (qv := (q122 108)) (by kernel_rfl) (by decide) (by decide) (szD (by decide +kernel))) [1, 0] [(1, 107), (6, 108)] 109 fun _ _ => gh (b6 (l := [.as (ddA q103 (2 + 2) ps103 (lA.set 1 (F8, (insS F8 ⟨[], 0⟩ [a6Y, ⟨2, 0, ⟨#[120]⟩⟩, a21, a6Y]))))]) (l' := [.as (ddA q103 4 ps103 lB)]) (congrArg (fun z => [Ch.den (.as (ddA q103 4 ps103 z))]) b8m)) [0] [] 109 fun _ _ => g0 fun _ => sv 4 (v := .o (.i (a3J F8 ⟨[], 0⟩ [a6Y, ⟨2, 0, ⟨#[120]⟩⟩, a21, a6Y]))) (v' := .o (.i 0)) (congrArg (Value.int .i64) b8R.1) <| sv 5 (v := .o (.i (a3K F8 [a6Y, ⟨2, 0, ⟨#[120]⟩⟩, a21, a6Y]))) (v' := .o (.i 0)) (congrArg (Value.int .i64) b8R.2) <| g0 fun q125 => gh (j7 (g := 109) (q := (q125 109)) (cs := [.t ⟨#[108, 97, 110, 100]⟩, .t ⟨#[110, 97, 109, 101]⟩]) (t := 9) (m := .own) eS [⟨#[108, 97, 110, 100]⟩, ⟨#[110, 97, 109, 101]⟩]) [0] [] 110 fun _ _ => cl (Y5 (q := q103) (k := 4) (ps := ps103) (l := lB) (j := 1) (F := F8) (s := ⟨[(0, a2b)], 1⟩) (na := ⟨#[115, 104, 111, 112]⟩) (id := 0) (qp := (q125 109)) (cp := 2) (zp := false) (pp := [⟨#[108, 97, 110, 100]⟩, ⟨#[110, 97, 109, 101]⟩]) (mp := .own) (by kernel_rfl) (by decide) (by decide +kernel) b7a (fun h => nomatch h) (by decide) (Nat.le_refl _)) [1, 0] [(1, 100), (5, 109)] 110 fun _ _ => g0 fun q127 => g0 fun q128 => gh (j7 (g := 111) (q := (q128 111)) (cs := [.t ⟨#[122, 111, 110, 101]⟩]) (t := 9) (m := .own) eS [⟨#[122, 111, 110, 101]⟩]) [0] [] 112 fun _ _ => cl (Y5 (q := q103) (k := 4) (ps := ps103) (l := lB) (j := 1) (F := F8) (s := ⟨[(0, a2b)], 1⟩) (na := ⟨#[115, 104, 111, 112]⟩) (id := 0) (qp := (q128 111)) (cp := 1) (zp := false) (pp := [⟨#[122, 111, 110, 101]⟩]) (mp := .own) (by kernel_rfl) (by decide) (by decide +kernel) b7a (fun h => nomatch h) (by decide) (Nat.le_refl _)) [2, 0] [(1, 100), (5, 111)] 112 fun _ _ => g0 fun q130 => g0 fun q131 => gh (j7 (g := 113) (q := (q131 113)) (cs := [.t ⟨#[122, 111, 110, 101]⟩]) (t := 9) (m := .own) eS [⟨#[122, 111, 110, 101]⟩]) [0] [] 114 fun _ _ => cl (Y5 (q := q103) (k := 4) (ps := ps103) (l := lB) (j := 1) (F := F8) (s := ⟨[(0, a2b)], 1⟩) (na := ⟨#[115, 104, 111, 112]⟩) (id := 9) (qp := (q131 113)) (cp := 1) (zp := false) (pp := [⟨#[122, 111, 110, 101]⟩]) (mp := .own) (by kernel_rfl) (by decide) (by decide +kernel) b7a (fun h => nomatch h) (by decide) (Nat.le_refl _)) [2, 0] [(1, 100), (5, 113)] 114 fun _ _ => g0 fun q133 => g0 fun _ => cl (a1U (q := q103) (k := 4) (ps := ps103) (l := lB) (j := 0) (F := L7) (s := ⟨[(0, a4T)], 1⟩) (na := ⟨#[108, 97, 110, 100]⟩) (v := (⟨1, 1, ⟨#[]⟩⟩ : Va)) (by kernel_rfl) (by decide) (by decide +kernel) (b7a.key (by kernel_rfl : lB[0]? = some (L7, ⟨[(0, a4T)], 1⟩)))) [1] [(1, 100)] 115 fun _ _ => g0 fun _ => cl (a5p ) [] [] 115 fun _ _ => goN 1 (fun _ => trivial) fun _ => goN 4 (fun _ => trivial) fun _ => sv 89 (v := .o (.cb ((0 : Int) == 0))) (v' := .o (.v (.bool true))) (congrArg Value.bool (by decide +kernel)) <| goN 3 (fun _ => trivial) fun _ => sv 92 (v := .o (.cb ((Q4 lB ⟨#[115, 104, 111, 112]⟩ 0 [⟨#[108, 97, 110, 100]⟩, ⟨#[110, 97, 109, 101]⟩]).2))) (v' := .o (.v (.bool true))) (congrArg Value.bool (by decide +kernel)) <| goN 5 (fun _ => trivial) fun _ => sv 97 (v := .o (.cb (a7 ((Q4 lB ⟨#[115, 104, 111, 112]⟩ 0 [⟨#[108, 97, 110, 100]⟩, ⟨#[110, 97, 109, 101]⟩]).1.s) ⟨#[104, 101, 114, 101]⟩))) (v' := .o (.v (.bool true))) (congrArg Value.bool (by decide +kernel)) <| goN 3 (fun _ => trivial) fun _ => sv 100 (v := .o (.cb ((Q4 lB ⟨#[115, 104, 111, 112]⟩ 0 [⟨#[122, 111, 110, 101]⟩]).2))) (v' := .o (.v (.bool true))) (congrArg Value.bool (by decide +kernel)) <| goN 5 (fun _ => trivial) fun _ => sv 105 (v := .o (.cb ((Q4 lB ⟨#[115, 104, 111, 112]⟩ 0 [⟨#[122, 111, 110, 101]⟩]).1.k == 0))) (v' := .o (.v (.bool true))) (congrArg Value.bool (by decide +kernel)) <| goN 4 (fun _ => trivial) fun _ => sv 109 (v := .o (.cb (!((Q4 lB ⟨#[115, 104, 111, 112]⟩ 9 [⟨#[122, 111, 110, 101]⟩]).2)))) (v' := .o (.v (.bool true))) (congrArg Value.bool (by decide +kernel)) <| goN 4 (fun _ => trivial) fun _ => sv 113 (v := .o (.cb ((bkI L7 ⟨[(0, a4T)], 1⟩ (⟨1, 1, ⟨#[]⟩⟩ : Va)) == 0))) (v' := .o (.v (.bool true))) (congrArg Value.bool (by decide +kernel)) <| goN 3 (fun _ => trivial) fun _ => sv 116 (v := .o (.cb (bkB L7 ⟨[(0, a4T)], 1⟩ (⟨1, 1, ⟨#[]⟩⟩ : Va)))) (v' := .o (.v (.bool true))) (congrArg Value.bool (by decide +kernel)) <| g0 fun _ => cl (a7h (q := q103) (k := 4) (ps := ps103) (l := lB) (n := 1) (by decide) b85 (by decide) b7a) [0] [(1, 100), (11, 115)] 116 fun ⟨q2149, ps2149⟩ h149 => g0 fun _ => rt trivial (()) trivial []
theorem a5o   : K1 nO 95 [] [] (.o (.v (.bool true))) := by
 refine fs 100 fun B => g0 fun _ => cl (a5h ) [] [] 100 fun _ _ => g0 fun _ => rt trivial (()) trivial []
end Go.Proofs.YtagidoadfajpgaaGreat
namespace Go.Proofs.YtagidoadfajpgaaGreat
open Go.Abs
variable {nO : Nat}
set_option maxRecDepth 100000
attribute [local irreducible] GP ruP ruN nxP acS gst cdP loP j6 m9 m8 enP caA n5 lgP agN
theorem b7T {n : Nat} : bnd (sL 4) n := by
 intro j F s e
 match j with
 | 0 => cases e; exact ⟨Nat.zero_le _, Nat.zero_le _⟩
 | 1 => cases e; exact ⟨Nat.zero_le _, Nat.zero_le _⟩
 | 2 => cases e; exact ⟨Nat.zero_le _, Nat.zero_le _⟩
 | 3 => cases e; exact ⟨Nat.zero_le _, Nat.zero_le _⟩
 | j + 4 => exact absurd e (by rw [List.getElem?_eq_none (by show 4 <= j + 4; omega)]; intro h; cases h)
theorem b8u {α : Type} (a : α) : ∃ b, a = b := ⟨a, rfl⟩
theorem a2l {xs ys : List Oq} {n : Nat} (h : b8 ys = b1g (b8 xs) n) : ys.length <= n := by
 have e := congrArg List.length h
 unfold b8 b1g at e
 rw [List.length_map, List.length_map, List.length_take] at e
 omega
structure stP (u : List (Fm × Ts)) (n : Nat) : Prop where
 fs : u.map Prod.fst = I8
 b : bnd u n
theorem stP.N {u : List (Fm × Ts)} {n : Nat} (h : stP u n) : FmN (u.map Prod.fst) := by rw [h.fs]; exact b3P
theorem stP.l {u : List (Fm × Ts)} {n : Nat} (h : stP u n) : u.length = 4 := by have := congrArg List.length h.fs; rw [List.length_map] at this; exact this
theorem st0 {n : Nat} : stP (sL 4) n := ⟨b8b, b7T⟩
theorem stP.fill {u : List (Fm × Ts)} {n m : Nat} {xs : List Oq} (h : stP u n) (hm : n + xs.length <= m) : stP (fillL u (b8 xs)) m := ⟨b2W.trans h.fs, fun j F s e => by
 have := b3s h.b (ops := b8 xs) j F s e
 unfold b8 at this; rw [List.length_map] at this; omega⟩
theorem stP.mo {u : List (Fm × Ts)} {n m : Nat} (h : stP u n) (hm : n <= m) : stP u m := ⟨h.fs, fun j F s e => by have := h.b j F s e; omega⟩
end Go.Proofs.YtagidoadfajpgaaGreat
namespace Go.Proofs.YtagidoadfajpgaaGreat
set_option maxHeartbeats 4000000
open Go.Abs
variable {nO : Nat}
set_option maxRecDepth 100000
attribute [local irreducible] GP ruP ruN nxP acS gst cdP loP j6 m9 m8 enP caA n5 lgP agN
structure Flt where
 e : Int
 a : Int
 t : ByteArray
 r : Int
 c : ByteArray
def okF : Flt := ⟨0, 0, ⟨#[]⟩, 0, ⟨#[]⟩⟩
def i9 (o : Opn) : Prop := (o.kind ≠ 1 /\ o.kind ≠ 2 /\ o.kind ≠ 3) ∨ (o.kind = 3 /\ o.vs.length ≠ 1)
open Classical in
noncomputable def y7 (m : Int) (l : List (Fm × Ts)) (o : Opn) : Int × Int := if i9 o then (m, 1) else if tix l o.tab = -1 then (m, 3) else
 if o.kind = 1 then (a3J (l.getD (tix l o.tab).toNat dFT).1 (l.getD (tix l o.tab).toNat dFT).2 o.vs, a3K (l.getD (tix l o.tab).toNat dFT).1 o.vs) else
 if o.kind = 3 then (m, a2Y (l.getD (tix l o.tab).toNat dFT).1 (l.getD (tix l o.tab).toNat dFT).2 o.id o.col (o.vs.getD 0 eV.d)) else
 if (l.getD (tix l o.tab).toNat dFT).2.is o.id = true then (m, 0) else (m, 6)
open Classical in
noncomputable def s6 (l : List (Fm × Ts)) (o : Opn) : List (Fm × Ts) := if i9 o then l else opL l o
section
variable {l : List (Fm × Ts)} {o : Opn} {j : Nat} {F : Fm} {s : Ts} {m : Int}
theorem N4 (h : i9 o) : y7 m l o = (m, 1) /\ s6 l o = l := ⟨if_pos h, if_pos h⟩
theorem a3y (h : ¬ i9 o) (hn : tix l o.tab = -1) : y7 m l o = (m, 3) /\ s6 l o = l := ⟨(if_neg h).trans (if_pos hn), (if_neg h).trans (b2g hn)⟩
theorem a9a (h : ¬ i9 o) (e : l[j]? = some (F, s)) (hx : tix l o.tab = (j : Int)) : y7 m l o = (if o.kind = 1 then (a3J F s o.vs, a3K F o.vs) else if o.kind = 3 then (m, a2Y F s o.id o.col (o.vs.getD 0 eV.d)) else if s.is o.id = true then (m, 0) else (m, 6)) /\ s6 l o = l.set j (F, opT F s o) := by
 refine ⟨?_, (if_neg h).trans (a4L hx e)⟩
 unfold y7
 rw [if_neg h, if_neg (by rw [hx]; omega), b2Q e hx]
theorem a2n (h : ¬ i9 o) (e : l[j]? = some (F, s)) (hx : tix l o.tab = (j : Int)) (k : o.kind = 1) : y7 m l o = (a3J F s o.vs, a3K F o.vs) /\ s6 l o = l.set j (F, insS F s o.vs) := by
 obtain ⟨h1, h2⟩ := a9a (m := m) h e hx
 rw [h1, h2, if_pos k, a87 k]; exact ⟨rfl, rfl⟩
theorem a2m (h : ¬ i9 o) (e : l[j]? = some (F, s)) (hx : tix l o.tab = (j : Int)) (k : o.kind = 3) (hl : o.vs.length = 1) : y7 m l o = (m, a2Y F s o.id o.col (o.vs.getD 0 eV.d)) /\ s6 l o = l.set j (F, a0g F s o.id o.col (o.vs.getD 0 eV.d)) := by
 obtain ⟨h1, h2⟩ := a9a (m := m) h e hx
 rw [h1, h2, if_neg (by omega), if_pos k, a86 (by omega) (by omega) hl]; exact ⟨rfl, rfl⟩
theorem L5 (h : ¬ i9 o) (e : l[j]? = some (F, s)) (hx : tix l o.tab = (j : Int)) (k : o.kind = 2) : y7 m l o = (if s.is o.id = true then (m, 0) else (m, 6)) /\ s6 l o = l.set j (F, a1l s o.id) := by
 obtain ⟨h1, h2⟩ := a9a (m := m) h e hx
 rw [h1, h2, if_neg (by omega), if_neg (by omega), a88 k]; exact ⟨rfl, rfl⟩
theorem Y9 {n : Nat} (h : bnd l n) : bnd (s6 l o) (n + 1) := by
 unfold s6; split
 ·intro j F s e; have := h j F s e; omega
 ·exact a1b h
theorem a89 : (s6 l o).map Prod.fst = l.map Prod.fst := by
 unfold s6; split
 ·rfl
 ·exact b3Y
theorem a4M (m' : Int) : (y7 m l o).2 = (y7 m' l o).2 /\ (o.kind = 1 -> (y7 m l o).2 = 0 -> (y7 m l o).1 = (y7 m' l o).1) := by
 unfold y7
 split
 ·exact ⟨rfl, fun _ h => nomatch h⟩
 split
 ·exact ⟨rfl, fun _ h => nomatch h⟩
 split
 ·exact ⟨rfl, fun _ _ => rfl⟩
 split
 ·exact ⟨rfl, fun h => by omega⟩
 split
 ·exact ⟨rfl, fun h => by omega⟩
 ·exact ⟨rfl, fun h => by omega⟩
end
noncomputable def a1z (l : List (Fm × Ts)) : List Opn -> Nat -> List Int -> List Int × Flt × List (Fm × Ts)
 | [], _, ids => (ids, okF, l)
 | o :: ops, i, ids => if (y7 0 l o).2 = 0 then a1z (s6 l o) ops (i + 1) (if o.kind = 1 then ids ++ [(y7 0 l o).1] else ids) else ([], ⟨(y7 0 l o).2, (i : Int), o.tab, 0, ⟨#[]⟩⟩, s6 l o)
noncomputable def appL (l : List (Fm × Ts)) (ops : List Opn) : List Int × Flt × List (Fm × Ts) := if ops.length = 0 ∨ 40 < ops.length then ([], ⟨5, 0, ⟨#[]⟩, 0, ⟨#[]⟩⟩, l) else a1z l ops 0 []
noncomputable abbrev a1y (l : List (Fm × Ts)) (ops : List Opn) : List (Fm × Ts) := (appL l ops).2.2
section
variable {l u : List (Fm × Ts)} {ops : List Opn} {o : Opn} {xs : List Oq} {i n : Nat} {ids : List Int}
theorem a9e (h : i < xs.length) : (b8 xs).drop i = (xs.getD i dOq).o :: (b8 xs).drop (i + 1) := by
 have h2 : i < (b8 xs).length := by unfold b8; rw [List.length_map]; exact h
 rw [List.drop_eq_getElem_cons h2, a8 h]; exact congrArg (· :: _) (List.getElem_map ..)
theorem b6Y (h : i = xs.length) : (b8 xs).drop i = [] := List.drop_of_length_le (by unfold b8; rw [List.length_map]; omega)
theorem a6A (m : Int) (h : i < xs.length) (e : (y7 m u (xs.getD i dOq).o).2 ≠ 0) : a1z u ((b8 xs).drop i) i ids = ([], ⟨(y7 m u (xs.getD i dOq).o).2, (i : Int), (xs.getD i dOq).o.tab, 0, ⟨#[]⟩⟩, s6 u (xs.getD i dOq).o) := by
 rw [(a4M 0).1] at e ⊢
 rw [a9e h]; exact if_neg e
theorem a2T (m : Int) (h : i < xs.length) (e : (y7 m u (xs.getD i dOq).o).2 = 0) : a1z u ((b8 xs).drop i) i ids = a1z (s6 u (xs.getD i dOq).o) ((b8 xs).drop (i + 1)) (i + 1) (if (xs.getD i dOq).o.kind = 1 then ids ++ [(y7 m u (xs.getD i dOq).o).1] else ids) := by
 have e0 := e
 rw [(a4M 0).1] at e
 rw [a9e h]
 refine (if_pos e).trans ?_
 by_cases k : (xs.getD i dOq).o.kind = 1
 ·rw [if_pos k, if_pos k, (a4M 0).2 k e0]
 ·rw [if_neg k, if_neg k]
theorem a6z (h : i = xs.length) : a1z u ((b8 xs).drop i) i ids = (ids, okF, u) := by rw [b6Y h]; rfl
theorem b51 (h : bnd l n) : bnd (a1z l ops i ids).2.2 (n + ops.length) := by
 induction ops generalizing l n i ids with
 | nil => exact h
 | cons o ops ih =>
  unfold a1z
  split
  ·have := ih (i := i + 1) (ids := if o.kind = 1 then ids ++ [(y7 0 l o).1] else ids) (Y9 (o := o) h)
   rwa [List.length_cons, show n + (ops.length + 1) = n + 1 + ops.length by omega]
  ·intro j F s e
   have := Y9 h j F s e
   rw [List.length_cons]; omega
theorem b50 : (a1z l ops i ids).2.2.map Prod.fst = l.map Prod.fst := by
 induction ops generalizing l i ids with
 | nil => rfl
 | cons o ops ih =>
  unfold a1z
  split
  ·exact ih.trans a89
  ·exact a89
theorem stP.app {m : Nat} (h : stP l n) (hm : n + ops.length <= m) : stP (appL l ops).2.2 m := by
 unfold appL
 split
 ·exact h.mo (by omega)
 ·exact ⟨b50.trans h.fs, fun j F s e => by have := b51 h.b j F s e; omega⟩
end
theorem G0 {a b c d : Int} (h : (a, b) = (c, d)) : SV.den (.t [(false, [.i a]), (false, [.i b])]) = SV.den (.t [(false, [.i c]), (false, [.i d])]) := by
 cases h; rfl
theorem b43 {q k : Nat} {ps : List Nat} {l : List (Fm × Ts)} {n : Nat} {o : Opn} {qv cv : Nat} {zv : Bool} {tv : TypeId} {mv : Md} (hk : k < 70000) (hB : bnd l n) (hn : n < 60000) (hzv : zv = true -> o.vs.length = 0) (hlv : o.vs.length < 1000000) (hsz : ∀ i, i < o.vs.length -> (o.vs.getD i eV.d).s.size < 1000000000) : Ctr Tryz.prog nO 96 [.o (.p 1 q 0 0 0), .a [.i o.kind, .t o.tab, .i o.id, .t o.col, .s 6 qv 3 0 o.vs.length cv zv]] [.as (ddA q k ps l), vc eV 6 qv o.vs tv mv zv] (Unit) (fun _ => True) (fun r => .t [(false, [.i ((y7 (-1) l o).1)]), (false, [.i ((y7 (-1) l o).2)])]) (fun r => [.as (ddA q (k + 2) ps (s6 l o)), vc eV 6 qv o.vs tv mv zv]) := by
 refine fs 100 fun B => g0 (fun q101 => ?_)
 rcases F6 (l := l) (s := o.tab) with hx | ⟨j, F, s, e, hx⟩
 ·refine g0 fun _ => cl (a2N (q := q) (k := k) (ps := ps) (l := l) (s := o.tab) hx) [1] [] 101 fun _ _ => g0 fun _ => g0 fun _ => cd (and (and (o.kind != 1) (o.kind != 2)) (o.kind != 3)) (fun h1 => ?_) (fun h1 => ?_)
  ·have h1 : ((o.kind ≠ 1) /\ (o.kind ≠ 2)) /\ (o.kind ≠ 3) := by simpa using h1
   have hf : i9 o := by unfold i9; omega
   refine cd (and (and (o.kind != 1) (o.kind != 2)) (o.kind != 3)) (fun h2 => ?_) (fun h2 => ?_)
   ·have h2 : ((o.kind ≠ 1) /\ (o.kind ≠ 2)) /\ (o.kind ≠ 3) := by simpa using h2
    have hf : i9 o := by unfold i9; omega
    refine g0 fun _ => ?_
    have hR := N4 (m := -1) (l := l) hf
    refine gh (b6 (l := [.as (ddA q k ps l)]) (l' := [.as (ddA q k ps (s6 l o))]) (congrArg (fun z => [Ch.den (.as (ddA q k ps z))]) hR.2.symm)) [0] [] 101 fun _ _ => gh (n7 (q := q) (k := k) (k' := k + 2) (ps := ps) (l := s6 l o) (E := []) (by omega)) [0] [] 101 fun _ _ => rtv trivial (()) trivial [0, 2] (.t [(false, [.i (-1)]), (false, [.i 1])]) (G0 hR.1.symm)
   ·have h2 : ¬ (((o.kind ≠ 1) /\ (o.kind ≠ 2)) /\ (o.kind ≠ 3)) := by simpa using h2
    have hf : ¬ i9 o := by unfold i9; omega
    refine g0 fun _ => cdT rfl <| g0 fun _ => ?_
    have hR := a3y (m := -1) hf hx
    refine gh (b6 (l := [.as (ddA q k ps l)]) (l' := [.as (ddA q k ps (s6 l o))]) (congrArg (fun z => [Ch.den (.as (ddA q k ps z))]) hR.2.symm)) [0] [] 101 fun _ _ => gh (n7 (q := q) (k := k) (k' := k + 2) (ps := ps) (l := s6 l o) (E := []) (by omega)) [0] [] 101 fun _ _ => rtv trivial (()) trivial [0, 2] (.t [(false, [.i (-1)]), (false, [.i 3])]) (G0 hR.1.symm)
  ·have h1 : ¬ (((o.kind ≠ 1) /\ (o.kind ≠ 2)) /\ (o.kind ≠ 3)) := by simpa using h1
   refine g0 fun _ => cd (and (o.kind == 3) ((o.vs.length : Int) != 1)) (fun h2 => ?_) (fun h2 => ?_)
   ·have h2 : (o.kind = 3) /\ ((o.vs.length : Int) ≠ 1) := by simpa using h2
    have hf : i9 o := by unfold i9; omega
    refine g0 fun _ => ?_
    have hR := N4 (m := -1) (l := l) hf
    refine gh (b6 (l := [.as (ddA q k ps l)]) (l' := [.as (ddA q k ps (s6 l o))]) (congrArg (fun z => [Ch.den (.as (ddA q k ps z))]) hR.2.symm)) [0] [] 101 fun _ _ => gh (n7 (q := q) (k := k) (k' := k + 2) (ps := ps) (l := s6 l o) (E := []) (by omega)) [0] [] 101 fun _ _ => rtv trivial (()) trivial [0, 2] (.t [(false, [.i (-1)]), (false, [.i 1])]) (G0 hR.1.symm)
   ·have h2 : ¬ ((o.kind = 3) /\ ((o.vs.length : Int) ≠ 1)) := by simpa using h2
    have hf : ¬ i9 o := by unfold i9; omega
    refine g0 fun _ => cdT rfl <| g0 fun _ => ?_
    have hR := a3y (m := -1) hf hx
    refine gh (b6 (l := [.as (ddA q k ps l)]) (l' := [.as (ddA q k ps (s6 l o))]) (congrArg (fun z => [Ch.den (.as (ddA q k ps z))]) hR.2.symm)) [0] [] 101 fun _ _ => gh (n7 (q := q) (k := k) (k' := k + 2) (ps := ps) (l := s6 l o) (E := []) (by omega)) [0] [] 101 fun _ _ => rtv trivial (()) trivial [0, 2] (.t [(false, [.i (-1)]), (false, [.i 3])]) (G0 hR.1.symm)
 ·have hb := hB j F s e
  refine g0 fun _ => cl (z8 (q := q) (k := k) (ps := ps) (l := l) (j := j) (s := o.tab) (List.getElem?_eq_some_iff.1 e).1 hx) [1] [(7, 101)] 102 fun _ _ => ?_
  refine g0 fun _ => g0 fun _ => cd (and (and (o.kind != 1) (o.kind != 2)) (o.kind != 3)) (fun h1 => ?_) (fun h1 => ?_)
  ·have h1 : ((o.kind ≠ 1) /\ (o.kind ≠ 2)) /\ (o.kind ≠ 3) := by simpa using h1
   have hf : i9 o := by unfold i9; omega
   refine cd (and (and (o.kind != 1) (o.kind != 2)) (o.kind != 3)) (fun h2 => ?_) (fun h2 => ?_)
   ·have h2 : ((o.kind ≠ 1) /\ (o.kind ≠ 2)) /\ (o.kind ≠ 3) := by simpa using h2
    have hf : i9 o := by unfold i9; omega
    refine g0 fun _ => ?_
    have hR := N4 (m := -1) (l := l) hf
    refine gh (b6 (l := [.as (ddA q k ps l)]) (l' := [.as (ddA q k ps (s6 l o))]) (congrArg (fun z => [Ch.den (.as (ddA q k ps z))]) hR.2.symm)) [0] [] 102 fun _ _ => gh (n7 (q := q) (k := k) (k' := k + 2) (ps := ps) (l := s6 l o) (E := []) (by omega)) [0] [] 102 fun _ _ => rtv trivial (()) trivial [0, 2] (.t [(false, [.i (-1)]), (false, [.i 1])]) (G0 hR.1.symm)
   ·have h2 : ¬ (((o.kind ≠ 1) /\ (o.kind ≠ 2)) /\ (o.kind ≠ 3)) := by simpa using h2
    have hf : ¬ i9 o := by unfold i9; omega
    refine g0 fun _ => cdF rfl <| g0 fun _ => cdE o.kind 1 (fun h4 => ?_) (fun h4 => ?_)
    ·refine g0 fun _ => cl (@S7 _ q k ps l j F s qv cv zv o.vs tv mv (by assumption) (by omega) hzv hlv (by omega) hsz) [0, 2] [(1, 101)] 102 fun _ _ => g0 fun _ => ?_
     have hR := a2n (m := -1) hf e hx h4
     refine gh (b6 (l := [.as (ddA q (k + 2) ps (l.set j (F, (insS F s o.vs))))]) (l' := [.as (ddA q (k + 2) ps (s6 l o))]) (congrArg (fun z => [Ch.den (.as (ddA q (k + 2) ps z))]) hR.2.symm)) [0] [] 102 fun _ _ => rtv trivial (()) trivial [0, 1] (.t [(false, [.i (a3J F s o.vs)]), (false, [.i (a3K F o.vs)])]) (G0 hR.1.symm)
    ·refine g0 fun _ => cdE o.kind 3 (fun h5 => ?_) (fun h5 => ?_)
     ·have hl1 : o.vs.length = 1 := by unfold i9 at hf; omega
      refine go (fun _ => (o4 (by omega : (0 : Int) <= 0) (by omega : (0 : Int) < (o.vs.length : Int)) (zf hzv (show 0 < o.vs.length by omega) : zv = false) (by omega : 0 < o.vs.length))) fun _ => cl (@a2E _ q k ps l j F s o.id o.col (o.vs.getD 0 eV.d) (by assumption) (by omega) (hsz 0 (by omega))) [0] [(1, 101)] 102 fun _ _ => g0 fun _ => ?_
      have hR := a2m (m := -1) hf e hx h5 hl1
      refine gh (b6 (l := [.as (ddA q (k + 2) ps (l.set j (F, (a0g F s o.id o.col (o.vs.getD 0 eV.d)))))]) (l' := [.as (ddA q (k + 2) ps (s6 l o))]) (congrArg (fun z => [Ch.den (.as (ddA q (k + 2) ps z))]) hR.2.symm)) [0] [] 102 fun _ _ => rtv trivial (()) trivial [0, 2] (.t [(false, [.i (-1)]), (false, [.i (a2Y F s o.id o.col (o.vs.getD 0 eV.d))])]) (G0 hR.1.symm)
     ·refine g0 fun _ => cl (@a2J _ q k ps l j F s o.id (by assumption) (by omega) (by omega)) [0] [(1, 101)] 102 fun _ _ => g0 fun _ => cd (!(s.is o.id)) (fun h6 => ?_) (fun h6 => ?_)
      ·refine g0 fun _ => ?_
       have hR0 := L5 (m := -1) hf e hx (by unfold i9 at hf; omega)
       have h6b : s.is o.id ≠ true := by simpa using h6
       have hR := (⟨hR0.1.trans (if_neg h6b), hR0.2⟩ : y7 (-1) l o = (-1, 6) /\ _)
       refine gh (b6 (l := [.as (ddA q (k + 2) ps (l.set j (F, (a1l s o.id))))]) (l' := [.as (ddA q (k + 2) ps (s6 l o))]) (congrArg (fun z => [Ch.den (.as (ddA q (k + 2) ps z))]) hR.2.symm)) [0] [] 102 fun _ _ => rtv trivial (()) trivial [0, 2] (.t [(false, [.i (-1)]), (false, [.i 6])]) (G0 hR.1.symm)
      ·refine g0 fun _ => ?_
       have hR0 := L5 (m := -1) hf e hx (by unfold i9 at hf; omega)
       have h6b : s.is o.id = true := by simpa using h6
       have hR := (⟨hR0.1.trans (if_pos h6b), hR0.2⟩ : y7 (-1) l o = (-1, 0) /\ _)
       refine gh (b6 (l := [.as (ddA q (k + 2) ps (l.set j (F, (a1l s o.id))))]) (l' := [.as (ddA q (k + 2) ps (s6 l o))]) (congrArg (fun z => [Ch.den (.as (ddA q (k + 2) ps z))]) hR.2.symm)) [0] [] 102 fun _ _ => rtv trivial (()) trivial [0, 2] (.t [(false, [.i (-1)]), (false, [.i 0])]) (G0 hR.1.symm)
  ·have h1 : ¬ (((o.kind ≠ 1) /\ (o.kind ≠ 2)) /\ (o.kind ≠ 3)) := by simpa using h1
   refine g0 fun _ => cd (and (o.kind == 3) ((o.vs.length : Int) != 1)) (fun h2 => ?_) (fun h2 => ?_)
   ·have h2 : (o.kind = 3) /\ ((o.vs.length : Int) ≠ 1) := by simpa using h2
    have hf : i9 o := by unfold i9; omega
    refine g0 fun _ => ?_
    have hR := N4 (m := -1) (l := l) hf
    refine gh (b6 (l := [.as (ddA q k ps l)]) (l' := [.as (ddA q k ps (s6 l o))]) (congrArg (fun z => [Ch.den (.as (ddA q k ps z))]) hR.2.symm)) [0] [] 102 fun _ _ => gh (n7 (q := q) (k := k) (k' := k + 2) (ps := ps) (l := s6 l o) (E := []) (by omega)) [0] [] 102 fun _ _ => rtv trivial (()) trivial [0, 2] (.t [(false, [.i (-1)]), (false, [.i 1])]) (G0 hR.1.symm)
   ·have h2 : ¬ ((o.kind = 3) /\ ((o.vs.length : Int) ≠ 1)) := by simpa using h2
    have hf : ¬ i9 o := by unfold i9; omega
    refine g0 fun _ => cdF rfl <| g0 fun _ => cdE o.kind 1 (fun h4 => ?_) (fun h4 => ?_)
    ·refine g0 fun _ => cl (@S7 _ q k ps l j F s qv cv zv o.vs tv mv (by assumption) (by omega) hzv hlv (by omega) hsz) [0, 2] [(1, 101)] 102 fun _ _ => g0 fun _ => ?_
     have hR := a2n (m := -1) hf e hx h4
     refine gh (b6 (l := [.as (ddA q (k + 2) ps (l.set j (F, (insS F s o.vs))))]) (l' := [.as (ddA q (k + 2) ps (s6 l o))]) (congrArg (fun z => [Ch.den (.as (ddA q (k + 2) ps z))]) hR.2.symm)) [0] [] 102 fun _ _ => rtv trivial (()) trivial [0, 1] (.t [(false, [.i (a3J F s o.vs)]), (false, [.i (a3K F o.vs)])]) (G0 hR.1.symm)
    ·refine g0 fun _ => cdE o.kind 3 (fun h5 => ?_) (fun h5 => ?_)
     ·have hl1 : o.vs.length = 1 := by unfold i9 at hf; omega
      refine go (fun _ => (o4 (by omega : (0 : Int) <= 0) (by omega : (0 : Int) < (o.vs.length : Int)) (zf hzv (show 0 < o.vs.length by omega) : zv = false) (by omega : 0 < o.vs.length))) fun _ => cl (@a2E _ q k ps l j F s o.id o.col (o.vs.getD 0 eV.d) (by assumption) (by omega) (hsz 0 (by omega))) [0] [(1, 101)] 102 fun _ _ => g0 fun _ => ?_
      have hR := a2m (m := -1) hf e hx h5 hl1
      refine gh (b6 (l := [.as (ddA q (k + 2) ps (l.set j (F, (a0g F s o.id o.col (o.vs.getD 0 eV.d)))))]) (l' := [.as (ddA q (k + 2) ps (s6 l o))]) (congrArg (fun z => [Ch.den (.as (ddA q (k + 2) ps z))]) hR.2.symm)) [0] [] 102 fun _ _ => rtv trivial (()) trivial [0, 2] (.t [(false, [.i (-1)]), (false, [.i (a2Y F s o.id o.col (o.vs.getD 0 eV.d))])]) (G0 hR.1.symm)
     ·refine g0 fun _ => cl (@a2J _ q k ps l j F s o.id (by assumption) (by omega) (by omega)) [0] [(1, 101)] 102 fun _ _ => g0 fun _ => cd (!(s.is o.id)) (fun h6 => ?_) (fun h6 => ?_)
      ·refine g0 fun _ => ?_
       have hR0 := L5 (m := -1) hf e hx (by unfold i9 at hf; omega)
       have h6b : s.is o.id ≠ true := by simpa using h6
       have hR := (⟨hR0.1.trans (if_neg h6b), hR0.2⟩ : y7 (-1) l o = (-1, 6) /\ _)
       refine gh (b6 (l := [.as (ddA q (k + 2) ps (l.set j (F, (a1l s o.id))))]) (l' := [.as (ddA q (k + 2) ps (s6 l o))]) (congrArg (fun z => [Ch.den (.as (ddA q (k + 2) ps z))]) hR.2.symm)) [0] [] 102 fun _ _ => rtv trivial (()) trivial [0, 2] (.t [(false, [.i (-1)]), (false, [.i 6])]) (G0 hR.1.symm)
      ·refine g0 fun _ => ?_
       have hR0 := L5 (m := -1) hf e hx (by unfold i9 at hf; omega)
       have h6b : s.is o.id = true := by simpa using h6
       have hR := (⟨hR0.1.trans (if_pos h6b), hR0.2⟩ : y7 (-1) l o = (-1, 0) /\ _)
       refine gh (b6 (l := [.as (ddA q (k + 2) ps (l.set j (F, (a1l s o.id))))]) (l' := [.as (ddA q (k + 2) ps (s6 l o))]) (congrArg (fun z => [Ch.den (.as (ddA q (k + 2) ps z))]) hR.2.symm)) [0] [] 102 fun _ _ => rtv trivial (()) trivial [0, 2] (.t [(false, [.i (-1)]), (false, [.i 0])]) (G0 hR.1.symm)
end Go.Proofs.YtagidoadfajpgaaGreat
open List (length_append length_cons length_nil length_map)
namespace Go.Proofs.YtagidoadfajpgaaGreat
set_option maxHeartbeats 4000000
open Go.Abs
variable {nO : Nat}
set_option maxRecDepth 100000
attribute [local irreducible] GP ruP ruN nxP acS gst cdP loP j6 m9 m8 enP caA n5 lgP agN
theorem b11 {q : Nat} {l : List (Fm × Ts)} {n : Nat} {o : Opn} {qv cv : Nat} {zv : Bool} {tv : TypeId} {mv : Md} (hB : bnd l n) (hn : n < 60000) (hzv : zv = true -> o.vs.length = 0) (hlv : o.vs.length < 1000000) (hsz : ∀ i, i < o.vs.length -> (o.vs.getD i eV.d).s.size < 1000000000) : Ctr Tryz.prog nO 97 [.o (.p 1 q 0 0 0), .a [.i o.kind, .t o.tab, .i o.id, .t o.col, .s 6 qv 3 0 o.vs.length cv zv]] [.as (dbA q l), vc eV 6 qv o.vs tv mv zv] (Unit) (fun _ => True) (fun r => .t [(false, [.i ((y7 0 l o).1)]), (false, [.i ((y7 0 l o).2)])]) (fun r => [.as (dbA q (s6 l o)), vc eV 6 qv o.vs tv mv zv]) := by
 refine fs 100 fun B => g0 (fun q101 => ?_)
 rcases (by omega : (o.kind < 1 ∨ 3 < o.kind) ∨ o.kind = 1 ∨ o.kind = 2 ∨ o.kind = 3) with hk | hk | hk | hk
 ·refine goN 9 (fun _ => trivial) fun _ => sv 15 (v := .o (.cb (or (decide (o.kind < 1)) (decide (o.kind > 3))))) (v' := .o (.v (.bool true))) (congrArg Value.bool (by simp only [Bool.or_eq_true, decide_eq_true_eq]; omega)) <| goN 4 (fun _ => trivial) fun _ => g0 fun _ => cdT rfl <| g0 fun _ => ?_
  have hf : i9 o := by unfold i9; omega
  have hR := N4 (m := 0) (l := l) hf
  refine gh (b6 (l := [.as (dbA q l)]) (l' := [.as (dbA q (s6 l o))]) (congrArg (fun z => [Ch.den (.as (dbA q z))]) hR.2.symm)) [1] [] 101 fun _ _ => rtv trivial (()) trivial [0, 2] (.t [(false, [.i 0]), (false, [.i 1])]) (G0 hR.1.symm)
 ·refine goN 9 (fun _ => trivial) fun _ => sv 15 (v := .o (.cb (or (decide (o.kind < 1)) (decide (o.kind > 3))))) (v' := .o (.v (.bool false))) (congrArg Value.bool (by simp only [Bool.or_eq_false_iff, decide_eq_false_iff_not]; omega)) <| goN 4 (fun _ => trivial) fun _ => sv 19 (v := .o (.cb (o.kind == 3))) (v' := .o (.v (.bool false))) (congrArg Value.bool (beq_eq_false_iff_ne.2 (by omega))) <| g0 fun _ => cdF rfl ?_
  rcases F6 (l := l) (s := o.tab) with hx | ⟨j, F, s, e, hx⟩
  ·have hf : ¬ i9 o := by unfold i9; omega
   refine gh (f9 (φ := dbP l) (L := dbL q)) [1] [(2, 952), (3, 953), (4, 954)] 101 fun y hy => g0 fun _ => cl (@o7 _ y.qS y.xs y.mS o.tab (by have := hy.le; omega)) [1] [(2, 952)] 101 fun _ _ => g0 fun _ => sv 6 (v := .o (.i (e9 y.xs (fun x => a7 x.F.name o.tab)))) (v' := .o (.i (-1 : Int))) (congrArg (Value.int .i64) ((a3S hy).trans hx)) <| gh (d5 (φ := dbP l) (L := dbL q) y hy) [1, 0, 2, 3, 4] [] 101 fun _ _ => g0 fun _ => cdT (b := decide ((-1 : Int) < 0)) rfl <| g0 fun _ => ?_
   have hR := a3y (m := 0) hf hx
   refine gh (b6 (l := [.as (dbA q l)]) (l' := [.as (dbA q (s6 l o))]) (congrArg (fun z => [Ch.den (.as (dbA q z))]) hR.2.symm)) [0] [] 101 fun _ _ => rtv trivial (()) trivial [0, 2] (.t [(false, [.i 0]), (false, [.i 3])]) (G0 hR.1.symm)
  ·have hf : ¬ i9 o := by unfold i9; omega
   have hb := hB j F s e
   refine gh (f9 (φ := dbP l) (L := dbL q)) [1] [(2, 952), (3, 953), (4, 954)] 101 fun y hy => g0 fun _ => cl (@o7 _ y.qS y.xs y.mS o.tab (by have := hy.le; omega)) [1] [(2, 952)] 101 fun _ _ => g0 fun _ => sv 6 (v := .o (.i (e9 y.xs (fun x => a7 x.F.name o.tab)))) (v' := .o (.i (j : Int))) (congrArg (Value.int .i64) ((a3S hy).trans hx)) <| gh (d5 (φ := dbP l) (L := dbL q) y hy) [1, 0, 2, 3, 4] [] 101 fun _ _ => g0 fun _ => cdF (b := decide ((j : Int) < 0)) (by simp) <| g0 fun _ => g0 fun _ => cdT (b := (o.kind == 1)) (beq_iff_eq.2 hk) <| g0 fun _ => cl (a6h (q := q) (l := l) (t := j) (F := F) (s := s) (qv := qv) (cv := cv) (zv := zv) (vs := o.vs) (tv := tv) (mv := mv) (by assumption) hzv hlv hsz (by omega) (by omega)) [0, 2] [(2, 1)] 101 fun _ _ => g0 fun _ => ?_
   have hR := a2n (m := 0) hf e hx hk
   refine gh (b6 (l := [.as (dbA q (l.set j (F, (insS F s o.vs))))]) (l' := [.as (dbA q (s6 l o))]) (congrArg (fun z => [Ch.den (.as (dbA q z))]) hR.2.symm)) [0] [] 101 fun _ _ => rtv trivial (()) trivial [0, 1] (.t [(false, [.i (a3J F s o.vs)]), (false, [.i (a3K F o.vs)])]) (G0 hR.1.symm)
 ·refine goN 9 (fun _ => trivial) fun _ => sv 15 (v := .o (.cb (or (decide (o.kind < 1)) (decide (o.kind > 3))))) (v' := .o (.v (.bool false))) (congrArg Value.bool (by simp only [Bool.or_eq_false_iff, decide_eq_false_iff_not]; omega)) <| goN 4 (fun _ => trivial) fun _ => sv 19 (v := .o (.cb (o.kind == 3))) (v' := .o (.v (.bool false))) (congrArg Value.bool (beq_eq_false_iff_ne.2 (by omega))) <| g0 fun _ => cdF rfl ?_
  rcases F6 (l := l) (s := o.tab) with hx | ⟨j, F, s, e, hx⟩
  ·have hf : ¬ i9 o := by unfold i9; omega
   refine gh (f9 (φ := dbP l) (L := dbL q)) [1] [(2, 952), (3, 953), (4, 954)] 101 fun y hy => g0 fun _ => cl (@o7 _ y.qS y.xs y.mS o.tab (by have := hy.le; omega)) [1] [(2, 952)] 101 fun _ _ => g0 fun _ => sv 6 (v := .o (.i (e9 y.xs (fun x => a7 x.F.name o.tab)))) (v' := .o (.i (-1 : Int))) (congrArg (Value.int .i64) ((a3S hy).trans hx)) <| gh (d5 (φ := dbP l) (L := dbL q) y hy) [1, 0, 2, 3, 4] [] 101 fun _ _ => g0 fun _ => cdT (b := decide ((-1 : Int) < 0)) rfl <| g0 fun _ => ?_
   have hR := a3y (m := 0) hf hx
   refine gh (b6 (l := [.as (dbA q l)]) (l' := [.as (dbA q (s6 l o))]) (congrArg (fun z => [Ch.den (.as (dbA q z))]) hR.2.symm)) [0] [] 101 fun _ _ => rtv trivial (()) trivial [0, 2] (.t [(false, [.i 0]), (false, [.i 3])]) (G0 hR.1.symm)
  ·have hf : ¬ i9 o := by unfold i9; omega
   have hb := hB j F s e
   refine gh (f9 (φ := dbP l) (L := dbL q)) [1] [(2, 952), (3, 953), (4, 954)] 101 fun y hy => g0 fun _ => cl (@o7 _ y.qS y.xs y.mS o.tab (by have := hy.le; omega)) [1] [(2, 952)] 101 fun _ _ => g0 fun _ => sv 6 (v := .o (.i (e9 y.xs (fun x => a7 x.F.name o.tab)))) (v' := .o (.i (j : Int))) (congrArg (Value.int .i64) ((a3S hy).trans hx)) <| gh (d5 (φ := dbP l) (L := dbL q) y hy) [1, 0, 2, 3, 4] [] 101 fun _ _ => g0 fun _ => cdF (b := decide ((j : Int) < 0)) (by simp) <| g0 fun _ => g0 fun _ => cdF (b := (o.kind == 1)) (beq_eq_false_iff_ne.2 (by omega)) <| g0 fun _ => cdT (b := (o.kind == 2)) (beq_iff_eq.2 hk) <| g0 fun _ => cl (a6j (q := q) (l := l) (t := j) (F := F) (s := s) (id := o.id) (by assumption)) [0] [(2, 1)] 101 fun _ _ => g0 fun _ => cd (!(s.is o.id)) (fun h6 => ?_) (fun h6 => ?_)
   ·refine g0 fun _ => ?_
    have hR0 := L5 (m := 0) hf e hx hk
    have h6b : s.is o.id ≠ true := by simpa using h6
    have hR := (⟨hR0.1.trans (if_neg h6b), hR0.2⟩ : y7 0 l o = (0, 6) /\ _)
    refine gh (b6 (l := [.as (dbA q (l.set j (F, (a1l s o.id))))]) (l' := [.as (dbA q (s6 l o))]) (congrArg (fun z => [Ch.den (.as (dbA q z))]) hR.2.symm)) [0] [] 101 fun _ _ => rtv trivial (()) trivial [0, 2] (.t [(false, [.i 0]), (false, [.i 6])]) (G0 hR.1.symm)
   ·refine g0 fun _ => ?_
    have hR0 := L5 (m := 0) hf e hx hk
    have h6b : s.is o.id = true := by simpa using h6
    have hR := (⟨hR0.1.trans (if_pos h6b), hR0.2⟩ : y7 0 l o = (0, 0) /\ _)
    refine gh (b6 (l := [.as (dbA q (l.set j (F, (a1l s o.id))))]) (l' := [.as (dbA q (s6 l o))]) (congrArg (fun z => [Ch.den (.as (dbA q z))]) hR.2.symm)) [0] [] 101 fun _ _ => rtv trivial (()) trivial [0, 2] (.t [(false, [.i 0]), (false, [.i 0])]) (G0 hR.1.symm)
 ·refine goN 9 (fun _ => trivial) fun _ => sv 15 (v := .o (.cb (or (decide (o.kind < 1)) (decide (o.kind > 3))))) (v' := .o (.v (.bool false))) (congrArg Value.bool (by simp only [Bool.or_eq_false_iff, decide_eq_false_iff_not]; omega)) <| goN 4 (fun _ => trivial) fun _ => sv 19 (v := .o (.cb (o.kind == 3))) (v' := .o (.v (.bool true))) (congrArg Value.bool (beq_iff_eq.2 hk)) <| g0 fun _ => cdN (o.vs.length : Int) 1 (fun h1 => ?_) (fun h1 => ?_)
  ·have hf : i9 o := by unfold i9; omega
   refine g0 fun _ => ?_
   have hR := N4 (m := 0) (l := l) hf
   refine gh (b6 (l := [.as (dbA q l)]) (l' := [.as (dbA q (s6 l o))]) (congrArg (fun z => [Ch.den (.as (dbA q z))]) hR.2.symm)) [1] [] 101 fun _ _ => rtv trivial (()) trivial [0, 2] (.t [(false, [.i 0]), (false, [.i 1])]) (G0 hR.1.symm)
  ·have hf : ¬ i9 o := by unfold i9; omega
   have hl1 : o.vs.length = 1 := by omega
   rcases F6 (l := l) (s := o.tab) with hx | ⟨j, F, s, e, hx⟩
   ·refine gh (f9 (φ := dbP l) (L := dbL q)) [1] [(2, 952), (3, 953), (4, 954)] 101 fun y hy => g0 fun _ => cl (@o7 _ y.qS y.xs y.mS o.tab (by have := hy.le; omega)) [1] [(2, 952)] 101 fun _ _ => g0 fun _ => sv 6 (v := .o (.i (e9 y.xs (fun x => a7 x.F.name o.tab)))) (v' := .o (.i (-1 : Int))) (congrArg (Value.int .i64) ((a3S hy).trans hx)) <| gh (d5 (φ := dbP l) (L := dbL q) y hy) [1, 0, 2, 3, 4] [] 101 fun _ _ => g0 fun _ => cdT (b := decide ((-1 : Int) < 0)) rfl <| g0 fun _ => ?_
    have hR := a3y (m := 0) hf hx
    refine gh (b6 (l := [.as (dbA q l)]) (l' := [.as (dbA q (s6 l o))]) (congrArg (fun z => [Ch.den (.as (dbA q z))]) hR.2.symm)) [0] [] 101 fun _ _ => rtv trivial (()) trivial [0, 2] (.t [(false, [.i 0]), (false, [.i 3])]) (G0 hR.1.symm)
   ·have hb := hB j F s e
    refine gh (f9 (φ := dbP l) (L := dbL q)) [1] [(2, 952), (3, 953), (4, 954)] 101 fun y hy => g0 fun _ => cl (@o7 _ y.qS y.xs y.mS o.tab (by have := hy.le; omega)) [1] [(2, 952)] 101 fun _ _ => g0 fun _ => sv 6 (v := .o (.i (e9 y.xs (fun x => a7 x.F.name o.tab)))) (v' := .o (.i (j : Int))) (congrArg (Value.int .i64) ((a3S hy).trans hx)) <| gh (d5 (φ := dbP l) (L := dbL q) y hy) [1, 0, 2, 3, 4] [] 101 fun _ _ => g0 fun _ => cdF (b := decide ((j : Int) < 0)) (by simp) <| g0 fun _ => g0 fun _ => cdF (b := (o.kind == 1)) (beq_eq_false_iff_ne.2 (by omega)) <| g0 fun _ => cdF (b := (o.kind == 2)) (beq_eq_false_iff_ne.2 (by omega)) <| go (fun _ => (o4 (by omega : (0 : Int) <= 0) (by omega : (0 : Int) < (o.vs.length : Int)) (zf hzv (show 0 < o.vs.length by omega) : zv = false) (by omega : 0 < o.vs.length))) fun _ => cl (a6f (q := q) (l := l) (t := j) (F := F) (s := s) (id := o.id) (sn := o.col) (v := (o.vs.getD 0 eV.d)) (by assumption) (hsz 0 (by omega))) [0] [(2, 1)] 101 fun _ _ => g0 fun _ => ?_
    have hR := a2m (m := 0) hf e hx hk hl1
    refine gh (b6 (l := [.as (dbA q (l.set j (F, (a0g F s o.id o.col (o.vs.getD 0 eV.d)))))]) (l' := [.as (dbA q (s6 l o))]) (congrArg (fun z => [Ch.den (.as (dbA q z))]) hR.2.symm)) [0] [] 101 fun _ _ => rtv trivial (()) trivial [0, 2] (.t [(false, [.i 0]), (false, [.i (a2Y F s o.id o.col (o.vs.getD 0 eV.d))])]) (G0 hR.1.symm)
theorem U6 {q k : Nat} {ps : List Nat} {l : List (Fm × Ts)} {n qo co : Nat} {zo : Bool} {xs : List Oq} {to : TypeId} {mo : Md} (hzo : zo = true -> xs.length = 0) (hB : bnd l n) (hn : n + xs.length < 60000) (hk : k + 2 * xs.length < 70000) (hxo : ∀ i, i < xs.length -> oB (xs.getD i dOq)) : Ctr Tryz.prog nO 42 [.o (.p 1 q 0 0 0), .o (.s 3 qo 5 0 xs.length co zo)] [.as (ddA q k ps l), vc eOq 3 qo xs to mo zo, .as (e6 oqA xs)] ((Nat)) (fun _ => True) (fun r => .t [(false, [.s 7 r 1 0 ((appL l (b8 xs)).1.length) ((appL l (b8 xs)).1.length) ((appL l (b8 xs)).1.isEmpty)]), (true, [.i ((appL l (b8 xs)).2.1.e), .i ((appL l (b8 xs)).2.1.a), .t ((appL l (b8 xs)).2.1.t), .i ((appL l (b8 xs)).2.1.r), .t ((appL l (b8 xs)).2.1.c)])]) (fun r => [.as (ddA q (k + 2 * xs.length) ps (a1y l (b8 xs))), vc eOq 3 qo xs to mo zo, .as (e6 oqA xs), vc eI 7 r ((appL l (b8 xs)).1) 3 .grown ((appL l (b8 xs)).1.isEmpty)]) := by
 refine fs 100 fun B => g0 fun q101 => g0 fun _ => cd (or ((xs.length : Int) == 0) (decide ((xs.length : Int) > 40))) (fun h0 => ?_) (fun h0 => ?_)
 ·have h0 : ((xs.length : Int) = 0) ∨ ((xs.length : Int) > 40) := by simpa using h0
  refine g0 fun _ => gh (e7 101 1 eI.f eI.d 3 .grown) [] [] 102 fun _ _ => ?_
  have hA : (appL l (b8 xs)) = ([], ⟨5, 0, ⟨#[]⟩, 0, ⟨#[]⟩⟩, l) := if_pos (by unfold b8; rw [length_map]; omega)
  refine gh (n7 (q := q) (k := k) (k' := k + 2 * xs.length) (ps := ps) (l := l) (E := []) (by omega)) [2] [] 102 fun _ _ => gh (b6 (l := [.as (ddA q (k + 2 * xs.length) ps l)]) (l' := [.as (ddA q (k + 2 * xs.length) ps (a1y l (b8 xs)))]) (by unfold a1y; rw [hA])) [0] [] 102 fun _ _ => gh (b6 (l := [vc eI 101 0 ([] : List Int) 3 .grown (([] : List Int).isEmpty)]) (l' := [vc eI 101 0 ((appL l (b8 xs)).1) 3 .grown ((appL l (b8 xs)).1.isEmpty)]) (by rw [hA]; try rfl)) [1] [] 102 fun _ _ => rtv trivial (0) trivial [1, 3, 4, 0] (.t [(false, [.v (.slice none 0 0)]), (true, [.i 5, .i 0, .t ⟨#[]⟩, .i 0, .t ⟨#[]⟩])]) (by rw [hA]; rfl)
 ·have h0 : ¬ (((xs.length : Int) = 0) ∨ ((xs.length : Int) > 40)) := by simpa using h0
  have h1 : ¬ ((b8 xs).length = 0 ∨ 40 < (b8 xs).length) := by unfold b8; rw [length_map]; omega
  refine g0 fun _ => g0 fun _ => gh (e7 101 1 eI.f eI.d 3 .grown) [] [] 102 fun _ _ => sv 6 (v := .o (.v (.slice none 0 0))) (v' := .o (.s 101 0 1 0 (([] : List Int).length) (([] : List Int).length) (([] : List Int).isEmpty))) rfl <| lp4 (Nat) (Nat) (List Int) (List (Fm × Ts)) [0, 5, 20, 21] (fun r => [(22, .o (.i (r.1 : Int))), (6, .o (.s 101 r.2.1 1 0 r.2.2.1.length r.2.2.1.length r.2.2.1.isEmpty))]) [1, 3, 4] (fun r => [.as (ddA q (k + 2 * r.1) ps r.2.2.2), vc eI 101 r.2.1 r.2.2.1 3 .grown r.2.2.1.isEmpty]) 122 (fun r => r.1 <= xs.length /\ a1z l (b8 xs) 0 [] = a1z r.2.2.2 ((b8 xs).drop r.1) r.1 r.2.2.1 /\ bnd r.2.2.2 (n + r.1) /\ r.2.2.1.length <= r.1) (fun r => xs.length - r.1) (⟨0, 0, [], l⟩) ⟨Nat.zero_le _, rfl, hB, Nat.le_refl _⟩ [2, 0] (fun i pq ys u hx ag106 => ?_)
  try dsimp only at hx
  obtain ⟨hi, hq, hub, hyl⟩ := hx
  refine g0 fun _ => cdD ((i : Int) < (xs.length : Int)) (fun h2 => ?_) (fun h2 => ?_)
  ·refine gh (f8 (I := oqA) (l := xs) i dOq (by omega)) [4] [] 122 fun _ _ => gh (a1t (c := vc eV 941 ((xs.getD i dOq).q) ((xs.getD i dOq).o.vs) 26 .imm ((xs.getD i dOq).y)) (I := oqA (xs.getD i dOq))) [0] [] 122 fun _ _ => gh (b6 (l := [vc eV 941 ((xs.getD i dOq).q) ((xs.getD i dOq).o.vs) 26 .imm ((xs.getD i dOq).y)]) (l' := [vc eV 941 ((xs.getD i dOq).q) ((xs.getD i dOq).o.vs) 26 .imm ((xs.getD i dOq).z)]) (by rw [(hxo i (by omega)).yz])) [0] [] 122 fun _ _ => go (fun q108 => (o4 (nz i) (by omega : (i : Int) < (xs.length : Int)) (zf hzo (show 0 < xs.length by omega) : zo = false) (by omega : i < xs.length))) fun q108 => g0 fun _ => cl (@b43 _ q (k + 2 * i) ps u (n + i) ((xs.getD i dOq).o) ((xs.getD i dOq).q) ((xs.getD i dOq).c) ((xs.getD i dOq).z) 26 .imm (by omega) hub (by omega) (hxo i (by omega)).z (hxo i (by omega)).vl (hxo i (by omega)).sz) [3, 1] [(6, 941)] 123 fun _ _ => g0 fun _ => g0 fun _ => cdN ((y7 (-1) u ((xs.getD i dOq).o)).2) 0 (fun h3 => ?_) (fun h3 => ?_)
   ·refine g0 fun _ => gh (b6 (l := [vc eV 941 ((xs.getD i dOq).q) (((xs.getD i dOq).o).vs) 26 .imm ((xs.getD i dOq).z)]) (l' := [vc eV 941 ((xs.getD i dOq).q) (((xs.getD i dOq).o).vs) 26 .imm ((xs.getD i dOq).y)]) (by rw [(hxo i (by omega)).yz])) [1] [] 123 fun _ _ => gh (x4 (c := vc eV 941 ((xs.getD i dOq).q) (((xs.getD i dOq).o).vs) 26 .imm ((xs.getD i dOq).y)) (I := oqA (xs.getD i dOq))) [0] [] 123 fun _ _ => gh (j9 (I := oqA) (l := xs) i dOq (by omega)) [0, 3] [] 123 fun _ _ => gh (e7 123 1 eI.f eI.d 3 .grown) [] [] 124 fun _ _ => ?_
    have hA : (appL l (b8 xs)) = _ := (if_neg h1).trans (hq.trans (a6A (-1) (by omega) h3))
    refine gh (n7 (q := q) (k := ((k + 2 * i) + 2)) (k' := k + 2 * xs.length) (ps := ps) (l := (s6 u ((xs.getD i dOq).o))) (E := []) (by omega)) [2] [] 124 fun _ _ => gh (b6 (l := [.as (ddA q (k + 2 * xs.length) ps (s6 u ((xs.getD i dOq).o)))]) (l' := [.as (ddA q (k + 2 * xs.length) ps (a1y l (b8 xs)))]) (by unfold a1y; rw [hA])) [0] [] 124 fun _ _ => gh (b6 (l := [vc eI 123 0 ([] : List Int) 3 .grown (([] : List Int).isEmpty)]) (l' := [vc eI 123 0 ((appL l (b8 xs)).1) 3 .grown ((appL l (b8 xs)).1.isEmpty)]) (by rw [hA]; try rfl)) [1] [] 124 fun _ _ => rtv trivial (0) trivial [1, 6, 2, 0] (.t [(false, [.v (.slice none 0 0)]), (true, [.i ((y7 (-1) u ((xs.getD i dOq).o)).2), .i (i : Int), .t ((xs.getD i dOq).o.tab), .i 0, .t ⟨#[]⟩])]) (by rw [hA]; rfl)
   ·refine g0 fun _ => cdE ((xs.getD i dOq).o.kind) 1 (fun h4 => ?_) (fun h4 => ?_)
    ·refine g0 fun q115 => apd eI ys [(y7 (-1) u (xs.getD i dOq).o).1] (ys ++ [(y7 (-1) u (xs.getD i dOq).o).1]) 101 pq .grown ys.isEmpty ((ys ++ [(y7 (-1) u (xs.getD i dOq).o).1]).isEmpty) (.blk 123 (q115 123) [.i ((y7 (-1) u ((xs.getD i dOq).o)).1)] 3 .own) (q115 123) 0 1 1 false 124 [5, 0] 125 3 (fun h _ => K4 h) (by simp only [length_cons, length_nil]; omega) (o8 rfl) (by simp) rfl fun q116 => g0 fun _ => go (fun _ => (o2 (by omega : -9223372036854775808 <= (i : Int) + 1) (by omega : (i : Int) + 1 < 9223372036854775808))) fun _ => gh (b6 (l := [vc eV 941 ((xs.getD i dOq).q) (((xs.getD i dOq).o).vs) 26 .imm ((xs.getD i dOq).z)]) (l' := [vc eV 941 ((xs.getD i dOq).q) (((xs.getD i dOq).o).vs) 26 .imm ((xs.getD i dOq).y)]) (by rw [(hxo i (by omega)).yz])) [3] [] 125 fun _ _ => gh (x4 (c := vc eV 941 ((xs.getD i dOq).q) (((xs.getD i dOq).o).vs) 26 .imm ((xs.getD i dOq).y)) (I := oqA (xs.getD i dOq))) [0] [] 125 fun _ _ => gh (j9 (I := oqA) (l := xs) i dOq (by omega)) [0, 5] [] 125 fun _ _ => gh (b6 (l := [.as (ddA q ((k + 2 * i) + 2) ps (s6 u ((xs.getD i dOq).o)))]) (l' := [.as (ddA q (k + 2 * (i + 1)) ps (s6 u (xs.getD i dOq).o))]) (congrArg (fun z => [Ch.den (.as (ddA q z ps (s6 u (xs.getD i dOq).o)))]) (by omega))) [3] [] 125 fun _ _ => ag106 _ _ (⟨i + 1, q116, (ys ++ [(y7 (-1) u (xs.getD i dOq).o).1]), s6 u (xs.getD i dOq).o⟩) (by first | omega | (simp only; omega)) (by dsimp only; exact ⟨by omega, hq.trans ((a2T (-1) (by omega) h3).trans (by rw [if_pos h4])), Y9 hub, by first | omega | (simp only [length_append, length_cons, length_nil]; omega)⟩) [0, 2, 5, 6, 1] (by kernel_rfl) (by kernel_rfl)
    ·refine go (fun _ => (o2 (by omega : -9223372036854775808 <= (i : Int) + 1) (by omega : (i : Int) + 1 < 9223372036854775808))) fun _ => gh (b6 (l := [vc eV 941 ((xs.getD i dOq).q) (((xs.getD i dOq).o).vs) 26 .imm ((xs.getD i dOq).z)]) (l' := [vc eV 941 ((xs.getD i dOq).q) (((xs.getD i dOq).o).vs) 26 .imm ((xs.getD i dOq).y)]) (by rw [(hxo i (by omega)).yz])) [1] [] 123 fun _ _ => gh (x4 (c := vc eV 941 ((xs.getD i dOq).q) (((xs.getD i dOq).o).vs) 26 .imm ((xs.getD i dOq).y)) (I := oqA (xs.getD i dOq))) [0] [] 123 fun _ _ => gh (j9 (I := oqA) (l := xs) i dOq (by omega)) [0, 3] [] 123 fun _ _ => gh (b6 (l := [.as (ddA q ((k + 2 * i) + 2) ps (s6 u ((xs.getD i dOq).o)))]) (l' := [.as (ddA q (k + 2 * (i + 1)) ps (s6 u (xs.getD i dOq).o))]) (congrArg (fun z => [Ch.den (.as (ddA q z ps (s6 u (xs.getD i dOq).o)))]) (by omega))) [1] [] 123 fun _ _ => ag106 _ _ (⟨i + 1, pq, ys, s6 u (xs.getD i dOq).o⟩) (by first | omega | (simp only; omega)) (by dsimp only; exact ⟨by omega, hq.trans ((a2T (-1) (by omega) h3).trans (by rw [if_neg h4])), Y9 hub, by first | omega | (simp only [length_append, length_cons, length_nil]; omega)⟩) [0, 3, 4, 5, 1] (by kernel_rfl) (by kernel_rfl)
  ·refine g0 fun _ => ?_
   have hA : (appL l (b8 xs)) = _ := (if_neg h1).trans (hq.trans (a6z (by omega)))
   refine gh (n7 (q := q) (k := (k + 2 * i)) (k' := k + 2 * xs.length) (ps := ps) (l := u) (E := []) (by omega)) [0] [] 122 fun _ _ => gh (b6 (l := [.as (ddA q (k + 2 * xs.length) ps u)]) (l' := [.as (ddA q (k + 2 * xs.length) ps (a1y l (b8 xs)))]) (by unfold a1y; rw [hA])) [0] [] 122 fun _ _ => gh (b6 (l := [vc eI 101 pq ys 3 .grown ys.isEmpty]) (l' := [vc eI 101 pq ((appL l (b8 xs)).1) 3 .grown ((appL l (b8 xs)).1.isEmpty)]) (by rw [hA]; try rfl)) [1] [] 122 fun _ _ => rtv trivial (pq) trivial [1, 3, 4, 0] (.t [(false, [.s 101 pq 1 0 ys.length ys.length ys.isEmpty]), (true, [.i 0, .i 0, .t ⟨#[]⟩, .i 0, .t ⟨#[]⟩])]) (by rw [hA]; rfl)
theorem a6X {q : Nat} {l : List (Fm × Ts)} {n qo co : Nat} {zo : Bool} {xs : List Oq} {to : TypeId} {mo : Md} (hzo : zo = true -> xs.length = 0) (hB : bnd l n) (hn : n + xs.length < 60000) (hxo : ∀ i, i < xs.length -> oB (xs.getD i dOq)) : Ctr Tryz.prog nO 43 [.o (.p 1 q 0 0 0), .o (.s 3 qo 5 0 xs.length co zo)] [.as (dbA q l), vc eOq 3 qo xs to mo zo, .as (e6 oqA xs)] ((Nat)) (fun _ => True) (fun r => .t [(false, [.s 7 r 1 0 ((appL l (b8 xs)).1.length) ((appL l (b8 xs)).1.length) ((appL l (b8 xs)).1.isEmpty)]), (true, [.i ((appL l (b8 xs)).2.1.e), .i ((appL l (b8 xs)).2.1.a), .t ((appL l (b8 xs)).2.1.t), .i ((appL l (b8 xs)).2.1.r), .t ((appL l (b8 xs)).2.1.c)])]) (fun r => [.as (dbA q (a1y l (b8 xs))), vc eOq 3 qo xs to mo zo, .as (e6 oqA xs), vc eI 7 r ((appL l (b8 xs)).1) 3 .grown ((appL l (b8 xs)).1.isEmpty)]) := by
 refine fs 100 fun B => g0 fun q101 => g0 fun _ => cd (or ((xs.length : Int) == 0) (decide ((xs.length : Int) > 40))) (fun h0 => ?_) (fun h0 => ?_)
 ·have h0 : ((xs.length : Int) = 0) ∨ ((xs.length : Int) > 40) := by simpa using h0
  refine g0 fun _ => gh (e7 101 1 eI.f eI.d 3 .grown) [] [] 102 fun _ _ => ?_
  have hA : (appL l (b8 xs)) = ([], ⟨5, 0, ⟨#[]⟩, 0, ⟨#[]⟩⟩, l) := if_pos (by unfold b8; rw [length_map]; omega)
  refine gh (b6 (l := [.as (dbA q l)]) (l' := [.as (dbA q (a1y l (b8 xs)))]) (by unfold a1y; rw [hA])) [2] [] 102 fun _ _ => gh (b6 (l := [vc eI 101 0 ([] : List Int) 3 .grown (([] : List Int).isEmpty)]) (l' := [vc eI 101 0 ((appL l (b8 xs)).1) 3 .grown ((appL l (b8 xs)).1.isEmpty)]) (by rw [hA]; try rfl)) [1] [] 102 fun _ _ => rtv trivial (0) trivial [1, 3, 4, 0] (.t [(false, [.v (.slice none 0 0)]), (true, [.i 5, .i 0, .t ⟨#[]⟩, .i 0, .t ⟨#[]⟩])]) (by rw [hA]; rfl)
 ·have h0 : ¬ (((xs.length : Int) = 0) ∨ ((xs.length : Int) > 40)) := by simpa using h0
  have h1 : ¬ ((b8 xs).length = 0 ∨ 40 < (b8 xs).length) := by unfold b8; rw [length_map]; omega
  refine g0 fun _ => g0 fun _ => gh (e7 101 1 eI.f eI.d 3 .grown) [] [] 102 fun _ _ => sv 6 (v := .o (.v (.slice none 0 0))) (v' := .o (.s 101 0 1 0 (([] : List Int).length) (([] : List Int).length) (([] : List Int).isEmpty))) rfl <| lp4 (Nat) (Nat) (List Int) (List (Fm × Ts)) [0, 1, 5] (fun r => [(7, .o (.i (r.1 : Int))), (6, .o (.s 101 r.2.1 1 0 r.2.2.1.length r.2.2.1.length r.2.2.1.isEmpty))]) [1, 3, 4] (fun r => [.as (dbA q r.2.2.2), vc eI 101 r.2.1 r.2.2.1 3 .grown r.2.2.1.isEmpty]) 122 (fun r => r.1 <= xs.length /\ a1z l (b8 xs) 0 [] = a1z r.2.2.2 ((b8 xs).drop r.1) r.1 r.2.2.1 /\ bnd r.2.2.2 (n + r.1) /\ r.2.2.1.length <= r.1) (fun r => xs.length - r.1) (⟨0, 0, [], l⟩) ⟨Nat.zero_le _, rfl, hB, Nat.le_refl _⟩ [2, 0] (fun i pq ys u hx ag106 => ?_)
  try dsimp only at hx
  obtain ⟨hi, hq, hub, hyl⟩ := hx
  refine g0 fun _ => cdD ((i : Int) < (xs.length : Int)) (fun h2 => ?_) (fun h2 => ?_)
  ·refine gh (f8 (I := oqA) (l := xs) i dOq (by omega)) [4] [] 122 fun _ _ => gh (a1t (c := vc eV 941 ((xs.getD i dOq).q) ((xs.getD i dOq).o.vs) 26 .imm ((xs.getD i dOq).y)) (I := oqA (xs.getD i dOq))) [0] [] 122 fun _ _ => gh (b6 (l := [vc eV 941 ((xs.getD i dOq).q) ((xs.getD i dOq).o.vs) 26 .imm ((xs.getD i dOq).y)]) (l' := [vc eV 941 ((xs.getD i dOq).q) ((xs.getD i dOq).o.vs) 26 .imm ((xs.getD i dOq).z)]) (by rw [(hxo i (by omega)).yz])) [0] [] 122 fun _ _ => go (fun q108 => (o4 (nz i) (by omega : (i : Int) < (xs.length : Int)) (zf hzo (show 0 < xs.length by omega) : zo = false) (by omega : i < xs.length))) fun q108 => g0 fun _ => cl (@b11 _ q u (n + i) ((xs.getD i dOq).o) ((xs.getD i dOq).q) ((xs.getD i dOq).c) ((xs.getD i dOq).z) 26 .imm hub (by omega) (hxo i (by omega)).z (hxo i (by omega)).vl (hxo i (by omega)).sz) [3, 1] [(6, 941)] 123 fun _ _ => g0 fun _ => g0 fun _ => cdN ((y7 0 u ((xs.getD i dOq).o)).2) 0 (fun h3 => ?_) (fun h3 => ?_)
   ·refine g0 fun _ => gh (b6 (l := [vc eV 941 ((xs.getD i dOq).q) (((xs.getD i dOq).o).vs) 26 .imm ((xs.getD i dOq).z)]) (l' := [vc eV 941 ((xs.getD i dOq).q) (((xs.getD i dOq).o).vs) 26 .imm ((xs.getD i dOq).y)]) (by rw [(hxo i (by omega)).yz])) [1] [] 123 fun _ _ => gh (x4 (c := vc eV 941 ((xs.getD i dOq).q) (((xs.getD i dOq).o).vs) 26 .imm ((xs.getD i dOq).y)) (I := oqA (xs.getD i dOq))) [0] [] 123 fun _ _ => gh (j9 (I := oqA) (l := xs) i dOq (by omega)) [0, 3] [] 123 fun _ _ => gh (e7 123 1 eI.f eI.d 3 .grown) [] [] 124 fun _ _ => ?_
    have hA : (appL l (b8 xs)) = _ := (if_neg h1).trans (hq.trans (a6A 0 (by omega) h3))
    refine gh (b6 (l := [.as (dbA q (s6 u ((xs.getD i dOq).o)))]) (l' := [.as (dbA q (a1y l (b8 xs)))]) (by unfold a1y; rw [hA])) [2] [] 124 fun _ _ => gh (b6 (l := [vc eI 123 0 ([] : List Int) 3 .grown (([] : List Int).isEmpty)]) (l' := [vc eI 123 0 ((appL l (b8 xs)).1) 3 .grown ((appL l (b8 xs)).1.isEmpty)]) (by rw [hA]; try rfl)) [1] [] 124 fun _ _ => rtv trivial (0) trivial [1, 6, 2, 0] (.t [(false, [.v (.slice none 0 0)]), (true, [.i ((y7 0 u ((xs.getD i dOq).o)).2), .i (i : Int), .t ((xs.getD i dOq).o.tab), .i 0, .t ⟨#[]⟩])]) (by rw [hA]; rfl)
   ·refine g0 fun _ => cdE ((xs.getD i dOq).o.kind) 1 (fun h4 => ?_) (fun h4 => ?_)
    ·refine g0 fun q115 => apd eI ys [(y7 0 u (xs.getD i dOq).o).1] (ys ++ [(y7 0 u (xs.getD i dOq).o).1]) 101 pq .grown ys.isEmpty ((ys ++ [(y7 0 u (xs.getD i dOq).o).1]).isEmpty) (.blk 123 (q115 123) [.i ((y7 0 u ((xs.getD i dOq).o)).1)] 3 .own) (q115 123) 0 1 1 false 124 [5, 0] 125 3 (fun h _ => K4 h) (by simp only [length_cons, length_nil]; omega) (o8 rfl) (by simp) rfl fun q116 => g0 fun _ => go (fun _ => (o2 (by omega : -9223372036854775808 <= (i : Int) + 1) (by omega : (i : Int) + 1 < 9223372036854775808))) fun _ => gh (b6 (l := [vc eV 941 ((xs.getD i dOq).q) (((xs.getD i dOq).o).vs) 26 .imm ((xs.getD i dOq).z)]) (l' := [vc eV 941 ((xs.getD i dOq).q) (((xs.getD i dOq).o).vs) 26 .imm ((xs.getD i dOq).y)]) (by rw [(hxo i (by omega)).yz])) [3] [] 125 fun _ _ => gh (x4 (c := vc eV 941 ((xs.getD i dOq).q) (((xs.getD i dOq).o).vs) 26 .imm ((xs.getD i dOq).y)) (I := oqA (xs.getD i dOq))) [0] [] 125 fun _ _ => gh (j9 (I := oqA) (l := xs) i dOq (by omega)) [0, 5] [] 125 fun _ _ => ag106 _ _ (⟨i + 1, q116, (ys ++ [(y7 0 u (xs.getD i dOq).o).1]), s6 u (xs.getD i dOq).o⟩) (by first | omega | (simp only; omega)) (by dsimp only; exact ⟨by omega, hq.trans ((a2T 0 (by omega) h3).trans (by rw [if_pos h4])), Y9 hub, by first | omega | (simp only [length_append, length_cons, length_nil]; omega)⟩) [3, 1, 5, 6, 0] (by kernel_rfl) (by kernel_rfl)
    ·refine go (fun _ => (o2 (by omega : -9223372036854775808 <= (i : Int) + 1) (by omega : (i : Int) + 1 < 9223372036854775808))) fun _ => gh (b6 (l := [vc eV 941 ((xs.getD i dOq).q) (((xs.getD i dOq).o).vs) 26 .imm ((xs.getD i dOq).z)]) (l' := [vc eV 941 ((xs.getD i dOq).q) (((xs.getD i dOq).o).vs) 26 .imm ((xs.getD i dOq).y)]) (by rw [(hxo i (by omega)).yz])) [1] [] 123 fun _ _ => gh (x4 (c := vc eV 941 ((xs.getD i dOq).q) (((xs.getD i dOq).o).vs) 26 .imm ((xs.getD i dOq).y)) (I := oqA (xs.getD i dOq))) [0] [] 123 fun _ _ => gh (j9 (I := oqA) (l := xs) i dOq (by omega)) [0, 3] [] 123 fun _ _ => ag106 _ _ (⟨i + 1, pq, ys, s6 u (xs.getD i dOq).o⟩) (by first | omega | (simp only; omega)) (by dsimp only; exact ⟨by omega, hq.trans ((a2T 0 (by omega) h3).trans (by rw [if_neg h4])), Y9 hub, by first | omega | (simp only [length_append, length_cons, length_nil]; omega)⟩) [1, 3, 4, 5, 0] (by kernel_rfl) (by kernel_rfl)
  ·refine g0 fun _ => ?_
   have hA : (appL l (b8 xs)) = _ := (if_neg h1).trans (hq.trans (a6z (by omega)))
   refine gh (b6 (l := [.as (dbA q u)]) (l' := [.as (dbA q (a1y l (b8 xs)))]) (by unfold a1y; rw [hA])) [0] [] 122 fun _ _ => gh (b6 (l := [vc eI 101 pq ys 3 .grown ys.isEmpty]) (l' := [vc eI 101 pq ((appL l (b8 xs)).1) 3 .grown ((appL l (b8 xs)).1.isEmpty)]) (by rw [hA]; try rfl)) [1] [] 122 fun _ _ => rtv trivial (pq) trivial [1, 3, 4, 0] (.t [(false, [.s 101 pq 1 0 ys.length ys.length ys.isEmpty]), (true, [.i 0, .i 0, .t ⟨#[]⟩, .i 0, .t ⟨#[]⟩])]) (by rw [hA]; rfl)
end Go.Proofs.YtagidoadfajpgaaGreat
open List (length_cons length_nil length_map map_set)
namespace Go.Proofs.YtagidoadfajpgaaGreat
set_option maxHeartbeats 4000000
open Go.Abs
variable {nO : Nat}
set_option maxRecDepth 100000
attribute [local irreducible] GP ruP ruN nxP acS gst cdP loP j6 m9 m8 enP caA n5 lgP agN
def a2F : Va := ⟨1, 5, ⟨#[]⟩⟩
def aV : Va := ⟨2, 0, ⟨#[97]⟩⟩
def bV : Va := ⟨2, 0, ⟨#[98]⟩⟩
def oa1 : Opn := ⟨1, ⟨#[108, 97, 110, 100]⟩, 0, ⟨#[]⟩, [a2F, aV]⟩
def oa2 : Opn := ⟨3, ⟨#[108, 97, 110, 100]⟩, 0, ⟨#[110, 97, 109, 101]⟩, [bV]⟩
def oa3 : Opn := ⟨2, ⟨#[108, 97, 110, 100]⟩, 0, ⟨#[]⟩, []⟩
def lS (s : Ts) : List (Fm × Ts) := (sL 4).set 0 (L7, s)
def b7U : Ts := ⟨[(0, [a2F, aV])], 1⟩
def a3n : Ts := ⟨[(0, [a2F, bV])], 1⟩
def a1I : Ts := ⟨[], 1⟩
theorem a2S {l l' : List (Fm × Ts)} {o : Opn} {ops : List Opn} {i : Nat} {ids ids' : List Int} {a : Int} (h : y7 0 l o = (a, 0)) (hl : s6 l o = l') (hi : (if o.kind = 1 then ids ++ [a] else ids) = ids') : a1z l (o :: ops) i ids = a1z l' ops (i + 1) ids' := by
 conv => lhs; unfold a1z
 rw [h, hl, if_pos rfl, hi]
theorem b3w {l l' : List (Fm × Ts)} {o : Opn} {ops : List Opn} {i : Nat} {ids : List Int} {a e : Int} (h : y7 0 l o = (a, e)) (he : e ≠ 0) (hl : s6 l o = l') : a1z l (o :: ops) i ids = ([], ⟨e, (i : Int), o.tab, 0, ⟨#[]⟩⟩, l') := by
 conv => lhs; unfold a1z
 rw [h, hl, if_neg he]
theorem b2s {s : Ts} : (lS s)[0]? = some (L7, s) := rfl
theorem a58 {s t : Ts} : (lS s).set 0 (L7, t) = lS t := List.set_set ..
theorem b70 {s : Ts} : tix (lS s) ⟨#[108, 97, 110, 100]⟩ = ((0 : Nat) : Int) := by
 have e : (lS s).map Prod.fst = I8 := by unfold lS; rw [map_set, b8b]; kernel_rfl
 unfold tix; rw [e]; decide +kernel
theorem b8a : sL 4 = lS ⟨[], 0⟩ := by kernel_rfl
theorem r1 : y7 0 (lS ⟨[], 0⟩) oa1 = (0, 0) /\ s6 (lS ⟨[], 0⟩) oa1 = lS b7U := by
 have h := a2n (m := 0) (o := oa1) (l := lS ⟨[], 0⟩) (by unfold i9; decide) b2s b70 rfl
 obtain ⟨k1, k2, k3⟩ := Y1 (s := ⟨[], 0⟩) (a5V (F := L7) (vs := [a2F, aV]) (by decide +kernel))
 rw [h.1, h.2, a58]
 refine ⟨?_, congrArg lS k1⟩
 show (a3J L7 ⟨[], 0⟩ [a2F, aV], a3K L7 [a2F, aV]) = _
 rw [k2, k3]; rfl
theorem r2 : y7 0 (lS b7U) oa2 = (0, 0) /\ s6 (lS b7U) oa2 = lS a3n := by
 have h := a2m (m := 0) (o := oa2) (l := lS b7U) (by unfold i9; decide) b2s b70 rfl rfl
 rw [h.1, h.2, a58]
 exact ⟨by kernel_rfl, congrArg lS (by kernel_rfl)⟩
theorem r3 : y7 0 (lS a3n) oa3 = (0, 0) /\ s6 (lS a3n) oa3 = lS a1I := by
 have h := L5 (m := 0) (o := oa3) (l := lS a3n) (by unfold i9; decide) b2s b70 rfl
 rw [h.1, h.2, a58]
 exact ⟨by kernel_rfl, congrArg lS (by kernel_rfl)⟩
theorem r4 : y7 0 (lS a1I) oa3 = (0, 6) /\ s6 (lS a1I) oa3 = lS a1I := by
 have h := L5 (m := 0) (o := oa3) (l := lS a1I) (by unfold i9; decide) b2s b70 rfl
 rw [h.1, h.2, a58]
 exact ⟨by kernel_rfl, congrArg lS (by kernel_rfl)⟩
theorem a13 : appL (sL 4) [oa1, oa2] = ([0], okF, lS a3n) := by
 rw [b8a]
 exact (if_neg (by decide)).trans ((a2S r1.1 r1.2 rfl).trans (a2S r2.1 r2.2 rfl))
theorem b13 : appL (lS a3n) [oa3, oa3] = ([], ⟨6, 1, ⟨#[108, 97, 110, 100]⟩, 0, ⟨#[]⟩⟩, lS a1I) := (if_neg (by decide)).trans ((a2S r3.1 r3.2 rfl).trans (b3w r4.1 (by decide) r4.2))
theorem c13 : appL (lS a1I) [] = ([], ⟨5, 0, ⟨#[]⟩, 0, ⟨#[]⟩⟩, lS a1I) := if_pos (.inl rfl)
theorem b8Q {s : Ts} {n : Nat} (h : s.next <= n /\ s.rows.length <= n) : bnd (lS s) n := by
 intro j F t e
 match j with
 | 0 => cases e; exact h
 | j + 1 => exact (b7T (n := n)) (j + 1) F t (by unfold lS at e; rwa [List.getElem?_set_ne (by omega)] at e)
theorem a5W {q c : Nat} {z : Bool} {o : Opn} (h0 : z = true -> o.vs.length = 0) (h1 : o.vs.length < 1000000) (h2 : (o.vs.all fun v => decide (v.s.size < 1000000000)) = true) : oB ⟨q, c, z, z, o⟩ :=
 { z := h0, l := Nat.lt_trans h1 (by decide), yz := rfl, sz := szD h2, vl := h1 }
theorem b8P {x y : Oq} (hx : oB x) (hy : oB y) : ∀ i, i < [x, y].length -> oB ([x, y].getD i dOq)
 | 0, _ => hx
 | 1, _ => hy
 | n + 2, h => absurd h (by simp)
theorem b3x {l : List (Fm × Ts)} {ops : List Opn} {i : Nat} {ids : List Int} : (a1z l ops i ids).1.length <= ids.length + ops.length := by
 induction ops generalizing l i ids with
 | nil => exact Nat.le_refl _
 | cons o ops ih =>
  unfold a1z
  split
  ·have := ih (l := s6 l o) (i := i + 1) (ids := if o.kind = 1 then ids ++ [(y7 0 l o).1] else ids)
   have h2 : (if o.kind = 1 then ids ++ [(y7 0 l o).1] else ids).length <= ids.length + 1 := by split <;> simp
   rw [length_cons]; omega
  ·exact Nat.zero_le _
theorem b5Z {l : List (Fm × Ts)} {xs : List Oq} (h : xs.length < 900000) : (appL l (b8 xs)).1.length < 1000000 := by
 unfold appL
 split
 ·exact Nat.zero_lt_succ _
 ·have := b3x (l := l) (ops := b8 xs) (i := 0) (ids := [])
  have e : (b8 xs).length = xs.length := by unfold b8; exact length_map ..
  rw [e, length_nil] at this
  omega
theorem a43 {x : Flt}  : K1 nO 44 [.a [.i x.e, .i x.a, .t x.t, .i x.r, .t x.c], .a [.i x.e, .i x.a, .t x.t, .i x.r, .t x.c]] [] (.o (.v (.bool true))) := by
 refine fs 100 fun B => g0 fun q101 => g0 fun _ => rtv trivial (()) trivial [] (.o (.cb (and (and (and (and (x.e == x.e) (x.a == x.a)) (a7 x.t x.t)) (x.r == x.r)) (a7 x.c x.c)))) (congrArg Value.bool (by simp [n9]))
theorem b0b {qa ca : Nat} {za : Bool} {xs : List Int} {ta : TypeId} {ma : Md} {qb cb : Nat} {zb : Bool} {tb : TypeId} {mb : Md} (hza : za = true -> xs.length = 0) (hzb : zb = true -> xs.length = 0) (hlx : xs.length < 1000000) : K1 nO 45 [.o (.s 1 qa 1 0 xs.length ca za), .o (.s 2 qb 1 0 xs.length cb zb)] [vc eI 1 qa xs ta ma za, vc eI 2 qb xs tb mb zb] (.o (.v (.bool true))) := by
 refine fs 100 fun B => g0 fun _ => g0 fun _ => cdF (b := ((xs.length : Int) != (xs.length : Int))) (by simp) <| g0 fun _ => lp ((Nat)) [0, 1] (fun r => [(5, .o (.i (r : Int)))]) [0, 1] (fun _ => []) 120 (fun r => r <= xs.length) (fun r => xs.length - r) (0) (Nat.zero_le _) [] fun i hx ag104 => g0 fun _ => cdD ((i : Int) < (xs.length : Int)) (fun h2 => ?_) (fun h2 => ?_)
 ·refine go (fun _ => (oc (nz i) (by omega : (i : Int) < (xs.length : Int)) (zf hza (show 0 < xs.length by omega) : za = false) (by omega : i < xs.length) (nz i) (by omega : (i : Int) < (xs.length : Int)) (o2 (zf hzb (show 0 < xs.length by omega) : zb = false) (by omega : i < xs.length)))) fun _ => cdF (b := ((xs.getD i eI.d) != (xs.getD i eI.d))) (by simp) <| go (fun _ => (o2 (by omega : -9223372036854775808 <= (i : Int) + 1) (by omega : (i : Int) + 1 < 9223372036854775808))) fun _ => ag104 _ _ (i + 1) (by first | omega | (simp only; omega)) (by omega) [0, 1] (by kernel_rfl) (by kernel_rfl)
 ·refine g0 fun _ => rt trivial (()) trivial [0, 1]
theorem a9g {n : Int}  : K1 nO 47 [.o (.i n)] [] (.a [.i 1, .i n, .t ⟨#[]⟩]) := by
 refine fs 100 fun B => g0 fun q101 => g0 fun _ => rt trivial (()) trivial []
theorem a1D {s : ByteArray}  : K1 nO 48 [.o (.t s)] [] (.a [.i 2, .i 0, .t s]) := by
 refine fs 100 fun B => g0 fun q101 => g0 fun _ => rt trivial (()) trivial []
theorem a5g   : K1 nO 41 [] [] (.o (.v (.bool true))) := by
 refine fs 100 fun B => g0 fun _ => cl (V7 ) [] [(1, 100), (2, 101)] 102 fun ⟨q103, w103, ps103⟩ hpl => g0 fun _ => g0 fun _ => cl (z8 (q := q103) (k := 0) (ps := ps103) (l := (sL 4)) (j := 0) (s := ⟨#[108, 97, 110, 100]⟩) (by decide) (by decide +kernel)) [0] [(1, 100), (7, 102)] 103 fun _ _ => g0 fun _ => cdF rfl <| g0 fun _ => cl (@a9g _ 5) [] [] 103 fun _ _ => cl (@a1D _ ⟨#[97]⟩) [] [] 103 fun _ _ => g0 fun q112 => cl (@a1D _ ⟨#[98]⟩) [] [] 104 fun _ _ => g0 fun q114 => gh (p5 (I := oqA)) [] [] 106 fun _ _ => gh (j7 (g := 103) (q := (q112 103)) (cs := [.i 1, .i 5, .t ⟨#[]⟩, .i 2, .i 0, .t ⟨#[97]⟩]) (t := 26) (m := .own) eV [a2F, aV]) [3] [] 106 fun _ _ => gh (k7 (E := eV) (g := 103) (q := (q112 103)) (xs := [a2F, aV]) (t := 26) (m := .own) (z := false)) [0] [] 106 fun _ _ => gh (x4 (c := vc eV 103 (q112 103) [a2F, aV] 26 .imm false) (I := oqA (⟨(q112 103), 2, false, false, oa1⟩ : Oq))) [0] [] 106 fun _ _ => gh (i6 (I := oqA) (l := ([] : List Oq)) (x := (⟨(q112 103), 2, false, false, oa1⟩ : Oq))) [0, 1] [] 106 fun _ _ => gh (j7 (g := 104) (q := (q114 104)) (cs := [.i 2, .i 0, .t ⟨#[98]⟩]) (t := 26) (m := .own) eV [bV]) [2] [] 106 fun _ _ => gh (k7 (E := eV) (g := 104) (q := (q114 104)) (xs := [bV]) (t := 26) (m := .own) (z := false)) [0] [] 106 fun _ _ => gh (x4 (c := vc eV 104 (q114 104) [bV] 26 .imm false) (I := oqA (⟨(q114 104), 1, false, false, oa2⟩ : Oq))) [0] [] 106 fun _ _ => gh (i6 (I := oqA) (l := [(⟨(q112 103), 2, false, false, oa1⟩ : Oq)]) (x := (⟨(q114 104), 1, false, false, oa2⟩ : Oq))) [0, 1] [] 106 fun _ _ => gh (j7 (g := 105) (q := (q114 105)) (cs := [.i 1, .t ⟨#[108, 97, 110, 100]⟩, .i 0, .t ⟨#[]⟩, .s 103 (q112 103) 3 0 2 2 false, .i 3, .t ⟨#[108, 97, 110, 100]⟩, .i 0, .t ⟨#[110, 97, 109, 101]⟩, .s 104 (q114 104) 3 0 1 1 false]) (t := 84) (m := .own) eOq [(⟨(q112 103), 2, false, false, oa1⟩ : Oq), (⟨(q114 104), 1, false, false, oa2⟩ : Oq)]) [1] [] 106 fun _ _ => cl (@U6 _ q103 0 ps103 (sL 4) 0 (q114 105) 2 false [(⟨(q112 103), 2, false, false, oa1⟩ : Oq), (⟨(q114 104), 1, false, false, oa2⟩ : Oq)] 84 .own (fun h => nomatch h) b7T (by simp only [length_cons, length_nil]; omega) (by simp only [length_cons, length_nil]; omega) (b8P (a5W (fun h => nomatch h) (by decide) (by decide +kernel)) (a5W (fun h => nomatch h) (by decide) (by decide +kernel)))) [2, 0, 1] [(1, 100), (3, 105), (7, 106)] 107 fun qi115 _ => g0 fun q116 => gh (n7 (q := q103) (k := (0 + 2 * [(⟨(q112 103), 2, false, false, oa1⟩ : Oq), (⟨(q114 104), 1, false, false, oa2⟩ : Oq)].length)) (k' := 10) (ps := ps103) (l := (a1y (sL 4) (b8 [(⟨(q112 103), 2, false, false, oa1⟩ : Oq), (⟨(q114 104), 1, false, false, oa2⟩ : Oq)]))) (E := []) (by simp only [length_cons, length_nil]; omega)) [1] [] 108 fun _ _ => gh (b6 (l := [.as (ddA q103 10 ps103 (a1y (sL 4) (b8 [(⟨(q112 103), 2, false, false, oa1⟩ : Oq), (⟨(q114 104), 1, false, false, oa2⟩ : Oq)])))]) (l' := [.as (ddA q103 10 ps103 (lS a3n))]) (congrArg (fun z : List Int × Flt × List (Fm × Ts) => [Ch.den (.as (ddA q103 10 ps103 z.2.2))]) a13)) [0] [] 108 fun _ _ => gh (b6 (l := [vc eI 106 qi115 ((appL (sL 4) (b8 [(⟨(q112 103), 2, false, false, oa1⟩ : Oq), (⟨(q114 104), 1, false, false, oa2⟩ : Oq)])).1) 3 .grown ((appL (sL 4) (b8 [(⟨(q112 103), 2, false, false, oa1⟩ : Oq), (⟨(q114 104), 1, false, false, oa2⟩ : Oq)])).1.isEmpty)]) (l' := [vc eI 106 qi115 ([0] : List Int) 3 .grown (([0] : List Int).isEmpty)]) (congrArg (fun z : List Int × Flt × List (Fm × Ts) => [Ch.den (vc eI 106 qi115 z.1 3 .grown z.1.isEmpty)]) a13)) [4] [] 108 fun _ _ => sv 3 (v := .o (.s 106 qi115 1 0 ((appL (sL 4) (b8 [(⟨(q112 103), 2, false, false, oa1⟩ : Oq), (⟨(q114 104), 1, false, false, oa2⟩ : Oq)])).1.length) ((appL (sL 4) (b8 [(⟨(q112 103), 2, false, false, oa1⟩ : Oq), (⟨(q114 104), 1, false, false, oa2⟩ : Oq)])).1.length) ((appL (sL 4) (b8 [(⟨(q112 103), 2, false, false, oa1⟩ : Oq), (⟨(q114 104), 1, false, false, oa2⟩ : Oq)])).1.isEmpty))) (v' := .o (.s 106 qi115 1 0 (([0] : List Int).length) (([0] : List Int).length) (([0] : List Int).isEmpty))) (congrArg (fun z : List Int × Flt × List (Fm × Ts) => SV.den (.o (.s 106 qi115 1 0 z.1.length z.1.length z.1.isEmpty))) a13) <| gh (b6 (l := [.blk 107 (q116 107) [.i ((appL (sL 4) (b8 [(⟨(q112 103), 2, false, false, oa1⟩ : Oq), (⟨(q114 104), 1, false, false, oa2⟩ : Oq)])).2.1.e), .i ((appL (sL 4) (b8 [(⟨(q112 103), 2, false, false, oa1⟩ : Oq), (⟨(q114 104), 1, false, false, oa2⟩ : Oq)])).2.1.a), .t ((appL (sL 4) (b8 [(⟨(q112 103), 2, false, false, oa1⟩ : Oq), (⟨(q114 104), 1, false, false, oa2⟩ : Oq)])).2.1.t), .i ((appL (sL 4) (b8 [(⟨(q112 103), 2, false, false, oa1⟩ : Oq), (⟨(q114 104), 1, false, false, oa2⟩ : Oq)])).2.1.r), .t ((appL (sL 4) (b8 [(⟨(q112 103), 2, false, false, oa1⟩ : Oq), (⟨(q114 104), 1, false, false, oa2⟩ : Oq)])).2.1.c)] 74 .own]) (l' := [.blk 107 (q116 107) [.i okF.e, .i okF.a, .t okF.t, .i okF.r, .t okF.c] 74 .own]) (congrArg (fun z : List Int × Flt × List (Fm × Ts) => [Ch.den (.blk 107 (q116 107) [.i z.2.1.e, .i z.2.1.a, .t z.2.1.t, .i z.2.1.r, .t z.2.1.c] 74 .own)]) a13)) [2] [] 108 fun _ _ => g0 fun q117 => gh (p5 (I := oqA)) [] [] 109 fun _ _ => gh (e7 109 3 eV.f eV.d 26 .grown) [] [] 110 fun _ _ => gh (k7 (E := eV) (g := 109) (q := 0) (xs := ([] : List Va)) (t := 26) (m := .grown) (z := true)) [0] [] 110 fun _ _ => gh (x4 (c := vc eV 109 0 ([] : List Va) 26 .imm true) (I := oqA (⟨0, 0, true, true, oa3⟩ : Oq))) [0] [] 110 fun _ _ => gh (i6 (I := oqA) (l := ([] : List Oq)) (x := (⟨0, 0, true, true, oa3⟩ : Oq))) [0, 1] [] 110 fun _ _ => gh (e7 110 3 eV.f eV.d 26 .grown) [] [] 111 fun _ _ => gh (k7 (E := eV) (g := 110) (q := 0) (xs := ([] : List Va)) (t := 26) (m := .grown) (z := true)) [0] [] 111 fun _ _ => gh (x4 (c := vc eV 110 0 ([] : List Va) 26 .imm true) (I := oqA (⟨0, 0, true, true, oa3⟩ : Oq))) [0] [] 111 fun _ _ => gh (i6 (I := oqA) (l := [(⟨0, 0, true, true, oa3⟩ : Oq)]) (x := (⟨0, 0, true, true, oa3⟩ : Oq))) [0, 1] [] 111 fun _ _ => gh (j7 (g := 108) (q := (q117 108)) (cs := [.i 2, .t ⟨#[108, 97, 110, 100]⟩, .i 0, .t ⟨#[]⟩, .v (.slice none 0 0), .i 2, .t ⟨#[108, 97, 110, 100]⟩, .i 0, .t ⟨#[]⟩, .v (.slice none 0 0)]) (t := 84) (m := .own) eOq [(⟨0, 0, true, true, oa3⟩ : Oq), (⟨0, 0, true, true, oa3⟩ : Oq)]) [1] [] 111 fun _ _ => cl (@U6 _ q103 10 ps103 (lS a3n) 1 (q117 108) 2 false [(⟨0, 0, true, true, oa3⟩ : Oq), (⟨0, 0, true, true, oa3⟩ : Oq)] 84 .own (fun h => nomatch h) (b8Q (by decide)) (by simp only [length_cons, length_nil]; omega) (by simp only [length_cons, length_nil]; omega) (b8P (a5W (fun _ => rfl) (by decide) (by decide +kernel)) (a5W (fun _ => rfl) (by decide) (by decide +kernel)))) [4, 0, 1] [(1, 100), (3, 108), (7, 111)] 112 fun qi118 _ => g0 fun q119 => gh (n7 (q := q103) (k := (10 + 2 * [(⟨0, 0, true, true, oa3⟩ : Oq), (⟨0, 0, true, true, oa3⟩ : Oq)].length)) (k' := 20) (ps := ps103) (l := (a1y (lS a3n) (b8 [(⟨0, 0, true, true, oa3⟩ : Oq), (⟨0, 0, true, true, oa3⟩ : Oq)]))) (E := []) (by simp only [length_cons, length_nil]; omega)) [1] [] 113 fun _ _ => gh (b6 (l := [.as (ddA q103 20 ps103 (a1y (lS a3n) (b8 [(⟨0, 0, true, true, oa3⟩ : Oq), (⟨0, 0, true, true, oa3⟩ : Oq)])))]) (l' := [.as (ddA q103 20 ps103 (lS a1I))]) (congrArg (fun z : List Int × Flt × List (Fm × Ts) => [Ch.den (.as (ddA q103 20 ps103 z.2.2))]) b13)) [0] [] 113 fun _ _ => gh (b6 (l := [vc eI 111 qi118 ((appL (lS a3n) (b8 [(⟨0, 0, true, true, oa3⟩ : Oq), (⟨0, 0, true, true, oa3⟩ : Oq)])).1) 3 .grown ((appL (lS a3n) (b8 [(⟨0, 0, true, true, oa3⟩ : Oq), (⟨0, 0, true, true, oa3⟩ : Oq)])).1.isEmpty)]) (l' := [vc eI 111 qi118 ([] : List Int) 3 .grown (([] : List Int).isEmpty)]) (congrArg (fun z : List Int × Flt × List (Fm × Ts) => [Ch.den (vc eI 111 qi118 z.1 3 .grown z.1.isEmpty)]) b13)) [4] [] 113 fun _ _ => gh (b6 (l := [.blk 112 (q119 112) [.i ((appL (lS a3n) (b8 [(⟨0, 0, true, true, oa3⟩ : Oq), (⟨0, 0, true, true, oa3⟩ : Oq)])).2.1.e), .i ((appL (lS a3n) (b8 [(⟨0, 0, true, true, oa3⟩ : Oq), (⟨0, 0, true, true, oa3⟩ : Oq)])).2.1.a), .t ((appL (lS a3n) (b8 [(⟨0, 0, true, true, oa3⟩ : Oq), (⟨0, 0, true, true, oa3⟩ : Oq)])).2.1.t), .i ((appL (lS a3n) (b8 [(⟨0, 0, true, true, oa3⟩ : Oq), (⟨0, 0, true, true, oa3⟩ : Oq)])).2.1.r), .t ((appL (lS a3n) (b8 [(⟨0, 0, true, true, oa3⟩ : Oq), (⟨0, 0, true, true, oa3⟩ : Oq)])).2.1.c)] 74 .own]) (l' := [.blk 112 (q119 112) [.i ((⟨6, 1, ⟨#[108, 97, 110, 100]⟩, 0, ⟨#[]⟩⟩ : Flt).e), .i ((⟨6, 1, ⟨#[108, 97, 110, 100]⟩, 0, ⟨#[]⟩⟩ : Flt).a), .t ((⟨6, 1, ⟨#[108, 97, 110, 100]⟩, 0, ⟨#[]⟩⟩ : Flt).t), .i ((⟨6, 1, ⟨#[108, 97, 110, 100]⟩, 0, ⟨#[]⟩⟩ : Flt).r), .t ((⟨6, 1, ⟨#[108, 97, 110, 100]⟩, 0, ⟨#[]⟩⟩ : Flt).c)] 74 .own]) (congrArg (fun z : List Int × Flt × List (Fm × Ts) => [Ch.den (.blk 112 (q119 112) [.i z.2.1.e, .i z.2.1.a, .t z.2.1.t, .i z.2.1.r, .t z.2.1.c] 74 .own)]) b13)) [2] [] 113 fun _ _ => g0 fun _ => gh (e7 113 5 eOq.f eOq.d 84 .grown) [] [] 114 fun _ _ => gh (p5 (I := oqA)) [] [] 114 fun _ _ => cl (@U6 _ q103 20 ps103 (lS a1I) 1 0 0 true ([] : List Oq) 84 .grown (fun _ => rfl) (b8Q (by decide)) (by decide) (by decide) (fun i hi => absurd hi (Nat.not_lt_zero i))) [4, 1, 0] [(1, 100), (3, 113), (7, 114)] 115 fun qi121 _ => g0 fun q122 => gh (n7 (q := q103) (k := (20 + 2 * ([] : List Oq).length)) (k' := 30) (ps := ps103) (l := (a1y (lS a1I) (b8 ([] : List Oq)))) (E := []) (by simp only [length_cons, length_nil]; omega)) [1] [] 116 fun _ _ => gh (b6 (l := [.as (ddA q103 30 ps103 (a1y (lS a1I) (b8 ([] : List Oq))))]) (l' := [.as (ddA q103 30 ps103 (lS a1I))]) (congrArg (fun z : List Int × Flt × List (Fm × Ts) => [Ch.den (.as (ddA q103 30 ps103 z.2.2))]) c13)) [0] [] 116 fun _ _ => gh (b6 (l := [vc eI 114 qi121 ((appL (lS a1I) (b8 ([] : List Oq))).1) 3 .grown ((appL (lS a1I) (b8 ([] : List Oq))).1.isEmpty)]) (l' := [vc eI 114 qi121 ([] : List Int) 3 .grown (([] : List Int).isEmpty)]) (congrArg (fun z : List Int × Flt × List (Fm × Ts) => [Ch.den (vc eI 114 qi121 z.1 3 .grown z.1.isEmpty)]) c13)) [4] [] 116 fun _ _ => gh (b6 (l := [.blk 115 (q122 115) [.i ((appL (lS a1I) (b8 ([] : List Oq))).2.1.e), .i ((appL (lS a1I) (b8 ([] : List Oq))).2.1.a), .t ((appL (lS a1I) (b8 ([] : List Oq))).2.1.t), .i ((appL (lS a1I) (b8 ([] : List Oq))).2.1.r), .t ((appL (lS a1I) (b8 ([] : List Oq))).2.1.c)] 74 .own]) (l' := [.blk 115 (q122 115) [.i ((⟨5, 0, ⟨#[]⟩, 0, ⟨#[]⟩⟩ : Flt).e), .i ((⟨5, 0, ⟨#[]⟩, 0, ⟨#[]⟩⟩ : Flt).a), .t ((⟨5, 0, ⟨#[]⟩, 0, ⟨#[]⟩⟩ : Flt).t), .i ((⟨5, 0, ⟨#[]⟩, 0, ⟨#[]⟩⟩ : Flt).r), .t ((⟨5, 0, ⟨#[]⟩, 0, ⟨#[]⟩⟩ : Flt).c)] 74 .own]) (congrArg (fun z : List Int × Flt × List (Fm × Ts) => [Ch.den (.blk 115 (q122 115) [.i z.2.1.e, .i z.2.1.a, .t z.2.1.t, .i z.2.1.r, .t z.2.1.c] 74 .own)]) c13)) [2] [] 116 fun _ _ => cl (a5o ) [] [] 116 fun _ _ => goN 1 (fun _ => trivial) fun _ => goN 5 (fun _ => trivial) fun _ => sv 52 (v := .o (.cb (okF.e == 0))) (v' := .o (.v (.bool true))) (congrArg Value.bool (by decide +kernel)) <| goN 5 (fun _ => trivial) fun _ => sv 57 (v := .o (.cb (((([0] : List Int).length : Nat) : Int) == 1))) (v' := .o (.v (.bool true))) (congrArg Value.bool (by decide +kernel)) <| goN 6 (fun _ => (o4 (by decide +kernel : (0 : Int) <= 0) (by decide +kernel : (0 : Int) < ((([0] : List Int).length : Nat) : Int)) (rfl : ([0] : List Int).isEmpty = false) (by decide +kernel : 0 < ([0] : List Int).length))) fun _ => sv 63 (v := .o (.cb ((([0] : List Int).getD 0 eI.d) == 0))) (v' := .o (.v (.bool true))) (congrArg Value.bool (by decide +kernel)) <| goN 5 (fun _ => trivial) fun _ => sv 68 (v := .o (.cb ((⟨6, 1, ⟨#[108, 97, 110, 100]⟩, 0, ⟨#[]⟩⟩ : Flt).e == 6))) (v' := .o (.v (.bool true))) (congrArg Value.bool (by decide +kernel)) <| goN 5 (fun _ => trivial) fun _ => sv 73 (v := .o (.cb ((⟨6, 1, ⟨#[108, 97, 110, 100]⟩, 0, ⟨#[]⟩⟩ : Flt).a == 1))) (v' := .o (.v (.bool true))) (congrArg Value.bool (by decide +kernel)) <| goN 5 (fun _ => trivial) fun _ => sv 78 (v := .o (.cb (a7 ((⟨6, 1, ⟨#[108, 97, 110, 100]⟩, 0, ⟨#[]⟩⟩ : Flt).t) ⟨#[108, 97, 110, 100]⟩))) (v' := .o (.v (.bool true))) (congrArg Value.bool (by decide +kernel)) <| g0 fun _ => rtv trivial (()) trivial [] (.o (.cb ((⟨5, 0, ⟨#[]⟩, 0, ⟨#[]⟩⟩ : Flt).e == 5))) (congrArg Value.bool (by decide +kernel))
theorem a37 {qa ca : Nat} {za : Bool} {xsa : List Oq} {ta : TypeId} {ma : Md} {qb cb : Nat} {zb : Bool} {xsb : List Oq} {tb : TypeId} {mb : Md} (hza : za = true -> xsa.length = 0) (hxoa : ∀ i, i < xsa.length -> oP (xsa.getD i dOq)) (hzb : zb = true -> xsb.length = 0) (hxob : ∀ i, i < xsb.length -> oP (xsb.getD i dOq)) : K1 nO 7 [.o (.s 1 qa 5 0 xsa.length ca za), .o (.s 2 qb 5 0 xsb.length cb zb)] [vc eOq 1 qa xsa ta ma za, .as (e6 oqA xsa), vc eOq 2 qb xsb tb mb zb, .as (e6 oqA xsb)] (.o (.v (.bool true))) := by
 refine fs 100 fun B => g0 fun _ => cl (a5g ) [] [] 100 fun _ _ => g0 fun _ => g0 fun _ => cdF rfl <| cl (V7 ) [] [(1, 100), (2, 101)] 102 fun ⟨q107, w107, ps107⟩ hpl => g0 fun _ => g0 fun _ => cl (@a3w _ qa ca za xsa ta ma 20 hza (by decide) hxoa) [2, 3] [(2, 102)] 103 (fun ⟨q2110, ys110⟩ h110 => ?_)
 try dsimp only at h110
 obtain ⟨hka, hoa⟩ := h110
 refine cl (a7a (q := q107) (k := 0) (ps := ps107) (l := (sL 4)) (w := w107) (n := 0) (qo := q2110) (co := ys110.length) (zo := ys110.isEmpty) (xs := ys110) (to := 84) (mo := .grown) (fun h => by simpa using h) b7T (by have := a2l hka; omega) (by have := a2l hka; omega) hoa) [4, 5, 0, 1] [(1, 100), (2, 101), (3, 102)] 103 fun _ _ => ?_
 have hla := a2l hka
 have xu := b8u (fillL (sL 4) (b8 ys110))
 obtain ⟨u, eu⟩ := xu
 refine gh (n7 (q := q107) (k := (0 + 2 * ys110.length)) (k' := 40) (ps := ps107) (l := (fillL (sL 4) (b8 ys110))) (E := []) (by omega)) [0] [] 103 fun _ _ => gh (b6 (l := [.as (ddA q107 40 ps107 (fillL (sL 4) (b8 ys110)))]) (l' := [.as (ddA q107 40 ps107 u)]) (congrArg (fun z => [Ch.den (.as (ddA q107 40 ps107 z))]) eu)) [0] [] 103 fun _ _ => gh (b6 (l := [.as (dbA w107 (fillL (sL 4) (b8 ys110)))]) (l' := [.as (dbA w107 u)]) (congrArg (fun z => [Ch.den (.as (dbA w107 z))]) eu)) [1] [] 103 fun _ _ => ?_
 have hu : stP u 20 := eu ▸ (st0.fill (n := 0) (by omega))
 refine g0 fun _ => cl (@a3w _ qb cb zb xsb tb mb 45 hzb (by decide) hxob) [6, 7] [(1, 2), (2, 103)] 104 (fun ⟨q2114, ys114⟩ h114 => ?_)
 try dsimp only at h114
 obtain ⟨hkb, hob⟩ := h114
 refine g0 fun _ => ?_
 have hlb := a2l hkb
 refine g0 fun _ => cl (@U6 _ q107 40 ps107 u 20 q2114 ys114.length ys114.isEmpty ys114 84 .grown (fun h => by simpa using h) hu.b (by omega) (by omega) hob) [5, 0, 1] [(1, 100), (3, 103), (7, 104)] 105 fun qi117 _ => g0 fun q118 => g0 fun _ => cl (@a6X _ w107 u 20 q2114 ys114.length ys114.isEmpty ys114 84 .grown (fun h => by simpa using h) hu.b (by omega) hob) [7, 2, 3] [(1, 101), (3, 103), (7, 106)] 107 fun qi120 _ => g0 fun q121 => g0 fun _ => cl (@a43 _ ((appL u (b8 ys114)).2.1)) [] [] 108 fun _ _ => goN 1 (fun _ => trivial) fun _ => g0 fun _ => cl (@b0b _ qi117 ((appL u (b8 ys114)).1.length) ((appL u (b8 ys114)).1.isEmpty) ((appL u (b8 ys114)).1) 3 .grown qi120 ((appL u (b8 ys114)).1.length) ((appL u (b8 ys114)).1.isEmpty) 3 .grown (fun h => by simpa using h) (fun h => by simpa using h) (b5Z (by omega))) [7, 4] [(1, 104), (2, 106)] 108 fun _ _ => goN 2 (fun _ => trivial) fun _ => g0 fun _ => cl (@a6T _ q107 (40 + 2 * ys114.length) ps107 (a1y u (b8 ys114)) w107 (by omega) (hu.app (Nat.le_refl _)).N) [7, 3] [(1, 100), (2, 101)] 108 fun _ _ => g0 fun _ => rt trivial (()) trivial [12, 13, 8, 9]
end Go.Proofs.YtagidoadfajpgaaGreat
