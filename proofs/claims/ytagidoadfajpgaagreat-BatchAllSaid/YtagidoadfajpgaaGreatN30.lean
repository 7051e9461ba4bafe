/-
  Xi.
-/
import Derived.Test.YtagidoadfajpgaaGreatN29
open List (length_cons getD_eq_getElem?_getD length_map getElem?_eq_getElem set_getElem_self map_set getElem_map take_of_length_le)
namespace Go.Proofs.YtagidoadfajpgaaGreat
set_option maxHeartbeats 4000000
open Go.Abs
variable {nO : Nat}
set_option maxRecDepth 100000
attribute [local irreducible] GP ruP ruN nxP acS gst cdP loP j6 m9 m8 enP caA n5 lgP agN
def dFT : Fm × Ts := (⟨⟨#[]⟩, ⟨#[]⟩, [], []⟩, ⟨[], 0⟩)
def tix (l : List (Fm × Ts)) (s : ByteArray) : Int := e9 (l.map Prod.fst) (fun F => a7 F.name s)
open Classical in
noncomputable def opT (F : Fm) (s : Ts) (o : Opn) : Ts := if o.kind = 1 then insS F s o.vs else if o.kind = 2 then a1l s o.id else if o.vs.length = 1 then a0g F s o.id o.col (o.vs.getD 0 eV.d) else s
noncomputable def opL (l : List (Fm × Ts)) (o : Opn) : List (Fm × Ts) := if tix l o.tab = -1 then l else l.set (tix l o.tab).toNat ((l.getD (tix l o.tab).toNat dFT).1, opT (l.getD (tix l o.tab).toNat dFT).1 (l.getD (tix l o.tab).toNat dFT).2 o)
noncomputable def fillL (l : List (Fm × Ts)) (ops : List Opn) : List (Fm × Ts) := ops.foldl opL l
def bnd (l : List (Fm × Ts)) (n : Nat) : Prop := ∀ (j : Nat) (F : Fm) (s : Ts), l[j]? = some (F, s) -> s.next <= n /\ s.rows.length <= n
theorem b2g {l : List (Fm × Ts)} {o : Opn} (h : tix l o.tab = -1) : opL l o = l := if_pos h
theorem a4L {l : List (Fm × Ts)} {o : Opn} {j : Nat} {F : Fm} {s : Ts} (h : tix l o.tab = (j : Int)) (e : l[j]? = some (F, s)) : opL l o = l.set j (F, opT F s o) := by
 have e2 : l.getD j dFT = (F, s) := by rw [getD_eq_getElem?_getD, e]; rfl
 unfold opL
 rw [if_neg (by rw [h]; omega), h, Int.toNat_natCast, e2]
theorem F6 {l : List (Fm × Ts)} {s : ByteArray} : tix l s = -1 ∨ ∃ j F t, l[j]? = some (F, t) /\ tix l s = ((j : Nat) : Int) := by
 rcases m0 (l := l.map Prod.fst) (p := fun F => a7 F.name s) with h | ⟨j, hj, h⟩
 ·exact .inl h
 ·rw [length_map] at hj
  exact .inr ⟨j, _, _, getElem?_eq_getElem hj, h⟩
theorem a87 {F : Fm} {s : Ts} {o : Opn} (h : o.kind = 1) : opT F s o = insS F s o.vs := if_pos h
theorem a88 {F : Fm} {s : Ts} {o : Opn} (h : o.kind = 2) : opT F s o = a1l s o.id := (if_neg (by omega)).trans (if_pos h)
theorem a86 {F : Fm} {s : Ts} {o : Opn} (h1 : o.kind ≠ 1) (h2 : o.kind ≠ 2) (h : o.vs.length = 1) : opT F s o = a0g F s o.id o.col (o.vs.getD 0 eV.d) := (if_neg h1).trans ((if_neg h2).trans (if_pos h))
theorem b6W {F : Fm} {s : Ts} {o : Opn} (h1 : o.kind ≠ 1) (h2 : o.kind ≠ 2) (h : o.vs.length ≠ 1) : opT F s o = s := (if_neg h1).trans ((if_neg h2).trans (if_neg h))
theorem b6X {F : Fm} {s : Ts} {o : Opn} {n : Nat} (h : s.next <= n /\ s.rows.length <= n) : (opT F s o).next <= n + 1 /\ (opT F s o).rows.length <= n + 1 := by
 unfold opT
 split
 ·have := b5g (F := F) (s := s) (vs := o.vs); omega
 split
 ·have := b5K (s := s) (id := o.id); omega
 split
 ·have := b4H (F := F) (s := s) (id := o.id) (sn := o.col) (v := o.vs.getD 0 eV.d); omega
 ·omega
theorem a1b {l : List (Fm × Ts)} {n : Nat} {o : Opn} (h : bnd l n) : bnd (opL l o) (n + 1) := by
 intro j F s e
 rcases F6 (l := l) (s := o.tab) with k | ⟨i, G, t, e2, k⟩
 ·rw [b2g k] at e
  have := h j F s e; omega
 ·rw [a4L k e2, List.getElem?_set] at e
  split at e
  ·split at e
   ·cases e; exact b6X (h i _ t e2)
   ·cases e
  ·have := h j F s e; omega
theorem b3Y {l : List (Fm × Ts)} {o : Opn} : (opL l o).map Prod.fst = l.map Prod.fst := by
 rcases F6 (l := l) (s := o.tab) with k | ⟨i, G, t, e2, k⟩
 ·rw [b2g k]
 ·rw [a4L k e2, map_set]
  obtain ⟨h1, h2⟩ := List.getElem?_eq_some_iff.1 e2
  have e3 : G = (l.map Prod.fst)[i]'(by rw [length_map]; exact h1) := by rw [getElem_map, h2]
  rw [e3]; exact set_getElem_self _
theorem b2W {l : List (Fm × Ts)} {ops : List Opn} : (fillL l ops).map Prod.fst = l.map Prod.fst := by
 induction ops generalizing l with
 | nil => rfl
 | cons o ops ih => exact (ih (l := opL l o)).trans b3Y
theorem b3s {l : List (Fm × Ts)} {ops : List Opn} {n : Nat} (h : bnd l n) : bnd (fillL l ops) (n + ops.length) := by
 induction ops generalizing l n with
 | nil => exact h
 | cons o ops ih =>
  have := ih (a1b (o := o) h)
  rw [length_cons, show n + (ops.length + 1) = n + 1 + ops.length by omega]; exact this
theorem L8 {l u : List (Fm × Ts)} {xs : List Oq} {i : Nat} (h : u = fillL l ((b8 xs).take i)) (hi : i < xs.length) : opL u (xs.getD i dOq).o = fillL l ((b8 xs).take (i + 1)) := by
 rw [a3v hi, h]; unfold fillL; rw [List.foldl_append]; rfl
theorem a3S {l : List (Fm × Ts)} {y : Dr} (h : dbP l y) {s : ByteArray} : e9 y.xs (fun x => a7 x.F.name s) = tix l s := by
 rw [Y2, b2p h]; rfl
theorem S7 {q k : Nat} {ps : List Nat} {l : List (Fm × Ts)} {j : Nat} {F : Fm} {s : Ts} {qv cv : Nat} {zv : Bool} {vs : List Va} {tv : TypeId} {mv : Md} (e : l[j]? = some (F, s)) (hk : k < 70000) (hzv : zv = true -> vs.length = 0) (hlv : vs.length < 1000000) (hn : s.next < 65536) (hsz : ∀ i, i < vs.length -> (vs.getD i eV.d).s.size < 1000000000) : Ctr Tryz.prog nO 60 [.o (.p 1 (ps.getD j 0) 0 0 0), .o (.s 6 qv 3 0 vs.length cv zv)] [.as (ddA q k ps l), vc eV 6 qv vs tv mv zv] (Unit) (fun _ => True) (fun r => .t [(false, [.i (a3J F s vs)]), (false, [.i (a3K F vs)])]) (fun r => [.as (ddA q (k + 2) ps (l.set j (F, (insS F s vs)))), vc eV 6 qv vs tv mv zv]) :=
 E5 (a6k e (Nat.le_succ k) (b1q hk hzv hlv hn hsz)) fun _ _ => n7 (by omega)
theorem a2J {q k : Nat} {ps : List Nat} {l : List (Fm × Ts)} {j : Nat} {F : Fm} {s : Ts} {id : Int} (e : l[j]? = some (F, s)) (hk : k < 70000) (hn : s.next <= 65536) : Ctr Tryz.prog nO 66 [.o (.p 1 (ps.getD j 0) 0 0 0), .o (.i id)] [.as (ddA q k ps l)] (Unit) (fun _ => True) (fun r => .o (.cb (s.is id))) (fun r => [.as (ddA q (k + 2) ps (l.set j (F, (a1l s id))))]) :=
 a6k e (by omega) (a5v hk hn)
theorem a2E {q k : Nat} {ps : List Nat} {l : List (Fm × Ts)} {j : Nat} {F : Fm} {s : Ts} {id : Int} {sn : ByteArray} {v : Va} (e : l[j]? = some (F, s)) (hk : k < 70000) (hs : v.s.size < 1000000000) : Ctr Tryz.prog nO 68 [.o (.p 1 (ps.getD j 0) 0 0 0), .o (.i id), .o (.t sn), .a [.i v.k, .i v.n, .t v.s]] [.as (ddA q k ps l)] (Unit) (fun _ => True) (fun r => .o (.i (a2Y F s id sn v))) (fun r => [.as (ddA q (k + 2) ps (l.set j (F, (a0g F s id sn v))))]) :=
 a6k e (by omega) (a5q hk hs)
theorem a7a {q k : Nat} {ps : List Nat} {l : List (Fm × Ts)} {w n qo co : Nat} {zo : Bool} {xs : List Oq} {to : TypeId} {mo : Md} (hzo : zo = true -> xs.length = 0) (hB : bnd l n) (hn : n + xs.length < 60000) (hk : k + 2 * xs.length < 70000) (hxo : ∀ i, i < xs.length -> oB (xs.getD i dOq)) : Ctr Tryz.prog nO 22 [.o (.p 1 q 0 0 0), .o (.p 2 w 0 0 0), .o (.s 3 qo 5 0 xs.length co zo)] [.as (ddA q k ps l), .as (dbA w l), vc eOq 3 qo xs to mo zo, .as (e6 oqA xs)] (Unit) (fun _ => True) (fun r => .t []) (fun r => [.as (ddA q (k + 2 * xs.length) ps (fillL l (b8 xs))), .as (dbA w (fillL l (b8 xs))), vc eOq 3 qo xs to mo zo, .as (e6 oqA xs)]) := by
 refine fs 100 fun B => g0 fun _ => lp2 (Nat) (List (Fm × Ts)) [0, 1, 2] (fun r => [(6, .o (.i (r.1 : Int)))]) [2, 3] (fun r => [.as (ddA q (k + 2 * r.1) ps r.2), .as (dbA w r.2)]) 120 (fun r => r.1 <= xs.length /\ r.2 = fillL l ((b8 xs).take r.1) /\ bnd r.2 (n + r.1)) (fun r => xs.length - r.1) (⟨0, l⟩) ⟨Nat.zero_le _, rfl, hB⟩ [0, 1] (fun i u hx ag102 => ?_)
 try dsimp only at hx
 obtain ⟨hi, hu, hub⟩ := hx
 refine g0 fun _ => cdD ((i : Int) < (xs.length : Int)) (fun h1 => ?_) (fun h1 => ?_)
 ·refine gh (f8 (I := oqA) (l := xs) i dOq (by omega)) [3] [] 120 fun _ _ => gh (a1t (c := vc eV 941 ((xs.getD i dOq).q) ((xs.getD i dOq).o.vs) 26 .imm ((xs.getD i dOq).y)) (I := oqA (xs.getD i dOq))) [0] [] 120 fun _ _ => gh (b6 (l := [vc eV 941 ((xs.getD i dOq).q) ((xs.getD i dOq).o.vs) 26 .imm ((xs.getD i dOq).y)]) (l' := [vc eV 941 ((xs.getD i dOq).q) ((xs.getD i dOq).o.vs) 26 .imm ((xs.getD i dOq).z)]) (by rw [(hxo i (by omega)).yz])) [0] [] 120 fun _ _ => go (fun q104 => (o4 (nz i) (by omega : (i : Int) < (xs.length : Int)) (zf hzo (show 0 < xs.length by omega) : zo = false) (by omega : i < xs.length))) (fun q104 => ?_)
  rcases F6 (l := u) (s := (xs.getD i dOq).o.tab) with hn | ⟨j, F, s, e, hn⟩
  ·refine gh (f9 (φ := dbP u) (L := dbL w)) [4] [(1, 2), (2, 952), (3, 953), (4, 954)] 121 fun y hy => g0 fun _ => cl (a2N (q := q) (k := (k + 2 * i)) (ps := ps) (l := u) (s := (xs.getD i dOq).o.tab) hn) [8] [] 121 fun _ _ => g0 fun _ => cl (@o7 _ y.qS y.xs y.mS ((xs.getD i dOq).o.tab) (by have := hy.le; omega)) [2] [(2, 952)] 121 fun _ _ => g0 fun _ => sv 9 (v := .o (.i (e9 y.xs (fun x => a7 x.F.name ((xs.getD i dOq).o.tab))))) (v' := .o (.i (-1 : Int))) (congrArg (Value.int .i64) ((a3S hy).trans hn)) <| gh (d5 (φ := dbP u) (L := dbL w) y hy) [2, 0, 3, 4, 5] [] 121 fun _ _ => g0 fun _ => cdT rfl <| go (fun _ => (o2 (by omega : -9223372036854775808 <= (i : Int) + 1) (by omega : (i : Int) + 1 < 9223372036854775808))) fun _ => gh (b6 (l := [vc eV 941 ((xs.getD i dOq).q) ((xs.getD i dOq).o.vs) 26 .imm ((xs.getD i dOq).z)]) (l' := [vc eV 941 ((xs.getD i dOq).q) ((xs.getD i dOq).o.vs) 26 .imm ((xs.getD i dOq).y)]) (by rw [(hxo i (by omega)).yz])) [3] [] 121 fun _ _ => gh (x4 (c := vc eV 941 ((xs.getD i dOq).q) ((xs.getD i dOq).o.vs) 26 .imm ((xs.getD i dOq).y)) (I := oqA (xs.getD i dOq))) [0] [] 121 fun _ _ => gh (j9 (I := oqA) (l := xs) i dOq (by omega)) [0, 4] [] 121 fun _ _ => ?_
   have eo : u = opL u (xs.getD i dOq).o := (b2g hn).symm
   refine gh (b6 (l := [.as (ddA q (k + 2 * i) ps u)]) (l' := [.as (ddA q (k + 2 * i) ps (opL u (xs.getD i dOq).o))]) (congrArg (fun z => [Ch.den (.as (ddA q (k + 2 * i) ps z))]) eo)) [2] [] 121 fun _ _ => gh (n7 (q := q) (k := k + 2 * i) (k' := k + 2 * (i + 1)) (ps := ps) (l := opL u (xs.getD i dOq).o) (E := []) (by omega)) [0] [] 121 fun _ _ => gh (b6 (l := [.as (dbA w u)]) (l' := [.as (dbA w (opL u (xs.getD i dOq).o))]) (congrArg (fun z => [Ch.den (.as (dbA w z))]) eo)) [2] [] 121 fun _ _ => ag102 _ _ (⟨i + 1, opL u (xs.getD i dOq).o⟩) (by first | omega | (simp only; omega)) (by dsimp only; exact ⟨by omega, L8 hu (by omega), a1b hub⟩) [1, 0, 4, 2] (by kernel_rfl) (by kernel_rfl)
  ·have hb := hub j F s e
   refine gh (f9 (φ := dbP u) (L := dbL w)) [4] [(1, 2), (2, 952), (3, 953), (4, 954)] 121 fun y hy => g0 fun _ => cl (z8 (q := q) (k := (k + 2 * i)) (ps := ps) (l := u) (j := j) (s := (xs.getD i dOq).o.tab) (List.getElem?_eq_some_iff.1 e).1 hn) [8] [(7, 121)] 122 fun _ _ => ?_
   refine g0 fun _ => cl (@o7 _ y.qS y.xs y.mS ((xs.getD i dOq).o.tab) (by have := hy.le; omega)) [2] [(2, 952)] 122 fun _ _ => g0 fun _ => sv 9 (v := .o (.i (e9 y.xs (fun x => a7 x.F.name ((xs.getD i dOq).o.tab))))) (v' := .o (.i (j : Int))) (congrArg (Value.int .i64) ((a3S hy).trans hn)) <| gh (d5 (φ := dbP u) (L := dbL w) y hy) [2, 0, 3, 4, 5] [] 122 fun _ _ => g0 fun _ => cdF (b := decide ((j : Int) < 0)) (by simp) <| g0 fun _ => cdE ((xs.getD i dOq).o.kind) 1 (fun h3 => ?_) (fun h3 => ?_)
   ·refine g0 fun _ => cl (@S7 _ q (k + 2 * i) ps u j F s ((xs.getD i dOq).q) ((xs.getD i dOq).c) ((xs.getD i dOq).z) ((xs.getD i dOq).o.vs) 26 .imm (by assumption) (by omega) (hxo i (by omega)).z (hxo i (by omega)).vl (by omega) (hxo i (by omega)).sz) [1, 3] [(1, 121), (6, 941)] 122 fun _ _ => g0 fun _ => cl (a6h (q := w) (l := u) (t := j) (F := F) (s := s) (qv := (xs.getD i dOq).q) (cv := (xs.getD i dOq).c) (zv := (xs.getD i dOq).z) (vs := (xs.getD i dOq).o.vs) (tv := 26) (mv := .imm) (by assumption) (hxo i (by omega)).z (hxo i (by omega)).vl (hxo i (by omega)).sz (by omega) (by omega)) [2, 1] [(6, 941)] 122 fun _ _ => go (fun _ => (o2 (by omega : -9223372036854775808 <= (i : Int) + 1) (by omega : (i : Int) + 1 < 9223372036854775808))) fun _ => gh (b6 (l := [vc eV 941 ((xs.getD i dOq).q) ((xs.getD i dOq).o.vs) 26 .imm ((xs.getD i dOq).z)]) (l' := [vc eV 941 ((xs.getD i dOq).q) ((xs.getD i dOq).o.vs) 26 .imm ((xs.getD i dOq).y)]) (by rw [(hxo i (by omega)).yz])) [1] [] 122 fun _ _ => gh (x4 (c := vc eV 941 ((xs.getD i dOq).q) ((xs.getD i dOq).o.vs) 26 .imm ((xs.getD i dOq).y)) (I := oqA (xs.getD i dOq))) [0] [] 122 fun _ _ => gh (j9 (I := oqA) (l := xs) i dOq (by omega)) [0, 4] [] 122 fun _ _ => ?_
    have eo : (u.set j (F, (insS F s ((xs.getD i dOq).o.vs)))) = opL u (xs.getD i dOq).o := ((a4L hn e).trans (congrArg (fun z => u.set j (F, z)) (a87 h3))).symm
    refine gh (b6 (l := [.as (ddA q ((k + 2 * i) + 2) ps (u.set j (F, (insS F s ((xs.getD i dOq).o.vs)))))]) (l' := [.as (ddA q (k + 2 * i + 2) ps (opL u (xs.getD i dOq).o))]) (congrArg (fun z => [Ch.den (.as (ddA q (k + 2 * i + 2) ps z))]) eo)) [2] [] 122 fun _ _ => gh (n7 (q := q) (k := k + 2 * i + 2) (k' := k + 2 * (i + 1)) (ps := ps) (l := opL u (xs.getD i dOq).o) (E := []) (by omega)) [0] [] 122 fun _ _ => gh (b6 (l := [.as (dbA w (u.set j (F, (insS F s ((xs.getD i dOq).o.vs)))))]) (l' := [.as (dbA w (opL u (xs.getD i dOq).o))]) (congrArg (fun z => [Ch.den (.as (dbA w z))]) eo)) [2] [] 122 fun _ _ => ag102 _ _ (⟨i + 1, opL u (xs.getD i dOq).o⟩) (by first | omega | (simp only; omega)) (by dsimp only; exact ⟨by omega, L8 hu (by omega), a1b hub⟩) [1, 0, 4, 2] (by kernel_rfl) (by kernel_rfl)
   ·refine g0 fun _ => cdE ((xs.getD i dOq).o.kind) 2 (fun h4 => ?_) (fun h4 => ?_)
    ·refine g0 fun _ => cl (@a2J _ q (k + 2 * i) ps u j F s ((xs.getD i dOq).o.id) (by assumption) (by omega) (by omega)) [1] [(1, 121)] 122 fun _ _ => g0 fun _ => cl (a6j (q := w) (l := u) (t := j) (F := F) (s := s) (id := (xs.getD i dOq).o.id) (by assumption)) [1] [] 122 fun _ _ => go (fun _ => (o2 (by omega : -9223372036854775808 <= (i : Int) + 1) (by omega : (i : Int) + 1 < 9223372036854775808))) fun _ => gh (b6 (l := [vc eV 941 ((xs.getD i dOq).q) ((xs.getD i dOq).o.vs) 26 .imm ((xs.getD i dOq).z)]) (l' := [vc eV 941 ((xs.getD i dOq).q) ((xs.getD i dOq).o.vs) 26 .imm ((xs.getD i dOq).y)]) (by rw [(hxo i (by omega)).yz])) [3] [] 122 fun _ _ => gh (x4 (c := vc eV 941 ((xs.getD i dOq).q) ((xs.getD i dOq).o.vs) 26 .imm ((xs.getD i dOq).y)) (I := oqA (xs.getD i dOq))) [0] [] 122 fun _ _ => gh (j9 (I := oqA) (l := xs) i dOq (by omega)) [0, 4] [] 122 fun _ _ => ?_
     have eo : (u.set j (F, (a1l s ((xs.getD i dOq).o.id)))) = opL u (xs.getD i dOq).o := ((a4L hn e).trans (congrArg (fun z => u.set j (F, z)) (a88 h4))).symm
     refine gh (b6 (l := [.as (ddA q ((k + 2 * i) + 2) ps (u.set j (F, (a1l s ((xs.getD i dOq).o.id)))))]) (l' := [.as (ddA q (k + 2 * i + 2) ps (opL u (xs.getD i dOq).o))]) (congrArg (fun z => [Ch.den (.as (ddA q (k + 2 * i + 2) ps z))]) eo)) [2] [] 122 fun _ _ => gh (n7 (q := q) (k := k + 2 * i + 2) (k' := k + 2 * (i + 1)) (ps := ps) (l := opL u (xs.getD i dOq).o) (E := []) (by omega)) [0] [] 122 fun _ _ => gh (b6 (l := [.as (dbA w (u.set j (F, (a1l s ((xs.getD i dOq).o.id)))))]) (l' := [.as (dbA w (opL u (xs.getD i dOq).o))]) (congrArg (fun z => [Ch.den (.as (dbA w z))]) eo)) [2] [] 122 fun _ _ => ag102 _ _ (⟨i + 1, opL u (xs.getD i dOq).o⟩) (by first | omega | (simp only; omega)) (by dsimp only; exact ⟨by omega, L8 hu (by omega), a1b hub⟩) [1, 0, 4, 2] (by kernel_rfl) (by kernel_rfl)
    ·refine g0 fun _ => cdE (((xs.getD i dOq).o.vs.length : Nat) : Int) 1 (fun h5 => ?_) (fun h5 => ?_)
     ·refine go (fun _ => (o4 (by omega : (0 : Int) <= 0) (by omega : (0 : Int) < (((xs.getD i dOq).o.vs.length : Nat) : Int)) (zf (hxo i (by omega)).z (show 0 < (xs.getD i dOq).o.vs.length by omega) : (xs.getD i dOq).z = false) (by omega : 0 < ((xs.getD i dOq).o.vs).length))) fun _ => cl (@a2E _ q (k + 2 * i) ps u j F s ((xs.getD i dOq).o.id) ((xs.getD i dOq).o.col) (((xs.getD i dOq).o.vs).getD 0 eV.d) (by assumption) (by omega) ((hxo i (by omega)).sz 0 (by omega))) [1] [(1, 121)] 122 fun _ _ => go (fun _ => (o4 (by omega : (0 : Int) <= 0) (by omega : (0 : Int) < (((xs.getD i dOq).o.vs.length : Nat) : Int)) (zf (hxo i (by omega)).z (show 0 < (xs.getD i dOq).o.vs.length by omega) : (xs.getD i dOq).z = false) (by omega : 0 < ((xs.getD i dOq).o.vs).length))) fun _ => cl (a6f (q := w) (l := u) (t := j) (F := F) (s := s) (id := (xs.getD i dOq).o.id) (sn := (xs.getD i dOq).o.col) (v := (((xs.getD i dOq).o.vs).getD 0 eV.d)) (by assumption) ((hxo i (by omega)).sz 0 (by omega))) [1] [] 122 fun _ _ => go (fun _ => (o2 (by omega : -9223372036854775808 <= (i : Int) + 1) (by omega : (i : Int) + 1 < 9223372036854775808))) fun _ => gh (b6 (l := [vc eV 941 ((xs.getD i dOq).q) ((xs.getD i dOq).o.vs) 26 .imm ((xs.getD i dOq).z)]) (l' := [vc eV 941 ((xs.getD i dOq).q) ((xs.getD i dOq).o.vs) 26 .imm ((xs.getD i dOq).y)]) (by rw [(hxo i (by omega)).yz])) [3] [] 122 fun _ _ => gh (x4 (c := vc eV 941 ((xs.getD i dOq).q) ((xs.getD i dOq).o.vs) 26 .imm ((xs.getD i dOq).y)) (I := oqA (xs.getD i dOq))) [0] [] 122 fun _ _ => gh (j9 (I := oqA) (l := xs) i dOq (by omega)) [0, 4] [] 122 fun _ _ => ?_
      have eo : (u.set j (F, (a0g F s ((xs.getD i dOq).o.id) ((xs.getD i dOq).o.col) (((xs.getD i dOq).o.vs).getD 0 eV.d)))) = opL u (xs.getD i dOq).o := ((a4L hn e).trans (congrArg (fun z => u.set j (F, z)) (a86 h3 h4 (by omega)))).symm
      refine gh (b6 (l := [.as (ddA q ((k + 2 * i) + 2) ps (u.set j (F, (a0g F s ((xs.getD i dOq).o.id) ((xs.getD i dOq).o.col) (((xs.getD i dOq).o.vs).getD 0 eV.d)))))]) (l' := [.as (ddA q (k + 2 * i + 2) ps (opL u (xs.getD i dOq).o))]) (congrArg (fun z => [Ch.den (.as (ddA q (k + 2 * i + 2) ps z))]) eo)) [2] [] 122 fun _ _ => gh (n7 (q := q) (k := k + 2 * i + 2) (k' := k + 2 * (i + 1)) (ps := ps) (l := opL u (xs.getD i dOq).o) (E := []) (by omega)) [0] [] 122 fun _ _ => gh (b6 (l := [.as (dbA w (u.set j (F, (a0g F s ((xs.getD i dOq).o.id) ((xs.getD i dOq).o.col) (((xs.getD i dOq).o.vs).getD 0 eV.d)))))]) (l' := [.as (dbA w (opL u (xs.getD i dOq).o))]) (congrArg (fun z => [Ch.den (.as (dbA w z))]) eo)) [2] [] 122 fun _ _ => ag102 _ _ (⟨i + 1, opL u (xs.getD i dOq).o⟩) (by first | omega | (simp only; omega)) (by dsimp only; exact ⟨by omega, L8 hu (by omega), a1b hub⟩) [1, 0, 4, 2] (by kernel_rfl) (by kernel_rfl)
     ·refine go (fun _ => (o2 (by omega : -9223372036854775808 <= (i : Int) + 1) (by omega : (i : Int) + 1 < 9223372036854775808))) fun _ => gh (b6 (l := [vc eV 941 ((xs.getD i dOq).q) ((xs.getD i dOq).o.vs) 26 .imm ((xs.getD i dOq).z)]) (l' := [vc eV 941 ((xs.getD i dOq).q) ((xs.getD i dOq).o.vs) 26 .imm ((xs.getD i dOq).y)]) (by rw [(hxo i (by omega)).yz])) [3] [] 122 fun _ _ => gh (x4 (c := vc eV 941 ((xs.getD i dOq).q) ((xs.getD i dOq).o.vs) 26 .imm ((xs.getD i dOq).y)) (I := oqA (xs.getD i dOq))) [0] [] 122 fun _ _ => gh (j9 (I := oqA) (l := xs) i dOq (by omega)) [0, 4] [] 122 fun _ _ => ?_
      have eo : u = opL u (xs.getD i dOq).o := (((a4L hn e).trans (congrArg (fun z => u.set j (F, z)) (b6W h3 h4 (by omega)))).trans (a5H e)).symm
      refine gh (b6 (l := [.as (ddA q (k + 2 * i) ps u)]) (l' := [.as (ddA q (k + 2 * i) ps (opL u (xs.getD i dOq).o))]) (congrArg (fun z => [Ch.den (.as (ddA q (k + 2 * i) ps z))]) eo)) [2] [] 122 fun _ _ => gh (n7 (q := q) (k := k + 2 * i) (k' := k + 2 * (i + 1)) (ps := ps) (l := opL u (xs.getD i dOq).o) (E := []) (by omega)) [0] [] 122 fun _ _ => gh (b6 (l := [.as (dbA w u)]) (l' := [.as (dbA w (opL u (xs.getD i dOq).o))]) (congrArg (fun z => [Ch.den (.as (dbA w z))]) eo)) [2] [] 122 fun _ _ => ag102 _ _ (⟨i + 1, opL u (xs.getD i dOq).o⟩) (by first | omega | (simp only; omega)) (by dsimp only; exact ⟨by omega, L8 hu (by omega), a1b hub⟩) [1, 0, 4, 2] (by kernel_rfl) (by kernel_rfl)
 ·have hie : i = xs.length := by omega
  have hue : u = fillL l (b8 xs) := hu.trans (congrArg (fillL l) (take_of_length_le (by unfold b8; rw [length_map]; omega)))
  refine gh (b6 (l := [.as (ddA q (k + 2 * i) ps u)]) (l' := [.as (ddA q (k + 2 * xs.length) ps (fillL l (b8 xs)))]) (by rw [hue, hie])) [0] [] 120 fun _ _ => gh (b6 (l := [.as (dbA w u)]) (l' := [.as (dbA w (fillL l (b8 xs)))]) (by rw [hue])) [1] [] 120 fun _ _ => rt trivial (()) trivial [1, 0, 2, 3]
end Go.Proofs.YtagidoadfajpgaaGreat
namespace Go.Proofs.YtagidoadfajpgaaGreat
set_option maxHeartbeats 4000000
open Go.Abs
variable {nO : Nat}
set_option maxRecDepth 100000
attribute [local irreducible] GP ruP ruN nxP acS gst cdP loP j6 m9 m8 enP caA n5 lgP agN
def a7E (a b : Int) : Int := if a < b then -1 else if a > b then 1 else 0
def b5V (a b : ByteArray) : Int := if I7 a b = true then -1 else if I7 a b = true ∨ a7 a b = true then 0 else 1
def a7C : List Int -> Int
 | [] => 0
 | x :: l => if x = 0 then a7C l else x
theorem b5v {l : List Int} {i : Nat} (hi : i < l.length) (h : l.getD i 0 ≠ 0) (hz : ∀ j, j < i -> l.getD j 0 = 0) : a7C l = l.getD i 0 := by
 induction l generalizing i with
 | nil => cases hi
 | cons x l ih =>
  cases i with
  | zero => exact if_neg h
  | succ i =>
   have h0 : x = 0 := hz 0 (by omega)
   exact (if_pos h0).trans (ih (Nat.lt_of_succ_lt_succ hi) h fun j hj => hz (j + 1) (by omega))
theorem b5u {l : List Int} (hz : ∀ j, j < l.length -> l.getD j 0 = 0) : a7C l = 0 := by
 induction l with
 | nil => rfl
 | cons x l ih => exact (if_pos (hz 0 (Nat.zero_lt_succ _))).trans (ih fun j hj => hz (j + 1) (Nat.succ_lt_succ hj))
theorem b5G {a b : Va} : (a7C [a7E a.k b.k, a7E a.n b.n, b5V a.s b.s] == 0) = eqV a b := by
 have h1 : ∀ m n : Int, a7E m n = 0 ↔ m = n := fun m n => by unfold a7E; split <;> (try split) <;> omega
 have h2 : b5V a.s b.s = 0 ↔ a7 a.s b.s = true := by
  unfold b5V
  split
  ·rename_i h
   refine ⟨fun k => by omega, fun k => ?_⟩
   rw [s5.1 k, show I7 b.s b.s = false from Z0 _] at h; cases h
  split
  ·rename_i h; exact ⟨fun _ => h.resolve_left (by assumption), fun _ => rfl⟩
  ·rename_i h; exact ⟨fun k => by omega, fun k => absurd (.inr k) h⟩
 rw [Bool.eq_iff_iff]
 unfold eqV a7C a7C a7C a7C
 simp only [Bool.and_eq_true, beq_iff_eq]
 constructor
 ·intro h
  split at h
  ·split at h
   ·split at h
    ·exact ⟨⟨(h1 _ _).1 (by assumption), (h1 _ _).1 (by assumption)⟩, h2.1 (by assumption)⟩
    ·contradiction
   ·contradiction
  ·contradiction
 ·intro ⟨⟨h, k⟩, j⟩
  rw [if_pos ((h1 _ _).2 h), if_pos ((h1 _ _).2 k), if_pos (h2.2 j)]
theorem a34 {a : Int}  : K1 nO 187 [.o (.i a)] [] (.o (.v (.bool false))) := by
 refine fs 100 fun B => g0 fun _ => g0 fun _ => rtv trivial (()) trivial [] (.o (.cb (a != a))) (congrArg Value.bool (by simp))
theorem b3p {a b : Int}  : K1 nO 164 [.o (.i a), .o (.i b)] [] (.o (.i (a7E a b))) := by
 refine fs 100 fun B => g0 fun _ => g0 fun _ => cl (@a34 _ a) [] [] 100 fun _ _ => g0 fun _ => g0 fun _ => cl (@a34 _ b) [] [] 100 fun _ _ => g0 fun _ => g0 fun _ => cdF rfl <| g0 fun _ => cdF rfl <| g0 fun _ => cdD (a < b) (fun h4 => ?_) (fun h4 => ?_)
 ·refine g0 fun _ => rtv trivial (()) trivial [] (.o (.i (-1))) (congrArg (Value.int .i64) (if_pos h4).symm)
 ·refine g0 fun _ => cdD (a > b) (fun h5 => ?_) (fun h5 => ?_)
  ·refine g0 fun _ => rtv trivial (()) trivial [] (.o (.i 1)) (congrArg (Value.int .i64) ((if_neg h4).trans (if_pos h5)).symm)
  ·refine g0 fun _ => rtv trivial (()) trivial [] (.o (.i 0)) (congrArg (Value.int .i64) ((if_neg h4).trans (if_neg h5)).symm)
theorem a33 {a : Int}  : K1 nO 188 [.o (.i a)] [] (.o (.v (.bool false))) := by
 refine fs 100 fun B => g0 fun _ => g0 fun _ => rtv trivial (()) trivial [] (.o (.cb (a != a))) (congrArg Value.bool (by simp))
theorem b3o {a b : Int}  : K1 nO 165 [.o (.i a), .o (.i b)] [] (.o (.i (a7E a b))) := by
 refine fs 100 fun B => g0 fun _ => g0 fun _ => cl (@a33 _ a) [] [] 100 fun _ _ => g0 fun _ => g0 fun _ => cl (@a33 _ b) [] [] 100 fun _ _ => g0 fun _ => g0 fun _ => cdF rfl <| g0 fun _ => cdF rfl <| g0 fun _ => cdD (a < b) (fun h4 => ?_) (fun h4 => ?_)
 ·refine g0 fun _ => rtv trivial (()) trivial [] (.o (.i (-1))) (congrArg (Value.int .i64) (if_pos h4).symm)
 ·refine g0 fun _ => cdD (a > b) (fun h5 => ?_) (fun h5 => ?_)
  ·refine g0 fun _ => rtv trivial (()) trivial [] (.o (.i 1)) (congrArg (Value.int .i64) ((if_neg h4).trans (if_pos h5)).symm)
  ·refine g0 fun _ => rtv trivial (()) trivial [] (.o (.i 0)) (congrArg (Value.int .i64) ((if_neg h4).trans (if_neg h5)).symm)
theorem a32 {a : ByteArray}  : K1 nO 189 [.o (.t a)] [] (.o (.v (.bool false))) := by
 refine fs 100 fun B => g0 fun _ => g0 fun _ => rtv trivial (()) trivial [] (.o (.cb (!a7 a a))) (congrArg Value.bool (by rw [n9]; rfl))
theorem b3n {a b : ByteArray}  : K1 nO 166 [.o (.t a), .o (.t b)] [] (.o (.i (b5V a b))) := by
 refine fs 100 fun B => g0 fun _ => g0 fun _ => cl (@a32 _ a) [] [] 100 fun _ _ => g0 fun _ => g0 fun _ => cl (@a32 _ b) [] [] 100 fun _ _ => g0 fun _ => g0 fun _ => cdF rfl <| g0 fun _ => cdF rfl <| g0 fun _ => cd (I7 a b) (fun h4 => ?_) (fun h4 => ?_)
 ·have h4 : (I7 a b) = true := by simpa using h4
  refine g0 fun _ => rtv trivial (()) trivial [] (.o (.i (-1))) (congrArg (Value.int .i64) (if_pos h4).symm)
 ·have h4 : ¬ ((I7 a b) = true) := by simpa using h4
  refine g0 fun _ => cd (!(I7 a b || a7 a b)) (fun h5 => ?_) (fun h5 => ?_)
  ·refine g0 fun _ => rtv trivial (()) trivial [] (.o (.i 1)) (congrArg (Value.int .i64) ((if_neg h4).trans (if_neg (by simpa using h5))).symm)
  ·refine g0 fun _ => rtv trivial (()) trivial [] (.o (.i 0)) (congrArg (Value.int .i64) ((if_neg h4).trans (if_pos ((Bool.or_eq_true _ _).mp (by simpa only [Bool.not_eq_false'] using h5)))).symm)
theorem b5T {q c : Nat} {z : Bool} {xs : List Int} {t : TypeId} {m : Md} (hz : z = true -> xs.length = 0) (hl : xs.length < 1000000) : K1 nO 163 [.o (.s 1 q 1 0 xs.length c z)] [vc eI 1 q xs t m z] (.o (.i (a7C xs))) := by
 refine fs 100 fun B => g0 fun _ => g0 fun _ => g0 fun _ => lp ((Nat)) [3, 6, 7] (fun r => [(8, .o (.i (r : Int)))]) [0] (fun _ => []) 120 (fun r => r <= xs.length /\ ∀ j, j < r -> xs.getD j 0 = 0) (fun r => xs.length - r) (0) ⟨Nat.zero_le _, fun _ h => absurd h (Nat.not_lt_zero _)⟩ [] (fun i hx ag104 => ?_)
 obtain ⟨hi, hz0⟩ := hx
 refine g0 fun _ => cdD ((i : Int) < (xs.length : Int)) (fun h1 => ?_) (fun h1 => ?_)
 ·refine go (fun _ => (o4 (nz i) (by omega : (i : Int) < (xs.length : Int)) (zf hz (show 0 < xs.length by omega) : z = false) (by omega : i < xs.length))) fun _ => g0 fun _ => cdN (xs.getD i eI.d) 0 (fun h2 => ?_) (fun h2 => ?_)
  ·refine g0 fun _ => rtv trivial (()) trivial [0] (.o (.i (xs.getD i eI.d))) (congrArg (Value.int .i64) (b5v (by omega) h2 hz0).symm)
  ·refine go (fun _ => (o2 (by omega : -9223372036854775808 <= (i : Int) + 1) (by omega : (i : Int) + 1 < 9223372036854775808))) fun _ => ag104 _ _ (i + 1) (by first | omega | (simp only; omega)) ⟨by omega, fun j hj => (Nat.lt_succ_iff_lt_or_eq.1 hj).elim (hz0 j) (fun e => e ▸ h2)⟩ [0] (by kernel_rfl) (by kernel_rfl)
 ·have hie : i = xs.length := by omega
  refine g0 fun _ => rtv trivial (()) trivial [0] (.o (.i 0)) (congrArg (Value.int .i64) (b5u (hie ▸ hz0)).symm)
theorem b41 {q : Nat} {a b c : Int} {t : TypeId}  : Ctr Tryz.prog nO 163 [.o (.s 1 q 1 0 3 3 false)] [.blk 1 q [.i a, .i b, .i c] t .own] (Unit) (fun _ => True) (fun r => .o (.i (a7C [a, b, c]))) (fun r => [vc eI 1 q [a, b, c] t .own false]) :=
 a3X (j7 (g := 1) (q := q) (cs := [.i a, .i b, .i c]) (t := t) (m := .own) eI [a, b, c]) (fun _ _ => b5T (xs := [a, b, c]) (fun h => nomatch h) (show 3 < 1000000 by decide))
theorem b1u {a b : Va}  : K1 nO 128 [.a [.i a.k, .i a.n, .t a.s], .a [.i b.k, .i b.n, .t b.s]] [] (.o (.i (a7C [a7E a.k b.k, a7E a.n b.n, b5V a.s b.s]))) := by
 refine fs 100 fun B => g0 fun q101 => g0 fun _ => cl (@b3p _ a.k b.k) [] [] 102 fun _ _ => g0 fun _ => cl (@b3o _ a.n b.n) [] [] 102 fun _ _ => g0 fun _ => cl (@b3n _ a.s b.s) [] [] 102 fun _ _ => g0 fun q108 => cl (b41 (q := (q108 102)) (a := (a7E a.k b.k)) (b := (a7E a.n b.n)) (c := (b5V a.s b.s)) (t := 3)) [0] [(1, 102)] 103 fun _ _ => g0 fun _ => rt trivial (()) trivial []
theorem b4x {a b : Va}  : K1 nO 78 [.a [.i a.k, .i a.n, .t a.s], .a [.i b.k, .i b.n, .t b.s]] [] (.o (.cb (eqV a b))) := by
 refine fs 100 fun B => g0 fun q101 => g0 fun _ => cl (@b1u _ a b) [] [] 102 fun _ _ => g0 fun _ => rtv trivial (()) trivial [] (.o (.cb ((a7C [a7E a.k b.k, a7E a.n b.n, b5V a.s b.s]) == 0))) (congrArg Value.bool b5G)
end Go.Proofs.YtagidoadfajpgaaGreat
namespace Go.Proofs.YtagidoadfajpgaaGreat
set_option maxHeartbeats 4000000
open Go.Abs
variable {nO : Nat}
set_option maxRecDepth 100000
attribute [local irreducible] GP ruP ruN nxP acS gst cdP loP j6 m9 m8 enP caA n5 lgP agN
structure tOk (F : Fm) (s : Ts) : Prop where
 fm : FmOk F
 inc : s.rows.Pairwise fun a b => a.1 < b.1
 lt : ∀ r ∈ s.rows, r.1 < s.next
 rl : ∀ r ∈ s.rows, r.2.length = F.xa.length
 ok : ∀ r ∈ s.rows, ∀ c, c < F.xa.length -> g9 F.xa c (r.2.getD c eV.d) = true
theorem b8w {q k : Nat} {ps : List Nat} {l : List (Fm × Ts)} {F0 : Ft} {A : World} (h : (ddA q k ps l).p F0 A) : ∀ (j : Nat) (F : Fm) (s : Ts), l[j]? = some (F, s) -> tOk F s := by
 intro j F s e
 obtain ⟨J, ⟨F1, F2, ⟨y, hy, _⟩, _, _⟩, _⟩ := b7B e h
 exact ⟨hy.fm, hy.rep.inc, hy.rep.lt, hy.rep.rl, hy.rep.ok⟩
theorem b0q {q k : Nat} {ps : List Nat} {l : List (Fm × Ts)} : GE [.as (ddA q k ps l)] Unit (fun _ => ∀ (j : Nat) (F : Fm) (s : Ts), l[j]? = some (F, s) -> tOk F s) (fun _ => [.as (ddA q k ps l)]) := fun F A hF => by
 obtain ⟨F1, F2, h1, h2, j⟩ := hF
 exact ⟨(), F, b8w h1, ⟨F1, F2, h1, h2, j⟩, .refl⟩
def b2H (s : Ts) : List Int := s.rows.map fun r => (r.1 : Int)
theorem a9M {F : Fm} {s : Ts} {m : List Sp} (h : tOk F s) (hw : WF (-1) m) (hm : ∀ i, has m i = s.is i) : E7 m = b2H s :=
 b4l hw (by
  unfold a4f b2H
  rw [List.pairwise_map]
  exact h.inc.imp fun h => by omega) fun i => by
  rw [hm, Ts.is_iff]
  exact List.mem_map
theorem b7j {s : Ts} {k : Nat} (h : k < (b2H s).length) : k < s.rows.length /\ (b2H s).getD k eI.d = ((s.rows.getD k dR).1 : Int) := by
 have h2 : k < s.rows.length := by unfold b2H at h; rwa [List.length_map] at h
 refine ⟨h2, ?_⟩
 rw [a8 h, a8 h2]; exact List.getElem_map ..
def kix (F : Fm) : Int := e9 F.xa (fun c => a7 c.name F.key)
def kro (F : Fm) (s : Ts) (v : Va) : Int := e9 s.rows fun r => eqV (r.2.getD (kix F).toNat eV.d) v
def bkB (F : Fm) (s : Ts) (v : Va) : Bool := !(a7 F.key ⟨#[]⟩) && !(v.k == 0) && decide (0 <= kro F s v)
def bkI (F : Fm) (s : Ts) (v : Va) : Int := if bkB F s v = true then ((s.rows.getD (kro F s v).toNat dR).1 : Int) else 0
theorem b7H {F : Fm} {s : Ts} {v : Va} (h : bkB F s v = false) : SV.den (.t [(false, [.i 0]), (false, [.v (.bool false)])]) = SV.den (.t [(false, [.i (bkI F s v)]), (false, [.cb (bkB F s v)])]) := by
 unfold bkI; rw [h]; rfl
theorem b7I {F : Fm} {s : Ts} {v : Va} (h : a7 F.key ⟨#[]⟩ = true ∨ v.k = 0) : bkB F s v = false := by
 unfold bkB
 rcases h with h | h <;> simp [h]
theorem b5X {F : Fm} {s : Ts} {v : Va} (h : ∀ i, i < s.rows.length -> eqV ((s.rows.getD i dR).2.getD (kix F).toNat eV.d) v = false) : bkB F s v = false := by
 unfold bkB kro
 rw [s8 (d := dR) h]; simp
theorem b8A {F : Fm} {s : Ts} {v : Va} {i : Nat} (h1 : a7 F.key ⟨#[]⟩ = false) (h2 : v.k ≠ 0) (hi : i < s.rows.length) (h : eqV ((s.rows.getD i dR).2.getD (kix F).toNat eV.d) v = true) (hn : ∀ j, j < i -> eqV ((s.rows.getD j dR).2.getD (kix F).toNat eV.d) v = false) : bkB F s v = true /\ bkI F s v = ((s.rows.getD i dR).1 : Int) := by
 have e : kro F s v = (i : Int) := p9 (d := dR) hi h hn
 have hb : bkB F s v = true := by unfold bkB; rw [e, h1]; simp [h2]
 exact ⟨hb, by unfold bkI; rw [if_pos hb, e, Int.toNat_natCast]⟩
theorem FmOk.kc {F : Fm} (h : FmOk F) (hk : a7 F.key ⟨#[]⟩ = false) (hf : (kix F) ≠ -1) : kix F = (((kix F).toNat : Nat) : Int) /\ (kix F).toNat < F.xa.length := by
 rcases m0 (l := F.xa) (p := fun c => a7 c.name F.key) with e | ⟨c, hc, e⟩
 ·exact absurd e hf
 ·unfold kix; rw [e]; exact ⟨rfl, hc⟩
theorem a9W {q k : Nat} {ps : List Nat} {l : List (Fm × Ts)} {j : Nat} {F : Fm} {s : Ts} (e : l[j]? = some (F, s)) : Ctr Tryz.prog nO 74 [.o (.p 1 (ps.getD j 0) 0 0 0)] [.as (ddA q k ps l)] ((Nat) × (Nat) × (List De) × (Bool) × (Bool) × (Md)) (fun r => r.2.2.1.map e8 = F.da /\ (r.2.2.2.1 = true -> F.xa.length = 0) /\ (r.2.2.2.2.1 = true -> r.2.2.1.length = 0)) (fun r => .a [.t F.name, .s 7 r.1 4 0 F.xa.length F.xa.length r.2.2.2.1, .t F.key, .s 8 r.2.1 2 0 r.2.2.1.length r.2.2.1.length r.2.2.2.2.1]) (fun r => [.as (ddA q k ps l), vc eC 7 r.1 F.xa 130 (n8 F.xa) r.2.2.2.1, vc (eD 906) 8 r.2.1 r.2.2.1 161 r.2.2.2.2.2 r.2.2.2.2.1, .as (e6 (n4 9) r.2.2.1)]) :=
 a3W e (a27 )
theorem a0W {q k : Nat} {ps : List Nat} {l : List (Fm × Ts)} {j : Nat} {F : Fm} {s : Ts} (e : l[j]? = some (F, s)) : Ctr Tryz.prog nO 75 [.o (.p 1 (ps.getD j 0) 0 0 0)] [.as (ddA q k ps l)] ((Nat) × (Nat) × (List Sp)) (fun r => WF (-1) r.2.2 /\ ∀ i, has r.2.2 i = s.is i) (fun r => .a [.s 8 r.1 2 0 r.2.2.length r.2.1 r.2.2.isEmpty]) (fun r => [.as (ddA q k ps l), vc eP 8 r.1 r.2.2 171 .imm r.2.2.isEmpty]) :=
 a3W e (a24 )
theorem a2I {q k : Nat} {ps : List Nat} {l : List (Fm × Ts)} {j : Nat} {F : Fm} {s : Ts} {i c : Nat} {sn : ByteArray} (e : l[j]? = some (F, s)) (hk : k < 70000) (hj : i < s.rows.length) (hc : e9 F.xa (fun c => a7 c.name sn) = (c : Int)) (hcx : c < F.xa.length) : K1 nO 77 [.o (.p 1 (ps.getD j 0) 0 0 0), .o (.i (((s.rows.getD i dR).1 : Nat) : Int)), .o (.t sn)] [.as (ddA q k ps l)] (.t [(true, [.i (((s.rows.getD i dR).2.getD c eV.d).k), .i (((s.rows.getD i dR).2.getD c eV.d).n), .t (((s.rows.getD i dR).2.getD c eV.d).s)]), (false, [.v (.bool true)])]) :=
 a3W e (a5t (j := i) (c := c) (sn := sn) hk hj hc hcx)
theorem a1U {q k : Nat} {ps : List Nat} {l : List (Fm × Ts)} {j : Nat} {F : Fm} {s : Ts} {na : ByteArray} {v : Va} (e : l[j]? = some (F, s)) (hk : k < 70000) (hx : tix l na = (j : Int)) (hkx : a7 F.key ⟨#[]⟩ = false -> kix F ≠ -1) : K1 nO 25 [.o (.p 1 q 0 0 0), .o (.t na), .a [.i v.k, .i v.n, .t v.s]] [.as (ddA q k ps l)] (.t [(false, [.i (bkI F s v)]), (false, [.cb (bkB F s v)])]) := by
 refine fs 100 fun B => gh (b0q (q := q) (k := k) (ps := ps) (l := l)) [0] [] 100 (fun _ hfa => ?_)
 have hok := hfa j F s e
 refine g0 fun q101 => g0 fun _ => cl (z8 (q := q) (k := k) (ps := ps) (l := l) (j := j) (s := na) (List.getElem?_eq_some_iff.1 e).1 hx) [3] [(7, 103)] 104 fun _ _ => ?_
 refine g0 fun q104 => g0 fun _ => cl (@a9W _ q k ps l j F s (by assumption)) [1] [(1, 103), (7, 105), (8, 106)] 107 fun ⟨qc2106, qd2106, d2106, z1106, z2106, m2106⟩ h106 => g0 fun q107 => g0 fun _ => cd (or (a7 F.key ⟨#[]⟩) (v.k == 0)) (fun h1 => ?_) (fun h1 => ?_)
 ·have h1 : ((a7 F.key ⟨#[]⟩) = true) ∨ (v.k = 0) := by simpa using h1
  refine g0 fun _ => rtv trivial (()) trivial [1] (.t [(false, [.i 0]), (false, [.v (.bool false)])]) (b7H (b7I (h1.imp id (fun h => by simpa using h))))
 ·have h1 : ¬ (((a7 F.key ⟨#[]⟩) = true) ∨ (v.k = 0)) := by simpa using h1
  have h1a : a7 F.key ⟨#[]⟩ = false := by cases hq : a7 F.key ⟨#[]⟩; rfl; exact absurd (.inl hq) h1
  have h1b : v.k ≠ 0 := fun hq => h1 (.inr (by simpa using hq))
  have hkc := hok.fm.kc h1a (hkx h1a)
  refine g0 fun _ => cl (@a0W _ q k ps l j F s (by assumption)) [1] [(1, 103), (8, 108)] 109 (fun ⟨ql111, cL111, lv111⟩ hlv => ?_)
  have hall := a9M hok hlv.1 hlv.2
  refine cl (@b2n _ ql111 cL111 lv111) [] [(1, 108), (2, 109)] 110 fun qa113 _ => rg (J := [.blk 109 qa113 [.s 108 ql111 2 0 lv111.length cL111 lv111.isEmpty] 124 .own, vc eP 108 ql111 lv111 171 .imm lv111.isEmpty]) (b2H s) b6k eI.d (Unit) Unit (fun kx r => [.as (ddA q k ps l), .blk 107 (q107 107) [.t F.key] 9 .own, vc eC 105 qc2106 F.xa 130 (n8 F.xa) z1106, vc (eD 906) 106 qd2106 d2106 161 m2106 z2106, .as (e6 (n4 9) d2106), .blk 104 (q104 104) [.p 103 (ps.getD j 0) 0 0 0] 69 .own, .blk 102 (q101 102) [.v (.bool false)] 4 .own, .blk 101 (q101 101) [.i 0] 3 .own, .blk 100 (q101 100) [.i v.k, .i v.n, .t v.s] 26 .own]) (fun kx r => ∀ i, i < kx -> eqV ((s.rows.getD i dR).2.getD (kix F).toNat eV.d) v = false) (fun _ => .ret) (fun _ => bkB F s v = true) (fun _ => [.as (ddA q k ps l), .blk 107 (q107 107) [.t F.key] 9 .own, vc eC 105 qc2106 F.xa 130 (n8 F.xa) z1106, vc (eD 906) 106 qd2106 d2106 161 m2106 z2106, .as (e6 (n4 9) d2106), .blk 104 (q104 104) [.p 103 (ps.getD j 0) 0 0 0] 69 .own, .blk 102 (q101 102) [.v (.bool true)] 4 .own, .blk 101 (q101 101) [.i (bkI F s v)] 3 .own, .blk 100 (q101 100) [.i v.k, .i v.n, .t v.s] 26 .own]) (()) (fun i h => absurd h (Nat.not_lt_zero i)) [0, 2] 130 1 (by rw [<- hall]; exact b2L [.o (.p 1 qa113 0 0 0)] ⟨rfl, rfl, rfl⟩ rfl (fun y Inv Stop _ hT => b03 hlv.1 y Inv Stop hT)) (fun _ => .inl rfl) (fun B _ _ x => ?_) (fun B _ kx _ hk hx => ?_) (fun _ r0 hx => ?_) (fun _ r0 hy => ?_)
  ·refine g0 fun _ => rgE
  ·have hik := b7j hk
   refine sv 10 (v := .o (.i ((b2H s).getD kx eI.d))) (v' := .o (.i (((s.rows.getD kx dR).1 : Nat) : Int))) (congrArg (Value.int .i64) hik.2) <| g0 fun _ => cl (@a2I _ q k ps l j F s kx ((kix F).toNat) F.key (by assumption) (by omega) hik.1 hkc.1 hkc.2) [0] [(1, 103)] 130 fun _ _ => g0 fun q116 => g0 fun _ => cl (@b4x _ ((s.rows.getD kx dR).2.getD ((kix F).toNat) eV.d) v) [] [] 131 fun _ _ => cd (eqV ((s.rows.getD kx dR).2.getD ((kix F).toNat) eV.d) v) (fun h2 => ?_) (fun h2 => ?_)
   ·have h2 : (eqV ((s.rows.getD kx dR).2.getD ((kix F).toNat) eV.d) v) = true := by simpa using h2
    have hbk := b8A h1a h1b hik.1 (by simpa using h2) hx
    refine g0 fun _ => gh (b6 (l := [.blk 101 (q101 101) [.i (((s.rows.getD kx dR).1 : Nat) : Int)] 3 .own]) (l' := [.blk 101 (q101 101) [.i (bkI F s v)] 3 .own]) (by rw [hbk.2])) [8] [] 131 fun _ _ => rgS () hbk.1 [2, 3, 4, 5, 6, 7, 8, 0, 9]
   ·have h2 : ¬ ((eqV ((s.rows.getD kx dR).2.getD ((kix F).toNat) eV.d) v) = true) := by simpa using h2
    exact rgN (()) (fun i hi => (Nat.lt_succ_iff_lt_or_eq.1 hi).elim (hx i) (fun e => e ▸ (by simpa using h2))) [1, 2, 3, 4, 5, 6, 7, 8, 9]
  ·have hno : bkB F s v = false := b5X (by rw [List.length_map] at hx; unfold b2H at hx; rw [List.length_map] at hx; exact hx)
   refine g0 fun _ => rtd r0 0 fun B => rtv trivial (()) trivial [0] (.t [(false, [.i 0]), (false, [.v (.bool false)])]) (b7H hno)
  ·refine rtd r0 0 fun B => rtv trivial (()) trivial [0] (.t [(false, [.i (bkI F s v)]), (false, [.v (.bool true)])]) (by rw [hy]; rfl)
end Go.Proofs.YtagidoadfajpgaaGreat
open List (length_append map_append length_map map_take getElem?_eq_getElem getElem_map take_length take_add_one)
namespace Go.Proofs.YtagidoadfajpgaaGreat
set_option maxHeartbeats 4000000
open Go.Abs
variable {nO : Nat}
set_option maxRecDepth 100000
attribute [local irreducible] GP ruP ruN nxP acS gst cdP loP j6 m9 m8 enP caA n5 lgP agN
def FmN (L : List Fm) : Prop := L.length < 9 /\ ∀ i, i < L.length -> FmD (L.take i) (L.getD i dFm) /\ a0h (L.getD i dFm) = L.getD i dFm /\ nI (L.getD i dFm).name L = (i : Int)
section
variable {ps : List Nat} {l : List (Fm × Ts)} {y : Dd} {i : Nat} {F : Fm} {s : Ts}
theorem a9R (e : l[i]? = some (F, s)) : (l.map Prod.fst).getD i dFm = F /\ i < (l.map Prod.fst).length := by
 obtain ⟨h1, h2⟩ := List.getElem?_eq_some_iff.1 e
 have h3 : i < (l.map Prod.fst).length := by rw [length_map]; exact h1
 exact ⟨by rw [a8 h3, getElem_map, h2], h3⟩
theorem FmN.at (h : FmN (l.map Prod.fst)) (e : l[i]? = some (F, s)) : FmD ((l.take i).map Prod.fst) F /\ a0h F = F /\ tix l F.name = (i : Int) := by
 obtain ⟨h1, h2⟩ := a9R e
 have := h.2 i h2
 rw [h1, <- map_take] at this
 exact this
theorem b73 (hy : ddP ps l y) (e : l[i]? = some (F, s)) : i < y.xs.length /\ (y.xs.getD i dXr).F = F := by
 obtain ⟨h1, h2⟩ := a9R e
 have h3 : i < y.xs.length := by rw [<- a0M hy, length_map] at h2; exact h2
 exact ⟨h3, by rw [<- a3P h3, a0M hy, h1]⟩
theorem a7K (hy : ddP ps l y) : y.xs.length = l.length := by have := congrArg List.length (a0M hy); simpa using this
theorem b7m (hy : ddP ps l y) {n : ByteArray} : e9 y.xs (fun x => a7 x.F.name n) = tix l n := by
 rw [Y2, a0M hy]; rfl
theorem b47 {xs : List Xr} : ((xs.take xs.length).map fun x => x.F.name).length = xs.length := by
 rw [length_map, take_length]
theorem b66 {xs : List Xr} (h : i < xs.length) : ((xs.take xs.length).map fun x => x.F.name).getD i eS.d = (xs.getD i dXr).F.name := by
 rw [take_length, a8 (by rw [length_map]; exact h), a8 h, getElem_map]
theorem a6N (e : l[i]? = some (F, s)) : l.take (i + 1) = l.take i ++ [(F, s)] := by
 rw [take_add_one, e]; rfl
theorem b5M {ps2 : List Nat} {qs qm qv r : Nat} {x : Xr} (hy : ddP ps2 (l.take i) y) (e : l[i]? = some (F, s)) (hx : tP x) (hF : x.F = F) : ddP (ps2 ++ [r]) (l.take (i + 1)) ⟨qs, qm, qv, y.xs ++ [x], y.zs ++ [(r, F, s)]⟩ :=
 ⟨by rw [map_append, hy.ps]; rfl, a5z hy.ok hx, by rw [map_append, map_append, hy.fm, <- hF]; rfl, by rw [map_append, hy.zs, a6N e]; rfl⟩
end
theorem a7h {q k : Nat} {ps : List Nat} {l : List (Fm × Ts)} {n : Nat} (hk : k < 70000) (hB : bnd l n) (hn : n <= 65536) (hN : FmN (l.map Prod.fst)) : Ctr Tryz.prog nO 24 [.o (.p 1 q 0 0 0)] [.as (ddA q k ps l)] ((Nat) × (List Nat)) (fun r => r.2.length = l.length) (fun r => .o (.p 11 r.1 0 0 0)) (fun r => [.as (ddA r.1 k r.2 l), .as (ddA q k ps l)]) := by
 refine fs 100 fun B => g0 fun _ => g0 fun _ => cdF rfl <| cl (a6g ) [] [(1, 100), (2, 101), (3, 102)] 103 fun ⟨q104, qs104, qm104⟩ _ => g0 fun _ => gh (p5 (I := a0D k)) [] [] 103 fun _ _ => gh (d5 (φ := ddP [] (l.take 0)) (L := ddL q104 k) (⟨qs104, qm104, 0, [], []⟩ : Dd) ⟨rfl, fun i hi => absurd hi (Nat.not_lt_zero i), rfl, rfl⟩) [1, 2, 3, 4, 5, 0] [] 103 fun _ _ => gh (f9 (φ := ddP ps l) (L := ddL q k)) [1] [(2, 961), (3, 962)] 103 (fun y hy => ?_)
 have hxl := a7K hy
 have hl8 := hN.1
 rw [length_map] at hl8
 have hnl := b47 (xs := y.xs)
 refine g0 fun _ => cl (@a6Q _ y.qs y.qv y.xs .grown (by omega)) [1, 2, 3] [(1, 961), (2, 962), (5, 103)] 104 fun q2107 _ => g0 fun _ => lp2 (Nat) (List Nat) [0, 3, 15, 16] (fun r => [(17, .o (.i (r.1 : Int)))]) [0, 1, 2, 3, 4, 5, 6] (fun r => [.as (ddA q104 k r.2 (l.take r.1))]) 124 (fun r => r.1 <= l.length /\ r.2.length = r.1) (fun r => l.length - r.1) (⟨0, []⟩) ⟨Nat.zero_le _, rfl⟩ [7] (fun i ps2 hx ag109 => ?_)
 try dsimp only at hx
 obtain ⟨hi, hpl⟩ := hx
 refine g0 fun _ => cdD ((i : Int) < ((((y.xs.take y.xs.length).map fun x => x.F.name).length : Nat) : Int)) (fun h2 => ?_) (fun h2 => ?_)
 ·obtain ⟨⟨F, s⟩, e⟩ : ∃ v, l[i]? = some v := ⟨_, getElem?_eq_getElem (by omega)⟩
  have hX := b73 hy e
  have hZ := b4n hy e
  have hFN := hN.at e
  have hb := hB i F s e
  refine go (fun _ => (o4 (nz i) (by omega : (i : Int) < ((((y.xs.take y.xs.length).map fun x => x.F.name).length : Nat) : Int)) (zfe (by omega) : ((y.xs.take y.xs.length).map fun x => x.F.name).isEmpty = false) (by omega : i < ((y.xs.take y.xs.length).map fun x => x.F.name).length))) fun _ => sv 5 (v := .o (.t (((y.xs.take y.xs.length).map fun x => x.F.name).getD i eS.d))) (v' := .o (.t F.name)) (congrArg Value.string ((b66 hX.1).trans (congrArg Fm.name hX.2))) <| g0 fun _ => cl (@Q9 _ y.qs y.qv y.xs .grown F.name i (by omega) hX.1 ((b7m hy).trans hFN.2.2) (hy.ok i hX.1)) [1, 2, 3] [(1, 961), (2, 962), (7, 124), (8, 125)] 126 (fun ⟨qc2113, qd2113, d2113⟩ hd2 => ?_)
  have hdF := hd2.trans (hy.ok i hX.1).da
  have hdl : d2113.length = (y.xs.getD i dXr).da.length := by have := congrArg List.length hd2; rwa [length_map, length_map] at this
  have hld : d2113.length < 1000000 := by have := (hy.ok i hX.1).dl; omega
  have hzd : (y.xs.getD i dXr).zA = true -> d2113.length = 0 := fun h => by rw [hdl]; exact (hy.ok i hX.1).zA h
  refine g0 fun q114 => gh (f9 (φ := ddP ps2 (l.take i)) (L := ddL q104 k)) [7] [(1, 100), (2, 963), (3, 964)] 127 fun y2 hy2 => g0 fun _ => cl (@a5K _ y2.qs y2.qv y2.xs ((y.xs.getD i dXr).F.name) ((y.xs.getD i dXr).F.key) qc2113 ((y.xs.getD i dXr).F.xa.length) ((y.xs.getD i dXr).za) ((y.xs.getD i dXr).F.xa) 130 (n8 (y.xs.getD i dXr).F.xa) qd2113 d2113.length ((y.xs.getD i dXr).zA) d2113 161 (n8 (y.xs.getD i dXr).da) (hy.ok i hX.1).za (by have := (hy.ok i hX.1).fm.xl; omega) (fun h => hzd h) hld (FmD.ok hdF (by rw [a0M hy2, hX.2]; exact hFN.1)) hy2.ok) [1, 2, 3, 10, 11, 12] [(1, 963), (5, 124), (6, 125), (2, 964)] 127 fun ⟨qs2116, qc2116, qd2116, d2116⟩ hd3 => gh (f8 (I := a0D k) (l := y.zs) i dZ hZ.1) [16] [] 127 fun _ _ => gh (b6 (l := [.as (a0D k (y.zs.getD i dZ))]) (l' := [.as (r5 (ps.getD i 0) F s k)]) (by rw [hZ.2]; rfl)) [0] [] 127 fun _ _ => g0 fun _ => lkp y.qm (mpL y.zs) F.name (.o (.p 971 (ps.getD i 0) 0 0 0)) [17] (by rw [a0o, show e9 (y.zs.map fun z => z.2.1) (fun G => a7 G.name F.name) = (i : Int) from (b8r hy).trans hFN.2.2]; show Value.pointer (some ⟨ps.getD i 0, 0, none⟩) = Value.pointer (some ⟨(y.zs.getD i dZ).1, 0, none⟩); rw [hZ.2]) <| cl (a3a (q := (ps.getD i 0)) (F := F) (s := s) (k := k) (by omega) (by omega)) [1] [(1, 971), (11, 127)] 128 fun r119 _ => mpu y2.qm (mpL y2.zs) F.name r119 [11] (a9P hy2.fm ((b7m hy2).trans hFN.1.2.2.1)) <| go (fun _ => (o2 (by omega : -9223372036854775808 <= (i : Int) + 1) (by omega : (i : Int) + 1 < 9223372036854775808))) fun _ => gh (b6 (l := [.as (r5 (ps.getD i 0) F s k)]) (l' := [.as (a0D k (y.zs.getD i dZ))]) (by rw [hZ.2]; rfl)) [1] [] 128 fun _ _ => gh (j9 (I := a0D k) (l := y.zs) i dZ hZ.1) [0, 4] [] 128 fun _ _ => gh (i6 (I := a0D k) (l := y2.zs) (x := (r119, F, s))) [2, 11] [] 128 fun _ _ => gh (b6 (l := [.as (W8 y2.qm ((mpL y2.zs) ++ [(F.name, r119)]))]) (l' := [.as (W8 y2.qm (mpL (y2.zs ++ [(r119, F, s)])))]) (by unfold mpL; rw [map_append]; rfl)) [2] [] 128 fun _ _ => ?_
  have hxF : ((⟨qc2116, ((y.xs.getD i dXr).F.xa).length, ((y.xs.getD i dXr).za), 130, qd2116, d2116.length, ((y.xs.getD i dXr).zA), 161, d2116, 0, [], ⟨((y.xs.getD i dXr).F.name), ((y.xs.getD i dXr).F.key), (((y.xs.getD i dXr).F.xa).map (b5 ((y.xs.getD i dXr).F.key))), d2113.map e8⟩, 0⟩ : Xr)).F = F := by rw [<- hFN.2.1, <- hX.2]; exact congrArg (fun z => (⟨_, _, _, z⟩ : Fm)) hdF
  refine gh (d5 (φ := ddP (ps2 ++ [r119]) (l.take (i + 1))) (L := ddL q104 k) (⟨y2.qs, y2.qm, qs2116, (y2.xs ++ [(⟨qc2116, ((y.xs.getD i dXr).F.xa).length, ((y.xs.getD i dXr).za), 130, qd2116, d2116.length, ((y.xs.getD i dXr).zA), 161, d2116, 0, [], ⟨((y.xs.getD i dXr).F.name), ((y.xs.getD i dXr).F.key), (((y.xs.getD i dXr).F.xa).map (b5 ((y.xs.getD i dXr).F.key))), d2113.map e8⟩, 0⟩ : Xr)]), (y2.zs ++ [(r119, F, s)])⟩ : Dd) (b5M hy2 e (FmA.tP (FmD.ok hdF (by rw [a0M hy2, hX.2]; exact hFN.1)) (hy.ok i hX.1).za (fun h => hzd h) hd3) hxF)) [10, 4, 5, 6, 0, 1] [] 128 fun _ _ => ag109 _ _ (⟨i + 1, ps2 ++ [r119]⟩) (by first | omega | (simp only; omega)) (by dsimp only; exact ⟨by omega, by rw [length_append, hpl]; rfl⟩) [0, 7, 8, 9, 10, 11, 2, 1] (by kernel_rfl) (by kernel_rfl)
 ·skip
  refine g0 fun _ => ?_
  have hie : i = l.length := by omega
  refine gh (b6 (l := [.as (ddA q104 k ps2 (l.take i))]) (l' := [.as (ddA q104 k ps2 l)]) (by rw [hie, take_length])) [0] [] 124 fun _ _ => gh (d5 (φ := ddP ps l) (L := ddL q k) y hy) [5, 1, 2, 3, 6, 7] [] 124 fun _ _ => rt trivial (⟨q104, ps2⟩) (hpl.trans hie) [1, 0]
end Go.Proofs.YtagidoadfajpgaaGreat
namespace Go.Proofs.YtagidoadfajpgaaGreat
set_option maxHeartbeats 4000000
open Go.Abs
variable {nO : Nat}
set_option maxRecDepth 100000
attribute [local irreducible] GP ruP ruN nxP acS gst cdP loP j6 m9 m8 enP caA n5 lgP agN
def H3 (L : List Fm) (t n : ByteArray) : Option Cd := if nI t L = -1 then none else if cI n (L.getD (nI t L).toNat dFm).xa = -1 then none else some ((L.getD (nI t L).toNat dFm).xa.getD (cI n (L.getD (nI t L).toNat dFm).xa).toNat eC.d)
def I3 (L : List Fm) (t n : ByteArray) : Cd := (H3 L t n).getD eC.d
theorem a5a {L : List Fm} {t n : ByteArray} (h : nI t L = -1) : H3 L t n = none := if_pos h
theorem a5b {L : List Fm} {t n : ByteArray} {F : Fm} {j : Nat} (h : nI t L = (j : Int)) (e : L.getD j dFm = F) (hc : cI n F.xa = -1) : H3 L t n = none := by
 unfold H3
 rw [if_neg (by rw [h]; omega), h, Int.toNat_natCast, e, if_pos hc]
theorem b0I {L : List Fm} {t n : ByteArray} {F : Fm} {j c : Nat} (h : nI t L = (j : Int)) (e : L.getD j dFm = F) (hc : cI n F.xa = (c : Int)) : H3 L t n = some (F.xa.getD c eC.d) := by
 unfold H3
 rw [if_neg (by rw [h]; omega), h, Int.toNat_natCast, e, if_neg (by rw [hc]; omega), hc, Int.toNat_natCast]
theorem b0x {L : List Fm} {t n : ByteArray} {d : Cd} (h : H3 L t n = some d) : ∃ j c : Nat, j < L.length /\ nI t L = (j : Int) /\ c < (L.getD j dFm).xa.length /\ cI n (L.getD j dFm).xa = (c : Int) /\ (L.getD j dFm).xa.getD c eC.d = d := by
 rcases m0 (l := L) (p := fun F => a7 F.name t) with k | ⟨j, hj, k⟩
 ·rw [a5a k] at h; cases h
 rcases m0 (l := (L.getD j dFm).xa) (p := fun c => a7 c.name n) with m | ⟨c, hc, m⟩
 ·rw [a5b k rfl m] at h; cases h
 ·rw [b0I k rfl m] at h
  exact ⟨j, c, hj, k, hc, m, Option.some.inj h⟩
def pth (L : List Fm) : ByteArray -> List ByteArray -> Int × Cd × ByteArray
 | _, [] => (3, eC.d, ⟨#[]⟩)
 | t, n :: p => match H3 L t n with
  | none => (3, eC.d, ⟨#[]⟩)
  | some c => if p.isEmpty then (0, c, t) else if a7 c.to ⟨#[]⟩ then (9, eC.d, ⟨#[]⟩) else pth L c.to p
def a1r (L : List Fm) (t : ByteArray) (p : List ByteArray) : Int × Cd × ByteArray := if p.length = 0 ∨ 4 < p.length then (5, eC.d, ⟨#[]⟩) else pth L t p
section
variable {L : List Fm} {u : ByteArray} {p : List ByteArray} {i : Nat} {c : Cd}
theorem drop_at (h : i < p.length) : p.drop i = p.getD i eS.d :: p.drop (i + 1) := by rw [List.drop_eq_getElem_cons h, a8 h]
theorem b3U (h : i < p.length) (e : H3 L u (p.getD i eS.d) = none) : pth L u (p.drop i) = (3, eC.d, ⟨#[]⟩) := by
 rw [drop_at h]; unfold pth; rw [e]
theorem b4Y (h : i + 1 = p.length) (e : H3 L u (p.getD i eS.d) = some c) : pth L u (p.drop i) = (0, c, u) := by
 rw [drop_at (by omega), List.drop_eq_nil_of_le (by omega)]; unfold pth; rw [e]; rfl
theorem a8X (h : i + 1 < p.length) (e : H3 L u (p.getD i eS.d) = some c) (k : a7 c.to ⟨#[]⟩ = true) : pth L u (p.drop i) = (9, eC.d, ⟨#[]⟩) := by
 rw [drop_at (by omega), drop_at (i := i + 1) (by omega)]; unfold pth; rw [e]
 show (if a7 c.to ⟨#[]⟩ then _ else _) = _
 rw [if_pos k]
theorem b3T (h : i + 1 < p.length) (e : H3 L u (p.getD i eS.d) = some c) (k : a7 c.to ⟨#[]⟩ = false) : pth L u (p.drop i) = pth L c.to (p.drop (i + 1)) := by
 conv => lhs; rw [drop_at (show i < p.length by omega)]
 have h2 : (p.drop (i + 1)).isEmpty = false := by rw [drop_at (i := i + 1) (by omega)]; rfl
 unfold pth; rw [e]
 show (if (p.drop (i + 1)).isEmpty then _ else if a7 c.to ⟨#[]⟩ then _ else _) = _
 rw [if_neg (by rw [h2]; decide), if_neg (by rw [k]; decide)]
 cases p.drop (i + 1) <;> rfl
theorem b0y (h : (H3 L u (p.getD i eS.d)).isSome = true) : H3 L u (p.getD i eS.d) = some (I3 L u (p.getD i eS.d)) := by
 unfold I3; cases e : H3 L u (p.getD i eS.d) with
 | none => rw [e] at h; cases h
 | some c => rfl
end
theorem a3l {q qs : Nat} {xs : List Xr} {mS : Md} {t n : ByteArray} (hl : xs.length < 1000000) (hxt : ∀ i, i < xs.length -> tP (xs.getD i dXr)) : K1 nO 82 [.o (.p 1 q 0 0 0), .o (.t t), .o (.t n)] [.blk 1 q [.s 2 qs 4 0 xs.length xs.length xs.isEmpty] 145 .own, vc eTb 2 qs xs 46 mS xs.isEmpty, .as (e6 tI xs)] (.t [(true, [.t ((I3 (xs.map fun x : Xr => x.F) t n).name), .i ((I3 (xs.map fun x : Xr => x.F) t n).kind), .cb ((I3 (xs.map fun x : Xr => x.F) t n).must), .t ((I3 (xs.map fun x : Xr => x.F) t n).to)]), (false, [.cb ((H3 (xs.map fun x : Xr => x.F) t n).isSome)])]) := by
 refine fs 100 (fun B => ?_)
 have hix : e9 xs (fun x => a7 x.F.name t) = nI t (xs.map fun x : Xr => x.F) := Y2
 refine g0 (fun q101 => ?_)
 rcases m0 (l := xs) (p := fun x => a7 x.F.name t) with hn | ⟨j, hj, hn⟩
 ·refine g0 fun _ => cl (@a1G _ q qs xs mS t (by omega) hn) [1, 2, 3] [] 101 fun _ _ => g0 fun q104 => gh (e7 102 4 eC.f eC.d 130 .grown) [] [] 103 fun _ _ => g0 fun _ => cl (@N2 _ ⟨#[]⟩ ⟨#[]⟩ 0 0 true ([] : List Cd) 130 .grown 0 0 true ([] : List De) n (fun _ => rfl) (by decide)) [0] [(1, 102)] 103 fun _ _ => g0 fun _ => g0 fun _ => cdT (b := decide (e9 ([] : List Cd) (fun c => a7 c.name n) < 0)) rfl <| g0 fun _ => rtv trivial (()) trivial [2, 3, 4] (.t [(true, [.t ⟨#[]⟩, .i 0, .v (.bool false), .t ⟨#[]⟩]), (false, [.v (.bool false)])]) (by rw [show I3 (xs.map fun x : Xr => x.F) t n = eC.d by unfold I3; rw [a5a (hix.symm.trans hn)]; rfl, a5a (hix.symm.trans hn)]; rfl)
 ·have hxj := hxt j hj
  have hgF := a3P hj
  refine g0 fun _ => cl (@Q9 _ q qs xs mS t j (by omega) hj hn hxj) [1, 2, 3] [(7, 101), (8, 102)] 103 fun ⟨qc2111, qd2111, d2111⟩ hd2 => g0 fun q112 => g0 fun _ => cl (@N2 _ ((xs.getD j dXr).F.name) ((xs.getD j dXr).F.key) qc2111 ((xs.getD j dXr).F.xa.length) ((xs.getD j dXr).za) ((xs.getD j dXr).F.xa) 130 (n8 (xs.getD j dXr).F.xa) qd2111 d2111.length ((xs.getD j dXr).zA) d2111 n hxj.za (by have := hxj.fm.xl; omega)) [4] [(1, 101), (3, 102)] 104 fun _ _ => g0 fun _ => g0 fun _ => cdD (e9 ((xs.getD j dXr).F.xa) (fun c => a7 c.name n) < 0) (fun h1 => ?_) (fun h1 => ?_)
  ·have hc : cI n (xs.getD j dXr).F.xa = -1 := by rcases m0 (l := (xs.getD j dXr).F.xa) (p := fun c => a7 c.name n) with k | ⟨c, _, k⟩; exact k; rw [k] at h1; omega
   refine g0 fun _ => rtv trivial (()) trivial [2, 3, 4] (.t [(true, [.t ⟨#[]⟩, .i 0, .v (.bool false), .t ⟨#[]⟩]), (false, [.v (.bool false)])]) (by rw [show I3 (xs.map fun x : Xr => x.F) t n = eC.d by unfold I3; rw [a5b (hix.symm.trans hn) hgF hc]; rfl, a5b (hix.symm.trans hn) hgF hc]; rfl)
  ·obtain ⟨c, hcx, hc⟩ : ∃ c : Nat, c < (xs.getD j dXr).F.xa.length /\ e9 (xs.getD j dXr).F.xa (fun c => a7 c.name n) = (c : Int) := by rcases m0 (l := (xs.getD j dXr).F.xa) (p := fun c => a7 c.name n) with k | k; rw [k] at h1; exact absurd (show (-1 : Int) < 0 by decide) h1; exact k
   refine sv 10 (v := .o (.i (e9 ((xs.getD j dXr).F.xa) (fun c => a7 c.name n)))) (v' := .o (.i (c : Int))) (congrArg (Value.int .i64) hc) <| go (fun _ => (o4 (nz c) (by omega : (c : Int) < (((xs.getD j dXr).F.xa.length : Nat) : Int)) (zf hxj.za (show 0 < (xs.getD j dXr).F.xa.length by omega) : (xs.getD j dXr).za = false) (by omega : c < ((xs.getD j dXr).F.xa).length))) fun _ => rtv trivial (()) trivial [2, 3, 4] (.t [(true, [.t ((((xs.getD j dXr).F.xa).getD c eC.d).name), .i ((((xs.getD j dXr).F.xa).getD c eC.d).kind), .cb ((((xs.getD j dXr).F.xa).getD c eC.d).must), .t ((((xs.getD j dXr).F.xa).getD c eC.d).to)]), (false, [.v (.bool true)])]) (by rw [show I3 (xs.map fun x : Xr => x.F) t n = (xs.getD j dXr).F.xa.getD c eC.d by unfold I3; rw [b0I (hix.symm.trans hn) hgF hc]; rfl, b0I (hix.symm.trans hn) hgF hc]; rfl)
theorem b2c {q qs : Nat} {xs : List Xr} {mS : Md} {t : ByteArray} {qp cp : Nat} {zp : Bool} {pp : List ByteArray} {tp : TypeId} {mp : Md} (hl : xs.length < 1000000) (hxt : ∀ i, i < xs.length -> tP (xs.getD i dXr)) (hzp : zp = true -> pp.length = 0) (hlp : pp.length < 1000000) : K1 nO 80 [.o (.p 1 q 0 0 0), .o (.t t), .o (.s 5 qp 1 0 pp.length cp zp)] [.blk 1 q [.s 2 qs 4 0 xs.length xs.length xs.isEmpty] 145 .own, vc eTb 2 qs xs 46 mS xs.isEmpty, .as (e6 tI xs), vc eS 5 qp pp tp mp zp] (.t [(true, [.t ((a1r (xs.map fun x : Xr => x.F) t pp).2.1.name), .i ((a1r (xs.map fun x : Xr => x.F) t pp).2.1.kind), .cb ((a1r (xs.map fun x : Xr => x.F) t pp).2.1.must), .t ((a1r (xs.map fun x : Xr => x.F) t pp).2.1.to)]), (false, [.t ((a1r (xs.map fun x : Xr => x.F) t pp).2.2)]), (false, [.i ((a1r (xs.map fun x : Xr => x.F) t pp).1)])]) := by
 refine fs 100 fun B => g0 fun q101 => g0 fun _ => cd (or ((pp.length : Int) == 0) (decide ((pp.length : Int) > 4))) (fun h1 => ?_) (fun h1 => ?_)
 ·have h1 : ((pp.length : Int) = 0) ∨ ((pp.length : Int) > 4) := by simpa using h1
  have hE : (a1r (xs.map fun x : Xr => x.F) t pp) = (5, eC.d, ⟨#[]⟩) := if_pos (by omega)
  refine g0 fun _ => rtv trivial (()) trivial [1, 2, 3, 4] (.t [(true, [.t ⟨#[]⟩, .i 0, .v (.bool false), .t ⟨#[]⟩]), (false, [.t ⟨#[]⟩]), (false, [.i 5])]) (by rw [hE]; rfl)
 ·have h1 : ¬ (((pp.length : Int) = 0) ∨ ((pp.length : Int) > 4)) := by simpa using h1
  have hP : (a1r (xs.map fun x : Xr => x.F) t pp) = pth (xs.map fun x : Xr => x.F) t pp := if_neg (by omega)
  refine g0 fun _ => lp2 (Nat) (ByteArray) [0, 2, 6, 22, 23] (fun r => [(24, .o (.i (r.1 : Int))), (1, .o (.t r.2))]) [0, 1, 2, 3, 4] (fun _ => []) 121 (fun r => r.1 <= pp.length /\ pth (xs.map fun x : Xr => x.F) t pp = pth (xs.map fun x : Xr => x.F) r.2 (pp.drop r.1) /\ (r.1 < pp.length ∨ pp.length = 0)) (fun r => pp.length - r.1) (⟨0, t⟩) ⟨Nat.zero_le _, rfl, by omega⟩ [] (fun i u hx ag105 => ?_)
  try dsimp only at hx
  obtain ⟨hi, hq, hil⟩ := hx
  refine g0 fun _ => cdD ((i : Int) < (pp.length : Int)) (fun h2 => ?_) (fun h2 => ?_)
  ·refine go (fun _ => (o4 (nz i) (by omega : (i : Int) < (pp.length : Int)) (zf hzp (show 0 < pp.length by omega) : zp = false) (by omega : i < pp.length))) fun _ => g0 fun _ => cl (@a3l _ q qs xs mS u (pp.getD i eS.d) (by omega) (by assumption)) [1, 2, 3] [] 121 fun _ _ => g0 fun q110 => g0 fun _ => cd (!((H3 (xs.map fun x : Xr => x.F) u (pp.getD i eS.d)).isSome)) (fun h3 => ?_) (fun h3 => ?_)
   ·have hE : (a1r (xs.map fun x : Xr => x.F) t pp) = (3, eC.d, ⟨#[]⟩) := hP.trans (hq.trans (b3U (by omega) (by cases hz : H3 (xs.map fun x : Xr => x.F) u (pp.getD i eS.d) with | none => rfl | some c => rw [hz] at h3; cases h3)))
    refine g0 fun _ => rtv trivial (()) trivial [1, 2, 3, 5] (.t [(true, [.t ⟨#[]⟩, .i 0, .v (.bool false), .t ⟨#[]⟩]), (false, [.t ⟨#[]⟩]), (false, [.i 3])]) (by rw [hE]; rfl)
   ·have hso := b0y (L := (xs.map fun x : Xr => x.F)) (u := u) (p := pp) (i := i) (by simpa using h3)
    refine go (fun _ => (o2 (by omega : -9223372036854775808 <= (pp.length : Int) - 1) (by omega : (pp.length : Int) - 1 < 9223372036854775808))) fun _ => cdE (i : Int) ((pp.length : Int) - 1) (fun h4 => ?_) (fun h4 => ?_)
    ·have hE : (a1r (xs.map fun x : Xr => x.F) t pp) = (0, (I3 (xs.map fun x : Xr => x.F) u (pp.getD i eS.d)), u) := hP.trans (hq.trans (b4Y (by omega) hso))
     refine g0 fun _ => rtv trivial (()) trivial [1, 2, 3, 5] (.t [(true, [.t ((I3 (xs.map fun x : Xr => x.F) u (pp.getD i eS.d)).name), .i ((I3 (xs.map fun x : Xr => x.F) u (pp.getD i eS.d)).kind), .cb ((I3 (xs.map fun x : Xr => x.F) u (pp.getD i eS.d)).must), .t ((I3 (xs.map fun x : Xr => x.F) u (pp.getD i eS.d)).to)]), (false, [.t u]), (false, [.i 0])]) (by rw [hE])
    ·refine g0 fun _ => cd (a7 ((I3 (xs.map fun x : Xr => x.F) u (pp.getD i eS.d)).to) ⟨#[]⟩) (fun h5 => ?_) (fun h5 => ?_)
     ·have hE : (a1r (xs.map fun x : Xr => x.F) t pp) = (9, eC.d, ⟨#[]⟩) := hP.trans (hq.trans (a8X (by omega) hso h5))
      refine g0 fun _ => rtv trivial (()) trivial [1, 2, 3, 5] (.t [(true, [.t ⟨#[]⟩, .i 0, .v (.bool false), .t ⟨#[]⟩]), (false, [.t ⟨#[]⟩]), (false, [.i 9])]) (by rw [hE]; rfl)
     ·refine g0 fun _ => go (fun _ => (o2 (by omega : -9223372036854775808 <= (i : Int) + 1) (by omega : (i : Int) + 1 < 9223372036854775808))) fun _ => ag105 _ _ (⟨i + 1, (I3 (xs.map fun x : Xr => x.F) u (pp.getD i eS.d)).to⟩) (by first | omega | (simp only; omega)) (by dsimp only; exact ⟨by omega, hq.trans (b3T (by omega) hso h5), by omega⟩) [4, 1, 2, 3, 5] (by kernel_rfl) (by kernel_rfl)
  ·refine g0 fun _ => ?_
   have hE : (a1r (xs.map fun x : Xr => x.F) t pp) = (3, eC.d, ⟨#[]⟩) := by exfalso; omega
   exact rtv trivial (()) trivial [1, 2, 3, 4] (.t [(true, [.t ⟨#[]⟩, .i 0, .v (.bool false), .t ⟨#[]⟩]), (false, [.t ⟨#[]⟩]), (false, [.i 3])]) (by rw [hE]; rfl)
end Go.Proofs.YtagidoadfajpgaaGreat
namespace Go.Proofs.YtagidoadfajpgaaGreat
set_option maxHeartbeats 4000000
open Go.Abs
variable {nO : Nat}
set_option maxRecDepth 100000
attribute [local irreducible] GP ruP ruN nxP acS gst cdP loP j6 m9 m8 enP caA n5 lgP agN
def b2O (l : List (Fm × Ts)) (t : ByteArray) (id : Int) (n : ByteArray) : Va := (((l.getD (tix l t).toNat dFT).2.rows.getD ((l.getD (tix l t).toNat dFT).2.pos id).toNat dR).2.getD (cI n (l.getD (tix l t).toNat dFT).1.xa).toNat eV.d)
def b1w (l : List (Fm × Ts)) : ByteArray -> Int -> List ByteArray -> Va × Bool
 | _, _, [] => (a21, false)
 | t, id, n :: p => if p.isEmpty then (b2O l t id n, true) else
  if bkB (l.getD (tix l (I3 (l.map Prod.fst) t n).to).toNat dFT).1 (l.getD (tix l (I3 (l.map Prod.fst) t n).to).toNat dFT).2 (b2O l t id n) then
   b1w l (I3 (l.map Prod.fst) t n).to (bkI (l.getD (tix l (I3 (l.map Prod.fst) t n).to).toNat dFT).1 (l.getD (tix l (I3 (l.map Prod.fst) t n).to).toNat dFT).2 (b2O l t id n)) p else (a21, true)
def isL (l : List (Fm × Ts)) (t : ByteArray) (id : Int) : Bool := (l.getD (tix l t).toNat dFT).2.is id
def Q4 (l : List (Fm × Ts)) (t : ByteArray) (id : Int) (p : List ByteArray) : Va × Bool := if (a1r (l.map Prod.fst) t p).1 = 0 /\ isL l t id = true then b1w l t id p else (a21, false)
def wE (L : List Fm) (u : ByteArray) (p : List ByteArray) : Prop := (pth L u p).1 = 0
def pE (L : List Fm) (u : ByteArray) (p : List ByteArray) : Prop := (a1r L u p).1 = 0
theorem b82 {L : List Fm} {u : ByteArray} {p : List ByteArray} (h : pE L u p) : wE L u p /\ 0 < p.length /\ p.length <= 4 := by
 unfold pE a1r at h
 split at h
 ·cases h
 ·exact ⟨h, by omega⟩
def wOk (l : List (Fm × Ts)) (u : ByteArray) (d : Int) (p : List ByteArray) : Prop := wE (l.map Prod.fst) u p /\ ∃ j F s, l[j]? = some (F, s) /\ tix l u = ((j : Nat) : Int) /\ s.is d = true
section
variable {l : List (Fm × Ts)} {t u n : ByteArray} {id d : Int} {p : List ByteArray} {i j : Nat} {F : Fm} {s : Ts}
theorem b2Q (e : l[j]? = some (F, s)) (h : tix l t = (j : Int)) : l.getD (tix l t).toNat dFT = (F, s) := by
 rw [h, Int.toNat_natCast, List.getD_eq_getElem?_getD, e]; rfl
theorem b5s (e : l[j]? = some (F, s)) (h : tix l t = (j : Int)) {r c : Nat} (hp : s.pos id = (r : Int)) (hc : cI n F.xa = (c : Int)) : b2O l t id n = (s.rows.getD r dR).2.getD c eV.d := by
 unfold b2O; rw [b2Q e h, hp, hc, Int.toNat_natCast, Int.toNat_natCast]
theorem b38 (e : l[j]? = some (F, s)) (h : tix l t = (j : Int)) : isL l t id = s.is id := by
 unfold isL; rw [b2Q e h]
theorem b1v (h : i + 1 = p.length) : b1w l u d (p.drop i) = (b2O l u d (p.getD i eS.d), true) := by
 rw [drop_at (by omega), List.drop_eq_nil_of_le (by omega)]; rfl
theorem a7V (h : i + 1 < p.length) (e : l[j]? = some (F, s)) (k : tix l (I3 (l.map Prod.fst) u (p.getD i eS.d)).to = (j : Int)) : b1w l u d (p.drop i) = if bkB F s (b2O l u d (p.getD i eS.d)) then b1w l (I3 (l.map Prod.fst) u (p.getD i eS.d)).to (bkI F s (b2O l u d (p.getD i eS.d))) (p.drop (i + 1)) else (a21, true) := by
 conv => lhs; rw [drop_at (show i < p.length by omega)]
 have h2 : (p.drop (i + 1)).isEmpty = false := by rw [drop_at (i := i + 1) (by omega)]; rfl
 conv => lhs; unfold b1w
 rw [b2Q e k, if_neg (by rw [h2]; decide)]
theorem a2h {L : List Fm} (hi : i < p.length) (h : (pth L u (p.drop i)).1 = 0) : ∃ c, H3 L u (p.getD i eS.d) = some c := by
 cases e : H3 L u (p.getD i eS.d) with
 | none => rw [b3U hi e] at h; cases h
 | some c => exact ⟨c, rfl⟩
theorem b3L (hi : i < p.length) (h : wOk l u d (p.drop i)) : ∃ j F s r c, l[j]? = some (F, s) /\ tix l u = ((j : Nat) : Int) /\ (r < s.rows.length /\ s.pos d = ((r : Nat) : Int) /\ ((s.rows.getD r dR).1 : Int) = d) /\ cI (p.getD i eS.d) F.xa = ((c : Nat) : Int) /\ c < F.xa.length /\ H3 (l.map Prod.fst) u (p.getD i eS.d) = some (F.xa.getD c eC.d) /\ b2O l u d (p.getD i eS.d) = (s.rows.getD r dR).2.getD c eV.d := by
 obtain ⟨h1, j, F, s, e, hx, his⟩ := h
 obtain ⟨r, hr⟩ := Ts.find his
 obtain ⟨k, hk⟩ := a2h hi h1
 obtain ⟨j2, c, hj, hj2, hc, hcx, hd⟩ := b0x hk
 have ej : j = j2 := by have : tix l u = nI u (l.map Prod.fst) := rfl; omega
 subst ej
 have hF := (a9R e).1
 rw [hF] at hc hcx hd
 exact ⟨j, F, s, r, c, e, hx, hr, hcx, hc, hd ▸ hk, b5s e hx hr.2.1 hcx⟩
theorem b6C (hi : i + 1 < p.length) (h : wE (l.map Prod.fst) u (p.drop i)) : wE (l.map Prod.fst) (I3 (l.map Prod.fst) u (p.getD i eS.d)).to (p.drop (i + 1)) /\ ∃ j F s, l[j]? = some (F, s) /\ tix l (I3 (l.map Prod.fst) u (p.getD i eS.d)).to = ((j : Nat) : Int) := by
 obtain ⟨c, hk⟩ := a2h (by omega) h
 have hc : I3 (l.map Prod.fst) u (p.getD i eS.d) = c := by unfold I3; rw [hk]; rfl
 rw [hc]
 have ht : a7 c.to ⟨#[]⟩ = false := by
  cases e : a7 c.to ⟨#[]⟩ with
  | false => rfl
  | true => unfold wE at h; rw [a8X hi hk e] at h; cases h
 unfold wE at h ⊢
 rw [b3T hi hk ht] at h
 refine ⟨h, ?_⟩
 obtain ⟨c2, h2⟩ := a2h hi h
 obtain ⟨j, _, hj, hj2, _⟩ := b0x h2
 rw [List.length_map] at hj
 exact ⟨j, _, _, List.getElem?_eq_getElem hj, hj2⟩
theorem b8z {v : Va} (h : bkB F s v = true) : s.is (bkI F s v) = true := by
 unfold bkI; rw [if_pos h]
 unfold bkB at h
 rw [Bool.and_eq_true] at h
 rcases m0 (l := s.rows) (p := fun r => eqV (r.2.getD (kix F).toNat eV.d) v) with e | ⟨c, hc, e⟩
 ·have := of_decide_eq_true h.2; unfold kro at this; rw [e] at this; cases this
 ·have e2 : kro F s v = (c : Int) := e
  rw [e2, Int.toNat_natCast]
  exact Ts.is_iff.2 ⟨_, V8 hc, rfl⟩
theorem FmN.key (h : FmN (l.map Prod.fst)) (e : l[j]? = some (F, s)) : a7 F.key ⟨#[]⟩ = false -> kix F ≠ -1 := fun k => by
 have := ((h.at e).1.2.2.2.2.2.2.2.2.1).resolve_left (by rw [k]; decide)
 unfold kix; intro e2
 have h3 : (0 : Int) <= e9 F.xa (fun c => a7 c.name F.key) := this
 rw [e2] at h3; cases h3
theorem b1x {a b : Va × Bool} (h : a = b) : SV.den (.t [(true, [.i a.1.k, .i a.1.n, .t a.1.s]), (false, [.v (.bool a.2)])]) = SV.den (.t [(true, [.i b.1.k, .i b.1.n, .t b.1.s]), (false, [.cb b.2])]) := by
 subst h; rfl
end
theorem Y5 {q k : Nat} {ps : List Nat} {l : List (Fm × Ts)} {j : Nat} {F : Fm} {s : Ts} {na : ByteArray} {id : Int} {qp cp : Nat} {zp : Bool} {pp : List ByteArray} {mp : Md} (e : l[j]? = some (F, s)) (hk : k < 70000) (hx : tix l na = (j : Int)) (hN : FmN (l.map Prod.fst)) (hzp : zp = true -> pp.length = 0) (hlp : pp.length < 1000000) (hcp : pp.length <= cp) : K1 nO 27 [.o (.p 1 q 0 0 0), .o (.t na), .o (.i id), .o (.s 5 qp 1 0 pp.length cp zp)] [.as (ddA q k ps l), vc eS 5 qp pp 9 mp zp] (.t [(true, [.i ((Q4 l na id pp).1.k), .i ((Q4 l na id pp).1.n), .t ((Q4 l na id pp).1.s)]), (false, [.cb ((Q4 l na id pp).2)])]) := by
 refine fs 100 fun B => g0 fun q101 => gh (f9 (φ := ddP ps l) (L := ddL q k)) [1] [(2, 961), (3, 962)] 101 fun y hy => g0 fun _ => cl (@a04 _ q y.qs y.qm) [0] [(2, 961)] 101 fun _ _ => g0 fun _ => cl (@b2c _ y.qs y.qv y.xs .grown na qp cp zp pp 9 mp (by have := a7K hy; have := hN.1; rw [List.length_map] at this; omega) hy.ok (by assumption) (by omega)) [1, 2, 3, 7] [(1, 961), (2, 962)] 101 fun _ _ => ?_
 have hyL := a0M hy
 refine g0 (fun q106 => ?_)
 by_cases h0 : pE (l.map Prod.fst) na pp
 ·refine sv 12 (v := .o (.i ((a1r (y.xs.map fun x : Xr => x.F) na pp).1))) (v' := .o (.i ((a1r (l.map Prod.fst) na pp).1))) (by rw [hyL]) <| gh (d5 (φ := ddP ps l) (L := ddL q k) y hy) [5, 1, 2, 3, 6, 7] [] 102 fun _ _ => sv 12 (v := .o (.i ((a1r (l.map Prod.fst) na pp).1))) (v' := .o (.i 0)) (congrArg (Value.int .i64) h0) <| goN 3 (fun _ => trivial) fun _ => sv 32 (v := .o (.cb ((0 : Int) != 0))) (v' := .o (.v (.bool false))) rfl <| g0 fun _ => cl (z8 (q := q) (k := k) (ps := ps) (l := l) (j := j) (s := na) (List.getElem?_eq_some_iff.1 e).1 hx) [0] [(7, 102)] 103 fun _ _ => ?_
  refine cl (@a0W _ q k ps l j F s (by assumption)) [0] [(1, 102), (8, 103)] 104 fun ⟨ql111, cL111, lv111⟩ hlv => g0 fun _ => cl (@J1 _ ql111 cL111 lv111 171 .imm id (Nat.lt_of_le_of_lt (D0 hlv.1) (by decide))) [1] [(1, 103)] 104 fun _ _ => g0 fun _ => cd (!(has lv111 id)) (fun h1 => ?_) (fun h1 => ?_)
  ·have hno : Q4 l na id pp = (a21, false) := if_neg (fun z => by have z2 := z.2; rw [b38 e hx, <- hlv.2] at z2; rw [z2] at h1; cases h1)
   refine g0 fun _ => rtv trivial (()) trivial [1, 3] (.t [(true, [.i 0, .i 0, .t ⟨#[]⟩]), (false, [.v (.bool false)])]) (b1x hno.symm)
  ·have his : s.is id = true := by rw [<- hlv.2]; simpa using h1
   have hV : Q4 l na id pp = b1w l na id pp := if_pos ⟨h0, (b38 e hx).trans his⟩
   have hpc := b82 h0
   refine go (fun _ => (o5 (by omega : -9223372036854775808 <= (pp.length : Int) - 1) (by omega : (pp.length : Int) - 1 < 9223372036854775808) (by omega : pp.length <= cp) (by omega : (0 : Int) <= (pp.length : Int) - 1) (by omega : (pp.length : Int) - 1 <= (cp : Int)))) fun _ => sv 46 (v := .o (.s 5 qp 1 0 (((pp.length : Int) - 1).toNat) cp zp)) (v' := .o (.s 5 qp 1 0 (pp.length - 1) cp zp)) (by show Value.slice _ _ _ = Value.slice _ _ _; congr 1; omega) <| sv 47 (v := .o (.i ((((pp.length : Int) - 1).toNat : Nat) : Int))) (v' := .o (.i (((pp.length - 1) : Nat) : Int))) (congrArg (Value.int .i64) (by omega)) <| lp3 (Nat) (ByteArray) (Int) [0, 3, 8, 46, 47] (fun r => [(48, .o (.i (r.1 : Int))), (1, .o (.t r.2.1)), (2, .o (.i r.2.2))]) [0, 1, 2, 3, 4] (fun _ => []) 124 (fun r => r.1 <= pp.length - 1 /\ wOk l r.2.1 r.2.2 (pp.drop r.1) /\ b1w l na id pp = b1w l r.2.1 r.2.2 (pp.drop r.1)) (fun r => pp.length - r.1) (⟨0, na, id⟩) ⟨Nat.zero_le _, ⟨hpc.1, j, F, s, e, hx, his⟩, rfl⟩ [] (fun i u d hx ag117 => ?_)
   try dsimp only at hx
   obtain ⟨hi, hw, hv⟩ := hx
   refine g0 fun _ => cdD ((i : Int) < (((pp.length - 1) : Nat) : Int)) (fun h2 => ?_) (fun h2 => ?_)
   ·have hway := b3L (show i < pp.length by omega) hw
    obtain ⟨j2, F2, s2, r, c, e2, hx2, hr, hc, hcx, hcol, hgv⟩ := hway
    have hwon := b6C (show i + 1 < pp.length by omega) hw.1
    obtain ⟨hon, j3, F3, s3, e3, hx3⟩ := hwon
    refine go (fun _ => (o4 (nz i) (by omega : (i : Int) < (((pp.length - 1) : Nat) : Int)) (zf hzp (show 0 < pp.length by omega) : zp = false) (by omega : i < pp.length))) fun _ => gh (f9 (φ := ddP ps l) (L := ddL q k)) [1] [(2, 961), (3, 962)] 124 fun y2 hy2 => g0 fun _ => cl (@a3l _ y2.qs y2.qv y2.xs .grown u (pp.getD i eS.d) (by have := a7K hy2; have := hN.1; rw [List.length_map] at this; omega) hy2.ok) [1, 2, 3] [(1, 961), (2, 962)] 124 fun _ _ => g0 (fun q122 => ?_)
    have hyL2 := a0M hy2
    refine gh (b6 (l := [.blk 124 (q122 124) [.t ((I3 (y2.xs.map fun x : Xr => x.F) u (pp.getD i eS.d)).name), .i ((I3 (y2.xs.map fun x : Xr => x.F) u (pp.getD i eS.d)).kind), .cb ((I3 (y2.xs.map fun x : Xr => x.F) u (pp.getD i eS.d)).must), .t ((I3 (y2.xs.map fun x : Xr => x.F) u (pp.getD i eS.d)).to)] 130 .own]) (l' := [.blk 124 (q122 124) [.t ((I3 (l.map Prod.fst) u (pp.getD i eS.d)).name), .i ((I3 (l.map Prod.fst) u (pp.getD i eS.d)).kind), .cb ((I3 (l.map Prod.fst) u (pp.getD i eS.d)).must), .t ((I3 (l.map Prod.fst) u (pp.getD i eS.d)).to)] 130 .own]) (by rw [hyL2])) [0] [] 125 fun _ _ => gh (d5 (φ := ddP ps l) (L := ddL q k) y2 hy2) [4, 1, 2, 3, 5, 6] [] 125 fun _ _ => sv 2 (v := .o (.i d)) (v' := .o (.i (((s2.rows.getD r dR).1 : Nat) : Int))) (congrArg (Value.int .i64) hr.2.2.symm) <| g0 fun _ => cl (z8 (q := q) (k := k) (ps := ps) (l := l) (j := j2) (s := u) (List.getElem?_eq_some_iff.1 e2).1 hx2) [0] [(7, 125)] 126 fun _ _ => ?_
    refine g0 fun _ => cl (@a2I _ q k ps l j2 F2 s2 r c (pp.getD i eS.d) (by assumption) (by omega) hr.1 hc hcx) [0] [(1, 125)] 126 fun _ _ => g0 fun q127 => g0 fun _ => cl (a1U (q := q) (k := k) (ps := ps) (l := l) (j := j3) (F := F3) (s := s3) (na := (I3 (l.map Prod.fst) u (pp.getD i eS.d)).to) (v := ((s2.rows.getD r dR).2.getD c eV.d)) (by assumption) (by omega) hx3 (hN.key e3)) [1] [] 127 fun _ _ => g0 fun _ => g0 fun _ => cd (!(bkB F3 s3 ((s2.rows.getD r dR).2.getD c eV.d))) (fun h3 => ?_) (fun h3 => ?_)
    ·have hE : Q4 l na id pp = (a21, true) := hV.trans (hv.trans ((a7V (by omega) e3 hx3).trans (by rw [hgv]; exact if_neg (fun z => by rw [z] at h3; cases h3))))
     refine g0 fun _ => rtv trivial (()) trivial [0, 5] (.t [(true, [.i 0, .i 0, .t ⟨#[]⟩]), (false, [.v (.bool true)])]) (b1x hE.symm)
    ·have h3b : bkB F3 s3 ((s2.rows.getD r dR).2.getD c eV.d) = true := by simpa using h3
     refine g0 fun _ => go (fun _ => (o2 (by omega : -9223372036854775808 <= (i : Int) + 1) (by omega : (i : Int) + 1 < 9223372036854775808))) fun _ => ag117 _ _ (⟨i + 1, (I3 (l.map Prod.fst) u (pp.getD i eS.d)).to, bkI F3 s3 ((s2.rows.getD r dR).2.getD c eV.d)⟩) (by simp only; omega) (by dsimp only; exact ⟨by omega, ⟨hon, j3, F3, s3, e3, hx3, b8z h3b⟩, hv.trans ((a7V (by omega) e3 hx3).trans (by rw [hgv, if_pos h3b]))⟩) [3, 0, 4, 5, 6] (by kernel_rfl) (by kernel_rfl)
   ·have hie : i + 1 = pp.length := by omega
    have hway := b3L (show i < pp.length by omega) hw
    obtain ⟨j2, F2, s2, r, c, e2, hx2, hr, hc, hcx, hcol, hgv⟩ := hway
    have hz : ((pp.length : Int) - 1).toNat = i := by omega
    refine sv 2 (v := .o (.i d)) (v' := .o (.i (((s2.rows.getD r dR).1 : Nat) : Int))) (congrArg (Value.int .i64) hr.2.2.symm) ?_
    have hE : Q4 l na id pp = (((s2.rows.getD r dR).2.getD c eV.d), true) := hV.trans (hv.trans ((b1v hie).trans (by rw [hgv])))
    refine g0 fun _ => cl (z8 (q := q) (k := k) (ps := ps) (l := l) (j := j2) (s := u) (List.getElem?_eq_some_iff.1 e2).1 hx2) [1] [(7, 124)] 125 fun _ _ => ?_
    refine go (fun _ => (o6 (by omega : -9223372036854775808 <= (pp.length : Int) - 1) (by omega : (pp.length : Int) - 1 < 9223372036854775808) (by omega : (0 : Int) <= (pp.length : Int) - 1) (by omega : (pp.length : Int) - 1 < (pp.length : Int)) (zf hzp (show 0 < pp.length by omega) : zp = false) (by omega : (((pp.length : Int) - 1).toNat) < pp.length))) fun _ => cl (@a2I _ q k ps l j2 F2 s2 r c (pp.getD (((pp.length : Int) - 1).toNat) eS.d) (by assumption) (by omega) hr.1 (hz ▸ hc) hcx) [0] [(1, 124)] 125 fun _ _ => g0 fun _ => rtv trivial (()) trivial [0, 3] (.t [(true, [.i (((s2.rows.getD r dR).2.getD c eV.d).k), .i (((s2.rows.getD r dR).2.getD c eV.d).n), .t (((s2.rows.getD r dR).2.getD c eV.d).s)]), (false, [.v (.bool true)])]) (b1x hE.symm)
 ·refine sv 12 (v := .o (.i ((a1r (y.xs.map fun x : Xr => x.F) na pp).1))) (v' := .o (.i ((a1r (l.map Prod.fst) na pp).1))) (by rw [hyL]) <| gh (d5 (φ := ddP ps l) (L := ddL q k) y hy) [5, 1, 2, 3, 6, 7] [] 102 fun _ _ => goN 3 (fun _ => trivial) fun _ => sv 32 (v := .o (.cb ((a1r (l.map Prod.fst) na pp).1 != 0))) (v' := .o (.v (.bool true))) (congrArg Value.bool (bne_iff_ne.2 h0)) <| g0 fun _ => cdT rfl <| g0 fun _ => rtv trivial (()) trivial [0, 2] (.t [(true, [.i 0, .i 0, .t ⟨#[]⟩]), (false, [.v (.bool false)])]) (b1x (show _ = Q4 l na id pp from (if_neg (fun z => h0 z.1)).symm))
end Go.Proofs.YtagidoadfajpgaaGreat
namespace Go.Proofs.YtagidoadfajpgaaGreat
set_option maxHeartbeats 4000000
open Go.Abs
variable {nO : Nat}
set_option maxRecDepth 100000
attribute [local irreducible] GP ruP ruN nxP acS gst cdP loP j6 m9 m8 enP caA n5 lgP agN
theorem a9S {q k : Nat} {ps : List Nat} {l : List (Fm × Ts)} {j : Nat} {F : Fm} {s : Ts} (e : l[j]? = some (F, s)) : K1 nO 40 [.o (.p 1 (ps.getD j 0) 0 0 0)] [.as (ddA q k ps l)] (.o (.i (s.next : Int))) :=
 a3W e (a0z )
theorem b2S {q k : Nat} {ps : List Nat} {l : List (Fm × Ts)} {j : Nat} {F : Fm} {s : Ts} {i : Nat} (e : l[j]? = some (F, s)) (hk : k < 70000) (hj : i < s.rows.length) : Ctr Tryz.prog nO 88 [.o (.p 1 (ps.getD j 0) 0 0 0), .o (.i (((s.rows.getD i dR).1 : Nat) : Int))] [.as (ddA q k ps l)] ((Nat)) (fun _ => True) (fun r => .t [(false, [.s 6 r 3 0 ((s.rows.getD i dR).2.length) ((s.rows.getD i dR).2.length) ((s.rows.getD i dR).2.isEmpty)]), (false, [.v (.bool true)])]) (fun r => [.as (ddA q k ps l), vc eV 6 r ((s.rows.getD i dR).2) 26 .grown ((s.rows.getD i dR).2.isEmpty)]) :=
 a3W e (a5r (j := i) hk hj)
theorem a8N {x : Xr} {s : Ts} {i : Nat} (h : x.s = s) : s.rows.length = x.ws.length /\ (i < x.ws.length -> s.rows.getD i dR = (x.ws.getD i eRw.d).2) := by
 subst h
 exact ⟨List.length_map .., fun _ => b8c⟩
theorem a6U {q k : Nat} {ps : List Nat} {l : List (Fm × Ts)} {w t : Nat} {F : Fm} {s : Ts} {na : ByteArray} (e : l[t]? = some (F, s)) (hk : k < 70000) (hx : tix l na = (t : Int)) : K1 nO 32 [.o (.p 1 q 0 0 0), .o (.p 2 w 0 0 0), .o (.i (t : Int)), .o (.t na)] [.as (ddA q k ps l), .as (dbA w l)] (.o (.v (.bool true))) := by
 refine fs 100 fun B => gh (b0q (q := q) (k := k) (ps := ps) (l := l)) [0] [] 100 (fun _ hfa => ?_)
 have hok := hfa t F s e
 refine g0 fun _ => g0 fun _ => cl (z8 (q := q) (k := k) (ps := ps) (l := l) (j := t) (s := na) (List.getElem?_eq_some_iff.1 e).1 hx) [0] [(7, 100)] 101 fun _ _ => ?_
 refine g0 fun _ => gh (f9 (φ := dbP l) (L := dbL w)) [1] [(1, 2), (2, 952), (3, 953), (4, 954)] 101 (fun y hy => ?_)
 have hya := hy.at e
 have hnx := a60 (xs := y.xs) (t := t) hya.1
 have hnl : (y.xs.map fun x : Xr => (x.n : Int)).length = y.xs.length := List.length_map ..
 have hrl := (a8N (i := 0) hya.2.2).1
 have hwl := (hy.ok t hya.1).wl
 refine goN 3 (fun _ => trivial) fun _ => g0 fun _ => cl (@a0W _ q k ps l t F s (by assumption)) [5] [(1, 100), (8, 101)] 102 fun ⟨ql107, cL107, lv107⟩ hlv => cl (@a30 _ ql107 cL107 lv107 171 .imm hlv.1) [1] [(1, 101)] 102 fun _ _ => goN 11 (fun _ => (o4 (nz t) (by omega : (t : Int) < (y.xs.length : Int)) (zfe (by omega) : y.xs.isEmpty = false) (by omega : t < y.xs.length))) fun _ => sv 32 (v := .o (.cb (a7j lv107 != (((y.xs.getD t dXr).ws.length : Nat) : Int)))) (v' := .o (.v (.bool false))) (congrArg Value.bool (bne_eq_false_iff_eq.2 (by rw [a31 hlv.1, a9M hok hlv.1 hlv.2]; unfold b2H; rw [List.length_map, hrl]))) <| g0 fun _ => cl (@a9S _ q k ps l t F s (by assumption)) [1] [(1, 100)] 102 fun _ _ => go (fun _ => (o4 (nz t) (by omega : (t : Int) < (y.xs.length : Int)) (zfe (by omega) : y.xs.isEmpty = false) (by omega : t < (y.xs.map fun x : Xr => (x.n : Int)).length))) fun _ => cdF (b := ((s.next : Int) != ((y.xs.map fun x : Xr => (x.n : Int)).getD t eI.d))) (bne_eq_false_iff_eq.2 (by rw [hnx, <- hya.2.2]; rfl)) <| g0 fun _ => gh (f8 (I := xA) (l := y.xs) t dXr hya.1) [6] [] 102 fun _ _ => gh (O5 (l := xL (y.xs.getD t dXr))) [0] [] 102 fun _ _ => lp ((Nat)) [1, 2, 9] (fun r => [(10, .o (.i (r : Int)))]) [0, 1, 2, 3, 4, 5, 6, 7, 8, 9, 10, 11] (fun _ => []) 122 (fun r => r <= (y.xs.getD t dXr).ws.length) (fun r => (y.xs.getD t dXr).ws.length - r) (0) (Nat.zero_le _) [] fun i hx ag115 => go (fun _ => (o4 (nz t) (by omega : (t : Int) < (y.xs.length : Int)) (zfe (by omega) : y.xs.isEmpty = false) (by omega : t < y.xs.length))) fun _ => cdD ((i : Int) < (((y.xs.getD t dXr).ws.length : Nat) : Int)) (fun h2 => ?_) (fun h2 => ?_)
 ·have hrw := a8N (i := i) hya.2.2
  have he : (s.rows.getD i dR).2 = ((y.xs.getD t dXr).ws.getD i eRw.d).2.2 := congrArg Prod.snd (hrw.2 (by omega))
  have hr9 := (hy.ok t hya.1).rl _ (a0p (d := eRw.d) (show i < (y.xs.getD t dXr).ws.length by omega))
  rw [hya.2.1] at hr9
  have hx9 := hok.fm.xl
  have hz3 : ((y.xs.getD t dXr).ws.getD i eRw.d).2.2.length < 1000000 := by omega
  refine go (fun _ => (oc (nz t) (by omega : (t : Int) < (y.xs.length : Int)) (zfe (by omega) : y.xs.isEmpty = false) (by omega : t < y.xs.length) (nz i) (by omega : (i : Int) < (((y.xs.getD t dXr).ws.length : Nat) : Int)) (o2 (zfe (show 0 < (y.xs.getD t dXr).ws.length by omega) : (y.xs.getD t dXr).ws.isEmpty = false) (by omega : i < ((y.xs.getD t dXr).ws).length)))) fun _ => sv 68 (v := .o (.i ((((y.xs.getD t dXr).ws).getD i eRw.d).2.1 : Int))) (v' := .o (.i (((s.rows.getD i dR).1 : Nat) : Int))) (congrArg (fun z : Rw => Value.int .i64 (z.1 : Int)) (hrw.2 (by omega)).symm) <| cl (@b2S _ q k ps l t F s i (by assumption) (by omega) (by omega)) [6] [(1, 100), (6, 122)] 123 fun q2118 _ => g0 fun _ => gh (f8 (I := a6I) (l := (y.xs.getD t dXr).ws) i eRw.d (by omega)) [6] [] 123 fun _ _ => gh (a1t (c := vc eV 921 (((y.xs.getD t dXr).ws.getD i eRw.d).1) (((y.xs.getD t dXr).ws.getD i eRw.d).2.2) 26 .grown (((y.xs.getD t dXr).ws.getD i eRw.d).2.2.isEmpty)) (I := a6I ((y.xs.getD t dXr).ws.getD i eRw.d))) [0] [] 123 fun _ _ => goN 3 (fun _ => trivial) fun _ => sv 74 (v := .o (.v (.bool false))) (v' := .o (.v (.bool false))) rfl <| go (fun _ => (oc (nz t) (by omega : (t : Int) < (y.xs.length : Int)) (zfe (by omega) : y.xs.isEmpty = false) (by omega : t < y.xs.length) (nz i) (by omega : (i : Int) < (((y.xs.getD t dXr).ws.length : Nat) : Int)) (o2 (zfe (show 0 < (y.xs.getD t dXr).ws.length by omega) : (y.xs.getD t dXr).ws.isEmpty = false) (by omega : i < ((y.xs.getD t dXr).ws).length)))) fun _ => cl (@b1Y _ q2118 ((s.rows.getD i dR).2.length) ((s.rows.getD i dR).2.isEmpty) ((s.rows.getD i dR).2) 26 .grown ((((y.xs.getD t dXr).ws).getD i eRw.d).1) ((((y.xs.getD t dXr).ws).getD i eRw.d).2.2.length) ((((y.xs.getD t dXr).ws).getD i eRw.d).2.2.isEmpty) ((((y.xs.getD t dXr).ws).getD i eRw.d).2.2) 26 .grown (fun h => by simpa using h) (by rw [he]; exact hz3) (fun h => by simpa using h) hz3) [3, 0] [(1, 122), (2, 921)] 123 fun _ _ => g0 fun _ => cdF (b := (a8P ((s.rows.getD i dR).2) ((((y.xs.getD t dXr).ws).getD i eRw.d).2.2) != 0)) (bne_eq_false_iff_eq.2 (by rw [he]; exact a3q _)) <| gh (x4 (c := vc eV 921 ((((y.xs.getD t dXr).ws).getD i eRw.d).1) ((((y.xs.getD t dXr).ws).getD i eRw.d).2.2) 26 .grown ((((y.xs.getD t dXr).ws).getD i eRw.d).2.2.isEmpty)) (I := a6I ((y.xs.getD t dXr).ws.getD i eRw.d))) [1] [] 123 fun _ _ => gh (j9 (I := a6I) (l := (y.xs.getD t dXr).ws) i eRw.d (by omega)) [0, 2] [] 123 fun _ _ => go (fun _ => (o2 (by omega : -9223372036854775808 <= (i : Int) + 1) (by omega : (i : Int) + 1 < 9223372036854775808))) fun _ => ag115 _ _ (i + 1) (by first | omega | (simp only; omega)) (by omega) [3, 4, 5, 6, 0, 7, 2, 8, 9, 10, 11, 12] (by kernel_rfl) (by kernel_rfl)
 ·refine gh (p6 (l := xL (y.xs.getD t dXr))) [0, 1, 2, 3, 4] [] 122 fun _ _ => gh (j9 (I := xA) (l := y.xs) t dXr hya.1) [0, 1] [] 122 fun _ _ => gh (d5 (φ := dbP l) (L := dbL w) y hy) [3, 4, 5, 6, 0] [] 122 fun _ _ => g0 fun _ => rt trivial (()) trivial [1, 0]
theorem a6T {q k : Nat} {ps : List Nat} {l : List (Fm × Ts)} {w : Nat} (hk : k < 70000) (hN : FmN (l.map Prod.fst)) : K1 nO 46 [.o (.p 1 q 0 0 0), .o (.p 2 w 0 0 0)] [.as (ddA q k ps l), .as (dbA w l)] (.o (.v (.bool true))) := by
 refine fs 100 (fun B => ?_)
 have hl9 := hN.1
 rw [List.length_map] at hl9
 refine g0 fun _ => g0 fun _ => lp ((Nat)) [0, 1] (fun r => [(5, .o (.i (r : Int)))]) [0, 1] (fun _ => []) 120 (fun r => r <= l.length) (fun r => l.length - r) (0) (Nat.zero_le _) [] fun i hx ag103 => gh (f9 (φ := dbP l) (L := dbL w)) [1] [(1, 2), (2, 952), (3, 953), (4, 954)] 120 (fun y hy => ?_)
 have hyl : y.xs.length = l.length := by have := congrArg List.length hy.ls; rwa [List.length_map] at this
 refine g0 fun _ => cdD ((i : Int) < (y.xs.length : Int)) (fun h1 => ?_) (fun h1 => ?_)
 ·obtain ⟨⟨F, s⟩, e⟩ : ∃ v, l[i]? = some v := ⟨_, List.getElem?_eq_getElem (by omega)⟩
  have hya := hy.at e
  refine go (fun _ => (o4 (nz i) (by omega : (i : Int) < (y.xs.length : Int)) (zfe (by omega) : y.xs.isEmpty = false) (by omega : i < y.xs.length))) fun _ => sv 25 (v := .o (.t ((y.xs.getD i dXr).F.name))) (v' := .o (.t F.name)) (congrArg (fun z : Fm => Value.string z.name) hya.2.1) <| gh (d5 (φ := dbP l) (L := dbL w) y hy) [0, 1, 2, 3, 4] [] 120 fun _ _ => cl (@a6U _ q k ps l w i F s F.name (by assumption) (by omega) (hN.at e).2.2) [1, 0] [] 120 fun _ _ => g0 fun _ => cdF rfl <| go (fun _ => (o2 (by omega : -9223372036854775808 <= (i : Int) + 1) (by omega : (i : Int) + 1 < 9223372036854775808))) fun _ => ag103 _ _ (i + 1) (by first | omega | (simp only; omega)) (by omega) [0, 1] (by kernel_rfl) (by kernel_rfl)
 ·refine gh (d5 (φ := dbP l) (L := dbL w) y hy) [0, 1, 2, 3, 4] [] 120 fun _ _ => g0 fun _ => rt trivial (()) trivial [1, 0]
end Go.Proofs.YtagidoadfajpgaaGreat
