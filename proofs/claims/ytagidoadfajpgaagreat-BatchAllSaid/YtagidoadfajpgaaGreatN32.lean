/-
  Ya.
-/
import Derived.Test.YtagidoadfajpgaaGreatN31
import Derived.Test.YtagidoadfajpgaaGreatN22
import Derived.Deep.Strs
import Derived.ChangeMaps5
import Derived.Test.YtagidoadfajpgaaGreatRows
import Derived.Test.YtagidoadfajpgaaGreatChecked
namespace Go.Proofs.YtagidoadfajpgaaGreat
open Go.ChangeShapes Go.WideShapes Go.ChangeAt Go.RowKit Go.Abs
set_option maxRecDepth 100000
section
variable {W : World} {H : Type} {enc : TypeId × Value -> H}
structure ValsAt (W : World) (R : Option Addr) (L C : Nat) (l : List Va) : Prop where
 len : l.length = L
 le : L <= C
 mx : C <= maxLen
 nil : R = none -> C = 0
 at_ : ∀ a, R = some a -> 0 < C -> a.spot = none /\ ∃ c t fz, W.heap[a.block]? = some (.cells c t fz) /\ ∀ i, i < L -> c[a.off + i * 3]? = some (.int .i64 (l.getD i eV.d).k) /\ c[a.off + i * 3 + 1]? = some (.int .i64 (l.getD i eV.d).n) /\ c[a.off + i * 3 + 2]? = some (.string (l.getD i eV.d).s)
structure Opw where
 R : Option Addr
 L : Nat
 C : Nat
 o : Opn
structure OpAt (W : World) (a : Addr) (x : Opw) : Prop where
 c0 : W.cell? a = some (.int .i64 x.o.kind)
 c1 : W.cell? (a.add 1) = some (.string x.o.tab)
 c2 : W.cell? (a.add 2) = some (.int .i64 x.o.id)
 c3 : W.cell? (a.add 3) = some (.string x.o.col)
 c4 : W.cell? (a.add 4) = some (.slice x.R x.L x.C)
 vs : ValsAt W x.R x.L x.C x.o.vs
theorem b3q {p : Addr} {v : Value} (h : W.cell? p = some v) : p.spot = none /\ ∃ c t fz, W.heap[p.block]? = some (.cells c t fz) := by
 unfold World.cell? at h
 split at h
 ·rename_i c t fz hb
  split at h
  ·cases h
  ·rename_i hs
   refine ⟨?_, c, t, fz, hb⟩
   cases hp : p.spot with
   | none => rfl
   | some s => rw [hp] at hs; simp at hs
 ·cases h
theorem a1h (p : Addr) : p.add 0 = p := by simp [Addr.add]
theorem a3c {P : Program} {base : Nat} {spare : Nat -> Bool} {held : Bool} {t : TypeId} {f0 f1 f2 f3 f4 : Field} {fuel : Nat} {cs : List Value} {x : DataW H × List MemPlace} (ht : P.underlying t = some (.struct #[f0, f1, f2, f3, f4])) (h : DataW.trod enc P W base spare held fuel t cs = some x) :
  ∃ y0 y1 y2 y3 y4 n, cs.length = P.cellsOf t /\ DataW.trod enc P W base spare held n f0.type ((cs.drop f0.offset).take (P.cellsOf f0.type)) = some y0 /\
   DataW.trod enc P W base spare held n f1.type ((cs.drop f1.offset).take (P.cellsOf f1.type)) = some y1 /\ DataW.trod enc P W base spare held n f2.type ((cs.drop f2.offset).take (P.cellsOf f2.type)) = some y2 /\ DataW.trod enc P W base spare held n f3.type ((cs.drop f3.offset).take (P.cellsOf f3.type)) = some y3 /\ DataW.trod enc P W base spare held n f4.type ((cs.drop f4.offset).take (P.cellsOf f4.type)) = some y4 := by
 obtain ⟨xs, n, _, _, hl, hlen, hf⟩ := DataW.trod_struct ht h
 match xs, hlen with
 | [y0, y1, y2, y3, y4], _ => exact ⟨y0, y1, y2, y3, y4, n, hl, by simpa using hf 0 f0 rfl, by simpa using hf 1 f1 rfl, by simpa using hf 2 f2 rfl, by simpa using hf 3 f3 rfl, by simpa using hf 4 f4 rfl⟩
theorem c23 : Tryz.prog.cellsOf 2 = 1 /\ Tryz.prog.cellsOf 3 = 1 /\ Tryz.prog.cellsOf 9 = 1 /\ Tryz.prog.cellsOf 56 = 1 /\ Tryz.prog.cellsOf 26 = 3 /\ Tryz.prog.cellsOf 84 = 5 := ⟨by kernel_rfl, by kernel_rfl, by kernel_rfl, by kernel_rfl, by kernel_rfl, by kernel_rfl⟩
theorem add_add (a : Addr) (i j : Nat) : (a.add i).add j = a.add (i + j) := Go.Deep.add_add a i j
theorem b2f {a : Addr} {n : Nat} {x : DataW H × List MemPlace} {cs : List Value} (h1 : W.cells? 0 a 3 = some cs) (h2 : DataW.trod enc Tryz.prog W 0 (fun _ => true) true n 26 cs = some x) :
  ∃ v : Va, W.cell? a = some (.int .i64 v.k) /\ W.cell? (a.add 1) = some (.int .i64 v.n) /\ W.cell? (a.add 2) = some (.string v.s) := by
 obtain ⟨_, hlen, hcell⟩ := World.cells?_some h1
 obtain ⟨k2, k3, k9, _, _, _⟩ := c23
 obtain ⟨y0, y1, y2, m, _, _, g0, g1, g2⟩ := Go.Deep.trod_struct3 Tryz.underlying26 h2
 match cs, hlen with
 | [v0, v1, v2], _ =>
  simp only [k2, k3, k9, List.drop_succ_cons, List.drop_zero, List.take_succ_cons, List.take_zero] at g0 g1 g2
  obtain ⟨x0, e0, _⟩ := DataW.trod_int Tryz.underlying3 g0
  obtain ⟨x1, e1, _⟩ := DataW.trod_int Tryz.underlying2 g1
  obtain ⟨x2, e2, _⟩ := DataW.trod_string Tryz.underlying9 g2
  simp only [List.cons.injEq, and_true] at e0 e1 e2
  subst e0; subst e1; subst e2
  have c0 := hcell 0 (by omega)
  have c1 := hcell 1 (by omega)
  have c2 := hcell 2 (by omega)
  rw [a1h] at c0
  exact ⟨⟨x0, x1, x2⟩, by simpa using c0, by simpa using c1, by simpa using c2⟩
theorem a0c {a : Addr} {c : Array Value} {t : TypeId} {fz : Nat × Nat} (hb : W.heap[a.block]? = some (.cells c t fz)) (hs : a.spot = none) {i : Nat} {v : Value} (h : W.cell? (a.add i) = some v) : c[a.off + i]? = some v := by
 rw [a6q hb hs] at h; exact h
theorem a84 {n : Nat} {x : DataW H × List MemPlace} {u : Value} (h : DataW.trod enc Tryz.prog W 0 (fun _ => true) true n 56 [u] = some x) : ∃ R L C l, u = .slice R L C /\ ValsAt W R L C l := by
 rcases Go.Deep.open_slice Tryz.underlying56 h with ⟨e, _⟩ | ⟨a, len, cap, m, k, D, Pl, e, _, hl, hm, hmm, _, hx⟩
 ·simp only [List.cons.injEq, and_true] at e
  exact ⟨none, 0, 0, [], e, rfl, Nat.le_refl _, Nat.zero_le _, fun _ => rfl, fun a h => nomatch h⟩
 ·simp only [List.cons.injEq, and_true] at e
  have hmc : m = cap := hmm
  subst hmc
  obtain ⟨_, _, _, _, k38, _⟩ := c23
  have hv : ∀ i, ∃ v : Va, i < m -> W.cell? (a.add (i * 3)) = some (.int .i64 v.k) /\ W.cell? (a.add (i * 3 + 1)) = some (.int .i64 v.n) /\ W.cell? (a.add (i * 3 + 2)) = some (.string v.s) := fun i => by
   by_cases hi : i < m
   ·obtain ⟨cs', h1, h2⟩ := hx i hi
    rw [k38] at h1
    obtain ⟨v, e0, e1, e2⟩ := b2f h1 h2
    rw [add_add] at e1 e2
    exact ⟨v, fun _ => ⟨e0, e1, e2⟩⟩
   ·exact ⟨eV.d, fun h => absurd h hi⟩
  obtain ⟨f, hf⟩ := Classical.axiomOfChoice hv
  refine ⟨some a, len, m, (List.range len).map f, e, by simp, hl, hm, fun h => (nomatch h), fun a' ha hC => ?_⟩
  cases ha
  obtain ⟨e0, _, _⟩ := hf 0 hC
  rw [Nat.zero_mul, a1h] at e0
  obtain ⟨hs, c, t, fz, hb⟩ := b3q e0
  refine ⟨hs, c, t, fz, hb, fun i hi => ?_⟩
  have hg : ((List.range len).map f).getD i eV.d = f i := by
   rw [List.getD_eq_getElem?_getD, List.getElem?_map, List.getElem?_range hi]; rfl
  obtain ⟨e0, e1, e2⟩ := hf i (by omega)
  rw [hg]
  refine ⟨a0c hb hs e0, ?_, ?_⟩
  ·have := a0c hb hs e1; rwa [<- Nat.add_assoc] at this
  ·have := a0c hb hs e2; rwa [<- Nat.add_assoc] at this
theorem b42 {a : Addr} {n : Nat} {x : DataW H × List MemPlace} {cs : List Value} (h1 : W.cells? 0 a 5 = some cs) (h2 : DataW.trod enc Tryz.prog W 0 (fun _ => true) true n 84 cs = some x) : ∃ o, OpAt W a o := by
 obtain ⟨_, hlen, hcell⟩ := World.cells?_some h1
 obtain ⟨k2, k3, k9, k23, _, _⟩ := c23
 obtain ⟨y0, y1, y2, y3, y4, m, _, g0, g1, g2, g3, g4⟩ := a3c Tryz.underlying84 h2
 match cs, hlen with
 | [v0, v1, v2, v3, v4], _ =>
  simp only [k3, k9, k23, List.drop_succ_cons, List.drop_zero, List.take_succ_cons, List.take_zero] at g0 g1 g2 g3 g4
  obtain ⟨x0, e0, _⟩ := DataW.trod_int Tryz.underlying3 g0
  obtain ⟨x1, e1, _⟩ := DataW.trod_string Tryz.underlying9 g1
  obtain ⟨x2, e2, _⟩ := DataW.trod_int Tryz.underlying3 g2
  obtain ⟨x3, e3, _⟩ := DataW.trod_string Tryz.underlying9 g3
  obtain ⟨R, L, C, l, e4, hv⟩ := a84 g4
  simp only [List.cons.injEq, and_true] at e0 e1 e2 e3
  subst e0; subst e1; subst e2; subst e3; subst e4
  have c0 := hcell 0 (by omega)
  have c1 := hcell 1 (by omega)
  have c2 := hcell 2 (by omega)
  have c3 := hcell 3 (by omega)
  have c4 := hcell 4 (by omega)
  rw [a1h] at c0
  exact ⟨⟨R, L, C, x0, x1, x2, x3, l⟩, by simpa using c0, by simpa using c1, by simpa using c2, by simpa using c3, by simpa using c4, hv⟩
structure OpsAt (W : World) (a : Addr) (len cap : Nat) (f : Nat -> Opw) : Prop where
 spot : a.spot = none
 blk : ∃ c t fz, W.heap[a.block]? = some (.cells c t fz)
 mx : len <= maxLen
 at_ : ∀ r, r < len -> OpAt W (a.add (r * 5)) (f r)
theorem a5U {base : Nat} {v : Value} {d : DataW H} {ps : List MemPlace} (hval : Value.okWide Tryz.prog W .any base 22 v) (hd : DataW.Trod enc Tryz.prog W 0 (fun _ => true) true 22 v d ps) :
  v = .slice none 0 0 ∨ ∃ a len cap f, v = .slice (some a) len cap /\ OpsAt W a len cap f := by
 have ht := Tryz.underlying22
 obtain ⟨fuel, hd⟩ := hd
 have hone : isOne v = true := by
  unfold Value.okWide at hval
  rw [ht] at hval
  simp only at hval
  unfold Cell.okWide at hval
  rw [ht] at hval
  simp only at hval
  unfold Cell.ok at hval
  rw [ht] at hval
  cases v <;> simp_all [isOne]
 rw [a0O hone] at hd
 rcases Go.Deep.open_slice ht hd with ⟨h, _⟩ | ⟨a, len, cap, m, n, D, Pl, h, _, hl, hmx, hm, _, hx⟩
 ·left
  simpa using h
 ·right
  have hv : v = .slice (some a) len cap := by simpa using h
  subst hv
  have hmc : m = cap := hm
  subst hmc
  have hhas : W.has Tryz.prog .any base a 84 m := by
   unfold Value.okWide at hval
   rw [ht] at hval
   simp only at hval
   unfold Cell.okWide at hval
   rw [ht] at hval
   simp only at hval
   unfold Cell.ok at hval
   rw [ht] at hval
   exact hval.2.2
  obtain ⟨_, hsp, row, cells, hsh, _⟩ := hhas
  unfold World.shape? at hsh
  split at hsh
  case h_2 => cases hsh
  rename_i c t' fz hb
  have hv : ∀ i, ∃ o : Opw, i < m -> OpAt W (a.add (i * 5)) o := fun i => by
   by_cases hi : i < m
   ·obtain ⟨cs', h1, h2⟩ := hx i hi
    rw [c23.2.2.2.2.2] at h1
    obtain ⟨o, ho⟩ := b42 h1 h2
    exact ⟨o, fun _ => ho⟩
   ·exact ⟨⟨none, 0, 0, 0, ⟨#[]⟩, 0, ⟨#[]⟩, []⟩, fun h => absurd h hi⟩
  obtain ⟨f, hf⟩ := Classical.axiomOfChoice hv
  exact ⟨a, len, m, f, rfl, hsp, ⟨c, t', fz, hb⟩, by omega, fun r hr => hf r (by omega)⟩
end
end Go.Proofs.YtagidoadfajpgaaGreat
open List (getElem?_append_left getElem?_append_right getD_eq_getElem?_getD getElem?_map mem_cons_self mem_cons_of_mem map_cons eq_nil_of_length_eq_zero getElem?_cons_zero getElem?_range getElem?_cons_succ)
namespace Go.Proofs.YtagidoadfajpgaaGreat
open Go.ChangeShapes Go.WideShapes Go.ChangeAt Go.RowKit Go.Abs
set_option maxRecDepth 100000
def opq (f : Nat -> Opw) (o r : Nat) : Oq := ⟨o + r, (f r).C, (f r).R.isNone, decide ((f r).C = 0), (f r).o⟩
def opl (len : Nat) (f : Nat -> Opw) (o : Nat) : List Oq := (List.range len).map (opq f o)
def Z7 (a : Addr) (f : Nat -> Opw) (r : Nat) : Lay := ⟨b7 eV.f (f r).o.vs, 26, if (f r).C = 0 then a else (f r).R.getD a, decide ((f r).C = 0)⟩
def a83 (a : Addr) (len : Nat) (f : Nat -> Opw) (o : Nat) : Lay := ⟨b7 eOq.f (opl len f o), 84, a, false⟩
def b1h (a : Addr) (len : Nat) (f : Nat -> Opw) (o : Nat) : List Lay := (List.range len).map (Z7 a f) ++ [a83 a len f o]
def M5 (L : List Lay) (o : Nat) (l : List Lay) : Prop := ∀ i, i < l.length -> L[o + i]? = l[i]?
theorem b4a {ls : List Lay} {b : Nat} {p : Lay} (h : ls[b]? = some p) (hd : p.dead = false) : ∃ F, (a7r b p.cs p.t .imm).p F (inD ls) /\ ∀ b, ¬ F.own b :=
 ⟨⟨fun _ => False, fun b' => b' = b⟩, ⟨fun b' => by simp [Md.mine], fun b' => by simp [Md.mine], _, by show (0, p.cs.size + 1) ≠ (2, 0); simp, b5h h hd⟩, fun _ h => h⟩
section
variable {W : World} {a : Addr} {len cap o : Nat} {f : Nat -> Opw} {L : List Lay}
theorem a4K : (opl len f o).length = len := by simp [opl]
theorem b3X {r : Nat} (h : r < len) : (opl len f o).getD r dOq = opq f o r := by
 unfold opl
 rw [getD_eq_getElem?_getD, getElem?_map, getElem?_range h]; rfl
theorem a2v : (b1h a len f o).length = len + 1 := by simp [b1h]
theorem a2u (hL : M5 L o (b1h a len f o)) {r : Nat} (h : r < len) : L[o + r]? = some (Z7 a f r) := by
 rw [hL r (by rw [a2v]; omega)]
 unfold b1h
 rw [getElem?_append_left (by simpa using h), getElem?_map, getElem?_range h]; rfl
theorem a3E (hL : M5 L o (b1h a len f o)) : L[o + len]? = some (a83 a len f o) := by
 rw [hL len (by rw [a2v]; omega)]
 unfold b1h
 rw [getElem?_append_right (by simp)]; simp
theorem b4L (hL : M5 L o (b1h a len f o)) (H : OpsAt W a len cap f) {r : Nat} (hr : r < len) : VRel Tryz.prog (a68 L) (C1.den (.s 941 (o + r) 3 0 (f r).o.vs.length (f r).C (f r).R.isNone)) (.slice (f r).R (f r).L (f r).C) := by
 have hv := (H.at_ r hr).vs
 rw [hv.len]
 cases hR : (f r).R with
 | none => exact .slice0 _ _
 | some a' =>
  show VRel Tryz.prog _ (.slice (some ⟨o + r, 0 * 3, none⟩) (f r).L (f r).C) _
  rw [Nat.zero_mul]
  by_cases hC : (f r).C = 0
  ·have hL' : (f r).L = 0 := by have := hv.le; omega
   rw [hC, hL']
   exact b2E (a2u hL hr) (decide_eq_true hC)
  ·have e : (Z7 a f r).a = a' := by unfold Z7; rw [if_neg hC, hR]; rfl
   have := a9G (P := Tryz.prog) (n := (f r).L) (cap := (f r).C) (a2u hL hr) (decide_eq_false hC) (by rw [e]; exact (hv.at_ a' hR (by omega)).1)
   rwa [e] at this
theorem b2q (H : OpsAt W a len cap f) {r : Nat} (hr : r < len) : LiesD Tryz.prog W L (Z7 a f r) := by
 have hv := (H.at_ r hr).vs
 obtain ⟨c0, t0, fz0, hb0⟩ := H.blk
 refine ⟨?_, fun hd => ?_⟩
 ·unfold Z7
  by_cases hC : (f r).C = 0
  ·rw [if_pos hC]; exact E8 hb0
  ·rw [if_neg hC]
   cases hR : (f r).R with
   | none => exact absurd (hv.nil hR) hC
   | some a' =>
    obtain ⟨_, c, t, fz, hb, _⟩ := hv.at_ a' hR (by omega)
    exact E8 hb
 ·have hC : ¬ (f r).C = 0 := of_decide_eq_false hd
  cases hR : (f r).R with
  | none => exact absurd (hv.nil hR) hC
  | some a' =>
   have e : (Z7 a f r).a = a' := by unfold Z7; rw [if_neg hC, hR]; rfl
   obtain ⟨hs, c, t, fz, hb, hc⟩ := hv.at_ a' hR (by omega)
   rw [e]
   refine ⟨hs, c, t, fz, hb, fun i x hx => ?_⟩
   obtain ⟨k, j, h1, h2, h3, h4⟩ := a0A (en := eV.f) (w := 3) (d := eV.d) (fun _ => rfl) (show (b7 eV.f (f r).o.vs)[i]? = some x from hx)
   rw [hv.len] at h1
   obtain ⟨g0, g1, g2⟩ := hc k h1
   subst h3
   match j, h2, h4 with
   | 0, _, h4 =>
    simp only [eV, map_cons, getElem?_cons_zero, Option.some.injEq] at h4
    subst h4
    exact ⟨_, by rw [Nat.add_zero]; exact g0, .int _ _⟩
   | 1, _, h4 =>
    simp only [eV, map_cons, getElem?_cons_succ, getElem?_cons_zero, Option.some.injEq] at h4
    subst h4
    exact ⟨_, by rw [<- Nat.add_assoc]; exact g1, .int _ _⟩
   | 2, _, h4 =>
    simp only [eV, map_cons, getElem?_cons_succ, getElem?_cons_zero, Option.some.injEq] at h4
    subst h4
    exact ⟨_, by rw [<- Nat.add_assoc]; exact g2, .string _⟩
theorem b2r (hL : M5 L o (b1h a len f o)) (H : OpsAt W a len cap f) : LiesD Tryz.prog W L (a83 a len f o) := by
 obtain ⟨c, t, fz, hb⟩ := H.blk
 refine ⟨E8 hb, fun _ => ⟨H.spot, c, t, fz, hb, fun i x hx => ?_⟩⟩
 obtain ⟨k, j, h1, h2, h3, h4⟩ := a0A (en := eOq.f) (w := 5) (d := dOq) (fun _ => rfl) (show (b7 eOq.f (opl len f o))[i]? = some x from hx)
 rw [a4K] at h1
 rw [b3X h1] at h4
 have ho := H.at_ k h1
 have ad : ∀ m, (a.add (k * 5)).add m = a.add (k * 5 + m) := fun m => add_add a _ m
 have k0 := a0c hb H.spot ho.c0
 have k1 := ho.c1
 have k2 := ho.c2
 have k3 := ho.c3
 have k4 := ho.c4
 rw [ad] at k1 k2 k3 k4
 have k1 := a0c hb H.spot k1
 have k2 := a0c hb H.spot k2
 have k3 := a0c hb H.spot k3
 have k4 := a0c hb H.spot k4
 subst h3
 match j, h2, h4 with
 | 0, _, h4 =>
  simp only [eOq, opq, map_cons, getElem?_cons_zero, Option.some.injEq] at h4
  subst h4
  exact ⟨_, by rw [Nat.add_zero]; exact k0, .int _ _⟩
 | 1, _, h4 =>
  simp only [eOq, opq, map_cons, getElem?_cons_succ, getElem?_cons_zero, Option.some.injEq] at h4
  subst h4
  exact ⟨_, k1, .string _⟩
 | 2, _, h4 =>
  simp only [eOq, opq, map_cons, getElem?_cons_succ, getElem?_cons_zero, Option.some.injEq] at h4
  subst h4
  exact ⟨_, k2, .int _ _⟩
 | 3, _, h4 =>
  simp only [eOq, opq, map_cons, getElem?_cons_succ, getElem?_cons_zero, Option.some.injEq] at h4
  subst h4
  exact ⟨_, k3, .string _⟩
 | 4, _, h4 =>
  simp only [eOq, opq, map_cons, getElem?_cons_succ, getElem?_cons_zero, Option.some.injEq] at h4
  subst h4
  exact ⟨_, k4, b4L hL H h1⟩
end
structure OpsArg (W : World) (v : Value) where
 lay : Nat -> List Lay
 n : Nat
 q : Nat -> Nat
 c : Nat
 z : Bool
 xs : Nat -> List Oq
 len : ∀ o, (lay o).length = n
 lies : ∀ L o, M5 L o (lay o) -> ∀ p ∈ lay o, LiesD Tryz.prog W L p
 rel : ∀ L o g, M5 L o (lay o) -> VRel Tryz.prog (a68 L) (SV.den (.o (.s g (q o) 5 0 (xs o).length c z))) v
 ch : ∀ L o g, M5 L o (lay o) -> ∀ I ∈ [(vc eOq g (q o) (xs o) 84 .imm z).den, e6 oqA (xs o)], ∃ F, I.p F (inD L) /\ ∀ b, ¬ F.own b
 hz : ∀ o, z = true -> (xs o).length = 0
 ho : ∀ o i, i < (xs o).length -> oP ((xs o).getD i dOq)
theorem b3W {W : World} {v : Value} (hv : v = .slice none 0 0 ∨ ∃ a len cap f, v = .slice (some a) len cap /\ OpsAt W a len cap f) : Nonempty (OpsArg W v) := by
 rcases hv with rfl | ⟨a, len, cap, f, rfl, H⟩
 ·exact ⟨{
   lay := fun _ => [], n := 0, q := fun _ => 0, c := 0, z := true, xs := fun _ => []
   len := fun _ => rfl
   lies := fun _ _ _ p hp => nomatch hp
   rel := fun _ _ _ _ => .slice0 _ _
   ch := fun L o g _ I hI => ⟨Ft.no, by
    rcases List.mem_cons.1 hI with rfl | hI
    ·exact ⟨rfl, rfl⟩
    ·obtain rfl := List.mem_singleton.1 hI
     exact rfl, fun _ h => h⟩
   hz := fun _ _ => rfl
   ho := fun _ _ h => absurd h (Nat.not_lt_zero _) }⟩
 ·exact ⟨{
   lay := b1h a len f, n := len + 1, q := fun o => o + len, c := cap, z := false, xs := opl len f
   len := fun _ => a2v
   lies := fun L o hL p hp => by
    unfold b1h at hp
    rcases List.mem_append.1 hp with h | h
    ·obtain ⟨r, hr, rfl⟩ := List.mem_map.1 h
     exact b2q H (List.mem_range.1 hr)
    ·obtain rfl := List.mem_singleton.1 h
     exact b2r hL H
   rel := fun L o g hL => by
    show VRel Tryz.prog (a68 L) (.slice (some ⟨o + len, 0 * 5, none⟩) (opl len f o).length cap) _
    rw [Nat.zero_mul, a4K]
    exact a9G (a3E hL) rfl H.spot
   ch := fun L o g hL I hI => by
    rcases List.mem_cons.1 hI with rfl | hI
    ·obtain ⟨F, h1, h2⟩ := b4a (a3E hL) rfl
     obtain ⟨o1, o2, k⟩ := h1
     exact ⟨F, ⟨fun _ => rfl, o1, o2, k⟩, h2⟩
    ·obtain rfl := List.mem_singleton.1 hI
     refine a5j fun J hJ => ?_
     obtain ⟨x, hx, rfl⟩ := List.mem_map.1 hJ
     obtain ⟨r, hr, rfl⟩ := List.mem_map.1 hx
     have hr := List.mem_range.1 hr
     have hv := (H.at_ r hr).vs
     cases hd : decide ((f r).C = 0) with
     | true =>
      have hC : (f r).C = 0 := of_decide_eq_true hd
      refine ⟨Ft.no, ?_, fun _ h => h⟩
      show (Ch.den (.vec 941 (o + r) 3 eV.f eV.d (f r).o.vs 26 .imm (decide ((f r).C = 0)))).p _ _
      rw [hd]
      exact ⟨rfl, eq_nil_of_length_eq_zero (by have := hv.le; have := hv.len; omega)⟩
     | false =>
      obtain ⟨F, h1, h2⟩ := b4a (a2u hL hr) hd
      obtain ⟨o1, o2, k⟩ := h1
      refine ⟨F, ?_, h2⟩
      show (Ch.den (.vec 941 (o + r) 3 eV.f eV.d (f r).o.vs 26 .imm (decide ((f r).C = 0)))).p _ _
      rw [hd]
      exact ⟨fun _ => rfl, o1, o2, k⟩
   hz := fun _ h => nomatch h
   ho := fun o i hi => by
    rw [a4K] at hi
    rw [b3X hi]
    have hv := (H.at_ i hi).vs
    refine ⟨fun hz => ?_, ?_⟩
    ·have hC := hv.nil (Option.isNone_iff_eq_none.1 hz)
     show (f i).o.vs.length = 0
     have := hv.le; have := hv.len; omega
    ·show (f i).o.vs.length < _
     have := hv.le; have := hv.len; have := hv.mx
     unfold maxLen at this; omega }⟩
theorem b69 {l m : List Lay} : M5 (l ++ m) 0 l := fun i h => by rw [Nat.zero_add, getElem?_append_left h]
theorem b68 {l m : List Lay} {o : Nat} (h : l.length = o) : M5 (l ++ m) o m := fun i _ => by rw [<- h, getElem?_append_right (Nat.le_add_right _ _), Nat.add_sub_cancel_left]
theorem vs1 {ι : Ren} {a a' : Value} (h : VRel Tryz.prog ι a a') : Vs Tryz.prog ι #[a] #[a'] := ⟨rfl, fun i x x' hx hx' => by
 match i, hx, hx' with
 | 0, hx, hx' => cases hx; cases hx'; exact h
 | n + 1, hx, _ => simp at hx⟩
theorem vs2 {ι : Ren} {a b a' b' : Value} (h : VRel Tryz.prog ι a a') (k : VRel Tryz.prog ι b b') : Vs Tryz.prog ι #[a, b] #[a', b'] := ⟨rfl, fun i x x' hx hx' => by
 match i, hx, hx' with
 | 0, hx, hx' => cases hx; cases hx'; exact h
 | 1, hx, hx' => cases hx; cases hx'; exact k
 | n + 2, hx, _ => simp at hx⟩
theorem b8y {W : World} {f : FuncId} {va vb : Value} (A : OpsArg W va) (B : OpsArg W vb)
  (C : Ctr Tryz.prog W.heap.size f [.o (.s 1 (A.q 0) 5 0 (A.xs 0).length A.c A.z), .o (.s 2 (B.q A.n) 5 0 (B.xs A.n).length B.c B.z)] [vc eOq 1 (A.q 0) (A.xs 0) 84 .imm A.z, .as (e6 oqA (A.xs 0)), vc eOq 2 (B.q A.n) (B.xs A.n) 84 .imm B.z, .as (e6 oqA (B.xs A.n))] Unit (fun _ => True) (fun _ => .o (.v (.bool true))) (fun _ => [vc eOq 1 (A.q 0) (A.xs 0) 84 .imm A.z, .as (e6 oqA (A.xs 0)), vc eOq 2 (B.q A.n) (B.xs A.n) 84 .imm B.z, .as (e6 oqA (B.xs A.n))])) :
  Calls Tryz.prog f #[va, vb] W fun e W' => e = .returned (.bool true) /\ Below W.heap.size W W' := by
 have lA : M5 (A.lay 0 ++ B.lay A.n) 0 (A.lay 0) := b69
 have lB : M5 (A.lay 0 ++ B.lay A.n) A.n (B.lay A.n) := b68 (A.len 0)
 obtain ⟨F, hF, _⟩ := a5j (A := inD (A.lay 0 ++ B.lay A.n)) (l := [(vc eOq 1 (A.q 0) (A.xs 0) 84 .imm A.z).den, e6 oqA (A.xs 0), (vc eOq 2 (B.q A.n) (B.xs A.n) 84 .imm B.z).den, e6 oqA (B.xs A.n)]) fun I hI => by
  rcases List.mem_cons.1 hI with h | hI
  ·exact A.ch _ 0 1 lA I (h ▸ mem_cons_self)
  rcases List.mem_cons.1 hI with h | hI
  ·exact A.ch _ 0 1 lA I (h ▸ mem_cons_of_mem _ mem_cons_self)
  ·exact B.ch _ A.n 2 lB I hI
 obtain ⟨_, A', F', _, h, _, _⟩ := C F (inD (A.lay 0 ++ B.lay A.n)) hF
 exact b4M h rfl (b4F fun p hp => (List.mem_append.1 hp).elim (A.lies _ 0 lA p) (B.lies _ A.n lB p)) (vs2 (A.rel _ 0 1 lA) (B.rel _ A.n 2 lB)) b2D b7i
end Go.Proofs.YtagidoadfajpgaaGreat
