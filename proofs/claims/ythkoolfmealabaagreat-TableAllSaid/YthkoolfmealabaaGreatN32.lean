/-
  Ut0.
-/
import Derived.Test.YthkoolfmealabaaGreatN31
import Derived.Test.YthkoolfmealabaaGreatN23
import Derived.Deep.Strs
import Derived.ChangeMaps5
import Derived.Test.YthkoolfmealabaaGreatRows
import Derived.Test.YthkoolfmealabaaGreatChecked
namespace Go.Proofs.YthkoolfmealabaaGreat
open Go.ChangeShapes Go.WideShapes Go.ChangeAt Go.RowKit Go.Abs
set_option maxRecDepth 100000
section
variable {W : World} {H : Type} {enc : TypeId × Value -> H}
structure ValsAt (W : World) (R : Option Addr) (L C : Nat) (l : List Va) : Prop where
 len : l.length = L
 le : L <= C
 mx : C <= maxLen
 nil : R = none -> C = 0
 at_ : ∀ a, R = some a -> 0 < C -> a.spot = none /\ ∃ c t fz, W.heap[a.block]? = some (.cells c t fz) /\ ∀ i, i < L -> c[a.off + i * 3]? = some (.int .i64 (l.getD i eV.d).k) /\ c[a.off + i * 3 + 1]? = some (.int .i64 (l.getD i eV.d).n) /\ c[a.off + i * 3 + 2]? = some (.string (l.getD i eV.d).s)
structure Opw where
 R : Option Addr
 L : Nat
 C : Nat
 kind : Int
 id : Int
 col : ByteArray
 vs : List Va
structure OpAt (W : World) (a : Addr) (x : Opw) : Prop where
 c0 : W.cell? a = some (.int .i64 x.kind)
 c1 : W.cell? (a.add 1) = some (.int .i64 x.id)
 c2 : W.cell? (a.add 2) = some (.string x.col)
 c3 : W.cell? (a.add 3) = some (.slice x.R x.L x.C)
 vs : ValsAt W x.R x.L x.C x.vs
theorem cell_blk {p : Addr} {v : Value} (h : W.cell? p = some v) : p.spot = none /\ ∃ c t fz, W.heap[p.block]? = some (.cells c t fz) := by
 unfold World.cell? at h
 split at h
 ·rename_i c t fz hb
  split at h
  ·cases h
  ·rename_i hs
   refine ⟨?_, c, t, fz, hb⟩
   cases hp : p.spot with
   | none => rfl
   | some s => rw [hp] at hs; simp at hs
 ·cases h
theorem add_zero' (p : Addr) : p.add 0 = p := by simp [Addr.add]
theorem trod_struct4 {P : Program} {base : Nat} {spare : Nat -> Bool} {held : Bool} {t : TypeId} {f0 f1 f2 f3 : Field} {fuel : Nat} {cs : List Value} {x : DataW H × List MemPlace} (ht : P.underlying t = some (.struct #[f0, f1, f2, f3])) (h : DataW.trod enc P W base spare held fuel t cs = some x) :
  ∃ y0 y1 y2 y3 n, cs.length = P.cellsOf t /\ DataW.trod enc P W base spare held n f0.type ((cs.drop f0.offset).take (P.cellsOf f0.type)) = some y0 /\
   DataW.trod enc P W base spare held n f1.type ((cs.drop f1.offset).take (P.cellsOf f1.type)) = some y1 /\ DataW.trod enc P W base spare held n f2.type ((cs.drop f2.offset).take (P.cellsOf f2.type)) = some y2 /\ DataW.trod enc P W base spare held n f3.type ((cs.drop f3.offset).take (P.cellsOf f3.type)) = some y3 := by
 obtain ⟨xs, n, _, _, hl, hlen, hf⟩ := DataW.trod_struct ht h
 match xs, hlen with
 | [y0, y1, y2, y3], _ => exact ⟨y0, y1, y2, y3, n, hl, by simpa using hf 0 f0 rfl, by simpa using hf 1 f1 rfl, by simpa using hf 2 f2 rfl, by simpa using hf 3 f3 rfl⟩
theorem c23 : Tryz.prog.cellsOf 2 = 1 /\ Tryz.prog.cellsOf 3 = 1 /\ Tryz.prog.cellsOf 9 = 1 /\ Tryz.prog.cellsOf 23 = 1 /\ Tryz.prog.cellsOf 38 = 3 /\ Tryz.prog.cellsOf 69 = 4 := ⟨by kernel_rfl, by kernel_rfl, by kernel_rfl, by kernel_rfl, by kernel_rfl, by kernel_rfl⟩
theorem add_add (a : Addr) (i j : Nat) : (a.add i).add j = a.add (i + j) := Go.Deep.add_add a i j
theorem open_val {a : Addr} {n : Nat} {x : DataW H × List MemPlace} {cs : List Value} (h1 : W.cells? 0 a 3 = some cs) (h2 : DataW.trod enc Tryz.prog W 0 (fun _ => true) true n 38 cs = some x) :
  ∃ v : Va, W.cell? a = some (.int .i64 v.k) /\ W.cell? (a.add 1) = some (.int .i64 v.n) /\ W.cell? (a.add 2) = some (.string v.s) := by
 obtain ⟨_, hlen, hcell⟩ := World.cells?_some h1
 obtain ⟨k2, k3, k9, _, _, _⟩ := c23
 obtain ⟨y0, y1, y2, m, _, _, g0, g1, g2⟩ := Go.Deep.trod_struct3 Tryz.underlying38 h2
 match cs, hlen with
 | [v0, v1, v2], _ =>
  simp only [k2, k3, k9, List.drop_succ_cons, List.drop_zero, List.take_succ_cons, List.take_zero] at g0 g1 g2
  obtain ⟨x0, e0, _⟩ := DataW.trod_int Tryz.underlying3 g0
  obtain ⟨x1, e1, _⟩ := DataW.trod_int Tryz.underlying2 g1
  obtain ⟨x2, e2, _⟩ := DataW.trod_string Tryz.underlying9 g2
  simp only [List.cons.injEq, and_true] at e0 e1 e2
  subst e0; subst e1; subst e2
  have c0 := hcell 0 (by omega)
  have c1 := hcell 1 (by omega)
  have c2 := hcell 2 (by omega)
  rw [add_zero'] at c0
  exact ⟨⟨x0, x1, x2⟩, by simpa using c0, by simpa using c1, by simpa using c2⟩
theorem cellAt {a : Addr} {c : Array Value} {t : TypeId} {fz : Nat × Nat} (hb : W.heap[a.block]? = some (.cells c t fz)) (hs : a.spot = none) {i : Nat} {v : Value} (h : W.cell? (a.add i) = some v) : c[a.off + i]? = some v := by
 rw [cell_add hb hs] at h; exact h
theorem open_vals {n : Nat} {x : DataW H × List MemPlace} {u : Value} (h : DataW.trod enc Tryz.prog W 0 (fun _ => true) true n 23 [u] = some x) : ∃ R L C l, u = .slice R L C /\ ValsAt W R L C l := by
 rcases Go.Deep.open_slice Tryz.underlying23 h with ⟨e, _⟩ | ⟨a, len, cap, m, k, D, Pl, e, _, hl, hm, hmm, _, hx⟩
 ·simp only [List.cons.injEq, and_true] at e
  exact ⟨none, 0, 0, [], e, rfl, Nat.le_refl _, Nat.zero_le _, fun _ => rfl, fun a h => nomatch h⟩
 ·simp only [List.cons.injEq, and_true] at e
  have hmc : m = cap := hmm
  subst hmc
  obtain ⟨_, _, _, _, k38, _⟩ := c23
  have hv : ∀ i, ∃ v : Va, i < m -> W.cell? (a.add (i * 3)) = some (.int .i64 v.k) /\ W.cell? (a.add (i * 3 + 1)) = some (.int .i64 v.n) /\ W.cell? (a.add (i * 3 + 2)) = some (.string v.s) := fun i => by
   by_cases hi : i < m
   ·obtain ⟨cs', h1, h2⟩ := hx i hi
    rw [k38] at h1
    obtain ⟨v, e0, e1, e2⟩ := open_val h1 h2
    rw [add_add] at e1 e2
    exact ⟨v, fun _ => ⟨e0, e1, e2⟩⟩
   ·exact ⟨eV.d, fun h => absurd h hi⟩
  obtain ⟨f, hf⟩ := Classical.axiomOfChoice hv
  refine ⟨some a, len, m, (List.range len).map f, e, by simp, hl, hm, fun h => (nomatch h), fun a' ha hC => ?_⟩
  cases ha
  obtain ⟨e0, _, _⟩ := hf 0 hC
  rw [Nat.zero_mul, add_zero'] at e0
  obtain ⟨hs, c, t, fz, hb⟩ := cell_blk e0
  refine ⟨hs, c, t, fz, hb, fun i hi => ?_⟩
  have hg : ((List.range len).map f).getD i eV.d = f i := by
   rw [List.getD_eq_getElem?_getD, List.getElem?_map, List.getElem?_range hi]; rfl
  obtain ⟨e0, e1, e2⟩ := hf i (by omega)
  rw [hg]
  refine ⟨cellAt hb hs e0, ?_, ?_⟩
  ·have := cellAt hb hs e1; rwa [<- Nat.add_assoc] at this
  ·have := cellAt hb hs e2; rwa [<- Nat.add_assoc] at this
theorem open_op {a : Addr} {n : Nat} {x : DataW H × List MemPlace} {cs : List Value} (h1 : W.cells? 0 a 4 = some cs) (h2 : DataW.trod enc Tryz.prog W 0 (fun _ => true) true n 69 cs = some x) : ∃ o, OpAt W a o := by
 obtain ⟨_, hlen, hcell⟩ := World.cells?_some h1
 obtain ⟨k2, k3, k9, k23, _, _⟩ := c23
 obtain ⟨y0, y1, y2, y3, m, _, g0, g1, g2, g3⟩ := trod_struct4 Tryz.underlying69 h2
 match cs, hlen with
 | [v0, v1, v2, v3], _ =>
  simp only [k3, k9, k23, List.drop_succ_cons, List.drop_zero, List.take_succ_cons, List.take_zero] at g0 g1 g2 g3
  obtain ⟨x0, e0, _⟩ := DataW.trod_int Tryz.underlying3 g0
  obtain ⟨x1, e1, _⟩ := DataW.trod_int Tryz.underlying3 g1
  obtain ⟨x2, e2, _⟩ := DataW.trod_string Tryz.underlying9 g2
  obtain ⟨R, L, C, l, e3, hv⟩ := open_vals g3
  simp only [List.cons.injEq, and_true] at e0 e1 e2
  subst e0; subst e1; subst e2; subst e3
  have c0 := hcell 0 (by omega)
  have c1 := hcell 1 (by omega)
  have c2 := hcell 2 (by omega)
  have c3 := hcell 3 (by omega)
  rw [add_zero'] at c0
  exact ⟨⟨R, L, C, x0, x1, x2, l⟩, by simpa using c0, by simpa using c1, by simpa using c2, by simpa using c3, hv⟩
structure OpsAt (W : World) (a : Addr) (len cap : Nat) (f : Nat -> Opw) : Prop where
 spot : a.spot = none
 blk : ∃ c t fz, W.heap[a.block]? = some (.cells c t fz)
 mx : len <= maxLen
 at_ : ∀ r, r < len -> OpAt W (a.add (r * 4)) (f r)
theorem open_ops {base : Nat} {v : Value} {d : DataW H} {ps : List MemPlace} (hval : Value.okWide Tryz.prog W .any base 59 v) (hd : DataW.Trod enc Tryz.prog W 0 (fun _ => true) true 59 v d ps) :
  v = .slice none 0 0 ∨ ∃ a len cap f, v = .slice (some a) len cap /\ OpsAt W a len cap f := by
 have ht := Tryz.underlying59
 obtain ⟨fuel, hd⟩ := hd
 have hone : isOne v = true := by
  unfold Value.okWide at hval
  rw [ht] at hval
  simp only at hval
  unfold Cell.okWide at hval
  rw [ht] at hval
  simp only at hval
  unfold Cell.ok at hval
  rw [ht] at hval
  cases v <;> simp_all [isOne]
 rw [isOne_cells hone] at hd
 rcases Go.Deep.open_slice ht hd with ⟨h, _⟩ | ⟨a, len, cap, m, n, D, Pl, h, _, hl, hmx, hm, _, hx⟩
 ·left
  simpa using h
 ·right
  have hv : v = .slice (some a) len cap := by simpa using h
  subst hv
  have hmc : m = cap := hm
  subst hmc
  have hhas : W.has Tryz.prog .any base a 69 m := by
   unfold Value.okWide at hval
   rw [ht] at hval
   simp only at hval
   unfold Cell.okWide at hval
   rw [ht] at hval
   simp only at hval
   unfold Cell.ok at hval
   rw [ht] at hval
   exact hval.2.2
  obtain ⟨_, hsp, row, cells, hsh, _⟩ := hhas
  unfold World.shape? at hsh
  split at hsh
  case h_2 => cases hsh
  rename_i c t' fz hb
  have hv : ∀ i, ∃ o : Opw, i < m -> OpAt W (a.add (i * 4)) o := fun i => by
   by_cases hi : i < m
   ·obtain ⟨cs', h1, h2⟩ := hx i hi
    rw [c23.2.2.2.2.2] at h1
    obtain ⟨o, ho⟩ := open_op h1 h2
    exact ⟨o, fun _ => ho⟩
   ·exact ⟨⟨none, 0, 0, 0, 0, ⟨#[]⟩, []⟩, fun h => absurd h hi⟩
  obtain ⟨f, hf⟩ := Classical.axiomOfChoice hv
  exact ⟨a, len, m, f, rfl, hsp, ⟨c, t', fz, hb⟩, by omega, fun r hr => hf r (by omega)⟩
end
end Go.Proofs.YthkoolfmealabaaGreat
namespace Go.Proofs.YthkoolfmealabaaGreat
open Go.ChangeShapes Go.WideShapes Go.ChangeAt Go.RowKit Go.Abs
set_option maxRecDepth 100000
def opv (f : Nat -> Opw) (r : Nat) : Opv := ⟨r, (f r).C, (f r).R.isNone, decide ((f r).C = 0), (f r).kind, (f r).id, (f r).col, (f r).vs⟩
def opl (len : Nat) (f : Nat -> Opw) : List Opv := (List.range len).map (opv f)
def rowLay (a : Addr) (f : Nat -> Opw) (r : Nat) : Lay := ⟨vcells eV.f (f r).vs, 38, if (f r).C = 0 then a else (f r).R.getD a, decide ((f r).C = 0)⟩
def opsLay (a : Addr) (len : Nat) (f : Nat -> Opw) : Lay := ⟨vcells eOp.f (opl len f), 69, a, false⟩
def layO (a : Addr) (len : Nat) (f : Nat -> Opw) : List Lay := (List.range len).map (rowLay a f) ++ [opsLay a len f]
section
variable {W : World} {a : Addr} {len cap : Nat} {f : Nat -> Opw}
theorem opl_len : (opl len f).length = len := by simp [opl]
theorem opl_at {r : Nat} (h : r < len) : (opl len f).getD r dOp = opv f r := by
 unfold opl
 rw [List.getD_eq_getElem?_getD, List.getElem?_map, List.getElem?_range h]; rfl
theorem layO_row {r : Nat} (h : r < len) : (layO a len f)[r]? = some (rowLay a f r) := by
 unfold layO
 rw [List.getElem?_append_left (by simpa using h), List.getElem?_map, List.getElem?_range h]; rfl
theorem layO_last : (layO a len f)[len]? = some (opsLay a len f) := by
 unfold layO
 rw [List.getElem?_append_right (by simp)]; simp
theorem row_rel (H : OpsAt W a len cap f) {r : Nat} (hr : r < len) : VRel Tryz.prog (inDR (layO a len f)) (C1.den (.s 941 r 3 0 (f r).vs.length (f r).C (f r).R.isNone)) (.slice (f r).R (f r).L (f r).C) := by
 have hv := (H.at_ r hr).vs
 rw [hv.len]
 cases hR : (f r).R with
 | none => exact .slice0 _ _
 | some a' =>
  show VRel Tryz.prog _ (.slice (some ⟨r, 0 * 3, none⟩) (f r).L (f r).C) _
  rw [Nat.zero_mul]
  by_cases hC : (f r).C = 0
  ·have hL : (f r).L = 0 := by have := hv.le; omega
   rw [hC, hL]
   exact inD_dead (layO_row hr) (decide_eq_true hC)
  ·have e : (rowLay a f r).a = a' := by unfold rowLay; rw [if_neg hC, hR]; rfl
   have := inD_rel (P := Tryz.prog) (n := (f r).L) (cap := (f r).C) (layO_row (a := a) (f := f) hr) (decide_eq_false hC) (by rw [e]; exact (hv.at_ a' hR (by omega)).1)
   rwa [e] at this
theorem lies_row (H : OpsAt W a len cap f) {r : Nat} (hr : r < len) : LiesD Tryz.prog W (layO a len f) (rowLay a f r) := by
 have hv := (H.at_ r hr).vs
 obtain ⟨c0, t0, fz0, hb0⟩ := H.blk
 refine ⟨?_, fun hd => ?_⟩
 ·unfold rowLay
  by_cases hC : (f r).C = 0
  ·rw [if_pos hC]; exact lt_of_some hb0
  ·rw [if_neg hC]
   cases hR : (f r).R with
   | none => exact absurd (hv.nil hR) hC
   | some a' =>
    obtain ⟨_, c, t, fz, hb, _⟩ := hv.at_ a' hR (by omega)
    exact lt_of_some hb
 ·have hC : ¬ (f r).C = 0 := of_decide_eq_false hd
  cases hR : (f r).R with
  | none => exact absurd (hv.nil hR) hC
  | some a' =>
   have e : (rowLay a f r).a = a' := by unfold rowLay; rw [if_neg hC, hR]; rfl
   obtain ⟨hs, c, t, fz, hb, hc⟩ := hv.at_ a' hR (by omega)
   rw [e]
   refine ⟨hs, c, t, fz, hb, fun i x hx => ?_⟩
   obtain ⟨k, j, h1, h2, h3, h4⟩ := vcells_at (en := eV.f) (w := 3) (d := eV.d) (fun _ => rfl) (show (vcells eV.f (f r).vs)[i]? = some x from hx)
   rw [hv.len] at h1
   obtain ⟨g0, g1, g2⟩ := hc k h1
   subst h3
   match j, h2, h4 with
   | 0, _, h4 =>
    simp only [eV, List.map_cons, List.getElem?_cons_zero, Option.some.injEq] at h4
    subst h4
    exact ⟨_, by rw [Nat.add_zero]; exact g0, .int _ _⟩
   | 1, _, h4 =>
    simp only [eV, List.map_cons, List.getElem?_cons_succ, List.getElem?_cons_zero, Option.some.injEq] at h4
    subst h4
    exact ⟨_, by rw [<- Nat.add_assoc]; exact g1, .int _ _⟩
   | 2, _, h4 =>
    simp only [eV, List.map_cons, List.getElem?_cons_succ, List.getElem?_cons_zero, Option.some.injEq] at h4
    subst h4
    exact ⟨_, by rw [<- Nat.add_assoc]; exact g2, .string _⟩
theorem lies_ops (H : OpsAt W a len cap f) : LiesD Tryz.prog W (layO a len f) (opsLay a len f) := by
 obtain ⟨c, t, fz, hb⟩ := H.blk
 refine ⟨lt_of_some hb, fun _ => ⟨H.spot, c, t, fz, hb, fun i x hx => ?_⟩⟩
 obtain ⟨k, j, h1, h2, h3, h4⟩ := vcells_at (en := eOp.f) (w := 4) (d := dOp) (fun _ => rfl) (show (vcells eOp.f (opl len f))[i]? = some x from hx)
 rw [opl_len] at h1
 rw [opl_at h1] at h4
 have ho := H.at_ k h1
 have ad : ∀ m, (a.add (k * 4)).add m = a.add (k * 4 + m) := fun m => add_add a _ m
 have k0 := cellAt hb H.spot ho.c0
 have k1 := ho.c1
 have k2 := ho.c2
 have k3 := ho.c3
 rw [ad] at k1 k2 k3
 have k1 := cellAt hb H.spot k1
 have k2 := cellAt hb H.spot k2
 have k3 := cellAt hb H.spot k3
 subst h3
 match j, h2, h4 with
 | 0, _, h4 =>
  simp only [eOp, opv, List.map_cons, List.getElem?_cons_zero, Option.some.injEq] at h4
  subst h4
  exact ⟨_, by rw [Nat.add_zero]; exact k0, .int _ _⟩
 | 1, _, h4 =>
  simp only [eOp, opv, List.map_cons, List.getElem?_cons_succ, List.getElem?_cons_zero, Option.some.injEq] at h4
  subst h4
  exact ⟨_, k1, .int _ _⟩
 | 2, _, h4 =>
  simp only [eOp, opv, List.map_cons, List.getElem?_cons_succ, List.getElem?_cons_zero, Option.some.injEq] at h4
  subst h4
  exact ⟨_, k2, .string _⟩
 | 3, _, h4 =>
  simp only [eOp, opv, List.map_cons, List.getElem?_cons_succ, List.getElem?_cons_zero, Option.some.injEq] at h4
  subst h4
  exact ⟨_, k3, row_rel H h1⟩
theorem lies_all (H : OpsAt W a len cap f) : ∀ p ∈ layO a len f, LiesD Tryz.prog W (layO a len f) p := fun p hp => by
 unfold layO at hp
 rcases List.mem_append.1 hp with h | h
 ·obtain ⟨r, hr, rfl⟩ := List.mem_map.1 h
  exact lies_row H (List.mem_range.1 hr)
 ·obtain rfl := List.mem_singleton.1 h
  exact lies_ops H
theorem imm_at {ls : List Lay} {b : Nat} {p : Lay} (h : ls[b]? = some p) (hd : p.dead = false) : ∃ F, (blkA b p.cs p.t .imm).p F (inD ls) /\ ∀ b, ¬ F.own b :=
 ⟨⟨fun _ => False, fun b' => b' = b⟩, ⟨fun b' => by simp [Md.mine], fun b' => by simp [Md.mine], _, by show (0, p.cs.size + 1) ≠ (2, 0); simp, inD_get h hd⟩, fun _ h => h⟩
theorem ops_lie (H : OpsAt W a len cap f) : ∃ F, (hpA [vc eOp 1 len (opl len f) 69 .imm false, .as (bigA opA (opl len f))]).p F (inD (layO a len f)) := by
 obtain ⟨F, h, _⟩ := all_imm (A := inD (layO a len f)) (l := [(vc eOp 1 len (opl len f) 69 .imm false).den, bigA opA (opl len f)]) fun I hI => by
  rcases List.mem_cons.1 hI with rfl | hI
  ·obtain ⟨F, h1, h2⟩ := imm_at (layO_last (a := a) (len := len) (f := f)) rfl
   obtain ⟨o1, o2, k⟩ := h1
   exact ⟨F, ⟨fun _ => rfl, o1, o2, k⟩, h2⟩
  ·obtain rfl := List.mem_singleton.1 hI
   refine all_imm fun J hJ => ?_
   obtain ⟨x, hx, rfl⟩ := List.mem_map.1 hJ
   obtain ⟨r, hr, rfl⟩ := List.mem_map.1 hx
   have hr := List.mem_range.1 hr
   have hv := (H.at_ r hr).vs
   cases hd : decide ((f r).C = 0) with
   | true =>
    have hC : (f r).C = 0 := of_decide_eq_true hd
    refine ⟨Ft.no, ?_, fun _ h => h⟩
    show (Ch.den (.vec 941 r 3 eV.f eV.d (f r).vs 38 .imm (decide ((f r).C = 0)))).p _ _
    rw [hd]
    exact ⟨rfl, List.eq_nil_of_length_eq_zero (by have := hv.le; have := hv.len; omega)⟩
   | false =>
    obtain ⟨F, h1, h2⟩ := imm_at (layO_row (a := a) (f := f) hr) hd
    obtain ⟨o1, o2, k⟩ := h1
    refine ⟨F, ?_, h2⟩
    show (Ch.den (.vec 941 r 3 eV.f eV.d (f r).vs 38 .imm (decide ((f r).C = 0)))).p _ _
    rw [hd]
    exact ⟨fun _ => rfl, o1, o2, k⟩
 exact ⟨F, h⟩
end
theorem vs3 {ι : Ren} {a b c a' b' c' : Value} (h : VRel Tryz.prog ι a a') (k : VRel Tryz.prog ι b b') (l : VRel Tryz.prog ι c c') : Vs Tryz.prog ι #[a, b, c] #[a', b', c'] := ⟨rfl, fun i x x' hx hx' => by
 match i, hx, hx' with
 | 0, hx, hx' => cases hx; cases hx'; exact h
 | 1, hx, hx' => cases hx; cases hx'; exact k
 | 2, hx, hx' => cases hx; cases hx'; exact l
 | n + 3, hx, _ => simp at hx⟩
theorem tableAll_calls {W : World} {v : Value} {ask : Int} {col : ByteArray} (hv : v = .slice none 0 0 ∨ ∃ a len cap f, v = .slice (some a) len cap /\ OpsAt W a len cap f) :
  Calls Tryz.prog 6 #[v, .int .i64 ask, .string col] W fun e W' => e = .returned (.bool true) /\ Below W.heap.size W W' := by
 rcases hv with rfl | ⟨a, len, cap, f, rfl, H⟩
 ·obtain ⟨_, A', F', _, h, _, _⟩ := all_law (nO := W.heap.size) (qo := 0) (co := 0) (zo := true) (ops := []) (to := 69) (mo := .imm) (ask := ask) (col := col) (fun _ => rfl) (fun i hi => absurd hi (Nat.not_lt_zero i)) (fun i hi => absurd hi (Nat.not_lt_zero i)) Ft.no (inD []) ⟨Ft.no, Ft.no, ⟨rfl, rfl⟩, ⟨Ft.no, Ft.no, rfl, rfl, Ft.Jn.no⟩, Ft.Jn.no⟩
  exact ro_call h rfl (sim_inD (ls := []) (fun p hp => by cases hp)) (vs3 (.slice0 _ _) (.int _ _) (.string _)) inD_free inD_ro
 ·obtain ⟨F, hF⟩ := ops_lie H
  obtain ⟨_, A', F', _, h, _, _⟩ := all_law (nO := W.heap.size) (qo := len) (co := cap) (zo := false) (ops := opl len f) (to := 69) (mo := .imm) (ask := ask) (col := col) (fun h => nomatch h) (fun i hi hz => by
    rw [opl_len] at hi
    rw [opl_at hi] at hz ⊢
    have hv := (H.at_ i hi).vs
    have hC := hv.nil (Option.isNone_iff_eq_none.1 hz)
    show (f i).vs.length = 0
    have := hv.le; have := hv.len; omega) (fun i hi => by
    rw [opl_len] at hi
    rw [opl_at hi]
    have hv := (H.at_ i hi).vs
    show (f i).vs.length < _
    have := hv.le; have := hv.len; have := hv.mx
    unfold maxLen at this; omega) F (inD (layO a len f)) hF
  have e : (SV.o (.s 1 len 4 0 (opl len f).length cap false)).den = .slice (some ⟨len, 0, none⟩) len cap := by
   show Value.slice (some ⟨len, 0 * 4, none⟩) (opl len f).length cap = _
   rw [Nat.zero_mul, opl_len]
  simp only [List.map_cons, List.map_nil, e] at h
  exact ro_call h rfl (sim_inD (lies_all H)) (vs3 (inD_rel layO_last rfl H.spot) (.int _ _) (.string _)) inD_free inD_ro
end Go.Proofs.YthkoolfmealabaaGreat
