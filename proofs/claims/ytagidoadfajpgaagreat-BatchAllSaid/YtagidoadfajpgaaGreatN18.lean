/-
  B12.
-/
import Derived.Test.YtagidoadfajpgaaGreatN11
import Derived.Shelf.Sort.Plain
namespace Go.Abs
open Go.Proofs Go.Shelf Go.RowKit
section
variable {P : Program} {nO : Nat} {A : World}
def a3f (l : List Int) : List Int := l.mergeSort fun x y => decide (x <= y)
theorem a1F {l : List Int} : (a3f l).length = l.length := List.length_mergeSort l
theorem a6L {W : World} {blk off n : Nat} {l : List Int} {os : Array Obj} (hb : blk < W.heap.size) (hc : ∀ cw tw fw, W.heap[blk]? = some (.cells cw tw fw) -> 0 < l.length -> off + l.length <= cw.size) : Turned W (Sort.grow (Sort.putRow (Value.int .i64) (Sort.ahead W n) blk off l.toArray) os) blk off (a9C l) := by
 have hsz : (Sort.putRow (Value.int .i64) (Sort.ahead W n) blk off l.toArray).heap.size = W.heap.size := by simp [Sort.putRow, Sort.mapBlock, Sort.ahead]
 have hat : ∀ b, b < W.heap.size -> (Sort.grow (Sort.putRow (Value.int .i64) (Sort.ahead W n) blk off l.toArray) os).heap[b]? = (Sort.putRow (Value.int .i64) (Sort.ahead W n) blk off l.toArray).heap[b]? := fun b h => by
  show ((Sort.putRow (Value.int .i64) (Sort.ahead W n) blk off l.toArray).heap ++ os)[b]? = _
  rw [Array.getElem?_append_left (by rw [hsz]; exact h)]
 have hput : ∀ b, (Sort.putRow (Value.int .i64) (Sort.ahead W n) blk off l.toArray).heap[b]? = if blk = b then (W.heap[b]?).map (Sort.onCells (Sort.putCells (Value.int .i64) off l.toArray)) else W.heap[b]? := fun b => by
  show (W.heap.modify blk _)[b]? = _
  rw [Array.getElem?_modify]
 refine ⟨fun cw tw fw hW => ?_, fun b h hne => ?_, ?_, rfl, rfl, rfl⟩
 ·refine ⟨Sort.putCells (Value.int .i64) off l.toArray cw, ?_, by simp [Sort.putCells], fun i x hx => ?_⟩
  ·rw [hat blk hb, hput, if_pos rfl, hW]; rfl
  ·have hi : i < l.length /\ x = .int .i64 (l[i]!) := by
    simp only [a9C, List.getElem?_toArray, List.getElem?_map, Option.map_eq_some_iff] at hx
    obtain ⟨y, hy, rfl⟩ := hx
    obtain ⟨h1, h2⟩ := List.getElem?_eq_some_iff.1 hy
    exact ⟨h1, by rw [getElem!_pos l i h1, h2]⟩
   have hlt : off + i < cw.size := by have := hc cw tw fw hW (by omega); omega
   simp only [Sort.putCells, Array.getElem?_mapIdx, Array.getElem?_eq_getElem hlt, Option.map_some]
   rw [if_pos ⟨by omega, by simp; omega⟩, hi.2]
   simp
 ·rw [hat b h, hput, if_neg (fun e => hne e.symm)]
 ·show _ <= ((Sort.putRow (Value.int .i64) (Sort.ahead W n) blk off l.toArray).heap ++ os).size
  rw [Array.size_append, hsz]; omega
theorem b1O {ρ : Go.Shelf.Ren} (Ly : Lays.n189 P ρ) {d cap : Nat} {l : List Int} {t : TypeId} {fz : Nat × Nat} (hd : A.heap[d]? = some (.cells (a9C l) t fz)) (hw : fz = (0, 0) ∨ fz = (1, 0)) (hcap : 0 < cap ∨ fz = (0, 0)) (hl : l.length < 4611686018427387904) :
  u9 P nO (ρ.f 189) #[.slice (some ⟨d, 0, none⟩) l.length cap] A undef (turn A d (.cells (a9C (a3f l)) t fz)) := by
 have plain_ints : ∀ {l : List Int} (i : Nat) x, (a9C l)[i]? = some x -> r7 x = true := fun {l} i x hx => by
  simp only [a9C, List.getElem?_toArray, List.getElem?_map, Option.map_eq_some_iff] at hx
  obtain ⟨y, _, rfl⟩ := hx
  rfl
 refine b1N hd hw (by simp [a9C, a1F]) hcap plain_ints plain_ints fun W blk off cap' cw tw fw hW hfw hcells => ?_
 have hcell : ∀ i, i < l.length -> cw[off + i]? = some (.int .i64 (l[i]!)) := fun i hi => hcells i _ (by simp [a9C, hi])
 have hb : blk < W.heap.size := (Array.getElem?_eq_some_iff.1 hW).1
 have hfit : ∀ cw' tw' fw', W.heap[blk]? = some (.cells cw' tw' fw') -> 0 < (a3f l).length -> off + (a3f l).length <= cw'.size := fun cw' tw' fw' h h0 => by
  rw [hW] at h; cases h
  rw [a1F] at h0 ⊢
  have := (Array.getElem?_eq_some_iff.1 (hcell (l.length - 1) (by omega))).1
  omega
 refine (Any.slices_Sort_int Ly blk off cap' l W (fun j hj => ?_) hb hl).mono ?_
 ·have hj' : j < l.length := by simpa using hj
  refine ⟨?_, ?_⟩
  ·have := hcell j hj'
   simp only [World.cell?, hW]
   simpa using this
  ·simp only [World.frozen?, hW]
   simp only [Bool.and_eq_false_imp, decide_eq_true_eq, decide_eq_false_iff_not]
   omega
 ·rintro e W' ⟨rfl, n, os, rfl⟩
  exact ⟨rfl, a6L hb hfit⟩
end
end Go.Abs
namespace Go.Abs
open Go.RowKit
section
variable {P : Program} {nO : Nat} {A W W' : World}
theorem a8r {f : FuncId} {g : Value} (hg : r7 g = true) {d n cap : Nat} {c c' : Array Value} {t : TypeId} {fz : Nat × Nat} (hd : A.heap[d]? = some (.cells c t fz)) (hw : fz = (0, 0) ∨ fz = (1, 0)) (hsz : c'.size = c.size) (hcap : 0 < cap ∨ fz = (0, 0)) (hp : ∀ (i : Nat) x, c[i]? = some x -> r7 x = true) (hp' : ∀ (i : Nat) x, c'[i]? = some x -> r7 x = true)
    (H : ∀ (W : World) (blk off cap' : Nat) (cw : Array Value) (tw : TypeId) (fw : Nat × Nat), W.heap[blk]? = some (.cells cw tw fw) -> ¬ fw.1 < fw.2 -> (∀ (i : Nat) x, c[i]? = some x -> cw[off + i]? = some x) -> Calls P f #[.slice (some ⟨blk, off, none⟩) n cap', g] W fun e W' => e = .returned undef /\ Turned W W' blk off c') :
    u9 P nO f #[.slice (some ⟨d, 0, none⟩) n cap, g] A undef (turn A d (.cells c' t fz)) := by
  refine ⟨Nat.le_of_eq r9.symm, fun ι W xs' S hx _ => ?_⟩
  obtain ⟨y, y', rfl⟩ : ∃ y y', xs' = #[y, y'] := by
    have hx0 : xs'.size = 2 := hx.1.symm
    refine ⟨xs'[0], xs'[1], ?_⟩
    apply Array.ext
    · simp [hx0]
    · intro i h1 h2
      match i, h1, h2 with
      | 0, _, _ => rfl
      | 1, _, _ => rfl
      | i + 2, h1, _ => omega
  have hy' := (hx.2 1 _ y' rfl rfl).plain_eq hg
  subst hy'
  have hy := hx.2 0 _ y rfl rfl
  cases hy with
  | slice h =>
    rename_i a' cap'
    rcases h with ⟨⟨_, hsp, e, he, hb, ho⟩, _⟩ | ⟨_, h0, _, e, g, he, hg⟩
    case inr =>
      exfalso
      rcases hcap with hcap | rfl
      · omega
      · rcases S.obj d e _ he hd with ⟨h1, _⟩ | ⟨_, _, _, _, _, _, _, _, h2⟩
        · cases h1
        · rw [h2 (by simp)] at hg; cases hg
    have hO := S.obj d e _ he hd
    obtain ⟨cw, tw, fw, hW, hcells, hfz, hfr, hg1, hg2⟩ : ∃ c0 t0 fz0, W.heap[e.blk]? = some (.cells c0 t0 fz0) /\ (∀ (i : Nat) x, c[i]? = some x -> ∃ x', c0[i + e.sh]? = some x' /\ VRel P ι x x') /\ (fz = (0, 0) ∨ fz = (1, 0) ∨ (fz.1 = 0 /\ c.size < fz.2)) /\ (¬ fz.1 < fz.2 -> nO <= e.blk /\ ¬ fz0.1 < fz0.2) /\ (fz = (1, 0) -> e.gr = some (t, c0.size)) /\ (fz ≠ (1, 0) -> e.gr = none) := by
      rcases hO with ⟨h1, _⟩ | h
      · rcases hw with h | h <;> (rw [h] at h1; cases h1)
      · exact h
    have hnf : ¬ fz.1 < fz.2 := by rcases hw with rfl | rfl <;> simp
    obtain ⟨hn0, hfw⟩ := hfr hnf
    have hwr : wr (.cells c t fz) = true := by rcases hw with rfl | rfl <;> simp [wr]
    have ea : a' = ⟨e.blk, e.sh, none⟩ := by
      cases a'
      simp only [Nat.zero_add] at hb ho hsp
      subst hb; subst ho; subst hsp; rfl
    subst ea
    have := H W e.blk e.sh cap' cw tw fw hW hfw (fun i x hx => by
      obtain ⟨x', h1, h2⟩ := hcells i x hx
      have := h2.plain_eq (hp i x hx)
      subst this
      rw [Nat.add_comm]; exact h1)
    refine (callsIn_wide.2 this).mono ?_
    rintro e2 W' ⟨rfl, T⟩
    refine ⟨ι, undef, rfl, ⟨fun b eb o hb ho => ?_, fun b b' eb eb' o o' hb hb' ho ho' hwo hal hbe => ?_, fun b eb hb => Nat.lt_of_lt_of_le (S.dom b eb hb) T.size, Nat.le_trans S.lo T.size⟩, ?_, .of_plain rfl⟩
    · by_cases hbd : b = d
      · subst hbd
        rw [he] at hb; cases hb
        rw [K8 hd] at ho; cases ho
        obtain ⟨cw', h1, h2, h3⟩ := T.at_ cw tw fw hW
        refine .inr ⟨cw', tw, fw, h1, fun i x hx => ⟨x, by rw [Nat.add_comm]; exact h3 i x hx, .of_plain (hp' i x hx)⟩, ?_, hfr, fun h => by rw [h2]; exact hg1 h, hg2⟩
        rcases hfz with h | h | h
        · exact .inl h
        · exact .inr (.inl h)
        · exact .inr (.inr ⟨h.1, by omega⟩)
      · rw [w0 hbd] at ho
        by_cases hal : alive o = true
        · have hne : eb.blk ≠ e.blk := fun h => hbd (S.inj d b e eb _ o he hb hd ho hwr hal h.symm).symm
          exact (S.obj b eb o hb ho).later (Ren.le.refl ι) (T.keep _ (S.dom b eb hb) hne)
        · have hO' := S.obj b eb o hb ho
          cases o with
          | cells c1 t1 fz1 =>
            rcases hO' with h | ⟨_, _, _, _, _, h, _⟩
            · exact .inl h
            · exfalso
              apply hal
              rcases h with rfl | rfl | ⟨h1, h2⟩
              · rfl
              · rfl
              · have : 0 < fz1.2 := by omega
                simp [alive, h1, this]
          | _ => simp [alive] at hal
    · have get : ∀ {k : Nat} {o : Obj}, (turn A d (.cells c' t fz)).heap[k]? = some o -> ∃ o0, A.heap[k]? = some o0 /\ (wr o = true -> wr o0 = true) /\ (alive o = true -> alive o0 = true) := fun {k o} hk => by
        by_cases e : k = d
        · subst e
          rw [K8 hd] at hk; cases hk
          exact ⟨_, hd, fun _ => hwr, fun _ => G5 hwr⟩
        · rw [w0 e] at hk
          exact ⟨o, hk, id, id⟩
      obtain ⟨o1, g1, g2, _⟩ := get ho
      obtain ⟨o2, g3, _, g4⟩ := get ho'
      exact S.inj b b' eb eb' o1 o2 hb hb' g1 g3 (g2 hwo) (g4 hal) hbe
    · have get : ∀ {k : Nat} {o : Obj}, (turn A d (.cells c' t fz)).heap[k]? = some o -> wr o = true -> ∃ o0, A.heap[k]? = some o0 /\ wr o0 = true := fun {k o} hk hwo => by
        by_cases e : k = d
        · subst e; exact ⟨_, hd, hwr⟩
        · rw [w0 e] at hk; exact ⟨o, hk, hwo⟩
      exact { le := Ren.le.refl ι
              news := fun b e h h' => by rw [h] at h'; cases h'
              keep := fun b hb hn => T.keep b hb fun h => hn d e _ he hd hwr h.symm
              img := fun k eb o h h' hwo _ => by
                obtain ⟨o0, h1, h2⟩ := get h' hwo
                exact ⟨k, eb, o0, h, h1, h2, rfl⟩
              fresh := fun k e h h' => by rw [h] at h'; cases h'
              asz := Nat.le_of_eq r9.symm
              wsz := T.size
              os := T.os
              tape := T.tape
              output := T.output }
theorem a4s {W : World} {blk off n : Nat} {cs : Array Value} {os : Array Obj} (hb : blk < W.heap.size) (hc : ∀ cw tw fw, W.heap[blk]? = some (.cells cw tw fw) -> 0 < cs.size -> off + cs.size <= cw.size) : Turned W (Sort.grow (Sort.putRow id (Sort.ahead W n) blk off cs) os) blk off cs := by
  have hsz : (Sort.putRow id (Sort.ahead W n) blk off cs).heap.size = W.heap.size := by simp [Sort.putRow, Sort.mapBlock, Sort.ahead]
  have hat : ∀ b, b < W.heap.size -> (Sort.grow (Sort.putRow id (Sort.ahead W n) blk off cs) os).heap[b]? = (Sort.putRow id (Sort.ahead W n) blk off cs).heap[b]? := fun b h => by
    show ((Sort.putRow id (Sort.ahead W n) blk off cs).heap ++ os)[b]? = _
    rw [Array.getElem?_append_left (by rw [hsz]; exact h)]
  have hput : ∀ b, (Sort.putRow id (Sort.ahead W n) blk off cs).heap[b]? = if blk = b then (W.heap[b]?).map (Sort.onCells (Sort.putCells id off cs)) else W.heap[b]? := fun b => by
    show (W.heap.modify blk _)[b]? = _
    rw [Array.getElem?_modify]
  refine ⟨fun cw tw fw hW => ?_, fun b h hne => ?_, ?_, rfl, rfl, rfl⟩
  · refine ⟨Sort.putCells id off cs cw, ?_, by simp [Sort.putCells], fun i x hx => ?_⟩
    · rw [hat blk hb, hput, if_pos rfl, hW]; rfl
    · obtain ⟨hi, e⟩ := Array.getElem?_eq_some_iff.1 hx
      have hlt : off + i < cw.size := by have := hc cw tw fw hW (by omega); omega
      simp only [Sort.putCells, Array.getElem?_mapIdx, Array.getElem?_eq_getElem hlt, Option.map_some]
      rw [if_pos ⟨by omega, by omega⟩]
      simp [hi, e]
  · rw [hat b h, hput, if_neg (fun e => hne e.symm)]
  · show _ <= ((Sort.putRow id (Sort.ahead W n) blk off cs).heap ++ os).size
    rw [Array.size_append, hsz]; omega
theorem b2I {W : World} {blk off : Nat} {c cw : Array Value} {tw : TypeId} {fw : Nat × Nat} (hW : W.heap[blk]? = some (.cells cw tw fw)) (hfw : ¬ fw.1 < fw.2) (h : ∀ (i : Nat) x, c[i]? = some x -> cw[off + i]? = some x) : Sort.Holds id W blk off c := fun j hj => by
  refine ⟨?_, ?_⟩
  · have := h j c[j] (Array.getElem?_eq_getElem hj)
    simp only [World.cell?, hW]
    rw [getElem!_pos c j hj]
    simpa using this
  · simp only [World.frozen?, hW]
    simp only [Bool.and_eq_false_imp, decide_eq_true_eq, decide_eq_false_iff_not]
    omega
end
end Go.Abs
