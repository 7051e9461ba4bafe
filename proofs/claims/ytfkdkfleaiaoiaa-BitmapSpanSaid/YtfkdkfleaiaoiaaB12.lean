/-
  ABS B12: slices.Sort at whole numbers, by the kit's contract, as a call of the canonical run.
-/
import Derived.Test.YtfkdkfleaiaoiaaB11
import Derived.Shelf.Sort.Plain
namespace Go.Abs
open Go.Proofs Go.Shelf Go.RowKit
section
variable {P : Program} {n₀ : Nat} {A : World}
def sorted (l : List Int) : List Int := l.mergeSort fun x y => decide (x ≤ y)
theorem sorted_len {l : List Int} : (sorted l).length = l.length := List.length_mergeSort l
theorem turned_put {W : World} {blk off n : Nat} {l : List Int} {os : Array Obj} (hb : blk < W.heap.size) (hc : ∀ cw tw fw, W.heap[blk]? = some (.cells cw tw fw) → 0 < l.length → off + l.length ≤ cw.size) : Turned W (Sort.grow (Sort.putRow (Value.int .i64) (Sort.ahead W n) blk off l.toArray) os) blk off (ints l) := by
  have hsz : (Sort.putRow (Value.int .i64) (Sort.ahead W n) blk off l.toArray).heap.size = W.heap.size := by simp [Sort.putRow, Sort.mapBlock, Sort.ahead]
  have hat : ∀ b, b < W.heap.size → (Sort.grow (Sort.putRow (Value.int .i64) (Sort.ahead W n) blk off l.toArray) os).heap[b]? = (Sort.putRow (Value.int .i64) (Sort.ahead W n) blk off l.toArray).heap[b]? := fun b h => by
    show ((Sort.putRow (Value.int .i64) (Sort.ahead W n) blk off l.toArray).heap ++ os)[b]? = _
    rw [Array.getElem?_append_left (by rw [hsz]; exact h)]
  have hput : ∀ b, (Sort.putRow (Value.int .i64) (Sort.ahead W n) blk off l.toArray).heap[b]? = if blk = b then (W.heap[b]?).map (Sort.onCells (Sort.putCells (Value.int .i64) off l.toArray)) else W.heap[b]? := fun b => by
    show (W.heap.modify blk _)[b]? = _
    rw [Array.getElem?_modify]
  refine ⟨fun cw tw fw hW => ?_, fun b h hne => ?_, ?_, rfl, rfl, rfl⟩
  · refine ⟨Sort.putCells (Value.int .i64) off l.toArray cw, ?_, by simp [Sort.putCells], fun i x hx => ?_⟩
    · rw [hat blk hb, hput, if_pos rfl, hW]; rfl
    · have hi : i < l.length ∧ x = .int .i64 (l[i]!) := by
        simp only [ints, List.getElem?_toArray, List.getElem?_map, Option.map_eq_some_iff] at hx
        obtain ⟨y, hy, rfl⟩ := hx
        obtain ⟨h1, h2⟩ := List.getElem?_eq_some_iff.1 hy
        exact ⟨h1, by rw [getElem!_pos l i h1, h2]⟩
      have hlt : off + i < cw.size := by have := hc cw tw fw hW (by omega); omega
      simp only [Sort.putCells, Array.getElem?_mapIdx, Array.getElem?_eq_getElem hlt, Option.map_some]
      rw [if_pos ⟨by omega, by simp; omega⟩, hi.2]
      simp
  · rw [hat b h, hput, if_neg (fun e => hne e.symm)]
  · show _ ≤ ((Sort.putRow (Value.int .i64) (Sort.ahead W n) blk off l.toArray).heap ++ os).size
    rw [Array.size_append, hsz]; omega
theorem snd_sort {ρ : Go.Shelf.Ren} (Ly : Lays.n189 P ρ) {d cap : Nat} {l : List Int} {t : TypeId} {fz : Nat × Nat} (hd : A.heap[d]? = some (.cells (ints l) t fz)) (hw : fz = (0, 0) ∨ fz = (1, 0)) (hcap : 0 < cap ∨ fz = (0, 0)) (hl : l.length < 4611686018427387904) :
    SndCall P n₀ (ρ.f 189) #[.slice (some ⟨d, 0, none⟩) l.length cap] A undef (turn A d (.cells (ints (sorted l)) t fz)) := by
  have plain_ints : ∀ {l : List Int} (i : Nat) x, (ints l)[i]? = some x → plain x = true := fun {l} i x hx => by
    simp only [ints, List.getElem?_toArray, List.getElem?_map, Option.map_eq_some_iff] at hx
    obtain ⟨y, _, rfl⟩ := hx
    rfl
  refine snd_turn hd hw (by simp [ints, sorted_len]) hcap plain_ints plain_ints fun W blk off cap' cw tw fw hW hfw hcells => ?_
  have hcell : ∀ i, i < l.length → cw[off + i]? = some (.int .i64 (l[i]!)) := fun i hi => hcells i _ (by simp [ints, hi])
  have hb : blk < W.heap.size := (Array.getElem?_eq_some_iff.1 hW).1
  have hfit : ∀ cw' tw' fw', W.heap[blk]? = some (.cells cw' tw' fw') → 0 < (sorted l).length → off + (sorted l).length ≤ cw'.size := fun cw' tw' fw' h h0 => by
    rw [hW] at h; cases h
    rw [sorted_len] at h0 ⊢
    have := (Array.getElem?_eq_some_iff.1 (hcell (l.length - 1) (by omega))).1
    omega
  refine (Any.slices_Sort_int Ly blk off cap' l W (fun j hj => ?_) hb hl).mono ?_
  · have hj' : j < l.length := by simpa using hj
    refine ⟨?_, ?_⟩
    · have := hcell j hj'
      simp only [World.cell?, hW]
      simpa using this
    · simp only [World.frozen?, hW]
      simp only [Bool.and_eq_false_imp, decide_eq_true_eq, decide_eq_false_iff_not]
      omega
  · rintro e W' ⟨rfl, n, os, rfl⟩
    exact ⟨rfl, turned_put hb hfit⟩
end
end Go.Abs
