/-
  ABS B5: a call on lists of whole numbers that it may read: from the row's reading of its arguments to a canonical world, and back.
-/
import Derived.Test.YtfkdkfleaiaoiaaB4
import Derived.ProofKit
import Derived.Carry
namespace Go.Abs
open Go.ChangeShapes Go.WideShapes Go.ChangeAt Go.RowKit
section
variable {P : Program} {W : World}
/-- A call from a world of which nothing may be written. -/
theorem ro_call {f : FuncId} {xs xs' : Array Value} {A A' : World} {v : Value} {ι : Ren} (h : SndCall P W.heap.size f xs A v A') (hv : plain v = true) (S : Sim P W.heap.size ι A W) (hx : Vs P ι xs xs') (hfree : ∀ b, A.heap.size ≤ b → ι b = none)
    (hro : ∀ (k : Nat) o, A.heap[k]? = some o → wr o = false) : Calls P f xs' W fun e W' => e = .returned v ∧ Below W.heap.size W W' := by
  have hc := callsIn_wide.1 (h.2 ι W xs' S hx ⟨h.1, fun b hb _ => hfree b hb⟩)
  refine hc.mono ?_
  rintro e W' ⟨ι', v', rfl, S', M, V⟩
  have := V.plain_eq hv
  subst this
  exact ⟨rfl, ⟨M.os, M.tape, M.output, M.wsz, fun b hb => M.keep b hb fun k e o _ ho hw => by rw [hro k o ho] at hw; cases hw⟩⟩
/-- A world of lists, to be read. -/
def inW (t : TypeId) (ls : List (List Int × Addr)) : World := { (default : World) with heap := (ls.map fun p => Obj.cells (ints p.1) t (0, p.1.length + 1)).toArray }
def inR (ls : List (List Int × Addr)) : Ren := fun b => (ls[b]?).map fun p => ⟨p.2.block, p.2.off, none⟩
/-- There they lie. -/
def Lies (W : World) (l : List Int) (a : Addr) : Prop := a.spot = none ∧ ∃ c t fz, W.heap[a.block]? = some (.cells c t fz) ∧ ∀ (i : Nat) x, l[i]? = some x → c[a.off + i]? = some (.int .i64 x)
theorem inW_at {t : TypeId} {ls : List (List Int × Addr)} {b : Nat} {o : Obj} (h : (inW t ls).heap[b]? = some o) : ∃ p, ls[b]? = some p ∧ o = .cells (ints p.1) t (0, p.1.length + 1) := by
  simp only [inW, List.getElem?_toArray, List.getElem?_map, Option.map_eq_some_iff] at h
  obtain ⟨p, h1, h2⟩ := h
  exact ⟨p, h1, h2.symm⟩
theorem ints_size {l : List Int} : (ints l).size = l.length := by simp [ints]
theorem ints_at {l : List Int} {i : Nat} : (ints l)[i]? = (l[i]?).map (Value.int .i64) := by simp [ints]
theorem sim_in {t : TypeId} {ls : List (List Int × Addr)} (h : ∀ p ∈ ls, Lies W p.1 p.2) : Sim P W.heap.size (inR ls) (inW t ls) W where
  obj b e o hb ho := by
    obtain ⟨p, hp, rfl⟩ := inW_at ho
    simp only [inR, hp, Option.map_some, Option.some.injEq] at hb
    subst hb
    obtain ⟨_, c, t', fz, hc, hi⟩ := h p (List.mem_of_getElem? hp)
    refine .inr ⟨c, t', fz, hc, fun i x hx => ?_, .inr (.inr ⟨rfl, by rw [ints_size]; exact Nat.lt_succ_self _⟩), fun hn => absurd (Nat.succ_pos _) hn, fun hf => by simp at hf, fun _ => rfl⟩
    rw [ints_at, Option.map_eq_some_iff] at hx
    obtain ⟨n, hn, rfl⟩ := hx
    exact ⟨_, by rw [Nat.add_comm]; exact hi i n hn, .int _ _⟩
  inj b b' e e' o o' _ _ ho _ hw := by
    obtain ⟨p, _, rfl⟩ := inW_at ho
    simp [wr] at hw
  dom b e hb := by
    simp only [inR, Option.map_eq_some_iff] at hb
    obtain ⟨p, hp, rfl⟩ := hb
    obtain ⟨_, c, t', fz, hc, _⟩ := h p (List.mem_of_getElem? hp)
    exact (Array.getElem?_eq_some_iff.1 hc).1
  lo := Nat.le_refl _
theorem in_size {t : TypeId} {ls : List (List Int × Addr)} : (inW t ls).heap.size = ls.length := by simp [inW]
theorem in_free {t : TypeId} {ls : List (List Int × Addr)} (b : Nat) (h : (inW t ls).heap.size ≤ b) : inR ls b = none := by
  rw [in_size] at h
  simp [inR, h]
theorem in_ro {t : TypeId} {ls : List (List Int × Addr)} (k : Nat) (o : Obj) (h : (inW t ls).heap[k]? = some o) : wr o = false := by
  obtain ⟨p, _, rfl⟩ := inW_at h
  simp [wr]
/-- The k-th list, as the canonical world has it. -/
theorem in_slice {ls : List (List Int × Addr)} {k : Nat} {p : List Int × Addr} {n cap : Nat} (hp : ls[k]? = some p) (h : Lies W p.1 p.2) : VRel P (inR ls) (.slice (some ⟨k, 0, none⟩) n cap) (.slice (some p.2) n cap) :=
  .slice (.inl ⟨⟨rfl, h.1, ⟨p.2.block, p.2.off, none⟩, by simp [inR, hp], rfl, by simp⟩, .inl rfl⟩)
theorem in_rd {t : TypeId} {ls : List (List Int × Addr)} {k : Nat} {p : List Int × Addr} (hp : ls[k]? = some p) : rd (some ⟨k, 0, none⟩) p.1 (fun _ => False) (inW t ls) := by
  have hb : (inW t ls).heap[k]? = some (.cells (ints p.1) t (0, p.1.length + 1)) := by simp [inW, hp]
  refine ⟨fun _ h => h, fun i x hx => ⟨_, rfl, ?_⟩, fun ad e => ?_⟩
  · rw [cell_add (a := ⟨k, 0, none⟩) hb rfl, ints_at]
    simp [hx]
  · cases e; exact ⟨_, _, _, hb, Nat.succ_pos _⟩
theorem rd_none {A : World} : rd none [] (fun _ => False) A := ⟨fun _ h => h, fun i x hx => by simp at hx, fun ad e => by cases e⟩
/-- What the row's reading says of a slice of whole numbers. -/
theorem open_ints {H : Type} {enc : TypeId × Value → H} {sp : Nat → Bool} {base : Nat} {t e : TypeId} {v : Value} {d : DataW H} {ps : List MemPlace} (ht : P.underlying t = some (.slice e)) (he : P.underlying e = some (.int .i64)) (hs : P.cellsOf e = 1)
    (hval : Value.okWide P W .any base t v) (hd : DataW.Trod enc P W 0 sp true t v d ps) : v = .slice none 0 0 ∨ ∃ a cap l, v = .slice (some a) (List.length l) cap ∧ l.length ≤ cap ∧ Lies W l a := by
  obtain ⟨fuel, hd⟩ := hd
  have hone : isOne v = true := by
    unfold Value.okWide at hval
    rw [ht] at hval
    simp only at hval
    unfold Cell.okWide at hval
    rw [ht] at hval
    simp only at hval
    unfold Cell.ok at hval
    rw [ht] at hval
    cases v <;> simp_all [isOne]
  rw [isOne_cells hone] at hd
  rcases DataW.trod_slice ht hd with ⟨h, _⟩ | ⟨a, len, cap, elems, rest, n, _, h, _, _, hl, _, hel, hi, _⟩
  · left
    simpa using h
  · right
    have hv : v = .slice (some a) len cap := by simpa using h
    subst hv
    have hcell : ∀ i, i < len → ∃ x, W.cell? (a.add (i * 1)) = some (.int .i64 x) := by
      intro i hlt
      have hq := hi i hlt
      rw [hs] at hq
      have hlt' : i < elems.length := by omega
      rw [List.getElem?_eq_getElem hlt', Option.bind_eq_some_iff] at hq
      obtain ⟨cs, h1, h2⟩ := hq
      obtain ⟨m, rfl, _⟩ := DataW.trod_int he h2
      refine ⟨m, ?_⟩
      unfold World.cells? at h1
      simp at h1
      have e0 : (a.add i).add 0 = a.add i := by cases hq : a.add i; simp [Addr.add]
      cases hc : W.cell? ((a.add i).add 0) with
      | none => simp [hc] at h1
      | some u => simp [hc] at h1; rw [e0] at hc; rw [Nat.mul_one, hc, h1]
    have hhas : W.has P .any base a e cap := by
      unfold Value.okWide at hval
      rw [ht] at hval
      simp only at hval
      unfold Cell.okWide at hval
      rw [ht] at hval
      simp only at hval
      unfold Cell.ok at hval
      rw [ht] at hval
      exact hval.2.2
    obtain ⟨_, hsp, row, cells, hsh, _⟩ := hhas
    unfold World.shape? at hsh
    split at hsh
    case h_2 => cases hsh
    rename_i c t' fz hb
    refine ⟨a, cap, (List.range len).map fun i => match W.cell? (a.add (i * 1)) with | some (.int _ x) => x | _ => 0, by simp, by simpa using hl, hsp, c, t', fz, hb, fun i x hx => ?_⟩
    simp only [List.getElem?_map, Option.map_eq_some_iff] at hx
    obtain ⟨j, hj, hx⟩ := hx
    have hlt : i < len ∧ j = i := by
      rw [List.getElem?_eq_some_iff] at hj
      obtain ⟨h1, h2⟩ := hj
      simp at h1 h2
      exact ⟨h1, h2.symm⟩
    obtain ⟨hlt, rfl⟩ := hlt
    obtain ⟨y, hy⟩ := hcell j hlt
    rw [hy] at hx
    simp only at hx
    subst hx
    rw [cell_add hb hsp, Nat.mul_one] at hy
    exact hy
end
end Go.Abs
