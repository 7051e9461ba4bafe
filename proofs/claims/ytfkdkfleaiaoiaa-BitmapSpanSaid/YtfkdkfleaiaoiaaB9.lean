/-
  ABS B9: a call on blocks that it may read, whatever lies in them: from a real world to a canonical one.
-/
import Derived.Test.YtfkdkfleaiaoiaaB8
namespace Go.Abs
section
variable {P : Program} {W : World}
/-- A block to be read: what of it is seen, its element type, where it lies in the real world. -/
structure InB where
  l : List Value
  t : TypeId
  a : Addr
def inG (bs : List InB) : World := { (default : World) with heap := (bs.map fun b => Obj.cells b.l.toArray b.t (0, b.l.length + 1)).toArray }
def inGR (bs : List InB) : Ren := fun k => (bs[k]?).map fun b => ⟨b.a.block, b.a.off, none⟩
/-- There it lies. -/
def LiesG (P : Program) (bs : List InB) (W : World) (b : InB) : Prop := b.a.spot = none ∧ ∃ c t fz, W.heap[b.a.block]? = some (.cells c t fz) ∧ ∀ (i : Nat) x, b.l[i]? = some x → ∃ x', c[b.a.off + i]? = some x' ∧ VRel P (inGR bs) x x'
theorem inG_at {bs : List InB} {k : Nat} {o : Obj} (h : (inG bs).heap[k]? = some o) : ∃ b, bs[k]? = some b ∧ o = .cells b.l.toArray b.t (0, b.l.length + 1) := by
  simp only [inG, List.getElem?_toArray, List.getElem?_map, Option.map_eq_some_iff] at h
  obtain ⟨p, h1, h2⟩ := h
  exact ⟨p, h1, h2.symm⟩
theorem sim_inG {bs : List InB} (h : ∀ b ∈ bs, LiesG P bs W b) : Sim P W.heap.size (inGR bs) (inG bs) W where
  obj k e o hb ho := by
    obtain ⟨p, hp, rfl⟩ := inG_at ho
    simp only [inGR, hp, Option.map_some, Option.some.injEq] at hb
    subst hb
    obtain ⟨_, c, t', fz, hc, hi⟩ := h p (List.mem_of_getElem? hp)
    refine .inr ⟨c, t', fz, hc, fun i x hx => ?_, .inr (.inr ⟨rfl, by simp⟩), fun hn => absurd (Nat.succ_pos _) hn, fun hf => by simp at hf, fun _ => rfl⟩
    obtain ⟨x', h1, h2⟩ := hi i x (by simpa using hx)
    exact ⟨x', by rw [Nat.add_comm]; exact h1, h2⟩
  inj b b' e e' o o' _ _ ho _ hw := by
    obtain ⟨p, _, rfl⟩ := inG_at ho
    simp [wr] at hw
  dom b e hb := by
    simp only [inGR, Option.map_eq_some_iff] at hb
    obtain ⟨p, hp, rfl⟩ := hb
    obtain ⟨_, c, t', fz, hc, _⟩ := h p (List.mem_of_getElem? hp)
    exact (Array.getElem?_eq_some_iff.1 hc).1
  lo := Nat.le_refl _
theorem inG_size {bs : List InB} : (inG bs).heap.size = bs.length := by simp [inG]
theorem inG_free {bs : List InB} (b : Nat) (h : (inG bs).heap.size ≤ b) : inGR bs b = none := by
  rw [inG_size] at h
  simp [inGR, h]
theorem inG_ro {bs : List InB} (k : Nat) (o : Obj) (h : (inG bs).heap[k]? = some o) : wr o = false := by
  obtain ⟨p, _, rfl⟩ := inG_at h
  simp [wr]
theorem inG_slice {bs : List InB} {k : Nat} {b : InB} {n cap : Nat} (hb : bs[k]? = some b) (h : b.a.spot = none) : VRel P (inGR bs) (.slice (some ⟨k, 0, none⟩) n cap) (.slice (some b.a) n cap) :=
  .slice (.inl ⟨⟨rfl, h, ⟨b.a.block, b.a.off, none⟩, by simp [inGR, hb], rfl, by simp⟩, .inl rfl⟩)
theorem inG_rd {bs : List InB} {k : Nat} {b : InB} (hb : bs[k]? = some b) : RdV (inG bs) (some ⟨k, 0, none⟩) b.l ∧ RoB (inG bs) k := by
  have hh : (inG bs).heap[k]? = some (.cells b.l.toArray b.t (0, b.l.length + 1)) := by simp [inG, hb]
  refine ⟨fun i x hx => ⟨_, rfl, ?_⟩, ⟨_, _, _, hh, Nat.succ_pos _⟩⟩
  rw [cell_add (a := ⟨k, 0, none⟩) hh rfl]
  simp [hx]
end
end Go.Abs
