/-
  ABS B18: canonical worlds of lists of any cells; a row's list of pairs of whole numbers.
-/
import Derived.Test.YthkoolfmealabaaGreatN12
import Derived.Deep.Slices
import Derived.OpenShut
namespace Go.Abs
open Go.ChangeShapes Go.WideShapes Go.ChangeAt Go.RowKit
section
variable {P : Program} {W : World}
/-- A world of rows of cells, to be read. -/
def inC (ls : List ((Array Value × TypeId) × Addr)) : World := { (default : World) with heap := (ls.map fun p => Obj.cells p.1.1 p.1.2 (0, p.1.1.size + 1)).toArray }
def inCR (ls : List ((Array Value × TypeId) × Addr)) : Ren := fun b => (ls[b]?).map fun p => ⟨p.2.block, p.2.off, none⟩
/-- There they lie. -/
def LiesC (W : World) (cs : Array Value) (a : Addr) : Prop := (∀ (i : Nat) x, cs[i]? = some x → plain x = true) ∧ a.spot = none ∧ ∃ c t fz, W.heap[a.block]? = some (.cells c t fz) ∧ ∀ (i : Nat) x, cs[i]? = some x → c[a.off + i]? = some x
theorem inC_at {ls : List ((Array Value × TypeId) × Addr)} {b : Nat} {o : Obj} (h : (inC ls).heap[b]? = some o) : ∃ p, ls[b]? = some p ∧ o = .cells p.1.1 p.1.2 (0, p.1.1.size + 1) := by
  simp only [inC, List.getElem?_toArray, List.getElem?_map, Option.map_eq_some_iff] at h
  obtain ⟨p, h1, h2⟩ := h
  exact ⟨p, h1, h2.symm⟩
theorem inC_get {ls : List ((Array Value × TypeId) × Addr)} {b : Nat} {p : (Array Value × TypeId) × Addr} (h : ls[b]? = some p) : (inC ls).heap[b]? = some (.cells p.1.1 p.1.2 (0, p.1.1.size + 1)) := by
  simp [inC, h]
theorem sim_inC {ls : List ((Array Value × TypeId) × Addr)} (h : ∀ p ∈ ls, LiesC W p.1.1 p.2) : Sim P W.heap.size (inCR ls) (inC ls) W where
  obj b e o hb ho := by
    obtain ⟨p, hp, rfl⟩ := inC_at ho
    simp only [inCR, hp, Option.map_some, Option.some.injEq] at hb
    subst hb
    obtain ⟨hpl, _, c, t', fz, hc, hi⟩ := h p (List.mem_of_getElem? hp)
    refine .inr ⟨c, t', fz, hc, fun i x hx => ⟨x, by rw [Nat.add_comm]; exact hi i x hx, .of_plain (hpl i x hx)⟩, .inr (.inr ⟨rfl, Nat.lt_succ_self _⟩), fun hn => absurd (Nat.succ_pos _) hn, fun hf => by simp at hf, fun _ => rfl⟩
  inj b b' e e' o o' _ _ ho _ hw := by
    obtain ⟨p, _, rfl⟩ := inC_at ho
    simp [wr] at hw
  dom b e hb := by
    simp only [inCR, Option.map_eq_some_iff] at hb
    obtain ⟨p, hp, rfl⟩ := hb
    obtain ⟨_, _, c, t', fz, hc, _⟩ := h p (List.mem_of_getElem? hp)
    exact (Array.getElem?_eq_some_iff.1 hc).1
  lo := Nat.le_refl _
theorem inC_free {ls : List ((Array Value × TypeId) × Addr)} (b : Nat) (h : (inC ls).heap.size ≤ b) : inCR ls b = none := by
  have : (inC ls).heap.size = ls.length := by simp [inC]
  rw [this] at h
  simp [inCR, h]
theorem inC_ro {ls : List ((Array Value × TypeId) × Addr)} (k : Nat) (o : Obj) (h : (inC ls).heap[k]? = some o) : wr o = false := by
  obtain ⟨p, _, rfl⟩ := inC_at h
  simp [wr]
theorem inC_rel {ls : List ((Array Value × TypeId) × Addr)} {k : Nat} {p : (Array Value × TypeId) × Addr} {n cap : Nat} (hp : ls[k]? = some p) (h : LiesC W p.1.1 p.2) : VRel P (inCR ls) (.slice (some ⟨k, 0, none⟩) n cap) (.slice (some p.2) n cap) :=
  .slice (.inl ⟨⟨rfl, h.2.1, ⟨p.2.block, p.2.off, none⟩, by simp [inCR, hp], rfl, by simp⟩, .inl rfl⟩)
/-- The cells of pairs. -/
def pairCells (m : List (Int × Int)) : Array Value := (m.flatMap fun s => [.int .i64 s.1, .int .i64 s.2]).toArray
theorem pairCells_get {m : List (Int × Int)} : ∀ {k : Nat} {x : Value}, (pairCells m)[k]? = some x → ∃ i s, m[i]? = some s ∧ ((k = i * 2 ∧ x = .int .i64 s.1) ∨ (k = i * 2 + 1 ∧ x = .int .i64 s.2)) := by
  unfold pairCells
  induction m with
  | nil => intro k x h; simp at h
  | cons s m ih =>
    intro k x h
    simp only [List.flatMap_cons, List.getElem?_toArray, List.cons_append, List.nil_append] at h
    match k, h with
    | 0, h => simp at h; exact ⟨0, s, rfl, .inl ⟨rfl, h.symm⟩⟩
    | 1, h => simp at h; exact ⟨0, s, rfl, .inr ⟨rfl, h.symm⟩⟩
    | k + 2, h =>
      have h' : (m.flatMap fun s => [Value.int .i64 s.1, .int .i64 s.2]).toArray[k]? = some x := by simpa using h
      obtain ⟨i, u, h1, h2⟩ := ih h'
      refine ⟨i + 1, u, by simpa using h1, ?_⟩
      rcases h2 with ⟨e, h2⟩ | ⟨e, h2⟩
      · exact .inl ⟨by omega, h2⟩
      · exact .inr ⟨by omega, h2⟩
/-- The number in a cell. -/
def numAt (W : World) (a : Addr) : Int := match W.cell? a with | some (.int _ x) => x | _ => 0
/-- What the row's reading says of a slice of pairs of whole numbers. -/
theorem open_pairs {H : Type} {enc : TypeId × Value → H} {sp : Nat → Bool} {base : Nat} {t e q : TypeId} {v : Value} {d : DataW H} {ps : List MemPlace} (ht : P.underlying t = some (.slice e)) (he : P.underlying e = some (.array 2 q)) (hq : P.underlying q = some (.int .i64)) (hs : P.cellsOf e = 2) (hs1 : P.cellsOf q = 1)
    (hval : Value.okWide P W .any base t v) (hd : DataW.Trod enc P W 0 sp true t v d ps) : v = .slice none 0 0 ∨ ∃ a cap l, v = .slice (some a) (List.length l) cap ∧ l.length ≤ cap ∧ LiesC W (pairCells l) a := by
  obtain ⟨fuel, hd⟩ := hd
  have hone : isOne v = true := by
    unfold Value.okWide at hval
    rw [ht] at hval
    simp only at hval
    unfold Cell.okWide at hval
    rw [ht] at hval
    simp only at hval
    unfold Cell.ok at hval
    rw [ht] at hval
    cases v <;> simp_all [isOne]
  rw [isOne_cells hone] at hd
  rcases Go.Deep.open_slice ht hd with ⟨h, _⟩ | ⟨a, len, cap, m, n, D, Pl, h, _, hl, _, hm, _, hx⟩
  · left
    simpa using h
  · right
    have hv : v = .slice (some a) len cap := by simpa using h
    subst hv
    have hlm : len ≤ m := by rw [hm]; split <;> omega
    have hcell : ∀ i, i < len → W.cell? (a.add (i * 2)) = some (.int .i64 (numAt W (a.add (i * 2)))) ∧ W.cell? (a.add (i * 2 + 1)) = some (.int .i64 (numAt W (a.add (i * 2 + 1)))) := by
      intro i hlt
      obtain ⟨cs', h1, h2⟩ := hx i (by omega)
      rw [hs] at h1
      obtain ⟨_, hlen, hcell⟩ := World.cells?_some h1
      obtain ⟨xs, k, rfl, _, _, hxl, hf⟩ := DataW.trod_array he h2
      match xs, hxl, cs', hlen with
      | [y0, y1], _, [v0, v1], _ =>
        have g0 := hf 0 (by decide)
        have g1 := hf 1 (by decide)
        simp [hs1] at g0 g1
        obtain ⟨x, e0, _⟩ := DataW.trod_int hq g0
        obtain ⟨y, e1, _⟩ := DataW.trod_int hq g1
        simp only [List.cons.injEq, and_true] at e0 e1
        subst e0; subst e1
        have c0 := hcell 0 (by omega)
        have c1 := hcell 1 (by omega)
        rw [Go.Deep.add_add] at c0 c1
        simp only [Nat.add_zero, List.getElem?_cons_zero, List.getElem?_cons_succ] at c0 c1
        refine ⟨?_, ?_⟩
        · unfold numAt; rw [c0]
        · unfold numAt; rw [c1]
    have hhas : W.has P .any base a e cap := by
      unfold Value.okWide at hval
      rw [ht] at hval
      simp only at hval
      unfold Cell.okWide at hval
      rw [ht] at hval
      simp only at hval
      unfold Cell.ok at hval
      rw [ht] at hval
      exact hval.2.2
    obtain ⟨_, hsp, row, cells, hsh, _⟩ := hhas
    unfold World.shape? at hsh
    split at hsh
    case h_2 => cases hsh
    rename_i c t' fz hb
    refine ⟨a, cap, (List.range len).map fun i => (numAt W (a.add (i * 2)), numAt W (a.add (i * 2 + 1))), by simp, by simpa using hl, fun k x hk => ?_, hsp, c, t', fz, hb, fun k x hk => ?_⟩
    · obtain ⟨i, s, _, h2⟩ := pairCells_get hk
      rcases h2 with ⟨_, rfl⟩ | ⟨_, rfl⟩ <;> rfl
    · obtain ⟨i, s, h1, h2⟩ := pairCells_get hk
      simp only [List.getElem?_map, Option.map_eq_some_iff] at h1
      obtain ⟨j, hj, rfl⟩ := h1
      have hlt : i < len ∧ j = i := by
        rw [List.getElem?_eq_some_iff] at hj
        obtain ⟨h1, h2⟩ := hj
        simp at h1 h2
        exact ⟨h1, h2.symm⟩
      obtain ⟨hlt, rfl⟩ := hlt
      obtain ⟨k1, k2⟩ := hcell j hlt
      rcases h2 with ⟨rfl, rfl⟩ | ⟨rfl, rfl⟩
      · rw [cell_add hb hsp] at k1; exact k1
      · rw [cell_add hb hsp] at k2; exact k2
end
end Go.Abs
