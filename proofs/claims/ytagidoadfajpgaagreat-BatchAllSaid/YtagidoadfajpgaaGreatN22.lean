/-
  B18.
-/
import Derived.Test.YtagidoadfajpgaaGreatN11
import Derived.Deep.Slices
import Derived.OpenShut
import Derived.Test.YtagidoadfajpgaaGreatN12
namespace Go.Abs
open Go.ChangeShapes Go.WideShapes Go.ChangeAt Go.RowKit
end Go.Abs
namespace Go.Abs
open Go.ChangeShapes Go.WideShapes Go.ChangeAt Go.RowKit
structure Lay where
 cs : Array Value
 t : TypeId
 a : Addr
 dead : Bool
def Lay.obj (p : Lay) : Obj := match p.dead with
 | true => .cells #[] p.t (2, 0)
 | false => .cells p.cs p.t (0, p.cs.size + 1)
def Lay.ent (p : Lay) : Ent := match p.dead with
 | true => ⟨p.a.block, 0, some (0, 0)⟩
 | false => ⟨p.a.block, p.a.off, none⟩
def inD (ls : List Lay) : World := { (default : World) with heap := (ls.map Lay.obj).toArray }
def a68 (ls : List Lay) : Ren := fun b => (ls[b]?).map Lay.ent
structure LiesD (P : Program) (W : World) (ls : List Lay) (p : Lay) : Prop where
 lt : p.a.block < W.heap.size
 alive : p.dead = false -> p.a.spot = none /\ ∃ c t fz, W.heap[p.a.block]? = some (.cells c t fz) /\ ∀ (i : Nat) x, p.cs[i]? = some x -> ∃ y, c[p.a.off + i]? = some y /\ VRel P (a68 ls) x y
section
variable {P : Program} {W : World} {ls : List Lay}
theorem a9H {b : Nat} {o : Obj} (h : (inD ls).heap[b]? = some o) : ∃ p, ls[b]? = some p /\ o = p.obj := by
 simp only [inD, List.getElem?_toArray, List.getElem?_map, Option.map_eq_some_iff] at h
 obtain ⟨p, h1, h2⟩ := h
 exact ⟨p, h1, h2.symm⟩
theorem b5h {b : Nat} {p : Lay} (h : ls[b]? = some p) (hd : p.dead = false) : (inD ls).heap[b]? = some (.cells p.cs p.t (0, p.cs.size + 1)) := by
 have e : p.obj = .cells p.cs p.t (0, p.cs.size + 1) := by unfold Lay.obj; rw [hd]
 rw [<- e]; simp [inD, h]
theorem b35 (p : Lay) : wr p.obj = false := by
 unfold Lay.obj
 cases p.dead with
 | true => rfl
 | false => simp [wr]
theorem b4F (h : ∀ p ∈ ls, LiesD P W ls p) : Sim P W.heap.size (a68 ls) (inD ls) W where
 obj b e o hb ho := by
  obtain ⟨p, hp, rfl⟩ := a9H ho
  simp only [a68, hp, Option.map_some, Option.some.injEq] at hb
  subst hb
  have hl := h p (List.mem_of_getElem? hp)
  cases hd : p.dead with
  | true =>
   unfold Lay.obj; rw [hd]
   exact .inl ⟨rfl, rfl⟩
  | false =>
   obtain ⟨_, c, t', fz, hc, hi⟩ := hl.alive hd
   have e1 : p.obj = .cells p.cs p.t (0, p.cs.size + 1) := by unfold Lay.obj; rw [hd]
   have e2 : p.ent = ⟨p.a.block, p.a.off, none⟩ := by unfold Lay.ent; rw [hd]
   rw [e1, e2]
   refine .inr ⟨c, t', fz, hc, fun i x hx => ?_, .inr (.inr ⟨rfl, Nat.lt_succ_self _⟩), fun hn => absurd (Nat.succ_pos _) hn, fun hf => by simp at hf, fun _ => rfl⟩
   obtain ⟨y, h1, h2⟩ := hi i x hx
   exact ⟨y, by rw [Nat.add_comm]; exact h1, h2⟩
 inj b b' e e' o o' _ _ ho _ hw := by
  obtain ⟨p, _, rfl⟩ := a9H ho
  rw [b35] at hw; cases hw
 dom b e hb := by
  simp only [a68, Option.map_eq_some_iff] at hb
  obtain ⟨p, hp, rfl⟩ := hb
  have hl := (h p (List.mem_of_getElem? hp)).lt
  unfold Lay.ent
  cases p.dead <;> exact hl
 lo := Nat.le_refl _
theorem b2D (b : Nat) (h : (inD ls).heap.size <= b) : a68 ls b = none := by
 have : (inD ls).heap.size = ls.length := by simp [inD]
 rw [this] at h
 simp [a68, h]
theorem b7i (k : Nat) (o : Obj) (h : (inD ls).heap[k]? = some o) : wr o = false := by
 obtain ⟨p, _, rfl⟩ := a9H h
 exact b35 p
theorem a9G {k : Nat} {p : Lay} {n cap : Nat} (hp : ls[k]? = some p) (hd : p.dead = false) (hs : p.a.spot = none) : VRel P (a68 ls) (.slice (some ⟨k, 0, none⟩) n cap) (.slice (some p.a) n cap) := by
 have e2 : p.ent = ⟨p.a.block, p.a.off, none⟩ := by unfold Lay.ent; rw [hd]
 exact .slice (.inl ⟨⟨rfl, hs, ⟨p.a.block, p.a.off, none⟩, by simp [a68, hp, e2], rfl, by simp⟩, .inl rfl⟩)
theorem b2E {k : Nat} {p : Lay} {a : Addr} {c : Nat} (hp : ls[k]? = some p) (hd : p.dead = true) : VRel P (a68 ls) (.slice (some ⟨k, 0, none⟩) 0 0) (.slice (some a) 0 c) := by
 have e2 : p.ent = ⟨p.a.block, 0, some (0, 0)⟩ := by unfold Lay.ent; rw [hd]
 exact .slice (.inr ⟨rfl, rfl, rfl, ⟨p.a.block, 0, some (0, 0)⟩, (0, 0), by simp [a68, hp, e2], rfl⟩)
theorem a0A {α : Type} {en : α -> List C1} {w : Nat} (hw : ∀ x, (en x).length = w) {d : α} : ∀ {xs : List α} {k : Nat} {x : Value}, (b7 en xs)[k]? = some x -> ∃ i j, i < xs.length /\ j < w /\ k = i * w + j /\ ((en (xs.getD i d)).map C1.den)[j]? = some x
 | [], k, x, h => by simp [b7] at h
 | s :: m, k, x, h => by
  have e : b7 en (s :: m) = d0 (en s) ++ b7 en m := by
   have := k8 (en := en) (xs := [s]) (ys := m)
   rwa [List.singleton_append, a1B] at this
  have hs : (d0 (en s)).size = w := by simp [d0, hw]
  rw [e, Array.getElem?_append, hs] at h
  split at h
  ·rename_i hk
   exact ⟨0, k, by simp, hk, by simp, by simpa [d0] using h⟩
  ·rename_i hk
   obtain ⟨i, j, h1, h2, h3, h4⟩ := a0A hw (d := d) h
   exact ⟨i + 1, j, by simpa using h1, h2, by rw [Nat.add_mul]; omega, by simpa using h4⟩
theorem a5j {A : World} : ∀ {l : List As}, (∀ I ∈ l, ∃ F, I.p F A /\ ∀ b, ¬ F.own b) -> ∃ F, (As.all l).p F A /\ ∀ b, ¬ F.own b
 | [], _ => ⟨Ft.no, rfl, fun _ h => h.elim⟩
 | I :: l, h => by
  obtain ⟨F1, h1, n1⟩ := h I (List.mem_cons_self ..)
  obtain ⟨F2, h2, n2⟩ := a5j fun J hJ => h J (List.mem_cons_of_mem _ hJ)
  exact ⟨⟨fun _ => False, fun b => F1.imm b ∨ F2.imm b⟩, ⟨F1, F2, h1, h2, ⟨fun b => ⟨fun h => h.elim, fun h => h.elim (n1 b) (n2 b)⟩, fun b => Iff.rfl, fun b h _ => n1 b h, fun b h _ => n1 b h, fun b _ h => n2 b h⟩⟩, fun b h => h⟩
end
end Go.Abs
