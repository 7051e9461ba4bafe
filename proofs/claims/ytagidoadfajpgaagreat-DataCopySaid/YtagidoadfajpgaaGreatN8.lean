/-
  A26.
-/
import Derived.Test.YtagidoadfajpgaaGreatN6
import Derived.ChangeMade
namespace Go.Abs
def Zok (P : Program) (z : Value) : Prop := ∀ ι, VRel P ι z z
def Zall (P : Program) (cs : Array Value) : Prop := ∀ (i : Nat) x, cs[i]? = some x -> Zok P x
section
variable {P : Program}
theorem zok_cells {z : Value} (h : Zok P z) : Zall P z.cells := fun i x hx ι => (h ι).cells.2 i x x hx hx
theorem zok_agg {cs : Array Value} (h : Zall P cs) : Zok P (.agg cs) := fun ι => .agg rfl fun i x x' hx hx' => by rw [hx] at hx'; cases hx'; exact h i x hx ι
theorem zall_append {a b : Array Value} (ha : Zall P a) (hb : Zall P b) : Zall P (a ++ b) := by
 intro i x hx
 rw [Array.getElem?_append] at hx
 split at hx
 ·exact ha _ _ hx
 ·exact hb _ _ hx
theorem zall_mem {a : Array Value} (h : ∀ x ∈ a, Zok P x) : Zall P a := fun _ x hx => h x (Array.mem_of_getElem? hx)
theorem forIn_inv {α β : Type} {f : α -> β -> Option (ForInStep β)} (I : β -> Prop) (hstep : ∀ a s r, I s -> f a s = some r -> I (match r with | .yield b => b | .done b => b)) :
  ∀ {l : List α} {b b' : β}, I b -> forIn l b f = some b' -> I b'
 | [], b, b', h0, h => by simp only [List.forIn_nil, pure, Option.some.injEq] at h; exact h ▸ h0
 | a :: l, b, b', h0, h => by
  simp only [List.forIn_cons, bind, Option.bind_eq_some_iff] at h
  obtain ⟨r, h1, h2⟩ := h
  have := hstep a b r h0 h1
  cases r with
  | done c => simp only [pure, Option.some.injEq] at h2; exact h2 ▸ this
  | yield c => exact forIn_inv I hstep this h2
theorem zstep {c : Prop} [Decidable c] {o : Option (Array Value)} {z : Option Value} (ho : ∀ a, o = some a -> Zall P a) (hz : ∀ v, z = some v -> Zok P v) :
  ∀ cs, (if c then none else o.bind fun a => z.bind fun b => some (a ++ b.cells)) = some cs -> Zall P cs := by
 intro cs h
 split at h
 ·cases h
 ·simp only [Option.bind_eq_some_iff] at h
  obtain ⟨a, h1, b, h2, h3⟩ := h
  cases h3
  exact zall_append (ho a h1) (zok_cells (hz b h2))
theorem reckonStruct_zero {info : TypeId -> Option TypeInfo} (hinfo : ∀ t i z, info t = some i -> i.zero = some z -> Zok P z) {fs : Array Field} {i : TypeInfo} (h : Made.reckonStruct info fs = some i) {z : Value} (hz : i.zero = some z) : Zok P z := by
 unfold Made.reckonStruct at h
 simp only [bind, Option.bind_eq_some_iff, pure] at h
 obtain ⟨a, h1, h2⟩ := h
 have key : ∀ cs, a.2.2.2.2.2.2.2.1 = some cs -> Zall P cs := by
  rw [<- Array.forIn_toList] at h1
  refine forIn_inv (fun s : Array Field × Nat × Nat × Nat × Nat × Bool × Bool × Option (Array Value) × String => ∀ cs, s.2.2.2.2.2.2.2.1 = some cs -> Zall P cs) ?_ ?_ h1
  ·intro f s r hI h
   simp only [Option.bind_eq_some_iff] at h
   obtain ⟨j, hj, h⟩ := h
   have hzz : ∀ v, j.zero = some v -> Zok P v := fun v hv => hinfo _ _ _ hj hv
   by_cases c1 : j.str.isEmpty = true
   ·rw [if_pos c1] at h; cases h
   rw [if_neg c1] at h
   by_cases c2 : f.embedded = true
   ·rw [if_pos c2] at h; cases h
   rw [if_neg c2] at h
   by_cases c3 : f.tag.isEmpty = true
   ·rw [if_pos c3] at h
    simp only [Option.bind_some] at h
    by_cases c4 : j.bytes = 0
    ·rw [if_pos c4] at h; cases h; exact zstep hI hzz
    ·rw [if_neg c4] at h; cases h; exact zstep hI hzz
   ·rw [if_neg c3] at h
    simp only [Option.bind_eq_some_iff] at h
    obtain ⟨tag, _, h⟩ := h
    by_cases c4 : j.bytes = 0
    ·rw [if_pos c4] at h; cases h; exact zstep hI hzz
    ·rw [if_neg c4] at h; cases h; exact zstep hI hzz
  ·intro cs hcs; cases hcs; intro i x hx; simp at hx
 have e : i.zero = a.2.2.2.2.2.2.2.1.map .agg := by
  split at h2 <;> (cases h2; rfl)
 rw [e] at hz
 simp only [Option.map_eq_some_iff] at hz
 obtain ⟨cs, hcs, rfl⟩ := hz
 exact zok_agg (key cs hcs)
theorem reckon_zero {info : TypeId -> Option TypeInfo} (hinfo : ∀ t i z, info t = some i -> i.zero = some z -> Zok P z) {d : TypeDesc} {i : TypeInfo} (h : Made.reckon info d = some i) {z : Value} (hz : i.zero = some z) : Zok P z := by
 unfold Made.reckon at h
 simp only [bind, pure] at h
 split at h
 ·rw [Option.bind_eq_some_iff] at h
  obtain ⟨j, hj, h⟩ := h
  split at h
  ·cases h
  ·split at h
   ·cases h
   ·simp only [Option.bind_eq_some_iff] at h; obtain ⟨s, hs, h⟩ := h; cases h; cases hz; exact fun ι => .ptr0
  ·simp only [Option.bind_eq_some_iff] at h; obtain ⟨s, hs, h⟩ := h; cases h; cases hz; exact fun ι => .ptr0
 ·simp only [Option.bind_eq_some_iff] at h; obtain ⟨j, hj, s, hs, h⟩ := h; cases h; cases hz; exact fun ι => .slice0 _ _
 ·simp only [Option.bind_eq_some_iff] at h; obtain ⟨j, hj, s, hs, k, hk, u, hu, h⟩ := h; cases h; cases hz; exact fun ι => .map0
 ·simp only [Option.bind_eq_some_iff] at h; obtain ⟨j, hj, s, hs, h⟩ := h; cases h; cases hz; exact fun ι => .chan0
 ·simp only [Option.bind_eq_some_iff] at h; obtain ⟨j, hj, h⟩ := h; cases h; cases hz; exact fun ι => .func0
 ·simp only [Option.bind_eq_some_iff] at h
  obtain ⟨j, hj, s, hs, h⟩ := h
  cases h
  simp only at hz
  split at hz
  ·cases hz
  ·split at hz
   ·cases hz; exact zok_agg fun i x hx => by simp at hx
   ·simp only [Option.map_eq_some_iff] at hz
    obtain ⟨y, hy, rfl⟩ := hz
    have := zok_cells (hinfo _ _ _ hj hy)
    refine zok_agg (zall_mem fun x hx => ?_)
    simp only [Array.mem_flatten] at hx
    obtain ⟨l, hl, hx⟩ := hx
    simp only [Array.mem_replicate] at hl
    rw [hl.2] at hx
    obtain ⟨k, hk⟩ := Array.getElem?_of_mem hx
    exact this k x hk
 ·exact reckonStruct_zero hinfo h hz
 ·cases h
theorem infoAt_zero {T : Tables} (h0 : ∀ (t : Nat) (i : TypeInfo) z, T.types[t]? = some i -> i.zero = some z -> Zok P z) : ∀ (n : Nat) t i z, Made.infoAt T n t = some i -> i.zero = some z -> Zok P z
 | 0, t, i, z, h, hz => by cases h
 | n + 1, t, i, z, h, hz => by
  unfold Made.infoAt at h
  split at h
  ·exact h0 t i z h hz
  ·simp only [Option.bind_eq_some_iff] at h
   obtain ⟨d, _, h⟩ := h
   exact reckon_zero (infoAt_zero h0 n) h hz
theorem info_zero {T : Tables} (h0 : ∀ (t : Nat) (i : TypeInfo) z, T.types[t]? = some i -> i.zero = some z -> Zok P z) (t : TypeId) (i : TypeInfo) (z : Value) (h : T.info? t = some i) (hz : i.zero = some z) : Zok P z := by
 unfold Tables.info? at h
 split at h
 ·exact h0 t i z h hz
 ·exact infoAt_zero h0 _ t i z h hz
end
end Go.Abs
