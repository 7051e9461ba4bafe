/-
  A26.
-/
import Derived.Test.YtagidoadfajpgaaGreatN6
import Derived.ChangeMade
namespace Go.Abs
def Zok (P : Program) (z : Value) : Prop := ∀ ι, VRel P ι z z
def b1k (P : Program) (cs : Array Value) : Prop := ∀ (i : Nat) x, cs[i]? = some x -> Zok P x
section
variable {P : Program}
theorem a23 {z : Value} (h : Zok P z) : b1k P z.cells := fun i x hx ι => (h ι).cells.2 i x x hx hx
theorem a4l {cs : Array Value} (h : b1k P cs) : Zok P (.agg cs) := fun ι => .agg rfl fun i x x' hx hx' => by rw [hx] at hx'; cases hx'; exact h i x hx ι
theorem a4m {a b : Array Value} (ha : b1k P a) (hb : b1k P b) : b1k P (a ++ b) := by
 intro i x hx
 rw [Array.getElem?_append] at hx
 split at hx
 ·exact ha _ _ hx
 ·exact hb _ _ hx
theorem b1n {a : Array Value} (h : ∀ x ∈ a, Zok P x) : b1k P a := fun _ x hx => h x (Array.mem_of_getElem? hx)
theorem a3R {α β : Type} {f : α -> β -> Option (ForInStep β)} (I : β -> Prop) (hstep : ∀ a s r, I s -> f a s = some r -> I (match r with | .yield b => b | .done b => b)) :
  ∀ {l : List α} {b b' : β}, I b -> forIn l b f = some b' -> I b'
 | [], b, b', h0, h => by simp only [List.forIn_nil, pure, Option.some.injEq] at h; exact h ▸ h0
 | a :: l, b, b', h0, h => by
  simp only [List.forIn_cons, bind, Option.bind_eq_some_iff] at h
  obtain ⟨r, h1, h2⟩ := h
  have := hstep a b r h0 h1
  cases r with
  | done c => simp only [pure, Option.some.injEq] at h2; exact h2 ▸ this
  | yield c => exact a3R I hstep this h2
theorem b1m {c : Prop} [Decidable c] {o : Option (Array Value)} {z : Option Value} (ho : ∀ a, o = some a -> b1k P a) (hz : ∀ v, z = some v -> Zok P v) :
  ∀ cs, (if c then none else o.bind fun a => z.bind fun b => some (a ++ b.cells)) = some cs -> b1k P cs := by
 intro cs h
 split at h
 ·cases h
 ·simp only [Option.bind_eq_some_iff] at h
  obtain ⟨a, h1, b, h2, h3⟩ := h
  cases h3
  exact a4m (ho a h1) (a23 (hz b h2))
theorem W5 {info : TypeId -> Option TypeInfo} (hinfo : ∀ t i z, info t = some i -> i.zero = some z -> Zok P z) {fs : Array Field} {i : TypeInfo} (h : Made.reckonStruct info fs = some i) {z : Value} (hz : i.zero = some z) : Zok P z := by
 unfold Made.reckonStruct at h
 simp only [bind, Option.bind_eq_some_iff, pure] at h
 obtain ⟨a, h1, h2⟩ := h
 have key : ∀ cs, a.2.2.2.2.2.2.2.1 = some cs -> b1k P cs := by
  rw [<- Array.forIn_toList] at h1
  refine a3R (fun s : Array Field × Nat × Nat × Nat × Nat × Bool × Bool × Option (Array Value) × String => ∀ cs, s.2.2.2.2.2.2.2.1 = some cs -> b1k P cs) ?_ ?_ h1
  ·intro f s r hI h
   simp only [Option.bind_eq_some_iff] at h
   obtain ⟨j, hj, h⟩ := h
   have hzz : ∀ v, j.zero = some v -> Zok P v := fun v hv => hinfo _ _ _ hj hv
   by_cases c1 : j.str.isEmpty = true
   ·rw [if_pos c1] at h; cases h
   rw [if_neg c1] at h
   by_cases c2 : f.embedded = true
   ·rw [if_pos c2] at h; cases h
   rw [if_neg c2] at h
   by_cases c3 : f.tag.isEmpty = true
   ·rw [if_pos c3] at h
    simp only [Option.bind_some] at h
    by_cases c4 : j.bytes = 0
    ·rw [if_pos c4] at h; cases h; exact b1m hI hzz
    ·rw [if_neg c4] at h; cases h; exact b1m hI hzz
   ·rw [if_neg c3] at h
    simp only [Option.bind_eq_some_iff] at h
    obtain ⟨tag, _, h⟩ := h
    by_cases c4 : j.bytes = 0
    ·rw [if_pos c4] at h; cases h; exact b1m hI hzz
    ·rw [if_neg c4] at h; cases h; exact b1m hI hzz
  ·intro cs hcs; cases hcs; intro i x hx; simp at hx
 have e : i.zero = a.2.2.2.2.2.2.2.1.map .agg := by
  split at h2 <;> (cases h2; rfl)
 rw [e] at hz
 simp only [Option.map_eq_some_iff] at hz
 obtain ⟨cs, hcs, rfl⟩ := hz
 exact a4l (key cs hcs)
theorem a4E {info : TypeId -> Option TypeInfo} (hinfo : ∀ t i z, info t = some i -> i.zero = some z -> Zok P z) {d : TypeDesc} {i : TypeInfo} (h : Made.reckon info d = some i) {z : Value} (hz : i.zero = some z) : Zok P z := by
 unfold Made.reckon at h
 simp only [bind, pure] at h
 split at h
 ·rw [Option.bind_eq_some_iff] at h
  obtain ⟨j, hj, h⟩ := h
  split at h
  ·cases h
  ·split at h
   ·cases h
   ·simp only [Option.bind_eq_some_iff] at h; obtain ⟨s, hs, h⟩ := h; cases h; cases hz; exact fun ι => .ptr0
  ·simp only [Option.bind_eq_some_iff] at h; obtain ⟨s, hs, h⟩ := h; cases h; cases hz; exact fun ι => .ptr0
 ·simp only [Option.bind_eq_some_iff] at h; obtain ⟨j, hj, s, hs, h⟩ := h; cases h; cases hz; exact fun ι => .slice0 _ _
 ·simp only [Option.bind_eq_some_iff] at h; obtain ⟨j, hj, s, hs, k, hk, u, hu, h⟩ := h; cases h; cases hz; exact fun ι => .map0
 ·simp only [Option.bind_eq_some_iff] at h; obtain ⟨j, hj, s, hs, h⟩ := h; cases h; cases hz; exact fun ι => .chan0
 ·simp only [Option.bind_eq_some_iff] at h; obtain ⟨j, hj, h⟩ := h; cases h; cases hz; exact fun ι => .func0
 ·simp only [Option.bind_eq_some_iff] at h
  obtain ⟨j, hj, s, hs, h⟩ := h
  cases h
  simp only at hz
  split at hz
  ·cases hz
  ·split at hz
   ·cases hz; exact a4l fun i x hx => by simp at hx
   ·simp only [Option.map_eq_some_iff] at hz
    obtain ⟨y, hy, rfl⟩ := hz
    have := a23 (hinfo _ _ _ hj hy)
    refine a4l (b1n fun x hx => ?_)
    simp only [Array.mem_flatten] at hx
    obtain ⟨l, hl, hx⟩ := hx
    simp only [Array.mem_replicate] at hl
    rw [hl.2] at hx
    obtain ⟨k, hk⟩ := Array.getElem?_of_mem hx
    exact this k x hk
 ·exact W5 hinfo h hz
 ·cases h
theorem a0P {T : Tables} (h0 : ∀ (t : Nat) (i : TypeInfo) z, T.types[t]? = some i -> i.zero = some z -> Zok P z) : ∀ (n : Nat) t i z, Made.infoAt T n t = some i -> i.zero = some z -> Zok P z
 | 0, t, i, z, h, hz => by cases h
 | n + 1, t, i, z, h, hz => by
  unfold Made.infoAt at h
  split at h
  ·exact h0 t i z h hz
  ·simp only [Option.bind_eq_some_iff] at h
   obtain ⟨d, _, h⟩ := h
   exact a4E (a0P h0 n) h hz
theorem a9F {T : Tables} (h0 : ∀ (t : Nat) (i : TypeInfo) z, T.types[t]? = some i -> i.zero = some z -> Zok P z) (t : TypeId) (i : TypeInfo) (z : Value) (h : T.info? t = some i) (hz : i.zero = some z) : Zok P z := by
 unfold Tables.info? at h
 split at h
 ·exact h0 t i z h hz
 ·exact a0P h0 _ t i z h hz
end
end Go.Abs
