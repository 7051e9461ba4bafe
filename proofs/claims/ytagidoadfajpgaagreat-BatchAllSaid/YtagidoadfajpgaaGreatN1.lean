/-
  PB.
-/
open List (length_append length_cons length_nil foldl_cons drop_eq_getElem_cons eq_nil_of_length_eq_zero eq_nil_or_concat concat_eq_append take_succ_eq_append_getElem mem_of_head?)
namespace Go.Abs
abbrev Sp := Int × Int
inductive WF : Int -> List Sp -> Prop
 | nil {lo : Int} : WF lo []
 | cons {lo f t : Int} {m : List Sp} (h1 : lo < f) (h2 : f < t) (h3 : t <= 65536) (h : WF t m) : WF lo ((f, t) :: m)
def c8 (m : List Sp) (f t : Int) : List Sp := match m.getLast? with
 | none => if f < t then m ++ [(f, t)] else m
 | some s => if f <= s.2 then m.dropLast ++ [(s.1, if s.2 < t then t else s.2)] else if f < t then m ++ [(f, t)] else m
theorem a1j {f t : Int} : c8 [] f t = if f < t then [(f, t)] else [] := by simp [c8]
theorem O2 {m : List Sp} {a b f t : Int} : c8 (m ++ [(a, b)]) f t = if f <= b then m ++ [(a, if b < t then t else b)] else if f < t then m ++ [(a, b)] ++ [(f, t)] else m ++ [(a, b)] := by simp [c8]
def b6i (lo : Int) (m : List Sp) : Int := match m.getLast? with
 | none => lo
 | some s => s.2
theorem a29 {lo : Int} {m : List Sp} {f t : Int} (h : WF lo m) (h1 : b6i lo m < f) (h2 : f < t) (h3 : t <= 65536) : WF lo (m ++ [(f, t)]) := by
 induction h with
 | nil => exact .cons h1 h2 h3 .nil
 | @cons lo a b m g1 g2 g3 g ih =>
  refine .cons g1 g2 g3 (ih ?_)
  cases m with
  | nil => exact h1
  | cons s m =>
   have e : ∀ (lo : Int), b6i lo ((a, b) :: s :: m) = b6i b (s :: m) := fun lo => by
    unfold b6i
    rw [List.getLast?_cons_cons]
    cases h : (s :: m).getLast? with
    | none => simp at h
    | some s => rfl
   rw [<- e]; exact h1
theorem a7S {lo : Int} {m : List Sp} {a b b' : Int} (h : WF lo (m ++ [(a, b)])) (h1 : b <= b') (h2 : b' <= 65536) : WF lo (m ++ [(a, b')]) := by
 induction m generalizing lo with
 | nil =>
  cases h with
  | cons g1 g2 g3 g => exact .cons g1 (by omega) h2 .nil
 | cons s m ih =>
  cases h with
  | cons g1 g2 g3 g => exact .cons g1 g2 g3 (ih g)
theorem S6 {m : List Sp} {s : Sp} (h : m.getLast? = some s) : m = m.dropLast ++ [s] := by
 have hne : m ≠ [] := fun e => by subst e; simp at h
 have : m.getLast hne = s := by
  rw [List.getLast?_eq_some_getLast hne] at h
  exact Option.some.inj h
 rw [<- this]; exact (List.dropLast_concat_getLast hne).symm
theorem b3K {lo : Int} {m : List Sp} {s : Sp} (h : WF lo m) (hs : m.getLast? = some s) : lo < s.1 /\ s.1 < s.2 /\ s.2 <= 65536 := by
 induction h with
 | nil => cases hs
 | @cons lo a b m g1 g2 g3 g ih =>
  cases m with
  | nil => cases hs; exact ⟨g1, g2, g3⟩
  | cons s' m =>
   have := ih (by rw [List.getLast?_cons_cons] at hs; exact hs)
   omega
theorem a1A {lo : Int} {m : List Sp} {f t : Int} (h : WF lo m) (hf : lo < f) (ht : t <= 65536) : WF lo (c8 m f t) := by
 unfold c8
 cases hm : m.getLast? with
 | none =>
  simp only
  split
  ·exact a29 h (by unfold b6i; rw [hm]; exact hf) ‹_› ht
  ·exact h
 | some s =>
  have hw := b3K h hm
  simp only
  split
  ·have e := S6 hm
   have h' : WF lo (m.dropLast ++ [(s.1, s.2)]) := e ▸ h
   split
   ·exact a7S h' (by omega) ht
   ·exact a7S h' (by omega) hw.2.2
  ·split
   ·exact a29 h (by unfold b6i; rw [hm]; show s.2 < f; omega) ‹_› ht
   ·exact h
theorem a5k {m : List Sp} {f t : Int} : (c8 m f t).length <= m.length + 1 := by
 unfold c8
 cases hm : m.getLast? with
 | none => simp only; split <;> simp
 | some s =>
  simp only
  split
  ·have : m.length = m.dropLast.length + 1 := by
    have := congrArg List.length (S6 hm)
    simpa using this
   rw [length_append]; simp only [length_cons, length_nil]; omega
  ·split <;> simp
def a1k : List Sp -> Int -> Int
 | [], _ => 0
 | (f, t) :: m, i => (if f < i then (if i < t then i else t) - f else 0) + a1k m i
def a7j (m : List Sp) : Int := a1k m 65536
def has (m : List Sp) (i : Int) : Bool := m.any fun s => decide (s.1 <= i) && decide (i < s.2)
theorem Y3 {lo i : Int} {m : List Sp} (h : WF lo m) (hi : i <= lo) : has m i = false := by
 induction h with
 | nil => rfl
 | @cons lo f t m h1 h2 h3 h ih =>
  have := ih (by omega)
  unfold has at this ⊢
  rw [List.any_cons, this]
  simp; omega
set_option maxRecDepth 8000
def H0 (x0 y0 : Int) : Int := if x0 < y0 then y0 else x0
def b3N (x1 y1 : Int) : Int := if y1 < x1 then y1 else x1
def m7 (m : List Sp) (x y : Sp) : List Sp := if H0 x.1 y.1 < b3N x.2 y.2 then c8 m (H0 x.1 y.1) (b3N x.2 y.2) else m
def Q0 : Nat -> List Sp -> List Sp -> List Sp -> List Sp
 | n + 1, x :: a, y :: b, m => if x.2 < y.2 then Q0 n a (y :: b) (m7 m x y) else Q0 n (x :: a) b (m7 m x y)
 | _, _, _, m => m
def b7N (a b : List Sp) : List Sp := Q0 (a.length + b.length) a b []
theorem a1g {n : Nat} {b m : List Sp} : Q0 n [] b m = m := by cases n <;> rfl
theorem Z2 {n : Nat} {a m : List Sp} : Q0 n a [] m = m := by cases n <;> cases a <;> rfl
theorem a7v {m : List Sp} {x y : Sp} : (m7 m x y).length <= m.length + 1 := by
 unfold m7
 split
 ·exact a5k
 ·omega
theorem drop_at {m : List Sp} {k : Nat} {s : Sp} (h : m[k]? = some s) : m.drop k = s :: m.drop (k + 1) := by
 obtain ⟨hk, e⟩ := List.getElem?_eq_some_iff.1 h
 rw [drop_eq_getElem_cons hk, e]
set_option maxRecDepth 8000
def a3C (n : Int) : List Sp -> Int -> List Sp -> List Sp × Int
 | [], fr, acc => (acc, fr)
 | s :: m, fr, acc => if s.1 ≥ n then (acc, fr) else a3C n m s.2 (if fr < s.1 then c8 acc fr s.1 else acc)
def I2 (n : Int) (r : List Sp × Int) : List Sp := if r.2 < n then c8 r.1 r.2 n else r.1
def Q3 (m : List Sp) (n0 : Int) : List Sp := I2 (if (65536 : Int) < n0 then 65536 else n0) (a3C (if (65536 : Int) < n0 then 65536 else n0) m 0 [])
def a52 (m : List Sp) : Int := match m.getLast? with
 | none => -1
 | some s => s.1
theorem N6 {a b : List Sp} {i : Int} : has (a ++ b) i = (has a i || has b i) := by
 unfold has; rw [List.any_append]
theorem a2D {f t i : Int} : has [(f, t)] i = (decide (f <= i) && decide (i < t)) := by
 unfold has; simp
theorem J2 {f t i : Int} {m : List Sp} : has ((f, t) :: m) i = (decide (f <= i) && decide (i < t) || has m i) := rfl
theorem R7 {m : List Sp} {s : Sp} : a52 (m ++ [s]) = s.1 := by unfold a52; simp
theorem a2s {m : List Sp} {f t : Int} : a52 (c8 m f t) = a52 m ∨ a52 (c8 m f t) = f := by
 rcases eq_nil_or_concat m with rfl | ⟨m, s, rfl⟩
 ·rw [a1j]; split
  ·exact .inr rfl
  ·exact .inl rfl
 ·obtain ⟨a, b⟩ := s
  rw [concat_eq_append, O2, R7]
  split
  ·exact .inl R7
  ·split
   ·exact .inr R7
   ·exact .inl R7
theorem a0S {lo : Int} {m : List Sp} {f t i : Int} (h : WF lo m) (hf : a52 m <= f) : has (c8 m f t) i = (has m i || (decide (f <= i) && decide (i < t))) := by
 rcases eq_nil_or_concat m with rfl | ⟨m, s, rfl⟩
 ·rw [a1j]
  split
  ·rw [a2D]; rfl
  ·rename_i hft
   have : (decide (f <= i) && decide (i < t)) = false := by simp; omega
   rw [this]; rfl
 ·obtain ⟨a, b⟩ := s
  rw [concat_eq_append] at h hf ⊢
  rw [R7] at hf
  have hw := b3K h (s := (a, b)) (by simp)
  simp only at hf hw
  rw [O2]
  split
  ·rw [N6, N6, a2D, a2D, Bool.or_assoc]
   congr 1
   rw [Bool.eq_iff_iff]
   simp only [Bool.or_eq_true, Bool.and_eq_true, decide_eq_true_eq]
   split <;> omega
  ·split
   ·rw [N6, a2D]
   ·have : (decide (f <= i) && decide (i < t)) = false := by simp; omega
    rw [this, Bool.or_false]
def U8 (l : List Sp) : List Sp := l.foldl (fun m s => c8 m s.1 s.2) []
theorem b07 {l : List Sp} {k : Nat} {s : Sp} (h : l[k]? = some s) : U8 (l.take (k + 1)) = c8 (U8 (l.take k)) s.1 s.2 := by
 obtain ⟨hk, e⟩ := List.getElem?_eq_some_iff.1 h
 unfold U8
 rw [take_succ_eq_append_getElem hk, List.foldl_append, e]
 rfl
theorem b3E (l : List Sp) : (U8 l).length <= l.length := by
 have : ∀ (l : List Sp) (m : List Sp), (l.foldl (fun m s => c8 m s.1 s.2) m).length <= m.length + l.length := by
  intro l
  induction l with
  | nil => exact fun m => Nat.le_refl _
  | cons s l ih =>
   intro m
   refine Nat.le_trans (ih _) ?_
   have := a5k (m := m) (f := s.1) (t := s.2)
   simp only [length_cons]
   omega
 simpa [U8] using this l []
theorem b6d {l : List Sp} (h : ∀ s ∈ l, -1 < s.1 /\ s.2 <= 65536) (hs : l.Pairwise fun s u => s.1 <= u.1) : WF (-1) (U8 l) /\ ∀ i, has (U8 l) i = has l i := by
 have : ∀ (l : List Sp) (m : List Sp), WF (-1) m -> (∀ s ∈ l, -1 < s.1 /\ s.2 <= 65536) -> (l.Pairwise fun s u => s.1 <= u.1) -> (∀ s ∈ l, a52 m <= s.1) -> WF (-1) (l.foldl (fun m s => c8 m s.1 s.2) m) /\ ∀ i, has (l.foldl (fun m s => c8 m s.1 s.2) m) i = (has m i || has l i) := by
  intro l
  induction l with
  | nil => exact fun m h _ _ _ => ⟨h, fun i => by show has m i = (has m i || false); rw [Bool.or_false]⟩
  | cons s l ih =>
   intro m hm hl hp hf
   obtain ⟨f, t⟩ := s
   have h0 := hl (f, t) (by simp)
   have h1 := hf (f, t) (by simp)
   obtain ⟨hp1, hp2⟩ := List.pairwise_cons.1 hp
   obtain ⟨g1, g2⟩ := ih (c8 m f t) (a1A hm h0.1 h0.2) (fun s hs => hl s (by simp [hs])) hp2 (fun s hs => by
    have e1 := hp1 s hs
    rcases a2s (m := m) (f := f) (t := t) with e | e <;> rw [e]
    ·exact hf s (by simp [hs])
    ·exact e1)
   refine ⟨g1, fun i => ?_⟩
   rw [foldl_cons, g2, a0S hm h1, J2, Bool.or_assoc]
 obtain ⟨g1, g2⟩ := this l [] .nil h hs (fun s hs => by have := (h s hs).1; show (-1 : Int) <= s.1; omega)
 exact ⟨g1, fun i => by unfold U8; rw [g2]; rfl⟩
theorem a4V {m : List Sp} {i : Int} : has m i = true ↔ ∃ s ∈ m, s.1 <= i /\ i < s.2 := by
 unfold has; simp
theorem b2J {a b : List Sp} (h : a.Perm b) (i : Int) : has a i = has b i := by
 rw [Bool.eq_iff_iff, a4V, a4V]
 exact ⟨fun ⟨s, h1, h2⟩ => ⟨s, h.mem_iff.1 h1, h2⟩, fun ⟨s, h1, h2⟩ => ⟨s, h.mem_iff.2 h1, h2⟩⟩
theorem H6 {lo : Int} {m : List Sp} (h : WF lo m) : ∀ s ∈ m, lo < s.1 /\ s.1 < s.2 /\ s.2 <= 65536 := by
 induction h with
 | nil => intro s hs; simp at hs
 | cons h1 h2 h3 h ih =>
  intro s hs
  rcases List.mem_cons.1 hs with rfl | hs
  ·exact ⟨h1, h2, h3⟩
  ·have := ih s hs; omega
theorem b6z {lo lo' : Int} {m : List Sp} (h : WF lo m) (hl : lo' <= lo) : WF lo' m := by
 cases h with
 | nil => exact .nil
 | cons h1 h2 h3 h => exact .cons (by omega) h2 h3 h
theorem b6A {lo : Int} {m : List Sp} (h : WF lo m) (hlo : lo <= 65536) : (2 * m.length : Int) <= 65536 - lo := by
 induction h with
 | nil => simp; omega
 | cons h1 h2 h3 h ih =>
  have := ih h3
  simp only [length_cons]
  omega
theorem b02 {m : List Sp} {x y : Sp} (h : WF (-1) m) (hx : -1 < x.1) (hy : y.2 <= 65536) (hl : a52 m <= H0 x.1 y.1) : WF (-1) (m7 m x y) /\ a52 (m7 m x y) <= H0 x.1 y.1 /\ ∀ i, has (m7 m x y) i = (has m i || ((decide (x.1 <= i) && decide (i < x.2)) && (decide (y.1 <= i) && decide (i < y.2)))) := by
 have e : ∀ i, (decide (H0 x.1 y.1 <= i) && decide (i < b3N x.2 y.2)) = ((decide (x.1 <= i) && decide (i < x.2)) && (decide (y.1 <= i) && decide (i < y.2))) := fun i => by
  rw [Bool.eq_iff_iff]
  simp only [Bool.and_eq_true, decide_eq_true_eq, H0, b3N]
  split <;> split <;> simp only [decide_eq_true_eq] <;> omega
 have hf : -1 < H0 x.1 y.1 := by unfold H0; split <;> omega
 have ht : b3N x.2 y.2 <= 65536 := by unfold b3N; split <;> omega
 unfold m7
 split
 ·refine ⟨a1A h hf ht, ?_, fun i => ?_⟩
  ·rcases a2s (m := m) (f := H0 x.1 y.1) (t := b3N x.2 y.2) with e | e <;> rw [e]
   ·exact hl
   ·exact Int.le_refl _
  ·rw [a0S h hl, e]
 ·refine ⟨h, hl, fun i => ?_⟩
  rw [<- e]
  have : (decide (H0 x.1 y.1 <= i) && decide (i < b3N x.2 y.2)) = false := by simp; omega
  rw [this, Bool.or_false]
theorem b3C : ∀ {n : Nat} {a b m : List Sp} {la lb : Int}, a.length + b.length <= n -> WF la a -> WF lb b -> -1 <= la -> -1 <= lb -> WF (-1) m -> (∀ x y, a.head? = some x -> b.head? = some y -> a52 m <= H0 x.1 y.1) -> WF (-1) (Q0 n a b m) /\ ∀ i, has (Q0 n a b m) i = (has m i || (has a i && has b i)) := by
 intro n
 induction n with
 | zero =>
  intro a b m la lb hn ha hb _ _ hm _
  obtain rfl : a = [] := eq_nil_of_length_eq_zero (by omega)
  exact ⟨hm, fun i => by show has m i = (has m i || (false && has b i)); simp⟩
 | succ n ih =>
  intro a b m la lb hn ha hb hla hlb hm hl
  cases ha with
  | nil => exact ⟨by rw [a1g]; exact hm, fun i => by rw [a1g]; show has m i = (has m i || (false && has b i)); simp⟩
  | @cons _ x0 x1 a g1 g2 g3 g =>
   cases hb with
   | nil => exact ⟨by rw [Z2]; exact hm, fun i => by rw [Z2]; show has m i = (has m i || (has _ i && false)); simp⟩
   | @cons _ y0 y1 b h1 h2 h3 h =>
    obtain ⟨k1, k2, k3⟩ := b02 (x := (x0, x1)) (y := (y0, y1)) hm (by show -1 < x0; omega) h3 (hl _ _ rfl rfl)
    simp only [Q0]
    simp only [length_cons] at hn
    split
    ·rename_i hxy
     obtain ⟨j1, j2⟩ := ih (a := a) (b := (y0, y1) :: b) (m := m7 m (x0, x1) (y0, y1)) (by simp only [length_cons]; omega) g (.cons h1 h2 h3 h) (by omega) hlb k1 (fun x y hx hy => by
      cases hy
      have := (H6 g x (mem_of_head? hx)).1
      refine Int.le_trans k2 ?_
      simp only [H0]
      split <;> split <;> omega)
     refine ⟨j1, fun i => ?_⟩
     rw [j2, k3, J2, J2, Bool.or_assoc]
     congr 1
     by_cases hi : i < x1
     ·rw [Y3 g (by omega), Y3 h (by omega)]; simp
     ·simp [show ¬ i < x1 from hi]
    ·rename_i hxy
     obtain ⟨j1, j2⟩ := ih (a := (x0, x1) :: a) (b := b) (m := m7 m (x0, x1) (y0, y1)) (by simp only [length_cons]; omega) (.cons g1 g2 g3 g) h hla (by omega) k1 (fun x y hx hy => by
      cases hx
      have := (H6 h y (mem_of_head? hy)).1
      refine Int.le_trans k2 ?_
      simp only [H0]
      split <;> split <;> omega)
     refine ⟨j1, fun i => ?_⟩
     rw [j2, k3, J2, J2, Bool.or_assoc]
     congr 1
     by_cases hi : i < y1
     ·rw [Y3 h (by omega)]
      by_cases hix : i < x1
      ·rw [Y3 g (by omega)]; simp
      ·omega
     ·simp [show ¬ i < y1 from hi]
theorem b7M {a b : List Sp} (ha : WF (-1) a) (hb : WF (-1) b) : WF (-1) (b7N a b) /\ ∀ i, has (b7N a b) i = (has a i && has b i) := by
 obtain ⟨h1, h2⟩ := b3C (n := a.length + b.length) (m := []) (Nat.le_refl _) ha hb (Int.le_refl _) (Int.le_refl _) .nil (fun x y hx hy => by
  have e1 := (H6 ha x (mem_of_head? hx)).1
  have e2 := (H6 hb y (mem_of_head? hy)).1
  show (-1 : Int) <= _
  unfold H0; split <;> omega)
 exact ⟨h1, fun i => by rw [show b7N a b = Q0 (a.length + b.length) a b [] from rfl, h2]; rfl⟩
theorem b2h {n : Int} (hn : n <= 65536) : ∀ {m acc : List Sp} {fr : Int}, 0 <= fr -> WF (fr - 1) m -> WF (-1) acc -> a52 acc <= fr -> WF (-1) (I2 n (a3C n m fr acc)) /\ ∀ i, has (I2 n (a3C n m fr acc)) i = (has acc i || (decide (fr <= i) && decide (i < n) && !has m i)) := by
 have fin : ∀ {m acc : List Sp} {fr : Int}, 0 <= fr -> WF (-1) acc -> a52 acc <= fr -> (∀ i, i < n -> has m i = false) -> WF (-1) (I2 n (acc, fr)) /\ ∀ i, has (I2 n (acc, fr)) i = (has acc i || (decide (fr <= i) && decide (i < n) && !has m i)) := fun {m acc fr} h0 ha hl hm => by
  unfold I2
  simp only
  have hb : ∀ i, (decide (fr <= i) && decide (i < n) && !has m i) = (decide (fr <= i) && decide (i < n)) := fun i => by
   by_cases hi : i < n
   ·rw [hm i hi]; simp
   ·simp [show ¬ i < n from hi]
  split
  ·exact ⟨a1A ha (by omega) hn, fun i => by rw [a0S ha hl, hb]⟩
  ·refine ⟨ha, fun i => ?_⟩
   rw [hb]
   have : (decide (fr <= i) && decide (i < n)) = false := by simp; omega
   rw [this, Bool.or_false]
 intro m
 induction m with
 | nil => exact fun h0 _ ha hl => fin h0 ha hl fun _ _ => rfl
 | cons s m ih =>
  intro acc fr h0 hw ha hl
  cases hw with
  | @cons _ f t _ g1 g2 g3 g =>
   simp only [a3C]
   split
   ·rename_i hge
    refine fin h0 ha hl fun i hi => ?_
    rw [J2, Y3 g (by omega)]
    have : (decide (f <= i) && decide (i < t)) = false := by simp; omega
    rw [this]; rfl
   ·rename_i hge
    have key : WF (-1) (if fr < f then c8 acc fr f else acc) /\ a52 (if fr < f then c8 acc fr f else acc) <= t /\ ∀ i, has (if fr < f then c8 acc fr f else acc) i = (has acc i || (decide (fr <= i) && decide (i < f))) := by
     split
     ·refine ⟨a1A ha (by omega) (by omega), ?_, fun i => a0S ha hl⟩
      rcases a2s (m := acc) (f := fr) (t := f) with e | e <;> rw [e] <;> omega
     ·refine ⟨ha, by omega, fun i => ?_⟩
      have : (decide (fr <= i) && decide (i < f)) = false := by simp; omega
      rw [this, Bool.or_false]
    obtain ⟨k1, k2, k3⟩ := key
    obtain ⟨j1, j2⟩ := ih (acc := if fr < f then c8 acc fr f else acc) (fr := t) (by omega) (b6z g (by omega)) k1 k2
    refine ⟨j1, fun i => ?_⟩
    rw [j2, k3, J2, Bool.or_assoc]
    congr 1
    by_cases hi : i < t
    ·rw [Y3 g (by omega)]
     rw [Bool.eq_iff_iff]
     simp
     omega
    ·cases hh : has m i
     ·rw [Bool.eq_iff_iff]; simp; omega
     ·rw [Bool.eq_iff_iff]; simp; omega
theorem b64 {m : List Sp} {n0 : Int} (h : WF (-1) m) : WF (-1) (Q3 m n0) /\ ∀ i, has (Q3 m n0) i = (decide (0 <= i) && decide (i < (if (65536 : Int) < n0 then 65536 else n0)) && !has m i) := by
 obtain ⟨h1, h2⟩ := b2h (n := if (65536 : Int) < n0 then 65536 else n0) (by split <;> omega) (m := m) (acc := []) (fr := 0) (Int.le_refl _) h .nil (by decide)
 exact ⟨h1, fun i => (h2 i).trans rfl⟩
set_option maxRecDepth 8000
def b7h (i : Int) : Bool := decide (0 <= i) && decide (i < 65536)
theorem D0 {m : List Sp} (h : WF (-1) m) : m.length <= 32768 := by
 have := b6A h (by decide)
 omega
theorem a5u {m : List Sp} (h : WF (-1) m) : ∀ s ∈ m, 0 <= s.1 /\ s.1 <= 65536 := fun s hs => by
 have := H6 h s hs
 omega
theorem a9O {m : List Sp} (h : WF (-1) m) {i : Int} (hi : has m i = true) : b7h i = true := by
 obtain ⟨s, hs, h1, h2⟩ := a4V.1 hi
 have := H6 h s hs
 unfold b7h
 simp; omega
end Go.Abs
