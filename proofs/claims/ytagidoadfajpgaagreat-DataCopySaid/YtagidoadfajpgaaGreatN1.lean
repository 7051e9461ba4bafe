/-
  PB.
-/
namespace Go.Abs
abbrev Sp := Int × Int
inductive WF : Int -> List Sp -> Prop
 | nil {lo : Int} : WF lo []
 | cons {lo f t : Int} {m : List Sp} (h1 : lo < f) (h2 : f < t) (h3 : t <= 65536) (h : WF t m) : WF lo ((f, t) :: m)
def addSp (m : List Sp) (f t : Int) : List Sp := match m.getLast? with
 | none => if f < t then m ++ [(f, t)] else m
 | some s => if f <= s.2 then m.dropLast ++ [(s.1, if s.2 < t then t else s.2)] else if f < t then m ++ [(f, t)] else m
theorem addSp_nil {f t : Int} : addSp [] f t = if f < t then [(f, t)] else [] := by simp [addSp]
theorem addSp_snoc {m : List Sp} {a b f t : Int} : addSp (m ++ [(a, b)]) f t = if f <= b then m ++ [(a, if b < t then t else b)] else if f < t then m ++ [(a, b)] ++ [(f, t)] else m ++ [(a, b)] := by simp [addSp]
def topS (lo : Int) (m : List Sp) : Int := match m.getLast? with
 | none => lo
 | some s => s.2
theorem wf_append {lo : Int} {m : List Sp} {f t : Int} (h : WF lo m) (h1 : topS lo m < f) (h2 : f < t) (h3 : t <= 65536) : WF lo (m ++ [(f, t)]) := by
 induction h with
 | nil => exact .cons h1 h2 h3 .nil
 | @cons lo a b m g1 g2 g3 g ih =>
  refine .cons g1 g2 g3 (ih ?_)
  cases m with
  | nil => exact h1
  | cons s m =>
   have e : ∀ (lo : Int), topS lo ((a, b) :: s :: m) = topS b (s :: m) := fun lo => by
    unfold topS
    rw [List.getLast?_cons_cons]
    cases h : (s :: m).getLast? with
    | none => simp at h
    | some s => rfl
   rw [<- e]; exact h1
theorem wf_grow {lo : Int} {m : List Sp} {a b b' : Int} (h : WF lo (m ++ [(a, b)])) (h1 : b <= b') (h2 : b' <= 65536) : WF lo (m ++ [(a, b')]) := by
 induction m generalizing lo with
 | nil =>
  cases h with
  | cons g1 g2 g3 g => exact .cons g1 (by omega) h2 .nil
 | cons s m ih =>
  cases h with
  | cons g1 g2 g3 g => exact .cons g1 g2 g3 (ih g)
theorem getLast_split {m : List Sp} {s : Sp} (h : m.getLast? = some s) : m = m.dropLast ++ [s] := by
 have hne : m ≠ [] := fun e => by subst e; simp at h
 have : m.getLast hne = s := by
  rw [List.getLast?_eq_some_getLast hne] at h
  exact Option.some.inj h
 rw [<- this]; exact (List.dropLast_concat_getLast hne).symm
theorem wf_top {lo : Int} {m : List Sp} {s : Sp} (h : WF lo m) (hs : m.getLast? = some s) : lo < s.1 /\ s.1 < s.2 /\ s.2 <= 65536 := by
 induction h with
 | nil => cases hs
 | @cons lo a b m g1 g2 g3 g ih =>
  cases m with
  | nil => cases hs; exact ⟨g1, g2, g3⟩
  | cons s' m =>
   have := ih (by rw [List.getLast?_cons_cons] at hs; exact hs)
   omega
theorem wf_add {lo : Int} {m : List Sp} {f t : Int} (h : WF lo m) (hf : lo < f) (ht : t <= 65536) : WF lo (addSp m f t) := by
 unfold addSp
 cases hm : m.getLast? with
 | none =>
  simp only
  split
  ·exact wf_append h (by unfold topS; rw [hm]; exact hf) ‹_› ht
  ·exact h
 | some s =>
  have hw := wf_top h hm
  simp only
  split
  ·have e := getLast_split hm
   have h' : WF lo (m.dropLast ++ [(s.1, s.2)]) := e ▸ h
   split
   ·exact wf_grow h' (by omega) ht
   ·exact wf_grow h' (by omega) hw.2.2
  ·split
   ·exact wf_append h (by unfold topS; rw [hm]; show s.2 < f; omega) ‹_› ht
   ·exact h
theorem add_len {m : List Sp} {f t : Int} : (addSp m f t).length <= m.length + 1 := by
 unfold addSp
 cases hm : m.getLast? with
 | none => simp only; split <;> simp
 | some s =>
  simp only
  split
  ·have : m.length = m.dropLast.length + 1 := by
    have := congrArg List.length (getLast_split hm)
    simpa using this
   rw [List.length_append]; simp only [List.length_cons, List.length_nil]; omega
  ·split <;> simp
def rank : List Sp -> Int -> Int
 | [], _ => 0
 | (f, t) :: m, i => (if f < i then (if i < t then i else t) - f else 0) + rank m i
def count (m : List Sp) : Int := rank m 65536
def has (m : List Sp) (i : Int) : Bool := m.any fun s => decide (s.1 <= i) && decide (i < s.2)
theorem has_low {lo i : Int} {m : List Sp} (h : WF lo m) (hi : i <= lo) : has m i = false := by
 induction h with
 | nil => rfl
 | @cons lo f t m h1 h2 h3 h ih =>
  have := ih (by omega)
  unfold has at this ⊢
  rw [List.any_cons, this]
  simp; omega
set_option maxRecDepth 8000
def fromOf (x0 y0 : Int) : Int := if x0 < y0 then y0 else x0
def toOf (x1 y1 : Int) : Int := if y1 < x1 then y1 else x1
def andAdd (m : List Sp) (x y : Sp) : List Sp := if fromOf x.1 y.1 < toOf x.2 y.2 then addSp m (fromOf x.1 y.1) (toOf x.2 y.2) else m
def andGo : Nat -> List Sp -> List Sp -> List Sp -> List Sp
 | n + 1, x :: a, y :: b, m => if x.2 < y.2 then andGo n a (y :: b) (andAdd m x y) else andGo n (x :: a) b (andAdd m x y)
 | _, _, _, m => m
def andL (a b : List Sp) : List Sp := andGo (a.length + b.length) a b []
theorem andGo_nil {n : Nat} {b m : List Sp} : andGo n [] b m = m := by cases n <;> rfl
theorem andGo_nil2 {n : Nat} {a m : List Sp} : andGo n a [] m = m := by cases n <;> cases a <;> rfl
theorem andAdd_len {m : List Sp} {x y : Sp} : (andAdd m x y).length <= m.length + 1 := by
 unfold andAdd
 split
 ·exact add_len
 ·omega
theorem drop_at {m : List Sp} {k : Nat} {s : Sp} (h : m[k]? = some s) : m.drop k = s :: m.drop (k + 1) := by
 obtain ⟨hk, e⟩ := List.getElem?_eq_some_iff.1 h
 rw [List.drop_eq_getElem_cons hk, e]
set_option maxRecDepth 8000
def notGo (n : Int) : List Sp -> Int -> List Sp -> List Sp × Int
 | [], fr, acc => (acc, fr)
 | s :: m, fr, acc => if s.1 ≥ n then (acc, fr) else notGo n m s.2 (if fr < s.1 then addSp acc fr s.1 else acc)
def notEnd (n : Int) (r : List Sp × Int) : List Sp := if r.2 < n then addSp r.1 r.2 n else r.1
def notL (m : List Sp) (n0 : Int) : List Sp := notEnd (if (65536 : Int) < n0 then 65536 else n0) (notGo (if (65536 : Int) < n0 then 65536 else n0) m 0 [])
def lstS (m : List Sp) : Int := match m.getLast? with
 | none => -1
 | some s => s.1
theorem has_append {a b : List Sp} {i : Int} : has (a ++ b) i = (has a i || has b i) := by
 unfold has; rw [List.any_append]
theorem has_one {f t i : Int} : has [(f, t)] i = (decide (f <= i) && decide (i < t)) := by
 unfold has; simp
theorem has_cons {f t i : Int} {m : List Sp} : has ((f, t) :: m) i = (decide (f <= i) && decide (i < t) || has m i) := rfl
theorem lst_snoc {m : List Sp} {s : Sp} : lstS (m ++ [s]) = s.1 := by unfold lstS; simp
theorem lst_add {m : List Sp} {f t : Int} : lstS (addSp m f t) = lstS m ∨ lstS (addSp m f t) = f := by
 rcases List.eq_nil_or_concat m with rfl | ⟨m, s, rfl⟩
 ·rw [addSp_nil]; split
  ·exact .inr rfl
  ·exact .inl rfl
 ·obtain ⟨a, b⟩ := s
  rw [List.concat_eq_append, addSp_snoc, lst_snoc]
  split
  ·exact .inl lst_snoc
  ·split
   ·exact .inr lst_snoc
   ·exact .inl lst_snoc
theorem has_add {lo : Int} {m : List Sp} {f t i : Int} (h : WF lo m) (hf : lstS m <= f) : has (addSp m f t) i = (has m i || (decide (f <= i) && decide (i < t))) := by
 rcases List.eq_nil_or_concat m with rfl | ⟨m, s, rfl⟩
 ·rw [addSp_nil]
  split
  ·rw [has_one]; rfl
  ·rename_i hft
   have : (decide (f <= i) && decide (i < t)) = false := by simp; omega
   rw [this]; rfl
 ·obtain ⟨a, b⟩ := s
  rw [List.concat_eq_append] at h hf ⊢
  rw [lst_snoc] at hf
  have hw := wf_top h (s := (a, b)) (by simp)
  simp only at hf hw
  rw [addSp_snoc]
  split
  ·rw [has_append, has_append, has_one, has_one, Bool.or_assoc]
   congr 1
   rw [Bool.eq_iff_iff]
   simp only [Bool.or_eq_true, Bool.and_eq_true, decide_eq_true_eq]
   split <;> omega
  ·split
   ·rw [has_append, has_one]
   ·have : (decide (f <= i) && decide (i < t)) = false := by simp; omega
    rw [this, Bool.or_false]
def addL (l : List Sp) : List Sp := l.foldl (fun m s => addSp m s.1 s.2) []
theorem addL_take {l : List Sp} {k : Nat} {s : Sp} (h : l[k]? = some s) : addL (l.take (k + 1)) = addSp (addL (l.take k)) s.1 s.2 := by
 obtain ⟨hk, e⟩ := List.getElem?_eq_some_iff.1 h
 unfold addL
 rw [List.take_succ_eq_append_getElem hk, List.foldl_append, e]
 rfl
theorem addL_len (l : List Sp) : (addL l).length <= l.length := by
 have : ∀ (l : List Sp) (m : List Sp), (l.foldl (fun m s => addSp m s.1 s.2) m).length <= m.length + l.length := by
  intro l
  induction l with
  | nil => exact fun m => Nat.le_refl _
  | cons s l ih =>
   intro m
   refine Nat.le_trans (ih _) ?_
   have := add_len (m := m) (f := s.1) (t := s.2)
   simp only [List.length_cons]
   omega
 simpa [addL] using this l []
theorem addL_is {l : List Sp} (h : ∀ s ∈ l, -1 < s.1 /\ s.2 <= 65536) (hs : l.Pairwise fun s u => s.1 <= u.1) : WF (-1) (addL l) /\ ∀ i, has (addL l) i = has l i := by
 have : ∀ (l : List Sp) (m : List Sp), WF (-1) m -> (∀ s ∈ l, -1 < s.1 /\ s.2 <= 65536) -> (l.Pairwise fun s u => s.1 <= u.1) -> (∀ s ∈ l, lstS m <= s.1) -> WF (-1) (l.foldl (fun m s => addSp m s.1 s.2) m) /\ ∀ i, has (l.foldl (fun m s => addSp m s.1 s.2) m) i = (has m i || has l i) := by
  intro l
  induction l with
  | nil => exact fun m h _ _ _ => ⟨h, fun i => by show has m i = (has m i || false); rw [Bool.or_false]⟩
  | cons s l ih =>
   intro m hm hl hp hf
   obtain ⟨f, t⟩ := s
   have h0 := hl (f, t) (by simp)
   have h1 := hf (f, t) (by simp)
   obtain ⟨hp1, hp2⟩ := List.pairwise_cons.1 hp
   obtain ⟨g1, g2⟩ := ih (addSp m f t) (wf_add hm h0.1 h0.2) (fun s hs => hl s (by simp [hs])) hp2 (fun s hs => by
    have e1 := hp1 s hs
    rcases lst_add (m := m) (f := f) (t := t) with e | e <;> rw [e]
    ·exact hf s (by simp [hs])
    ·exact e1)
   refine ⟨g1, fun i => ?_⟩
   rw [List.foldl_cons, g2, has_add hm h1, has_cons, Bool.or_assoc]
 obtain ⟨g1, g2⟩ := this l [] .nil h hs (fun s hs => by have := (h s hs).1; show (-1 : Int) <= s.1; omega)
 exact ⟨g1, fun i => by unfold addL; rw [g2]; rfl⟩
theorem has_mem {m : List Sp} {i : Int} : has m i = true ↔ ∃ s ∈ m, s.1 <= i /\ i < s.2 := by
 unfold has; simp
theorem has_perm {a b : List Sp} (h : a.Perm b) (i : Int) : has a i = has b i := by
 rw [Bool.eq_iff_iff, has_mem, has_mem]
 exact ⟨fun ⟨s, h1, h2⟩ => ⟨s, h.mem_iff.1 h1, h2⟩, fun ⟨s, h1, h2⟩ => ⟨s, h.mem_iff.2 h1, h2⟩⟩
theorem wf_mem {lo : Int} {m : List Sp} (h : WF lo m) : ∀ s ∈ m, lo < s.1 /\ s.1 < s.2 /\ s.2 <= 65536 := by
 induction h with
 | nil => intro s hs; simp at hs
 | cons h1 h2 h3 h ih =>
  intro s hs
  rcases List.mem_cons.1 hs with rfl | hs
  ·exact ⟨h1, h2, h3⟩
  ·have := ih s hs; omega
theorem wf_low {lo lo' : Int} {m : List Sp} (h : WF lo m) (hl : lo' <= lo) : WF lo' m := by
 cases h with
 | nil => exact .nil
 | cons h1 h2 h3 h => exact .cons (by omega) h2 h3 h
theorem wf_len {lo : Int} {m : List Sp} (h : WF lo m) (hlo : lo <= 65536) : (2 * m.length : Int) <= 65536 - lo := by
 induction h with
 | nil => simp; omega
 | cons h1 h2 h3 h ih =>
  have := ih h3
  simp only [List.length_cons]
  omega
theorem andAdd_is {m : List Sp} {x y : Sp} (h : WF (-1) m) (hx : -1 < x.1) (hy : y.2 <= 65536) (hl : lstS m <= fromOf x.1 y.1) : WF (-1) (andAdd m x y) /\ lstS (andAdd m x y) <= fromOf x.1 y.1 /\ ∀ i, has (andAdd m x y) i = (has m i || ((decide (x.1 <= i) && decide (i < x.2)) && (decide (y.1 <= i) && decide (i < y.2)))) := by
 have e : ∀ i, (decide (fromOf x.1 y.1 <= i) && decide (i < toOf x.2 y.2)) = ((decide (x.1 <= i) && decide (i < x.2)) && (decide (y.1 <= i) && decide (i < y.2))) := fun i => by
  rw [Bool.eq_iff_iff]
  simp only [Bool.and_eq_true, decide_eq_true_eq, fromOf, toOf]
  split <;> split <;> simp only [decide_eq_true_eq] <;> omega
 have hf : -1 < fromOf x.1 y.1 := by unfold fromOf; split <;> omega
 have ht : toOf x.2 y.2 <= 65536 := by unfold toOf; split <;> omega
 unfold andAdd
 split
 ·refine ⟨wf_add h hf ht, ?_, fun i => ?_⟩
  ·rcases lst_add (m := m) (f := fromOf x.1 y.1) (t := toOf x.2 y.2) with e | e <;> rw [e]
   ·exact hl
   ·exact Int.le_refl _
  ·rw [has_add h hl, e]
 ·refine ⟨h, hl, fun i => ?_⟩
  rw [<- e]
  have : (decide (fromOf x.1 y.1 <= i) && decide (i < toOf x.2 y.2)) = false := by simp; omega
  rw [this, Bool.or_false]
theorem andGo_is : ∀ {n : Nat} {a b m : List Sp} {la lb : Int}, a.length + b.length <= n -> WF la a -> WF lb b -> -1 <= la -> -1 <= lb -> WF (-1) m -> (∀ x y, a.head? = some x -> b.head? = some y -> lstS m <= fromOf x.1 y.1) -> WF (-1) (andGo n a b m) /\ ∀ i, has (andGo n a b m) i = (has m i || (has a i && has b i)) := by
 intro n
 induction n with
 | zero =>
  intro a b m la lb hn ha hb _ _ hm _
  obtain rfl : a = [] := List.eq_nil_of_length_eq_zero (by omega)
  exact ⟨hm, fun i => by show has m i = (has m i || (false && has b i)); simp⟩
 | succ n ih =>
  intro a b m la lb hn ha hb hla hlb hm hl
  cases ha with
  | nil => exact ⟨by rw [andGo_nil]; exact hm, fun i => by rw [andGo_nil]; show has m i = (has m i || (false && has b i)); simp⟩
  | @cons _ x0 x1 a g1 g2 g3 g =>
   cases hb with
   | nil => exact ⟨by rw [andGo_nil2]; exact hm, fun i => by rw [andGo_nil2]; show has m i = (has m i || (has _ i && false)); simp⟩
   | @cons _ y0 y1 b h1 h2 h3 h =>
    obtain ⟨k1, k2, k3⟩ := andAdd_is (x := (x0, x1)) (y := (y0, y1)) hm (by show -1 < x0; omega) h3 (hl _ _ rfl rfl)
    simp only [andGo]
    simp only [List.length_cons] at hn
    split
    ·rename_i hxy
     obtain ⟨j1, j2⟩ := ih (a := a) (b := (y0, y1) :: b) (m := andAdd m (x0, x1) (y0, y1)) (by simp only [List.length_cons]; omega) g (.cons h1 h2 h3 h) (by omega) hlb k1 (fun x y hx hy => by
      cases hy
      have := (wf_mem g x (List.mem_of_head? hx)).1
      refine Int.le_trans k2 ?_
      simp only [fromOf]
      split <;> split <;> omega)
     refine ⟨j1, fun i => ?_⟩
     rw [j2, k3, has_cons, has_cons, Bool.or_assoc]
     congr 1
     by_cases hi : i < x1
     ·rw [has_low g (by omega), has_low h (by omega)]; simp
     ·simp [show ¬ i < x1 from hi]
    ·rename_i hxy
     obtain ⟨j1, j2⟩ := ih (a := (x0, x1) :: a) (b := b) (m := andAdd m (x0, x1) (y0, y1)) (by simp only [List.length_cons]; omega) (.cons g1 g2 g3 g) h hla (by omega) k1 (fun x y hx hy => by
      cases hx
      have := (wf_mem h y (List.mem_of_head? hy)).1
      refine Int.le_trans k2 ?_
      simp only [fromOf]
      split <;> split <;> omega)
     refine ⟨j1, fun i => ?_⟩
     rw [j2, k3, has_cons, has_cons, Bool.or_assoc]
     congr 1
     by_cases hi : i < y1
     ·rw [has_low h (by omega)]
      by_cases hix : i < x1
      ·rw [has_low g (by omega)]; simp
      ·omega
     ·simp [show ¬ i < y1 from hi]
theorem and_is {a b : List Sp} (ha : WF (-1) a) (hb : WF (-1) b) : WF (-1) (andL a b) /\ ∀ i, has (andL a b) i = (has a i && has b i) := by
 obtain ⟨h1, h2⟩ := andGo_is (n := a.length + b.length) (m := []) (Nat.le_refl _) ha hb (Int.le_refl _) (Int.le_refl _) .nil (fun x y hx hy => by
  have e1 := (wf_mem ha x (List.mem_of_head? hx)).1
  have e2 := (wf_mem hb y (List.mem_of_head? hy)).1
  show (-1 : Int) <= _
  unfold fromOf; split <;> omega)
 exact ⟨h1, fun i => by rw [show andL a b = andGo (a.length + b.length) a b [] from rfl, h2]; rfl⟩
theorem notGo_is {n : Int} (hn : n <= 65536) : ∀ {m acc : List Sp} {fr : Int}, 0 <= fr -> WF (fr - 1) m -> WF (-1) acc -> lstS acc <= fr -> WF (-1) (notEnd n (notGo n m fr acc)) /\ ∀ i, has (notEnd n (notGo n m fr acc)) i = (has acc i || (decide (fr <= i) && decide (i < n) && !has m i)) := by
 have fin : ∀ {m acc : List Sp} {fr : Int}, 0 <= fr -> WF (-1) acc -> lstS acc <= fr -> (∀ i, i < n -> has m i = false) -> WF (-1) (notEnd n (acc, fr)) /\ ∀ i, has (notEnd n (acc, fr)) i = (has acc i || (decide (fr <= i) && decide (i < n) && !has m i)) := fun {m acc fr} h0 ha hl hm => by
  unfold notEnd
  simp only
  have hb : ∀ i, (decide (fr <= i) && decide (i < n) && !has m i) = (decide (fr <= i) && decide (i < n)) := fun i => by
   by_cases hi : i < n
   ·rw [hm i hi]; simp
   ·simp [show ¬ i < n from hi]
  split
  ·exact ⟨wf_add ha (by omega) hn, fun i => by rw [has_add ha hl, hb]⟩
  ·refine ⟨ha, fun i => ?_⟩
   rw [hb]
   have : (decide (fr <= i) && decide (i < n)) = false := by simp; omega
   rw [this, Bool.or_false]
 intro m
 induction m with
 | nil => exact fun h0 _ ha hl => fin h0 ha hl fun _ _ => rfl
 | cons s m ih =>
  intro acc fr h0 hw ha hl
  cases hw with
  | @cons _ f t _ g1 g2 g3 g =>
   simp only [notGo]
   split
   ·rename_i hge
    refine fin h0 ha hl fun i hi => ?_
    rw [has_cons, has_low g (by omega)]
    have : (decide (f <= i) && decide (i < t)) = false := by simp; omega
    rw [this]; rfl
   ·rename_i hge
    have key : WF (-1) (if fr < f then addSp acc fr f else acc) /\ lstS (if fr < f then addSp acc fr f else acc) <= t /\ ∀ i, has (if fr < f then addSp acc fr f else acc) i = (has acc i || (decide (fr <= i) && decide (i < f))) := by
     split
     ·refine ⟨wf_add ha (by omega) (by omega), ?_, fun i => has_add ha hl⟩
      rcases lst_add (m := acc) (f := fr) (t := f) with e | e <;> rw [e] <;> omega
     ·refine ⟨ha, by omega, fun i => ?_⟩
      have : (decide (fr <= i) && decide (i < f)) = false := by simp; omega
      rw [this, Bool.or_false]
    obtain ⟨k1, k2, k3⟩ := key
    obtain ⟨j1, j2⟩ := ih (acc := if fr < f then addSp acc fr f else acc) (fr := t) (by omega) (wf_low g (by omega)) k1 k2
    refine ⟨j1, fun i => ?_⟩
    rw [j2, k3, has_cons, Bool.or_assoc]
    congr 1
    by_cases hi : i < t
    ·rw [has_low g (by omega)]
     rw [Bool.eq_iff_iff]
     simp
     omega
    ·cases hh : has m i
     ·rw [Bool.eq_iff_iff]; simp; omega
     ·rw [Bool.eq_iff_iff]; simp; omega
theorem not_is {m : List Sp} {n0 : Int} (h : WF (-1) m) : WF (-1) (notL m n0) /\ ∀ i, has (notL m n0) i = (decide (0 <= i) && decide (i < (if (65536 : Int) < n0 then 65536 else n0)) && !has m i) := by
 obtain ⟨h1, h2⟩ := notGo_is (n := if (65536 : Int) < n0 then 65536 else n0) (by split <;> omega) (m := m) (acc := []) (fr := 0) (Int.le_refl _) h .nil (by decide)
 exact ⟨h1, fun i => (h2 i).trans rfl⟩
set_option maxRecDepth 8000
def inRg (i : Int) : Bool := decide (0 <= i) && decide (i < 65536)
theorem wf_short {m : List Sp} (h : WF (-1) m) : m.length <= 32768 := by
 have := wf_len h (by decide)
 omega
theorem wf_begin {m : List Sp} (h : WF (-1) m) : ∀ s ∈ m, 0 <= s.1 /\ s.1 <= 65536 := fun s hs => by
 have := wf_mem h s hs
 omega
theorem has_range {m : List Sp} (h : WF (-1) m) {i : Int} (hi : has m i = true) : inRg i = true := by
 obtain ⟨s, hs, h1, h2⟩ := has_mem.1 hi
 have := wf_mem h s hs
 unfold inRg
 simp; omega
end Go.Abs
