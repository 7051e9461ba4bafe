/-
  The plain law of sets: who is in a set that was added to, in both, below a number and not in; two sets that have the same are the same; how many. No condition.
-/
import Derived.Test.YtfkdkfleaiaoiaaM4
import Derived.Test.YtfkdkfleaiaoiaaM3
import Derived.Test.YtfkdkfleaiaoiaaM5
namespace Go.Proofs.Ytfkdkfleaiaoiaa
/-- Where the last span begins. -/
def lst (m : List Sp) : Int := match m.getLast? with
  | none => -1
  | some s => s.1
theorem has_append {a b : List Sp} {i : Int} : has (a ++ b) i = (has a i || has b i) := by
  unfold has; rw [List.any_append]
theorem has_one {f t i : Int} : has [(f, t)] i = (decide (f ≤ i) && decide (i < t)) := by
  unfold has; simp
theorem has_cons {f t i : Int} {m : List Sp} : has ((f, t) :: m) i = (decide (f ≤ i) && decide (i < t) || has m i) := rfl
theorem lst_snoc {m : List Sp} {s : Sp} : lst (m ++ [s]) = s.1 := by unfold lst; simp
theorem lst_add {m : List Sp} {f t : Int} : lst (addSp m f t) = lst m ∨ lst (addSp m f t) = f := by
  rcases List.eq_nil_or_concat m with rfl | ⟨m, s, rfl⟩
  · rw [addSp_nil]; split
    · exact .inr rfl
    · exact .inl rfl
  · obtain ⟨a, b⟩ := s
    rw [List.concat_eq_append, addSp_snoc, lst_snoc]
    split
    · exact .inl lst_snoc
    · split
      · exact .inr lst_snoc
      · exact .inl lst_snoc
theorem has_add {lo : Int} {m : List Sp} {f t i : Int} (h : WF lo m) (hf : lst m ≤ f) : has (addSp m f t) i = (has m i || (decide (f ≤ i) && decide (i < t))) := by
  rcases List.eq_nil_or_concat m with rfl | ⟨m, s, rfl⟩
  · rw [addSp_nil]
    split
    · rw [has_one]; rfl
    · rename_i hft
      have : (decide (f ≤ i) && decide (i < t)) = false := by simp; omega
      rw [this]; rfl
  · obtain ⟨a, b⟩ := s
    rw [List.concat_eq_append] at h hf ⊢
    rw [lst_snoc] at hf
    have hw := wf_top h (s := (a, b)) (by simp)
    simp only at hf hw
    rw [addSp_snoc]
    split
    · rw [has_append, has_append, has_one, has_one, Bool.or_assoc]
      congr 1
      rw [Bool.eq_iff_iff]
      simp only [Bool.or_eq_true, Bool.and_eq_true, decide_eq_true_eq]
      split <;> omega
    · split
      · rw [has_append, has_one]
      · have : (decide (f ≤ i) && decide (i < t)) = false := by simp; omega
        rw [this, Bool.or_false]
/-- Spans laid together. -/
def addL (l : List Sp) : List Sp := l.foldl (fun m s => addSp m s.1 s.2) []
theorem addL_take {l : List Sp} {k : Nat} {s : Sp} (h : l[k]? = some s) : addL (l.take (k + 1)) = addSp (addL (l.take k)) s.1 s.2 := by
  obtain ⟨hk, e⟩ := List.getElem?_eq_some_iff.1 h
  unfold addL
  rw [List.take_succ_eq_append_getElem hk, List.foldl_append, e]
  rfl
theorem addL_len (l : List Sp) : (addL l).length ≤ l.length := by
  have : ∀ (l : List Sp) (m : List Sp), (l.foldl (fun m s => addSp m s.1 s.2) m).length ≤ m.length + l.length := by
    intro l
    induction l with
    | nil => exact fun m => Nat.le_refl _
    | cons s l ih =>
      intro m
      refine Nat.le_trans (ih _) ?_
      have := add_len (m := m) (f := s.1) (t := s.2)
      simp only [List.length_cons]
      omega
  simpa [addL] using this l []
theorem addL_is {l : List Sp} (h : ∀ s ∈ l, -1 < s.1 ∧ s.2 ≤ 65536) (hs : l.Pairwise fun s u => s.1 ≤ u.1) : WF (-1) (addL l) ∧ ∀ i, has (addL l) i = has l i := by
  have : ∀ (l : List Sp) (m : List Sp), WF (-1) m → (∀ s ∈ l, -1 < s.1 ∧ s.2 ≤ 65536) → (l.Pairwise fun s u => s.1 ≤ u.1) → (∀ s ∈ l, lst m ≤ s.1) → WF (-1) (l.foldl (fun m s => addSp m s.1 s.2) m) ∧ ∀ i, has (l.foldl (fun m s => addSp m s.1 s.2) m) i = (has m i || has l i) := by
    intro l
    induction l with
    | nil => exact fun m h _ _ _ => ⟨h, fun i => by show has m i = (has m i || false); rw [Bool.or_false]⟩
    | cons s l ih =>
      intro m hm hl hp hf
      obtain ⟨f, t⟩ := s
      have h0 := hl (f, t) (by simp)
      have h1 := hf (f, t) (by simp)
      obtain ⟨hp1, hp2⟩ := List.pairwise_cons.1 hp
      obtain ⟨g1, g2⟩ := ih (addSp m f t) (wf_add hm h0.1 h0.2) (fun s hs => hl s (by simp [hs])) hp2 (fun s hs => by
        have e1 := hp1 s hs
        rcases lst_add (m := m) (f := f) (t := t) with e | e <;> rw [e]
        · exact hf s (by simp [hs])
        · exact e1)
      refine ⟨g1, fun i => ?_⟩
      rw [List.foldl_cons, g2, has_add hm h1, has_cons, Bool.or_assoc]
  obtain ⟨g1, g2⟩ := this l [] .nil h hs (fun s hs => by have := (h s hs).1; show (-1 : Int) ≤ s.1; omega)
  exact ⟨g1, fun i => by unfold addL; rw [g2]; rfl⟩
theorem has_mem {m : List Sp} {i : Int} : has m i = true ↔ ∃ s ∈ m, s.1 ≤ i ∧ i < s.2 := by
  unfold has; simp
theorem has_perm {a b : List Sp} (h : a.Perm b) (i : Int) : has a i = has b i := by
  rw [Bool.eq_iff_iff, has_mem, has_mem]
  exact ⟨fun ⟨s, h1, h2⟩ => ⟨s, h.mem_iff.1 h1, h2⟩, fun ⟨s, h1, h2⟩ => ⟨s, h.mem_iff.2 h1, h2⟩⟩
theorem wf_mem {lo : Int} {m : List Sp} (h : WF lo m) : ∀ s ∈ m, lo < s.1 ∧ s.1 < s.2 ∧ s.2 ≤ 65536 := by
  induction h with
  | nil => intro s hs; simp at hs
  | cons h1 h2 h3 h ih =>
    intro s hs
    rcases List.mem_cons.1 hs with rfl | hs
    · exact ⟨h1, h2, h3⟩
    · have := ih s hs; omega
theorem wf_low {lo lo' : Int} {m : List Sp} (h : WF lo m) (hl : lo' ≤ lo) : WF lo' m := by
  cases h with
  | nil => exact .nil
  | cons h1 h2 h3 h => exact .cons (by omega) h2 h3 h
theorem wf_len {lo : Int} {m : List Sp} (h : WF lo m) (hlo : lo ≤ 65536) : (2 * m.length : Int) ≤ 65536 - lo := by
  induction h with
  | nil => simp; omega
  | cons h1 h2 h3 h ih =>
    have := ih h3
    simp only [List.length_cons]
    omega
/-- Two that have the same are the same. -/
theorem wf_same {lo lo' : Int} {m m' : List Sp} (h : WF lo m) (h' : WF lo' m') (e : ∀ i, has m i = has m' i) : m = m' := by
  induction h generalizing lo' m' with
  | nil =>
    cases h' with
    | nil => rfl
    | @cons _ f t m' h1 h2 h3 h =>
      have := e f
      rw [has_cons] at this
      simp [has, h2] at this
  | @cons lo f t m g1 g2 g3 g ih =>
    cases h' with
    | nil =>
      have := e f
      rw [has_cons] at this
      simp [has, g2] at this
    | @cons _ f' t' m' h1 h2 h3 h =>
      have ef : f = f' := by
        have k1 := e f
        have k2 := e f'
        rw [has_cons, has_cons] at k1 k2
        rcases Int.lt_trichotomy f f' with hlt | rfl | hlt
        · rw [has_low h (by omega : f ≤ t')] at k1
          simp [g2] at k1; omega
        · rfl
        · rw [has_low g (by omega : f' ≤ t)] at k2
          simp [h2] at k2; omega
      subst ef
      have et : t = t' := by
        have k1 := e t
        have k2 := e t'
        rw [has_cons, has_cons] at k1 k2
        rcases Int.lt_trichotomy t t' with hlt | rfl | hlt
        · rw [has_low g (Int.le_refl t)] at k1
          simp [hlt] at k1; omega
        · rfl
        · rw [has_low h (Int.le_refl t')] at k2
          simp [hlt] at k2; omega
      subst et
      rw [ih h fun i => ?_]
      by_cases hi : i ≤ t
      · rw [has_low g hi, has_low h hi]
      · have := e i
        rw [has_cons, has_cons] at this
        have e0 : (decide (f ≤ i) && decide (i < t)) = false := by simp; omega
        rw [e0] at this
        exact this
theorem andAdd_is {m : List Sp} {x y : Sp} (h : WF (-1) m) (hx : -1 < x.1) (hy : y.2 ≤ 65536) (hl : lst m ≤ fromOf x.1 y.1) : WF (-1) (andAdd m x y) ∧ lst (andAdd m x y) ≤ fromOf x.1 y.1 ∧ ∀ i, has (andAdd m x y) i = (has m i || ((decide (x.1 ≤ i) && decide (i < x.2)) && (decide (y.1 ≤ i) && decide (i < y.2)))) := by
  have e : ∀ i, (decide (fromOf x.1 y.1 ≤ i) && decide (i < toOf x.2 y.2)) = ((decide (x.1 ≤ i) && decide (i < x.2)) && (decide (y.1 ≤ i) && decide (i < y.2))) := fun i => by
    rw [Bool.eq_iff_iff]
    simp only [Bool.and_eq_true, decide_eq_true_eq, fromOf, toOf]
    split <;> split <;> simp only [decide_eq_true_eq] <;> omega
  have hf : -1 < fromOf x.1 y.1 := by unfold fromOf; split <;> omega
  have ht : toOf x.2 y.2 ≤ 65536 := by unfold toOf; split <;> omega
  unfold andAdd
  split
  · refine ⟨wf_add h hf ht, ?_, fun i => ?_⟩
    · rcases lst_add (m := m) (f := fromOf x.1 y.1) (t := toOf x.2 y.2) with e | e <;> rw [e]
      · exact hl
      · exact Int.le_refl _
    · rw [has_add h hl, e]
  · refine ⟨h, hl, fun i => ?_⟩
    rw [← e]
    have : (decide (fromOf x.1 y.1 ≤ i) && decide (i < toOf x.2 y.2)) = false := by simp; omega
    rw [this, Bool.or_false]
theorem andGo_is : ∀ {n : Nat} {a b m : List Sp} {la lb : Int}, a.length + b.length ≤ n → WF la a → WF lb b → -1 ≤ la → -1 ≤ lb → WF (-1) m → (∀ x y, a.head? = some x → b.head? = some y → lst m ≤ fromOf x.1 y.1) → WF (-1) (andGo n a b m) ∧ ∀ i, has (andGo n a b m) i = (has m i || (has a i && has b i)) := by
  intro n
  induction n with
  | zero =>
    intro a b m la lb hn ha hb _ _ hm _
    obtain rfl : a = [] := List.eq_nil_of_length_eq_zero (by omega)
    exact ⟨hm, fun i => by show has m i = (has m i || (false && has b i)); simp⟩
  | succ n ih =>
    intro a b m la lb hn ha hb hla hlb hm hl
    cases ha with
    | nil => exact ⟨by rw [andGo_nil]; exact hm, fun i => by rw [andGo_nil]; show has m i = (has m i || (false && has b i)); simp⟩
    | @cons _ x0 x1 a g1 g2 g3 g =>
      cases hb with
      | nil => exact ⟨by rw [andGo_nil2]; exact hm, fun i => by rw [andGo_nil2]; show has m i = (has m i || (has _ i && false)); simp⟩
      | @cons _ y0 y1 b h1 h2 h3 h =>
        obtain ⟨k1, k2, k3⟩ := andAdd_is (x := (x0, x1)) (y := (y0, y1)) hm (by show -1 < x0; omega) h3 (hl _ _ rfl rfl)
        simp only [andGo]
        simp only [List.length_cons] at hn
        split
        · rename_i hxy
          obtain ⟨j1, j2⟩ := ih (a := a) (b := (y0, y1) :: b) (m := andAdd m (x0, x1) (y0, y1)) (by simp only [List.length_cons]; omega) g (.cons h1 h2 h3 h) (by omega) hlb k1 (fun x y hx hy => by
            cases hy
            have := (wf_mem g x (List.mem_of_head? hx)).1
            refine Int.le_trans k2 ?_
            simp only [fromOf]
            split <;> split <;> omega)
          refine ⟨j1, fun i => ?_⟩
          rw [j2, k3, has_cons, has_cons, Bool.or_assoc]
          congr 1
          by_cases hi : i < x1
          · rw [has_low g (by omega), has_low h (by omega)]; simp
          · simp [show ¬ i < x1 from hi]
        · rename_i hxy
          obtain ⟨j1, j2⟩ := ih (a := (x0, x1) :: a) (b := b) (m := andAdd m (x0, x1) (y0, y1)) (by simp only [List.length_cons]; omega) (.cons g1 g2 g3 g) h hla (by omega) k1 (fun x y hx hy => by
            cases hx
            have := (wf_mem h y (List.mem_of_head? hy)).1
            refine Int.le_trans k2 ?_
            simp only [fromOf]
            split <;> split <;> omega)
          refine ⟨j1, fun i => ?_⟩
          rw [j2, k3, has_cons, has_cons, Bool.or_assoc]
          congr 1
          by_cases hi : i < y1
          · rw [has_low h (by omega)]
            by_cases hix : i < x1
            · rw [has_low g (by omega)]; simp
            · omega
          · simp [show ¬ i < y1 from hi]
theorem and_is {a b : List Sp} (ha : WF (-1) a) (hb : WF (-1) b) : WF (-1) (andL a b) ∧ ∀ i, has (andL a b) i = (has a i && has b i) := by
  obtain ⟨h1, h2⟩ := andGo_is (n := a.length + b.length) (m := []) (Nat.le_refl _) ha hb (Int.le_refl _) (Int.le_refl _) .nil (fun x y hx hy => by
    have e1 := (wf_mem ha x (List.mem_of_head? hx)).1
    have e2 := (wf_mem hb y (List.mem_of_head? hy)).1
    show (-1 : Int) ≤ _
    unfold fromOf; split <;> omega)
  exact ⟨h1, fun i => by rw [show andL a b = andGo (a.length + b.length) a b [] from rfl, h2]; rfl⟩
theorem notGo_is {n : Int} (hn : n ≤ 65536) : ∀ {m acc : List Sp} {fr : Int}, 0 ≤ fr → WF (fr - 1) m → WF (-1) acc → lst acc ≤ fr → WF (-1) (notEnd n (notGo n m fr acc)) ∧ ∀ i, has (notEnd n (notGo n m fr acc)) i = (has acc i || (decide (fr ≤ i) && decide (i < n) && !has m i)) := by
  have fin : ∀ {m acc : List Sp} {fr : Int}, 0 ≤ fr → WF (-1) acc → lst acc ≤ fr → (∀ i, i < n → has m i = false) → WF (-1) (notEnd n (acc, fr)) ∧ ∀ i, has (notEnd n (acc, fr)) i = (has acc i || (decide (fr ≤ i) && decide (i < n) && !has m i)) := fun {m acc fr} h0 ha hl hm => by
    unfold notEnd
    simp only
    have hb : ∀ i, (decide (fr ≤ i) && decide (i < n) && !has m i) = (decide (fr ≤ i) && decide (i < n)) := fun i => by
      by_cases hi : i < n
      · rw [hm i hi]; simp
      · simp [show ¬ i < n from hi]
    split
    · exact ⟨wf_add ha (by omega) hn, fun i => by rw [has_add ha hl, hb]⟩
    · refine ⟨ha, fun i => ?_⟩
      rw [hb]
      have : (decide (fr ≤ i) && decide (i < n)) = false := by simp; omega
      rw [this, Bool.or_false]
  intro m
  induction m with
  | nil => exact fun h0 _ ha hl => fin h0 ha hl fun _ _ => rfl
  | cons s m ih =>
    intro acc fr h0 hw ha hl
    cases hw with
    | @cons _ f t _ g1 g2 g3 g =>
      simp only [notGo]
      split
      · rename_i hge
        refine fin h0 ha hl fun i hi => ?_
        rw [has_cons, has_low g (by omega)]
        have : (decide (f ≤ i) && decide (i < t)) = false := by simp; omega
        rw [this]; rfl
      · rename_i hge
        have key : WF (-1) (if fr < f then addSp acc fr f else acc) ∧ lst (if fr < f then addSp acc fr f else acc) ≤ t ∧ ∀ i, has (if fr < f then addSp acc fr f else acc) i = (has acc i || (decide (fr ≤ i) && decide (i < f))) := by
          split
          · refine ⟨wf_add ha (by omega) (by omega), ?_, fun i => has_add ha hl⟩
            rcases lst_add (m := acc) (f := fr) (t := f) with e | e <;> rw [e] <;> omega
          · refine ⟨ha, by omega, fun i => ?_⟩
            have : (decide (fr ≤ i) && decide (i < f)) = false := by simp; omega
            rw [this, Bool.or_false]
        obtain ⟨k1, k2, k3⟩ := key
        obtain ⟨j1, j2⟩ := ih (acc := if fr < f then addSp acc fr f else acc) (fr := t) (by omega) (wf_low g (by omega)) k1 k2
        refine ⟨j1, fun i => ?_⟩
        rw [j2, k3, has_cons, Bool.or_assoc]
        congr 1
        by_cases hi : i < t
        · rw [has_low g (by omega)]
          rw [Bool.eq_iff_iff]
          simp
          omega
        · cases hh : has m i
          · rw [Bool.eq_iff_iff]; simp; omega
          · rw [Bool.eq_iff_iff]; simp; omega
theorem not_is {m : List Sp} {n0 : Int} (h : WF (-1) m) : WF (-1) (notL m n0) ∧ ∀ i, has (notL m n0) i = (decide (0 ≤ i) && decide (i < (if (65536 : Int) < n0 then 65536 else n0)) && !has m i) := by
  obtain ⟨h1, h2⟩ := notGo_is (n := if (65536 : Int) < n0 then 65536 else n0) (by split <;> omega) (m := m) (acc := []) (fr := 0) (Int.le_refl _) h .nil (by decide)
  exact ⟨h1, fun i => (h2 i).trans rfl⟩
/-- How many of both and of one of both. -/
theorem rank_both {a b o n : List Sp} (ha : WF (-1) a) (hb : WF (-1) b) (ho : WF (-1) o) (hn : WF (-1) n) (h1 : ∀ i, has o i = (has a i || has b i)) (h2 : ∀ i, has n i = (has a i && has b i)) : ∀ k : Nat, rank o k + rank n k = rank a k + rank b k := by
  intro k
  induction k with
  | zero => rw [rank_low ha (by decide), rank_low hb (by decide), rank_low ho (by decide), rank_low hn (by decide)]
  | succ k ih =>
    have e1 := rank_next (i := (k : Int)) ha
    have e2 := rank_next (i := (k : Int)) hb
    have e3 := rank_next (i := (k : Int)) ho
    have e4 := rank_next (i := (k : Int)) hn
    rw [h1] at e3
    rw [h2] at e4
    rw [show ((k + 1 : Nat) : Int) = (k : Int) + 1 from rfl]
    revert e1 e2 e3 e4
    cases has a k <;> cases has b k <;> simp <;> omega
theorem count_both {a b o n : List Sp} (ha : WF (-1) a) (hb : WF (-1) b) (ho : WF (-1) o) (hn : WF (-1) n) (h1 : ∀ i, has o i = (has a i || has b i)) (h2 : ∀ i, has n i = (has a i && has b i)) : count o + count n = count a + count b := rank_both ha hb ho hn h1 h2 65536
end Go.Proofs.Ytfkdkfleaiaoiaa
/-
  bitmap.Or. No condition.
-/
namespace Go.Proofs.Ytfkdkfleaiaoiaa
open Go.Abs
variable {n₀ : Nat}
set_option maxRecDepth 8000
theorem aop_slice2 {P : Program} {A : World} {ρ : Operand → Value} {o : Oper} {t e : TypeId} {x y : Operand} {v v' a : Value} {i : TypeInfo} {z : Value} (h : o.op = .buildSlice t 2 #[(0, x), (1, y)]) (hx : ρ x = v) (hy : ρ y = v') (hv : isOne v = true) (hv' : isOne v' = true) (hu : P.underlying t = some (.slice e)) {g : Bool} (h1 : tyOf P e 1 g = true) (hi : P.info? e = some i) (hz : i.zero = some z) (hc : z.cells = #[a]) :
    AOp P ρ o A (.value (.slice (some ⟨A.heap.size, 0, none⟩) 2 2)) (A.alloc (.cells #[v, v'] e (0, 0))) := by
  refine .inr (.inl ⟨by rw [h]; trivial, ?_⟩)
  unfold execOp; rw [h]
  have hf : Instr.fill (fun i => some (i * 1, 1)) ((Array.range (2 * 1)).map (#[a][· % #[a].size]!)) [(0, v), (1, v')] = some #[v, v'] := by
    have hr : Array.range 2 = #[0, 1] := rfl
    simp [Instr.fill, isOne_cells hv, isOne_cells hv', hr]
  have e1 : (#[((0 : Nat), x), (1, y)].map fun (p : Nat × Operand) => (p.1, ρ p.2)).toList = [(0, v), (1, v')] := by simp [hx, hy]
  simp only [Instr.buildSlice, Sem.run_bind, Sem.run_pure, Result.andThen, run_under hu, run_szT h1]
  rw [if_neg (by decide : ¬ 2 * 1 > 2 ^ 24), if_neg (by decide : ¬ 2 * 1 = 0)]
  simp only [Sem.run_bind, Sem.run_pure, Result.andThen, run_zeroT hi hz, hc, e1, hf, newRow]
  rfl
/-- What is known of the sort of no spans. -/
def know38 : Know := fun f xs => match f, xs with
  | 38, [.slice none 0 0, .func (.func 39) ⟨[]⟩ ⟨[]⟩] => some undef
  | _, _ => none
theorem sortf_tells : tells Try.prog know0 1000 38 [.slice none 0 0, fn39] undef = true := by decide +kernel
theorem known38 : Known Try.prog know38 := fun f xs v h => by
  unfold know38 at h
  split at h
  · cases h
    exact ⟨fun x hx => (by simp at hx; rcases hx with rfl | rfl <;> rfl), rfl, fun W => tells_ok good known0 sortf_tells W⟩
  · cases h
theorem sortf_nil {A : World} : SndCall Try.prog n₀ 38 #[.slice none 0 0, fn39] A undef A := snd_known known38 rfl
/-- slices.SortFunc, of spans. -/
theorem sortf_call {v : Value} {m : List Sp} {J : Asn} {F : Foot} {A : World} (hJ : Owns J) (h : ((spans v m).sep J) F A) (hm : ∀ s ∈ m, 0 ≤ s.1 ∧ s.1 ≤ 65536) (hl : m.length < 90000) :
    ∃ m' A', m'.Perm m ∧ m'.Pairwise (fun s u => s.1 ≤ u.1) ∧ SndCall Try.prog n₀ 38 #[v, fn39] A undef A' ∧ ((spans v m').sep J) F A' ∧ Step F A F A' := by
  obtain ⟨F1, F2, h1, h2, h3, h4⟩ := h
  rcases h1 with ⟨e, rfl, h1⟩ | ⟨hne, d, rfl, h1⟩
  · obtain rfl : m = [] := List.eq_nil_of_length_eq_zero e
    exact ⟨[], A, .refl _, .nil, sortf_nil, ⟨F1, F2, .inl ⟨rfl, rfl, h1⟩, h2, h3, h4⟩, .refl⟩
  · obtain ⟨m', hp, hs, H⟩ := sortf_snd hm hl
    have hlen := hp.length_eq
    obtain ⟨h5, S5⟩ := Asn.turned (c' := cells2 m') hJ ⟨F1, F2, h1, h2, h3, h4⟩ (.inr rfl)
    exact ⟨m', _, hp, hs, H h1.2 (by omega), Asn.map h5 fun F hb => .inr ⟨by omega, d, by rw [hlen], hb⟩, S5⟩
set_option maxHeartbeats 16000000 in
/-- bitmap.Or. -/
theorem or_call {va vb : Value} {a b : List Sp} {J : Asn} {F : Foot} {A : World} (hJ : Owns J) (hml : a.length + b.length < 90000) (hma : ∀ s ∈ a, 0 ≤ s.1 ∧ s.1 ≤ 65536) (hmb : ∀ s ∈ b, 0 ≤ s.1 ∧ s.1 ≤ 65536) (h : Asn.all [spans va a, spans vb b, J] F A) :
    ∃ v L A' F', L.Perm (a ++ b) ∧ L.Pairwise (fun s u => s.1 ≤ u.1) ∧ SndCall Try.prog n₀ 23 #[.agg #[va], .agg #[vb]] A (.agg #[v]) A' ∧ Asn.all [spans v (addL L), spans va a, spans vb b, J] F' A' ∧ Step F A F' A' := by
  have oa : isOne va = true := by
    obtain ⟨_, ha⟩ := Asn.left h
    obtain ⟨_, rfl⟩ := spans_val ha
    rfl
  have ob : isOne vb = true := by
    obtain ⟨_, hb⟩ := Asn.left (Asn.swap h)
    obtain ⟨_, rfl⟩ := spans_val hb
    rfl
  have o0 : Owns (Asn.all [spans va a, spans vb b, J]) := Owns.sep Owns.spans (Owns.sep Owns.spans hJ)
  obtain ⟨F1, h1, S1⟩ := Asn.new o0 h va 27
  generalize hq2 : A.heap.size = q2 at h1
  generalize hA1 : A.alloc (.cells #[va] 27 (0, 0)) = A1 at h1 S1
  obtain ⟨F2, h2, S2⟩ := Asn.new (Owns.sep Owns.cel o0) h1 vb 27
  generalize hq3 : A1.heap.size = q3 at h2
  generalize hA2 : A1.alloc (.cells #[vb] 27 (0, 0)) = A2 at h2 S2
  obtain ⟨F3, h3, S3⟩ := Asn.new (Owns.sep Owns.cel (Owns.sep Owns.cel o0)) h2 (.slice none 0 0) 27
  generalize hq4 : A2.heap.size = q4 at h3
  generalize hA3 : A2.alloc (.cells #[.slice none 0 0] 27 (0, 0)) = A3 at h3 S3
  have g3 : A3.cell? ⟨q3, 0, none⟩ = some vb := Asn.get (Asn.swap h3)
  have g2 : A3.cell? ⟨q2, 0, none⟩ = some va := Asn.get (Asn.perm [cel q4 (.slice none 0 0), cel q3 vb, cel q2 va, spans va a, spans vb b, J] [2, 0, 1, 3, 4, 5] h3 (by decide))
  obtain ⟨F4, h4, S4⟩ := Asn.newO (Owns.sep Owns.cel (Owns.sep Owns.cel (Owns.sep Owns.cel o0))) h3 (.cells #[va, vb] 25 (0, 0))
  generalize hqs : A3.heap.size = qs at h4
  generalize hA4 : A3.alloc (.cells #[va, vb] 25 (0, 0)) = A4 at h4 S4
  have h4p := Asn.perm [blk qs (.cells #[va, vb] 25 (0, 0)), cel q4 (.slice none 0 0), cel q3 vb, cel q2 va, spans va a, spans vb b, J] [0, 4, 5, 1, 2, 3, 6] h4 (by decide)
  obtain ⟨v0, A5, F5, c5, h5, S5⟩ := concat_call (n₀ := n₀) (J := Asn.all [cel q4 (.slice none 0 0), cel q3 vb, cel q2 va, J]) (Owns.sep Owns.cel (Owns.sep Owns.cel (Owns.sep Owns.cel hJ))) hml h4p
  have hab : ∀ s ∈ a ++ b, 0 ≤ s.1 ∧ s.1 ≤ 65536 := fun s hs => by
    rcases List.mem_append.1 hs with hs | hs
    · exact hma s hs
    · exact hmb s hs
  obtain ⟨L, A6, hp, hpw, c6, h6, S6⟩ := sortf_call (n₀ := n₀) (Owns.sep Owns.spans (Owns.sep Owns.spans (Owns.sep Owns.cel (Owns.sep Owns.cel (Owns.sep Owns.cel hJ))))) h5 hab (by rw [List.length_append]; exact hml)
  have hL : L.length < 90000 := by rw [hp.length_eq, List.length_append]; exact hml
  obtain ⟨_, k6⟩ := Asn.left h6
  obtain ⟨pv, rfl⟩ := spans_val k6
  have h6p := Asn.perm [spans (.slice pv L.length L.length) L, spans va a, spans vb b, cel q4 (.slice none 0 0), cel q3 vb, cel q2 va, J] [4, 5, 0, 3, 1, 2, 6] h6 (by decide)
  obtain ⟨F7, h7, S7⟩ := Asn.drop h6p
  obtain ⟨F8, h8, S8⟩ := Asn.drop h7
  have oJJ : Owns (Asn.all [spans va a, spans vb b, J]) := o0
  generalize hJJ : Asn.all [spans va a, spans vb b, J] = JJ at oJJ
  have h8' : Asn.all [spans (.slice pv L.length L.length) L, cel q4 (.slice none 0 0), JJ] F8 A6 := by rw [← hJJ]; exact h8
  obtain ⟨F9, h9, S9⟩ := Asn.new (Owns.sep Owns.spans (Owns.sep Owns.cel oJJ)) h8' (.slice none 0 0) 27
  generalize hq6 : A6.heap.size = q6 at h9
  generalize hA7 : A6.alloc (.cells #[.slice none 0 0] 27 (0, 0)) = A7 at h9 S9
  have h10 : Asn.all [cel q6 (.slice none 0 0), spans (.slice none 0 0) ([]), spans (.slice pv L.length L.length) L, cel q4 (.slice none 0 0), JJ] F9 A7 := Asn.perm [spans (.slice none 0 0) [], cel q6 (.slice none 0 0), spans (.slice pv L.length L.length) L, cel q4 (.slice none 0 0), JJ] [1, 0, 2, 3, 4] ⟨fun _ => False, F9, .inl ⟨rfl, rfl, fun _ h => h⟩, h9, fun _ h => h.elim, fun b => by simp⟩ (by decide)
  suffices hw : wpF Try.prog n₀ 23 #[.agg #[va], .agg #[vb]] (fun r A' => ∃ v F', r = .agg #[v] ∧ ((spans v (addL L)).sep JJ) F' A' ∧ Step F A F' A') A by
    obtain ⟨r, A', h1, v, F', rfl, h2, h3⟩ := hw
    exact ⟨v, L, A', F', hp, hpw, h1, by rw [← hJJ] at h2; exact h2, h3⟩
  refine wpF_fn (ts := #[.agg #[va], .agg #[vb], undef, undef, undef, undef, undef, undef, undef, undef, undef, undef, undef, undef, undef, undef, undef, undef, undef, undef, undef, undef, undef, undef, undef, undef, undef, undef, undef, undef]) good ⟨rfl, rfl, rfl⟩ (by kernel_rfl) ?_
  refine cw_seq good (cw_region good ?_)
  refine wpO_val (aop_boxT (v := .agg #[va]) (cs := #[va]) rfl (by kernel_rfl) rfl) ?_
  rw [hq2, hA1]
  simp only [Act.put, List.setIfInBounds_toArray, List.set_cons_succ, List.set_cons_zero]
  refine wpO_val (aop_boxT (v := .agg #[vb]) (cs := #[vb]) rfl (by kernel_rfl) rfl) ?_
  rw [hq3, hA2]
  simp only [Act.put, List.setIfInBounds_toArray, List.set_cons_succ, List.set_cons_zero]
  refine wpO_val (aop_allocT (cs := #[.slice none 0 0]) rfl rfl rfl rfl) ?_
  rw [hq4, hA3]
  simp only [Act.put, List.setIfInBounds_toArray, List.set_cons_succ, List.set_cons_zero]
  refine cw_seq good (cw_region good ?_)
  refine wpO_val (aop_field0 (p := (⟨q2, 0, none⟩ : Addr)) (n := 1) (g := false) rfl (by kernel_rfl) rfl rfl rfl (by decide) (by decide) rfl) ?_
  refine wpO_val (aop_load (v := va) rfl (by kernel_rfl) rfl g2) ?_
  refine wpO_val (aop_field0 (p := (⟨q3, 0, none⟩ : Addr)) (n := 1) (g := false) rfl (by kernel_rfl) rfl rfl rfl (by decide) (by decide) rfl) ?_
  simp only [Act.put, List.setIfInBounds_toArray, List.set_cons_succ, List.set_cons_zero]
  refine wpO_val (aop_load (v := vb) rfl (by kernel_rfl) rfl g3) ?_
  simp only [Act.put, List.setIfInBounds_toArray, List.set_cons_succ, List.set_cons_zero]
  refine wpO_val (aop_slice2 (v := va) (v' := vb) (g := false) rfl (by kernel_rfl) (by kernel_rfl) oa ob rfl rfl rfl rfl rfl) ?_
  rw [hqs, hA4]
  simp only [Act.put, List.setIfInBounds_toArray, List.set_cons_succ, List.set_cons_zero]
  refine wpO_call (f := 37) (first := #[]) (cap := #[]) (l := [.slice (some ⟨qs, 0, none⟩) 2 2]) (xs := #[.slice (some ⟨qs, 0, none⟩) 2 2]) ⟨rfl, rfl, rfl⟩ rfl (by kernel_rfl) rfl ⟨_, _, c5, ?_⟩
  simp only [Act.put, List.setIfInBounds_toArray, List.set_cons_succ, List.set_cons_zero]
  refine wpO_as (.slice pv L.length L.length) (by kernel_rfl) ?_
  simp only [Act.put, List.setIfInBounds_toArray, List.set_cons_succ, List.set_cons_zero]
  refine cw_seq good (cw_region good ?_)
  refine wpO_mv (.slice pv L.length L.length) (by kernel_rfl) ?_
  simp only [Act.put, List.setIfInBounds_toArray, List.set_cons_succ, List.set_cons_zero]
  refine wpO_call (f := 38) (first := #[]) (cap := #[]) (l := [.slice pv L.length L.length, fn39]) (xs := #[.slice pv L.length L.length, fn39]) ⟨rfl, rfl, rfl⟩ rfl (by kernel_rfl) rfl ⟨_, _, c6, ?_⟩
  simp only [Act.put, List.setIfInBounds_toArray, List.set_cons_succ, List.set_cons_zero]
  refine cw_seq good (cw_region good ?_)
  refine wpO_val (aop_allocT (cs := #[.slice none 0 0]) rfl rfl rfl rfl) ?_
  rw [hq6, hA7]
  simp only [Act.put, List.setIfInBounds_toArray, List.set_cons_succ, List.set_cons_zero]
  refine cw_seq good (cw_seq good (cw_region good ?_))
  refine wpO_mv (.slice pv L.length L.length) (by kernel_rfl) ?_
  refine wpO_val (aop_lenV (b := pv) (len := L.length) (cap := L.length) rfl rfl rfl rfl (by kernel_rfl) rfl) ?_
  refine wpO_mv (.int .i64 (0 : Nat)) (by kernel_rfl) ?_
  simp only [Act.put, List.setIfInBounds_toArray, List.set_cons_succ, List.set_cons_zero]
  refine cw_block good (cw_loop good ?_)
  refine wpL_ind (fun nn e A' => ∃ (k : Nat) (vs : Value) (F' : Foot) (zz : Nat → Value), nn = L.length - k ∧ k ≤ L.length ∧ Asn.all [cel q6 vs, spans vs (addL (L.take k)), spans (.slice pv L.length L.length) L, cel q4 (.slice none 0 0), JJ] F' A' ∧ Step F A F' A' ∧ e = ⟨#[.agg #[va], .agg #[vb], ptr q2, ptr q3, ptr q4, .slice pv L.length L.length, ptr q6, undef, (zz 8), .pointer (some ⟨q2, 0, none⟩), va, .pointer (some ⟨q3, 0, none⟩), vb, .slice (some ⟨qs, 0, none⟩) 2 2, .slice pv L.length L.length, .slice pv L.length L.length, undef, .slice pv L.length L.length, .int .i64 L.length, .int .i64 k, (zz 20), (zz 21), (zz 22), (zz 23), (zz 24), (zz 25), (zz 26), (zz 27), (zz 28), undef], []⟩) ?_ L.length _ _ ⟨0, .slice none 0 0, F9, (fun ix => (⟨#[.agg #[va], .agg #[vb], ptr q2, ptr q3, ptr q4, .slice pv L.length L.length, ptr q6, undef, undef, .pointer (some ⟨q2, 0, none⟩), va, .pointer (some ⟨q3, 0, none⟩), vb, .slice (some ⟨qs, 0, none⟩) 2 2, .slice pv L.length L.length, .slice pv L.length L.length, undef, .slice pv L.length L.length, .int .i64 L.length, .int .i64 (0 : Nat), undef, undef, undef, undef, undef, undef, undef, undef, undef, undef], []⟩ : Act).tmps.getD ix undef), rfl, by omega, h10, S1.trans (S2.trans (S3.trans (S4.trans (S5.trans (S6.trans (S7.trans (S8.trans S9))))))), by kernel_rfl⟩
  rintro nn _ A' ⟨k, vs, F', zz, rfl, hk, h, hS, rfl⟩
  by_cases hlt : k < L.length
  case neg =>
    refine cw_seq good (cw_region good ?_)
    refine wpO_val (aop_int (k := .i64) (m := k) (n := L.length) (v := .bool false) rfl (by kernel_rfl) (by kernel_rfl) (by simp [intV]; omega)) ?_
    simp only [Act.put, List.setIfInBounds_toArray, List.set_cons_succ, List.set_cons_zero]
    refine cw_seq good (cw_cond good false (by kernel_rfl) (cw_exit good ?_))
    obtain rfl : k = L.length := by omega
    rw [List.take_length] at h
    obtain ⟨_, hc3⟩ := Asn.left h
    obtain ⟨_, t3, hb3⟩ := hc3
    have h6 := Asn.perm [cel q6 vs, spans vs (addL L), spans (.slice pv L.length L.length) L, cel q4 (.slice none 0 0), JJ] [3, 0, 1, 2, 4] h (by decide)
    refine cw_seq good (cw_region good ?_)
    refine wpO_val (aop_loadT (n := 1) (p := ⟨q6, 0, none⟩) (xs := #[vs]) rfl (by kernel_rfl) rfl hb3 rfl (Nat.le_refl 1) rfl) ?_
    simp only [Act.put, List.setIfInBounds_toArray, List.set_cons_succ, List.set_cons_zero]
    have ho : isOne vs = true := by
      obtain ⟨_, hk⟩ := Asn.left (Asn.perm [cel q6 vs, spans vs (addL L), spans (.slice pv L.length L.length) L, cel q4 (.slice none 0 0), JJ] [1, 0, 2, 3, 4] h (by decide))
      obtain ⟨_, rfl⟩ := spans_val hk
      rfl
    obtain ⟨h7, S7⟩ := Asn.put (Owns.sep Owns.cel (Owns.sep Owns.spans (Owns.sep Owns.spans oJJ))) h6 vs
    refine wpO_unit (aop_storeT1 (p := ⟨q4, 0, none⟩) (v := vs) rfl (by kernel_rfl) (by kernel_rfl) rfl ho (Asn.get h6) (Asn.soft h6)) ?_
    simp only [Act.put]
    obtain ⟨_, hc2⟩ := Asn.left h7
    obtain ⟨_, t2, hb2⟩ := hc2
    obtain ⟨F8, h8, S8⟩ := Asn.drop h7
    obtain ⟨F9, h9, S9⟩ := Asn.drop h8
    obtain ⟨F10, h10, S10⟩ := Asn.drop (Asn.swap h9)
    exact cw_ret good (ret_cell (t := 4) (u := 27) (b := q4) rfl (by kernel_rfl) rfl hb2 ⟨vs, F10, rfl, h10, hS.trans (S7.trans (S8.trans (S9.trans S10)))⟩)
  obtain ⟨s, hs⟩ : ∃ s, L[k]? = some s := ⟨_, List.getElem?_eq_getElem hlt⟩
  obtain ⟨f, t⟩ := s
  have hot := addL_take hs
  have hol := addL_len (L.take k)
  rw [List.length_take] at hol
  obtain ⟨A1', A2, F2, eA1, eA2, c0, z0, c1, z1, h2, S2⟩ := pair_var (Owns.sep Owns.cel (Owns.sep Owns.spans (Owns.sep Owns.spans (Owns.sep Owns.cel oJJ)))) h f t
  generalize hq : A'.heap.size = q at eA2 c0 z0 c1 z1 h2
  have gf : A2.cell? ⟨q, 0, none⟩ = some (.int .i64 f) := Asn.cellAt h2 rfl
  have gt : A2.cell? ⟨q, 1, none⟩ = some (.int .i64 t) := Asn.cellAt h2 rfl
  obtain ⟨_, k4⟩ := Asn.left (Asn.perm [cel q6 vs, spans vs (addL (L.take k)), spans (.slice pv L.length L.length) L, cel q4 (.slice none 0 0), JJ] [2, 0, 1, 3, 4] h (by decide))
  obtain ⟨d, e, hd⟩ := spans_get k4 hs
  injection e with e1 _ _
  subst e1
  obtain ⟨F3, h3, S3⟩ := Asn.drop h2
  obtain ⟨vs', A5, F5, cc, h5, S5⟩ := add_call (n₀ := n₀) (f := f) (t := t) (Owns.sep Owns.spans (Owns.sep Owns.cel oJJ)) (by omega) h3
  refine cw_seq good (cw_region good ?_)
  refine wpO_val (aop_int (k := .i64) (m := k) (n := L.length) (v := .bool true) rfl (by kernel_rfl) (by kernel_rfl) (by simp [intV]; omega)) ?_
  simp only [Act.put, List.setIfInBounds_toArray, List.set_cons_succ, List.set_cons_zero]
  refine cw_seq good (cw_cond good true (by kernel_rfl) (cw_skip good ?_))
  refine cw_seq good (cw_block good (cw_seq good (cw_region good ?_)))
  refine wpO_val (aop_indexT (k := .i64) (len := L.length) (cap := L.length) (i := k) (p := ⟨d, 0, none⟩) (n := 2) (g := true) rfl (by kernel_rfl) (by kernel_rfl) rfl rfl hlt) ?_
  rw [add_at2]
  refine wpO_val (aop_loadT (n := 2) (p := ⟨d, k * 2, none⟩) (xs := #[.int .i64 f, .int .i64 t]) rfl (by kernel_rfl) rfl hd rfl (by rw [cells2_size]; show k * 2 + 2 ≤ _; omega) (cells2_cut hs)) ?_
  refine wpO_val (aop_allocT (cs := #[.int .i64 0, .int .i64 0]) rfl rfl rfl rfl) ?_
  rw [hq, eA1]
  simp only [Act.put, List.setIfInBounds_toArray, List.set_cons_succ, List.set_cons_zero]
  refine wpO_unit (aop_storeT2 (p := ⟨q, 0, none⟩) (v := .int .i64 f) (v' := .int .i64 t) rfl (by kernel_rfl) (by kernel_rfl) rfl rfl rfl c0 z0 c1 z1) ?_
  rw [eA2]
  simp only [Act.put]
  refine cw_region good ?_
  refine wpO_val (aop_indexA (k := .i64) (len := 2) (i := 0) (p := ⟨q, 0, none⟩) (n := 1) (g := false) rfl (by kernel_rfl) (by kernel_rfl) rfl rfl (by decide)) ?_
  rw [at0]
  refine wpO_val (aop_load (v := .int .i64 f) rfl (by kernel_rfl) rfl gf) ?_
  refine wpO_val (aop_indexA (k := .i64) (len := 2) (i := 1) (p := ⟨q, 0, none⟩) (n := 1) (g := false) rfl (by kernel_rfl) (by kernel_rfl) rfl rfl (by decide)) ?_
  rw [at1]
  simp only [Act.put, List.setIfInBounds_toArray, List.set_cons_succ, List.set_cons_zero]
  refine wpO_val (aop_load (v := .int .i64 t) rfl (by kernel_rfl) rfl gt) ?_
  simp only [Act.put, List.setIfInBounds_toArray, List.set_cons_succ, List.set_cons_zero]
  refine wpO_call (f := 33) (first := #[]) (cap := #[]) (l := [ptr q6, .int .i64 f, .int .i64 t]) (xs := #[ptr q6, .int .i64 f, .int .i64 t]) ⟨rfl, rfl, rfl⟩ rfl (by kernel_rfl) rfl ⟨_, _, cc, ?_⟩
  simp only [Act.put, List.setIfInBounds_toArray, List.set_cons_succ, List.set_cons_zero]
  refine cw_region good ?_
  refine wpO_val (aop_int (k := .i64) (m := k) (n := 1) (v := .int .i64 (k + 1 : Nat)) rfl (by kernel_rfl) (by kernel_rfl) (intV_add (by omega) (by omega) (by omega))) ?_
  refine wpO_mv (.int .i64 (k + 1 : Nat)) (by kernel_rfl) ?_
  simp only [Act.put, List.setIfInBounds_toArray, List.set_cons_succ, List.set_cons_zero]
  exact ⟨L.length - (k + 1), by omega, k + 1, vs', F5, (fun ix => (⟨#[.agg #[va], .agg #[vb], ptr q2, ptr q3, ptr q4, .slice (some ⟨d, 0, none⟩) L.length L.length, ptr q6, undef, ptr q, .pointer (some ⟨q2, 0, none⟩), va, .pointer (some ⟨q3, 0, none⟩), vb, .slice (some ⟨qs, 0, none⟩) 2 2, .slice (some ⟨d, 0, none⟩) L.length L.length, .slice (some ⟨d, 0, none⟩) L.length L.length, undef, .slice (some ⟨d, 0, none⟩) L.length L.length, .int .i64 L.length, .int .i64 (k + 1 : Nat), .bool true, .pointer (some ⟨d, k * 2, none⟩), .agg #[Value.int .i64 f, Value.int .i64 t], .pointer (some ⟨q, 0, none⟩), .int .i64 f, .pointer (some ⟨q, 1, none⟩), .int .i64 t, undef, .int .i64 (k + 1 : Nat), undef], []⟩ : Act).tmps.getD ix undef), rfl, by omega, by rw [hot]; exact h5, hS.trans (S2.trans (S3.trans S5)), by kernel_rfl⟩
end Go.Proofs.Ytfkdkfleaiaoiaa
/-
  Or, And, Not, Without, Eq, told by who is in. No condition.
-/
namespace Go.Proofs.Ytfkdkfleaiaoiaa
open Go.Abs
variable {n₀ : Nat}
set_option maxRecDepth 8000
/-- A number that may stand in a set. -/
def inR (i : Int) : Bool := decide (0 ≤ i) && decide (i < 65536)
theorem wf_short {m : List Sp} (h : WF (-1) m) : m.length ≤ 32768 := by
  have := wf_len h (by decide)
  omega
theorem wf_begin {m : List Sp} (h : WF (-1) m) : ∀ s ∈ m, 0 ≤ s.1 ∧ s.1 ≤ 65536 := fun s hs => by
  have := wf_mem h s hs
  omega
theorem has_range {m : List Sp} (h : WF (-1) m) {i : Int} (hi : has m i = true) : inR i = true := by
  obtain ⟨s, hs, h1, h2⟩ := has_mem.1 hi
  have := wf_mem h s hs
  unfold inR
  simp; omega
theorem or_is {va vb : Value} {a b : List Sp} {J : Asn} {F : Foot} {A : World} (hJ : Owns J) (ha : WF (-1) a) (hb : WF (-1) b) (h : Asn.all [spans va a, spans vb b, J] F A) :
    ∃ v r A' F', WF (-1) r ∧ (∀ i, has r i = (has a i || has b i)) ∧ SndCall Try.prog n₀ 23 #[.agg #[va], .agg #[vb]] A (.agg #[v]) A' ∧ Asn.all [spans v r, spans va a, spans vb b, J] F' A' ∧ Step F A F' A' := by
  have la := wf_short ha
  have lb := wf_short hb
  obtain ⟨v, L, A', F', hp, hs, h1, h2, h3⟩ := or_call (n₀ := n₀) hJ (by omega) (wf_begin ha) (wf_begin hb) h
  obtain ⟨g1, g2⟩ := addL_is (l := L) (fun s hs => by
    rcases List.mem_append.1 (hp.mem_iff.1 hs) with hs | hs
    · have := wf_mem ha s hs; omega
    · have := wf_mem hb s hs; omega) hs
  exact ⟨v, addL L, A', F', g1, fun i => by rw [g2, has_perm hp, has_append], h1, h2, h3⟩
theorem both_is {va vb : Value} {a b : List Sp} {J : Asn} {F : Foot} {A : World} (hJ : Owns J) (ha : WF (-1) a) (hb : WF (-1) b) (h : Asn.all [spans va a, spans vb b, J] F A) :
    ∃ v r A' F', WF (-1) r ∧ (∀ i, has r i = (has a i && has b i)) ∧ SndCall Try.prog n₀ 22 #[.agg #[va], .agg #[vb]] A (.agg #[v]) A' ∧ Asn.all [spans v r, spans va a, spans vb b, J] F' A' ∧ Step F A F' A' := by
  have la := wf_short ha
  have lb := wf_short hb
  obtain ⟨v, A', F', h1, h2, h3⟩ := and_call (n₀ := n₀) hJ (by omega) h
  obtain ⟨g1, g2⟩ := and_is ha hb
  exact ⟨v, _, A', F', g1, g2, h1, h2, h3⟩
theorem neg_is {va : Value} {a : List Sp} {J : Asn} {F : Foot} {A : World} (hJ : Owns J) (ha : WF (-1) a) (n : Int) (h : Asn.all [spans va a, J] F A) :
    ∃ v r A' F', WF (-1) r ∧ (∀ i, has r i = (inR i && decide (i < n) && !has a i)) ∧ SndCall Try.prog n₀ 26 #[.agg #[va], .int .i64 n] A (.agg #[v]) A' ∧ Asn.all [spans v r, spans va a, J] F' A' ∧ Step F A F' A' := by
  have la := wf_short ha
  obtain ⟨v, A', F', h1, h2, h3⟩ := not_call (n₀ := n₀) (n0 := n) hJ (by omega) h
  obtain ⟨g1, g2⟩ := not_is (n0 := n) ha
  refine ⟨v, _, A', F', g1, fun i => ?_, h1, h2, h3⟩
  rw [g2]
  congr 1
  unfold inR
  rw [Bool.eq_iff_iff]
  simp
  split <;> omega
theorem out_is {va vb : Value} {a b : List Sp} {J : Asn} {F : Foot} {A : World} (hJ : Owns J) (ha : WF (-1) a) (hb : WF (-1) b) (h : Asn.all [spans va a, spans vb b, J] F A) :
    ∃ v r A' F', WF (-1) r ∧ (∀ i, has r i = (has a i && !has b i)) ∧ SndCall Try.prog n₀ 24 #[.agg #[va], .agg #[vb]] A (.agg #[v]) A' ∧ Asn.all [spans v r, spans va a, spans vb b, J] F' A' ∧ Step F A F' A' := by
  have la := wf_short ha
  have lb := wf_short hb
  obtain ⟨g1, g2⟩ := not_is (n0 := 65536) hb
  have ln := wf_short g1
  obtain ⟨v, A', F', h1, h2, h3⟩ := without_call (n₀ := n₀) hJ (by omega) (by omega) h
  obtain ⟨k1, k2⟩ := and_is ha g1
  refine ⟨v, _, A', F', k1, fun i => ?_, h1, h2, h3⟩
  rw [k2, g2]
  cases hh : has a i
  · rfl
  · have := has_range ha hh
    unfold inR at this
    rw [if_neg (by decide), this]; rfl
theorem same_is {va vb : Value} {a b : List Sp} {J : Asn} {F : Foot} {A : World} (hJ : Owns J) (ha : WF (-1) a) (hb : WF (-1) b) (h : Asn.all [spans va a, spans vb b, J] F A) :
    ∃ A' F', SndCall Try.prog n₀ 25 #[.agg #[va], .agg #[vb]] A (.bool (decide (a = b))) A' ∧ Asn.all [spans va a, spans vb b, J] F' A' ∧ Step F A F' A' := by
  have la := wf_short ha
  have lb := wf_short hb
  exact eq_call hJ (by omega) h
theorem many_is {va : Value} {a : List Sp} {J : Asn} {F : Foot} {A : World} (hJ : Owns J) (ha : WF (-1) a) (h : Asn.all [spans va a, J] F A) :
    ∃ A' F', SndCall Try.prog n₀ 28 #[.agg #[va]] A (.int .i64 (count a)) A' ∧ Asn.all [spans va a, J] F' A' ∧ Step F A F' A' := by
  have la := wf_short ha
  exact count_call hJ ha (by omega) h
theorem count_fits {m : List Sp} (h : WF (-1) m) : 0 ≤ count m ∧ count m ≤ 65537 :=
  ⟨rank_nonneg h, rank_le h (by decide)⟩
/-- A set's one cell. -/
theorem spans_one {v : Value} {m : List Sp} {J : Asn} {F : Foot} {A : World} (h : ((spans v m).sep J) F A) : isOne v = true := by
  obtain ⟨_, hk⟩ := Asn.left h
  obtain ⟨_, rfl⟩ := spans_val hk
  rfl
/-- What is read stays. -/
theorem rd_kept {F F' : Foot} {A A' : World} {p : Option Addr} {l : List Int} (S : Step F A F' A') (hro : ∀ ad, p = some ad → RoB A ad.block) (hr : Rd A p l) : Rd A' p l := fun i x hx => by
  obtain ⟨ad, e, hc⟩ := hr i x hx
  refine ⟨ad, e, (cell_eq (A := A) (A' := A') ?_).trans hc⟩
  rw [add_block]
  exact S.ro _ (hro ad e)
theorem run_alloc1 {w : World} {ρ : Operand → Value} : RegOk Try.prog w ρ (.alloc 27) ∧ ∀ o : Oper, o.op = .alloc 27 → (execOp ρ o).run Try.prog w = .ok (.value (ptr w.heap.size)) (w.alloc (.cells #[.slice none 0 0] 27 (0, 0))) := by
  refine ⟨trivial, fun o h => ?_⟩
  rcases aop_allocT (P := Try.prog) (A := w) (ρ := ρ) (cs := #[.slice none 0 0]) h rfl rfl rfl with ⟨_, _, e, _⟩ | ⟨_, h⟩ | ⟨c, _, hc, _⟩ | ⟨c, _, _, _, _, _, _, hc, _⟩ | ⟨c, _, _, _, _, _, hc, _⟩
  · exfalso
    have := congrArg (fun w => w.heap.size) e
    simp at this
  · exact h
  · rw [h] at hc; cases hc
  · rw [h] at hc; cases hc
  · rw [h] at hc; cases hc
/-- A list, cut and laid out as a set. -/
theorem cut_of {p : Option Addr} {l : List Int} {c : Nat} {J : Asn} {F : Foot} {A : World} (hJ : Owns J) (h : J F A) (hc : l.length ≤ c) (hp : p = none → l = [] ∧ c = 0) (hr : Rd A p l) (hro : ∀ ad, p = some ad → RoB A ad.block) :
    SndCall Try.prog n₀ 10 #[.slice p l.length c] A (.slice p (l.take 60).length c) A ∧ ∃ v m A' F', WF (-1) m ∧ m = ofL (sorted (l.take 60)) ∧ SndCall Try.prog n₀ 11 #[.slice p (l.take 60).length c] A (.agg #[v]) A' ∧ ((spans v m).sep J) F' A' ∧ Step F A F' A' := by
  have hlen : (l.take 60).length = min l.length 60 := by rw [List.length_take, Nat.min_comm]
  refine ⟨by rw [hlen]; exact cut_call hc hro, ?_⟩
  have hr0 : Rd A p (l.take 60) := fun j x hx => hr j x (by
    rw [List.getElem?_take] at hx
    split at hx
    · exact hx
    · cases hx)
  obtain ⟨v, A1, F1, c1, h1, S1⟩ := of_call (n₀ := n₀) (c := c) (l := l.take 60) hJ h (fun e => ⟨by rw [(hp e).1]; rfl, (hp e).2⟩) hr0 hro (by omega)
  exact ⟨v, _, A1, F1, wf_of _, rfl, c1, h1, S1⟩
end Go.Proofs.Ytfkdkfleaiaoiaa
/-
  slices.Clone of spans, Map.Runs. No condition.
-/
namespace Go.Proofs.Ytfkdkfleaiaoiaa
open Go.Abs
variable {n₀ : Nat}
set_option maxRecDepth 8000
/-- append([][2]int, m...). -/
theorem clone2_app {d : Nat} {m : List Sp} {J : Asn} {F : Foot} {A : World} (hJ : Owns J) (hml : m.length < 90000) (hne : 0 < m.length) (h : ((spans (.slice (some ⟨d, 0, none⟩) m.length m.length) m).sep J) F A) :
    ∃ d' A2 F2, (∀ (o : Oper) (c : Call) (ρ : Operand → Value), o.op = .call c → c.callee = .builtin .append → c.argTypes = #[25, 25] → c.args.toList.map ρ = [.slice (some ⟨A.heap.size, 0, none⟩) 0 0, .slice (some ⟨d, 0, none⟩) m.length m.length] → AOp Try.prog ρ o (A.alloc (.cells #[] 42 (0, 0))) (.value (.slice (some ⟨d', 0, none⟩) m.length m.length)) A2) ∧
      Asn.all [spans (.slice (some ⟨d', 0, none⟩) m.length m.length) m, spans (.slice (some ⟨d, 0, none⟩) m.length m.length) m, J] F2 A2 ∧ Step F A F2 A2 := by
  obtain ⟨F1, h1, S1⟩ := Asn.newO (Owns.sep Owns.spans hJ) h (.cells #[] 42 (0, 0))
  generalize hq : A.heap.size = q at h1
  generalize hA1 : A.alloc (.cells #[] 42 (0, 0)) = A1 at h1 S1
  obtain ⟨_, ks⟩ := Asn.left (Asn.swap h1)
  obtain ⟨p, ep, hsrc⟩ := src_cells ks
  obtain ⟨F3, h3, S3⟩ := Asn.newO (Owns.sep Owns.blk (Owns.sep Owns.spans hJ)) h1 (.cells (cells2 m) 42 (1, 0))
  obtain ⟨F4, h4, S4⟩ := Asn.drop (Asn.swap h3)
  refine ⟨A1.heap.size, _, F4, fun o c ρ ho hc ht ha => ?_, Asn.map h4 fun F hb => .inr ⟨hne, A1.heap.size, rfl, hb⟩, S1.trans (S3.trans S4)⟩
  obtain ⟨ie, z, H, hz0, hsz, hzc, hby⟩ := app_args ht
  refine .inr (.inr (.inl ⟨c, _, ho, hc, rfl, 42, ie, z, some ⟨q, 0, none⟩, 0, 0, _, m.length, H, map_list ha, by rw [hz0]; rfl,
    .inr ⟨by omega, Nat.le_refl _, by omega, by rw [hby]; decide, by rw [hzc, hsz], #[], cells2 m, ?_, ?_, by simp, by simp, by rw [cells2_size, hsz], cells2_one, .inl ⟨by simp, fun a h => by cases h; exact ⟨_, _, _, Asn.at h1, by simp, by simp⟩⟩⟩⟩))
  · rw [hsz]; simp [Builtin.firstCells, loadCells, loadCellsFrom]
  · rw [hz0, hsz]; simpa [appSrc] using hsrc
set_option maxHeartbeats 8000000 in
/-- slices.Clone, of spans. -/
theorem clone2_call {v : Value} {m : List Sp} {J : Asn} {F : Foot} {A : World} (hJ : Owns J) (hml : m.length < 90000) (h : ((spans v m).sep J) F A) :
    ∃ v' A' F', SndCall Try.prog n₀ 41 #[v] A v' A' ∧ Asn.all [spans v' m, spans v m, J] F' A' ∧ Step F A F' A' := by
  suffices hw : wpF Try.prog n₀ 41 #[v] (fun v' A' => ∃ F', Asn.all [spans v' m, spans v m, J] F' A' ∧ Step F A F' A') A by
    obtain ⟨v', A', h1, F', h2, h3⟩ := hw
    exact ⟨v', A', F', h1, h2, h3⟩
  have hs : (m.length = 0 ∧ v = .slice none 0 0) ∨ (0 < m.length ∧ ∃ d, v = .slice (some ⟨d, 0, none⟩) m.length m.length) := by
    obtain ⟨_, _, h1, _⟩ := h
    rcases h1 with ⟨a, b, _⟩ | ⟨a, d, b, _⟩
    · exact .inl ⟨a, b⟩
    · exact .inr ⟨a, d, b⟩
  rcases hs with ⟨hm, rfl⟩ | ⟨hm, d, rfl⟩
  case inl =>
    refine wpF_fn (ts := #[.slice none 0 0, undef, undef, undef, undef, undef, undef, undef]) good ⟨rfl, rfl, rfl⟩ (by kernel_rfl) ?_
    refine cw_seq good (cw_region good ?_)
    refine wpO_as (.slice none 0 0) (by kernel_rfl) ?_
    simp only [Act.put, List.setIfInBounds_toArray, List.set_cons_succ, List.set_cons_zero]
    refine cw_seq good (cw_seq good (cw_region good ?_))
    refine wpO_mv (.slice none 0 0) (by kernel_rfl) ?_
    refine wpO_val (aop_eqNil (v := .slice none 0 0) (w := .slice none 0 0) (b := true) rfl (by kernel_rfl) (by kernel_rfl) rfl rfl) ?_
    simp only [Act.put, List.setIfInBounds_toArray, List.set_cons_succ, List.set_cons_zero]
    refine cw_cond good true (by kernel_rfl) ?_
    refine cw_seq good (cw_region good ?_)
    refine wpO_as (.slice none 0 0) (by kernel_rfl) ?_
    simp only [Act.put, List.setIfInBounds_toArray, List.set_cons_succ, List.set_cons_zero]
    refine cw_ret good (ret_one (.slice none 0 0) (by kernel_rfl) ⟨F, ⟨fun _ => False, F, .inl ⟨hm, rfl, fun _ h => h⟩, h, fun _ h => h.elim, fun b => by simp⟩, .refl⟩)
  case inr =>
    obtain ⟨d', A2, F2, ap, h2, S2⟩ := clone2_app hJ hml hm h
    refine wpF_fn (ts := #[.slice (some ⟨d, 0, none⟩) m.length m.length, undef, undef, undef, undef, undef, undef, undef]) good ⟨rfl, rfl, rfl⟩ (by kernel_rfl) ?_
    refine cw_seq good (cw_region good ?_)
    refine wpO_as (.slice none 0 0) (by kernel_rfl) ?_
    simp only [Act.put, List.setIfInBounds_toArray, List.set_cons_succ, List.set_cons_zero]
    refine cw_seq good (cw_seq good (cw_region good ?_))
    refine wpO_mv (.slice (some ⟨d, 0, none⟩) m.length m.length) (by kernel_rfl) ?_
    refine wpO_val (aop_eqNil (v := .slice (some ⟨d, 0, none⟩) m.length m.length) (w := .slice none 0 0) (b := false) rfl (by kernel_rfl) (by kernel_rfl) rfl rfl) ?_
    simp only [Act.put, List.setIfInBounds_toArray, List.set_cons_succ, List.set_cons_zero]
    refine cw_cond good false (by kernel_rfl) (cw_skip good ?_)
    refine cw_seq good (cw_region good ?_)
    refine wpO_val (aop_sliceT0 (e := 42) (n := 2) (g := true) rfl rfl rfl) ?_
    refine wpO_mv (.slice (some ⟨d, 0, none⟩) m.length m.length) (by kernel_rfl) ?_
    simp only [Act.put, List.setIfInBounds_toArray, List.set_cons_succ, List.set_cons_zero]
    refine wpO_val (ap _ _ _ rfl rfl rfl (by kernel_rfl)) ?_
    simp only [Act.put, List.setIfInBounds_toArray, List.set_cons_succ, List.set_cons_zero]
    refine wpO_as (.slice (some ⟨d', 0, none⟩) m.length m.length) (by kernel_rfl) ?_
    simp only [Act.put, List.setIfInBounds_toArray, List.set_cons_succ, List.set_cons_zero]
    exact cw_ret good (ret_one (.slice (some ⟨d', 0, none⟩) m.length m.length) (by kernel_rfl) ⟨F2, h2, S2⟩)
set_option maxHeartbeats 8000000 in
/-- Map.Runs. -/
theorem runs_call {v : Value} {m : List Sp} {J : Asn} {F : Foot} {A : World} (hJ : Owns J) (hml : m.length < 90000) (h : ((spans v m).sep J) F A) :
    ∃ v' A' F', SndCall Try.prog n₀ 29 #[.agg #[v]] A v' A' ∧ Asn.all [spans v' m, spans v m, J] F' A' ∧ Step F A F' A' := by
  obtain ⟨F1, h1, S1⟩ := Asn.new (Owns.sep Owns.spans hJ) h v 27
  generalize hq1 : A.heap.size = q1 at h1
  generalize hA1 : A.alloc (.cells #[v] 27 (0, 0)) = A1 at h1 S1
  have g1 : A1.cell? ⟨q1, 0, none⟩ = some v := Asn.get h1
  obtain ⟨F2, h2, S2⟩ := Asn.drop h1
  obtain ⟨v', A3, F3, c3, h3, S3⟩ := clone2_call (n₀ := n₀) hJ hml h2
  suffices hw : wpF Try.prog n₀ 29 #[.agg #[v]] (fun r A' => r = v' ∧ A' = A3) A by
    obtain ⟨r, A', h1, rfl, rfl⟩ := hw
    exact ⟨_, _, F3, h1, h3, S1.trans (S2.trans S3)⟩
  refine wpF_fn (ts := #[.agg #[v], undef, undef, undef, undef, undef]) good ⟨rfl, rfl, rfl⟩ (by kernel_rfl) ?_
  refine cw_seq good (cw_region good ?_)
  refine wpO_val (aop_boxT (v := .agg #[v]) (cs := #[v]) rfl (by kernel_rfl) rfl) ?_
  rw [hq1, hA1]
  simp only [Act.put, List.setIfInBounds_toArray, List.set_cons_succ, List.set_cons_zero]
  refine wpO_as (.slice none 0 0) (by kernel_rfl) ?_
  simp only [Act.put, List.setIfInBounds_toArray, List.set_cons_succ, List.set_cons_zero]
  refine cw_seq good (cw_region good ?_)
  refine wpO_val (aop_field0 (p := (⟨q1, 0, none⟩ : Addr)) (n := 1) (g := false) rfl (by kernel_rfl) rfl rfl rfl (by decide) (by decide) rfl) ?_
  refine wpO_val (aop_load (v := v) rfl (by kernel_rfl) rfl g1) ?_
  simp only [Act.put, List.setIfInBounds_toArray, List.set_cons_succ, List.set_cons_zero]
  refine wpO_call (f := 41) (first := #[]) (cap := #[]) (l := [v]) (xs := #[v]) ⟨rfl, rfl, rfl⟩ rfl (by kernel_rfl) rfl ⟨_, _, c3, ?_⟩
  simp only [Act.put, List.setIfInBounds_toArray, List.set_cons_succ, List.set_cons_zero]
  refine wpO_as (v') (by kernel_rfl) ?_
  simp only [Act.put, List.setIfInBounds_toArray, List.set_cons_succ, List.set_cons_zero]
  exact cw_ret good (ret_one v' (by kernel_rfl) ⟨rfl, rfl⟩)
end Go.Proofs.Ytfkdkfleaiaoiaa
