/-
  The plain law of BitmapRank: spans that rise and do not touch; how many stand below a number, which one is the k-th, who is in. No program in sight, no condition.
-/
import Derived.Shelf.Sort.Plain
import Derived.Test.YtfkdkfleaiaoiaaProg
import Derived.Test.YtfkdkfleaiaoiaaBase
import Derived.Test.YtfkdkfleaiaoiaaB14
import Derived.Test.YtfkdkfleaiaoiaaB10
import Derived.Test.YtfkdkfleaiaoiaaB12
namespace Go.Proofs.Ytfkdkfleaiaoiaa
abbrev Sp := Int × Int
/-- Spans that rise, none touching the next one. -/
inductive WF : Int → List Sp → Prop
  | nil {lo : Int} : WF lo []
  | cons {lo f t : Int} {m : List Sp} (h1 : lo < f) (h2 : f < t) (h3 : t ≤ 65536) (h : WF t m) : WF lo ((f, t) :: m)
/-- A span laid behind those that are there. -/
def addSp (m : List Sp) (f t : Int) : List Sp := match m.getLast? with
  | none => if f < t then m ++ [(f, t)] else m
  | some s => if f ≤ s.2 then m.dropLast ++ [(s.1, if s.2 < t then t else s.2)] else if f < t then m ++ [(f, t)] else m
/-- Where the spans end, or what they stand above. -/
def top (lo : Int) (m : List Sp) : Int := match m.getLast? with
  | none => lo
  | some s => s.2
theorem wf_append {lo : Int} {m : List Sp} {f t : Int} (h : WF lo m) (h1 : top lo m < f) (h2 : f < t) (h3 : t ≤ 65536) : WF lo (m ++ [(f, t)]) := by
  induction h with
  | nil => exact .cons h1 h2 h3 .nil
  | @cons lo a b m g1 g2 g3 g ih =>
    refine .cons g1 g2 g3 (ih ?_)
    cases m with
    | nil => exact h1
    | cons s m =>
      have e : ∀ (lo : Int), top lo ((a, b) :: s :: m) = top b (s :: m) := fun lo => by
        unfold top
        rw [List.getLast?_cons_cons]
        cases h : (s :: m).getLast? with
        | none => simp at h
        | some s => rfl
      rw [← e]; exact h1
theorem wf_grow {lo : Int} {m : List Sp} {a b b' : Int} (h : WF lo (m ++ [(a, b)])) (h1 : b ≤ b') (h2 : b' ≤ 65536) : WF lo (m ++ [(a, b')]) := by
  induction m generalizing lo with
  | nil =>
    cases h with
    | cons g1 g2 g3 g => exact .cons g1 (by omega) h2 .nil
  | cons s m ih =>
    cases h with
    | cons g1 g2 g3 g => exact .cons g1 g2 g3 (ih g)
theorem getLast_split {m : List Sp} {s : Sp} (h : m.getLast? = some s) : m = m.dropLast ++ [s] := by
  have hne : m ≠ [] := fun e => by subst e; simp at h
  have : m.getLast hne = s := by
    rw [List.getLast?_eq_some_getLast hne] at h
    exact Option.some.inj h
  rw [← this]; exact (List.dropLast_concat_getLast hne).symm
theorem wf_top {lo : Int} {m : List Sp} {s : Sp} (h : WF lo m) (hs : m.getLast? = some s) : lo < s.1 ∧ s.1 < s.2 ∧ s.2 ≤ 65536 := by
  induction h with
  | nil => cases hs
  | @cons lo a b m g1 g2 g3 g ih =>
    cases m with
    | nil => cases hs; exact ⟨g1, g2, g3⟩
    | cons s' m =>
      have := ih (by rw [List.getLast?_cons_cons] at hs; exact hs)
      omega
theorem wf_add {lo : Int} {m : List Sp} {f t : Int} (h : WF lo m) (hf : lo < f) (ht : t ≤ 65536) : WF lo (addSp m f t) := by
  unfold addSp
  cases hm : m.getLast? with
  | none =>
    simp only
    split
    · exact wf_append h (by unfold top; rw [hm]; exact hf) ‹_› ht
    · exact h
  | some s =>
    have hw := wf_top h hm
    simp only
    split
    · have e := getLast_split hm
      have h' : WF lo (m.dropLast ++ [(s.1, s.2)]) := e ▸ h
      split
      · exact wf_grow h' (by omega) ht
      · exact wf_grow h' (by omega) hw.2.2
    · split
      · exact wf_append h (by unfold top; rw [hm]; show s.2 < f; omega) ‹_› ht
      · exact h
/-- Of numbers, whatever their order. -/
def ofL (l : List Int) : List Sp := l.foldl (fun m i => if 0 ≤ i ∧ i < 65536 then addSp m i (i + 1) else m) []
theorem wf_of (l : List Int) : WF (-1) (ofL l) := by
  have : ∀ (l : List Int) (m : List Sp), WF (-1) m → WF (-1) (l.foldl (fun m i => if 0 ≤ i ∧ i < 65536 then addSp m i (i + 1) else m) m) := by
    intro l
    induction l with
    | nil => exact fun m h => h
    | cons i l ih =>
      intro m h
      refine ih _ ?_
      show WF (-1) (if 0 ≤ i ∧ i < 65536 then addSp m i (i + 1) else m)
      split
      · exact wf_add h (by omega) (by omega)
      · exact h
  exact this l [] .nil
theorem add_len {m : List Sp} {f t : Int} : (addSp m f t).length ≤ m.length + 1 := by
  unfold addSp
  cases hm : m.getLast? with
  | none => simp only; split <;> simp
  | some s =>
    simp only
    split
    · have : m.length = m.dropLast.length + 1 := by
        have := congrArg List.length (getLast_split hm)
        simpa using this
      rw [List.length_append]; simp only [List.length_cons, List.length_nil]; omega
    · split <;> simp
theorem of_len (l : List Int) : (ofL l).length ≤ l.length := by
  have : ∀ (l : List Int) (m : List Sp), (l.foldl (fun m i => if 0 ≤ i ∧ i < 65536 then addSp m i (i + 1) else m) m).length ≤ m.length + l.length := by
    intro l
    induction l with
    | nil => exact fun m => Nat.le_refl _
    | cons i l ih =>
      intro m
      refine Nat.le_trans (ih _) ?_
      have : (if 0 ≤ i ∧ i < 65536 then addSp m i (i + 1) else m).length ≤ m.length + 1 := by
        split
        · exact add_len
        · omega
      simp only [List.length_cons]
      omega
  simpa [ofL] using this l []
def rank : List Sp → Int → Int
  | [], _ => 0
  | (f, t) :: m, i => (if f < i then (if i < t then i else t) - f else 0) + rank m i
def count (m : List Sp) : Int := rank m 65536
def has (m : List Sp) (i : Int) : Bool := m.any fun s => decide (s.1 ≤ i) && decide (i < s.2)
def sel : List Sp → Int → Int
  | [], _ => -1
  | (f, t) :: m, k => if k < t - f then f + k else sel m (k - (t - f))
theorem rank_low {lo i : Int} {m : List Sp} (h : WF lo m) (hi : i ≤ lo + 1) : rank m i = 0 := by
  induction h with
  | nil => rfl
  | @cons lo f t m h1 h2 h3 h ih =>
    simp only [rank]
    rw [if_neg (by omega), ih (by omega)]; rfl
theorem rank_nonneg {lo i : Int} {m : List Sp} (h : WF lo m) : 0 ≤ rank m i := by
  induction h with
  | nil => exact Int.le_refl _
  | @cons lo f t m h1 h2 h3 h ih =>
    simp only [rank]
    split
    · split <;> omega
    · omega
theorem count_cons {f t : Int} {m : List Sp} (h2 : f < t) (h3 : t ≤ 65536) : count ((f, t) :: m) = (t - f) + count m := by
  unfold count
  simp only [rank]
  rw [if_pos (by omega)]
  by_cases e : (65536 : Int) < t
  · omega
  · rw [if_neg e]
theorem has_low {lo i : Int} {m : List Sp} (h : WF lo m) (hi : i ≤ lo) : has m i = false := by
  induction h with
  | nil => rfl
  | @cons lo f t m h1 h2 h3 h ih =>
    have := ih (by omega)
    unfold has at this ⊢
    rw [List.any_cons, this]
    simp; omega
theorem sel_in {lo k : Int} {m : List Sp} (h : WF lo m) (hk : 0 ≤ k) (hc : k < count m) : lo < sel m k ∧ rank m (sel m k) = k ∧ has m (sel m k) = true := by
  induction h generalizing k with
  | nil => exact absurd hc (by show ¬ k < 0; omega)
  | @cons lo f t m h1 h2 h3 h ih =>
    rw [count_cons h2 h3] at hc
    simp only [sel]
    split
    · refine ⟨by omega, ?_, ?_⟩
      · simp only [rank]
        rw [rank_low h (by omega)]
        split
        · rw [if_pos (by omega)]; omega
        · omega
      · unfold has
        rw [List.any_cons]
        simp; left; omega
    · obtain ⟨g1, g2, g3⟩ := ih (k := k - (t - f)) (by omega) (by omega)
      refine ⟨by omega, ?_, ?_⟩
      · simp only [rank]
        rw [g2, if_pos (by omega), if_neg (by omega)]; omega
      · unfold has at g3 ⊢
        rw [List.any_cons, g3]; simp
theorem sel_out {lo k : Int} {m : List Sp} (h : WF lo m) (hc : count m ≤ k) : sel m k = -1 := by
  induction h generalizing k with
  | nil => rfl
  | @cons lo f t m h1 h2 h3 h ih =>
    rw [count_cons h2 h3] at hc
    have h0 : 0 ≤ count m := rank_nonneg h
    simp only [sel]
    rw [if_neg (by omega)]
    exact ih (by omega)
/-- What is below i, span by span. -/
def clip : List Sp → Int → List Sp
  | [], _ => []
  | (f, t) :: m, i => if t < i then (f, t) :: clip m i else if f < i then [(f, i)] else []
theorem count_clip {lo i : Int} {m : List Sp} (h : WF lo m) (hi : i ≤ 65536) : count (clip m i) = rank m i := by
  induction h with
  | nil => rfl
  | @cons lo f t m h1 h2 h3 h ih =>
    simp only [clip, rank]
    split
    · rw [count_cons h2 h3, ih, if_pos (by omega), if_neg (by omega)]
    · split
      · rw [count_cons ‹_› hi, rank_low h (by omega)]
        show i - f + 0 = _
        split <;> omega
      · rw [rank_low h (by omega)]; rfl
theorem rank_next {lo i : Int} {m : List Sp} (h : WF lo m) : rank m (i + 1) - rank m i = if has m i then 1 else 0 := by
  induction h with
  | nil => rfl
  | @cons lo f t m h1 h2 h3 h ih =>
    simp only [rank]
    by_cases hin : f ≤ i ∧ i < t
    · have hh : has ((f, t) :: m) i = true := by unfold has; rw [List.any_cons]; simp; left; exact hin
      rw [hh, rank_low h (by omega), rank_low h (by omega), if_pos (by omega)]
      simp only [if_true]
      split <;> split <;> (try split) <;> omega
    · have hh : has ((f, t) :: m) i = has m i := by
        unfold has; rw [List.any_cons]
        have : (decide (f ≤ i) && decide (i < t)) = false := by
          simp; omega
        rw [this]; rfl
      rw [hh, ← ih]
      split <;> split <;> (try split) <;> (try split) <;> omega
end Go.Proofs.Ytfkdkfleaiaoiaa
/-
  The kit's contract of slices.Sort at whole numbers, laid at this program (written by the kit's lay-shelf and lay-plain): the table of numbers, its facts.
-/
namespace Go.Proofs
open Go.Shelf
def Try.lays189_ren : Go.Shelf.Ren := ⟨fun | 189 => 32 | 125 => 44 | 257 => 43 | 128 => 57 | 129 => 58 | 294 => 48 | 295 => 49 | 296 => 50 | 297 => 51 | 298 => 52 | 299 => 53 | 216 => 54 | 300 => 55 | 301 => 56 | 328 => 67 | 329 => 68 | 330 => 69 | 331 => 70 | 332 => 71 | 215 => 72 | 343 => 76 | n => n, fun | 28 => 22 | 3 => 3 | 46 => 63 | 0 => 0 | 51 => 78 | 53 => 80 | 4 => 4 | 183 => 71 | 182 => 70 | 131 => 75 | 5 => 5 | 9 => 9 | 218 => 86 | 222 => 90 | 228 => 94 | 229 => 95 | n => n, fun | n => n⟩
theorem Try.lays189 : Go.Proofs.Lays.n189 Try.prog Try.lays189_ren := {
  mixed := by kernel_rfl
  f125 := Try.func44.trans (congrArg some (by kernel_rfl))
  f128 := Try.func57.trans (congrArg some (by kernel_rfl))
  f129 := Try.func58.trans (congrArg some (by kernel_rfl))
  f189 := Try.func32.trans (congrArg some (by kernel_rfl))
  f215 := Try.func72.trans (congrArg some (by kernel_rfl))
  f216 := Try.func54.trans (congrArg some (by kernel_rfl))
  f257 := Try.func43.trans (congrArg some (by kernel_rfl))
  f294 := Try.func48.trans (congrArg some (by kernel_rfl))
  f295 := Try.func49.trans (congrArg some (by kernel_rfl))
  f296 := Try.func50.trans (congrArg some (by kernel_rfl))
  f297 := Try.func51.trans (congrArg some (by kernel_rfl))
  f298 := Try.func52.trans (congrArg some (by kernel_rfl))
  f299 := Try.func53.trans (congrArg some (by kernel_rfl))
  f300 := Try.func55.trans (congrArg some (by kernel_rfl))
  f301 := Try.func56.trans (congrArg some (by kernel_rfl))
  f328 := Try.func67.trans (congrArg some (by kernel_rfl))
  f329 := Try.func68.trans (congrArg some (by kernel_rfl))
  f330 := Try.func69.trans (congrArg some (by kernel_rfl))
  f331 := Try.func70.trans (congrArg some (by kernel_rfl))
  f332 := Try.func71.trans (congrArg some (by kernel_rfl))
  f343 := Try.func76.trans (congrArg some (by kernel_rfl))
  t0 := Try.underlying0
  a0 := Try.isAgg0
  z0 := Try.sizeOf0
  v0 := Try.zeroValue0
  t3 := Try.underlying3
  a3 := Try.isAgg3
  z3 := Try.sizeOf3
  v3 := Try.zeroValue3
  t4 := Try.underlying4
  a4 := Try.isAgg4
  z4 := Try.sizeOf4
  v4 := Try.zeroValue4
  t5 := Try.underlying5
  a5 := Try.isAgg5
  z5 := Try.sizeOf5
  v5 := Try.zeroValue5
  t9 := Try.underlying9
  a9 := Try.isAgg9
  z9 := Try.sizeOf9
  v9 := Try.zeroValue9
  t28 := Try.underlying22
  a28 := Try.isAgg22
  z28 := Try.sizeOf22
  v28 := Try.zeroValue22
  t46 := Try.underlying63
  a46 := Try.isAgg63
  z46 := Try.sizeOf63
  v46 := Try.zeroValue63
  t51 := Try.underlying78
  a51 := Try.isAgg78
  z51 := Try.sizeOf78
  v51 := Try.zeroValue78
  t53 := Try.underlying80
  a53 := Try.isAgg80
  z53 := Try.sizeOf80
  v53 := Try.zeroValue80
  t131 := Try.underlying75
  a131 := Try.isAgg75
  z131 := Try.sizeOf75
  v131 := Try.zeroValue75
  t182 := Try.underlying70
  a182 := Try.isAgg70
  z182 := Try.sizeOf70
  v182 := Try.zeroValue70
  t183 := Try.underlying71
  a183 := Try.isAgg71
  z183 := Try.sizeOf71
  v183 := Try.zeroValue71
  t218 := Try.underlying86
  a218 := Try.isAgg86
  z218 := Try.sizeOf86
  v218 := Try.zeroValue86
  t222 := Try.underlying90
  a222 := Try.isAgg90
  z222 := Try.sizeOf90
  v222 := Try.zeroValue90
  t228 := Try.underlying94
  a228 := Try.isAgg94
  z228 := Try.sizeOf94
  v228 := Try.zeroValue94
  t229 := Try.underlying95
  a229 := Try.isAgg95
  z229 := Try.sizeOf95
  v229 := Try.zeroValue95 }
open Go.Sort Go.RowKit in
theorem Try.slices_Sort_int (blk off cap : Nat) (zs : List Int) (w : World) (hH : Holds (Value.int .i64) w blk off zs.toArray) (hblk : blk < w.heap.size) (hsz : zs.length < 4611686018427387904) :
    Calls Try.prog 32 #[.slice (some ⟨blk, off, none⟩) zs.length cap] w fun e w' =>
      e = .returned (.tuple #[]) ∧ ∃ n os, w' = grow (putRow (Value.int .i64) (Sort.ahead w n) blk off (zs.mergeSort fun x y => decide (x ≤ y)).toArray) os := Any.slices_Sort_int Try.lays189 blk off cap zs w hH hblk hsz
end Go.Proofs
/-
  bitmap: what its walks lean on. No condition.
-/
namespace Go.Proofs.Ytfkdkfleaiaoiaa
open Go.Abs
variable {n₀ : Nat}
set_option maxRecDepth 8000
def ptr (b : Nat) : Value := .pointer (some ⟨b, 0, none⟩)
/-- The cells of spans. -/
def cells2 (m : List Sp) : Array Value := (m.flatMap fun s => [.int .i64 s.1, .int .i64 s.2]).toArray
theorem cells2_size {m : List Sp} : (cells2 m).size = m.length * 2 := by
  unfold cells2
  induction m with
  | nil => rfl
  | cons s m ih => simp at ih ⊢; omega
theorem cells2_snoc {m : List Sp} {s : Sp} : cells2 (m ++ [s]) = cells2 m ++ #[.int .i64 s.1, .int .i64 s.2] := by
  simp [cells2]
theorem cells2_at {m : List Sp} {i : Nat} {s : Sp} (h : m[i]? = some s) : (cells2 m)[i * 2]? = some (.int .i64 s.1) ∧ (cells2 m)[i * 2 + 1]? = some (.int .i64 s.2) := by
  induction m generalizing i with
  | nil => simp at h
  | cons u m ih =>
    cases i with
    | zero => cases h; exact ⟨rfl, rfl⟩
    | succ i =>
      have := ih (i := i) (by simpa using h)
      unfold cells2 at this ⊢
      simp only [List.flatMap_cons, List.getElem?_toArray] at this ⊢
      rw [show (i + 1) * 2 = i * 2 + 2 by omega, show i * 2 + 2 + 1 = i * 2 + 1 + 2 by omega]
      simpa using this
theorem cells2_set {m : List Sp} {a b c : Int} : (cells2 (m ++ [(a, b)])).setIfInBounds (m.length * 2 + 1) (.int .i64 c) = cells2 (m ++ [(a, c)]) := by
  rw [cells2_snoc, cells2_snoc]
  apply Array.ext'
  have : (cells2 m).toList.length = m.length * 2 := by simpa using cells2_size (m := m)
  simp only [Array.toList_setIfInBounds, Array.toList_append]
  rw [List.set_append_right _ _ (by omega), this, show m.length * 2 + 1 - m.length * 2 = 1 by omega]
  rfl
/-- Spans of one's own, as the slice v has them. -/
def spans (v : Value) (m : List Sp) : Asn := lstK 42 v m.length (cells2 m)
theorem Owns.spans {v : Value} {m : List Sp} : Owns (spans v m) := Owns.lstK
theorem add_at2 (d i : Nat) : (⟨d, 0, none⟩ : Addr).add (i * 2) = ⟨d, i * 2, none⟩ := by
  unfold Addr.add
  by_cases h : i * 2 = 0
  · rw [if_pos h, h]
  · rw [if_neg h]; simp
theorem add_at1 (d i : Nat) : (⟨d, i, none⟩ : Addr).add (1 * 1) = ⟨d, i + 1, none⟩ := by
  unfold Addr.add
  rw [if_neg (by omega)]
theorem aop_field0 {P : Program} {A : World} {ρ : Operand → Value} {o : Oper} {s : TypeId} {x : Operand} {k n : Nat} {p : Addr} {fs : Array Field} {f : Field} {g : Bool} (h : o.op = .fieldAddr s x k) (hx : ρ x = .pointer (some p)) (hu : P.underlying s = some (.struct fs)) (hf : fs[k]? = some f) (h1 : tyOf P f.type n g = true) (hn : n ≠ 0) (hc : P.cellsOf f.type ≠ 0) (ho : f.offset = 0) :
    AOp P ρ o A (.value (.pointer (some p))) A := by
  have := aop_fieldAddr (A := A) h hx hu hf h1 hn hc
  rw [ho] at this
  simpa [Addr.add] using this
theorem app25 : AppTyK Try.prog 25 25 42 2 := ⟨rfl, ⟨_, rfl⟩, _, _, rfl, rfl, rfl, rfl, by decide⟩
theorem spans_some {v : Value} {m : List Sp} {s : Sp} {J : Asn} {F : Foot} {A : World} (h : ((spans v (m ++ [s])).sep J) F A) : ∃ d, v = .slice (some ⟨d, 0, none⟩) (m.length + 1) (m.length + 1) ∧ ((blk d (.cells (cells2 (m ++ [s])) 42 (1, 0))).sep J) F A := by
  have hv : ∃ d, v = .slice (some ⟨d, 0, none⟩) (m.length + 1) (m.length + 1) := by
    obtain ⟨_, _, h1, _⟩ := h
    rcases h1 with ⟨e, _⟩ | ⟨_, d, e, _⟩
    · simp at e
    · exact ⟨d, by simpa using e⟩
  obtain ⟨d, rfl⟩ := hv
  refine ⟨d, rfl, Asn.map h fun F hb => ?_⟩
  rcases hb with ⟨e, _⟩ | ⟨_, d', e, hb⟩
  · simp at e
  · injection e with e1
    cases e1; exact hb
theorem spans_none {v : Value} {J : Asn} {F : Foot} {A : World} (h : ((spans v []).sep J) F A) : v = .slice none 0 0 := by
  obtain ⟨_, _, h1, _⟩ := h
  rcases h1 with ⟨_, e, _⟩ | ⟨e, _⟩
  · exact e
  · simp at e
theorem ret_cell {fn : Func} {Q : Value → World → Prop} {e : Exit} {a : Act} {A : World} {t u : Nat} {b : Nat} {x : Value} (hr : fn.results = #[.cell t u]) (ht : a.tmps.getD t undef = ptr b) (h1 : tyOf Try.prog u 1 true = true) {tq : TypeId} {fz : Nat × Nat} (hb : A.heap[b]? = some (.cells #[x] tq fz)) (k : Q (.agg #[x]) A) (hd : a.defers = [] := by rfl) (he : e = .normal ∨ e = .ret := by first | exact .inl rfl | exact .inr rfl) : retQ Try.prog fn Q e a A := by
  refine ⟨he, hd, .agg #[x], ?_, k⟩
  have hl := Go.Abs.run_loadCells (P := Try.prog) 1 ⟨b, 0, none⟩ 0 #[] #[x] tq fz hb rfl (by simp)
  have hl' : (loadCells ⟨b, 0, none⟩ 1).run Try.prog A = .ok #[x] A := by simpa [loadCells] using hl
  have hv : (loadVar u ⟨b, 0, none⟩).run Try.prog A = .ok (.agg #[x]) A := by
    simp only [loadVar, Sem.run_bind, run_agg h1, run_szT h1, Result.andThen, if_true, hl', Sem.run_pure]
  have ha : (asAddr (ptr b)).run Try.prog A = .ok ⟨b, 0, none⟩ A := rfl
  unfold results
  rw [hr]
  have ht' : a.tmps[t]?.getD undef = ptr b := by rw [← ht, Array.getD_eq_getD_getElem?]
  simp [Sem.run_bind, Result.andThen, ht', ha, hv]
end Go.Proofs.Ytfkdkfleaiaoiaa
/-
  bitmap.Map.add. No condition.
-/
namespace Go.Proofs.Ytfkdkfleaiaoiaa
open Go.Abs
variable {n₀ : Nat}
set_option maxRecDepth 8000
theorem addSp_nil {f t : Int} : addSp [] f t = if f < t then [(f, t)] else [] := by simp [addSp]
theorem addSp_snoc {m : List Sp} {a b f t : Int} : addSp (m ++ [(a, b)]) f t = if f ≤ b then m ++ [(a, if b < t then t else b)] else if f < t then m ++ [(a, b)] ++ [(f, t)] else m ++ [(a, b)] := by simp [addSp]
set_option maxHeartbeats 8000000 in
/-- (*Map).add: a span laid behind those that are there. -/
theorem add_call {mb : Nat} {v : Value} {m : List Sp} {f t : Int} {J : Asn} {F : Foot} {A : World} (oJ : Owns J) (hm : m.length < 100000) (h : Asn.all [cel mb v, spans v m, J] F A) :
    ∃ v' A' F', SndCall Try.prog n₀ 33 #[ptr mb, .int .i64 f, .int .i64 t] A undef A' ∧ Asn.all [cel mb v', spans v' (addSp m f t), J] F' A' ∧ Step F A F' A' := by
  suffices hw : wpF Try.prog n₀ 33 #[ptr mb, .int .i64 f, .int .i64 t] (fun r A' => r = undef ∧ ∃ v' F', Asn.all [cel mb v', spans v' (addSp m f t), J] F' A' ∧ Step F A F' A') A by
    obtain ⟨r, A', h1, rfl, v', F', h2, h3⟩ := hw
    exact ⟨v', A', F', h1, h2, h3⟩
  have gm : A.cell? ⟨mb, 0, none⟩ = some v := Asn.get h
  have sm : A.frozen? ⟨mb, 0, none⟩ = false := Asn.soft h
  have hs := Asn.perm _ [1, 0, 2] h (by decide)
  rcases List.eq_nil_or_concat m with rfl | ⟨m, s, rfl⟩
  case inl =>
    obtain rfl := spans_none hs
    refine wpF_fn (ts := #[ptr mb, .int .i64 f, .int .i64 t, undef, undef, undef, undef, undef, undef, undef, undef, undef, undef, undef, undef, undef, undef, undef, undef, undef, undef, undef, undef, undef, undef, undef, undef, undef, undef, undef, undef, undef, undef, undef, undef, undef, undef, undef, undef, undef, undef, undef, undef, undef, undef, undef, undef, undef, undef, undef, undef, undef, undef, undef, undef, undef, undef, undef, undef, undef, undef]) good ⟨rfl, rfl, rfl⟩ (by kernel_rfl) ?_
    refine cw_seq good (cw_region good ?_)
    refine wpO_mv (ptr mb) (by kernel_rfl) ?_
    refine wpO_val (aop_nilCheck (p := (⟨mb, 0, none⟩ : Addr)) rfl (by kernel_rfl)) ?_
    refine wpO_val (aop_field0 (p := (⟨mb, 0, none⟩ : Addr)) (n := 1) (g := false) rfl (by kernel_rfl) rfl rfl rfl (by decide) (by decide) rfl) ?_
    simp only [Act.put, List.setIfInBounds_toArray, List.set_cons_succ, List.set_cons_zero]
    refine wpO_val (aop_load (v := .slice none 0 0) rfl (by kernel_rfl) rfl gm) ?_
    refine wpO_val (aop_lenV (b := none) (len := 0) (cap := 0) rfl rfl rfl rfl (by kernel_rfl) rfl) ?_
    refine wpO_as (.int .i64 0) (by kernel_rfl) ?_
    simp only [Act.put, List.setIfInBounds_toArray, List.set_cons_succ, List.set_cons_zero]
    refine cw_seq good (cw_region good ?_)
    refine wpO_mv (.int .i64 0) (by kernel_rfl) ?_
    refine wpO_val (aop_int (k := .i64) (m := 0) (n := 0) (v := .bool false) rfl (by kernel_rfl) (by kernel_rfl) rfl) ?_
    refine wpO_mv (.bool false) (by kernel_rfl) ?_
    simp only [Act.put, List.setIfInBounds_toArray, List.set_cons_succ, List.set_cons_zero]
    with_reducible refine wpO_not ?_ (hw := by kernel_rfl)
    with_reducible refine wpO_not ?_ (hw := by kernel_rfl)
    with_reducible refine wpO_not ?_ (hw := by kernel_rfl)
    simp only [Act.put, List.setIfInBounds_toArray, List.set_cons_succ, List.set_cons_zero]
    with_reducible refine wpO_not ?_ (hw := by kernel_rfl)
    with_reducible refine wpO_not ?_ (hw := by kernel_rfl)
    with_reducible refine wpO_not ?_ (hw := by kernel_rfl)
    simp only [Act.put, List.setIfInBounds_toArray, List.set_cons_succ, List.set_cons_zero]
    with_reducible refine wpO_not ?_ (hw := by kernel_rfl)
    with_reducible refine wpO_not ?_ (hw := by kernel_rfl)
    with_reducible refine wpO_not ?_ (hw := by kernel_rfl)
    simp only [Act.put, List.setIfInBounds_toArray, List.set_cons_succ, List.set_cons_zero]
    with_reducible refine wpO_not ?_ (hw := by kernel_rfl)
    with_reducible refine wpO_not ?_ (hw := by kernel_rfl)
    refine wpO_val (aop_picks (b := false) (v := .bool false) rfl (by kernel_rfl) (by kernel_rfl)) ?_
    simp only [Act.put, List.setIfInBounds_toArray, List.set_cons_succ, List.set_cons_zero]
    refine cw_cond good false (by kernel_rfl) ?_
    refine cw_seq good (cw_region good ?_)
    refine wpO_mv (.int .i64 f) (by kernel_rfl) ?_
    refine wpO_mv (.int .i64 t) (by kernel_rfl) ?_
    refine wpO_val (aop_int (k := .i64) (m := f) (n := t) (v := .bool (decide (f < t))) rfl (by kernel_rfl) (by kernel_rfl) rfl) ?_
    simp only [Act.put, List.setIfInBounds_toArray, List.set_cons_succ, List.set_cons_zero]
    by_cases hft : f < t
    · obtain ⟨v', A2, F2, ap, h2, S2⟩ := lstK_grow1 app25 (x := #[.int .i64 f, .int .i64 t]) (Owns.sep Owns.cel oJ) hs cells2_size rfl rfl (by simp only [List.length_nil]; omega)
      have ho' : isOne v' = true := by
        obtain ⟨_, _, h1, _⟩ := h2
        rcases h1 with ⟨_, e, _⟩ | ⟨_, d', e, _⟩ <;> (subst e; rfl)
      have h5 := Asn.perm [lstK 42 v' (([] : List Sp).length + 1) (cells2 [] ++ #[Value.int .i64 f, Value.int .i64 t]), cel mb (.slice none 0 0), J] [1, 0, 2] h2 (by decide)
      refine cw_cond good true (congrArg Value.bool (decide_eq_true hft)) ?_
      refine cw_region good ?_
      refine wpO_mv (ptr mb) (by kernel_rfl) ?_
      refine wpO_mv (ptr mb) (by kernel_rfl) ?_
      refine wpO_val (aop_nilCheck (p := (⟨mb, 0, none⟩ : Addr)) rfl (by kernel_rfl)) ?_
      simp only [Act.put, List.setIfInBounds_toArray, List.set_cons_succ, List.set_cons_zero]
      refine wpO_val (aop_field0 (p := (⟨mb, 0, none⟩ : Addr)) (n := 1) (g := false) rfl (by kernel_rfl) rfl rfl rfl (by decide) (by decide) rfl) ?_
      refine wpO_val (aop_load (v := .slice none 0 0) rfl (by kernel_rfl) rfl gm) ?_
      refine wpO_mv (.int .i64 f) (by kernel_rfl) ?_
      simp only [Act.put, List.setIfInBounds_toArray, List.set_cons_succ, List.set_cons_zero]
      refine wpO_mv (.int .i64 t) (by kernel_rfl) ?_
      refine wpO_val (aop_build2 (v := .int .i64 f) (v' := .int .i64 t) rfl (by kernel_rfl) (by kernel_rfl) rfl rfl rfl rfl rfl rfl rfl) ?_
      refine wpO_val (aop_sliceT2 (v := .int .i64 f) (v' := .int .i64 t) rfl (by kernel_rfl) rfl rfl rfl rfl rfl) ?_
      simp only [Act.put, List.setIfInBounds_toArray, List.set_cons_succ, List.set_cons_zero]
      refine wpO_val (ap _ _ _ rfl rfl rfl (by kernel_rfl)) ?_
      simp only [Act.put, List.setIfInBounds_toArray, List.set_cons_succ, List.set_cons_zero]
      refine wpO_val (aop_nilCheck (p := (⟨mb, 0, none⟩ : Addr)) rfl (by kernel_rfl)) ?_
      refine wpO_val (aop_field0 (p := (⟨mb, 0, none⟩ : Addr)) (n := 1) (g := false) rfl (by kernel_rfl) rfl rfl rfl (by decide) (by decide) rfl) ?_
      simp only [Act.put, List.setIfInBounds_toArray, List.set_cons_succ, List.set_cons_zero]
      refine wpO_unit (aop_store (v := v') (p := ⟨mb, 0, none⟩) rfl (by kernel_rfl) (by kernel_rfl) rfl ho' (Asn.get h5) (Asn.soft h5)) ?_
      obtain ⟨h6, S6⟩ := Asn.put (Owns.sep Owns.lstK oJ) h5 v'
      refine ret_none ⟨rfl, v', F2, ?_, S2.trans S6⟩
      rw [addSp_nil, if_pos hft]
      exact h6
    · refine cw_cond good false (congrArg Value.bool (decide_eq_false hft)) (cw_skip good ?_)
      refine ret_none ⟨rfl, .slice none 0 0, F, ?_, .refl⟩
      rw [addSp_nil, if_neg hft]
      exact h
  case inr =>
    obtain ⟨a, b⟩ := s
    simp only [List.concat_eq_append] at h hs hm ⊢
    have hml : m.length + 1 < 100000 := by simpa using hm
    obtain ⟨d, rfl, hb⟩ := spans_some hs
    have hcs : (cells2 (m ++ [(a, b)]))[m.length * 2 + 1]? = some (.int .i64 b) := (cells2_at (m := m ++ [(a, b)]) (i := m.length) (s := (a, b)) (by simp)).2
    have gb : A.cell? ⟨d, m.length * 2 + 1, none⟩ = some (.int .i64 b) := Asn.cellAt hb hcs
    have sb : A.frozen? ⟨d, m.length * 2 + 1, none⟩ = false := Asn.softAt hb (.inr rfl)
    refine wpF_fn (ts := #[ptr mb, .int .i64 f, .int .i64 t, undef, undef, undef, undef, undef, undef, undef, undef, undef, undef, undef, undef, undef, undef, undef, undef, undef, undef, undef, undef, undef, undef, undef, undef, undef, undef, undef, undef, undef, undef, undef, undef, undef, undef, undef, undef, undef, undef, undef, undef, undef, undef, undef, undef, undef, undef, undef, undef, undef, undef, undef, undef, undef, undef, undef, undef, undef, undef]) good ⟨rfl, rfl, rfl⟩ (by kernel_rfl) ?_
    refine cw_seq good (cw_region good ?_)
    refine wpO_mv (ptr mb) (by kernel_rfl) ?_
    refine wpO_val (aop_nilCheck (p := (⟨mb, 0, none⟩ : Addr)) rfl (by kernel_rfl)) ?_
    refine wpO_val (aop_field0 (p := (⟨mb, 0, none⟩ : Addr)) (n := 1) (g := false) rfl (by kernel_rfl) rfl rfl rfl (by decide) (by decide) rfl) ?_
    simp only [Act.put, List.setIfInBounds_toArray, List.set_cons_succ, List.set_cons_zero]
    refine wpO_val (aop_load (v := .slice (some ⟨d, 0, none⟩) (m.length + 1) (m.length + 1)) rfl (by kernel_rfl) rfl gm) ?_
    refine wpO_val (aop_lenV (b := (some ⟨d, 0, none⟩)) (len := (m.length + 1)) (cap := (m.length + 1)) rfl rfl rfl rfl (by kernel_rfl) rfl) ?_
    refine wpO_as (.int .i64 (m.length + 1)) (by kernel_rfl) ?_
    simp only [Act.put, List.setIfInBounds_toArray, List.set_cons_succ, List.set_cons_zero]
    have gb2 : A.cell? (((⟨d, 0, none⟩ : Addr).add (m.length * 2)).add (1 * 1)) = some (.int .i64 b) := by rw [add_at2, add_at1]; exact gb
    refine cw_seq good (cw_region good ?_)
    refine wpO_mv (.int .i64 (m.length + 1 : Nat)) (by kernel_rfl) ?_
    refine wpO_val (aop_int (k := .i64) (m := (m.length + 1 : Nat)) (n := 0) (v := .bool true) rfl (by kernel_rfl) (by kernel_rfl) (by simp [intV] <;> omega)) ?_
    refine wpO_mv (.bool true) (by kernel_rfl) ?_
    simp only [Act.put, List.setIfInBounds_toArray, List.set_cons_succ, List.set_cons_zero]
    with_reducible refine wpO_mv (.int .i64 f) (by kernel_rfl) ?_ (hw := by kernel_rfl)
    simp only [Act.put, List.setIfInBounds_toArray, List.set_cons_succ, List.set_cons_zero]
    with_reducible refine wpO_mv (ptr mb) (by kernel_rfl) ?_ (hw := by kernel_rfl)
    simp only [Act.put, List.setIfInBounds_toArray, List.set_cons_succ, List.set_cons_zero]
    with_reducible refine wpO_val (v := .pointer (some (⟨mb, 0, none⟩ : Addr))) (A1 := A) ?_ ?_ (hw := by kernel_rfl)
    · exact aop_nilCheck (p := (⟨mb, 0, none⟩ : Addr)) rfl (by kernel_rfl)
    simp only [Act.put, List.setIfInBounds_toArray, List.set_cons_succ, List.set_cons_zero]
    with_reducible refine wpO_val (v := .pointer (some (⟨mb, 0, none⟩ : Addr))) (A1 := A) ?_ ?_ (hw := by kernel_rfl)
    · exact aop_field0 (p := (⟨mb, 0, none⟩ : Addr)) (n := 1) (g := false) rfl (by kernel_rfl) rfl rfl rfl (by decide) (by decide) rfl
    simp only [Act.put, List.setIfInBounds_toArray, List.set_cons_succ, List.set_cons_zero]
    with_reducible refine wpO_val (v := .slice (some ⟨d, 0, none⟩) (m.length + 1) (m.length + 1)) (A1 := A) ?_ ?_ (hw := by kernel_rfl)
    · exact aop_load (v := .slice (some ⟨d, 0, none⟩) (m.length + 1) (m.length + 1)) rfl (by kernel_rfl) rfl gm
    simp only [Act.put, List.setIfInBounds_toArray, List.set_cons_succ, List.set_cons_zero]
    with_reducible refine wpO_mv (.int .i64 (m.length + 1 : Nat)) (by kernel_rfl) ?_ (hw := by kernel_rfl)
    simp only [Act.put, List.setIfInBounds_toArray, List.set_cons_succ, List.set_cons_zero]
    with_reducible refine wpO_val (v := .int .i64 m.length) (A1 := A) ?_ ?_ (hw := by kernel_rfl)
    · exact aop_int (k := .i64) (m := (m.length + 1 : Nat)) (n := 1) (v := .int .i64 m.length) rfl (by kernel_rfl) (by kernel_rfl) (intV_sub (by omega) (by omega) (by omega))
    simp only [Act.put, List.setIfInBounds_toArray, List.set_cons_succ, List.set_cons_zero]
    with_reducible refine wpO_val (v := .pointer (some ((⟨d, 0, none⟩ : Addr).add (m.length * 2)))) (A1 := A) ?_ ?_ (hw := by kernel_rfl)
    · exact aop_indexT (k := .i64) (len := m.length + 1) (cap := m.length + 1) (i := m.length) (p := ⟨d, 0, none⟩) (n := 2) (g := true) rfl (by kernel_rfl) (by kernel_rfl) rfl rfl (by omega)
    simp only [Act.put, List.setIfInBounds_toArray, List.set_cons_succ, List.set_cons_zero]
    with_reducible refine wpO_val (v := .pointer (some (((⟨d, 0, none⟩ : Addr).add (m.length * 2)).add (1 * 1)))) (A1 := A) ?_ ?_ (hw := by kernel_rfl)
    · exact aop_indexA (k := .i64) (len := 2) (i := 1) (p := (⟨d, 0, none⟩ : Addr).add (m.length * 2)) (n := 1) (g := false) rfl (by kernel_rfl) (by kernel_rfl) rfl rfl (by decide)
    simp only [Act.put, List.setIfInBounds_toArray, List.set_cons_succ, List.set_cons_zero]
    with_reducible refine wpO_val (v := .int .i64 b) (A1 := A) ?_ ?_ (hw := by kernel_rfl)
    · exact aop_load (v := .int .i64 b) rfl (by kernel_rfl) rfl gb2
    simp only [Act.put, List.setIfInBounds_toArray, List.set_cons_succ, List.set_cons_zero]
    with_reducible refine wpO_val (v := .bool (decide (f ≤ b))) (A1 := A) ?_ ?_ (hw := by kernel_rfl)
    · exact aop_int (k := .i64) (m := f) (n := b) (v := .bool (decide (f ≤ b))) rfl (by kernel_rfl) (by kernel_rfl) rfl
    refine wpO_val (aop_picks (b := true) (v := .bool (decide (f ≤ b))) rfl (by kernel_rfl) (by kernel_rfl)) ?_
    simp only [Act.put, List.setIfInBounds_toArray, List.set_cons_succ, List.set_cons_zero]
    by_cases hfb : f ≤ b
    · refine cw_cond good true (congrArg Value.bool (decide_eq_true hfb)) ?_
      have sb2 : A.frozen? (((⟨d, 0, none⟩ : Addr).add (m.length * 2)).add (1 * 1)) = false := by rw [add_at2, add_at1]; exact sb
      refine ca_draw good [ptr mb, .pointer (some ⟨mb, 0, none⟩), .pointer (some ⟨mb, 0, none⟩), .slice (some ⟨d, 0, none⟩) (m.length + 1) (m.length + 1), .int .i64 (m.length + 1 : Nat), .int .i64 m.length, ptr mb, .pointer (some ⟨mb, 0, none⟩), .pointer (some ⟨mb, 0, none⟩), .slice (some ⟨d, 0, none⟩) (m.length + 1) (m.length + 1), .int .i64 (m.length + 1 : Nat), .int .i64 m.length, .pointer (some ((⟨d, 0, none⟩ : Addr).add (m.length * 2))), .pointer (some (((⟨d, 0, none⟩ : Addr).add (m.length * 2)).add (1 * 1))), .int .i64 b, .int .i64 t, .int .i64 (if b < t then t else b), .pointer (some ((⟨d, 0, none⟩ : Addr).add (m.length * 2))), .pointer (some (((⟨d, 0, none⟩ : Addr).add (m.length * 2)).add (1 * 1))), undef] [A, A, A, A, A, A, A, A, A, A, A, A, A, A, A, A, A, A, A, A, A.setCell (((⟨d, 0, none⟩ : Addr).add (m.length * 2)).add (1 * 1)) (.int .i64 (if b < t then t else b))] (by kernel_rfl) rfl ?_ ⟨#[ptr mb, .int .i64 f, .int .i64 t, undef, undef, undef, .int .i64 (m.length + 1), ptr mb, .pointer (some (⟨mb, 0, none⟩ : Addr)), .pointer (some (⟨mb, 0, none⟩ : Addr)), .slice (some ⟨d, 0, none⟩) (m.length + 1) (m.length + 1), .int .i64 (m.length + 1), .int .i64 (m.length + 1 : Nat), .bool true, .bool true, .int .i64 f, ptr mb, .pointer (some (⟨mb, 0, none⟩ : Addr)), .pointer (some (⟨mb, 0, none⟩ : Addr)), .slice (some ⟨d, 0, none⟩) (m.length + 1) (m.length + 1), .int .i64 (m.length + 1 : Nat), .int .i64 m.length, .pointer (some ((⟨d, 0, none⟩ : Addr).add (m.length * 2))), .pointer (some (((⟨d, 0, none⟩ : Addr).add (m.length * 2)).add (1 * 1))), .int .i64 b, .bool (decide (f ≤ b)), .bool (decide (f ≤ b)), ptr mb, .pointer (some ⟨mb, 0, none⟩), .pointer (some ⟨mb, 0, none⟩), .slice (some ⟨d, 0, none⟩) (m.length + 1) (m.length + 1), .int .i64 (m.length + 1 : Nat), .int .i64 m.length, ptr mb, .pointer (some ⟨mb, 0, none⟩), .pointer (some ⟨mb, 0, none⟩), .slice (some ⟨d, 0, none⟩) (m.length + 1) (m.length + 1), .int .i64 (m.length + 1 : Nat), .int .i64 m.length, .pointer (some ((⟨d, 0, none⟩ : Addr).add (m.length * 2))), .pointer (some (((⟨d, 0, none⟩ : Addr).add (m.length * 2)).add (1 * 1))), .int .i64 b, .int .i64 t, .int .i64 (if b < t then t else b), .pointer (some ((⟨d, 0, none⟩ : Addr).add (m.length * 2))), .pointer (some (((⟨d, 0, none⟩ : Addr).add (m.length * 2)).add (1 * 1))), undef, undef, undef, undef, undef, undef, undef, undef, undef, undef, undef, undef, undef, undef, undef], []⟩ _ (by kernel_rfl) rfl ?_
      · intro jj o ho
        match jj, ho with
        | 0, ho => cases ho; exact sa_quiet rfl [19] (all1 (aop_mv rfl (by kernel_rfl))) rfl
        | 1, ho => cases ho; exact sa_quiet rfl [19] (all1 (aop_nilCheck (p := (⟨mb, 0, none⟩ : Addr)) rfl (by kernel_rfl))) rfl
        | 2, ho => cases ho; exact sa_quiet rfl [19] (all1 (aop_field0 (p := (⟨mb, 0, none⟩ : Addr)) (n := 1) (g := false) rfl (by kernel_rfl) rfl rfl rfl (by decide) (by decide) rfl)) rfl
        | 3, ho => cases ho; exact sa_quiet rfl [19] (all1 (aop_load (p := (⟨mb, 0, none⟩ : Addr)) rfl (by kernel_rfl) rfl gm)) rfl
        | 4, ho => cases ho; exact sa_quiet rfl [19] (all1 (aop_mv rfl (by kernel_rfl))) rfl
        | 5, ho => cases ho; exact sa_quiet rfl [19] (all1 (aop_int (k := .i64) (m := (m.length + 1 : Nat)) (n := 1) rfl (by kernel_rfl) (by kernel_rfl) (intV_sub (by omega) (by omega) (by omega)))) rfl
        | 6, ho => cases ho; exact sa_quiet rfl [19] (all1 (aop_mv rfl (by kernel_rfl))) rfl
        | 7, ho => cases ho; exact sa_quiet rfl [19] (all1 (aop_nilCheck (p := (⟨mb, 0, none⟩ : Addr)) rfl (by kernel_rfl))) rfl
        | 8, ho => cases ho; exact sa_quiet rfl [19] (all1 (aop_field0 (p := (⟨mb, 0, none⟩ : Addr)) (n := 1) (g := false) rfl (by kernel_rfl) rfl rfl rfl (by decide) (by decide) rfl)) rfl
        | 9, ho => cases ho; exact sa_quiet rfl [19] (all1 (aop_load (p := (⟨mb, 0, none⟩ : Addr)) rfl (by kernel_rfl) rfl gm)) rfl
        | 10, ho => cases ho; exact sa_quiet rfl [19] (all1 (aop_mv rfl (by kernel_rfl))) rfl
        | 11, ho => cases ho; exact sa_quiet rfl [19] (all1 (aop_int (k := .i64) (m := (m.length + 1 : Nat)) (n := 1) rfl (by kernel_rfl) (by kernel_rfl) (intV_sub (by omega) (by omega) (by omega)))) rfl
        | 12, ho => cases ho; exact sa_quiet rfl [19] (all1 (aop_indexT (k := .i64) (len := m.length + 1) (cap := m.length + 1) (i := m.length) (p := ⟨d, 0, none⟩) (n := 2) (g := true) rfl (by kernel_rfl) (by kernel_rfl) rfl rfl (by omega))) rfl
        | 13, ho => cases ho; exact sa_quiet rfl [19] (all1 (aop_indexA (k := .i64) (len := 2) (i := 1) (p := (⟨d, 0, none⟩ : Addr).add (m.length * 2)) (n := 1) (g := false) rfl (by kernel_rfl) (by kernel_rfl) rfl rfl (by decide))) rfl
        | 14, ho => cases ho; exact sa_quiet rfl [19] (all1 (aop_load (p := ((⟨d, 0, none⟩ : Addr).add (m.length * 2)).add (1 * 1)) rfl (by kernel_rfl) rfl gb2)) rfl
        | 15, ho => cases ho; exact sa_quiet rfl [19] (all1 (aop_mv rfl (by kernel_rfl))) rfl
        | 16, ho => cases ho; exact sa_quiet rfl [19] (all1 (aop_max (k := .i64) (m := b) (n := t) rfl rfl (by kernel_rfl) (by kernel_rfl))) rfl
        | 17, ho => cases ho; exact sa_quiet rfl [19] (all1 (aop_indexT (k := .i64) (len := m.length + 1) (cap := m.length + 1) (i := m.length) (p := ⟨d, 0, none⟩) (n := 2) (g := true) rfl (by kernel_rfl) (by kernel_rfl) rfl rfl (by omega))) rfl
        | 18, ho => cases ho; exact sa_quiet rfl [19] (all1 (aop_indexA (k := .i64) (len := 2) (i := 1) (p := (⟨d, 0, none⟩ : Addr).add (m.length * 2)) (n := 1) (g := false) rfl (by kernel_rfl) (by kernel_rfl) rfl rfl (by decide))) rfl
        | 19, ho => cases ho; exact sa_acts rfl ⟨_, _, aop_store (p := ((⟨d, 0, none⟩ : Addr).add (m.length * 2)).add (1 * 1)) (v := .int .i64 (if b < t then t else b)) rfl (by kernel_rfl) (by kernel_rfl) rfl rfl gb2 sb2, rfl, rfl⟩
        | n + 20, ho => simp at ho
      obtain ⟨h6, S6⟩ := Asn.putAt (i := m.length * 2 + 1) (Owns.sep Owns.cel oJ) hb (.inr rfl) (.int .i64 (if b < t then t else b))
      rw [cells2_set] at h6
      rw [add_at2, add_at1]
      refine ret_none ⟨rfl, .slice (some ⟨d, 0, none⟩) (m.length + 1) (m.length + 1), F, ?_, S6⟩
      rw [addSp_snoc, if_pos hfb]
      refine Asn.perm [spans (.slice (some ⟨d, 0, none⟩) (m.length + 1) (m.length + 1)) (m ++ [(a, if b < t then t else b)]), cel mb (.slice (some ⟨d, 0, none⟩) (m.length + 1) (m.length + 1)), J] [1, 0, 2] (Asn.map h6 fun F hb => .inr ⟨by simp, d, by simp, hb⟩) (by decide)
    · refine cw_cond good false (congrArg Value.bool (decide_eq_false hfb)) ?_
      refine cw_seq good (cw_region good ?_)
      refine wpO_mv (.int .i64 f) (by kernel_rfl) ?_
      refine wpO_mv (.int .i64 t) (by kernel_rfl) ?_
      refine wpO_val (aop_int (k := .i64) (m := f) (n := t) (v := .bool (decide (f < t))) rfl (by kernel_rfl) (by kernel_rfl) rfl) ?_
      simp only [Act.put, List.setIfInBounds_toArray, List.set_cons_succ, List.set_cons_zero]
      by_cases hft : f < t
      · obtain ⟨v', A2, F2, ap, h2, S2⟩ := lstK_grow1 app25 (x := #[.int .i64 f, .int .i64 t]) (Owns.sep Owns.cel oJ) hs cells2_size rfl rfl (by simp only [List.length_append, List.length_cons, List.length_nil]; omega)
        have ho' : isOne v' = true := by
          obtain ⟨_, _, h1, _⟩ := h2
          rcases h1 with ⟨_, e, _⟩ | ⟨_, d', e, _⟩ <;> (subst e; rfl)
        have h5 := Asn.perm [lstK 42 v' ((m ++ [(a, b)]).length + 1) (cells2 (m ++ [(a, b)]) ++ #[Value.int .i64 f, Value.int .i64 t]), cel mb (.slice (some ⟨d, 0, none⟩) (m.length + 1) (m.length + 1)), J] [1, 0, 2] h2 (by decide)
        refine cw_cond good true (congrArg Value.bool (decide_eq_true hft)) ?_
        refine cw_region good ?_
        refine wpO_mv (ptr mb) (by kernel_rfl) ?_
        refine wpO_mv (ptr mb) (by kernel_rfl) ?_
        refine wpO_val (aop_nilCheck (p := (⟨mb, 0, none⟩ : Addr)) rfl (by kernel_rfl)) ?_
        simp only [Act.put, List.setIfInBounds_toArray, List.set_cons_succ, List.set_cons_zero]
        refine wpO_val (aop_field0 (p := (⟨mb, 0, none⟩ : Addr)) (n := 1) (g := false) rfl (by kernel_rfl) rfl rfl rfl (by decide) (by decide) rfl) ?_
        refine wpO_val (aop_load (v := .slice (some ⟨d, 0, none⟩) (m.length + 1) (m.length + 1)) rfl (by kernel_rfl) rfl gm) ?_
        refine wpO_mv (.int .i64 f) (by kernel_rfl) ?_
        simp only [Act.put, List.setIfInBounds_toArray, List.set_cons_succ, List.set_cons_zero]
        refine wpO_mv (.int .i64 t) (by kernel_rfl) ?_
        refine wpO_val (aop_build2 (v := .int .i64 f) (v' := .int .i64 t) rfl (by kernel_rfl) (by kernel_rfl) rfl rfl rfl rfl rfl rfl rfl) ?_
        refine wpO_val (aop_sliceT2 (v := .int .i64 f) (v' := .int .i64 t) rfl (by kernel_rfl) rfl rfl rfl rfl rfl) ?_
        simp only [Act.put, List.setIfInBounds_toArray, List.set_cons_succ, List.set_cons_zero]
        refine wpO_val (ap _ _ _ rfl rfl rfl (by kernel_rfl)) ?_
        simp only [Act.put, List.setIfInBounds_toArray, List.set_cons_succ, List.set_cons_zero]
        refine wpO_val (aop_nilCheck (p := (⟨mb, 0, none⟩ : Addr)) rfl (by kernel_rfl)) ?_
        refine wpO_val (aop_field0 (p := (⟨mb, 0, none⟩ : Addr)) (n := 1) (g := false) rfl (by kernel_rfl) rfl rfl rfl (by decide) (by decide) rfl) ?_
        simp only [Act.put, List.setIfInBounds_toArray, List.set_cons_succ, List.set_cons_zero]
        refine wpO_unit (aop_store (v := v') (p := ⟨mb, 0, none⟩) rfl (by kernel_rfl) (by kernel_rfl) rfl ho' (Asn.get h5) (Asn.soft h5)) ?_
        obtain ⟨h6, S6⟩ := Asn.put (Owns.sep Owns.lstK oJ) h5 v'
        refine ret_none ⟨rfl, v', F2, ?_, S2.trans S6⟩
        rw [addSp_snoc, if_neg hfb, if_pos hft]
        refine Asn.perm [spans v' (m ++ [(a, b)] ++ [(f, t)]), cel mb v', J] [1, 0, 2] ?_ (by decide)
        refine Asn.perm [cel mb v', spans v' (m ++ [(a, b)] ++ [(f, t)]), J] [1, 0, 2] ?_ (by decide)
        unfold spans
        have el : (m ++ [(a, b)] ++ [(f, t)]).length = (m ++ [(a, b)]).length + 1 := by simp
        rw [cells2_snoc (m := m ++ [(a, b)]), el]
        exact h6
      · refine cw_cond good false (congrArg Value.bool (decide_eq_false hft)) (cw_skip good ?_)
        refine ret_none ⟨rfl, .slice (some ⟨d, 0, none⟩) (m.length + 1) (m.length + 1), F, ?_, .refl⟩
        rw [addSp_snoc, if_neg hfb, if_neg hft]
        exact h
end Go.Proofs.Ytfkdkfleaiaoiaa
/-
  cut, slices.Clone, slices.Sort; begun. No condition.
-/
namespace Go.Proofs.Ytfkdkfleaiaoiaa
open Go.Abs Go.RowKit
variable {n₀ : Nat}
set_option maxRecDepth 8000
theorem ro_block {A : World} {e : TypeId} {b : Nat} (h : RoB A b) : ∃ cs t' fz, A.heap[b]? = some (.cells cs t' fz) ∧ fz ≠ (2, 0) ∧ (fz = (1, 0) → Try.prog.cellsOf e = Try.prog.cellsOf t') := by
  obtain ⟨cs, t, n, h1, h2⟩ := h
  exact ⟨cs, t, (0, n), h1, by simp, by simp⟩
theorem slice0 {p : Option Addr} {h cap : Nat} : Value.slice (if cap = 0 then p else p.map (·.add (0 * 1))) (h - 0) (cap - 0) = .slice p h cap := by
  have e : p.map (·.add (0 * 1)) = p := by cases p <;> simp [Addr.add]
  rw [e]; simp
theorem cut_call {A : World} {p : Option Addr} {n c : Nat} (hc : n ≤ c) (hb : ∀ ad, p = some ad → RoB A ad.block) : SndCall Try.prog n₀ 10 #[.slice p n c] A (.slice p (min n 60) c) A := by
  have : wpF Try.prog n₀ 10 #[.slice p n c] (fun v A' => v = .slice p (min n 60) c ∧ A' = A) A := by
    refine wpF_fn (ts := #[.slice p n c, undef, undef, undef, undef, undef, undef, undef, undef]) good ⟨rfl, rfl, rfl⟩ (by kernel_rfl) ?_
    refine cw_seq good (cw_region good ?_)
    refine wpO_as (.slice none 0 0) rfl ?_
    refine cw_seq good (cw_seq good (cw_region good ?_))
    refine wpO_mv (.slice p n c) rfl ?_
    refine wpO_val (aop_len rfl rfl rfl rfl rfl) ?_
    refine wpO_val (aop_int (k := .i64) (m := n) (n := 60) rfl rfl rfl rfl) ?_
    simp only [Act.put, List.setIfInBounds_toArray, List.set_cons_succ, List.set_cons_zero]
    by_cases h : n > 60
    · refine cw_cond good true (congrArg Value.bool (by simp; omega)) ?_
      refine cw_seq good (cw_region good ?_)
      refine wpO_mv (.slice p n c) rfl ?_
      refine wpO_val (aop_slice (k := .i64) (l := 0) (h := 60) rfl rfl rfl rfl (.inl ⟨rfl, rfl⟩) rfl (by omega) (by omega) hc fun a ha => ro_block (hb a ha)) ?_
      rw [slice0]
      refine wpO_as (.slice p 60 c) rfl ?_
      exact cw_ret good (ret_one (.slice p 60 c) rfl ⟨by rw [Nat.min_eq_right (by omega)], rfl⟩)
    · refine cw_cond good false (congrArg Value.bool (by simp; omega)) (cw_skip good ?_)
      refine cw_seq good (cw_region good ?_)
      refine wpO_mv (.slice p n c) rfl ?_
      refine wpO_as (.slice p n c) rfl ?_
      exact cw_ret good (ret_one (.slice p n c) rfl ⟨by rw [Nat.min_eq_left (by omega)], rfl⟩)
  obtain ⟨v, A1, h1, rfl, rfl⟩ := this
  exact h1
/-- A list of one's own: nil, empty, or grown. -/
def own3 (v : Value) (l : List Int) : Asn := fun F A => lstV 3 v l F A ∨ (l = [] ∧ ∃ q, v = .slice (some ⟨q, 0, none⟩) 0 0 ∧ blk q (.cells #[] 3 (0, 0)) F A)
theorem Owns.own3 {v : Value} {l : List Int} : Owns (own3 v l) := by
  refine ⟨fun {F A b} h hb => ?_, fun {F A A'} h hk hr => ?_⟩
  · rcases h with h | ⟨_, q, _, h⟩
    · exact Owns.lstV.lt h hb
    · exact Owns.blk.lt h hb
  · rcases h with h | ⟨e, q, e', h⟩
    · exact .inl (Owns.lstV.loc h hk hr)
    · exact .inr ⟨e, q, e', Owns.blk.loc h hk hr⟩
theorem own3_rd {v : Value} {l : List Int} {F : Foot} {A : World} (h : own3 v l F A) : ∃ p, v = .slice p l.length l.length ∧ Rd A p l := by
  rcases h with h | ⟨rfl, q, rfl, _⟩
  · exact lstV_rd h
  · exact ⟨_, rfl, fun i x hx => by simp at hx⟩
theorem ty3 : ∃ ie z, Try.prog.info? 3 = some ie ∧ ie.zero = some z ∧ isOne z = true ∧ ie.size = 1 ∧ ie.bytes ≤ 2 ^ 16 := ⟨_, _, rfl, rfl, rfl, rfl, by decide⟩
/-- append([]int[], l...). -/
theorem clone_app {l : List Int} {J : Asn} {F : Foot} {A : World} {p : Option Addr} {c2 : Nat} (hJ : Owns J) (h : J F A) (hp : p ≠ none) (hr : Rd A p l) (hro : ∀ ad, p = some ad → RoB A ad.block) (hlen : l.length ≤ 16777216) :
    ∃ v' A2 F2, (∀ (o : Oper) (c : Call) (ρ : Operand → Value), o.op = .call c → c.callee = .builtin .append → c.argTypes = #[22, 22] → c.args.toList.map ρ = [.slice (some ⟨A.heap.size, 0, none⟩) 0 0, .slice p l.length c2] → AOp Try.prog ρ o (A.alloc (.cells #[] 3 (0, 0))) (.value v') A2) ∧
      ((own3 v' l).sep J) F2 A2 ∧ Step F A F2 A2 := by
  obtain ⟨ie, z, hi, hz, hz1, hsz, hby⟩ := ty3
  have hAt : ∀ c : Call, c.argTypes = #[22, 22] → AppAt Try.prog c.argTypes 3 ie z ∧ zerosOf Try.prog c.argTypes = false := fun c ht =>
    ⟨⟨hz, ⟨22, by rw [ht]; rfl, rfl⟩, hi, fun t h => by rw [ht] at h; cases h; exact .inl ⟨_, rfl⟩⟩, by rw [ht]; rfl⟩
  obtain ⟨F1, h1, S1⟩ := Asn.newO hJ h (.cells #[] 3 (0, 0))
  generalize hq : A.heap.size = q at h1
  generalize hA1 : A.alloc (.cells #[] 3 (0, 0)) = A1 at h1 S1
  obtain ⟨ad, rfl⟩ : ∃ ad, p = some ad := by cases p with
    | none => exact absurd rfl hp
    | some ad => exact ⟨ad, rfl⟩
  have hr1 : Rd A1 (some ad) l := fun i x hx => by
    obtain ⟨ad', e, hc⟩ := hr i x hx
    cases e
    refine ⟨ad, rfl, (cell_eq (A := A) (A' := A1) ?_).trans hc⟩
    rw [add_block]
    exact S1.ro _ (hro ad rfl)
  have hsrc : ∀ c : Call, c.argTypes = #[22, 22] → (appSrc (zerosOf Try.prog c.argTypes) 3 ie.size l.length (.slice (some ad) l.length c2)).run Try.prog A1 = .ok (ints l) A1 := fun c ht => by
    rw [(hAt c ht).2, hsz]
    have := run_loadCells_at (P := Try.prog) (A := A1) (l.map (Value.int .i64)) ad 0 #[] (fun j x hx => by
      simp only [List.getElem?_map, Option.map_eq_some_iff] at hx
      obtain ⟨y, hy, rfl⟩ := hx
      obtain ⟨ad', e1, hc⟩ := hr1 j y hy
      cases e1
      rw [Nat.zero_add]
      rwa [Nat.mul_one] at hc)
    simp only [List.length_map] at this
    simpa [appSrc, Builtin.firstCells, loadCells, ints] using this
  by_cases hl0 : l = []
  · subst hl0
    refine ⟨_, A1, F1, fun o c ρ ho hc ht ha => .inr (.inr (.inl ⟨c, _, ho, hc, rfl, 3, ie, z, some ⟨q, 0, none⟩, 0, 0, _, 0, (hAt c ht).1, map_list ha, by rw [(hAt c ht).2]; rfl, .inl ⟨Nat.le_refl _, ints [], hsrc c ht, rfl, rfl⟩⟩)), ?_, S1⟩
    exact Asn.map h1 fun F hb => .inr ⟨rfl, q, rfl, hb⟩
  · have hl1 : 0 < l.length := List.length_pos_iff.2 hl0
    obtain ⟨F3, h3, S3⟩ := Asn.newO (Owns.sep Owns.blk hJ) h1 (.cells (ints l) 3 (1, 0))
    obtain ⟨F4, h4, S4⟩ := Asn.drop (Asn.swap h3)
    refine ⟨.slice (some ⟨A1.heap.size, 0, none⟩) l.length l.length, _, F4, fun o c ρ ho hc ht ha => .inr (.inr (.inl ⟨c, _, ho, hc, rfl, 3, ie, z, some ⟨q, 0, none⟩, 0, 0, _, l.length, (hAt c ht).1, map_list ha, by rw [(hAt c ht).2]; rfl,
        .inr ⟨by omega, Nat.le_refl _, by simpa using hlen, hby, by rw [isOne_cells hz1, hsz]; rfl, #[], ints l, ?_, hsrc c ht, by simp, by simp, by simp [hsz, ints], by simp [ints, isOne], .inl ⟨by simp, fun a h => by cases h; exact ⟨_, _, _, Asn.at h1, by simp, by simp⟩⟩⟩⟩)), ?_, S1.trans (S3.trans S4)⟩
    · rw [hsz]; simp [Builtin.firstCells, loadCells, loadCellsFrom]
    · exact Asn.map h4 fun F hb => .inl (.inr ⟨hl0, A1.heap.size, rfl, hb⟩)
theorem clone_call {l : List Int} {J : Asn} {F : Foot} {A : World} {p : Option Addr} {c : Nat} (hJ : Owns J) (h : J F A) (hp : p = none → l = [] ∧ c = 0) (hr : Rd A p l) (hro : ∀ ad, p = some ad → RoB A ad.block) (hlen : l.length ≤ 16777216) :
    ∃ v' A' F', SndCall Try.prog n₀ 31 #[.slice p l.length c] A v' A' ∧ ((own3 v' l).sep J) F' A' ∧ Step F A F' A' := by
  suffices hw : wpF Try.prog n₀ 31 #[.slice p l.length c] (fun v' A' => ∃ F', ((own3 v' l).sep J) F' A' ∧ Step F A F' A') A by
    obtain ⟨v', A', h1, F', h2, h3⟩ := hw
    exact ⟨v', A', F', h1, h2, h3⟩
  refine wpF_fn (ts := #[.slice p l.length c, undef, undef, undef, undef, undef, undef, undef]) good ⟨rfl, rfl, rfl⟩ (by kernel_rfl) ?_
  refine cw_seq good (cw_region good ?_)
  refine wpO_as (.slice none 0 0) rfl ?_
  refine cw_seq good (cw_seq good (cw_region good ?_))
  refine wpO_mv (.slice p l.length c) rfl ?_
  cases p with
  | none =>
    obtain ⟨rfl, rfl⟩ := hp rfl
    refine wpO_val (aop_eqNil (v := .slice none 0 0) (w := .slice none 0 0) (b := true) rfl rfl rfl rfl rfl) ?_
    simp only [Act.put, List.setIfInBounds_toArray, List.set_cons_succ, List.set_cons_zero]
    refine cw_cond good true rfl ?_
    refine cw_seq good (cw_region good ?_)
    refine wpO_as (.slice none 0 0) rfl ?_
    refine cw_ret good (ret_one (.slice none 0 0) rfl ⟨F, ?_, .refl⟩)
    exact ⟨fun _ => False, F, .inl (.inl ⟨rfl, rfl, fun _ h => h⟩), h, fun _ h => h.elim, fun b => by simp⟩
  | some ad =>
    obtain ⟨v', A2, F2, ap, h2, S2⟩ := clone_app (c2 := c) hJ h (by simp) hr hro hlen
    refine wpO_val (aop_eqNil (v := .slice (some ad) l.length c) (w := .slice none 0 0) (b := false) rfl rfl rfl rfl rfl) ?_
    simp only [Act.put, List.setIfInBounds_toArray, List.set_cons_succ, List.set_cons_zero]
    refine cw_cond good false rfl (cw_skip good ?_)
    refine cw_seq good (cw_region good ?_)
    refine wpO_val (aop_sliceT0 (e := 3) (n := 1) (g := false) rfl rfl rfl) ?_
    refine wpO_mv (.slice (some ad) l.length c) rfl ?_
    simp only [Act.put, List.setIfInBounds_toArray, List.set_cons_succ, List.set_cons_zero]
    refine wpO_val (ap _ _ _ rfl rfl rfl rfl) ?_
    refine wpO_as v' rfl ?_
    exact cw_ret good (ret_one v' rfl ⟨F2, h2, S2⟩)
/-- What is known of closed calls: begun, and the sort of nothing. -/
def know9 : Know := fun f xs => match f, xs with
  | 9, [] => some (.bool true)
  | 32, [.slice none 0 0] => some undef
  | _, _ => none
theorem begun_tells : tells Try.prog know0 1000 9 [] (.bool true) = true := by decide +kernel
theorem sort_tells : tells Try.prog know0 1000 32 [.slice none 0 0] undef = true := by decide +kernel
theorem known9 : Known Try.prog know9 := fun f xs v h => by
  unfold know9 at h
  split at h
  · cases h; exact ⟨fun _ h => (by cases h), rfl, fun W => tells_ok good known0 begun_tells W⟩
  · cases h; exact ⟨fun x hx => (by simp at hx; subst hx; rfl), rfl, fun W => tells_ok good known0 sort_tells W⟩
  · cases h
theorem begun_call {A : World} : SndCall Try.prog n₀ 9 #[] A (.bool true) A := snd_known known9 rfl
theorem sort_nil {A : World} : SndCall Try.prog n₀ 32 #[.slice none 0 0] A undef A := snd_known known9 rfl
theorem sort_call {v : Value} {l : List Int} {J : Asn} {F : Foot} {A : World} (hJ : Owns J) (h : ((own3 v l).sep J) F A) (hl : l.length < 4611686018427387904) :
    ∃ A', SndCall Try.prog n₀ 32 #[v] A undef A' ∧ ((own3 v (sorted l)).sep J) F A' ∧ Step F A F A' := by
  obtain ⟨F1, F2, h1, h2, h3, h4⟩ := h
  rcases h1 with (⟨rfl, rfl, h1⟩ | ⟨hne, d, rfl, h1⟩) | ⟨rfl, q, rfl, h1⟩
  · exact ⟨A, sort_nil, ⟨F1, F2, .inl (.inl ⟨by simp [sorted], rfl, h1⟩), h2, h3, h4⟩, .refl⟩
  · obtain ⟨h5, S5⟩ := Asn.turned (c' := ints (sorted l)) hJ ⟨F1, F2, h1, h2, h3, h4⟩ (.inr rfl)
    refine ⟨_, snd_sort (Go.Proofs.Try.lays189) h1.2 (.inr rfl) (.inl (List.length_pos_iff.2 hne)) hl, Asn.map h5 fun F hb => .inl (.inr ⟨?_, d, by rw [sorted_len], hb⟩), S5⟩
    intro e
    have := sorted_len (l := l)
    rw [e] at this
    exact hne (List.eq_nil_of_length_eq_zero this.symm)
  · obtain ⟨h5, S5⟩ := Asn.turned (c' := ints (sorted [])) hJ ⟨F1, F2, h1, h2, h3, h4⟩ (.inl rfl)
    refine ⟨_, snd_sort (l := []) (Go.Proofs.Try.lays189) h1.2 (.inl rfl) (.inr rfl) hl, Asn.map h5 fun F hb => .inr ⟨by simp [sorted], q, rfl, by simpa [sorted, ints] using hb⟩, S5⟩
end Go.Proofs.Ytfkdkfleaiaoiaa
