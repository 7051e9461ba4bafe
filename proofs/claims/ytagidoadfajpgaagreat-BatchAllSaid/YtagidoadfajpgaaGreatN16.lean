/-
  PS.
-/
import Derived.Test.YtagidoadfajpgaaGreatN14
import Derived.Lib.Bytealg
open List (length_append length_cons length_nil mem_append append_assoc ext_getElem append_nil take_append_drop length_take length_drop length_set getElem_mem drop_eq_nil_of_le getElem_of_mem getElem_take map_set getElem_set getElem_map mem_singleton take_take eraseIdx_eq_take_drop_succ)
namespace Go.Abs
open Go.Lib
def K6 (a b : ByteArray) : Int := compareBytes a.data.toList b.data.toList
theorem b0G : ∀ (a b : List UInt8), compareBytes a b = 0 ↔ a = b
 | [], [] => by simp [compareBytes]
 | [], _ :: _ => by simp [compareBytes]
 | _ :: _, [] => by simp [compareBytes]
 | a :: as, b :: bs => by
  have ih := b0G as bs
  unfold compareBytes
  by_cases h1 : a < b
  ·rw [if_pos h1]
   simp only [List.cons.injEq]
   constructor
   ·intro h; cases h
   ·rintro ⟨rfl, _⟩; exact absurd h1 (UInt8.lt_irrefl a)
  ·by_cases h2 : b < a
   ·rw [if_neg h1, if_pos h2]
    simp only [List.cons.injEq]
    constructor
    ·intro h; cases h
    ·rintro ⟨rfl, _⟩; exact absurd h2 (UInt8.lt_irrefl a)
   ·rw [if_neg h1, if_neg h2, ih]
    have : a = b := UInt8.le_antisymm (UInt8.not_lt.1 h2) (UInt8.not_lt.1 h1)
    simp [this]
theorem b0H : ∀ (a b : List UInt8), compareBytes b a = - compareBytes a b
 | [], [] => rfl
 | [], _ :: _ => rfl
 | _ :: _, [] => rfl
 | a :: as, b :: bs => by
  have ih := b0H as bs
  unfold compareBytes
  by_cases h1 : a < b
  ·rw [if_pos h1, if_neg (UInt8.not_lt.2 (UInt8.le_of_lt h1)), if_pos h1]; rfl
  ·by_cases h2 : b < a
   ·rw [if_pos h2, if_neg h1, if_pos h2]
   ·rw [if_neg h1, if_neg h2, if_neg h2, if_neg h1, ih]
theorem a6r : ∀ (a b c : List UInt8), compareBytes a b < 0 -> compareBytes b c < 0 -> compareBytes a c < 0
 | [], [], _ => by simp [compareBytes]
 | [], _ :: _, [] => by simp [compareBytes]
 | [], _ :: _, _ :: _ => by simp [compareBytes]
 | _ :: _, [], _ => by simp [compareBytes]
 | _ :: _, _ :: _, [] => by simp [compareBytes]
 | a :: as, b :: bs, c :: cs => by
  have ih := a6r as bs cs
  unfold compareBytes
  intro h1 h2
  by_cases ab : a < b
  ·by_cases bc : b < c
   ·rw [if_pos (UInt8.lt_trans ab bc)]; decide
   ·rw [if_neg bc] at h2
    by_cases cb : c < b
    ·rw [if_pos cb] at h2; omega
    ·have : b = c := UInt8.le_antisymm (UInt8.not_lt.1 cb) (UInt8.not_lt.1 bc)
     rw [<- this, if_pos ab]; decide
  ·rw [if_neg ab] at h1
   by_cases ba : b < a
   ·rw [if_pos ba] at h1; omega
   ·rw [if_neg ba] at h1
    have e : a = b := UInt8.le_antisymm (UInt8.not_lt.1 ba) (UInt8.not_lt.1 ab)
    subst e
    by_cases bc : a < c
    ·rw [if_pos bc]; decide
    ·rw [if_neg bc] at h2 ⊢
     by_cases cb : c < a
     ·rw [if_pos cb] at h2; omega
     ·rw [if_neg cb] at h2 ⊢
      exact ih h1 h2
theorem a09 {a b : ByteArray} : K6 a b = 0 ↔ a = b := by
 unfold K6
 rw [b0G]
 constructor
 ·intro h
  cases a; cases b
  congr 1
  exact Array.ext' h
 ·rintro rfl; rfl
theorem b0C (a b : ByteArray) : K6 b a = - K6 a b := b0H _ _
theorem a1Z {a b c : ByteArray} : K6 a b < 0 -> K6 b c < 0 -> K6 a c < 0 := a6r _ _ _
abbrev Kv := ByteArray × Int
def eK : En Kv := ⟨2, fun x => [.v (.string x.1), .v (.int .i64 x.2)], (⟨#[]⟩, 0)⟩
def KS (l : List Kv) : Prop := l.Pairwise fun x y => K6 x.1 y.1 < 0
def a7A {α : Type} (l : List α) (p : α -> Int) : Nat := l.findIdx fun x => !decide (p x < 0)
theorem b4Z {α : Type} {l : List α} {p : α -> Int} {d : α} {n lo : Nat} (hn : n <= l.length) (hlo : lo <= n) (h1 : ∀ j, j < lo -> p (l.getD j d) < 0) (h2 : ∀ j, lo <= j -> j < n -> ¬ p (l.getD j d) < 0) : a7A (l.take n) p = lo := by
 unfold a7A
 by_cases h : lo = n
 ·subst h
  have hl : (l.take lo).length = lo := by rw [length_take, Nat.min_eq_left hn]
  have : (l.take lo).findIdx (fun x => !decide (p x < 0)) = (l.take lo).length := by
   rw [List.findIdx_eq_length]
   intro x hx
   obtain ⟨k, hk, rfl⟩ := getElem_of_mem hx
   rw [hl] at hk
   have := h1 k hk
   rw [a8 (by omega)] at this
   rw [getElem_take]
   simp [this]
  rw [this, hl]
 ·have hlt : lo < n := by omega
  rw [List.findIdx_eq (by rw [length_take, Nat.min_eq_left hn]; exact hlt)]
  constructor
  ·have := h2 lo (Nat.le_refl _) hlt
   rw [a8 (by omega)] at this
   rw [getElem_take]
   simpa using this
  ·intro j hj
   have := h1 j hj
   rw [a8 (by omega)] at this
   rw [getElem_take]
   simp [this]
theorem mid {a b : Nat} (h : a + b < 1000000000) : IntKind.wrap .i64 (Int.fdiv (IntKind.wrap .u64 ((a : Int) + (b : Int))) (2 ^ 1)) = (((a + b) / 2 : Nat) : Int) := by
 have e1 : IntKind.wrap .u64 ((a : Int) + (b : Int)) = ((a + b : Nat) : Int) := by
  rw [show (a : Int) + (b : Int) = ((a + b : Nat) : Int) by omega]
  simp only [IntKind.wrap, show IntKind.signed .u64 = false from rfl, Bool.false_and, Bool.false_eq_true, if_false, show ((2 : Int) ^ IntKind.bits .u64) = 18446744073709551616 from rfl]
  omega
 rw [e1]
 have e2 : Int.fdiv ((a + b : Nat) : Int) (2 ^ 1) = (((a + b) / 2 : Nat) : Int) := by
  rw [show ((2 : Int) ^ 1) = 2 from rfl, Int.fdiv_eq_ediv_of_nonneg _ (by decide)]
  omega
 rw [e2]
 exact V3 (by omega) (by omega)
end Go.Abs
namespace Go.Abs
theorem b8o {all : List Kv} {n i j : Nat} (hn : n <= all.length) (hs : KS (all.take n)) (hij : i < j) (hj : j < n) : K6 (all.getD i eK.d).1 (all.getD j eK.d).1 < 0 := by
 have := List.pairwise_iff_getElem.1 hs i j (by rw [length_take]; omega) (by rw [length_take]; omega) hij
 rw [a8 (by omega), a8 (by omega)]
 simpa using this
end Go.Abs
namespace Go.Abs
def r6 (ps : List Kv) (k : ByteArray) : Nat := a7A ps fun x => K6 x.1 k
def a0n (ps : List Kv) (k : ByteArray) : Bool := and (decide ((r6 ps k : Int) < (ps.length : Int))) (K6 (ps.getD (r6 ps k) eK.d).1 k == 0)
def a0T (ps : List Kv) (k : ByteArray) : Int := if a0n ps k then (ps.getD (r6 ps k) eK.d).2 else 0
def a1q (ps : List Kv) (k : ByteArray) (v : Int) : List Kv := if a0n ps k then ps.set (r6 ps k) (k, v) else ps.take (r6 ps k) ++ [(k, v)] ++ ps.drop (r6 ps k)
def a06 (ps : List Kv) (k : ByteArray) : List Kv := if a0n ps k then ps.eraseIdx (r6 ps k) else ps
theorem a8Z (ps : List Kv) (k : ByteArray) : r6 ps k <= ps.length := List.findIdx_le_length
theorem a3N {α : Type} {l : List α} {n i : Nat} {d : α} (h : i < n) (hn : n <= l.length) : (l.take n).getD i d = l.getD i d := by
 rw [a8 (by rw [length_take]; omega), a8 (by omega), getElem_take]
theorem b2U {all ps : List Kv} {k : ByteArray} (h : all.take ps.length = ps) (hn : ps.length <= all.length) : and (decide ((a7A (all.take ps.length) (fun x => K6 x.1 k) : Int) < (ps.length : Int))) (K6 (all.getD (a7A (all.take ps.length) (fun x => K6 x.1 k)) eK.d).1 k == 0) = a0n ps k := by
 rw [h]
 unfold a0n
 show and (decide ((r6 ps k : Int) < _)) (K6 (all.getD (r6 ps k) eK.d).1 k == 0) = _
 by_cases hp : r6 ps k < ps.length
 ·have e : (all.take ps.length).getD (r6 ps k) eK.d = all.getD (r6 ps k) eK.d := a3N hp hn
  rw [h] at e
  rw [e]
 ·rw [decide_eq_false (by omega)]; rfl
theorem J3 {ps : List Kv} {k : ByteArray} (h : a0n ps k = true) : r6 ps k < ps.length /\ (ps.getD (r6 ps k) eK.d).1 = k := by
 unfold a0n at h
 simp only [Bool.and_eq_true, decide_eq_true_eq, beq_iff_eq] at h
 exact ⟨by omega, a09.1 h.2⟩
theorem a6e {α : Type} {all ps : List α} {i : Nat} {d : α} (h : all.take ps.length = ps) (hn : ps.length <= all.length) (hi : i < ps.length) : all.getD i d = ps.getD i d := by
 conv => rhs; rw [<- h]
 exact (a3N hi hn).symm
theorem a8Y {ps : List Kv} {k : ByteArray} {j : Nat} (hj : j < r6 ps k) : K6 (ps.getD j eK.d).1 k < 0 := by
 have hl : j < ps.length := Nat.lt_of_lt_of_le hj (a8Z ps k)
 have := List.not_of_lt_findIdx hj
 rw [a8 hl]
 simpa using this
theorem a4J {ps : List Kv} {k : ByteArray} (hs : KS ps) {j : Nat} (h1 : r6 ps k <= j) (h2 : j < ps.length) : ¬ K6 (ps.getD j eK.d).1 k < 0 := by
 have hp : r6 ps k < ps.length := by omega
 have h0 : ¬ K6 (ps.getD (r6 ps k) eK.d).1 k < 0 := by
  have : (!decide (K6 (ps[r6 ps k]'hp).1 k < 0)) = true := List.findIdx_getElem (p := fun x : Kv => !decide (K6 x.1 k < 0)) (w := hp)
  rw [a8 hp]
  simpa using this
 rcases Nat.eq_or_lt_of_le h1 with h | h
 ·rw [<- h]; exact h0
 ·intro h3
  have := List.pairwise_iff_getElem.1 hs (r6 ps k) j hp h2 h
  rw [<- a8 (d := eK.d) hp, <- a8 (d := eK.d) h2] at this
  exact h0 (a1Z this h3)
theorem a2g {ps : List Kv} {k : ByteArray} {v : Int} (hs : KS ps) : KS (a1q ps k v) := by
 unfold a1q
 split
 ·rename_i h
  obtain ⟨h1, h2⟩ := J3 h
  have e : (ps.set (r6 ps k) (k, v)).map Prod.fst = ps.map Prod.fst := by
   rw [map_set]
   apply ext_getElem
   ·simp
   ·intro i a b
    rw [getElem_set]
    split
    ·rename_i h; subst h
     rw [getElem_map, <- a8 (d := eK.d) h1, h2]
    ·rfl
  have hs' : (ps.map Prod.fst).Pairwise fun x y => K6 x y < 0 := List.pairwise_map.2 hs
  rw [<- e] at hs'
  exact List.pairwise_map.1 hs'
 ·rename_i h
  have hk : ∀ j, r6 ps k <= j -> j < ps.length -> K6 k (ps.getD j eK.d).1 < 0 := fun j h1 h2 => by
   have h3 := a4J hs h1 h2
   have h4 : K6 (ps.getD j eK.d).1 k ≠ 0 := fun e => by
    rcases Nat.eq_or_lt_of_le h1 with h5 | h5
    ·apply h
     unfold a0n
     simp only [Bool.and_eq_true, decide_eq_true_eq, beq_iff_eq]
     exact ⟨by omega, by rw [h5]; exact e⟩
    ·have h6 := a4J (k := k) hs (Nat.le_refl _) (by omega : r6 ps k < ps.length)
     have := List.pairwise_iff_getElem.1 hs (r6 ps k) j (by omega) h2 h5
     rw [<- a8 (d := eK.d) (by omega), <- a8 (d := eK.d) h2, a09.1 e] at this
     exact h6 this
   have := b0C (ps.getD j eK.d).1 k
   omega
  have hd : KS (ps.take (r6 ps k) ++ ps.drop (r6 ps k)) := by rw [take_append_drop]; exact hs
  obtain ⟨d1, d2, d3⟩ := List.pairwise_append.1 hd
  rw [append_assoc]
  refine List.pairwise_append.2 ⟨d1, List.pairwise_append.2 ⟨List.pairwise_singleton _ _, d2, fun a ha b hb => ?_⟩, fun a ha b hb => ?_⟩
  ·simp only [mem_singleton] at ha
   subst ha
   obtain ⟨j, hj, rfl⟩ := getElem_of_mem hb
   rw [length_drop] at hj
   rw [List.getElem_drop, <- a8 (d := eK.d) (by omega)]
   exact hk _ (by omega) (by omega)
  ·rcases List.mem_append.1 hb with hb | hb
   ·simp only [mem_singleton] at hb
    subst hb
    obtain ⟨j, hj, rfl⟩ := getElem_of_mem ha
    rw [length_take] at hj
    have hj2 : j < r6 ps k := Nat.lt_of_lt_of_le hj (Nat.min_le_left _ _)
    have hj3 : j < ps.length := Nat.lt_of_lt_of_le hj (Nat.min_le_right _ _)
    rw [getElem_take, <- a8 (d := eK.d) hj3]
    exact a8Y hj2
   ·exact d3 a ha b hb
theorem b0m {ps : List Kv} {k : ByteArray} (hs : KS ps) : KS (a06 ps k) := by
 unfold a06
 split
 ·exact hs.sublist (List.eraseIdx_sublist _ _)
 ·exact hs
def rmL {α : Type} (all : List α) (d : α) (i n : Nat) : List α := spl (spl all i ((all.drop (i + 1)).take (n - (i + 1)))) (n - 1) [d]
theorem a4D {α : Type} {all : List α} {d : α} {i n : Nat} (hi : i < n) (hn : n <= all.length) : (rmL all d i n).length = all.length := by
 unfold rmL
 have h1 : ((all.drop (i + 1)).take (n - (i + 1))).length = n - (i + 1) := by rw [length_take, length_drop]; omega
 have h2 : (spl all i ((all.drop (i + 1)).take (n - (i + 1)))).length = all.length := P2 (by rw [h1]; omega)
 rw [P2 (by rw [h2]; simp; omega), h2]
theorem b12 {α : Type} {all : List α} {d : α} {i n : Nat} (hi : i < n) (hn : n <= all.length) : (rmL all d i n).take (n - 1) = (all.take n).eraseIdx i := by
 have h1 : ((all.drop (i + 1)).take (n - (i + 1))).length = n - (i + 1) := by rw [length_take, length_drop]; omega
 have h2 : (spl all i ((all.drop (i + 1)).take (n - (i + 1)))).length = all.length := P2 (by rw [h1]; omega)
 have e : (rmL all d i n).take (n - 1) = (spl all i ((all.drop (i + 1)).take (n - (i + 1)))).take (n - 1) := by
  unfold rmL
  conv => lhs; rw [spl, append_assoc]
  rw [List.take_append_of_le_length (by rw [length_take, h2]; omega), take_take, Nat.min_self]
 rw [e, spl, append_assoc, List.take_append, length_take, Nat.min_eq_left (by omega), List.take_append, h1, take_take, Nat.min_eq_right (by omega)]
 rw [show n - 1 - i - (n - (i + 1)) = 0 by omega, List.take_zero, append_nil, take_take, Nat.min_eq_left (by omega)]
 rw [eraseIdx_eq_take_drop_succ, take_take, Nat.min_eq_left (by omega), List.drop_take, show n - 1 - i = n - (i + 1) by omega]
end Go.Abs
namespace Go.Abs
def a4j {α : Type} (ps : List α) (i : Nat) (v : α) : List α := ps.take i ++ [v] ++ ps.drop i
theorem a6c {α : Type} {ps : List α} {i : Nat} {v : α} : (a4j ps i v).length = ps.length + 1 := by
 simp only [a4j, length_append, length_take, length_drop, length_cons, length_nil]; omega
theorem b1J {all : List Kv} {g q i n : Nat} {t : TypeId} {m : Md} (hi : i < n) (hn : n <= all.length) : Src (vc eK g q all t m false) q (ofs all.length (i + 1) 0 * 2) false (b7 eK.f ((all.drop (i + 1)).take (n - (i + 1)))) := by
 by_cases h : all.length = i + 1
 ·have e : (all.drop (i + 1)).take (n - (i + 1)) = [] := by rw [drop_eq_nil_of_le (by omega), List.take_nil]
  rw [e]
  intro F A hF
  obtain ⟨hw, _, _, fz, _, hb⟩ := hF
  refine .inr ⟨rfl, _, _, _, hb, ?_, ?_⟩
  ·rw [h]
   simp [ofs, b7]
  ·simp [b7]
 ·have : ofs all.length (i + 1) 0 = i + 1 := by unfold ofs; rw [if_neg h]
  rw [this]
  exact a18 (by omega)
theorem b29 {all ps : List Kv} {k : ByteArray} (h : all.take ps.length = ps) (hn : ps.length <= all.length) (hk : a0n ps k = true) : (rmL all eK.d (r6 ps k) ps.length).take (a06 ps k).length = a06 ps k /\ (a06 ps k).length = ps.length - 1 := by
 obtain ⟨h1, _⟩ := J3 hk
 have e : a06 ps k = ps.eraseIdx (r6 ps k) := by unfold a06; rw [if_pos hk]
 have hl : (a06 ps k).length = ps.length - 1 := by rw [e, List.length_eraseIdx_of_lt h1]
 rw [hl, b12 h1 hn, h, e]
 exact ⟨rfl, rfl⟩
theorem b1S {α : Type} {all ps : List α} {i : Nat} {x : α} (h : all.take ps.length = ps) : (all.set i x).take (ps.set i x).length = ps.set i x := by
 rw [length_set, List.take_set, h]
end Go.Abs
namespace Go.Abs
def b6f (ps : List Kv) (s : ByteArray) : List Kv := a1q ps s (a0T ps s + 1)
def H8 (ps : List Kv) (s : ByteArray) : List Kv := if a0T ps s > 1 then a1q ps s (a0T ps s - 1) else if a0n ps s then a06 ps s else ps
theorem a9Q {ps : List Kv} {b : Nat} (h : ∀ y ∈ ps, 0 < y.2 /\ y.2 <= (b : Int)) (s : ByteArray) : 0 <= a0T ps s /\ a0T ps s <= (b : Int) := by
 unfold a0T
 split
 ·rename_i hk
  have hp := (J3 hk).1
  have := h (ps.getD (r6 ps s) eK.d) (by rw [a8 hp]; exact getElem_mem _)
  omega
 ·omega
theorem a5S {ps : List Kv} {b : Nat} {s : ByteArray} {v : Int} (h : ∀ y ∈ ps, 0 < y.2 /\ y.2 <= (b : Int)) (h1 : 0 < v) (h2 : v <= (b : Int) + 1) : ∀ y ∈ a1q ps s v, 0 < y.2 /\ y.2 <= ((b + 1 : Nat) : Int) := by
 intro y hy
 have key : y ∈ ps ∨ y = (s, v) := by
  unfold a1q at hy
  split at hy
  ·exact List.mem_or_eq_of_mem_set hy
  ·simp only [mem_append, mem_singleton] at hy
   rcases hy with (hy | hy) | hy
   ·exact .inl (List.mem_of_mem_take hy)
   ·exact .inr hy
   ·exact .inl (List.mem_of_mem_drop hy)
 rcases key with hy | rfl
 ·have := h y hy; omega
 ·exact ⟨h1, by show v <= _; omega⟩
theorem b3b {ps : List Kv} {b : Nat} {s : ByteArray} (h : ∀ y ∈ ps, 0 < y.2 /\ y.2 <= (b : Int)) : ∀ y ∈ a06 ps s, 0 < y.2 /\ y.2 <= ((b + 1 : Nat) : Int) := by
 intro y hy
 have hy' : y ∈ ps := by
  unfold a06 at hy
  split at hy
  ·exact List.mem_of_mem_eraseIdx hy
  ·exact hy
 have := h y hy'; omega
end Go.Abs
namespace Go.Abs
def b0D (kind : Int) (v : Va) : Bool := and (or (v.k == 0) (v.k == kind)) (vOk v)
def cW (ws : List Kv) (v : Va) : List Kv := if v.k = 0 then ws else if v.k = 2 then b6f ws v.s else ws
def cN (n : Int) (v : Va) : Int := if v.k = 0 then n + 1 else n
def uW (ws : List Kv) (v : Va) : List Kv := if v.k = 0 then ws else if v.k = 2 then H8 ws v.s else ws
def uN (n : Int) (v : Va) : Int := if v.k = 0 then n - 1 else n
end Go.Abs
namespace Go.Abs
theorem b8Z (n : Int) (v : Va) : n - 1 <= uN n v /\ uN n v <= n := by unfold uN; split <;> omega
end Go.Abs
