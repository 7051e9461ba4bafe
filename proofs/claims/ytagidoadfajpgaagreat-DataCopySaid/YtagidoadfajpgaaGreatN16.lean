/-
  PS.
-/
import Derived.Test.YtagidoadfajpgaaGreatN14
import Derived.Lib.Bytealg
namespace Go.Abs
open Go.Lib
def cmpS (a b : ByteArray) : Int := compareBytes a.data.toList b.data.toList
theorem cb_zero : ∀ (a b : List UInt8), compareBytes a b = 0 ↔ a = b
 | [], [] => by simp [compareBytes]
 | [], _ :: _ => by simp [compareBytes]
 | _ :: _, [] => by simp [compareBytes]
 | a :: as, b :: bs => by
  have ih := cb_zero as bs
  unfold compareBytes
  by_cases h1 : a < b
  ·rw [if_pos h1]
   simp only [List.cons.injEq]
   constructor
   ·intro h; cases h
   ·rintro ⟨rfl, _⟩; exact absurd h1 (UInt8.lt_irrefl a)
  ·by_cases h2 : b < a
   ·rw [if_neg h1, if_pos h2]
    simp only [List.cons.injEq]
    constructor
    ·intro h; cases h
    ·rintro ⟨rfl, _⟩; exact absurd h2 (UInt8.lt_irrefl a)
   ·rw [if_neg h1, if_neg h2, ih]
    have : a = b := UInt8.le_antisymm (UInt8.not_lt.1 h2) (UInt8.not_lt.1 h1)
    simp [this]
theorem cb_swap : ∀ (a b : List UInt8), compareBytes b a = - compareBytes a b
 | [], [] => rfl
 | [], _ :: _ => rfl
 | _ :: _, [] => rfl
 | a :: as, b :: bs => by
  have ih := cb_swap as bs
  unfold compareBytes
  by_cases h1 : a < b
  ·rw [if_pos h1, if_neg (UInt8.not_lt.2 (UInt8.le_of_lt h1)), if_pos h1]; rfl
  ·by_cases h2 : b < a
   ·rw [if_pos h2, if_neg h1, if_pos h2]
   ·rw [if_neg h1, if_neg h2, if_neg h2, if_neg h1, ih]
theorem cb_trans : ∀ (a b c : List UInt8), compareBytes a b < 0 -> compareBytes b c < 0 -> compareBytes a c < 0
 | [], [], _ => by simp [compareBytes]
 | [], _ :: _, [] => by simp [compareBytes]
 | [], _ :: _, _ :: _ => by simp [compareBytes]
 | _ :: _, [], _ => by simp [compareBytes]
 | _ :: _, _ :: _, [] => by simp [compareBytes]
 | a :: as, b :: bs, c :: cs => by
  have ih := cb_trans as bs cs
  unfold compareBytes
  intro h1 h2
  by_cases ab : a < b
  ·by_cases bc : b < c
   ·rw [if_pos (UInt8.lt_trans ab bc)]; decide
   ·rw [if_neg bc] at h2
    by_cases cb : c < b
    ·rw [if_pos cb] at h2; omega
    ·have : b = c := UInt8.le_antisymm (UInt8.not_lt.1 cb) (UInt8.not_lt.1 bc)
     rw [<- this, if_pos ab]; decide
  ·rw [if_neg ab] at h1
   by_cases ba : b < a
   ·rw [if_pos ba] at h1; omega
   ·rw [if_neg ba] at h1
    have e : a = b := UInt8.le_antisymm (UInt8.not_lt.1 ba) (UInt8.not_lt.1 ab)
    subst e
    by_cases bc : a < c
    ·rw [if_pos bc]; decide
    ·rw [if_neg bc] at h2 ⊢
     by_cases cb : c < a
     ·rw [if_pos cb] at h2; omega
     ·rw [if_neg cb] at h2 ⊢
      exact ih h1 h2
theorem cmpS_zero {a b : ByteArray} : cmpS a b = 0 ↔ a = b := by
 unfold cmpS
 rw [cb_zero]
 constructor
 ·intro h
  cases a; cases b
  congr 1
  exact Array.ext' h
 ·rintro rfl; rfl
theorem cmpS_swap (a b : ByteArray) : cmpS b a = - cmpS a b := cb_swap _ _
theorem cmpS_trans {a b c : ByteArray} : cmpS a b < 0 -> cmpS b c < 0 -> cmpS a c < 0 := cb_trans _ _ _
abbrev Kv := ByteArray × Int
def eK : En Kv := ⟨2, fun x => [.v (.string x.1), .v (.int .i64 x.2)], (⟨#[]⟩, 0)⟩
def KS (l : List Kv) : Prop := l.Pairwise fun x y => cmpS x.1 y.1 < 0
def posL {α : Type} (l : List α) (p : α -> Int) : Nat := l.findIdx fun x => !decide (p x < 0)
theorem posL_is {α : Type} {l : List α} {p : α -> Int} {d : α} {n lo : Nat} (hn : n <= l.length) (hlo : lo <= n) (h1 : ∀ j, j < lo -> p (l.getD j d) < 0) (h2 : ∀ j, lo <= j -> j < n -> ¬ p (l.getD j d) < 0) : posL (l.take n) p = lo := by
 unfold posL
 by_cases h : lo = n
 ·subst h
  have hl : (l.take lo).length = lo := by rw [List.length_take, Nat.min_eq_left hn]
  have : (l.take lo).findIdx (fun x => !decide (p x < 0)) = (l.take lo).length := by
   rw [List.findIdx_eq_length]
   intro x hx
   obtain ⟨k, hk, rfl⟩ := List.getElem_of_mem hx
   rw [hl] at hk
   have := h1 k hk
   rw [getD_at (by omega)] at this
   rw [List.getElem_take]
   simp [this]
  rw [this, hl]
 ·have hlt : lo < n := by omega
  rw [List.findIdx_eq (by rw [List.length_take, Nat.min_eq_left hn]; exact hlt)]
  constructor
  ·have := h2 lo (Nat.le_refl _) hlt
   rw [getD_at (by omega)] at this
   rw [List.getElem_take]
   simpa using this
  ·intro j hj
   have := h1 j hj
   rw [getD_at (by omega)] at this
   rw [List.getElem_take]
   simp [this]
theorem mid {a b : Nat} (h : a + b < 1000000000) : IntKind.wrap .i64 (Int.fdiv (IntKind.wrap .u64 ((a : Int) + (b : Int))) (2 ^ 1)) = (((a + b) / 2 : Nat) : Int) := by
 have e1 : IntKind.wrap .u64 ((a : Int) + (b : Int)) = ((a + b : Nat) : Int) := by
  rw [show (a : Int) + (b : Int) = ((a + b : Nat) : Int) by omega]
  simp only [IntKind.wrap, show IntKind.signed .u64 = false from rfl, Bool.false_and, Bool.false_eq_true, if_false, show ((2 : Int) ^ IntKind.bits .u64) = 18446744073709551616 from rfl]
  omega
 rw [e1]
 have e2 : Int.fdiv ((a + b : Nat) : Int) (2 ^ 1) = (((a + b) / 2 : Nat) : Int) := by
  rw [show ((2 : Int) ^ 1) = 2 from rfl, Int.fdiv_eq_ediv_of_nonneg _ (by decide)]
  omega
 rw [e2]
 exact wrap_id (by omega) (by omega)
end Go.Abs
namespace Go.Abs
theorem ks_at {all : List Kv} {n i j : Nat} (hn : n <= all.length) (hs : KS (all.take n)) (hij : i < j) (hj : j < n) : cmpS (all.getD i eK.d).1 (all.getD j eK.d).1 < 0 := by
 have := List.pairwise_iff_getElem.1 hs i j (by rw [List.length_take]; omega) (by rw [List.length_take]; omega) hij
 rw [getD_at (by omega), getD_at (by omega)]
 simpa using this
end Go.Abs
namespace Go.Abs
def posK (ps : List Kv) (k : ByteArray) : Nat := posL ps fun x => cmpS x.1 k
def hasK (ps : List Kv) (k : ByteArray) : Bool := and (decide ((posK ps k : Int) < (ps.length : Int))) (cmpS (ps.getD (posK ps k) eK.d).1 k == 0)
def getK (ps : List Kv) (k : ByteArray) : Int := if hasK ps k then (ps.getD (posK ps k) eK.d).2 else 0
def putK (ps : List Kv) (k : ByteArray) (v : Int) : List Kv := if hasK ps k then ps.set (posK ps k) (k, v) else ps.take (posK ps k) ++ [(k, v)] ++ ps.drop (posK ps k)
def delK (ps : List Kv) (k : ByteArray) : List Kv := if hasK ps k then ps.eraseIdx (posK ps k) else ps
theorem posK_le (ps : List Kv) (k : ByteArray) : posK ps k <= ps.length := List.findIdx_le_length
theorem getD_take {α : Type} {l : List α} {n i : Nat} {d : α} (h : i < n) (hn : n <= l.length) : (l.take n).getD i d = l.getD i d := by
 rw [getD_at (by rw [List.length_take]; omega), getD_at (by omega), List.getElem_take]
theorem find_has {all ps : List Kv} {k : ByteArray} (h : all.take ps.length = ps) (hn : ps.length <= all.length) : and (decide ((posL (all.take ps.length) (fun x => cmpS x.1 k) : Int) < (ps.length : Int))) (cmpS (all.getD (posL (all.take ps.length) (fun x => cmpS x.1 k)) eK.d).1 k == 0) = hasK ps k := by
 rw [h]
 unfold hasK
 show and (decide ((posK ps k : Int) < _)) (cmpS (all.getD (posK ps k) eK.d).1 k == 0) = _
 by_cases hp : posK ps k < ps.length
 ·have e : (all.take ps.length).getD (posK ps k) eK.d = all.getD (posK ps k) eK.d := getD_take hp hn
  rw [h] at e
  rw [e]
 ·rw [decide_eq_false (by omega)]; rfl
theorem hasK_lt {ps : List Kv} {k : ByteArray} (h : hasK ps k = true) : posK ps k < ps.length /\ (ps.getD (posK ps k) eK.d).1 = k := by
 unfold hasK at h
 simp only [Bool.and_eq_true, decide_eq_true_eq, beq_iff_eq] at h
 exact ⟨by omega, cmpS_zero.1 h.2⟩
theorem getD_pre {α : Type} {all ps : List α} {i : Nat} {d : α} (h : all.take ps.length = ps) (hn : ps.length <= all.length) (hi : i < ps.length) : all.getD i d = ps.getD i d := by
 conv => rhs; rw [<- h]
 exact (getD_take hi hn).symm
theorem posK_lt {ps : List Kv} {k : ByteArray} {j : Nat} (hj : j < posK ps k) : cmpS (ps.getD j eK.d).1 k < 0 := by
 have hl : j < ps.length := Nat.lt_of_lt_of_le hj (posK_le ps k)
 have := List.not_of_lt_findIdx hj
 rw [getD_at hl]
 simpa using this
theorem posK_ge {ps : List Kv} {k : ByteArray} (hs : KS ps) {j : Nat} (h1 : posK ps k <= j) (h2 : j < ps.length) : ¬ cmpS (ps.getD j eK.d).1 k < 0 := by
 have hp : posK ps k < ps.length := by omega
 have h0 : ¬ cmpS (ps.getD (posK ps k) eK.d).1 k < 0 := by
  have : (!decide (cmpS (ps[posK ps k]'hp).1 k < 0)) = true := List.findIdx_getElem (p := fun x : Kv => !decide (cmpS x.1 k < 0)) (w := hp)
  rw [getD_at hp]
  simpa using this
 rcases Nat.eq_or_lt_of_le h1 with h | h
 ·rw [<- h]; exact h0
 ·intro h3
  have := List.pairwise_iff_getElem.1 hs (posK ps k) j hp h2 h
  rw [<- getD_at (d := eK.d) hp, <- getD_at (d := eK.d) h2] at this
  exact h0 (cmpS_trans this h3)
theorem putK_KS {ps : List Kv} {k : ByteArray} {v : Int} (hs : KS ps) : KS (putK ps k v) := by
 unfold putK
 split
 ·rename_i h
  obtain ⟨h1, h2⟩ := hasK_lt h
  have e : (ps.set (posK ps k) (k, v)).map Prod.fst = ps.map Prod.fst := by
   rw [List.map_set]
   apply List.ext_getElem
   ·simp
   ·intro i a b
    rw [List.getElem_set]
    split
    ·rename_i h; subst h
     rw [List.getElem_map, <- getD_at (d := eK.d) h1, h2]
    ·rfl
  have hs' : (ps.map Prod.fst).Pairwise fun x y => cmpS x y < 0 := List.pairwise_map.2 hs
  rw [<- e] at hs'
  exact List.pairwise_map.1 hs'
 ·rename_i h
  have hk : ∀ j, posK ps k <= j -> j < ps.length -> cmpS k (ps.getD j eK.d).1 < 0 := fun j h1 h2 => by
   have h3 := posK_ge hs h1 h2
   have h4 : cmpS (ps.getD j eK.d).1 k ≠ 0 := fun e => by
    rcases Nat.eq_or_lt_of_le h1 with h5 | h5
    ·apply h
     unfold hasK
     simp only [Bool.and_eq_true, decide_eq_true_eq, beq_iff_eq]
     exact ⟨by omega, by rw [h5]; exact e⟩
    ·have h6 := posK_ge (k := k) hs (Nat.le_refl _) (by omega : posK ps k < ps.length)
     have := List.pairwise_iff_getElem.1 hs (posK ps k) j (by omega) h2 h5
     rw [<- getD_at (d := eK.d) (by omega), <- getD_at (d := eK.d) h2, cmpS_zero.1 e] at this
     exact h6 this
   have := cmpS_swap (ps.getD j eK.d).1 k
   omega
  have hd : KS (ps.take (posK ps k) ++ ps.drop (posK ps k)) := by rw [List.take_append_drop]; exact hs
  obtain ⟨d1, d2, d3⟩ := List.pairwise_append.1 hd
  rw [List.append_assoc]
  refine List.pairwise_append.2 ⟨d1, List.pairwise_append.2 ⟨List.pairwise_singleton _ _, d2, fun a ha b hb => ?_⟩, fun a ha b hb => ?_⟩
  ·simp only [List.mem_singleton] at ha
   subst ha
   obtain ⟨j, hj, rfl⟩ := List.getElem_of_mem hb
   rw [List.length_drop] at hj
   rw [List.getElem_drop, <- getD_at (d := eK.d) (by omega)]
   exact hk _ (by omega) (by omega)
  ·rcases List.mem_append.1 hb with hb | hb
   ·simp only [List.mem_singleton] at hb
    subst hb
    obtain ⟨j, hj, rfl⟩ := List.getElem_of_mem ha
    rw [List.length_take] at hj
    have hj2 : j < posK ps k := Nat.lt_of_lt_of_le hj (Nat.min_le_left _ _)
    have hj3 : j < ps.length := Nat.lt_of_lt_of_le hj (Nat.min_le_right _ _)
    rw [List.getElem_take, <- getD_at (d := eK.d) hj3]
    exact posK_lt hj2
   ·exact d3 a ha b hb
theorem delK_KS {ps : List Kv} {k : ByteArray} (hs : KS ps) : KS (delK ps k) := by
 unfold delK
 split
 ·exact hs.sublist (List.eraseIdx_sublist _ _)
 ·exact hs
def rmL {α : Type} (all : List α) (d : α) (i n : Nat) : List α := spl (spl all i ((all.drop (i + 1)).take (n - (i + 1)))) (n - 1) [d]
theorem rmL_len {α : Type} {all : List α} {d : α} {i n : Nat} (hi : i < n) (hn : n <= all.length) : (rmL all d i n).length = all.length := by
 unfold rmL
 have h1 : ((all.drop (i + 1)).take (n - (i + 1))).length = n - (i + 1) := by rw [List.length_take, List.length_drop]; omega
 have h2 : (spl all i ((all.drop (i + 1)).take (n - (i + 1)))).length = all.length := spl_len (by rw [h1]; omega)
 rw [spl_len (by rw [h2]; simp; omega), h2]
theorem rmL_take {α : Type} {all : List α} {d : α} {i n : Nat} (hi : i < n) (hn : n <= all.length) : (rmL all d i n).take (n - 1) = (all.take n).eraseIdx i := by
 have h1 : ((all.drop (i + 1)).take (n - (i + 1))).length = n - (i + 1) := by rw [List.length_take, List.length_drop]; omega
 have h2 : (spl all i ((all.drop (i + 1)).take (n - (i + 1)))).length = all.length := spl_len (by rw [h1]; omega)
 have e : (rmL all d i n).take (n - 1) = (spl all i ((all.drop (i + 1)).take (n - (i + 1)))).take (n - 1) := by
  unfold rmL
  conv => lhs; rw [spl, List.append_assoc]
  rw [List.take_append_of_le_length (by rw [List.length_take, h2]; omega), List.take_take, Nat.min_self]
 rw [e, spl, List.append_assoc, List.take_append, List.length_take, Nat.min_eq_left (by omega), List.take_append, h1, List.take_take, Nat.min_eq_right (by omega)]
 rw [show n - 1 - i - (n - (i + 1)) = 0 by omega, List.take_zero, List.append_nil, List.take_take, Nat.min_eq_left (by omega)]
 rw [List.eraseIdx_eq_take_drop_succ, List.take_take, Nat.min_eq_left (by omega), List.drop_take, show n - 1 - i = n - (i + 1) by omega]
end Go.Abs
namespace Go.Abs
def insL {α : Type} (ps : List α) (i : Nat) (v : α) : List α := ps.take i ++ [v] ++ ps.drop i
theorem insL_len {α : Type} {ps : List α} {i : Nat} {v : α} : (insL ps i v).length = ps.length + 1 := by
 simp only [insL, List.length_append, List.length_take, List.length_drop, List.length_cons, List.length_nil]; omega
theorem src_rest {all : List Kv} {g q i n : Nat} {t : TypeId} {m : Md} (hi : i < n) (hn : n <= all.length) : Src (vc eK g q all t m false) q (ofs all.length (i + 1) 0 * 2) false (vcells eK.f ((all.drop (i + 1)).take (n - (i + 1)))) := by
 by_cases h : all.length = i + 1
 ·have e : (all.drop (i + 1)).take (n - (i + 1)) = [] := by rw [List.drop_eq_nil_of_le (by omega), List.take_nil]
  rw [e]
  intro F A hF
  obtain ⟨hw, _, _, fz, _, hb⟩ := hF
  refine .inr ⟨rfl, _, _, _, hb, ?_, ?_⟩
  ·rw [h]
   simp [ofs, vcells]
  ·simp [vcells]
 ·have : ofs all.length (i + 1) 0 = i + 1 := by unfold ofs; rw [if_neg h]
  rw [this]
  exact src_part (by omega)
theorem del_take {all ps : List Kv} {k : ByteArray} (h : all.take ps.length = ps) (hn : ps.length <= all.length) (hk : hasK ps k = true) : (rmL all eK.d (posK ps k) ps.length).take (delK ps k).length = delK ps k /\ (delK ps k).length = ps.length - 1 := by
 obtain ⟨h1, _⟩ := hasK_lt hk
 have e : delK ps k = ps.eraseIdx (posK ps k) := by unfold delK; rw [if_pos hk]
 have hl : (delK ps k).length = ps.length - 1 := by rw [e, List.length_eraseIdx_of_lt h1]
 rw [hl, rmL_take h1 hn, h, e]
 exact ⟨rfl, rfl⟩
theorem set_take {α : Type} {all ps : List α} {i : Nat} {x : α} (h : all.take ps.length = ps) : (all.set i x).take (ps.set i x).length = ps.set i x := by
 rw [List.length_set, List.take_set, h]
end Go.Abs
namespace Go.Abs
def addK (ps : List Kv) (s : ByteArray) : List Kv := putK ps s (getK ps s + 1)
def takeK (ps : List Kv) (s : ByteArray) : List Kv := if getK ps s > 1 then putK ps s (getK ps s - 1) else if hasK ps s then delK ps s else ps
theorem getK_le {ps : List Kv} {b : Nat} (h : ∀ y ∈ ps, 0 < y.2 /\ y.2 <= (b : Int)) (s : ByteArray) : 0 <= getK ps s /\ getK ps s <= (b : Int) := by
 unfold getK
 split
 ·rename_i hk
  have hp := (hasK_lt hk).1
  have := h (ps.getD (posK ps s) eK.d) (by rw [getD_at hp]; exact List.getElem_mem _)
  omega
 ·omega
theorem putK_all {ps : List Kv} {b : Nat} {s : ByteArray} {v : Int} (h : ∀ y ∈ ps, 0 < y.2 /\ y.2 <= (b : Int)) (h1 : 0 < v) (h2 : v <= (b : Int) + 1) : ∀ y ∈ putK ps s v, 0 < y.2 /\ y.2 <= ((b + 1 : Nat) : Int) := by
 intro y hy
 have key : y ∈ ps ∨ y = (s, v) := by
  unfold putK at hy
  split at hy
  ·exact List.mem_or_eq_of_mem_set hy
  ·simp only [List.mem_append, List.mem_singleton] at hy
   rcases hy with (hy | hy) | hy
   ·exact .inl (List.mem_of_mem_take hy)
   ·exact .inr hy
   ·exact .inl (List.mem_of_mem_drop hy)
 rcases key with hy | rfl
 ·have := h y hy; omega
 ·exact ⟨h1, by show v <= _; omega⟩
theorem delK_all {ps : List Kv} {b : Nat} {s : ByteArray} (h : ∀ y ∈ ps, 0 < y.2 /\ y.2 <= (b : Int)) : ∀ y ∈ delK ps s, 0 < y.2 /\ y.2 <= ((b + 1 : Nat) : Int) := by
 intro y hy
 have hy' : y ∈ ps := by
  unfold delK at hy
  split at hy
  ·exact List.mem_of_mem_eraseIdx hy
  ·exact hy
 have := h y hy'; omega
end Go.Abs
namespace Go.Abs
def cmay (kind : Int) (v : Va) : Bool := and (or (v.k == 0) (v.k == kind)) (vOk v)
def cW (ws : List Kv) (v : Va) : List Kv := if v.k = 0 then ws else if v.k = 2 then addK ws v.s else ws
def cN (n : Int) (v : Va) : Int := if v.k = 0 then n + 1 else n
def uW (ws : List Kv) (v : Va) : List Kv := if v.k = 0 then ws else if v.k = 2 then takeK ws v.s else ws
def uN (n : Int) (v : Va) : Int := if v.k = 0 then n - 1 else n
end Go.Abs
namespace Go.Abs
theorem uN_b (n : Int) (v : Va) : n - 1 <= uN n v /\ uN n v <= n := by unfold uN; split <;> omega
end Go.Abs
