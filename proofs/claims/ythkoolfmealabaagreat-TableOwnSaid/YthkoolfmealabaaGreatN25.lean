/-
  The shop: a new table of it, a row of it.
-/
import Derived.Test.YthkoolfmealabaaGreatN23
import Derived.Test.YthkoolfmealabaaGreatN16
namespace Go.Abs
theorem shopK_kind : ∀ i, i < shopK.length → (shopK.getD i eC.d).kind = 1 ∨ (shopK.getD i eC.d).kind = 2
  | 0, _ => .inl rfl
  | 1, _ => .inr rfl
  | 2, _ => .inr rfl
  | 3, _ => .inl rfl
  | _ + 4, h => absurd h (by simp only [shopK, List.length_cons, List.length_nil]; omega)
theorem getD_snd {xs : List (Nat × Co)} {i : Nat} : (xs.getD i dX).2 = (xs.map Prod.snd).getD i dX.2 := by
  rw [List.getD_eq_getElem?_getD, List.getD_eq_getElem?_getD, List.getElem?_map]
  cases xs[i]? <;> rfl
theorem shop_len {xs : List (Nat × Co)} (h : xs.map Prod.snd = shopK.map newC) : xs.length = 4 := by
  have := congrArg List.length h
  rw [List.length_map] at this
  exact this
theorem shop_at {xs : List (Nat × Co)} (h : xs.map Prod.snd = shopK.map newC) (i : Nat) (hi : i < xs.length) : (xs.getD i dX).2 = newC (shopK.getD i eC.d) := by
  have h4 := shop_len h
  rw [getD_snd, h]
  match i, (show i < 4 by omega) with
  | 0, _ => rfl
  | 1, _ => rfl
  | 2, _ => rfl
  | 3, _ => rfl
theorem newC_fit (c : Cd) : (newC c).Fit := ⟨by simp [newC], by simp [newC], by simp [newC], by simp [newC]⟩
theorem shop_fit {xs : List (Nat × Co)} (h : xs.map Prod.snd = shopK.map newC) : ∀ i, i < xs.length → (xs.getD i dX).2.Fit := fun i hi => by
  rw [shop_at h i hi]; exact newC_fit _
theorem shop_kind {xs : List (Nat × Co)} (h : xs.map Prod.snd = shopK.map newC) : ∀ i, i < xs.length → (xs.getD i dX).2.kind = (shopK.getD i eC.d).kind := fun i hi => by
  rw [shop_at h i hi]; rfl
theorem cutS_len {s : ByteArray} {n : Nat} : (cutS s n).size ≤ n := by
  unfold cutS
  split
  · rw [ByteArray.size_extract]; omega
  · omega
theorem shop_sz {id : Int} {s : ByteArray} (h : s.size ≤ 12) : ∀ i, i < (shopR id s).length → ((shopR id s).getD i eV.d).s.size < 1000000000
  | 0, _ => by show (0 : Nat) < _; decide
  | 1, _ => by show s.size < _; omega
  | 2, _ => by show (0 : Nat) < _; decide
  | 3, _ => by show (0 : Nat) < _; decide
  | _ + 4, h => absurd h (by simp only [shopR, List.length_cons, List.length_nil]; omega)
theorem strEq_self (s : ByteArray) : strEq s s = true := by simp [strEq]
theorem strE_e : strE eStr = true := strEq_self _
theorem shop_ok {id : Int} {s : ByteArray} (h : tOk s = true) : ∀ i, i < (shopR id s).length → colOk shopK i ((shopR id s).getD i eV.d) = true
  | 0, _ => by show colOk shopK 0 ⟨1, id, eStr⟩ = true; simp [colOk, vOk, strE_e, shopK]
  | 1, _ => by show colOk shopK 1 ⟨2, 0, s⟩ = true; simp [colOk, vOk, h, shopK]
  | 2, _ => by show colOk shopK 2 ⟨0, 0, eStr⟩ = true; simp [colOk, vOk, strE_e, shopK]
  | 3, _ => by show colOk shopK 3 ⟨0, 0, eStr⟩ = true; simp [colOk, vOk, strE_e, shopK]
  | _ + 4, h => absurd h (by simp only [shopR, List.length_cons, List.length_nil]; omega)
theorem shop_no {id : Int} {s : ByteArray} (h : tOk s = false) : colOk shopK 1 ((shopR id s).getD 1 eV.d) = false := by
  show colOk shopK 1 ⟨2, 0, s⟩ = false; simp [colOk, vOk, h]
theorem shop_no0 {id : Int} {s : ByteArray} : ∀ i, i < 1 → colOk shopK i ((shopR id s).getD i eV.d) = true
  | 0, _ => by show colOk shopK 0 ⟨1, id, eStr⟩ = true; simp [colOk, vOk, strE_e, shopK]
theorem bless_self : ∀ l : List UInt8, Op.bytesLess l l = false
  | [] => rfl
  | a :: l => by simp [Op.bytesLess, bless_self l]
theorem cmpV_self (a : Va) : cmpV a a = 0 := by
  have h : strLt a.s a.s = false := bless_self _
  simp [cmpV, eqV, strEq_self, h]
theorem rowV_self : ∀ l : List Va, rowV l l = 0
  | [] => rfl
  | a :: l => by simp [rowV, cmpV_self, rowV_self l]
theorem deps_one {d2 : List De} {q : Nat} (h : d2.map keyD = (shopD q).map keyD) : ∃ a, d2 = [⟨a, [tCity], tZone⟩] := by
  match d2, h with
  | [⟨a, l, r⟩], h =>
    simp only [shopD, List.map_cons, List.map_nil, keyD, List.cons.injEq, Prod.mk.injEq, and_true] at h
    exact ⟨a, by rw [h.1, h.2]⟩
  | [], h => simp [shopD] at h
  | _ :: _ :: _, h => simp [shopD] at h
theorem shop_eq {d2 : List De} {q q' : Nat} (h : d2.map keyD = (shopD q).map keyD) : eqT ⟨tShop, shopK, tId, d2⟩ ⟨tShop, shopK, tId, shopD q'⟩ = true := by
  obtain ⟨a, rfl⟩ := deps_one h
  kernel_rfl
theorem shop_ds {d2 : List De} {q : Nat} (h : d2.map keyD = (shopD q).map keyD) : ∀ i, i < d2.length → (d2.getD i dD).l.length < 1000000 := by
  obtain ⟨a, rfl⟩ := deps_one h
  intro i hi
  match i, hi with
  | 0, _ => show 1 < 1000000; decide
  | _ + 1, h => exact absurd h (by simp)
/-- What lies in a table after a row was laid. -/
theorem row_new {xs X : List (Nat × Co)} {vs : List Va} (h : xs.map Prod.snd = shopK.map newC) (hl : X.length = xs.length) (hv : vs.length = xs.length) (hX : ∀ i, i < xs.length → (X.getD i dX).2 = insF xs vs i) : rowX X 0 X.length = vs := by
  have e : ∀ i, i < xs.length → (X.getD i dX).2.l.getD 0 eV.d = vs.getD i eV.d := fun i hi => by
    rw [hX i hi]; unfold insF; rw [shop_at h i hi]; rfl
  apply List.ext_getElem
  · rw [rowX_len (Nat.le_refl _)]; omega
  · intro i h1 h2
    have hi : i < X.length := by omega
    rw [← getD_at (d := eV.d) h2, ← e i (by omega), getD_at hi]
    simp [rowX]
theorem X_len {xs X : List (Nat × Co)} {vs : List Va} (h : xs.map Prod.snd = shopK.map newC) (hl : X.length = xs.length) (hX : ∀ i, i < xs.length → (X.getD i dX).2 = insF xs vs i) : ∀ i, i < X.length → 0 < (X.getD i dX).2.l.length := fun i hi => by
  rw [hX i (by omega)]; unfold insF; rw [shop_at h i (by omega)]; simp [Co.app]
theorem X_fit {xs X : List (Nat × Co)} {vs : List Va} (h : xs.map Prod.snd = shopK.map newC) (hl : X.length = xs.length) (hX : ∀ i, i < xs.length → (X.getD i dX).2 = insF xs vs i) : ∀ i, i < X.length → (X.getD i dX).2.Fit := fun i hi => by
  rw [hX i (by omega)]; unfold insF; rw [shop_at h i (by omega)]
  refine ⟨by simp [Co.app, newC], ?_, ?_, by simp [Co.app, newC]⟩ <;> (simp only [Co.app, newC, cN]; split <;> decide)
end Go.Abs
