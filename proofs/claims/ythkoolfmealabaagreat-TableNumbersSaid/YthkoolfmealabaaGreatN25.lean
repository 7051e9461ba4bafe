/-
  The shop: a new table of it, a row of it.
-/
import Derived.Test.YthkoolfmealabaaGreatN23
import Derived.Test.YthkoolfmealabaaGreatN16
namespace Go.Abs
theorem shopK_kind : ∀ i, i < shopK.length → (shopK.getD i eC.d).kind = 1 ∨ (shopK.getD i eC.d).kind = 2
  | 0, _ => .inl rfl
  | 1, _ => .inr rfl
  | 2, _ => .inr rfl
  | 3, _ => .inl rfl
  | _ + 4, h => absurd h (by simp only [shopK, List.length_cons, List.length_nil]; omega)
theorem getD_snd {xs : List (Nat × Co)} {i : Nat} : (xs.getD i dX).2 = (xs.map Prod.snd).getD i dX.2 := by
  rw [List.getD_eq_getElem?_getD, List.getD_eq_getElem?_getD, List.getElem?_map]
  cases xs[i]? <;> rfl
theorem shop_len {xs : List (Nat × Co)} (h : xs.map Prod.snd = shopK.map newC) : xs.length = 4 := by
  have := congrArg List.length h
  rw [List.length_map] at this
  exact this
theorem shop_at {xs : List (Nat × Co)} (h : xs.map Prod.snd = shopK.map newC) (i : Nat) (hi : i < xs.length) : (xs.getD i dX).2 = newC (shopK.getD i eC.d) := by
  have h4 := shop_len h
  rw [getD_snd, h]
  match i, (show i < 4 by omega) with
  | 0, _ => rfl
  | 1, _ => rfl
  | 2, _ => rfl
  | 3, _ => rfl
theorem newC_fit (c : Cd) : (newC c).Fit := ⟨by simp [newC], by simp [newC], by simp [newC], by simp [newC]⟩
theorem shop_fit {xs : List (Nat × Co)} (h : xs.map Prod.snd = shopK.map newC) : ∀ i, i < xs.length → (xs.getD i dX).2.Fit := fun i hi => by
  rw [shop_at h i hi]; exact newC_fit _
theorem shop_kind {xs : List (Nat × Co)} (h : xs.map Prod.snd = shopK.map newC) : ∀ i, i < xs.length → (xs.getD i dX).2.kind = (shopK.getD i eC.d).kind := fun i hi => by
  rw [shop_at h i hi]; rfl
theorem cutS_len {s : ByteArray} {n : Nat} : (cutS s n).size ≤ n := by
  unfold cutS
  split
  · rw [ByteArray.size_extract]; omega
  · omega
theorem shop_sz {id : Int} {s : ByteArray} (h : s.size ≤ 12) : ∀ i, i < (shopR id s).length → ((shopR id s).getD i eV.d).s.size < 1000000000
  | 0, _ => by show (0 : Nat) < _; decide
  | 1, _ => by show s.size < _; omega
  | 2, _ => by show (0 : Nat) < _; decide
  | 3, _ => by show (0 : Nat) < _; decide
  | _ + 4, h => absurd h (by simp only [shopR, List.length_cons, List.length_nil]; omega)
theorem strEq_self (s : ByteArray) : strEq s s = true := by simp [strEq]
theorem strE_e : strE eStr = true := strEq_self _
theorem shop_ok {id : Int} {s : ByteArray} (h : tOk s = true) : ∀ i, i < (shopR id s).length → colOk shopK i ((shopR id s).getD i eV.d) = true
  | 0, _ => by show colOk shopK 0 ⟨1, id, eStr⟩ = true; simp [colOk, vOk, strE_e, shopK]
  | 1, _ => by show colOk shopK 1 ⟨2, 0, s⟩ = true; simp [colOk, vOk, h, shopK]
  | 2, _ => by show colOk shopK 2 ⟨0, 0, eStr⟩ = true; simp [colOk, vOk, strE_e, shopK]
  | 3, _ => by show colOk shopK 3 ⟨0, 0, eStr⟩ = true; simp [colOk, vOk, strE_e, shopK]
  | _ + 4, h => absurd h (by simp only [shopR, List.length_cons, List.length_nil]; omega)
theorem shop_no {id : Int} {s : ByteArray} (h : tOk s = false) : colOk shopK 1 ((shopR id s).getD 1 eV.d) = false := by
  show colOk shopK 1 ⟨2, 0, s⟩ = false; simp [colOk, vOk, h]
theorem shop_no0 {id : Int} {s : ByteArray} : ∀ i, i < 1 → colOk shopK i ((shopR id s).getD i eV.d) = true
  | 0, _ => by show colOk shopK 0 ⟨1, id, eStr⟩ = true; simp [colOk, vOk, strE_e, shopK]
theorem bless_self : ∀ l : List UInt8, Op.bytesLess l l = false
  | [] => rfl
  | a :: l => by simp [Op.bytesLess, bless_self l]
theorem cmpV_self (a : Va) : cmpV a a = 0 := by
  have h : strLt a.s a.s = false := bless_self _
  simp [cmpV, eqV, strEq_self, h]
theorem rowV_self : ∀ l : List Va, rowV l l = 0
  | [] => rfl
  | a :: l => by simp [rowV, cmpV_self, rowV_self l]
theorem deps_one {d2 : List De} {q : Nat} (h : d2.map keyD = (shopD q).map keyD) : ∃ a, d2 = [⟨a, [tCity], tZone⟩] := by
  match d2, h with
  | [⟨a, l, r⟩], h =>
    simp only [shopD, List.map_cons, List.map_nil, keyD, List.cons.injEq, Prod.mk.injEq, and_true] at h
    exact ⟨a, by rw [h.1, h.2]⟩
  | [], h => simp [shopD] at h
  | _ :: _ :: _, h => simp [shopD] at h
theorem shop_eq {d2 : List De} {q q' : Nat} (h : d2.map keyD = (shopD q).map keyD) : eqT ⟨tShop, shopK, tId, d2⟩ ⟨tShop, shopK, tId, shopD q'⟩ = true := by
  obtain ⟨a, rfl⟩ := deps_one h
  kernel_rfl
theorem shop_ds {d2 : List De} {q : Nat} (h : d2.map keyD = (shopD q).map keyD) : ∀ i, i < d2.length → (d2.getD i dD).l.length < 1000000 := by
  obtain ⟨a, rfl⟩ := deps_one h
  intro i hi
  match i, hi with
  | 0, _ => show 1 < 1000000; decide
  | _ + 1, h => exact absurd h (by simp)
/-- What lies in a table after a row was laid. -/
theorem row_new {xs X : List (Nat × Co)} {vs : List Va} (h : xs.map Prod.snd = shopK.map newC) (hl : X.length = xs.length) (hv : vs.length = xs.length) (hX : ∀ i, i < xs.length → (X.getD i dX).2 = insF xs vs i) : rowX X 0 X.length = vs := by
  have e : ∀ i, i < xs.length → (X.getD i dX).2.l.getD 0 eV.d = vs.getD i eV.d := fun i hi => by
    rw [hX i hi]; unfold insF; rw [shop_at h i hi]; rfl
  apply List.ext_getElem
  · rw [rowX_len (Nat.le_refl _)]; omega
  · intro i h1 h2
    have hi : i < X.length := by omega
    rw [← getD_at (d := eV.d) h2, ← e i (by omega), getD_at hi]
    simp [rowX]
theorem X_len {xs X : List (Nat × Co)} {vs : List Va} (h : xs.map Prod.snd = shopK.map newC) (hl : X.length = xs.length) (hX : ∀ i, i < xs.length → (X.getD i dX).2 = insF xs vs i) : ∀ i, i < X.length → 0 < (X.getD i dX).2.l.length := fun i hi => by
  rw [hX i (by omega)]; unfold insF; rw [shop_at h i (by omega)]; simp [Co.app]
theorem X_fit {xs X : List (Nat × Co)} {vs : List Va} (h : xs.map Prod.snd = shopK.map newC) (hl : X.length = xs.length) (hX : ∀ i, i < xs.length → (X.getD i dX).2 = insF xs vs i) : ∀ i, i < X.length → (X.getD i dX).2.Fit := fun i hi => by
  rw [hX i (by omega)]; unfold insF; rw [shop_at h i (by omega)]
  refine ⟨by simp [Co.app, newC], ?_, ?_, by simp [Co.app, newC]⟩ <;> (simp only [Co.app, newC, cN]; split <;> decide)
end Go.Abs
/-
  TableNumbers: what lies in the table behind each round.
-/
namespace Go.Abs
def eB : En Bool := ⟨1, fun x => [.cb x], false⟩
def tX : ByteArray := ⟨#[120]⟩
def wsN : Nat → List Kv
  | 0 => []
  | m + 1 => [(tX, ((m + 1 : Nat) : Int))]
theorem tX_self : cmpS tX tX = 0 := by decide +kernel
theorem pos_one (n : Int) : posK [(tX, n)] tX = 0 := by
  unfold posK posL
  rw [List.findIdx_cons]
  simp [tX_self]
theorem has_one_k (n : Int) : hasK [(tX, n)] tX = true := by
  unfold hasK
  rw [pos_one]
  simp [tX_self]
theorem get_one (n : Int) : getK [(tX, n)] tX = n := by
  unfold getK
  rw [if_pos (has_one_k n), pos_one]; rfl
theorem addK_N (m : Nat) : addK (wsN m) tX = wsN (m + 1) := by
  cases m with
  | zero => rfl
  | succ m =>
    unfold addK wsN
    rw [get_one]
    unfold putK
    rw [if_pos (has_one_k _), pos_one]
    rfl
theorem takeK_N (m : Nat) : takeK (wsN (m + 1)) tX = wsN m := by
  unfold takeK
  simp only [wsN, get_one, has_one_k, if_true]
  cases m with
  | zero =>
    rw [if_neg (by decide)]
    unfold delK
    rw [if_pos (has_one_k _), pos_one]; rfl
  | succ m =>
    rw [if_pos (by omega)]
    unfold putK
    rw [if_pos (has_one_k _), pos_one]
    show [(tX, _)] = [(tX, _)]
    congr 2
    omega
/-- How many below n. -/
def cntB (f : Int → Bool) : Nat → Int
  | 0 => 0
  | n + 1 => cntB f n + if f (n : Int) then 1 else 0
theorem rank_cnt {m : List Sp} (h : WF (-1) m) (n : Nat) : rank m (n : Int) = cntB (has m) n := by
  induction n with
  | zero => exact rank_low h (by decide)
  | succ n ih =>
    have := rank_next (i := (n : Int)) h
    unfold cntB
    rw [← ih, ← this, show ((n + 1 : Nat) : Int) = (n : Int) + 1 by omega]
    omega
theorem count_cnt {m : List Sp} (h : WF (-1) m) : count m = cntB (has m) 65536 := rank_cnt h 65536
theorem cnt_ins {f g : Int → Bool} {i : Nat} (h0 : f (i : Int) = false) (h1 : g (i : Int) = true) (h2 : ∀ k, k ≠ (i : Int) → g k = f k) (n : Nat) : cntB g n = cntB f n + if i < n then 1 else 0 := by
  induction n with
  | zero => rfl
  | succ n ih =>
    unfold cntB
    rw [ih]
    by_cases e : i = n
    · subst e; rw [h0, h1, if_neg (Nat.lt_irrefl i), if_pos (Nat.lt_succ_self i)]; simp
    · rw [h2 (n : Int) (by omega)]
      by_cases h : i < n
      · rw [if_pos h, if_pos (show i < n + 1 by omega)]; omega
      · rw [if_neg h, if_neg (show ¬ i < n + 1 by omega)]; omega
theorem of_one {i : Nat} (hi : i < 65536) (k : Int) : has (ofL (sortI [(i : Int)])) k = decide (k = (i : Int)) := by
  have h := of_has (sortI_le [(i : Int)]) k
  rw [sortI_mem] at h
  by_cases e : k = (i : Int)
  · rw [decide_eq_true e]; exact h.2 ⟨by simp [e], by omega, by omega⟩
  · rw [decide_eq_false e]
    cases hh : has (ofL (sortI [(i : Int)])) k with
    | false => rfl
    | true => exact absurd (by simpa using (h.1 hh).1) e
theorem or_one {lv l2 : List Sp} {i : Nat} (hi : i < 65536) (hw : WF (-1) lv) (h : IsOr lv (ofL (sortI [(i : Int)])) l2) (hn : has lv (i : Int) = false) : has l2 (i : Int) = true ∧ (∀ k, k ≠ (i : Int) → has l2 k = has lv k) ∧ count l2 = count lv + 1 := by
  have h1 : has l2 (i : Int) = true := by rw [h.2, of_one hi]; simp
  have h2 : ∀ k, k ≠ (i : Int) → has l2 k = has lv k := fun k hk => by rw [h.2, of_one hi, decide_eq_false hk, Bool.or_false]
  exact ⟨h1, h2, by rw [count_cnt h.1, count_cnt hw, cnt_ins hn h1 h2, if_pos hi]⟩
theorem out_one {lv l2 : List Sp} {i : Nat} (hi : i < 65536) (hw : WF (-1) lv) (h : IsOut lv (ofL (sortI [(i : Int)])) l2) (hn : has lv (i : Int) = true) : has l2 (i : Int) = false ∧ (∀ k, k ≠ (i : Int) → has l2 k = has lv k) ∧ count l2 = count lv - 1 := by
  have h1 : has l2 (i : Int) = false := by rw [h.2, of_one hi]; simp
  have h2 : ∀ k, k ≠ (i : Int) → has l2 k = has lv k := fun k hk => by rw [h.2, of_one hi, decide_eq_false hk]; simp
  refine ⟨h1, h2, ?_⟩
  have := cnt_ins h1 hn (fun k hk => (h2 k hk).symm) 65536
  rw [count_cnt h.1, count_cnt hw, this, if_pos hi]
  omega
structure NumI (X : List (Nat × Co)) (lv : List Sp) (i m e : Nat) : Prop where
  len : X.length = 4
  wf : WF (-1) lv
  lt : ∀ k : Int, has lv k = true → k < (i : Int)
  cnt : count lv = (m : Int)
  mi : m ≤ i
  kind : ∀ c, c < 4 → (X.getD c dX).2.kind = (shopK.getD c eC.d).kind
  ll : ∀ c, c < 4 → (X.getD c dX).2.l.length = i
  nu : ∀ c, c < 4 → -(e : Int) ≤ (X.getD c dX).2.nulls ∧ (X.getD c dX).2.nulls ≤ (e : Int)
  b : ∀ c, c < 4 → (X.getD c dX).2.b ≤ e
  ws : (X.getD 1 dX).2.ws = wsN m
theorem num_start {xs : List (Nat × Co)} (h : xs.map Prod.snd = shopK.map newC) : NumI xs [] 0 0 (3 * 0) where
  len := shop_len h
  wf := .nil
  lt k hk := by simp [has] at hk
  cnt := rfl
  mi := Nat.le_refl _
  kind c hc := by rw [shop_at h c (by rw [shop_len h]; exact hc)]; rfl
  ll c hc := by rw [shop_at h c (by rw [shop_len h]; exact hc)]; rfl
  nu c hc := by rw [shop_at h c (by rw [shop_len h]; exact hc)]; exact ⟨Int.le_refl _, Int.le_refl _⟩
  b c hc := by rw [shop_at h c (by rw [shop_len h]; exact hc)]; exact Nat.le_refl _
  ws := by rw [shop_at h 1 (by rw [shop_len h]; decide)]; rfl
theorem NumI.mono {X : List (Nat × Co)} {lv : List Sp} {i m e e' : Nat} (h : NumI X lv i m e) (he : e ≤ e') : NumI X lv i m e' :=
  { h with nu := fun c hc => by have := h.nu c hc; omega, b := fun c hc => Nat.le_trans (h.b c hc) he }
theorem NumI.fit {X : List (Nat × Co)} {lv : List Sp} {i m e : Nat} (h : NumI X lv i m e) (hi : i ≤ 60) (he : e ≤ 200) : ∀ c, c < X.length → (X.getD c dX).2.Fit := fun c hc => by
  rw [h.len] at hc
  have h1 := h.ll c hc
  have h2 := h.nu c hc
  have h3 := h.b c hc
  exact ⟨by omega, by omega, by omega, by omega⟩
theorem tX_ok : tOk tX = true := by decide +kernel
theorem shop_get {i : Int} (c : Nat) (hc : c < 4) : ((shopR i tX).getD c eV.d).k = 0 ∨ ((shopR i tX).getD c eV.d).k = (shopK.getD c eC.d).kind := by
  match c, hc with
  | 0, _ => exact .inr rfl
  | 1, _ => exact .inr rfl
  | 2, _ => exact .inl rfl
  | 3, _ => exact .inl rfl
theorem num_ins {X X' : List (Nat × Co)} {lv l2 : List Sp} {i m e : Nat} (h : NumI X lv i m e) (hi : i < 60) (ho : IsOr lv (ofL (sortI [(i : Int)])) l2) (hl : X'.length = X.length) (hX : ∀ c, c < X.length → (X'.getD c dX).2 = insF X (shopR (i : Int) tX) c) :
    NumI X' l2 (i + 1) (m + 1) (e + 1) ∧ has l2 (i : Int) = true ∧ (X'.getD 1 dX).2.l.getD i eV.d = ⟨2, 0, tX⟩ := by
  have hno : has lv (i : Int) = false := by
    cases hh : has lv (i : Int) with
    | false => rfl
    | true => have := h.lt _ hh; omega
  obtain ⟨h1, h2, h3⟩ := or_one (by omega) h.wf ho hno
  have e1 : ∀ c, c < 4 → (X'.getD c dX).2 = ((X.getD c dX).2.app ((shopR (i : Int) tX).getD c eV.d)) := fun c hc => hX c (by rw [h.len]; exact hc)
  refine ⟨⟨by rw [hl, h.len], ho.1, fun k hk => ?_, by rw [h3, h.cnt]; rfl, Nat.succ_le_succ h.mi, fun c hc => ?_, fun c hc => ?_, fun c hc => ?_, fun c hc => ?_, ?_⟩, h1, ?_⟩
  · by_cases e : k = (i : Int)
    · omega
    · rw [h2 k e] at hk; have := h.lt k hk; omega
  · rw [e1 c hc]; exact h.kind c hc
  · rw [e1 c hc]; have := h.ll c hc; simp only [Co.app, List.length_append, List.length_cons, List.length_nil]; omega
  · rw [e1 c hc]
    have := h.nu c hc
    simp only [Co.app, cN]
    split <;> omega
  · rw [e1 c hc]
    have := h.b c hc
    simp only [Co.app]; omega
  · rw [e1 1 (by decide)]
    show cW (X.getD 1 dX).2.ws ⟨2, 0, tX⟩ = _
    rw [h.ws]
    exact addK_N m
  · rw [e1 1 (by decide)]
    show ((X.getD 1 dX).2.l ++ [(⟨2, 0, tX⟩ : Va)]).getD i eV.d = _
    rw [List.getD_eq_getElem?_getD, List.getElem?_append_right (by rw [h.ll 1 (by decide)]; exact Nat.le_refl _), h.ll 1 (by decide), Nat.sub_self]; rfl
theorem num_del {X : List (Nat × Co)} {lv l2 : List Sp} {i m e : Nat} (h : NumI X lv (i + 1) (m + 1) e) (hm : m ≤ i) (hi : i < 60) (hh : has lv (i : Int) = true) (hx : (X.getD 1 dX).2.l.getD i eV.d = ⟨2, 0, tX⟩) (ho : IsOut lv (ofL (sortI [(i : Int)])) l2) :
    NumI (turnX X (putF X i ⟨0, 0, ⟨#[]⟩⟩) X.length) l2 (i + 1) m (e + 2) ∧ has l2 (i : Int) = false := by
  obtain ⟨h1, h2, h3⟩ := out_one (by omega) h.wf ho hh
  have e1 : ∀ c, c < 4 → ((turnX X (putF X i ⟨0, 0, ⟨#[]⟩⟩) X.length).getD c dX).2 = ((X.getD c dX).2.put i ⟨0, 0, ⟨#[]⟩⟩) := fun c hc => by
    rw [turnX_get _ _ (by rw [h.len]; exact hc), if_pos (by rw [h.len]; exact hc)]; rfl
  refine ⟨⟨by rw [turnX_len, h.len], ho.1, fun k hk => ?_, by rw [h3, h.cnt]; omega, by omega, fun c hc => ?_, fun c hc => ?_, fun c hc => ?_, fun c hc => ?_, ?_⟩, h1⟩
  · by_cases e : k = (i : Int)
    · omega
    · rw [h2 k e] at hk; exact h.lt k hk
  · rw [e1 c hc]; exact h.kind c hc
  · rw [e1 c hc]; have := h.ll c hc; simp only [Co.put, List.length_set]; omega
  · rw [e1 c hc]
    have := h.nu c hc
    simp only [Co.put, cN, uN]
    split <;> split <;> omega
  · rw [e1 c hc]
    have := h.b c hc
    simp only [Co.put]; omega
  · rw [e1 1 (by decide)]
    show cW (uW (X.getD 1 dX).2.ws ((X.getD 1 dX).2.l.getD i eV.d)) ⟨0, 0, ⟨#[]⟩⟩ = _
    rw [hx, h.ws]
    exact takeK_N m
theorem wsN_len (m : Nat) : ((wsN m).length : Int) = if (1 : Int) < (m : Int) then 1 else (m : Int) := by
  match m with
  | 0 => rfl
  | 1 => rfl
  | m + 2 => rw [if_pos (by omega)]; rfl
theorem city_at : idxF shopK (fun c => strEq c.name ⟨#[99, 105, 116, 121]⟩) = ((1 : Nat) : Int) := by decide +kernel
theorem shop_oks {i : Int} : ∀ c, c < (shopR i tX).length → colOk shopK c ((shopR i tX).getD c eV.d) = true := shop_ok tX_ok
end Go.Abs
namespace Go.Abs
theorem isE_pos {α : Type} {l : List α} {n : Nat} (h : l.length = n + 1) : l.isEmpty = false := by
  cases l with
  | nil => cases h
  | cons a l => rfl
end Go.Abs
namespace Go.Abs
theorem num_ins2 {X X' : List (Nat × Co)} {lv l2 : List Sp} {i m e : Nat} (h : NumI X lv i m e) (hi : i < 60) (ho : IsOr lv (ofL (sortI [(i : Int)])) l2) (hl : X'.length = X.length) (hX : ∀ c, c < X.length → (X'.getD c dX).2 = insF X (shopR (i : Int) ⟨#[120]⟩) c) :
    NumI X' l2 (i + 1) (m + 1) (e + 1) ∧ has l2 (i : Int) = true ∧ (X'.getD 1 dX).2.l.getD i eV.d = ⟨2, 0, tX⟩ := num_ins h hi ho hl hX
theorem shop_oks2 {i : Int} : ∀ c, c < (shopR i ⟨#[120]⟩).length → colOk shopK c ((shopR i ⟨#[120]⟩).getD c eV.d) = true := shop_ok tX_ok
theorem shop_szs2 {i : Int} : ∀ c, c < (shopR i ⟨#[120]⟩).length → ((shopR i ⟨#[120]⟩).getD c eV.d).s.size < 1000000000 := shop_sz (s := tX) (show tX.size ≤ 12 by decide)
end Go.Abs
namespace Go.Abs
theorem num_fin {X : List (Nat × Co)} {lv : List Sp} {i m e : Nat} (h : NumI X lv i m e) : and ((m : Int) == (m : Int)) ((((X.getD 1 dX).2.ws.length : Nat) : Int) == (if 1 < (m : Int) then 1 else (m : Int))) = true := by
  rw [h.ws, wsN_len]; simp
end Go.Abs
