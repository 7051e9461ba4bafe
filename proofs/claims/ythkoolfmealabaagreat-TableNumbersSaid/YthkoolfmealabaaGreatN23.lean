/-
  Tables: their columns' forms, what determines what; columns with their values.
-/
import Derived.Test.YthkoolfmealabaaGreatN16
import Derived.Test.YthkoolfmealabaaGreatN22
import Derived.Test.YthkoolfmealabaaGreatN19
namespace Go.Abs
structure Cd where
  name : ByteArray
  kind : Int
  must : Bool
  to : ByteArray
def eC : En Cd := ⟨4, fun x => [.v (.string x.name), .v (.int .i64 x.kind), .cb x.must, .v (.string x.to)], ⟨⟨#[]⟩, 0, false, ⟨#[]⟩⟩⟩
/-- What determines a column; where its left side lies. -/
structure De where
  q : Nat
  l : List ByteArray
  r : ByteArray
def dD : De := ⟨0, [], ⟨#[]⟩⟩
def eD (g : Nat) : En De := ⟨2, fun x => [.s g x.q 1 0 x.l.length x.l.length false, .v (.string x.r)], dD⟩
def lefA (t : TypeId) (d : De) : As := (vc eS 0 d.q d.l t .imm false).den
def eqC (a b : Cd) : Bool := and (and (and (strEq a.name b.name) (a.kind == b.kind)) (a.must == b.must)) (strEq a.to b.to)
def eqDe (a b : De) : Bool := and (strEq a.r b.r) (cmpP a.l b.l == 0)
def eqL {α : Type} (p : α → α → Bool) : List α → List α → Bool
  | [], [] => true
  | a :: l, b :: m => and (p a b) (eqL p l m)
  | _, _ => false
theorem eqL_step {α : Type} {p : α → α → Bool} {a b : List α} {i : Nat} (d : α) (ha : i < a.length) (hb : i < b.length) : eqL p (a.drop i) (b.drop i) = and (p (a.getD i d) (b.getD i d)) (eqL p (a.drop (i + 1)) (b.drop (i + 1))) := by
  rw [List.drop_eq_getElem_cons ha, List.drop_eq_getElem_cons hb, getD_at ha, getD_at hb]; rfl
theorem eqL_end {α : Type} {p : α → α → Bool} {a b : List α} {i : Nat} (ha : a.length ≤ i) (hb : b.length ≤ i) : eqL p (a.drop i) (b.drop i) = true := by
  rw [List.drop_of_length_le ha, List.drop_of_length_le hb]; rfl
structure Tb where
  name : ByteArray
  cols : List Cd
  key : ByteArray
  deps : List De
def eqT (a b : Tb) : Bool := and (and (and (and (and (strEq a.name b.name) (strEq a.key b.key)) (a.cols.length == b.cols.length)) (a.deps.length == b.deps.length)) (eqL eqC a.cols b.cols)) (eqL eqDe a.deps b.deps)
theorem i_bne {a b : Nat} : ((a : Int) != (b : Int)) = !(a == b) := by
  by_cases h : a = b
  · subst h; simp
  · have h2 : ¬ (a : Int) = (b : Int) := by omega
    rw [beq_eq_false_iff_ne.2 h]; simp [bne, beq_eq_false_iff_ne.2 h2]
theorem o4n (a b c d : Bool) : (or (or (or (!a) (!b)) (!c)) (!d)) = !(and (and (and a b) c) d) := by cases a <;> cases b <;> cases c <;> cases d <;> rfl
theorem eqT_is {na ka nb kb : ByteArray} {xa xb : List Cd} {da db : List De} {e : Bool} (h : or (or (or (!strEq na nb) (!strEq ka kb)) ((xa.length : Int) != (xb.length : Int))) ((da.length : Int) != (db.length : Int)) = e) : (and (and (and (strEq na nb) (strEq ka kb)) (xa.length == xb.length)) (da.length == db.length)) = !e := by
  rw [i_bne, i_bne, o4n] at h; rw [← h, Bool.not_not]
theorem eqT_no {na ka nb kb : ByteArray} {xa xb : List Cd} {da db : List De} (h : or (or (or (!strEq na nb) (!strEq ka kb)) ((xa.length : Int) != (xb.length : Int))) ((da.length : Int) != (db.length : Int)) = true) : eqT ⟨na, xa, ka, da⟩ ⟨nb, xb, kb, db⟩ = false := by
  unfold eqT; dsimp only; rw [eqT_is h]; rfl
theorem eqT_go {na ka nb kb : ByteArray} {xa xb : List Cd} {da db : List De} (h : or (or (or (!strEq na nb) (!strEq ka kb)) ((xa.length : Int) != (xb.length : Int))) ((da.length : Int) != (db.length : Int)) = false) : eqT ⟨na, xa, ka, da⟩ ⟨nb, xb, kb, db⟩ = and (eqL eqC xa xb) (eqL eqDe da db) := by
  unfold eqT; dsimp only; rw [eqT_is h]; rfl
theorem eqT_len {na ka nb kb : ByteArray} {xa xb : List Cd} {da db : List De} (h : or (or (or (!strEq na nb) (!strEq ka kb)) ((xa.length : Int) != (xb.length : Int))) ((da.length : Int) != (db.length : Int)) = false) : xa.length = xb.length ∧ da.length = db.length := by
  have h2 := eqT_is h
  simp only [Bool.not_false, Bool.and_eq_true, beq_iff_eq] at h2
  exact ⟨h2.1.2, h2.2⟩
theorem eqC_is {a b : Cd} {e : Bool} (h : or (or (or (!strEq a.name b.name) (a.kind != b.kind)) (!(a.must == b.must))) (!strEq a.to b.to) = e) : eqC a b = !e := by
  unfold bne at h; rw [o4n] at h; rw [← h, Bool.not_not]; rfl
theorem eqDe_is {a b : De} {e : Bool} (h : or (!strEq a.r b.r) (!(cmpP a.l b.l == 0)) = e) : eqDe a b = !e := by
  rw [← h]; unfold eqDe; cases strEq a.r b.r <;> cases (cmpP a.l b.l == 0) <;> rfl
/-- What a thing says, where it lies let be. -/
def keyD (d : De) : List ByteArray × ByteArray := (d.l, d.r)
theorem key_cur {nw da : List De} {i : Nat} (h : i < da.length) (hn : nw.length = i) : (nw ++ da.drop i).getD i dD = da.getD i dD := by
  rw [List.getD_eq_getElem?_getD, List.getD_eq_getElem?_getD, List.getElem?_append_right (by omega), hn, Nat.sub_self, List.getElem?_drop, Nat.add_zero]
theorem key_set {nw da : List De} {i : Nat} (y : De) (h : i < da.length) (hn : nw.length = i) : (nw ++ da.drop i).set i y = (nw ++ [y]) ++ da.drop (i + 1) := by
  rw [List.set_append_right _ _ (by omega), hn, Nat.sub_self, List.drop_eq_getElem_cons h, List.set_cons_zero, List.append_assoc]; rfl
theorem key_snoc {nw da : List De} {i q : Nat} (h : i < da.length) (hk : nw.map keyD = (da.take i).map keyD) : (nw ++ [(⟨q, (da.getD i dD).l, (da.getD i dD).r⟩ : De)]).map keyD = (da.take (i + 1)).map keyD := by
  rw [List.map_append, hk, List.take_add_one, List.getElem?_eq_getElem h, List.map_append, getD_at h]; rfl
def mustC (key : ByteArray) (c : Cd) : Cd := if strEq c.name key then { c with must := true } else c
def mustN (key : ByteArray) (l : List Cd) (i : Nat) : List Cd := (l.take i).map (mustC key) ++ l.drop i
theorem mustN_len (key : ByteArray) (l : List Cd) (i : Nat) : (mustN key l i).length = l.length := by
  unfold mustN; simp only [List.length_append, List.length_map, List.length_take, List.length_drop]; omega
theorem mustN_at {key : ByteArray} {l : List Cd} {i : Nat} (h : i < l.length) : (mustN key l i).getD i eC.d = l.getD i eC.d := by
  unfold mustN
  rw [List.getD_eq_getElem?_getD, List.getD_eq_getElem?_getD, List.getElem?_append_right (by simp; omega)]
  simp only [List.length_map, List.length_take, Nat.min_eq_left (Nat.le_of_lt h), Nat.sub_self, List.getElem?_drop, Nat.add_zero]
theorem mustN_step {key : ByteArray} {l : List Cd} {i : Nat} (h : i < l.length) : (mustN key l i).set i (mustC key (l.getD i eC.d)) = mustN key l (i + 1) := by
  unfold mustN
  rw [List.set_append_right _ _ (by simp; omega), List.take_add_one, List.map_append, List.append_assoc]
  congr 1
  simp only [List.length_map, List.length_take, Nat.min_eq_left (Nat.le_of_lt h), Nat.sub_self]
  rw [List.drop_eq_getElem_cons h, List.set_cons_zero, List.getElem?_eq_getElem h, getD_at h]
  rfl
theorem mustN_zero (key : ByteArray) (l : List Cd) : mustN key l 0 = l := rfl
theorem mustN_all (key : ByteArray) (l : List Cd) : mustN key l l.length = l.map (mustC key) := by
  unfold mustN; rw [List.take_length, List.drop_length, List.append_nil]
/-- The shop's columns. -/
def tId : ByteArray := ⟨#[105, 100]⟩
def tCity : ByteArray := ⟨#[99, 105, 116, 121]⟩
def tZone : ByteArray := ⟨#[122, 111, 110, 101]⟩
def tLand : ByteArray := ⟨#[108, 97, 110, 100]⟩
def tShop : ByteArray := ⟨#[115, 104, 111, 112]⟩
def shopC : List Cd := [⟨tId, 1, false, ⟨#[]⟩⟩, ⟨tCity, 2, true, ⟨#[]⟩⟩, ⟨tZone, 2, false, ⟨#[]⟩⟩, ⟨tLand, 1, false, tLand⟩]
def shopK : List Cd := [⟨tId, 1, true, ⟨#[]⟩⟩, ⟨tCity, 2, true, ⟨#[]⟩⟩, ⟨tZone, 2, false, ⟨#[]⟩⟩, ⟨tLand, 1, false, tLand⟩]
theorem shopK_is : shopC.map (mustC tId) = shopK := by kernel_rfl
def shopD (q : Nat) : List De := [⟨q, [tCity], tZone⟩]
/-- Where all of a list's things are laid back. -/
theorem big_bk {α : Type} {I : α → As} {l : List α} (i : Nat) (d : α) (h : i < l.length) : GE [.as (I (l.getD i d)), .as (bigA I (l.eraseIdx i))] Unit (fun _ => True) (fun _ => [.as (bigA I l)]) := by
  have h2 := big_in (I := I) i d (l.getD i d) h
  rw [set_self d h] at h2
  exact h2
theorem ge_op {c : Ch} {I : As} (h : I = c.den := by rfl) : GE [.as I] Unit (fun _ => True) (fun _ => [c]) := by
  subst h; exact fun F A hF => ⟨(), F, trivial, As.addE (As.unE hF), .refl⟩
theorem ge_sh {c : Ch} {I : As} (h : I = c.den := by rfl) : GE [c] Unit (fun _ => True) (fun _ => [.as I]) := by
  subst h; exact fun F A hF => ⟨(), F, trivial, As.addE (As.unE hF), .refl⟩
theorem blk_vec {α : Type} (E : En α) {g q : Nat} {cs : List C1} (xs : List α) {t : TypeId} {m : Md} (h : (cs.map C1.den).toArray = vcells E.f xs := by rfl) (hw : ∀ x, (E.f x).length = E.w := by intro _; rfl) : GE [.blk g q cs t m] Unit (fun _ => True) (fun _ => [vc E g q xs t m false]) := fun F A hF => by
  have h1 := As.unE hF
  refine ⟨(), F, trivial, As.addE ⟨hw, ?_⟩, .refl⟩
  have h1 : (blkA q (cs.map C1.den).toArray t m).p F A := h1
  rw [h] at h1
  exact h1
/-- A column: its kind, its values, its words, how many are nothing; how much has happened. -/
structure Co where
  kind : Int
  l : List Va
  ws : List Kv
  nulls : Int
  b : Nat
def Co.app (c : Co) (v : Va) : Co := ⟨c.kind, c.l ++ [v], cW c.ws v, cN c.nulls v, c.b + 1⟩
def Co.put (c : Co) (i : Nat) (v : Va) : Co := ⟨c.kind, c.l.set i v, cW (uW c.ws (c.l.getD i eV.d)) v, cN (uN c.nulls (c.l.getD i eV.d)) v, c.b + 2⟩
/-- A new column. -/
def newC (c : Cd) : Co := ⟨c.kind, [], [], 0, 0⟩
theorem newC_snoc {xs : List (Nat × Co)} {xa : List Cd} {i q : Nat} (h : i < xa.length) (hk : xs.map Prod.snd = (xa.take i).map newC) : (xs ++ [(q, newC (xa.getD i eC.d))]).map Prod.snd = (xa.take (i + 1)).map newC := by
  rw [List.map_append, hk, List.take_add_one, List.getElem?_eq_getElem h, List.map_append, getD_at h]; rfl
def dX : Nat × Co := (0, ⟨0, [], [], 0, 0⟩)
def eX : En (Nat × Co) := ⟨1, fun x => [.p 911 x.1 0 0 0], dX⟩
theorem eX_re {g q : Nat} {xs ys : List (Nat × Co)} {t : TypeId} {m : Md} {z : Bool} (h : xs.map Prod.fst = ys.map Prod.fst) : [vc eX g q xs t m z].map Ch.den = [vc eX g q ys t m z].map Ch.den := by
  have e : ∀ l : List (Nat × Co), vcells eX.f l = vcells (fun p : Nat => [C1.p 911 p 0 0 0]) (l.map Prod.fst) := fun l => by
    unfold vcells
    rw [List.flatMap_map]; rfl
  have hn : xs = [] ↔ ys = [] := by rw [← List.map_eq_nil_iff (f := Prod.fst), h, List.map_eq_nil_iff]
  unfold vc
  simp only [List.map_cons, List.map_nil, List.cons.injEq, and_true]
  cases z with
  | true => show As.pure (xs = []) = As.pure (ys = []); rw [propext hn]
  | false => show As.guard _ (blkA q (vcells eX.f xs) t m) = As.guard _ (blkA q (vcells eX.f ys) t m); rw [e, e, h]
section
/-- Columns are turned, one after the other. -/
def turnX (xs : List (Nat × Co)) (f : Nat → Co) : Nat → List (Nat × Co)
  | 0 => xs
  | i + 1 => (turnX xs f i).set i ((xs.getD i dX).1, f i)
variable {xs : List (Nat × Co)} {f : Nat → Co}
theorem turnX_len (i : Nat) : (turnX xs f i).length = xs.length := by
  induction i with
  | zero => rfl
  | succ i ih => unfold turnX; rw [List.length_set, ih]
theorem turnX_get (i j : Nat) (h : j < xs.length) : (turnX xs f i).getD j dX = if j < i then ((xs.getD j dX).1, f j) else xs.getD j dX := by
  induction i with
  | zero => rw [if_neg (by omega)]; rfl
  | succ i ih =>
    unfold turnX
    by_cases e : i = j
    · subst e
      rw [if_pos (by omega), getD_at (by rw [List.length_set, turnX_len]; exact h), List.getElem_set_self]
    · have h1 : j < ((turnX xs f i).set i ((xs.getD i dX).1, f i)).length := by rw [List.length_set, turnX_len]; exact h
      have h2 : j < (turnX xs f i).length := by rw [turnX_len]; exact h
      rw [getD_at h1, List.getElem_set_ne e, ← getD_at (d := dX) h2, ih]
      by_cases h3 : j < i
      · rw [if_pos h3, if_pos (by omega)]
      · rw [if_neg h3, if_neg (by omega)]
theorem turnX_at {i : Nat} (h : i < xs.length) : (turnX xs f i).getD i dX = xs.getD i dX := by
  rw [turnX_get i i h, if_neg (Nat.lt_irrefl i)]
theorem turnX_fst (i : Nat) : (turnX xs f i).map Prod.fst = xs.map Prod.fst := by
  apply List.ext_getElem
  · rw [List.length_map, List.length_map, turnX_len]
  · intro j h1 h2
    rw [List.length_map] at h1 h2
    rw [List.getElem_map, List.getElem_map, ← getD_at (d := dX) h1, ← getD_at (d := dX) h2, turnX_get i j h2]
    split <;> rfl
end
def insF (xs : List (Nat × Co)) (vs : List Va) (i : Nat) : Co := (xs.getD i dX).2.app (vs.getD i eV.d)
def putF (xs : List (Nat × Co)) (id : Nat) (v : Va) (i : Nat) : Co := (xs.getD i dX).2.put id v
/-- Not too much has happened to a column. -/
structure Co.Fit (c : Co) : Prop where
  len : c.l.length < 99000
  nlo : -99000 < c.nulls
  nhi : c.nulls < 99000
  b : c.b < 79000
/-- A row, column by column. -/
def rowX (xs : List (Nat × Co)) (id i : Nat) : List Va := (xs.take i).map fun x => x.2.l.getD id eV.d
theorem rowX_at {xs : List (Nat × Co)} {id i : Nat} (h : i < xs.length) : rowX xs id (i + 1) = rowX xs id i ++ [(xs.getD i dX).2.l.getD id eV.d] := by
  unfold rowX
  rw [List.take_add_one, List.getElem?_eq_getElem h, List.map_append, getD_at h]; rfl
theorem rowX_emp {xs : List (Nat × Co)} {id i : Nat} (h : i < xs.length) : (rowX xs id (i + 1)).isEmpty = ((rowX xs id i).isEmpty && false) := by
  rw [rowX_at h, Bool.and_false]; simp
theorem rowX_len {xs : List (Nat × Co)} {id i : Nat} (h : i ≤ xs.length) : (rowX xs id i).length = i := by
  unfold rowX; rw [List.length_map, List.length_take]; omega
/-- A text that is not too long; a shop. -/
def cutS (s : ByteArray) (n : Nat) : ByteArray := if n < s.size then s.extract 0 n else s
def eStr : ByteArray := ⟨#[]⟩
def shopR (id : Int) (city : ByteArray) : List Va := [⟨1, id, eStr⟩, ⟨2, 0, city⟩, ⟨0, 0, eStr⟩, ⟨0, 0, eStr⟩]
/-- May a value stand there? -/
def colOk (cs : List Cd) (i : Nat) (v : Va) : Bool := and (or (v.k == 0) (v.k == (cs.getD i eC.d).kind)) (vOk v)
end Go.Abs
