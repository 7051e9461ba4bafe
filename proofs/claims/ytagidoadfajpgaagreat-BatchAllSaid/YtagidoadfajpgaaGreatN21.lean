/-
  V12.
-/
import Derived.Test.YtagidoadfajpgaaGreatN14
import Derived.Test.YtagidoadfajpgaaGreatN15
import Derived.Test.YtagidoadfajpgaaGreatN16
import Derived.Test.YtagidoadfajpgaaGreatN1
import Derived.Test.YtagidoadfajpgaaGreatN11
open List (length_append getElem?_append_right getD_eq_getElem?_getD append_assoc drop_eq_getElem_cons map_append ext_getElem length_map map_cons append_nil length_take getElem_set_self length_drop getElem?_eq_getElem set_append_right length_set getElem_map take_length map_nil getElem?_drop map_eq_nil_iff take_add_one)
namespace Go.Abs
structure Cd where
 name : ByteArray
 kind : Int
 must : Bool
 to : ByteArray
def eC : En Cd := ⟨4, fun x => [.v (.string x.name), .v (.int .i64 x.kind), .cb x.must, .v (.string x.to)], ⟨⟨#[]⟩, 0, false, ⟨#[]⟩⟩⟩
structure De where
 q : Nat
 l : List ByteArray
 r : ByteArray
def dD : De := ⟨0, [], ⟨#[]⟩⟩
def eD (g : Nat) : En De := ⟨2, fun x => [.s g x.q 1 0 x.l.length x.l.length false, .v (.string x.r)], dD⟩
def n4 (t : TypeId) (d : De) : As := (vc eS 0 d.q d.l t .imm false).den
structure Tb where
 name : ByteArray
 cols : List Cd
 key : ByteArray
 deps : List De
def e8 (d : De) : List ByteArray × ByteArray := (d.l, d.r)
theorem a2w {nw da : List De} {i : Nat} (h : i < da.length) (hn : nw.length = i) : (nw ++ da.drop i).getD i dD = da.getD i dD := by
 rw [getD_eq_getElem?_getD, getD_eq_getElem?_getD, getElem?_append_right (by omega), hn, Nat.sub_self, getElem?_drop, Nat.add_zero]
theorem a9y {nw da : List De} {i : Nat} (y : De) (h : i < da.length) (hn : nw.length = i) : (nw ++ da.drop i).set i y = (nw ++ [y]) ++ da.drop (i + 1) := by
 rw [set_append_right _ _ (by omega), hn, Nat.sub_self, drop_eq_getElem_cons h, List.set_cons_zero, append_assoc]; rfl
theorem a59 {nw da : List De} {i q : Nat} (h : i < da.length) (hk : nw.map e8 = (da.take i).map e8) : (nw ++ [(⟨q, (da.getD i dD).l, (da.getD i dD).r⟩ : De)]).map e8 = (da.take (i + 1)).map e8 := by
 rw [map_append, hk, take_add_one, getElem?_eq_getElem h, map_append, a8 h]; rfl
def b5 (key : ByteArray) (c : Cd) : Cd := if a7 c.name key then { c with must := true } else c
def I9 (key : ByteArray) (l : List Cd) (i : Nat) : List Cd := (l.take i).map (b5 key) ++ l.drop i
theorem a9n (key : ByteArray) (l : List Cd) (i : Nat) : (I9 key l i).length = l.length := by
 unfold I9; simp only [length_append, length_map, length_take, length_drop]; omega
theorem a0l {key : ByteArray} {l : List Cd} {i : Nat} (h : i < l.length) : (I9 key l i).getD i eC.d = l.getD i eC.d := by
 unfold I9
 rw [getD_eq_getElem?_getD, getD_eq_getElem?_getD, getElem?_append_right (by simp; omega)]
 simp only [length_map, length_take, Nat.min_eq_left (Nat.le_of_lt h), Nat.sub_self, getElem?_drop, Nat.add_zero]
theorem a1M {key : ByteArray} {l : List Cd} {i : Nat} (h : i < l.length) : (I9 key l i).set i (b5 key (l.getD i eC.d)) = I9 key l (i + 1) := by
 unfold I9
 rw [set_append_right _ _ (by simp; omega), take_add_one, map_append, append_assoc]
 congr 1
 simp only [length_map, length_take, Nat.min_eq_left (Nat.le_of_lt h), Nat.sub_self]
 rw [drop_eq_getElem_cons h, List.set_cons_zero, getElem?_eq_getElem h, a8 h]
 rfl
theorem a9o (key : ByteArray) (l : List Cd) : I9 key l l.length = l.map (b5 key) := by
 unfold I9; rw [take_length, List.drop_length, append_nil]
def tId : ByteArray := ⟨#[105, 100]⟩
def a1o : ByteArray := ⟨#[99, 105, 116, 121]⟩
def a4w : ByteArray := ⟨#[122, 111, 110, 101]⟩
def b1F : ByteArray := ⟨#[108, 97, 110, 100]⟩
def a6O : ByteArray := ⟨#[115, 104, 111, 112]⟩
def a3j : List Cd := [⟨tId, 1, false, ⟨#[]⟩⟩, ⟨a1o, 2, true, ⟨#[]⟩⟩, ⟨a4w, 2, false, ⟨#[]⟩⟩, ⟨b1F, 1, false, b1F⟩]
def F7 : List Cd := [⟨tId, 1, true, ⟨#[]⟩⟩, ⟨a1o, 2, true, ⟨#[]⟩⟩, ⟨a4w, 2, false, ⟨#[]⟩⟩, ⟨b1F, 1, false, b1F⟩]
theorem a5G : a3j.map (b5 tId) = F7 := by kernel_rfl
def a0f (q : Nat) : List De := [⟨q, [a1o], a4w⟩]
theorem j9 {α : Type} {I : α -> As} {l : List α} (i : Nat) (d : α) (h : i < l.length) : GE [.as (I (l.getD i d)), .as (e6 I (l.eraseIdx i))] Unit (fun _ => True) (fun _ => [.as (e6 I l)]) := by
 have h2 := U5 (I := I) i d (l.getD i d) h
 rw [G8 d h] at h2
 exact h2
theorem a1t {c : Ch} {I : As} (h : I = c.den := by rfl) : GE [.as I] Unit (fun _ => True) (fun _ => [c]) := by
 subst h; exact fun F A hF => ⟨(), F, trivial, As.addE (As.unE hF), .refl⟩
theorem x4 {c : Ch} {I : As} (h : I = c.den := by rfl) : GE [c] Unit (fun _ => True) (fun _ => [.as I]) := by
 subst h; exact fun F A hF => ⟨(), F, trivial, As.addE (As.unE hF), .refl⟩
theorem j7 {α : Type} (E : En α) {g q : Nat} {cs : List C1} (xs : List α) {t : TypeId} {m : Md} (h : (cs.map C1.den).toArray = b7 E.f xs := by rfl) (hw : ∀ x, (E.f x).length = E.w := by intro _; rfl) : GE [.blk g q cs t m] Unit (fun _ => True) (fun _ => [vc E g q xs t m false]) := fun F A hF => by
 have h1 := As.unE hF
 refine ⟨(), F, trivial, As.addE ⟨hw, ?_⟩, .refl⟩
 have h1 : (a7r q (cs.map C1.den).toArray t m).p F A := h1
 rw [h] at h1
 exact h1
structure Co where
 kind : Int
 l : List Va
 ws : List Kv
 nulls : Int
 b : Nat
def Co.app (c : Co) (v : Va) : Co := ⟨c.kind, c.l ++ [v], cW c.ws v, cN c.nulls v, c.b + 1⟩
def Co.put (c : Co) (i : Nat) (v : Va) : Co := ⟨c.kind, c.l.set i v, cW (uW c.ws (c.l.getD i eV.d)) v, cN (uN c.nulls (c.l.getD i eV.d)) v, c.b + 2⟩
def K5 (c : Cd) : Co := ⟨c.kind, [], [], 0, 0⟩
theorem a9k {xs : List (Nat × Co)} {xa : List Cd} {i q : Nat} (h : i < xa.length) (hk : xs.map Prod.snd = (xa.take i).map K5) : (xs ++ [(q, K5 (xa.getD i eC.d))]).map Prod.snd = (xa.take (i + 1)).map K5 := by
 rw [map_append, hk, take_add_one, getElem?_eq_getElem h, map_append, a8 h]; rfl
def dX : Nat × Co := (0, ⟨0, [], [], 0, 0⟩)
def eX : En (Nat × Co) := ⟨1, fun x => [.p 911 x.1 0 0 0], dX⟩
theorem b23 {g q : Nat} {xs ys : List (Nat × Co)} {t : TypeId} {m : Md} {z : Bool} (h : xs.map Prod.fst = ys.map Prod.fst) : [vc eX g q xs t m z].map Ch.den = [vc eX g q ys t m z].map Ch.den := by
 have e : ∀ l : List (Nat × Co), b7 eX.f l = b7 (fun p : Nat => [C1.p 911 p 0 0 0]) (l.map Prod.fst) := fun l => by
  unfold b7
  rw [List.flatMap_map]; rfl
 have hn : xs = [] ↔ ys = [] := by rw [<- map_eq_nil_iff (f := Prod.fst), h, map_eq_nil_iff]
 unfold vc
 simp only [map_cons, map_nil, List.cons.injEq, and_true]
 cases z with
 | true => show As.pure (xs = []) = As.pure (ys = []); rw [propext hn]
 | false => show As.guard _ (a7r q (b7 eX.f xs) t m) = As.guard _ (a7r q (b7 eX.f ys) t m); rw [e, e, h]
section
def g8 (xs : List (Nat × Co)) (f : Nat -> Co) : Nat -> List (Nat × Co)
 | 0 => xs
 | i + 1 => (g8 xs f i).set i ((xs.getD i dX).1, f i)
variable {xs : List (Nat × Co)} {f : Nat -> Co}
theorem i7 (i : Nat) : (g8 xs f i).length = xs.length := by
 induction i with
 | zero => rfl
 | succ i ih => unfold g8; rw [length_set, ih]
theorem K9 (i j : Nat) (h : j < xs.length) : (g8 xs f i).getD j dX = if j < i then ((xs.getD j dX).1, f j) else xs.getD j dX := by
 induction i with
 | zero => rw [if_neg (by omega)]; rfl
 | succ i ih =>
  unfold g8
  by_cases e : i = j
  ·subst e
   rw [if_pos (by omega), a8 (by rw [length_set, i7]; exact h), getElem_set_self]
  ·have h1 : j < ((g8 xs f i).set i ((xs.getD i dX).1, f i)).length := by rw [length_set, i7]; exact h
   have h2 : j < (g8 xs f i).length := by rw [i7]; exact h
   rw [a8 h1, List.getElem_set_ne e, <- a8 (d := dX) h2, ih]
   by_cases h3 : j < i
   ·rw [if_pos h3, if_pos (by omega)]
   ·rw [if_neg h3, if_neg (by omega)]
theorem a16 {i : Nat} (h : i < xs.length) : (g8 xs f i).getD i dX = xs.getD i dX := by
 rw [K9 i i h, if_neg (Nat.lt_irrefl i)]
theorem Q6 (i : Nat) : (g8 xs f i).map Prod.fst = xs.map Prod.fst := by
 apply ext_getElem
 ·rw [length_map, length_map, i7]
 ·intro j h1 h2
  rw [length_map] at h1 h2
  rw [getElem_map, getElem_map, <- a8 (d := dX) h1, <- a8 (d := dX) h2, K9 i j h2]
  split <;> rfl
end
def a2A (xs : List (Nat × Co)) (vs : List Va) (i : Nat) : Co := (xs.getD i dX).2.app (vs.getD i eV.d)
def a2Z (xs : List (Nat × Co)) (id : Nat) (v : Va) (i : Nat) : Co := (xs.getD i dX).2.put id v
structure Co.Fit (c : Co) : Prop where
 len : c.l.length < 99000
 nlo : -99000 < c.nulls
 nhi : c.nulls < 99000
 b : c.b < 79000
def N3 (xs : List (Nat × Co)) (id i : Nat) : List Va := (xs.take i).map fun x => x.2.l.getD id eV.d
theorem a8O {xs : List (Nat × Co)} {id i : Nat} (h : i < xs.length) : N3 xs id (i + 1) = N3 xs id i ++ [(xs.getD i dX).2.l.getD id eV.d] := by
 unfold N3
 rw [take_add_one, getElem?_eq_getElem h, map_append, a8 h]; rfl
theorem b1Z {xs : List (Nat × Co)} {id i : Nat} (h : i < xs.length) : (N3 xs id (i + 1)).isEmpty = ((N3 xs id i).isEmpty && false) := by
 rw [a8O h, Bool.and_false]; simp
theorem a5M {xs : List (Nat × Co)} {id i : Nat} (h : i <= xs.length) : (N3 xs id i).length = i := by
 unfold N3; rw [length_map, length_take]; omega
def b1j (s : ByteArray) (n : Nat) : ByteArray := if n < s.size then s.extract 0 n else s
def b5I : ByteArray := ⟨#[]⟩
def I0 (id : Int) (city : ByteArray) : List Va := [⟨1, id, b5I⟩, ⟨2, 0, city⟩, ⟨0, 0, b5I⟩, ⟨0, 0, b5I⟩]
def g9 (cs : List Cd) (i : Nat) (v : Va) : Bool := and (or (v.k == 0) (v.k == (cs.getD i eC.d).kind)) (vOk v)
end Go.Abs
namespace Go.Abs
def Imm (I : As) : Prop := ∀ F A, I.p F A -> ∀ b, ¬ F.own b
theorem b5d {F : Ft} (hn : ∀ b, ¬ F.own b) : F.Jn F F := ⟨fun b => (or_self _).symm ▸ Iff.rfl, fun b => (or_self _).symm ▸ Iff.rfl, fun b h _ => hn b h, fun b h _ => hn b h, fun b _ h => hn b h⟩
theorem b7l {I : As} (h : Imm I) : GE [.as I] Unit (fun _ => True) (fun _ => [.as I, .as I]) := fun F A hF => by
 have h1 : I.p F A := As.unE hF
 exact ⟨(), F, trivial, ⟨F, F, h1, As.addE h1, b5d (h F A h1)⟩, .refl⟩
theorem b5i {α : Type} {E : En α} {g q : Nat} {xs : List α} {t : TypeId} {z : Bool} : Imm (vc E g q xs t .imm z).den := fun F A h b hb => by
 cases z with
 | true =>
  obtain ⟨rfl, _⟩ := h
  exact hb
 | false =>
  obtain ⟨_, h1, _⟩ := h
  have := (h1 b).1 hb
  simp [Md.mine] at this
theorem b5m {l : List As} (h : ∀ I ∈ l, Imm I) : Imm (As.all l) := by
 induction l with
 | nil =>
  intro F A hF b hb
  have hF : F = Ft.no := hF
  subst hF; exact hb
 | cons I l ih =>
  rintro F A ⟨F1, F2, h1, h2, j⟩ b hb
  rcases (j.own b).1 hb with h3 | h3
  ·exact h I List.mem_cons_self F1 A h1 b h3
  ·exact ih (fun J hJ => h J (List.mem_cons_of_mem _ hJ)) F2 A h2 b h3
theorem b5l {α : Type} {I : α -> As} {l : List α} (h : ∀ x, Imm (I x)) : Imm (e6 I l) := b5m fun J hJ => by
 obtain ⟨x, _, rfl⟩ := List.mem_map.1 hJ
 exact h x
theorem b5k {t : TypeId} {d : De} : Imm (n4 t d) := b5i
end Go.Abs
namespace Go.Abs
def ruN (P : Program) (n : Nat) (p : Pt) (s : St) (q : Nat -> Nat) : RU := match p with
 | .rg _ ops _ _ i lg => b1W P ops q n i s lg
 | _ => ⟨0, s, [], lg0⟩
section
variable {P : Program} {nO : Nat} {ro : Option Nat} {B : Ft × World} {Q : Exit -> Act -> World -> Prop} {p : Pt} {s : St}
theorem goN (n : Nat) [G : Good P] {T : (Nat -> Nat) -> Prop} (pf : ∀ q, T q) (next : ∀ q, GP P nO ro B Q (nxP p (ruN P n p s q).j (ruN P n p s q).lg) (ruN P n p s q).s) (e : ∀ q, T q = obP (ruN P n p s q).ps := by intro q; kernel_rfl)
  (ed : ∀ q, ((enP P p (ruN P n p s q).j (ruN P n p s q).lg (ruN P n p s q).s).1, (obQ (ruN P n p s q).ps).map Prod.fst) = ((enP P p (ruN P n p s q).j (ruN P n p s q).lg (ruN P n p s q).s).2, (obQ (ruN P n p s q).ps).map Prod.snd) := by intro q; kernel_rfl) : GP P nO ro B Q p s := by
 cases p with
 | rg id ops d K i lg =>
  intro T h1 h2 h3
  have hq : ∀ m, (fun g => (T.ws i).heap.size + (g - s.nx)) (s.nx + m) = (T.ws i).heap.size + m := fun m => by simp only; omega
  generalize (fun g => (T.ws i).heap.size + (g - s.nx)) = q at hq
  have hn := next q
  have hed := ed q
  simp only [Prod.mk.injEq] at hed
  have hp := O9 ((e q).mp (pf q)) hed.2
  replace hed := hed.1
  simp only [ruN, nxP] at hn hp hed
  obtain ⟨m, k1, k2, k3⟩ := a4C (P := P) (ops := ops) (q := q) n i s lg
  obtain ⟨T', e3, e4, g1, g2, g3⟩ := a8G h1 h2 h3 k2 hp hq
  rw [k3] at g1 g2
  have := a01 G hed hn
  rw [k1] at this
  rw [<- e3, <- e4]
  exact this T' g1 g2 g3
 | _ => exact (next fun _ => 0).elim
end
theorem lp3 {P : Program} {nO : Nat} {ro : Option Nat} {B : Ft × World} {Q : Exit -> Act -> World -> Prop} {p : Pt} {s : St} [G : Good P] (X0 X1 X2 : Type) (live : List Nat) (env : X0 × X1 × X2 -> List (Nat × SV)) (keep : List Nat) (hp : X0 × X1 × X2 -> List Ch) (nx : Nat) (φ : X0 × X1 × X2 -> Prop) (m : X0 × X1 × X2 -> Nat) (x0 : X0 × X1 × X2) (h0 : φ x0) (idx : List Nat)
  (body : ∀ a0 a1 a2, φ (a0, a1, a2) -> (∀ (p' : Pt) (s' : St) (x' : X0 × X1 × X2), m x' < m (a0, a1, a2) -> φ x' -> ∀ idx', m9 s' (j6 s live env keep hp nx x') idx' = m8 (j6 s live env keep hp nx x') -> agN p' = some (loN B (j6 s live env keep hp nx) φ m (a0, a1, a2)) -> GP P nO ro B Q p' s') -> GP P nO ro B Q (loP p (loN B (j6 s live env keep hp nx) φ m (a0, a1, a2))) (j6 s live env keep hp nx (a0, a1, a2)))
  (he : m9 s (j6 s live env keep hp nx x0) (idx ++ keep) = m8 (j6 s live env keep hp nx x0) := by kernel_rfl) : GP P nO ro B Q p s :=
 lp (X0 × X1 × X2) live env keep hp nx φ m x0 h0 idx (fun y => body y.1 y.2.1 y.2.2) he
theorem lp4 {P : Program} {nO : Nat} {ro : Option Nat} {B : Ft × World} {Q : Exit -> Act -> World -> Prop} {p : Pt} {s : St} [G : Good P] (X0 X1 X2 X3 : Type) (live : List Nat) (env : X0 × X1 × X2 × X3 -> List (Nat × SV)) (keep : List Nat) (hp : X0 × X1 × X2 × X3 -> List Ch) (nx : Nat) (φ : X0 × X1 × X2 × X3 -> Prop) (m : X0 × X1 × X2 × X3 -> Nat) (x0 : X0 × X1 × X2 × X3) (h0 : φ x0) (idx : List Nat)
  (body : ∀ a0 a1 a2 a3, φ (a0, a1, a2, a3) -> (∀ (p' : Pt) (s' : St) (x' : X0 × X1 × X2 × X3), m x' < m (a0, a1, a2, a3) -> φ x' -> ∀ idx', m9 s' (j6 s live env keep hp nx x') idx' = m8 (j6 s live env keep hp nx x') -> agN p' = some (loN B (j6 s live env keep hp nx) φ m (a0, a1, a2, a3)) -> GP P nO ro B Q p' s') -> GP P nO ro B Q (loP p (loN B (j6 s live env keep hp nx) φ m (a0, a1, a2, a3))) (j6 s live env keep hp nx (a0, a1, a2, a3)))
  (he : m9 s (j6 s live env keep hp nx x0) (idx ++ keep) = m8 (j6 s live env keep hp nx x0) := by kernel_rfl) : GP P nO ro B Q p s :=
 lp (X0 × X1 × X2 × X3) live env keep hp nx φ m x0 h0 idx (fun y => body y.1 y.2.1 y.2.2.1 y.2.2.2) he
end Go.Abs
open List (length_cons length_nil getD_eq_getElem?_getD getElem?_map)
namespace Go.Abs
theorem a6R : ∀ i, i < F7.length -> (F7.getD i eC.d).kind = 1 ∨ (F7.getD i eC.d).kind = 2
 | 0, _ => .inl rfl
 | 1, _ => .inr rfl
 | 2, _ => .inr rfl
 | 3, _ => .inl rfl
 | _ + 4, h => absurd h (by simp only [F7, length_cons, length_nil]; omega)
theorem a6d {xs : List (Nat × Co)} {i : Nat} : (xs.getD i dX).2 = (xs.map Prod.snd).getD i dX.2 := by
 rw [getD_eq_getElem?_getD, getD_eq_getElem?_getD, getElem?_map]
 cases xs[i]? <;> rfl
theorem b3h {s : ByteArray} {n : Nat} : (b1j s n).size <= n := by
 unfold b1j
 split
 ·rw [ByteArray.size_extract]; omega
 ·omega
theorem a8u {id : Int} {s : ByteArray} (h : s.size <= 12) : ∀ i, i < (I0 id s).length -> ((I0 id s).getD i eV.d).s.size < 1000000000
 | 0, _ => by show (0 : Nat) < _; decide
 | 1, _ => by show s.size < _; omega
 | 2, _ => by show (0 : Nat) < _; decide
 | 3, _ => by show (0 : Nat) < _; decide
 | _ + 4, h => absurd h (by simp only [I0, length_cons, length_nil]; omega)
theorem n9 (s : ByteArray) : a7 s s = true := by simp [a7]
theorem a8d : b1e b5I = true := n9 _
theorem a8v {id : Int} {s : ByteArray} (h : tOk s = true) : ∀ i, i < (I0 id s).length -> g9 F7 i ((I0 id s).getD i eV.d) = true
 | 0, _ => by show g9 F7 0 ⟨1, id, b5I⟩ = true; simp [g9, vOk, a8d, F7]
 | 1, _ => by show g9 F7 1 ⟨2, 0, s⟩ = true; simp [g9, vOk, h, F7]
 | 2, _ => by show g9 F7 2 ⟨0, 0, b5I⟩ = true; simp [g9, vOk, a8d, F7]
 | 3, _ => by show g9 F7 3 ⟨0, 0, b5I⟩ = true; simp [g9, vOk, a8d, F7]
 | _ + 4, h => absurd h (by simp only [I0, length_cons, length_nil]; omega)
theorem Z0 : ∀ l : List UInt8, Op.bytesLess l l = false
 | [] => rfl
 | a :: l => by simp [Op.bytesLess, Z0 l]
theorem b0B (a : Va) : a6m a a = 0 := by
 have h : I7 a.s a.s = false := Z0 _
 simp [a6m, eqV, n9, h]
theorem a3q : ∀ l : List Va, a8P l l = 0
 | [] => rfl
 | a :: l => by simp [a8P, b0B, a3q l]
end Go.Abs
namespace Go.Abs
def tX : ByteArray := ⟨#[120]⟩
def wsN : Nat -> List Kv
 | 0 => []
 | m + 1 => [(tX, ((m + 1 : Nat) : Int))]
theorem b31 {i : Nat} (hi : i < 65536) (k : Int) : has (ofL (d7 [(i : Int)])) k = decide (k = (i : Int)) := by
 have h := b60 (b1L [(i : Int)]) k
 rw [a8n] at h
 by_cases e : k = (i : Int)
 ·rw [decide_eq_true e]; exact h.2 ⟨by simp [e], by omega, by omega⟩
 ·rw [decide_eq_false e]
  cases hh : has (ofL (d7 [(i : Int)])) k with
  | false => rfl
  | true => exact absurd (by simpa using (h.1 hh).1) e
structure NumI (X : List (Nat × Co)) (lv : List Sp) (i m e : Nat) : Prop where
 len : X.length = 4
 wf : WF (-1) lv
 lt : ∀ k : Int, has lv k = true -> k < (i : Int)
 cnt : a7j lv = (m : Int)
 mi : m <= i
 kind : ∀ c, c < 4 -> (X.getD c dX).2.kind = (F7.getD c eC.d).kind
 ll : ∀ c, c < 4 -> (X.getD c dX).2.l.length = i
 nu : ∀ c, c < 4 -> -(e : Int) <= (X.getD c dX).2.nulls /\ (X.getD c dX).2.nulls <= (e : Int)
 b : ∀ c, c < 4 -> (X.getD c dX).2.b <= e
 ws : (X.getD 1 dX).2.ws = wsN m
end Go.Abs
namespace Go.Abs
end Go.Abs
namespace Go.Abs
end Go.Abs
namespace Go.Abs
end Go.Abs
open List (mem_cons mem_append not_mem_nil append_assoc drop_eq_getElem_cons append_nil take_append_drop getElem_set_self length_set getElem_mem drop_eq_nil_of_le getElem_of_mem getElem_set eraseIdx_eq_take_drop_succ mem_eraseIdx_iff_getElem)
namespace Go.Abs
theorem b0K (x : ByteArray) : ∀ (n i : Nat) (r : List UInt8), x.size - i = n -> ByteArray.toList.loop x i r = r.reverse ++ x.data.toList.drop i
 | 0, i, r, h => by
  unfold ByteArray.toList.loop
  have : ¬ i < x.size := by omega
  rw [if_neg this, drop_eq_nil_of_le (by show x.data.toList.length <= i; have : x.data.toList.length = x.size := rfl; omega), append_nil]
 | n + 1, i, r, h => by
  unfold ByteArray.toList.loop
  have hi : i < x.size := by omega
  rw [if_pos hi, b0K x n (i + 1) _ (by omega)]
  have hl : i < x.data.toList.length := hi
  rw [drop_eq_getElem_cons hl, List.reverse_cons, append_assoc]
  congr 1
  obtain ⟨bs⟩ := x
  show [bs[i]!] ++ _ = _
  rw [getElem!_pos bs i hi]
  rfl
theorem b0L (x : ByteArray) : x.toList = x.data.toList := by
 unfold ByteArray.toList
 rw [b0K x x.size 0 [] (by omega)]; rfl
theorem b7G {a b : ByteArray} (h : a.toList = b.toList) : a = b := by
 rw [b0L, b0L] at h
 cases a; cases b
 congr 1
 exact Array.ext' h
theorem s5 {a b : ByteArray} : a7 a b = true ↔ a = b := by
 constructor
 ·intro h
  unfold a7 at h
  have e : a.toList = b.toList := by simpa using h
  exact b7G e
 ·rintro rfl; exact n9 _
theorem a1a (a : ByteArray) : K6 a a = 0 := a09.2 rfl
theorem a2j {ws : List Kv} (hs : KS ws) {j : Nat} (hj : j < ws.length) {t : ByteArray} (e : (ws[j]).1 = t) : r6 ws t = j := by
 have hp := List.pairwise_iff_getElem.1 hs
 rcases Nat.lt_trichotomy (r6 ws t) j with h | h | h
 ·have h1 := hp (r6 ws t) j (by omega) hj h
  have h2 := a4J hs (Nat.le_refl (r6 ws t)) (by omega)
  rw [a8 (by omega)] at h2
  rw [e] at h1
  exact absurd h1 h2
 ·exact h
 ·have h1 := a8Y h
  rw [a8 hj, e, a1a] at h1; omega
theorem S5 {ws : List Kv} (hs : KS ws) {t : ByteArray} : a0n ws t = true ↔ ∃ n, (t, n) ∈ ws := by
 constructor
 ·intro h
  obtain ⟨h1, h2⟩ := J3 h
  rw [a8 h1] at h2
  exact ⟨(ws[r6 ws t]).2, (show ((t, (ws[r6 ws t]).2) : Kv) = ws[r6 ws t] from Prod.ext h2.symm rfl) ▸ getElem_mem h1⟩
 ·rintro ⟨n, hn⟩
  obtain ⟨j, hj, e⟩ := getElem_of_mem hn
  have hp := a2j hs hj (t := t) (by rw [e])
  unfold a0n
  rw [hp, a8 hj, e]
  simp [a1a, hj]
theorem b2P {ws : List Kv} (hs : KS ws) {t : ByteArray} {n : Int} (h : (t, n) ∈ ws) : a0T ws t = n := by
 obtain ⟨j, hj, e⟩ := getElem_of_mem h
 unfold a0T
 rw [if_pos ((S5 hs).2 ⟨n, h⟩), a2j hs hj (t := t) (by rw [e]), a8 hj, e]
theorem b5t {ws : List Kv} (hs : KS ws) {t : ByteArray} (h : ∀ n, (t, n) ∉ ws) : a0T ws t = 0 := by
 unfold a0T
 rw [if_neg fun hk => ?_]
 obtain ⟨n, hn⟩ := (S5 hs).1 hk
 exact h n hn
theorem a5R {ws : List Kv} (hs : KS ws) {s : ByteArray} {v : Int} (y : Kv) : y ∈ a1q ws s v ↔ y = (s, v) ∨ (y ∈ ws /\ y.1 ≠ s) := by
 unfold a1q
 split
 ·rename_i hk
  obtain ⟨h1, h2⟩ := J3 hk
  rw [a8 h1] at h2
  constructor
  ·intro hy
   obtain ⟨j, hj, e⟩ := getElem_of_mem hy
   rw [length_set] at hj
   rw [getElem_set] at e
   split at e
   ·exact .inl e.symm
   ·rename_i hne
    refine .inr ⟨e ▸ getElem_mem hj, fun hs' => hne ?_⟩
    exact a2j hs hj (by rw [e]; exact hs')
  ·rintro (rfl | ⟨hy, hne⟩)
   ·exact List.mem_set h1 _
   ·obtain ⟨j, hj, e⟩ := getElem_of_mem hy
    have hj2 : r6 ws s ≠ j := fun h => hne (by rw [<- e]; subst h; exact h2)
    have : (ws.set (r6 ws s) (s, v))[j]'(by rw [length_set]; exact hj) = y := by rw [List.getElem_set_ne hj2]; exact e
    rw [<- this]; exact getElem_mem _
 ·rename_i hk
  have hno : ∀ y ∈ ws, y.1 ≠ s := fun y hy he => hk ((S5 hs).2 ⟨y.2, by rw [<- he]; exact hy⟩)
  have hm : ∀ y : Kv, y ∈ ws ↔ y ∈ ws.take (r6 ws s) ∨ y ∈ ws.drop (r6 ws s) := fun y => by
   conv => lhs; rw [<- take_append_drop (r6 ws s) ws]
   exact mem_append
  simp only [mem_append, mem_cons, not_mem_nil, or_false]
  constructor
  ·rintro ((h | h) | h)
   ·exact .inr ⟨(hm y).2 (.inl h), hno y ((hm y).2 (.inl h))⟩
   ·exact .inl h
   ·exact .inr ⟨(hm y).2 (.inr h), hno y ((hm y).2 (.inr h))⟩
  ·rintro (h | ⟨h, _⟩)
   ·exact .inl (.inr h)
   ·exact ((hm y).1 h).elim (fun h => .inl (.inl h)) .inr
theorem b3a {ws : List Kv} (hs : KS ws) {s : ByteArray} (y : Kv) : y ∈ a06 ws s ↔ y ∈ ws /\ y.1 ≠ s := by
 unfold a06
 split
 ·rename_i hk
  obtain ⟨h1, h2⟩ := J3 hk
  rw [a8 h1] at h2
  rw [mem_eraseIdx_iff_getElem]
  constructor
  ·rintro ⟨j, hj, hne, e⟩
   exact ⟨e ▸ getElem_mem hj, fun he => hne (a2j hs hj (by rw [e]; exact he)).symm⟩
  ·rintro ⟨hy, hne⟩
   obtain ⟨j, hj, e⟩ := getElem_of_mem hy
   exact ⟨j, hj, fun h => hne (by rw [<- e]; subst h; exact h2), e⟩
 ·rename_i hk
  exact ⟨fun h => ⟨h, fun he => hk ((S5 hs).2 ⟨y.2, by rw [<- he]; exact h⟩)⟩, fun h => h.1⟩
def isT (t : ByteArray) (v : Va) : Bool := decide (v.k = 2) && a7 v.s t
def Y8 (l : List Va) (t : ByteArray) : Nat := l.countP (isT t)
theorem U3 (l : List Va) (v : Va) (t : ByteArray) : Y8 (l ++ [v]) t = Y8 l t + if isT t v then 1 else 0 := by
 unfold Y8
 rw [List.countP_append]
 congr 1
 cases h : isT t v <;> simp [List.countP_cons, h]
theorem Y7 {l : List Va} {i : Nat} (h : i < l.length) (t : ByteArray) : Y8 l t = Y8 (l.take i) t + (if isT t (l.getD i eV.d) then 1 else 0) + Y8 (l.drop (i + 1)) t := by
 have e : l = l.take i ++ (l.getD i eV.d :: l.drop (i + 1)) := by rw [a8 h, <- drop_eq_getElem_cons h, take_append_drop]
 conv => lhs; rw [e]
 unfold Y8
 rw [List.countP_append, List.countP_cons]
 omega
theorem U2 {l : List Va} {i : Nat} (h : i < l.length) (v : Va) (t : ByteArray) : Y8 (l.set i v) t + (if isT t (l.getD i eV.d) then 1 else 0) = Y8 l t + if isT t v then 1 else 0 := by
 have h1 := Y7 h t
 have h2 := Y7 (l := l.set i v) (by rw [length_set]; exact h) t
 rw [a8 (by rw [length_set]; exact h), getElem_set_self, List.take_set_of_le (Nat.le_refl i), List.drop_set_of_lt (show i < i + 1 by omega)] at h2
 omega
theorem a7l {l : List Va} {i : Nat} (h : i < l.length) (t : ByteArray) : Y8 (l.eraseIdx i) t + (if isT t (l.getD i eV.d) then 1 else 0) = Y8 l t := by
 have h1 := Y7 h t
 rw [eraseIdx_eq_take_drop_succ]
 unfold Y8 at h1 ⊢
 rw [List.countP_append]
 omega
structure WsRep (f : ByteArray -> Nat) (ws : List Kv) : Prop where
 ks : KS ws
 mem : ∀ t n, (t, n) ∈ ws ↔ n = (f t : Int) /\ 0 < f t
theorem WsRep.get {f : ByteArray -> Nat} {ws : List Kv} (h : WsRep f ws) (t : ByteArray) : a0T ws t = (f t : Int) := by
 by_cases e : 0 < f t
 ·exact b2P h.ks ((h.mem t _).2 ⟨rfl, e⟩)
 ·rw [b5t h.ks fun n hn => e ((h.mem t n).1 hn).2]; omega
theorem WsRep.nil {f : ByteArray -> Nat} (h : ∀ t, f t = 0) : WsRep f [] := ⟨List.Pairwise.nil, fun t n => by simp [h t]⟩
theorem WsRep.add {f g : ByteArray -> Nat} {ws : List Kv} (h : WsRep f ws) (s : ByteArray) (hg : ∀ t, g t = f t + if s = t then 1 else 0) : WsRep g (b6f ws s) := by
 refine ⟨a2g h.ks, fun t n => ?_⟩
 unfold b6f
 rw [a5R h.ks, h.get, h.mem, hg]
 by_cases e : s = t
 ·subst e
  simp only [if_true]
  constructor
  ·rintro (h1 | ⟨_, h1⟩)
   ·simp only [Prod.mk.injEq, true_and] at h1; exact ⟨by omega, by omega⟩
   ·exact absurd rfl h1
  ·rintro ⟨h1, _⟩; left; simp only [Prod.mk.injEq, true_and]; omega
 ·simp only [if_neg e]
  constructor
  ·rintro (h1 | ⟨h1, _⟩)
   ·simp only [Prod.mk.injEq] at h1; exact absurd h1.1.symm e
   ·exact ⟨by omega, by omega⟩
  ·rintro ⟨h1, h2⟩; exact .inr ⟨⟨by omega, by omega⟩, fun h => e h.symm⟩
theorem WsRep.take {f g : ByteArray -> Nat} {ws : List Kv} (h : WsRep f ws) (s : ByteArray) (hf : 0 < f s) (hg : ∀ t, f t = g t + if s = t then 1 else 0) : WsRep g (H8 ws s) := by
 have hs := hg s
 rw [if_pos rfl] at hs
 unfold H8
 rw [h.get]
 split
 ·rename_i h1
  refine ⟨a2g h.ks, fun t n => ?_⟩
  rw [a5R h.ks, h.mem]
  by_cases e : s = t
  ·subst e
   constructor
   ·rintro (h2 | ⟨_, h2⟩)
    ·simp only [Prod.mk.injEq, true_and] at h2; exact ⟨by omega, by omega⟩
    ·exact absurd rfl h2
   ·rintro ⟨h2, _⟩; left; simp only [Prod.mk.injEq, true_and]; omega
  ·have := hg t
   rw [if_neg e] at this
   constructor
   ·rintro (h2 | ⟨h2, _⟩)
    ·simp only [Prod.mk.injEq] at h2; exact absurd h2.1.symm e
    ·exact ⟨by omega, by omega⟩
   ·rintro ⟨h2, h3⟩; exact .inr ⟨⟨by omega, by omega⟩, fun h => e h.symm⟩
 ·rename_i h1
  rw [if_pos ((S5 h.ks).2 ⟨_, (h.mem s _).2 ⟨rfl, hf⟩⟩)]
  refine ⟨b0m h.ks, fun t n => ?_⟩
  rw [b3a h.ks, h.mem]
  by_cases e : s = t
  ·subst e
   exact ⟨fun h2 => absurd rfl h2.2, fun ⟨_, h2⟩ => by omega⟩
  ·have := hg t
   rw [if_neg e] at this
   exact ⟨fun ⟨h2, _⟩ => ⟨by omega, by omega⟩, fun ⟨h2, h3⟩ => ⟨⟨by omega, by omega⟩, fun h => e h.symm⟩⟩
theorem WsRep.cw {f g : ByteArray -> Nat} {ws : List Kv} (h : WsRep f ws) (v : Va) (hg : ∀ t, g t = f t + if isT t v then 1 else 0) : WsRep g (cW ws v) := by
 unfold cW
 by_cases h0 : v.k = 0
 ·rw [if_pos h0]
  have : g = f := funext fun t => by rw [hg t]; simp [isT, h0]
  rw [this]; exact h
 ·rw [if_neg h0]
  by_cases h2 : v.k = 2
  ·rw [if_pos h2]
   refine h.add v.s fun t => ?_
   rw [hg t]
   simp [isT, h2, s5]
  ·rw [if_neg h2]
   have : g = f := funext fun t => by rw [hg t]; simp [isT, h2]
   rw [this]; exact h
theorem WsRep.uw {f g : ByteArray -> Nat} {ws : List Kv} (h : WsRep f ws) (v : Va) (hg : ∀ t, f t = g t + if isT t v then 1 else 0) : WsRep g (uW ws v) := by
 unfold uW
 by_cases h0 : v.k = 0
 ·rw [if_pos h0]
  have : g = f := funext fun t => by rw [hg t]; simp [isT, h0]
  rw [this]; exact h
 ·rw [if_neg h0]
  by_cases h2 : v.k = 2
  ·rw [if_pos h2]
   refine h.take v.s ?_ fun t => ?_
   ·have := hg v.s
    simp [isT, h2, n9] at this
    omega
   ·rw [hg t]
    simp [isT, h2, s5]
  ·rw [if_neg h2]
   have : g = f := funext fun t => by rw [hg t]; simp [isT, h2]
   rw [this]; exact h
theorem WsRep.len {f : ByteArray -> Nat} {ws ws' : List Kv} (h : WsRep f ws) (h' : WsRep f ws') : ws.length = ws'.length := by
 have nd : ∀ {l : List Kv}, KS l -> l.Nodup := fun {l} hk => by
  refine List.Pairwise.imp (fun {a b} h e => ?_) hk
  subst e
  rw [a1a] at h; omega
 refine List.Perm.length_eq ((List.perm_ext_iff_of_nodup (nd h.ks) (nd h'.ks)).2 fun y => ?_)
 obtain ⟨t, n⟩ := y
 rw [h.mem, h'.mem]
end Go.Abs
open List (length_append getElem?_append_left getElem?_append_right getD_eq_getElem?_getD mem_cons not_mem_nil map_append ext_getElem length_map map_drop map_take length_set getElem_mem getElem_of_mem map_set getElem_set getElem_map eraseIdx_eq_take_drop_succ)
namespace Go.Abs
abbrev Rw := Nat × List Va
structure Fm where
 name : ByteArray
 key : ByteArray
 xa : List Cd
 da : List (List ByteArray × ByteArray)
structure Ts where
 rows : List Rw
 next : Nat
def a21 : Va := ⟨0, 0, ⟨#[]⟩⟩
def dR : Rw := (0, [])
def Ts.pos (s : Ts) (id : Int) : Int := e9 s.rows fun r => (r.1 : Int) == id
def Ts.is (s : Ts) (id : Int) : Bool := s.rows.any fun r => (r.1 : Int) == id
def Ts.ins (s : Ts) (vs : List Va) : Ts := ⟨s.rows ++ [(s.next, vs)], s.next + 1⟩
def Ts.del (s : Ts) (k : Nat) : Ts := ⟨s.rows.eraseIdx k, s.next⟩
def Ts.put (s : Ts) (k c : Nat) (v : Va) : Ts := ⟨s.rows.set k ((s.rows.getD k dR).1, (s.rows.getD k dR).2.set c v), s.next⟩
def Ts.col (s : Ts) (c : Nat) : List Va := s.rows.map fun r => r.2.getD c eV.d
def dC : Co := dX.2
structure TRep (xa : List Cd) (s : Ts) (cs : List Co) (lv : List Sp) (k : Nat) : Prop where
 len : cs.length = xa.length
 wf : WF (-1) lv
 live : ∀ i : Int, has lv i = s.is i
 inc : s.rows.Pairwise fun a b => a.1 < b.1
 lt : ∀ r ∈ s.rows, r.1 < s.next
 rl : ∀ r ∈ s.rows, r.2.length = xa.length
 kind : ∀ c, c < xa.length -> (cs.getD c dC).kind = (xa.getD c eC.d).kind
 ll : ∀ c, c < xa.length -> (cs.getD c dC).l.length = s.next
 val : ∀ r ∈ s.rows, ∀ c, c < xa.length -> (cs.getD c dC).l.getD r.1 eV.d = r.2.getD c eV.d
 dead : ∀ c, c < xa.length -> ∀ i, i < s.next -> s.is (i : Int) = false -> (cs.getD c dC).l.getD i eV.d = a21
 ok : ∀ r ∈ s.rows, ∀ c, c < xa.length -> g9 xa c (r.2.getD c eV.d) = true
 ws : ∀ c, c < xa.length -> WsRep (Y8 (cs.getD c dC).l) (cs.getD c dC).ws
 cnt : ∀ c, c < xa.length -> ∀ t, Y8 (cs.getD c dC).l t = Y8 (s.col c) t
 nu : ∀ c, c < xa.length -> -(k : Int) <= (cs.getD c dC).nulls /\ (cs.getD c dC).nulls <= (k : Int)
 b : ∀ c, c < xa.length -> (cs.getD c dC).b <= k
 nx : s.next <= k
section
variable {xa : List Cd} {s : Ts} {cs cs' : List Co} {lv l2 : List Sp} {k k' : Nat}
theorem Ts.is_iff {id : Int} : s.is id = true ↔ ∃ r ∈ s.rows, (r.1 : Int) = id := by
 unfold Ts.is
 rw [List.any_eq_true]
 constructor
 ·rintro ⟨r, h1, h2⟩; exact ⟨r, h1, by simpa using h2⟩
 ·rintro ⟨r, h1, h2⟩; exact ⟨r, h1, by simpa using h2⟩
theorem Ts.find {id : Int} (h : s.is id = true) : ∃ j : Nat, j < s.rows.length /\ s.pos id = (j : Int) /\ ((s.rows.getD j dR).1 : Int) = id := by
 unfold Ts.is at h
 have h2 : decide (s.pos id ≥ 0) = true := by unfold Ts.pos; rw [R9]; exact h
 unfold Ts.pos at h2 ⊢
 unfold e9 at h2 ⊢
 split at h2
 ·rename_i j hj
  obtain ⟨h3, h4, _⟩ := List.findIdx?_eq_some_iff_getElem.1 hj
  exact ⟨j, h3, rfl, by rw [a8 h3]; simpa using h4⟩
 ·simp at h2
theorem Ts.none {id : Int} (h : s.is id = false) : s.pos id = -1 := by
 unfold Ts.is at h
 refine s8 (d := dR) fun j hj => ?_
 rw [a8 hj]
 have := List.any_eq_false.1 h _ (getElem_mem hj)
 simpa using this
theorem TRep.uniq (R : TRep xa s cs lv k) {i j : Nat} (hi : i < s.rows.length) (hj : j < s.rows.length) (e : (s.rows.getD i dR).1 = (s.rows.getD j dR).1) : i = j := by
 rw [a8 hi, a8 hj] at e
 have hp := List.pairwise_iff_getElem.1 R.inc
 rcases Nat.lt_trichotomy i j with h | h | h
 ·have := hp i j hi hj h; omega
 ·exact h
 ·have := hp j i hj hi h; omega
theorem TRep.mono (R : TRep xa s cs lv k) (h : k <= k') : TRep xa s cs lv k' :=
 { R with nu := fun c hc => by have := R.nu c hc; omega, b := fun c hc => Nat.le_trans (R.b c hc) h, nx := Nat.le_trans R.nx h }
theorem TRep.fit (R : TRep xa s cs lv k) (hk : k < 70000) {c : Nat} (hc : c < xa.length) : (cs.getD c dC).Fit := by
 have h1 := R.ll c hc
 have h2 := R.nu c hc
 have h3 := R.b c hc
 have h4 := R.nx
 exact ⟨by omega, by omega, by omega, by omega⟩
theorem a9z (t : ByteArray) : isT t a21 = false := rfl
theorem a3O {l : List Va} {v : Va} {i : Nat} (h : i < l.length) : (l ++ [v]).getD i eV.d = l.getD i eV.d := by
 rw [getD_eq_getElem?_getD, getD_eq_getElem?_getD, getElem?_append_left h]
theorem b4Q (h : cs = xa.map K5) : TRep xa ⟨[], 0⟩ cs [] 0 := by
 subst h
 have e : ∀ c, c < xa.length -> (xa.map K5).getD c dC = K5 (xa.getD c eC.d) := fun c hc => by
  rw [a8 (by rw [length_map]; exact hc), getElem_map, a8 hc]
 exact {
  len := length_map _
  wf := .nil
  live := fun i => rfl
  inc := List.Pairwise.nil
  lt := fun r hr => by cases hr
  rl := fun r hr => by cases hr
  kind := fun c hc => by rw [e c hc]; rfl
  ll := fun c hc => by rw [e c hc]; rfl
  val := fun r hr => by cases hr
  dead := fun c hc i hi => absurd hi (Nat.not_lt_zero i)
  ok := fun r hr => by cases hr
  ws := fun c hc => by rw [e c hc]; exact .nil fun t => rfl
  cnt := fun c hc t => by rw [e c hc]; rfl
  nu := fun c hc => by rw [e c hc]; exact ⟨Int.le_refl _, Int.le_refl _⟩
  b := fun c hc => by rw [e c hc]; exact Nat.le_refl _
  nx := Nat.le_refl _ }
theorem b36 (vs : List Va) (i : Int) : (s.ins vs).is i = (s.is i || (s.next : Int) == i) := by
 unfold Ts.is Ts.ins
 rw [List.any_append]; simp
theorem b4R (R : TRep xa s cs lv k) (hk : s.next < 65536) {vs : List Va} (hv : vs.length = xa.length) (hok : ∀ c, c < xa.length -> g9 xa c (vs.getD c eV.d) = true) (ho : b7P lv (ofL (d7 [(s.next : Int)])) l2) (hl : cs'.length = cs.length) (hX : ∀ c, c < xa.length -> cs'.getD c dC = (cs.getD c dC).app (vs.getD c eV.d)) :
  TRep xa (s.ins vs) cs' l2 (k + 1) where
 len := by rw [hl, R.len]
 wf := ho.1
 live i := by
  rw [ho.2, b31 hk, R.live, b36]
  congr 1
  by_cases e : i = (s.next : Int)
  ·subst e; simp
  ·rw [decide_eq_false e, eq_comm]; simp; omega
 inc := by
  refine List.pairwise_append.2 ⟨R.inc, List.pairwise_singleton _ _, fun a ha b hb => ?_⟩
  simp only [mem_cons, not_mem_nil, or_false] at hb
  subst hb; exact R.lt a ha
 lt r hr := by
  rcases List.mem_append.1 hr with h | h
  ·have := R.lt r h; show r.1 < s.next + 1; omega
  ·simp only [mem_cons, not_mem_nil, or_false] at h; subst h; exact Nat.lt_succ_self _
 rl r hr := by
  rcases List.mem_append.1 hr with h | h
  ·exact R.rl r h
  ·simp only [mem_cons, not_mem_nil, or_false] at h; subst h; exact hv
 kind c hc := by rw [hX c hc]; exact R.kind c hc
 ll c hc := by rw [hX c hc]; show ((cs.getD c dC).l ++ [_]).length = s.next + 1; rw [length_append, R.ll c hc]; rfl
 val r hr c hc := by
  rw [hX c hc]
  show ((cs.getD c dC).l ++ [vs.getD c eV.d]).getD r.1 eV.d = _
  rcases List.mem_append.1 hr with h | h
  ·have h1 := R.lt r h
   rw [a3O (by rw [R.ll c hc]; exact h1)]; exact R.val r h c hc
  ·simp only [mem_cons, not_mem_nil, or_false] at h; subst h
   rw [getD_eq_getElem?_getD, getElem?_append_right (by rw [R.ll c hc]; exact Nat.le_refl _), R.ll c hc, Nat.sub_self]; rfl
 dead c hc i hi hd := by
  rw [hX c hc]
  rw [b36, Bool.or_eq_false_iff] at hd
  have hne : i ≠ s.next := fun e => by subst e; simp at hd
  have h1 : i < s.next := by have : i < s.next + 1 := hi; omega
  show ((cs.getD c dC).l ++ [vs.getD c eV.d]).getD i eV.d = _
  rw [a3O (by rw [R.ll c hc]; exact h1)]; exact R.dead c hc i h1 hd.1
 ok r hr c hc := by
  rcases List.mem_append.1 hr with h | h
  ·exact R.ok r h c hc
  ·simp only [mem_cons, not_mem_nil, or_false] at h; subst h; exact hok c hc
 ws c hc := by
  rw [hX c hc]
  exact (R.ws c hc).cw _ fun t => U3 _ _ t
 cnt c hc t := by
  rw [hX c hc]
  show Y8 ((cs.getD c dC).l ++ [vs.getD c eV.d]) t = Y8 ((s.rows ++ [(s.next, vs)]).map _) t
  rw [U3, R.cnt c hc, map_append]
  exact (U3 _ _ t).symm
 nu c hc := by
  rw [hX c hc]
  have := R.nu c hc
  simp only [Co.app, cN]
  split <;> omega
 b c hc := by
  rw [hX c hc]
  have := R.b c hc
  simp only [Co.app]; omega
 nx := by have := R.nx; show s.next + 1 <= k + 1; omega
theorem a2f {c : Co} {i : Nat} {v : Va} : (c.put i v).l = c.l.set i v := rfl
theorem E4 {l : List Va} {i j : Nat} {v : Va} (hi : i < l.length) : (l.set i v).getD j eV.d = if i = j then v else l.getD j eV.d := by
 rw [getD_eq_getElem?_getD, List.getElem?_set]
 split
 ·rename_i e; subst e; first | rfl | (rw [if_pos hi]; rfl)
 ·rw [getD_eq_getElem?_getD]
theorem col_len (s : Ts) (c : Nat) : (s.col c).length = s.rows.length := length_map _
theorem col_at {j : Nat} (hj : j < s.rows.length) (c : Nat) : (s.col c).getD j eV.d = (s.rows.getD j dR).2.getD c eV.d := by
 rw [a8 (by rw [col_len]; exact hj), a8 hj]
 exact getElem_map _
theorem b37 (R : TRep xa s cs lv k) {j : Nat} (hj : j < s.rows.length) (i : Int) : (s.del j).is i = (s.is i && !decide (i = ((s.rows.getD j dR).1 : Int))) := by
 have key : (s.del j).is i = true ↔ s.is i = true /\ i ≠ ((s.rows.getD j dR).1 : Int) := by
  rw [Ts.is_iff, Ts.is_iff]
  show (∃ r ∈ s.rows.eraseIdx j, _) ↔ _
  constructor
  ·rintro ⟨r, hr, e⟩
   obtain ⟨m, hm, hne, he⟩ := List.mem_eraseIdx_iff_getElem.1 hr
   refine ⟨⟨r, he ▸ getElem_mem hm, e⟩, fun h => hne ?_⟩
   refine R.uniq hm hj ?_
   rw [a8 hm, he]
   omega
  ·rintro ⟨⟨r, hr, e⟩, hne⟩
   obtain ⟨m, hm, he⟩ := getElem_of_mem hr
   refine ⟨r, List.mem_eraseIdx_iff_getElem.2 ⟨m, hm, fun h => hne ?_, he⟩, e⟩
   subst h
   rw [a8 hm, he, e]
 cases h1 : (s.del j).is i with
 | true =>
  obtain ⟨h2, h3⟩ := key.1 h1
  rw [h2, decide_eq_false h3]; rfl
 | false =>
  cases h2 : s.is i with
  | false => rfl
  | true =>
   by_cases h3 : i = ((s.rows.getD j dR).1 : Int)
   ·rw [decide_eq_true h3]; rfl
   ·rw [key.2 ⟨h2, h3⟩] at h1; cases h1
theorem b4S (R : TRep xa s cs lv k) (hk : s.next <= 65536) {j : Nat} (hj : j < s.rows.length) (ho : b3H lv (ofL (d7 [((s.rows.getD j dR).1 : Int)])) l2) (hl : cs'.length = cs.length) (hX : ∀ c, c < xa.length -> cs'.getD c dC = (cs.getD c dC).put (s.rows.getD j dR).1 a21) :
  TRep xa (s.del j) cs' l2 (k + 2) := by
 have hm : s.rows.getD j dR ∈ s.rows := by rw [a8 hj]; exact getElem_mem hj
 have hlt := R.lt _ hm
 have hsub : ∀ r, r ∈ (s.del j).rows -> r ∈ s.rows /\ r.1 ≠ (s.rows.getD j dR).1 := fun r hr => by
  obtain ⟨m, hm, hne, he⟩ := List.mem_eraseIdx_iff_getElem.1 (show r ∈ s.rows.eraseIdx j from hr)
  refine ⟨he ▸ getElem_mem hm, fun e => hne (R.uniq hm hj ?_)⟩
  rw [a8 hm, he]; exact e
 exact {
  len := by rw [hl, R.len]
  wf := ho.1
  live := fun i => by
   rw [ho.2, b31 (by omega), R.live, b37 R hj]
  inc := R.inc.sublist (List.eraseIdx_sublist _ _)
  lt := fun r hr => R.lt r (hsub r hr).1
  rl := fun r hr => R.rl r (hsub r hr).1
  kind := fun c hc => by rw [hX c hc]; exact R.kind c hc
  ll := fun c hc => by rw [hX c hc, a2f, length_set]; exact R.ll c hc
  val := fun r hr c hc => by
   obtain ⟨h1, h2⟩ := hsub r hr
   rw [hX c hc, a2f, E4 (by rw [R.ll c hc]; exact hlt), if_neg (fun e => h2 e.symm)]
   exact R.val r h1 c hc
  dead := fun c hc i hi hd => by
   rw [hX c hc, a2f, E4 (by rw [R.ll c hc]; exact hlt)]
   split
   ·rfl
   ·rename_i hne
    refine R.dead c hc i hi ?_
    rw [b37 R hj, decide_eq_false (by omega)] at hd
    simpa using hd
  ok := fun r hr => R.ok r (hsub r hr).1
  ws := fun c hc => by
   rw [hX c hc]
   have h1 : (s.rows.getD j dR).1 < (cs.getD c dC).l.length := by rw [R.ll c hc]; exact hlt
   refine WsRep.cw (f := fun t => Y8 (cs.getD c dC).l t - if isT t ((cs.getD c dC).l.getD (s.rows.getD j dR).1 eV.d) then 1 else 0) ?_ a21 fun t => ?_
   ·refine (R.ws c hc).uw _ fun t => ?_
    have := Y7 h1 t
    omega
   ·have := U2 h1 a21 t
    rw [a9z] at this ⊢
    show Y8 ((cs.getD c dC).l.set _ a21) t = _
    simp only [Bool.false_eq_true, if_false] at this ⊢
    omega
  cnt := fun c hc t => by
   rw [hX c hc, a2f]
   have h1 := U2 (l := (cs.getD c dC).l) (i := (s.rows.getD j dR).1) (by rw [R.ll c hc]; exact hlt) a21 t
   have h2 := a7l (l := s.col c) (i := j) (by rw [col_len]; exact hj) t
   rw [col_at hj, <- R.val _ hm c hc] at h2
   rw [a9z] at h1
   simp only [Bool.false_eq_true, if_false] at h1
   have h3 : (s.del j).col c = (s.col c).eraseIdx j := by
    show (s.rows.eraseIdx j).map _ = (s.rows.map _).eraseIdx j
    rw [eraseIdx_eq_take_drop_succ, eraseIdx_eq_take_drop_succ, map_append, map_take, map_drop]
   rw [h3]
   have := R.cnt c hc t
   omega
  nu := fun c hc => by
   rw [hX c hc]
   have := R.nu c hc
   simp only [Co.put, cN, uN]
   split <;> split <;> omega
  b := fun c hc => by
   rw [hX c hc]
   have := R.b c hc
   simp only [Co.put]; omega
  nx := by have := R.nx; show s.next <= k + 2; omega }
theorem b4P (R : TRep xa s cs lv k) {j c0 : Nat} (hj : j < s.rows.length) (hc0 : c0 < xa.length) {v : Va} (hv : g9 xa c0 v = true) (hl : cs'.length = cs.length) (h0 : cs'.getD c0 dC = (cs.getD c0 dC).put (s.rows.getD j dR).1 v) (hX : ∀ c, c < xa.length -> c ≠ c0 -> cs'.getD c dC = cs.getD c dC) :
  TRep xa (s.put j c0 v) cs' lv (k + 2) := by
 have hm : s.rows.getD j dR ∈ s.rows := by rw [a8 hj]; exact getElem_mem hj
 have hlt := R.lt _ hm
 have hrl := R.rl _ hm
 have hmem : ∀ r, r ∈ (s.put j c0 v).rows -> r = ((s.rows.getD j dR).1, (s.rows.getD j dR).2.set c0 v) ∨ (r ∈ s.rows /\ r.1 ≠ (s.rows.getD j dR).1) := fun r hr => by
  obtain ⟨m, hm2, he⟩ := getElem_of_mem (show r ∈ s.rows.set j _ from hr)
  rw [length_set] at hm2
  rw [getElem_set] at he
  split at he
  ·exact .inl he.symm
  ·rename_i hne
   refine .inr ⟨he ▸ getElem_mem hm2, fun e => hne (R.uniq hj hm2 ?_)⟩
   rw [a8 hm2, he]; exact e.symm
 have his : ∀ i : Int, (s.put j c0 v).is i = s.is i := fun i => by
  have : (s.put j c0 v).rows.map (·.1) = s.rows.map (·.1) := by
   show (s.rows.set j _).map _ = _
   rw [map_set]
   apply ext_getElem
   ·simp
   ·intro m h1 h2
    rw [getElem_set]
    split
    ·rename_i e; subst e; rw [getElem_map, a8 hj]
    ·rfl
  have h2 : ∀ l : List Rw, (l.any fun r => (r.1 : Int) == i) = (l.map (·.1)).any fun x : Nat => (x : Int) == i := fun l => by rw [List.any_map]; rfl
  unfold Ts.is
  rw [h2, h2, this]
 have hcx : ∀ c, c < xa.length -> (cs'.getD c dC).kind = (cs.getD c dC).kind /\ (cs'.getD c dC).l.length = (cs.getD c dC).l.length := fun c hc => by
  by_cases e : c = c0
  ·subst e; rw [h0, a2f, length_set]; exact ⟨rfl, rfl⟩
  ·rw [hX c hc e]; exact ⟨rfl, rfl⟩
 exact {
  len := by rw [hl, R.len]
  wf := R.wf
  live := fun i => by rw [his]; exact R.live i
  inc := by
   have h1 : ((s.put j c0 v).rows.map (·.1)).Pairwise (· < ·) := by
    have : (s.put j c0 v).rows.map (·.1) = s.rows.map (·.1) := by
     show (s.rows.set j _).map _ = _
     rw [map_set]
     apply ext_getElem
     ·simp
     ·intro m h1 h2
      rw [getElem_set]
      split
      ·rename_i e; subst e; rw [getElem_map, a8 hj]
      ·rfl
    rw [this]; exact List.pairwise_map.2 R.inc
   exact List.pairwise_map.1 h1
  lt := fun r hr => by
   rcases hmem r hr with rfl | ⟨h, _⟩
   ·exact hlt
   ·exact R.lt r h
  rl := fun r hr => by
   rcases hmem r hr with rfl | ⟨h, _⟩
   ·show ((s.rows.getD j dR).2.set c0 v).length = _
    rw [length_set]; exact hrl
   ·exact R.rl r h
  kind := fun c hc => by rw [(hcx c hc).1]; exact R.kind c hc
  ll := fun c hc => by rw [(hcx c hc).2]; exact R.ll c hc
  val := fun r hr c hc => by
   rcases hmem r hr with rfl | ⟨h, hne⟩
   ·by_cases e : c = c0
    ·subst e
     rw [h0, a2f, E4 (by rw [R.ll c hc]; exact hlt), if_pos rfl]
     show v = ((s.rows.getD j dR).2.set c v).getD c eV.d
     rw [E4 (by rw [hrl]; exact hc), if_pos rfl]
    ·rw [hX c hc e]
     show _ = ((s.rows.getD j dR).2.set c0 v).getD c eV.d
     rw [E4 (by rw [hrl]; exact hc0), if_neg (fun h => e h.symm)]
     exact R.val _ hm c hc
   ·by_cases e : c = c0
    ·subst e
     rw [h0, a2f, E4 (by rw [R.ll c hc]; exact hlt), if_neg (fun h => hne h.symm)]
     exact R.val r h c hc
    ·rw [hX c hc e]; exact R.val r h c hc
  dead := fun c hc i hi hd => by
   rw [his] at hd
   by_cases e : c = c0
   ·subst e
    rw [h0, a2f, E4 (by rw [R.ll c hc]; exact hlt)]
    split
    ·rename_i e2
     have : s.is (i : Int) = true := Ts.is_iff.2 ⟨_, hm, by omega⟩
     rw [hd] at this; cases this
    ·exact R.dead c hc i hi hd
   ·rw [hX c hc e]; exact R.dead c hc i hi hd
  ok := fun r hr c hc => by
   rcases hmem r hr with rfl | ⟨h, _⟩
   ·show g9 xa c (((s.rows.getD j dR).2.set c0 v).getD c eV.d) = true
    rw [E4 (by rw [hrl]; exact hc0)]
    split
    ·rename_i e; subst e; exact hv
    ·exact R.ok _ hm c hc
   ·exact R.ok r h c hc
  ws := fun c hc => by
   by_cases e : c = c0
   ·subst e
    rw [h0]
    have h1 : (s.rows.getD j dR).1 < (cs.getD c dC).l.length := by rw [R.ll c hc]; exact hlt
    refine WsRep.cw (f := fun t => Y8 (cs.getD c dC).l t - if isT t ((cs.getD c dC).l.getD (s.rows.getD j dR).1 eV.d) then 1 else 0) ?_ v fun t => ?_
    ·refine (R.ws c hc).uw _ fun t => ?_
     have := Y7 h1 t
     omega
    ·have h2 := U2 h1 v t
     have h3 := Y7 h1 t
     show Y8 ((cs.getD c dC).l.set _ v) t = _
     omega
   ·rw [hX c hc e]; exact R.ws c hc
  cnt := fun c hc t => by
   have h2 : (s.put j c0 v).col c = if c = c0 then (s.col c).set j v else s.col c := by
    show (s.rows.set j _).map _ = _
    rw [map_set]
    show (s.col c).set j (((s.rows.getD j dR).2.set c0 v).getD c eV.d) = _
    rw [E4 (by rw [hrl]; exact hc0)]
    by_cases e : c = c0
    ·rw [if_pos e.symm, if_pos e]
    ·rw [if_neg (fun h => e h.symm), if_neg e, <- col_at hj]
     exact G8 _ (by rw [col_len]; exact hj)
   rw [h2]
   by_cases e : c = c0
   ·subst e
    rw [h0, a2f, if_pos rfl]
    have h1 := U2 (l := (cs.getD c dC).l) (i := (s.rows.getD j dR).1) (by rw [R.ll c hc]; exact hlt) v t
    have h3 := U2 (l := s.col c) (i := j) (by rw [col_len]; exact hj) v t
    rw [col_at hj, <- R.val _ hm c hc] at h3
    have := R.cnt c hc t
    omega
   ·rw [hX c hc e, if_neg e]; exact R.cnt c hc t
  nu := fun c hc => by
   have := R.nu c hc
   by_cases e : c = c0
   ·subst e
    rw [h0]
    simp only [Co.put, cN, uN]
    split <;> split <;> omega
   ·rw [hX c hc e]; omega
  b := fun c hc => by
   have := R.b c hc
   by_cases e : c = c0
   ·subst e; rw [h0]; simp only [Co.put]; omega
   ·rw [hX c hc e]; omega
  nx := by have := R.nx; show s.next <= k + 2; omega }
end
end Go.Abs
open List (length_cons foldl_cons length_map append_nil length_take getElem_set_self getElem?_eq_getElem length_set getElem_map take_length take_add_one)
namespace Go.Abs
def appL (c : Co) (l : List Va) : Co := l.foldl Co.app c
theorem b0S (c : Co) (l : List Va) (v : Va) : appL c (l ++ [v]) = (appL c l).app v := by simp [appL]
theorem a4a (c : Co) (l : List Va) : (appL c l).kind = c.kind := by
 unfold appL
 induction l generalizing c with
 | nil => rfl
 | cons v l ih => exact ih (c.app v)
theorem a38 (c : Co) (l : List Va) : (appL c l).l = c.l ++ l := by
 unfold appL
 induction l generalizing c with
 | nil => exact (append_nil _).symm
 | cons v l ih => rw [foldl_cons, ih]; simp [Co.app]
theorem b4k (c : Co) (l : List Va) : (appL c l).b = c.b + l.length := by
 unfold appL
 induction l generalizing c with
 | nil => rfl
 | cons v l ih => rw [foldl_cons, ih]; simp only [Co.app, length_cons]; omega
theorem b0T (c : Co) (l : List Va) : c.nulls <= (appL c l).nulls /\ (appL c l).nulls <= c.nulls + (l.length : Int) := by
 unfold appL
 induction l generalizing c with
 | nil => exact ⟨Int.le_refl _, by simp⟩
 | cons v l ih =>
  have h1 := ih (c.app v)
  have h2 : c.nulls <= (c.app v).nulls /\ (c.app v).nulls <= c.nulls + 1 := by
   simp only [Co.app, cN]
   split <;> omega
  rw [foldl_cons, length_cons]
  omega
theorem b52 {c : Co} (l : List Va) (h : WsRep (Y8 c.l) c.ws) : WsRep (Y8 (appL c l).l) (appL c l).ws := by
 unfold appL
 induction l generalizing c with
 | nil => exact h
 | cons v l ih => exact ih (h.cw v fun t => U3 _ _ t)
def a1X (xs : List (Nat × Co)) (xa : List Cd) (i : Nat) : Co := appL (K5 (xa.getD i eC.d)) (xs.getD i dX).2.l
def a0i (ys xs : List (Nat × Co)) (xa : List Cd) (i k : Nat) : Nat × Co := ((ys.getD i dX).1, appL (K5 (xa.getD i eC.d)) ((xs.getD i dX).2.l.take k))
def yK (ys xs : List (Nat × Co)) (xa : List Cd) (i k : Nat) : List (Nat × Co) := (g8 ys (a1X xs xa) i).set i (a0i ys xs xa i k)
section
variable {ys xs : List (Nat × Co)} {xa : List Cd} {i k : Nat}
theorem b6L (h : ys.map Prod.snd = xa.map K5) (hi : i < ys.length) : (ys.getD i dX).2 = K5 (xa.getD i eC.d) := by
 have hl : ys.length = xa.length := by have := congrArg List.length h; rwa [length_map, length_map] at this
 rw [a6d, h, a8 (by rw [length_map]; omega), getElem_map, a8 (by omega)]
theorem b4q (h : ys.map Prod.snd = xa.map K5) (hi : i < ys.length) : g8 ys (a1X xs xa) i = yK ys xs xa i 0 := by
 unfold yK
 have : a0i ys xs xa i 0 = (g8 ys (a1X xs xa) i).getD i dX := by
  rw [a16 hi]
  exact Prod.ext rfl (b6L h hi).symm
 rw [this, G8 _ (by rw [i7]; exact hi)]
theorem b3J : (yK ys xs xa i k).length = ys.length := by unfold yK; rw [length_set, i7]
theorem b6s (hi : i < ys.length) : (yK ys xs xa i k).getD i dX = a0i ys xs xa i k := by
 rw [a8 (by rw [b3J]; exact hi)]
 unfold yK
 rw [getElem_set_self]
theorem b6r (hk : k < (xs.getD i dX).2.l.length) : (yK ys xs xa i k).set i ((a0i ys xs xa i k).1, (a0i ys xs xa i k).2.app ((xs.getD i dX).2.l.getD k eV.d)) = yK ys xs xa i (k + 1) := by
 unfold yK
 rw [List.set_set]
 congr 1
 refine Prod.ext rfl ?_
 show (appL _ ((xs.getD i dX).2.l.take k)).app _ = appL _ ((xs.getD i dX).2.l.take (k + 1))
 rw [take_add_one, getElem?_eq_getElem hk, <- a8 (d := eV.d) hk]
 exact (b0S _ _ _).symm
theorem b6t (hk : k = (xs.getD i dX).2.l.length) : yK ys xs xa i k = g8 ys (a1X xs xa) (i + 1) := by
 subst hk
 unfold yK a0i
 rw [take_length]; rfl
theorem b6p : (a0i ys xs xa i k).2.l.length = min k (xs.getD i dX).2.l.length := by
 show (appL _ _).l.length = _
 rw [a38]
 simp [K5]
theorem a7J : (a0i ys xs xa i k).2.kind = (xa.getD i eC.d).kind := a4a _ _
theorem b6q : (a0i ys xs xa i k).2.b <= k := by
 show (appL _ _).b <= k
 rw [b4k]
 simp only [K5, length_take]; omega
theorem b4p : 0 <= (a0i ys xs xa i k).2.nulls /\ (a0i ys xs xa i k).2.nulls <= (k : Int) := by
 have h := b0T (K5 (xa.getD i eC.d)) ((xs.getD i dX).2.l.take k)
 simp only [K5, length_take] at h
 refine ⟨h.1, Int.le_trans h.2 ?_⟩
 omega
end
theorem b16 {xa : List Cd} {s : Ts} {cs cs' : List Co} {lv : List Sp} {k : Nat} (R : TRep xa s cs lv k) (hl : cs'.length = xa.length) (hX : ∀ c, c < xa.length -> cs'.getD c dC = appL (K5 (xa.getD c eC.d)) (cs.getD c dC).l) : TRep xa s cs' lv k where
 len := hl
 wf := R.wf
 live := R.live
 inc := R.inc
 lt := R.lt
 rl := R.rl
 kind c hc := by rw [hX c hc, a4a]; rfl
 ll c hc := by rw [hX c hc, a38]; exact R.ll c hc
 val r hr c hc := by rw [hX c hc, a38]; exact R.val r hr c hc
 dead c hc i hi hd := by rw [hX c hc, a38]; exact R.dead c hc i hi hd
 ok := R.ok
 ws c hc := by rw [hX c hc]; exact b52 _ (.nil fun t => rfl)
 cnt c hc t := by rw [hX c hc, a38]; exact R.cnt c hc t
 nu c hc := by
  rw [hX c hc]
  have h := b0T (K5 (xa.getD c eC.d)) (cs.getD c dC).l
  rw [R.ll c hc] at h
  have := R.nx
  simp only [K5] at h ⊢
  omega
 b c hc := by
  rw [hX c hc, b4k, R.ll c hc]
  have := R.nx
  simp only [K5]; omega
 nx := R.nx
end Go.Abs
open List (length_append getElem?_append_left getElem?_append_right getElem?_map mem_map append_assoc mem_cons_self mem_cons_of_mem take_append_drop mem_flatMap take_succ_eq_append_getElem pairwise_map getElem?_range)
namespace Go.Abs
def b6Q (s : List Int) (x : Int) : Nat -> Nat
 | 0 => 0
 | n + 1 => if x < s.getD n 0 then b6Q s x n else n + 1
def insS (s : List Int) (x : Int) : List Int :=
 if x < 0 ∨ 65535 < x then s else if 0 < b6Q s x s.length /\ s.getD (b6Q s x s.length - 1) 0 = x then s else s.take (b6Q s x s.length) ++ [x] ++ s.drop (b6Q s x s.length)
def a0G (s : Sp) : List Int := (List.range (s.2 - s.1).toNat).map fun (j : Nat) => s.1 + j
def E7 (m : List Sp) : List Int := m.flatMap a0G
theorem a0F (s : Sp) : (a0G s).length = (s.2 - s.1).toNat := by simp [a0G]
theorem Q1 (a b : List Sp) : E7 (a ++ b) = E7 a ++ E7 b := by simp [E7]
theorem a5y {m : List Sp} {k : Nat} (h : k < m.length) : m.take (k + 1) = m.take k ++ [m.getD k (0, 0)] := by
 rw [take_succ_eq_append_getElem h, a8 h]
theorem b04 {m : List Sp} {k : Nat} (h : k < m.length) : (E7 (m.take (k + 1))).length = (E7 (m.take k)).length + ((m.getD k (0, 0)).2 - (m.getD k (0, 0)).1).toNat := by
 rw [a5y h, Q1, length_append]
 simp [E7, a0F]
theorem b6a {m : List Sp} {k j : Nat} (h : k < m.length) (hj : j < ((m.getD k (0, 0)).2 - (m.getD k (0, 0)).1).toNat) : (E7 m)[(E7 (m.take k)).length + j]? = some ((m.getD k (0, 0)).1 + j) := by
 have hm : m = m.take k ++ [m.getD k (0, 0)] ++ m.drop (k + 1) := by
  rw [<- a5y h, take_append_drop]
 have hA : E7 m = E7 (m.take k) ++ a0G (m.getD k (0, 0)) ++ E7 (m.drop (k + 1)) := by
  have := congrArg E7 hm
  rw [Q1, Q1] at this
  rw [this]; simp [E7]
 rw [hA, append_assoc, getElem?_append_right (by omega), Nat.add_sub_cancel_left, getElem?_append_left (by rw [a0F]; exact hj)]
 unfold a0G
 rw [getElem?_map, getElem?_range hj]; rfl
abbrev a4f (l : List Int) : Prop := l.Pairwise (· < ·)
theorem a5P : ∀ {a b : List Int}, a4f a -> a4f b -> (∀ i, i ∈ a ↔ i ∈ b) -> a = b
 | [], [], _, _, _ => rfl
 | [], y :: b, _, _, h => by have := (h y).2 mem_cons_self; cases this
 | x :: a, [], _, _, h => by have := (h x).1 mem_cons_self; cases this
 | x :: a, y :: b, ha, hb, h => by
  have ha' := List.pairwise_cons.1 ha
  have hb' := List.pairwise_cons.1 hb
  have e : x = y := by
   rcases List.mem_cons.1 ((h x).1 mem_cons_self) with e | h1
   ·exact e
   ·rcases List.mem_cons.1 ((h y).2 mem_cons_self) with e | h2
    ·exact e.symm
    ·have := ha'.1 y h2; have := hb'.1 x h1; omega
  subst e
  rw [a5P ha'.2 hb'.2 fun i => ?_]
  constructor
  ·intro hi
   rcases List.mem_cons.1 ((h i).1 (mem_cons_of_mem _ hi)) with rfl | h1
   ·have := ha'.1 _ hi; omega
   ·exact h1
  ·intro hi
   rcases List.mem_cons.1 ((h i).2 (mem_cons_of_mem _ hi)) with rfl | h1
   ·have := hb'.1 _ hi; omega
   ·exact h1
theorem R5 {s : Sp} {i : Int} : i ∈ a0G s ↔ s.1 <= i /\ i < s.2 := by
 unfold a0G
 rw [mem_map]
 constructor
 ·rintro ⟨j, hj, rfl⟩
  have := List.mem_range.1 hj
  omega
 ·rintro ⟨h1, h2⟩
  exact ⟨(i - s.1).toNat, List.mem_range.2 (by omega), by omega⟩
theorem b2l {m : List Sp} {i : Int} : i ∈ E7 m ↔ has m i = true := by
 unfold E7 has
 rw [mem_flatMap, List.any_eq_true]
 constructor
 ·rintro ⟨s, hs, h⟩
  have := R5.1 h
  exact ⟨s, hs, by simp; omega⟩
 ·rintro ⟨s, hs, h⟩
  exact ⟨s, hs, R5.2 (by simpa using h)⟩
theorem a6V (s : Sp) : a4f (a0G s) := by
 unfold a0G
 rw [a4f, pairwise_map]
 refine List.Pairwise.imp ?_ List.pairwise_lt_range
 intro a b h; omega
theorem a8Q {lo : Int} {m : List Sp} (h : WF lo m) : a4f (E7 m) /\ ∀ i ∈ E7 m, lo < i := by
 induction h with
 | nil => exact ⟨List.Pairwise.nil, fun i h => by cases h⟩
 | @cons lo f t m h1 h2 h3 h ih =>
  have e : E7 ((f, t) :: m) = a0G (f, t) ++ E7 m := rfl
  rw [e]
  refine ⟨List.pairwise_append.2 ⟨a6V _, ih.1, fun a ha b hb => ?_⟩, fun i hi => ?_⟩
  ·have := R5.1 ha; have := ih.2 b hb; simp only at *; omega
  ·rcases List.mem_append.1 hi with hi | hi
   ·have := R5.1 hi; simp only at *; omega
   ·have := ih.2 i hi; omega
theorem b4l {m : List Sp} {S : List Int} (h : WF (-1) m) (hS : a4f S) (hm : ∀ i, i ∈ S ↔ has m i = true) : E7 m = S :=
 a5P (a8Q h).1 hS fun i => b2l.trans (hm i).symm
theorem b2a {m : List Sp} (h : ∀ s ∈ m, s.1 < s.2 /\ s.2 <= 65536) : a1k m 65536 = (E7 m).length := by
 induction m with
 | nil => rfl
 | cons s m ih =>
  obtain ⟨f, t⟩ := s
  have hft := h _ mem_cons_self
  have e : E7 ((f, t) :: m) = a0G (f, t) ++ E7 m := rfl
  rw [e, length_append, a0F]
  simp only [a1k]
  rw [ih fun s hs => h s (mem_cons_of_mem _ hs)]
  simp only at hft ⊢
  rw [if_pos (by omega)]
  split <;> omega
section
variable {m : List Sp} (h : WF (-1) m)
include h
theorem a31 : a7j m = (E7 m).length := b2a fun s hs => ⟨(H6 h s hs).2.1, (H6 h s hs).2.2⟩
end
end Go.Abs
namespace Go.Abs
def b7y (es : Array MapEntry) (l : List (ByteArray × Nat)) : Prop := es.toList.map (fun e => (e.key, e.val)) = l.map fun p => (Value.string p.1, Value.pointer (some ⟨p.2, 0, none⟩))
def W8 (q : Nat) (l : List (ByteArray × Nat)) : As where
 p F A := (∀ b, F.own b ↔ b = q) /\ (∀ b, ¬ F.imm b) /\ ∃ es n, A.heap[q]? = some (.map es n) /\ b7y es l
 lt := fun ⟨h1, h2, es, n, h, _⟩ hb => by
  have := (Array.getElem?_eq_some_iff.1 h).1
  rcases hb with hb | hb
  ·rw [(h1 _).1 hb]; exact this
  ·exact (h2 _ hb).elim
 loc := fun ⟨h1, h2, es, n, h, h3⟩ hk => ⟨h1, h2, es, n, by rw [hk _ (.inl ((h1 _).2 rfl))]; exact h, h3⟩
def a7B : List (ByteArray × Nat) -> ByteArray -> Option Nat
 | [], _ => none
 | p :: l, t => if t == p.1 then some p.2 else a7B l t
def a4I (b : Nat) : Value := .pointer (some ⟨b, 0, none⟩)
theorem a0Z {k : ByteArray} : ∀ {es : List MapEntry} {l : List (ByteArray × Nat)} {i : Nat}, es.map (fun e => (e.key, e.val)) = l.map (fun p => (Value.string p.1, Value.pointer (some ⟨p.2, 0, none⟩))) ->
  ∃ j, Instr.findNow .string (.string k) es i = some ((a7B l k).map fun b => (j, a4I b))
 | [], [], i, _ => ⟨0, rfl⟩
 | e :: es, p :: l, i, h => by
  obtain ⟨h1, h2⟩ := List.cons.inj h
  obtain ⟨h3, h4⟩ := Prod.mk.inj h1
  obtain ⟨j, hj⟩ := a0Z (k := k) (i := i + 1) h2
  simp only [Instr.findNow, h3, Instr.sameNow, a7B]
  cases hk : (k == p.1) with
  | true => exact ⟨i, by rw [if_pos rfl]; simp only [h4]; rfl⟩
  | false => exact ⟨j, by rw [if_neg (by decide)]; exact hj⟩
 | [], p :: l, i, h => nomatch h
 | e :: es, [], i, h => nomatch h
section
variable {P : Program} {A : World} {t kt et : TypeId} {q n : Nat} {l : List (ByteArray × Nat)} {es : Array MapEntry} {k : ByteArray}
theorem a00 (hk : P.underlying kt = some .string) (he : b7y es l) : ∃ j, ∀ w, (Instr.findKey kt (.string k) es.toList).run P w = .ok ((a7B l k).map fun b => (j, a4I b)) w := by
 obtain ⟨j, hj⟩ := a0Z (k := k) (i := 0) he
 refine ⟨j, fun w => ?_⟩
 unfold Instr.findKey
 simp only [Sem.run_bind, d9 hk, Result.andThen, hj]
 rfl
theorem a64 {i : TypeInfo} (ht : P.underlying t = some (.map kt et)) (hk : P.underlying kt = some .string) (hi : P.info? et = some i) (hz : i.zero = some (.pointer none)) (hA : A.heap[q]? = some (.map es n)) (he : b7y es l) :
  (Instr.lookup t (.map (some q)) (.string k) false).run P A = .ok (.pointer ((a7B l k).map fun b => ⟨b, 0, none⟩)) A := by
 obtain ⟨j, hj⟩ := a00 (k := k) hk he
 have hg : (getObj q).run P A = .ok (.map es n) A := by simp [getObj, Sem.run, hA]
 unfold Instr.lookup
 simp only [Sem.run_bind, Sem.run_pure, d9 ht, Result.andThen, hg, E6 (d := .string) (k := .string k) hk rfl, hj]
 cases a7B l k with
 | none => simp only [Option.map_none, Sem.run_bind, Sem.run_pure, y5 hi hz, Result.andThen]; rfl
 | some b => rfl
theorem a6J {b : Nat} (ht : P.underlying t = some (.map kt et)) (hk : P.underlying kt = some .string) (hA : A.heap[q]? = some (.map es n)) (he : b7y es l) (hn : a7B l k = none) :
  (Instr.mapUpdate t (.map (some q)) (.string k) (a4I b)).run P A = .ok () { A with heap := A.heap.setIfInBounds q (.map (es.push { key := .string k, val := a4I b, born := n }) (n + 1)) } := by
 obtain ⟨j, hj⟩ := a00 (k := k) hk he
 have hg : (getObj q).run P A = .ok (.map es n) A := by simp [getObj, Sem.run, hA]
 unfold Instr.mapUpdate
 simp only [Sem.run_bind, Sem.run_pure, d9 ht, Result.andThen, hg, E6 (d := .string) (k := .string k) hk rfl, hj, hn, Option.map_none]
 simp [setObj, Sem.run, hA]
end
def a6a : Option TypeDesc -> Bool
 | some .string => true
 | _ => false
def a9B : Option TypeInfo -> Bool
 | some i => match i.zero with
  | some (.pointer none) => true
  | _ => false
 | none => false
theorem a3H {d : Option TypeDesc} (h : a6a d = true) : d = some .string := by
 unfold a6a at h; split at h
 ·rfl
 ·cases h
theorem a9A {d : Option TypeInfo} (h : a9B d = true) : ∃ i, d = some i /\ i.zero = some (.pointer none) := by
 unfold a9B at h; split at h
 ·rename_i i
  split at h
  ·rename_i hz; exact ⟨i, rfl, hz⟩
  ·cases h
 ·cases h
section
variable {P : Program} {nO : Nat} {ro : Option Nat} {B : Ft × World} {Q : Exit -> Act -> World -> Prop} {p : Pt} {s : St}
def lkA (P : Program) (p : Pt) (s : St) : Option (List Value × Bool) := match opA p with
 | some o => match o.op with
  | .lookup t x k false => match P.underlying t, evX s.env x, evX s.env k with
   | some (.map kt et), some vx, some vk => some ([vx.den, vk.den], and (a6a (P.underlying kt)) (a9B (P.info? et)))
   | _, _, _ => none
  | _ => none
 | none => none
theorem lkp [G : Good P] (q : Nat) (l : List (ByteArray × Nat)) (k : ByteArray) (r : SV) (idx : List Nat) (hr : r.den = .pointer ((a7B l k).map fun b => ⟨b, 0, none⟩))
  (next : GP P nO ro B Q (nxP p (ixP p + 1) (lgP p s)) (acS p s r idx [.as (W8 q l)] s.nx))
  (chk : (lkA P p s, okB idx s.hp.length, wtA p s, a05 p s, (z6 idx s.hp).map Ch.den) = (some ([.map (some q), .string k], true), true, true, true, [Ch.as (W8 q l)].map Ch.den) := by kernel_rfl)
  (ed : (enP P p (ixP p + 1) (lgP p s) (acS p s r idx [.as (W8 q l)] s.nx)).1 = (enP P p (ixP p + 1) (lgP p s) (acS p s r idx [.as (W8 q l)] s.nx)).2 := by kernel_rfl) : GP P nO ro B Q p s := by
 simp only [Prod.mk.injEq] at chk
 obtain ⟨c1, c2', c3, c4, c5⟩ := chk
 unfold lkA at c1
 split at c1
 case h_2 => cases c1
 rename_i o hop
 obtain ⟨id, ops, d, K, i, lg, rfl, ho⟩ := L4 hop
 split at c1
 case h_2 => cases c1
 rename_i t x y hst
 split at c1
 case h_2 => cases c1
 rename_i kt et vx vk hu hx hy
 simp only [Option.some.injEq, Prod.mk.injEq, List.cons.injEq, and_true, Bool.and_eq_true] at c1
 obtain ⟨⟨hx2, hy2⟩, h3, h4⟩ := c1
 have hks := a3H h3
 obtain ⟨ie, hi, hz⟩ := a9A h4
 have hwt := K7 c3 ho
 refine act (R := Unit) (φ := fun _ => True) (res := fun _ => r) (post := fun _ => [.as (W8 q l)]) G ho hwt (by rw [hst]; rfl) idx s.nx c2' c5 (fun a hE F A hF => ?_) c4 (fun _ _ => next) (fun _ => ed)
 have hm := As.unE hF
 obtain ⟨o1, o2, es, n, hA, he⟩ := hm
 refine ⟨(), A, F, ⟨trivial, .value r.den, A, .inr (.inl ⟨?_, ?_⟩), rfl, rfl⟩, hF, .refl⟩
 ·rw [hst]
  intro kt' et' h
  rw [hu] at h
  cases h
  refine ⟨.string, hks, ?_⟩
  rw [show a.eval y = .string k from (p7 hE hy).trans hy2]; rfl
 ·unfold execOp; rw [hst]
  have e1 : a.eval x = .map (some q) := (p7 hE hx).trans hx2
  have e2 : a.eval y = .string k := (p7 hE hy).trans hy2
  simp only [e1, e2, Sem.run_bind, a64 hu hks hi hz hA he, Result.andThen, hr]
  rfl
def muA (P : Program) (p : Pt) (s : St) : Option (List Value × Bool) := match opA p with
 | some o => match o.op with
  | .mapUpdate t x k v => match P.underlying t, evX s.env x, evX s.env k, evX s.env v with
   | some (.map kt _), some vx, some vk, some vv => some ([vx.den, vk.den, vv.den], a6a (P.underlying kt))
   | _, _, _, _ => none
  | _ => none
 | none => none
theorem mpu [G : Good P] (q : Nat) (l : List (ByteArray × Nat)) (k : ByteArray) (b : Nat) (idx : List Nat) (hn : a7B l k = none)
  (next : GP P nO ro B Q (nxP p (ixP p + 1) (lgP p s)) (acS p s (.o (.v undef)) idx [.as (W8 q (l ++ [(k, b)]))] s.nx))
  (chk : (muA P p s, okB idx s.hp.length, wtA p s, a05 p s, (z6 idx s.hp).map Ch.den) = (some ([.map (some q), .string k, a4I b], true), true, true, true, [Ch.as (W8 q l)].map Ch.den) := by kernel_rfl)
  (ed : (enP P p (ixP p + 1) (lgP p s) (acS p s (.o (.v undef)) idx [.as (W8 q (l ++ [(k, b)]))] s.nx)).1 = (enP P p (ixP p + 1) (lgP p s) (acS p s (.o (.v undef)) idx [.as (W8 q (l ++ [(k, b)]))] s.nx)).2 := by kernel_rfl) : GP P nO ro B Q p s := by
 simp only [Prod.mk.injEq] at chk
 obtain ⟨c1, c2', c3, c4, c5⟩ := chk
 unfold muA at c1
 split at c1
 case h_2 => cases c1
 rename_i o hop
 obtain ⟨id, ops, d, K, i, lg, rfl, ho⟩ := L4 hop
 split at c1
 case h_2 => cases c1
 rename_i t x y z hst
 split at c1
 case h_2 => cases c1
 rename_i kt et vx vk vv hu hx hy hv
 simp only [Option.some.injEq, Prod.mk.injEq, List.cons.injEq, and_true] at c1
 obtain ⟨⟨hx2, hy2, hv2⟩, h3⟩ := c1
 have hks := a3H h3
 have hwt := K7 c3 ho
 refine act (R := Unit) (φ := fun _ => True) (res := fun _ => .o (.v undef)) (post := fun _ => [.as (W8 q (l ++ [(k, b)]))]) G ho hwt (by rw [hst]; rfl) idx s.nx c2' c5 (fun a hE F A hF => ?_) c4 (fun _ _ => next) (fun _ => ed)
 have hm := As.unE hF
 obtain ⟨o1, o2, es, n, hA, he⟩ := hm
 have hlt := (Array.getElem?_eq_some_iff.1 hA).1
 refine ⟨(), { A with heap := A.heap.setIfInBounds q (.map (es.push { key := .string k, val := a4I b, born := n }) (n + 1)) }, F, ⟨trivial, .skip, _, .inr (.inl ⟨?_, ?_⟩), rfl, rfl⟩, As.addE ⟨o1, o2, _, _, Array.getElem?_setIfInBounds_self_of_lt hlt, ?_⟩, ⟨?_, fun c _ hno => ?_, fun _ h => .inl h, fun _ h => .inr (.inl h)⟩⟩
 ·rw [hst]
  intro kt' et' h
  rw [hu] at h
  cases h
  refine ⟨.string, hks, ?_⟩
  rw [show a.eval y = .string k from (p7 hE hy).trans hy2]; rfl
 ·unfold execOp; rw [hst]
  have e1 : a.eval x = .map (some q) := (p7 hE hx).trans hx2
  have e2 : a.eval y = .string k := (p7 hE hy).trans hy2
  have e3 : a.eval z = a4I b := (p7 hE hv).trans hv2
  simp only [e1, e2, e3, Sem.run_bind, a6J hu hks hA he hn, Result.andThen]
  rfl
 ·unfold b7y at he ⊢
  rw [Array.toList_push, List.map_append, List.map_append, he]; rfl
 ·show A.heap.size <= (A.heap.setIfInBounds _ _).size
  rw [Array.size_setIfInBounds]; exact Nat.le_refl _
 ·show (A.heap.setIfInBounds _ _)[c]? = _
  exact Array.getElem?_setIfInBounds_ne fun e => hno ((o1 c).2 e.symm)
def mmA (p : Pt) : Bool := match opA p with
 | some o => match o.op with
  | .makeMap _ none => true
  | _ => false
 | none => false
theorem mkm [G : Good P] (nx : Nat)
  (next : ∀ q, GP P nO ro B Q (nxP p (ixP p + 1) (lgP p s)) (acS p s (.o (.v (.map (some q)))) [] [.as (W8 q [])] nx))
  (chk : (mmA p, wtA p s, a05 p s) = (true, true, true) := by kernel_rfl)
  (ed : ∀ q, (enP P p (ixP p + 1) (lgP p s) (acS p s (.o (.v (.map (some q)))) [] [.as (W8 q [])] nx)).1 = (enP P p (ixP p + 1) (lgP p s) (acS p s (.o (.v (.map (some q)))) [] [.as (W8 q [])] nx)).2 := by intro q; kernel_rfl) : GP P nO ro B Q p s := by
 simp only [Prod.mk.injEq] at chk
 obtain ⟨c1, c3, c4⟩ := chk
 unfold mmA at c1
 split at c1
 case h_2 => cases c1
 rename_i o hop
 obtain ⟨id, ops, d, K, i, lg, rfl, ho⟩ := L4 hop
 split at c1
 case h_2 => cases c1
 rename_i t hst
 have hwt := K7 c3 ho
 refine act (R := Nat) (φ := fun _ => True) (res := fun q => .o (.v (.map (some q)))) (pre := []) (post := fun q => [.as (W8 q [])]) G ho hwt (by rw [hst]; rfl) [] nx (List.isPerm_iff.2 (by rw [List.nil_append, V9, show (List.range s.hp.length).filter (fun i => !([] : List Nat).contains i) = List.range s.hp.length from List.filter_eq_self.2 (fun _ _ => rfl)])) rfl (fun a hE F A hF => ?_) c4 (fun q _ => next q) ed
 have hF : F = Ft.no := hF
 subst hF
 refine ⟨A.heap.size, A.alloc (.map #[] 0), ⟨fun b => b = A.heap.size, fun _ => False⟩, ⟨trivial, .value (.map (some A.heap.size)), _, .inr (.inl ⟨by rw [hst]; trivial, ?_⟩), rfl, rfl⟩, As.addE ⟨fun _ => Iff.rfl, fun _ h => h, #[], 0, ?_, rfl⟩, ⟨?_, fun c hc _ => ?_, fun c hc => .inr (Nat.le_of_eq hc.symm), fun _ h => h.elim⟩⟩
 ·unfold execOp; rw [hst]; rfl
 ·exact J6
 ·show A.heap.size <= (A.alloc _).heap.size
  simp
 ·exact x5 hc
end
end Go.Abs
