/-
  D5.
-/
import Derived.Test.YtagidoadfajpgaaGreatN13
import Derived.Test.YtagidoadfajpgaaGreatN1
namespace Go.Abs
theorem b6 {l l' : List Ch} (h : l.map Ch.den = l'.map Ch.den) : GE l Unit (fun _ => True) (fun _ => l') := fun F A hF => ⟨(), F, trivial, by unfold hpA at hF ⊢; rw [<- h]; exact hF, .refl⟩
theorem p6 {l : List Ch} : GE l Unit (fun _ => True) (fun _ => [.as (hpA l)]) := fun F _ hF => ⟨(), F, trivial, As.addE hF, .refl⟩
theorem O5 {l : List Ch} : GE [.as (hpA l)] Unit (fun _ => True) (fun _ => l) := fun F _ hF => ⟨(), F, trivial, As.unE hF, .refl⟩
theorem s2 {c cs : Ch} {q off : Nat} {z : Bool} {l : Array Value} (h : Src cs q off z l) : ∀ F A, (hpA [c, cs]).p F A -> b08 A q off z l := fun _ _ ⟨_, _, _, h2, _⟩ => h _ _ (As.unE h2)
theorem s1 {c : Ch} {J : List Ch} {q off : Nat} {z : Bool} {l : Array Value} (h : Src c q off z l) : ∀ F A, (hpA (c :: J)).p F A -> b08 A q off z l := fun _ _ ⟨_, _, h1, _, _⟩ => h _ _ h1
theorem a18 {α : Type} {E : En α} {xs : List α} {g q : Nat} {t : TypeId} {m : Md} {z : Bool} {a n : Nat} (h : a + n <= xs.length) : Src (vc E g q xs t m z) q (a * E.w) z (b7 E.f ((xs.drop a).take n)) := fun F A hF => by
 cases z with
 | true =>
  obtain ⟨_, rfl⟩ := hF
  exact .inl ⟨rfl, by simp [b7]⟩
 | false =>
  obtain ⟨hw, _, _, fz, _, hb⟩ := hF
  have hs : (b7 E.f ((xs.drop a).take n)).size = n * E.w := by rw [f5 hw, List.length_take, List.length_drop, Nat.min_eq_left (by omega)]
  refine .inr ⟨rfl, _, _, _, hb, ?_, ?_⟩
  ·rw [hs, f5 hw, <- Nat.add_mul]; exact Nat.mul_le_mul_right _ h
  ·rw [hs]; exact a4r hw h
section
variable {P : Program} {nO : Nat} {ro : Option Nat} {B : Ft × World} {Q : Exit -> Act -> World -> Prop} {p : Pt} {s : St}
def cvA (p : Pt) (s : St) : Option (Value × List Value) := match opA p with
 | some o => match o.op with
  | .call c => match c.callee with
   | .value g => match evX s.env g, b3v s.env c.args.toList with
    | some v, some l => some (v.den, l)
    | _, _ => none
   | _ => none
  | _ => none
 | none => none
theorem clv [G : Good P] {y : Value} {args : List SV} {pre : List Ch} {R : Type} {φ : R -> Prop} {res : R -> SV} {post : R -> List Ch} (C : a2X P nO y args pre R φ res post) (idx : List Nat) (tg : List (Nat × Nat)) (nx : Nat)
  (next : ∀ r, φ r -> GP P nO ro B Q (nxP p (ixP p + 1) (lgP p s)) (acS p s (tgV tg (res r)) idx ((post r).map (tgC tg)) nx))
  (chk : (cvA p s, okB idx s.hp.length, wtA p s, a05 p s, (z6 idx s.hp).map Ch.den) = (some (y, args.map SV.den), true, true, true, pre.map Ch.den) := by kernel_rfl)
  (ed : ∀ r, (enP P p (ixP p + 1) (lgP p s) (acS p s (tgV tg (res r)) idx ((post r).map (tgC tg)) nx)).1 = (enP P p (ixP p + 1) (lgP p s) (acS p s (tgV tg (res r)) idx ((post r).map (tgC tg)) nx)).2 := by intro r; kernel_rfl) : GP P nO ro B Q p s := by
 simp only [Prod.mk.injEq] at chk
 obtain ⟨c1, c3, cw, c4, c5⟩ := chk
 unfold cvA at c1
 split at c1
 case h_2 => cases c1
 rename_i o hoo
 obtain ⟨id, ops, d, K, i, lg, rfl, ho⟩ := L4 hoo
 split at c1
 case h_2 => cases c1
 rename_i c hop
 split at c1
 case h_2 => cases c1
 rename_i g hc
 split at c1
 case h_2 => cases c1
 rename_i v l hg hl
 simp only [Option.some.injEq, Prod.mk.injEq] at c1
 obtain ⟨hy, rfl⟩ := c1
 have hw := K7 cw ho
 refine act G (res := fun r => tgV tg (res r)) (post := fun r => (post r).map (tgC tg)) ho hw (by rw [hop]; unfold g6; simp only [hc]) idx nx c3 c5 (fun a ha F A hF => ?_) c4 next ed
 obtain ⟨r, A', F', h1, ⟨f, fn, code, first, cap, H, hy2, h2⟩, h3, h4⟩ := C F A hF
 refine ⟨r, A', F', ⟨h1, ?_⟩, by rw [hpA, a0C]; exact h3, h4⟩
 rw [a17]
 exact x7 H ((p7 ha hg).trans (hy.trans hy2)) (G4 ha hl) rfl h2 hop hc
theorem ap0 [G : Good P] {α : Type} (E : En α) (ys : List α) (g q : Nat) (cs : Ch) (q2 off n2 c2 : Nat) (z2 : Bool) (g' : Nat) (idx : List Nat) (nx : Nat) (e : TypeId) (hlen : ys.length <= 16777216) (hs : Src cs q2 off z2 (b7 E.f ys))
  (next : ∀ q', GP P nO ro B Q (nxP p (ixP p + 1) (lgP p s)) (acS p s (.o (.s g' q' E.w 0 ys.length ys.length false)) idx [vc E g' q' ys e (n8 ys) false, cs] nx))
  (hw : ∀ x, (E.f x).length = E.w := by intro _; rfl) (h1 : ∀ x, (E.f x).all C1.one = true := by intro _; rfl) (hn : n2 = ys.length := by rfl)
  (chk : (apA P p s E.w, okB idx s.hp.length, wtA p s, a05 p s, (z6 idx s.hp).map Ch.den) = (some ([.slice (some ⟨q, 0, none⟩) 0 0, .slice (cond z2 none (some ⟨q2, off, none⟩)) n2 c2], e, true), true, true, true, [Ch.blk g q [] e .own, cs].map Ch.den) := by kernel_rfl)
  (ed : ∀ q', (enP P p (ixP p + 1) (lgP p s) (acS p s (.o (.s g' q' E.w 0 ys.length ys.length false)) idx [vc E g' q' ys e (n8 ys) false, cs] nx)).1 = (enP P p (ixP p + 1) (lgP p s) (acS p s (.o (.s g' q' E.w 0 ys.length ys.length false)) idx [vc E g' q' ys e (n8 ys) false, cs] nx)).2 := by intro q'; kernel_rfl) : GP P nO ro B Q p s := by
 simp only [Prod.mk.injEq] at chk
 obtain ⟨c1, c2', c3, c4, c5⟩ := chk
 unfold apA at c1
 split at c1
 case h_2 => cases c1
 rename_i o hop
 obtain ⟨id, ops, d, K, i, lg, rfl, ho⟩ := L4 hop
 split at c1
 case h_2 => cases c1
 rename_i c hc
 split at c1
 case h_2 => cases c1
 rename_i l t hl ht
 split at c1
 case h_2 => cases c1
 rename_i e' hu
 simp only [Option.some.injEq, Prod.mk.injEq] at c1
 obtain ⟨rfl, rfl, hT⟩ := c1
 have hwt := K7 c3 ho
 obtain ⟨h2, h3⟩ := a2z hc
 refine act (R := Nat) (φ := fun _ => True) (res := fun q' => .o (.s g' q' E.w 0 ys.length ys.length false)) (post := fun q' => [vc E g' q' ys e' (n8 ys) false, cs]) G ho hwt (by rw [h2]; unfold g6; simp only [h3]) idx nx c2' c5 (fun a hE F A hF => ?_) c4 (fun q' _ => next q') ed
 have hF' : (hpA [.vec g q E.w E.f E.d [] e' .own false, cs]).p F A := by
  obtain ⟨F1, F2, ⟨o1, o2, fz, hfz, hb⟩, k2, j⟩ := hF
  exact ⟨F1, F2, ⟨hw, o1, o2, fz, hfz, by rw [hb]; rfl⟩, k2, j⟩
 obtain ⟨q', A', F', k1, k2, k3⟩ := b3y hw h1 hT hs hn hlen hF'
 refine ⟨q', A', F', ⟨trivial, ?_⟩, k2, k3⟩
 have hargs : c.args.map a.eval = #[.slice (some ⟨q, 0, none⟩) 0 0, .slice (cond z2 none (some ⟨q2, off, none⟩)) n2 c2] := by
  have := G4 hE hl
  apply Array.ext'
  rw [Array.toList_map]; exact this
 have hd : (SV.o (.s g' q' E.w 0 ys.length ys.length false)).den = .slice (some ⟨q', 0, none⟩) ys.length ys.length := by
  show Value.slice (some ⟨q', 0 * E.w, none⟩) _ _ = _
  rw [Nat.zero_mul]
 rw [hd]
 exact ⟨_, _, .inr (.inr (.inl ⟨c, _, h2, h3, rfl, by rw [hargs]; exact k1⟩)), rfl, rfl⟩
theorem a3X {f : FuncId} {args : List SV} {pre : List Ch} {X : Type} {ψ : X -> Prop} {pre' : X -> List Ch} {R : Type} {φ : R -> Prop} {res : R -> SV} {post : R -> List Ch} (E : GE pre X ψ pre') (C : ∀ x, ψ x -> Ctr P nO f args (pre' x) R φ res post) : Ctr P nO f args pre R φ res post := fun F A hF => by
 obtain ⟨x, F1, h1, h2, M⟩ := E F A hF
 obtain ⟨r, A', F', h3, h4, h5, h6⟩ := C x h1 F1 A h2
 exact ⟨r, A', F', h3, h4, h5, M.trans h6⟩
theorem a0U {l : List Ch} {R : Type} {φ : R -> Prop} {l' : R -> List Ch} (c : Ch) (E : GE l R φ l') : GE (c :: l) R φ (fun r => c :: l' r) := fun F A hF => by
 have hF : (c.den.star (hpA l)).p F A := hF
 obtain ⟨F1, F2, h1, h2, j⟩ := As.comm hF
 obtain ⟨r, F1', h3, h4, M⟩ := E F1 A h1
 obtain ⟨F', g1, g2⟩ := As.frame (K := hpA (l' r)) j h2 h4 M
 exact ⟨r, F', h3, As.comm g1, g2⟩
theorem J4 {f : FuncId} {args : List SV} {pre : List Ch} {R R' : Type} {φ : R -> Prop} {φ' : R' -> Prop} {res : R -> SV} {res' : R' -> SV} {post : R -> List Ch} {post' : R' -> List Ch} (C : Ctr P nO f args pre R φ res post) (g : R -> R') (h : ∀ r, φ r -> φ' (g r) /\ (res r).den = (res' (g r)).den /\ (post r).map Ch.den = (post' (g r)).map Ch.den) : Ctr P nO f args pre R' φ' res' post' := fun F A hF => by
 obtain ⟨r, A', F', h3, h4, h5, h6⟩ := C F A hF
 obtain ⟨k1, k2, k3⟩ := h r h3
 exact ⟨g r, A', F', k1, by rw [<- k2]; exact h4, by unfold hpA at h5 ⊢; rw [<- k3]; exact h5, h6⟩
theorem L9 {f : FuncId} {args : List SV} {pre : List Ch} {R : Type} {φ : R -> Prop} {res : R -> SV} {post : R -> List Ch} (J : List Ch) (C : Ctr P nO f args pre R φ res post) : Ctr P nO f args (pre ++ J) R φ res (fun r => post r ++ J) := fun F A hF => by
 obtain ⟨F1, F2, h1, h2, j⟩ := a0b.1 hF
 obtain ⟨r, A', F1', h3, h4, h5, h6⟩ := C F1 A h1
 obtain ⟨F', g1, g2⟩ := As.frame (K := hpA (post r)) j h2 h5 h6
 exact ⟨r, A', F', h3, h4, a0b.2 g1, g2⟩
theorem a07 {y : Value} {args : List SV} {c : Ch} {R : Type} {φ : R -> Prop} {res : R -> SV} (C : a2X P nO y args [c] R φ res (fun _ => [c])) : a2X P nO y args [.as c.den] R φ res (fun _ => [.as c.den]) := C
theorem a0s {y : Value} {args : List SV} {l : List Ch} {R : Type} {φ : R -> Prop} {res : R -> SV} (C : a2X P nO y args l R φ res (fun _ => l)) : a2X P nO y args [.as (hpA l)] R φ res (fun _ => [.as (hpA l)]) := fun F A h => by
 obtain ⟨r, A', F', h1, h2, h3, h4⟩ := C F A (As.unE h)
 exact ⟨r, A', F', h1, h2, As.addE h3, h4⟩
theorem R6 {α : Type} {l : List α} : (n8 l).mine = true := by cases l <;> rfl
theorem cl0 [G : Good P] {f : FuncId} {args : List SV} {pre : List Ch} {R : Type} {φ : R -> Prop} {res : R -> SV} {post : R -> List Ch} (C : Ctr P nO f args pre R φ res post) (idx : List Nat) (nx : Nat)
  (next : ∀ r, φ r -> GP P nO ro B Q (nxP p (ixP p + 1) (lgP p s)) (acS p s (res r) idx (post r) nx))
  (chk : (caA p s, isF P f, okB idx s.hp.length, a05 p s, (z6 idx s.hp).map Ch.den) = (some (f, args.map SV.den), true, true, true, pre.map Ch.den) := by kernel_rfl)
  (ed : ∀ r, (enP P p (ixP p + 1) (lgP p s) (acS p s (res r) idx (post r) nx)).1 = (enP P p (ixP p + 1) (lgP p s) (acS p s (res r) idx (post r) nx)).2 := by intro r; kernel_rfl) : GP P nO ro B Q p s := by
 simp only [Prod.mk.injEq] at chk
 obtain ⟨c1, c2, c3, c4, c5⟩ := chk
 unfold caA at c1
 split at c1
 case h_2 => cases c1
 rename_i id ops d K i lg
 split at c1
 case h_2 => cases c1
 rename_i o ho
 split at c1
 case h_2 => cases c1
 rename_i c hop hw
 split at c1
 case h_2 => cases c1
 rename_i g hc
 split at c1
 case h_2 => cases c1
 rename_i f' first cap l hg hl
 simp only [Option.some.injEq, Prod.mk.injEq] at c1
 obtain ⟨rfl, hx⟩ := c1
 obtain ⟨fn, code, H⟩ := a3I c2
 refine act G (res := res) (post := post) ho hw (by rw [hop]; unfold g6; simp only [hc]) idx nx c3 c5 (fun a ha F A hF => ?_) c4 next ed
 obtain ⟨r, A', F', h1, h2, h3, h4⟩ := C F A hF
 refine ⟨r, A', F', ⟨h1, ?_⟩, h3, h4⟩
 refine x7 H (p7 ha hg) (G4 ha hl) ?_ h2 hop hc
 apply Array.ext'
 simpa using hx
theorem b3k {f : FuncId} {args args' : List SV} {y : Value} {pre : List Ch} {R : Type} {φ : R -> Prop} {res : R -> SV} {post : R -> List Ch} (cap : List Value) (C : Ctr P nO f args' pre R φ res post) (h : (y, args'.map SV.den, isF P f) = (.func (.func f) #[] cap.toArray, args.map SV.den ++ cap, true) := by kernel_rfl) : a2X P nO y args pre R φ res post := fun F A hF => by
 simp only [Prod.mk.injEq] at h
 obtain ⟨fn, code, H⟩ := a3I h.2.2
 obtain ⟨r, A', F', h1, h2, h3⟩ := C F A hF
 refine ⟨r, A', F', h1, ⟨f, fn, code, _, _, H, h.1, ?_⟩, h3⟩
 rw [h.2.1] at h2
 simpa using h2
end
end Go.Abs
namespace Go.Abs
structure Va where
 k : Int
 n : Int
 s : ByteArray
theorem nb {b : Bool} (h : b = false) : ¬ b = true := by simp [h]
def eI : En Int := ⟨1, fun x => [.v (.int .i64 x)], 0⟩
def eP : En (Int × Int) := ⟨2, fun x => [.v (.int .i64 x.1), .v (.int .i64 x.2)], (0, 0)⟩
def eV : En Va := ⟨3, fun x => [.v (.int .i64 x.k), .v (.int .i64 x.n), .v (.string x.s)], ⟨0, 0, ⟨#[]⟩⟩⟩
def eS : En ByteArray := ⟨1, fun x => [.v (.string x)], ⟨#[]⟩⟩
def bOk (b : UInt8) : Prop := ¬ ((b.toNat : Int) < 32 ∨ (b.toNat : Int) > 126 ∨ (b.toNat : Int) = 39)
instance (b : UInt8) : Decidable (bOk b) := by unfold bOk; infer_instance
def tOk (s : ByteArray) : Bool := decide ((∀ j, j < s.size -> bOk (d4 s j)) /\ s.size <= 12)
def b1e (s : ByteArray) : Bool := a7 s ⟨#[]⟩
def vOk (v : Va) : Bool := if v.k = 0 then and (v.n == 0) (b1e v.s) else if v.k = 1 then b1e v.s else if v.k = 2 then and (v.n == 0) (tOk v.s) else false
def eqV (a b : Va) : Bool := and (and (a.k == b.k) (a.n == b.n)) (a7 a.s b.s)
def a6m (a b : Va) : Int := if or (or (decide (a.k < b.k)) (and (a.k == b.k) (decide (a.n < b.n)))) (and (and (a.k == b.k) (a.n == b.n)) (I7 a.s b.s)) then -1 else if eqV a b then 0 else 1
def a8P : List Va -> List Va -> Int
 | [], [] => 0
 | [], _ => -1
 | _, [] => 1
 | a :: l, b :: m => if a6m a b = 0 then a8P l m else a6m a b
theorem a3p {a b : List Va} {i : Nat} (ha : i < a.length) (hb : i < b.length) : a8P (a.drop i) (b.drop i) = if a6m (a.getD i eV.d) (b.getD i eV.d) = 0 then a8P (a.drop (i + 1)) (b.drop (i + 1)) else a6m (a.getD i eV.d) (b.getD i eV.d) := by
 rw [List.drop_eq_getElem_cons ha, List.drop_eq_getElem_cons hb, a8 ha, a8 hb]; rfl
theorem b10 {a b : List Va} : (a = [] ∨ b = []) -> a8P a b = if a.length < b.length then -1 else if a.length > b.length then 1 else 0 := by
 intro h
 cases a <;> cases b <;> simp_all [a8P]
end Go.Abs
open List (length_cons foldl_cons getD_eq_getElem?_getD mem_cons drop_eq_getElem_cons mem_cons_self mem_cons_of_mem nil_append getElem?_eq_getElem length_replicate eq_nil_or_concat concat_eq_append take_succ_eq_append_getElem length_set getElem_mem drop_eq_nil_of_le findIdx?_eq_some_iff_getElem findIdx?_eq_none_iff getElem_of_mem)
namespace Go.Abs
theorem a2y {α : Type} {l : List α} {i : Nat} {x : α} : (l.set i x).isEmpty = l.isEmpty := by
 cases l
 ·rfl
 ·cases i <;> rfl
theorem a2x {α : Type} {l : List α} {x : α} : (l ++ [x]).isEmpty = false := by cases l <;> rfl
theorem a57 {m : List Sp} {s : Sp} : (m ++ [s]).length - 1 = m.length := by simp
theorem a6D {m : List Sp} {f t : Int} (h : 0 < m.length) (h2 : f <= (m.getD (m.length - 1) ((0, 0) : Int × Int)).2) :
  c8 m f t = m.set (m.length - 1) ((m.getD (m.length - 1) ((0, 0) : Int × Int)).1, if (m.getD (m.length - 1) ((0, 0) : Int × Int)).2 < t then t else (m.getD (m.length - 1) ((0, 0) : Int × Int)).2) := by
 rcases eq_nil_or_concat m with rfl | ⟨m, ⟨a, b⟩, rfl⟩
 ·exact absurd h (by simp)
 ·rw [concat_eq_append] at *
  rw [a57] at h2 ⊢
  have e : (m ++ [(a, b)]).getD m.length ((0, 0) : Int × Int) = (a, b) := by rw [getD_eq_getElem?_getD]; simp
  rw [e] at h2 ⊢
  rw [O2, if_pos h2]
  simp
theorem a1i {m : List Sp} {f t : Int} (h : ¬ (0 < m.length /\ f <= (m.getD (m.length - 1) ((0, 0) : Int × Int)).2)) :
  c8 m f t = if f < t then m ++ [(f, t)] else m := by
 rcases eq_nil_or_concat m with rfl | ⟨m, ⟨a, b⟩, rfl⟩
 ·rw [a1j]; rfl
 ·rw [concat_eq_append] at *
  rw [a57] at h
  have e : (m ++ [(a, b)]).getD m.length ((0, 0) : Int × Int) = (a, b) := by rw [getD_eq_getElem?_getD]; simp
  rw [e] at h
  rw [O2, if_neg (fun h2 => h ⟨by simp, h2⟩)]
def cS (a b : List Sp) : Nat -> Int
 | 0 => 0
 | 1 => a.length
 | _ => a.length + b.length
def kN (a b : List Sp) : Nat -> Nat
 | 0 => 0
 | 1 => 0 + a.length
 | _ => 0 + a.length + b.length
def cL (a b : List Sp) : Nat -> List Sp
 | 0 => List.replicate (a.length + b.length) eP.d
 | 1 => spl (List.replicate (a.length + b.length) eP.d) 0 a
 | _ => spl (spl (List.replicate (a.length + b.length) eP.d) 0 a) (0 + a.length) b
theorem a6u (a b : List Sp) (i : Nat) : (cL a b i).length = a.length + b.length := by
 have h1 : (spl (List.replicate (a.length + b.length) eP.d) 0 a).length = a.length + b.length := by rw [P2 (by simp), length_replicate]
 match i with
 | 0 => simp [cL]
 | 1 => exact h1
 | _ + 2 => simp only [cL]; rw [P2 (by rw [h1]; omega), h1]
theorem b7F (a b : List Sp) : cL a b 2 = a ++ b := by
 simp [cL, spl]
theorem zN (a b : List Sp) : ((a.length + b.length) == 0) = (a ++ b).isEmpty := by
 cases a <;> cases b <;> simp
theorem b06 {m : List Sp} {f t : Int} : (c8 m f t).length <= m.length + 1 := by
 by_cases h : 0 < m.length /\ f <= (m.getD (m.length - 1) ((0, 0) : Int × Int)).2
 ·rw [a6D h.1 h.2, length_set]; omega
 ·rw [a1i h]
  split
  ·simp
  ·omega
theorem a4P {α : Type} {l : List α} : l.isEmpty = true -> l.length = 0 := by cases l <;> simp
end Go.Abs
namespace Go.Abs
def d7 (l : List Int) : List Int := l.mergeSort fun x y => decide (x <= y)
def b7P (a b r : List Sp) : Prop := WF (-1) r /\ ∀ i, has r i = (has a i || has b i)
def b7Q (a b r : List Sp) : Prop := WF (-1) r /\ ∀ i, has r i = (has a i && has b i)
def b3H (a b r : List Sp) : Prop := WF (-1) r /\ ∀ i, has r i = (has a i && !has b i)
def b6g (a : List Sp) (n : Int) (r : List Sp) : Prop := WF (-1) r /\ ∀ i, has r i = (b7h i && decide (i < n) && !has a i)
def ofL (l : List Int) : List Sp := l.foldl (fun m i => if 0 <= i /\ i < 65536 then c8 m i (i + 1) else m) []
theorem b6y (l : List Int) : WF (-1) (ofL l) := by
 have : ∀ (l : List Int) (m : List Sp), WF (-1) m -> WF (-1) (l.foldl (fun m i => if 0 <= i /\ i < 65536 then c8 m i (i + 1) else m) m) := by
  intro l
  induction l with
  | nil => exact fun m h => h
  | cons i l ih =>
   intro m h
   refine ih _ ?_
   show WF (-1) (if 0 <= i /\ i < 65536 then c8 m i (i + 1) else m)
   split
   ·exact a1A h (by omega) (by omega)
   ·exact h
 exact this l [] .nil
theorem b6Z (l : List Int) : (ofL l).length <= l.length := by
 have : ∀ (l : List Int) (m : List Sp), (l.foldl (fun m i => if 0 <= i /\ i < 65536 then c8 m i (i + 1) else m) m).length <= m.length + l.length := by
  intro l
  induction l with
  | nil => exact fun m => Nat.le_refl _
  | cons i l ih =>
   intro m
   refine Nat.le_trans (ih _) ?_
   have : (if 0 <= i /\ i < 65536 then c8 m i (i + 1) else m).length <= m.length + 1 := by
    split
    ·exact a5k
    ·omega
   simp only [length_cons]
   omega
 simpa [ofL] using this l []
theorem b44 {L : List Int} {k : Nat} {x : Int} (h : L[k]? = some x) : ofL (L.take (k + 1)) = if 0 <= x /\ x < 65536 then c8 (ofL (L.take k)) x (x + 1) else ofL (L.take k) := by
 obtain ⟨hk, e⟩ := List.getElem?_eq_some_iff.1 h
 unfold ofL
 rw [take_succ_eq_append_getElem hk, List.foldl_append, e]
 rfl
theorem b60 {L : List Int} (hs : L.Pairwise (· <= ·)) (i : Int) : has (ofL L) i = true ↔ i ∈ L /\ 0 <= i /\ i < 65536 := by
 have : ∀ (l : List Int) (m : List Sp), WF (-1) m -> l.Pairwise (· <= ·) -> (∀ x ∈ l, 0 <= x -> a52 m <= x) -> (has (l.foldl (fun m i => if 0 <= i /\ i < 65536 then c8 m i (i + 1) else m) m) i = true ↔ has m i = true ∨ (i ∈ l /\ 0 <= i /\ i < 65536)) := by
  intro l
  induction l with
  | nil => exact fun m _ _ _ => by simp
  | cons x l ih =>
   intro m hw hp hl
   obtain ⟨hx, hp'⟩ := List.pairwise_cons.1 hp
   rw [foldl_cons]
   by_cases h : 0 <= x /\ x < 65536
   ·rw [if_pos h, ih _ (a1A hw (by omega) (by omega)) hp' (fun y hy h0 => ?_), a0S hw (hl x mem_cons_self h.1)]
    ·simp only [Bool.or_eq_true, Bool.and_eq_true, decide_eq_true_eq, mem_cons]
     constructor
     ·rintro ((h1 | h1) | h1)
      ·exact .inl h1
      ·exact .inr ⟨.inl (by omega), by omega⟩
      ·exact .inr ⟨.inr h1.1, h1.2⟩
     ·rintro (h1 | ⟨h1 | h1, h2⟩)
      ·exact .inl (.inl h1)
      ·exact .inl (.inr (by omega))
      ·exact .inr ⟨h1, h2⟩
    ·have := hx y hy
     rcases a2s (m := m) (f := x) (t := x + 1) with e | e
     ·rw [e]; exact Int.le_trans (hl x mem_cons_self h.1) this
     ·rw [e]; exact this
   ·rw [if_neg h, ih _ hw hp' fun y hy h0 => hl y (mem_cons_of_mem _ hy) h0]
    simp only [mem_cons]
    constructor
    ·rintro (h1 | h1)
     ·exact .inl h1
     ·exact .inr ⟨.inr h1.1, h1.2⟩
    ·rintro (h1 | ⟨h1 | h1, h2⟩)
     ·exact .inl h1
     ·exact absurd (h1 ▸ h2) h
     ·exact .inr ⟨h1, h2⟩
 have := this L [] .nil hs (fun x _ h => by show (-1 : Int) <= x; omega)
 unfold ofL
 rw [this]
 simp [has]
theorem b1L (l : List Int) : (d7 l).Pairwise (· <= ·) := by
 have := List.pairwise_mergeSort (le := fun x y : Int => decide (x <= y)) (fun a b c h1 h2 => by simp only [decide_eq_true_eq] at *; omega) (fun a b => by simp only [Bool.or_eq_true, decide_eq_true_eq]; omega) l
 exact this.imp fun h => by simpa using h
theorem a8n {l : List Int} {i : Int} : i ∈ d7 l ↔ i ∈ l := List.mem_mergeSort
theorem b32 {L : List Int} {k : Nat} (h : k < L.length) : ofL (L.take (k + 1)) = if L.getD k eI.d ≥ 0 /\ L.getD k eI.d < 65536 then c8 (ofL (L.take k)) (L.getD k eI.d) (L.getD k eI.d + 1) else ofL (L.take k) := b44 (by rw [a8 h]; exact getElem?_eq_getElem h)
theorem b62 (L : List Int) (k : Nat) : (ofL (L.take k)).length <= k := Nat.le_trans (b6Z _) (by simp; omega)
theorem a8o (l : List Int) : (d7 l).length = l.length := List.length_mergeSort _
theorem a4G {m : List Sp} {k : Nat} {i : Int} (h : k < m.length) : a1k (m.take (k + 1)) i = a1k (m.take k) i + (if i > (m.getD k eP.d).1 then (if (m.getD k eP.d).2 < i then (m.getD k eP.d).2 else i) - (m.getD k eP.d).1 else 0) := by
 rw [take_succ_eq_append_getElem h, a8 h]
 have : ∀ (a : List Sp) (s : Sp), a1k (a ++ [s]) i = a1k a i + (if i > s.1 then (if s.2 < i then s.2 else i) - s.1 else 0) := by
  intro a s
  induction a with
  | nil => obtain ⟨x, y⟩ := s; simp only [nil_append, a1k]; omega
  | cons x a ih => obtain ⟨u, v⟩ := x; simp only [List.cons_append, a1k, ih]; omega
 exact this _ _
theorem b8k {a b L : List Sp} (ha : WF (-1) a) (hb : WF (-1) b) (hp : L.Perm (a ++ b)) (hs : L.Pairwise fun s u => s.1 <= u.1) : b7P a b (U8 L) := by
 have h1 : ∀ s ∈ L, -1 < s.1 /\ s.2 <= 65536 := fun s hm => by
  rcases List.mem_append.1 (hp.mem_iff.1 hm) with h | h
  ·have := H6 ha s h; omega
  ·have := H6 hb s h; omega
 obtain ⟨h2, h3⟩ := b6d h1 hs
 exact ⟨h2, fun i => by rw [h3, b2J hp, N6]⟩
theorem b6e {L : List Sp} {k : Nat} (h : k < L.length) : U8 (L.take (k + 1)) = c8 (U8 (L.take k)) (L.getD k eP.d).1 (L.getD k eP.d).2 := b07 (by rw [a8 h]; exact getElem?_eq_getElem h)
theorem b6c (L : List Sp) (k : Nat) : (U8 (L.take k)).length <= k := Nat.le_trans (b3E _) (by simp; omega)
end Go.Abs
namespace Go.Abs
theorem b6P {m : List Sp} {i : Int} (h : WF (-1) m) {k : Nat} (hk : k <= m.length) : 0 <= a1k (m.take k) i /\ a1k (m.take k) i <= 65536 * (k : Int) := by
 induction k with
 | zero => simp [a1k]
 | succ k ih =>
  obtain ⟨h1, h2⟩ := ih (by omega)
  have hs := H6 h (m.getD k eP.d) (by rw [a8 (by omega)]; exact getElem_mem _)
  rw [a4G (by omega)]
  omega
theorem a0v {a b M : List Sp} {i k : Nat} (hi : i < a.length) (hk : k < b.length) : Q0 (a.length + b.length - (i + k)) (a.drop i) (b.drop k) M =
  if (a.getD i eP.d).2 < (b.getD k eP.d).2 then Q0 (a.length + b.length - (i + 1 + k)) (a.drop (i + 1)) (b.drop k) (m7 M (a.getD i eP.d) (b.getD k eP.d)) else Q0 (a.length + b.length - (i + (k + 1))) (a.drop i) (b.drop (k + 1)) (m7 M (a.getD i eP.d) (b.getD k eP.d)) := by
 have e : a.length + b.length - (i + k) = (a.length + b.length - (i + 1 + k)) + 1 := by omega
 have e2 : a.length + b.length - (i + (k + 1)) = a.length + b.length - (i + 1 + k) := by omega
 rw [e, e2, a8 hi, a8 hk]
 have ha := drop_eq_getElem_cons hi
 have hb := drop_eq_getElem_cons hk
 conv => lhs; rw [ha, hb]
 simp only [Q0]
 rw [<- ha, <- hb]
theorem b01 {a b M : List Sp} {n i k : Nat} (h : ¬ (i < a.length /\ k < b.length)) : Q0 n (a.drop i) (b.drop k) M = M := by
 by_cases hi : i < a.length
 ·rw [drop_eq_nil_of_le (as := b) (by omega), Z2]
 ·rw [drop_eq_nil_of_le (as := a) (by omega), a1g]
theorem a4d {M : List Sp} {x y : Sp} : m7 M x y = if (if x.1 < y.1 then y.1 else x.1) < (if y.2 < x.2 then y.2 else x.2) then c8 M (if x.1 < y.1 then y.1 else x.1) (if y.2 < x.2 then y.2 else x.2) else M := rfl
theorem a2o {n fr : Int} {m acc : List Sp} {k : Nat} (hk : k < m.length) : a3C n (m.drop k) fr acc = if (m.getD k eP.d).1 ≥ n then (acc, fr) else a3C n (m.drop (k + 1)) (m.getD k eP.d).2 (if fr < (m.getD k eP.d).1 then c8 acc fr (m.getD k eP.d).1 else acc) := by
 rw [drop_eq_getElem_cons hk, a8 hk]; rfl
def e9 {α : Type} (l : List α) (p : α -> Bool) : Int := match l.findIdx? p with
 | some i => i
 | none => -1
theorem p9 {α : Type} {l : List α} {p : α -> Bool} {d : α} {i : Nat} (hi : i < l.length) (h : p (l.getD i d) = true) (hn : ∀ j, j < i -> p (l.getD j d) = false) : e9 l p = i := by
 have : l.findIdx? p = some i := by
  rw [findIdx?_eq_some_iff_getElem]
  refine ⟨hi, by rw [a8 hi] at h; exact h, fun j hj => ?_⟩
  have := hn j hj
  rw [a8 (by omega)] at this
  simp [this]
 simp [e9, this]
theorem s8 {α : Type} {l : List α} {p : α -> Bool} {d : α} (hn : ∀ j, j < l.length -> p (l.getD j d) = false) : e9 l p = -1 := by
 have : l.findIdx? p = none := by
  rw [findIdx?_eq_none_iff]
  intro x hx
  obtain ⟨k, hk, rfl⟩ := getElem_of_mem hx
  have := hn k hk
  rwa [a8 hk] at this
 simp [e9, this]
theorem R9 {α : Type} {l : List α} {p : α -> Bool} : decide (e9 l p ≥ 0) = l.any p := by
 unfold e9
 cases h : l.findIdx? p with
 | some i =>
  obtain ⟨hi, hp, _⟩ := List.findIdx?_eq_some_iff_getElem.1 h
  rw [List.any_eq_true.2 ⟨_, getElem_mem hi, hp⟩]
  exact decide_eq_true (Int.natCast_nonneg i)
 | none =>
  have := List.findIdx?_eq_none_iff.1 h
  rw [List.any_eq_false.2 fun x hx => by simp [this x hx]]
  rfl
end Go.Abs
namespace Go.Abs
theorem a5X {a : List Sp} {n : Int} (ha : WF (-1) a) : b6g a (if (65536 : Int) < n then 65536 else n) (Q3 a n) := by
 obtain ⟨h1, h2⟩ := b64 (n0 := n) ha
 refine ⟨h1, fun i => ?_⟩
 rw [h2]
 unfold b7h
 by_cases h3 : (65536 : Int) < n
 ·simp only [if_pos h3]
  cases decide (0 <= i) <;> cases decide (i < 65536) <;> rfl
 ·simp only [if_neg h3]
  by_cases h4 : i < n
  ·rw [decide_eq_true h4, decide_eq_true (by omega : i < 65536), Bool.and_true, Bool.and_true]
  ·rw [decide_eq_false h4]; cases decide (0 <= i) <;> simp
theorem b6T {a b n r : List Sp} (ha : WF (-1) a) (hn : b6g b (if (65536 : Int) < 65536 then 65536 else 65536) n) (hr : b7Q a n r) : b3H a b r := by
 refine ⟨hr.1, fun i => ?_⟩
 rw [hr.2, hn.2]
 cases h : has a i with
 | false => rfl
 | true =>
  have := a9O ha h
  unfold b7h at this ⊢
  simp only [Bool.and_eq_true, decide_eq_true_eq] at this
  simp [this.1, this.2]
end Go.Abs
