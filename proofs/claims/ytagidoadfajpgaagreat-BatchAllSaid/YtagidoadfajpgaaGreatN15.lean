/-
  D6.
-/
import Derived.Test.YtagidoadfajpgaaGreatN14
import Derived.Laws.Externs
import Derived.Test.YtagidoadfajpgaaGreatN13
namespace Go.Abs
section
variable {P : Program} {nO : Nat} {ro : Option Nat} {B : Ft × World} {Q : Exit -> Act -> World -> Prop} {p : Pt} {s : St}
theorem b7p {σ : Operand -> Value} {o : Oper} {c : Call} {g : Operand} {f : FuncId} {first cap : Array Value} {v : Value} {A : World} (ho : o.op = .call c) (hc : c.callee = .value g) (hg : σ g = .func (.func f) first cap) (hp : o.op.operands.toList.all (fun x => r7 (σ x)) = true) (hv : r7 v = true)
  (H : ∀ w, (callFunc f (first ++ c.args.map σ ++ cap)).run P w = .ok (.value v) w) : AOp P σ o A (.value v) A := by
 refine .inl ⟨v, rfl, rfl, hv, fun x hx => (List.all_eq_true.1 hp) x (by simpa using hx), by rw [ho]; rfl, fun w => ?_⟩
 unfold execOp
 rw [ho]
 simp only [resolve, hc, hg, Deferred.ofValue, invoke, Sem.run_bind, Sem.run_pure, Result.andThen, H]
def plA (p : Pt) (s : St) : Bool := match opA p with
 | some o => o.op.operands.toList.all fun x => match evX s.env x with
  | some v => r7 v.den
  | none => false
 | none => false
theorem exn [G : Good P] {f : FuncId} {args : List SV} {v : SV} (H : ∀ w, (callFunc f (args.map SV.den).toArray).run P w = .ok (.value v.den) w) (hv : r7 v.den = true)
  (next : GP P nO ro B Q (nxP p (ixP p + 1) (lgP p s)) (acS p s v [] [] s.nx)) (chk : (caA p s, plA p s, a05 p s) = (some (f, args.map SV.den), true, true) := by kernel_rfl)
  (ed : (enP P p (ixP p + 1) (lgP p s) (acS p s v [] [] s.nx)).1 = (enP P p (ixP p + 1) (lgP p s) (acS p s v [] [] s.nx)).2 := by kernel_rfl) : GP P nO ro B Q p s := by
 simp only [Prod.mk.injEq] at chk
 obtain ⟨c1, c2, c4⟩ := chk
 unfold caA at c1
 split at c1
 case h_2 => cases c1
 rename_i id ops d K i lg
 split at c1
 case h_2 => cases c1
 rename_i o ho
 split at c1
 case h_2 => cases c1
 rename_i c hop hw
 split at c1
 case h_2 => cases c1
 rename_i g hc
 split at c1
 case h_2 => cases c1
 rename_i f' first cap l hg hl
 simp only [Option.some.injEq, Prod.mk.injEq] at c1
 obtain ⟨rfl, hx⟩ := c1
 refine act G (R := Unit) (φ := fun _ => True) (res := fun _ => v) (pre := []) (post := fun _ => []) ho hw (by rw [hop]; unfold g6; simp only [hc]) [] s.nx (List.isPerm_iff.2 (by rw [List.nil_append, V9, show (List.range s.hp.length).filter (fun i => !([] : List Nat).contains i) = List.range s.hp.length from List.filter_eq_self.2 (fun _ _ => rfl)])) rfl (fun a ha F A hF => ?_) c4 (fun _ _ => next) (fun _ => ed)
 refine ⟨(), A, F, ⟨trivial, .value v.den, A, ?_, rfl, rfl⟩, hF, .refl⟩
 have hargs := G4 ha hl
 refine b7p hop hc (p7 ha hg) ?_ hv fun w => ?_
 ·unfold plA opA at c2
  simp only [ho] at c2
  rw [List.all_eq_true] at c2 ⊢
  intro x hx
  have := c2 x hx
  split at this
  ·rename_i v hv
   rw [p7 ha hv]; exact this
  ·cases this
 ·have e : first ++ c.args.map a.eval ++ cap = (args.map SV.den).toArray := by
   apply Array.ext'
   rw [<- hx]
   simp [hargs]
  rw [e]; exact H w
end
end Go.Abs
namespace Go.Abs
section
variable {P : Program} {nO : Nat} {ro : Option Nat} {B : Ft × World} {Q : Exit -> Act -> World -> Prop} {p : Pt} {s : St}
def cvM (p : Pt) (s : St) : Option (Bool × Value × List Value × List Ob × Option (Nat × Bool)) := match p with
 | .rg _ ops _ _ i _ => match ops[i]? with
  | some o => match o.op, K2 ops s.env o with
   | .call c, some (.may e) => match c.callee with
    | .value g => match Z6 s.env (L3 o.op) g, b7J (Z6 s.env (L3 o.op)) c.args.toList with
     | some y, some l => some (e, y.den, l.map SV.den, O7 (b6j ops o) e s.env (L3 o.op), b6j ops o)
     | _, _ => none
    | _ => none
   | _, _ => none
  | none => none
 | _ => none
def cvO (x : Option (Bool × Value × List Value × List Ob × Option (Nat × Bool))) : List Ob := match x with
 | some (_, _, _, l, _) => l
 | none => [.p False]
def cvR (p : Pt) (s : St) (res : SV) : Option SV := match cvM p s with
 | some (e, _, _, _, k) => a49 k e res
 | none => none
theorem b88 [G : Good P] {y : Value} {args : List SV} {pre : List Ch} {res : SV} {T : Prop} {e : Bool} (C : e = true -> a2X P nO y args pre Unit (fun _ => True) (fun _ => res) (fun _ => pre)) (idx : List Nat) (pf : T)
  (next : GP P nO ro B Q (nxP p (ixP p + 1) (lgP p s)) (acS p s ((cvR p s res).getD res) idx pre s.nx))
  (chk : ((cvM p s).map (fun x => (x.1, x.2.1, x.2.2.1)), okB idx s.hp.length, a05 p s, (cvR p s res).isSome, (z6 idx s.hp).map Ch.den, (obQ (cvO (cvM p s))).map Prod.fst) = (some (e, y, args.map SV.den), true, true, true, pre.map Ch.den, (obQ (cvO (cvM p s))).map Prod.snd) := by kernel_rfl) (hT : T = obP (cvO (cvM p s)) := by kernel_rfl)
  (ed : (enP P p (ixP p + 1) (lgP p s) (acS p s ((cvR p s res).getD res) idx pre s.nx)).1 = (enP P p (ixP p + 1) (lgP p s) (acS p s ((cvR p s res).getD res) idx pre s.nx)).2 := by kernel_rfl) : GP P nO ro B Q p s := by
 simp only [Prod.mk.injEq] at chk
 obtain ⟨c1, c3, c4, c6, c5, c7⟩ := chk
 have hps := O9 (hT.mp pf) c7
 obtain ⟨res', hres⟩ := Option.isSome_iff_exists.1 c6
 rw [hres] at next ed
 simp only [Option.getD_some] at next ed
 unfold cvR at hres
 rw [Option.map_eq_some_iff] at c1
 obtain ⟨⟨e1, y1, as1, ps1, ky⟩, hca, c1⟩ := c1
 rw [hca] at hps hres
 simp only [Prod.mk.injEq] at c1
 obtain ⟨rfl, hyy, c1⟩ := c1
 simp only [cvO] at hps hres
 unfold cvM at hca
 split at hca
 case h_2 => cases hca
 rename_i id ops d K i lg
 split at hca
 case h_2 => cases hca
 rename_i o ho
 split at hca
 case h_2 => cases hca
 rename_i c e2 hop hw
 split at hca
 case h_2 => cases hca
 rename_i g hc
 split at hca
 case h_2 => cases hca
 rename_i yv l hg hl
 simp only [Option.some.injEq, Prod.mk.injEq] at hca
 obtain ⟨rfl, rfl, rfl, rfl, rfl⟩ := hca
 refine (fun T h1 h2 h3 => ?_ : WR P nO ops ro id d B (kQ P nO ro Q K) i lg s)
 have hdd : dsD (.rg id ops d K i lg) = o.dst := by simp only [dsD, ho]
 have hput : a7z (gst s idx pre s.nx) o.dst res' = some (acS (.rg id ops d K i lg) s res' idx pre s.nx) := by
  unfold acS
  rw [hdd]
  refine a8W ?_
  unfold a05 at c4
  rw [hdd] at c4
  exact c4
 have hd := a08 hres
 have hwant : Region.wanted o (yielded ops (T.as i).tmps) = e2 := I5 h3 hw
 have key : ∃ (u : Value) (A1 : World), b7O P nO ops (T.as i) (T.ws i) u ((T.as i).put o.dst u) A1 s none o /\ Sat B (acS (.rg id ops d K i lg) s res' idx pre s.nx) ((T.as i).put o.dst u) A1 := by
  cases he : e2 with
  | true =>
   rw [he] at hwant hd hps
   obtain ⟨r, A', ⟨_, hrun⟩, hS⟩ := a0H (X := fun (_ : Unit) A' => True /\ Z5 P (Wd P nO) o (T.as i) (T.ws i) res.den A') (post := fun _ => pre) (nx := s.nx) c3 c5 (fun F hF => by
    obtain ⟨r, A', F', k1, ⟨f, fn, code, first, cap, H, hy2, k2⟩, k3, k4⟩ := C he F _ hF
    refine ⟨r, A', F', ⟨trivial, ?_⟩, k3, k4⟩
    have hρ := a0E (ts := L3 o.op) h3.1 hps rfl
    refine x7 H ((hρ _ _ hg).trans (hyy.trans hy2)) (a0L hρ hl) ?_ k2 hop hc
    rw [<- c1]) h3
   refine ⟨res.den, A', ⟨rfl, ?_⟩, ?_⟩
   ·rw [if_pos hwant]
    refine ⟨hrun, ?_⟩
    rw [hop]; unfold g6; simp only [hc]
   ·exact (H2 (s := gst s idx pre s.nx) (hp := (gst s idx pre s.nx).hp) (nx := s.nx) hS hS.2.2.2 hput (by rw [hd]; rfl)).1
  | false =>
   rw [he] at hwant hd
   have hS : Sat B (gst s idx pre s.nx) (T.as i) (T.ws i) := by
    obtain ⟨g1, g2, g3, F, hF, hM⟩ := h3
    have := y8 c3 hF
    rw [hpA, c5] at this
    exact ⟨g1, g2, g3, F, a0b.2 this, hM⟩
   refine ⟨undef, T.ws i, ⟨rfl, ?_⟩, ?_⟩
   ·rw [if_neg (by rw [hwant]; decide)]; exact ⟨rfl, rfl⟩
   ·exact (H2 (s := gst s idx pre s.nx) (hp := (gst s idx pre s.nx).hp) (nx := s.nx) hS hS.2.2.2 hput (by rw [hd]; rfl)).1
 obtain ⟨u, A1, h4, h5⟩ := key
 obtain ⟨T1, e1, e2', g1, g2, g3, _⟩ := a0k ho h1 h2 h3 h4 h5
 rw [<- e1, <- e2']
 exact a01 G ed next T1 g1 g2 g3
end
end Go.Abs
namespace Go.Abs
def e6 {α : Type} (I : α -> As) (l : List α) : As := As.all (l.map I)
theorem a2k {α : Type} {l : List α} {i : Nat} (d x : α) (h : i < l.length) : (l.set i x).Perm (x :: l.eraseIdx i) := by
 induction l generalizing i with
 | nil => simp at h
 | cons a l ih =>
  cases i with
  | zero => exact List.Perm.refl _
  | succ i =>
   simp only [List.set_cons_succ, List.eraseIdx_cons_succ]
   exact ((ih (by simpa using h)).cons a).trans (List.Perm.swap _ _ _)
theorem G8 {α : Type} {l : List α} {i : Nat} (d : α) (h : i < l.length) : l.set i (l.getD i d) = l := by
 rw [a8 h, List.set_getElem_self]
theorem f8 {α : Type} {I : α -> As} {l : List α} (i : Nat) (d : α) (h : i < l.length) : GE [.as (e6 I l)] Unit (fun _ => True) (fun _ => [.as (I (l.getD i d)), .as (e6 I (l.eraseIdx i))]) := fun F A hF => by
 have hF := As.unE hF
 have hF : (As.all (l.map I)).p F A := hF
 have p := (a2k d (l.getD i d) h).map I
 rw [G8 d h] at p
 have h2 := As.perm p hF
 exact ⟨(), F, trivial, As.map' h2 fun _ h => As.addE h, .refl⟩
theorem U5 {α : Type} {I : α -> As} {l : List α} (i : Nat) (d x : α) (h : i < l.length) : GE [.as (I x), .as (e6 I (l.eraseIdx i))] Unit (fun _ => True) (fun _ => [.as (e6 I (l.set i x))]) := fun F A hF => by
 have h2 : (As.all ((x :: l.eraseIdx i).map I)).p F A := As.map' hF fun _ h => As.unE h
 have h3 := As.perm ((a2k d x h).map I).symm h2
 exact ⟨(), F, trivial, As.addE h3, .refl⟩
theorem p5 {α : Type} {I : α -> As} : GE [] Unit (fun _ => True) (fun _ => [.as (e6 I [])]) := fun F A hF => ⟨(), F, trivial, As.addE hF, .refl⟩
theorem i6 {α : Type} {I : α -> As} {l : List α} {x : α} : GE [.as (I x), .as (e6 I l)] Unit (fun _ => True) (fun _ => [.as (e6 I (l ++ [x]))]) := fun F A hF => by
 have h2 : (As.all ((x :: l).map I)).p F A := As.map' hF fun _ h => As.unE h
 have h3 := As.perm (((List.perm_append_comm (l₁ := [x]) (l₂ := l))).map I) h2
 exact ⟨(), F, trivial, As.addE h3, .refl⟩
theorem lp2 {P : Program} {nO : Nat} {ro : Option Nat} {B : Ft × World} {Q : Exit -> Act -> World -> Prop} {p : Pt} {s : St} [G : Good P] (X Y : Type) (live : List Nat) (env : X × Y -> List (Nat × SV)) (keep : List Nat) (hp : X × Y -> List Ch) (nx : Nat) (φ : X × Y -> Prop) (m : X × Y -> Nat) (x0 : X × Y) (h0 : φ x0) (idx : List Nat)
  (body : ∀ a b, φ (a, b) -> (∀ (p' : Pt) (s' : St) (x' : X × Y), m x' < m (a, b) -> φ x' -> ∀ idx', m9 s' (j6 s live env keep hp nx x') idx' = m8 (j6 s live env keep hp nx x') -> agN p' = some (loN B (j6 s live env keep hp nx) φ m (a, b)) -> GP P nO ro B Q p' s') -> GP P nO ro B Q (loP p (loN B (j6 s live env keep hp nx) φ m (a, b))) (j6 s live env keep hp nx (a, b)))
  (he : m9 s (j6 s live env keep hp nx x0) (idx ++ keep) = m8 (j6 s live env keep hp nx x0) := by kernel_rfl) : GP P nO ro B Q p s :=
 lp (X × Y) live env keep hp nx φ m x0 h0 idx (fun y => body y.1 y.2) he
end Go.Abs
namespace Go.Abs
section
variable {P : Program} {nO : Nat}
theorem a4R {l l' : List Ch} (h : l.map Ch.den = l'.map Ch.den) : hpA l = hpA l' := by unfold hpA; rw [h]
theorem a4S {l l' : List Ch} {F : Ft} {A : World} (h : ((hpA l).star (hpA l')).p F A) : (hpA (l ++ l')).p F A := by
 unfold hpA; rw [List.map_append]; exact As.cat h
theorem a0R {l l' : List Ch} {F : Ft} {A : World} (h : (hpA (l ++ l')).p F A) : ((hpA l).star (hpA l')).p F A := by
 unfold hpA at h; rw [List.map_append] at h; exact As.split h
theorem g7 {f : FuncId} {args : List SV} {Y Y' R R' : Type} {ψ : Y -> Prop} {L : Y -> List Ch} {E : List Ch} {pre : Y -> List Ch} {φ : Y -> R -> Prop} {res : Y -> R -> SV} {post : Y -> R -> List Ch}
  {φ' : R' -> Prop} {res' : R' -> SV} {ψ' : R' -> Y' -> Prop} {L' : R' -> Y' -> List Ch} {E' : R' -> List Ch} (idx idx2 : List Nat) (g : Y -> R -> R') (h : Y -> R -> Y')
  (C : ∀ y, ψ y -> Ctr P nO f args (pre y) R (φ y) (res y) (post y))
  (hp : ∀ y, okB idx (L y ++ E).length = true /\ (z6 idx (L y ++ E)).map Ch.den = (pre y).map Ch.den)
  (k : ∀ y r, ψ y -> φ y r -> φ' (g y r) /\ (res y r).den = (res' (g y r)).den /\ ψ' (g y r) (h y r))
  (k2 : ∀ y r, okB idx2 (post y r ++ z6 (V9 idx (L y ++ E).length) (L y ++ E)).length = true /\ (z6 idx2 (post y r ++ z6 (V9 idx (L y ++ E).length) (L y ++ E))).map Ch.den = (L' (g y r) (h y r) ++ E' (g y r)).map Ch.den) :
  Ctr P nO f args (.as (a7q ψ L) :: E) R' φ' res' (fun r => .as (a7q (ψ' r) (L' r)) :: E' r) := fun F A hF => by
 obtain ⟨F1, F2, ⟨y, hy, h1⟩, h2, j⟩ := hF
 have h3 : (hpA (L y ++ E)).p F A := a4S ⟨F1, F2, h1, h2, j⟩
 obtain ⟨i1, i2⟩ := hp y
 have h4 := y8 i1 h3
 rw [a4R i2] at h4
 obtain ⟨r, A', F', hr, hs, hq, hm⟩ := L9 _ (C y hy) F A (a4S h4)
 obtain ⟨k1, k3, k4⟩ := k y r hy hr
 obtain ⟨m1, m2⟩ := k2 y r
 obtain ⟨F3, h5, hm2⟩ := As.left (y8 m1 hq)
 rw [a4R m2] at h5
 obtain ⟨G1, G2, h6, h7, j2⟩ := a0R h5
 exact ⟨g y r, A', F3, k1, by rw [<- k3]; exact hs, ⟨G1, G2, ⟨h y r, k4, h6⟩, h7, j2⟩, hm.trans hm2⟩
theorem b7k {l l1 l2 : List Ch} (a : GE l Unit (fun _ => True) (fun _ => l1)) (b : GE l1 Unit (fun _ => True) (fun _ => l2)) : GE l Unit (fun _ => True) (fun _ => l2) := fun F A h => by
 obtain ⟨_, F1, _, h1, m1⟩ := a F A h
 obtain ⟨_, F2, _, h2, m2⟩ := b F1 A h1
 exact ⟨(), F2, trivial, h2, m1.trans m2⟩
theorem E5 {f : FuncId} {args : List SV} {pre : List Ch} {R : Type} {φ : R -> Prop} {res : R -> SV} {post post' : R -> List Ch} (C : Ctr P nO f args pre R φ res post) (k : ∀ r, φ r -> GE (post r) Unit (fun _ => True) (fun _ => post' r)) : Ctr P nO f args pre R φ res post' := fun F A hF => by
 obtain ⟨r, A', F', h3, h4, h5, h6⟩ := C F A hF
 obtain ⟨_, F2, _, h7, m⟩ := k r h3 F' A' h5
 exact ⟨r, A', F2, h3, h4, h7, h6.trans m⟩
theorem b3i {f : FuncId} {args : List SV} {Y' R R' : Type} {pre : List Ch} {φ : R -> Prop} {res : R -> SV} {post : R -> List Ch} {φ' : R' -> Prop} {res' : R' -> SV} {ψ' : R' -> Y' -> Prop} {L' : R' -> Y' -> List Ch} {E' : R' -> List Ch} (J : List Ch) (idx2 : List Nat) (g : R -> R') (h : R -> Y')
  (C : Ctr P nO f args pre R φ res post)
  (k : ∀ r, φ r -> φ' (g r) /\ (res r).den = (res' (g r)).den /\ ψ' (g r) (h r))
  (k2 : ∀ r, okB idx2 (post r ++ J).length = true /\ (z6 idx2 (post r ++ J)).map Ch.den = (L' (g r) (h r) ++ E' (g r)).map Ch.den) :
  Ctr P nO f args (pre ++ J) R' φ' res' (fun r => .as (a7q (ψ' r) (L' r)) :: E' r) := fun F A hF => by
 obtain ⟨r, A', F', hr, hs, hq, hm⟩ := L9 J C F A hF
 obtain ⟨k1, k3, k4⟩ := k r hr
 obtain ⟨m1, m2⟩ := k2 r
 obtain ⟨F3, h5, hm2⟩ := As.left (y8 m1 hq)
 rw [a4R m2] at h5
 obtain ⟨G1, G2, h6, h7, j2⟩ := a0R h5
 exact ⟨g r, A', F3, k1, by rw [<- k3]; exact hs, ⟨G1, G2, ⟨h r, k4, h6⟩, h7, j2⟩, hm.trans hm2⟩
end
end Go.Abs
namespace Go.Abs
section
variable {P : Program} {nO : Nat} {ro : Option Nat} {B : Ft × World} {Q : Exit -> Act -> World -> Prop} {p : Pt} {s : St}
theorem cly [G : Good P] {y : Value} {args : List SV} {pre : List Ch} {R : Type} {φ : R -> Prop} {res : R -> SV} {post : R -> List Ch} (C : b8Y P nO y args pre R φ res post) (idx : List Nat) (tg : List (Nat × Nat)) (nx : Nat)
  (next : ∀ r, φ r -> GP P nO ro B Q (nxP p (ixP p + 1) (lgP p s)) (acS p s (tgV tg (res r)) idx ((post r).map (tgC tg)) nx))
  (chk : (cvA p s, okB idx s.hp.length, wtA p s, a05 p s, (z6 idx s.hp).map Ch.den) = (some (y, args.map SV.den), true, true, true, pre.map Ch.den) := by kernel_rfl)
  (ed : ∀ r, (enP P p (ixP p + 1) (lgP p s) (acS p s (tgV tg (res r)) idx ((post r).map (tgC tg)) nx)).1 = (enP P p (ixP p + 1) (lgP p s) (acS p s (tgV tg (res r)) idx ((post r).map (tgC tg)) nx)).2 := by intro r; kernel_rfl) : GP P nO ro B Q p s := by
 simp only [Prod.mk.injEq] at chk
 obtain ⟨c1, c3, cw, c4, c5⟩ := chk
 unfold cvA at c1
 split at c1
 case h_2 => cases c1
 rename_i o hoo
 obtain ⟨id, ops, d, K, i, lg, rfl, ho⟩ := L4 hoo
 split at c1
 case h_2 => cases c1
 rename_i c hop
 split at c1
 case h_2 => cases c1
 rename_i g hc
 split at c1
 case h_2 => cases c1
 rename_i v l hg hl
 simp only [Option.some.injEq, Prod.mk.injEq] at c1
 obtain ⟨hy, rfl⟩ := c1
 have hw := K7 cw ho
 refine act G (res := fun r => tgV tg (res r)) (post := fun r => (post r).map (tgC tg)) ho hw (by rw [hop]; unfold g6; simp only [hc]) idx nx c3 c5 (fun a ha F A hF => ?_) c4 next ed
 obtain ⟨r, A', F', h1, hy2, h3, h4⟩ := C F A hF
 have hargs := G4 ha hl
 rcases hy2 with ⟨f, fn, code, first, cap, H, hy2, h2⟩ | ⟨l2, lp, hy2, hl2, hsz, hsnd⟩
 ·refine ⟨r, A', F', ⟨h1, ?_⟩, by rw [hpA, a0C]; exact h3, h4⟩
  rw [a17]
  exact x7 H ((p7 ha hg).trans (hy.trans hy2)) hargs rfl h2 hop hc
 ·have ea : c.args.map a.eval = (args.map SV.den).toArray := by rw [<- hargs, <- Array.toList_map]
  rw [<- ea] at hsz hsnd
  refine ⟨r, A', F', ⟨h1, ?_⟩, by rw [hpA, a0C]; exact h3, h4⟩
  rw [a17]
  refine ⟨_, _, .inr (.inr (.inr (.inr ⟨c, g, l2, #[], #[], lp, hop, hc, (p7 ha hg).trans (hy.trans hy2), hl2, by simpa using hsz, rfl, rfl⟩))), ?_⟩
  show O4 P nO l2 _ _ _ _ _ _
  simpa using hsnd
def b8T (p : Pt) : Bool := match p with
 | .fi .normal => true
 | _ => false
theorem rgE {s1 : St} (hp : b8T p = true := by kernel_rfl) (h : m9 s s1 (List.range s.hp.length) = m8 s1 := by kernel_rfl) : GP P nO ro B (fun ex a A => ex = .normal /\ Sat B s1 a A) p s := by
 cases p with
 | fi e => cases e with
  | normal => exact fun a A hs => ⟨rfl, b0c h B a A hs⟩
  | _ => cases hp
 | _ => cases hp
def rfG (p : Pt) (s : St) : Option (Value × List Tmp) := match p with
 | .rf g ps _ _ _ => match evX s.env g with
  | some v => some (v.den, ps.toList)
  | none => none
 | _ => none
def b8M (p : Pt) : Pt := match p with
 | .rf _ _ as _ _ => adv 300 (.c as) []
 | _ => .bad
def b80 (p : Pt) : Pt := match p with
 | .rf _ _ _ bd _ => adv 300 (.c bd) []
 | _ => .bad
def b8L (p : Pt) (e : Exit) : Pt := match p with
 | .rf _ _ _ _ K => adv 300 (.e e) K
 | _ => .bad
def b8K (p : Pt) (s : St) (nx : Nat) (hp : List Ch) (e : List SV) : St := match p with
 | .rf _ ps _ _ _ => { s with env := b7X ps.toList e s.env, hp := hp, df := [], nx := nx }
 | _ => s
def rfS (P : Program) (p : Pt) (s : St) (nx : Nat) (hp : List Ch) (e : List SV) : St := (ruP P (b8M p) (b8K p s nx hp e) (fun _ => 0)).s
def rfN (s : St) (nx : Nat) (hp : List Ch) (r : Nat) : St := { s with hp := .as (b5L r) :: hp, nx := nx, df := r :: s.df }
theorem rg [G : Good P] {α : Type} {y : Value} {J : List Ch} (L : List α) (f : α -> List SV) (d : α) (X Y : Type) (inv : Nat -> X -> List Ch) (φ : Nat -> X -> Prop) (ex : Y -> Exit) (ψ : Y -> Prop) (stop : Y -> List Ch) (x0 : X) (h0 : φ 0 x0) (idx : List Nat) (nx : Nat) (w : Nat)
  (H : b1b P nO y J (L.map f))
  (hex : ∀ y, ex y = .ret ∨ ∃ i, ex y = .exit i)
  (has : ∀ B l k x, GP P nO (some l) B (fun ex a A => ex = .normal /\ Sat B (rfS P p s nx (inv k x) (f (L.getD k d))) a A) (b8M p) (b8K p s nx (inv k x) (f (L.getD k d))))
  (hbd : ∀ B l k x, k < L.length -> φ k x -> GP P nO (some l) B (BQ inv φ ex ψ stop k B) (b80 p) (rfS P p s nx (inv k x) (f (L.getD k d))))
  (k1 : ∀ x r, φ (L.map f).length x -> GP P nO none B Q (b8L p .normal) (rfN s nx (inv (L.map f).length x ++ J) r))
  (k2 : ∀ y r, ψ y -> GP P nO none B Q (b8L p (ex y)) (rfN s nx (stop y ++ J) r))
  (hw : ∀ x, (f x).length = w := by intro _; rfl)
  (chk : ((rfG p s).map Prod.fst, (rfG p s).map (fun x => x.2.length), (rfG p s).map (fun x => x.2.all (fun t => Nat.blt t s.sz)), okB idx s.hp.length, (z6 idx s.hp).map Ch.den, (z6 (V9 idx s.hp.length) s.hp).map Ch.den) = (some y, some w, some true, true, J.map Ch.den, (inv 0 x0).map Ch.den) := by kernel_rfl) : GP P nO none B Q p s := by
 simp only [Prod.mk.injEq] at chk
 obtain ⟨c1, c2, c3, c4, c5, c6⟩ := chk
 cases p with
 | rf g ps as bd K =>
  cases hg : evX s.env g with
  | none => simp only [rfG, hg] at c1; cases c1
  | some v =>
   simp only [rfG, hg, Option.map_some, Option.some.injEq] at c1 c2 c3
   subst c1
   refine b4t G X Y inv φ ex ψ stop x0 h0 idx nx (fun k e x => rfS P (.rf g ps as bd K) s nx (inv k x) e) hg H c4 c5 c6 c3 (fun e he => ?_) hex (fun B l k e x he hx => ?_) (fun B l k e x he hx => ?_) (fun x r hx => ?_) (fun y r hy => ?_)
   ·obtain ⟨u, _, rfl⟩ := List.mem_map.1 he
    rw [hw, <- c2, Array.length_toList]
   ·obtain ⟨hk, rfl⟩ := b7x (d := d) he
    exact x6 G 300 (.c as) [] (has B l k x)
   ·obtain ⟨hk, rfl⟩ := b7x (d := d) he
    exact x6 G 300 (.c bd) [] (hbd B l k x hk hx)
   ·exact x6 G 300 (.e .normal) K (k1 x r hx)
   ·exact x6 G 300 (.e (ex y)) K (k2 y r hy)
 | _ => simp [rfG] at c1
theorem rgN {X Y : Type} {inv : Nat -> X -> List Ch} {φ : Nat -> X -> Prop} {ex : Y -> Exit} {ψ : Y -> Prop} {stop : Y -> List Ch} {k : Nat} (x' : X) (h : φ (k + 1) x') (idx : List Nat) (c : (b8T p, okB idx s.hp.length, (z6 idx s.hp).map Ch.den) = (true, true, (inv (k + 1) x').map Ch.den) := by kernel_rfl) : GP P nO ro B (BQ inv φ ex ψ stop k B) p s := by
 simp only [Prod.mk.injEq] at c
 obtain ⟨c1, c2, c3⟩ := c
 cases p with
 | fi e => cases e with
  | normal => exact b7d x' h idx c2 c3
  | _ => cases c1
 | _ => cases c1
def fiE (p : Pt) : Option Exit := match p with
 | .fi .normal => none
 | .fi e => some e
 | _ => none
theorem rgS {X Y : Type} {inv : Nat -> X -> List Ch} {φ : Nat -> X -> Prop} {ex : Y -> Exit} {ψ : Y -> Prop} {stop : Y -> List Ch} {k : Nat} (y : Y) (h : ψ y) (idx : List Nat) (c : (fiE p, okB idx s.hp.length, (z6 idx s.hp).map Ch.den) = (some (ex y), true, (stop y).map Ch.den) := by kernel_rfl) : GP P nO ro B (BQ inv φ ex ψ stop k B) p s := by
 simp only [Prod.mk.injEq] at c
 obtain ⟨c1, c2, c3⟩ := c
 cases p with
 | fi e => cases e with
  | normal => cases c1
  | _ => exact b7b y h (Option.some.inj c1) (by intro h; cases h) idx c2 c3
 | _ => cases c1
def b87 (p : Pt) : Bool := match p with
 | .fi _ => true
 | _ => false
theorem rtd {f : FuncId} {R : Type} {φ : R -> Prop} {res : R -> SV} {post : R -> List Ch} (q j : Nat) (k : ∀ B, GP P nO ro B (RF P B f φ res post) p { s with hp := z6 (V9 [j] s.hp.length) s.hp, df := [] })
  (c : (b87 p, s.df, okB [j] s.hp.length, (z6 [j] s.hp).map Ch.den) = (true, [q], true, [b5L q]) := by kernel_rfl) : GP P nO ro B (RF P B f φ res post) p s := by
 simp only [Prod.mk.injEq] at c
 obtain ⟨c1, c2, c3, c4⟩ := c
 cases p with
 | fi e => exact fun a A hs fn hfn => b7c q j c2 c3 c4 (fun B a A hs => k B a A hs fn hfn) a A hs
 | _ => cases c1
end
end Go.Abs
