/-
  ABS D6: calls of what has no body, where what it tells is known at every world.
-/
import Derived.Test.YthkoolfmealabaaGreatN16
import Derived.Laws.Externs
namespace Go.Abs
section
variable {P : Program} {n₀ : Nat} {ro : Option Nat} {B : Ft × World} {Q : Exit → Act → World → Prop} {p : Pt} {s : St}
theorem ext_op {σ : Operand → Value} {o : Oper} {c : Call} {g : Operand} {f : FuncId} {first cap : Array Value} {v : Value} {A : World} (ho : o.op = .call c) (hc : c.callee = .value g) (hg : σ g = .func (.func f) first cap) (hp : o.op.operands.toList.all (fun x => plain (σ x)) = true) (hv : plain v = true)
    (H : ∀ w, (callFunc f (first ++ c.args.map σ ++ cap)).run P w = .ok (.value v) w) : AOp P σ o A (.value v) A := by
  refine .inl ⟨v, rfl, rfl, hv, fun x hx => (List.all_eq_true.1 hp) x (by simpa using hx), by rw [ho]; rfl, fun w => ?_⟩
  unfold execOp
  rw [ho]
  simp only [resolve, hc, hg, Deferred.ofValue, invoke, Sem.run_bind, Sem.run_pure, Result.andThen, H]
def plA (p : Pt) (s : St) : Bool := match opA p with
  | some o => o.op.operands.toList.all fun x => match evX s.env x with
    | some v => plain v.den
    | none => false
  | none => false
/-- A call of what has no body. -/
theorem exn (G : Good P) {f : FuncId} {args : List SV} {v : SV} (H : ∀ w, (callFunc f (args.map SV.den).toArray).run P w = .ok (.value v.den) w) (hv : plain v.den = true)
    (next : GP P n₀ ro B Q (nxP p (ixP p + 1) (lgP p s)) (acS p s v [] [] s.nx)) (chk : (caA p s, plA p s, dsOk p s) = (some (f, args.map SV.den), true, true) := by kernel_rfl)
    (ed : (enP P p (ixP p + 1) (lgP p s) (acS p s v [] [] s.nx)).1 = (enP P p (ixP p + 1) (lgP p s) (acS p s v [] [] s.nx)).2 := by kernel_rfl) : GP P n₀ ro B Q p s := by
  simp only [Prod.mk.injEq] at chk
  obtain ⟨c1, c2, c4⟩ := chk
  unfold caA at c1
  split at c1
  case h_2 => cases c1
  rename_i id ops d K i lg
  split at c1
  case h_2 => cases c1
  rename_i o ho
  split at c1
  case h_2 => cases c1
  rename_i c hop hw
  split at c1
  case h_2 => cases c1
  rename_i g hc
  split at c1
  case h_2 => cases c1
  rename_i f' first cap l hg hl
  simp only [Option.some.injEq, Prod.mk.injEq] at c1
  obtain ⟨rfl, hx⟩ := c1
  refine act G (R := Unit) (φ := fun _ => True) (res := fun _ => v) (pre := []) (post := fun _ => []) ho hw (by rw [hop]; unfold kindOf; simp only [hc]) [] s.nx (List.isPerm_iff.2 (by rw [List.nil_append, restI, show (List.range s.hp.length).filter (fun i => !([] : List Nat).contains i) = List.range s.hp.length from List.filter_eq_self.2 (fun _ _ => rfl)])) rfl (fun a ha F A hF => ?_) c4 (fun _ _ => next) (fun _ => ed)
  refine ⟨(), A, F, ⟨trivial, .value v.den, A, ?_, rfl, rfl⟩, hF, .refl⟩
  have hargs := argL_ok ha hl
  refine ext_op hop hc (evX_ok ha hg) ?_ hv fun w => ?_
  · unfold plA opA at c2
    simp only [ho] at c2
    rw [List.all_eq_true] at c2 ⊢
    intro x hx
    have := c2 x hx
    split at this
    · rename_i v hv
      rw [evX_ok ha hv]; exact this
    · cases this
  · have e : first ++ c.args.map a.eval ++ cap = (args.map SV.den).toArray := by
      apply Array.ext'
      rw [← hx]
      simp [hargs]
    rw [e]; exact H w
end
end Go.Abs
/-
  ABS D7: a call of a function's value, behind a condition, that turns nothing.
-/
namespace Go.Abs
section
variable {P : Program} {n₀ : Nat} {ro : Option Nat} {B : Ft × World} {Q : Exit → Act → World → Prop} {p : Pt} {s : St}
def cvM (p : Pt) (s : St) : Option (Bool × Value × List Value × List Ob × Option (Nat × Bool)) := match p with
  | .rg _ ops _ _ i _ => match ops[i]? with
    | some o => match o.op, wantS ops s.env o with
      | .call c, some (.may e) => match c.callee with
        | .value g => match stripX s.env (opTmps o.op) g, argM (stripX s.env (opTmps o.op)) c.args.toList with
          | some y, some l => some (e, y.den, l.map SV.den, stripP (keyS ops o) e s.env (opTmps o.op), keyS ops o)
          | _, _ => none
        | _ => none
      | _, _ => none
    | none => none
  | _ => none
def cvO (x : Option (Bool × Value × List Value × List Ob × Option (Nat × Bool))) : List Ob := match x with
  | some (_, _, _, l, _) => l
  | none => [.p False]
def cvR (p : Pt) (s : St) (res : SV) : Option SV := match cvM p s with
  | some (e, _, _, _, k) => condV k e res
  | none => none
theorem clmv (G : Good P) {y : Value} {args : List SV} {pre : List Ch} {res : SV} {T : Prop} {e : Bool} (C : e = true → CtrV P n₀ y args pre Unit (fun _ => True) (fun _ => res) (fun _ => pre)) (idx : List Nat) (pf : T)
    (next : GP P n₀ ro B Q (nxP p (ixP p + 1) (lgP p s)) (acS p s ((cvR p s res).getD res) idx pre s.nx))
    (chk : ((cvM p s).map (fun x => (x.1, x.2.1, x.2.2.1)), okB idx s.hp.length, dsOk p s, (cvR p s res).isSome, (selC idx s.hp).map Ch.den, (obQ (cvO (cvM p s))).map Prod.fst) = (some (e, y, args.map SV.den), true, true, true, pre.map Ch.den, (obQ (cvO (cvM p s))).map Prod.snd) := by kernel_rfl) (hT : T = obP (cvO (cvM p s)) := by kernel_rfl)
    (ed : (enP P p (ixP p + 1) (lgP p s) (acS p s ((cvR p s res).getD res) idx pre s.nx)).1 = (enP P p (ixP p + 1) (lgP p s) (acS p s ((cvR p s res).getD res) idx pre s.nx)).2 := by kernel_rfl) : GP P n₀ ro B Q p s := by
  simp only [Prod.mk.injEq] at chk
  obtain ⟨c1, c3, c4, c6, c5, c7⟩ := chk
  have hps := ob_all (hT.mp pf) c7
  obtain ⟨res', hres⟩ := Option.isSome_iff_exists.1 c6
  rw [hres] at next ed
  simp only [Option.getD_some] at next ed
  unfold cvR at hres
  rw [Option.map_eq_some_iff] at c1
  obtain ⟨⟨e1, y1, as1, ps1, ky⟩, hca, c1⟩ := c1
  rw [hca] at hps hres
  simp only [Prod.mk.injEq] at c1
  obtain ⟨rfl, hyy, c1⟩ := c1
  simp only [cvO] at hps hres
  unfold cvM at hca
  split at hca
  case h_2 => cases hca
  rename_i id ops d K i lg
  split at hca
  case h_2 => cases hca
  rename_i o ho
  split at hca
  case h_2 => cases hca
  rename_i c e2 hop hw
  split at hca
  case h_2 => cases hca
  rename_i g hc
  split at hca
  case h_2 => cases hca
  rename_i yv l hg hl
  simp only [Option.some.injEq, Prod.mk.injEq] at hca
  obtain ⟨rfl, rfl, rfl, rfl, rfl⟩ := hca
  refine (fun T h1 h2 h3 => ?_ : WR P n₀ ops ro id d B (kQ P n₀ ro Q K) i lg s)
  have hdd : dsD (.rg id ops d K i lg) = o.dst := by simp only [dsD, ho]
  have hput : putE (gst s idx pre s.nx) o.dst res' = some (acS (.rg id ops d K i lg) s res' idx pre s.nx) := by
    unfold acS
    rw [hdd]
    refine put_d ?_
    unfold dsOk at c4
    rw [hdd] at c4
    exact c4
  have hd := condV_den hres
  have hwant : Region.wanted o (yielded ops (T.as i).tmps) = e2 := wantS_ok h3 hw
  have key : ∃ (u : Value) (A1 : World), OpOk P n₀ ops (T.as i) (T.ws i) u ((T.as i).put o.dst u) A1 s none o ∧ Sat B (acS (.rg id ops d K i lg) s res' idx pre s.nx) ((T.as i).put o.dst u) A1 := by
    cases he : e2 with
    | true =>
      rw [he] at hwant hd hps
      obtain ⟨r, A', ⟨_, hrun⟩, hS⟩ := sat_frame (X := fun (_ : Unit) A' => True ∧ RunOp P (Wd P n₀) o (T.as i) (T.ws i) res.den A') (post := fun _ => pre) (nx := s.nx) c3 c5 (fun F hF => by
        obtain ⟨r, A', F', k1, ⟨f, fn, code, first, cap, H, hy2, k2⟩, k3, k4⟩ := C he F _ hF
        refine ⟨r, A', F', ⟨trivial, ?_⟩, k3, k4⟩
        have hρ := stripX_ok (ts := opTmps o.op) h3.1 hps rfl
        refine runOp_enter H ((hρ _ _ hg).trans (hyy.trans hy2)) (mapM_eval hρ hl) ?_ k2 hop hc
        rw [← c1]) h3
      refine ⟨res.den, A', ⟨rfl, ?_⟩, ?_⟩
      · rw [if_pos hwant]
        refine ⟨hrun, ?_⟩
        rw [hop]; unfold kindOf; simp only [hc]
      · exact (putE_ok (s := gst s idx pre s.nx) (hp := (gst s idx pre s.nx).hp) (nx := s.nx) hS hS.2.2.2 hput (by rw [hd]; rfl)).1
    | false =>
      rw [he] at hwant hd
      have hS : Sat B (gst s idx pre s.nx) (T.as i) (T.ws i) := by
        obtain ⟨g1, g2, g3, F, hF, hM⟩ := h3
        have := hp_sel c3 hF
        rw [hpA, c5] at this
        exact ⟨g1, g2, g3, F, hp_app.2 this, hM⟩
      refine ⟨undef, T.ws i, ⟨rfl, ?_⟩, ?_⟩
      · rw [if_neg (by rw [hwant]; decide)]; exact ⟨rfl, rfl⟩
      · exact (putE_ok (s := gst s idx pre s.nx) (hp := (gst s idx pre s.nx).hp) (nx := s.nx) hS hS.2.2.2 hput (by rw [hd]; rfl)).1
  obtain ⟨u, A1, h4, h5⟩ := key
  obtain ⟨T1, e1, e2', g1, g2, g3, _⟩ := seq_more ho h1 h2 h3 h4 h5
  rw [← e1, ← e2']
  exact fin_ok G ed next T1 g1 g2 g3
end
end Go.Abs
