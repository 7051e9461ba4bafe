/-
  ABS 10: an operation of the canonical run, calls too.
-/
import Derived.Test.YtipomlcnmaldkaaA9
namespace Go.Abs

/-- Operations that a value alone comes of, whatever the world. -/
def stillOp : Op → Bool
  | .select .. | .defer _ | .go _ => false
  | _ => true

def AOp (P : Program) (ρ : Operand → Value) (o : Oper) (A : World) (nx : Next) (A' : World) : Prop :=
  (∃ v, nx = .value v ∧ A' = A ∧ plain v = true ∧ (∀ x ∈ o.op.operands, plain (ρ x) = true) ∧ stillOp o.op = true ∧ ∀ w, (execOp ρ o).run P w = .ok (.value v) w) ∨
  (RegOk P A ρ o.op ∧ (execOp ρ o).run P A = .ok nx A') ∨
  (∃ c v, o.op = .call c ∧ c.callee = .builtin .append ∧ nx = .value v ∧ AApp P c.argTypes (c.args.map ρ) A v A') ∨
  (∃ c g f first cap fn code, o.op = .call c ∧ c.callee = .value g ∧ ρ g = .func (.func f) first cap ∧ P.funcs[f]? = some fn ∧ fn.body = some code ∧ (fn.name == "runtime.NumGoroutine") = false ∧
    nx = .enter f (first ++ c.args.map ρ ++ cap) ∧ A' = A) ∨
  (∃ c g l first cap r, o.op = .call c ∧ c.callee = .value g ∧ ρ g = .func (.yield l) first cap ∧ A.heap[l]? = some (.loop r) ∧ (first ++ c.args.map ρ).size = r.params.size ∧
    nx = .round l r.fn ((r.params.zip (first ++ c.args.map ρ)).foldl (fun tmps (t, a) => tmps.setIfInBounds t a) r.tmps) r.assign r.body ∧ A' = A)

section
variable {P : Program} {n₀ : Nat} {ι ι' : Ren} {A A' W W' : World}

theorem foldPut_rel (ps : Array Tmp) {xs xs' ts ts' : Array Value} (hx : Vs P ι xs xs') (ht : Vs P ι ts ts') :
    Vs P ι ((ps.zip xs).foldl (fun tmps (t, a) => tmps.setIfInBounds t a) ts) ((ps.zip xs').foldl (fun tmps (t, a) => tmps.setIfInBounds t a) ts') := by
  rw [← Array.foldl_toList, ← Array.foldl_toList, Array.toList_zip, Array.toList_zip]
  have key : ∀ (l : List Tmp) (v v' : List Value) (d d' : Array Value), Vl P ι v v' → Vs P ι d d' → Vs P ι ((l.zip v).foldl (fun tmps (t, a) => tmps.setIfInBounds t a) d) ((l.zip v').foldl (fun tmps (t, a) => tmps.setIfInBounds t a) d') := by
    intro l
    induction l with
    | nil => intro v v' d d' _ hd; exact hd
    | cons t l ih =>
      intro v v' d d' hv hd
      match v, v', hv with
      | [], [], _ => exact hd
      | a :: v, b :: v', hv => exact ih v v' _ _ hv.2 (hd.set t hv.1)
  exact key _ _ _ _ _ hx.toList ht

theorem run_call {ρ : Operand → Value} {o : Oper} {c : Call} {g : Operand} {f : FuncId} {first cap : Array Value} {fn : Func} {code : Code} (ho : o.op = .call c) (hc : c.callee = .value g) (hg : ρ g = .func (.func f) first cap)
    (hf : P.funcs[f]? = some fn) (hb : fn.body = some code) (hn : (fn.name == "runtime.NumGoroutine") = false) : (execOp ρ o).run P W = .ok (.enter f (first ++ c.args.map ρ ++ cap)) W := by
  unfold execOp
  rw [ho]
  simp only [resolve, hc, hg, Deferred.ofValue, invoke, callFunc, Sem.run_bind, Sem.run_pure, Result.andThen]
  simp [program, Sem.run, hf, hb, hn]
theorem run_yieldCall {ρ : Operand → Value} {o : Oper} {c : Call} {g : Operand} {l : Nat} {first cap : Array Value} {r : Loop} (ho : o.op = .call c) (hc : c.callee = .value g) (hg : ρ g = .func (.yield l) first cap)
    (hl : W.heap[l]? = some (.loop r)) (hs : (first ++ c.args.map ρ).size = r.params.size) :
    (execOp ρ o).run P W = .ok (.round l r.fn ((r.params.zip (first ++ c.args.map ρ)).foldl (fun tmps (t, a) => tmps.setIfInBounds t a) r.tmps) r.assign r.body) W := by
  unfold execOp
  rw [ho]
  have hget : (Instr.getLoop l).run P W = .ok r W := by simp [Instr.getLoop, getObj, Sem.run, hl]
  simp only [resolve, hc, hg, Deferred.ofValue, invoke, Sem.run_bind, Sem.run_pure, Result.andThen, Instr.yield, hget]
  rw [if_neg (by simpa using hs)]
  rfl

theorem sim_op (G : Good P) {ρ ρ' : Operand → Value} {o : Oper} {nx : Next} (hρ : ∀ x ∈ o.op.operands, VRel P ι (ρ x) (ρ' x)) (S : Sim P n₀ ι A W) (h : AOp P ρ o A nx A') (hfree : ∀ b, A.heap.size ≤ b → b < A'.heap.size → ι b = none) :
    ∃ ι' nx' W', (execOp ρ' o).run P W = .ok nx' W' ∧ Sim P n₀ ι' A' W' ∧ Moves P ι A W ι' A' W' ∧ NRel P ι' nx nx' := by
  rcases h with ⟨v, rfl, rfl, hp, hops, hst, hrun⟩ | ⟨hok, hrun⟩ | ⟨c, v, ho, hc, rfl, happ⟩ | ⟨c, g, f, first, cap, fn, code, ho, hc, hg, hf, hb, hn, rfl, rfl⟩ | ⟨c, g, l, first, cap, r, ho, hc, hg, hl, hs, rfl, rfl⟩
  · refine ⟨ι, .value v, W, ?_, S, .refl, .of_plain hp⟩
    rw [← execOp_congr (ρ := ρ) (ρ' := ρ') o (fun cs b e => by rw [e] at hst; cases hst) (fun x hx => ((hρ x hx).plain_eq (hops x hx)).symm)]
    exact hrun W
  · exact RS.reg G hρ hok (GrAll.of S hok) A W nx A' S hrun hfree
  · obtain ⟨elem, ie, z, base, sLen, sCap, x, n, H, hxs, hn, hcase⟩ := happ
    have hargs : Vs P ι (c.args.map ρ) (c.args.map ρ') := Vs.map _ _ _ fun y hy => hρ y (by rw [ho]; simp [Op.operands, Call.operands, hy])
    rw [hxs] at hargs
    have hsz : (c.args.map ρ').size = 2 := by rw [← hargs.1]; rfl
    obtain ⟨s', x', hxs'⟩ : ∃ s' x', c.args.map ρ' = #[s', x'] := by
      obtain ⟨s', h1, _⟩ := hargs.at (i := 0) (x := .slice base sLen sCap) rfl
      obtain ⟨x', h2, _⟩ := hargs.at (i := 1) (x := x) rfl
      refine ⟨s', x', Array.ext (by simpa using hsz) fun i h3 h4 => ?_⟩
      match i with
      | 0 => exact (Array.getElem?_eq_some_iff.1 h1).2
      | 1 => exact (Array.getElem?_eq_some_iff.1 h2).2
      | i + 2 => simp at h4; omega
    rw [hxs'] at hargs
    have hsv : VRel P ι (.slice base sLen sCap) s' := hargs.2 0 _ _ rfl rfl
    have hxv : VRel P ι x x' := hargs.2 1 _ _ rfl rfl
    have hex : ∀ v' W', (Builtin.append_ c.argTypes o.type #[s', x']).run P W = .ok v' W' → (execOp ρ' o).run P W = .ok (.value v') W' := by
      intro v' W' hr
      unfold execOp
      rw [ho]
      simp only [resolve, hc, Sem.run_bind, Sem.run_pure, Result.andThen, invoke, builtin, hxs', hr]
    rcases hcase with ⟨hle, hin⟩ | ⟨hgt, hlc, hb1, hb2, hzs, hnew⟩
    · obtain ⟨ι', v', W', h1, h2, h3, h4⟩ := sim_append_in G (ty := o.type) H hsv hxv hn hle S hin hfree
      exact ⟨ι', .value v', W', hex _ _ h1, h2, h3, h4⟩
    · obtain ⟨ι', v', W', h1, h2, h3, h4⟩ := sim_append_new G (ty := o.type) H hzs hsv hxv hn hgt hlc hb1 hb2 S hnew hfree
      exact ⟨ι', .value v', W', hex _ _ h1, h2, h3, h4⟩
  · have hgv := hρ g (by rw [ho]; simp [Op.operands, Call.operands, hc])
    have hargs : Vs P ι (c.args.map ρ) (c.args.map ρ') := Vs.map _ _ _ fun y hy => hρ y (by rw [ho]; simp [Op.operands, Call.operands, hy])
    rw [hg] at hgv
    generalize hv' : ρ' g = v' at hgv
    cases hgv with
    | func hF h1 h2 h3 h4 =>
      cases hF with
      | func f => exact ⟨ι, _, W, run_call ho hc hv' hf hb hn, S, .refl, rfl, (Vs.append ⟨h1, h3⟩ hargs).append ⟨h2, h4⟩⟩
  · have hgv := hρ g (by rw [ho]; simp [Op.operands, Call.operands, hc])
    have hargs : Vs P ι (c.args.map ρ) (c.args.map ρ') := Vs.map _ _ _ fun y hy => hρ y (by rw [ho]; simp [Op.operands, Call.operands, hy])
    rw [hg] at hgv
    generalize hv' : ρ' g = v' at hgv
    cases hgv with
    | func hF h1 h2 h3 h4 =>
      cases hF with
      | yield ha hb =>
        rename_i e
        obtain ⟨_, _, o', h5, h6⟩ := S.obj _ _ _ ha hl
        cases o' <;> simp only [ObjRel] at h6
        rename_i r'
        have hall := Vs.append (P := P) (ι := ι) ⟨h1, h3⟩ hargs
        refine ⟨ι, _, W, run_yieldCall ho hc hv' h5 (by rw [← hall.1, hs, h6.params]), S, .refl, ⟨e, ha, hb, rfl⟩, ?_, h6.assign, h6.body, h6.ok.1, h6.ok.2.1⟩
        rw [h6.params]
        exact foldPut_rel _ hall h6.tmps
end
end Go.Abs
