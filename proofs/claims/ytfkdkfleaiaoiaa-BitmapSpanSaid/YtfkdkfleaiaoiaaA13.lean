/-
  ABS 9: an operation of the canonical run, and that it is met on the other side.
-/
import Derived.Test.YtfkdkfleaiaoiaaA8
namespace Go.Abs

def NRel (P : Program) (ι : Ren) : Next → Next → Prop
  | .value v, .value v' => VRel P ι v v'
  | .skip, .skip => True
  | .enter f xs, .enter f' xs' => f' = f ∧ Vs P ι xs xs'
  | .round l _ ts as bd, .round l' _ ts' as' bd' => (∃ e, ι l = some e ∧ e.sh = 0 ∧ l' = e.blk) ∧ Vs P ι ts ts' ∧ as' = as ∧ bd' = bd ∧ codeOk as = true ∧ codeOk bd = true
  | _, _ => False

/-- Two of a kind, one of them nil. -/
def nilPair : Value → Value → Bool
  | .pointer a, .pointer b => a.isNone || b.isNone
  | .slice a _ _, .slice b _ _ => a.isNone || b.isNone
  | .map a, .map b => a.isNone || b.isNone
  | .func .., .nilFunc | .nilFunc, .func .. | .nilFunc, .nilFunc => true
  | _, _ => false
theorem nilPair_nil {a b : Value} (h : nilPair a b = true) : (isNil a || isNil b) = true := by
  unfold nilPair at h
  split at h
  · rename_i a b; cases a <;> cases b <;> simp_all [isNil]
  · rename_i a _ _ b _ _; cases a <;> cases b <;> simp_all [isNil]
  · rename_i a b; cases a <;> cases b <;> simp_all [isNil]
  · simp [isNil]
  · simp [isNil]
  · simp [isNil]
  · cases h
theorem nilPair_eql {a b : Value} (h : nilPair a b = true) (t : TypeId) : binOp .eql t a b = (do Pure.pure (.bool (← Op.equal t a b))) := by
  unfold nilPair at h
  split at h <;> first | rfl | cases h
theorem nilPair_neq {a b : Value} (h : nilPair a b = true) (t : TypeId) : binOp .neq t a b = (do Pure.pure (.bool (!(← Op.equal t a b)))) := by
  unfold nilPair at h
  split at h <;> first | rfl | cases h
theorem nilPair_guard {a b : Value} (h : nilPair a b = true) (op : BinOp) (t : TypeId) (x y : Operand) (ho : op = .eql ∨ op = .neq) : eqGuard op t x y a b = Pure.pure () := by
  unfold nilPair at h
  rcases ho with rfl | rfl <;> (split at h <;> first | rfl | cases h)

/-- What is asked of a plain operation beside its run. -/
def RegOk (P : Program) (A : World) (ρ : Operand → Value) : Op → Prop
  | .move _ | .assign _ | .pick .. | .alloc _ | .box .. | .build .. | .buildSlice .. | .load .. | .store .. | .extract .. | .field .. | .index .. | .indexAddr .. | .makeSlice .. | .makeMap .. | .nilCheck _ => True
  | .makeFunc fn _ _ => ∃ f, fn = .func f
  | .fieldAddr s _ k => ∀ fs f, P.underlying s = some (.struct fs) → fs[k]? = some f → P.cellsOf f.type ≠ 0
  | .slice t x _ _ _ => (∀ a l c, ρ x = .slice a l c → l ≤ c) ∧ (∀ e, P.underlying t ≠ some (.pointer e)) ∧
      ∀ elem, P.underlying t = some (.slice elem) → ∀ a l c, ρ x = .slice (some a) l c → ∃ cs t' fz, A.heap[a.block]? = some (.cells cs t' fz) ∧ fz ≠ (2, 0) ∧ (fz = (1, 0) → P.cellsOf elem = P.cellsOf t')
  | .binOp .eql _ x y _ | .binOp .neq _ x y _ => nilPair (ρ x) (ρ y) = true
  | .lookup t _ k _ => KeyOk P t (ρ k)
  | .mapUpdate t _ k _ => KeyOk P t (ρ k)
  | .call c => c.callee = .builtin .len ∨ c.callee = .builtin .copy ∨ c.callee = .builtin .clear ∨ (c.callee = .builtin .delete ∧ ∀ mt k, c.argTypes[0]? = some mt → (c.args.map ρ)[1]? = some k → KeyOk P mt k)
  | _ => False

section
variable {P : Program} {n₀ : Nat} {ι ι' : Ren} {A A' W W' : World}

def GrAll (P : Program) (ι : Ren) (ρ : Operand → Value) : Op → Prop
  | .slice t x _ _ _ => ∀ elem, P.underlying t = some (.slice elem) → GrOk P ι elem (ρ x)
  | _ => True
theorem GrAll.of (S : Sim P n₀ ι A W) {ρ : Operand → Value} {op : Op} (h : RegOk P A ρ op) : GrAll P ι ρ op := by
  cases op <;> try trivial
  rename_i t x lo hi mx
  intro elem hu a l c e t' N hx he hg
  obtain ⟨cs, t2, fz, h1, h2, h3⟩ := h.2.2 elem hu a l c hx
  rcases S.obj _ _ _ he h1 with ⟨h, _⟩ | ⟨_, _, _, _, _, _, _, h5, h6⟩
  · exact absurd h h2
  · by_cases hf : fz = (1, 0)
    · have := h5 hf; rw [hg] at this; cases this; exact h3 hf
    · rw [h6 hf] at hg; cases hg

theorem RS.val {s s' : Sem Value} (h : RS P n₀ ι (VRel P) s s') : RS P n₀ ι (NRel P) (do Pure.pure (.value (← s))) (do Pure.pure (.value (← s'))) :=
  h.bind fun _ _ _ _ hv => .pure hv
theorem RS.unit {s s' : Sem Unit} (h : RS P n₀ ι (fun _ _ _ => True) s s') : RS P n₀ ι (NRel P) (do s; Pure.pure .skip) (do s'; Pure.pure .skip) :=
  h.bind fun _ _ _ _ _ => .pure trivial
theorem ORelV.map {ρ ρ' : Operand → Value} (o : Option Operand) (h : ∀ x ∈ o.toArray, VRel P ι (ρ x) (ρ' x)) : ORelV P ι (o.map ρ) (o.map ρ') := by
  cases o with
  | none => exact .inl ⟨rfl, rfl⟩
  | some x => exact .inr ⟨_, _, rfl, rfl, h x (by simp)⟩
theorem Ps.map {ρ ρ' : Operand → Value} (ps : Array (Nat × Operand)) (h : ∀ x ∈ (ps.toList.map (·.2)).toArray, VRel P ι (ρ x) (ρ' x)) : Ps P ι (ps.map fun (i, x) => (i, ρ x)) (ps.map fun (i, x) => (i, ρ' x)) := by
  refine ⟨by simp, fun i x x' hx hx' => ?_⟩
  simp only [Array.toList_map, List.getElem?_map] at hx hx'
  cases hp : ps.toList[i]? with
  | none => rw [hp] at hx; cases hx
  | some p =>
    rw [hp] at hx hx'
    cases hx; cases hx'
    refine ⟨rfl, h p.2 ?_⟩
    have := List.mem_of_getElem? hp
    simp only [List.mem_toArray, List.mem_map]
    exact ⟨p, this, rfl⟩

theorem VRel.nilPair {a a' b b' : Value} (ha : VRel P ι a a') (hb : VRel P ι b b') (h : Abs.nilPair a b = true) : Abs.nilPair a' b' = true := by
  cases ha <;> cases hb <;> first | (exfalso; revert h; simp only [Abs.nilPair]; decide) | rfl | exact h
theorem RS.binNil {op : BinOp} (ho : op = .eql ∨ op = .neq) (t : TypeId) (x y : Operand) {a a' b b' : Value} (ha : VRel P ι a a') (hb : VRel P ι b b') (h : Abs.nilPair a b = true) :
    RS P n₀ ι (VRel P) (do eqGuard op t x y a b; binOp op t a b) (do eqGuard op t x y a' b'; binOp op t a' b') := by
  have h' := VRel.nilPair ha hb h
  rw [nilPair_guard h op t x y ho, nilPair_guard h' op t x y ho]
  rcases ho with rfl | rfl
  · rw [nilPair_eql h, nilPair_eql h']
    exact (RS.pure (R := fun _ _ _ => True) trivial).bind fun _ l _ _ _ => (RS.eqNil t (ha.mono l) (hb.mono l) (nilPair_nil h)).bind fun _ _ r r' hr => by subst hr; exact .pure (.bool _)
  · rw [nilPair_neq h, nilPair_neq h']
    exact (RS.pure (R := fun _ _ _ => True) trivial).bind fun _ l _ _ _ => (RS.eqNil t (ha.mono l) (hb.mono l) (nilPair_nil h)).bind fun _ _ r r' hr => by subst hr; exact .pure (.bool _)

theorem RS.reg (G : Good P) {ρ ρ' : Operand → Value} {o : Oper} (hρ : ∀ x ∈ o.op.operands, VRel P ι (ρ x) (ρ' x)) (hok : RegOk P A ρ o.op) (hgr : GrAll P ι ρ o.op) : RS P n₀ ι (NRel P) (execOp ρ o) (execOp ρ' o) := by
  obtain ⟨dst, op, type, pos, after, guard⟩ := o
  simp only at hρ hok hgr
  cases op <;> simp only [RegOk] at hok <;> simp only [Op.operands] at hρ <;> simp only [execOp]
  case move x => exact .pure (hρ x (by simp))
  case assign x => exact .pure (hρ x (by simp))
  case pick c a b =>
    refine (RS.asBool (hρ c (by simp))).bind fun _ l r r' hr => ?_
    subst hr
    cases r' with
    | true => exact .pure ((hρ a (by simp)).mono l)
    | false => exact .pure ((hρ b (by simp)).mono l)
  case alloc t => exact RS.val (RS.instrAlloc G t)
  case box t x => exact RS.val (RS.instrBox t (hρ x (by simp)))
  case build t ps => exact RS.val (RS.build G t (Ps.map ps hρ))
  case buildSlice t n ps => exact RS.val (RS.buildSlice G t n (Ps.map ps hρ))
  case load t x => exact RS.val (RS.instrLoad t (hρ x (by simp)))
  case store t x y => exact RS.unit (RS.instrStore t (hρ x (by simp)) (hρ y (by simp)))
  case nilCheck x =>
    have hx := hρ x (by simp)
    generalize ρ x = v at hx
    generalize ρ' x = v' at hx
    cases hx with
    | ptr0 => exact RS.never (runtimePanic_never _)
    | iface0 => exact RS.never (runtimePanic_never _)
    | func0 => exact RS.never (runtimePanic_never _)
    | func hf h1 h2 h3 h4 =>
      cases hf with
      | func f => exact .pure (VRel.func (.func f) h1 h2 h3 h4)
      | yield a b => exact .pure (VRel.func (.yield a b) h1 h2 h3 h4)
    | bool b => exact .pure (VRel.bool b)
    | int k n => exact .pure (VRel.int k n)
    | float k n => exact .pure (VRel.float k n)
    | complex k a b => exact .pure (VRel.complex k a b)
    | string s => exact .pure (VRel.string s)
    | ptr h => exact .pure (VRel.ptr h)
    | slice0 l c => exact .pure (VRel.slice0 l c)
    | slice h => exact .pure (VRel.slice h)
    | map0 => exact .pure VRel.map0
    | chan0 => exact .pure VRel.chan0
    | map a b => exact .pure (VRel.map a b)
    | iface t h => exact .pure (VRel.iface t h)
    | agg a b => exact .pure (VRel.agg a b)
    | tuple a b => exact .pure (VRel.tuple a b)
  case binOp op t x y yt =>
    have e : op = .eql ∨ op = .neq := by cases op <;> simp_all
    have h : Abs.nilPair (ρ x) (ρ y) = true := by rcases e with rfl | rfl <;> exact hok
    exact RS.val (RS.binNil e t x y (hρ x (by simp)) (hρ y (by simp)) h)
  case makeFunc fn first cap =>
    obtain ⟨f, rfl⟩ := hok
    exact RS.val (RS.makeFunc (.func f) (Vs.map first ρ ρ' fun x hx => hρ x (by simp [hx])) (Vs.map cap ρ ρ' fun x hx => hρ x (by simp [hx])))
  case makeMap t r => exact RS.val (RS.makeMap t (ORelV.map r hρ))
  case makeSlice t l c => exact RS.val (RS.makeSlice G t (hρ l (by simp)) (hρ c (by simp)))
  case slice t x lo hi mx =>
    obtain ⟨h1, h2, _⟩ := hok
    exact RS.val (RS.sliceAt t (hρ x (by simp)) (ORelV.map lo fun y hy => hρ y (by simp at hy ⊢; simp [hy])) (ORelV.map hi fun y hy => hρ y (by simp at hy ⊢; simp [hy])) (ORelV.map mx fun y hy => hρ y (by simp at hy ⊢; simp [hy])) h1 hgr h2)
  case fieldAddr t x k => exact RS.val (RS.fieldAt t (hρ x (by simp)) k hok)
  case field t x k => exact RS.val (RS.field t (hρ x (by simp)) k)
  case indexAddr t x i => exact RS.val (RS.indexAt t (hρ x (by simp)) (hρ i (by simp)))
  case index t x i => exact RS.val (RS.index t (hρ x (by simp)) (hρ i (by simp)))
  case extract x i => exact RS.val (RS.extract (hρ x (by simp)) i)
  case call c =>
    obtain ⟨callee, args, ats⟩ := c
    simp only at hok
    have ha : Vs P ι (args.map ρ) (args.map ρ') := Vs.map _ _ _ fun x hx => hρ x (by simp [Call.operands, hx])
    rcases hok with rfl | rfl | rfl | ⟨rfl, hd⟩
    · exact RS.val (RS.len _ _ ha)
    · exact RS.val (RS.copy _ _ ha)
    · exact RS.val (RS.clear G _ _ ha)
    · exact RS.val (RS.delete _ _ ha hd)
  case lookup t x k ok => exact RS.val (RS.lookup G t (hρ x (by simp)) (hρ k (by simp)) ok hok)
  case mapUpdate t m k x => exact RS.unit (RS.mapUpdate t (hρ m (by simp)) (hρ k (by simp)) (hρ x (by simp)) hok)
end
end Go.Abs
/-
  ABS 10: an operation of the canonical run, calls too.
-/
namespace Go.Abs

/-- Operations that a value alone comes of, whatever the world. -/
def stillOp : Op → Bool
  | .select .. | .defer _ | .go _ => false
  | _ => true

def AOp (P : Program) (ρ : Operand → Value) (o : Oper) (A : World) (nx : Next) (A' : World) : Prop :=
  (∃ v, nx = .value v ∧ A' = A ∧ plain v = true ∧ (∀ x ∈ o.op.operands, plain (ρ x) = true) ∧ stillOp o.op = true ∧ ∀ w, (execOp ρ o).run P w = .ok (.value v) w) ∨
  (RegOk P A ρ o.op ∧ (execOp ρ o).run P A = .ok nx A') ∨
  (∃ c v, o.op = .call c ∧ c.callee = .builtin .append ∧ nx = .value v ∧ AApp P c.argTypes (c.args.map ρ) A v A') ∨
  (∃ c g f first cap fn code, o.op = .call c ∧ c.callee = .value g ∧ ρ g = .func (.func f) first cap ∧ P.funcs[f]? = some fn ∧ fn.body = some code ∧ (fn.name == "runtime.NumGoroutine") = false ∧
    nx = .enter f (first ++ c.args.map ρ ++ cap) ∧ A' = A) ∨
  (∃ c g l first cap r, o.op = .call c ∧ c.callee = .value g ∧ ρ g = .func (.yield l) first cap ∧ A.heap[l]? = some (.loop r) ∧ (first ++ c.args.map ρ).size = r.params.size ∧
    nx = .round l r.fn ((r.params.zip (first ++ c.args.map ρ)).foldl (fun tmps (t, a) => tmps.setIfInBounds t a) r.tmps) r.assign r.body ∧ A' = A)

section
variable {P : Program} {n₀ : Nat} {ι ι' : Ren} {A A' W W' : World}

theorem foldPut_rel (ps : Array Tmp) {xs xs' ts ts' : Array Value} (hx : Vs P ι xs xs') (ht : Vs P ι ts ts') :
    Vs P ι ((ps.zip xs).foldl (fun tmps (t, a) => tmps.setIfInBounds t a) ts) ((ps.zip xs').foldl (fun tmps (t, a) => tmps.setIfInBounds t a) ts') := by
  rw [← Array.foldl_toList, ← Array.foldl_toList, Array.toList_zip, Array.toList_zip]
  have key : ∀ (l : List Tmp) (v v' : List Value) (d d' : Array Value), Vl P ι v v' → Vs P ι d d' → Vs P ι ((l.zip v).foldl (fun tmps (t, a) => tmps.setIfInBounds t a) d) ((l.zip v').foldl (fun tmps (t, a) => tmps.setIfInBounds t a) d') := by
    intro l
    induction l with
    | nil => intro v v' d d' _ hd; exact hd
    | cons t l ih =>
      intro v v' d d' hv hd
      match v, v', hv with
      | [], [], _ => exact hd
      | a :: v, b :: v', hv => exact ih v v' _ _ hv.2 (hd.set t hv.1)
  exact key _ _ _ _ _ hx.toList ht

theorem run_call {ρ : Operand → Value} {o : Oper} {c : Call} {g : Operand} {f : FuncId} {first cap : Array Value} {fn : Func} {code : Code} (ho : o.op = .call c) (hc : c.callee = .value g) (hg : ρ g = .func (.func f) first cap)
    (hf : P.funcs[f]? = some fn) (hb : fn.body = some code) (hn : (fn.name == "runtime.NumGoroutine") = false) : (execOp ρ o).run P W = .ok (.enter f (first ++ c.args.map ρ ++ cap)) W := by
  unfold execOp
  rw [ho]
  simp only [resolve, hc, hg, Deferred.ofValue, invoke, callFunc, Sem.run_bind, Sem.run_pure, Result.andThen]
  simp [program, Sem.run, hf, hb, hn]
theorem run_yieldCall {ρ : Operand → Value} {o : Oper} {c : Call} {g : Operand} {l : Nat} {first cap : Array Value} {r : Loop} (ho : o.op = .call c) (hc : c.callee = .value g) (hg : ρ g = .func (.yield l) first cap)
    (hl : W.heap[l]? = some (.loop r)) (hs : (first ++ c.args.map ρ).size = r.params.size) :
    (execOp ρ o).run P W = .ok (.round l r.fn ((r.params.zip (first ++ c.args.map ρ)).foldl (fun tmps (t, a) => tmps.setIfInBounds t a) r.tmps) r.assign r.body) W := by
  unfold execOp
  rw [ho]
  have hget : (Instr.getLoop l).run P W = .ok r W := by simp [Instr.getLoop, getObj, Sem.run, hl]
  simp only [resolve, hc, hg, Deferred.ofValue, invoke, Sem.run_bind, Sem.run_pure, Result.andThen, Instr.yield, hget]
  rw [if_neg (by simpa using hs)]
  rfl

theorem sim_op (G : Good P) {ρ ρ' : Operand → Value} {o : Oper} {nx : Next} (hρ : ∀ x ∈ o.op.operands, VRel P ι (ρ x) (ρ' x)) (S : Sim P n₀ ι A W) (h : AOp P ρ o A nx A') (hfree : ∀ b, A.heap.size ≤ b → b < A'.heap.size → ι b = none) :
    ∃ ι' nx' W', (execOp ρ' o).run P W = .ok nx' W' ∧ Sim P n₀ ι' A' W' ∧ Moves P ι A W ι' A' W' ∧ NRel P ι' nx nx' := by
  rcases h with ⟨v, rfl, rfl, hp, hops, hst, hrun⟩ | ⟨hok, hrun⟩ | ⟨c, v, ho, hc, rfl, happ⟩ | ⟨c, g, f, first, cap, fn, code, ho, hc, hg, hf, hb, hn, rfl, rfl⟩ | ⟨c, g, l, first, cap, r, ho, hc, hg, hl, hs, rfl, rfl⟩
  · refine ⟨ι, .value v, W, ?_, S, .refl, .of_plain hp⟩
    rw [← execOp_congr (ρ := ρ) (ρ' := ρ') o (fun cs b e => by rw [e] at hst; cases hst) (fun x hx => ((hρ x hx).plain_eq (hops x hx)).symm)]
    exact hrun W
  · exact RS.reg G hρ hok (GrAll.of S hok) A W nx A' S hrun hfree
  · obtain ⟨elem, ie, z, base, sLen, sCap, x, n, H, hxs, hn, hcase⟩ := happ
    have hargs : Vs P ι (c.args.map ρ) (c.args.map ρ') := Vs.map _ _ _ fun y hy => hρ y (by rw [ho]; simp [Op.operands, Call.operands, hy])
    rw [hxs] at hargs
    have hsz : (c.args.map ρ').size = 2 := by rw [← hargs.1]; rfl
    obtain ⟨s', x', hxs'⟩ : ∃ s' x', c.args.map ρ' = #[s', x'] := by
      obtain ⟨s', h1, _⟩ := hargs.at (i := 0) (x := .slice base sLen sCap) rfl
      obtain ⟨x', h2, _⟩ := hargs.at (i := 1) (x := x) rfl
      refine ⟨s', x', Array.ext (by simpa using hsz) fun i h3 h4 => ?_⟩
      match i with
      | 0 => exact (Array.getElem?_eq_some_iff.1 h1).2
      | 1 => exact (Array.getElem?_eq_some_iff.1 h2).2
      | i + 2 => simp at h4; omega
    rw [hxs'] at hargs
    have hsv : VRel P ι (.slice base sLen sCap) s' := hargs.2 0 _ _ rfl rfl
    have hxv : VRel P ι x x' := hargs.2 1 _ _ rfl rfl
    have hex : ∀ v' W', (Builtin.append_ c.argTypes o.type #[s', x']).run P W = .ok v' W' → (execOp ρ' o).run P W = .ok (.value v') W' := by
      intro v' W' hr
      unfold execOp
      rw [ho]
      simp only [resolve, hc, Sem.run_bind, Sem.run_pure, Result.andThen, invoke, builtin, hxs', hr]
    rcases hcase with ⟨hle, hin⟩ | ⟨hgt, hlc, hb1, hb2, hzs, hnew⟩
    · obtain ⟨ι', v', W', h1, h2, h3, h4⟩ := sim_append_in G (ty := o.type) H hsv hxv hn hle S hin hfree
      exact ⟨ι', .value v', W', hex _ _ h1, h2, h3, h4⟩
    · obtain ⟨ι', v', W', h1, h2, h3, h4⟩ := sim_append_new G (ty := o.type) H hzs hsv hxv hn hgt hlc hb1 hb2 S hnew hfree
      exact ⟨ι', .value v', W', hex _ _ h1, h2, h3, h4⟩
  · have hgv := hρ g (by rw [ho]; simp [Op.operands, Call.operands, hc])
    have hargs : Vs P ι (c.args.map ρ) (c.args.map ρ') := Vs.map _ _ _ fun y hy => hρ y (by rw [ho]; simp [Op.operands, Call.operands, hy])
    rw [hg] at hgv
    generalize hv' : ρ' g = v' at hgv
    cases hgv with
    | func hF h1 h2 h3 h4 =>
      cases hF with
      | func f => exact ⟨ι, _, W, run_call ho hc hv' hf hb hn, S, .refl, rfl, (Vs.append ⟨h1, h3⟩ hargs).append ⟨h2, h4⟩⟩
  · have hgv := hρ g (by rw [ho]; simp [Op.operands, Call.operands, hc])
    have hargs : Vs P ι (c.args.map ρ) (c.args.map ρ') := Vs.map _ _ _ fun y hy => hρ y (by rw [ho]; simp [Op.operands, Call.operands, hy])
    rw [hg] at hgv
    generalize hv' : ρ' g = v' at hgv
    cases hgv with
    | func hF h1 h2 h3 h4 =>
      cases hF with
      | yield ha hb =>
        rename_i e
        obtain ⟨_, _, o', h5, h6⟩ := S.obj _ _ _ ha hl
        cases o' <;> simp only [ObjRel] at h6
        rename_i r'
        have hall := Vs.append (P := P) (ι := ι) ⟨h1, h3⟩ hargs
        refine ⟨ι, _, W, run_yieldCall ho hc hv' h5 (by rw [← hall.1, hs, h6.params]), S, .refl, ⟨e, ha, hb, rfl⟩, ?_, h6.assign, h6.body, h6.ok.1, h6.ok.2.1⟩
        rw [h6.params]
        exact foldPut_rel _ hall h6.tmps
end
end Go.Abs
/-
  ABS 11: the canonical run of code, by levels; and what the machine does at a related world. (A region that draws its order: ABS 12.)
-/
namespace Go.Abs

abbrev wide (ro : Option Nat) : Fence := { Fence.wide with round := ro }

structure Lvl where
  calls : FuncId → Array Value → World → Value → World → Prop
  rounds : Nat → Array Value → Code → Code → World → Value → World → Prop
  codes : Option Nat → Code → Act → World → Exit → Act → World → Prop
  loops : Option Nat → Code → Act → World → Exit → Act → World → Prop

section
variable (P : Program)

/-- One operation, and what it calls. -/
def RunOp (L : Lvl) (o : Oper) (a : Act) (A : World) (v : Value) (A' : World) : Prop :=
  ∃ nx A1, AOp P a.eval o A nx A1 ∧ match nx with
    | .value u => v = u ∧ A' = A1
    | .skip => v = undef ∧ A' = A1
    | .enter f xs => L.calls f xs A1 v A'
    | .round l _ ts as bd => L.rounds l ts as bd A1 v A'
    | _ => False

def RunOps (L : Lvl) (ops : Array Oper) : List Nat → Act → World → Act → World → Prop
  | [], a, A, a', A' => a' = a ∧ A' = A
  | i :: rest, a, A, a', A' =>
    match ops[i]? with
    | none => RunOps L ops rest a A a' A'
    | some o => if Region.wanted o (yielded ops a.tmps) then ∃ v A1, RunOp P L o a A v A1 ∧ RunOps L ops rest (a.put o.dst v) A1 a' A' else RunOps L ops rest (a.put o.dst undef) A a' A'

/-- Every mark among the deferred calls is taken, and there was nothing behind it. -/
def Marks : List Deferred → World → World → Prop
  | [], A, A' => A' = A
  | d :: ds, A, A' => ∃ r A1, d.target = .collected r ∧ (Instr.takeDeferred r).run P A = .ok [] A1 ∧ Marks ds A1 A'

def callStep (L : Lvl) (f : FuncId) (xs : Array Value) (A : World) (v : Value) (A' : World) : Prop :=
  ∃ fn c e a1 A1, P.funcs[f]? = some fn ∧ fn.body = some c ∧ L.codes none c { tmps := xs ++ Array.replicate (fn.ntmps - xs.size) undef, defers := [] } A e a1 A1 ∧
    (e = .normal ∨ e = .ret) ∧ Marks P a1.defers A1 A' ∧ (results fn a1.tmps).run P A' = .ok v A'

/-- What a round hands to 'endRound'. -/
def jumpOf : Exit → Option (Option Code)
  | .normal => some none
  | .ret => some (some .ret)
  | .exit id => some (some (.exit id))
  | .goto t => some (some (.goto t))
  | _ => none
def roundStep (L : Lvl) (l : Nat) (ts : Array Value) (as bd : Code) (A : World) (v : Value) (A' : World) : Prop :=
  ∃ a1 A1 A2 e a3 A3 j, L.codes (some l) as { tmps := ts, defers := [] } A .normal a1 A1 ∧ (Instr.beginRound l).run P A1 = .ok () A2 ∧ L.codes (some l) bd a1 A2 e a3 A3 ∧
    jumpOf e = some j ∧ (Instr.endRound l j).run P A3 = .ok v A'

def RunRange (L : Lvl) (ro : Option Nat) (g : Operand) (ps : Array Tmp) (as bd : Code) (a : Act) (A : World) (e : Exit) (a' : Act) (A' : World) : Prop :=
  ∃ l mark A1 f first cap fn code v A2 jump A3, (Instr.enterLoop 0 a.tmps ps as bd ro).run P A = .ok (l, mark) A1 ∧ a.eval g = .func (.func f) first cap ∧ P.funcs[f]? = some fn ∧ fn.body = some code ∧
    (fn.name == "runtime.NumGoroutine") = false ∧ L.calls f (first ++ #[.func (.yield l) #[] #[]] ++ cap) A1 v A2 ∧ (Instr.endLoop l).run P A2 = .ok jump A3 ∧
    match jump with
    | none => e = .normal ∧ a' = { a with defers := mark ++ a.defers } ∧ A' = A3
    | some c => L.codes ro c { a with defers := mark ++ a.defers } A3 e a' A'

def thenStep (e1 : Exit) (a1 : Act) (A1 : World) (R : Act → World → Exit → Act → World → Prop) (e : Exit) (a' : Act) (A' : World) : Prop :=
  match e1 with
  | .normal => R a1 A1 e a' A'
  | _ => e = e1 ∧ a' = a1 ∧ A' = A1
def inBlk (id : Nat) : Exit → Exit
  | .exit i => if i = id then .normal else .exit i
  | e => e
def codeStep (L : Lvl) (draw : Lvl → Array Oper → Act → World → Act → World → Prop) (ro : Option Nat) (c : Code) (a : Act) (A : World) (e : Exit) (a' : Act) (A' : World) : Prop :=
  match c with
  | .skip | .label _ => e = .normal ∧ a' = a ∧ A' = A
  | .seq x y => ∃ e1 a1 A1, L.codes ro x a A e1 a1 A1 ∧ thenStep e1 a1 A1 (L.codes ro y) e a' A'
  | .cond c x y => ∃ b, a.eval c = .bool b ∧ L.codes ro (if b then x else y) a A e a' A'
  | .block id x => ∃ e1, L.codes ro x a A e1 a' A' ∧ e = inBlk id e1
  | .loop x => L.loops ro x a A e a' A'
  | .exit id => e = .exit id ∧ a' = a ∧ A' = A
  | .goto l => e = .goto l ∧ a' = a ∧ A' = A
  | .ret => e = .ret ∧ a' = a ∧ A' = A
  | .region _ ops false => e = .normal ∧ RunOps P L ops (List.range ops.size) a A a' A'
  | .region _ ops true => e = .normal ∧ draw L ops a A a' A'
  | .rangeFunc g ps as bd => RunRange P L ro g ps as bd a A e a' A'
  | .scope _ | .refuse _ => False
def loopStep (L : Lvl) (ro : Option Nat) (x : Code) (a : Act) (A : World) (e : Exit) (a' : Act) (A' : World) : Prop :=
  ∃ e1 a1 A1, L.codes ro x a A e1 a1 A1 ∧ thenStep e1 a1 A1 (L.loops ro x) e a' A'
end

section
variable {P : Program} {n₀ : Nat} {ι ι' : Ren} {A A' W W' : World}

def DRel (ι : Ren) : List Deferred → List Deferred → Prop
  | [], [] => True
  | d :: ds, d' :: ds' => (∃ r e, d.target = .collected r ∧ d'.target = .collected e.blk ∧ ι r = some e ∧ e.sh = 0) ∧ DRel ι ds ds'
  | _, _ => False
theorem DRel.mono (h : ι.le ι') : ∀ {l l' : List Deferred}, DRel ι l l' → DRel ι' l l'
  | [], [], _ => trivial
  | _ :: _, _ :: _, ⟨⟨r, e, a, b, c, d⟩, k⟩ => ⟨⟨r, e, a, b, h _ _ c, d⟩, DRel.mono h k⟩
theorem DRel.append : ∀ {l l' m m' : List Deferred}, DRel ι l l' → DRel ι m m' → DRel ι (l ++ m) (l' ++ m')
  | [], [], _, _, _, h => h
  | _ :: _, _ :: _, _, _, ⟨a, k⟩, h => ⟨a, DRel.append k h⟩
structure ARl (P : Program) (ι : Ren) (a a' : Act) : Prop where
  tmps : Vs P ι a.tmps a'.tmps
  defers : DRel ι a.defers a'.defers
theorem ARl.mono (h : ι.le ι') {a a' : Act} (r : ARl P ι a a') : ARl P ι' a a' := ⟨r.tmps.mono h, r.defers.mono h⟩
theorem ARl.put {a a' : Act} (r : ARl P ι a a') (d : Option Tmp) {v v' : Value} (hv : VRel P ι v v') : ARl P ι (a.put d v) (a'.put d v') := by
  cases d with
  | none => exact r
  | some d => exact ⟨r.tmps.set d hv, r.defers⟩

theorem ARl.eval {a a' : Act} (r : ARl P ι a a') {x : Operand} (h : opndOk x = true) : VRel P ι (a.eval x) (a'.eval x) := by
  cases x with
  | tmp t => exact r.tmps.getD t
  | const v => exact .of_plain h
  | global g => cases h
  | func f => exact .func (.func f) rfl rfl (fun i x x' h => by simp at h) (fun i x x' h => by simp at h)
theorem yielded_rel {a a' : Act} (r : ARl P ι a a') (ops : Array Oper) (j : Nat) : yielded ops a'.tmps j = yielded ops a.tmps j := by
  unfold yielded
  cases h : (ops[j]?).bind (·.dst) with
  | none => rfl
  | some d =>
    simp only [Option.bind_some]
    cases hd : a.tmps[d]? with
    | none => rw [r.tmps.none_at hd]
    | some v =>
      obtain ⟨v', h1, h2⟩ := r.tmps.at hd
      rw [h1]
      cases h2 <;> rfl
theorem wanted_rel {a a' : Act} (r : ARl P ι a a') (ops : Array Oper) (o : Oper) : Region.wanted o (yielded ops a'.tmps) = Region.wanted o (yielded ops a.tmps) := by
  have : yielded ops a'.tmps = yielded ops a.tmps := funext fun j => yielded_rel r ops j
  rw [this]

/-- What is promised of a run that has ended in e, a', A'. -/
def Post (P : Program) (n₀ : Nat) (ι : Ren) (A W : World) (e : Exit) (a' : Act) (A' : World) : Exit → Act → World → Prop :=
  fun e' b W' => e' = e ∧ ∃ ι', Sim P n₀ ι' A' W' ∧ Moves P ι A W ι' A' W' ∧ ARl P ι' a' b
def PostV (P : Program) (n₀ : Nat) (ι : Ren) (A W : World) (v : Value) (A' : World) : Ending → World → Prop :=
  fun e W' => ∃ ι' v', e = .returned v' ∧ Sim P n₀ ι' A' W' ∧ Moves P ι A W ι' A' W' ∧ VRel P ι' v v'

def Free (ι : Ren) (A A' : World) : Prop := A.heap.size ≤ A'.heap.size ∧ ∀ b, A.heap.size ≤ b → b < A'.heap.size → ι b = none
theorem Free.left {A1 : World} (h : Free ι A A') (h1 : A.heap.size ≤ A1.heap.size) (h2 : A1.heap.size ≤ A'.heap.size) : Free ι A A1 := ⟨h1, fun b x y => h.2 b x (by omega)⟩
theorem Free.right {A1 : World} {W W1 : World} {ι1 : Ren} (h : Free ι A A') (M : Moves P ι A W ι1 A1 W1) (h2 : A1.heap.size ≤ A'.heap.size) : Free ι1 A1 A' := ⟨h2, fun b x y => by
  have h0 := h.2 b (Nat.le_trans M.asz x) y
  cases hb : ι1 b with
  | none => rfl
  | some e => have := M.news b e h0 hb; omega⟩

def SndCall (P : Program) (n₀ : Nat) (f : FuncId) (xs : Array Value) (A : World) (v : Value) (A' : World) : Prop :=
  A.heap.size ≤ A'.heap.size ∧ ∀ ι W xs', Sim P n₀ ι A W → Vs P ι xs xs' → Free ι A A' → CallsIn (wide none) 0 P f xs' W (PostV P n₀ ι A W v A')
def SndRound (P : Program) (n₀ : Nat) (l : Nat) (ts : Array Value) (as bd : Code) (A : World) (v : Value) (A' : World) : Prop :=
  A.heap.size ≤ A'.heap.size ∧ (codeOk as = true → codeOk bd = true → ∀ ι W ts' e fn ro, ι l = some e → e.sh = 0 → Sim P n₀ ι A W → Vs P ι ts ts' → Free ι A A' → RoundIn (wide ro) 0 P e.blk fn ts' as bd W (PostV P n₀ ι A W v A'))
def RoRel (ι : Ren) (ro ro' : Option Nat) : Prop := (ro = none ∧ ro' = none) ∨ ∃ l e, ro = some l ∧ ι l = some e ∧ e.sh = 0 ∧ ro' = some e.blk
theorem RoRel.mono (h : ι.le ι') {ro ro' : Option Nat} (r : RoRel ι ro ro') : RoRel ι' ro ro' := by
  rcases r with r | ⟨l, e, a, b, c, d⟩
  · exact .inl r
  · exact .inr ⟨l, e, a, h _ _ b, c, d⟩
def SndCode (P : Program) (n₀ : Nat) (ro : Option Nat) (c : Code) (a : Act) (A : World) (e : Exit) (a' : Act) (A' : World) : Prop :=
  A.heap.size ≤ A'.heap.size ∧ (codeOk c = true → ∀ ι W b ro', RoRel ι ro ro' → Sim P n₀ ι A W → ARl P ι a b → Free ι A A' → c.wpIn (wide ro') 0 P (Post P n₀ ι A W e a' A') b W)
/-- 'the loop's body, then the loop', as the machine has it. -/
def InLoop (F : Fence) (n : Nat) (P : Program) (c : Code) (Q : Exit → Act → World → Prop) (a : Act) (w : World) : Prop :=
  ∀ (b : Frame) (k : List Item) (cs : List Frame), b.roundOf = F.round → F.fn b.fn → F.room (cs.length + 1 + n) →
    ∃ e a' w', Q e a' w' ∧ ArrivesIn (Machine.fenced P F) P (lone (b.atR a (.code c :: .inLoop c :: k)) cs w) b k cs e a' w'
def SndLoop (P : Program) (n₀ : Nat) (ro : Option Nat) (c : Code) (a : Act) (A : World) (e : Exit) (a' : Act) (A' : World) : Prop :=
  A.heap.size ≤ A'.heap.size ∧ (codeOk c = true → ∀ ι W b ro', RoRel ι ro ro' → Sim P n₀ ι A W → ARl P ι a b → Free ι A A' → InLoop (wide ro') 0 P c (Post P n₀ ι A W e a' A') b W)

structure Snd (P : Program) (n₀ : Nat) (L : Lvl) : Prop where
  calls : ∀ f xs A v A', L.calls f xs A v A' → SndCall P n₀ f xs A v A'
  rounds : ∀ l ts as bd A v A', L.rounds l ts as bd A v A' → SndRound P n₀ l ts as bd A v A'
  codes : ∀ ro c a A e a' A', L.codes ro c a A e a' A' → SndCode P n₀ ro c a A e a' A'
  loops : ∀ ro c a A e a' A', L.loops ro c a A e a' A' → SndLoop P n₀ ro c a A e a' A'

theorem inLoop_step {F : Fence} {n : Nat} {c : Code} {Q : Exit → Act → World → Prop} {a : Act} {w : World} (h : c.wpIn F n P (Exit.then (InLoop F n P c Q) Q) a w) : InLoop F n P c Q a w := by
  intro b k cs hro hb hr
  obtain ⟨e, a₁, w₁, hq, harr⟩ := h b (.inLoop c :: k) cs hro hb hr
  cases e with
  | normal =>
    obtain ⟨e₂, a₂, w₂, hq₂, harr₂⟩ := hq b k cs hro hb hr
    exact ⟨e₂, a₂, w₂, hq₂, .of_steps (StepsIn.trans harr (.one (fenced_calm hb hr rfl) stepR_inLoop)) harr₂⟩
  | exit id => exact ⟨_, a₁, w₁, hq, .pass (x := .inLoop c) rfl (fun _ _ => .inl (by simp)) harr⟩
  | goto l => exact ⟨_, a₁, w₁, hq, .pass (x := .inLoop c) rfl (fun _ _ => .inl (by simp)) harr⟩
  | ret => exact ⟨_, a₁, w₁, hq, .pass (x := .inLoop c) rfl (fun _ _ => .inl (by simp)) harr⟩
  | panic ch => exact ⟨_, a₁, w₁, hq, .pass (x := .inLoop c) rfl (fun _ _ => .inl (by simp)) harr⟩
  | outgrown => exact ⟨_, a₁, w₁, hq, .pass (x := .inLoop c) rfl (fun _ _ => .inl (by simp)) harr⟩
theorem wpIn_inLoop {F : Fence} {n : Nat} {c : Code} {Q : Exit → Act → World → Prop} {a : Act} {w : World} (h : InLoop F n P c Q a w) : (Code.loop c).wpIn F n P Q a w := by
  intro b k cs hro hb hr
  obtain ⟨e, a', w', hq, harr⟩ := h b k cs hro hb hr
  exact ⟨e, a', w', hq, .of_steps (.one (fenced_calm hb hr rfl) stepR_loop) harr⟩
end
end Go.Abs
/-
  ABS 12: the loop's record, results, and the steps of soundness but for a region that draws.
-/
namespace Go.Abs
section
variable {P : Program} {n₀ : Nat} {ι ι' : Ren} {A A' W W' : World}

theorem RS.getLoop {l : Nat} {e : Ent} (he : ι l = some e) : RS P n₀ ι (LRel P) (Instr.getLoop l) (Instr.getLoop e.blk) := by
  unfold Instr.getLoop
  refine (RS.getObj he).bind fun ι1 l1 o o' ⟨_, ho⟩ => ?_
  unfold ObjRel at ho
  split at ho
  · exact RS.halt _
  · exact .pure ho
  · exact RS.halt _
  · exact ho.elim
theorem RS.enterLoop (fn fn' : FuncId) {ts ts' : Array Value} (h : Vs P ι ts ts') (ps : Array Tmp) (as bd : Code) (ha : codeOk as = true) (hb : codeOk bd = true) {ro ro' : Option Nat} (hro : RoRel ι ro ro') :
    RS P n₀ ι (fun κ r r' => (∃ e, κ r.1 = some e ∧ e.sh = 0 ∧ r'.1 = e.blk) ∧ DRel κ r.2 r'.2) (Instr.enterLoop fn ts ps as bd ro) (Instr.enterLoop fn' ts' ps as bd ro') := by
  unfold Instr.enterLoop
  have tail : ∀ {κ : Ren} (_ : ι.le κ) (dd : Nat) (de : Ent) (m m' : List Deferred), κ dd = some de → de.sh = 0 → DRel κ m m' → RS P n₀ κ (fun κ (r r' : Nat × List Deferred) => (∃ e, κ r.1 = some e ∧ e.sh = 0 ∧ r'.1 = e.blk) ∧ DRel κ r.2 r'.2)
      (do Pure.pure (← Go.newObj (.loop { state := .ready, pending := none, fn, tmps := ts, params := ps, assign := as, body := bd, defers := dd }), m))
      (do Pure.pure (← Go.newObj (.loop { state := .ready, pending := none, fn := fn', tmps := ts', params := ps, assign := as, body := bd, defers := de.blk }), m')) := by
    intro κ hle dd de m m' hd hs hm
    refine (RS.newOther (by intro _ _ _ h; cases h) fun κ' hle' => ?_).bind fun κ1 l1 r r' ⟨e, h1, h2, h3, _⟩ => .pure ⟨⟨e, h1, h3, h2.symm⟩, hm.mono l1⟩
    have hL : LRel P κ' { state := .ready, pending := none, fn, tmps := ts, params := ps, assign := as, body := bd, defers := dd } { state := .ready, pending := none, fn := fn', tmps := ts', params := ps, assign := as, body := bd, defers := de.blk } :=
      ⟨rfl, rfl, (h.mono hle).mono hle', rfl, rfl, rfl, ⟨ha, hb, fun c hc => by cases hc⟩, de, hle' _ _ hd, hs, rfl⟩
    exact hL
  rcases hro with ⟨rfl, rfl⟩ | ⟨l, e, rfl, he, hs, rfl⟩
  · simp only
    refine (RS.newOther (o := .deferred (some [])) (o' := .deferred (some [])) (by intro _ _ _ h; cases h) fun κ _ => (show (some [] : Option (List Deferred)) = some [] ∧ _ from ⟨rfl, .inl rfl⟩)).bind fun κ1 l1 r r' ⟨e, h1, h2, h3, _⟩ => ?_
    subst h2
    refine (RS.pure (R := fun κ (p p' : Nat × List Deferred) => p.1 = r ∧ p'.1 = e.blk ∧ DRel κ p.2 p'.2) ⟨rfl, rfl, (show DRel κ1 [{ target := .collected r, args := #[] }] [{ target := .collected e.blk, args := #[] }] from ⟨⟨r, e, rfl, rfl, h1, h3⟩, trivial⟩)⟩).bind fun κ2 l2 p p' ⟨q1, q2, q3⟩ => ?_
    obtain ⟨d, m⟩ := p
    obtain ⟨d', m'⟩ := p'
    simp only at q1 q2 q3
    subst q1; subst q2
    exact tail (l1.trans l2) d e m m' (l2 _ _ h1) h3 q3
  · simp only
    refine (RS.getLoop he).bind fun κ1 l1 r r' hr => ?_
    obtain ⟨e', h1, h2, h3⟩ := hr.defers
    refine (RS.pure (R := fun κ (p p' : Nat × List Deferred) => p.1 = r.defers ∧ p'.1 = e'.blk ∧ DRel κ p.2 p'.2) ⟨rfl, h3, (show DRel κ1 [] [] from trivial)⟩).bind fun κ2 l2 p p' ⟨q1, q2, q3⟩ => ?_
    obtain ⟨d, m⟩ := p
    obtain ⟨d', m'⟩ := p'
    simp only at q1 q2 q3
    subst q1; subst q2
    exact tail (l1.trans l2) _ e' m m' (l2 _ _ h1) h2 q3
theorem RS.beginRound {l : Nat} {e : Ent} (he : ι l = some e) (hs : e.sh = 0) : RS P n₀ ι (fun _ _ _ => True) (Instr.beginRound l) (Instr.beginRound e.blk) := by
  unfold Instr.beginRound
  refine (RS.getLoop he).bind fun κ1 l1 r r' hr => ?_
  refine (RS.setObj (l1 _ _ he) hs (q := .loop { r with state := .busy }) (q' := .loop { r' with state := .busy }) ?_).bind fun κ2 l2 _ _ _ => ?_
  · have hL : LRel P κ1 { r with state := .busy } { r' with state := .busy } := ⟨rfl, hr.pending, hr.tmps, hr.params, hr.assign, hr.body, hr.ok, hr.defers⟩
    exact hL
  · rw [hr.state]
    cases r.state with
    | ready => exact .pure trivial
    | _ => exact RS.never (runtimePanic_never _)
theorem RS.endRound {l : Nat} {e : Ent} (he : ι l = some e) (hs : e.sh = 0) (j : Option Code) (hj : ∀ c, j = some c → codeOk c = true) : RS P n₀ ι (VRel P) (Instr.endRound l j) (Instr.endRound e.blk j) := by
  unfold Instr.endRound
  refine (RS.getLoop he).bind fun κ1 l1 r r' hr => ?_
  refine (RS.setObj (l1 _ _ he) hs (q := .loop { r with state := if j.isNone then .ready else .done, pending := j }) (q' := .loop { r' with state := if j.isNone then .ready else .done, pending := j }) ?_).bind fun κ2 l2 _ _ _ => ?_
  · have hL : LRel P κ1 { r with state := if j.isNone then .ready else .done, pending := j } { r' with state := if j.isNone then .ready else .done, pending := j } := ⟨rfl, rfl, hr.tmps, hr.params, hr.assign, hr.body, ⟨hr.ok.1, hr.ok.2.1, hj⟩, hr.defers⟩
    exact hL
  · exact .pure (.bool _)
theorem RS.endLoop {l : Nat} {e : Ent} (he : ι l = some e) (hs : e.sh = 0) : RS P n₀ ι (fun _ r r' => r' = r ∧ ∀ c, r = some c → codeOk c = true) (Instr.endLoop l) (Instr.endLoop e.blk) := by
  unfold Instr.endLoop
  refine (RS.getLoop he).bind fun κ1 l1 r r' hr => ?_
  simp only
  rw [hr.state]
  split
  · exact RS.never (never_left (runtimePanic_never _))
  · refine (RS.setObj (l1 _ _ he) hs (q := .loop { r with state := .exhausted }) (q' := .loop { r' with state := .exhausted }) ?_).bind fun κ2 l2 _ _ _ => ?_
    · have hL : LRel P κ1 { r with state := .exhausted } { r' with state := .exhausted } := ⟨rfl, hr.pending, hr.tmps, hr.params, hr.assign, hr.body, hr.ok, hr.defers⟩
      exact hL
    · exact .pure ⟨hr.pending, hr.ok.2.2⟩
theorem RS.takeDeferred {r : Nat} {e : Ent} (he : ι r = some e) (hs : e.sh = 0) : RS P n₀ ι (fun _ r r' => r = [] → r' = []) (Instr.takeDeferred r) (Instr.takeDeferred e.blk) := by
  unfold Instr.takeDeferred
  refine (RS.getObj he).bind fun κ1 l1 o o' ⟨_, ho⟩ => ?_
  unfold ObjRel at ho
  split at ho
  · exact RS.halt _
  · exact RS.halt _
  · rename_i ds ds' _
    obtain ⟨h1, h2⟩ := ho
    subst h1
    cases ds' with
    | none => exact RS.halt _
    | some ds =>
      refine (RS.setObj (l1 _ _ he) hs (q := .deferred none) (q' := .deferred none) (show (none : Option (List Deferred)) = none ∧ _ from ⟨rfl, .inr rfl⟩)).bind fun κ2 l2 _ _ _ => ?_
      exact .pure (fun h => h)
  · exact ho.elim
theorem RS.asAddr {v v' : Value} (h : VRel P ι v v') : RS P n₀ ι ARel (Go.asAddr v) (Go.asAddr v') := by
  cases h with
  | ptr h => exact .pure h
  | ptr0 => exact RS.never (fun A r A' h => runtimePanic_never (α := Addr) .nilDeref A r A' h)
  | _ => exact RS.stuck _
theorem RS.results (fn : Func) {ts ts' : Array Value} (h : Vs P ι ts ts') : RS P n₀ ι (VRel P) (Go.results fn ts) (Go.results fn ts') := by
  unfold Go.results
  have hl : ∀ (l : List ResultVar) {κ : Ren} (_ : ι.le κ), RS P n₀ κ (Vl P)
      (l.mapM fun | .tmp t => (Pure.pure (ts.getD t undef) : Sem Value) | .cell a t => do Go.loadVar t (← Go.asAddr (ts.getD a undef)))
      (l.mapM fun | .tmp t => (Pure.pure (ts'.getD t undef) : Sem Value) | .cell a t => do Go.loadVar t (← Go.asAddr (ts'.getD a undef))) := by
    intro l
    induction l with
    | nil => intro κ _; exact .pure trivial
    | cons x l ih =>
      intro κ hle
      simp only [List.mapM_cons]
      refine RS.bind (R := VRel P) ?_ fun κ1 l1 a b hab => (ih (hle.trans l1)).bind fun κ2 l2 c d hcd => .pure (⟨hab.mono l2, hcd⟩ : Vl P κ2 (a :: c) (b :: d))
      cases x with
      | tmp t => exact .pure ((h.mono hle).getD t)
      | cell a t => exact (RS.asAddr ((h.mono hle).getD a)).bind fun _ _ _ _ hh => RS.loadVar t hh
  have hv : RS P n₀ ι (Vs P) (fn.results.mapM fun | .tmp t => (Pure.pure (ts.getD t undef) : Sem Value) | .cell a t => do Go.loadVar t (← Go.asAddr (ts.getD a undef)))
      (fn.results.mapM fun | .tmp t => (Pure.pure (ts'.getD t undef) : Sem Value) | .cell a t => do Go.loadVar t (← Go.asAddr (ts'.getD a undef))) := by
    rw [Array.mapM_eq_mapM_toList, Array.mapM_eq_mapM_toList]
    have ofl : ∀ {κ : Ren} {l l' : List Value}, Vl P κ l l' → Vs P κ l.toArray l'.toArray := by
      intro κ l
      induction l with
      | nil => intro l' h; cases l' with | nil => exact .empty | cons => exact h.elim
      | cons a l ih =>
        intro l' h
        cases l' with
        | nil => exact h.elim
        | cons b l' =>
          have := ih h.2
          refine ⟨by simpa using this.1, fun i x x' hx hx' => ?_⟩
          cases i with
          | zero => simp at hx hx'; subst hx; subst hx'; exact h.1
          | succ i => exact this.2 i x x' (by simpa using hx) (by simpa using hx')
    have hmap := (hl fn.results.toList (.refl ι)).bind (k := fun a => (Pure.pure a.toArray : Sem (Array Value))) (k' := fun a => Pure.pure a.toArray) fun κ l a b hab => RS.pure (R := Vs P) (ofl hab)
    simpa using hmap
  refine hv.bind fun κ l a b hab => ?_
  by_cases h1 : a.size = 1
  · have h2 : b.size = 1 := by rw [← hab.1]; exact h1
    simp only [h1, h2, dite_true]
    exact .pure (hab.2 0 _ _ (Array.getElem?_eq_getElem (by omega)) (Array.getElem?_eq_getElem (by omega)))
  · have h2 : ¬ b.size = 1 := by rw [← hab.1]; exact h1
    simp only [h1, h2, dite_false]
    exact .pure (.tupleVs hab)
end
end Go.Abs
/-
  ABS 13: soundness, step by step.
-/
namespace Go.Abs
section
variable {P : Program} {n₀ : Nat} {ι ι' : Ren} {A A' W W' : World} {L : Lvl}

theorem AOp.size {ρ : Operand → Value} {o : Oper} {nx : Next} (h : AOp P ρ o A nx A') : A.heap.size ≤ A'.heap.size := by
  rcases h with ⟨v, _, rfl, _⟩ | ⟨_, h⟩ | ⟨c, v, _, _, _, happ⟩ | ⟨_, _, _, _, _, _, _, _, _, _, _, _, _, _, rfl⟩ | ⟨_, _, _, _, _, _, _, _, _, _, _, _, rfl⟩
  · exact Nat.le_refl _
  · exact run_size P _ _ _ _ h
  · obtain ⟨elem, ie, z, base, sLen, sCap, x, n, _, _, _, ⟨_, new, _, h2, _⟩ | ⟨_, _, _, _, _, old, new, _, _, _, _, _, _, ⟨rfl, _⟩ | ⟨a, c, _, _, _, rfl⟩⟩⟩ := happ
    · exact run_size P _ _ _ _ h2
    · simp
    · simp
  · exact Nat.le_refl _
  · exact Nat.le_refl _
theorem operOk_notDefer {o : Oper} (h : operOk o = true) : ∀ c, o.op ≠ .defer c := by
  intro c hc
  simp [operOk, hc] at h

theorem op_size (hL : Snd P n₀ L) {o : Oper} {a : Act} {v : Value} {A1 : World} (h : RunOp P L o a A v A1) : A.heap.size ≤ A1.heap.size := by
  obtain ⟨nx, A2, hop, hnx⟩ := h
  have hs1 := hop.size
  cases nx <;> simp only at hnx
  case value u => obtain ⟨_, rfl⟩ := hnx; exact hs1
  case skip => obtain ⟨_, rfl⟩ := hnx; exact hs1
  case enter f xs => exact Nat.le_trans hs1 (hL.calls _ _ _ _ _ hnx).1
  case round l fn ts as bd => exact Nat.le_trans hs1 (hL.rounds _ _ _ _ _ _ _ hnx).1
theorem ops_size (hL : Snd P n₀ L) {ops : Array Oper} : ∀ (l : List Nat) (a a' : Act) (A A' : World), RunOps P L ops l a A a' A' → A.heap.size ≤ A'.heap.size := by
  intro l
  induction l with
  | nil => rintro a a' A A' ⟨rfl, rfl⟩; exact Nat.le_refl _
  | cons i rest ih =>
    intro a a' A A' h
    simp only [RunOps] at h
    split at h
    · exact ih _ _ _ _ h
    · split at h
      · obtain ⟨v, A1, hop, hrest⟩ := h
        exact Nat.le_trans (op_size hL hop) (ih _ _ _ _ hrest)
      · exact ih _ _ _ _ h
theorem snd_opOf (G : Good P) (hL : Snd P n₀ L) {o : Oper} {a b : Act} {v : Value} {A1 : World} (hok : operOk o = true) (h : RunOp P L o a A v A1) :
    A.heap.size ≤ A1.heap.size ∧ ∀ (ro : Option Nat) (K : Act → World → Prop) (Q : Exit → Act → World → Prop), Sim P n₀ ι A W → (∀ x ∈ o.op.operands, VRel P ι (a.eval x) (b.eval x)) → Free ι A A1 →
      (∀ ι1 v1 W1, Sim P n₀ ι1 A1 W1 → Moves P ι A W ι1 A1 W1 → VRel P ι1 v v1 → K (b.put o.dst v1) W1) → o.wpIn (wide ro) 0 P b W K Q := by
  obtain ⟨nx, A2, hop, hnx⟩ := h
  have hs1 := hop.size
  have hnd := operOk_notDefer hok
  have run : ∀ (ro : Option Nat), Oper.semAt ro b.eval o = execOp b.eval o := fun ro => Oper.semAt_eq ro b.eval o hnd
  cases nx <;> simp only at hnx
  case value u =>
    obtain ⟨rfl, rfl⟩ := hnx
    refine ⟨hs1, fun ro K Q S R F hK => ⟨fun _ _ => trivial, ?_⟩⟩
    obtain ⟨ι1, nx', W1, r1, S1, M1, N1⟩ := sim_op G R S hop F.2
    rw [run, r1]
    cases nx' <;> simp only [NRel] at N1
    exact hK ι1 _ W1 S1 M1 N1
  case skip =>
    obtain ⟨rfl, rfl⟩ := hnx
    refine ⟨hs1, fun ro K Q S R F hK => ⟨fun _ _ => trivial, ?_⟩⟩
    obtain ⟨ι1, nx', W1, r1, S1, M1, N1⟩ := sim_op G R S hop F.2
    rw [run, r1]
    cases nx' <;> simp only [NRel] at N1
    exact hK ι1 _ W1 S1 M1 .undef
  case enter f xs =>
    obtain ⟨hs2, hc⟩ := hL.calls _ _ _ _ _ hnx
    refine ⟨Nat.le_trans hs1 hs2, fun ro K Q S R F hK => ⟨fun _ _ => trivial, ?_⟩⟩
    obtain ⟨ι1, nx', W1, r1, S1, M1, N1⟩ := sim_op G R S hop (F.left hs1 hs2).2
    rw [run, r1]
    cases nx' <;> simp only [NRel] at N1
    obtain ⟨rfl, hxs⟩ := N1
    refine ⟨fun h => (by cases h), ?_⟩
    have hcall := hc ι1 W1 _ S1 hxs (F.right M1 hs2)
    refine CallsIn.mono (F := wide none) hcall ?_
    rintro e W2 ⟨ι2, v2, rfl, S2, M2, V2⟩
    exact hK ι2 v2 W2 S2 (M1.trans M2) V2
  case round l fn ts as bd =>
    obtain ⟨hs2, hc⟩ := hL.rounds _ _ _ _ _ _ _ hnx
    refine ⟨Nat.le_trans hs1 hs2, fun ro K Q S R F hK => ⟨fun _ _ => trivial, ?_⟩⟩
    obtain ⟨ι1, nx', W1, r1, S1, M1, N1⟩ := sim_op G R S hop (F.left hs1 hs2).2
    rw [run, r1]
    cases nx' <;> simp only [NRel] at N1
    obtain ⟨⟨e, he, hes, rfl⟩, hts, rfl, rfl, h1, h2⟩ := N1
    refine ⟨fun h => (by cases h), ?_⟩
    refine RoundIn.mono (hc h1 h2 ι1 W1 _ e _ ro he hes S1 hts (F.right M1 hs2)) ?_
    rintro e W2 ⟨ι2, v2, rfl, S2, M2, V2⟩
    exact hK ι2 v2 W2 S2 (M1.trans M2) V2

theorem snd_op (G : Good P) (hL : Snd P n₀ L) {o : Oper} {a b : Act} {v : Value} {A1 : World} (hok : operOk o = true) (h : RunOp P L o a A v A1) :
    A.heap.size ≤ A1.heap.size ∧ ∀ (ro : Option Nat) (K : Act → World → Prop) (Q : Exit → Act → World → Prop), Sim P n₀ ι A W → ARl P ι a b → Free ι A A1 →
      (∀ ι1 v1 W1, Sim P n₀ ι1 A1 W1 → Moves P ι A W ι1 A1 W1 → VRel P ι1 v v1 → K (b.put o.dst v1) W1) → o.wpIn (wide ro) 0 P b W K Q := by
  have hopn : ∀ x ∈ o.op.operands, opndOk x = true := by
    intro x hx
    simp only [operOk, Bool.and_eq_true, List.all_eq_true] at hok
    exact hok.1 x (by simpa using hx)
  obtain ⟨h1, h2⟩ := snd_opOf (ι := ι) (W := W) (b := b) G hL hok h
  exact ⟨h1, fun ro K Q S R F hK => h2 ro K Q S (fun x hx => R.eval (hopn x hx)) F hK⟩

theorem snd_ops (G : Good P) (hL : Snd P n₀ L) {ops : Array Oper} (hok : ∀ (i : Nat) (o : Oper), ops[i]? = some o → operOk o = true) : ∀ (l : List Nat) (a a' : Act) (A A' : World), RunOps P L ops l a A a' A' →
    A.heap.size ≤ A'.heap.size ∧ ∀ (ι : Ren) (W : World) (b : Act) (ro : Option Nat) (Q : Exit → Act → World → Prop), Sim P n₀ ι A W → ARl P ι a b → Free ι A A' →
      (∀ ι' b' W', Sim P n₀ ι' A' W' → Moves P ι A W ι' A' W' → ARl P ι' a' b' → Q .normal b' W') → wpOpsIn (wide ro) 0 P ops Q l b W := by
  intro l
  induction l with
  | nil =>
    rintro a a' A A' ⟨rfl, rfl⟩
    exact ⟨Nat.le_refl _, fun ι W b ro Q S R F hQ => hQ ι b W S .refl R⟩
  | cons i rest ih =>
    intro a a' A A' h
    simp only [RunOps] at h
    cases ho : ops[i]? with
    | none =>
      rw [ho] at h
      obtain ⟨h1, h2⟩ := ih a a' A A' h
      exact ⟨h1, fun ι W b ro Q S R F hQ => by simp only [wpOpsIn, ho]; exact h2 ι W b ro Q S R F hQ⟩
    | some o =>
      rw [ho] at h
      simp only at h
      by_cases hw : Region.wanted o (yielded ops a.tmps) = true
      · rw [if_pos hw] at h
        obtain ⟨v, A1, hop, hrest⟩ := h
        obtain ⟨s2, h2⟩ := ih _ _ _ _ hrest
        have s1 := (snd_op (ι := default) (W := default) (b := a) G hL (hok i o ho) hop).1
        refine ⟨Nat.le_trans s1 s2, fun ι W b ro Q S R F hQ => ?_⟩
        simp only [wpOpsIn, ho]
        rw [wanted_rel R, if_pos hw]
        refine (snd_op (ι := ι) (W := W) (b := b) G hL (hok i o ho) hop).2 ro _ Q S R (F.left s1 s2) fun ι1 v1 W1 S1 M1 V1 => ?_
        exact h2 ι1 W1 _ ro Q S1 ((R.mono M1.le).put o.dst V1) (F.right M1 s2) fun ι2 b2 W2 S2 M2 R2 => hQ ι2 b2 W2 S2 (M1.trans M2) R2
      · rw [if_neg hw] at h
        obtain ⟨h1, h2⟩ := ih _ _ _ _ h
        refine ⟨h1, fun ι W b ro Q S R F hQ => ?_⟩
        simp only [wpOpsIn, ho]
        rw [wanted_rel R, if_neg hw]
        exact ⟨fun _ _ => trivial, h2 ι W _ ro Q S (R.put o.dst .undef) F hQ⟩

theorem Post.trans {A1 W1 : World} {ι1 : Ren} (M : Moves P ι A W ι1 A1 W1) {e e' : Exit} {a' b : Act} {W' : World} (h : Post P n₀ ι1 A1 W1 e a' A' e' b W') : Post P n₀ ι A W e a' A' e' b W' := by
  obtain ⟨h1, ι2, S, M2, R⟩ := h
  exact ⟨h1, ι2, S, M.trans M2, R⟩

/-- What stands behind: normal, or it is left. -/
theorem snd_then {x : Code} {R : Act → World → Exit → Act → World → Prop} {Y : Act → World → (Exit → Act → World → Prop) → Prop} {e1 e : Exit} {a1 a' : Act} {A1 : World} {ro' : Option Nat} {b : Act}
    (hx : x.wpIn (wide ro') 0 P (Post P n₀ ι A W e1 a1 A1) b W) (ht : thenStep e1 a1 A1 R e a' A')
    (hY : e1 = .normal → ∀ ι1 b1 W1, Sim P n₀ ι1 A1 W1 → Moves P ι A W ι1 A1 W1 → ARl P ι1 a1 b1 → Y b1 W1 (Post P n₀ ι A W e a' A'))
    : x.wpIn (wide ro') 0 P (Exit.then (fun b1 W1 => Y b1 W1 (Post P n₀ ι A W e a' A')) (Post P n₀ ι A W e a' A')) b W := by
  refine wpIn_mono hx ?_
  rintro e' b1 W1 ⟨rfl, ι1, S1, M1, R1⟩
  cases e' with
  | normal => exact hY rfl ι1 b1 W1 S1 M1 R1
  | exit id => obtain ⟨rfl, rfl, rfl⟩ := ht; exact ⟨rfl, ι1, S1, M1, R1⟩
  | goto l => obtain ⟨rfl, rfl, rfl⟩ := ht; exact ⟨rfl, ι1, S1, M1, R1⟩
  | ret => obtain ⟨rfl, rfl, rfl⟩ := ht; exact ⟨rfl, ι1, S1, M1, R1⟩
  | panic c => obtain ⟨rfl, rfl, rfl⟩ := ht; exact ⟨rfl, ι1, S1, M1, R1⟩
  | outgrown => obtain ⟨rfl, rfl, rfl⟩ := ht; exact ⟨rfl, ι1, S1, M1, R1⟩
theorem then_size {R : Act → World → Exit → Act → World → Prop} {e1 e : Exit} {a1 a' : Act} {A1 : World} (ht : thenStep e1 a1 A1 R e a' A') (h : ∀ e a' A', R a1 A1 e a' A' → A1.heap.size ≤ A'.heap.size) : A1.heap.size ≤ A'.heap.size := by
  cases e1 with
  | normal => exact h _ _ _ ht
  | _ => obtain ⟨_, _, rfl⟩ := ht; exact Nat.le_refl _

theorem snd_loop (hL : Snd P n₀ L) {ro : Option Nat} {x : Code} {a : Act} {e : Exit} {a' : Act} (h : loopStep L ro x a A e a' A') : SndLoop P n₀ ro x a A e a' A' := by
  obtain ⟨e1, a1, A1, h1, ht⟩ := h
  obtain ⟨s1, c1⟩ := hL.codes _ _ _ _ _ _ _ h1
  have s2 := then_size ht fun e a' A' h => (hL.loops _ _ _ _ _ _ _ h).1
  refine ⟨Nat.le_trans s1 s2, fun hok ι W b ro' hro S R F => ?_⟩
  refine inLoop_step ?_
  refine snd_then (Y := fun b W Q => InLoop (wide ro') 0 P x Q b W) (c1 hok ι W b ro' hro S R (F.left s1 s2)) ht fun he ι1 b1 W1 S1 M1 R1 => ?_
  subst he
  have := (hL.loops _ _ _ _ _ _ _ ht).2 hok ι1 W1 b1 ro' (hro.mono M1.le) S1 R1 (F.right M1 s2)
  intro fr k cs q1 q2 q3
  obtain ⟨e', a2, W2, g1, g2⟩ := this fr k cs q1 q2 q3
  exact ⟨e', a2, W2, Post.trans M1 g1, g2⟩
end
end Go.Abs
