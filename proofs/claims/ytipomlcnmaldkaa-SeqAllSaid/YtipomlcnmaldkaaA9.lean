/-
  ABS 9: an operation of the canonical run, and that it is met on the other side.
-/
import Derived.Test.YtipomlcnmaldkaaA8
namespace Go.Abs

def NRel (P : Program) (ι : Ren) : Next → Next → Prop
  | .value v, .value v' => VRel P ι v v'
  | .skip, .skip => True
  | .enter f xs, .enter f' xs' => f' = f ∧ Vs P ι xs xs'
  | .round l _ ts as bd, .round l' _ ts' as' bd' => (∃ e, ι l = some e ∧ e.sh = 0 ∧ l' = e.blk) ∧ Vs P ι ts ts' ∧ as' = as ∧ bd' = bd ∧ codeOk as = true ∧ codeOk bd = true
  | _, _ => False

/-- Two of a kind, one of them nil. -/
def nilPair : Value → Value → Bool
  | .pointer a, .pointer b => a.isNone || b.isNone
  | .slice a _ _, .slice b _ _ => a.isNone || b.isNone
  | .map a, .map b => a.isNone || b.isNone
  | .func .., .nilFunc | .nilFunc, .func .. | .nilFunc, .nilFunc => true
  | _, _ => false
theorem nilPair_nil {a b : Value} (h : nilPair a b = true) : (isNil a || isNil b) = true := by
  unfold nilPair at h
  split at h
  · rename_i a b; cases a <;> cases b <;> simp_all [isNil]
  · rename_i a _ _ b _ _; cases a <;> cases b <;> simp_all [isNil]
  · rename_i a b; cases a <;> cases b <;> simp_all [isNil]
  · simp [isNil]
  · simp [isNil]
  · simp [isNil]
  · cases h
theorem nilPair_eql {a b : Value} (h : nilPair a b = true) (t : TypeId) : binOp .eql t a b = (do Pure.pure (.bool (← Op.equal t a b))) := by
  unfold nilPair at h
  split at h <;> first | rfl | cases h
theorem nilPair_neq {a b : Value} (h : nilPair a b = true) (t : TypeId) : binOp .neq t a b = (do Pure.pure (.bool (!(← Op.equal t a b)))) := by
  unfold nilPair at h
  split at h <;> first | rfl | cases h
theorem nilPair_guard {a b : Value} (h : nilPair a b = true) (op : BinOp) (t : TypeId) (x y : Operand) (ho : op = .eql ∨ op = .neq) : eqGuard op t x y a b = Pure.pure () := by
  unfold nilPair at h
  rcases ho with rfl | rfl <;> (split at h <;> first | rfl | cases h)

/-- What is asked of a plain operation beside its run. -/
def RegOk (P : Program) (A : World) (ρ : Operand → Value) : Op → Prop
  | .move _ | .assign _ | .pick .. | .alloc _ | .box .. | .build .. | .buildSlice .. | .load .. | .store .. | .extract .. | .field .. | .index .. | .indexAddr .. | .makeSlice .. | .makeMap .. | .nilCheck _ => True
  | .makeFunc fn _ _ => ∃ f, fn = .func f
  | .fieldAddr s _ k => ∀ fs f, P.underlying s = some (.struct fs) → fs[k]? = some f → P.cellsOf f.type ≠ 0
  | .slice t x _ _ _ => (∀ a l c, ρ x = .slice a l c → l ≤ c) ∧ (∀ e, P.underlying t ≠ some (.pointer e)) ∧
      ∀ elem, P.underlying t = some (.slice elem) → ∀ a l c, ρ x = .slice (some a) l c → ∃ cs t' fz, A.heap[a.block]? = some (.cells cs t' fz) ∧ fz ≠ (2, 0) ∧ (fz = (1, 0) → P.cellsOf elem = P.cellsOf t')
  | .binOp .eql _ x y _ | .binOp .neq _ x y _ => nilPair (ρ x) (ρ y) = true
  | .lookup t _ k _ => KeyOk P t (ρ k)
  | .mapUpdate t _ k _ => KeyOk P t (ρ k)
  | .call c => c.callee = .builtin .len ∨ c.callee = .builtin .copy ∨ c.callee = .builtin .clear ∨ (c.callee = .builtin .delete ∧ ∀ mt k, c.argTypes[0]? = some mt → (c.args.map ρ)[1]? = some k → KeyOk P mt k)
  | _ => False

section
variable {P : Program} {n₀ : Nat} {ι ι' : Ren} {A A' W W' : World}

def GrAll (P : Program) (ι : Ren) (ρ : Operand → Value) : Op → Prop
  | .slice t x _ _ _ => ∀ elem, P.underlying t = some (.slice elem) → GrOk P ι elem (ρ x)
  | _ => True
theorem GrAll.of (S : Sim P n₀ ι A W) {ρ : Operand → Value} {op : Op} (h : RegOk P A ρ op) : GrAll P ι ρ op := by
  cases op <;> try trivial
  rename_i t x lo hi mx
  intro elem hu a l c e t' N hx he hg
  obtain ⟨cs, t2, fz, h1, h2, h3⟩ := h.2.2 elem hu a l c hx
  rcases S.obj _ _ _ he h1 with ⟨h, _⟩ | ⟨_, _, _, _, _, _, _, h5, h6⟩
  · exact absurd h h2
  · by_cases hf : fz = (1, 0)
    · have := h5 hf; rw [hg] at this; cases this; exact h3 hf
    · rw [h6 hf] at hg; cases hg

theorem RS.val {s s' : Sem Value} (h : RS P n₀ ι (VRel P) s s') : RS P n₀ ι (NRel P) (do Pure.pure (.value (← s))) (do Pure.pure (.value (← s'))) :=
  h.bind fun _ _ _ _ hv => .pure hv
theorem RS.unit {s s' : Sem Unit} (h : RS P n₀ ι (fun _ _ _ => True) s s') : RS P n₀ ι (NRel P) (do s; Pure.pure .skip) (do s'; Pure.pure .skip) :=
  h.bind fun _ _ _ _ _ => .pure trivial
theorem ORelV.map {ρ ρ' : Operand → Value} (o : Option Operand) (h : ∀ x ∈ o.toArray, VRel P ι (ρ x) (ρ' x)) : ORelV P ι (o.map ρ) (o.map ρ') := by
  cases o with
  | none => exact .inl ⟨rfl, rfl⟩
  | some x => exact .inr ⟨_, _, rfl, rfl, h x (by simp)⟩
theorem Ps.map {ρ ρ' : Operand → Value} (ps : Array (Nat × Operand)) (h : ∀ x ∈ (ps.toList.map (·.2)).toArray, VRel P ι (ρ x) (ρ' x)) : Ps P ι (ps.map fun (i, x) => (i, ρ x)) (ps.map fun (i, x) => (i, ρ' x)) := by
  refine ⟨by simp, fun i x x' hx hx' => ?_⟩
  simp only [Array.toList_map, List.getElem?_map] at hx hx'
  cases hp : ps.toList[i]? with
  | none => rw [hp] at hx; cases hx
  | some p =>
    rw [hp] at hx hx'
    cases hx; cases hx'
    refine ⟨rfl, h p.2 ?_⟩
    have := List.mem_of_getElem? hp
    simp only [List.mem_toArray, List.mem_map]
    exact ⟨p, this, rfl⟩

theorem VRel.nilPair {a a' b b' : Value} (ha : VRel P ι a a') (hb : VRel P ι b b') (h : Abs.nilPair a b = true) : Abs.nilPair a' b' = true := by
  cases ha <;> cases hb <;> first | (exfalso; revert h; simp only [Abs.nilPair]; decide) | rfl | exact h
theorem RS.binNil {op : BinOp} (ho : op = .eql ∨ op = .neq) (t : TypeId) (x y : Operand) {a a' b b' : Value} (ha : VRel P ι a a') (hb : VRel P ι b b') (h : Abs.nilPair a b = true) :
    RS P n₀ ι (VRel P) (do eqGuard op t x y a b; binOp op t a b) (do eqGuard op t x y a' b'; binOp op t a' b') := by
  have h' := VRel.nilPair ha hb h
  rw [nilPair_guard h op t x y ho, nilPair_guard h' op t x y ho]
  rcases ho with rfl | rfl
  · rw [nilPair_eql h, nilPair_eql h']
    exact (RS.pure (R := fun _ _ _ => True) trivial).bind fun _ l _ _ _ => (RS.eqNil t (ha.mono l) (hb.mono l) (nilPair_nil h)).bind fun _ _ r r' hr => by subst hr; exact .pure (.bool _)
  · rw [nilPair_neq h, nilPair_neq h']
    exact (RS.pure (R := fun _ _ _ => True) trivial).bind fun _ l _ _ _ => (RS.eqNil t (ha.mono l) (hb.mono l) (nilPair_nil h)).bind fun _ _ r r' hr => by subst hr; exact .pure (.bool _)

theorem RS.reg (G : Good P) {ρ ρ' : Operand → Value} {o : Oper} (hρ : ∀ x ∈ o.op.operands, VRel P ι (ρ x) (ρ' x)) (hok : RegOk P A ρ o.op) (hgr : GrAll P ι ρ o.op) : RS P n₀ ι (NRel P) (execOp ρ o) (execOp ρ' o) := by
  obtain ⟨dst, op, type, pos, after, guard⟩ := o
  simp only at hρ hok hgr
  cases op <;> simp only [RegOk] at hok <;> simp only [Op.operands] at hρ <;> simp only [execOp]
  case move x => exact .pure (hρ x (by simp))
  case assign x => exact .pure (hρ x (by simp))
  case pick c a b =>
    refine (RS.asBool (hρ c (by simp))).bind fun _ l r r' hr => ?_
    subst hr
    cases r' with
    | true => exact .pure ((hρ a (by simp)).mono l)
    | false => exact .pure ((hρ b (by simp)).mono l)
  case alloc t => exact RS.val (RS.instrAlloc G t)
  case box t x => exact RS.val (RS.instrBox t (hρ x (by simp)))
  case build t ps => exact RS.val (RS.build G t (Ps.map ps hρ))
  case buildSlice t n ps => exact RS.val (RS.buildSlice G t n (Ps.map ps hρ))
  case load t x => exact RS.val (RS.instrLoad t (hρ x (by simp)))
  case store t x y => exact RS.unit (RS.instrStore t (hρ x (by simp)) (hρ y (by simp)))
  case nilCheck x =>
    have hx := hρ x (by simp)
    generalize ρ x = v at hx
    generalize ρ' x = v' at hx
    cases hx with
    | ptr0 => exact RS.never (runtimePanic_never _)
    | iface0 => exact RS.never (runtimePanic_never _)
    | func0 => exact RS.never (runtimePanic_never _)
    | func hf h1 h2 h3 h4 =>
      cases hf with
      | func f => exact .pure (VRel.func (.func f) h1 h2 h3 h4)
      | yield a b => exact .pure (VRel.func (.yield a b) h1 h2 h3 h4)
    | bool b => exact .pure (VRel.bool b)
    | int k n => exact .pure (VRel.int k n)
    | float k n => exact .pure (VRel.float k n)
    | complex k a b => exact .pure (VRel.complex k a b)
    | string s => exact .pure (VRel.string s)
    | ptr h => exact .pure (VRel.ptr h)
    | slice0 l c => exact .pure (VRel.slice0 l c)
    | slice h => exact .pure (VRel.slice h)
    | map0 => exact .pure VRel.map0
    | chan0 => exact .pure VRel.chan0
    | map a b => exact .pure (VRel.map a b)
    | iface t h => exact .pure (VRel.iface t h)
    | agg a b => exact .pure (VRel.agg a b)
    | tuple a b => exact .pure (VRel.tuple a b)
  case binOp op t x y yt =>
    have e : op = .eql ∨ op = .neq := by cases op <;> simp_all
    have h : Abs.nilPair (ρ x) (ρ y) = true := by rcases e with rfl | rfl <;> exact hok
    exact RS.val (RS.binNil e t x y (hρ x (by simp)) (hρ y (by simp)) h)
  case makeFunc fn first cap =>
    obtain ⟨f, rfl⟩ := hok
    exact RS.val (RS.makeFunc (.func f) (Vs.map first ρ ρ' fun x hx => hρ x (by simp [hx])) (Vs.map cap ρ ρ' fun x hx => hρ x (by simp [hx])))
  case makeMap t r => exact RS.val (RS.makeMap t (ORelV.map r hρ))
  case makeSlice t l c => exact RS.val (RS.makeSlice G t (hρ l (by simp)) (hρ c (by simp)))
  case slice t x lo hi mx =>
    obtain ⟨h1, h2, _⟩ := hok
    exact RS.val (RS.sliceAt t (hρ x (by simp)) (ORelV.map lo fun y hy => hρ y (by simp at hy ⊢; simp [hy])) (ORelV.map hi fun y hy => hρ y (by simp at hy ⊢; simp [hy])) (ORelV.map mx fun y hy => hρ y (by simp at hy ⊢; simp [hy])) h1 hgr h2)
  case fieldAddr t x k => exact RS.val (RS.fieldAt t (hρ x (by simp)) k hok)
  case field t x k => exact RS.val (RS.field t (hρ x (by simp)) k)
  case indexAddr t x i => exact RS.val (RS.indexAt t (hρ x (by simp)) (hρ i (by simp)))
  case index t x i => exact RS.val (RS.index t (hρ x (by simp)) (hρ i (by simp)))
  case extract x i => exact RS.val (RS.extract (hρ x (by simp)) i)
  case call c =>
    obtain ⟨callee, args, ats⟩ := c
    simp only at hok
    have ha : Vs P ι (args.map ρ) (args.map ρ') := Vs.map _ _ _ fun x hx => hρ x (by simp [Call.operands, hx])
    rcases hok with rfl | rfl | rfl | ⟨rfl, hd⟩
    · exact RS.val (RS.len _ _ ha)
    · exact RS.val (RS.copy _ _ ha)
    · exact RS.val (RS.clear G _ _ ha)
    · exact RS.val (RS.delete _ _ ha hd)
  case lookup t x k ok => exact RS.val (RS.lookup G t (hρ x (by simp)) (hρ k (by simp)) ok hok)
  case mapUpdate t m k x => exact RS.unit (RS.mapUpdate t (hρ m (by simp)) (hρ k (by simp)) (hρ x (by simp)) hok)
end
end Go.Abs
