/-
  ABS 11: the canonical run of code, by levels; and what the machine does at a related world. (A region that draws its order: ABS 12.)
-/
import Derived.Test.YtipomlcnmaldkaaA10
namespace Go.Abs

abbrev wide (ro : Option Nat) : Fence := { Fence.wide with round := ro }

structure Lvl where
  calls : FuncId → Array Value → World → Value → World → Prop
  rounds : Nat → Array Value → Code → Code → World → Value → World → Prop
  codes : Option Nat → Code → Act → World → Exit → Act → World → Prop
  loops : Option Nat → Code → Act → World → Exit → Act → World → Prop

section
variable (P : Program)

/-- One operation, and what it calls. -/
def RunOp (L : Lvl) (o : Oper) (a : Act) (A : World) (v : Value) (A' : World) : Prop :=
  ∃ nx A1, AOp P a.eval o A nx A1 ∧ match nx with
    | .value u => v = u ∧ A' = A1
    | .skip => v = undef ∧ A' = A1
    | .enter f xs => L.calls f xs A1 v A'
    | .round l _ ts as bd => L.rounds l ts as bd A1 v A'
    | _ => False

def RunOps (L : Lvl) (ops : Array Oper) : List Nat → Act → World → Act → World → Prop
  | [], a, A, a', A' => a' = a ∧ A' = A
  | i :: rest, a, A, a', A' =>
    match ops[i]? with
    | none => RunOps L ops rest a A a' A'
    | some o => if Region.wanted o (yielded ops a.tmps) then ∃ v A1, RunOp P L o a A v A1 ∧ RunOps L ops rest (a.put o.dst v) A1 a' A' else RunOps L ops rest (a.put o.dst undef) A a' A'

/-- Every mark among the deferred calls is taken, and there was nothing behind it. -/
def Marks : List Deferred → World → World → Prop
  | [], A, A' => A' = A
  | d :: ds, A, A' => ∃ r A1, d.target = .collected r ∧ (Instr.takeDeferred r).run P A = .ok [] A1 ∧ Marks ds A1 A'

def callStep (L : Lvl) (f : FuncId) (xs : Array Value) (A : World) (v : Value) (A' : World) : Prop :=
  ∃ fn c e a1 A1, P.funcs[f]? = some fn ∧ fn.body = some c ∧ L.codes none c { tmps := xs ++ Array.replicate (fn.ntmps - xs.size) undef, defers := [] } A e a1 A1 ∧
    (e = .normal ∨ e = .ret) ∧ Marks P a1.defers A1 A' ∧ (results fn a1.tmps).run P A' = .ok v A'

/-- What a round hands to 'endRound'. -/
def jumpOf : Exit → Option (Option Code)
  | .normal => some none
  | .ret => some (some .ret)
  | .exit id => some (some (.exit id))
  | .goto t => some (some (.goto t))
  | _ => none
def roundStep (L : Lvl) (l : Nat) (ts : Array Value) (as bd : Code) (A : World) (v : Value) (A' : World) : Prop :=
  ∃ a1 A1 A2 e a3 A3 j, L.codes (some l) as { tmps := ts, defers := [] } A .normal a1 A1 ∧ (Instr.beginRound l).run P A1 = .ok () A2 ∧ L.codes (some l) bd a1 A2 e a3 A3 ∧
    jumpOf e = some j ∧ (Instr.endRound l j).run P A3 = .ok v A'

def RunRange (L : Lvl) (ro : Option Nat) (g : Operand) (ps : Array Tmp) (as bd : Code) (a : Act) (A : World) (e : Exit) (a' : Act) (A' : World) : Prop :=
  ∃ l mark A1 f first cap fn code v A2 jump A3, (Instr.enterLoop 0 a.tmps ps as bd ro).run P A = .ok (l, mark) A1 ∧ a.eval g = .func (.func f) first cap ∧ P.funcs[f]? = some fn ∧ fn.body = some code ∧
    (fn.name == "runtime.NumGoroutine") = false ∧ L.calls f (first ++ #[.func (.yield l) #[] #[]] ++ cap) A1 v A2 ∧ (Instr.endLoop l).run P A2 = .ok jump A3 ∧
    match jump with
    | none => e = .normal ∧ a' = { a with defers := mark ++ a.defers } ∧ A' = A3
    | some c => L.codes ro c { a with defers := mark ++ a.defers } A3 e a' A'

def thenStep (e1 : Exit) (a1 : Act) (A1 : World) (R : Act → World → Exit → Act → World → Prop) (e : Exit) (a' : Act) (A' : World) : Prop :=
  match e1 with
  | .normal => R a1 A1 e a' A'
  | _ => e = e1 ∧ a' = a1 ∧ A' = A1
def inBlk (id : Nat) : Exit → Exit
  | .exit i => if i = id then .normal else .exit i
  | e => e
def codeStep (L : Lvl) (draw : Lvl → Array Oper → Act → World → Act → World → Prop) (ro : Option Nat) (c : Code) (a : Act) (A : World) (e : Exit) (a' : Act) (A' : World) : Prop :=
  match c with
  | .skip | .label _ => e = .normal ∧ a' = a ∧ A' = A
  | .seq x y => ∃ e1 a1 A1, L.codes ro x a A e1 a1 A1 ∧ thenStep e1 a1 A1 (L.codes ro y) e a' A'
  | .cond c x y => ∃ b, a.eval c = .bool b ∧ L.codes ro (if b then x else y) a A e a' A'
  | .block id x => ∃ e1, L.codes ro x a A e1 a' A' ∧ e = inBlk id e1
  | .loop x => L.loops ro x a A e a' A'
  | .exit id => e = .exit id ∧ a' = a ∧ A' = A
  | .goto l => e = .goto l ∧ a' = a ∧ A' = A
  | .ret => e = .ret ∧ a' = a ∧ A' = A
  | .region _ ops false => e = .normal ∧ RunOps P L ops (List.range ops.size) a A a' A'
  | .region _ ops true => e = .normal ∧ draw L ops a A a' A'
  | .rangeFunc g ps as bd => RunRange P L ro g ps as bd a A e a' A'
  | .scope _ | .refuse _ => False
def loopStep (L : Lvl) (ro : Option Nat) (x : Code) (a : Act) (A : World) (e : Exit) (a' : Act) (A' : World) : Prop :=
  ∃ e1 a1 A1, L.codes ro x a A e1 a1 A1 ∧ thenStep e1 a1 A1 (L.loops ro x) e a' A'
end

section
variable {P : Program} {n₀ : Nat} {ι ι' : Ren} {A A' W W' : World}

def DRel (ι : Ren) : List Deferred → List Deferred → Prop
  | [], [] => True
  | d :: ds, d' :: ds' => (∃ r e, d.target = .collected r ∧ d'.target = .collected e.blk ∧ ι r = some e ∧ e.sh = 0) ∧ DRel ι ds ds'
  | _, _ => False
theorem DRel.mono (h : ι.le ι') : ∀ {l l' : List Deferred}, DRel ι l l' → DRel ι' l l'
  | [], [], _ => trivial
  | _ :: _, _ :: _, ⟨⟨r, e, a, b, c, d⟩, k⟩ => ⟨⟨r, e, a, b, h _ _ c, d⟩, DRel.mono h k⟩
theorem DRel.append : ∀ {l l' m m' : List Deferred}, DRel ι l l' → DRel ι m m' → DRel ι (l ++ m) (l' ++ m')
  | [], [], _, _, _, h => h
  | _ :: _, _ :: _, _, _, ⟨a, k⟩, h => ⟨a, DRel.append k h⟩
structure ARl (P : Program) (ι : Ren) (a a' : Act) : Prop where
  tmps : Vs P ι a.tmps a'.tmps
  defers : DRel ι a.defers a'.defers
theorem ARl.mono (h : ι.le ι') {a a' : Act} (r : ARl P ι a a') : ARl P ι' a a' := ⟨r.tmps.mono h, r.defers.mono h⟩
theorem ARl.put {a a' : Act} (r : ARl P ι a a') (d : Option Tmp) {v v' : Value} (hv : VRel P ι v v') : ARl P ι (a.put d v) (a'.put d v') := by
  cases d with
  | none => exact r
  | some d => exact ⟨r.tmps.set d hv, r.defers⟩

theorem ARl.eval {a a' : Act} (r : ARl P ι a a') {x : Operand} (h : opndOk x = true) : VRel P ι (a.eval x) (a'.eval x) := by
  cases x with
  | tmp t => exact r.tmps.getD t
  | const v => exact .of_plain h
  | global g => cases h
  | func f => exact .func (.func f) rfl rfl (fun i x x' h => by simp at h) (fun i x x' h => by simp at h)
theorem yielded_rel {a a' : Act} (r : ARl P ι a a') (ops : Array Oper) (j : Nat) : yielded ops a'.tmps j = yielded ops a.tmps j := by
  unfold yielded
  cases h : (ops[j]?).bind (·.dst) with
  | none => rfl
  | some d =>
    simp only [Option.bind_some]
    cases hd : a.tmps[d]? with
    | none => rw [r.tmps.none_at hd]
    | some v =>
      obtain ⟨v', h1, h2⟩ := r.tmps.at hd
      rw [h1]
      cases h2 <;> rfl
theorem wanted_rel {a a' : Act} (r : ARl P ι a a') (ops : Array Oper) (o : Oper) : Region.wanted o (yielded ops a'.tmps) = Region.wanted o (yielded ops a.tmps) := by
  have : yielded ops a'.tmps = yielded ops a.tmps := funext fun j => yielded_rel r ops j
  rw [this]

/-- What is promised of a run that has ended in e, a', A'. -/
def Post (P : Program) (n₀ : Nat) (ι : Ren) (A W : World) (e : Exit) (a' : Act) (A' : World) : Exit → Act → World → Prop :=
  fun e' b W' => e' = e ∧ ∃ ι', Sim P n₀ ι' A' W' ∧ Moves P ι A W ι' A' W' ∧ ARl P ι' a' b
def PostV (P : Program) (n₀ : Nat) (ι : Ren) (A W : World) (v : Value) (A' : World) : Ending → World → Prop :=
  fun e W' => ∃ ι' v', e = .returned v' ∧ Sim P n₀ ι' A' W' ∧ Moves P ι A W ι' A' W' ∧ VRel P ι' v v'

def Free (ι : Ren) (A A' : World) : Prop := A.heap.size ≤ A'.heap.size ∧ ∀ b, A.heap.size ≤ b → b < A'.heap.size → ι b = none
theorem Free.left {A1 : World} (h : Free ι A A') (h1 : A.heap.size ≤ A1.heap.size) (h2 : A1.heap.size ≤ A'.heap.size) : Free ι A A1 := ⟨h1, fun b x y => h.2 b x (by omega)⟩
theorem Free.right {A1 : World} {W W1 : World} {ι1 : Ren} (h : Free ι A A') (M : Moves P ι A W ι1 A1 W1) (h2 : A1.heap.size ≤ A'.heap.size) : Free ι1 A1 A' := ⟨h2, fun b x y => by
  have h0 := h.2 b (Nat.le_trans M.asz x) y
  cases hb : ι1 b with
  | none => rfl
  | some e => have := M.news b e h0 hb; omega⟩

def SndCall (P : Program) (n₀ : Nat) (f : FuncId) (xs : Array Value) (A : World) (v : Value) (A' : World) : Prop :=
  A.heap.size ≤ A'.heap.size ∧ ∀ ι W xs', Sim P n₀ ι A W → Vs P ι xs xs' → Free ι A A' → CallsIn (wide none) 0 P f xs' W (PostV P n₀ ι A W v A')
def SndRound (P : Program) (n₀ : Nat) (l : Nat) (ts : Array Value) (as bd : Code) (A : World) (v : Value) (A' : World) : Prop :=
  A.heap.size ≤ A'.heap.size ∧ (codeOk as = true → codeOk bd = true → ∀ ι W ts' e fn ro, ι l = some e → e.sh = 0 → Sim P n₀ ι A W → Vs P ι ts ts' → Free ι A A' → RoundIn (wide ro) 0 P e.blk fn ts' as bd W (PostV P n₀ ι A W v A'))
def RoRel (ι : Ren) (ro ro' : Option Nat) : Prop := (ro = none ∧ ro' = none) ∨ ∃ l e, ro = some l ∧ ι l = some e ∧ e.sh = 0 ∧ ro' = some e.blk
theorem RoRel.mono (h : ι.le ι') {ro ro' : Option Nat} (r : RoRel ι ro ro') : RoRel ι' ro ro' := by
  rcases r with r | ⟨l, e, a, b, c, d⟩
  · exact .inl r
  · exact .inr ⟨l, e, a, h _ _ b, c, d⟩
def SndCode (P : Program) (n₀ : Nat) (ro : Option Nat) (c : Code) (a : Act) (A : World) (e : Exit) (a' : Act) (A' : World) : Prop :=
  A.heap.size ≤ A'.heap.size ∧ (codeOk c = true → ∀ ι W b ro', RoRel ι ro ro' → Sim P n₀ ι A W → ARl P ι a b → Free ι A A' → c.wpIn (wide ro') 0 P (Post P n₀ ι A W e a' A') b W)
/-- 'the loop's body, then the loop', as the machine has it. -/
def InLoop (F : Fence) (n : Nat) (P : Program) (c : Code) (Q : Exit → Act → World → Prop) (a : Act) (w : World) : Prop :=
  ∀ (b : Frame) (k : List Item) (cs : List Frame), b.roundOf = F.round → F.fn b.fn → F.room (cs.length + 1 + n) →
    ∃ e a' w', Q e a' w' ∧ ArrivesIn (Machine.fenced P F) P (lone (b.atR a (.code c :: .inLoop c :: k)) cs w) b k cs e a' w'
def SndLoop (P : Program) (n₀ : Nat) (ro : Option Nat) (c : Code) (a : Act) (A : World) (e : Exit) (a' : Act) (A' : World) : Prop :=
  A.heap.size ≤ A'.heap.size ∧ (codeOk c = true → ∀ ι W b ro', RoRel ι ro ro' → Sim P n₀ ι A W → ARl P ι a b → Free ι A A' → InLoop (wide ro') 0 P c (Post P n₀ ι A W e a' A') b W)

structure Snd (P : Program) (n₀ : Nat) (L : Lvl) : Prop where
  calls : ∀ f xs A v A', L.calls f xs A v A' → SndCall P n₀ f xs A v A'
  rounds : ∀ l ts as bd A v A', L.rounds l ts as bd A v A' → SndRound P n₀ l ts as bd A v A'
  codes : ∀ ro c a A e a' A', L.codes ro c a A e a' A' → SndCode P n₀ ro c a A e a' A'
  loops : ∀ ro c a A e a' A', L.loops ro c a A e a' A' → SndLoop P n₀ ro c a A e a' A'

theorem inLoop_step {F : Fence} {n : Nat} {c : Code} {Q : Exit → Act → World → Prop} {a : Act} {w : World} (h : c.wpIn F n P (Exit.then (InLoop F n P c Q) Q) a w) : InLoop F n P c Q a w := by
  intro b k cs hro hb hr
  obtain ⟨e, a₁, w₁, hq, harr⟩ := h b (.inLoop c :: k) cs hro hb hr
  cases e with
  | normal =>
    obtain ⟨e₂, a₂, w₂, hq₂, harr₂⟩ := hq b k cs hro hb hr
    exact ⟨e₂, a₂, w₂, hq₂, .of_steps (StepsIn.trans harr (.one (fenced_calm hb hr rfl) stepR_inLoop)) harr₂⟩
  | exit id => exact ⟨_, a₁, w₁, hq, .pass (x := .inLoop c) rfl (fun _ _ => .inl (by simp)) harr⟩
  | goto l => exact ⟨_, a₁, w₁, hq, .pass (x := .inLoop c) rfl (fun _ _ => .inl (by simp)) harr⟩
  | ret => exact ⟨_, a₁, w₁, hq, .pass (x := .inLoop c) rfl (fun _ _ => .inl (by simp)) harr⟩
  | panic ch => exact ⟨_, a₁, w₁, hq, .pass (x := .inLoop c) rfl (fun _ _ => .inl (by simp)) harr⟩
  | outgrown => exact ⟨_, a₁, w₁, hq, .pass (x := .inLoop c) rfl (fun _ _ => .inl (by simp)) harr⟩
theorem wpIn_inLoop {F : Fence} {n : Nat} {c : Code} {Q : Exit → Act → World → Prop} {a : Act} {w : World} (h : InLoop F n P c Q a w) : (Code.loop c).wpIn F n P Q a w := by
  intro b k cs hro hb hr
  obtain ⟨e, a', w', hq, harr⟩ := h b k cs hro hb hr
  exact ⟨e, a', w', hq, .of_steps (.one (fenced_calm hb hr rfl) stepR_loop) harr⟩
end
end Go.Abs
