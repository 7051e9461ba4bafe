/-
  A11.
-/
import Derived.Test.YtagidoadfajpgaaGreatN4
namespace Go.Abs
abbrev wide (ro : Option Nat) : Fence := { Fence.wide with round := ro }
structure Lvl where
 calls : FuncId -> Array Value -> World -> Value -> World -> Prop
 rounds : Nat -> Array Value -> Code -> Code -> World -> Value -> World -> Prop
 codes : Option Nat -> Code -> Act -> World -> Exit -> Act -> World -> Prop
 loops : Option Nat -> Code -> Act -> World -> Exit -> Act -> World -> Prop
section
variable (P : Program)
def Z5 (L : Lvl) (o : Oper) (a : Act) (A : World) (v : Value) (A' : World) : Prop :=
 ∃ nx A1, AOp P a.eval o A nx A1 /\ match nx with
  | .value u => v = u /\ A' = A1
  | .skip => v = undef /\ A' = A1
  | .enter f xs => L.calls f xs A1 v A'
  | .round l _ ts as bd => L.rounds l ts as bd A1 v A'
  | _ => False
def P1 (L : Lvl) (ops : Array Oper) : List Nat -> Act -> World -> Act -> World -> Prop
 | [], a, A, a', A' => a' = a /\ A' = A
 | i :: rest, a, A, a', A' =>
  match ops[i]? with
  | none => P1 L ops rest a A a' A'
  | some o => if Region.wanted o (yielded ops a.tmps) then ∃ v A1, Z5 P L o a A v A1 /\ P1 L ops rest (a.put o.dst v) A1 a' A' else P1 L ops rest (a.put o.dst undef) A a' A'
def b1a : List Deferred -> World -> World -> Prop
 | [], A, A' => A' = A
 | d :: ds, A, A' => ∃ r A1, d.target = .collected r /\ (Instr.takeDeferred r).run P A = .ok [] A1 /\ b1a ds A1 A'
def a6t (L : Lvl) (f : FuncId) (xs : Array Value) (A : World) (v : Value) (A' : World) : Prop :=
 ∃ fn c e a1 A1, P.funcs[f]? = some fn /\ fn.body = some c /\ L.codes none c { tmps := xs ++ Array.replicate (fn.ntmps - xs.size) undef, defers := [] } A e a1 A1 /\
  (e = .normal ∨ e = .ret) /\ b1a P a1.defers A1 A' /\ (results fn a1.tmps).run P A' = .ok v A'
def a3G : Exit -> Option (Option Code)
 | .normal => some none
 | .ret => some (some .ret)
 | .exit id => some (some (.exit id))
 | .goto t => some (some (.goto t))
 | _ => none
def a3r (L : Lvl) (l : Nat) (ts : Array Value) (as bd : Code) (A : World) (v : Value) (A' : World) : Prop :=
 ∃ a1 A1 A2 e a3 A3 j, L.codes (some l) as { tmps := ts, defers := [] } A .normal a1 A1 /\ (Instr.beginRound l).run P A1 = .ok () A2 /\ L.codes (some l) bd a1 A2 e a3 A3 /\
  a3G e = some j /\ (Instr.endRound l j).run P A3 = .ok v A'
def a6E (L : Lvl) (ro : Option Nat) (g : Operand) (ps : Array Tmp) (as bd : Code) (a : Act) (A : World) (e : Exit) (a' : Act) (A' : World) : Prop :=
 ∃ l mark A1 f first cap fn code v A2 jump A3, (Instr.enterLoop 0 a.tmps ps as bd ro).run P A = .ok (l, mark) A1 /\ a.eval g = .func (.func f) first cap /\ P.funcs[f]? = some fn /\ fn.body = some code /\
  (fn.name == "runtime.NumGoroutine") = false /\ L.calls f (first ++ #[.func (.yield l) #[] #[]] ++ cap) A1 v A2 /\ (Instr.endLoop l).run P A2 = .ok jump A3 /\
  match jump with
  | none => e = .normal /\ a' = { a with defers := mark ++ a.defers } /\ A' = A3
  | some c => L.codes ro c { a with defers := mark ++ a.defers } A3 e a' A'
def Q7 (e1 : Exit) (a1 : Act) (A1 : World) (R : Act -> World -> Exit -> Act -> World -> Prop) (e : Exit) (a' : Act) (A' : World) : Prop :=
 match e1 with
 | .normal => R a1 A1 e a' A'
 | _ => e = e1 /\ a' = a1 /\ A' = A1
def a3L (id : Nat) : Exit -> Exit
 | .exit i => if i = id then .normal else .exit i
 | e => e
def a2P (L : Lvl) (draw : Lvl -> Array Oper -> Act -> World -> Act -> World -> Prop) (ro : Option Nat) (c : Code) (a : Act) (A : World) (e : Exit) (a' : Act) (A' : World) : Prop :=
 match c with
 | .skip | .label _ => e = .normal /\ a' = a /\ A' = A
 | .seq x y => ∃ e1 a1 A1, L.codes ro x a A e1 a1 A1 /\ Q7 e1 a1 A1 (L.codes ro y) e a' A'
 | .cond c x y => ∃ b, a.eval c = .bool b /\ L.codes ro (if b then x else y) a A e a' A'
 | .block id x => ∃ e1, L.codes ro x a A e1 a' A' /\ e = a3L id e1
 | .loop x => L.loops ro x a A e a' A'
 | .exit id => e = .exit id /\ a' = a /\ A' = A
 | .goto l => e = .goto l /\ a' = a /\ A' = A
 | .ret => e = .ret /\ a' = a /\ A' = A
 | .region _ ops false => e = .normal /\ P1 P L ops (List.range ops.size) a A a' A'
 | .region _ ops true => e = .normal /\ draw L ops a A a' A'
 | .rangeFunc g ps as bd => a6E P L ro g ps as bd a A e a' A'
 | .scope _ | .refuse _ => False
def a56 (L : Lvl) (ro : Option Nat) (x : Code) (a : Act) (A : World) (e : Exit) (a' : Act) (A' : World) : Prop :=
 ∃ e1 a1 A1, L.codes ro x a A e1 a1 A1 /\ Q7 e1 a1 A1 (L.loops ro x) e a' A'
end
section
variable {P : Program} {nO : Nat} {ι ι' : Ren} {A A' W W' : World}
def a2W (ι : Ren) : List Deferred -> List Deferred -> Prop
 | [], [] => True
 | d :: ds, d' :: ds' => (∃ r e, d.target = .collected r /\ d'.target = .collected e.blk /\ ι r = some e /\ e.sh = 0) /\ a2W ι ds ds'
 | _, _ => False
theorem a2W.mono (h : ι.le ι') : ∀ {l l' : List Deferred}, a2W ι l l' -> a2W ι' l l'
 | [], [], _ => trivial
 | _ :: _, _ :: _, ⟨⟨r, e, a, b, c, d⟩, k⟩ => ⟨⟨r, e, a, b, h _ _ c, d⟩, a2W.mono h k⟩
theorem a2W.append : ∀ {l l' m m' : List Deferred}, a2W ι l l' -> a2W ι m m' -> a2W ι (l ++ m) (l' ++ m')
 | [], [], _, _, _, h => h
 | _ :: _, _ :: _, _, _, ⟨a, k⟩, h => ⟨a, a2W.append k h⟩
structure ARl (P : Program) (ι : Ren) (a a' : Act) : Prop where
 tmps : Vs P ι a.tmps a'.tmps
 defers : a2W ι a.defers a'.defers
theorem ARl.mono (h : ι.le ι') {a a' : Act} (r : ARl P ι a a') : ARl P ι' a a' := ⟨r.tmps.mono h, r.defers.mono h⟩
theorem ARl.put {a a' : Act} (r : ARl P ι a a') (d : Option Tmp) {v v' : Value} (hv : VRel P ι v v') : ARl P ι (a.put d v) (a'.put d v') := by
 cases d with
 | none => exact r
 | some d => exact ⟨r.tmps.set d hv, r.defers⟩
theorem ARl.eval {a a' : Act} (r : ARl P ι a a') {x : Operand} (h : a3x x = true) : VRel P ι (a.eval x) (a'.eval x) := by
 cases x with
 | tmp t => exact r.tmps.getD t
 | const v => exact .of_plain h
 | global g => cases h
 | func f => exact .func (.func f) rfl rfl (fun i x x' h => by simp at h) (fun i x x' h => by simp at h)
theorem a4n {a a' : Act} (r : ARl P ι a a') (ops : Array Oper) (j : Nat) : yielded ops a'.tmps j = yielded ops a.tmps j := by
 unfold yielded
 cases h : (ops[j]?).bind (·.dst) with
 | none => rfl
 | some d =>
  simp only [Option.bind_some]
  cases hd : a.tmps[d]? with
  | none => rw [r.tmps.none_at hd]
  | some v =>
   obtain ⟨v', h1, h2⟩ := r.tmps.at hd
   rw [h1]
   cases h2 <;> rfl
theorem V5 {a a' : Act} (r : ARl P ι a a') (ops : Array Oper) (o : Oper) : Region.wanted o (yielded ops a'.tmps) = Region.wanted o (yielded ops a.tmps) := by
 have : yielded ops a'.tmps = yielded ops a.tmps := funext fun j => a4n r ops j
 rw [this]
def a4k (P : Program) (nO : Nat) (ι : Ren) (A W : World) (e : Exit) (a' : Act) (A' : World) : Exit -> Act -> World -> Prop :=
 fun e' b W' => e' = e /\ ∃ ι', Sim P nO ι' A' W' /\ Moves P ι A W ι' A' W' /\ ARl P ι' a' b
def b09 (P : Program) (nO : Nat) (ι : Ren) (A W : World) (v : Value) (A' : World) : Ending -> World -> Prop :=
 fun e W' => ∃ ι' v', e = .returned v' /\ Sim P nO ι' A' W' /\ Moves P ι A W ι' A' W' /\ VRel P ι' v v'
def a4h (ι : Ren) (A A' : World) : Prop := A.heap.size <= A'.heap.size /\ ∀ b, A.heap.size <= b -> b < A'.heap.size -> ι b = none
theorem a4h.left {A1 : World} (h : a4h ι A A') (h1 : A.heap.size <= A1.heap.size) (h2 : A1.heap.size <= A'.heap.size) : a4h ι A A1 := ⟨h1, fun b x y => h.2 b x (by omega)⟩
theorem a4h.right {A1 W W1 : World} {ι1 : Ren} (h : a4h ι A A') (M : Moves P ι A W ι1 A1 W1) (h2 : A1.heap.size <= A'.heap.size) : a4h ι1 A1 A' := ⟨h2, fun b x y => by
 have h0 := h.2 b (Nat.le_trans M.asz x) y
 cases hb : ι1 b with
 | none => rfl
 | some e => have := M.news b e h0 hb; omega⟩
def u9 (P : Program) (nO : Nat) (f : FuncId) (xs : Array Value) (A : World) (v : Value) (A' : World) : Prop :=
 A.heap.size <= A'.heap.size /\ ∀ ι W xs', Sim P nO ι A W -> Vs P ι xs xs' -> a4h ι A A' -> CallsIn (wide none) 0 P f xs' W (b09 P nO ι A W v A')
def O4 (P : Program) (nO : Nat) (l : Nat) (ts : Array Value) (as bd : Code) (A : World) (v : Value) (A' : World) : Prop :=
 A.heap.size <= A'.heap.size /\ (l0 as = true -> l0 bd = true -> ∀ ι W ts' e fn ro, ι l = some e -> e.sh = 0 -> Sim P nO ι A W -> Vs P ι ts ts' -> a4h ι A A' -> RoundIn (wide ro) 0 P e.blk fn ts' as bd W (b09 P nO ι A W v A'))
def a5n (ι : Ren) (ro ro' : Option Nat) : Prop := (ro = none /\ ro' = none) ∨ ∃ l e, ro = some l /\ ι l = some e /\ e.sh = 0 /\ ro' = some e.blk
theorem a5n.mono (h : ι.le ι') {ro ro' : Option Nat} (r : a5n ι ro ro') : a5n ι' ro ro' := by
 rcases r with r | ⟨l, e, a, b, c, d⟩
 ·exact .inl r
 ·exact .inr ⟨l, e, a, h _ _ b, c, d⟩
def Q2 (P : Program) (nO : Nat) (ro : Option Nat) (c : Code) (a : Act) (A : World) (e : Exit) (a' : Act) (A' : World) : Prop :=
 A.heap.size <= A'.heap.size /\ (l0 c = true -> ∀ ι W b ro', a5n ι ro ro' -> Sim P nO ι A W -> ARl P ι a b -> a4h ι A A' -> c.wpIn (wide ro') 0 P (a4k P nO ι A W e a' A') b W)
def a4g (F : Fence) (n : Nat) (P : Program) (c : Code) (Q : Exit -> Act -> World -> Prop) (a : Act) (w : World) : Prop :=
 ∀ (b : Frame) (k : List Item) (cs : List Frame), b.roundOf = F.round -> F.fn b.fn -> F.room (cs.length + 1 + n) ->
  ∃ e a' w', Q e a' w' /\ ArrivesIn (Machine.fenced P F) P (lone (b.atR a (.code c :: .inLoop c :: k)) cs w) b k cs e a' w'
def Z4 (P : Program) (nO : Nat) (ro : Option Nat) (c : Code) (a : Act) (A : World) (e : Exit) (a' : Act) (A' : World) : Prop :=
 A.heap.size <= A'.heap.size /\ (l0 c = true -> ∀ ι W b ro', a5n ι ro ro' -> Sim P nO ι A W -> ARl P ι a b -> a4h ι A A' -> a4g (wide ro') 0 P c (a4k P nO ι A W e a' A') b W)
structure Snd (P : Program) (nO : Nat) (L : Lvl) : Prop where
 calls : ∀ f xs A v A', L.calls f xs A v A' -> u9 P nO f xs A v A'
 rounds : ∀ l ts as bd A v A', L.rounds l ts as bd A v A' -> O4 P nO l ts as bd A v A'
 codes : ∀ ro c a A e a' A', L.codes ro c a A e a' A' -> Q2 P nO ro c a A e a' A'
 loops : ∀ ro c a A e a' A', L.loops ro c a A e a' A' -> Z4 P nO ro c a A e a' A'
theorem a4Q {F : Fence} {n : Nat} {c : Code} {Q : Exit -> Act -> World -> Prop} {a : Act} {w : World} (h : c.wpIn F n P (Exit.then (a4g F n P c Q) Q) a w) : a4g F n P c Q a w := by
 intro b k cs hro hb hr
 obtain ⟨e, a₁, w₁, hq, harr⟩ := h b (.inLoop c :: k) cs hro hb hr
 cases e with
 | normal =>
  obtain ⟨e₂, a₂, w₂, hq₂, harr₂⟩ := hq b k cs hro hb hr
  exact ⟨e₂, a₂, w₂, hq₂, .of_steps (StepsIn.trans harr (.one (fenced_calm hb hr rfl) stepR_inLoop)) harr₂⟩
 | exit id => exact ⟨_, a₁, w₁, hq, .pass (x := .inLoop c) rfl (fun _ _ => .inl (by simp)) harr⟩
 | goto l => exact ⟨_, a₁, w₁, hq, .pass (x := .inLoop c) rfl (fun _ _ => .inl (by simp)) harr⟩
 | ret => exact ⟨_, a₁, w₁, hq, .pass (x := .inLoop c) rfl (fun _ _ => .inl (by simp)) harr⟩
 | panic ch => exact ⟨_, a₁, w₁, hq, .pass (x := .inLoop c) rfl (fun _ _ => .inl (by simp)) harr⟩
 | outgrown => exact ⟨_, a₁, w₁, hq, .pass (x := .inLoop c) rfl (fun _ _ => .inl (by simp)) harr⟩
theorem a4p {F : Fence} {n : Nat} {c : Code} {Q : Exit -> Act -> World -> Prop} {a : Act} {w : World} (h : a4g F n P c Q a w) : (Code.loop c).wpIn F n P Q a w := by
 intro b k cs hro hb hr
 obtain ⟨e, a', w', hq, harr⟩ := h b k cs hro hb hr
 exact ⟨e, a', w', hq, .of_steps (.one (fenced_calm hb hr rfl) stepR_loop) harr⟩
end
end Go.Abs
namespace Go.Abs
section
variable {P : Program} {nO : Nat} {ι ι' : Ren} {A A' W W' : World}
theorem RS.getLoop {l : Nat} {e : Ent} (he : ι l = some e) : RS P nO ι (LRel P) (Instr.getLoop l) (Instr.getLoop e.blk) := by
 unfold Instr.getLoop
 refine (RS.getObj he).bind fun ι1 l1 o o' ⟨_, ho⟩ => ?_
 unfold z1 at ho
 split at ho
 ·exact RS.halt _
 ·exact .pure ho
 ·exact RS.halt _
 ·exact ho.elim
theorem RS.enterLoop (fn fn' : FuncId) {ts ts' : Array Value} (h : Vs P ι ts ts') (ps : Array Tmp) (as bd : Code) (ha : l0 as = true) (hb : l0 bd = true) {ro ro' : Option Nat} (hro : a5n ι ro ro') :
  RS P nO ι (fun κ r r' => (∃ e, κ r.1 = some e /\ e.sh = 0 /\ r'.1 = e.blk) /\ a2W κ r.2 r'.2) (Instr.enterLoop fn ts ps as bd ro) (Instr.enterLoop fn' ts' ps as bd ro') := by
 unfold Instr.enterLoop
 have tail : ∀ {κ : Ren} (_ : ι.le κ) (dd : Nat) (de : Ent) (m m' : List Deferred), κ dd = some de -> de.sh = 0 -> a2W κ m m' -> RS P nO κ (fun κ (r r' : Nat × List Deferred) => (∃ e, κ r.1 = some e /\ e.sh = 0 /\ r'.1 = e.blk) /\ a2W κ r.2 r'.2)
   (do Pure.pure (<- Go.newObj (.loop { state := .ready, pending := none, fn, tmps := ts, params := ps, assign := as, body := bd, defers := dd }), m))
   (do Pure.pure (<- Go.newObj (.loop { state := .ready, pending := none, fn := fn', tmps := ts', params := ps, assign := as, body := bd, defers := de.blk }), m')) := by
  intro κ hle dd de m m' hd hs hm
  refine (RS.newOther (by intro _ _ _ h; cases h) fun κ' hle' => ?_).bind fun κ1 l1 r r' ⟨e, h1, h2, h3, _⟩ => .pure ⟨⟨e, h1, h3, h2.symm⟩, hm.mono l1⟩
  have hL : LRel P κ' { state := .ready, pending := none, fn, tmps := ts, params := ps, assign := as, body := bd, defers := dd } { state := .ready, pending := none, fn := fn', tmps := ts', params := ps, assign := as, body := bd, defers := de.blk } :=
   ⟨rfl, rfl, (h.mono hle).mono hle', rfl, rfl, rfl, ⟨ha, hb, fun c hc => by cases hc⟩, de, hle' _ _ hd, hs, rfl⟩
  exact hL
 rcases hro with ⟨rfl, rfl⟩ | ⟨l, e, rfl, he, hs, rfl⟩
 ·simp only
  refine (RS.newOther (o := .deferred (some [])) (o' := .deferred (some [])) (by intro _ _ _ h; cases h) fun κ _ => (show (some [] : Option (List Deferred)) = some [] /\ _ from ⟨rfl, .inl rfl⟩)).bind fun κ1 l1 r r' ⟨e, h1, h2, h3, _⟩ => ?_
  subst h2
  refine (RS.pure (R := fun κ (p p' : Nat × List Deferred) => p.1 = r /\ p'.1 = e.blk /\ a2W κ p.2 p'.2) ⟨rfl, rfl, (show a2W κ1 [{ target := .collected r, args := #[] }] [{ target := .collected e.blk, args := #[] }] from ⟨⟨r, e, rfl, rfl, h1, h3⟩, trivial⟩)⟩).bind fun κ2 l2 p p' ⟨q1, q2, q3⟩ => ?_
  obtain ⟨d, m⟩ := p
  obtain ⟨d', m'⟩ := p'
  simp only at q1 q2 q3
  subst q1; subst q2
  exact tail (l1.trans l2) d e m m' (l2 _ _ h1) h3 q3
 ·simp only
  refine (RS.getLoop he).bind fun κ1 l1 r r' hr => ?_
  obtain ⟨e', h1, h2, h3⟩ := hr.defers
  refine (RS.pure (R := fun κ (p p' : Nat × List Deferred) => p.1 = r.defers /\ p'.1 = e'.blk /\ a2W κ p.2 p'.2) ⟨rfl, h3, (show a2W κ1 [] [] from trivial)⟩).bind fun κ2 l2 p p' ⟨q1, q2, q3⟩ => ?_
  obtain ⟨d, m⟩ := p
  obtain ⟨d', m'⟩ := p'
  simp only at q1 q2 q3
  subst q1; subst q2
  exact tail (l1.trans l2) _ e' m m' (l2 _ _ h1) h2 q3
theorem RS.beginRound {l : Nat} {e : Ent} (he : ι l = some e) (hs : e.sh = 0) : RS P nO ι (fun _ _ _ => True) (Instr.beginRound l) (Instr.beginRound e.blk) := by
 unfold Instr.beginRound
 refine (RS.getLoop he).bind fun κ1 l1 r r' hr => ?_
 refine (RS.setObj (l1 _ _ he) hs (q := .loop { r with state := .busy }) (q' := .loop { r' with state := .busy }) ?_).bind fun κ2 l2 _ _ _ => ?_
 ·have hL : LRel P κ1 { r with state := .busy } { r' with state := .busy } := ⟨rfl, hr.pending, hr.tmps, hr.params, hr.assign, hr.body, hr.ok, hr.defers⟩
  exact hL
 ·rw [hr.state]
  cases r.state with
  | ready => exact .pure trivial
  | _ => exact RS.never (b9 _)
theorem RS.endRound {l : Nat} {e : Ent} (he : ι l = some e) (hs : e.sh = 0) (j : Option Code) (hj : ∀ c, j = some c -> l0 c = true) : RS P nO ι (VRel P) (Instr.endRound l j) (Instr.endRound e.blk j) := by
 unfold Instr.endRound
 refine (RS.getLoop he).bind fun κ1 l1 r r' hr => ?_
 refine (RS.setObj (l1 _ _ he) hs (q := .loop { r with state := if j.isNone then .ready else .done, pending := j }) (q' := .loop { r' with state := if j.isNone then .ready else .done, pending := j }) ?_).bind fun κ2 l2 _ _ _ => ?_
 ·have hL : LRel P κ1 { r with state := if j.isNone then .ready else .done, pending := j } { r' with state := if j.isNone then .ready else .done, pending := j } := ⟨rfl, rfl, hr.tmps, hr.params, hr.assign, hr.body, ⟨hr.ok.1, hr.ok.2.1, hj⟩, hr.defers⟩
  exact hL
 ·exact .pure (.bool _)
theorem RS.endLoop {l : Nat} {e : Ent} (he : ι l = some e) (hs : e.sh = 0) : RS P nO ι (fun _ r r' => r' = r /\ ∀ c, r = some c -> l0 c = true) (Instr.endLoop l) (Instr.endLoop e.blk) := by
 unfold Instr.endLoop
 refine (RS.getLoop he).bind fun κ1 l1 r r' hr => ?_
 simp only
 rw [hr.state]
 split
 ·exact RS.never (N5 (b9 _))
 ·refine (RS.setObj (l1 _ _ he) hs (q := .loop { r with state := .exhausted }) (q' := .loop { r' with state := .exhausted }) ?_).bind fun κ2 l2 _ _ _ => ?_
  ·have hL : LRel P κ1 { r with state := .exhausted } { r' with state := .exhausted } := ⟨rfl, hr.pending, hr.tmps, hr.params, hr.assign, hr.body, hr.ok, hr.defers⟩
   exact hL
  ·exact .pure ⟨hr.pending, hr.ok.2.2⟩
theorem RS.takeDeferred {r : Nat} {e : Ent} (he : ι r = some e) (hs : e.sh = 0) : RS P nO ι (fun _ r r' => r = [] -> r' = []) (Instr.takeDeferred r) (Instr.takeDeferred e.blk) := by
 unfold Instr.takeDeferred
 refine (RS.getObj he).bind fun κ1 l1 o o' ⟨_, ho⟩ => ?_
 unfold z1 at ho
 split at ho
 ·exact RS.halt _
 ·exact RS.halt _
 ·rename_i ds ds' _
  obtain ⟨h1, h2⟩ := ho
  subst h1
  cases ds' with
  | none => exact RS.halt _
  | some ds =>
   refine (RS.setObj (l1 _ _ he) hs (q := .deferred none) (q' := .deferred none) (show (none : Option (List Deferred)) = none /\ _ from ⟨rfl, .inr rfl⟩)).bind fun κ2 l2 _ _ _ => ?_
   exact .pure (fun h => h)
 ·exact ho.elim
theorem RS.asAddr {v v' : Value} (h : VRel P ι v v') : RS P nO ι a1m (Go.asAddr v) (Go.asAddr v') := by
 cases h with
 | ptr h => exact .pure h
 | ptr0 => exact RS.never (fun A r A' h => b9 (α := Addr) .nilDeref A r A' h)
 | _ => exact RS.stuck _
theorem RS.results (fn : Func) {ts ts' : Array Value} (h : Vs P ι ts ts') : RS P nO ι (VRel P) (Go.results fn ts) (Go.results fn ts') := by
 unfold Go.results
 have hl : ∀ (l : List ResultVar) {κ : Ren} (_ : ι.le κ), RS P nO κ (Vl P)
   (l.mapM fun | .tmp t => (Pure.pure (ts.getD t undef) : Sem Value) | .cell a t => do Go.loadVar t (<- Go.asAddr (ts.getD a undef)))
   (l.mapM fun | .tmp t => (Pure.pure (ts'.getD t undef) : Sem Value) | .cell a t => do Go.loadVar t (<- Go.asAddr (ts'.getD a undef))) := by
  intro l
  induction l with
  | nil => intro κ _; exact .pure trivial
  | cons x l ih =>
   intro κ hle
   simp only [List.mapM_cons]
   refine RS.bind (R := VRel P) ?_ fun κ1 l1 a b hab => (ih (hle.trans l1)).bind fun κ2 l2 c d hcd => .pure (⟨hab.mono l2, hcd⟩ : Vl P κ2 (a :: c) (b :: d))
   cases x with
   | tmp t => exact .pure ((h.mono hle).getD t)
   | cell a t => exact (RS.asAddr ((h.mono hle).getD a)).bind fun _ _ _ _ hh => RS.loadVar t hh
 have hv : RS P nO ι (Vs P) (fn.results.mapM fun | .tmp t => (Pure.pure (ts.getD t undef) : Sem Value) | .cell a t => do Go.loadVar t (<- Go.asAddr (ts.getD a undef)))
   (fn.results.mapM fun | .tmp t => (Pure.pure (ts'.getD t undef) : Sem Value) | .cell a t => do Go.loadVar t (<- Go.asAddr (ts'.getD a undef))) := by
  rw [Array.mapM_eq_mapM_toList, Array.mapM_eq_mapM_toList]
  have ofl : ∀ {κ : Ren} {l l' : List Value}, Vl P κ l l' -> Vs P κ l.toArray l'.toArray := by
   intro κ l
   induction l with
   | nil => intro l' h; cases l' with | nil => exact .empty | cons => exact h.elim
   | cons a l ih =>
    intro l' h
    cases l' with
    | nil => exact h.elim
    | cons b l' =>
     have := ih h.2
     refine ⟨by simpa using this.1, fun i x x' hx hx' => ?_⟩
     cases i with
     | zero => simp at hx hx'; subst hx; subst hx'; exact h.1
     | succ i => exact this.2 i x x' (by simpa using hx) (by simpa using hx')
  have hmap := (hl fn.results.toList (.refl ι)).bind (k := fun a => (Pure.pure a.toArray : Sem (Array Value))) (k' := fun a => Pure.pure a.toArray) fun κ l a b hab => RS.pure (R := Vs P) (ofl hab)
  simpa using hmap
 refine hv.bind fun κ l a b hab => ?_
 by_cases h1 : a.size = 1
 ·have h2 : b.size = 1 := by rw [<- hab.1]; exact h1
  simp only [h1, h2, dite_true]
  exact .pure (hab.2 0 _ _ (Array.getElem?_eq_getElem (by omega)) (Array.getElem?_eq_getElem (by omega)))
 ·have h2 : ¬ b.size = 1 := by rw [<- hab.1]; exact h1
  simp only [h1, h2, dite_false]
  exact .pure (.tupleVs hab)
end
end Go.Abs
namespace Go.Abs
section
variable {P : Program} {nO : Nat} {ι ι' : Ren} {A A' W W' : World} {L : Lvl}
theorem AOp.size {ρ : Operand -> Value} {o : Oper} {nx : Next} (h : AOp P ρ o A nx A') : A.heap.size <= A'.heap.size := by
 rcases h with ⟨v, _, rfl, _⟩ | ⟨_, h⟩ | ⟨c, v, _, _, _, happ⟩ | ⟨_, _, _, _, _, _, _, _, _, _, _, _, _, _, rfl⟩ | ⟨_, _, _, _, _, _, _, _, _, _, _, _, rfl⟩
 ·exact Nat.le_refl _
 ·exact x9 P _ _ _ _ h
 ·obtain ⟨elem, ie, z, base, sLen, sCap, x, n, _, _, _, ⟨_, new, _, h2, _⟩ | ⟨_, _, _, _, _, old, new, _, _, _, _, _, _, ⟨rfl, _⟩ | ⟨a, c, _, _, _, rfl⟩⟩⟩ := happ
  ·exact x9 P _ _ _ _ h2
  ·simp
  ·simp
 ·exact Nat.le_refl _
 ·exact Nat.le_refl _
theorem L2 {o : Oper} (h : J9 o = true) : ∀ c, o.op ≠ .defer c := by
 intro c hc
 simp [J9, hc] at h
theorem a85 (hL : Snd P nO L) {o : Oper} {a : Act} {v : Value} {A1 : World} (h : Z5 P L o a A v A1) : A.heap.size <= A1.heap.size := by
 obtain ⟨nx, A2, hop, hnx⟩ := h
 have hs1 := hop.size
 cases nx <;> simp only at hnx
 case value u => obtain ⟨_, rfl⟩ := hnx; exact hs1
 case skip => obtain ⟨_, rfl⟩ := hnx; exact hs1
 case enter f xs => exact Nat.le_trans hs1 (hL.calls _ _ _ _ _ hnx).1
 case round l fn ts as bd => exact Nat.le_trans hs1 (hL.rounds _ _ _ _ _ _ _ hnx).1
theorem b2d (hL : Snd P nO L) {ops : Array Oper} : ∀ (l : List Nat) (a a' : Act) (A A' : World), P1 P L ops l a A a' A' -> A.heap.size <= A'.heap.size := by
 intro l
 induction l with
 | nil => rintro a a' A A' ⟨rfl, rfl⟩; exact Nat.le_refl _
 | cons i rest ih =>
  intro a a' A A' h
  simp only [P1] at h
  split at h
  ·exact ih _ _ _ _ h
  ·split at h
   ·obtain ⟨v, A1, hop, hrest⟩ := h
    exact Nat.le_trans (a85 hL hop) (ih _ _ _ _ hrest)
   ·exact ih _ _ _ _ h
theorem a19 (G : Good P) (hL : Snd P nO L) {o : Oper} {a b : Act} {v : Value} {A1 : World} (hok : J9 o = true) (h : Z5 P L o a A v A1) :
  A.heap.size <= A1.heap.size /\ ∀ (ro : Option Nat) (K : Act -> World -> Prop) (Q : Exit -> Act -> World -> Prop), Sim P nO ι A W -> (∀ x ∈ o.op.operands, VRel P ι (a.eval x) (b.eval x)) -> a4h ι A A1 ->
   (∀ ι1 v1 W1, Sim P nO ι1 A1 W1 -> Moves P ι A W ι1 A1 W1 -> VRel P ι1 v v1 -> K (b.put o.dst v1) W1) -> o.wpIn (wide ro) 0 P b W K Q := by
 obtain ⟨nx, A2, hop, hnx⟩ := h
 have hs1 := hop.size
 have hnd := L2 hok
 have run : ∀ (ro : Option Nat), Oper.semAt ro b.eval o = execOp b.eval o := fun ro => Oper.semAt_eq ro b.eval o hnd
 cases nx <;> simp only at hnx
 case value u =>
  obtain ⟨rfl, rfl⟩ := hnx
  refine ⟨hs1, fun ro K Q S R F hK => ⟨fun _ _ => trivial, ?_⟩⟩
  obtain ⟨ι1, nx', W1, r1, S1, M1, N1⟩ := a5F G R S hop F.2
  rw [run, r1]
  cases nx' <;> simp only [b3G] at N1
  exact hK ι1 _ W1 S1 M1 N1
 case skip =>
  obtain ⟨rfl, rfl⟩ := hnx
  refine ⟨hs1, fun ro K Q S R F hK => ⟨fun _ _ => trivial, ?_⟩⟩
  obtain ⟨ι1, nx', W1, r1, S1, M1, N1⟩ := a5F G R S hop F.2
  rw [run, r1]
  cases nx' <;> simp only [b3G] at N1
  exact hK ι1 _ W1 S1 M1 .undef
 case enter f xs =>
  obtain ⟨hs2, hc⟩ := hL.calls _ _ _ _ _ hnx
  refine ⟨Nat.le_trans hs1 hs2, fun ro K Q S R F hK => ⟨fun _ _ => trivial, ?_⟩⟩
  obtain ⟨ι1, nx', W1, r1, S1, M1, N1⟩ := a5F G R S hop (F.left hs1 hs2).2
  rw [run, r1]
  cases nx' <;> simp only [b3G] at N1
  obtain ⟨rfl, hxs⟩ := N1
  refine ⟨fun h => (by cases h), ?_⟩
  have hcall := hc ι1 W1 _ S1 hxs (F.right M1 hs2)
  refine CallsIn.mono (F := wide none) hcall ?_
  rintro e W2 ⟨ι2, v2, rfl, S2, M2, V2⟩
  exact hK ι2 v2 W2 S2 (M1.trans M2) V2
 case round l fn ts as bd =>
  obtain ⟨hs2, hc⟩ := hL.rounds _ _ _ _ _ _ _ hnx
  refine ⟨Nat.le_trans hs1 hs2, fun ro K Q S R F hK => ⟨fun _ _ => trivial, ?_⟩⟩
  obtain ⟨ι1, nx', W1, r1, S1, M1, N1⟩ := a5F G R S hop (F.left hs1 hs2).2
  rw [run, r1]
  cases nx' <;> simp only [b3G] at N1
  obtain ⟨⟨e, he, hes, rfl⟩, hts, rfl, rfl, h1, h2⟩ := N1
  refine ⟨fun h => (by cases h), ?_⟩
  refine RoundIn.mono (hc h1 h2 ι1 W1 _ e _ ro he hes S1 hts (F.right M1 hs2)) ?_
  rintro e W2 ⟨ι2, v2, rfl, S2, M2, V2⟩
  exact hK ι2 v2 W2 S2 (M1.trans M2) V2
theorem b3Q (G : Good P) (hL : Snd P nO L) {o : Oper} {a b : Act} {v : Value} {A1 : World} (hok : J9 o = true) (h : Z5 P L o a A v A1) :
  A.heap.size <= A1.heap.size /\ ∀ (ro : Option Nat) (K : Act -> World -> Prop) (Q : Exit -> Act -> World -> Prop), Sim P nO ι A W -> ARl P ι a b -> a4h ι A A1 ->
   (∀ ι1 v1 W1, Sim P nO ι1 A1 W1 -> Moves P ι A W ι1 A1 W1 -> VRel P ι1 v v1 -> K (b.put o.dst v1) W1) -> o.wpIn (wide ro) 0 P b W K Q := by
 have hopn : ∀ x ∈ o.op.operands, a3x x = true := by
  intro x hx
  simp only [J9, Bool.and_eq_true, List.all_eq_true] at hok
  exact hok.1 x (by simpa using hx)
 obtain ⟨h1, h2⟩ := a19 (ι := ι) (W := W) (b := b) G hL hok h
 exact ⟨h1, fun ro K Q S R F hK => h2 ro K Q S (fun x hx => R.eval (hopn x hx)) F hK⟩
theorem b4D (G : Good P) (hL : Snd P nO L) {ops : Array Oper} (hok : ∀ (i : Nat) (o : Oper), ops[i]? = some o -> J9 o = true) : ∀ (l : List Nat) (a a' : Act) (A A' : World), P1 P L ops l a A a' A' ->
  A.heap.size <= A'.heap.size /\ ∀ (ι : Ren) (W : World) (b : Act) (ro : Option Nat) (Q : Exit -> Act -> World -> Prop), Sim P nO ι A W -> ARl P ι a b -> a4h ι A A' ->
   (∀ ι' b' W', Sim P nO ι' A' W' -> Moves P ι A W ι' A' W' -> ARl P ι' a' b' -> Q .normal b' W') -> wpOpsIn (wide ro) 0 P ops Q l b W := by
 intro l
 induction l with
 | nil =>
  rintro a a' A A' ⟨rfl, rfl⟩
  exact ⟨Nat.le_refl _, fun ι W b ro Q S R F hQ => hQ ι b W S .refl R⟩
 | cons i rest ih =>
  intro a a' A A' h
  simp only [P1] at h
  cases ho : ops[i]? with
  | none =>
   rw [ho] at h
   obtain ⟨h1, h2⟩ := ih a a' A A' h
   exact ⟨h1, fun ι W b ro Q S R F hQ => by simp only [wpOpsIn, ho]; exact h2 ι W b ro Q S R F hQ⟩
  | some o =>
   rw [ho] at h
   simp only at h
   by_cases hw : Region.wanted o (yielded ops a.tmps) = true
   ·rw [if_pos hw] at h
    obtain ⟨v, A1, hop, hrest⟩ := h
    obtain ⟨s2, h2⟩ := ih _ _ _ _ hrest
    have s1 := (b3Q (ι := default) (W := default) (b := a) G hL (hok i o ho) hop).1
    refine ⟨Nat.le_trans s1 s2, fun ι W b ro Q S R F hQ => ?_⟩
    simp only [wpOpsIn, ho]
    rw [V5 R, if_pos hw]
    refine (b3Q (ι := ι) (W := W) (b := b) G hL (hok i o ho) hop).2 ro _ Q S R (F.left s1 s2) fun ι1 v1 W1 S1 M1 V1 => ?_
    exact h2 ι1 W1 _ ro Q S1 ((R.mono M1.le).put o.dst V1) (F.right M1 s2) fun ι2 b2 W2 S2 M2 R2 => hQ ι2 b2 W2 S2 (M1.trans M2) R2
   ·rw [if_neg hw] at h
    obtain ⟨h1, h2⟩ := ih _ _ _ _ h
    refine ⟨h1, fun ι W b ro Q S R F hQ => ?_⟩
    simp only [wpOpsIn, ho]
    rw [V5 R, if_neg hw]
    exact ⟨fun _ _ => trivial, h2 ι W _ ro Q S (R.put o.dst .undef) F hQ⟩
theorem a4k.trans {A1 W1 : World} {ι1 : Ren} (M : Moves P ι A W ι1 A1 W1) {e e' : Exit} {a' b : Act} {W' : World} (h : a4k P nO ι1 A1 W1 e a' A' e' b W') : a4k P nO ι A W e a' A' e' b W' := by
 obtain ⟨h1, ι2, S, M2, R⟩ := h
 exact ⟨h1, ι2, S, M.trans M2, R⟩
theorem a5A {x : Code} {R : Act -> World -> Exit -> Act -> World -> Prop} {Y : Act -> World -> (Exit -> Act -> World -> Prop) -> Prop} {e1 e : Exit} {a1 a' : Act} {A1 : World} {ro' : Option Nat} {b : Act}
  (hx : x.wpIn (wide ro') 0 P (a4k P nO ι A W e1 a1 A1) b W) (ht : Q7 e1 a1 A1 R e a' A')
  (hY : e1 = .normal -> ∀ ι1 b1 W1, Sim P nO ι1 A1 W1 -> Moves P ι A W ι1 A1 W1 -> ARl P ι1 a1 b1 -> Y b1 W1 (a4k P nO ι A W e a' A'))
  : x.wpIn (wide ro') 0 P (Exit.then (fun b1 W1 => Y b1 W1 (a4k P nO ι A W e a' A')) (a4k P nO ι A W e a' A')) b W := by
 refine wpIn_mono hx ?_
 rintro e' b1 W1 ⟨rfl, ι1, S1, M1, R1⟩
 cases e' with
 | normal => exact hY rfl ι1 b1 W1 S1 M1 R1
 | exit id => obtain ⟨rfl, rfl, rfl⟩ := ht; exact ⟨rfl, ι1, S1, M1, R1⟩
 | goto l => obtain ⟨rfl, rfl, rfl⟩ := ht; exact ⟨rfl, ι1, S1, M1, R1⟩
 | ret => obtain ⟨rfl, rfl, rfl⟩ := ht; exact ⟨rfl, ι1, S1, M1, R1⟩
 | panic c => obtain ⟨rfl, rfl, rfl⟩ := ht; exact ⟨rfl, ι1, S1, M1, R1⟩
 | outgrown => obtain ⟨rfl, rfl, rfl⟩ := ht; exact ⟨rfl, ι1, S1, M1, R1⟩
theorem a3d {R : Act -> World -> Exit -> Act -> World -> Prop} {e1 e : Exit} {a1 a' : Act} {A1 : World} (ht : Q7 e1 a1 A1 R e a' A') (h : ∀ e a' A', R a1 A1 e a' A' -> A1.heap.size <= A'.heap.size) : A1.heap.size <= A'.heap.size := by
 cases e1 with
 | normal => exact h _ _ _ ht
 | _ => obtain ⟨_, _, rfl⟩ := ht; exact Nat.le_refl _
theorem a5B (hL : Snd P nO L) {ro : Option Nat} {x : Code} {a : Act} {e : Exit} {a' : Act} (h : a56 L ro x a A e a' A') : Z4 P nO ro x a A e a' A' := by
 obtain ⟨e1, a1, A1, h1, ht⟩ := h
 obtain ⟨s1, c1⟩ := hL.codes _ _ _ _ _ _ _ h1
 have s2 := a3d ht fun e a' A' h => (hL.loops _ _ _ _ _ _ _ h).1
 refine ⟨Nat.le_trans s1 s2, fun hok ι W b ro' hro S R F => ?_⟩
 refine a4Q ?_
 refine a5A (Y := fun b W Q => a4g (wide ro') 0 P x Q b W) (c1 hok ι W b ro' hro S R (F.left s1 s2)) ht fun he ι1 b1 W1 S1 M1 R1 => ?_
 subst he
 have := (hL.loops _ _ _ _ _ _ _ ht).2 hok ι1 W1 b1 ro' (hro.mono M1.le) S1 R1 (F.right M1 s2)
 intro fr k cs q1 q2 q3
 obtain ⟨e', a2, W2, g1, g2⟩ := this fr k cs q1 q2 q3
 exact ⟨e', a2, W2, a4k.trans M1 g1, g2⟩
end
end Go.Abs
namespace Go.Abs
def a5l (P : Program) (nO : Nat) (D : Array Oper -> Act -> World -> Act -> World -> Prop) : Prop :=
 ∀ (ops : Array Oper) (a a' : Act) (A A' : World), D ops a A a' A' -> A.heap.size <= A'.heap.size /\ ((∀ (i : Nat) (o : Oper), ops[i]? = some o -> J9 o = true) ->
  ∀ (ι : Ren) (W : World) (b : Act) (ro : Option Nat), Sim P nO ι A W -> ARl P ι a b -> a4h ι A A' -> wpAnyIn (wide ro) 0 P .any ops (a4k P nO ι A W .normal a' A') ops.size (Array.replicate ops.size false) b W)
section
variable {P : Program} {nO : Nat} {ι ι' : Ren} {A A' W W' : World} {L : Lvl}
theorem a2t {t : TypeId} {a : Addr} {w w' : World} {v : Value} (h : (Go.loadVar t a).run P w = .ok v w') : w' = w := by
 simp only [Go.loadVar, Sem.run_bind] at h
 have hag : ∀ b w1, (isAgg t).run P w = .ok b w1 -> w1 = w := by
  intro b w1 hb
  simp only [isAgg, underlying, program, Sem.run_bind, Sem.run, Result.andThen] at hb
  cases hu : P.underlying t with
  | none => rw [hu] at hb; cases hb
  | some d => rw [hu] at hb; simp only [Sem.run_pure] at hb; split at hb <;> (cases hb; rfl)
 cases h1 : (isAgg t).run P w with
 | halt q u => rw [h1] at h; cases h
 | ok b w1 =>
  have := hag _ _ h1
  subst this
  rw [h1] at h
  cases b with
  | true =>
   simp only [Result.andThen, if_true, Sem.run_bind, sizeOf, typeInfo, program, Sem.run] at h
   cases hi : P.info? t with
   | none => rw [hi] at h; cases h
   | some i =>
    rw [hi] at h
    simp only [Sem.run_pure] at h
    cases h2 : (loadCells a i.size).run P w1 with
    | halt q u => rw [h2] at h; cases h
    | ok c u =>
     rw [h2] at h
     cases h
     exact w9 _ _ _ _ _ _ _ h2
  | false =>
   have h3 : (load a).run P w1 = .ok v w' := h
   have := w9 (P := P) a 1 0 #[] w1 #[v] w' (by
    have ea : a.add 0 = a := rfl
    simp only [loadCellsFrom, ea, Sem.run_bind, h3, Result.andThen, Sem.run_pure]; rfl)
   exact this
def I1 (ts : Array Value) : ResultVar -> Sem Value
 | .tmp t => pure (ts.getD t undef)
 | .cell a t => do Go.loadVar t (<- asAddr (ts.getD a undef))
theorem a1J (fn : Func) (ts : Array Value) : results fn ts = (do let vs <- fn.results.mapM (I1 ts); pure (if h : vs.size = 1 then vs[0] else .tuple vs)) := by
 unfold results
 have : (fun | .tmp t => pure (ts.getD t undef) | .cell a t => do Go.loadVar t (<- asAddr (ts.getD a undef)) : ResultVar -> Sem Value) = I1 ts := by funext x; cases x <;> rfl
 rw [<- this]; rfl
theorem a2d {fn : Func} {ts : Array Value} {w w' : World} {v : Value} (h : (results fn ts).run P w = .ok v w') : w' = w := by
 rw [a1J, Array.mapM_eq_mapM_toList] at h
 have hl : ∀ (l : List ResultVar) (w w' : World) (r : List Value), (List.mapM (m := Sem) (I1 ts) l).run P w = .ok r w' -> w' = w := by
  intro l
  induction l with
  | nil => intro w w' r h; cases h; rfl
  | cons x l ih =>
   intro w w' r h
   simp only [List.mapM_cons, Sem.run_bind] at h
   have hx : ∀ v u, (I1 ts x).run P w = .ok v u -> u = w := by
    intro v u hv
    cases x with
    | tmp t => cases hv; rfl
    | cell a t =>
     simp only [I1, Sem.run_bind] at hv
     generalize ts.getD a undef = q at hv
     cases q with
     | pointer p =>
      cases p with
      | some p => exact a2t hv
      | none =>
       have hn := b9 (P := P) (α := Addr) .nilDeref w
       cases h1 : (asAddr (.pointer none)).run P w with
       | halt a b => rw [h1] at hv; cases hv
       | ok r u => exact absurd h1 (hn r u)
     | _ => cases hv
   cases h1 : (I1 ts x).run P w with
   | halt q u => rw [h1] at h; cases h
   | ok v u =>
    have := hx _ _ h1
    subst this
    rw [h1] at h
    simp only [Result.andThen] at h
    cases h2 : (List.mapM (m := Sem) (I1 ts) l).run P u with
    | halt q u' => rw [h2] at h; cases h
    | ok v' u' =>
     have := ih _ _ _ h2
     subst this
     rw [h2] at h
     cases h
     rfl
 simp only [Sem.run_bind, Sem.run_map] at h
 cases h2 : (List.mapM (m := Sem) (I1 ts) fn.results.toList).run P w with
 | halt q u => rw [h2] at h; cases h
 | ok v' u =>
  have := hl _ _ _ _ h2
  subst this
  rw [h2] at h
  cases h
  rfl
theorem W7 : ∀ (ds : List Deferred) (A A' : World), b1a P ds A A' -> A.heap.size <= A'.heap.size
 | [], A, A', h => by cases h; exact Nat.le_refl _
 | d :: ds, A, A', ⟨r, A1, _, h1, h2⟩ => Nat.le_trans (x9 P _ _ _ _ h1) (W7 ds A1 A' h2)
theorem a3i {fn : Func} {R : Ending -> World -> Prop} {F : Fence} : ∀ (ds ds' : List Deferred) (ι : Ren) (A W : World), b1a P ds A A' -> a2W ι ds ds' -> Sim P nO ι A W -> a4h ι A A' -> ∀ (ts ts' : Array Value), Vs P ι ts ts' ->
  ∀ v, (results fn ts).run P A' = .ok v A' -> (∀ ι' v' W', Sim P nO ι' A' W' -> Moves P ι A W ι' A' W' -> VRel P ι' v v' -> R (.returned v') W') -> LeavesInM F 0 P fn ts' R ds' .returning W
 | [], [], ι, A, W, hm, _, S, F, ts, ts', hts, v, hr, hR => by
  cases hm
  obtain ⟨ι1, v', W1, r1, S1, M1, V1⟩ := RS.results (nO := nO) fn hts A' W v A' S hr (fun b x y => by omega)
  have := a2d r1
  subst this
  exact ⟨v', r1, hR ι1 v' W1 S1 M1 V1⟩
 | d :: ds, d' :: ds', ι, A, W, ⟨r, A1, h1, h2, h3⟩, ⟨⟨r', e, q1, q2, q3, q4⟩, hd⟩, S, F, ts, ts', hts, v, hr, hR => by
  rw [h1] at q1; cases q1
  have s1 := x9 P _ _ _ _ h2
  have s2 := W7 ds A1 A' h3
  obtain ⟨ι1, x, W1, r1, S1, M1, X1⟩ := RS.takeDeferred (nO := nO) q3 q4 A W [] A1 S h2 (F.left s1 s2).2
  have hx : x = [] := X1 rfl
  subst hx
  refine ⟨by simp, .inl ⟨e.blk, W1, q2, r1, ?_⟩⟩
  exact a3i ds ds' ι1 A1 W1 h3 (hd.mono M1.le) S1 (F.right M1 s2) ts ts' (hts.mono M1.le) v hr fun ι2 v2 W2 S2 M2 V2 => hR ι2 v2 W2 S2 (M1.trans M2) V2
 | [], _ :: _, _, _, _, _, h, _, _, _, _, _, _, _, _ => h.elim
 | _ :: _, [], _, _, _, _, h, _, _, _, _, _, _, _, _ => h.elim
theorem a5E {A A' : World} (G : Good P) (hL : Snd P nO L) {f : FuncId} {xs : Array Value} {v : Value} (h : a6t P L f xs A v A') : u9 P nO f xs A v A' := by
 obtain ⟨fn, c, e, a1, A1, hf, hb, hc, he, hm, hr⟩ := h
 obtain ⟨s1, c1⟩ := hL.codes _ _ _ _ _ _ _ hc
 have s2 := W7 _ _ _ hm
 refine ⟨Nat.le_trans s1 s2, fun ι W xs' S hxs F => ?_⟩
 refine callsIn_of_wp_marks hf hb trivial ?_ rfl
 have hact : ARl P ι { tmps := xs ++ Array.replicate (fn.ntmps - xs.size) undef, defers := [] } { tmps := xs' ++ Array.replicate (fn.ntmps - xs'.size) undef, defers := [] } :=
  ⟨hxs.append (by rw [hxs.1]; exact Vs.replicate _ .undef), trivial⟩
 refine wpIn_mono (c1 (G.code f fn c hf hb) ι W _ none (.inl ⟨rfl, rfl⟩) S hact (F.left s1 s2)) ?_
 rintro e' b W1 ⟨rfl, ι1, S1, M1, R1⟩
 have key : LeavesInM (wide none) 0 P fn b.tmps (b09 P nO ι A W v A') b.defers .returning W1 :=
  a3i a1.defers b.defers ι1 A1 W1 hm R1.defers S1 (F.right M1 s2) a1.tmps b.tmps R1.tmps v hr fun ι2 v2 W2 S2 M2 V2 => ⟨ι2, v2, rfl, S2, M1.trans M2, V2⟩
 rcases he with rfl | rfl
 ·exact key
 ·exact key
theorem a3h {A A' : World} (hL : Snd P nO L) {l : Nat} {ts : Array Value} {as bd : Code} {v : Value} (h : a3r P L l ts as bd A v A') : O4 P nO l ts as bd A v A' := by
 obtain ⟨a1, A1, A2, e, a3, A3, j, h1, h2, h3, h4, h5⟩ := h
 obtain ⟨s1, c1⟩ := hL.codes _ _ _ _ _ _ _ h1
 have s2 := x9 P _ _ _ _ h2
 obtain ⟨s3, c3⟩ := hL.codes _ _ _ _ _ _ _ h3
 have s4 := x9 P _ _ _ _ h5
 refine ⟨by omega, fun hok1 hok2 ι W ts' en fn ro he hes S hts F => ?_⟩
 refine roundIn_of_wpIn (F := wide ro) trivial ?_
 have hro : a5n ι (some l) (some en.blk) := .inr ⟨l, en, rfl, he, hes, rfl⟩
 refine wpIn_mono (c1 hok1 ι W { tmps := ts', defers := [] } (some en.blk) hro S ⟨hts, trivial⟩ (F.left s1 (by omega))) ?_
 rintro e' b W1 ⟨rfl, ι1, S1, M1, R1⟩
 have F1 := F.right M1 (show A1.heap.size <= A'.heap.size by omega)
 obtain ⟨ι2, _, W2, r2, S2, M2, _⟩ := RS.beginRound (nO := nO) (M1.le _ _ he) hes A1 W1 () A2 S1 h2 (F1.left s2 (by omega)).2
 refine ⟨W2, r2, ?_⟩
 have F2 := F1.right M2 (show A2.heap.size <= A'.heap.size by omega)
 refine wpIn_mono (c3 hok2 ι2 W2 b (some en.blk) ((hro.mono M1.le).mono M2.le) S2 (R1.mono M2.le) (F2.left s3 (by omega))) ?_
 rintro e'' b3 W3 ⟨rfl, ι3, S3, M3, R3⟩
 have F3 := F2.right M3 (show A3.heap.size <= A'.heap.size by omega)
 have hen := M3.le _ _ (M2.le _ _ (M1.le _ _ he))
 have hjok : ∀ c, j = some c -> l0 c = true := by
  intro c hc
  subst hc
  cases e'' <;> simp only [a3G, Option.some.injEq, reduceCtorEq] at h4 <;> subst h4 <;> rfl
 obtain ⟨ι4, v4, W4, r4, S4, M4, V4⟩ := RS.endRound (nO := nO) hen hes j hjok A3 W3 v A' S3 h5 F3.2
 have fin : b09 P nO ι A W v A' (.returned v4) W4 := ⟨ι4, v4, rfl, S4, ((M1.trans M2).trans M3).trans M4, V4⟩
 cases e'' <;> simp only [a3G, Option.some.injEq, reduceCtorEq] at h4 <;> subst h4
 ·exact ⟨v4, W4, r4, fin⟩
 ·exact ⟨v4, W4, r4, fin⟩
 ·exact ⟨v4, W4, r4, fin⟩
 ·exact ⟨v4, W4, r4, fin⟩
end
end Go.Abs
namespace Go.Abs
section
variable {P : Program} {nO : Nat} {ι ι' : Ren} {A A' W W' : World} {L : Lvl}
theorem a0x {F : Fence} {n : Nat} {ops : Array Oper} {Q Q' : Exit -> Act -> World -> Prop} (hQ : ∀ e b w, Q e b w -> Q' e b w) {i : Nat} {K K' : Act -> World -> Prop} (hK : ∀ b w, K b w -> K' b w) {b : Act} {w : World}
  (h : wpOpIn F n P ops Q i K b w) : wpOpIn F n P ops Q' i K' b w := by
 unfold wpOpIn at *
 split
 ·exact hK _ _ (by simpa [*] using h)
 ·rename_i o ho
  simp only [ho] at h
  split
  ·rename_i hw
   simp only [hw, if_true] at h
   refine ⟨h.1, ?_⟩
   have hh := h.2
   generalize (o.semAt F.round b.eval).run P w = r at *
   cases r with
   | ok x w' =>
    cases x <;> simp only [Oper.uponIn] at hh ⊢ <;>
     first
      | exact hK _ _ hh
      | exact ⟨hh.1, CallsIn.mono hh.2 (fun e w'' he => by cases e <;> first | exact hK _ _ he | exact hQ _ _ _ he | exact (let ⟨a, w, q⟩ := he; ⟨a, w, hQ _ _ _ q⟩))⟩
      | exact ⟨hh.1, RowsIn.mono hh.2 (fun _ _ he => hK _ _ he)⟩
      | exact ⟨hh.1, RoundIn.mono hh.2 (fun e w'' he => by cases e <;> first | exact hK _ _ he | exact hQ _ _ _ he | exact (let ⟨a, w, q⟩ := he; ⟨a, w, hQ _ _ _ q⟩))⟩
   | halt x w' =>
    cases x <;> simp only [Oper.uponIn] at hh ⊢
    exact hQ _ _ _ hh
  ·rename_i hw
   simp only [hw] at h
   exact ⟨h.1, hK _ _ h.2⟩
theorem J8 {F : Fence} {n : Nat} {md : Region.Mode} {ops : Array Oper} {Q Q' : Exit -> Act -> World -> Prop} (hQ : ∀ e b w, Q e b w -> Q' e b w) : ∀ (fuel : Nat) (listed : Array Bool) (b : Act) (w : World),
  wpAnyIn F n P md ops Q fuel listed b w -> wpAnyIn F n P md ops Q' fuel listed b w
 | 0, _, _, _, h => ⟨h.1, hQ _ _ _ h.2⟩
 | fuel + 1, _, _, _, h => ⟨fun q => hQ _ _ _ (h.1 q), fun i hi => a0x hQ (fun b w q => J8 hQ fuel _ b w q) (h.2 i hi)⟩
theorem a8s (hL : Snd P nO L) {ro : Option Nat} {g : Operand} {ps : Array Tmp} {as bd : Code} {a : Act} {e : Exit} {a' : Act} (h : a6E P L ro g ps as bd a A e a' A') : Q2 P nO ro (.rangeFunc g ps as bd) a A e a' A' := by
 obtain ⟨l, mark, A1, f, first, cap, fn, code, v, A2, jump, A3, h1, h2, h3, h4, h5, h6, h7, h8⟩ := h
 have s1 := x9 P _ _ _ _ h1
 obtain ⟨s2, c2⟩ := hL.calls _ _ _ _ _ h6
 have s3 := x9 P _ _ _ _ h7
 have s4 : A3.heap.size <= A'.heap.size := by
  cases jump with
  | none => obtain ⟨_, _, rfl⟩ := h8; exact Nat.le_refl _
  | some c => exact (hL.codes _ _ _ _ _ _ _ h8).1
 refine ⟨by omega, fun hok ι W b ro' hro S R F => ?_⟩
 simp only [l0, Bool.and_eq_true] at hok
 obtain ⟨⟨ok1, ok2⟩, ok3⟩ := hok
 refine wpIn_rangeFunc fun fn' _ => ?_
 obtain ⟨ι1, ⟨l', mark'⟩, W1, r1, S1, M1, ⟨en, q1, q2, q3⟩, D1⟩ := RS.enterLoop (nO := nO) 0 fn' R.tmps ps as bd ok2 ok3 hro A W (l, mark) A1 S h1 (F.left s1 (by omega)).2
 simp only at q1 q2 q3 D1
 subst q3
 have hg := R.eval ok1
 rw [h2] at hg
 generalize hbg : b.eval g = bv at hg
 cases hg with
 | func hF g1 g2 g3 g4 =>
  rename_i fx xs' ys'
  cases hF with
  | func f =>
   have hargs : Vs P ι1 (first ++ #[.func (.yield l) #[] #[]] ++ cap) (xs' ++ #[.func (.yield en.blk) #[] #[]] ++ ys') :=
    ((Vs.mono M1.le ⟨g1, g3⟩).append (.one (.func (.yield q1 q2) rfl rfl (fun i x x' h => by simp at h) (fun i x x' h => by simp at h)))).append (Vs.mono M1.le ⟨g2, g4⟩)
   have hres : (resolve b.eval (rangeCall g en.blk) 0).run P W1 = .ok { target := .fn (.func f) ys', args := xs' ++ #[.func (.yield en.blk) #[] #[]] } W1 := by
    have hm : Array.map b.eval #[Operand.const (.func (.yield en.blk) #[] #[])] = #[.func (.yield en.blk) #[] #[]] := by simp [Act.eval]
    simp only [resolve, hbg, Deferred.ofValue, hm]
    rfl
   have hinv : (invoke (.fn (.func f) ys') (xs' ++ #[.func (.yield en.blk) #[] #[]])).run P W1 = .ok (.enter f (xs' ++ #[.func (.yield en.blk) #[] #[]] ++ ys')) W1 := by
    have h5' : ¬ fn.name = "runtime.NumGoroutine" := by simpa using h5
    simp only [invoke, callFunc]
    simp [program, Sem.run, h3, h4, h5']
   have F1 := F.right M1 (show A1.heap.size <= A'.heap.size by omega)
   refine ⟨en.blk, mark', W1, _, W1, f, _, W1, r1, hres, fun _ _ => trivial, hinv, fun h => (by cases h), ?_⟩
   refine CallsIn.mono (F := wide none) (c2 ι1 W1 _ S1 hargs (F1.left s2 (by omega))) ?_
   rintro e2 W2 ⟨ι2, v2, rfl, S2, M2, V2⟩
   have F2 := F1.right M2 (show A2.heap.size <= A'.heap.size by omega)
   obtain ⟨ι3, j', W3, r3, S3, M3, hj, hjok⟩ := RS.endLoop (nO := nO) (M2.le _ _ q1) q2 A2 W2 jump A3 S2 h7 (F2.left s3 s4).2
   subst hj
   have M := (M1.trans M2).trans M3
   have hact : ARl P ι3 { a with defers := mark ++ a.defers } { b with defers := mark' ++ b.defers } := ⟨R.tmps.mono M.le, ((D1.mono M2.le).mono M3.le).append (R.defers.mono M.le)⟩
   refine ⟨j', W3, r3, ?_⟩
   cases j' with
   | none =>
    obtain ⟨rfl, rfl, rfl⟩ := h8
    exact ⟨rfl, ι3, S3, M, hact⟩
   | some c =>
    refine wpIn_mono ((hL.codes _ _ _ _ _ _ _ h8).2 (hjok c rfl) ι3 W3 _ ro' (hro.mono M.le) S3 hact (F2.right M3 s4)) ?_
    intro e' b' W' hp
    exact a4k.trans M hp
theorem a5D (G : Good P) (hL : Snd P nO L) {D : Lvl -> Array Oper -> Act -> World -> Act -> World -> Prop} (hD : a5l P nO (D L)) {ro : Option Nat} {c : Code} {a : Act} {e : Exit} {a' : Act} (h : a2P P L D ro c a A e a' A') : Q2 P nO ro c a A e a' A' := by
 cases c with
 | skip =>
  obtain ⟨rfl, rfl, rfl⟩ := h
  exact ⟨Nat.le_refl _, fun hok ι W b ro' hro S R F => wpIn_skip ⟨rfl, ι, S, .refl, R⟩⟩
 | label l =>
  obtain ⟨rfl, rfl, rfl⟩ := h
  exact ⟨Nat.le_refl _, fun hok ι W b ro' hro S R F => wpIn_label ⟨rfl, ι, S, .refl, R⟩⟩
 | exit id =>
  obtain ⟨rfl, rfl, rfl⟩ := h
  exact ⟨Nat.le_refl _, fun hok ι W b ro' hro S R F => wpIn_exit ⟨rfl, ι, S, .refl, R⟩⟩
 | goto l =>
  obtain ⟨rfl, rfl, rfl⟩ := h
  exact ⟨Nat.le_refl _, fun hok ι W b ro' hro S R F => wpIn_goto ⟨rfl, ι, S, .refl, R⟩⟩
 | ret =>
  obtain ⟨rfl, rfl, rfl⟩ := h
  exact ⟨Nat.le_refl _, fun hok ι W b ro' hro S R F => wpIn_ret ⟨rfl, ι, S, .refl, R⟩⟩
 | seq x y =>
  obtain ⟨e1, a1, A1, h1, ht⟩ := h
  obtain ⟨s1, c1⟩ := hL.codes _ _ _ _ _ _ _ h1
  have s2 := a3d ht fun e a' A' h => (hL.codes _ _ _ _ _ _ _ h).1
  refine ⟨Nat.le_trans s1 s2, fun hok ι W b ro' hro S R F => ?_⟩
  simp only [l0, Bool.and_eq_true] at hok
  refine wpIn_seq ?_
  refine a5A (Y := fun b W Q => y.wpIn (wide ro') 0 P Q b W) (c1 hok.1 ι W b ro' hro S R (F.left s1 s2)) ht fun he ι1 b1 W1 S1 M1 R1 => ?_
  subst he
  refine wpIn_mono ((hL.codes _ _ _ _ _ _ _ ht).2 hok.2 ι1 W1 b1 ro' (hro.mono M1.le) S1 R1 (F.right M1 s2)) ?_
  intro e' b' W' hp
  exact a4k.trans M1 hp
 | cond q x y =>
  obtain ⟨t, hq, h1⟩ := h
  obtain ⟨s1, c1⟩ := hL.codes _ _ _ _ _ _ _ h1
  refine ⟨s1, fun hok ι W b ro' hro S R F => ?_⟩
  simp only [l0, Bool.and_eq_true] at hok
  have hb := R.eval hok.1.1
  rw [hq] at hb
  have hb' : b.eval q = .bool t := by
   generalize b.eval q = z at hb
   cases hb; rfl
  refine wpIn_cond hb' (c1 ?_ ι W b ro' hro S R F)
  cases t
  ·exact hok.2
  ·exact hok.1.2
 | block id x =>
  obtain ⟨e1, h1, rfl⟩ := h
  obtain ⟨s1, c1⟩ := hL.codes _ _ _ _ _ _ _ h1
  refine ⟨s1, fun hok ι W b ro' hro S R F => ?_⟩
  refine wpIn_block (wpIn_mono (c1 hok ι W b ro' hro S R F) ?_)
  rintro e' b' W' ⟨rfl, hp⟩
  cases e' with
  | exit i =>
   simp only [Exit.inBlock, a3L]
   split
   ·exact ⟨rfl, hp⟩
   ·exact ⟨rfl, hp⟩
  | normal => exact ⟨rfl, hp⟩
  | goto l => exact ⟨rfl, hp⟩
  | ret => exact ⟨rfl, hp⟩
  | panic c => exact ⟨rfl, hp⟩
  | outgrown => exact ⟨rfl, hp⟩
 | loop x =>
  obtain ⟨s1, c1⟩ := hL.loops _ _ _ _ _ _ _ h
  exact ⟨s1, fun hok ι W b ro' hro S R F => a4p (c1 hok ι W b ro' hro S R F)⟩
 | region id ops draw =>
  have hops : l0 (.region id ops draw) = true -> ∀ (i : Nat) (o : Oper), ops[i]? = some o -> J9 o = true := fun hok i o ho => by
   simp only [l0, List.all_eq_true] at hok
   exact hok o (by simpa using Array.mem_of_getElem? ho)
  cases draw with
  | false =>
   obtain ⟨rfl, h⟩ := h
   exact ⟨b2d hL _ _ _ _ _ h, fun hok ι W b ro' hro S R F => wpIn_region ((b4D G hL (hops hok) _ _ _ _ _ h).2 ι W b ro' _ S R F fun ι' b' W' S' M' R' => ⟨rfl, ι', S', M', R'⟩)⟩
  | true =>
   obtain ⟨rfl, h⟩ := h
   obtain ⟨s1, c1⟩ := hD ops _ _ _ _ h
   refine ⟨s1, fun hok ι W b ro' hro S R F => wpIn_region_any G.mixed ?_⟩
   have := c1 (hops hok) ι W.drew b ro' (S.heap rfl) R F
   exact J8 (fun e b' W' hp => a4k.trans .drew hp) _ _ _ _ this
 | rangeFunc g ps as bd => exact a8s hL h
 | scope x => exact h.elim
 | refuse w => exact h.elim
def lvl (P : Program) (D : Lvl -> Array Oper -> Act -> World -> Act -> World -> Prop) : Nat -> Lvl
 | 0 => { calls := fun _ _ _ _ _ => False, rounds := fun _ _ _ _ _ _ _ => False, codes := fun _ _ _ _ _ _ _ => False, loops := fun _ _ _ _ _ _ _ => False }
 | n + 1 => { calls := a6t P (lvl P D n), rounds := a3r P (lvl P D n), codes := a2P P (lvl P D n) D, loops := a56 (lvl P D n) }
theorem a8t (G : Good P) {D : Lvl -> Array Oper -> Act -> World -> Act -> World -> Prop} (hD : ∀ L, Snd P nO L -> a5l P nO (D L)) : ∀ n, Snd P nO (lvl P D n)
 | 0 => ⟨fun _ _ _ _ _ h => h.elim, fun _ _ _ _ _ _ _ h => h.elim, fun _ _ _ _ _ _ _ h => h.elim, fun _ _ _ _ _ _ _ h => h.elim⟩
 | n + 1 =>
  have hL := a8t G hD n
  ⟨fun _ _ _ _ _ h => a5E G hL h, fun _ _ _ _ _ _ _ h => a3h hL h, fun _ _ _ _ _ _ _ h => a5D G hL (hD _ hL) h, fun _ _ _ _ _ _ _ h => a5B hL h⟩
end
end Go.Abs
open List (all_eq_true length_append length_cons length_nil getElem?_append_left getElem?_append_right getElem?_take foldl_cons getD_eq_getElem?_getD mem_cons)
namespace Go.Abs
inductive Kind where
 | quiet | makes | acts
 deriving DecidableEq
def g6 : Op -> Kind
 | .move _ | .assign _ | .pick .. | .build .. | .load .. | .nilCheck _ | .binOp .. | .unOp .. | .convert .. | .slice .. | .fieldAddr .. | .field .. | .indexAddr .. | .index .. | .makeFunc .. | .extract .. => .quiet
 | .alloc _ | .box .. | .buildSlice .. | .makeSlice .. => .makes
 | .call c => match c.callee with
  | .builtin .len | .builtin .min | .builtin .max | .builtin .cap => .quiet
  | _ => .acts
 | _ => .acts
def a1N (acc : List Nat) (o : Oper) : Nat := o.after.toList.foldl (fun s e => if Region.binds .any e then s ||| 2 ^ e.on ||| acc.getD e.on 0 else s) 0
def s7 : List Oper -> List Nat -> List Nat
 | [], acc => acc
 | o :: os, acc => s7 os (acc ++ [a1N acc o])
def G6 (ops : Array Oper) : List Nat := s7 ops.toList []
theorem P0 : ∀ (os : List Oper) (acc : List Nat), (s7 os acc).length = acc.length + os.length /\ (∀ i, i < acc.length -> (s7 os acc)[i]? = acc[i]?) /\
  ∀ i o, os[i]? = some o -> (s7 os acc)[acc.length + i]? = some (a1N ((s7 os acc).take (acc.length + i)) o)
 | [], acc => ⟨rfl, fun _ _ => rfl, fun i o h => by simp at h⟩
 | p :: os, acc => by
  obtain ⟨h1, h2, h3⟩ := P0 os (acc ++ [a1N acc p])
  simp only [length_append, length_cons, length_nil] at h1 h2 h3
  refine ⟨by simp only [s7, length_cons]; omega, fun i hi => ?_, fun i o ho => ?_⟩
  ·simp only [s7]
   rw [h2 i (by omega), getElem?_append_left hi]
  ·simp only [s7]
   cases i with
   | zero =>
    simp at ho; subst ho
    rw [Nat.add_zero, h2 _ (by omega), getElem?_append_right (Nat.le_refl _)]
    have ht : (s7 os (acc ++ [a1N acc p])).take acc.length = acc := by
     apply List.ext_getElem?
     intro j
     rw [getElem?_take]
     split
     ·rename_i hj; rw [h2 j (by omega), getElem?_append_left hj]
     ·rename_i hj; simp; omega
    rw [ht]; simp
   | succ i =>
    have := h3 i o (by simpa using ho)
    rw [show acc.length + (i + 1) = acc.length + (0 + 1) + i from by omega]
    exact this
theorem a62 {acc : List Nat} {o : Oper} {k : Nat} (h : (a1N acc o).testBit k = true) : ∃ e ∈ o.after.toList, Region.binds .any e = true /\ (k = e.on ∨ (acc.getD e.on 0).testBit k = true) := by
 unfold a1N at h
 have key : ∀ (l : List Edge) (s : Nat), (l.foldl (fun s e => if Region.binds .any e then s ||| 2 ^ e.on ||| acc.getD e.on 0 else s) s).testBit k = true -> s.testBit k = true ∨ ∃ e ∈ l, Region.binds .any e = true /\ (k = e.on ∨ (acc.getD e.on 0).testBit k = true) := by
  intro l
  induction l with
  | nil => intro s h; exact .inl h
  | cons e l ih =>
   intro s h
   simp only [foldl_cons] at h
   rcases ih _ h with h1 | ⟨e', h1, h2⟩
   ·split at h1
    ·rename_i hb
     simp only [Nat.testBit_or, Bool.or_eq_true, Nat.testBit_two_pow, decide_eq_true_eq] at h1
     rcases h1 with (h1 | h1) | h1
     ·exact .inl h1
     ·exact .inr ⟨e, by simp, hb, .inl h1.symm⟩
     ·exact .inr ⟨e, by simp, hb, .inr h1⟩
    ·exact .inl h1
   ·exact .inr ⟨e', by simp [h1], h2⟩
 rcases key _ _ h with h | h
 ·simp at h
 ·exact h
def bef (ms : List Nat) (i k : Nat) : Bool := (ms.getD i 0).testBit k
theorem a2R {ops : Array Oper} {i k : Nat} {o : Oper} (ho : ops[i]? = some o) (h : bef (G6 ops) i k = true) : ∃ e ∈ o.after.toList, Region.binds .any e = true /\ (k = e.on ∨ (e.on < i /\ bef (G6 ops) e.on k = true)) := by
 obtain ⟨h1, _, h3⟩ := P0 ops.toList []
 have := h3 i o (by simpa using ho)
 simp only [length_nil, Nat.zero_add] at this
 unfold bef at h
 rw [getD_eq_getElem?_getD, show (G6 ops)[i]? = _ from this, Option.getD_some] at h
 obtain ⟨e, he, hb, hk⟩ := a62 h
 refine ⟨e, he, hb, hk.imp id fun hk => ?_⟩
 rw [getD_eq_getElem?_getD, getElem?_take] at hk
 by_cases hlt : e.on < i
 ·rw [if_pos hlt] at hk
  exact ⟨hlt, by unfold bef; rw [getD_eq_getElem?_getD]; exact hk⟩
 ·rw [if_neg hlt] at hk; simp at hk
def a1S (o : Oper) : Bool := match g6 o.op with | .acts => true | _ => false
def O3 : List Oper -> Nat -> List Nat
 | [], _ => []
 | o :: os, k => match a1S o with
  | true => k :: O3 os (k + 1)
  | false => O3 os (k + 1)
def a0r (ops : Array Oper) : List Nat := O3 ops.toList 0
theorem L6 : ∀ {os : List Oper} {k i : Nat}, i ∈ O3 os k ↔ ∃ j o, os[j]? = some o /\ a1S o = true /\ i = k + j
 | [], k, i => by simp [O3]
 | o :: os, k, i => by
  have ih := L6 (os := os) (k := k + 1) (i := i)
  have key : (∃ j p, os[j]? = some p /\ a1S p = true /\ i = k + 1 + j) ↔ ∃ j p, (o :: os)[j + 1]? = some p /\ a1S p = true /\ i = k + (j + 1) := by
   constructor
   ·rintro ⟨j, p, h1, h2, h3⟩; exact ⟨j, p, by simpa using h1, h2, by omega⟩
   ·rintro ⟨j, p, h1, h2, h3⟩; exact ⟨j, p, by simpa using h1, h2, by omega⟩
  simp only [O3]
  split
  ·rename_i ha
   rw [mem_cons, ih, key]
   constructor
   ·rintro (h | ⟨j, p, h⟩)
    ·exact ⟨0, o, rfl, ha, h⟩
    ·exact ⟨j + 1, p, h⟩
   ·rintro ⟨j, p, h1, h2, h3⟩
    cases j with
    | zero => exact .inl h3
    | succ j => exact .inr ⟨j, p, h1, h2, h3⟩
  ·rename_i ha
   rw [ih, key]
   constructor
   ·rintro ⟨j, p, h⟩; exact ⟨j + 1, p, h⟩
   ·rintro ⟨j, p, h1, h2, h3⟩
    cases j with
    | zero => cases h1; rw [ha] at h2; cases h2
    | succ j => exact ⟨j, p, h1, h2, h3⟩
def a65 (ops : Array Oper) (o : Oper) : List Tmp :=
 (o.op.operands.toList.filterMap fun | .tmp t => some t | _ => none) ++ (match o.guard with | some (g, _) => ((ops[g]?).bind (·.dst)).toList | none => [])
def t6 : List Oper -> Nat -> Tmp -> Option Nat
 | [], _, _ => none
 | o :: os, k, d => match o.dst with
  | none => t6 os (k + 1) d
  | some e => match Nat.beq e d with
   | true => some k
   | false => t6 os (k + 1) d
def lone : List Oper -> Bool
 | [] => true
 | o :: os => (match o.dst with | none => true | some d => (match t6 os 0 d with | none => true | some _ => false)) && lone os
def a2q (ops : Array Oper) (ms : List Nat) : List Oper -> Nat -> Bool
 | [], _ => true
 | o :: os, i => ((a65 ops o).all fun d => match t6 ops.toList 0 d with
   | none => true
   | some w => Nat.beq w i || (match Nat.blt w i with | true => bef ms i w | false => bef ms w i)) && a2q ops ms os (i + 1)
def a6w : List Oper -> Nat -> Bool
 | [], _ => true
 | o :: os, i => (o.after.toList.all fun e => !Region.binds .any e || Nat.blt e.on i) && a6w os (i + 1)
def rck (ops : Array Oper) : Bool :=
 let ms := G6 ops
 a6w ops.toList 0 &&
 ((a0r ops).all fun i => (a0r ops).all fun k => !Nat.blt k i || bef ms i k) &&
 lone ops.toList && a2q ops ms ops.toList 0
theorem B0 : ∀ {os : List Oper} {k : Nat} {d : Tmp}, t6 os k d = none -> ∀ (j : Nat) (o : Oper), os[j]? = some o -> o.dst ≠ some d
 | [], _, _, _, j, o, h => by simp at h
 | p :: os, k, d, h, j, o, ho => by
  simp only [t6] at h
  split at h
  ·rename_i hd
   cases j with
   | zero => cases ho; rw [hd]; intro e; cases e
   | succ j => exact B0 h j o (by simpa using ho)
  ·rename_i e hd
   split at h
   ·cases h
   ·rename_i hne
    cases j with
    | zero => cases ho; rw [hd]; intro e'; cases e'; rw [Nat.beq_refl] at hne; cases hne
    | succ j => exact B0 h j o (by simpa using ho)
theorem I4 : ∀ {os : List Oper} {k : Nat} {d : Tmp} {w : Nat}, t6 os k d = some w -> ∃ j o, os[j]? = some o /\ o.dst = some d /\ w = k + j
 | [], _, _, _, h => by simp [t6] at h
 | p :: os, k, d, w, h => by
  simp only [t6] at h
  split at h
  ·obtain ⟨j, o, h1, h2, h3⟩ := I4 h
   exact ⟨j + 1, o, by simpa using h1, h2, by omega⟩
  ·rename_i e hd
   split at h
   ·rename_i he
    cases h
    exact ⟨0, p, rfl, by rw [hd, Nat.eq_of_beq_eq_true he], rfl⟩
   ·obtain ⟨j, o, h1, h2, h3⟩ := I4 h
    exact ⟨j + 1, o, by simpa using h1, h2, by omega⟩
theorem a0N : ∀ {os : List Oper}, lone os = true -> ∀ (w i : Nat) (ow oi : Oper) (d : Tmp), os[w]? = some ow -> os[i]? = some oi -> w < i -> ow.dst = some d -> oi.dst ≠ some d
 | [], _, w, _, _, _, _, h, _, _, _ => by simp at h
 | p :: os, h, w, i, ow, oi, d, hw, hi, hlt, hd => by
  simp only [lone, Bool.and_eq_true] at h
  cases i with
  | zero => omega
  | succ i =>
   cases w with
   | zero =>
    cases hw
    have h1 := h.1
    rw [hd] at h1
    simp only at h1
    split at h1
    ·rename_i hn; exact B0 hn i oi (by simpa using hi)
    ·cases h1
   | succ w => exact a0N h.2 w i ow oi d (by simpa using hw) (by simpa using hi) (by omega) hd
theorem Z9 {ops : Array Oper} {ms : List Nat} : ∀ {os : List Oper} {k : Nat}, a2q ops ms os k = true -> ∀ (i : Nat) (o : Oper), os[i]? = some o -> ∀ d ∈ a65 ops o, ∀ w, t6 ops.toList 0 d = some w -> w = k + i ∨ (if w < k + i then bef ms (k + i) w else bef ms w (k + i)) = true
 | [], _, _, i, o, h => by simp at h
 | p :: os, k, h, i, o, ho => by
  simp only [a2q, Bool.and_eq_true] at h
  cases i with
  | zero =>
   cases ho
   intro d hd w hw
   have h1 := h.1
   rw [all_eq_true] at h1
   have := h1 d hd
   rw [hw] at this
   simp only [Bool.or_eq_true] at this
   rcases this with h2 | h2
   ·exact .inl (Nat.eq_of_beq_eq_true h2)
   ·right
    split at h2
    ·rename_i hb
     rw [if_pos (by simpa [Nat.blt_eq] using hb)]; exact h2
    ·rename_i hb
     rw [if_neg (by intro hc; rw [Nat.blt_eq.mpr (by simpa using hc)] at hb; cases hb)]; exact h2
  | succ i =>
   have := Z9 h.2 i o (by simpa using ho)
   rwa [show k + 1 + i = k + (i + 1) from by omega] at this
theorem a1e : ∀ {os : List Oper} {k : Nat}, a6w os k = true -> ∀ (i : Nat) (o : Oper), os[i]? = some o -> ∀ e ∈ o.after, Region.binds .any e = true -> e.on < k + i
 | [], _, _, i, o, h => by simp at h
 | p :: os, k, h, i, o, ho => by
  simp only [a6w, Bool.and_eq_true] at h
  cases i with
  | zero =>
   cases ho
   intro e he hb
   have h1 := h.1
   rw [all_eq_true] at h1
   have := h1 e (by simpa using he)
   rw [hb] at this
   simpa [Nat.blt_eq] using this
  | succ i =>
   have := a1e h.2 i o (by simpa using ho)
   rwa [show k + 1 + i = k + (i + 1) from by omega] at this
structure Rck (ops : Array Oper) : Prop where
 back : ∀ (i : Nat) (o : Oper), ops[i]? = some o -> ∀ e ∈ o.after, Region.binds .any e = true -> e.on < i
 chain : ∀ (i k : Nat) (oi ok : Oper), ops[i]? = some oi -> ops[k]? = some ok -> g6 oi.op = .acts -> g6 ok.op = .acts -> k < i -> bef (G6 ops) i k = true
 dsts : ∀ (w i : Nat) (ow oi : Oper) (d : Tmp), ops[w]? = some ow -> ops[i]? = some oi -> w ≠ i -> ow.dst = some d -> oi.dst ≠ some d
 names : ∀ (w i : Nat) (ow oi : Oper) (d : Tmp), ops[w]? = some ow -> ops[i]? = some oi -> ow.dst = some d -> d ∈ a65 ops oi -> (w < i -> bef (G6 ops) i w = true) /\ (i < w -> bef (G6 ops) w i = true)
theorem J0 {ops : Array Oper} {i : Nat} {o : Oper} (h : ops[i]? = some o) : i < ops.size := (Array.getElem?_eq_some_iff.1 h).1
theorem a1R {o : Oper} : a1S o = true ↔ g6 o.op = .acts := by
 unfold a1S
 cases g6 o.op <;> simp
theorem t7 {ops : Array Oper} {i : Nat} : i ∈ a0r ops ↔ ∃ o, ops[i]? = some o /\ g6 o.op = .acts := by
 unfold a0r
 rw [L6]
 constructor
 ·rintro ⟨j, o, h1, h2, h3⟩
  have : i = j := by omega
  subst this
  exact ⟨o, by simpa using h1, a1R.1 h2⟩
 ·rintro ⟨o, h1, h2⟩
  exact ⟨i, o, by simpa using h1, a1R.2 h2, by omega⟩
theorem Rck.of {ops : Array Oper} (h : rck ops = true) : Rck ops := by
 unfold rck at h
 simp only [Bool.and_eq_true] at h
 obtain ⟨⟨⟨h1, h2⟩, h3⟩, h4⟩ := h
 have hdst : ∀ (w i : Nat) (ow oi : Oper) (d : Tmp), ops[w]? = some ow -> ops[i]? = some oi -> w ≠ i -> ow.dst = some d -> oi.dst ≠ some d := by
  intro w i ow oi d hw hi hne hd
  rcases Nat.lt_or_gt_of_ne hne with hlt | hgt
  ·exact a0N h3 w i ow oi d (by simpa using hw) (by simpa using hi) hlt hd
  ·intro hd'
   exact a0N h3 i w oi ow d (by simpa using hi) (by simpa using hw) hgt hd' hd
 refine ⟨?_, ?_, hdst, ?_⟩
 ·intro i o ho e he hb
  have := a1e h1 i o (by simpa using ho) e he hb
  omega
 ·intro i k oi ok hi hk ai ak hlt
  rw [all_eq_true] at h2
  have h2' := h2 i (t7.2 ⟨_, hi, ai⟩)
  rw [all_eq_true] at h2'
  have := h2' k (t7.2 ⟨_, hk, ak⟩)
  rw [Nat.blt_eq.mpr hlt] at this
  simpa using this
 ·intro w i ow oi d hw hi hd hl
  have hw' : t6 ops.toList 0 d = some w := by
   cases hc : t6 ops.toList 0 d with
   | none => exact absurd hd (B0 hc w ow (by simpa using hw))
   | some w' =>
    obtain ⟨j, o, q1, q2, q3⟩ := I4 hc
    have q1' : ops[j]? = some o := by simpa using q1
    have : j = w := Classical.byContradiction fun hne => hdst j w o ow d q1' hw hne q2 hd
    subst this
    rw [q3]; simp
  have := Z9 h4 i oi (by simpa using hi) d hl w hw'
  rw [Nat.zero_add] at this
  constructor
  ·intro hlt
   rcases this with h | h
   ·omega
   ·rw [if_pos hlt] at h; exact h
  ·intro hlt
   rcases this with h | h
   ·omega
   ·rw [if_neg (by omega)] at h; exact h
end Go.Abs
namespace Go.Abs
structure Trace where
 as : Nat -> Act
 ws : Nat -> World
 vs : Nat -> Value
def a1s (ops : Array Oper) (ms : List Nat) (i p : Nat) : Bool := ((a0r ops).all fun e => !decide (e < p) || !bef ms e i) && !bef ms i p
def a3D (v : Value) (b : Nat) : Prop := v = .pointer (some ⟨b, 0, none⟩) ∨ (∃ l c, v = .slice (some ⟨b, 0, none⟩) l c) ∨ v = .map (some b)
def U9 (P : Program) (L : Lvl) (ops : Array Oper) (T : Trace) (i : Nat) (o : Oper) : Prop :=
 T.as (i + 1) = (T.as i).put o.dst (T.vs i) /\
 if Region.wanted o (yielded ops (T.as i).tmps) then
  match g6 o.op with
  | .quiet => T.ws (i + 1) = T.ws i /\ ∀ p, p ∈ a0r ops ++ [ops.size] -> a1s ops (G6 ops) i p = true -> AOp P (T.as i).eval o (T.ws p) (.value (T.vs i)) (T.ws p)
  | .makes => ∃ obj, T.ws (i + 1) = (T.ws i).alloc obj /\ wr obj = true /\ a3D (T.vs i) (T.ws i).heap.size /\
    (∀ w, w.heap.size = (T.ws i).heap.size -> a2V P w (T.as i).eval o.op /\ (execOp (T.as i).eval o).run P w = .ok (.value (T.vs i)) (w.alloc obj)) /\
    ∀ p, p ∈ a0r ops ++ [ops.size] -> i < p -> a1s ops (G6 ops) i p = true -> (T.ws p).heap[(T.ws i).heap.size]? = some obj
  | .acts => Z5 P L o (T.as i) (T.ws i) (T.vs i) (T.ws (i + 1))
 else T.ws (i + 1) = T.ws i /\ T.vs i = undef
def a5m (P : Program) (L : Lvl) (ops : Array Oper) (a : Act) (A : World) (a' : Act) (A' : World) : Prop :=
 rck ops = true /\ ∃ T : Trace, T.as 0 = a /\ T.ws 0 = A /\ T.as ops.size = a' /\ T.ws ops.size = A' /\ ∀ (i : Nat) (o : Oper), ops[i]? = some o -> U9 P L ops T i o
section
variable {P : Program} {nO : Nat} {L : Lvl} {ops : Array Oper} {T : Trace}
theorem a8f (hL : Snd P nO L) {i : Nat} {o : Oper} (h : U9 P L ops T i o) : (T.ws i).heap.size <= (T.ws (i + 1)).heap.size := by
 obtain ⟨_, h⟩ := h
 split at h
 ·split at h
  ·rw [h.1]; exact Nat.le_refl _
  ·obtain ⟨obj, h1, _⟩ := h; rw [h1]; simp
  ·exact a85 hL h
 ·rw [h.1]; exact Nat.le_refl _
def Mk (P : Program) (ops : Array Oper) (T : Trace) (i : Nat) (obj : Obj) : Prop :=
 ∃ o, ops[i]? = some o /\ Region.wanted o (yielded ops (T.as i).tmps) = true /\ g6 o.op = .makes /\ T.ws (i + 1) = (T.ws i).alloc obj /\ wr obj = true /\ a3D (T.vs i) (T.ws i).heap.size /\
  (∀ w, w.heap.size = (T.ws i).heap.size -> a2V P w (T.as i).eval o.op /\ (execOp (T.as i).eval o).run P w = .ok (.value (T.vs i)) (w.alloc obj)) /\
  ∀ p, p ∈ a0r ops ++ [ops.size] -> i < p -> a1s ops (G6 ops) i p = true -> (T.ws p).heap[(T.ws i).heap.size]? = some obj
structure Puts (ops : Array Oper) (T : Trace) (S : Nat -> Prop) (a : Act) : Prop where
 size : a.tmps.size = (T.as 0).tmps.size
 defers : a.defers = (T.as 0).defers
 put : ∀ i o d, S i -> ops[i]? = some o -> o.dst = some d -> d < (T.as 0).tmps.size -> a.tmps[d]? = some (T.vs i)
 keep : ∀ t, (∀ i o, S i -> ops[i]? = some o -> o.dst ≠ some t) -> a.tmps[t]? = (T.as 0).tmps[t]?
theorem Puts.add (R : Rck ops) {S : Nat -> Prop} {a : Act} (h : Puts ops T S a) {i : Nat} {o : Oper} (ho : ops[i]? = some o) (hi : ¬ S i) : Puts ops T (fun k => S k ∨ k = i) (a.put o.dst (T.vs i)) := by
 cases hd : o.dst with
 | none =>
  refine ⟨h.size, h.defers, ?_, ?_⟩
  ·rintro k ok d (hk | rfl) hok hdk hlt
   ·exact h.put k ok d hk hok hdk hlt
   ·rw [ho] at hok; cases hok; rw [hd] at hdk; cases hdk
  ·intro t ht
   exact h.keep t fun k ok hk => ht k ok (.inl hk)
 | some d =>
  refine ⟨by simp [Act.put, h.size], h.defers, ?_, ?_⟩
  ·rintro k ok d' (hk | rfl) hok hdk hlt
   ·have hne : d ≠ d' := fun e => R.dsts i k o ok d ho hok (fun e => hi (e ▸ hk)) hd (e ▸ hdk)
    simp only [Act.put]
    rw [Array.getElem?_setIfInBounds_ne hne]
    exact h.put k ok d' hk hok hdk hlt
   ·rw [ho] at hok; cases hok; rw [hd] at hdk; cases hdk
    simp only [Act.put]
    exact Array.getElem?_setIfInBounds_self_of_lt (by rw [h.size]; exact hlt)
  ·intro t ht
   have hne : d ≠ t := fun e => ht i o (.inr rfl) ho (e ▸ hd)
   simp only [Act.put]
   rw [Array.getElem?_setIfInBounds_ne hne]
   exact h.keep t fun k ok hk => ht k ok (.inl hk)
theorem Puts.text (R : Rck ops) (hT : ∀ (i : Nat) (o : Oper), ops[i]? = some o -> U9 P L ops T i o) : ∀ i, i <= ops.size -> Puts ops T (fun k => k < i) (T.as i) := by
 intro i
 induction i with
 | zero => exact fun _ => ⟨rfl, rfl, fun k _ _ h => absurd h (Nat.not_lt_zero _), fun _ _ => rfl⟩
 | succ i ih =>
  intro hi
  have ho : ops[i]? = some ops[i] := Array.getElem?_eq_getElem (by omega)
  have := (ih (by omega)).add R ho (by omega)
  rw [(hT i _ ho).1]
  have e : (fun k => k < i + 1) = fun k => k < i ∨ k = i := by funext k; simp; omega
  rw [e]; exact this
theorem Puts.agree {S S' : Nat -> Prop} {a a' : Act} (h : Puts ops T S a) (h' : Puts ops T S' a') {t : Tmp} (hw : ∀ w o, ops[w]? = some o -> o.dst = some t -> (S w ↔ S' w)) : a.tmps[t]? = a'.tmps[t]? := by
 by_cases hlt : t < (T.as 0).tmps.size
 ·by_cases hex : ∃ w o, S w /\ ops[w]? = some o /\ o.dst = some t
  ·obtain ⟨w, o, hs, ho, hd⟩ := hex
   rw [h.put w o t hs ho hd hlt, h'.put w o t ((hw w o ho hd).1 hs) ho hd hlt]
  ·rw [h.keep t (fun w o hs ho hd => hex ⟨w, o, hs, ho, hd⟩), h'.keep t (fun w o hs ho hd => hex ⟨w, o, (hw w o ho hd).2 hs, ho, hd⟩)]
 ·rw [Array.getElem?_eq_none (by rw [h.size]; exact Nat.le_of_not_lt hlt), Array.getElem?_eq_none (by rw [h'.size]; exact Nat.le_of_not_lt hlt)]
theorem Puts.eval {S S' : Nat -> Prop} {a a' : Act} (h : Puts ops T S a) (h' : Puts ops T S' a') {x : Operand} (hw : ∀ t, x = .tmp t -> ∀ w o, ops[w]? = some o -> o.dst = some t -> (S w ↔ S' w)) : a.eval x = a'.eval x := by
 cases x with
 | tmp t =>
  simp only [Act.eval, Array.getD_eq_getD_getElem?]
  rw [h.agree h' (hw t rfl)]
 | _ => rfl
end
end Go.Abs
namespace Go.Abs
structure MovesB (P : Program) (ι : Ren) (A W : World) (ι' : Ren) (A' W' : World) (N : Nat) : Prop where
 le : ι.le ι'
 news : ∀ b e, ι b = none -> ι' b = some e -> A.heap.size <= b /\ b < N
 keep : ∀ b, b < W.heap.size -> (∀ k e o, ι k = some e -> A.heap[k]? = some o -> wr o = true -> e.blk ≠ b) -> W'.heap[b]? = W.heap[b]?
 img : ∀ k e o, ι' k = some e -> A'.heap[k]? = some o -> wr o = true -> e.blk < W.heap.size -> ∃ k0 e0 o0, ι k0 = some e0 /\ A.heap[k0]? = some o0 /\ wr o0 = true /\ e0.blk = e.blk
 fresh : ∀ k e, ι k = none -> ι' k = some e -> W.heap.size <= e.blk ∨ ∃ k0 e0 o0, ι k0 = some e0 /\ A.heap[k0]? = some o0 /\ wr o0 = true /\ e0.blk = e.blk
 asz : A.heap.size <= A'.heap.size
 wsz : W.heap.size <= W'.heap.size
 os : W'.os = W.os
 tape : W'.tape = W.tape
 output : W'.output = W.output
section
variable {P : Program} {nO : Nat} {L : Lvl} {ops : Array Oper} {T : Trace}
theorem MovesB.step {ι ι' ι'' : Ren} {A A' A'' W W' W'' : World} {N : Nat} (h : MovesB P ι A W ι' A' W' N) (k : Moves P ι' A' W' ι'' A'' W'') (hN : A''.heap.size <= N) : MovesB P ι A W ι'' A'' W'' N where
 le := h.le.trans k.le
 news b e hb he := by
  cases hb' : ι' b with
  | none => have := k.news b e hb' he; have := h.asz; omega
  | some e' => exact h.news b e' hb hb'
 keep b hb hn := by
  rw [k.keep b (Nat.lt_of_lt_of_le hb h.wsz) ?_, h.keep b hb hn]
  intro q e o hq ho hw hbe
  obtain ⟨k0, e0, o0, x, y, z, u⟩ := h.img q e o hq ho hw (hbe ▸ hb)
  exact hn k0 e0 o0 x y z (u.trans hbe)
 img q e o hq ho hw hb := by
  obtain ⟨k1, e1, o1, x, y, z, u⟩ := k.img q e o hq ho hw (Nat.lt_of_lt_of_le hb h.wsz)
  obtain ⟨k0, e0, o0, x0, y0, z0, u0⟩ := h.img k1 e1 o1 x y z (u ▸ hb)
  exact ⟨k0, e0, o0, x0, y0, z0, u0.trans u⟩
 fresh q e hq he := by
  cases hq' : ι' q with
  | none =>
   rcases k.fresh q e hq' he with h1 | ⟨k1, e1, o1, x, y, z, u⟩
   ·exact .inl (Nat.le_trans h.wsz h1)
   ·by_cases hlt : e.blk < W.heap.size
    ·obtain ⟨k0, e0, o0, x0, y0, z0, u0⟩ := h.img k1 e1 o1 x y z (u ▸ hlt)
     exact .inr ⟨k0, e0, o0, x0, y0, z0, u0.trans u⟩
    ·exact .inl (by omega)
  | some e' =>
   have := k.le q e' hq'
   rw [he] at this; cases this
   exact h.fresh q e hq hq'
 asz := Nat.le_trans h.asz k.asz
 wsz := Nat.le_trans h.wsz k.wsz
 os := k.os.trans h.os
 tape := k.tape.trans h.tape
 output := k.output.trans h.output
structure Core (P : Program) (nO : Nat) (ops : Array Oper) (T : Trace) (ι0 : Ren) (W0 : World) (S : Nat -> Prop) (m : Nat) (ι : Ren) (W : World) : Prop where
 sim : Sim P nO ι (T.ws m) W
 early : ∀ i obj, S i -> m <= i -> Mk P ops T i obj -> ∃ e, ι (T.ws i).heap.size = some e /\ a7G P nO ι e W obj /\ W0.heap.size <= e.blk /\
   (∀ k ek, ι k = some ek -> k ≠ (T.ws i).heap.size -> ek.blk ≠ e.blk)
 late : ∀ i obj, ¬ S i -> Mk P ops T i obj -> ι (T.ws i).heap.size = none
 free : ∀ k, (T.ws m).heap.size <= k -> k < (T.ws ops.size).heap.size -> (∀ i obj, S i -> Mk P ops T i obj -> k ≠ (T.ws i).heap.size) -> ι k = none
 mv : MovesB P ι0 (T.ws 0) W0 ι (T.ws m) W (T.ws ops.size).heap.size
theorem a7O (hsz : ∀ (i : Nat), i < ops.size -> (T.ws i).heap.size <= (T.ws (i + 1)).heap.size) : ∀ (k i : Nat), i + k <= ops.size -> (T.ws i).heap.size <= (T.ws (i + k)).heap.size
 | 0, i, _ => Nat.le_refl _
 | k + 1, i, h => Nat.le_trans (a7O hsz k i (by omega)) (hsz (i + k) (by omega))
theorem b0P {S : Nat -> Prop} (hc : ∀ i o, S i -> ops[i]? = some o -> ∀ e ∈ o.after.toList, Region.binds .any e = true -> S e.on) : ∀ (n i k : Nat) (o : Oper), i < n -> ops[i]? = some o -> (∀ e ∈ o.after.toList, Region.binds .any e = true -> S e.on) ->
  bef (G6 ops) i k = true -> S k
 | 0, i, k, o, h, _, _, _ => absurd h (Nat.not_lt_zero _)
 | n + 1, i, k, o, h, ho, hd, hb => by
  obtain ⟨e, he, hbi, hk⟩ := a2R ho hb
  rcases hk with rfl | ⟨hlt, hb'⟩
  ·exact hd e he hbi
  ·by_cases hlt2 : e.on < ops.size
   ·have ho' : ops[e.on]? = some ops[e.on] := Array.getElem?_eq_getElem hlt2
    exact b0P hc n e.on k _ (by omega) ho' (hc e.on _ (hd e he hbi) ho') hb'
   ·have := J0 ho; omega
theorem Sim.advance {ι : Ren} {A W : World} (S : Sim P nO ι A W) {obj : Obj} (hw : wr obj = true)
  (h : ι A.heap.size = none ∨ ∃ e, ι A.heap.size = some e /\ a7G P nO ι e W obj /\ ∀ k ek ok, ι k = some ek -> A.heap[k]? = some ok -> alive ok = true -> ek.blk ≠ e.blk) : Sim P nO ι (A.alloc obj) W where
 obj b e o hb ho := by
  rcases c9 ho with ⟨_, h'⟩ | ⟨rfl, rfl⟩
  ·exact S.obj b e o hb h'
  ·rcases h with h | ⟨e', h1, h2, _⟩
   ·rw [h] at hb; cases hb
   ·rw [h1] at hb; cases hb; exact h2
 inj b b' e e' o o' hb hb' ho ho' hwr hal hbk := by
  rcases c9 ho with ⟨_, h1⟩ | ⟨rfl, rfl⟩ <;> rcases c9 ho' with ⟨_, h1'⟩ | ⟨rfl, rfl⟩
  ·exact S.inj b b' e e' o o' hb hb' h1 h1' hwr hal hbk
  ·rcases h with h | ⟨e2, q1, _, q3⟩
   ·rw [h] at hb'; cases hb'
   ·rw [q1] at hb'; cases hb'
    exact absurd hbk (q3 b e o hb h1 (G5 hwr))
  ·rcases h with h | ⟨e2, q1, _, q3⟩
   ·rw [h] at hb; cases hb
   ·rw [q1] at hb; cases hb
    exact absurd hbk.symm (q3 b' e' o' hb' h1' hal)
  ·rfl
 dom := S.dom
 lo := S.lo
theorem Mk.lt {i : Nat} {obj : Obj} (h : Mk P ops T i obj) : (T.ws i).heap.size < (T.ws (i + 1)).heap.size := by
 obtain ⟨o, _, _, _, h1, _⟩ := h
 rw [h1]; simp
theorem Mk.sz {i : Nat} {obj : Obj} (h : Mk P ops T i obj) : i < ops.size := by
 obtain ⟨o, h1, _⟩ := h
 exact J0 h1
theorem Mk.id_lt (hm : ∀ i k, i <= k -> k <= ops.size -> (T.ws i).heap.size <= (T.ws k).heap.size) {i k : Nat} {obj obj' : Obj} (h : Mk P ops T i obj) (h' : Mk P ops T k obj') (hlt : i < k) : (T.ws i).heap.size < (T.ws k).heap.size :=
 Nat.lt_of_lt_of_le h.lt (hm _ _ hlt (Nat.le_of_lt h'.sz))
theorem Mk.id_ne (hm : ∀ i k, i <= k -> k <= ops.size -> (T.ws i).heap.size <= (T.ws k).heap.size) {i k : Nat} {obj obj' : Obj} (h : Mk P ops T i obj) (h' : Mk P ops T k obj') (hne : i ≠ k) : (T.ws i).heap.size ≠ (T.ws k).heap.size := by
 rcases Nat.lt_or_gt_of_ne hne with hlt | hlt
 ·have := h.id_lt hm h' hlt; omega
 ·have := h'.id_lt hm h hlt; omega
theorem Mk.of {i : Nat} {o : Oper} (ho : ops[i]? = some o) (h : U9 P L ops T i o) (hw : Region.wanted o (yielded ops (T.as i).tmps) = true) (hk : g6 o.op = .makes) : ∃ obj, Mk P ops T i obj := by
 obtain ⟨_, h⟩ := h
 rw [if_pos hw, hk] at h
 obtain ⟨obj, h1, h2, h3, h4, h5⟩ := h
 exact ⟨obj, o, ho, hw, hk, h1, h2, h3, h4, h5⟩
theorem Core.advance {ι0 ι : Ren} {W0 W : World} {S : Nat -> Prop} {m : Nat} {o : Oper}
  (ho : ops[m]? = some o) (hst : U9 P L ops T m o) (hna : g6 o.op ≠ .acts) (C : Core P nO ops T ι0 W0 S m ι W) : Core P nO ops T ι0 W0 S (m + 1) ι W := by
 have same : T.ws (m + 1) = T.ws m -> Core P nO ops T ι0 W0 S (m + 1) ι W := fun e =>
  ⟨by rw [e]; exact C.sim, fun i obj hs hle hk => C.early i obj hs (by omega) hk, C.late, by rw [e]; exact C.free, by rw [e]; exact C.mv⟩
 by_cases hw : Region.wanted o (yielded ops (T.as m).tmps) = true
 ·cases hk : g6 o.op with
  | quiet =>
   have h := hst.2
   rw [if_pos hw, hk] at h
   exact same h.1
  | acts => exact absurd hk hna
  | makes =>
   obtain ⟨obj, hmk⟩ := Mk.of ho hst hw hk
   obtain ⟨o', ho', _, _, h1, h2, _⟩ := id hmk
   have hsim : Sim P nO ι ((T.ws m).alloc obj) W := by
    refine C.sim.advance h2 ?_
    by_cases hs : S m
    ·obtain ⟨e, q1, q2, q3, q4⟩ := C.early m obj hs (Nat.le_refl _) hmk
     refine .inr ⟨e, q1, q2, fun k ek ok hk hok _ => q4 k ek hk ?_⟩
     have := (Array.getElem?_eq_some_iff.1 hok).1
     omega
    ·exact .inl (C.late m obj hs hmk)
   refine ⟨by rw [h1]; exact hsim, fun i obj hs hle hk => C.early i obj hs (by omega) hk, C.late, fun k hk1 hk2 hk3 => C.free k ?_ hk2 hk3, ?_⟩
   ·have := hmk.lt; omega
   ·rw [h1]
    refine ⟨C.mv.le, C.mv.news, C.mv.keep, ?_, C.mv.fresh, by have := C.mv.asz; simp; omega, C.mv.wsz, C.mv.os, C.mv.tape, C.mv.output⟩
    intro k e q hk hq hwq hlt
    rcases c9 hq with ⟨_, h'⟩ | ⟨rfl, rfl⟩
    ·exact C.mv.img k e q hk h' hwq hlt
    ·by_cases hs : S m
     ·obtain ⟨e', q1, _, q3, _⟩ := C.early m _ hs (Nat.le_refl _) hmk
      rw [q1] at hk; cases hk; omega
     ·rw [C.late m _ hs hmk] at hk; cases hk
 ·have h := hst.2
  rw [if_neg hw] at h
  exact same h.1
theorem Core.advanceTo {ι0 ι : Ren} {W0 W : World} {S : Nat -> Prop} (hT : ∀ (i : Nat) (o : Oper), ops[i]? = some o -> U9 P L ops T i o) : ∀ (d m : Nat), m + d <= ops.size ->
  (∀ j, m <= j -> j < m + d -> j ∉ a0r ops) -> Core P nO ops T ι0 W0 S m ι W -> Core P nO ops T ι0 W0 S (m + d) ι W
 | 0, m, _, _, C => C
 | d + 1, m, hle, hne, C => by
  have ho : ops[m]? = some ops[m] := Array.getElem?_eq_getElem (by omega)
  have := Core.advanceTo hT d (m + 1) (by omega) (fun j h1 h2 => hne j (by omega) (by omega)) (C.advance ho (hT m _ ho) fun hk => hne m (Nat.le_refl _) (by omega) (t7.2 ⟨_, ho, hk⟩))
  rw [show m + (d + 1) = m + 1 + d from by omega]
  exact this
theorem Core.move {ι0 ι ι1 : Ren} {W0 W W1 : World} {S S' : Nat -> Prop} {m m' : Nat} (C : Core P nO ops T ι0 W0 S m ι W) (S1 : Sim P nO ι1 (T.ws m') W1) (M : Moves P ι (T.ws m) W ι1 (T.ws m') W1)
  (hN : (T.ws m').heap.size <= (T.ws ops.size).heap.size) (hmm : m <= m')
  (hS : ∀ i obj, Mk P ops T i obj -> (S' i ↔ S i)) (hid : ∀ i obj, Mk P ops T i obj -> m' <= i -> (T.ws m').heap.size <= (T.ws i).heap.size)
  (hid2 : ∀ i obj, Mk P ops T i obj -> i < m' -> (T.ws i).heap.size < (T.ws m).heap.size) : Core P nO ops T ι0 W0 S' m' ι1 W1 := by
 have nonew : ∀ i obj, Mk P ops T i obj -> ι (T.ws i).heap.size = none -> ι1 (T.ws i).heap.size = none := by
  intro i obj hk h0
  cases h1 : ι1 (T.ws i).heap.size with
  | none => rfl
  | some e =>
   have := M.news _ _ h0 h1
   by_cases hlt : i < m'
   ·have := hid2 i obj hk hlt; omega
   ·have := hid i obj hk (by omega); omega
 refine ⟨S1, ?_, ?_, ?_, C.mv.step M hN⟩
 ·intro i obj hs hle hk
  obtain ⟨e, q1, q2, q3, q4⟩ := C.early i obj ((hS i obj hk).1 hs) (by omega) hk
  have hp : ∀ k ek ok, ι k = some ek -> (T.ws m).heap[k]? = some ok -> ek.blk ≠ e.blk := by
   intro k ek ok hkk hok
   refine q4 k ek hkk ?_
   have h1 := (Array.getElem?_eq_some_iff.1 hok).1
   have h2 := hid i obj hk hle
   have h3 := M.asz
   omega
  refine ⟨e, M.le _ _ q1, q2.later M.le (M.keep e.blk (C.sim.dom _ _ q1) fun k ek ok h1 h2 _ => hp k ek ok h1 h2), q3, ?_⟩
  intro k ek hkk hne
  cases h0 : ι k with
  | some e0 =>
   have := M.le k e0 h0
   rw [hkk] at this; cases this
   exact q4 k ek h0 hne
  | none =>
   rcases M.fresh k ek h0 hkk with h | ⟨k0, e0, o0, x, y, z, u⟩
   ·have := C.sim.dom _ _ q1; omega
   ·rw [<- u]; exact hp k0 e0 o0 x y
 ·intro i obj hs hk
  exact nonew i obj hk (C.late i obj (fun h => hs ((hS i obj hk).2 h)) hk)
 ·intro k h1 h2 h3
  have h0 := C.free k (Nat.le_trans M.asz h1) h2 fun i obj hs hk => h3 i obj ((hS i obj hk).2 hs) hk
  cases h : ι1 k with
  | none => rfl
  | some e => have := M.news k e h0 h; omega
end
end Go.Abs
namespace Go.Abs
section
variable {P : Program} {nO : Nat} {L : Lvl} {ops : Array Oper} {T : Trace}
def tombs (n : Nat) : World := { (default : World) with heap := Array.replicate n (.cells #[] 0 (2, 0)) }
theorem M8 (n : Nat) : (tombs n).heap.size = n := by simp [tombs]
theorem M7 {n k : Nat} {o : Obj} (h : (tombs n).heap[k]? = some o) : o = .cells #[] 0 (2, 0) := by
 simp only [tombs, Array.getElem?_replicate] at h
 split at h
 ·cases h; rfl
 ·cases h
theorem Sim.tombs {ι : Ren} {A W : World} (S : Sim P nO ι A W) (n : Nat) : Sim P nO ι (Abs.tombs n) W where
 obj b e o _ ho := by rw [M7 ho]; exact .inl ⟨rfl, rfl⟩
 inj b b' e e' o o' _ _ ho _ hw _ _ := by rw [M7 ho] at hw; simp [wr] at hw
 dom := S.dom
 lo := S.lo
theorem a9s (G : Good P) {ι : Ren} {W A : World} (S : Sim P nO ι A W) {ρ ρ' : Operand -> Value} {o : Oper} {id : Nat} {obj : Obj} {v : Value} (hk : g6 o.op = .makes) (hρ : ∀ x ∈ o.op.operands, VRel P ι (ρ x) (ρ' x))
  (hrun : ∀ w : World, w.heap.size = id -> a2V P w ρ o.op /\ (execOp ρ o).run P w = .ok (.value v) (w.alloc obj)) (hid : ι id = none) (hv : a3D v id) :
  ∃ ι1 v' W1 e, (execOp ρ' o).run P W = .ok (.value v') W1 /\ ι.le ι1 /\ (∀ k, k ≠ id -> ι1 k = ι k) /\ ι1 id = some e /\ W.heap.size <= e.blk /\ e.blk < W1.heap.size /\ a7G P nO ι1 e W1 obj /\ VRel P ι1 v v' /\
   (∀ k, k < W.heap.size -> W1.heap[k]? = W.heap[k]?) /\ W.heap.size <= W1.heap.size /\ W1.os = W.os /\ W1.tape = W.tape /\ W1.output = W.output := by
 have S0 := S.tombs id
 obtain ⟨hok, hr⟩ := hrun (tombs id) (M8 id)
 have hgr : b1c P ι ρ o.op := by
  cases ho : o.op <;> rw [ho] at hk <;> first | trivial | (simp [g6] at hk)
 obtain ⟨ι1, nx, W1, r1, S1, M1, N1⟩ := RS.reg G hρ hok hgr (tombs id) W _ _ S0 hr (fun b h1 h2 => by
  simp only [World.size_alloc, M8] at h1 h2
  have : b = id := by omega
  rw [this]; exact hid)
 cases nx <;> simp only [b3G] at N1
 rename_i v'
 have hkeys : ∀ k, k ≠ id -> ι1 k = ι k := by
  intro k hne
  cases h0 : ι k with
  | some e => exact M1.le k e h0
  | none =>
   cases h1 : ι1 k with
   | none => rfl
   | some e => have := M1.news k e h0 h1; simp only [World.size_alloc, M8] at this; omega
 have hex : ∃ e, ι1 id = some e := by
  rcases hv with rfl | ⟨l, c, rfl⟩ | rfl
  ·cases N1 with
   | ptr h => obtain ⟨_, _, e, h, _⟩ := h; exact ⟨e, h⟩
  ·cases N1 with
   | slice h =>
    rcases h with ⟨⟨_, _, e, h, _⟩, _⟩ | ⟨_, _, _, e, _, h, _⟩
    ·exact ⟨e, h⟩
    ·exact ⟨e, h⟩
  ·cases N1 with
   | map h _ => exact ⟨_, h⟩
 obtain ⟨e, he⟩ := hex
 have hfresh : W.heap.size <= e.blk := by
  rcases M1.fresh id e hid he with h | ⟨k0, e0, o0, _, h, hw, _⟩
  ·exact h
  ·rw [M7 h] at hw; simp [wr] at hw
 refine ⟨ι1, v', W1, e, r1, M1.le, hkeys, he, hfresh, S1.dom _ _ he, ?_, N1, ?_, M1.wsz, M1.os, M1.tape, M1.output⟩
 ·refine S1.obj id e obj he ?_
  have := i8 (tombs id) obj
  rw [M8] at this
  exact this
 ·intro k hk
  refine M1.keep k hk fun q eq oq _ h hw => ?_
  rw [M7 h] at hw; simp [wr] at hw
theorem Core.make {ι0 ι ι1 : Ren} {W0 W W1 : World} {S S' : Nat -> Prop} {m i : Nat} {obj : Obj} {e : Ent} (hm : ∀ i k, i <= k -> k <= ops.size -> (T.ws i).heap.size <= (T.ws k).heap.size)
  (C : Core P nO ops T ι0 W0 S m ι W) (hmk : Mk P ops T i obj) (hS : ∀ k, S' k ↔ (S k ∨ k = i)) (hi : ¬ S i)
  (hle : ι.le ι1) (hkeys : ∀ k, k ≠ (T.ws i).heap.size -> ι1 k = ι k) (he : ι1 (T.ws i).heap.size = some e) (hfr : W.heap.size <= e.blk) (hlt : e.blk < W1.heap.size) (ho : a7G P nO ι1 e W1 obj)
  (hkeep : ∀ k, k < W.heap.size -> W1.heap[k]? = W.heap[k]?) (hsz : W.heap.size <= W1.heap.size) (hos : W1.os = W.os) (htp : W1.tape = W.tape) (hout : W1.output = W.output)
  (hcert : i < m -> (T.ws m).heap[(T.ws i).heap.size]? = some obj) (hmi : m <= i -> (T.ws m).heap.size <= (T.ws i).heap.size) : Core P nO ops T ι0 W0 S' m ι1 W1 := by
 have hidn := C.late i obj hi hmk
 have hblk : ∀ k ek, k ≠ (T.ws i).heap.size -> ι1 k = some ek -> ek.blk < W.heap.size := fun k ek hne hk => C.sim.dom k ek (by rw [<- hkeys k hne]; exact hk)
 have hat : ∀ oq, (T.ws m).heap[(T.ws i).heap.size]? = some oq -> oq = obj := by
  intro oq h
  by_cases h1 : i < m
  ·rw [hcert h1] at h; cases h; rfl
  ·have := (Array.getElem?_eq_some_iff.1 h).1
   have := hmi (by omega)
   omega
 refine ⟨⟨?_, ?_, ?_, ?_⟩, ?_, ?_, ?_, ?_⟩
 ·intro b x q hb hq
  by_cases h : b = (T.ws i).heap.size
  ·subst h; rw [he] at hb; cases hb; rw [hat q hq]; exact ho
  ·exact (C.sim.obj b x q (by rw [<- hkeys b h]; exact hb) hq).later hle (hkeep _ (hblk b x h hb))
 ·intro b b' x x' q q' hb hb' hq hq' hw ha hbk
  by_cases h : b = (T.ws i).heap.size <;> by_cases h' : b' = (T.ws i).heap.size
  ·rw [h, h']
  ·subst h; rw [he] at hb; cases hb
   have := hblk b' x' h' hb'; omega
  ·subst h'; rw [he] at hb'; cases hb'
   have := hblk b x h hb; omega
  ·exact C.sim.inj b b' x x' q q' (by rw [<- hkeys b h]; exact hb) (by rw [<- hkeys b' h']; exact hb') hq hq' hw ha hbk
 ·intro b x hb
  by_cases h : b = (T.ws i).heap.size
  ·subst h; rw [he] at hb; cases hb; exact hlt
  ·have := hblk b x h hb; omega
 ·have := C.sim.lo; omega
 ·intro k objk hs hle' hmkk
  by_cases hki : k = i
  ·subst hki
   obtain ⟨o1, h1, _, _, h2, _⟩ := hmk
   obtain ⟨o2, h3, _, _, h4, _⟩ := hmkk
   have : objk = obj := by
    rw [h2] at h4
    have h5 : ((T.ws k).alloc obj).heap[(T.ws k).heap.size]? = ((T.ws k).alloc objk).heap[(T.ws k).heap.size]? := by rw [h4]
    rw [i8, i8] at h5
    cases h5; rfl
   subst this
   refine ⟨e, he, ho, by have := C.mv.wsz; omega, fun q eq hq hne => ?_⟩
   have := hblk q eq hne hq; omega
  ·have hs' : S k := by
    rcases (hS k).1 hs with h | h
    ·exact h
    ·exact absurd h hki
   obtain ⟨e', q1, q2, q3, q4⟩ := C.early k objk hs' hle' hmkk
   have hne := Mk.id_ne hm hmkk hmk hki
   refine ⟨e', by rw [hkeys _ hne]; exact q1, q2.later hle (hkeep _ (C.sim.dom _ _ q1)), q3, fun q eq hq hne' => ?_⟩
   by_cases hqi : q = (T.ws i).heap.size
   ·subst hqi; rw [he] at hq; cases hq
    have := C.sim.dom _ _ q1; omega
   ·exact q4 q eq (by rw [<- hkeys q hqi]; exact hq) hne'
 ·intro k objk hs hmkk
  have hki : k ≠ i := fun h => hs ((hS k).2 (.inr h))
  rw [hkeys _ (Mk.id_ne hm hmkk hmk hki)]
  exact C.late k objk (fun h => hs ((hS k).2 (.inl h))) hmkk
 ·intro k h1 h2 h3
  rw [hkeys k (h3 i obj ((hS i).2 (.inr rfl)) hmk)]
  exact C.free k h1 h2 fun q objq hs hmkq => h3 q objq ((hS q).2 (.inl hs)) hmkq
 ·refine ⟨C.mv.le.trans hle, ?_, ?_, ?_, ?_, C.mv.asz, Nat.le_trans C.mv.wsz hsz, hos.trans C.mv.os, htp.trans C.mv.tape, hout.trans C.mv.output⟩
  ·intro b x hb hx
   by_cases h : b = (T.ws i).heap.size
   ·subst h
    have h1 := hm 0 i (Nat.zero_le _) (Nat.le_of_lt hmk.sz)
    have h2 := hmk.lt
    have h3 := hm (i + 1) ops.size hmk.sz (Nat.le_refl _)
    omega
   ·rw [hkeys b h] at hx; exact C.mv.news b x hb hx
  ·intro b hb hn
   rw [hkeep b (Nat.lt_of_lt_of_le hb C.mv.wsz)]
   exact C.mv.keep b hb hn
  ·intro k x q hk hq hw hlt'
   by_cases h : k = (T.ws i).heap.size
   ·subst h; rw [he] at hk; cases hk
    have := C.mv.wsz; omega
   ·exact C.mv.img k x q (by rw [<- hkeys k h]; exact hk) hq hw hlt'
  ·intro k x hk hx
   by_cases h : k = (T.ws i).heap.size
   ·subst h; rw [he] at hx; cases hx
    exact .inl (Nat.le_trans C.mv.wsz hfr)
   ·rw [hkeys k h] at hx; exact C.mv.fresh k x hk hx
end
end Go.Abs
