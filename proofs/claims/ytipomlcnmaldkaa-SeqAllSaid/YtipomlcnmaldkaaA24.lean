/-
  ABS 24: the evaluator: calls, loops, regions; all that it says is so.
-/
import Derived.Test.YtipomlcnmaldkaaA23
namespace Go.Abs
section
variable (P : Program) (E : Ev)

def evEnter (ρ : Operand → Value) (c : Call) (g : Operand) (A : World) : Option (Value × World) :=
  match ρ g with
  | .func (.func f) first cap =>
    match P.funcs[f]? with
    | some fn => (match fn.body.isSome && !(fn.name == "runtime.NumGoroutine") with
      | true => E.calls f (first ++ c.args.map ρ ++ cap) A
      | false => none)
    | none => none
  | .func (.yield l) first _ =>
    match A.heap[l]? with
    | some (.loop r) => (match decide ((first ++ c.args.map ρ).size = r.params.size) with
      | true => E.rounds l ((r.params.zip (first ++ c.args.map ρ)).foldl (fun tmps (t, a) => tmps.setIfInBounds t a) r.tmps) r.assign r.body A
      | false => none)
    | _ => none
  | _ => none
def evRun (ρ : Operand → Value) (o : Oper) (A : World) : Option (Value × World) :=
  match regB P A ρ o.op with
  | true => (match (execOp ρ o).run P A with
    | .ok (.value v) A' => some (v, A')
    | .ok .skip A' => some (undef, A')
    | _ => none)
  | false => none
def evStay (ρ : Operand → Value) (o : Oper) (A : World) : Option (Value × World) :=
  match evVal P ρ o A with
  | some v => some (v, A)
  | none => none
def evOp (o : Oper) (a : Act) (A : World) : Option (Value × World) :=
  match o.op with
  | .call c => (match c.callee with
    | .builtin .append => evAppend P c.argTypes (c.args.map a.eval).toList A
    | .value g => (match evEnter P E a.eval c g A with
      | some r => some r
      | none => evStay P a.eval o A)
    | .builtin .copy | .builtin .clear | .builtin .delete => evRun P a.eval o A
    | _ => evStay P a.eval o A)
  | .store .. | .mapUpdate .. => evRun P a.eval o A
  | op => match decide (kindOf op = .makes) with
    | true => (match evMake P a.eval o A with | some (v, obj) => some (v, A.alloc obj) | none => none)
    | false => evStay P a.eval o A
variable {P E} {L : Lvl}

theorem evRun_ok {o : Oper} {a : Act} {A A' : World} {v : Value} (h : evRun P a.eval o A = some (v, A')) : RunOp P L o a A v A' := by
  unfold evRun at h
  split at h
  · rename_i hr
    split at h
    · rename_i hrun; cases h; exact ⟨_, _, .inr (.inl ⟨regB_ok hr, hrun⟩), rfl, rfl⟩
    · rename_i hrun; cases h; exact ⟨_, _, .inr (.inl ⟨regB_ok hr, hrun⟩), rfl, rfl⟩
    · cases h
  · cases h
theorem evStay_ok {o : Oper} {a : Act} {A A' : World} {v : Value} (h : evStay P a.eval o A = some (v, A')) : RunOp P L o a A v A' := by
  unfold evStay at h
  split at h
  · rename_i hv; cases h; exact ⟨_, _, evVal_ok hv, rfl, rfl⟩
  · cases h
theorem evEnter_ok (hE : EvOk E L) {o : Oper} {a : Act} {A A' : World} {v : Value} {c : Call} {g : Operand} (ho : o.op = .call c) (hc : c.callee = .value g) (h : evEnter P E a.eval c g A = some (v, A')) : RunOp P L o a A v A' := by
  unfold evEnter at h
  split at h
  · rename_i f first cap hg
    split at h
    · rename_i fn hf
      split at h
      · rename_i hb
        simp only [Bool.and_eq_true, Option.isSome_iff_exists, Bool.not_eq_true'] at hb
        obtain ⟨⟨code, hb⟩, hn⟩ := hb
        exact ⟨.enter f (first ++ c.args.map a.eval ++ cap), A, .inr (.inr (.inr (.inl ⟨c, g, f, first, cap, fn, code, ho, hc, hg, hf, hb, hn, rfl, rfl⟩))), hE.calls _ _ _ _ _ h⟩
      · cases h
    · cases h
  · rename_i l first cap hg
    split at h
    · rename_i r hl
      split at h
      · rename_i hs
        simp only [decide_eq_true_eq] at hs
        exact ⟨_, A, .inr (.inr (.inr (.inr ⟨c, g, l, first, cap, r, ho, hc, hg, hl, hs, rfl, rfl⟩))), hE.rounds _ _ _ _ _ _ _ h⟩
      · cases h
    · cases h
  · cases h
theorem evOp_ok (hE : EvOk E L) {o : Oper} {a : Act} {A A' : World} {v : Value} (h : evOp P E o a A = some (v, A')) : RunOp P L o a A v A' := by
  unfold evOp at h
  split at h
  · rename_i c ho
    split at h
    · rename_i hc
      refine ⟨.value v, A', .inr (.inr (.inl ⟨c, v, ho, hc, rfl, evAppend_ok h⟩)), rfl, rfl⟩
    · rename_i g hc
      split at h
      · rename_i r hr; exact evEnter_ok hE ho hc (hr.trans h)
      · exact evStay_ok h
    · exact evRun_ok h
    · exact evRun_ok h
    · exact evRun_ok h
    · exact evStay_ok h
  · exact evRun_ok h
  · exact evRun_ok h
  · rename_i h1 h2 h3
    split at h
    · rename_i hk
      simp only [decide_eq_true_eq] at hk
      split at h
      · rename_i u obj hm
        cases h
        obtain ⟨q1, q2⟩ := evMake_ok hk hm A rfl
        exact ⟨_, _, .inr (.inl ⟨q1, q2⟩), rfl, rfl⟩
      · cases h
    · exact evStay_ok h

variable (P E)
def evOps (ops : Array Oper) : List Nat → Act → World → Option (Act × World)
  | [], a, A => some (a, A)
  | i :: rest, a, A =>
    match ops[i]? with
    | none => evOps ops rest a A
    | some o =>
      match Region.wanted o (yielded ops a.tmps) with
      | true => (match evOp P E o a A with
        | some (v, A1) => evOps ops rest (a.put o.dst v) A1
        | none => none)
      | false => evOps ops rest (a.put o.dst undef) A
variable {P E}
theorem evOps_ok (hE : EvOk E L) {ops : Array Oper} : ∀ {l : List Nat} {a a' : Act} {A A' : World}, evOps P E ops l a A = some (a', A') → RunOps P L ops l a A a' A'
  | [], a, a', A, A', h => by simp only [evOps, Option.some.injEq, Prod.mk.injEq] at h; exact ⟨h.1.symm, h.2.symm⟩
  | i :: rest, a, a', A, A', h => by
    simp only [evOps] at h
    simp only [RunOps]
    split at h
    · rename_i ho; rw [ho]; exact evOps_ok hE h
    · rename_i o ho
      rw [ho]
      simp only
      split at h
      · rename_i hw
        rw [if_pos hw]
        split at h
        · rename_i v A1 hv
          exact ⟨v, A1, evOp_ok hE hv, evOps_ok hE h⟩
        · cases h
      · rename_i hw
        rw [if_neg (by simp [hw])]
        exact evOps_ok hE h

variable (P E)
abbrev Row := Act × World × Value
def evDraw1 (ops : Array Oper) (o : Oper) (a : Act) (A : World) : Option (Value × World) :=
  match Region.wanted o (yielded ops a.tmps) with
  | true => evOp P E o a A
  | false => some (undef, A)
def evRows (ops : Array Oper) : List Oper → Act → World → Option (List Row)
  | [], a, A => some [(a, A, undef)]
  | o :: os, a, A =>
    match evDraw1 P E ops o a A with
    | some (v, A1) => (match evRows ops os (a.put o.dst v) A1 with
      | some rest => some ((a, A, v) :: rest)
      | none => none)
    | none => none
def rowW (rows : List Row) (i : Nat) (A : World) : World := match rows[i]? with | some r => r.2.1 | none => A
/-- The certificate of the operation that stands at i. -/
def evSure (ops : Array Oper) (rows : List Row) (A0 : World) (i : Nat) (o : Oper) : Bool :=
  match rows[i]? with
  | some (a, A, v) =>
    (match Region.wanted o (yielded ops a.tmps) with
    | true => (match kindOf o.op with
      | .quiet => (effs ops ++ [ops.size]).all fun p => !mayAt ops (masks ops) i p || (match evVal P a.eval o (rowW rows p A0) with | some v' => beqV 4 v' v | none => false)
      | .makes => (match evMake P a.eval o A with
        | some (_, obj) => wr obj && newB v A.heap.size && (effs ops ++ [ops.size]).all fun p => !decide (i < p) || !mayAt ops (masks ops) i p || (match (rowW rows p A0).heap[A.heap.size]? with | some o' => beqO o' obj | none => false)
        | none => false)
      | .acts => true)
    | false => true)
  | none => false
def evSures (ops : Array Oper) (rows : List Row) (A0 : World) : Nat → List Oper → Bool
  | _, [] => true
  | i, o :: os => evSure P ops rows A0 i o && evSures ops rows A0 (i + 1) os
def evLast : List Row → Option (Act × World)
  | [] => none
  | [(a, A, _)] => some (a, A)
  | _ :: r => evLast r
def evDraw (ops : Array Oper) (a : Act) (A : World) : Option (Act × World) :=
  match rck ops with
  | true => (match evRows P E ops ops.toList a A with
    | some rows => (match evSures P ops rows A 0 ops.toList with
      | true => evLast rows
      | false => none)
    | none => none)
  | false => none
variable {P E}

theorem evRows_spec {ops : Array Oper} : ∀ {os : List Oper} {a : Act} {A : World} {rows : List Row}, evRows P E ops os a A = some rows →
    rows.length = os.length + 1 ∧ (∃ v, rows[0]? = some (a, A, v)) ∧ (∀ i o, os[i]? = some o → ∃ ai Ai vi vj A1, rows[i]? = some (ai, Ai, vi) ∧ rows[i + 1]? = some (ai.put o.dst vi, A1, vj) ∧ evDraw1 P E ops o ai Ai = some (vi, A1)) ∧
    ∃ al Al vl, rows[os.length]? = some (al, Al, vl) ∧ evLast rows = some (al, Al)
  | [], a, A, rows, h => by
    simp only [evRows, Option.some.injEq] at h
    subst h
    exact ⟨rfl, ⟨_, rfl⟩, fun i o ho => by simp at ho, _, _, _, rfl, rfl⟩
  | o :: os, a, A, rows, h => by
    simp only [evRows] at h
    split at h
    · rename_i v A1 hv
      split at h
      · rename_i rest hrest
        cases h
        obtain ⟨h1, ⟨v0, h2⟩, h3, al, Al, vl, h4, h5⟩ := evRows_spec hrest
        refine ⟨by simp [h1], ⟨_, rfl⟩, ?_, al, Al, vl, by simpa using h4, ?_⟩
        · intro i o' ho
          cases i with
          | zero => cases ho; exact ⟨a, A, v, v0, A1, rfl, by simpa using h2, hv⟩
          | succ i => simpa using h3 i o' (by simpa using ho)
        · cases rest with
          | nil => simp at h1
          | cons r rest => exact h5
      · cases h
    · cases h
theorem evSures_spec {ops : Array Oper} {rows : List Row} {A0 : World} : ∀ {os : List Oper} {k : Nat}, evSures P ops rows A0 k os = true → ∀ i o, os[i]? = some o → evSure P ops rows A0 (k + i) o = true
  | [], _, _, i, o, ho => by simp at ho
  | p :: os, k, h, i, o, ho => by
    simp only [evSures, Bool.and_eq_true] at h
    cases i with
    | zero => cases ho; exact h.1
    | succ i =>
      have := evSures_spec h.2 i o (by simpa using ho)
      rwa [show k + 1 + i = k + (i + 1) from by omega] at this

def traceOf (rows : List Row) (a : Act) (A : World) : Trace where
  as i := match rows[i]? with | some r => r.1 | none => a
  ws i := rowW rows i A
  vs i := match rows[i]? with | some r => r.2.2 | none => undef

theorem evDraw_ok (hE : EvOk E L) {ops : Array Oper} {a a' : Act} {A A' : World} (h : evDraw P E ops a A = some (a', A')) : RunDraw P L ops a A a' A' := by
  unfold evDraw at h
  split at h
  · rename_i hr
    split at h
    · rename_i rows hrows
      split at h
      · rename_i hs
        obtain ⟨h1, ⟨v0, h2⟩, h3, al, Al, vl, h4, h5⟩ := evRows_spec hrows
        rw [h5] at h
        cases h
        have hsz : ops.toList.length = ops.size := by simp
        rw [hsz] at h4
        refine ⟨hr, traceOf rows a A, by simp [traceOf, h2], by simp [traceOf, rowW, h2], by simp [traceOf, h4], by simp [traceOf, rowW, h4], fun i o ho => ?_⟩
        have ho' : ops.toList[i]? = some o := by simpa using ho
        obtain ⟨ai, Ai, vi, vj, A1, k1, k2, k3⟩ := h3 i o ho'
        have hsure := evSures_spec hs i o ho'
        rw [Nat.zero_add] at hsure
        have e1 : (traceOf rows a A).as i = ai := by simp [traceOf, k1]
        have e2 : (traceOf rows a A).ws i = Ai := by simp [traceOf, rowW, k1]
        have e3 : (traceOf rows a A).vs i = vi := by simp [traceOf, k1]
        have e4 : (traceOf rows a A).as (i + 1) = ai.put o.dst vi := by simp [traceOf, k2]
        have e5 : (traceOf rows a A).ws (i + 1) = A1 := by simp [traceOf, rowW, k2]
        refine ⟨by rw [e4, e1, e3], ?_⟩
        rw [e1, e2, e3, e5]
        unfold evSure at hsure
        rw [k1] at hsure
        simp only at hsure
        unfold evDraw1 at k3
        split
        · rename_i hw
          rw [hw] at hsure k3
          simp only at hsure k3
          split
          · rename_i hk
            rw [hk] at hsure
            simp only [List.all_eq_true] at hsure
            have hall : ∀ p, p ∈ effs ops ++ [ops.size] → mayAt ops (masks ops) i p = true → AOp P ai.eval o ((traceOf rows a A).ws p) (.value vi) ((traceOf rows a A).ws p) := by
              intro p hp hm
              have := hsure p hp
              rw [hm] at this
              simp only [Bool.not_true, Bool.false_or] at this
              split at this
              · rename_i v' hv
                rw [beqV_eq this] at hv
                exact evVal_ok hv
              · cases this
            refine ⟨?_, hall⟩
            unfold evOp at k3
            split at k3
            · rename_i c hc
              rw [hc] at hk
              split at k3
              · rename_i hcc; simp [kindOf, hcc] at hk
              · rename_i hcc; simp [kindOf, hcc] at hk
              · rename_i hcc; simp [kindOf, hcc] at hk
              · rename_i hcc; simp [kindOf, hcc] at hk
              · rename_i hcc; simp [kindOf, hcc] at hk
              · unfold evStay at k3
                split at k3 <;> cases k3
                rfl
            · rename_i hc; rw [hc] at hk; simp [kindOf] at hk
            · rename_i hc; rw [hc] at hk; simp [kindOf] at hk
            · split at k3
              · rename_i hd; simp only [decide_eq_true_eq] at hd; rw [hk] at hd; cases hd
              · unfold evStay at k3
                split at k3 <;> cases k3
                rfl
          · rename_i hk
            rw [hk] at hsure
            simp only at hsure
            split at hsure
            · rename_i v' obj hm
              simp only [Bool.and_eq_true, List.all_eq_true] at hsure
              obtain ⟨⟨q1, q2⟩, q3⟩ := hsure
              have hve : vi = v' ∧ A1 = Ai.alloc obj := by
                unfold evOp at k3
                split at k3
                · rename_i c hc; rw [hc] at hk; simp only [kindOf] at hk; split at hk <;> cases hk
                · rename_i hc; rw [hc] at hk; simp [kindOf] at hk
                · rename_i hc; rw [hc] at hk; simp [kindOf] at hk
                · split at k3
                  · rw [hm] at k3; simp only [Option.some.injEq, Prod.mk.injEq] at k3; exact ⟨k3.1.symm, k3.2.symm⟩
                  · rename_i hd; simp only [decide_eq_false_iff_not] at hd; exact absurd hk hd
              obtain ⟨rfl, rfl⟩ := hve
              refine ⟨obj, rfl, q1, newB_ok q2, evMake_ok hk hm, fun p hp hlt hma => ?_⟩
              have := q3 p hp
              simp only [hlt, decide_true, Bool.not_true, Bool.false_or, hma] at this
              split at this
              · rename_i o' ho2
                rw [beqO_eq this] at ho2
                exact ho2
              · cases this
            · cases hsure
          · exact evOp_ok hE k3
        · rename_i hw
          simp only [Bool.not_eq_true] at hw
          rw [hw] at k3
          cases k3
          exact ⟨rfl, rfl⟩
      · cases h
    · cases h
  · cases h
end
end Go.Abs
