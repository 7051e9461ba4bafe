/-
  ABS 33: the second evaluator: regions, calls, loops; all that it says is so.
-/
import Derived.Test.YtipomlcnmaldkaaA32
namespace Go.Abs
section
variable (P : Program) (E : EvT)

noncomputable def evGo (o : Oper) (R : Rg) (h : Hp) (ih : Rg → Hp → Option (Rg × Hp)) : Option (Rg × Hp) := match evOpF P E o R h with
  | some (v, h1) => R.setK o.dst v fun R1 => ih R1 h1
  | none => none
noncomputable def evIf (ops : Array Oper) (o : Oper) (R : Rg) (h : Hp) (ih : Rg → Hp → Option (Rg × Hp)) : Option (Rg × Hp) := match Region.wanted o (yieldedT ops R) with
  | true => evGo P E o R h ih
  | false => R.setK o.dst undef fun R1 => ih R1 h
noncomputable def evStep (ops : Array Oper) (o : Oper) (R : Rg) (h : Hp) (ih : Rg → Hp → Option (Rg × Hp)) : Option (Rg × Hp) := match o.guard with
  | none => evGo P E o R h ih
  | some _ => evIf P E ops o R h ih
theorem evStep_eq (ops : Array Oper) (o : Oper) (R : Rg) (h : Hp) (ih : Rg → Hp → Option (Rg × Hp)) : evStep P E ops o R h ih = evIf P E ops o R h ih := by
  unfold evStep
  split
  · rename_i hg
    unfold evIf Region.wanted
    rw [hg]
  · rfl
noncomputable def evOpsT (ops : Array Oper) (os : List Oper) (R : Rg) (h : Hp) : Option (Rg × Hp) :=
  List.rec (motive := fun _ => Rg → Hp → Option (Rg × Hp)) (fun R h => some (R, h)) (fun o _ ih R h => evStep P E ops o R h ih) os R h
theorem evOpsT_nil (ops : Array Oper) (R : Rg) (h : Hp) : evOpsT P E ops [] R h = some (R, h) := rfl
theorem evOpsT_cons (ops : Array Oper) (o : Oper) (os : List Oper) (R : Rg) (h : Hp) : evOpsT P E ops (o :: os) R h =
    match Region.wanted o (yieldedT ops R) with
      | true => (match evOpF P E o R h with
        | some (v, h1) => R.setK o.dst v fun R1 => evOpsT P E ops os R1 h1
        | none => none)
      | false => R.setK o.dst undef fun R1 => evOpsT P E ops os R1 h := (evStep_eq P E ops o R h _).trans rfl

abbrev RowT := Rg × Hp × Value
noncomputable def evDraw1T (ops : Array Oper) (o : Oper) (R : Rg) (h : Hp) : Option (Value × Hp) :=
  match Region.wanted o (yieldedT ops R) with
  | true => evOpF P E o R h
  | false => some (undef, h)
noncomputable def evRowsT (ops : Array Oper) : List Oper → Rg → Hp → Option (List RowT)
  | [], R, h => some [(R, h, undef)]
  | o :: os, R, h =>
    match evDraw1T P E ops o R h with
    | some (v, h1) => R.setK o.dst v fun R1 => (match evRowsT ops os R1 h1 with
      | some rest => some ((R, h, v) :: rest)
      | none => none)
    | none => none
noncomputable def rowH (rows : List RowT) (i : Nat) (h : Hp) : Hp := match rows[i]? with | some r => r.2.1 | none => h
noncomputable def evSureT (ops : Array Oper) (rows : List RowT) (h0 : Hp) (i : Nat) (o : Oper) : Bool :=
  match rows[i]? with
  | some (R, h, v) =>
    (match Region.wanted o (yieldedT ops R) with
    | true => (match kindOf o.op with
      | .quiet => (match calm (fast P o) with
        | true => (match evFast R h (fast P o) with | some v' => beqV 4 v' v | none => false)
        | false => false) || (effs ops ++ [ops.size]).all fun p => !mayAt ops (masks ops) i p || sureAt P R v o (rowH rows p h0)
      | .makes => (match evMakeT P (evalT R) o h with
        | some (_, obj) => wr obj && newB v h.n && (effs ops ++ [ops.size]).all fun p => !decide (i < p) || !mayAt ops (masks ops) i p || (match (rowH rows p h0).t.get h.n with | some o' => beqO o' obj | none => false)
        | none => false)
      | .acts => true)
    | false => true)
  | none => false
noncomputable def evSuresT (ops : Array Oper) (rows : List RowT) (h0 : Hp) : Nat → List Oper → Bool
  | _, [] => true
  | i, o :: os => evSureT P ops rows h0 i o && evSuresT ops rows h0 (i + 1) os
noncomputable def evLastT : List RowT → Option (Rg × Hp)
  | [] => none
  | [(R, h, _)] => some (R, h)
  | _ :: r => evLastT r
noncomputable def evDrawT (ops : Array Oper) (R : Rg) (h : Hp) : Option (Rg × Hp) :=
  match rck ops with
  | true => (match evRowsT P E ops ops.toList R h with
    | some rows => (match evSuresT P ops rows h 0 ops.toList with
      | true => evLastT rows
      | false => none)
    | none => none)
  | false => none
variable {P E} {L : Lvl}

theorem evOpsT_ok (hE : EvTOk E L) {ops : Array Oper} : ∀ {os : List Oper} {k : Nat} {R R' : Rg} {h h' : Hp} {a : Act} {A : World}, (∀ i o, os[i]? = some o → ops[k + i]? = some o) → RepA R a → Rep h A → evOpsT P E ops os R h = some (R', h') →
    ∃ a' A', RunOps P L ops (List.range' k os.length) a A a' A' ∧ RepA R' a' ∧ a'.defers = a.defers ∧ Rep h' A'
  | [], k, R, R', h, h', a, A, _, ra, r, q => by
    simp only [evOpsT_nil, Option.some.injEq, Prod.mk.injEq] at q
    obtain ⟨rfl, rfl⟩ := q
    exact ⟨a, A, ⟨rfl, rfl⟩, ra, rfl, r⟩
  | o :: os, k, R, R', h, h', a, A, hos, ra, r, q => by
    have ho : ops[k]? = some o := hos 0 o rfl
    have hos' : ∀ i o, os[i]? = some o → ops[k + 1 + i]? = some o := fun i o' h' => by
      have := hos (i + 1) o' (by simpa using h')
      rwa [show k + (i + 1) = k + 1 + i from by omega] at this
    have hput : ∀ v, (a.put o.dst v).defers = a.defers := fun v => by cases o.dst <;> rfl
    simp only [evOpsT_cons] at q
    rw [yieldedT_eq ra] at q
    simp only [List.length_cons, List.range'_succ, RunOps]
    rw [ho]
    simp only
    split at q
    · rename_i hw
      split at q
      · rename_i v h1 hv
        rw [Rg.setK_eq] at q
        obtain ⟨A1, q1, q2, _⟩ := evOpF_ok hE ra r hv
        obtain ⟨a', A', q3, q4, q5, q6⟩ := evOpsT_ok hE hos' (ra.set o.dst v) q2 q
        exact ⟨a', A', by rw [if_pos hw]; exact ⟨v, A1, q1, q3⟩, q4, q5.trans (hput v), q6⟩
      · cases q
    · rename_i hw
      rw [Rg.setK_eq] at q
      obtain ⟨a', A', q3, q4, q5, q6⟩ := evOpsT_ok hE hos' (ra.set o.dst undef) r q
      exact ⟨a', A', by rw [if_neg (by rw [hw]; decide)]; exact q3, q4, q5.trans (hput undef), q6⟩

/-- What the second evaluator's rows stand for. -/
def RowsOk (P : Program) (L : Lvl) (ops : Array Oper) (os : List Oper) (rows : List RowT) (rs : List Row) : Prop :=
  rs.length = os.length + 1 ∧ rows.length = rs.length ∧
  (∀ (i : Nat) (R : Rg) (h : Hp) (v : Value) (a : Act) (A : World) (u : Value), rows[i]? = some (R, h, v) → rs[i]? = some (a, A, u) → RepA R a ∧ Rep h A ∧ u = v) ∧
  (∀ (i : Nat) (o : Oper), os[i]? = some o → ∃ (ai : Act) (Ai : World) (vi vj : Value) (A1 : World), rs[i]? = some (ai, Ai, vi) ∧ rs[i + 1]? = some (ai.put o.dst vi, A1, vj) ∧
    (if Region.wanted o (yielded ops ai.tmps) then RunOp P L o ai Ai vi A1 ∧ OpT P o ai Ai vi A1 else vi = undef ∧ A1 = Ai)) ∧
  (∃ (al : Act) (Al : World) (vl : Value) (Rl : Rg) (hl : Hp), rs[os.length]? = some (al, Al, vl) ∧ evLastT rows = some (Rl, hl) ∧ rows[os.length]? = some (Rl, hl, vl))
theorem evRowsT_ok (hE : EvTOk E L) {ops : Array Oper} : ∀ {os : List Oper} {R : Rg} {h : Hp} {a : Act} {A : World} {rows : List RowT}, RepA R a → Rep h A → evRowsT P E ops os R h = some rows →
    ∃ rs : List Row, RowsOk P L ops os rows rs ∧ (∃ v, rs[0]? = some (a, A, v)) ∧ (∃ v, rows[0]? = some (R, h, v)) ∧ (∀ (i : Nat) (a1 : Act) (A1 : World) (v : Value), rs[i]? = some (a1, A1, v) → a1.defers = a.defers)
  | [], R, h, a, A, rows, ra, r, q => by
    simp only [evRowsT, Option.some.injEq] at q
    subst q
    refine ⟨[(a, A, undef)], ⟨rfl, rfl, ?_, fun i o ho => by simp at ho, a, A, undef, R, h, rfl, rfl, rfl⟩, ⟨_, rfl⟩, ⟨_, rfl⟩, ?_⟩
    · intro i R' h' v' a' A' u h1 h2
      cases i with
      | zero => cases h1; cases h2; exact ⟨ra, r, rfl⟩
      | succ i => simp at h1
    · intro i a1 A1 v h1
      cases i with
      | zero => cases h1; rfl
      | succ i => simp at h1
  | o :: os, R, h, a, A, rows, ra, r, q => by
    simp only [evRowsT] at q
    split at q
    · rename_i v h1 hv
      rw [Rg.setK_eq] at q
      split at q
      · rename_i rest hrest
        cases q
        obtain ⟨A1, hstep, r1⟩ : ∃ A1, (if Region.wanted o (yielded ops a.tmps) then RunOp P L o a A v A1 ∧ OpT P o a A v A1 else v = undef ∧ A1 = A) ∧ Rep h1 A1 := by
          unfold evDraw1T at hv
          rw [yieldedT_eq ra] at hv
          split at hv
          · rename_i hw
            obtain ⟨A1, q1, q2, q3⟩ := evOpF_ok hE ra r hv
            exact ⟨A1, by rw [if_pos hw]; exact ⟨q1, q3⟩, q2⟩
          · rename_i hw
            cases hv
            exact ⟨A, by rw [if_neg (by rw [hw]; decide)]; exact ⟨rfl, rfl⟩, r⟩
        obtain ⟨rs, ⟨g1, g2, g3, g4, al, Al, vl, Rl, hl, g5, g6, g7⟩, ⟨v0, g8⟩, ⟨v1, g9⟩, g10⟩ := evRowsT_ok hE (ra.set o.dst v) r1 hrest
        refine ⟨(a, A, v) :: rs, ⟨by simp [g1], by simp [g2], ?_, ?_, al, Al, vl, Rl, hl, by simpa using g5, ?_, by simpa using g7⟩, ⟨_, rfl⟩, ⟨_, rfl⟩, ?_⟩
        · intro i R' h' v' a' A' u q1 q2
          cases i with
          | zero => cases q1; cases q2; exact ⟨ra, r, rfl⟩
          | succ i => exact g3 i R' h' v' a' A' u (by simpa using q1) (by simpa using q2)
        · intro i o' ho
          cases i with
          | zero => cases ho; exact ⟨a, A, v, v0, A1, rfl, by simpa using g8, hstep⟩
          | succ i => simpa using g4 i o' (by simpa using ho)
        · cases rest with
          | nil => simp at g2; omega
          | cons x rest => exact g6
        · intro i a1 A1' v' q1
          cases i with
          | zero => cases q1; rfl
          | succ i =>
            have := g10 i a1 A1' v' (by simpa using q1)
            rw [this]; cases o.dst <;> rfl
      · cases q
    · cases q
theorem evSuresT_spec {ops : Array Oper} {rows : List RowT} {h0 : Hp} : ∀ {os : List Oper} {k : Nat}, evSuresT P ops rows h0 k os = true → ∀ i o, os[i]? = some o → evSureT P ops rows h0 (k + i) o = true
  | [], _, _, i, o, ho => by simp at ho
  | p :: os, k, h, i, o, ho => by
    simp only [evSuresT, Bool.and_eq_true] at h
    cases i with
    | zero => cases ho; exact h.1
    | succ i =>
      have := evSuresT_spec h.2 i o (by simpa using ho)
      rwa [show k + 1 + i = k + (i + 1) from by omega] at this
theorem evDrawT_ok (hE : EvTOk E L) {ops : Array Oper} {R R' : Rg} {h h' : Hp} {a : Act} {A : World} (ra : RepA R a) (r : Rep h A) (q : evDrawT P E ops R h = some (R', h')) :
    ∃ a' A', RunDraw P L ops a A a' A' ∧ RepA R' a' ∧ a'.defers = a.defers ∧ Rep h' A' := by
  unfold evDrawT at q
  split at q <;> try cases q
  rename_i hr
  split at q <;> try cases q
  rename_i rows hrows
  split at q <;> try cases q
  rename_i hs
  obtain ⟨rs, ⟨g1, g2, g3, g4, al, Al, vl, Rl, hl, g5, g6, g7⟩, ⟨v0, g8⟩, ⟨v1, g9⟩, g10⟩ := evRowsT_ok hE ra r hrows
  rw [g6] at q
  cases q
  have hsz : ops.toList.length = ops.size := by simp
  rw [hsz] at g5 g7
  obtain ⟨k1, k2, _⟩ := g3 _ _ _ _ _ _ _ g7 g5
  refine ⟨al, Al, ⟨hr, traceOf rs a A, by simp [traceOf, g8], by simp [traceOf, rowW, g8], by simp [traceOf, g5], by simp [traceOf, rowW, g5], fun i o ho => ?_⟩, k1, g10 _ _ _ _ g5, k2⟩
  have ho' : ops.toList[i]? = some o := by simpa using ho
  obtain ⟨ai, Ai, vi, vj, A1, m1, m2, m3⟩ := g4 i o ho'
  have hsure := evSuresT_spec hs i o ho'
  rw [Nat.zero_add] at hsure
  have e1 : (traceOf rs a A).as i = ai := by simp [traceOf, m1]
  have e2 : (traceOf rs a A).ws i = Ai := by simp [traceOf, rowW, m1]
  have e3 : (traceOf rs a A).vs i = vi := by simp [traceOf, m1]
  have e4 : (traceOf rs a A).as (i + 1) = ai.put o.dst vi := by simp [traceOf, m2]
  have e5 : (traceOf rs a A).ws (i + 1) = A1 := by simp [traceOf, rowW, m2]
  refine ⟨by rw [e4, e1, e3], ?_⟩
  rw [e1, e2, e3, e5]
  unfold evSureT at hsure
  split at hsure
  · rename_i Ri hi vi' hrow
    obtain ⟨rai, ri, hvv⟩ := g3 _ _ _ _ _ _ _ hrow m1
    subst hvv
    rw [yieldedT_eq rai] at hsure
    have hws : ∀ p, p ∈ effs ops ++ [ops.size] → Rep (rowH rows p h) ((traceOf rs a A).ws p) := by
      intro p hp
      have hple : p ≤ ops.size := by
        rw [List.mem_append, List.mem_singleton] at hp
        rcases hp with hp | hp
        · exact Nat.le_of_lt (effs_lt hp)
        · omega
      have hlt1 : p < rows.length := by rw [g2, g1, hsz]; omega
      have hlt2 : p < rs.length := by rw [g1, hsz]; omega
      have x1 : rows[p]? = some rows[p] := List.getElem?_eq_getElem hlt1
      have x2 : rs[p]? = some rs[p] := List.getElem?_eq_getElem hlt2
      generalize rows[p] = rp at x1
      generalize rs[p] = sp at x2
      obtain ⟨Rp, hp', vp⟩ := rp
      obtain ⟨ap, Ap, up⟩ := sp
      obtain ⟨_, z, _⟩ := g3 _ _ _ _ _ _ _ x1 x2
      have y1 : rowH rows p h = hp' := by unfold rowH; rw [x1]
      have y2 : (traceOf rs a A).ws p = Ap := by simp [traceOf, rowW, x2]
      rw [y1, y2]
      exact z
    split
    · rename_i hw
      rw [if_pos hw] at m3
      rw [hw] at hsure
      simp only at hsure
      split
      · rename_i hk
        rw [hk] at hsure
        have hall : ∀ p, p ∈ effs ops ++ [ops.size] → mayAt ops (masks ops) i p = true → AOp P ai.eval o ((traceOf rs a A).ws p) (.value vi) ((traceOf rs a A).ws p) := by
          intro p hp hm
          simp only [Bool.or_eq_true] at hsure
          rcases hsure with hc | hc
          · split at hc
            · rename_i hcalm
              split at hc
              · rename_i v' hv
                rw [beqV_eq hc] at hv
                rw [calm_any hcalm _ (rowH rows p h)] at hv
                exact (evFast_ok rai (hws p hp) hv).1
              · cases hc
            · cases hc
          · rw [List.all_eq_true] at hc
            have := hc p hp
            rw [hm] at this
            simp only [Bool.not_true, Bool.false_or] at this
            exact sureAt_ok rai (hws p hp) this
        exact ⟨m3.2.1 hk, hall⟩
      · rename_i hk
        rw [hk] at hsure
        simp only at hsure
        rw [evalT_eq rai, evMakeT_eq P ri] at hsure
        split at hsure
        · rename_i v' obj hm
          simp only [Bool.and_eq_true, List.all_eq_true] at hsure
          obtain ⟨⟨q1, q2⟩, q3⟩ := hsure
          have hmk := evMake_ok hk hm
          obtain ⟨obj', hm', hv2⟩ := m3.2.2 hk
          rw [hm] at hm'
          cases hm'
          subst hv2
          refine ⟨obj, rfl, q1, newB_ok (by rw [← ri.size]; exact q2), hmk, fun p hp hlt hma => ?_⟩
          have := q3 p hp
          simp only [hlt, decide_true, Bool.not_true, Bool.false_or, hma] at this
          split at this
          · rename_i o' ho2
            rw [beqO_eq this] at ho2
            rw [ri.size] at ho2
            exact (hws p hp).get _ _ ho2
          · cases this
        · cases hsure
      · exact m3.1
    · rename_i hw
      rw [if_neg hw] at m3
      exact ⟨m3.2, m3.1⟩
  · cases hsure
end
end Go.Abs
