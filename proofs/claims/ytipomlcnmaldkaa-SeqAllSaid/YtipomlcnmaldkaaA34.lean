/-
  ABS 34: the second evaluator, by levels.
-/
import Derived.Test.YtipomlcnmaldkaaA33
namespace Go.Abs
section
variable (P : Program) (E : EvT)

noncomputable def evMarksT : List Deferred → Hp → Option Hp
  | [], h => some h
  | d :: ds, h =>
    match d.target with
    | .collected r => (match runT P (Instr.takeDeferred r) h with
      | some ([], h1) => evMarksT ds h1
      | _ => none)
    | _ => none
noncomputable def evCallT (f : FuncId) (xs : Array Value) (h : Hp) : Option (Value × Hp) :=
  match P.funcs[f]? with
  | some fn =>
    match fn.body with
    | some c =>
      loadK xs.toList 0 .leaf fun t =>
      match E.codes none c ⟨t, xs.size + (fn.ntmps - xs.size)⟩ [] h with
      | some (e, R1, ds1, h1) =>
        match (match e with | .normal | .ret => true | _ => false) with
        | true => (match evMarksT P ds1 h1 with
          | some h' => (match peekT P h' (results fn R1.arr) with
            | some v => some (v, h')
            | none => none)
          | none => none)
        | false => none
      | none => none
    | none => none
  | none => none
noncomputable def evRoundT (l : Nat) (ts : Array Value) (as bd : Code) (h : Hp) : Option (Value × Hp) :=
  loadK ts.toList 0 .leaf fun t =>
  match E.codes (some l) as ⟨t, ts.size⟩ [] h with
  | some (.normal, R1, ds1, h1) =>
    match runT P (Instr.beginRound l) h1 with
    | some ((), h2) =>
      match E.codes (some l) bd R1 ds1 h2 with
      | some (e, _, _, h3) =>
        match jumpOf e with
        | some j => runT P (Instr.endRound l j) h3
        | none => none
      | none => none
    | none => none
  | _ => none
noncomputable def evRangeT (ro : Option Nat) (g : Operand) (ps : Array Tmp) (as bd : Code) (R : Rg) (ds : List Deferred) (h : Hp) : Option (Exit × Rg × List Deferred × Hp) :=
  match runT P (Instr.enterLoop 0 R.arr ps as bd ro) h with
  | some ((l, mark), h1) =>
    match evalT R g with
    | .func (.func f) first cap =>
      match P.funcs[f]? with
      | some fn =>
        match fn.body.isSome && !(fn.name == "runtime.NumGoroutine") with
        | true =>
          match E.calls f (first ++ #[.func (.yield l) #[] #[]] ++ cap) h1 with
          | some (_, h2) =>
            match runT P (Instr.endLoop l) h2 with
            | some (none, h3) => some (.normal, R, mark ++ ds, h3)
            | some (some c, h3) => E.codes ro c R (mark ++ ds) h3
            | none => none
          | none => none
        | false => none
      | none => none
    | _ => none
  | none => none
noncomputable def evCodeT (ro : Option Nat) (c : Code) (R : Rg) (ds : List Deferred) (h : Hp) : Option (Exit × Rg × List Deferred × Hp) :=
  match c with
  | .skip | .label _ => some (.normal, R, ds, h)
  | .seq x y => (match E.codes ro x R ds h with
    | some (.normal, R1, d1, h1) => E.codes ro y R1 d1 h1
    | r => r)
  | .cond c x y => (match evalT R c with
    | .bool true => E.codes ro x R ds h
    | .bool false => E.codes ro y R ds h
    | _ => none)
  | .block id x => (match E.codes ro x R ds h with
    | some (e, R1, d1, h1) => some (inBlk id e, R1, d1, h1)
    | none => none)
  | .loop x => E.loops ro x R ds h
  | .exit id => some (.exit id, R, ds, h)
  | .goto l => some (.goto l, R, ds, h)
  | .ret => some (.ret, R, ds, h)
  | .region _ ops false => (match evOpsT P E ops ops.toList R h with
    | some (R1, h1) => some (.normal, R1, ds, h1)
    | none => none)
  | .region _ ops true => (match evDrawT P E ops R h with
    | some (R1, h1) => some (.normal, R1, ds, h1)
    | none => none)
  | .rangeFunc g ps as bd => evRangeT P E ro g ps as bd R ds h
  | _ => none
noncomputable def evLoopT (ro : Option Nat) (x : Code) (R : Rg) (ds : List Deferred) (h : Hp) : Option (Exit × Rg × List Deferred × Hp) :=
  match E.codes ro x R ds h with
  | some (.normal, R1, d1, h1) => E.loops ro x R1 d1 h1
  | r => r
noncomputable def evT : Nat → EvT
  | 0 => ⟨fun _ _ _ => none, fun _ _ _ _ _ => none, fun _ _ _ _ _ => none, fun _ _ _ _ _ => none⟩
  | n + 1 => ⟨evCallT P (evT n), evRoundT P (evT n), evCodeT P (evT n), evLoopT (evT n)⟩

variable {P E} {L : Lvl}
theorem evMarksT_ok : ∀ {ds : List Deferred} {h h' : Hp} {A : World}, Rep h A → evMarksT P ds h = some h' → ∃ A', Marks P ds A A' ∧ Rep h' A'
  | [], h, h', A, r, q => by cases q; exact ⟨A, rfl, r⟩
  | d :: ds, h, h', A, r, q => by
    simp only [evMarksT] at q
    split at q
    · rename_i x hx
      split at q
      · rename_i h1 hrun
        obtain ⟨A1, q1, r1⟩ := runT_ok P _ r hrun
        obtain ⟨A', q2, r2⟩ := evMarksT_ok r1 q
        exact ⟨A', ⟨x, A1, hx, q1, q2⟩, r2⟩
      · cases q
    · cases q
theorem RepA.start0 (ts : Array Value) : RepA ⟨load ts.toList 0 .leaf, ts.size⟩ { tmps := ts, defers := [] } := by
  have := RepA.start ts 0
  simpa using this
theorem evCallT_ok (hE : EvTOk E L) {f : FuncId} {xs : Array Value} {h h' : Hp} {v : Value} (q : evCallT P E f xs h = some (v, h')) {A : World} (r : Rep h A) : ∃ A', callStep P L f xs A v A' ∧ Rep h' A' := by
  unfold evCallT at q
  split at q <;> try cases q
  rename_i fn hf
  split at q <;> try cases q
  rename_i c hc
  rw [loadK_eq] at q
  split at q <;> try cases q
  rename_i e R1 ds1 h1 hr
  split at q <;> try cases q
  rename_i he
  split at q <;> try cases q
  rename_i h2 hm
  split at q <;> try cases q
  rename_i u hp
  obtain ⟨a1, A1, k1, ⟨ra, rd⟩, r1⟩ := hE.codes _ _ _ _ _ _ _ _ _ hr _ A ⟨RepA.start xs fn.ntmps, rfl⟩ r
  obtain ⟨A2, k2, r2⟩ := evMarksT_ok r1 hm
  rw [ra.arr] at hp
  have hp := peekT_ok P r2 hp
  refine ⟨A2, ⟨fn, c, e, a1, A1, hf, hc, k1, ?_, rd ▸ k2, peek_run hp⟩, r2⟩
  split at he
  · exact .inl rfl
  · exact .inr rfl
  · cases he
theorem evRoundT_ok (hE : EvTOk E L) {l : Nat} {ts : Array Value} {as bd : Code} {h h' : Hp} {v : Value} (q : evRoundT P E l ts as bd h = some (v, h')) {A : World} (r : Rep h A) : ∃ A', roundStep P L l ts as bd A v A' ∧ Rep h' A' := by
  unfold evRoundT at q
  rw [loadK_eq] at q
  split at q <;> try cases q
  rename_i R1 ds1 h1 k1
  split at q <;> try cases q
  rename_i h2 k2
  split at q <;> try cases q
  rename_i e R3 d3 h3 k3
  split at q <;> try cases q
  rename_i j k4
  obtain ⟨a1, A1, m1, s1, r1⟩ := hE.codes _ _ _ _ _ _ _ _ _ k1 _ A ⟨RepA.start0 ts, rfl⟩ r
  obtain ⟨A2, m2, r2⟩ := runT_ok P _ r1 k2
  obtain ⟨a3, A3, m3, s3, r3⟩ := hE.codes _ _ _ _ _ _ _ _ _ k3 _ A2 s1 r2
  obtain ⟨A4, m4, r4⟩ := runT_ok P _ r3 q
  exact ⟨A4, ⟨a1, A1, A2, e, a3, A3, j, m1, m2, m3, k4, m4⟩, r4⟩
theorem evRangeT_ok (hE : EvTOk E L) {ro : Option Nat} {g : Operand} {ps : Array Tmp} {as bd : Code} {R R' : Rg} {ds ds' : List Deferred} {h h' : Hp} {e : Exit} (q : evRangeT P E ro g ps as bd R ds h = some (e, R', ds', h')) {a : Act} {A : World} (s : AsT R ds a) (r : Rep h A) :
    ∃ a' A', RunRange P L ro g ps as bd a A e a' A' ∧ AsT R' ds' a' ∧ Rep h' A' := by
  obtain ⟨ra, rd⟩ := s
  unfold evRangeT at q
  rw [ra.arr, evalT_eq ra] at q
  split at q <;> try cases q
  rename_i l mark h1 k1
  split at q <;> try cases q
  rename_i f first cap k2
  split at q <;> try cases q
  rename_i fn k3
  split at q <;> try cases q
  rename_i k4
  simp only [Bool.and_eq_true, Option.isSome_iff_exists, Bool.not_eq_true'] at k4
  obtain ⟨⟨code, k4⟩, k5⟩ := k4
  split at q <;> try cases q
  rename_i v h2 k6
  obtain ⟨A1, m1, r1⟩ := runT_ok P _ r k1
  obtain ⟨A2, m2, r2⟩ := hE.calls _ _ _ _ _ k6 A1 r1
  have hs : AsT R (mark ++ ds) { a with defers := mark ++ a.defers } := ⟨⟨ra.size, ra.get, ra.out⟩, by rw [rd]⟩
  split at q
  · rename_i h3 k7
    obtain ⟨A3, m3, r3⟩ := runT_ok P _ r2 k7
    cases q
    exact ⟨_, A3, ⟨l, mark, A1, f, first, cap, fn, code, v, A2, none, A3, m1, k2, k3, k4, k5, m2, m3, rfl, rfl, rfl⟩, hs, r3⟩
  · rename_i c h3 k7
    obtain ⟨A3, m3, r3⟩ := runT_ok P _ r2 k7
    obtain ⟨a4, A4, m4, s4, r4⟩ := hE.codes _ _ _ _ _ _ _ _ _ q _ A3 hs r3
    exact ⟨a4, A4, ⟨l, mark, A1, f, first, cap, fn, code, v, A2, some c, A3, m1, k2, k3, k4, k5, m2, m3, m4⟩, s4, r4⟩
  · cases q
theorem evThenT_ok {q : Option (Exit × Rg × List Deferred × Hp)} {F : Rg → List Deferred → Hp → Option (Exit × Rg × List Deferred × Hp)} {e : Exit} {R' : Rg} {ds' : List Deferred} {h' : Hp}
    (h : (match q with | some (.normal, R1, d1, h1) => F R1 d1 h1 | r => r) = some (e, R', ds', h')) :
    (∃ R1 d1 h1, q = some (.normal, R1, d1, h1) ∧ F R1 d1 h1 = some (e, R', ds', h')) ∨ (q = some (e, R', ds', h') ∧ e ≠ .normal) := by
  split at h
  · rename_i R1 d1 h1; exact .inl ⟨R1, d1, h1, rfl, h⟩
  · rename_i hne
    subst h
    refine .inr ⟨rfl, fun he => ?_⟩
    subst he
    exact hne _ _ _ rfl
theorem thenStep_of {e : Exit} {a : Act} {A : World} {R : Act → World → Exit → Act → World → Prop} (h : e ≠ .normal) : thenStep e a A R e a A := by
  cases e <;> first | exact ⟨rfl, rfl, rfl⟩ | exact absurd rfl h
theorem evCodeT_ok (hE : EvTOk E L) {ro : Option Nat} {c : Code} {R R' : Rg} {ds ds' : List Deferred} {h h' : Hp} {e : Exit} (q : evCodeT P E ro c R ds h = some (e, R', ds', h')) {a : Act} {A : World} (s : AsT R ds a) (r : Rep h A) :
    ∃ a' A', codeStep P L (RunDraw P) ro c a A e a' A' ∧ AsT R' ds' a' ∧ Rep h' A' := by
  unfold evCodeT at q
  split at q
  · cases q; exact ⟨a, A, ⟨rfl, rfl, rfl⟩, s, r⟩
  · cases q; exact ⟨a, A, ⟨rfl, rfl, rfl⟩, s, r⟩
  · rename_i x y
    rcases evThenT_ok q with ⟨R1, d1, h1, q1, q2⟩ | ⟨q1, q2⟩
    · obtain ⟨a1, A1, m1, s1, r1⟩ := hE.codes _ _ _ _ _ _ _ _ _ q1 a A s r
      obtain ⟨a2, A2, m2, s2, r2⟩ := hE.codes _ _ _ _ _ _ _ _ _ q2 a1 A1 s1 r1
      exact ⟨a2, A2, ⟨.normal, a1, A1, m1, m2⟩, s2, r2⟩
    · obtain ⟨a1, A1, m1, s1, r1⟩ := hE.codes _ _ _ _ _ _ _ _ _ q1 a A s r
      exact ⟨a1, A1, ⟨e, a1, A1, m1, thenStep_of q2⟩, s1, r1⟩
  · rename_i c x y
    rw [evalT_eq s.1] at q
    split at q
    · rename_i hc
      obtain ⟨a1, A1, m1, s1, r1⟩ := hE.codes _ _ _ _ _ _ _ _ _ q a A s r
      exact ⟨a1, A1, ⟨true, hc, m1⟩, s1, r1⟩
    · rename_i hc
      obtain ⟨a1, A1, m1, s1, r1⟩ := hE.codes _ _ _ _ _ _ _ _ _ q a A s r
      exact ⟨a1, A1, ⟨false, hc, m1⟩, s1, r1⟩
    · cases q
  · split at q
    · rename_i q1
      cases q
      obtain ⟨a1, A1, m1, s1, r1⟩ := hE.codes _ _ _ _ _ _ _ _ _ q1 a A s r
      exact ⟨a1, A1, ⟨_, m1, rfl⟩, s1, r1⟩
    · cases q
  · exact hE.loops _ _ _ _ _ _ _ _ _ q a A s r
  · cases q; exact ⟨a, A, ⟨rfl, rfl, rfl⟩, s, r⟩
  · cases q; exact ⟨a, A, ⟨rfl, rfl, rfl⟩, s, r⟩
  · cases q; exact ⟨a, A, ⟨rfl, rfl, rfl⟩, s, r⟩
  · rename_i ops
    split at q
    · rename_i q1
      cases q
      obtain ⟨a1, A1, m1, s1, d1, r1⟩ := evOpsT_ok hE (k := 0) (fun i o ho => by rw [Nat.zero_add]; simpa using ho) s.1 r q1
      refine ⟨a1, A1, ⟨rfl, ?_⟩, ⟨s1, d1.trans s.2⟩, r1⟩
      rw [List.range_eq_range']
      simpa using m1
    · cases q
  · rename_i ops
    split at q
    · rename_i q1
      cases q
      obtain ⟨a1, A1, m1, s1, d1, r1⟩ := evDrawT_ok hE s.1 r q1
      exact ⟨a1, A1, ⟨rfl, m1⟩, ⟨s1, d1.trans s.2⟩, r1⟩
    · cases q
  · exact evRangeT_ok hE q s r
  · cases q
theorem evLoopT_ok (hE : EvTOk E L) {ro : Option Nat} {x : Code} {R R' : Rg} {ds ds' : List Deferred} {h h' : Hp} {e : Exit} (q : evLoopT E ro x R ds h = some (e, R', ds', h')) {a : Act} {A : World} (s : AsT R ds a) (r : Rep h A) :
    ∃ a' A', loopStep L ro x a A e a' A' ∧ AsT R' ds' a' ∧ Rep h' A' := by
  unfold evLoopT at q
  rcases evThenT_ok q with ⟨R1, d1, h1, q1, q2⟩ | ⟨q1, q2⟩
  · obtain ⟨a1, A1, m1, s1, r1⟩ := hE.codes _ _ _ _ _ _ _ _ _ q1 a A s r
    obtain ⟨a2, A2, m2, s2, r2⟩ := hE.loops _ _ _ _ _ _ _ _ _ q2 a1 A1 s1 r1
    exact ⟨a2, A2, ⟨.normal, a1, A1, m1, m2⟩, s2, r2⟩
  · obtain ⟨a1, A1, m1, s1, r1⟩ := hE.codes _ _ _ _ _ _ _ _ _ q1 a A s r
    exact ⟨a1, A1, ⟨e, a1, A1, m1, thenStep_of q2⟩, s1, r1⟩
theorem evT_ok : ∀ n, EvTOk (evT P n) (Lv P n)
  | 0 => ⟨fun _ _ _ _ _ h => (by cases h), fun _ _ _ _ _ _ _ h => (by cases h), fun _ _ _ _ _ _ _ _ _ h => (by cases h), fun _ _ _ _ _ _ _ _ _ h => (by cases h)⟩
  | n + 1 =>
    have hE := evT_ok n
    ⟨fun _ _ _ _ _ h _ r => evCallT_ok hE h r, fun _ _ _ _ _ _ _ h _ r => evRoundT_ok hE h r, fun _ _ _ _ _ _ _ _ _ h _ _ s r => evCodeT_ok hE h s r, fun _ _ _ _ _ _ _ _ _ h _ _ s r => evLoopT_ok hE h s r⟩

/-- What a closed call answers with. -/
noncomputable def answersT (P : Program) (n : Nat) (f : FuncId) (xs : List Value) (q : Value → Bool) : Bool :=
  match (evT P n).calls f ⟨xs⟩ ⟨.leaf, 0⟩ with
  | some (v, _) => q v
  | none => false
theorem answersT_ok {n : Nat} {f : FuncId} {xs : List Value} {q : Value → Bool} (h : answersT P n f xs q = true) : ∃ v A', (Lv P n).calls f ⟨xs⟩ (tombs 0) v A' ∧ q v = true := by
  unfold answersT at h
  split at h
  · rename_i v h' hv
    obtain ⟨A', h1, _⟩ := (evT_ok n).calls _ _ _ _ _ hv (tombs 0) ⟨by rw [tombs_size], fun b o hb => by rw [Tri.get_leaf] at hb; cases hb⟩
    exact ⟨v, A', h1, h⟩
  · cases h
end
end Go.Abs
