/-
  ABS 34: the second evaluator, by levels.
-/
import Derived.Test.YtfkdkfleaiaoiaaA33
namespace Go.Abs
section
variable (P : Program) (E : EvT)

noncomputable def evMarksT : List Deferred → Hp → Option Hp
  | [], h => some h
  | d :: ds, h =>
    match d.target with
    | .collected r => (match runT P (Instr.takeDeferred r) h with
      | some ([], h1) => evMarksT ds h1
      | _ => none)
    | _ => none
noncomputable def evCallT (f : FuncId) (xs : Array Value) (h : Hp) : Option (Value × Hp) :=
  match P.funcs[f]? with
  | some fn =>
    match fn.body with
    | some c =>
      loadK xs.toList 0 .leaf fun t =>
      match E.codes none c ⟨t, xs.size + (fn.ntmps - xs.size)⟩ [] h with
      | some (e, R1, ds1, h1) =>
        match (match e with | .normal | .ret => true | _ => false) with
        | true => (match evMarksT P ds1 h1 with
          | some h' => (match peekT P h' (results fn R1.arr) with
            | some v => some (v, h')
            | none => none)
          | none => none)
        | false => none
      | none => none
    | none => none
  | none => none
noncomputable def evRoundT (l : Nat) (ts : Array Value) (as bd : Code) (h : Hp) : Option (Value × Hp) :=
  loadK ts.toList 0 .leaf fun t =>
  match E.codes (some l) as ⟨t, ts.size⟩ [] h with
  | some (.normal, R1, ds1, h1) =>
    match runT P (Instr.beginRound l) h1 with
    | some ((), h2) =>
      match E.codes (some l) bd R1 ds1 h2 with
      | some (e, _, _, h3) =>
        match jumpOf e with
        | some j => runT P (Instr.endRound l j) h3
        | none => none
      | none => none
    | none => none
  | _ => none
noncomputable def evRangeT (ro : Option Nat) (g : Operand) (ps : Array Tmp) (as bd : Code) (R : Rg) (ds : List Deferred) (h : Hp) : Option (Exit × Rg × List Deferred × Hp) :=
  match runT P (Instr.enterLoop 0 R.arr ps as bd ro) h with
  | some ((l, mark), h1) =>
    match evalT R g with
    | .func (.func f) first cap =>
      match P.funcs[f]? with
      | some fn =>
        match fn.body.isSome && !(fn.name == "runtime.NumGoroutine") with
        | true =>
          match E.calls f (first ++ #[.func (.yield l) #[] #[]] ++ cap) h1 with
          | some (_, h2) =>
            match runT P (Instr.endLoop l) h2 with
            | some (none, h3) => some (.normal, R, mark ++ ds, h3)
            | some (some c, h3) => E.codes ro c R (mark ++ ds) h3
            | none => none
          | none => none
        | false => none
      | none => none
    | _ => none
  | none => none
noncomputable def evCodeT (ro : Option Nat) (c : Code) (R : Rg) (ds : List Deferred) (h : Hp) : Option (Exit × Rg × List Deferred × Hp) :=
  match c with
  | .skip | .label _ => some (.normal, R, ds, h)
  | .seq x y => (match E.codes ro x R ds h with
    | some (.normal, R1, d1, h1) => E.codes ro y R1 d1 h1
    | r => r)
  | .cond c x y => (match evalT R c with
    | .bool true => E.codes ro x R ds h
    | .bool false => E.codes ro y R ds h
    | _ => none)
  | .block id x => (match E.codes ro x R ds h with
    | some (e, R1, d1, h1) => some (inBlk id e, R1, d1, h1)
    | none => none)
  | .loop x => E.loops ro x R ds h
  | .exit id => some (.exit id, R, ds, h)
  | .goto l => some (.goto l, R, ds, h)
  | .ret => some (.ret, R, ds, h)
  | .region _ ops false => (match evOpsT P E ops ops.toList R h with
    | some (R1, h1) => some (.normal, R1, ds, h1)
    | none => none)
  | .region _ ops true => (match evDrawT P E ops R h with
    | some (R1, h1) => some (.normal, R1, ds, h1)
    | none => none)
  | .rangeFunc g ps as bd => evRangeT P E ro g ps as bd R ds h
  | _ => none
noncomputable def evLoopT (ro : Option Nat) (x : Code) (R : Rg) (ds : List Deferred) (h : Hp) : Option (Exit × Rg × List Deferred × Hp) :=
  match E.codes ro x R ds h with
  | some (.normal, R1, d1, h1) => E.loops ro x R1 d1 h1
  | r => r
noncomputable def evT : Nat → EvT
  | 0 => ⟨fun _ _ _ => none, fun _ _ _ _ _ => none, fun _ _ _ _ _ => none, fun _ _ _ _ _ => none⟩
  | n + 1 => ⟨evCallT P (evT n), evRoundT P (evT n), evCodeT P (evT n), evLoopT (evT n)⟩

variable {P E} {L : Lvl}
theorem evMarksT_ok : ∀ {ds : List Deferred} {h h' : Hp} {A : World}, Rep h A → evMarksT P ds h = some h' → ∃ A', Marks P ds A A' ∧ Rep h' A'
  | [], h, h', A, r, q => by cases q; exact ⟨A, rfl, r⟩
  | d :: ds, h, h', A, r, q => by
    simp only [evMarksT] at q
    split at q
    · rename_i x hx
      split at q
      · rename_i h1 hrun
        obtain ⟨A1, q1, r1⟩ := runT_ok P _ r hrun
        obtain ⟨A', q2, r2⟩ := evMarksT_ok r1 q
        exact ⟨A', ⟨x, A1, hx, q1, q2⟩, r2⟩
      · cases q
    · cases q
theorem RepA.start0 (ts : Array Value) : RepA ⟨load ts.toList 0 .leaf, ts.size⟩ { tmps := ts, defers := [] } := by
  have := RepA.start ts 0
  simpa using this
theorem evCallT_ok (hE : EvTOk E L) {f : FuncId} {xs : Array Value} {h h' : Hp} {v : Value} (q : evCallT P E f xs h = some (v, h')) {A : World} (r : Rep h A) : ∃ A', callStep P L f xs A v A' ∧ Rep h' A' := by
  unfold evCallT at q
  split at q <;> try cases q
  rename_i fn hf
  split at q <;> try cases q
  rename_i c hc
  rw [loadK_eq] at q
  split at q <;> try cases q
  rename_i e R1 ds1 h1 hr
  split at q <;> try cases q
  rename_i he
  split at q <;> try cases q
  rename_i h2 hm
  split at q <;> try cases q
  rename_i u hp
  obtain ⟨a1, A1, k1, ⟨ra, rd⟩, r1⟩ := hE.codes _ _ _ _ _ _ _ _ _ hr _ A ⟨RepA.start xs fn.ntmps, rfl⟩ r
  obtain ⟨A2, k2, r2⟩ := evMarksT_ok r1 hm
  rw [ra.arr] at hp
  have hp := peekT_ok P r2 hp
  refine ⟨A2, ⟨fn, c, e, a1, A1, hf, hc, k1, ?_, rd ▸ k2, peek_run hp⟩, r2⟩
  split at he
  · exact .inl rfl
  · exact .inr rfl
  · cases he
theorem evRoundT_ok (hE : EvTOk E L) {l : Nat} {ts : Array Value} {as bd : Code} {h h' : Hp} {v : Value} (q : evRoundT P E l ts as bd h = some (v, h')) {A : World} (r : Rep h A) : ∃ A', roundStep P L l ts as bd A v A' ∧ Rep h' A' := by
  unfold evRoundT at q
  rw [loadK_eq] at q
  split at q <;> try cases q
  rename_i R1 ds1 h1 k1
  split at q <;> try cases q
  rename_i h2 k2
  split at q <;> try cases q
  rename_i e R3 d3 h3 k3
  split at q <;> try cases q
  rename_i j k4
  obtain ⟨a1, A1, m1, s1, r1⟩ := hE.codes _ _ _ _ _ _ _ _ _ k1 _ A ⟨RepA.start0 ts, rfl⟩ r
  obtain ⟨A2, m2, r2⟩ := runT_ok P _ r1 k2
  obtain ⟨a3, A3, m3, s3, r3⟩ := hE.codes _ _ _ _ _ _ _ _ _ k3 _ A2 s1 r2
  obtain ⟨A4, m4, r4⟩ := runT_ok P _ r3 q
  exact ⟨A4, ⟨a1, A1, A2, e, a3, A3, j, m1, m2, m3, k4, m4⟩, r4⟩
theorem evRangeT_ok (hE : EvTOk E L) {ro : Option Nat} {g : Operand} {ps : Array Tmp} {as bd : Code} {R R' : Rg} {ds ds' : List Deferred} {h h' : Hp} {e : Exit} (q : evRangeT P E ro g ps as bd R ds h = some (e, R', ds', h')) {a : Act} {A : World} (s : AsT R ds a) (r : Rep h A) :
    ∃ a' A', RunRange P L ro g ps as bd a A e a' A' ∧ AsT R' ds' a' ∧ Rep h' A' := by
  obtain ⟨ra, rd⟩ := s
  unfold evRangeT at q
  rw [ra.arr, evalT_eq ra] at q
  split at q <;> try cases q
  rename_i l mark h1 k1
  split at q <;> try cases q
  rename_i f first cap k2
  split at q <;> try cases q
  rename_i fn k3
  split at q <;> try cases q
  rename_i k4
  simp only [Bool.and_eq_true, Option.isSome_iff_exists, Bool.not_eq_true'] at k4
  obtain ⟨⟨code, k4⟩, k5⟩ := k4
  split at q <;> try cases q
  rename_i v h2 k6
  obtain ⟨A1, m1, r1⟩ := runT_ok P _ r k1
  obtain ⟨A2, m2, r2⟩ := hE.calls _ _ _ _ _ k6 A1 r1
  have hs : AsT R (mark ++ ds) { a with defers := mark ++ a.defers } := ⟨⟨ra.size, ra.get, ra.out⟩, by rw [rd]⟩
  split at q
  · rename_i h3 k7
    obtain ⟨A3, m3, r3⟩ := runT_ok P _ r2 k7
    cases q
    exact ⟨_, A3, ⟨l, mark, A1, f, first, cap, fn, code, v, A2, none, A3, m1, k2, k3, k4, k5, m2, m3, rfl, rfl, rfl⟩, hs, r3⟩
  · rename_i c h3 k7
    obtain ⟨A3, m3, r3⟩ := runT_ok P _ r2 k7
    obtain ⟨a4, A4, m4, s4, r4⟩ := hE.codes _ _ _ _ _ _ _ _ _ q _ A3 hs r3
    exact ⟨a4, A4, ⟨l, mark, A1, f, first, cap, fn, code, v, A2, some c, A3, m1, k2, k3, k4, k5, m2, m3, m4⟩, s4, r4⟩
  · cases q
theorem evThenT_ok {q : Option (Exit × Rg × List Deferred × Hp)} {F : Rg → List Deferred → Hp → Option (Exit × Rg × List Deferred × Hp)} {e : Exit} {R' : Rg} {ds' : List Deferred} {h' : Hp}
    (h : (match q with | some (.normal, R1, d1, h1) => F R1 d1 h1 | r => r) = some (e, R', ds', h')) :
    (∃ R1 d1 h1, q = some (.normal, R1, d1, h1) ∧ F R1 d1 h1 = some (e, R', ds', h')) ∨ (q = some (e, R', ds', h') ∧ e ≠ .normal) := by
  split at h
  · rename_i R1 d1 h1; exact .inl ⟨R1, d1, h1, rfl, h⟩
  · rename_i hne
    subst h
    refine .inr ⟨rfl, fun he => ?_⟩
    subst he
    exact hne _ _ _ rfl
theorem thenStep_of {e : Exit} {a : Act} {A : World} {R : Act → World → Exit → Act → World → Prop} (h : e ≠ .normal) : thenStep e a A R e a A := by
  cases e <;> first | exact ⟨rfl, rfl, rfl⟩ | exact absurd rfl h
theorem evCodeT_ok (hE : EvTOk E L) {ro : Option Nat} {c : Code} {R R' : Rg} {ds ds' : List Deferred} {h h' : Hp} {e : Exit} (q : evCodeT P E ro c R ds h = some (e, R', ds', h')) {a : Act} {A : World} (s : AsT R ds a) (r : Rep h A) :
    ∃ a' A', codeStep P L (RunDraw P) ro c a A e a' A' ∧ AsT R' ds' a' ∧ Rep h' A' := by
  unfold evCodeT at q
  split at q
  · cases q; exact ⟨a, A, ⟨rfl, rfl, rfl⟩, s, r⟩
  · cases q; exact ⟨a, A, ⟨rfl, rfl, rfl⟩, s, r⟩
  · rename_i x y
    rcases evThenT_ok q with ⟨R1, d1, h1, q1, q2⟩ | ⟨q1, q2⟩
    · obtain ⟨a1, A1, m1, s1, r1⟩ := hE.codes _ _ _ _ _ _ _ _ _ q1 a A s r
      obtain ⟨a2, A2, m2, s2, r2⟩ := hE.codes _ _ _ _ _ _ _ _ _ q2 a1 A1 s1 r1
      exact ⟨a2, A2, ⟨.normal, a1, A1, m1, m2⟩, s2, r2⟩
    · obtain ⟨a1, A1, m1, s1, r1⟩ := hE.codes _ _ _ _ _ _ _ _ _ q1 a A s r
      exact ⟨a1, A1, ⟨e, a1, A1, m1, thenStep_of q2⟩, s1, r1⟩
  · rename_i c x y
    rw [evalT_eq s.1] at q
    split at q
    · rename_i hc
      obtain ⟨a1, A1, m1, s1, r1⟩ := hE.codes _ _ _ _ _ _ _ _ _ q a A s r
      exact ⟨a1, A1, ⟨true, hc, m1⟩, s1, r1⟩
    · rename_i hc
      obtain ⟨a1, A1, m1, s1, r1⟩ := hE.codes _ _ _ _ _ _ _ _ _ q a A s r
      exact ⟨a1, A1, ⟨false, hc, m1⟩, s1, r1⟩
    · cases q
  · split at q
    · rename_i q1
      cases q
      obtain ⟨a1, A1, m1, s1, r1⟩ := hE.codes _ _ _ _ _ _ _ _ _ q1 a A s r
      exact ⟨a1, A1, ⟨_, m1, rfl⟩, s1, r1⟩
    · cases q
  · exact hE.loops _ _ _ _ _ _ _ _ _ q a A s r
  · cases q; exact ⟨a, A, ⟨rfl, rfl, rfl⟩, s, r⟩
  · cases q; exact ⟨a, A, ⟨rfl, rfl, rfl⟩, s, r⟩
  · cases q; exact ⟨a, A, ⟨rfl, rfl, rfl⟩, s, r⟩
  · rename_i ops
    split at q
    · rename_i q1
      cases q
      obtain ⟨a1, A1, m1, s1, d1, r1⟩ := evOpsT_ok hE (k := 0) (fun i o ho => by rw [Nat.zero_add]; simpa using ho) s.1 r q1
      refine ⟨a1, A1, ⟨rfl, ?_⟩, ⟨s1, d1.trans s.2⟩, r1⟩
      rw [List.range_eq_range']
      simpa using m1
    · cases q
  · rename_i ops
    split at q
    · rename_i q1
      cases q
      obtain ⟨a1, A1, m1, s1, d1, r1⟩ := evDrawT_ok hE s.1 r q1
      exact ⟨a1, A1, ⟨rfl, m1⟩, ⟨s1, d1.trans s.2⟩, r1⟩
    · cases q
  · exact evRangeT_ok hE q s r
  · cases q
theorem evLoopT_ok (hE : EvTOk E L) {ro : Option Nat} {x : Code} {R R' : Rg} {ds ds' : List Deferred} {h h' : Hp} {e : Exit} (q : evLoopT E ro x R ds h = some (e, R', ds', h')) {a : Act} {A : World} (s : AsT R ds a) (r : Rep h A) :
    ∃ a' A', loopStep L ro x a A e a' A' ∧ AsT R' ds' a' ∧ Rep h' A' := by
  unfold evLoopT at q
  rcases evThenT_ok q with ⟨R1, d1, h1, q1, q2⟩ | ⟨q1, q2⟩
  · obtain ⟨a1, A1, m1, s1, r1⟩ := hE.codes _ _ _ _ _ _ _ _ _ q1 a A s r
    obtain ⟨a2, A2, m2, s2, r2⟩ := hE.loops _ _ _ _ _ _ _ _ _ q2 a1 A1 s1 r1
    exact ⟨a2, A2, ⟨.normal, a1, A1, m1, m2⟩, s2, r2⟩
  · obtain ⟨a1, A1, m1, s1, r1⟩ := hE.codes _ _ _ _ _ _ _ _ _ q1 a A s r
    exact ⟨a1, A1, ⟨e, a1, A1, m1, thenStep_of q2⟩, s1, r1⟩
theorem evT_ok : ∀ n, EvTOk (evT P n) (Lv P n)
  | 0 => ⟨fun _ _ _ _ _ h => (by cases h), fun _ _ _ _ _ _ _ h => (by cases h), fun _ _ _ _ _ _ _ _ _ h => (by cases h), fun _ _ _ _ _ _ _ _ _ h => (by cases h)⟩
  | n + 1 =>
    have hE := evT_ok n
    ⟨fun _ _ _ _ _ h _ r => evCallT_ok hE h r, fun _ _ _ _ _ _ _ h _ r => evRoundT_ok hE h r, fun _ _ _ _ _ _ _ _ _ h _ _ s r => evCodeT_ok hE h s r, fun _ _ _ _ _ _ _ _ _ h _ _ s r => evLoopT_ok hE h s r⟩

/-- What a closed call answers with. -/
noncomputable def answersT (P : Program) (n : Nat) (f : FuncId) (xs : List Value) (q : Value → Bool) : Bool :=
  match (evT P n).calls f ⟨xs⟩ ⟨.leaf, 0⟩ with
  | some (v, _) => q v
  | none => false
theorem answersT_ok {n : Nat} {f : FuncId} {xs : List Value} {q : Value → Bool} (h : answersT P n f xs q = true) : ∃ v A', (Lv P n).calls f ⟨xs⟩ (tombs 0) v A' ∧ q v = true := by
  unfold answersT at h
  split at h
  · rename_i v h' hv
    obtain ⟨A', h1, _⟩ := (evT_ok n).calls _ _ _ _ _ hv (tombs 0) ⟨by rw [tombs_size], fun b o hb => by rw [Tri.get_leaf] at hb; cases hb⟩
    exact ⟨v, A', h1, h⟩
  · cases h
end
end Go.Abs
/-
  ABS 35: what is known of a call stands for it: a closed call, or one whose arguments and whose result bear no address.
-/
namespace Go.Abs
open Go.RowKit
/-- What is known: the function, its arguments, its result. -/
abbrev Know := FuncId → List Value → Option Value
def Known (P : Program) (K : Know) : Prop :=
  ∀ f xs v, K f xs = some v → (∀ x ∈ xs, plain x = true) ∧ plain v = true ∧ ∀ W, Calls P f ⟨xs⟩ W fun e W' => e = .returned v ∧ Below W.heap.size W W'
section
variable (P : Program) (K : Know)
noncomputable def lvlK (D : Lvl → Array Oper → Act → World → Act → World → Prop) : Nat → Lvl
  | 0 => { calls := fun _ _ _ _ _ => False, rounds := fun _ _ _ _ _ _ _ => False, codes := fun _ _ _ _ _ _ _ => False, loops := fun _ _ _ _ _ _ _ => False }
  | n + 1 => { calls := fun f xs A v A' => callStep P (lvlK D n) f xs A v A' ∨ (K f xs.toList = some v ∧ A' = A), rounds := roundStep P (lvlK D n), codes := codeStep P (lvlK D n) D, loops := loopStep (lvlK D n) }
noncomputable def LvK (n : Nat) : Lvl := lvlK P K (RunDraw P) n
variable {P K} {n₀ : Nat}

theorem snd_known (hK : Known P K) {f : FuncId} {xs : Array Value} {A : World} {v : Value} (h : K f xs.toList = some v) : SndCall P n₀ f xs A v A := by
  refine ⟨Nat.le_refl _, fun ι W xs' S hx _ => ?_⟩
  obtain ⟨h1, h2, h3⟩ := hK _ _ _ h
  have hxs : xs' = xs := arr_eq hx.1 fun i x x' ha hb => (hx.2 i x x' ha hb).plain_eq (h1 x (by simpa using Array.mem_of_getElem? ha))
  subst hxs
  have := h3 W
  rw [show (⟨xs'.toList⟩ : Array Value) = xs' from rfl] at this
  refine (callsIn_wide.2 this).mono ?_
  rintro e W' ⟨rfl, B⟩
  refine ⟨ι, v, rfl, ⟨fun b e o hb ho => (S.obj b e o hb ho).later (Ren.le.refl ι) (B.block _ (S.dom b e hb)), S.inj, fun b e hb => Nat.lt_of_lt_of_le (S.dom b e hb) B.size, Nat.le_trans S.lo B.size⟩, ?_, .of_plain h2⟩
  exact { (Moves.refl : Moves P ι A W ι A W) with
    keep := fun b hb _ => B.block b hb
    wsz := B.size
    os := B.os
    tape := B.tape
    output := B.output }
theorem snd_lvlK (G : Good P) (hK : Known P K) {D : Lvl → Array Oper → Act → World → Act → World → Prop} (hD : ∀ L, Snd P n₀ L → SndDraw P n₀ (D L)) : ∀ n, Snd P n₀ (lvlK P K D n)
  | 0 => ⟨fun _ _ _ _ _ h => h.elim, fun _ _ _ _ _ _ _ h => h.elim, fun _ _ _ _ _ _ _ h => h.elim, fun _ _ _ _ _ _ _ h => h.elim⟩
  | n + 1 =>
    have hL := snd_lvlK G hK hD n
    ⟨fun _ _ _ _ _ h => h.elim (fun h => snd_call G hL h) (fun ⟨h1, h2⟩ => h2 ▸ snd_known hK h1), fun _ _ _ _ _ _ _ h => snd_round hL h, fun _ _ _ _ _ _ _ h => snd_code G hL (hD _ hL) h, fun _ _ _ _ _ _ _ h => snd_loop hL h⟩
theorem sndK (G : Good P) (hK : Known P K) (n : Nat) : Snd P n₀ (LvK P K n) := snd_lvlK G hK (fun _ hL => snd_draw G hL) n

/-- From a call on whose arguments bear no address, of a world without a block. -/
theorem plain_callK (G : Good P) (hK : Known P K) {n : Nat} {f : FuncId} {xs : List Value} (hxs : ∀ x ∈ xs, plain x = true) {v : Value} (hv : plain v = true) {A' : World} (h : (LvK P K n).calls f ⟨xs⟩ (tombs 0) v A') (W : World) :
    Calls P f ⟨xs⟩ W fun e W' => e = .returned v ∧ Below W.heap.size W W' := by
  have S : Sim P W.heap.size (fun _ => none) (tombs 0) W := ⟨fun b e o hb => (by cases hb), fun b b' e e' o o' hb => (by cases hb), fun b e hb => (by cases hb), Nat.le_refl _⟩
  have hx : Vs P (fun _ => none) ⟨xs⟩ ⟨xs⟩ := ⟨rfl, fun i x x' ha hb => by
    rw [ha] at hb; cases hb
    exact .of_plain (hxs x (by simpa using Array.mem_of_getElem? ha))⟩
  have hc := ((sndK G hK n).calls _ _ _ _ _ h).2 _ W ⟨xs⟩ S hx ⟨by rw [tombs_size]; exact Nat.zero_le _, fun b _ _ => rfl⟩
  have hc' := callsIn_wide.1 hc
  refine hc'.mono ?_
  rintro e W' ⟨ι', v', rfl, S', M, V⟩
  have := V.plain_eq hv
  subst this
  exact ⟨rfl, ⟨M.os, M.tape, M.output, M.wsz, fun b hb => M.keep b hb (fun k e o hk => by cases hk)⟩⟩

variable (P K)
noncomputable def evK (n : Nat) : EvT :=
  Nat.rec (motive := fun _ => EvT) ⟨fun _ _ _ => none, fun _ _ _ _ _ => none, fun _ _ _ _ _ => none, fun _ _ _ _ _ => none⟩
    (fun _ E => ⟨fun f xs h => (match K f xs.toList with | some v => some (v, h) | none => evCallT P E f xs h), evRoundT P E, evCodeT P E, evLoopT E⟩) n
variable {P K}
theorem evK_ok : ∀ n, EvTOk (evK P K n) (LvK P K n)
  | 0 => ⟨fun _ _ _ _ _ h => (by cases h), fun _ _ _ _ _ _ _ h => (by cases h), fun _ _ _ _ _ _ _ _ _ h => (by cases h), fun _ _ _ _ _ _ _ _ _ h => (by cases h)⟩
  | n + 1 =>
    have hE := evK_ok n
    ⟨fun f xs h v h' q A r => by
      have q' : (match K f xs.toList with | some v => some (v, h) | none => evCallT P (evK P K n) f xs h) = some (v, h') := q
      split at q'
      · rename_i u hu
        cases q'
        exact ⟨A, .inr ⟨hu, rfl⟩, r⟩
      · obtain ⟨A', h1, h2⟩ := evCallT_ok hE q' r
        exact ⟨A', .inl h1, h2⟩,
    fun _ _ _ _ _ _ _ h _ r => evRoundT_ok hE h r, fun _ _ _ _ _ _ _ _ _ h _ _ s r => evCodeT_ok hE h s r, fun _ _ _ _ _ _ _ _ _ h _ _ s r => evLoopT_ok hE h s r⟩

/-- What such a call answers with. -/
noncomputable def tells (P : Program) (K : Know) (n : Nat) (f : FuncId) (xs : List Value) (v : Value) : Bool :=
  xs.all plain && plain v && match (evK P K n).calls f ⟨xs⟩ ⟨.leaf, 0⟩ with
  | some (v', _) => beqV 4 v' v
  | none => false
theorem tells_ok (G : Good P) (hK : Known P K) {n : Nat} {f : FuncId} {xs : List Value} {v : Value} (h : tells P K n f xs v = true) (W : World) : Calls P f ⟨xs⟩ W fun e W' => e = .returned v ∧ Below W.heap.size W W' := by
  unfold tells at h
  simp only [Bool.and_eq_true, List.all_eq_true] at h
  obtain ⟨⟨h1, h2⟩, h3⟩ := h
  split at h3
  · rename_i v' h' hv
    have := beqV_eq h3
    subst this
    obtain ⟨A', hA, _⟩ := (evK_ok n).calls _ _ _ _ _ hv (tombs 0) ⟨by rw [tombs_size], fun b o hb => by rw [Tri.get_leaf] at hb; cases hb⟩
    exact plain_callK G hK h1 h2 hA W
  · cases h3
/-- Nothing is known; one thing more is known. -/
noncomputable def know0 : Know := fun _ _ => none
theorem known0 : Known P know0 := fun _ _ _ h => (by cases h)
noncomputable def knowTrue (fs : List FuncId) : Know := fun f xs => match xs, fs.contains f with
  | [], true => some (.bool true)
  | _, _ => none
theorem knownTrue {fs : List FuncId} (h : ∀ f ∈ fs, ∀ W, Calls P f ⟨[]⟩ W fun e W' => e = .returned (.bool true) ∧ Below W.heap.size W W') : Known P (knowTrue fs) := by
  intro f xs v hv
  unfold knowTrue at hv
  split at hv
  · rename_i hc
    cases hv
    exact ⟨fun x hx => (by cases hx), rfl, h f (by simpa using hc)⟩
  · cases hv
end
end Go.Abs
/-
  ABS 36: memo: a call from a heap that is written out, to a heap that is written out, each a theorem of its own.
-/
namespace Go.Abs
section
variable {P : Program} {K : Know}
theorem LvK_le : ∀ n, (LvK P K n).le (LvK P K (n + 1))
  | 0 => ⟨fun _ _ _ _ _ h => h.elim, fun _ _ _ _ _ _ _ h => h.elim, fun _ _ _ _ _ _ _ h => h.elim, fun _ _ _ _ _ _ _ h => h.elim⟩
  | n + 1 => by
    have h := LvK_le n
    refine ⟨?_, ?_, ?_, ?_⟩
    · rintro f xs A v A' (⟨fn, c, e, a1, A1, h1, h2, h3, h4⟩ | h1)
      · exact .inl ⟨fn, c, e, a1, A1, h1, h2, h.codes _ _ _ _ _ _ _ h3, h4⟩
      · exact .inr h1
    · rintro l ts as bd A v A' ⟨a1, A1, A2, e, a3, A3, j, h1, h2, h3, h4⟩
      exact ⟨a1, A1, A2, e, a3, A3, j, h.codes _ _ _ _ _ _ _ h1, h2, h.codes _ _ _ _ _ _ _ h3, h4⟩
    · intro ro c a A e a' A' r
      cases c with
      | seq x y =>
        obtain ⟨e1, a1, A1, h1, h2⟩ := r
        exact ⟨e1, a1, A1, h.codes _ _ _ _ _ _ _ h1, h2.mono fun _ _ _ _ _ q => h.codes _ _ _ _ _ _ _ q⟩
      | cond c x y =>
        obtain ⟨b, h1, h2⟩ := r
        exact ⟨b, h1, h.codes _ _ _ _ _ _ _ h2⟩
      | block id x =>
        obtain ⟨e1, h1, h2⟩ := r
        exact ⟨e1, h.codes _ _ _ _ _ _ _ h1, h2⟩
      | loop x => exact h.loops _ _ _ _ _ _ _ r
      | region id ops draw =>
        cases draw with
        | false => exact ⟨r.1, r.2.mono h⟩
        | true => exact ⟨r.1, r.2.mono h⟩
      | rangeFunc g ps as bd =>
        obtain ⟨l, mark, A1, f, first, cap, fn, code, v, A2, jump, A3, h1, h2, h3, h4, h5, h6, h7, h8⟩ := r
        refine ⟨l, mark, A1, f, first, cap, fn, code, v, A2, jump, A3, h1, h2, h3, h4, h5, h.calls _ _ _ _ _ h6, h7, ?_⟩
        cases jump with
        | none => exact h8
        | some c => exact h.codes _ _ _ _ _ _ _ h8
      | _ => exact r
    · rintro ro c a A e a' A' ⟨e1, a1, A1, h1, h2⟩
      exact ⟨e1, a1, A1, h.codes _ _ _ _ _ _ _ h1, h2.mono fun _ _ _ _ _ q => h.loops _ _ _ _ _ _ _ q⟩
theorem Lvl.le.refl (L : Lvl) : L.le L := ⟨fun _ _ _ _ _ q => q, fun _ _ _ _ _ _ _ q => q, fun _ _ _ _ _ _ _ q => q, fun _ _ _ _ _ _ _ q => q⟩
theorem LvK_mono {m n : Nat} (h : m ≤ n) : (LvK P K m).le (LvK P K n) := by
  obtain ⟨d, rfl⟩ := Nat.exists_eq_add_of_le h
  induction d with
  | zero => exact .refl _
  | succ d ih => exact (ih (Nat.le_add_right _ _)).trans (LvK_le _)

/-- A heap written out: what is known of it. -/
structure Lit where
  n : Nat
  l : List (Nat × Obj)
def triOf : List (Nat × Obj) → Tri Obj
  | [] => .leaf
  | (b, o) :: l => (triOf l).put (b + 1) b o
noncomputable def triK {β : Type} (l : List (Nat × Obj)) (k : Tri Obj → β) : β :=
  List.rec (motive := fun _ => (Tri Obj → β) → β) (fun k => k .leaf) (fun p _ ih k => ih fun t => t.putK (p.1 + 1) p.1 p.2 k) l k
theorem triK_eq {β : Type} : ∀ (l : List (Nat × Obj)) (k : Tri Obj → β), triK l k = k (triOf l)
  | [], _ => rfl
  | (b, o) :: l, k => by
    show triK l (fun t => t.putK (b + 1) b o k) = _
    rw [triK_eq l, Tri.putK_eq]; rfl
def Lit.hp (L : Lit) : Hp := ⟨triOf L.l, L.n⟩
theorem triOf_get : ∀ {l : List (Nat × Obj)} {b : Nat} {o : Obj}, (triOf l).get b = some o → (b, o) ∈ l
  | [], b, o, h => by rw [triOf, Tri.get_leaf] at h; cases h
  | (c, p) :: l, b, o, h => by
    simp only [triOf] at h
    by_cases e : b = c
    · subst e
      rw [Tri.get_put_self _ _ _ _ (Nat.lt_succ_self _)] at h
      cases h
      exact List.mem_cons_self
    · rw [Tri.get_put_ne _ _ _ _ _ e] at h
      exact List.mem_cons_of_mem _ (triOf_get h)
/-- What the list says, later entries (nearer its head) ahead of earlier ones. -/
noncomputable def fits (h : Hp) (L : Lit) : Bool := Nat.beq h.n L.n && triK L.l fun t => L.l.all fun p => match h.t.get p.1, t.get p.1 with
  | some o, some o' => beqO o o'
  | _, _ => false
theorem fits_ok {h : Hp} {L : Lit} {A : World} (r : Rep h A) (q : fits h L = true) : Rep L.hp A := by
  unfold fits at q
  rw [triK_eq] at q
  simp only [Bool.and_eq_true, List.all_eq_true] at q
  refine ⟨(Nat.eq_of_beq_eq_true q.1).symm.trans r.size, fun b o hb => ?_⟩
  have := q.2 _ (triOf_get hb)
  simp only at this
  split at this
  · rename_i o1 o2 h1 h2
    have hb' : (triOf L.l).get b = some o := hb
    rw [hb'] at h2
    cases h2
    rw [beqO_eq this] at h1
    exact r.get _ _ h1
  · cases this

structure Memo where
  f : FuncId
  xs : List Value
  h : Lit
  v : Value
  h' : Lit
def MemoOk (P : Program) (K : Know) (N : Nat) (m : Memo) : Prop := ∀ A, Rep m.h.hp A → ∃ A', (LvK P K N).calls m.f ⟨m.xs⟩ A m.v A' ∧ Rep m.h'.hp A'
theorem MemoOk.mono {M N : Nat} (h : M ≤ N) {m : Memo} (q : MemoOk P K M m) : MemoOk P K N m := fun A r => by
  obtain ⟨A', h1, h2⟩ := q A r
  exact ⟨A', (LvK_mono h).calls _ _ _ _ _ h1, h2⟩
noncomputable def hit (ms : List Memo) (f : FuncId) (xs : List Value) (h : Hp) : Option Memo :=
  ms.find? fun m => Nat.beq m.f f && beqL (beqV 4) xs m.xs && fits h m.h
variable (P K)
noncomputable def evM (ms : List Memo) (n : Nat) : EvT :=
  Nat.rec (motive := fun _ => EvT) ⟨fun _ _ _ => none, fun _ _ _ _ _ => none, fun _ _ _ _ _ => none, fun _ _ _ _ _ => none⟩
    (fun _ E => ⟨fun f xs h => (match K f xs.toList with
      | some v => some (v, h)
      | none => (match hit ms f xs.toList h with
        | some m => triK m.h'.l fun t => some (m.v, ⟨t, m.h'.n⟩)
        | none => evCallT P E f xs h)), evRoundT P E, evCodeT P E, evLoopT E⟩) n
variable {P K}
theorem evM_ok {ms : List Memo} {N : Nat} (hM : ∀ m ∈ ms, MemoOk P K N m) : ∀ n, EvTOk (evM P K ms n) (LvK P K (N + n))
  | 0 => ⟨fun _ _ _ _ _ h => (by cases h), fun _ _ _ _ _ _ _ h => (by cases h), fun _ _ _ _ _ _ _ _ _ h => (by cases h), fun _ _ _ _ _ _ _ _ _ h => (by cases h)⟩
  | n + 1 =>
    have hE := evM_ok hM n
    ⟨fun f xs h v h' q A r => by
      have q' : (match K f xs.toList with
        | some v => some (v, h)
        | none => (match hit ms f xs.toList h with
          | some m => triK m.h'.l fun t => some (m.v, ⟨t, m.h'.n⟩)
          | none => evCallT P (evM P K ms n) f xs h)) = some (v, h') := q
      split at q'
      · rename_i u hu
        cases q'
        exact ⟨A, .inr ⟨hu, rfl⟩, r⟩
      · split at q'
        · rename_i m hm
          rw [triK_eq] at q'
          cases q'
          unfold hit at hm
          have h1 := List.find?_some hm
          have h2 := List.mem_of_find?_eq_some hm
          simp only [Bool.and_eq_true] at h1
          obtain ⟨⟨e1, e2⟩, e3⟩ := h1
          have e1' := Nat.eq_of_beq_eq_true e1
          have e2' : xs.toList = m.xs := beqL_eq (fun x y => beqV_eq) e2
          obtain ⟨A', k1, k2⟩ := hM m h2 A (fits_ok r e3)
          refine ⟨A', ?_, k2⟩
          rw [← e1', show xs = ⟨m.xs⟩ from by rw [← e2']]
          exact (LvK_mono (Nat.le_add_right N (n + 1))).calls _ _ _ _ _ k1
        · obtain ⟨A', h1, h2⟩ := evCallT_ok hE q' r
          exact ⟨A', .inl h1, h2⟩,
    fun _ _ _ _ _ _ _ h _ r => evRoundT_ok hE h r, fun _ _ _ _ _ _ _ _ _ h _ _ s r => evCodeT_ok hE h s r, fun _ _ _ _ _ _ _ _ _ h _ _ s r => evLoopT_ok hE h s r⟩

/-- The kernel's check of one record. -/
noncomputable def memoB (P : Program) (K : Know) (ms : List Memo) (n : Nat) (m : Memo) : Bool :=
  triK m.h.l fun t => match (evM P K ms n).calls m.f ⟨m.xs⟩ ⟨t, m.h.n⟩ with
  | some (v', h') => beqV 4 v' m.v && fits h' m.h'
  | none => false
theorem memoB_ok {ms : List Memo} {N n : Nat} (hM : ∀ m ∈ ms, MemoOk P K N m) {m : Memo} (h : memoB P K ms n m = true) : MemoOk P K (N + n) m := by
  intro A r
  unfold memoB at h
  rw [triK_eq] at h
  split at h
  · rename_i v' h' hv
    simp only [Bool.and_eq_true] at h
    obtain ⟨A', h1, h2⟩ := (evM_ok hM n).calls _ _ _ _ _ hv A r
    rw [beqV_eq h.1] at h1
    exact ⟨A', h1, fits_ok h2 h.2⟩
  · cases h
/-- A closed call that leans on records. -/
noncomputable def tellsM (P : Program) (K : Know) (ms : List Memo) (n : Nat) (f : FuncId) (xs : List Value) (v : Value) : Bool :=
  xs.all plain && plain v && match (evM P K ms n).calls f ⟨xs⟩ ⟨.leaf, 0⟩ with
  | some (v', _) => beqV 4 v' v
  | none => false
open Go.RowKit in
theorem tellsM_ok (G : Good P) (hK : Known P K) {ms : List Memo} {N : Nat} (hM : ∀ m ∈ ms, MemoOk P K N m) {n : Nat} {f : FuncId} {xs : List Value} {v : Value} (h : tellsM P K ms n f xs v = true) (W : World) : Calls P f ⟨xs⟩ W fun e W' => e = .returned v ∧ Below W.heap.size W W' := by
  unfold tellsM at h
  simp only [Bool.and_eq_true, List.all_eq_true] at h
  obtain ⟨⟨h1, h2⟩, h3⟩ := h
  split at h3
  · rename_i v' h' hv
    have := beqV_eq h3
    subst this
    obtain ⟨A', hA, _⟩ := (evM_ok hM n).calls _ _ _ _ _ hv (tombs 0) ⟨by rw [tombs_size], fun b o hb => by rw [Tri.get_leaf] at hb; cases hb⟩
    exact plain_callK G hK h1 h2 hA W
  · cases h3
end
end Go.Abs
/-
  ABS 37: a record that was made with less known is a record with more known.
-/
namespace Go.Abs
section
variable {P : Program}
theorem LvK_know {K K' : Know} (hK : ∀ f xs v, K f xs = some v → K' f xs = some v) : ∀ n, (LvK P K n).le (LvK P K' n)
  | 0 => ⟨fun _ _ _ _ _ h => h.elim, fun _ _ _ _ _ _ _ h => h.elim, fun _ _ _ _ _ _ _ h => h.elim, fun _ _ _ _ _ _ _ h => h.elim⟩
  | n + 1 => by
    have h := LvK_know hK n
    refine ⟨?_, ?_, ?_, ?_⟩
    · rintro f xs A v A' (⟨fn, c, e, a1, A1, h1, h2, h3, h4⟩ | ⟨h1, h2⟩)
      · exact .inl ⟨fn, c, e, a1, A1, h1, h2, h.codes _ _ _ _ _ _ _ h3, h4⟩
      · exact .inr ⟨hK _ _ _ h1, h2⟩
    · rintro l ts as bd A v A' ⟨a1, A1, A2, e, a3, A3, j, h1, h2, h3, h4⟩
      exact ⟨a1, A1, A2, e, a3, A3, j, h.codes _ _ _ _ _ _ _ h1, h2, h.codes _ _ _ _ _ _ _ h3, h4⟩
    · intro ro c a A e a' A' r
      cases c with
      | seq x y =>
        obtain ⟨e1, a1, A1, h1, h2⟩ := r
        exact ⟨e1, a1, A1, h.codes _ _ _ _ _ _ _ h1, h2.mono fun _ _ _ _ _ q => h.codes _ _ _ _ _ _ _ q⟩
      | cond c x y =>
        obtain ⟨b, h1, h2⟩ := r
        exact ⟨b, h1, h.codes _ _ _ _ _ _ _ h2⟩
      | block id x =>
        obtain ⟨e1, h1, h2⟩ := r
        exact ⟨e1, h.codes _ _ _ _ _ _ _ h1, h2⟩
      | loop x => exact h.loops _ _ _ _ _ _ _ r
      | region id ops draw =>
        cases draw with
        | false => exact ⟨r.1, r.2.mono h⟩
        | true => exact ⟨r.1, r.2.mono h⟩
      | rangeFunc g ps as bd =>
        obtain ⟨l, mark, A1, f, first, cap, fn, code, v, A2, jump, A3, h1, h2, h3, h4, h5, h6, h7, h8⟩ := r
        refine ⟨l, mark, A1, f, first, cap, fn, code, v, A2, jump, A3, h1, h2, h3, h4, h5, h.calls _ _ _ _ _ h6, h7, ?_⟩
        cases jump with
        | none => exact h8
        | some c => exact h.codes _ _ _ _ _ _ _ h8
      | _ => exact r
    · rintro ro c a A e a' A' ⟨e1, a1, A1, h1, h2⟩
      exact ⟨e1, a1, A1, h.codes _ _ _ _ _ _ _ h1, h2.mono fun _ _ _ _ _ q => h.loops _ _ _ _ _ _ _ q⟩
theorem MemoOk.know {K K' : Know} (hK : ∀ f xs v, K f xs = some v → K' f xs = some v) {N : Nat} {m : Memo} (q : MemoOk P K N m) : MemoOk P K' N m := fun A r => by
  obtain ⟨A', h1, h2⟩ := q A r
  exact ⟨A', (LvK_know hK N).calls _ _ _ _ _ h1, h2⟩
theorem know0_le (K : Know) : ∀ f xs v, know0 f xs = some v → K f xs = some v := fun _ _ _ h => by cases h
/-- Records, grown by one. -/
theorem memos_cons {K : Know} {N : Nat} {m : Memo} {ms : List Memo} (h : MemoOk P K N m) (hs : ∀ m ∈ ms, MemoOk P K N m) : ∀ k ∈ m :: ms, MemoOk P K N k := fun k hk => by
  rcases List.mem_cons.1 hk with rfl | hk
  · exact h
  · exact hs k hk
theorem memos_nil {K : Know} {N : Nat} : ∀ k ∈ ([] : List Memo), MemoOk P K N k := fun _ h => by cases h
end
end Go.Abs
