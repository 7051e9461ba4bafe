/-
  ABS 25: the evaluator, by levels.
-/
import Derived.Test.YtipomlcnmaldkaaA24
namespace Go.Abs
section
variable (P : Program) (E : Ev)

def evMarks : List Deferred → World → Option World
  | [], A => some A
  | d :: ds, A =>
    match d.target with
    | .collected r => (match (Instr.takeDeferred r).run P A with
      | .ok [] A1 => evMarks ds A1
      | _ => none)
    | _ => none
def evCall (f : FuncId) (xs : Array Value) (A : World) : Option (Value × World) :=
  match P.funcs[f]? with
  | some fn =>
    match fn.body with
    | some c =>
      match E.codes none c { tmps := xs ++ Array.replicate (fn.ntmps - xs.size) undef, defers := [] } A with
      | some (e, a1, A1) =>
        match (match e with | .normal | .ret => true | _ => false) with
        | true => (match evMarks P a1.defers A1 with
          | some A' => (match peek P A' (results fn a1.tmps) with
            | some v => some (v, A')
            | none => none)
          | none => none)
        | false => none
      | none => none
    | none => none
  | none => none
def evRound (l : Nat) (ts : Array Value) (as bd : Code) (A : World) : Option (Value × World) :=
  match E.codes (some l) as { tmps := ts, defers := [] } A with
  | some (.normal, a1, A1) =>
    match (Instr.beginRound l).run P A1 with
    | .ok () A2 =>
      match E.codes (some l) bd a1 A2 with
      | some (e, _, A3) =>
        match jumpOf e with
        | some j => (match (Instr.endRound l j).run P A3 with
          | .ok v A' => some (v, A')
          | _ => none)
        | none => none
      | none => none
    | _ => none
  | _ => none
def evRange (ro : Option Nat) (g : Operand) (ps : Array Tmp) (as bd : Code) (a : Act) (A : World) : Option (Exit × Act × World) :=
  match (Instr.enterLoop 0 a.tmps ps as bd ro).run P A with
  | .ok (l, mark) A1 =>
    match a.eval g with
    | .func (.func f) first cap =>
      match P.funcs[f]? with
      | some fn =>
        match fn.body.isSome && !(fn.name == "runtime.NumGoroutine") with
        | true =>
          match E.calls f (first ++ #[.func (.yield l) #[] #[]] ++ cap) A1 with
          | some (_, A2) =>
            match (Instr.endLoop l).run P A2 with
            | .ok none A3 => some (.normal, { a with defers := mark ++ a.defers }, A3)
            | .ok (some c) A3 => E.codes ro c { a with defers := mark ++ a.defers } A3
            | _ => none
          | none => none
        | false => none
      | none => none
    | _ => none
  | _ => none
def evCode (ro : Option Nat) (c : Code) (a : Act) (A : World) : Option (Exit × Act × World) :=
  match c with
  | .skip | .label _ => some (.normal, a, A)
  | .seq x y => (match E.codes ro x a A with
    | some (.normal, a1, A1) => E.codes ro y a1 A1
    | r => r)
  | .cond c x y => (match a.eval c with
    | .bool true => E.codes ro x a A
    | .bool false => E.codes ro y a A
    | _ => none)
  | .block id x => (match E.codes ro x a A with
    | some (e, a1, A1) => some (inBlk id e, a1, A1)
    | none => none)
  | .loop x => E.loops ro x a A
  | .exit id => some (.exit id, a, A)
  | .goto l => some (.goto l, a, A)
  | .ret => some (.ret, a, A)
  | .region _ ops false => (match evOps P E ops (List.range ops.size) a A with
    | some (a1, A1) => some (.normal, a1, A1)
    | none => none)
  | .region _ ops true => (match evDraw P E ops a A with
    | some (a1, A1) => some (.normal, a1, A1)
    | none => none)
  | .rangeFunc g ps as bd => evRange P E ro g ps as bd a A
  | _ => none
def evLoop (ro : Option Nat) (x : Code) (a : Act) (A : World) : Option (Exit × Act × World) :=
  match E.codes ro x a A with
  | some (.normal, a1, A1) => E.loops ro x a1 A1
  | r => r
def ev : Nat → Ev
  | 0 => ⟨fun _ _ _ => none, fun _ _ _ _ _ => none, fun _ _ _ _ => none, fun _ _ _ _ => none⟩
  | n + 1 => ⟨evCall P (ev n), evRound P (ev n), evCode P (ev n), evLoop (ev n)⟩

variable {P E} {L : Lvl}
theorem evMarks_ok : ∀ {ds : List Deferred} {A A' : World}, evMarks P ds A = some A' → Marks P ds A A'
  | [], A, A', h => by cases h; rfl
  | d :: ds, A, A', h => by
    simp only [evMarks] at h
    split at h
    · rename_i r hr
      split at h
      · rename_i A1 hrun; exact ⟨r, A1, hr, hrun, evMarks_ok h⟩
      · cases h
    · cases h
theorem evCall_ok (hE : EvOk E L) {f : FuncId} {xs : Array Value} {A A' : World} {v : Value} (h : evCall P E f xs A = some (v, A')) : callStep P L f xs A v A' := by
  unfold evCall at h
  split at h <;> try cases h
  rename_i fn hf
  split at h <;> try cases h
  rename_i c hc
  split at h <;> try cases h
  rename_i e a1 A1 hr
  split at h <;> try cases h
  rename_i he
  split at h <;> try cases h
  rename_i A2 hm
  split at h <;> try cases h
  rename_i u hp
  refine ⟨fn, c, e, a1, A1, hf, hc, hE.codes _ _ _ _ _ _ _ hr, ?_, evMarks_ok hm, peek_run hp⟩
  split at he
  · exact .inl rfl
  · exact .inr rfl
  · cases he
theorem evRound_ok (hE : EvOk E L) {l : Nat} {ts : Array Value} {as bd : Code} {A A' : World} {v : Value} (h : evRound P E l ts as bd A = some (v, A')) : roundStep P L l ts as bd A v A' := by
  unfold evRound at h
  split at h <;> try cases h
  rename_i a1 A1 h1
  split at h <;> try cases h
  rename_i A2 h2
  split at h <;> try cases h
  rename_i e a3 A3 h3
  split at h <;> try cases h
  rename_i j h4
  split at h <;> try cases h
  rename_i h5
  exact ⟨a1, A1, A2, e, a3, A3, j, hE.codes _ _ _ _ _ _ _ h1, h2, hE.codes _ _ _ _ _ _ _ h3, h4, h5⟩
theorem evRange_ok (hE : EvOk E L) {ro : Option Nat} {g : Operand} {ps : Array Tmp} {as bd : Code} {a a' : Act} {A A' : World} {e : Exit} (h : evRange P E ro g ps as bd a A = some (e, a', A')) : RunRange P L ro g ps as bd a A e a' A' := by
  unfold evRange at h
  split at h <;> try cases h
  rename_i l mark A1 h1
  split at h <;> try cases h
  rename_i f first cap h2
  split at h <;> try cases h
  rename_i fn h3
  split at h <;> try cases h
  rename_i h4
  simp only [Bool.and_eq_true, Option.isSome_iff_exists, Bool.not_eq_true'] at h4
  obtain ⟨⟨code, h4⟩, h5⟩ := h4
  split at h <;> try cases h
  rename_i v A2 h6
  split at h
  · rename_i A3 h7
    cases h
    exact ⟨l, mark, A1, f, first, cap, fn, code, v, A2, none, _, h1, h2, h3, h4, h5, hE.calls _ _ _ _ _ h6, h7, rfl, rfl, rfl⟩
  · rename_i c A3 h7
    exact ⟨l, mark, A1, f, first, cap, fn, code, v, A2, some c, A3, h1, h2, h3, h4, h5, hE.calls _ _ _ _ _ h6, h7, hE.codes _ _ _ _ _ _ _ h⟩
  · cases h
theorem evThen_ok {r : Option (Exit × Act × World)} {R : Act → World → Exit → Act → World → Prop} {F : Act → World → Option (Exit × Act × World)} (hF : ∀ a A e a' A', F a A = some (e, a', A') → R a A e a' A') {e : Exit} {a' : Act} {A' : World}
    (h : (match r with | some (.normal, a1, A1) => F a1 A1 | r => r) = some (e, a', A')) : ∃ e1 a1 A1, r = some (e1, a1, A1) ∧ thenStep e1 a1 A1 R e a' A' := by
  split at h
  · rename_i a1 A1; exact ⟨.normal, a1, A1, rfl, hF _ _ _ _ _ h⟩
  · rename_i hne
    subst h
    refine ⟨e, a', A', rfl, ?_⟩
    cases e <;> first | exact ⟨rfl, rfl, rfl⟩ | exact (hne _ _ rfl).elim
theorem evCode_ok (hE : EvOk E L) {ro : Option Nat} {c : Code} {a a' : Act} {A A' : World} {e : Exit} (h : evCode P E ro c a A = some (e, a', A')) : codeStep P L (RunDraw P) ro c a A e a' A' := by
  unfold evCode at h
  split at h
  · cases h; exact ⟨rfl, rfl, rfl⟩
  · cases h; exact ⟨rfl, rfl, rfl⟩
  · rename_i x y
    obtain ⟨e1, a1, A1, h1, h2⟩ := evThen_ok (R := L.codes ro y) (fun _ _ _ _ _ q => hE.codes _ _ _ _ _ _ _ q) h
    exact ⟨e1, a1, A1, hE.codes _ _ _ _ _ _ _ h1, h2⟩
  · rename_i c x y
    split at h
    · rename_i hc; exact ⟨true, hc, hE.codes _ _ _ _ _ _ _ h⟩
    · rename_i hc; exact ⟨false, hc, hE.codes _ _ _ _ _ _ _ h⟩
    · cases h
  · split at h
    · rename_i h1; cases h; exact ⟨_, hE.codes _ _ _ _ _ _ _ h1, rfl⟩
    · cases h
  · exact hE.loops _ _ _ _ _ _ _ h
  · cases h; exact ⟨rfl, rfl, rfl⟩
  · cases h; exact ⟨rfl, rfl, rfl⟩
  · cases h; exact ⟨rfl, rfl, rfl⟩
  · split at h
    · rename_i h1; cases h; exact ⟨rfl, evOps_ok hE h1⟩
    · cases h
  · split at h
    · rename_i h1; cases h; exact ⟨rfl, evDraw_ok hE h1⟩
    · cases h
  · exact evRange_ok hE h
  · cases h
theorem evLoop_ok (hE : EvOk E L) {ro : Option Nat} {x : Code} {a a' : Act} {A A' : World} {e : Exit} (h : evLoop E ro x a A = some (e, a', A')) : loopStep L ro x a A e a' A' := by
  unfold evLoop at h
  obtain ⟨e1, a1, A1, h1, h2⟩ := evThen_ok (R := L.loops ro x) (fun _ _ _ _ _ q => hE.loops _ _ _ _ _ _ _ q) h
  exact ⟨e1, a1, A1, hE.codes _ _ _ _ _ _ _ h1, h2⟩
theorem ev_ok : ∀ n, EvOk (ev P n) (Lv P n)
  | 0 => ⟨fun _ _ _ _ _ h => (by cases h), fun _ _ _ _ _ _ _ h => (by cases h), fun _ _ _ _ _ _ _ h => (by cases h), fun _ _ _ _ _ _ _ h => (by cases h)⟩
  | n + 1 =>
    have hE := ev_ok n
    ⟨fun _ _ _ _ _ h => evCall_ok hE h, fun _ _ _ _ _ _ _ h => evRound_ok hE h, fun _ _ _ _ _ _ _ h => evCode_ok hE h, fun _ _ _ _ _ _ _ h => evLoop_ok hE h⟩

/-- What a closed call answers with. -/
def answers (P : Program) (n : Nat) (f : FuncId) (q : Value → Bool) : Bool :=
  match (ev P n).calls f #[] (tombs 0) with
  | some (v, _) => q v
  | none => false
theorem answers_ok {n : Nat} {f : FuncId} {q : Value → Bool} (h : answers P n f q = true) : ∃ v A', (Lv P n).calls f #[] (tombs 0) v A' ∧ q v = true := by
  unfold answers at h
  split at h
  · rename_i v A' hv; exact ⟨v, A', (ev_ok n).calls _ _ _ _ _ hv, h⟩
  · cases h

/-- What is asked of the program's text. -/
def zeroOk (P : Program) : Bool := P.types.toList.all fun i => match i.zero with | some z => plain z | none => true
def codesOk (P : Program) : Bool := P.funcs.toList.all fun fn => match fn.body with | some c => codeOk c | none => true
end
end Go.Abs
