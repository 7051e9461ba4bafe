/-
  ABS 31: the second evaluator: one operation.
-/
import Derived.Test.YtipomlcnmaldkaaA30
namespace Go.Abs

structure EvT where
  calls : FuncId → Array Value → Hp → Option (Value × Hp)
  rounds : Nat → Array Value → Code → Code → Hp → Option (Value × Hp)
  codes : Option Nat → Code → Rg → List Deferred → Hp → Option (Exit × Rg × List Deferred × Hp)
  loops : Option Nat → Code → Rg → List Deferred → Hp → Option (Exit × Rg × List Deferred × Hp)

def AsT (R : Rg) (ds : List Deferred) (a : Act) : Prop := RepA R a ∧ a.defers = ds
structure EvTOk (E : EvT) (L : Lvl) : Prop where
  calls : ∀ f xs h v h', E.calls f xs h = some (v, h') → ∀ A, Rep h A → ∃ A', L.calls f xs A v A' ∧ Rep h' A'
  rounds : ∀ l ts as bd h v h', E.rounds l ts as bd h = some (v, h') → ∀ A, Rep h A → ∃ A', L.rounds l ts as bd A v A' ∧ Rep h' A'
  codes : ∀ ro c R ds h e R' ds' h', E.codes ro c R ds h = some (e, R', ds', h') → ∀ a A, AsT R ds a → Rep h A → ∃ a' A', L.codes ro c a A e a' A' ∧ AsT R' ds' a' ∧ Rep h' A'
  loops : ∀ ro c R ds h e R' ds' h', E.loops ro c R ds h = some (e, R', ds', h') → ∀ a A, AsT R ds a → Rep h A → ∃ a' A', L.loops ro c a A e a' A' ∧ AsT R' ds' a' ∧ Rep h' A'

section
variable (P : Program)

noncomputable def regT (h : Hp) (ρ : Operand → Value) : Op → Bool
  | .move _ | .assign _ | .pick .. | .alloc _ | .box .. | .build .. | .buildSlice .. | .load .. | .store .. | .extract .. | .field .. | .index .. | .indexAddr .. | .makeSlice .. | .makeMap .. | .nilCheck _ => true
  | .makeFunc (.func _) _ _ => true
  | .fieldAddr s _ k => match P.underlying s with
    | some (.struct fs) => (match fs[k]? with | some f => !decide (P.cellsOf f.type = 0) | none => true)
    | _ => true
  | .slice t x _ _ _ => (match ρ x with | .slice _ l c => decide (l ≤ c) | _ => true) && match P.underlying t with
    | some (.pointer _) => false
    | some (.slice elem) => (match ρ x with
      | .slice (some a) _ _ => (match h.t.get a.block with | some (.cells _ t' fz) => !decide (fz = (2, 0)) && (!decide (fz = (1, 0)) || decide (P.cellsOf elem = P.cellsOf t')) | _ => false)
      | _ => true)
    | _ => true
  | .binOp .eql _ x y _ | .binOp .neq _ x y _ => nilPair (ρ x) (ρ y)
  | .lookup t _ k _ => keyB P t (ρ k)
  | .mapUpdate t _ k _ => keyB P t (ρ k)
  | .call c => match c.callee with
    | .builtin .len | .builtin .copy | .builtin .clear => true
    | .builtin .delete => (match c.argTypes[0]?, (c.args.map ρ)[1]? with | some mt, some k => keyB P mt k | _, _ => true)
    | _ => false
  | _ => false
theorem regT_ok {h : Hp} {A : World} (r : Rep h A) {ρ : Operand → Value} {op : Op} (q : regT P h ρ op = true) : regB P A ρ op = true := by
  cases op <;> first | exact q | skip
  case slice t x _ _ _ =>
    simp only [regT, Bool.and_eq_true] at q
    simp only [regB, Bool.and_eq_true]
    refine ⟨q.1, ?_⟩
    have q2 := q.2
    split at q2
    · cases q2
    · rename_i e hu
      rw [hu]
      simp only
      split at q2
      · rename_i a _ _ hx
        rw [hx]
        simp only
        split at q2
        · rename_i cs t' fz hb
          rw [r.get _ _ hb]
          exact q2
        · cases q2
      · rename_i hne
        split
        · rename_i a _ _ hx; exact absurd hx (hne _ _ _)
        · rfl
    · rename_i h1 h2
      split
      · rename_i hu; exact absurd hu (h1 _)
      · rename_i hu; exact absurd hu (h2 _)
      · rfl
  case binOp o _ _ _ _ => cases o <;> exact q
  case makeFunc f _ _ => cases f <;> exact q
noncomputable def evValT (ρ : Operand → Value) (o : Oper) (h : Hp) : Option Value :=
  match regT P h ρ o.op with
  | true => (match peekT P h (execOp ρ o) with | some (.value v) => some v | _ => none)
  | false => match stillOp o.op && o.op.operands.toList.all fun x => plain (ρ x) with
    | true => (match still P (execOp ρ o) with
      | some (.value v) => (match plain v with | true => some v | false => none)
      | _ => none)
    | false => none
theorem evValT_ok {h : Hp} {A : World} (r : Rep h A) {ρ : Operand → Value} {o : Oper} {v : Value} (q : evValT P ρ o h = some v) : AOp P ρ o A (.value v) A := by
  unfold evValT at q
  split at q
  · rename_i hr
    split at q
    · rename_i u hp
      cases q
      exact .inr (.inl ⟨regB_ok (regT_ok P r hr), peek_run (peekT_ok P r hp)⟩)
    · cases q
  · split at q
    · rename_i hs
      simp only [Bool.and_eq_true, List.all_eq_true] at hs
      split at q
      · rename_i u hp
        split at q
        · rename_i hpl
          cases q
          exact .inl ⟨_, rfl, rfl, hpl, fun x hx => hs.2 x (by simpa using hx), hs.1, fun w => still_run hp w⟩
        · cases q
      · cases q
    · cases q
noncomputable def evMakeT (ρ : Operand → Value) (o : Oper) (h : Hp) : Option (Value × Obj) :=
  match fresh P h.n (execOp ρ o) with
  | some (.value v, obj) => some (v, obj)
  | _ => none
theorem evMakeT_eq {h : Hp} {A : World} (r : Rep h A) (ρ : Operand → Value) (o : Oper) : evMakeT P ρ o h = evMake P ρ o A := by
  unfold evMakeT evMake
  rw [r.size]
  rfl

noncomputable def evAppendT (ts : Array TypeId) (xs : List Value) (h : Hp) : Option (Value × Hp) :=
  match ts[0]?, ts[1]?, xs with
  | some sT, some xT, [.slice base sLen sCap, x] =>
    match (match P.underlying xT with | some (.slice _) | some .string | some (.int _) => true | _ => false), P.underlying sT with
    | true, some (.slice elem) =>
      match P.info? elem with
      | some ie =>
        match ie.zero with
        | some z =>
          match appN (zerosOf P ts) ie.bytes x with
          | some n =>
            match peekT P h (appSrc (zerosOf P ts) elem ie.size n x) with
            | some new =>
              match decide (sLen + n ≤ sCap) with
              | true => (match runT P (match base with | some a => storeCells (a.add (sLen * ie.size)) new.toList | none => pure ()) h with
                | some ((), h') => some (.slice base (sLen + n) sCap, h')
                | none => none)
              | false =>
                match peekT P h (Builtin.firstCells ie.size sLen (.slice base sLen sCap)) with
                | some old =>
                  match decide (sLen ≤ sCap) && decide (sLen + n ≤ 2 ^ 24) && decide (ie.bytes ≤ 2 ^ 16) && decide (z.cells.size = ie.size) && decide (old.size = sLen * ie.size) && decide (new.size = n * ie.size) && new.toList.all isOne with
                  | true =>
                    (match base with
                    | none => h.push (.cells (old ++ new) elem (1, 0)) fun h' => some (.slice (some ⟨h.n, 0, none⟩) (sLen + n) (sLen + n), h')
                    | some a =>
                      match h.t.get a.block with
                      | some (.cells _ t fz) =>
                        match decide (fz = (2, 0)), decide (fz = (1, 0)) with
                        | false, false => h.push (.cells (old ++ new) elem (1, 0)) fun h' => some (.slice (some ⟨h.n, 0, none⟩) (sLen + n) (sLen + n), h')
                        | false, true => (match decide (t = elem) && decide (0 < sLen) with
                          | true => h.put a.block (.cells #[] elem (2, 0)) fun h1 => h1.push (.cells (old ++ new) elem (1, 0)) fun h' => some (.slice (some ⟨h.n, 0, none⟩) (sLen + n) (sLen + n), h')
                          | false => none)
                        | true, _ => none
                      | _ => none)
                  | false => none
                | none => none
            | none => none
          | none => none
        | none => none
      | none => none
    | _, _ => none
  | _, _, _ => none
theorem evAppendT_ok {ts : Array TypeId} {xs : Array Value} {h h' : Hp} {A : World} (r : Rep h A) {v : Value} (q : evAppendT P ts xs.toList h = some (v, h')) : ∃ A', AApp P ts xs A v A' ∧ Rep h' A' := by
  unfold evAppendT at q
  split at q <;> try cases q
  rename_i sT xT base sLen sCap x h0 h1 hxs
  have hx : xs = #[.slice base sLen sCap, x] := by rw [← Array.toList_inj, hxs]
  split at q <;> try cases q
  rename_i elem hu1 hu
  split at q <;> try cases q
  rename_i ie hi
  split at q <;> try cases q
  rename_i z hz
  split at q <;> try cases q
  rename_i n hn
  split at q <;> try cases q
  rename_i new hnew
  replace hnew := peekT_ok P r hnew
  have H : AppAt P ts elem ie z := ⟨hz, ⟨sT, h0, hu⟩, hi, fun t ht => by
    rw [h1] at ht; cases ht
    split at hu1
    · rename_i e he; exact .inl ⟨e, he⟩
    · rename_i he; exact .inr (.inl he)
    · rename_i k he; exact .inr (.inr ⟨k, he⟩)
    · cases hu1⟩
  split at q
  · rename_i hle
    simp only [decide_eq_true_eq] at hle
    split at q <;> try cases q
    rename_i hst
    obtain ⟨A', hA, r'⟩ := runT_ok P _ r hst
    exact ⟨A', ⟨elem, ie, z, base, sLen, sCap, x, n, H, hx, hn, .inl ⟨hle, new, peek_run hnew, hA, rfl⟩⟩, r'⟩
  · rename_i hgt
    simp only [decide_eq_false_iff_not] at hgt
    split at q <;> try cases q
    rename_i old hold
    replace hold := peekT_ok P r hold
    split at q <;> try cases q
    rename_i hcs
    simp only [Bool.and_eq_true, decide_eq_true_eq] at hcs
    obtain ⟨⟨⟨⟨⟨⟨c1, c2⟩, c3⟩, c4⟩, c5⟩, c6⟩, c7⟩ := hcs
    have fin : ∀ {A'}, _ → ∃ A', AApp P ts xs A v A' ∧ Rep h' A' := fun {A'} (hh : AppNew P ts elem ie (.slice base sLen sCap) x base sLen n A v A' ∧ Rep h' A') =>
      ⟨A', ⟨elem, ie, z, base, sLen, sCap, x, n, H, hx, hn, .inr ⟨by omega, c1, c2, c3, c4, hh.1⟩⟩, hh.2⟩
    split at q
    · rw [Hp.push_eq] at q
      cases q
      exact fin (A' := A.alloc (.cells (old ++ new) elem (1, 0))) ⟨⟨old, new, peek_run hold, peek_run hnew, by rw [r.size], c5, c6, c7, .inl ⟨rfl, fun a ha => by cases ha⟩⟩, r.push _⟩
    · rename_i a
      split at q <;> try cases q
      rename_i cs t fz hb
      replace hb := r.get _ _ hb
      split at q
      · rename_i q1 q2
        simp only [decide_eq_false_iff_not] at q1 q2
        rw [Hp.push_eq] at q
        cases q
        refine fin (A' := A.alloc (.cells (old ++ new) elem (1, 0))) ⟨⟨old, new, peek_run hold, peek_run hnew, by rw [r.size], c5, c6, c7, .inl ⟨rfl, fun a' ha => ?_⟩⟩, r.push _⟩
        cases ha
        exact ⟨cs, t, fz, hb, q1, q2⟩
      · rename_i q1 q2
        simp only [decide_eq_true_eq] at q2
        split at q <;> try cases q
        rename_i q3
        simp only [Bool.and_eq_true, decide_eq_true_eq] at q3
        subst q2
        obtain ⟨rfl, q4⟩ := q3
        rw [Hp.put_eq, Hp.push_eq] at q
        cases q
        have hlt : a.block < A.heap.size := (Array.getElem?_eq_some_iff.1 hb).1
        have r1 : Rep ⟨h.t.put (a.block + 1) a.block (.cells #[] t (2, 0)), h.n⟩ (kill A a.block t) := r.put (by simp) (kill_self hlt) fun k hk => kill_ne hk
        exact fin (A' := (kill A a.block t).alloc (.cells (old ++ new) t (1, 0))) ⟨⟨old, new, peek_run hold, peek_run hnew, by rw [r.size], c5, c6, c7, .inr ⟨a, cs, rfl, hb, q4, rfl⟩⟩, r1.push _⟩
      · cases q

variable (E : EvT)
noncomputable def evEnterT (ρ : Operand → Value) (c : Call) (g : Operand) (h : Hp) : Option (Value × Hp) :=
  match ρ g with
  | .func (.func f) first cap =>
    match P.funcs[f]? with
    | some fn => (match fn.body.isSome && !(fn.name == "runtime.NumGoroutine") with
      | true => E.calls f ⟨first.toList ++ c.args.toList.map ρ ++ cap.toList⟩ h
      | false => none)
    | none => none
  | .func (.yield l) first _ =>
    match h.t.get l with
    | some (.loop r) => (match decide ((first ++ c.args.map ρ).size = r.params.size) with
      | true => E.rounds l ((r.params.zip (first ++ c.args.map ρ)).foldl (fun tmps (t, a) => tmps.setIfInBounds t a) r.tmps) r.assign r.body h
      | false => none)
    | _ => none
  | _ => none
noncomputable def evRunT (ρ : Operand → Value) (o : Oper) (h : Hp) : Option (Value × Hp) :=
  match regT P h ρ o.op with
  | true => (match runT P (execOp ρ o) h with
    | some (.value v, h') => some (v, h')
    | some (.skip, h') => some (undef, h')
    | _ => none)
  | false => none
noncomputable def evStayT (ρ : Operand → Value) (o : Oper) (h : Hp) : Option (Value × Hp) :=
  match evValT P ρ o h with
  | some v => some (v, h)
  | none => none
noncomputable def evOpT (o : Oper) (R : Rg) (h : Hp) : Option (Value × Hp) :=
  match o.op with
  | .move x | .assign x => some (evalT R x, h)
  | .call c => (match c.callee with
    | .builtin .append => evAppendT P c.argTypes (c.args.toList.map (evalT R)) h
    | .value g => (match evEnterT P E (evalT R) c g h with
      | some r => some r
      | none => evStayT P (evalT R) o h)
    | .builtin .copy | .builtin .clear | .builtin .delete => evRunT P (evalT R) o h
    | _ => evStayT P (evalT R) o h)
  | .store .. | .mapUpdate .. => evRunT P (evalT R) o h
  | op => match decide (kindOf op = .makes) with
    | true => (match evMakeT P (evalT R) o h with | some (v, obj) => h.push obj fun h' => some (v, h') | none => none)
    | false => evStayT P (evalT R) o h
variable {P E} {L : Lvl}
theorem evRunT_ok {o : Oper} {R : Rg} {a : Act} {A : World} {h h' : Hp} {v : Value} (ra : RepA R a) (r : Rep h A) (q : evRunT P (evalT R) o h = some (v, h')) : ∃ A', RunOp P L o a A v A' ∧ Rep h' A' := by
  unfold evRunT at q
  rw [evalT_eq ra] at q
  split at q
  · rename_i hr
    have hr := regT_ok P r hr
    split at q
    · rename_i hrun; cases q
      obtain ⟨A', h1, h2⟩ := runT_ok P _ r hrun
      exact ⟨A', ⟨_, _, .inr (.inl ⟨regB_ok hr, h1⟩), rfl, rfl⟩, h2⟩
    · rename_i hrun; cases q
      obtain ⟨A', h1, h2⟩ := runT_ok P _ r hrun
      exact ⟨A', ⟨_, _, .inr (.inl ⟨regB_ok hr, h1⟩), rfl, rfl⟩, h2⟩
    · cases q
  · cases q
theorem evStayT_ok {o : Oper} {R : Rg} {a : Act} {A : World} {h h' : Hp} {v : Value} (ra : RepA R a) (r : Rep h A) (q : evStayT P (evalT R) o h = some (v, h')) : RunOp P L o a A v A ∧ Rep h' A := by
  unfold evStayT at q
  rw [evalT_eq ra] at q
  split at q
  · rename_i hv; cases q; exact ⟨⟨_, _, evValT_ok P r hv, rfl, rfl⟩, r⟩
  · cases q
theorem evEnterT_ok (hE : EvTOk E L) {o : Oper} {R : Rg} {a : Act} {A : World} {h h' : Hp} {v : Value} (ra : RepA R a) (r : Rep h A) {c : Call} {g : Operand} (ho : o.op = .call c) (hc : c.callee = .value g) (q : evEnterT P E (evalT R) c g h = some (v, h')) : ∃ A', RunOp P L o a A v A' ∧ Rep h' A' := by
  unfold evEnterT at q
  rw [evalT_eq ra] at q
  split at q
  · rename_i f first cap hg
    split at q
    · rename_i fn hf
      split at q
      · rename_i hb
        simp only [Bool.and_eq_true, Option.isSome_iff_exists, Bool.not_eq_true'] at hb
        obtain ⟨⟨code, hb⟩, hn⟩ := hb
        have e : (⟨first.toList ++ c.args.toList.map a.eval ++ cap.toList⟩ : Array Value) = first ++ c.args.map a.eval ++ cap := by
          rw [← Array.toList_inj]; simp
        rw [e] at q
        obtain ⟨A', h1, h2⟩ := hE.calls _ _ _ _ _ q A r
        exact ⟨A', ⟨.enter f (first ++ c.args.map a.eval ++ cap), A, .inr (.inr (.inr (.inl ⟨c, g, f, first, cap, fn, code, ho, hc, hg, hf, hb, hn, rfl, rfl⟩))), h1⟩, h2⟩
      · cases q
    · cases q
  · rename_i l first cap hg
    split at q
    · rename_i rr hl
      replace hl := r.get _ _ hl
      split at q
      · rename_i hs
        simp only [decide_eq_true_eq] at hs
        obtain ⟨A', h1, h2⟩ := hE.rounds _ _ _ _ _ _ _ q A r
        exact ⟨A', ⟨_, A, .inr (.inr (.inr (.inr ⟨c, g, l, first, cap, rr, ho, hc, hg, hl, hs, rfl, rfl⟩))), h1⟩, h2⟩
      · cases q
    · cases q
  · cases q
def OpT (P : Program) (o : Oper) (a : Act) (A : World) (v : Value) (A' : World) : Prop :=
  (kindOf o.op = .quiet → A' = A) ∧ (kindOf o.op = .makes → ∃ obj, evMake P a.eval o A = some (v, obj) ∧ A' = A.alloc obj)
theorem OpT.acts {o : Oper} {a : Act} {A A' : World} {v : Value} (h : kindOf o.op = .acts) : OpT P o a A v A' := ⟨fun e => (by rw [h] at e; cases e), fun e => (by rw [h] at e; cases e)⟩
theorem OpT.stay {o : Oper} {a : Act} {A : World} {v : Value} (h : kindOf o.op ≠ .makes) : OpT P o a A v A := ⟨fun _ => rfl, fun e => absurd e h⟩
theorem evOpT_ok (hE : EvTOk E L) {o : Oper} {R : Rg} {a : Act} {A : World} {h h' : Hp} {v : Value} (ra : RepA R a) (r : Rep h A) (q : evOpT P E o R h = some (v, h')) : ∃ A', RunOp P L o a A v A' ∧ Rep h' A' ∧ OpT P o a A v A' := by
  unfold evOpT at q
  split at q
  · rename_i x ho
    cases q
    rw [evalT_eq ra]
    exact ⟨A, ⟨.value (a.eval x), A, .inr (.inl ⟨by rw [ho]; trivial, by unfold execOp; rw [ho]; rfl⟩), rfl, rfl⟩, r, .stay (by rw [ho]; simp [kindOf])⟩
  · rename_i x ho
    cases q
    rw [evalT_eq ra]
    exact ⟨A, ⟨.value (a.eval x), A, .inr (.inl ⟨by rw [ho]; trivial, by unfold execOp; rw [ho]; rfl⟩), rfl, rfl⟩, r, .stay (by rw [ho]; simp [kindOf])⟩
  · rename_i c ho
    have hnm : kindOf o.op ≠ .makes := by rw [ho]; simp only [kindOf]; split <;> (intro e; cases e)
    split at q
    · rename_i hc
      rw [evalT_eq ra] at q
      have e : c.args.toList.map a.eval = (c.args.map a.eval).toList := by simp
      rw [e] at q
      obtain ⟨A', h1, h2⟩ := evAppendT_ok P r q
      exact ⟨A', ⟨.value v, A', .inr (.inr (.inl ⟨c, v, ho, hc, rfl, h1⟩)), rfl, rfl⟩, h2, .acts (by rw [ho]; simp [kindOf, hc])⟩
    · rename_i g hc
      split at q
      · rename_i rr hr
        obtain ⟨A', h1, h2⟩ := evEnterT_ok hE ra r ho hc (hr.trans q)
        exact ⟨A', h1, h2, .acts (by rw [ho]; simp [kindOf, hc])⟩
      · obtain ⟨h1, h2⟩ := evStayT_ok (L := L) ra r q
        exact ⟨A, h1, h2, .stay hnm⟩
    · rename_i hc
      obtain ⟨A', h1, h2⟩ := evRunT_ok (L := L) ra r q
      exact ⟨A', h1, h2, .acts (by rw [ho]; simp [kindOf, hc])⟩
    · rename_i hc
      obtain ⟨A', h1, h2⟩ := evRunT_ok (L := L) ra r q
      exact ⟨A', h1, h2, .acts (by rw [ho]; simp [kindOf, hc])⟩
    · rename_i hc
      obtain ⟨A', h1, h2⟩ := evRunT_ok (L := L) ra r q
      exact ⟨A', h1, h2, .acts (by rw [ho]; simp [kindOf, hc])⟩
    · obtain ⟨h1, h2⟩ := evStayT_ok (L := L) ra r q
      exact ⟨A, h1, h2, .stay hnm⟩
  · rename_i hc
    obtain ⟨A', h1, h2⟩ := evRunT_ok (L := L) ra r q
    exact ⟨A', h1, h2, .acts (by rw [hc]; simp [kindOf])⟩
  · rename_i hc
    obtain ⟨A', h1, h2⟩ := evRunT_ok (L := L) ra r q
    exact ⟨A', h1, h2, .acts (by rw [hc]; simp [kindOf])⟩
  · split at q
    · rename_i hk
      simp only [decide_eq_true_eq] at hk
      rw [evalT_eq ra, evMakeT_eq P r] at q
      split at q
      · rename_i u obj hm
        rw [Hp.push_eq] at q
        cases q
        obtain ⟨q1, q2⟩ := evMake_ok hk hm A rfl
        exact ⟨_, ⟨_, _, .inr (.inl ⟨q1, q2⟩), rfl, rfl⟩, r.push _, ⟨fun e => (by rw [hk] at e; cases e), fun _ => ⟨obj, hm, rfl⟩⟩⟩
      · cases q
    · rename_i hk
      simp only [decide_eq_false_iff_not] at hk
      obtain ⟨h1, h2⟩ := evStayT_ok (L := L) ra r q
      exact ⟨A, h1, h2, .stay hk⟩
end
end Go.Abs
