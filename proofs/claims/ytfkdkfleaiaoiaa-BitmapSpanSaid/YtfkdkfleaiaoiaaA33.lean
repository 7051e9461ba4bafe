/-
  ABS 31: the second evaluator: one operation.
-/
import Derived.Test.YtfkdkfleaiaoiaaA30
namespace Go.Abs

structure EvT where
  calls : FuncId → Array Value → Hp → Option (Value × Hp)
  rounds : Nat → Array Value → Code → Code → Hp → Option (Value × Hp)
  codes : Option Nat → Code → Rg → List Deferred → Hp → Option (Exit × Rg × List Deferred × Hp)
  loops : Option Nat → Code → Rg → List Deferred → Hp → Option (Exit × Rg × List Deferred × Hp)

def AsT (R : Rg) (ds : List Deferred) (a : Act) : Prop := RepA R a ∧ a.defers = ds
structure EvTOk (E : EvT) (L : Lvl) : Prop where
  calls : ∀ f xs h v h', E.calls f xs h = some (v, h') → ∀ A, Rep h A → ∃ A', L.calls f xs A v A' ∧ Rep h' A'
  rounds : ∀ l ts as bd h v h', E.rounds l ts as bd h = some (v, h') → ∀ A, Rep h A → ∃ A', L.rounds l ts as bd A v A' ∧ Rep h' A'
  codes : ∀ ro c R ds h e R' ds' h', E.codes ro c R ds h = some (e, R', ds', h') → ∀ a A, AsT R ds a → Rep h A → ∃ a' A', L.codes ro c a A e a' A' ∧ AsT R' ds' a' ∧ Rep h' A'
  loops : ∀ ro c R ds h e R' ds' h', E.loops ro c R ds h = some (e, R', ds', h') → ∀ a A, AsT R ds a → Rep h A → ∃ a' A', L.loops ro c a A e a' A' ∧ AsT R' ds' a' ∧ Rep h' A'

section
variable (P : Program)

noncomputable def regT (h : Hp) (ρ : Operand → Value) : Op → Bool
  | .move _ | .assign _ | .pick .. | .alloc _ | .box .. | .build .. | .buildSlice .. | .load .. | .store .. | .extract .. | .field .. | .index .. | .indexAddr .. | .makeSlice .. | .makeMap .. | .nilCheck _ => true
  | .makeFunc (.func _) _ _ => true
  | .fieldAddr s _ k => match P.underlying s with
    | some (.struct fs) => (match fs[k]? with | some f => !decide (P.cellsOf f.type = 0) | none => true)
    | _ => true
  | .slice t x _ _ _ => (match ρ x with | .slice _ l c => decide (l ≤ c) | _ => true) && match P.underlying t with
    | some (.pointer _) => false
    | some (.slice elem) => (match ρ x with
      | .slice (some a) _ _ => (match h.t.get a.block with | some (.cells _ t' fz) => !decide (fz = (2, 0)) && (!decide (fz = (1, 0)) || decide (P.cellsOf elem = P.cellsOf t')) | _ => false)
      | _ => true)
    | _ => true
  | .binOp .eql _ x y _ | .binOp .neq _ x y _ => nilPair (ρ x) (ρ y)
  | .lookup t _ k _ => keyB P t (ρ k)
  | .mapUpdate t _ k _ => keyB P t (ρ k)
  | .call c => match c.callee with
    | .builtin .len | .builtin .copy | .builtin .clear => true
    | .builtin .delete => (match c.argTypes[0]?, (c.args.map ρ)[1]? with | some mt, some k => keyB P mt k | _, _ => true)
    | _ => false
  | _ => false
theorem regT_ok {h : Hp} {A : World} (r : Rep h A) {ρ : Operand → Value} {op : Op} (q : regT P h ρ op = true) : regB P A ρ op = true := by
  cases op <;> first | exact q | skip
  case slice t x _ _ _ =>
    simp only [regT, Bool.and_eq_true] at q
    simp only [regB, Bool.and_eq_true]
    refine ⟨q.1, ?_⟩
    have q2 := q.2
    split at q2
    · cases q2
    · rename_i e hu
      rw [hu]
      simp only
      split at q2
      · rename_i a _ _ hx
        rw [hx]
        simp only
        split at q2
        · rename_i cs t' fz hb
          rw [r.get _ _ hb]
          exact q2
        · cases q2
      · rename_i hne
        split
        · rename_i a _ _ hx; exact absurd hx (hne _ _ _)
        · rfl
    · rename_i h1 h2
      split
      · rename_i hu; exact absurd hu (h1 _)
      · rename_i hu; exact absurd hu (h2 _)
      · rfl
  case binOp o _ _ _ _ => cases o <;> exact q
  case makeFunc f _ _ => cases f <;> exact q
noncomputable def evValT (ρ : Operand → Value) (o : Oper) (h : Hp) : Option Value :=
  match regT P h ρ o.op with
  | true => (match peekT P h (execOp ρ o) with | some (.value v) => some v | _ => none)
  | false => match stillOp o.op && o.op.operands.toList.all fun x => plain (ρ x) with
    | true => (match still P (execOp ρ o) with
      | some (.value v) => (match plain v with | true => some v | false => none)
      | _ => none)
    | false => none
theorem evValT_ok {h : Hp} {A : World} (r : Rep h A) {ρ : Operand → Value} {o : Oper} {v : Value} (q : evValT P ρ o h = some v) : AOp P ρ o A (.value v) A := by
  unfold evValT at q
  split at q
  · rename_i hr
    split at q
    · rename_i u hp
      cases q
      exact .inr (.inl ⟨regB_ok (regT_ok P r hr), peek_run (peekT_ok P r hp)⟩)
    · cases q
  · split at q
    · rename_i hs
      simp only [Bool.and_eq_true, List.all_eq_true] at hs
      split at q
      · rename_i u hp
        split at q
        · rename_i hpl
          cases q
          exact .inl ⟨_, rfl, rfl, hpl, fun x hx => hs.2 x (by simpa using hx), hs.1, fun w => still_run hp w⟩
        · cases q
      · cases q
    · cases q
noncomputable def evMakeT (ρ : Operand → Value) (o : Oper) (h : Hp) : Option (Value × Obj) :=
  match fresh P h.n (execOp ρ o) with
  | some (.value v, obj) => some (v, obj)
  | _ => none
theorem evMakeT_eq {h : Hp} {A : World} (r : Rep h A) (ρ : Operand → Value) (o : Oper) : evMakeT P ρ o h = evMake P ρ o A := by
  unfold evMakeT evMake
  rw [r.size]
  rfl

noncomputable def evAppendT (ts : Array TypeId) (xs : List Value) (h : Hp) : Option (Value × Hp) :=
  match ts[0]?, ts[1]?, xs with
  | some sT, some xT, [.slice base sLen sCap, x] =>
    match (match P.underlying xT with | some (.slice _) | some .string | some (.int _) => true | _ => false), P.underlying sT with
    | true, some (.slice elem) =>
      match P.info? elem with
      | some ie =>
        match ie.zero with
        | some z =>
          match appN (zerosOf P ts) ie.bytes x with
          | some n =>
            match peekT P h (appSrc (zerosOf P ts) elem ie.size n x) with
            | some new =>
              match decide (sLen + n ≤ sCap) with
              | true => (match runT P (match base with | some a => storeCells (a.add (sLen * ie.size)) new.toList | none => pure ()) h with
                | some ((), h') => some (.slice base (sLen + n) sCap, h')
                | none => none)
              | false =>
                match peekT P h (Builtin.firstCells ie.size sLen (.slice base sLen sCap)) with
                | some old =>
                  match decide (sLen ≤ sCap) && decide (sLen + n ≤ 2 ^ 24) && decide (ie.bytes ≤ 2 ^ 16) && decide (z.cells.size = ie.size) && decide (old.size = sLen * ie.size) && decide (new.size = n * ie.size) && new.toList.all isOne with
                  | true =>
                    (match base with
                    | none => h.push (.cells (old ++ new) elem (1, 0)) fun h' => some (.slice (some ⟨h.n, 0, none⟩) (sLen + n) (sLen + n), h')
                    | some a =>
                      match h.t.get a.block with
                      | some (.cells _ t fz) =>
                        match decide (fz = (2, 0)), decide (fz = (1, 0)) with
                        | false, false => h.push (.cells (old ++ new) elem (1, 0)) fun h' => some (.slice (some ⟨h.n, 0, none⟩) (sLen + n) (sLen + n), h')
                        | false, true => (match decide (t = elem) && decide (0 < sLen) with
                          | true => h.put a.block (.cells #[] elem (2, 0)) fun h1 => h1.push (.cells (old ++ new) elem (1, 0)) fun h' => some (.slice (some ⟨h.n, 0, none⟩) (sLen + n) (sLen + n), h')
                          | false => none)
                        | true, _ => none
                      | _ => none)
                  | false => none
                | none => none
            | none => none
          | none => none
        | none => none
      | none => none
    | _, _ => none
  | _, _, _ => none
theorem evAppendT_ok {ts : Array TypeId} {xs : Array Value} {h h' : Hp} {A : World} (r : Rep h A) {v : Value} (q : evAppendT P ts xs.toList h = some (v, h')) : ∃ A', AApp P ts xs A v A' ∧ Rep h' A' := by
  unfold evAppendT at q
  split at q <;> try cases q
  rename_i sT xT base sLen sCap x h0 h1 hxs
  have hx : xs = #[.slice base sLen sCap, x] := by rw [← Array.toList_inj, hxs]
  split at q <;> try cases q
  rename_i elem hu1 hu
  split at q <;> try cases q
  rename_i ie hi
  split at q <;> try cases q
  rename_i z hz
  split at q <;> try cases q
  rename_i n hn
  split at q <;> try cases q
  rename_i new hnew
  replace hnew := peekT_ok P r hnew
  have H : AppAt P ts elem ie z := ⟨hz, ⟨sT, h0, hu⟩, hi, fun t ht => by
    rw [h1] at ht; cases ht
    split at hu1
    · rename_i e he; exact .inl ⟨e, he⟩
    · rename_i he; exact .inr (.inl he)
    · rename_i k he; exact .inr (.inr ⟨k, he⟩)
    · cases hu1⟩
  split at q
  · rename_i hle
    simp only [decide_eq_true_eq] at hle
    split at q <;> try cases q
    rename_i hst
    obtain ⟨A', hA, r'⟩ := runT_ok P _ r hst
    exact ⟨A', ⟨elem, ie, z, base, sLen, sCap, x, n, H, hx, hn, .inl ⟨hle, new, peek_run hnew, hA, rfl⟩⟩, r'⟩
  · rename_i hgt
    simp only [decide_eq_false_iff_not] at hgt
    split at q <;> try cases q
    rename_i old hold
    replace hold := peekT_ok P r hold
    split at q <;> try cases q
    rename_i hcs
    simp only [Bool.and_eq_true, decide_eq_true_eq] at hcs
    obtain ⟨⟨⟨⟨⟨⟨c1, c2⟩, c3⟩, c4⟩, c5⟩, c6⟩, c7⟩ := hcs
    have fin : ∀ {A'}, _ → ∃ A', AApp P ts xs A v A' ∧ Rep h' A' := fun {A'} (hh : AppNew P ts elem ie (.slice base sLen sCap) x base sLen n A v A' ∧ Rep h' A') =>
      ⟨A', ⟨elem, ie, z, base, sLen, sCap, x, n, H, hx, hn, .inr ⟨by omega, c1, c2, c3, c4, hh.1⟩⟩, hh.2⟩
    split at q
    · rw [Hp.push_eq] at q
      cases q
      exact fin (A' := A.alloc (.cells (old ++ new) elem (1, 0))) ⟨⟨old, new, peek_run hold, peek_run hnew, by rw [r.size], c5, c6, c7, .inl ⟨rfl, fun a ha => by cases ha⟩⟩, r.push _⟩
    · rename_i a
      split at q <;> try cases q
      rename_i cs t fz hb
      replace hb := r.get _ _ hb
      split at q
      · rename_i q1 q2
        simp only [decide_eq_false_iff_not] at q1 q2
        rw [Hp.push_eq] at q
        cases q
        refine fin (A' := A.alloc (.cells (old ++ new) elem (1, 0))) ⟨⟨old, new, peek_run hold, peek_run hnew, by rw [r.size], c5, c6, c7, .inl ⟨rfl, fun a' ha => ?_⟩⟩, r.push _⟩
        cases ha
        exact ⟨cs, t, fz, hb, q1, q2⟩
      · rename_i q1 q2
        simp only [decide_eq_true_eq] at q2
        split at q <;> try cases q
        rename_i q3
        simp only [Bool.and_eq_true, decide_eq_true_eq] at q3
        subst q2
        obtain ⟨rfl, q4⟩ := q3
        rw [Hp.put_eq, Hp.push_eq] at q
        cases q
        have hlt : a.block < A.heap.size := (Array.getElem?_eq_some_iff.1 hb).1
        have r1 : Rep ⟨h.t.put (a.block + 1) a.block (.cells #[] t (2, 0)), h.n⟩ (kill A a.block t) := r.put (by simp) (kill_self hlt) fun k hk => kill_ne hk
        exact fin (A' := (kill A a.block t).alloc (.cells (old ++ new) t (1, 0))) ⟨⟨old, new, peek_run hold, peek_run hnew, by rw [r.size], c5, c6, c7, .inr ⟨a, cs, rfl, hb, q4, rfl⟩⟩, r1.push _⟩
      · cases q

variable (E : EvT)
noncomputable def evEnterT (ρ : Operand → Value) (c : Call) (g : Operand) (h : Hp) : Option (Value × Hp) :=
  match ρ g with
  | .func (.func f) first cap =>
    match P.funcs[f]? with
    | some fn => (match fn.body.isSome && !(fn.name == "runtime.NumGoroutine") with
      | true => E.calls f ⟨first.toList ++ c.args.toList.map ρ ++ cap.toList⟩ h
      | false => none)
    | none => none
  | .func (.yield l) first _ =>
    match h.t.get l with
    | some (.loop r) => (match decide ((first ++ c.args.map ρ).size = r.params.size) with
      | true => E.rounds l ((r.params.zip (first ++ c.args.map ρ)).foldl (fun tmps (t, a) => tmps.setIfInBounds t a) r.tmps) r.assign r.body h
      | false => none)
    | _ => none
  | _ => none
noncomputable def evRunT (ρ : Operand → Value) (o : Oper) (h : Hp) : Option (Value × Hp) :=
  match regT P h ρ o.op with
  | true => (match runT P (execOp ρ o) h with
    | some (.value v, h') => some (v, h')
    | some (.skip, h') => some (undef, h')
    | _ => none)
  | false => none
noncomputable def evStayT (ρ : Operand → Value) (o : Oper) (h : Hp) : Option (Value × Hp) :=
  match evValT P ρ o h with
  | some v => some (v, h)
  | none => none
noncomputable def evOpT (o : Oper) (R : Rg) (h : Hp) : Option (Value × Hp) :=
  match o.op with
  | .move x | .assign x => some (evalT R x, h)
  | .call c => (match c.callee with
    | .builtin .append => evAppendT P c.argTypes (c.args.toList.map (evalT R)) h
    | .value g => (match evEnterT P E (evalT R) c g h with
      | some r => some r
      | none => evStayT P (evalT R) o h)
    | .builtin .copy | .builtin .clear | .builtin .delete => evRunT P (evalT R) o h
    | _ => evStayT P (evalT R) o h)
  | .store .. | .mapUpdate .. => evRunT P (evalT R) o h
  | op => match decide (kindOf op = .makes) with
    | true => (match evMakeT P (evalT R) o h with | some (v, obj) => h.push obj fun h' => some (v, h') | none => none)
    | false => evStayT P (evalT R) o h
variable {P E} {L : Lvl}
theorem evRunT_ok {o : Oper} {R : Rg} {a : Act} {A : World} {h h' : Hp} {v : Value} (ra : RepA R a) (r : Rep h A) (q : evRunT P (evalT R) o h = some (v, h')) : ∃ A', RunOp P L o a A v A' ∧ Rep h' A' := by
  unfold evRunT at q
  rw [evalT_eq ra] at q
  split at q
  · rename_i hr
    have hr := regT_ok P r hr
    split at q
    · rename_i hrun; cases q
      obtain ⟨A', h1, h2⟩ := runT_ok P _ r hrun
      exact ⟨A', ⟨_, _, .inr (.inl ⟨regB_ok hr, h1⟩), rfl, rfl⟩, h2⟩
    · rename_i hrun; cases q
      obtain ⟨A', h1, h2⟩ := runT_ok P _ r hrun
      exact ⟨A', ⟨_, _, .inr (.inl ⟨regB_ok hr, h1⟩), rfl, rfl⟩, h2⟩
    · cases q
  · cases q
theorem evStayT_ok {o : Oper} {R : Rg} {a : Act} {A : World} {h h' : Hp} {v : Value} (ra : RepA R a) (r : Rep h A) (q : evStayT P (evalT R) o h = some (v, h')) : RunOp P L o a A v A ∧ Rep h' A := by
  unfold evStayT at q
  rw [evalT_eq ra] at q
  split at q
  · rename_i hv; cases q; exact ⟨⟨_, _, evValT_ok P r hv, rfl, rfl⟩, r⟩
  · cases q
theorem evEnterT_ok (hE : EvTOk E L) {o : Oper} {R : Rg} {a : Act} {A : World} {h h' : Hp} {v : Value} (ra : RepA R a) (r : Rep h A) {c : Call} {g : Operand} (ho : o.op = .call c) (hc : c.callee = .value g) (q : evEnterT P E (evalT R) c g h = some (v, h')) : ∃ A', RunOp P L o a A v A' ∧ Rep h' A' := by
  unfold evEnterT at q
  rw [evalT_eq ra] at q
  split at q
  · rename_i f first cap hg
    split at q
    · rename_i fn hf
      split at q
      · rename_i hb
        simp only [Bool.and_eq_true, Option.isSome_iff_exists, Bool.not_eq_true'] at hb
        obtain ⟨⟨code, hb⟩, hn⟩ := hb
        have e : (⟨first.toList ++ c.args.toList.map a.eval ++ cap.toList⟩ : Array Value) = first ++ c.args.map a.eval ++ cap := by
          rw [← Array.toList_inj]; simp
        rw [e] at q
        obtain ⟨A', h1, h2⟩ := hE.calls _ _ _ _ _ q A r
        exact ⟨A', ⟨.enter f (first ++ c.args.map a.eval ++ cap), A, .inr (.inr (.inr (.inl ⟨c, g, f, first, cap, fn, code, ho, hc, hg, hf, hb, hn, rfl, rfl⟩))), h1⟩, h2⟩
      · cases q
    · cases q
  · rename_i l first cap hg
    split at q
    · rename_i rr hl
      replace hl := r.get _ _ hl
      split at q
      · rename_i hs
        simp only [decide_eq_true_eq] at hs
        obtain ⟨A', h1, h2⟩ := hE.rounds _ _ _ _ _ _ _ q A r
        exact ⟨A', ⟨_, A, .inr (.inr (.inr (.inr ⟨c, g, l, first, cap, rr, ho, hc, hg, hl, hs, rfl, rfl⟩))), h1⟩, h2⟩
      · cases q
    · cases q
  · cases q
def OpT (P : Program) (o : Oper) (a : Act) (A : World) (v : Value) (A' : World) : Prop :=
  (kindOf o.op = .quiet → A' = A) ∧ (kindOf o.op = .makes → ∃ obj, evMake P a.eval o A = some (v, obj) ∧ A' = A.alloc obj)
theorem OpT.acts {o : Oper} {a : Act} {A A' : World} {v : Value} (h : kindOf o.op = .acts) : OpT P o a A v A' := ⟨fun e => (by rw [h] at e; cases e), fun e => (by rw [h] at e; cases e)⟩
theorem OpT.stay {o : Oper} {a : Act} {A : World} {v : Value} (h : kindOf o.op ≠ .makes) : OpT P o a A v A := ⟨fun _ => rfl, fun e => absurd e h⟩
theorem evOpT_ok (hE : EvTOk E L) {o : Oper} {R : Rg} {a : Act} {A : World} {h h' : Hp} {v : Value} (ra : RepA R a) (r : Rep h A) (q : evOpT P E o R h = some (v, h')) : ∃ A', RunOp P L o a A v A' ∧ Rep h' A' ∧ OpT P o a A v A' := by
  unfold evOpT at q
  split at q
  · rename_i x ho
    cases q
    rw [evalT_eq ra]
    exact ⟨A, ⟨.value (a.eval x), A, .inr (.inl ⟨by rw [ho]; trivial, by unfold execOp; rw [ho]; rfl⟩), rfl, rfl⟩, r, .stay (by rw [ho]; simp [kindOf])⟩
  · rename_i x ho
    cases q
    rw [evalT_eq ra]
    exact ⟨A, ⟨.value (a.eval x), A, .inr (.inl ⟨by rw [ho]; trivial, by unfold execOp; rw [ho]; rfl⟩), rfl, rfl⟩, r, .stay (by rw [ho]; simp [kindOf])⟩
  · rename_i c ho
    have hnm : kindOf o.op ≠ .makes := by rw [ho]; simp only [kindOf]; split <;> (intro e; cases e)
    split at q
    · rename_i hc
      rw [evalT_eq ra] at q
      have e : c.args.toList.map a.eval = (c.args.map a.eval).toList := by simp
      rw [e] at q
      obtain ⟨A', h1, h2⟩ := evAppendT_ok P r q
      exact ⟨A', ⟨.value v, A', .inr (.inr (.inl ⟨c, v, ho, hc, rfl, h1⟩)), rfl, rfl⟩, h2, .acts (by rw [ho]; simp [kindOf, hc])⟩
    · rename_i g hc
      split at q
      · rename_i rr hr
        obtain ⟨A', h1, h2⟩ := evEnterT_ok hE ra r ho hc (hr.trans q)
        exact ⟨A', h1, h2, .acts (by rw [ho]; simp [kindOf, hc])⟩
      · obtain ⟨h1, h2⟩ := evStayT_ok (L := L) ra r q
        exact ⟨A, h1, h2, .stay hnm⟩
    · rename_i hc
      obtain ⟨A', h1, h2⟩ := evRunT_ok (L := L) ra r q
      exact ⟨A', h1, h2, .acts (by rw [ho]; simp [kindOf, hc])⟩
    · rename_i hc
      obtain ⟨A', h1, h2⟩ := evRunT_ok (L := L) ra r q
      exact ⟨A', h1, h2, .acts (by rw [ho]; simp [kindOf, hc])⟩
    · rename_i hc
      obtain ⟨A', h1, h2⟩ := evRunT_ok (L := L) ra r q
      exact ⟨A', h1, h2, .acts (by rw [ho]; simp [kindOf, hc])⟩
    · obtain ⟨h1, h2⟩ := evStayT_ok (L := L) ra r q
      exact ⟨A, h1, h2, .stay hnm⟩
  · rename_i hc
    obtain ⟨A', h1, h2⟩ := evRunT_ok (L := L) ra r q
    exact ⟨A', h1, h2, .acts (by rw [hc]; simp [kindOf])⟩
  · rename_i hc
    obtain ⟨A', h1, h2⟩ := evRunT_ok (L := L) ra r q
    exact ⟨A', h1, h2, .acts (by rw [hc]; simp [kindOf])⟩
  · split at q
    · rename_i hk
      simp only [decide_eq_true_eq] at hk
      rw [evalT_eq ra, evMakeT_eq P r] at q
      split at q
      · rename_i u obj hm
        rw [Hp.push_eq] at q
        cases q
        obtain ⟨q1, q2⟩ := evMake_ok hk hm A rfl
        exact ⟨_, ⟨_, _, .inr (.inl ⟨q1, q2⟩), rfl, rfl⟩, r.push _, ⟨fun e => (by rw [hk] at e; cases e), fun _ => ⟨obj, hm, rfl⟩⟩⟩
      · cases q
    · rename_i hk
      simp only [decide_eq_false_iff_not] at hk
      obtain ⟨h1, h2⟩ := evStayT_ok (L := L) ra r q
      exact ⟨A, h1, h2, .stay hk⟩
end
end Go.Abs
/-
  ABS 32: the commonest operations, read once and done at once.
-/
namespace Go.Abs

inductive Fast where
  | mv (x : Operand)
  | cmp (c : Nat) (x y : Operand)
  | ari (c : Nat) (x y : Operand)
  | ld (x : Operand)
  | fa (off : Nat) (x : Operand)
  | ia (size : Nat) (x i : Operand)
  | len (x : Operand)
  | pk (c a b : Operand)
  | nc (x : Operand)
  | slow

def cmpCode : BinOp → Option Nat
  | .eql => some 0 | .neq => some 1 | .lss => some 2 | .leq => some 3 | .gtr => some 4 | .geq => some 5
  | _ => none
def cmpI (c : Nat) (a b : Int) : Bool := match c with
  | 0 => decide (a = b)
  | 1 => !decide (a = b)
  | 2 => decide (a < b)
  | 3 => decide (a ≤ b)
  | 4 => decide (b < a)
  | _ => decide (b ≤ a)
section
variable (P : Program)
def fast (o : Oper) : Fast := match o.op with
  | .move x | .assign x => .mv x
  | .binOp op _ x y _ => (match cmpCode op with
    | some c => .cmp c x y
    | none => match op with
      | .add => .ari 0 x y
      | .sub => .ari 1 x y
      | _ => .slow)
  | .load t x => (match P.underlying t with
    | some (.struct _) | some (.array _ _) | none => .slow
    | _ => .ld x)
  | .fieldAddr s x k => (match P.underlying s with
    | some (.struct fs) => (match fs[k]? with
      | some f => (match P.info? f.type with
        | some i => (match i.size with | 0 => .slow | _ + 1 => .fa f.offset x)
        | none => .slow)
      | none => .slow)
    | _ => .slow)
  | .indexAddr t x i => (match P.underlying t with
    | some (.slice e) => (match P.info? e with | some ie => .ia ie.size x i | none => .slow)
    | _ => .slow)
  | .pick c a b => .pk c a b
  | .nilCheck x => .nc x
  | .call c => (match c.callee with
    | .builtin .len => (match c.argTypes[0]?, c.args.toList with
      | some t, [x] => (match P.underlying t with | some (.slice _) => .len x | _ => .slow)
      | _, _ => .slow)
    | _ => .slow)
  | _ => .slow
noncomputable def evCmp (R : Rg) (c : Nat) (x y : Operand) : Option Value := match evalT R x, evalT R y with
  | .int k a, .int k' b => (match decide (k = k') with
    | true => forceB (cmpI c a b) fun r => some (.bool r)
    | false => none)
  | _, _ => none
noncomputable def evAri (R : Rg) (c : Nat) (x y : Operand) : Option Value := match evalT R x, evalT R y with
  | .int k a, .int k' b => (match decide (k = k'), c with
    | true, 0 => forceI (k.wrap (a + b)) fun r => some (.int k r)
    | true, 1 => forceI (k.wrap (a - b)) fun r => some (.int k r)
    | _, _ => none)
  | _, _ => none
noncomputable def evLd (R : Rg) (h : Hp) (x : Operand) : Option Value := match evalT R x with
  | .pointer (some a) => h.cell a
  | _ => none
noncomputable def evFa (R : Rg) (off : Nat) (x : Operand) : Option Value := match evalT R x with
  | .pointer (some ⟨b, o, none⟩) => forceN (o + off) fun n => some (.pointer (some ⟨b, n, none⟩))
  | _ => none
noncomputable def evIa (R : Rg) (size : Nat) (x i : Operand) : Option Value := match evalT R x, evalT R i with
  | .slice (some ⟨b, o, none⟩) l _, .int _ (.ofNat n) => (match Nat.blt n l with
    | true => forceN (o + n * size) fun m => some (.pointer (some ⟨b, m, none⟩))
    | false => none)
  | _, _ => none
noncomputable def evLen (R : Rg) (x : Operand) : Option Value := match evalT R x with
  | .slice _ n _ => some (goInt n)
  | _ => none
noncomputable def evMv (R : Rg) (x : Operand) : Option Value := match x with
  | .tmp t => (match R.t.get t with
    | some v => some v
    | none => some undef)
  | x => some (evalT R x)
theorem evMv_eq (R : Rg) (x : Operand) : evMv R x = some (evalT R x) := by
  cases x with
  | tmp t =>
    simp only [evMv, evalT]
    cases R.t.get t <;> rfl
  | _ => rfl
noncomputable def evPk (R : Rg) (c a b : Operand) : Option Value := match evalT R c with
  | .bool true => evMv R a
  | .bool false => evMv R b
  | _ => none
noncomputable def evNc (R : Rg) (x : Operand) : Option Value := match evalT R x with
  | .pointer (some a) => some (.pointer (some a))
  | _ => none
noncomputable def evFast (R : Rg) (h : Hp) (F : Fast) : Option Value := match F with
  | .mv x => evMv R x
  | .cmp c x y => evCmp R c x y
  | .ari c x y => evAri R c x y
  | .ld x => evLd R h x
  | .fa off x => evFa R off x
  | .ia size x i => evIa R size x i
  | .len x => evLen R x
  | .pk c a b => evPk R c a b
  | .nc x => evNc R x
  | .slow => none
end
section
variable (P : Program)
variable {P}
theorem int_run {op : BinOp} {t : TypeId} {x y : Operand} {yt : TypeId} {ρ : Operand → Value} {o : Oper} (ho : o.op = .binOp op t x y yt) {k : IntKind} {a b : Int} (hx : ρ x = .int k a) (hy : ρ y = .int k b) {v : Value} (hv : plain v = true)
    (h : ∀ w : World, (binOp op t (.int k a) (.int k b)).run P w = .ok v w) (A : World) : AOp P ρ o A (.value v) A := by
  refine .inl ⟨v, rfl, rfl, hv, ?_, by rw [ho]; rfl, fun w => ?_⟩
  · intro z hz
    rw [ho] at hz
    simp only [Op.operands] at hz
    have hz' : z = x ∨ z = y := by simpa using hz
    rcases hz' with rfl | rfl
    · rw [hx]; rfl
    · rw [hy]; rfl
  · unfold execOp
    rw [ho]
    simp only [hx, hy]
    have e : (eqGuard op t x y (.int k a) (.int k b)).run P w = .ok () w := by
      unfold eqGuard
      split <;> rfl
    simp only [Sem.run_bind, e, h w, Result.andThen, Sem.run_pure]
theorem evFast_ok {R : Rg} {a : Act} {h : Hp} {A : World} {o : Oper} {v : Value} (ra : RepA R a) (r : Rep h A) (q : evFast R h (fast P o) = some v) : AOp P a.eval o A (.value v) A ∧ kindOf o.op ≠ .makes := by
  unfold fast at q
  split at q
  · rename_i x ho
    simp only [evFast, evMv_eq, Option.some.injEq] at q
    subst q
    rw [evalT_eq ra]
    exact ⟨.inr (.inl ⟨by rw [ho]; trivial, by unfold execOp; rw [ho]; rfl⟩), by rw [ho]; simp [kindOf]⟩
  · rename_i x ho
    simp only [evFast, evMv_eq, Option.some.injEq] at q
    subst q
    rw [evalT_eq ra]
    exact ⟨.inr (.inl ⟨by rw [ho]; trivial, by unfold execOp; rw [ho]; rfl⟩), by rw [ho]; simp [kindOf]⟩
  · rename_i op t x y yt ho
    refine ⟨?_, by rw [ho]; simp [kindOf]⟩
    split at q
    · rename_i c hc
      simp only [evFast, evCmp, evalT_eq ra] at q
      split at q
      · rename_i k m k' n hx hy
        split at q
        · rename_i hk
          simp only [decide_eq_true_eq] at hk
          subst hk
          rw [forceB_eq] at q
          cases q
          refine int_run ho hx hy rfl (fun w => ?_) A
          cases op <;> simp only [cmpCode, Option.some.injEq, reduceCtorEq] at hc <;> subst hc <;> simp [binOp, Op.intCmp, cmpI] <;> rfl
        · cases q
      · cases q
    · rename_i hc
      split at q
      · simp only [evFast, evAri, evalT_eq ra] at q
        split at q
        · rename_i k m k' n hx hy
          split at q
          · rename_i hk _
            simp only [decide_eq_true_eq] at hk
            subst hk
            rw [forceI_eq] at q
            cases q
            exact int_run ho hx hy rfl (fun w => by simp [binOp, Op.intArith]) A
          · rename_i h1; cases h1
          · cases q
        · cases q
      · simp only [evFast, evAri, evalT_eq ra] at q
        split at q
        · rename_i k m k' n hx hy
          split at q
          · rename_i h1; cases h1
          · rename_i hk _
            simp only [decide_eq_true_eq] at hk
            subst hk
            rw [forceI_eq] at q
            cases q
            exact int_run ho hx hy rfl (fun w => by simp [binOp, Op.intArith]) A
          · cases q
        · cases q
      · simp [evFast] at q
  · rename_i t x ho
    refine ⟨.inr (.inl ⟨by rw [ho]; trivial, ?_⟩), by rw [ho]; simp [kindOf]⟩
    unfold execOp
    rw [ho]
    split at q
    · simp [evFast] at q
    · simp [evFast] at q
    · simp [evFast] at q
    · rename_i h1 h2 h3
      simp only [evFast, evLd, evalT_eq ra] at q
      split at q
      · rename_i ad hx
        have q := r.cell q
        cases hu : P.underlying t with
        | none => exact absurd hu h3
        | some d =>
          have hag : (isAgg t).run P A = .ok false A := by
            unfold isAgg
            rw [Sem.run_bind, run_und t hu]
            simp only [Result.andThen]
            cases d <;> first | rfl | exact absurd hu (h1 _) | exact absurd hu (h2 _ _)
          simp only [Instr.loadAt, hx, Instr.sureAddr, loadVar, Sem.run_bind, Sem.run_pure, Result.andThen, hag]
          simp [Go.load, Sem.run, q]
      · cases q
  · rename_i s x k ho
    split at q
    · rename_i fs hu
      split at q
      · rename_i f hf
        split at q
        · rename_i i hi
          split at q
          · simp [evFast] at q
          · rename_i m hsz
            simp only [evFast, evFa, evalT_eq ra] at q
            split at q
            · rename_i b off hx
              rw [forceN_eq] at q
              cases q
              refine ⟨.inr (.inl ⟨?_, ?_⟩), by rw [ho]; simp [kindOf]⟩
              · rw [ho]
                intro fs' f' h1 h2
                rw [hu] at h1; cases h1
                rw [hf] at h2; cases h2
                rw [cellsOf_eq hi, hsz]; omega
              · unfold execOp
                rw [ho]
                simp only [Instr.fieldAt, Sem.run_bind, run_und s hu, Result.andThen, hf, hx, Instr.sureAddr, Sem.run_pure, fieldPlace, run_siz f.type hi, hsz]
                simp [Addr.add]
            · cases q
        · simp [evFast] at q
      · simp [evFast] at q
    · simp [evFast] at q
  · rename_i t x i ho
    split at q
    · rename_i e hu
      split at q
      · rename_i ie hi
        simp only [evFast, evIa, evalT_eq ra] at q
        split at q
        · rename_i b off l c k n hx hy
          split at q
          · rename_i hlt
            rw [Nat.blt_eq] at hlt
            rw [forceN_eq] at q
            cases q
            refine ⟨.inr (.inl ⟨by rw [ho]; trivial, ?_⟩), by rw [ho]; simp [kindOf]⟩
            unfold execOp
            rw [ho]
            simp only [Instr.indexAt, Sem.run_bind, hx, hy, asIntOf, Sem.run_pure, Result.andThen, run_und t hu]
            have : (0 : Int) ≤ Int.ofNat n ∧ Int.ofNat n < (l : Int) := ⟨Int.natCast_nonneg n, Int.ofNat_lt.2 hlt⟩
            rw [if_pos this]
            simp [run_siz e hi, Result.andThen, Addr.add]
          · cases q
        · cases q
      · simp [evFast] at q
    · simp [evFast] at q
  · rename_i c x y ho
    simp only [evFast, evPk, evMv_eq, evalT_eq ra] at q
    refine ⟨.inr (.inl ⟨by rw [ho]; trivial, ?_⟩), by rw [ho]; simp [kindOf]⟩
    unfold execOp
    rw [ho]
    split at q
    · rename_i hc; cases q; simp [hc, asBool]
    · rename_i hc; cases q; simp [hc, asBool]
    · cases q
  · rename_i x ho
    simp only [evFast, evNc, evalT_eq ra] at q
    refine ⟨.inr (.inl ⟨by rw [ho]; trivial, ?_⟩), by rw [ho]; simp [kindOf]⟩
    unfold execOp
    rw [ho]
    split at q
    · rename_i ad hx; cases q; simp [hx]
    · cases q
  · rename_i c ho
    split at q
    · rename_i hc
      split at q
      · rename_i t x ht hxs
        split at q
        · rename_i e hu
          simp only [evFast, evLen, evalT_eq ra] at q
          split at q
          · rename_i ad n cp hx
            cases q
            have ha : c.args = #[x] := by rw [← Array.toList_inj, hxs]
            refine ⟨.inr (.inl ⟨by rw [ho]; exact .inl hc, ?_⟩), by rw [ho]; simp [kindOf, hc]⟩
            unfold execOp
            rw [ho]
            simp only [resolve, hc, invoke, builtin, Sem.run_bind, Sem.run_pure, Result.andThen, ha]
            simp [Builtin.len_, ht, hx, Sem.run_bind, run_und t hu, Result.andThen]
          · cases q
        · simp [evFast] at q
      · simp [evFast] at q
    · simp [evFast] at q
  · simp [evFast] at q

def calm : Fast → Bool
  | .ld _ | .slow => false
  | _ => true
theorem calm_any {R : Rg} {F : Fast} (h : calm F = true) (g g' : Hp) : evFast R g F = evFast R g' F := by
  cases F <;> first | rfl | (simp [calm] at h)
variable (P)
noncomputable def sureAt (R : Rg) (v : Value) (o : Oper) (h : Hp) : Bool := match evFast R h (fast P o) with
  | some v' => beqV 4 v' v
  | none => match evValT P (evalT R) o h with
    | some v' => beqV 4 v' v
    | none => false
variable {P}
theorem sureAt_ok {R : Rg} {a : Act} {h : Hp} {A : World} {o : Oper} {v : Value} (ra : RepA R a) (r : Rep h A) (q : sureAt P R v o h = true) : AOp P a.eval o A (.value v) A := by
  unfold sureAt at q
  split at q
  · rename_i v' hv
    rw [beqV_eq q] at hv
    exact (evFast_ok ra r hv).1
  · split at q
    · rename_i v' hv
      rw [beqV_eq q, evalT_eq ra] at hv
      exact evValT_ok P r hv
    · cases q
variable (P) (E : EvT)
noncomputable def evOpF (o : Oper) (R : Rg) (h : Hp) : Option (Value × Hp) := match evFast R h (fast P o) with
  | some v => some (v, h)
  | none => match evOpT P E o R h with
    | some (v, h') => forceV 4 v fun v => some (v, h')
    | none => none
variable {P E} {L : Lvl}
theorem evOpF_ok (hE : EvTOk E L) {o : Oper} {R : Rg} {a : Act} {A : World} {h h' : Hp} {v : Value} (ra : RepA R a) (r : Rep h A) (q : evOpF P E o R h = some (v, h')) : ∃ A', RunOp P L o a A v A' ∧ Rep h' A' ∧ OpT P o a A v A' := by
  unfold evOpF at q
  split at q
  · rename_i u hu
    cases q
    obtain ⟨h1, h2⟩ := evFast_ok ra r hu
    exact ⟨A, ⟨_, _, h1, rfl, rfl⟩, r, .stay h2⟩
  · split at q
    · rename_i v1 h1 hq
      rw [forceV_eq] at q
      cases q
      exact evOpT_ok hE ra r hq
    · cases q
end
end Go.Abs
/-
  ABS 33: the second evaluator: regions, calls, loops; all that it says is so.
-/
namespace Go.Abs
section
variable (P : Program) (E : EvT)

noncomputable def evGo (o : Oper) (R : Rg) (h : Hp) (ih : Rg → Hp → Option (Rg × Hp)) : Option (Rg × Hp) := match evOpF P E o R h with
  | some (v, h1) => R.setK o.dst v fun R1 => ih R1 h1
  | none => none
noncomputable def evIf (ops : Array Oper) (o : Oper) (R : Rg) (h : Hp) (ih : Rg → Hp → Option (Rg × Hp)) : Option (Rg × Hp) := match Region.wanted o (yieldedT ops R) with
  | true => evGo P E o R h ih
  | false => R.setK o.dst undef fun R1 => ih R1 h
noncomputable def evStep (ops : Array Oper) (o : Oper) (R : Rg) (h : Hp) (ih : Rg → Hp → Option (Rg × Hp)) : Option (Rg × Hp) := match o.guard with
  | none => evGo P E o R h ih
  | some _ => evIf P E ops o R h ih
theorem evStep_eq (ops : Array Oper) (o : Oper) (R : Rg) (h : Hp) (ih : Rg → Hp → Option (Rg × Hp)) : evStep P E ops o R h ih = evIf P E ops o R h ih := by
  unfold evStep
  split
  · rename_i hg
    unfold evIf Region.wanted
    rw [hg]
  · rfl
noncomputable def evOpsT (ops : Array Oper) (os : List Oper) (R : Rg) (h : Hp) : Option (Rg × Hp) :=
  List.rec (motive := fun _ => Rg → Hp → Option (Rg × Hp)) (fun R h => some (R, h)) (fun o _ ih R h => evStep P E ops o R h ih) os R h
theorem evOpsT_nil (ops : Array Oper) (R : Rg) (h : Hp) : evOpsT P E ops [] R h = some (R, h) := rfl
theorem evOpsT_cons (ops : Array Oper) (o : Oper) (os : List Oper) (R : Rg) (h : Hp) : evOpsT P E ops (o :: os) R h =
    match Region.wanted o (yieldedT ops R) with
      | true => (match evOpF P E o R h with
        | some (v, h1) => R.setK o.dst v fun R1 => evOpsT P E ops os R1 h1
        | none => none)
      | false => R.setK o.dst undef fun R1 => evOpsT P E ops os R1 h := (evStep_eq P E ops o R h _).trans rfl

abbrev RowT := Rg × Hp × Value
noncomputable def evDraw1T (ops : Array Oper) (o : Oper) (R : Rg) (h : Hp) : Option (Value × Hp) :=
  match Region.wanted o (yieldedT ops R) with
  | true => evOpF P E o R h
  | false => some (undef, h)
noncomputable def evRowsT (ops : Array Oper) : List Oper → Rg → Hp → Option (List RowT)
  | [], R, h => some [(R, h, undef)]
  | o :: os, R, h =>
    match evDraw1T P E ops o R h with
    | some (v, h1) => R.setK o.dst v fun R1 => (match evRowsT ops os R1 h1 with
      | some rest => some ((R, h, v) :: rest)
      | none => none)
    | none => none
noncomputable def rowH (rows : List RowT) (i : Nat) (h : Hp) : Hp := match rows[i]? with | some r => r.2.1 | none => h
noncomputable def evSureT (ops : Array Oper) (rows : List RowT) (h0 : Hp) (i : Nat) (o : Oper) : Bool :=
  match rows[i]? with
  | some (R, h, v) =>
    (match Region.wanted o (yieldedT ops R) with
    | true => (match kindOf o.op with
      | .quiet => (match calm (fast P o) with
        | true => (match evFast R h (fast P o) with | some v' => beqV 4 v' v | none => false)
        | false => false) || (effs ops ++ [ops.size]).all fun p => !mayAt ops (masks ops) i p || sureAt P R v o (rowH rows p h0)
      | .makes => (match evMakeT P (evalT R) o h with
        | some (_, obj) => wr obj && newB v h.n && (effs ops ++ [ops.size]).all fun p => !decide (i < p) || !mayAt ops (masks ops) i p || (match (rowH rows p h0).t.get h.n with | some o' => beqO o' obj | none => false)
        | none => false)
      | .acts => true)
    | false => true)
  | none => false
noncomputable def evSuresT (ops : Array Oper) (rows : List RowT) (h0 : Hp) : Nat → List Oper → Bool
  | _, [] => true
  | i, o :: os => evSureT P ops rows h0 i o && evSuresT ops rows h0 (i + 1) os
noncomputable def evLastT : List RowT → Option (Rg × Hp)
  | [] => none
  | [(R, h, _)] => some (R, h)
  | _ :: r => evLastT r
noncomputable def evDrawT (ops : Array Oper) (R : Rg) (h : Hp) : Option (Rg × Hp) :=
  match rck ops with
  | true => (match evRowsT P E ops ops.toList R h with
    | some rows => (match evSuresT P ops rows h 0 ops.toList with
      | true => evLastT rows
      | false => none)
    | none => none)
  | false => none
variable {P E} {L : Lvl}

theorem evOpsT_ok (hE : EvTOk E L) {ops : Array Oper} : ∀ {os : List Oper} {k : Nat} {R R' : Rg} {h h' : Hp} {a : Act} {A : World}, (∀ i o, os[i]? = some o → ops[k + i]? = some o) → RepA R a → Rep h A → evOpsT P E ops os R h = some (R', h') →
    ∃ a' A', RunOps P L ops (List.range' k os.length) a A a' A' ∧ RepA R' a' ∧ a'.defers = a.defers ∧ Rep h' A'
  | [], k, R, R', h, h', a, A, _, ra, r, q => by
    simp only [evOpsT_nil, Option.some.injEq, Prod.mk.injEq] at q
    obtain ⟨rfl, rfl⟩ := q
    exact ⟨a, A, ⟨rfl, rfl⟩, ra, rfl, r⟩
  | o :: os, k, R, R', h, h', a, A, hos, ra, r, q => by
    have ho : ops[k]? = some o := hos 0 o rfl
    have hos' : ∀ i o, os[i]? = some o → ops[k + 1 + i]? = some o := fun i o' h' => by
      have := hos (i + 1) o' (by simpa using h')
      rwa [show k + (i + 1) = k + 1 + i from by omega] at this
    have hput : ∀ v, (a.put o.dst v).defers = a.defers := fun v => by cases o.dst <;> rfl
    simp only [evOpsT_cons] at q
    rw [yieldedT_eq ra] at q
    simp only [List.length_cons, List.range'_succ, RunOps]
    rw [ho]
    simp only
    split at q
    · rename_i hw
      split at q
      · rename_i v h1 hv
        rw [Rg.setK_eq] at q
        obtain ⟨A1, q1, q2, _⟩ := evOpF_ok hE ra r hv
        obtain ⟨a', A', q3, q4, q5, q6⟩ := evOpsT_ok hE hos' (ra.set o.dst v) q2 q
        exact ⟨a', A', by rw [if_pos hw]; exact ⟨v, A1, q1, q3⟩, q4, q5.trans (hput v), q6⟩
      · cases q
    · rename_i hw
      rw [Rg.setK_eq] at q
      obtain ⟨a', A', q3, q4, q5, q6⟩ := evOpsT_ok hE hos' (ra.set o.dst undef) r q
      exact ⟨a', A', by rw [if_neg (by rw [hw]; decide)]; exact q3, q4, q5.trans (hput undef), q6⟩

/-- What the second evaluator's rows stand for. -/
def RowsOk (P : Program) (L : Lvl) (ops : Array Oper) (os : List Oper) (rows : List RowT) (rs : List Row) : Prop :=
  rs.length = os.length + 1 ∧ rows.length = rs.length ∧
  (∀ (i : Nat) (R : Rg) (h : Hp) (v : Value) (a : Act) (A : World) (u : Value), rows[i]? = some (R, h, v) → rs[i]? = some (a, A, u) → RepA R a ∧ Rep h A ∧ u = v) ∧
  (∀ (i : Nat) (o : Oper), os[i]? = some o → ∃ (ai : Act) (Ai : World) (vi vj : Value) (A1 : World), rs[i]? = some (ai, Ai, vi) ∧ rs[i + 1]? = some (ai.put o.dst vi, A1, vj) ∧
    (if Region.wanted o (yielded ops ai.tmps) then RunOp P L o ai Ai vi A1 ∧ OpT P o ai Ai vi A1 else vi = undef ∧ A1 = Ai)) ∧
  (∃ (al : Act) (Al : World) (vl : Value) (Rl : Rg) (hl : Hp), rs[os.length]? = some (al, Al, vl) ∧ evLastT rows = some (Rl, hl) ∧ rows[os.length]? = some (Rl, hl, vl))
theorem evRowsT_ok (hE : EvTOk E L) {ops : Array Oper} : ∀ {os : List Oper} {R : Rg} {h : Hp} {a : Act} {A : World} {rows : List RowT}, RepA R a → Rep h A → evRowsT P E ops os R h = some rows →
    ∃ rs : List Row, RowsOk P L ops os rows rs ∧ (∃ v, rs[0]? = some (a, A, v)) ∧ (∃ v, rows[0]? = some (R, h, v)) ∧ (∀ (i : Nat) (a1 : Act) (A1 : World) (v : Value), rs[i]? = some (a1, A1, v) → a1.defers = a.defers)
  | [], R, h, a, A, rows, ra, r, q => by
    simp only [evRowsT, Option.some.injEq] at q
    subst q
    refine ⟨[(a, A, undef)], ⟨rfl, rfl, ?_, fun i o ho => by simp at ho, a, A, undef, R, h, rfl, rfl, rfl⟩, ⟨_, rfl⟩, ⟨_, rfl⟩, ?_⟩
    · intro i R' h' v' a' A' u h1 h2
      cases i with
      | zero => cases h1; cases h2; exact ⟨ra, r, rfl⟩
      | succ i => simp at h1
    · intro i a1 A1 v h1
      cases i with
      | zero => cases h1; rfl
      | succ i => simp at h1
  | o :: os, R, h, a, A, rows, ra, r, q => by
    simp only [evRowsT] at q
    split at q
    · rename_i v h1 hv
      rw [Rg.setK_eq] at q
      split at q
      · rename_i rest hrest
        cases q
        obtain ⟨A1, hstep, r1⟩ : ∃ A1, (if Region.wanted o (yielded ops a.tmps) then RunOp P L o a A v A1 ∧ OpT P o a A v A1 else v = undef ∧ A1 = A) ∧ Rep h1 A1 := by
          unfold evDraw1T at hv
          rw [yieldedT_eq ra] at hv
          split at hv
          · rename_i hw
            obtain ⟨A1, q1, q2, q3⟩ := evOpF_ok hE ra r hv
            exact ⟨A1, by rw [if_pos hw]; exact ⟨q1, q3⟩, q2⟩
          · rename_i hw
            cases hv
            exact ⟨A, by rw [if_neg (by rw [hw]; decide)]; exact ⟨rfl, rfl⟩, r⟩
        obtain ⟨rs, ⟨g1, g2, g3, g4, al, Al, vl, Rl, hl, g5, g6, g7⟩, ⟨v0, g8⟩, ⟨v1, g9⟩, g10⟩ := evRowsT_ok hE (ra.set o.dst v) r1 hrest
        refine ⟨(a, A, v) :: rs, ⟨by simp [g1], by simp [g2], ?_, ?_, al, Al, vl, Rl, hl, by simpa using g5, ?_, by simpa using g7⟩, ⟨_, rfl⟩, ⟨_, rfl⟩, ?_⟩
        · intro i R' h' v' a' A' u q1 q2
          cases i with
          | zero => cases q1; cases q2; exact ⟨ra, r, rfl⟩
          | succ i => exact g3 i R' h' v' a' A' u (by simpa using q1) (by simpa using q2)
        · intro i o' ho
          cases i with
          | zero => cases ho; exact ⟨a, A, v, v0, A1, rfl, by simpa using g8, hstep⟩
          | succ i => simpa using g4 i o' (by simpa using ho)
        · cases rest with
          | nil => simp at g2; omega
          | cons x rest => exact g6
        · intro i a1 A1' v' q1
          cases i with
          | zero => cases q1; rfl
          | succ i =>
            have := g10 i a1 A1' v' (by simpa using q1)
            rw [this]; cases o.dst <;> rfl
      · cases q
    · cases q
theorem evSuresT_spec {ops : Array Oper} {rows : List RowT} {h0 : Hp} : ∀ {os : List Oper} {k : Nat}, evSuresT P ops rows h0 k os = true → ∀ i o, os[i]? = some o → evSureT P ops rows h0 (k + i) o = true
  | [], _, _, i, o, ho => by simp at ho
  | p :: os, k, h, i, o, ho => by
    simp only [evSuresT, Bool.and_eq_true] at h
    cases i with
    | zero => cases ho; exact h.1
    | succ i =>
      have := evSuresT_spec h.2 i o (by simpa using ho)
      rwa [show k + 1 + i = k + (i + 1) from by omega] at this
theorem evDrawT_ok (hE : EvTOk E L) {ops : Array Oper} {R R' : Rg} {h h' : Hp} {a : Act} {A : World} (ra : RepA R a) (r : Rep h A) (q : evDrawT P E ops R h = some (R', h')) :
    ∃ a' A', RunDraw P L ops a A a' A' ∧ RepA R' a' ∧ a'.defers = a.defers ∧ Rep h' A' := by
  unfold evDrawT at q
  split at q <;> try cases q
  rename_i hr
  split at q <;> try cases q
  rename_i rows hrows
  split at q <;> try cases q
  rename_i hs
  obtain ⟨rs, ⟨g1, g2, g3, g4, al, Al, vl, Rl, hl, g5, g6, g7⟩, ⟨v0, g8⟩, ⟨v1, g9⟩, g10⟩ := evRowsT_ok hE ra r hrows
  rw [g6] at q
  cases q
  have hsz : ops.toList.length = ops.size := by simp
  rw [hsz] at g5 g7
  obtain ⟨k1, k2, _⟩ := g3 _ _ _ _ _ _ _ g7 g5
  refine ⟨al, Al, ⟨hr, traceOf rs a A, by simp [traceOf, g8], by simp [traceOf, rowW, g8], by simp [traceOf, g5], by simp [traceOf, rowW, g5], fun i o ho => ?_⟩, k1, g10 _ _ _ _ g5, k2⟩
  have ho' : ops.toList[i]? = some o := by simpa using ho
  obtain ⟨ai, Ai, vi, vj, A1, m1, m2, m3⟩ := g4 i o ho'
  have hsure := evSuresT_spec hs i o ho'
  rw [Nat.zero_add] at hsure
  have e1 : (traceOf rs a A).as i = ai := by simp [traceOf, m1]
  have e2 : (traceOf rs a A).ws i = Ai := by simp [traceOf, rowW, m1]
  have e3 : (traceOf rs a A).vs i = vi := by simp [traceOf, m1]
  have e4 : (traceOf rs a A).as (i + 1) = ai.put o.dst vi := by simp [traceOf, m2]
  have e5 : (traceOf rs a A).ws (i + 1) = A1 := by simp [traceOf, rowW, m2]
  refine ⟨by rw [e4, e1, e3], ?_⟩
  rw [e1, e2, e3, e5]
  unfold evSureT at hsure
  split at hsure
  · rename_i Ri hi vi' hrow
    obtain ⟨rai, ri, hvv⟩ := g3 _ _ _ _ _ _ _ hrow m1
    subst hvv
    rw [yieldedT_eq rai] at hsure
    have hws : ∀ p, p ∈ effs ops ++ [ops.size] → Rep (rowH rows p h) ((traceOf rs a A).ws p) := by
      intro p hp
      have hple : p ≤ ops.size := by
        rw [List.mem_append, List.mem_singleton] at hp
        rcases hp with hp | hp
        · exact Nat.le_of_lt (effs_lt hp)
        · omega
      have hlt1 : p < rows.length := by rw [g2, g1, hsz]; omega
      have hlt2 : p < rs.length := by rw [g1, hsz]; omega
      have x1 : rows[p]? = some rows[p] := List.getElem?_eq_getElem hlt1
      have x2 : rs[p]? = some rs[p] := List.getElem?_eq_getElem hlt2
      generalize rows[p] = rp at x1
      generalize rs[p] = sp at x2
      obtain ⟨Rp, hp', vp⟩ := rp
      obtain ⟨ap, Ap, up⟩ := sp
      obtain ⟨_, z, _⟩ := g3 _ _ _ _ _ _ _ x1 x2
      have y1 : rowH rows p h = hp' := by unfold rowH; rw [x1]
      have y2 : (traceOf rs a A).ws p = Ap := by simp [traceOf, rowW, x2]
      rw [y1, y2]
      exact z
    split
    · rename_i hw
      rw [if_pos hw] at m3
      rw [hw] at hsure
      simp only at hsure
      split
      · rename_i hk
        rw [hk] at hsure
        have hall : ∀ p, p ∈ effs ops ++ [ops.size] → mayAt ops (masks ops) i p = true → AOp P ai.eval o ((traceOf rs a A).ws p) (.value vi) ((traceOf rs a A).ws p) := by
          intro p hp hm
          simp only [Bool.or_eq_true] at hsure
          rcases hsure with hc | hc
          · split at hc
            · rename_i hcalm
              split at hc
              · rename_i v' hv
                rw [beqV_eq hc] at hv
                rw [calm_any hcalm _ (rowH rows p h)] at hv
                exact (evFast_ok rai (hws p hp) hv).1
              · cases hc
            · cases hc
          · rw [List.all_eq_true] at hc
            have := hc p hp
            rw [hm] at this
            simp only [Bool.not_true, Bool.false_or] at this
            exact sureAt_ok rai (hws p hp) this
        exact ⟨m3.2.1 hk, hall⟩
      · rename_i hk
        rw [hk] at hsure
        simp only at hsure
        rw [evalT_eq rai, evMakeT_eq P ri] at hsure
        split at hsure
        · rename_i v' obj hm
          simp only [Bool.and_eq_true, List.all_eq_true] at hsure
          obtain ⟨⟨q1, q2⟩, q3⟩ := hsure
          have hmk := evMake_ok hk hm
          obtain ⟨obj', hm', hv2⟩ := m3.2.2 hk
          rw [hm] at hm'
          cases hm'
          subst hv2
          refine ⟨obj, rfl, q1, newB_ok (by rw [← ri.size]; exact q2), hmk, fun p hp hlt hma => ?_⟩
          have := q3 p hp
          simp only [hlt, decide_true, Bool.not_true, Bool.false_or, hma] at this
          split at this
          · rename_i o' ho2
            rw [beqO_eq this] at ho2
            rw [ri.size] at ho2
            exact (hws p hp).get _ _ ho2
          · cases this
        · cases hsure
      · exact m3.1
    · rename_i hw
      rw [if_neg hw] at m3
      exact ⟨m3.2, m3.1⟩
  · cases hsure
end
end Go.Abs
