/-
  ABS 23: the evaluator: one operation.
-/
import Derived.Test.YtipomlcnmaldkaaA22
namespace Go.Abs

structure Ev where
  calls : FuncId → Array Value → World → Option (Value × World)
  rounds : Nat → Array Value → Code → Code → World → Option (Value × World)
  codes : Option Nat → Code → Act → World → Option (Exit × Act × World)
  loops : Option Nat → Code → Act → World → Option (Exit × Act × World)

structure EvOk (E : Ev) (L : Lvl) : Prop where
  calls : ∀ f xs A v A', E.calls f xs A = some (v, A') → L.calls f xs A v A'
  rounds : ∀ l ts as bd A v A', E.rounds l ts as bd A = some (v, A') → L.rounds l ts as bd A v A'
  codes : ∀ ro c a A e a' A', E.codes ro c a A = some (e, a', A') → L.codes ro c a A e a' A'
  loops : ∀ ro c a A e a' A', E.loops ro c a A = some (e, a', A') → L.loops ro c a A e a' A'

section
variable (P : Program)

def keyB (t : TypeId) (k : Value) : Bool := match P.underlying t with
  | some (.map kt _) => (match P.underlying kt with | some d => easyKey d k | none => false)
  | _ => true
theorem keyB_ok {P : Program} {t : TypeId} {k : Value} (h : keyB P t k = true) : KeyOk P t k := by
  intro kt et hu
  unfold keyB at h
  rw [hu] at h
  simp only at h
  split at h
  · rename_i d hd; exact ⟨d, hd, h⟩
  · cases h
def regB (A : World) (ρ : Operand → Value) : Op → Bool
  | .move _ | .assign _ | .pick .. | .alloc _ | .box .. | .build .. | .buildSlice .. | .load .. | .store .. | .extract .. | .field .. | .index .. | .indexAddr .. | .makeSlice .. | .makeMap .. | .nilCheck _ => true
  | .makeFunc (.func _) _ _ => true
  | .fieldAddr s _ k => match P.underlying s with
    | some (.struct fs) => (match fs[k]? with | some f => !decide (P.cellsOf f.type = 0) | none => true)
    | _ => true
  | .slice t x _ _ _ => (match ρ x with | .slice _ l c => decide (l ≤ c) | _ => true) && match P.underlying t with
    | some (.pointer _) => false
    | some (.slice elem) => (match ρ x with
      | .slice (some a) _ _ => (match A.heap[a.block]? with | some (.cells _ t' fz) => !decide (fz = (2, 0)) && (!decide (fz = (1, 0)) || decide (P.cellsOf elem = P.cellsOf t')) | _ => false)
      | _ => true)
    | _ => true
  | .binOp .eql _ x y _ | .binOp .neq _ x y _ => nilPair (ρ x) (ρ y)
  | .lookup t _ k _ => keyB P t (ρ k)
  | .mapUpdate t _ k _ => keyB P t (ρ k)
  | .call c => match c.callee with
    | .builtin .len | .builtin .copy | .builtin .clear => true
    | .builtin .delete => (match c.argTypes[0]?, (c.args.map ρ)[1]? with | some mt, some k => keyB P mt k | _, _ => true)
    | _ => false
  | _ => false
variable {P}
theorem regB_ok {A : World} {ρ : Operand → Value} {op : Op} (h : regB P A ρ op = true) : RegOk P A ρ op := by
  unfold regB at h
  split at h <;> simp only [RegOk] <;> first | trivial | exact h | cases h | skip
  · exact ⟨_, rfl⟩
  · rename_i s x k
    intro fs f hs hf h0
    rw [hs] at h; simp only at h; rw [hf] at h; simp [h0] at h
  · rename_i t x lo hi mx
    simp only [Bool.and_eq_true] at h
    refine ⟨?_, ?_, ?_⟩
    · intro a l c hx
      have := h.1
      rw [hx] at this
      simpa using this
    · intro e he
      have := h.2
      rw [he] at this
      cases this
    · intro elem he a l c hx
      have := h.2
      rw [he] at this
      simp only at this
      rw [hx] at this
      simp only at this
      split at this
      · rename_i cs t' fz hb
        simp only [Bool.and_eq_true, Bool.or_eq_true, Bool.not_eq_true', decide_eq_false_iff_not, decide_eq_true_eq] at this
        exact ⟨cs, t', fz, hb, this.1, fun hf => this.2.resolve_left fun hn => hn hf⟩
      · cases this
  · exact keyB_ok h
  · exact keyB_ok h
  · rename_i c
    split at h
    · rename_i hc; exact .inl hc
    · rename_i hc; exact .inr (.inl hc)
    · rename_i hc; exact .inr (.inr (.inl hc))
    · rename_i hc
      refine .inr (.inr (.inr ⟨hc, fun mt k h1 h2 => ?_⟩))
      rw [h1, h2] at h
      exact keyB_ok h
    · cases h

variable (P)
def evVal (ρ : Operand → Value) (o : Oper) (A : World) : Option Value :=
  match regB P A ρ o.op with
  | true => (match peek P A (execOp ρ o) with | some (.value v) => some v | _ => none)
  | false => match stillOp o.op && o.op.operands.toList.all fun x => plain (ρ x) with
    | true => (match still P (execOp ρ o) with
      | some (.value v) => (match plain v with | true => some v | false => none)
      | _ => none)
    | false => none
variable {P}
theorem evVal_ok {ρ : Operand → Value} {o : Oper} {A : World} {v : Value} (h : evVal P ρ o A = some v) : AOp P ρ o A (.value v) A := by
  unfold evVal at h
  split at h
  · rename_i hr
    split at h
    · rename_i u hp
      cases h
      exact .inr (.inl ⟨regB_ok hr, peek_run hp⟩)
    · cases h
  · split at h
    · rename_i hs
      simp only [Bool.and_eq_true, List.all_eq_true] at hs
      split at h
      · rename_i u hp
        split at h
        · rename_i hpl
          cases h
          exact .inl ⟨_, rfl, rfl, hpl, fun x hx => hs.2 x (by simpa using hx), hs.1, fun w => still_run hp w⟩
        · cases h
      · cases h
    · cases h

variable (P)
def newB (v : Value) (id : Nat) : Bool :=
  match v with
  | .pointer (some a) => decide (a = ⟨id, 0, none⟩)
  | .slice (some a) _ _ => decide (a = ⟨id, 0, none⟩)
  | .map (some b) => decide (b = id)
  | _ => false
theorem newB_ok {v : Value} {id : Nat} (h : newB v id = true) : newVal v id := by
  unfold newB at h
  split at h
  · simp only [decide_eq_true_eq] at h; subst h; exact .inl rfl
  · simp only [decide_eq_true_eq] at h; subst h; exact .inr (.inl ⟨_, _, rfl⟩)
  · simp only [decide_eq_true_eq] at h; subst h; exact .inr (.inr rfl)
  · cases h
def evMake (ρ : Operand → Value) (o : Oper) (A : World) : Option (Value × Obj) :=
  match fresh P A.heap.size (execOp ρ o) with
  | some (.value v, obj) => some (v, obj)
  | _ => none
variable {P}
theorem evMake_ok {ρ : Operand → Value} {o : Oper} {A : World} {v : Value} {obj : Obj} (hk : kindOf o.op = .makes) (h : evMake P ρ o A = some (v, obj)) :
    ∀ w, w.heap.size = A.heap.size → RegOk P w ρ o.op ∧ (execOp ρ o).run P w = .ok (.value v) (w.alloc obj) := by
  unfold evMake at h
  split at h
  · rename_i u ob hf
    cases h
    intro w hw
    refine ⟨?_, fresh_run hf w hw⟩
    revert hk
    cases o.op <;> intro hk <;> first | trivial | (simp [kindOf] at hk)
    split at hk <;> cases hk
  · cases h

variable (P)
def evAppend (ts : Array TypeId) (xs : List Value) (A : World) : Option (Value × World) :=
  match ts[0]?, ts[1]?, xs with
  | some sT, some xT, [.slice base sLen sCap, x] =>
    match (match P.underlying xT with | some (.slice _) | some .string | some (.int _) => true | _ => false), P.underlying sT with
    | true, some (.slice elem) =>
      match P.info? elem with
      | some ie =>
        match ie.zero with
        | some z =>
          match appN (zerosOf P ts) ie.bytes x with
          | some n =>
            match peek P A (appSrc (zerosOf P ts) elem ie.size n x) with
            | some new =>
              match decide (sLen + n ≤ sCap) with
              | true => (match (match base with | some a => storeCells (a.add (sLen * ie.size)) new.toList | none => pure ()).run P A with
                | .ok () A' => some (.slice base (sLen + n) sCap, A')
                | _ => none)
              | false =>
                match peek P A (Builtin.firstCells ie.size sLen (.slice base sLen sCap)) with
                | some old =>
                  match decide (sLen ≤ sCap) && decide (sLen + n ≤ 2 ^ 24) && decide (ie.bytes ≤ 2 ^ 16) && decide (z.cells.size = ie.size) && decide (old.size = sLen * ie.size) && decide (new.size = n * ie.size) && new.toList.all isOne with
                  | true =>
                    (match base with
                    | none => some (.slice (some ⟨A.heap.size, 0, none⟩) (sLen + n) (sLen + n), A.alloc (.cells (old ++ new) elem (1, 0)))
                    | some a =>
                      match A.heap[a.block]? with
                      | some (.cells _ t fz) =>
                        match decide (fz = (2, 0)), decide (fz = (1, 0)) with
                        | false, false => some (.slice (some ⟨A.heap.size, 0, none⟩) (sLen + n) (sLen + n), A.alloc (.cells (old ++ new) elem (1, 0)))
                        | false, true => (match decide (t = elem) && decide (0 < sLen) with
                          | true => some (.slice (some ⟨A.heap.size, 0, none⟩) (sLen + n) (sLen + n), (kill A a.block elem).alloc (.cells (old ++ new) elem (1, 0)))
                          | false => none)
                        | true, _ => none
                      | _ => none)
                  | false => none
                | none => none
            | none => none
          | none => none
        | none => none
      | none => none
    | _, _ => none
  | _, _, _ => none
variable {P}
theorem evAppend_ok {ts : Array TypeId} {xs : Array Value} {A A' : World} {v : Value} (h : evAppend P ts xs.toList A = some (v, A')) : AApp P ts xs A v A' := by
  unfold evAppend at h
  split at h <;> try cases h
  rename_i sT xT base sLen sCap x h0 h1 hxs
  have hx : xs = #[.slice base sLen sCap, x] := by rw [← Array.toList_inj, hxs]
  split at h <;> try cases h
  rename_i elem hu1 hu
  split at h <;> try cases h
  rename_i ie hi
  split at h <;> try cases h
  rename_i z hz
  split at h <;> try cases h
  rename_i n hn
  split at h <;> try cases h
  rename_i new hnew
  have H : AppAt P ts elem ie z := ⟨hz, ⟨sT, h0, hu⟩, hi, fun t ht => by
    rw [h1] at ht; cases ht
    split at hu1
    · rename_i e he; exact .inl ⟨e, he⟩
    · rename_i he; exact .inr (.inl he)
    · rename_i k he; exact .inr (.inr ⟨k, he⟩)
    · cases hu1⟩
  split at h
  · rename_i hle
    simp only [decide_eq_true_eq] at hle
    split at h <;> try cases h
    rename_i hst
    exact ⟨elem, ie, z, base, sLen, sCap, x, n, H, hx, hn, .inl ⟨hle, new, peek_run hnew, hst, rfl⟩⟩
  · rename_i hgt
    simp only [decide_eq_false_iff_not] at hgt
    split at h <;> try cases h
    rename_i old hold
    split at h <;> try cases h
    rename_i hcs
    simp only [Bool.and_eq_true, decide_eq_true_eq] at hcs
    obtain ⟨⟨⟨⟨⟨⟨c1, c2⟩, c3⟩, c4⟩, c5⟩, c6⟩, c7⟩ := hcs
    refine ⟨elem, ie, z, base, sLen, sCap, x, n, H, hx, hn, .inr ⟨by omega, c1, c2, c3, c4, old, new, peek_run hold, peek_run hnew, ?_⟩⟩
    split at h
    · cases h
      exact ⟨rfl, c5, c6, c7, .inl ⟨rfl, fun a ha => by cases ha⟩⟩
    · rename_i a
      split at h <;> try cases h
      rename_i cs t fz hb
      split at h
      · rename_i q1 q2
        simp only [decide_eq_false_iff_not] at q1 q2
        cases h
        refine ⟨rfl, c5, c6, c7, .inl ⟨rfl, fun a' ha => ?_⟩⟩
        cases ha
        exact ⟨cs, t, fz, hb, q1, q2⟩
      · rename_i q1 q2
        simp only [decide_eq_true_eq] at q2
        split at h <;> try cases h
        rename_i q3
        simp only [Bool.and_eq_true, decide_eq_true_eq] at q3
        subst q2
        obtain ⟨rfl, q4⟩ := q3
        exact ⟨rfl, c5, c6, c7, .inr ⟨a, cs, rfl, hb, q4, rfl⟩⟩
      · cases h
end
end Go.Abs
