/-
  ABS 3: the model's operations at two related worlds, one by one.
-/
import Derived.Test.YtipomlcnmaldkaaA2
namespace Go.Abs

/-- What is asked of the program, once. -/
structure Good (P : Program) : Prop where
  zero : ∀ t i z, P.info? t = some i → i.zero = some z → ∀ ι, VRel P ι z z
  mixed : P.follows .mixedOrders = true
  code : ∀ (f : Nat) (fn : Func) (c : Code), P.funcs[f]? = some fn → fn.body = some c → codeOk c = true

def Vl (P : Program) (ι : Ren) : List Value → List Value → Prop
  | [], [] => True
  | x :: xs, y :: ys => VRel P ι x y ∧ Vl P ι xs ys
  | _, _ => False

section
variable {P : Program} {n₀ : Nat} {ι ι' : Ren}

theorem Vl.mono (h : ι.le ι') : ∀ {l l' : List Value}, Vl P ι l l' → Vl P ι' l l'
  | [], [], _ => trivial
  | _ :: _, _ :: _, ⟨a, b⟩ => ⟨a.mono h, Vl.mono h b⟩
theorem Vl.of_at : ∀ {l l' : List Value}, l.length = l'.length → (∀ (i : Nat) (x x' : Value), l[i]? = some x → l'[i]? = some x' → VRel P ι x x') → Vl P ι l l'
  | [], [], _, _ => trivial
  | [], _ :: _, h, _ => by simp at h
  | _ :: _, [], h, _ => by simp at h
  | x :: xs, y :: ys, h, hh => ⟨hh 0 x y rfl rfl, Vl.of_at (by simpa using h) fun i a b ha hb => hh (i + 1) a b (by simpa using ha) (by simpa using hb)⟩
theorem Vs.toList {xs xs' : Array Value} (r : Vs P ι xs xs') : Vl P ι xs.toList xs'.toList :=
  Vl.of_at (by simpa using r.1) fun i x x' h h' => r.2 i x x' (by simpa using h) (by simpa using h')
theorem Vs.map {α : Type} (xs : Array α) (f g : α → Value) (h : ∀ x ∈ xs, VRel P ι (f x) (g x)) : Vs P ι (xs.map f) (xs.map g) := by
  refine ⟨by simp, fun i x x' hx hx' => ?_⟩
  simp only [Array.getElem?_map] at hx hx'
  cases hi : xs[i]? with
  | none => rw [hi] at hx; cases hx
  | some y => rw [hi] at hx hx'; cases hx; cases hx'; exact h y (Array.mem_of_getElem? hi)

theorem ARel.add {a a' : Addr} (h : ARel ι a a') (n : Nat) : ARel ι (a.add n) (a'.add n) := by
  obtain ⟨h1, h2, e, h3, h4, h5⟩ := h
  unfold Addr.add
  split
  · exact ⟨h1, h2, e, h3, h4, h5⟩
  · exact ⟨rfl, rfl, e, h3, h4, by simp only [h5]; omega⟩

theorem RS.never {α β : Type} {R : Ren → α → β → Prop} {s : Sem α} {s' : Sem β} (h : ∀ A r A', s.run P A ≠ .ok r A') : RS P n₀ ι R s s' :=
  fun _ _ _ _ _ hr _ => absurd hr (h _ _ _)
theorem never_bind {α β : Type} {s : Sem α} {k : α → Sem β} (h : ∀ r A, ∀ r' A', (k r).run P A ≠ .ok r' A') : ∀ A r A', (s >>= k).run P A ≠ .ok r A' := by
  intro A r A' hr
  rw [Sem.run_bind] at hr
  cases h1 : s.run P A with
  | halt q w => rw [h1] at hr; cases hr
  | ok x w => rw [h1] at hr; exact h _ _ _ _ hr
theorem runtimePanic_never {α : Type} (e : RuntimeError) : ∀ A (r : α) A', (runtimePanic e : Sem α).run P A ≠ .ok r A' := by
  unfold runtimePanic
  refine never_bind fun p A => ?_
  have hg : ∀ (v : Value) A (r : α) A', (goPanic v : Sem α).run P A ≠ .ok r A' := fun v A r A' h => by cases h
  cases e with
  | typeAssertion i c a m => exact never_bind (fun t A => never_bind (fun r A => hg _ A) _) _
  | panicNil => exact never_bind (fun t A => never_bind (fun r A => hg _ A) _) _
  | _ => exact hg _ A
theorem boundsPanic_never {α : Type} (k : IntKind) (x y : Int) (c : BoundsCode) : ∀ A (r : α) A', (boundsPanic k x y c : Sem α).run P A ≠ .ok r A' := by
  unfold boundsPanic
  simp only
  split
  · exact never_bind fun p A => runtimePanic_never _ A
  · exact never_bind fun p A => runtimePanic_never _ A

theorem RS.zeroValue (G : Good P) (t : TypeId) : RS P n₀ ι (fun _ r r' => r' = r ∧ ∀ ι', VRel P ι' r r) (zeroValue t) (zeroValue t) := by
  refine (RS.typeInfo t).bind fun ι' _ r r' ⟨h, h'⟩ => ?_
  subst h
  cases hz : r'.zero with
  | none => exact RS.unsupported _
  | some z => exact .pure ⟨rfl, G.zero _ _ _ h' hz⟩

theorem RS.loadCellsFrom {a a' : Addr} (n : Nat) : ∀ {ι : Ren} (_ : ARel ι a a') (i : Nat) {acc acc' : Array Value}, Vs P ι acc acc' → RS P n₀ ι (Vs P) (Go.loadCellsFrom a i n acc) (Go.loadCellsFrom a' i n acc') := by
  induction n with
  | zero => intro ι _ i acc acc' h; exact .pure h
  | succ n ih =>
    intro ι ha i acc acc' h
    exact (RS.load (ha.add i)).bind fun ι' hle v v' hv => ih (ha.mono hle) (i + 1) ((h.mono hle).push hv)
theorem RS.loadCells {a a' : Addr} (h : ARel ι a a') (n : Nat) : RS P n₀ ι (Vs P) (Go.loadCells a n) (Go.loadCells a' n) := RS.loadCellsFrom n h 0 .empty
theorem RS.loadCells0 {a a' : Addr} : RS P n₀ ι (Vs P) (Go.loadCells a 0) (Go.loadCells a' 0) := .pure .empty
theorem RS.storeCells {a a' : Addr} : ∀ {l l' : List Value} {ι : Ren} (_ : ARel ι a a') (i : Nat), Vl P ι l l' → RS P n₀ ι (fun _ _ _ => True) (Go.storeCells a l i) (Go.storeCells a' l' i)
  | [], [], _, _, _, _ => .pure trivial
  | [], _ :: _, _, _, _, h => h.elim
  | _ :: _, [], _, _, _, h => h.elim
  | _ :: _, _ :: _, _, ha, i, ⟨h, h'⟩ => (RS.store (ha.add i) h).bind fun _ hle _ _ _ => RS.storeCells (ha.mono hle) (i + 1) (h'.mono hle)
theorem RS.loadVar {a a' : Addr} (t : TypeId) (h : ARel ι a a') : RS P n₀ ι (VRel P) (Go.loadVar t a) (Go.loadVar t a') := by
  refine (RS.isAgg t).bind fun ι' hle b b' hb => ?_
  subst hb
  cases b' with
  | true =>
    refine (RS.sizeOf t).bind fun ι'' hle' n n' ⟨hn, _⟩ => ?_
    subst hn
    exact (RS.loadCells ((h.mono hle).mono hle') n').bind fun _ _ _ _ hv => .pure (.ofVs hv)
  | false => exact RS.load (h.mono hle)
theorem RS.storeVar {a a' : Addr} (t : TypeId) (h : ARel ι a a') {v v' : Value} (hv : VRel P ι v v') : RS P n₀ ι (fun _ _ _ => True) (Go.storeVar t a v) (Go.storeVar t a' v') := by
  refine (RS.sizeOf t).bind fun ι' hle n n' ⟨hn, _⟩ => ?_
  subst hn
  have hc := hv.cells
  rw [← hc.1]
  split
  · exact RS.stuck _
  · exact RS.storeCells (h.mono hle) 0 (hc.mono hle).toList
theorem RS.newRow (t : TypeId) {c c' : Array Value} (h : Vs P ι c c') : RS P n₀ ι ARel (Go.newRow t c) (Go.newRow t c') :=
  (RS.newCells t h).bind fun _ _ r r' ⟨e, h1, h2, h3, _⟩ => .pure ⟨rfl, rfl, e, h1, h2.symm, by simp [h3]⟩
theorem RS.newVar (t : TypeId) {v v' : Value} (h : VRel P ι v v') : RS P n₀ ι ARel (Go.newVar t v) (Go.newVar t v') := RS.newRow t h.cells
theorem RS.part (t : TypeId) {cs cs' : Array Value} (h : Vs P ι cs cs') (off : Nat) : RS P n₀ ι (VRel P) (Go.part t cs off) (Go.part t cs' off) := by
  refine (RS.isAgg t).bind fun ι' hle b b' hb => ?_
  subst hb
  cases b' with
  | true =>
    refine (RS.sizeOf t).bind fun ι'' hle' n n' ⟨hn, _⟩ => ?_
    subst hn
    exact .pure (.ofVs (((h.mono hle).mono hle').extract _ _))
  | false =>
    show RS P n₀ ι' (VRel P) (match cs[off]? with | some v => Pure.pure v | none => Go.stuck _) (match cs'[off]? with | some v => Pure.pure v | none => Go.stuck _)
    cases hx : cs[off]? with
    | none => exact RS.stuck _
    | some x =>
      obtain ⟨x', h1, h2⟩ := h.at hx
      rw [h1]
      exact .pure (h2.mono hle)
theorem RS.asIntOf {v v' : Value} (h : VRel P ι v v') : RS P n₀ ι (fun _ r r' => r' = r ∧ v = .int r.1 r.2 ∧ v' = v) (asIntOf v) (asIntOf v') := by
  cases h with
  | int k n => exact .pure ⟨rfl, rfl, rfl⟩
  | ptr h => exact RS.unsupported _
  | _ => exact RS.stuck _
theorem RS.asInt {v v' : Value} (h : VRel P ι v v') : RS P n₀ ι (fun _ r r' => r' = r) (asInt v) (asInt v') :=
  (RS.asIntOf h).bind fun _ _ r r' ⟨h, _⟩ => .pure (by rw [h])
theorem RS.asBool {v v' : Value} (h : VRel P ι v v') : RS P n₀ ι (fun _ r r' => r' = r) (asBool v) (asBool v') := by
  cases h with
  | bool b => exact .pure rfl
  | _ => exact RS.stuck _
theorem RS.asAgg {v v' : Value} (h : VRel P ι v v') : RS P n₀ ι (Vs P) (asAgg v) (asAgg v') := by
  cases h with
  | agg h1 h2 => exact .pure ⟨h1, h2⟩
  | _ => exact RS.stuck _
theorem RS.sureAddr {v v' : Value} (h : VRel P ι v v') : RS P n₀ ι ARel (Instr.sureAddr v) (Instr.sureAddr v') := by
  cases h with
  | ptr h => exact .pure h
  | _ => exact RS.stuck _

/-- What 'fill' puts together. -/
theorem fill_rel {place : Nat → Option (Nat × Nat)} : ∀ {ps ps' : List (Nat × Value)} {c c' r : Array Value}, (ps.length = ps'.length ∧ ∀ (i : Nat) (x x' : Nat × Value), ps[i]? = some x → ps'[i]? = some x' → x.1 = x'.1 ∧ VRel P ι x.2 x'.2) →
    Vs P ι c c' → Instr.fill place c ps = some r → ∃ r', Instr.fill place c' ps' = some r' ∧ Vs P ι r r' := by
  intro ps
  induction ps with
  | nil =>
    intro ps' c c' r hp hc h
    cases ps' with
    | nil => simp only [Instr.fill, Option.some.injEq] at h ⊢; subst h; exact ⟨c', rfl, hc⟩
    | cons y ys => simp at hp
  | cons x xs ih =>
    intro ps' c c' r hp hc h
    cases ps' with
    | nil => simp at hp
    | cons y ys =>
      obtain ⟨hl, hh⟩ := hp
      obtain ⟨e1, e2⟩ := hh 0 x y rfl rfl
      obtain ⟨i, v⟩ := x
      obtain ⟨i', v'⟩ := y
      simp only at e1 e2
      subst e1
      have hv := e2.cells
      simp only [Instr.fill] at h ⊢
      cases hpl : place i with
      | none => rw [hpl] at h; cases h
      | some q =>
        obtain ⟨off, size⟩ := q
        rw [hpl] at h
        simp only at h ⊢
        rw [← hv.1, ← hc.1]
        split at h
        · cases h
        · rename_i hcond
          rw [if_neg hcond]
          refine ih (ps' := ys) ⟨by simpa using hl, fun j a b ha hb => hh (j + 1) a b (by simpa using ha) (by simpa using hb)⟩ ?_ h
          have key : ∀ (n : Nat) (l l' : List Value) (d d' : Array Value), Vl P ι l l' → Vs P ι d d' → Vs P ι ((l.zipIdx n).foldl (fun cs p => cs.setIfInBounds (off + p.2) p.1) d) ((l'.zipIdx n).foldl (fun cs p => cs.setIfInBounds (off + p.2) p.1) d') := by
            intro n l
            induction l generalizing n with
            | nil => intro l' d d' hl' hd; cases l' with | nil => exact hd | cons => exact hl'.elim
            | cons a l ih' =>
              intro l' d d' hl' hd
              cases l' with
              | nil => exact hl'.elim
              | cons b l' => exact ih' (n + 1) l' _ _ hl'.2 (hd.set _ hl'.1)
          have := key 0 v.cells.toList v'.cells.toList c c' hv.toList hc
          simp only [← Array.foldl_toList, Array.toList_zipIdx]; exact this
def Ps (P : Program) (ι : Ren) (ps ps' : Array (Nat × Value)) : Prop := ps.toList.length = ps'.toList.length ∧ ∀ (i : Nat) (x x' : Nat × Value), ps.toList[i]? = some x → ps'.toList[i]? = some x' → x.1 = x'.1 ∧ VRel P ι x.2 x'.2
theorem Ps.mono (h : ι.le ι') {ps ps' : Array (Nat × Value)} (r : Ps P ι ps ps') : Ps P ι' ps ps' := ⟨r.1, fun i x x' a b => ⟨(r.2 i x x' a b).1, (r.2 i x x' a b).2.mono h⟩⟩

theorem RS.build (G : Good P) (t : TypeId) {ps ps' : Array (Nat × Value)} (h : Ps P ι ps ps') : RS P n₀ ι (VRel P) (Instr.build t ps) (Instr.build t ps') := by
  refine (RS.zeroValue G t).bind fun ι' hle z z' ⟨hz, hzz⟩ => ?_
  subst hz
  refine (RS.underlying t).bind fun ι'' hle' d d' ⟨hd, _⟩ => ?_
  subst hd
  have hP := (h.mono hle).mono hle'
  cases d' with
  | struct fields =>
    have hR : ∀ {ι : Ren}, RS P n₀ ι (fun _ r r' => r' = r) (fields.mapM fun f => Go.sizeOf f.type >>= fun s => Pure.pure (f.offset, s)) (fields.mapM fun f => Go.sizeOf f.type >>= fun s => Pure.pure (f.offset, s)) := by
      intro ι
      rw [Array.mapM_eq_mapM_toList]
      generalize fields.toList = l
      have hl : ∀ (l : List Field) {ι : Ren}, RS P n₀ ι (fun _ r r' => r' = r) (l.mapM fun f => Go.sizeOf f.type >>= fun s => Pure.pure (f.offset, s)) (l.mapM fun f => Go.sizeOf f.type >>= fun s => Pure.pure (f.offset, s)) := by
        intro l
        induction l with
        | nil => intro ι; exact .pure rfl
        | cons f l ih =>
          intro ι
          simp only [List.mapM_cons]
          refine RS.bind (R := fun _ r r' => r' = r) ((RS.sizeOf f.type).bind fun _ _ a b ⟨hab, _⟩ => .pure (by rw [hab])) fun _ _ a b hab => ?_
          subst hab
          exact ih.bind fun _ _ c d hcd => .pure (by rw [hcd])
      simpa using (hl l).bind fun _ _ a b hab => RS.pure (R := fun _ r r' => r' = r) (by rw [hab])
    refine hR.bind fun ι3 hle3 pl pl' hpl => ?_
    subst hpl
    show RS P n₀ ι3 (VRel P) (match Instr.fill (pl'[·]?) z'.cells ps.toList with | some c => Pure.pure (Value.agg c) | _ => Go.stuck _) (match Instr.fill (pl'[·]?) z'.cells ps'.toList with | some c => Pure.pure (Value.agg c) | _ => Go.stuck _)
    cases hf : Instr.fill (pl'[·]?) z'.cells ps.toList with
    | none => exact RS.stuck _
    | some c =>
      obtain ⟨c', h1, h2⟩ := fill_rel (hP.mono hle3) (hzz ι3).cells hf
      rw [h1]
      exact .pure (.ofVs h2)
  | array n elem =>
    refine (RS.sizeOf elem).bind fun ι3 hle3 s s' ⟨hs, _⟩ => ?_
    subst hs
    show RS P n₀ ι3 (VRel P) (match Instr.fill (fun i => some (i * s', s')) z'.cells ps.toList with | some c => Pure.pure (Value.agg c) | _ => Go.stuck _) (match Instr.fill (fun i => some (i * s', s')) z'.cells ps'.toList with | some c => Pure.pure (Value.agg c) | _ => Go.stuck _)
    cases hf : Instr.fill (fun i => some (i * s', s')) z'.cells ps.toList with
    | none => exact RS.stuck _
    | some c =>
      obtain ⟨c', h1, h2⟩ := fill_rel (hP.mono hle3) (hzz ι3).cells hf
      rw [h1]
      exact .pure (.ofVs h2)
  | _ => exact RS.stuck _
end
end Go.Abs
