/-
  ABS 5: more operations: loads, stores, make, nil tests, len, copy, clear, calls.
-/
import Derived.Test.YtipomlcnmaldkaaA4
namespace Go.Abs
section
variable {P : Program} {n₀ : Nat} {ι ι' : Ren}

theorem never_left {α β : Type} {s : Sem α} {k : α → Sem β} (h : ∀ A r A', s.run P A ≠ .ok r A') : ∀ A r A', (s >>= k).run P A ≠ .ok r A' := by
  intro A r A' hr
  rw [Sem.run_bind] at hr
  cases h1 : s.run P A with
  | halt q w => rw [h1] at hr; cases hr
  | ok x w => exact h _ _ _ h1
theorem RS.instrLoad (t : TypeId) {v v' : Value} (h : VRel P ι v v') : RS P n₀ ι (VRel P) (Instr.loadAt t v) (Instr.loadAt t v') :=
  (RS.sureAddr h).bind fun _ _ _ _ ha => RS.loadVar t ha
theorem RS.instrStore (t : TypeId) {v v' x x' : Value} (h : VRel P ι v v') (hx : VRel P ι x x') : RS P n₀ ι (fun _ _ _ => True) (Instr.storeAt t v x) (Instr.storeAt t v' x') :=
  (RS.sureAddr h).bind fun _ l _ _ ha => RS.storeVar t ha (hx.mono l)
theorem RS.instrAlloc (G : Good P) (t : TypeId) : RS P n₀ ι (VRel P) (Instr.alloc t true (.tuple #[])) (Instr.alloc t true (.tuple #[])) :=
  (RS.zeroValue G t).bind fun _ _ z z' ⟨hz, hzz⟩ => by
    subst hz
    exact (RS.newVar t (hzz _)).bind fun _ _ _ _ ha => .pure (.ptr ha)
theorem RS.instrBox (t : TypeId) {v v' : Value} (h : VRel P ι v v') : RS P n₀ ι (VRel P) (Instr.box t v) (Instr.box t v') :=
  (RS.newVar t h).bind fun _ _ _ _ ha => .pure (.ptr ha)

theorem RS.makeSlice (G : Good P) (t : TypeId) {l l' c c' : Value} (hl : VRel P ι l l') (hc : VRel P ι c c') : RS P n₀ ι (VRel P) (Instr.makeSlice t l c) (Instr.makeSlice t l' c') := by
  unfold Instr.makeSlice
  refine (RS.underlying t).bind fun ι1 l1 d d' ⟨hd, _⟩ => ?_
  subst hd
  cases d' with
  | slice elem =>
    refine (RS.asInt (hl.mono l1)).bind fun ι2 l2 x x' hx => ?_
    subst hx
    refine (RS.asInt ((hc.mono l1).mono l2)).bind fun ι3 l3 y y' hy => ?_
    subst hy
    refine (RS.typeInfo elem).bind fun ι4 l4 i i' ⟨hi, _⟩ => ?_
    subst hi
    simp only
    have tail : ∀ {ι5 : Ren}, RS P n₀ ι5 (VRel P)
        (do
          Go.askRoom ((IntKind.i64.wrap y').toNat * i'.bytes)
          let s ← Go.sizeOf elem
          let n := (IntKind.i64.wrap y').toNat * s
          let zero ← if n = 0 then Pure.pure #[] else do Pure.pure (← Go.zeroValue elem).cells
          let a ← Go.newRow elem ((Array.range n).map (zero[· % zero.size]!))
          Pure.pure (.slice (some a) (IntKind.i64.wrap x').toNat (IntKind.i64.wrap y').toNat))
        (do
          Go.askRoom ((IntKind.i64.wrap y').toNat * i'.bytes)
          let s ← Go.sizeOf elem
          let n := (IntKind.i64.wrap y').toNat * s
          let zero ← if n = 0 then Pure.pure #[] else do Pure.pure (← Go.zeroValue elem).cells
          let a ← Go.newRow elem ((Array.range n).map (zero[· % zero.size]!))
          Pure.pure (.slice (some a) (IntKind.i64.wrap x').toNat (IntKind.i64.wrap y').toNat)) := by
      intro ι5
      refine (RS.askRoom _).bind fun ι6 l6 _ _ _ => ?_
      refine (RS.sizeOf elem).bind fun ι7 l7 s s' ⟨hs, _⟩ => ?_
      subst hs
      have fin : ∀ {ι8 : Ren} {z z' : Array Value}, Vs P ι8 z z' → RS P n₀ ι8 (VRel P)
          (do let a ← Go.newRow elem ((Array.range ((IntKind.i64.wrap y').toNat * s')).map (z[· % z.size]!))
              Pure.pure (.slice (some a) (IntKind.i64.wrap x').toNat (IntKind.i64.wrap y').toNat))
          (do let a ← Go.newRow elem ((Array.range ((IntKind.i64.wrap y').toNat * s')).map (z'[· % z'.size]!))
              Pure.pure (.slice (some a) (IntKind.i64.wrap x').toNat (IntKind.i64.wrap y').toNat)) := fun hz =>
        (RS.newRow elem (hz.zeros _)).bind fun _ _ a a' ha => .pure (.freshSlice ha _ _)
      simp only
      split
      · exact (RS.pure (R := Vs P) .empty).bind fun _ _ z z' hz => fin hz
      · refine (RS.zeroValue G elem).bind fun ι8 l8 z z' ⟨hz, hzz⟩ => ?_
        subst hz
        exact (RS.pure (R := Vs P) (hzz _).cells).bind fun _ _ z z' hz => fin hz
    split
    · split
      · exact RS.never (never_left (runtimePanic_never _))
      · split
        · exact RS.never (never_left (runtimePanic_never _))
        · exact RS.never (never_bind fun _ _ => never_left (runtimePanic_never _) _)
    · exact tail
  | _ => exact RS.stuck _
theorem RS.makeMap (t : TypeId) {o o' : Option Value} (h : ORelV P ι o o') : RS P n₀ ι (VRel P) (Instr.makeMap t o) (Instr.makeMap t o') := by
  unfold Instr.makeMap
  have tail : ∀ {ι : Ren}, RS P n₀ ι (VRel P) (do Pure.pure (.map (some (← Go.newObj (.map #[] 0))))) (do Pure.pure (.map (some (← Go.newObj (.map #[] 0))))) :=
    (RS.newOther (o := .map #[] 0) (o' := .map #[] 0) (by intro _ _ _ h; cases h) fun ι' _ => (⟨rfl, rfl, fun i x y h => by simp at h⟩ : (0 : Nat) = 0 ∧ EsRel P ι' #[] #[])).bind fun _ _ r r' ⟨e, h1, h2, h3, _⟩ => .pure (by subst h2; exact .map h1 h3)
  rcases h with ⟨rfl, rfl⟩ | ⟨v, v', rfl, rfl, hv⟩
  · exact tail
  · simp only
    refine (RS.underlying t).bind fun ι1 l1 d d' ⟨hd, _⟩ => ?_
    subst hd
    cases d' with
    | map k e => exact (RS.asInt (hv.mono l1)).bind fun _ _ _ _ _ => tail
    | _ => exact RS.halt _

/-- What is nil. -/
def isNil : Value → Bool
  | .pointer none | .slice none _ _ | .map none | .nilFunc => true
  | _ => false
theorem VRel.isNil {v v' : Value} (h : VRel P ι v v') : Abs.isNil v' = Abs.isNil v := by cases h <;> rfl

theorem RS.lenOf {v v' : Value} (h : VRel P ι v v') : RS P n₀ ι (fun _ r r' => r' = r ∧ ∀ a l c, v = .slice a l c → r = l) (Builtin.lenOf v) (Builtin.lenOf v') := by
  cases h with
  | slice0 l c => exact .pure ⟨rfl, fun a l' c' e => by cases e; rfl⟩
  | slice h => exact .pure ⟨rfl, fun a l' c' e => by cases e; rfl⟩
  | string s => exact .pure ⟨rfl, fun a l c e => by cases e⟩
  | _ => exact RS.stuck _
theorem RS.firstCells (size n : Nat) {v v' : Value} (h : VRel P ι v v') (hn : ∀ a l c, v = .slice a l c → n ≤ l) : RS P n₀ ι (Vs P) (Builtin.firstCells size n v) (Builtin.firstCells size n v') := by
  cases h with
  | slice0 l c => exact .pure .empty
  | slice h =>
    rename_i a a' l c c'
    rcases h with ⟨h, _⟩ | ⟨h, _⟩
    · exact RS.loadCells h _
    · have : n = 0 := by have := hn _ _ _ rfl; omega
      subst this
      simp only [Builtin.firstCells, Nat.zero_mul]
      exact RS.loadCells0
  | string s =>
    refine .pure ?_
    refine Vs.map _ _ _ fun b _ => .int _ _
  | _ => exact RS.stuck _
theorem RS.firstCells0 (size : Nat) {v v' : Value} (h : VRel P ι v v') : RS P n₀ ι (fun _ r r' => r = #[] ∧ r' = #[]) (Builtin.firstCells size 0 v) (Builtin.firstCells size 0 v') := by
  cases h with
  | slice0 l c => exact .pure ⟨rfl, rfl⟩
  | slice h => simp only [Builtin.firstCells, Nat.zero_mul]; exact .pure ⟨rfl, rfl⟩
  | string s => exact .pure ⟨by simp, by simp⟩
  | _ => exact RS.stuck _
theorem RS.copy (ts : Array TypeId) (t : TypeId) {xs xs' : Array Value} (h : Vs P ι xs xs') : RS P n₀ ι (VRel P) (Builtin.copy_ ts t xs) (Builtin.copy_ ts t xs') := by
  unfold Builtin.copy_
  cases h0 : ts[0]? with
  | none => exact RS.stuck _
  | some dType =>
    cases h1 : xs[0]? with
    | none => exact RS.stuck _
    | some d =>
      obtain ⟨d', hd, hdd⟩ := h.at h1
      cases h2 : xs[1]? with
      | none => exact RS.stuck _
      | some x =>
        obtain ⟨x', hx, hxx⟩ := h.at h2
        rw [hd, hx]
        simp only
        refine (RS.underlying dType).bind fun ι1 l1 e e' ⟨he, _⟩ => ?_
        subst he
        cases e' with
        | slice elem =>
          have hdd1 := hdd.mono l1
          cases hdd1 with
          | slice0 l c =>
            refine (RS.lenOf (hxx.mono l1)).bind fun ι2 l2 m m' ⟨hm, hm'⟩ => ?_
            subst hm
            refine (RS.sizeOf elem).bind fun ι3 l3 s s' ⟨hs, _⟩ => ?_
            subst hs
            refine (RS.firstCells s' (Nat.min m' l) (((hxx.mono l1).mono l2).mono l3) (fun a q c e => by rw [hm' a q c e]; exact Nat.min_le_left _ _)).bind fun ι4 l4 c c' hc => ?_
            exact .pure (.int _ _)
          | slice hs =>
            rename_i a a' l c c'
            refine (RS.lenOf (hxx.mono l1)).bind fun ι2 l2 m m' ⟨hm, hm'⟩ => ?_
            subst hm
            refine (RS.sizeOf elem).bind fun ι3 l3 s s' ⟨hs', _⟩ => ?_
            subst hs'
            have fc := RS.firstCells (n₀ := n₀) s' (Nat.min m' l) (((hxx.mono l1).mono l2).mono l3) (fun a q c e => by rw [hm' a q c e]; exact Nat.min_le_left _ _)
            rcases hs with ⟨ha, _⟩ | ⟨hl, _⟩
            · exact fc.bind fun ι4 l4 c c' hc => (RS.storeCells (((ha.mono l2).mono l3).mono l4) 0 hc.toList).bind fun _ _ _ _ _ => .pure (.int _ _)
            · subst hl
              have z : Nat.min m' 0 = 0 := Nat.min_zero m'
              rw [z]
              exact (RS.firstCells0 s' (((hxx.mono l1).mono l2).mono l3)).bind fun ι4 l4 c c' ⟨h, h'⟩ => by
                subst h; subst h'
                exact (RS.pure (R := fun _ _ _ => True) trivial).bind fun _ _ _ _ _ => .pure (.int _ _)
          | _ => exact RS.stuck _
        | _ => exact RS.stuck _
end
end Go.Abs
