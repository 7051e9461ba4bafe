/-
  ABS 4: the model's operations at two related worlds, the rest.
-/
import Derived.Test.YtipomlcnmaldkaaA3
namespace Go.Abs
section
variable {P : Program} {n₀ : Nat} {ι ι' : Ren}

theorem never_ite {α : Type} {c : Prop} [Decidable c] {s t : Sem α} (h : ∀ A r A', s.run P A ≠ .ok r A') (k : ∀ A r A', t.run P A ≠ .ok r A') : ∀ A r A', (if c then s else t).run P A ≠ .ok r A' := by
  split
  · exact h
  · exact k
theorem unsupported_never {α : Type} (u : Unsupported) : ∀ A (r : α) A', (Go.unsupported u : Sem α).run P A ≠ .ok r A' := fun A r A' h => by cases h
theorem VRel.dflt : VRel P ι (default : Value) default := VRel.bool _
theorem Vs.bang {xs xs' : Array Value} (r : Vs P ι xs xs') (i : Nat) : VRel P ι xs[i]! xs'[i]! := by
  cases h : xs[i]? with
  | none => simp only [getElem!_def, h, r.none_at h]; exact .dflt
  | some x => obtain ⟨x', h', rr⟩ := r.at h; simp only [getElem!_def, h, h']; exact rr
theorem Vs.zeros {z z' : Array Value} (h : Vs P ι z z') (n : Nat) : Vs P ι ((Array.range n).map (z[· % z.size]!)) ((Array.range n).map (z'[· % z'.size]!)) :=
  Vs.map _ _ _ fun x _ => by rw [← h.1]; exact h.bang _
theorem RS.mark (m : Mark) : RS P n₀ ι (fun _ _ _ => True) (Go.mark m) (Go.mark m) := by
  intro A W x A' S hr _
  cases hr
  exact ⟨ι, (), W, rfl, S, .refl, trivial⟩
theorem RS.askRoom (n : Nat) : RS P n₀ ι (fun _ _ _ => True) (Go.askRoom n) (Go.askRoom n) := by
  unfold Go.askRoom; split
  · exact RS.mark _
  · exact .pure trivial
theorem VRel.freshSlice {a a' : Addr} (h : ARel ι a a') (l c : Nat) : VRel P ι (.slice (some a) l c) (.slice (some a') l c) := .slice (.inl ⟨h, .inl rfl⟩)

theorem RS.zeroCells (G : Good P) (t : TypeId) (c : Prop) [Decidable c] : RS P n₀ ι (Vs P) (if c then Pure.pure #[] else Go.zeroValue t >>= fun z => Pure.pure z.cells) (if c then Pure.pure #[] else Go.zeroValue t >>= fun z => Pure.pure z.cells) := by
  split
  · exact .pure .empty
  · exact (RS.zeroValue G t).bind fun _ _ z z' ⟨h, hz⟩ => .pure (by subst h; exact (hz _).cells)

theorem RS.buildSlice (G : Good P) (t : TypeId) (len : Nat) {ps ps' : Array (Nat × Value)} (h : Ps P ι ps ps') : RS P n₀ ι (VRel P) (Instr.buildSlice t len ps) (Instr.buildSlice t len ps') := by
  unfold Instr.buildSlice
  refine (RS.underlying t).bind fun ι1 l1 d d' ⟨hd, _⟩ => ?_
  subst hd
  cases d' with
  | slice elem =>
    refine (RS.sizeOf elem).bind fun ι2 l2 s s' ⟨hs, _⟩ => ?_
    subst hs
    simp only
    split
    · exact RS.unsupported _
    · have key : ∀ {ι : Ren} (_ : ι2.le ι) (zero zero' : Array Value), Vs P ι zero zero' → RS P n₀ ι (VRel P)
          (match Instr.fill (fun i => some (i * s', s')) ((Array.range (len * s')).map (zero[· % zero.size]!)) ps.toList with
            | some cells => do Pure.pure (.slice (some (← Go.newRow elem cells)) len len)
            | _ => Go.stuck "buildSlice: a part of the wrong size")
          (match Instr.fill (fun i => some (i * s', s')) ((Array.range (len * s')).map (zero'[· % zero'.size]!)) ps'.toList with
            | some cells => do Pure.pure (.slice (some (← Go.newRow elem cells)) len len)
            | _ => Go.stuck "buildSlice: a part of the wrong size") := by
        intro ι hle zero zero' hz
        cases hf : Instr.fill (fun i => some (i * s', s')) ((Array.range (len * s')).map (zero[· % zero.size]!)) ps.toList with
        | none => exact RS.stuck _
        | some c =>
          obtain ⟨c', h1, h2⟩ := fill_rel (((h.mono l1).mono l2).mono hle) (hz.zeros (len * s')) hf
          rw [h1]
          exact (RS.newRow elem h2).bind fun _ _ a a' ha => .pure (.freshSlice ha _ _)
      split
      · exact key (.refl _) _ _ .empty
      · refine (RS.zeroValue G elem).bind fun ι3 l3 z z' ⟨hz, hzz⟩ => ?_
        subst hz
        exact (RS.pure (R := Vs P) (hzz _).cells).bind fun ι4 l4 c c' hc => key (l3.trans l4) _ _ hc
  | _ => exact RS.stuck _

theorem RS.makeFunc {fn fn' : Fn} {xs xs' ys ys' : Array Value} (hf : FRel ι fn fn') (hx : Vs P ι xs xs') (hy : Vs P ι ys ys') : RS P n₀ ι (VRel P) (Instr.makeFunc fn xs ys) (Instr.makeFunc fn' xs' ys') :=
  .pure (.func hf hx.1 hy.1 hx.2 hy.2)
theorem RS.extract {v v' : Value} (h : VRel P ι v v') (i : Nat) : RS P n₀ ι (VRel P) (Instr.extract v i) (Instr.extract v' i) := by
  cases h with
  | tuple h1 h2 =>
    rename_i xs xs'
    show RS P n₀ ι (VRel P) (match xs[i]? with | some v => Pure.pure v | none => Go.stuck _) (match xs'[i]? with | some v => Pure.pure v | none => Go.stuck _)
    cases hx : xs[i]? with
    | none => exact RS.stuck _
    | some x =>
      obtain ⟨x', h3, h4⟩ := Vs.at ⟨h1, h2⟩ hx
      rw [h3]
      exact .pure h4
  | _ => exact RS.stuck _
theorem RS.field (t : TypeId) {v v' : Value} (h : VRel P ι v v') (k : Nat) : RS P n₀ ι (VRel P) (Instr.field t v k) (Instr.field t v' k) := by
  unfold Instr.field
  refine (RS.underlying t).bind fun ι1 l1 d d' ⟨hd, _⟩ => ?_
  subst hd
  cases d' with
  | struct fields =>
    simp only
    cases hk : fields[k]? with
    | none => exact RS.stuck _
    | some f => exact (RS.asAgg (h.mono l1)).bind fun _ _ c c' hc => RS.part f.type hc f.offset
  | _ => exact RS.stuck _
theorem RS.fieldAt (t : TypeId) {v v' : Value} (h : VRel P ι v v') (k : Nat) (hsz : ∀ fs f, P.underlying t = some (.struct fs) → fs[k]? = some f → P.cellsOf f.type ≠ 0) :
    RS P n₀ ι (VRel P) (Instr.fieldAt t v k) (Instr.fieldAt t v' k) := by
  unfold Instr.fieldAt
  refine (RS.underlying t).bind fun ι1 l1 d d' ⟨hd, hu⟩ => ?_
  subst hd
  cases d' with
  | struct fields =>
    simp only
    cases hk : fields[k]? with
    | none => exact RS.stuck _
    | some f =>
      refine (RS.sureAddr (h.mono l1)).bind fun ι2 l2 a a' ha => ?_
      refine RS.bind (R := ARel) ?_ fun _ _ b b' hb => .pure (.ptr hb)
      unfold fieldPlace
      refine (RS.sizeOf f.type).bind fun ι3 l3 s s' ⟨hs, hs'⟩ => ?_
      subst hs
      have hz : ¬ s' = 0 := by rw [hs']; exact hsz _ f hu hk
      rw [if_neg hz, if_neg hz]
      exact .pure ((ha.mono l3).add _)
  | _ => exact RS.stuck _
theorem RS.index (t : TypeId) {v v' i i' : Value} (h : VRel P ι v v') (hi : VRel P ι i i') : RS P n₀ ι (VRel P) (Instr.index t v i) (Instr.index t v' i') := by
  unfold Instr.index
  refine (RS.asIntOf hi).bind fun ι1 l1 k k' ⟨hk, _⟩ => ?_
  subst hk
  obtain ⟨k, n⟩ := k'
  refine (RS.underlying t).bind fun ι2 l2 d d' ⟨hd, _⟩ => ?_
  subst hd
  have h2 := (h.mono l1).mono l2
  cases d' with
  | array len elem =>
    cases h2 with
    | agg a b =>
      simp only
      split
      · exact (RS.sizeOf elem).bind fun ι3 l3 s s' ⟨hs, _⟩ => by subst hs; exact RS.part elem (Vs.mono l3 ⟨a, b⟩) _
      · exact RS.never (boundsPanic_never _ _ _ _)
    | _ => exact RS.stuck _
  | string =>
    cases h2 with
    | string s =>
      simp only
      split
      · exact .pure (.int _ _)
      · exact RS.never (boundsPanic_never _ _ _ _)
    | _ => exact RS.stuck _
  | _ => cases h2 <;> exact RS.stuck _
theorem RS.indexAt (t : TypeId) {v v' i i' : Value} (h : VRel P ι v v') (hi : VRel P ι i i') : RS P n₀ ι (VRel P) (Instr.indexAt t v i) (Instr.indexAt t v' i') := by
  unfold Instr.indexAt
  refine (RS.asIntOf hi).bind fun ι1 l1 k k' ⟨hk, _⟩ => ?_
  subst hk
  obtain ⟨k, n⟩ := k'
  refine (RS.underlying t).bind fun ι2 l2 d d' ⟨hd, hu⟩ => ?_
  subst hd
  have h2 := (h.mono l1).mono l2
  have key : ∀ {ι3 : Ren} (_ : ι2.le ι3) (base base' : Option Addr) (len : Nat) (elem : TypeId),
      ((base = none ∧ base' = none) ∨ ∃ a a', base = some a ∧ base' = some a' ∧ (ARel ι3 a a' ∨ len = 0)) → RS P n₀ ι3 (VRel P)
        (do
          let d ← Go.underlying t
          have tiny : Bool := decide (len ≤ 1) && (match d with | .array _ _ => true | _ => false)
          match base with
          | some a => if 0 ≤ n ∧ n < (len : Int) then do Pure.pure (.pointer (some (a.add (n.toNat * (← Go.sizeOf elem)))))
                      else if tiny = true then Go.unsupported (.noEntry "op/indexAddr.an index out of range at an array of length 0 or 1 (ledger 616)")
                      else boundsPanic k n (len : Int) .index
          | none => boundsPanic k n 0 .index)
        (do
          let d ← Go.underlying t
          have tiny : Bool := decide (len ≤ 1) && (match d with | .array _ _ => true | _ => false)
          match base' with
          | some a => if 0 ≤ n ∧ n < (len : Int) then do Pure.pure (.pointer (some (a.add (n.toNat * (← Go.sizeOf elem)))))
                      else if tiny = true then Go.unsupported (.noEntry "op/indexAddr.an index out of range at an array of length 0 or 1 (ledger 616)")
                      else boundsPanic k n (len : Int) .index
          | none => boundsPanic k n 0 .index) := by
    intro ι3 l3 base base' len elem hb
    refine (RS.underlying t).bind fun ι4 l4 d d' ⟨hd, _⟩ => ?_
    subst hd
    rcases hb with ⟨rfl, rfl⟩ | ⟨a, a', rfl, rfl, ha⟩
    · exact RS.never (boundsPanic_never _ _ _ _)
    · simp only
      split
      · rename_i hlt
        refine (RS.sizeOf elem).bind fun ι5 l5 s s' ⟨hs, _⟩ => ?_
        subst hs
        rcases ha with ha | ha
        · exact .pure (.ptr (((ha.mono l4).mono l5).add _))
        · omega
      · exact RS.never (never_ite (unsupported_never _) (boundsPanic_never _ _ _ _))
  cases d' with
  | array len elem =>
    refine (RS.sureAddr h2).bind fun ι3 l3 a a' ha => ?_
    exact (RS.pure (R := fun ι3 (r r' : Option Addr × Nat × TypeId) => r = (some a, len, elem) ∧ r' = (some a', len, elem)) ⟨rfl, rfl⟩).bind fun ι4 l4 r r' ⟨h1, h2⟩ => by
      subst h1; subst h2
      exact key (l3.trans l4) _ _ len elem (.inr ⟨a, a', rfl, rfl, .inl (ha.mono l4)⟩)
  | slice elem =>
    cases h2 with
    | slice0 l c =>
      exact (RS.pure (R := fun ι3 (r r' : Option Addr × Nat × TypeId) => r = (none, l, elem) ∧ r' = (none, l, elem)) ⟨rfl, rfl⟩).bind fun ι4 l4 r r' ⟨h1, h2⟩ => by
        subst h1; subst h2
        exact key l4 _ _ l elem (.inl ⟨rfl, rfl⟩)
    | slice hs =>
      rename_i a a' l c c'
      exact (RS.pure (R := fun ι3 (r r' : Option Addr × Nat × TypeId) => r = (some a, l, elem) ∧ r' = (some a', l, elem)) ⟨rfl, rfl⟩).bind fun ι4 l4 r r' ⟨h1, h2⟩ => by
        subst h1; subst h2
        refine key l4 _ _ l elem (.inr ⟨a, a', rfl, rfl, ?_⟩)
        rcases hs with ⟨h, _⟩ | ⟨h, _⟩
        · exact .inl (h.mono l4)
        · exact .inr h
    | _ => exact RS.halt _
  | _ => cases h2 <;> exact RS.stuck _

theorem RS.sliceBound {v v' : Value} (h : VRel P ι v v') {y y' : Nat} (hy : y ≤ y') (c c' : BoundsCode) : RS P n₀ ι (fun _ r r' => r' = r ∧ r ≤ y) (Instr.sliceBound v y c) (Instr.sliceBound v' y' c') := by
  unfold Instr.sliceBound
  refine (RS.asIntOf h).bind fun ι1 l1 k k' ⟨hk, _⟩ => ?_
  subst hk
  obtain ⟨k, n⟩ := k'
  simp only
  split
  · rename_i hc
    rw [if_pos (by omega)]
    exact .pure ⟨rfl, by omega⟩
  · exact RS.never (boundsPanic_never _ _ _ _)
def ORelV (P : Program) (ι : Ren) (o o' : Option Value) : Prop := (o = none ∧ o' = none) ∨ ∃ v v', o = some v ∧ o' = some v' ∧ VRel P ι v v'
theorem ORelV.mono (h : ι.le ι') {o o' : Option Value} (r : ORelV P ι o o') : ORelV P ι' o o' := by
  rcases r with ⟨a, b⟩ | ⟨v, v', a, b, c⟩
  · exact .inl ⟨a, b⟩
  · exact .inr ⟨v, v', a, b, c.mono h⟩
theorem RS.sliceBounds (isSlice : Bool) (len : Nat) {cap cap' : Nat} (hcap : cap ≤ cap') (hlen : len ≤ cap) {lo lo' hi hi' mx mx' : Option Value} (h1 : ORelV P ι lo lo') (h2 : ORelV P ι hi hi') (h3 : ORelV P ι mx mx') :
    RS P n₀ ι (fun _ r r' => r'.1 = r.1 ∧ r'.2.1 = r.2.1 ∧ r.1 ≤ r.2.1 ∧ r.2.1 ≤ r.2.2 ∧ r.2.2 ≤ cap ∧ (r'.2.2 = r.2.2 ∨ (r.2.2 = cap ∧ r'.2.2 = cap'))) (Instr.sliceBounds isSlice len cap lo hi mx) (Instr.sliceBounds isSlice len cap' lo' hi' mx') := by
  unfold Instr.sliceBounds
  have low : ∀ {ι2 : Ren} (_ : ι.le ι2) (c c' : BoundsCode) (h m m' : Nat), h ≤ m → m ≤ cap → (m' = m ∨ (m = cap ∧ m' = cap')) → RS P n₀ ι2 (fun _ (r r' : Nat × Nat × Nat) => r'.1 = r.1 ∧ r'.2.1 = r.2.1 ∧ r.1 ≤ r.2.1 ∧ r.2.1 ≤ r.2.2 ∧ r.2.2 ≤ cap ∧ (r'.2.2 = r.2.2 ∨ (r.2.2 = cap ∧ r'.2.2 = cap')))
      (match (generalizing := false) lo with | some v => Instr.sliceBound v h c >>= fun l => Pure.pure (l, h, m) | none => Pure.pure 0 >>= fun l => Pure.pure (l, h, m))
      (match (generalizing := false) lo' with | some v => Instr.sliceBound v h c' >>= fun l => Pure.pure (l, h, m') | none => Pure.pure 0 >>= fun l => Pure.pure (l, h, m')) := by
    intro ι2 hle c c' h m m' hm hmc hmm
    rcases h1 with ⟨rfl, rfl⟩ | ⟨v, v', rfl, rfl, hv⟩
    · exact (RS.pure (R := fun _ (r r' : Nat) => r = 0 ∧ r' = 0) ⟨rfl, rfl⟩).bind fun _ _ r r' ⟨a, b⟩ => by subst a; subst b; exact .pure ⟨rfl, rfl, Nat.zero_le _, hm, hmc, hmm⟩
    · exact (RS.sliceBound (hv.mono hle) (Nat.le_refl _) _ _).bind fun _ _ r r' ⟨a, b⟩ => by subst a; exact .pure ⟨rfl, rfl, b, hm, hmc, hmm⟩
  have two : ∀ {ι2 : Ren} {a b : Nat}, RS P n₀ ι2 (fun _ (r r' : Nat) => r = a ∧ r' = b) (Pure.pure a : Sem Nat) (Pure.pure b) := .pure ⟨rfl, rfl⟩
  rcases h3 with ⟨rfl, rfl⟩ | ⟨v3, v3', rfl, rfl, hv3⟩
  · rcases h2 with ⟨rfl, rfl⟩ | ⟨v2, v2', rfl, rfl, hv2⟩
    · exact (two (a := cap) (b := cap')).bind fun _ l1 m m' ⟨a, b⟩ => (two (a := len) (b := len)).bind fun _ l2 h h' ⟨c, d⟩ => by
        subst a; subst b; subst c; subst d
        exact low (l1.trans l2) _ _ _ _ _ hlen (Nat.le_refl _) (.inr ⟨rfl, rfl⟩)
    · exact (two (a := cap) (b := cap')).bind fun _ l1 m m' ⟨a, b⟩ => by
        subst a; subst b
        exact (RS.sliceBound (hv2.mono l1) hcap _ _).bind fun _ l2 h h' ⟨c, d⟩ => by
          subst c
          exact low (l1.trans l2) _ _ _ _ _ d (Nat.le_refl _) (.inr ⟨rfl, rfl⟩)
  · rcases h2 with ⟨rfl, rfl⟩ | ⟨v2, v2', rfl, rfl, hv2⟩
    · exact (RS.sliceBound hv3 hcap _ _).bind fun _ l1 m m' _ => RS.halt _
    · exact (RS.sliceBound hv3 hcap _ _).bind fun _ l1 m m' ⟨a, b⟩ => by
        subst a
        exact (RS.sliceBound (hv2.mono l1) (Nat.le_refl _) _ _).bind fun _ l2 h h' ⟨c, d⟩ => by
          subst c
          exact low (l1.trans l2) _ _ _ _ _ d b (.inl rfl)

/-- What a slice operation asks of the block behind the slice: if its capacity was drawn, elements of the same size. -/
def GrOk (P : Program) (ι : Ren) (elem : TypeId) (v : Value) : Prop := ∀ a l c e t N, v = .slice (some a) l c → ι a.block = some e → e.gr = some (t, N) → P.cellsOf elem = P.cellsOf t
theorem GrOk.mono (h : ι.le ι') {elem : TypeId} {v v' : Value} (hv : VRel P ι v v') (r : GrOk P ι elem v) : GrOk P ι' elem v := by
  intro a l c e t N hva he hg
  subst hva
  cases hv with
  | slice hs =>
    have : ∃ e0, ι a.block = some e0 := by
      rcases hs with ⟨⟨_, _, e0, h0, _⟩, _⟩ | ⟨_, _, _, e0, g, h0, _⟩ <;> exact ⟨e0, h0⟩
    obtain ⟨e0, h0⟩ := this
    have := h _ _ h0
    rw [he] at this; cases this
    exact r a l c e t N rfl h0 hg

theorem SRel.sub {a a' : Addr} {len cap cap' l h m m' s : Nat} {elem : TypeId} (hs : SRel P ι a a' len cap cap') (hle : cap ≤ cap') (hlh : l ≤ h) (hhm : h ≤ m) (hmc : m ≤ cap) (hmm : m' = m ∨ (m = cap ∧ m' = cap'))
    (hsz : s = P.cellsOf elem) (hgr : ∀ e t N, ι a.block = some e → e.gr = some (t, N) → P.cellsOf elem = P.cellsOf t) :
    SRel P ι (if m = l then a else a.add (l * s)) (if m' = l then a' else a'.add (l * s)) (h - l) (m - l) (m' - l) := by
  have adda : ∀ (x : Addr) (n : Nat), (x.add n).block = x.block := fun x n => by unfold Addr.add; split <;> rfl
  rcases hs with ⟨ha, hc⟩ | ⟨h0, h1, h2, e, g, h3, h4⟩
  · by_cases hmeq : m' = m
    · subst hmeq
      refine .inl ⟨?_, .inl rfl⟩
      split
      · exact ha
      · exact ha.add _
    · obtain ⟨rfl, rfl⟩ := hmm.resolve_left hmeq
      rcases hc with rfl | ⟨e, t, N, h1, h2, h3, h4⟩
      · exact absurd rfl hmeq
      · by_cases hl : m = l
        · subst hl
          refine .inr ⟨by omega, by omega, ?_, e, _, ?_, h2⟩
          · rw [if_pos rfl]; exact ha.1
          · rw [if_pos rfl]; exact h1
        · rw [if_neg hl, if_neg (by omega)]
          refine .inl ⟨ha.add _, .inr ⟨e, t, N, ?_, h2, by omega, ?_⟩⟩
          · rw [adda]; exact h1
          · have hst : s = P.cellsOf t := hsz.trans (hgr e t N h1 h2)
            rw [hst]
            have hoff : (a'.add (l * P.cellsOf t)).off = a'.off + l * P.cellsOf t := by
              unfold Addr.add; split
              · rename_i hz; rw [hz]; rfl
              · rfl
            rw [hoff, Nat.add_assoc, ← Nat.add_mul, show l + (m' - l) = m' from by omega]
            exact h4
  · have hm0 : m = 0 := by omega
    have hl0 : l = 0 := by omega
    subst hm0; subst hl0
    refine .inr ⟨by omega, by omega, ?_, e, g, ?_, h4⟩
    · rw [if_pos rfl]; exact h2
    · rw [if_pos rfl]; exact h3

theorem SRel.cap_le {a a' : Addr} {len cap cap' : Nat} (hs : SRel P ι a a' len cap cap') : cap ≤ cap' := by
  rcases hs with ⟨_, rfl | ⟨_, _, _, _, _, h, _⟩⟩ | ⟨_, h, _⟩
  · exact Nat.le_refl _
  · exact h
  · omega
theorem RS.slice (t : TypeId) {v v' : Value} (h : VRel P ι v v') {lo lo' hi hi' mx mx' : Option Value} (h1 : ORelV P ι lo lo') (h2 : ORelV P ι hi hi') (h3 : ORelV P ι mx mx')
    (hwf : ∀ a l c, v = .slice a l c → l ≤ c) (hgr : ∀ elem, P.underlying t = some (.slice elem) → GrOk P ι elem v) (harr : ∀ e, P.underlying t ≠ some (.pointer e)) : RS P n₀ ι (VRel P) (Instr.slice t v lo hi mx) (Instr.slice t v' lo' hi' mx') := by
  unfold Instr.slice
  refine (RS.underlying t).bind fun ι1 l1 d d' ⟨hd, hu⟩ => ?_
  subst hd
  have hv := h.mono l1
  cases d' with
  | pointer e => exact absurd hu (harr e)
  | slice elem =>
    have hg := (hgr elem hu).mono l1 h
    cases hv with
    | slice0 l c =>
      refine (RS.sliceBounds true l (Nat.le_refl c) (hwf _ _ _ rfl) (h1.mono l1) (h2.mono l1) (h3.mono l1)).bind fun ι2 l2 r r' ⟨a1, a2, a3, a4, a5, a6⟩ => ?_
      obtain ⟨r1, r2, r3⟩ := r
      obtain ⟨s1, s2, s3⟩ := r'
      simp only at a1 a2 a3 a4 a5 a6
      have e3 : s3 = r3 := by rcases a6 with h | ⟨h, h'⟩ <;> omega
      subst a1; subst a2; subst e3
      refine (RS.sizeOf elem).bind fun ι3 l3 s s' ⟨hs, _⟩ => ?_
      subst hs
      simp only [Option.map_none, ite_self]
      exact .pure (.slice0 _ _)
    | slice hs =>
      rename_i a a' l c c'
      refine (RS.sliceBounds true l hs.cap_le (hwf _ _ _ rfl) (h1.mono l1) (h2.mono l1) (h3.mono l1)).bind fun ι2 l2 r r' ⟨a1, a2, a3, a4, a5, a6⟩ => ?_
      obtain ⟨r1, r2, r3⟩ := r
      obtain ⟨s1, s2, s3⟩ := r'
      simp only at a1 a2 a3 a4 a5 a6
      subst a1; subst a2
      refine (RS.sizeOf elem).bind fun ι3 l3 s s' ⟨hs', hs''⟩ => ?_
      subst hs'
      have hf := SRel.sub (hs.mono (l2.trans l3)) hs.cap_le a3 a4 a5 a6 hs'' (fun e t N he hg' => hg.mono (l2.trans l3) (.slice hs) a l c e t N rfl he hg')
      have o1 : ∀ (x : Addr) (c : Prop) [Decidable c] (n : Nat), (if c then some x else (some x).map (·.add n)) = some (if c then x else x.add n) := by intro x c _ n; split <;> rfl
      simp only [o1]
      exact .pure (.slice hf)
    | _ => exact RS.stuck _
  | string =>
    cases hv with
    | string s =>
      simp only
      rcases h3 with ⟨rfl, rfl⟩ | ⟨v3, v3', rfl, rfl, hv3⟩
      · refine (RS.sliceBounds (mx := none) (mx' := none) false s.size (Nat.le_refl _) (Nat.le_refl _) (h1.mono l1) (h2.mono l1) (.inl ⟨rfl, rfl⟩)).bind fun ι2 l2 r r' ⟨a1, a2, _⟩ => ?_
        obtain ⟨r1, r2, r3⟩ := r
        obtain ⟨s1, s2, s3⟩ := r'
        simp only at a1 a2
        subst a1; subst a2
        exact .pure (.string _)
      · exact RS.halt _
    | _ => exact RS.stuck _
  | _ => cases hv <;> exact RS.stuck _
theorem RS.sliceAt (t : TypeId) {v v' : Value} (h : VRel P ι v v') {lo lo' hi hi' mx mx' : Option Value} (h1 : ORelV P ι lo lo') (h2 : ORelV P ι hi hi') (h3 : ORelV P ι mx mx')
    (hwf : ∀ a l c, v = .slice a l c → l ≤ c) (hgr : ∀ elem, P.underlying t = some (.slice elem) → GrOk P ι elem v) (harr : ∀ e, P.underlying t ≠ some (.pointer e)) : RS P n₀ ι (VRel P) (Instr.sliceAt t v lo hi mx) (Instr.sliceAt t v' lo' hi' mx') := by
  unfold Instr.sliceAt
  refine (RS.underlying t).bind fun ι1 l1 d d' ⟨hd, hu⟩ => ?_
  subst hd
  cases d' with
  | array n elem =>
    refine (RS.sureAddr (h.mono l1)).bind fun ι2 l2 a a' ha => ?_
    refine (RS.sliceBounds false n (Nat.le_refl n) (Nat.le_refl n) ((h1.mono l1).mono l2) ((h2.mono l1).mono l2) ((h3.mono l1).mono l2)).bind fun ι3 l3 r r' ⟨a1, a2, a3, a4, a5, a6⟩ => ?_
    obtain ⟨r1, r2, r3⟩ := r
    obtain ⟨s1, s2, s3⟩ := r'
    simp only at a1 a2 a3 a4 a5 a6
    have e3 : s3 = r3 := by rcases a6 with h | ⟨h, h'⟩ <;> omega
    subst a1; subst a2; subst e3
    refine (RS.sizeOf elem).bind fun ι4 l4 s s' ⟨hs, _⟩ => ?_
    subst hs
    refine .pure (.slice (.inl ⟨?_, .inl rfl⟩))
    split
    · exact (ha.mono l3).mono l4
    · exact ((ha.mono l3).mono l4).add _
  | _ => exact RS.slice t (h.mono l1) (h1.mono l1) (h2.mono l1) (h3.mono l1) hwf (fun elem he => (hgr elem he).mono l1 h) harr
end
end Go.Abs
