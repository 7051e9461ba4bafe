/-
  ABS 18: a region that draws its order: the invariant, and soundness.
-/
import Derived.Test.YtipomlcnmaldkaaA17
namespace Go.Abs

/-- As 'Moves', with the bound of the whole region on what is new. -/
structure MovesB (P : Program) (ι : Ren) (A W : World) (ι' : Ren) (A' W' : World) (N : Nat) : Prop where
  le : ι.le ι'
  news : ∀ b e, ι b = none → ι' b = some e → A.heap.size ≤ b ∧ b < N
  keep : ∀ b, b < W.heap.size → (∀ k e o, ι k = some e → A.heap[k]? = some o → wr o = true → e.blk ≠ b) → W'.heap[b]? = W.heap[b]?
  img : ∀ k e o, ι' k = some e → A'.heap[k]? = some o → wr o = true → e.blk < W.heap.size → ∃ k0 e0 o0, ι k0 = some e0 ∧ A.heap[k0]? = some o0 ∧ wr o0 = true ∧ e0.blk = e.blk
  fresh : ∀ k e, ι k = none → ι' k = some e → W.heap.size ≤ e.blk ∨ ∃ k0 e0 o0, ι k0 = some e0 ∧ A.heap[k0]? = some o0 ∧ wr o0 = true ∧ e0.blk = e.blk
  asz : A.heap.size ≤ A'.heap.size
  wsz : W.heap.size ≤ W'.heap.size
  os : W'.os = W.os
  tape : W'.tape = W.tape
  output : W'.output = W.output

section
variable {P : Program} {n₀ : Nat} {L : Lvl} {ops : Array Oper} {T : Trace}

theorem MovesB.step {ι ι' ι'' : Ren} {A A' A'' W W' W'' : World} {N : Nat} (h : MovesB P ι A W ι' A' W' N) (k : Moves P ι' A' W' ι'' A'' W'') (hN : A''.heap.size ≤ N) : MovesB P ι A W ι'' A'' W'' N where
  le := h.le.trans k.le
  news b e hb he := by
    cases hb' : ι' b with
    | none => have := k.news b e hb' he; have := h.asz; omega
    | some e' => exact h.news b e' hb hb'
  keep b hb hn := by
    rw [k.keep b (Nat.lt_of_lt_of_le hb h.wsz) ?_, h.keep b hb hn]
    intro q e o hq ho hw hbe
    obtain ⟨k0, e0, o0, x, y, z, u⟩ := h.img q e o hq ho hw (hbe ▸ hb)
    exact hn k0 e0 o0 x y z (u.trans hbe)
  img q e o hq ho hw hb := by
    obtain ⟨k1, e1, o1, x, y, z, u⟩ := k.img q e o hq ho hw (Nat.lt_of_lt_of_le hb h.wsz)
    obtain ⟨k0, e0, o0, x0, y0, z0, u0⟩ := h.img k1 e1 o1 x y z (u ▸ hb)
    exact ⟨k0, e0, o0, x0, y0, z0, u0.trans u⟩
  fresh q e hq he := by
    cases hq' : ι' q with
    | none =>
      rcases k.fresh q e hq' he with h1 | ⟨k1, e1, o1, x, y, z, u⟩
      · exact .inl (Nat.le_trans h.wsz h1)
      · by_cases hlt : e.blk < W.heap.size
        · obtain ⟨k0, e0, o0, x0, y0, z0, u0⟩ := h.img k1 e1 o1 x y z (u ▸ hlt)
          exact .inr ⟨k0, e0, o0, x0, y0, z0, u0.trans u⟩
        · exact .inl (by omega)
    | some e' =>
      have := k.le q e' hq'
      rw [he] at this; cases this
      exact h.fresh q e hq hq'
  asz := Nat.le_trans h.asz k.asz
  wsz := Nat.le_trans h.wsz k.wsz
  os := k.os.trans h.os
  tape := k.tape.trans h.tape
  output := k.output.trans h.output

/-- Where the region's memory stands: S has come up; the canonical world is that ahead of operation m. -/
structure Core (P : Program) (n₀ : Nat) (ops : Array Oper) (T : Trace) (ι0 : Ren) (W0 : World) (S : Nat → Prop) (m : Nat) (ι : Ren) (W : World) : Prop where
  sim : Sim P n₀ ι (T.ws m) W
  early : ∀ i obj, S i → m ≤ i → Mk P ops T i obj → ∃ e, ι (T.ws i).heap.size = some e ∧ ORel P n₀ ι e W obj ∧ W0.heap.size ≤ e.blk ∧
      (∀ k ek, ι k = some ek → k ≠ (T.ws i).heap.size → ek.blk ≠ e.blk)
  late : ∀ i obj, ¬ S i → Mk P ops T i obj → ι (T.ws i).heap.size = none
  free : ∀ k, (T.ws m).heap.size ≤ k → k < (T.ws ops.size).heap.size → (∀ i obj, S i → Mk P ops T i obj → k ≠ (T.ws i).heap.size) → ι k = none
  mv : MovesB P ι0 (T.ws 0) W0 ι (T.ws m) W (T.ws ops.size).heap.size

theorem ws_mono (hsz : ∀ (i : Nat), i < ops.size → (T.ws i).heap.size ≤ (T.ws (i + 1)).heap.size) : ∀ (k i : Nat), i + k ≤ ops.size → (T.ws i).heap.size ≤ (T.ws (i + k)).heap.size
  | 0, i, _ => Nat.le_refl _
  | k + 1, i, h => Nat.le_trans (ws_mono hsz k i (by omega)) (hsz (i + k) (by omega))

theorem bef_in {S : Nat → Prop} (hc : ∀ i o, S i → ops[i]? = some o → ∀ e ∈ o.after.toList, Region.binds .any e = true → S e.on) : ∀ (n i k : Nat) (o : Oper), i < n → ops[i]? = some o → (∀ e ∈ o.after.toList, Region.binds .any e = true → S e.on) →
    bef (masks ops) i k = true → S k
  | 0, i, k, o, h, _, _, _ => absurd h (Nat.not_lt_zero _)
  | n + 1, i, k, o, h, ho, hd, hb => by
    obtain ⟨e, he, hbi, hk⟩ := bef_step ho hb
    rcases hk with rfl | ⟨hlt, hb'⟩
    · exact hd e he hbi
    · by_cases hlt2 : e.on < ops.size
      · have ho' : ops[e.on]? = some ops[e.on] := Array.getElem?_eq_getElem hlt2
        exact bef_in hc n e.on k _ (by omega) ho' (hc e.on _ (hd e he hbi) ho') hb'
      · have := lt_of_at ho; omega

/-- One block more in the canonical world; on the other side it lies there already, or it isn't spoken of. -/
theorem Sim.advance {ι : Ren} {A W : World} (S : Sim P n₀ ι A W) {obj : Obj} (hw : wr obj = true)
    (h : ι A.heap.size = none ∨ ∃ e, ι A.heap.size = some e ∧ ORel P n₀ ι e W obj ∧ ∀ k ek ok, ι k = some ek → A.heap[k]? = some ok → alive ok = true → ek.blk ≠ e.blk) : Sim P n₀ ι (A.alloc obj) W where
  obj b e o hb ho := by
    rcases heap_alloc_some ho with ⟨_, h'⟩ | ⟨rfl, rfl⟩
    · exact S.obj b e o hb h'
    · rcases h with h | ⟨e', h1, h2, _⟩
      · rw [h] at hb; cases hb
      · rw [h1] at hb; cases hb; exact h2
  inj b b' e e' o o' hb hb' ho ho' hwr hal hbk := by
    rcases heap_alloc_some ho with ⟨_, h1⟩ | ⟨rfl, rfl⟩ <;> rcases heap_alloc_some ho' with ⟨_, h1'⟩ | ⟨rfl, rfl⟩
    · exact S.inj b b' e e' o o' hb hb' h1 h1' hwr hal hbk
    · rcases h with h | ⟨e2, q1, _, q3⟩
      · rw [h] at hb'; cases hb'
      · rw [q1] at hb'; cases hb'
        exact absurd hbk (q3 b e o hb h1 (alive_of_wr hwr))
    · rcases h with h | ⟨e2, q1, _, q3⟩
      · rw [h] at hb; cases hb
      · rw [q1] at hb; cases hb
        exact absurd hbk.symm (q3 b' e' o' hb' h1' hal)
    · rfl
  dom := S.dom
  lo := S.lo

theorem Mk.lt {i : Nat} {obj : Obj} (h : Mk P ops T i obj) : (T.ws i).heap.size < (T.ws (i + 1)).heap.size := by
  obtain ⟨o, _, _, _, h1, _⟩ := h
  rw [h1]; simp
theorem Mk.sz {i : Nat} {obj : Obj} (h : Mk P ops T i obj) : i < ops.size := by
  obtain ⟨o, h1, _⟩ := h
  exact lt_of_at h1
theorem Mk.id_lt (hm : ∀ i k, i ≤ k → k ≤ ops.size → (T.ws i).heap.size ≤ (T.ws k).heap.size) {i k : Nat} {obj obj' : Obj} (h : Mk P ops T i obj) (h' : Mk P ops T k obj') (hlt : i < k) : (T.ws i).heap.size < (T.ws k).heap.size :=
  Nat.lt_of_lt_of_le h.lt (hm _ _ hlt (Nat.le_of_lt h'.sz))
theorem Mk.id_ne (hm : ∀ i k, i ≤ k → k ≤ ops.size → (T.ws i).heap.size ≤ (T.ws k).heap.size) {i k : Nat} {obj obj' : Obj} (h : Mk P ops T i obj) (h' : Mk P ops T k obj') (hne : i ≠ k) : (T.ws i).heap.size ≠ (T.ws k).heap.size := by
  rcases Nat.lt_or_gt_of_ne hne with hlt | hlt
  · have := h.id_lt hm h' hlt; omega
  · have := h'.id_lt hm h hlt; omega
theorem Mk.of {i : Nat} {o : Oper} (ho : ops[i]? = some o) (h : StepOk P L ops T i o) (hw : Region.wanted o (yielded ops (T.as i).tmps) = true) (hk : kindOf o.op = .makes) : ∃ obj, Mk P ops T i obj := by
  obtain ⟨_, h⟩ := h
  rw [if_pos hw, hk] at h
  obtain ⟨obj, h1, h2, h3, h4, h5⟩ := h
  exact ⟨obj, o, ho, hw, hk, h1, h2, h3, h4, h5⟩

theorem Core.advance {ι0 ι : Ren} {W0 W : World} {S : Nat → Prop} {m : Nat} {o : Oper}
    (ho : ops[m]? = some o) (hst : StepOk P L ops T m o) (hna : kindOf o.op ≠ .acts) (C : Core P n₀ ops T ι0 W0 S m ι W) : Core P n₀ ops T ι0 W0 S (m + 1) ι W := by
  have same : T.ws (m + 1) = T.ws m → Core P n₀ ops T ι0 W0 S (m + 1) ι W := fun e =>
    ⟨by rw [e]; exact C.sim, fun i obj hs hle hk => C.early i obj hs (by omega) hk, C.late, by rw [e]; exact C.free, by rw [e]; exact C.mv⟩
  by_cases hw : Region.wanted o (yielded ops (T.as m).tmps) = true
  · cases hk : kindOf o.op with
    | quiet =>
      have h := hst.2
      rw [if_pos hw, hk] at h
      exact same h.1
    | acts => exact absurd hk hna
    | makes =>
      obtain ⟨obj, hmk⟩ := Mk.of ho hst hw hk
      obtain ⟨o', ho', _, _, h1, h2, _⟩ := id hmk
      have hsim : Sim P n₀ ι ((T.ws m).alloc obj) W := by
        refine C.sim.advance h2 ?_
        by_cases hs : S m
        · obtain ⟨e, q1, q2, q3, q4⟩ := C.early m obj hs (Nat.le_refl _) hmk
          refine .inr ⟨e, q1, q2, fun k ek ok hk hok _ => q4 k ek hk ?_⟩
          have := (Array.getElem?_eq_some_iff.1 hok).1
          omega
        · exact .inl (C.late m obj hs hmk)
      refine ⟨by rw [h1]; exact hsim, fun i obj hs hle hk => C.early i obj hs (by omega) hk, C.late, fun k hk1 hk2 hk3 => C.free k ?_ hk2 hk3, ?_⟩
      · have := hmk.lt; omega
      · rw [h1]
        refine ⟨C.mv.le, C.mv.news, C.mv.keep, ?_, C.mv.fresh, by have := C.mv.asz; simp; omega, C.mv.wsz, C.mv.os, C.mv.tape, C.mv.output⟩
        intro k e q hk hq hwq hlt
        rcases heap_alloc_some hq with ⟨_, h'⟩ | ⟨rfl, rfl⟩
        · exact C.mv.img k e q hk h' hwq hlt
        · by_cases hs : S m
          · obtain ⟨e', q1, _, q3, _⟩ := C.early m _ hs (Nat.le_refl _) hmk
            rw [q1] at hk; cases hk; omega
          · rw [C.late m _ hs hmk] at hk; cases hk
  · have h := hst.2
    rw [if_neg hw] at h
    exact same h.1
theorem Core.advanceTo {ι0 ι : Ren} {W0 W : World} {S : Nat → Prop} (hT : ∀ (i : Nat) (o : Oper), ops[i]? = some o → StepOk P L ops T i o) : ∀ (d m : Nat), m + d ≤ ops.size →
    (∀ j, m ≤ j → j < m + d → j ∉ effs ops) → Core P n₀ ops T ι0 W0 S m ι W → Core P n₀ ops T ι0 W0 S (m + d) ι W
  | 0, m, _, _, C => C
  | d + 1, m, hle, hne, C => by
    have ho : ops[m]? = some ops[m] := Array.getElem?_eq_getElem (by omega)
    have := Core.advanceTo hT d (m + 1) (by omega) (fun j h1 h2 => hne j (by omega) (by omega)) (C.advance ho (hT m _ ho) fun hk => hne m (Nat.le_refl _) (by omega) (mem_effs.2 ⟨_, ho, hk⟩))
    rw [show m + (d + 1) = m + 1 + d from by omega]
    exact this

/-- A step of the other side that the canonical world makes too, from m to m'. -/
theorem Core.move {ι0 ι ι1 : Ren} {W0 W W1 : World} {S S' : Nat → Prop} {m m' : Nat} (C : Core P n₀ ops T ι0 W0 S m ι W) (S1 : Sim P n₀ ι1 (T.ws m') W1) (M : Moves P ι (T.ws m) W ι1 (T.ws m') W1)
    (hN : (T.ws m').heap.size ≤ (T.ws ops.size).heap.size) (hmm : m ≤ m')
    (hS : ∀ i obj, Mk P ops T i obj → (S' i ↔ S i)) (hid : ∀ i obj, Mk P ops T i obj → m' ≤ i → (T.ws m').heap.size ≤ (T.ws i).heap.size)
    (hid2 : ∀ i obj, Mk P ops T i obj → i < m' → (T.ws i).heap.size < (T.ws m).heap.size) : Core P n₀ ops T ι0 W0 S' m' ι1 W1 := by
  have nonew : ∀ i obj, Mk P ops T i obj → ι (T.ws i).heap.size = none → ι1 (T.ws i).heap.size = none := by
    intro i obj hk h0
    cases h1 : ι1 (T.ws i).heap.size with
    | none => rfl
    | some e =>
      have := M.news _ _ h0 h1
      by_cases hlt : i < m'
      · have := hid2 i obj hk hlt; omega
      · have := hid i obj hk (by omega); omega
  refine ⟨S1, ?_, ?_, ?_, C.mv.step M hN⟩
  · intro i obj hs hle hk
    obtain ⟨e, q1, q2, q3, q4⟩ := C.early i obj ((hS i obj hk).1 hs) (by omega) hk
    have hp : ∀ k ek ok, ι k = some ek → (T.ws m).heap[k]? = some ok → ek.blk ≠ e.blk := by
      intro k ek ok hkk hok
      refine q4 k ek hkk ?_
      have h1 := (Array.getElem?_eq_some_iff.1 hok).1
      have h2 := hid i obj hk hle
      have h3 := M.asz
      omega
    refine ⟨e, M.le _ _ q1, q2.later M.le (M.keep e.blk (C.sim.dom _ _ q1) fun k ek ok h1 h2 _ => hp k ek ok h1 h2), q3, ?_⟩
    intro k ek hkk hne
    cases h0 : ι k with
    | some e0 =>
      have := M.le k e0 h0
      rw [hkk] at this; cases this
      exact q4 k ek h0 hne
    | none =>
      rcases M.fresh k ek h0 hkk with h | ⟨k0, e0, o0, x, y, z, u⟩
      · have := C.sim.dom _ _ q1; omega
      · rw [← u]; exact hp k0 e0 o0 x y
  · intro i obj hs hk
    exact nonew i obj hk (C.late i obj (fun h => hs ((hS i obj hk).2 h)) hk)
  · intro k h1 h2 h3
    have h0 := C.free k (Nat.le_trans M.asz h1) h2 fun i obj hs hk => h3 i obj ((hS i obj hk).2 hs) hk
    cases h : ι1 k with
    | none => rfl
    | some e => have := M.news k e h0 h; omega
end
end Go.Abs
