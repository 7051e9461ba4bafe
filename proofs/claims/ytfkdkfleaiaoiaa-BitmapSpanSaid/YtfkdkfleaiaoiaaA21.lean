/-
  ABS 18: a region that draws its order: the invariant, and soundness.
-/
import Derived.Test.YtfkdkfleaiaoiaaA17
namespace Go.Abs

/-- As 'Moves', with the bound of the whole region on what is new. -/
structure MovesB (P : Program) (ι : Ren) (A W : World) (ι' : Ren) (A' W' : World) (N : Nat) : Prop where
  le : ι.le ι'
  news : ∀ b e, ι b = none → ι' b = some e → A.heap.size ≤ b ∧ b < N
  keep : ∀ b, b < W.heap.size → (∀ k e o, ι k = some e → A.heap[k]? = some o → wr o = true → e.blk ≠ b) → W'.heap[b]? = W.heap[b]?
  img : ∀ k e o, ι' k = some e → A'.heap[k]? = some o → wr o = true → e.blk < W.heap.size → ∃ k0 e0 o0, ι k0 = some e0 ∧ A.heap[k0]? = some o0 ∧ wr o0 = true ∧ e0.blk = e.blk
  fresh : ∀ k e, ι k = none → ι' k = some e → W.heap.size ≤ e.blk ∨ ∃ k0 e0 o0, ι k0 = some e0 ∧ A.heap[k0]? = some o0 ∧ wr o0 = true ∧ e0.blk = e.blk
  asz : A.heap.size ≤ A'.heap.size
  wsz : W.heap.size ≤ W'.heap.size
  os : W'.os = W.os
  tape : W'.tape = W.tape
  output : W'.output = W.output

section
variable {P : Program} {n₀ : Nat} {L : Lvl} {ops : Array Oper} {T : Trace}

theorem MovesB.step {ι ι' ι'' : Ren} {A A' A'' W W' W'' : World} {N : Nat} (h : MovesB P ι A W ι' A' W' N) (k : Moves P ι' A' W' ι'' A'' W'') (hN : A''.heap.size ≤ N) : MovesB P ι A W ι'' A'' W'' N where
  le := h.le.trans k.le
  news b e hb he := by
    cases hb' : ι' b with
    | none => have := k.news b e hb' he; have := h.asz; omega
    | some e' => exact h.news b e' hb hb'
  keep b hb hn := by
    rw [k.keep b (Nat.lt_of_lt_of_le hb h.wsz) ?_, h.keep b hb hn]
    intro q e o hq ho hw hbe
    obtain ⟨k0, e0, o0, x, y, z, u⟩ := h.img q e o hq ho hw (hbe ▸ hb)
    exact hn k0 e0 o0 x y z (u.trans hbe)
  img q e o hq ho hw hb := by
    obtain ⟨k1, e1, o1, x, y, z, u⟩ := k.img q e o hq ho hw (Nat.lt_of_lt_of_le hb h.wsz)
    obtain ⟨k0, e0, o0, x0, y0, z0, u0⟩ := h.img k1 e1 o1 x y z (u ▸ hb)
    exact ⟨k0, e0, o0, x0, y0, z0, u0.trans u⟩
  fresh q e hq he := by
    cases hq' : ι' q with
    | none =>
      rcases k.fresh q e hq' he with h1 | ⟨k1, e1, o1, x, y, z, u⟩
      · exact .inl (Nat.le_trans h.wsz h1)
      · by_cases hlt : e.blk < W.heap.size
        · obtain ⟨k0, e0, o0, x0, y0, z0, u0⟩ := h.img k1 e1 o1 x y z (u ▸ hlt)
          exact .inr ⟨k0, e0, o0, x0, y0, z0, u0.trans u⟩
        · exact .inl (by omega)
    | some e' =>
      have := k.le q e' hq'
      rw [he] at this; cases this
      exact h.fresh q e hq hq'
  asz := Nat.le_trans h.asz k.asz
  wsz := Nat.le_trans h.wsz k.wsz
  os := k.os.trans h.os
  tape := k.tape.trans h.tape
  output := k.output.trans h.output

/-- Where the region's memory stands: S has come up; the canonical world is that ahead of operation m. -/
structure Core (P : Program) (n₀ : Nat) (ops : Array Oper) (T : Trace) (ι0 : Ren) (W0 : World) (S : Nat → Prop) (m : Nat) (ι : Ren) (W : World) : Prop where
  sim : Sim P n₀ ι (T.ws m) W
  early : ∀ i obj, S i → m ≤ i → Mk P ops T i obj → ∃ e, ι (T.ws i).heap.size = some e ∧ ORel P n₀ ι e W obj ∧ W0.heap.size ≤ e.blk ∧
      (∀ k ek, ι k = some ek → k ≠ (T.ws i).heap.size → ek.blk ≠ e.blk)
  late : ∀ i obj, ¬ S i → Mk P ops T i obj → ι (T.ws i).heap.size = none
  free : ∀ k, (T.ws m).heap.size ≤ k → k < (T.ws ops.size).heap.size → (∀ i obj, S i → Mk P ops T i obj → k ≠ (T.ws i).heap.size) → ι k = none
  mv : MovesB P ι0 (T.ws 0) W0 ι (T.ws m) W (T.ws ops.size).heap.size

theorem ws_mono (hsz : ∀ (i : Nat), i < ops.size → (T.ws i).heap.size ≤ (T.ws (i + 1)).heap.size) : ∀ (k i : Nat), i + k ≤ ops.size → (T.ws i).heap.size ≤ (T.ws (i + k)).heap.size
  | 0, i, _ => Nat.le_refl _
  | k + 1, i, h => Nat.le_trans (ws_mono hsz k i (by omega)) (hsz (i + k) (by omega))

theorem bef_in {S : Nat → Prop} (hc : ∀ i o, S i → ops[i]? = some o → ∀ e ∈ o.after.toList, Region.binds .any e = true → S e.on) : ∀ (n i k : Nat) (o : Oper), i < n → ops[i]? = some o → (∀ e ∈ o.after.toList, Region.binds .any e = true → S e.on) →
    bef (masks ops) i k = true → S k
  | 0, i, k, o, h, _, _, _ => absurd h (Nat.not_lt_zero _)
  | n + 1, i, k, o, h, ho, hd, hb => by
    obtain ⟨e, he, hbi, hk⟩ := bef_step ho hb
    rcases hk with rfl | ⟨hlt, hb'⟩
    · exact hd e he hbi
    · by_cases hlt2 : e.on < ops.size
      · have ho' : ops[e.on]? = some ops[e.on] := Array.getElem?_eq_getElem hlt2
        exact bef_in hc n e.on k _ (by omega) ho' (hc e.on _ (hd e he hbi) ho') hb'
      · have := lt_of_at ho; omega

/-- One block more in the canonical world; on the other side it lies there already, or it isn't spoken of. -/
theorem Sim.advance {ι : Ren} {A W : World} (S : Sim P n₀ ι A W) {obj : Obj} (hw : wr obj = true)
    (h : ι A.heap.size = none ∨ ∃ e, ι A.heap.size = some e ∧ ORel P n₀ ι e W obj ∧ ∀ k ek ok, ι k = some ek → A.heap[k]? = some ok → alive ok = true → ek.blk ≠ e.blk) : Sim P n₀ ι (A.alloc obj) W where
  obj b e o hb ho := by
    rcases heap_alloc_some ho with ⟨_, h'⟩ | ⟨rfl, rfl⟩
    · exact S.obj b e o hb h'
    · rcases h with h | ⟨e', h1, h2, _⟩
      · rw [h] at hb; cases hb
      · rw [h1] at hb; cases hb; exact h2
  inj b b' e e' o o' hb hb' ho ho' hwr hal hbk := by
    rcases heap_alloc_some ho with ⟨_, h1⟩ | ⟨rfl, rfl⟩ <;> rcases heap_alloc_some ho' with ⟨_, h1'⟩ | ⟨rfl, rfl⟩
    · exact S.inj b b' e e' o o' hb hb' h1 h1' hwr hal hbk
    · rcases h with h | ⟨e2, q1, _, q3⟩
      · rw [h] at hb'; cases hb'
      · rw [q1] at hb'; cases hb'
        exact absurd hbk (q3 b e o hb h1 (alive_of_wr hwr))
    · rcases h with h | ⟨e2, q1, _, q3⟩
      · rw [h] at hb; cases hb
      · rw [q1] at hb; cases hb
        exact absurd hbk.symm (q3 b' e' o' hb' h1' hal)
    · rfl
  dom := S.dom
  lo := S.lo

theorem Mk.lt {i : Nat} {obj : Obj} (h : Mk P ops T i obj) : (T.ws i).heap.size < (T.ws (i + 1)).heap.size := by
  obtain ⟨o, _, _, _, h1, _⟩ := h
  rw [h1]; simp
theorem Mk.sz {i : Nat} {obj : Obj} (h : Mk P ops T i obj) : i < ops.size := by
  obtain ⟨o, h1, _⟩ := h
  exact lt_of_at h1
theorem Mk.id_lt (hm : ∀ i k, i ≤ k → k ≤ ops.size → (T.ws i).heap.size ≤ (T.ws k).heap.size) {i k : Nat} {obj obj' : Obj} (h : Mk P ops T i obj) (h' : Mk P ops T k obj') (hlt : i < k) : (T.ws i).heap.size < (T.ws k).heap.size :=
  Nat.lt_of_lt_of_le h.lt (hm _ _ hlt (Nat.le_of_lt h'.sz))
theorem Mk.id_ne (hm : ∀ i k, i ≤ k → k ≤ ops.size → (T.ws i).heap.size ≤ (T.ws k).heap.size) {i k : Nat} {obj obj' : Obj} (h : Mk P ops T i obj) (h' : Mk P ops T k obj') (hne : i ≠ k) : (T.ws i).heap.size ≠ (T.ws k).heap.size := by
  rcases Nat.lt_or_gt_of_ne hne with hlt | hlt
  · have := h.id_lt hm h' hlt; omega
  · have := h'.id_lt hm h hlt; omega
theorem Mk.of {i : Nat} {o : Oper} (ho : ops[i]? = some o) (h : StepOk P L ops T i o) (hw : Region.wanted o (yielded ops (T.as i).tmps) = true) (hk : kindOf o.op = .makes) : ∃ obj, Mk P ops T i obj := by
  obtain ⟨_, h⟩ := h
  rw [if_pos hw, hk] at h
  obtain ⟨obj, h1, h2, h3, h4, h5⟩ := h
  exact ⟨obj, o, ho, hw, hk, h1, h2, h3, h4, h5⟩

theorem Core.advance {ι0 ι : Ren} {W0 W : World} {S : Nat → Prop} {m : Nat} {o : Oper}
    (ho : ops[m]? = some o) (hst : StepOk P L ops T m o) (hna : kindOf o.op ≠ .acts) (C : Core P n₀ ops T ι0 W0 S m ι W) : Core P n₀ ops T ι0 W0 S (m + 1) ι W := by
  have same : T.ws (m + 1) = T.ws m → Core P n₀ ops T ι0 W0 S (m + 1) ι W := fun e =>
    ⟨by rw [e]; exact C.sim, fun i obj hs hle hk => C.early i obj hs (by omega) hk, C.late, by rw [e]; exact C.free, by rw [e]; exact C.mv⟩
  by_cases hw : Region.wanted o (yielded ops (T.as m).tmps) = true
  · cases hk : kindOf o.op with
    | quiet =>
      have h := hst.2
      rw [if_pos hw, hk] at h
      exact same h.1
    | acts => exact absurd hk hna
    | makes =>
      obtain ⟨obj, hmk⟩ := Mk.of ho hst hw hk
      obtain ⟨o', ho', _, _, h1, h2, _⟩ := id hmk
      have hsim : Sim P n₀ ι ((T.ws m).alloc obj) W := by
        refine C.sim.advance h2 ?_
        by_cases hs : S m
        · obtain ⟨e, q1, q2, q3, q4⟩ := C.early m obj hs (Nat.le_refl _) hmk
          refine .inr ⟨e, q1, q2, fun k ek ok hk hok _ => q4 k ek hk ?_⟩
          have := (Array.getElem?_eq_some_iff.1 hok).1
          omega
        · exact .inl (C.late m obj hs hmk)
      refine ⟨by rw [h1]; exact hsim, fun i obj hs hle hk => C.early i obj hs (by omega) hk, C.late, fun k hk1 hk2 hk3 => C.free k ?_ hk2 hk3, ?_⟩
      · have := hmk.lt; omega
      · rw [h1]
        refine ⟨C.mv.le, C.mv.news, C.mv.keep, ?_, C.mv.fresh, by have := C.mv.asz; simp; omega, C.mv.wsz, C.mv.os, C.mv.tape, C.mv.output⟩
        intro k e q hk hq hwq hlt
        rcases heap_alloc_some hq with ⟨_, h'⟩ | ⟨rfl, rfl⟩
        · exact C.mv.img k e q hk h' hwq hlt
        · by_cases hs : S m
          · obtain ⟨e', q1, _, q3, _⟩ := C.early m _ hs (Nat.le_refl _) hmk
            rw [q1] at hk; cases hk; omega
          · rw [C.late m _ hs hmk] at hk; cases hk
  · have h := hst.2
    rw [if_neg hw] at h
    exact same h.1
theorem Core.advanceTo {ι0 ι : Ren} {W0 W : World} {S : Nat → Prop} (hT : ∀ (i : Nat) (o : Oper), ops[i]? = some o → StepOk P L ops T i o) : ∀ (d m : Nat), m + d ≤ ops.size →
    (∀ j, m ≤ j → j < m + d → j ∉ effs ops) → Core P n₀ ops T ι0 W0 S m ι W → Core P n₀ ops T ι0 W0 S (m + d) ι W
  | 0, m, _, _, C => C
  | d + 1, m, hle, hne, C => by
    have ho : ops[m]? = some ops[m] := Array.getElem?_eq_getElem (by omega)
    have := Core.advanceTo hT d (m + 1) (by omega) (fun j h1 h2 => hne j (by omega) (by omega)) (C.advance ho (hT m _ ho) fun hk => hne m (Nat.le_refl _) (by omega) (mem_effs.2 ⟨_, ho, hk⟩))
    rw [show m + (d + 1) = m + 1 + d from by omega]
    exact this

/-- A step of the other side that the canonical world makes too, from m to m'. -/
theorem Core.move {ι0 ι ι1 : Ren} {W0 W W1 : World} {S S' : Nat → Prop} {m m' : Nat} (C : Core P n₀ ops T ι0 W0 S m ι W) (S1 : Sim P n₀ ι1 (T.ws m') W1) (M : Moves P ι (T.ws m) W ι1 (T.ws m') W1)
    (hN : (T.ws m').heap.size ≤ (T.ws ops.size).heap.size) (hmm : m ≤ m')
    (hS : ∀ i obj, Mk P ops T i obj → (S' i ↔ S i)) (hid : ∀ i obj, Mk P ops T i obj → m' ≤ i → (T.ws m').heap.size ≤ (T.ws i).heap.size)
    (hid2 : ∀ i obj, Mk P ops T i obj → i < m' → (T.ws i).heap.size < (T.ws m).heap.size) : Core P n₀ ops T ι0 W0 S' m' ι1 W1 := by
  have nonew : ∀ i obj, Mk P ops T i obj → ι (T.ws i).heap.size = none → ι1 (T.ws i).heap.size = none := by
    intro i obj hk h0
    cases h1 : ι1 (T.ws i).heap.size with
    | none => rfl
    | some e =>
      have := M.news _ _ h0 h1
      by_cases hlt : i < m'
      · have := hid2 i obj hk hlt; omega
      · have := hid i obj hk (by omega); omega
  refine ⟨S1, ?_, ?_, ?_, C.mv.step M hN⟩
  · intro i obj hs hle hk
    obtain ⟨e, q1, q2, q3, q4⟩ := C.early i obj ((hS i obj hk).1 hs) (by omega) hk
    have hp : ∀ k ek ok, ι k = some ek → (T.ws m).heap[k]? = some ok → ek.blk ≠ e.blk := by
      intro k ek ok hkk hok
      refine q4 k ek hkk ?_
      have h1 := (Array.getElem?_eq_some_iff.1 hok).1
      have h2 := hid i obj hk hle
      have h3 := M.asz
      omega
    refine ⟨e, M.le _ _ q1, q2.later M.le (M.keep e.blk (C.sim.dom _ _ q1) fun k ek ok h1 h2 _ => hp k ek ok h1 h2), q3, ?_⟩
    intro k ek hkk hne
    cases h0 : ι k with
    | some e0 =>
      have := M.le k e0 h0
      rw [hkk] at this; cases this
      exact q4 k ek h0 hne
    | none =>
      rcases M.fresh k ek h0 hkk with h | ⟨k0, e0, o0, x, y, z, u⟩
      · have := C.sim.dom _ _ q1; omega
      · rw [← u]; exact hp k0 e0 o0 x y
  · intro i obj hs hk
    exact nonew i obj hk (C.late i obj (fun h => hs ((hS i obj hk).2 h)) hk)
  · intro k h1 h2 h3
    have h0 := C.free k (Nat.le_trans M.asz h1) h2 fun i obj hs hk => h3 i obj ((hS i obj hk).2 hs) hk
    cases h : ι1 k with
    | none => rfl
    | some e => have := M.news k e h0 h; omega
end
end Go.Abs
/-
  ABS 19: a region that draws its order: soundness.
-/
namespace Go.Abs
section
variable {P : Program} {n₀ : Nat} {L : Lvl} {ops : Array Oper} {T : Trace}

/-- A world of so many blocks, all of them left behind. -/
def tombs (n : Nat) : World := { (default : World) with heap := Array.replicate n (.cells #[] 0 (2, 0)) }
theorem tombs_size (n : Nat) : (tombs n).heap.size = n := by simp [tombs]
theorem tombs_some {n k : Nat} {o : Obj} (h : (tombs n).heap[k]? = some o) : o = .cells #[] 0 (2, 0) := by
  simp only [tombs, Array.getElem?_replicate] at h
  split at h
  · cases h; rfl
  · cases h
theorem Sim.tombs {ι : Ren} {A W : World} (S : Sim P n₀ ι A W) (n : Nat) : Sim P n₀ ι (Abs.tombs n) W where
  obj b e o _ ho := by rw [tombs_some ho]; exact .inl ⟨rfl, rfl⟩
  inj b b' e e' o o' _ _ ho _ hw _ _ := by rw [tombs_some ho] at hw; simp [wr] at hw
  dom := S.dom
  lo := S.lo

/-- A new block, made on the other side too: it lies beyond all that was there. -/
theorem makes_run (G : Good P) {ι : Ren} {W : World} {A : World} (S : Sim P n₀ ι A W) {ρ ρ' : Operand → Value} {o : Oper} {id : Nat} {obj : Obj} {v : Value} (hk : kindOf o.op = .makes) (hρ : ∀ x ∈ o.op.operands, VRel P ι (ρ x) (ρ' x))
    (hrun : ∀ w : World, w.heap.size = id → RegOk P w ρ o.op ∧ (execOp ρ o).run P w = .ok (.value v) (w.alloc obj)) (hid : ι id = none) (hv : newVal v id) :
    ∃ ι1 v' W1 e, (execOp ρ' o).run P W = .ok (.value v') W1 ∧ ι.le ι1 ∧ (∀ k, k ≠ id → ι1 k = ι k) ∧ ι1 id = some e ∧ W.heap.size ≤ e.blk ∧ e.blk < W1.heap.size ∧ ORel P n₀ ι1 e W1 obj ∧ VRel P ι1 v v' ∧
      (∀ k, k < W.heap.size → W1.heap[k]? = W.heap[k]?) ∧ W.heap.size ≤ W1.heap.size ∧ W1.os = W.os ∧ W1.tape = W.tape ∧ W1.output = W.output := by
  have S0 := S.tombs id
  obtain ⟨hok, hr⟩ := hrun (tombs id) (tombs_size id)
  have hgr : GrAll P ι ρ o.op := by
    cases ho : o.op <;> rw [ho] at hk <;> first | trivial | (simp [kindOf] at hk)
  obtain ⟨ι1, nx, W1, r1, S1, M1, N1⟩ := RS.reg G hρ hok hgr (tombs id) W _ _ S0 hr (fun b h1 h2 => by
    simp only [World.size_alloc, tombs_size] at h1 h2
    have : b = id := by omega
    rw [this]; exact hid)
  cases nx <;> simp only [NRel] at N1
  rename_i v'
  have hkeys : ∀ k, k ≠ id → ι1 k = ι k := by
    intro k hne
    cases h0 : ι k with
    | some e => exact M1.le k e h0
    | none =>
      cases h1 : ι1 k with
      | none => rfl
      | some e => have := M1.news k e h0 h1; simp only [World.size_alloc, tombs_size] at this; omega
  have hex : ∃ e, ι1 id = some e := by
    rcases hv with rfl | ⟨l, c, rfl⟩ | rfl
    · cases N1 with
      | ptr h => obtain ⟨_, _, e, h, _⟩ := h; exact ⟨e, h⟩
    · cases N1 with
      | slice h =>
        rcases h with ⟨⟨_, _, e, h, _⟩, _⟩ | ⟨_, _, _, e, _, h, _⟩
        · exact ⟨e, h⟩
        · exact ⟨e, h⟩
    · cases N1 with
      | map h _ => exact ⟨_, h⟩
  obtain ⟨e, he⟩ := hex
  have hfresh : W.heap.size ≤ e.blk := by
    rcases M1.fresh id e hid he with h | ⟨k0, e0, o0, _, h, hw, _⟩
    · exact h
    · rw [tombs_some h] at hw; simp [wr] at hw
  refine ⟨ι1, v', W1, e, r1, M1.le, hkeys, he, hfresh, S1.dom _ _ he, ?_, N1, ?_, M1.wsz, M1.os, M1.tape, M1.output⟩
  · refine S1.obj id e obj he ?_
    have := heap_alloc_self (tombs id) obj
    rw [tombs_size] at this
    exact this
  · intro k hk
    refine M1.keep k hk fun q eq oq _ h hw => ?_
    rw [tombs_some h] at hw; simp [wr] at hw

theorem Core.make {ι0 ι ι1 : Ren} {W0 W W1 : World} {S S' : Nat → Prop} {m i : Nat} {obj : Obj} {e : Ent} (hm : ∀ i k, i ≤ k → k ≤ ops.size → (T.ws i).heap.size ≤ (T.ws k).heap.size)
    (C : Core P n₀ ops T ι0 W0 S m ι W) (hmk : Mk P ops T i obj) (hS : ∀ k, S' k ↔ (S k ∨ k = i)) (hi : ¬ S i)
    (hle : ι.le ι1) (hkeys : ∀ k, k ≠ (T.ws i).heap.size → ι1 k = ι k) (he : ι1 (T.ws i).heap.size = some e) (hfr : W.heap.size ≤ e.blk) (hlt : e.blk < W1.heap.size) (ho : ORel P n₀ ι1 e W1 obj)
    (hkeep : ∀ k, k < W.heap.size → W1.heap[k]? = W.heap[k]?) (hsz : W.heap.size ≤ W1.heap.size) (hos : W1.os = W.os) (htp : W1.tape = W.tape) (hout : W1.output = W.output)
    (hcert : i < m → (T.ws m).heap[(T.ws i).heap.size]? = some obj) (hmi : m ≤ i → (T.ws m).heap.size ≤ (T.ws i).heap.size) : Core P n₀ ops T ι0 W0 S' m ι1 W1 := by
  have hidn := C.late i obj hi hmk
  have hblk : ∀ k ek, k ≠ (T.ws i).heap.size → ι1 k = some ek → ek.blk < W.heap.size := fun k ek hne hk => C.sim.dom k ek (by rw [← hkeys k hne]; exact hk)
  have hat : ∀ oq, (T.ws m).heap[(T.ws i).heap.size]? = some oq → oq = obj := by
    intro oq h
    by_cases h1 : i < m
    · rw [hcert h1] at h; cases h; rfl
    · have := (Array.getElem?_eq_some_iff.1 h).1
      have := hmi (by omega)
      omega
  refine ⟨⟨?_, ?_, ?_, ?_⟩, ?_, ?_, ?_, ?_⟩
  · intro b x q hb hq
    by_cases h : b = (T.ws i).heap.size
    · subst h; rw [he] at hb; cases hb; rw [hat q hq]; exact ho
    · exact (C.sim.obj b x q (by rw [← hkeys b h]; exact hb) hq).later hle (hkeep _ (hblk b x h hb))
  · intro b b' x x' q q' hb hb' hq hq' hw ha hbk
    by_cases h : b = (T.ws i).heap.size <;> by_cases h' : b' = (T.ws i).heap.size
    · rw [h, h']
    · subst h; rw [he] at hb; cases hb
      have := hblk b' x' h' hb'; omega
    · subst h'; rw [he] at hb'; cases hb'
      have := hblk b x h hb; omega
    · exact C.sim.inj b b' x x' q q' (by rw [← hkeys b h]; exact hb) (by rw [← hkeys b' h']; exact hb') hq hq' hw ha hbk
  · intro b x hb
    by_cases h : b = (T.ws i).heap.size
    · subst h; rw [he] at hb; cases hb; exact hlt
    · have := hblk b x h hb; omega
  · have := C.sim.lo; omega
  · intro k objk hs hle' hmkk
    by_cases hki : k = i
    · subst hki
      obtain ⟨o1, h1, _, _, h2, _⟩ := hmk
      obtain ⟨o2, h3, _, _, h4, _⟩ := hmkk
      have : objk = obj := by
        rw [h2] at h4
        have h5 : ((T.ws k).alloc obj).heap[(T.ws k).heap.size]? = ((T.ws k).alloc objk).heap[(T.ws k).heap.size]? := by rw [h4]
        rw [heap_alloc_self, heap_alloc_self] at h5
        cases h5; rfl
      subst this
      refine ⟨e, he, ho, by have := C.mv.wsz; omega, fun q eq hq hne => ?_⟩
      have := hblk q eq hne hq; omega
    · have hs' : S k := by
        rcases (hS k).1 hs with h | h
        · exact h
        · exact absurd h hki
      obtain ⟨e', q1, q2, q3, q4⟩ := C.early k objk hs' hle' hmkk
      have hne := Mk.id_ne hm hmkk hmk hki
      refine ⟨e', by rw [hkeys _ hne]; exact q1, q2.later hle (hkeep _ (C.sim.dom _ _ q1)), q3, fun q eq hq hne' => ?_⟩
      by_cases hqi : q = (T.ws i).heap.size
      · subst hqi; rw [he] at hq; cases hq
        have := C.sim.dom _ _ q1; omega
      · exact q4 q eq (by rw [← hkeys q hqi]; exact hq) hne'
  · intro k objk hs hmkk
    have hki : k ≠ i := fun h => hs ((hS k).2 (.inr h))
    rw [hkeys _ (Mk.id_ne hm hmkk hmk hki)]
    exact C.late k objk (fun h => hs ((hS k).2 (.inl h))) hmkk
  · intro k h1 h2 h3
    rw [hkeys k (h3 i obj ((hS i).2 (.inr rfl)) hmk)]
    exact C.free k h1 h2 fun q objq hs hmkq => h3 q objq ((hS q).2 (.inl hs)) hmkq
  · refine ⟨C.mv.le.trans hle, ?_, ?_, ?_, ?_, C.mv.asz, Nat.le_trans C.mv.wsz hsz, hos.trans C.mv.os, htp.trans C.mv.tape, hout.trans C.mv.output⟩
    · intro b x hb hx
      by_cases h : b = (T.ws i).heap.size
      · subst h
        have h1 := hm 0 i (Nat.zero_le _) (Nat.le_of_lt hmk.sz)
        have h2 := hmk.lt
        have h3 := hm (i + 1) ops.size hmk.sz (Nat.le_refl _)
        omega
      · rw [hkeys b h] at hx; exact C.mv.news b x hb hx
    · intro b hb hn
      rw [hkeep b (Nat.lt_of_lt_of_le hb C.mv.wsz)]
      exact C.mv.keep b hb hn
    · intro k x q hk hq hw hlt'
      by_cases h : k = (T.ws i).heap.size
      · subst h; rw [he] at hk; cases hk
        have := C.mv.wsz; omega
      · exact C.mv.img k x q (by rw [← hkeys k h]; exact hk) hq hw hlt'
    · intro k x hk hx
      by_cases h : k = (T.ws i).heap.size
      · subst h; rw [he] at hx; cases hx
        exact .inl (Nat.le_trans C.mv.wsz hfr)
      · rw [hkeys k h] at hx; exact C.mv.fresh k x hk hx
end
end Go.Abs
/-
  ABS 20: a region that draws its order: soundness, whole.
-/
namespace Go.Abs
section
variable {P : Program} {n₀ : Nat} {L : Lvl} {ops : Array Oper} {T : Trace}

structure Inv (P : Program) (n₀ : Nat) (ops : Array Oper) (T : Trace) (ι0 : Ren) (W0 : World) (S : Nat → Prop) (p : Nat) (ι : Ren) (a b : Act) (W : World) : Prop where
  closed : ∀ i o, S i → ops[i]? = some o → ∀ e ∈ o.after.toList, Region.binds .any e = true → S e.on
  isP : p ∈ effs ops ++ [ops.size]
  done : ∀ e, e ∈ effs ops → e < p → S e
  todo : ∀ e, e ∈ effs ops → p ≤ e → ¬ S e
  core : Core P n₀ ops T ι0 W0 S p ι W
  puts : Puts ops T S a
  act : ARl P ι a b

theorem next_eff (ops : Array Oper) (m : Nat) (hm : m ≤ ops.size) : ∃ d, m + d ≤ ops.size ∧ (∀ j, m ≤ j → j < m + d → j ∉ effs ops) ∧ m + d ∈ effs ops ++ [ops.size] := by
  generalize hk : ops.size - m = k
  induction k generalizing m with
  | zero => exact ⟨0, by omega, fun j h1 h2 => by omega, by simp; omega⟩
  | succ k ih =>
    by_cases h : m ∈ effs ops
    · exact ⟨0, by omega, fun j h1 h2 => by omega, by simp [h]⟩
    · obtain ⟨d, h1, h2, h3⟩ := ih (m + 1) (by omega) (by omega)
      refine ⟨d + 1, by omega, fun j h4 h5 => ?_, by rw [show m + (d + 1) = m + 1 + d from by omega]; exact h3⟩
      by_cases hj : j = m
      · rw [hj]; exact h
      · exact h2 j (by omega) (by omega)

theorem effs_lt {i : Nat} (h : i ∈ effs ops) : i < ops.size := by
  obtain ⟨o, ho, _⟩ := mem_effs.1 h
  exact lt_of_at ho

/-- One operation comes up. -/
theorem Inv.one (G : Good P) (hL : Snd P n₀ L) (R : Rck ops) (hops : ∀ (i : Nat) (o : Oper), ops[i]? = some o → operOk o = true) (hT : ∀ (i : Nat) (o : Oper), ops[i]? = some o → StepOk P L ops T i o)
    (hm : ∀ i k, i ≤ k → k ≤ ops.size → (T.ws i).heap.size ≤ (T.ws k).heap.size) {ι0 ι : Ren} {W0 W : World} {S : Nat → Prop} {p : Nat} {a b : Act} (I : Inv P n₀ ops T ι0 W0 S p ι a b W)
    {i : Nat} {o : Oper} (ho : ops[i]? = some o) (hi : ¬ S i) (hdeps : ∀ e ∈ o.after.toList, Region.binds .any e = true → S e.on) (ro : Option Nat) (Q : Exit → Act → World → Prop) (K : Act → World → Prop)
    (hK : ∀ p' ι' a' b' W', Inv P n₀ ops T ι0 W0 (fun k => S k ∨ k = i) p' ι' a' b' W' → K b' W') : wpOpIn (wide ro) 0 P ops Q i K b W := by
  have hilt := lt_of_at ho
  have hbef : ∀ k, bef (masks ops) i k = true → S k := fun k hk => bef_in I.closed (i + 1) i k o (Nat.lt_succ_self _) ho hdeps hk
  have hbef' : ∀ k ok, ops[k]? = some ok → S k → bef (masks ops) k i = true → False := fun k ok hk hs hb => hi (bef_in I.closed (k + 1) k i ok (Nat.lt_succ_self _) hk (fun e he hbd => I.closed k ok hs hk e he hbd) hb)
  -- what it looks at is as the text has it
  have hPt := Puts.text R hT i (Nat.le_of_lt hilt)
  have hlook : ∀ t, t ∈ looks ops o → ∀ w ow, ops[w]? = some ow → ow.dst = some t → (S w ↔ w < i) := by
    intro t ht w ow hw hd
    obtain ⟨h1, h2⟩ := R.names w i ow o t hw ho hd ht
    constructor
    · intro hs
      rcases Nat.lt_trichotomy w i with h | h | h
      · exact h
      · exact absurd (h ▸ hs) hi
      · exact (hbef' w ow hw hs (h2 h)).elim
    · intro h; exact hbef w (h1 h)
  have hev : ∀ x ∈ o.op.operands, a.eval x = (T.as i).eval x := by
    intro x hx
    refine I.puts.eval hPt fun t ht w ow hw hd => hlook t ?_ w ow hw hd
    unfold looks
    refine List.mem_append_left _ (List.mem_filterMap.2 ⟨x, by simpa using hx, ?_⟩)
    rw [ht]
  have hwant : Region.wanted o (yielded ops b.tmps) = Region.wanted o (yielded ops (T.as i).tmps) := by
    rw [wanted_rel I.act]
    unfold Region.wanted
    cases hg : o.guard with
    | none => rfl
    | some q =>
      obtain ⟨g, want⟩ := q
      simp only
      have : yielded ops a.tmps g = yielded ops (T.as i).tmps g := by
        unfold yielded
        cases hd : (ops[g]?).bind (·.dst) with
        | none => rfl
        | some d =>
          simp only [Option.bind_some]
          rw [I.puts.agree hPt (fun w ow hw hdw => hlook d (by unfold looks; rw [hg]; simp [hd]) w ow hw hdw)]
      rw [this]
  have hvr : ∀ x ∈ o.op.operands, VRel P ι ((T.as i).eval x) (b.eval x) := by
    intro x hx
    rw [← hev x hx]
    have hok := hops i o ho
    simp only [operOk, Bool.and_eq_true, List.all_eq_true] at hok
    exact I.act.eval (hok.1 x (by simpa using hx))
  have hclosed : ∀ k ok, (S k ∨ k = i) → ops[k]? = some ok → ∀ e ∈ ok.after.toList, Region.binds .any e = true → (S e.on ∨ e.on = i) := by
    rintro k ok (hs | rfl) hok e he hb
    · exact .inl (I.closed k ok hs hok e he hb)
    · rw [ho] at hok; cases hok; exact .inl (hdeps e he hb)
  have hputs := I.puts.add R ho hi
  unfold wpOpIn
  simp only [ho]
  rw [hwant]
  have hst := hT i o ho
  by_cases hw : Region.wanted o (yielded ops (T.as i).tmps) = true
  · rw [if_pos hw]
    have hst2 := hst.2
    rw [if_pos hw] at hst2
    have hne : kindOf o.op ≠ .acts → i ≠ p ∧ mayAt ops (masks ops) i p = true := by
      intro hk
      have hine : i ∉ effs ops := fun h => by
        obtain ⟨o', h1, h2⟩ := mem_effs.1 h
        rw [ho] at h1; cases h1; exact hk h2
      have hip : i ≠ p := by
        rintro rfl
        rcases List.mem_append.1 I.isP with h | h
        · exact hine h
        · simp at h; omega
      refine ⟨hip, ?_⟩
      unfold mayAt
      simp only [Bool.and_eq_true, List.all_eq_true, Bool.or_eq_true, Bool.not_eq_true', decide_eq_false_iff_not]
      refine ⟨fun e he => ?_, ?_⟩
      · by_cases hep : e < p
        · refine .inr ?_
          obtain ⟨oe, h1, _⟩ := mem_effs.1 he
          cases hb : bef (masks ops) e i with
          | false => rfl
          | true => exact (hbef' e oe h1 (I.done e he hep) hb).elim
        · exact .inl hep
      · cases hb : bef (masks ops) i p with
        | false => rfl
        | true =>
          have hs := hbef p hb
          rcases List.mem_append.1 I.isP with h | h
          · exact absurd hs (I.todo p h (Nat.le_refl _))
          · simp at h
            obtain ⟨e, he, hb', hk⟩ := bef_step ho hb
            rcases hk with h' | ⟨hlt, hb''⟩
            · have := R.back i o ho e (by simpa using he) hb'; omega
            · exfalso
              have : ∀ (n j : Nat), j < n → j < ops.size → bef (masks ops) j p = true → False := by
                intro n
                induction n with
                | zero => intro j hj; omega
                | succ n ih =>
                  intro j hj hjs hb
                  have hoj : ops[j]? = some ops[j] := Array.getElem?_eq_getElem hjs
                  obtain ⟨e, he, hb', hk⟩ := bef_step hoj hb
                  have := R.back j _ hoj e (by simpa using he) hb'
                  rcases hk with h' | ⟨hlt, hb''⟩
                  · omega
                  · exact ih e.on (by omega) (by omega) hb''
              exact this (e.on + 1) e.on (Nat.lt_succ_self _) (by omega) hb''
    cases hk : kindOf o.op with
    | quiet =>
      rw [hk] at hst2
      obtain ⟨hip, hmay⟩ := hne (by rw [hk]; decide)
      have hrun : RunOp P L o (T.as i) (T.ws p) (T.vs i) (T.ws p) := ⟨_, _, hst2.2 p I.isP hmay, rfl, rfl⟩
      have hfr : Free ι (T.ws p) (T.ws p) := ⟨Nat.le_refl _, fun b h1 h2 => by omega⟩
      have hple : p ≤ ops.size := by
        rcases List.mem_append.1 I.isP with h | h
        · exact Nat.le_of_lt (effs_lt h)
        · simp at h; omega
      have notmk : ∀ k obj, Mk P ops T k obj → k ≠ i := by
        rintro k obj ⟨ok, h1, _, h2, _⟩ rfl
        rw [ho] at h1; cases h1; rw [hk] at h2; cases h2
      refine (snd_opOf (ι := ι) (W := W) (b := b) G hL (hops i o ho) hrun).2 ro _ Q I.core.sim hvr hfr fun ι1 v1 W1 S1 M1 V1 => ?_
      refine hK p ι1 _ _ W1 ⟨hclosed, I.isP, fun e he hlt => .inl (I.done e he hlt), ?_, ?_, hputs, (I.act.mono M1.le).put o.dst V1⟩
      · rintro e he hle (hs | rfl)
        · exact I.todo e he hle hs
        · obtain ⟨o', h1, h2⟩ := mem_effs.1 he
          rw [ho] at h1; cases h1; rw [hk] at h2; cases h2
      · refine I.core.move S1 M1 (hm _ _ hple (Nat.le_refl _)) (Nat.le_refl _) (fun k obj hmk => ⟨fun h => h.resolve_right (notmk k obj hmk), .inl⟩) (fun k obj hmk hle => hm _ _ hle (Nat.le_of_lt hmk.sz)) (fun k obj hmk hlt => Nat.lt_of_lt_of_le hmk.lt (hm _ _ hlt hple))
    | makes =>
      obtain ⟨hip, hmay⟩ := hne (by rw [hk]; decide)
      obtain ⟨obj, hmk⟩ := Mk.of ho hst hw hk
      obtain ⟨o', ho', _, _, q1, q2, q3, q4, q5⟩ := id hmk
      rw [ho] at ho'; cases ho'
      obtain ⟨ι1, v', W1, en, r1, hle, hkeys, hen, hfr, hlt, hor, V1, hkeep, hsz, hos, htp, hout⟩ := makes_run G I.core.sim hk hvr q4 (I.core.late i obj hi hmk) q3
      refine ⟨fun _ _ => trivial, ?_⟩
      rw [Oper.semAt_eq _ _ _ (operOk_notDefer (hops i o ho)), r1]
      show K (b.put o.dst v') W1
      refine hK p ι1 _ _ W1 ⟨hclosed, I.isP, fun e he hlt => .inl (I.done e he hlt), ?_, ?_, hputs, (I.act.mono hle).put o.dst V1⟩
      · rintro e he hle' (hs | rfl)
        · exact I.todo e he hle' hs
        · obtain ⟨o', h1, h2⟩ := mem_effs.1 he
          rw [ho] at h1; cases h1; rw [hk] at h2; cases h2
      · exact I.core.make hm hmk (fun _ => Iff.rfl) hi hle hkeys hen hfr hlt hor hkeep hsz hos htp hout (fun h => q5 p I.isP h hmay) (fun h => hm _ _ h (Nat.le_of_lt hilt))
    | acts =>
      rw [hk] at hst2
      have hie : i ∈ effs ops := mem_effs.2 ⟨o, ho, hk⟩
      have hip : i = p := by
        rcases Nat.lt_trichotomy i p with h | h | h
        · exact absurd (I.done i hie h) hi
        · exact h
        · rcases List.mem_append.1 I.isP with hp | hp
          · obtain ⟨op, h1, h2⟩ := mem_effs.1 hp
            have := hbef p (R.chain i p o op ho h1 hk h2 h)
            exact absurd this (I.todo p hp (Nat.le_refl _))
          · simp at hp; omega
      subst hip
      have notmk : ∀ k obj, Mk P ops T k obj → k ≠ i := by
        rintro k obj ⟨ok, h1, _, h2, _⟩ rfl
        rw [ho] at h1; cases h1; rw [hk] at h2; cases h2
      have hs1 := hm i (i + 1) (Nat.le_succ _) hilt
      have hs2 := hm (i + 1) ops.size hilt (Nat.le_refl _)
      have hfr : Free ι (T.ws i) (T.ws (i + 1)) := ⟨hs1, fun k h1 h2 => I.core.free k h1 (by omega) fun q obj hs hmk => by
        have hq := notmk q obj hmk
        rcases Nat.lt_or_gt_of_ne hq with h | h
        · have := Nat.lt_of_lt_of_le hmk.lt (hm (q + 1) i h (Nat.le_of_lt hilt)); omega
        · have := hm (i + 1) q h (Nat.le_of_lt hmk.sz); omega⟩
      refine (snd_opOf (ι := ι) (W := W) (b := b) G hL (hops i o ho) hst2).2 ro _ Q I.core.sim hvr hfr fun ι1 v1 W1 S1 M1 V1 => ?_
      have C1 : Core P n₀ ops T ι0 W0 (fun k => S k ∨ k = i) (i + 1) ι1 W1 :=
        I.core.move S1 M1 hs2 (Nat.le_succ _) (fun k obj hmk => ⟨fun h => h.resolve_right (notmk k obj hmk), .inl⟩) (fun k obj hmk hle => hm _ _ hle (Nat.le_of_lt hmk.sz))
          (fun k obj hmk hlt => by
            have hq := notmk k obj hmk
            exact Nat.lt_of_lt_of_le hmk.lt (hm (k + 1) i (by omega) (Nat.le_of_lt hilt)))
      obtain ⟨d, hd1, hd2, hd3⟩ := next_eff ops (i + 1) hilt
      have C2 := C1.advanceTo hT d (i + 1) hd1 hd2
      refine hK (i + 1 + d) ι1 _ _ W1 ⟨hclosed, hd3, ?_, ?_, C2, hputs, (I.act.mono M1.le).put o.dst V1⟩
      · intro e he hlt
        by_cases h1 : e < i
        · exact .inl (I.done e he h1)
        · by_cases h2 : e = i
          · exact .inr h2
          · exact absurd he (hd2 e (by omega) hlt)
      · rintro e he hle (hs | rfl)
        · exact I.todo e he (by omega) hs
        · omega
  · rw [if_neg hw]
    have hst2 := hst.2
    rw [if_neg hw] at hst2
    obtain ⟨hws, hvs⟩ := hst2
    refine ⟨fun _ _ => trivial, ?_⟩
    rw [hvs] at hputs
    have notmk : ∀ k obj, Mk P ops T k obj → k ≠ i := by
      rintro k obj ⟨ok, h1, h2, _⟩ rfl
      rw [ho] at h1; cases h1; exact hw h2
    have hSi : ∀ k obj, Mk P ops T k obj → ((S k ∨ k = i) ↔ S k) := fun k obj hmk => ⟨fun h => h.resolve_right (notmk k obj hmk), .inl⟩
    have hple : p ≤ ops.size := by
      rcases List.mem_append.1 I.isP with h | h
      · exact Nat.le_of_lt (effs_lt h)
      · simp at h; omega
    have C0 : Core P n₀ ops T ι0 W0 (fun k => S k ∨ k = i) p ι W :=
      I.core.move I.core.sim .refl (hm _ _ hple (Nat.le_refl _)) (Nat.le_refl _) hSi (fun k obj hmk hle => hm _ _ hle (Nat.le_of_lt hmk.sz)) (fun k obj hmk hlt => Nat.lt_of_lt_of_le hmk.lt (hm _ _ hlt hple))
    by_cases hip : i = p
    · subst hip
      have C1 : Core P n₀ ops T ι0 W0 (fun k => S k ∨ k = i) (i + 1) ι W :=
        ⟨by rw [hws]; exact C0.sim, fun k obj hs hle hmk => C0.early k obj hs (by omega) hmk, C0.late, by rw [hws]; exact C0.free, by rw [hws]; exact C0.mv⟩
      obtain ⟨d, hd1, hd2, hd3⟩ := next_eff ops (i + 1) hilt
      have C2 := C1.advanceTo hT d (i + 1) hd1 hd2
      refine hK (i + 1 + d) ι _ _ W ⟨hclosed, hd3, ?_, ?_, C2, hputs, I.act.put o.dst .undef⟩
      · intro e he hlt
        by_cases h1 : e < i
        · exact .inl (I.done e he h1)
        · by_cases h2 : e = i
          · exact .inr h2
          · exact absurd he (hd2 e (by omega) hlt)
      · rintro e he hle (hs | rfl)
        · exact I.todo e he (by omega) hs
        · omega
    · refine hK p ι _ _ W ⟨hclosed, I.isP, fun e he hlt => .inl (I.done e he hlt), ?_, C0, hputs, I.act.put o.dst .undef⟩
      rintro e he hle (hs | rfl)
      · exact I.todo e he hle hs
      · -- an acting one beyond p would have p ahead of it
        obtain ⟨o', h1, h2⟩ := mem_effs.1 he
        rw [ho] at h1; cases h1
        rcases List.mem_append.1 I.isP with hp | hp
        · obtain ⟨op, h3, h4⟩ := mem_effs.1 hp
          have := hbef p (R.chain e p o op ho h3 h2 h4 (by omega))
          exact I.todo p hp (Nat.le_refl _) this
        · simp at hp; omega

theorem draw_size (hL : Snd P n₀ L) (hT : ∀ (i : Nat) (o : Oper), ops[i]? = some o → StepOk P L ops T i o) : ∀ i k, i ≤ k → k ≤ ops.size → (T.ws i).heap.size ≤ (T.ws k).heap.size := by
  intro i k h1 h2
  obtain ⟨d, rfl⟩ := Nat.exists_eq_add_of_le h1
  exact ws_mono (fun j hj => step_size hL (hT j _ (Array.getElem?_eq_getElem hj))) d i h2

theorem ready_deps {listed : Array Bool} {i : Nat} (_ : listed.size = ops.size) (h : i ∈ Region.ready .any ops listed) : ∃ o, ops[i]? = some o ∧ ¬ listed[i]? = some true ∧ ∀ e ∈ o.after.toList, Region.binds .any e = true → listed[e.on]? = some true := by
  unfold Region.ready at h
  rw [List.mem_filter, List.mem_range] at h
  obtain ⟨hlt, h⟩ := h
  rw [Array.getElem?_eq_getElem hlt] at h
  simp only [Bool.and_eq_true, Option.map_some, Option.getD_some, Array.all_eq_true'] at h
  obtain ⟨h1, h2⟩ := h
  refine ⟨ops[i], Array.getElem?_eq_getElem hlt, ?_, ?_⟩
  · intro h3
    rw [Array.getD_eq_getD_getElem?, h3] at h1
    simp at h1
  · intro e he hb
    have := h2 e (by simpa using he)
    rw [hb] at this
    simp only [Bool.not_true, Bool.false_or, Array.getD_eq_getD_getElem?] at this
    cases hx : listed[e.on]? with
    | none => rw [hx] at this; simp at this
    | some q => rw [hx] at this; simp at this; rw [this]

theorem draw_all (G : Good P) (hL : Snd P n₀ L) (R : Rck ops) (hops : ∀ (i : Nat) (o : Oper), ops[i]? = some o → operOk o = true) (hT : ∀ (i : Nat) (o : Oper), ops[i]? = some o → StepOk P L ops T i o)
    {ι0 : Ren} {W0 : World} (ro : Option Nat) : ∀ (fuel : Nat) (listed : Array Bool) (p : Nat) (ι : Ren) (a b : Act) (W : World), listed.size = ops.size → (listed.toList.filter (fun x => !x)).length = fuel →
      Inv P n₀ ops T ι0 W0 (fun k => listed[k]? = some true) p ι a b W → wpAnyIn (wide ro) 0 P .any ops (Post P n₀ ι0 (T.ws 0) W0 .normal (T.as ops.size) (T.ws ops.size)) fuel listed b W := by
  have hm := draw_size hL hT
  have fin : ∀ (listed : Array Bool) (p : Nat) (ι : Ren) (a b : Act) (W : World), (∀ k, k < ops.size → listed[k]? = some true) → Inv P n₀ ops T ι0 W0 (fun k => listed[k]? = some true) p ι a b W →
      Post P n₀ ι0 (T.ws 0) W0 .normal (T.as ops.size) (T.ws ops.size) .normal b W := by
    intro listed p ι a b W hall I
    have hp : p = ops.size := by
      rcases List.mem_append.1 I.isP with h | h
      · exact absurd (hall p (effs_lt h)) (I.todo p h (Nat.le_refl _))
      · simpa using h
    subst hp
    refine ⟨rfl, ι, I.core.sim, ⟨I.core.mv.le, I.core.mv.news, I.core.mv.keep, I.core.mv.img, I.core.mv.fresh, I.core.mv.asz, I.core.mv.wsz, I.core.mv.os, I.core.mv.tape, I.core.mv.output⟩, ?_⟩
    have hP := Puts.text R hT ops.size (Nat.le_refl _)
    have ht : a.tmps = (T.as ops.size).tmps := by
      apply Array.ext_getElem?
      intro t
      exact I.puts.agree hP fun w o hw _ => ⟨fun _ => lt_of_at hw, fun h => hall w h⟩
    have hd : a.defers = (T.as ops.size).defers := I.puts.defers.trans hP.defers.symm
    exact ⟨ht ▸ I.act.tmps, hd ▸ I.act.defers⟩
  intro fuel
  induction fuel with
  | zero =>
    intro listed p ι a b W hs hc I
    have hall : ∀ k, k < ops.size → listed[k]? = some true := by
      intro k hk
      have hk' : k < listed.size := by omega
      rw [List.length_eq_zero_iff, List.filter_eq_nil_iff] at hc
      have := hc listed[k] (by simp)
      rw [Array.getElem?_eq_getElem hk']
      simpa using this
    refine ⟨?_, fin listed p ι a b W hall I⟩
    cases hr : Region.ready .any ops listed with
    | nil => rfl
    | cons i l =>
      obtain ⟨o, ho, hn, _⟩ := ready_deps hs (i := i) (by rw [hr]; simp)
      exact absurd (hall i (lt_of_at ho)) hn
  | succ fuel ih =>
    intro listed p ι a b W hs hc I
    refine ⟨fun hr => ?_, fun i hi => ?_⟩
    · refine fin listed p ι a b W ?_ I
      -- the least that is not listed would be ready
      intro k
      induction k using Nat.strongRecOn with
      | _ k ihk =>
        intro hk
        cases hl : listed[k]? with
        | none => have := Array.getElem?_eq_none_iff.1 hl; omega
        | some q =>
          cases q with
          | true => rfl
          | false =>
            exfalso
            have hmem : k ∈ Region.ready .any ops listed := by
              unfold Region.ready
              rw [List.mem_filter, List.mem_range]
              refine ⟨hk, ?_⟩
              rw [Array.getElem?_eq_getElem hk, Array.getD_eq_getD_getElem?, hl]
              simp only [Option.getD_some, Bool.not_false, Option.map_some, Bool.true_and, Array.all_eq_true']
              intro e he
              by_cases hb : Region.binds .any e = true
              · have := R.back k _ (Array.getElem?_eq_getElem hk) e he hb
                have := ihk e.on this (by omega)
                rw [Array.getD_eq_getD_getElem?, this]; simp
              · simp [hb]
            rw [hr] at hmem; cases hmem
    · obtain ⟨o, ho, hn, hd⟩ := ready_deps hs hi
      have hilt := lt_of_at ho
      refine I.one G hL R hops hT hm ho hn hd ro _ _ fun p' ι' a' b' W' I' => ?_
      have hS : (fun k => listed[k]? = some true ∨ k = i) = (fun k => (listed.setIfInBounds i true)[k]? = some true) := by
        funext k
        apply propext
        by_cases hk : k = i
        · subst hk
          rw [Array.getElem?_setIfInBounds_self_of_lt (by omega)]; simp
        · rw [Array.getElem?_setIfInBounds_ne (fun h => hk h.symm)]; simp [hk]
      rw [hS] at I'
      refine ih (listed.setIfInBounds i true) p' ι' a' b' W' (by simpa using hs) ?_ I'
      have hli : listed[i]? = some false := by
        rw [Array.getElem?_eq_getElem (by omega)] at hn ⊢
        cases h : listed[i]'(by omega) with
        | true => rw [h] at hn; simp at hn
        | false => rfl
      have key : ∀ (l : List Bool) (j : Nat), l[j]? = some false → (l.filter (fun x => !x)).length = ((l.set j true).filter (fun x => !x)).length + 1 := by
        intro l
        induction l with
        | nil => intro j h; simp at h
        | cons x l ihl =>
          intro j h
          cases j with
          | zero => simp at h; subst h; simp
          | succ j =>
            have := ihl j (by simpa using h)
            cases x <;> simp [this]
      have := key listed.toList i (by simpa using hli)
      rw [hc] at this
      rw [Array.toList_setIfInBounds]
      omega

theorem snd_draw (G : Good P) (hL : Snd P n₀ L) : SndDraw P n₀ (RunDraw P L) := by
  rintro ops a a' A A' ⟨hr, T, rfl, rfl, rfl, rfl, hT⟩
  have R := Rck.of hr
  have hm := draw_size hL hT
  refine ⟨hm 0 ops.size (Nat.zero_le _) (Nat.le_refl _), fun hops ι W b ro S act F => ?_⟩
  obtain ⟨d, hd1, hd2, hd3⟩ := next_eff ops 0 (Nat.zero_le _)
  rw [Nat.zero_add] at hd1 hd2 hd3
  have hfalse : ∀ (k : Nat), ¬ (Array.replicate ops.size false)[k]? = some true := by
    intro k h
    rw [Array.getElem?_replicate] at h
    split at h <;> simp at h
  have C0 : Core P n₀ ops T ι W (fun k => (Array.replicate ops.size false)[k]? = some true) 0 ι W := by
    refine ⟨S, fun i obj hs => absurd hs (hfalse i), fun i obj _ hmk => ?_, fun k h1 h2 _ => F.2 k h1 h2, ?_⟩
    · have h1 := hm 0 i (Nat.zero_le _) (Nat.le_of_lt hmk.sz)
      have h2 := hmk.lt
      have h3 := hm (i + 1) ops.size hmk.sz (Nat.le_refl _)
      exact F.2 _ h1 (by omega)
    · exact ⟨.refl ι, fun b e h h' => by rw [h] at h'; (cases h'), fun _ _ _ => rfl, fun k e o h h' hw _ => ⟨k, e, o, h, h', hw, rfl⟩, fun k e h h' => by rw [h] at h'; (cases h'), Nat.le_refl _, Nat.le_refl _, rfl, rfl, rfl⟩
  have C1 := C0.advanceTo hT d 0 (by omega) (fun j h1 h2 => hd2 j h1 (by omega))
  rw [Nat.zero_add] at C1
  refine draw_all G hL R hops hT ro ops.size (Array.replicate ops.size false) d ι (T.as 0) b W (by simp) (by simp) ⟨fun i o hs => absurd hs (hfalse i), hd3, fun e he hlt => absurd he (hd2 e (Nat.zero_le _) hlt), fun e _ _ => hfalse e, C1, ⟨rfl, rfl, fun i _ _ hs => absurd hs (hfalse i), fun _ _ => rfl⟩, act⟩

/-- The canonical run, so deep. -/
def Lv (P : Program) : Nat → Lvl := lvl P (RunDraw P)
theorem snd (G : Good P) (n : Nat) : Snd P n₀ (Lv P n) := snd_lvl G (fun _ hL => snd_draw G hL) n
end
end Go.Abs
/-
  ABS 21: deeper levels know more; a run of the canonical world, and what it says of the machine.
-/
namespace Go.Abs
section
variable {P : Program}

structure Lvl.le (L M : Lvl) : Prop where
  calls : ∀ f xs A v A', L.calls f xs A v A' → M.calls f xs A v A'
  rounds : ∀ l ts as bd A v A', L.rounds l ts as bd A v A' → M.rounds l ts as bd A v A'
  codes : ∀ ro c a A e a' A', L.codes ro c a A e a' A' → M.codes ro c a A e a' A'
  loops : ∀ ro c a A e a' A', L.loops ro c a A e a' A' → M.loops ro c a A e a' A'

variable {L M : Lvl}
theorem RunOp.mono (h : L.le M) {o : Oper} {a : Act} {A A' : World} {v : Value} (r : RunOp P L o a A v A') : RunOp P M o a A v A' := by
  obtain ⟨nx, A1, h1, h2⟩ := r
  refine ⟨nx, A1, h1, ?_⟩
  cases nx <;> simp only at h2 ⊢ <;> first | exact h2 | exact h.calls _ _ _ _ _ h2 | exact h.rounds _ _ _ _ _ _ _ h2
theorem RunOps.mono (h : L.le M) {ops : Array Oper} : ∀ (l : List Nat) {a a' : Act} {A A' : World}, RunOps P L ops l a A a' A' → RunOps P M ops l a A a' A'
  | [], _, _, _, _, r => r
  | i :: rest, a, a', A, A', r => by
    simp only [RunOps] at r ⊢
    split
    · rename_i ho; rw [ho] at r; exact RunOps.mono h rest r
    · rename_i o ho
      rw [ho] at r
      simp only at r
      split
      · rename_i hw
        rw [if_pos hw] at r
        obtain ⟨v, A1, h1, h2⟩ := r
        exact ⟨v, A1, h1.mono h, RunOps.mono h rest h2⟩
      · rename_i hw
        rw [if_neg hw] at r
        exact RunOps.mono h rest r
theorem RunDraw.mono (h : L.le M) {ops : Array Oper} {a a' : Act} {A A' : World} (r : RunDraw P L ops a A a' A') : RunDraw P M ops a A a' A' := by
  obtain ⟨hr, T, h1, h2, h3, h4, h5⟩ := r
  refine ⟨hr, T, h1, h2, h3, h4, fun i o ho => ?_⟩
  obtain ⟨q1, q2⟩ := h5 i o ho
  refine ⟨q1, ?_⟩
  split
  · rename_i hw
    rw [if_pos hw] at q2
    split
    · rename_i hk; rw [hk] at q2; exact q2
    · rename_i hk; rw [hk] at q2; exact q2
    · rename_i hk; rw [hk] at q2; exact q2.mono h
  · rename_i hw
    rw [if_neg hw] at q2
    exact q2
theorem thenStep.mono {R R' : Act → World → Exit → Act → World → Prop} (h : ∀ a A e a' A', R a A e a' A' → R' a A e a' A') {e1 e : Exit} {a1 a' : Act} {A1 A' : World} (r : thenStep e1 a1 A1 R e a' A') : thenStep e1 a1 A1 R' e a' A' := by
  cases e1 <;> first | exact h _ _ _ _ _ r | exact r
theorem Lv_le : ∀ n, (Lv P n).le (Lv P (n + 1))
  | 0 => ⟨fun _ _ _ _ _ h => h.elim, fun _ _ _ _ _ _ _ h => h.elim, fun _ _ _ _ _ _ _ h => h.elim, fun _ _ _ _ _ _ _ h => h.elim⟩
  | n + 1 => by
    have h := Lv_le n
    refine ⟨?_, ?_, ?_, ?_⟩
    · rintro f xs A v A' ⟨fn, c, e, a1, A1, h1, h2, h3, h4⟩
      exact ⟨fn, c, e, a1, A1, h1, h2, h.codes _ _ _ _ _ _ _ h3, h4⟩
    · rintro l ts as bd A v A' ⟨a1, A1, A2, e, a3, A3, j, h1, h2, h3, h4⟩
      exact ⟨a1, A1, A2, e, a3, A3, j, h.codes _ _ _ _ _ _ _ h1, h2, h.codes _ _ _ _ _ _ _ h3, h4⟩
    · intro ro c a A e a' A' r
      cases c with
      | seq x y =>
        obtain ⟨e1, a1, A1, h1, h2⟩ := r
        exact ⟨e1, a1, A1, h.codes _ _ _ _ _ _ _ h1, h2.mono fun _ _ _ _ _ q => h.codes _ _ _ _ _ _ _ q⟩
      | cond c x y =>
        obtain ⟨b, h1, h2⟩ := r
        exact ⟨b, h1, h.codes _ _ _ _ _ _ _ h2⟩
      | block id x =>
        obtain ⟨e1, h1, h2⟩ := r
        exact ⟨e1, h.codes _ _ _ _ _ _ _ h1, h2⟩
      | loop x => exact h.loops _ _ _ _ _ _ _ r
      | region id ops draw =>
        cases draw with
        | false => exact ⟨r.1, r.2.mono h⟩
        | true => exact ⟨r.1, r.2.mono h⟩
      | rangeFunc g ps as bd =>
        obtain ⟨l, mark, A1, f, first, cap, fn, code, v, A2, jump, A3, h1, h2, h3, h4, h5, h6, h7, h8⟩ := r
        refine ⟨l, mark, A1, f, first, cap, fn, code, v, A2, jump, A3, h1, h2, h3, h4, h5, h.calls _ _ _ _ _ h6, h7, ?_⟩
        cases jump with
        | none => exact h8
        | some c => exact h.codes _ _ _ _ _ _ _ h8
      | _ => exact r
    · rintro ro c a A e a' A' ⟨e1, a1, A1, h1, h2⟩
      exact ⟨e1, a1, A1, h.codes _ _ _ _ _ _ _ h1, h2.mono fun _ _ _ _ _ q => h.loops _ _ _ _ _ _ _ q⟩
theorem Lvl.le.trans {L M N : Lvl} (h : L.le M) (k : M.le N) : L.le N :=
  ⟨fun _ _ _ _ _ q => k.calls _ _ _ _ _ (h.calls _ _ _ _ _ q), fun _ _ _ _ _ _ _ q => k.rounds _ _ _ _ _ _ _ (h.rounds _ _ _ _ _ _ _ q), fun _ _ _ _ _ _ _ q => k.codes _ _ _ _ _ _ _ (h.codes _ _ _ _ _ _ _ q), fun _ _ _ _ _ _ _ q => k.loops _ _ _ _ _ _ _ (h.loops _ _ _ _ _ _ _ q)⟩
theorem Lv_mono {m n : Nat} (h : m ≤ n) : (Lv P m).le (Lv P n) := by
  obtain ⟨d, rfl⟩ := Nat.exists_eq_add_of_le h
  induction d with
  | zero => exact ⟨fun _ _ _ _ _ q => q, fun _ _ _ _ _ _ _ q => q, fun _ _ _ _ _ _ _ q => q, fun _ _ _ _ _ _ _ q => q⟩
  | succ d ih => exact (ih (Nat.le_add_right _ _)).trans (Lv_le _)

/-- The world as the canonical run finds it at a call's start: all that lies there may be read, nothing be written. -/
def sealed (W : World) : World := { W with heap := W.heap.map fun | .cells c t _ => .cells c t (0, c.size + 1) | _ => .cells #[] 0 (2, 0) }
def idRen (n : Nat) : Ren := fun b => if b < n then some ⟨b, 0, none⟩ else none

/-- What a block's cells may hold that a call is handed: addresses of blocks that are there. -/
def ReadOk (P : Program) (W : World) : Prop := ∀ (b : Nat) (c : Array Value) t fz, W.heap[b]? = some (.cells c t fz) → ∀ (i : Nat) v, c[i]? = some v → VRel P (idRen W.heap.size) v v

/-- FROM A CLOSED CALL: from a world without a block. -/
theorem closed_call (G : Good P) {n : Nat} {f : FuncId} {v : Value} {A' : World} (h : (Lv P n).calls f #[] (tombs 0) v A') (W : World) :
    Calls P f #[] W fun e W' => ∃ ι' v', e = .returned v' ∧ VRel P ι' v v' ∧ (∀ b, b < W.heap.size → W'.heap[b]? = W.heap[b]?) ∧ W.heap.size ≤ W'.heap.size ∧ W'.os = W.os ∧ W'.tape = W.tape ∧ W'.output = W.output := by
  have S : Sim P W.heap.size (fun _ => none) (tombs 0) W := ⟨fun b e o hb => (by cases hb), fun b b' e e' o o' hb => (by cases hb), fun b e hb => (by cases hb), Nat.le_refl _⟩
  have hc := ((snd G n).calls _ _ _ _ _ h).2 _ W #[] S .empty ⟨by rw [tombs_size]; exact Nat.zero_le _, fun b _ _ => rfl⟩
  have hc' := callsIn_wide.1 hc
  refine hc'.mono ?_
  rintro e W' ⟨ι', v', rfl, S', M, V⟩
  exact ⟨ι', v', rfl, V, fun b hb => M.keep b hb (fun k e o hk => by cases hk), M.wsz, M.os, M.tape, M.output⟩
end
end Go.Abs
