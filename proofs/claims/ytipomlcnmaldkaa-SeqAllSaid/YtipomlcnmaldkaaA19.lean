/-
  ABS 19: a region that draws its order: soundness.
-/
import Derived.Test.YtipomlcnmaldkaaA18
namespace Go.Abs
section
variable {P : Program} {n₀ : Nat} {L : Lvl} {ops : Array Oper} {T : Trace}

/-- A world of so many blocks, all of them left behind. -/
def tombs (n : Nat) : World := { (default : World) with heap := Array.replicate n (.cells #[] 0 (2, 0)) }
theorem tombs_size (n : Nat) : (tombs n).heap.size = n := by simp [tombs]
theorem tombs_some {n k : Nat} {o : Obj} (h : (tombs n).heap[k]? = some o) : o = .cells #[] 0 (2, 0) := by
  simp only [tombs, Array.getElem?_replicate] at h
  split at h
  · cases h; rfl
  · cases h
theorem Sim.tombs {ι : Ren} {A W : World} (S : Sim P n₀ ι A W) (n : Nat) : Sim P n₀ ι (Abs.tombs n) W where
  obj b e o _ ho := by rw [tombs_some ho]; exact .inl ⟨rfl, rfl⟩
  inj b b' e e' o o' _ _ ho _ hw _ _ := by rw [tombs_some ho] at hw; simp [wr] at hw
  dom := S.dom
  lo := S.lo

/-- A new block, made on the other side too: it lies beyond all that was there. -/
theorem makes_run (G : Good P) {ι : Ren} {W : World} {A : World} (S : Sim P n₀ ι A W) {ρ ρ' : Operand → Value} {o : Oper} {id : Nat} {obj : Obj} {v : Value} (hk : kindOf o.op = .makes) (hρ : ∀ x ∈ o.op.operands, VRel P ι (ρ x) (ρ' x))
    (hrun : ∀ w : World, w.heap.size = id → RegOk P w ρ o.op ∧ (execOp ρ o).run P w = .ok (.value v) (w.alloc obj)) (hid : ι id = none) (hv : newVal v id) :
    ∃ ι1 v' W1 e, (execOp ρ' o).run P W = .ok (.value v') W1 ∧ ι.le ι1 ∧ (∀ k, k ≠ id → ι1 k = ι k) ∧ ι1 id = some e ∧ W.heap.size ≤ e.blk ∧ e.blk < W1.heap.size ∧ ORel P n₀ ι1 e W1 obj ∧ VRel P ι1 v v' ∧
      (∀ k, k < W.heap.size → W1.heap[k]? = W.heap[k]?) ∧ W.heap.size ≤ W1.heap.size ∧ W1.os = W.os ∧ W1.tape = W.tape ∧ W1.output = W.output := by
  have S0 := S.tombs id
  obtain ⟨hok, hr⟩ := hrun (tombs id) (tombs_size id)
  have hgr : GrAll P ι ρ o.op := by
    cases ho : o.op <;> rw [ho] at hk <;> first | trivial | (simp [kindOf] at hk)
  obtain ⟨ι1, nx, W1, r1, S1, M1, N1⟩ := RS.reg G hρ hok hgr (tombs id) W _ _ S0 hr (fun b h1 h2 => by
    simp only [World.size_alloc, tombs_size] at h1 h2
    have : b = id := by omega
    rw [this]; exact hid)
  cases nx <;> simp only [NRel] at N1
  rename_i v'
  have hkeys : ∀ k, k ≠ id → ι1 k = ι k := by
    intro k hne
    cases h0 : ι k with
    | some e => exact M1.le k e h0
    | none =>
      cases h1 : ι1 k with
      | none => rfl
      | some e => have := M1.news k e h0 h1; simp only [World.size_alloc, tombs_size] at this; omega
  have hex : ∃ e, ι1 id = some e := by
    rcases hv with rfl | ⟨l, c, rfl⟩ | rfl
    · cases N1 with
      | ptr h => obtain ⟨_, _, e, h, _⟩ := h; exact ⟨e, h⟩
    · cases N1 with
      | slice h =>
        rcases h with ⟨⟨_, _, e, h, _⟩, _⟩ | ⟨_, _, _, e, _, h, _⟩
        · exact ⟨e, h⟩
        · exact ⟨e, h⟩
    · cases N1 with
      | map h _ => exact ⟨_, h⟩
  obtain ⟨e, he⟩ := hex
  have hfresh : W.heap.size ≤ e.blk := by
    rcases M1.fresh id e hid he with h | ⟨k0, e0, o0, _, h, hw, _⟩
    · exact h
    · rw [tombs_some h] at hw; simp [wr] at hw
  refine ⟨ι1, v', W1, e, r1, M1.le, hkeys, he, hfresh, S1.dom _ _ he, ?_, N1, ?_, M1.wsz, M1.os, M1.tape, M1.output⟩
  · refine S1.obj id e obj he ?_
    have := heap_alloc_self (tombs id) obj
    rw [tombs_size] at this
    exact this
  · intro k hk
    refine M1.keep k hk fun q eq oq _ h hw => ?_
    rw [tombs_some h] at hw; simp [wr] at hw

theorem Core.make {ι0 ι ι1 : Ren} {W0 W W1 : World} {S S' : Nat → Prop} {m i : Nat} {obj : Obj} {e : Ent} (hm : ∀ i k, i ≤ k → k ≤ ops.size → (T.ws i).heap.size ≤ (T.ws k).heap.size)
    (C : Core P n₀ ops T ι0 W0 S m ι W) (hmk : Mk P ops T i obj) (hS : ∀ k, S' k ↔ (S k ∨ k = i)) (hi : ¬ S i)
    (hle : ι.le ι1) (hkeys : ∀ k, k ≠ (T.ws i).heap.size → ι1 k = ι k) (he : ι1 (T.ws i).heap.size = some e) (hfr : W.heap.size ≤ e.blk) (hlt : e.blk < W1.heap.size) (ho : ORel P n₀ ι1 e W1 obj)
    (hkeep : ∀ k, k < W.heap.size → W1.heap[k]? = W.heap[k]?) (hsz : W.heap.size ≤ W1.heap.size) (hos : W1.os = W.os) (htp : W1.tape = W.tape) (hout : W1.output = W.output)
    (hcert : i < m → (T.ws m).heap[(T.ws i).heap.size]? = some obj) (hmi : m ≤ i → (T.ws m).heap.size ≤ (T.ws i).heap.size) : Core P n₀ ops T ι0 W0 S' m ι1 W1 := by
  have hidn := C.late i obj hi hmk
  have hblk : ∀ k ek, k ≠ (T.ws i).heap.size → ι1 k = some ek → ek.blk < W.heap.size := fun k ek hne hk => C.sim.dom k ek (by rw [← hkeys k hne]; exact hk)
  have hat : ∀ oq, (T.ws m).heap[(T.ws i).heap.size]? = some oq → oq = obj := by
    intro oq h
    by_cases h1 : i < m
    · rw [hcert h1] at h; cases h; rfl
    · have := (Array.getElem?_eq_some_iff.1 h).1
      have := hmi (by omega)
      omega
  refine ⟨⟨?_, ?_, ?_, ?_⟩, ?_, ?_, ?_, ?_⟩
  · intro b x q hb hq
    by_cases h : b = (T.ws i).heap.size
    · subst h; rw [he] at hb; cases hb; rw [hat q hq]; exact ho
    · exact (C.sim.obj b x q (by rw [← hkeys b h]; exact hb) hq).later hle (hkeep _ (hblk b x h hb))
  · intro b b' x x' q q' hb hb' hq hq' hw ha hbk
    by_cases h : b = (T.ws i).heap.size <;> by_cases h' : b' = (T.ws i).heap.size
    · rw [h, h']
    · subst h; rw [he] at hb; cases hb
      have := hblk b' x' h' hb'; omega
    · subst h'; rw [he] at hb'; cases hb'
      have := hblk b x h hb; omega
    · exact C.sim.inj b b' x x' q q' (by rw [← hkeys b h]; exact hb) (by rw [← hkeys b' h']; exact hb') hq hq' hw ha hbk
  · intro b x hb
    by_cases h : b = (T.ws i).heap.size
    · subst h; rw [he] at hb; cases hb; exact hlt
    · have := hblk b x h hb; omega
  · have := C.sim.lo; omega
  · intro k objk hs hle' hmkk
    by_cases hki : k = i
    · subst hki
      obtain ⟨o1, h1, _, _, h2, _⟩ := hmk
      obtain ⟨o2, h3, _, _, h4, _⟩ := hmkk
      have : objk = obj := by
        rw [h2] at h4
        have h5 : ((T.ws k).alloc obj).heap[(T.ws k).heap.size]? = ((T.ws k).alloc objk).heap[(T.ws k).heap.size]? := by rw [h4]
        rw [heap_alloc_self, heap_alloc_self] at h5
        cases h5; rfl
      subst this
      refine ⟨e, he, ho, by have := C.mv.wsz; omega, fun q eq hq hne => ?_⟩
      have := hblk q eq hne hq; omega
    · have hs' : S k := by
        rcases (hS k).1 hs with h | h
        · exact h
        · exact absurd h hki
      obtain ⟨e', q1, q2, q3, q4⟩ := C.early k objk hs' hle' hmkk
      have hne := Mk.id_ne hm hmkk hmk hki
      refine ⟨e', by rw [hkeys _ hne]; exact q1, q2.later hle (hkeep _ (C.sim.dom _ _ q1)), q3, fun q eq hq hne' => ?_⟩
      by_cases hqi : q = (T.ws i).heap.size
      · subst hqi; rw [he] at hq; cases hq
        have := C.sim.dom _ _ q1; omega
      · exact q4 q eq (by rw [← hkeys q hqi]; exact hq) hne'
  · intro k objk hs hmkk
    have hki : k ≠ i := fun h => hs ((hS k).2 (.inr h))
    rw [hkeys _ (Mk.id_ne hm hmkk hmk hki)]
    exact C.late k objk (fun h => hs ((hS k).2 (.inl h))) hmkk
  · intro k h1 h2 h3
    rw [hkeys k (h3 i obj ((hS i).2 (.inr rfl)) hmk)]
    exact C.free k h1 h2 fun q objq hs hmkq => h3 q objq ((hS q).2 (.inl hs)) hmkq
  · refine ⟨C.mv.le.trans hle, ?_, ?_, ?_, ?_, C.mv.asz, Nat.le_trans C.mv.wsz hsz, hos.trans C.mv.os, htp.trans C.mv.tape, hout.trans C.mv.output⟩
    · intro b x hb hx
      by_cases h : b = (T.ws i).heap.size
      · subst h
        have h1 := hm 0 i (Nat.zero_le _) (Nat.le_of_lt hmk.sz)
        have h2 := hmk.lt
        have h3 := hm (i + 1) ops.size hmk.sz (Nat.le_refl _)
        omega
      · rw [hkeys b h] at hx; exact C.mv.news b x hb hx
    · intro b hb hn
      rw [hkeep b (Nat.lt_of_lt_of_le hb C.mv.wsz)]
      exact C.mv.keep b hb hn
    · intro k x q hk hq hw hlt'
      by_cases h : k = (T.ws i).heap.size
      · subst h; rw [he] at hk; cases hk
        have := C.mv.wsz; omega
      · exact C.mv.img k x q (by rw [← hkeys k h]; exact hk) hq hw hlt'
    · intro k x hk hx
      by_cases h : k = (T.ws i).heap.size
      · subst h; rw [he] at hx; cases hx
        exact .inl (Nat.le_trans C.mv.wsz hfr)
      · rw [hkeys k h] at hx; exact C.mv.fresh k x hk hx
end
end Go.Abs
