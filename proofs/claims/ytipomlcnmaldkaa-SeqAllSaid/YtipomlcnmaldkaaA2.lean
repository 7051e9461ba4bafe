/-
  ABS 2: the relation on worlds, and what a step does to it; the primitives of the model's operations, each at two related worlds.
-/
import Derived.Test.YtipomlcnmaldkaaA1
namespace Go.Abs

def wr : Obj → Bool
  | .cells _ _ fz => !(decide (fz.1 < fz.2)) && fz.1 != 2
  | _ => true
/-- A block that an append has left behind: marked (2, 0), empty. -/
def alive : Obj → Bool
  | .cells _ _ fz => !(!(decide (fz.1 < fz.2)) && fz.1 == 2)
  | _ => true
theorem alive_of_wr {o : Obj} (h : wr o = true) : alive o = true := by cases o <;> simp_all [wr, alive]

structure EntryRel (P : Program) (ι : Ren) (x y : MapEntry) : Prop where
  key : VRel P ι x.key y.key
  val : VRel P ι x.val y.val
  born : x.born = y.born
def EsRel (P : Program) (ι : Ren) (es es' : Array MapEntry) : Prop := es.size = es'.size ∧ ∀ (i : Nat) (x y : MapEntry), es[i]? = some x → es'[i]? = some y → EntryRel P ι x y
structure LRel (P : Program) (ι : Ren) (l l' : Loop) : Prop where
  state : l'.state = l.state
  pending : l'.pending = l.pending
  tmps : Vs P ι l.tmps l'.tmps
  params : l'.params = l.params
  assign : l'.assign = l.assign
  body : l'.body = l.body
  ok : codeOk l.assign = true ∧ codeOk l.body = true ∧ ∀ c, l.pending = some c → codeOk c = true
  defers : ∃ e, ι l.defers = some e ∧ e.sh = 0 ∧ l'.defers = e.blk

def ObjRel (P : Program) (ι : Ren) : Obj → Obj → Prop
  | .map es c, .map es' c' => c' = c ∧ EsRel P ι es es'
  | .loop l, .loop l' => LRel P ι l l'
  | .deferred ds, .deferred ds' => ds' = ds ∧ (ds = some [] ∨ ds = none)
  | _, _ => False

def ORel (P : Program) (n₀ : Nat) (ι : Ren) (e : Ent) (W : World) : Obj → Prop
  | .cells c t fz => (fz = (2, 0) ∧ c = #[]) ∨ ∃ c' t' fz', W.heap[e.blk]? = some (.cells c' t' fz') ∧ (∀ (i : Nat) x, c[i]? = some x → ∃ x', c'[i + e.sh]? = some x' ∧ VRel P ι x x') ∧
      (fz = (0, 0) ∨ fz = (1, 0) ∨ (fz.1 = 0 ∧ c.size < fz.2)) ∧ (¬ fz.1 < fz.2 → n₀ ≤ e.blk ∧ ¬ fz'.1 < fz'.2) ∧
      (fz = (1, 0) → e.gr = some (t, c'.size)) ∧ (fz ≠ (1, 0) → e.gr = none)
  | o => e.sh = 0 ∧ n₀ ≤ e.blk ∧ ∃ o', W.heap[e.blk]? = some o' ∧ ObjRel P ι o o'

structure Sim (P : Program) (n₀ : Nat) (ι : Ren) (A W : World) : Prop where
  obj : ∀ b e o, ι b = some e → A.heap[b]? = some o → ORel P n₀ ι e W o
  inj : ∀ b b' e e' o o', ι b = some e → ι b' = some e' → A.heap[b]? = some o → A.heap[b']? = some o' → wr o = true → alive o' = true → e.blk = e'.blk → b = b'
  dom : ∀ b e, ι b = some e → e.blk < W.heap.size
  lo : n₀ ≤ W.heap.size

/-- What may have turned: nothing but what the canonical world lets be written. -/
structure Moves (P : Program) (ι : Ren) (A W : World) (ι' : Ren) (A' W' : World) : Prop where
  le : ι.le ι'
  news : ∀ b e, ι b = none → ι' b = some e → A.heap.size ≤ b ∧ b < A'.heap.size
  keep : ∀ b, b < W.heap.size → (∀ k e o, ι k = some e → A.heap[k]? = some o → wr o = true → e.blk ≠ b) → W'.heap[b]? = W.heap[b]?
  img : ∀ k e o, ι' k = some e → A'.heap[k]? = some o → wr o = true → e.blk < W.heap.size → ∃ k0 e0 o0, ι k0 = some e0 ∧ A.heap[k0]? = some o0 ∧ wr o0 = true ∧ e0.blk = e.blk
  fresh : ∀ k e, ι k = none → ι' k = some e → W.heap.size ≤ e.blk ∨ ∃ k0 e0 o0, ι k0 = some e0 ∧ A.heap[k0]? = some o0 ∧ wr o0 = true ∧ e0.blk = e.blk
  asz : A.heap.size ≤ A'.heap.size
  wsz : W.heap.size ≤ W'.heap.size
  os : W'.os = W.os
  tape : W'.tape = W.tape
  output : W'.output = W.output

section
variable {P : Program} {n₀ : Nat} {ι ι' ι'' : Ren} {A A' A'' W W' W'' : World}

theorem Moves.refl : Moves P ι A W ι A W :=
  ⟨.refl ι, fun b e h h' => by rw [h] at h'; (cases h'), fun _ _ _ => rfl, fun k e o h h' hw _ => ⟨k, e, o, h, h', hw, rfl⟩, fun k e h h' => by rw [h] at h'; (cases h'), Nat.le_refl _, Nat.le_refl _, rfl, rfl, rfl⟩
theorem Moves.trans (h : Moves P ι A W ι' A' W') (k : Moves P ι' A' W' ι'' A'' W'') : Moves P ι A W ι'' A'' W'' where
  le := h.le.trans k.le
  news b e hb he := by
    cases hb' : ι' b with
    | none => have := k.news b e hb' he; have := h.asz; omega
    | some e' => have := h.news b e' hb hb'; have := k.asz; omega
  keep b hb hn := by
    rw [k.keep b (Nat.lt_of_lt_of_le hb h.wsz) ?_, h.keep b hb hn]
    intro q e o hq ho hw hbe
    obtain ⟨k0, e0, o0, x, y, z, u⟩ := h.img q e o hq ho hw (hbe ▸ hb)
    exact hn k0 e0 o0 x y z (u.trans hbe)
  img q e o hq ho hw hb := by
    obtain ⟨k1, e1, o1, x, y, z, u⟩ := k.img q e o hq ho hw (Nat.lt_of_lt_of_le hb h.wsz)
    obtain ⟨k0, e0, o0, x0, y0, z0, u0⟩ := h.img k1 e1 o1 x y z (u ▸ hb)
    exact ⟨k0, e0, o0, x0, y0, z0, u0.trans u⟩
  fresh q e hq he := by
    cases hq' : ι' q with
    | none =>
      rcases k.fresh q e hq' he with h1 | ⟨k1, e1, o1, x, y, z, u⟩
      · exact .inl (Nat.le_trans h.wsz h1)
      · by_cases hlt : e.blk < W.heap.size
        · obtain ⟨k0, e0, o0, x0, y0, z0, u0⟩ := h.img k1 e1 o1 x y z (u ▸ hlt)
          exact .inr ⟨k0, e0, o0, x0, y0, z0, u0.trans u⟩
        · exact .inl (by omega)
    | some e' =>
      have := k.le q e' hq'
      rw [he] at this; cases this
      exact h.fresh q e hq hq'
  asz := Nat.le_trans h.asz k.asz
  wsz := Nat.le_trans h.wsz k.wsz
  os := k.os.trans h.os
  tape := k.tape.trans h.tape
  output := k.output.trans h.output

theorem EsRel.mono (h : ι.le ι') {es es' : Array MapEntry} (r : EsRel P ι es es') : EsRel P ι' es es' := ⟨r.1, fun i x y a b => let q := r.2 i x y a b; ⟨q.key.mono h, q.val.mono h, q.born⟩⟩
theorem LRel.mono (h : ι.le ι') {l l' : Loop} (r : LRel P ι l l') : LRel P ι' l l' := ⟨r.state, r.pending, r.tmps.mono h, r.params, r.assign, r.body, r.ok, let ⟨e, a, b⟩ := r.defers; ⟨e, h _ _ a, b⟩⟩
theorem ObjRel.mono (h : ι.le ι') {o o' : Obj} (r : ObjRel P ι o o') : ObjRel P ι' o o' := by
  unfold ObjRel at *
  split at r
  · exact ⟨r.1, r.2.mono h⟩
  · exact LRel.mono h r
  · exact r
  · exact r.elim

/-- The relation of one object, at a greater renaming and a world in which its block is the same. -/
theorem ORel.later (h : ι.le ι') {e : Ent} {o : Obj} (hb : W'.heap[e.blk]? = W.heap[e.blk]?) (r : ORel P n₀ ι e W o) : ORel P n₀ ι' e W' o := by
  cases o with
  | cells c t fz =>
    rcases r with h0 | ⟨c', t', fz', h1, h2, h3⟩
    · exact .inl h0
    · exact .inr ⟨c', t', fz', hb.trans h1, fun i x hx => let ⟨x', p, q⟩ := h2 i x hx; ⟨x', p, q.mono h⟩, h3⟩
  | _ =>
    obtain ⟨h1, h2, o', h3, h4⟩ := r
    exact ⟨h1, h2, o', hb.trans h3, h4.mono h⟩

/-- A block laid on both sides. -/
def Ren.put (ι : Ren) (b : Nat) (e : Ent) : Ren := fun k => if k = b then some e else ι k
theorem Ren.put_self (ι : Ren) (b : Nat) (e : Ent) : ι.put b e b = some e := by simp [Ren.put]
theorem Ren.put_ne (ι : Ren) {b k : Nat} (e : Ent) (h : k ≠ b) : ι.put b e k = ι k := by simp [Ren.put, h]
theorem Ren.le_put {ι : Ren} {b : Nat} (e : Ent) (h : ι b = none) : ι.le (ι.put b e) := fun k x hk => by
  by_cases hkb : k = b
  · subst hkb; rw [h] at hk; cases hk
  · rw [Ren.put_ne _ _ hkb]; exact hk

theorem heap_alloc_lt (w : World) (o : Obj) {k : Nat} (h : k < w.heap.size) : (w.alloc o).heap[k]? = w.heap[k]? := by
  show (w.heap.push o)[k]? = _
  rw [Array.getElem?_push, if_neg (by omega)]
theorem heap_alloc_self (w : World) (o : Obj) : (w.alloc o).heap[w.heap.size]? = some o := by
  show (w.heap.push o)[_]? = _
  simp
theorem heap_alloc_some {w : World} {o x : Obj} {k : Nat} (h : (w.alloc o).heap[k]? = some x) : (k < w.heap.size ∧ w.heap[k]? = some x) ∨ (k = w.heap.size ∧ x = o) := by
  have h' : (w.heap.push o)[k]? = some x := h
  rw [Array.getElem?_push] at h'
  split at h'
  · rename_i e; cases h'; exact .inr ⟨e, rfl⟩
  · exact .inl ⟨(Array.getElem?_eq_some_iff.1 h').1, h'⟩

/-- A new block on both sides. -/
theorem Sim.alloc (S : Sim P n₀ ι A W) (hfree : ι A.heap.size = none) {o o' : Obj} {e : Ent} (he : e.blk = W.heap.size)
    (hr : ORel P n₀ (ι.put A.heap.size e) e (W.alloc o') o) : Sim P n₀ (ι.put A.heap.size e) (A.alloc o) (W.alloc o') where
  obj b x q hb hq := by
    rcases heap_alloc_some hq with ⟨hlt, hq'⟩ | ⟨rfl, rfl⟩
    · rw [Ren.put_ne _ _ (by omega)] at hb
      exact (S.obj b x q hb hq').later (Ren.le_put _ hfree) (heap_alloc_lt _ _ (S.dom b x hb))
    · rw [Ren.put_self] at hb; cases hb; exact hr
  inj b b' x x' q q' hb hb' hq hq' hw ha hblk := by
    rcases heap_alloc_some hq with ⟨hlt, h1⟩ | ⟨rfl, rfl⟩ <;> rcases heap_alloc_some hq' with ⟨hlt', h1'⟩ | ⟨rfl, rfl⟩
    · rw [Ren.put_ne _ _ (by omega)] at hb; rw [Ren.put_ne _ _ (by omega)] at hb'
      exact S.inj b b' x x' q q' hb hb' h1 h1' hw ha hblk
    · rw [Ren.put_ne _ _ (by omega)] at hb; rw [Ren.put_self] at hb'; cases hb'
      have := S.dom b x hb; omega
    · rw [Ren.put_self] at hb; cases hb; rw [Ren.put_ne _ _ (by omega)] at hb'
      have := S.dom b' x' hb'; omega
    · rfl
  dom b x hb := by
    by_cases h : b = A.heap.size
    · subst h; rw [Ren.put_self] at hb; cases hb; simp [he]
    · rw [Ren.put_ne _ _ h] at hb; have := S.dom b x hb; simp; omega
  lo := by have := S.lo; simp; omega
theorem Moves.alloc (hfree : ι A.heap.size = none) {o o' : Obj} {e : Ent} (he : e.blk = W.heap.size) : Moves P ι A W (ι.put A.heap.size e) (A.alloc o) (W.alloc o') where
  le := Ren.le_put _ hfree
  news b x hb hx := by
    by_cases h : b = A.heap.size
    · subst h; simp
    · rw [Ren.put_ne _ _ h, hb] at hx; cases hx
  keep b hb _ := heap_alloc_lt _ _ hb
  img k x q hk hq hw hb := by
    rcases heap_alloc_some hq with ⟨hlt, h1⟩ | ⟨rfl, rfl⟩
    · rw [Ren.put_ne _ _ (by omega)] at hk; exact ⟨k, x, q, hk, h1, hw, rfl⟩
    · rw [Ren.put_self] at hk; cases hk; omega
  fresh k x hk hx := by
    by_cases h : k = A.heap.size
    · subst h; rw [Ren.put_self] at hx; cases hx; exact .inl (by omega)
    · rw [Ren.put_ne _ _ h, hk] at hx; cases hx
  asz := by simp
  wsz := by simp
  os := rfl
  tape := rfl
  output := rfl

/-- One block of each turns; the renaming stays. -/
theorem heap_modify_self {h : Array Obj} {b : Nat} {o : Obj} {f : Obj → Obj} (hb : h[b]? = some o) : (h.modify b f)[b]? = some (f o) := by simp [Array.getElem?_modify, hb]
theorem heap_modify_ne {h : Array Obj} {b k : Nat} {f : Obj → Obj} (hne : k ≠ b) : (h.modify b f)[k]? = h[k]? := by
  rw [Array.getElem?_modify, if_neg (fun x => hne x.symm)]

theorem Sim.turn (S : Sim P n₀ ι A W) {b : Nat} {e : Ent} {o q : Obj} (hb : ι b = some e) (ho : A.heap[b]? = some o) (hw : wr o = true)
    (hA : A'.heap[b]? = some q) (hAo : ∀ k, k ≠ b → A'.heap[k]? = A.heap[k]?) (hWo : ∀ k, k ≠ e.blk → W'.heap[k]? = W.heap[k]?) (hsz : W'.heap.size = W.heap.size)
    (hr : ORel P n₀ ι e W' q) : Sim P n₀ ι A' W' where
  obj k x y hk hy := by
    by_cases h : k = b
    · subst h; rw [hb] at hk; cases hk; rw [hA] at hy; cases hy; exact hr
    · rw [hAo k h] at hy
      by_cases hc : alive y = true
      · exact (S.obj k x y hk hy).later (.refl ι) (hWo _ fun hx => h (S.inj b k e x o y hb hk ho hy hw hc hx.symm).symm)
      · have R := S.obj k x y hk hy
        cases y <;> simp [alive] at hc
        rcases R with h0 | ⟨c', t', fz', h1, h2, h3, _⟩
        · exact .inl h0
        · rcases h3 with rfl | rfl | h3
          · simp at hc
          · simp at hc
          · omega
  inj k k' x x' y y' hk hk' hy hy' hw' ha hblk := by
    by_cases h : k = b <;> by_cases h' : k' = b
    · rw [h, h']
    · subst h; rw [hAo k' h'] at hy'; exact S.inj k k' x x' o y' hk hk' ho hy' hw ha hblk
    · subst h'; rw [hAo k h] at hy; exact S.inj k k' x x' y o hk hk' hy ho hw' (alive_of_wr hw) hblk
    · rw [hAo k h] at hy; rw [hAo k' h'] at hy'; exact S.inj k k' x x' y y' hk hk' hy hy' hw' ha hblk
  dom k x hk := by rw [hsz]; exact S.dom k x hk
  lo := by rw [hsz]; exact S.lo
theorem Moves.turn {b : Nat} {e : Ent} {o : Obj} (hb : ι b = some e) (ho : A.heap[b]? = some o) (hw : wr o = true)
    (hAo : ∀ k, k ≠ b → A'.heap[k]? = A.heap[k]?) (hWo : ∀ k, k ≠ e.blk → W'.heap[k]? = W.heap[k]?) (hsz : W'.heap.size = W.heap.size) (hasz : A'.heap.size = A.heap.size)
    (hos : W'.os = W.os) (ht : W'.tape = W.tape) (hout : W'.output = W.output) : Moves P ι A W ι A' W' where
  le := .refl ι
  news k x hk hx := by rw [hk] at hx; cases hx
  keep k _ hn := hWo k fun h => hn b e o hb ho hw h.symm
  img k x y hk hy hw' _ := by
    by_cases h : k = b
    · subst h; rw [hb] at hk; cases hk; exact ⟨k, e, o, hb, ho, hw, rfl⟩
    · rw [hAo k h] at hy; exact ⟨k, x, y, hk, hy, hw', rfl⟩
  fresh k x hk hx := by rw [hk] at hx; cases hx
  asz := by rw [hasz]; exact Nat.le_refl _
  wsz := by rw [hsz]; exact Nat.le_refl _
  os := hos
  tape := ht
  output := hout
end

/-- Two operations at two related worlds: whatever the canonical one comes to, the other comes to something related. -/
def RS {α β : Type} (P : Program) (n₀ : Nat) (ι : Ren) (R : Ren → α → β → Prop) (s : Sem α) (s' : Sem β) : Prop :=
  ∀ A W r A', Sim P n₀ ι A W → s.run P A = .ok r A' → (∀ b, A.heap.size ≤ b → b < A'.heap.size → ι b = none) →
    ∃ ι' r' W', s'.run P W = .ok r' W' ∧ Sim P n₀ ι' A' W' ∧ Moves P ι A W ι' A' W' ∧ R ι' r r'

section
variable {P : Program} {n₀ : Nat} {ι : Ren}

theorem RS.pure {α β : Type} {R : Ren → α → β → Prop} {r : α} {r' : β} (h : R ι r r') : RS P n₀ ι R (Pure.pure r : Sem α) (Pure.pure r') := by
  intro A W x A' S hr _
  simp at hr; obtain ⟨rfl, rfl⟩ := hr
  exact ⟨ι, r', W, rfl, S, .refl, h⟩
theorem RS.bind {α β γ δ : Type} {R : Ren → α → β → Prop} {R' : Ren → γ → δ → Prop} {s : Sem α} {s' : Sem β} {k : α → Sem γ} {k' : β → Sem δ}
    (h : RS P n₀ ι R s s') (hk : ∀ ι', ι.le ι' → ∀ r r', R ι' r r' → RS P n₀ ι' R' (k r) (k' r')) : RS P n₀ ι R' (s >>= k) (s' >>= k') := by
  intro A W x A' S hr hf
  rw [Sem.run_bind] at hr
  cases h1 : s.run P A with
  | halt q w => rw [h1] at hr; cases hr
  | ok r A1 =>
    rw [h1] at hr
    have hs1 := run_size P s A r A1 h1
    have hr' : (k r).run P A1 = .ok x A' := hr
    have hs2 := run_size P (k r) A1 x A' hr'
    obtain ⟨ι1, r1, W1, e1, S1, M1, R1⟩ := h A W r A1 S h1 (fun b a c => hf b a (by omega))
    obtain ⟨ι2, r2, W2, e2, S2, M2, R2⟩ := hk ι1 M1.le r r1 R1 A1 W1 x A' S1 hr' (fun b a c => by
      have h0 := hf b (by omega) c
      cases hb : ι1 b with
      | none => rfl
      | some e => have := M1.news b e h0 hb; omega)
    exact ⟨ι2, r2, W2, by rw [Sem.run_bind, e1]; exact e2, S2, M1.trans M2, R2⟩
theorem RS.mono {α β : Type} {R R' : Ren → α → β → Prop} {s : Sem α} {s' : Sem β} (h : RS P n₀ ι R s s') (hR : ∀ ι', ι.le ι' → ∀ r r', R ι' r r' → R' ι' r r') : RS P n₀ ι R' s s' := by
  intro A W x A' S hr hf
  obtain ⟨ι', r', W', a, b, c, d⟩ := h A W x A' S hr hf
  exact ⟨ι', r', W', a, b, c, hR ι' c.le _ _ d⟩
theorem RS.halt {α β : Type} {R : Ren → α → β → Prop} (q : Halt) {s' : Sem β} : RS P n₀ ι R (Sem.halt q : Sem α) s' := by
  intro A W x A' S hr _; cases hr
theorem RS.stuck {α β : Type} {R : Ren → α → β → Prop} (q : String) {s' : Sem β} : RS P n₀ ι R (Go.stuck q : Sem α) s' := RS.halt _
theorem RS.unsupported {α β : Type} {R : Ren → α → β → Prop} (q : Unsupported) {s' : Sem β} : RS P n₀ ι R (Go.unsupported q : Sem α) s' := RS.halt _
theorem RS.program : RS P n₀ ι (fun _ p p' => p = P ∧ p' = P) program program := by
  intro A W x A' S hr _
  have : x = P ∧ A' = A := by simp [Go.program, Sem.run] at hr; exact ⟨hr.1.symm, hr.2.symm⟩
  obtain ⟨rfl, rfl⟩ := this
  exact ⟨ι, x, W, rfl, S, .refl, rfl, rfl⟩
/-- An operation that asks nothing but the program. -/
theorem RS.same {α : Type} {s : Sem α} (h : ∀ w, (∃ r, ∀ w', s.run P w' = .ok r w') ∨ (∀ r w', s.run P w ≠ .ok r w')) : RS P n₀ ι (fun _ r r' => r' = r) s s := by
  intro A W x A' S hr _
  rcases h A with ⟨r, h⟩ | h
  · have := h A; rw [hr] at this; cases this
    exact ⟨ι, x, W, h W, S, .refl, rfl⟩
  · exact absurd hr (h _ _)
theorem RS.typeInfo (t : TypeId) : RS P n₀ ι (fun _ r r' => r' = r ∧ P.info? t = some r) (typeInfo t) (typeInfo t) := by
  intro A W x A' S hr _
  simp only [Go.typeInfo, Go.program, Sem.run_bind, Sem.run, Result.andThen] at hr ⊢
  cases h : P.info? t with
  | none => rw [h] at hr; cases hr
  | some i => rw [h] at hr; cases hr; exact ⟨ι, x, W, by rfl, S, .refl, rfl, rfl⟩
theorem RS.underlying (t : TypeId) : RS P n₀ ι (fun _ r r' => r' = r ∧ P.underlying t = some r) (underlying t) (underlying t) := by
  intro A W x A' S hr _
  simp only [Go.underlying, Go.program, Sem.run_bind, Sem.run, Result.andThen] at hr ⊢
  cases h : P.underlying t with
  | none => rw [h] at hr; cases hr
  | some i => rw [h] at hr; cases hr; exact ⟨ι, x, W, by rfl, S, .refl, rfl, rfl⟩
theorem RS.sizeOf (t : TypeId) : RS P n₀ ι (fun _ r r' => r' = r ∧ r = P.cellsOf t) (Go.sizeOf t) (Go.sizeOf t) :=
  (RS.typeInfo t).bind fun ι' _ r r' ⟨h, h'⟩ => .pure ⟨by rw [h], by simp [Program.cellsOf, h']⟩
theorem RS.isAgg (t : TypeId) : RS P n₀ ι (fun _ r r' => r' = r) (Go.isAgg t) (Go.isAgg t) :=
  (RS.underlying t).bind fun ι' _ r r' ⟨h, _⟩ => by subst h; split <;> exact .pure rfl

theorem RS.load {a a' : Addr} (h : ARel ι a a') : RS P n₀ ι (VRel P) (Go.load a) (Go.load a') := by
  intro A W x A' S hr _
  obtain ⟨hs, hs', e, he, hb, ho⟩ := h
  cases hx : A.heap[a.block]? with
  | none => simp [World.cell?, hx, World.farLoad] at hr
  | some o =>
    have R := S.obj _ _ _ he hx
    cases o with
    | cells c t fz =>
      cases hc : c[a.off]? with
      | none => simp [World.cell?, hx, hs, hc, World.farLoad] at hr
      | some v =>
        obtain ⟨c', t', fz', h1, h2, h3⟩ := R.resolve_left (fun h => by rw [h.2] at hc; simp at hc)
        obtain ⟨v', h4, h5⟩ := h2 _ _ hc
        simp [World.cell?, hx, hs, hc] at hr
        obtain ⟨rfl, rfl⟩ := hr
        refine ⟨ι, v', W, ?_, S, .refl, h5⟩
        simp [World.cell?, hb, h1, hs', ho, h4]
    | view at_ u => exact R.2.2.elim fun _ h => h.2.elim
    | _ => simp [World.cell?, hx, World.farLoad] at hr
theorem RS.store {a a' : Addr} (h : ARel ι a a') {v v' : Value} (hv : VRel P ι v v') : RS P n₀ ι (fun _ _ _ => True) (Go.store a v) (Go.store a' v') := by
  intro A W x A' S hr _
  obtain ⟨hs, hs', e, he, hb, ho⟩ := h
  have one : isOne v = true := by cases v <;> first | rfl | (simp [Go.store, Sem.run] at hr)
  have one' : isOne v' = true := hv.isOne.trans one
  have run1 : ∀ (w : World) (p : Addr) (u : Value), isOne u = true → (Go.store p u).run P w = match w.cell? p with
      | some _ => if w.frozen? p then .halt (.unsupported (.unsafePointer "a write to bytes that a string shares")) w else .ok () (w.setCell p u)
      | none => match w.farStore P p u false with
        | .ok (w, _) => .ok () w
        | .error h => .halt h w := by
    intro w p u hu
    cases u <;> simp [isOne] at hu <;> simp [Go.store, Sem.run] <;> rfl
  rw [run1 A a v one] at hr
  rw [run1 W a' v' one']
  cases hx : A.heap[a.block]? with
  | none => simp [World.cell?, hx, World.farStore] at hr
  | some o =>
    have R := S.obj _ _ _ he hx
    cases o with
    | cells c t fz =>
      cases hc : c[a.off]? with
      | none => simp [World.cell?, hx, hs, hc, World.farStore] at hr
      | some u =>
        obtain ⟨c', t', fz', h1, h2, h3, h4, h5, h6⟩ := R.resolve_left (fun h => by rw [h.2] at hc; simp at hc)
        obtain ⟨u', h7, _⟩ := h2 _ _ hc
        have hlt : a.off < c.size := (Array.getElem?_eq_some_iff.1 hc).1
        have hcell : A.cell? a = some u := by simp [World.cell?, hx, hs, hc]
        rw [hcell] at hr
        by_cases hfz : fz.1 ≤ a.off ∧ a.off < fz.2
        · simp [World.frozen?, hx, hfz] at hr
        · have hnf : A.frozen? a = false := by simp only [World.frozen?, hx]; simp; omega
          simp only [hnf] at hr
          cases hr
          have hwr : ¬ fz.1 < fz.2 := by
            rcases h3 with rfl | rfl | ⟨h, h'⟩
            · simp
            · simp
            · omega
          obtain ⟨h8, h9⟩ := h4 hwr
          have hcell' : W.cell? a' = some u' := by simp [World.cell?, hb, h1, hs', ho, h7]
          have hnf' : W.frozen? a' = false := by simp only [World.frozen?, hb, h1]; simp; omega
          rw [hcell']
          simp only [hnf']
          have eA : (A.setCell a v).heap[a.block]? = some (.cells (c.setIfInBounds a.off v) t fz) := by
            simp only [World.setCell]; rw [heap_modify_self hx]; simp [hs]
          have eW : (W.setCell a' v').heap[e.blk]? = some (.cells (c'.setIfInBounds a'.off v') t' fz') := by
            simp only [World.setCell]; rw [hb, heap_modify_self h1]; simp [hs']
          have hwo : wr (.cells c t fz) = true := by
            rcases h3 with rfl | rfl | h3
            · rfl
            · rfl
            · omega
          refine ⟨ι, (), W.setCell a' v', by simp, ?_, ?_, trivial⟩
          · refine S.turn he hx hwo eA (fun k hk => heap_modify_ne hk) (fun k hk => heap_modify_ne (hb ▸ hk)) (by simp) ?_
            refine .inr ⟨_, t', fz', eW, ?_, ?_, fun _ => ⟨h8, h9⟩, ?_, h6⟩
            · intro i y hy
              by_cases hi : a.off = i
              · subst hi
                rw [Array.getElem?_setIfInBounds_self_of_lt hlt] at hy; cases hy
                refine ⟨v', ?_, hv⟩
                rw [ho]; exact Array.getElem?_setIfInBounds_self_of_lt (Array.getElem?_eq_some_iff.1 h7).1
              · rw [Array.getElem?_setIfInBounds_ne hi] at hy
                rw [Array.getElem?_setIfInBounds_ne (by omega)]
                exact h2 i y hy
            · simpa using h3
            · intro hh; simpa using h5 hh
          · exact .turn he hx hwo (fun k hk => heap_modify_ne hk) (fun k hk => heap_modify_ne (hb ▸ hk)) (by simp) (by simp) rfl rfl rfl
    | view at_ u => exact R.2.2.elim fun _ h => h.2.elim
    | _ => simp [World.cell?, hx, World.farStore] at hr

/-- A new block of cells, of known capacity. -/
theorem RS.newCells (t : TypeId) {c c' : Array Value} (h : Vs P ι c c') : RS P n₀ ι (fun ι' r r' => ∃ e, ι' r = some e ∧ e.blk = r' ∧ e.sh = 0 ∧ e.gr = none) (newObj (.cells c t)) (newObj (.cells c' t)) := by
  intro A W x A' S hr hf
  have e1 : x = A.heap.size ∧ A' = A.alloc (.cells c t) := by simp [newObj, Sem.run] at hr; exact ⟨hr.1.symm, hr.2.symm⟩
  obtain ⟨rfl, rfl⟩ := e1
  have hfree := hf A.heap.size (Nat.le_refl _) (by simp)
  refine ⟨ι.put A.heap.size ⟨W.heap.size, 0, none⟩, W.heap.size, W.alloc (.cells c' t), rfl, S.alloc hfree rfl ?_, .alloc hfree rfl, _, Ren.put_self _ _ _, rfl, rfl, rfl⟩
  refine .inr ⟨c', t, (0, 0), heap_alloc_self _ _, ?_, .inl rfl, fun _ => ⟨S.lo, by simp⟩, fun h => by simp at h, fun _ => rfl⟩
  intro i y hy
  obtain ⟨y', p, q⟩ := h.at hy
  exact ⟨y', p, q.mono (Ren.le_put _ hfree)⟩
/-- A new block that is no cells. -/
theorem RS.newOther {o o' : Obj} (hal : ∀ (c : Array Value) t fz, o ≠ .cells c t fz) (h : ∀ ι', ι.le ι' → ObjRel P ι' o o') : RS P n₀ ι (fun ι' r r' => ∃ e, ι' r = some e ∧ e.blk = r' ∧ e.sh = 0 ∧ e.gr = none) (newObj o) (newObj o') := by
  intro A W x A' S hr hf
  have e1 : x = A.heap.size ∧ A' = A.alloc o := by simp [newObj, Sem.run] at hr; exact ⟨hr.1.symm, hr.2.symm⟩
  obtain ⟨rfl, rfl⟩ := e1
  have hfree := hf A.heap.size (Nat.le_refl _) (by simp)
  refine ⟨ι.put A.heap.size ⟨W.heap.size, 0, none⟩, W.heap.size, W.alloc o', rfl, S.alloc hfree rfl ?_, .alloc hfree rfl, _, Ren.put_self _ _ _, rfl, rfl, rfl⟩
  have hR := h _ (Ren.le_put ⟨W.heap.size, 0, none⟩ hfree)
  cases o with
  | cells c t fz => exact absurd rfl (hal c t fz)
  | _ => exact ⟨rfl, S.lo, o', heap_alloc_self _ _, hR⟩
theorem RS.getObj {r : Nat} {e : Ent} (he : ι r = some e) : RS P n₀ ι (fun ι' o o' => e.sh = 0 ∧ ObjRel P ι' o o') (getObj r) (getObj e.blk) := by
  intro A W x A' S hr _
  cases hx : A.heap[r]? with
  | none => simp [Go.getObj, Sem.run, hx] at hr
  | some o =>
    have R := S.obj _ _ _ he hx
    cases o with
    | cells c t fz => simp [Go.getObj, Sem.run, hx] at hr
    | _ =>
      obtain ⟨h1, h2, o', h3, h4⟩ := R
      simp [Go.getObj, Sem.run, hx] at hr
      obtain ⟨rfl, rfl⟩ := hr
      refine ⟨ι, o', W, ?_, S, .refl, h1, h4⟩
      cases o' <;> simp [ObjRel] at h4 <;> simp [Go.getObj, Sem.run, h3]
theorem RS.setObj {r : Nat} {e : Ent} (he : ι r = some e) (hs : e.sh = 0) {q q' : Obj} (hq : ObjRel P ι q q') : RS P n₀ ι (fun _ _ _ => True) (setObj r q) (setObj e.blk q') := by
  intro A W x A' S hr _
  have hqc : ∀ (c : Array Value) t fz, q ≠ .cells c t fz := fun c t fz h => by subst h; simp [ObjRel] at hq
  cases hx : A.heap[r]? with
  | none => simp [Go.setObj, Sem.run, hx] at hr
  | some o =>
    have R := S.obj _ _ _ he hx
    cases o with
    | cells c t fz => simp [Go.setObj, Sem.run, hx] at hr
    | _ =>
      obtain ⟨h1, h2, o', h3, h4⟩ := R
      have hlt : r < A.heap.size := (Array.getElem?_eq_some_iff.1 hx).1
      have hlt' : e.blk < W.heap.size := (Array.getElem?_eq_some_iff.1 h3).1
      have e1 : A' = { A with heap := A.heap.setIfInBounds r q } := by simp [Go.setObj, Sem.run, hx] at hr; exact hr.symm
      have e2 : (Go.setObj e.blk q').run P W = .ok () { W with heap := W.heap.setIfInBounds e.blk q' } := by
        cases o' <;> simp [ObjRel] at h4 <;> simp [Go.setObj, Sem.run, h3]
      subst e1
      refine ⟨ι, (), _, e2, ?_, ?_, trivial⟩
      · refine S.turn (q := q) he hx rfl (by simp [hlt]) (fun k hk => Array.getElem?_setIfInBounds_ne (fun h => hk h.symm)) (fun k hk => Array.getElem?_setIfInBounds_ne (fun h => hk h.symm)) (by simp) ?_
        cases q with
        | cells c t fz => exact absurd rfl (hqc c t fz)
        | _ => exact ⟨hs, h2, q', by simp [hlt'], hq⟩
      · exact .turn he hx rfl (fun k hk => Array.getElem?_setIfInBounds_ne (fun h => hk h.symm)) (fun k hk => Array.getElem?_setIfInBounds_ne (fun h => hk h.symm)) (by simp) (by simp) rfl rfl rfl
end
end Go.Abs
