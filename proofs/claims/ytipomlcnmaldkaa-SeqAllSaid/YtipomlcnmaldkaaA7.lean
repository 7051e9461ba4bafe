/-
  ABS 7: append at two related worlds.
-/
import Derived.Test.YtipomlcnmaldkaaA6
namespace Go.Abs
section
variable {P : Program} {n₀ : Nat} {ι ι' : Ren} {A A' W W' : World}

theorem Sim.heap (S : Sim P n₀ ι A W) (h : W'.heap = W.heap) : Sim P n₀ ι A W' where
  obj b e o hb ho := by
    have := S.obj b e o hb ho
    cases o with
    | cells c t fz => simp only [ORel, h] at this ⊢; exact this
    | _ => simp only [ORel, h] at this ⊢; exact this
  inj := S.inj
  dom b e hb := by rw [h]; exact S.dom b e hb
  lo := by rw [h]; exact S.lo
theorem Moves.drew : Moves P ι A W ι A W.drew :=
  ⟨.refl ι, fun b e h h' => by rw [h] at h'; (cases h'), fun _ _ _ => rfl, fun k e o h h' hw _ => ⟨k, e, o, h, h', hw, rfl⟩, fun k e h h' => by rw [h] at h'; (cases h'), Nat.le_refl _, Nat.le_refl _, rfl, rfl, rfl⟩

/-- An append has left a block behind. -/
def kill (A : World) (b : Nat) (t : TypeId) : World := { A with heap := A.heap.setIfInBounds b (.cells #[] t (2, 0)) }
theorem kill_self {b : Nat} {t : TypeId} (h : b < A.heap.size) : (kill A b t).heap[b]? = some (.cells #[] t (2, 0)) := by simp [kill, h]
theorem kill_ne {b k : Nat} {t : TypeId} (h : k ≠ b) : (kill A b t).heap[k]? = A.heap[k]? := by
  simp only [kill]; exact Array.getElem?_setIfInBounds_ne (fun e => h e.symm)
@[simp] theorem kill_size (b : Nat) (t : TypeId) : (kill A b t).heap.size = A.heap.size := by simp [kill]
theorem kill_some {b k : Nat} {t : TypeId} {o : Obj} (h : (kill A b t).heap[k]? = some o) : (k ≠ b ∧ A.heap[k]? = some o) ∨ (k = b ∧ o = .cells #[] t (2, 0)) := by
  by_cases e : k = b
  · subst e
    have hlt : k < A.heap.size := by have := (Array.getElem?_eq_some_iff.1 h).1; simpa using this
    rw [kill_self hlt] at h; cases h; exact .inr ⟨rfl, rfl⟩
  · rw [kill_ne e] at h; exact .inl ⟨e, h⟩
theorem Sim.kill (S : Sim P n₀ ι A W) (b : Nat) (t : TypeId) : Sim P n₀ ι (Abs.kill A b t) W where
  obj k e o hk ho := by
    rcases kill_some ho with ⟨_, h⟩ | ⟨rfl, rfl⟩
    · exact S.obj k e o hk h
    · exact .inl ⟨rfl, rfl⟩
  inj k k' e e' o o' hk hk' ho ho' hw ha hb := by
    rcases kill_some ho with ⟨_, h⟩ | ⟨rfl, rfl⟩
    · rcases kill_some ho' with ⟨_, h'⟩ | ⟨rfl, rfl⟩
      · exact S.inj k k' e e' o o' hk hk' h h' hw ha hb
      · simp [alive] at ha
    · simp [wr] at hw
  dom := S.dom
  lo := S.lo
theorem Moves.kill {b : Nat} {t : TypeId} : Moves P ι A W ι (Abs.kill A b t) W where
  le := .refl ι
  news b e h h' := by rw [h] at h'; cases h'
  keep _ _ _ := rfl
  img k e o hk ho hw _ := by
    rcases kill_some ho with ⟨_, h⟩ | ⟨rfl, rfl⟩
    · exact ⟨k, e, o, hk, h, hw, rfl⟩
    · simp [wr] at hw
  fresh k e h h' := by rw [h] at h'; cases h'
  asz := by simp
  wsz := Nat.le_refl _
  os := rfl
  tape := rfl
  output := rfl

/-- A row of cells written over from a place on. -/
def over : Array Value → Nat → List Value → Array Value
  | c, _, [] => c
  | c, p, v :: vs => over (c.setIfInBounds p v) (p + 1) vs
theorem over_size : ∀ (vs : List Value) (c : Array Value) (p : Nat), (over c p vs).size = c.size
  | [], _, _ => rfl
  | v :: vs, c, p => by simp [over, over_size vs]
theorem over_at : ∀ (vs : List Value) (c : Array Value) (p j : Nat), p + vs.length ≤ c.size → (over c p vs)[j]? = if p ≤ j ∧ j < p + vs.length then vs[j - p]? else c[j]?
  | [], c, p, j, _ => by simp only [over, List.length_nil]; rw [if_neg (by omega)]
  | v :: vs, c, p, j, h => by
    simp only [List.length_cons] at h ⊢
    rw [over, over_at vs _ _ j (by simp; omega)]
    by_cases h1 : j = p
    · subst h1
      rw [if_neg (by omega), if_pos (by omega), Array.getElem?_setIfInBounds_self_of_lt (by omega)]
      simp
    · by_cases h2 : p ≤ j ∧ j < p + (vs.length + 1)
      · rw [if_pos (by omega), if_pos h2]
        have : j - p = (j - (p + 1)) + 1 := by omega
        rw [this]; rfl
      · rw [if_neg (by omega), if_neg h2, Array.getElem?_setIfInBounds_ne (by omega)]
theorem store_run {w : World} {b p : Nat} {v u : Value} {c : Array Value} {t : TypeId} {fz : Nat × Nat} (hb : w.heap[b]? = some (.cells c t fz)) (hfz : ¬ fz.1 < fz.2) (hp : c[p]? = some u) (hv : isOne v = true) :
    (store ⟨b, p, none⟩ v).run P w = .ok () { w with heap := w.heap.setIfInBounds b (.cells (c.setIfInBounds p v) t fz) } := by
  have hc : w.cell? ⟨b, p, none⟩ = some u := by simp [World.cell?, hb, hp]
  have hf : w.frozen? ⟨b, p, none⟩ = false := by simp only [World.frozen?, hb]; simp; omega
  have hm : w.setCell ⟨b, p, none⟩ v = { w with heap := w.heap.setIfInBounds b (.cells (c.setIfInBounds p v) t fz) } := by
    simp only [World.setCell]
    congr 1
    apply Array.ext (by simp)
    intro i h1 h2
    have e := (Array.getElem?_eq_some_iff.1 hb).2
    by_cases hi : b = i
    · subst hi; simp [Array.getElem_modify, e]
    · rw [Array.getElem_modify, if_neg hi, Array.getElem_setIfInBounds_ne _ hi]
  rw [← hm]
  cases v <;> simp [isOne] at hv <;> simp [store, Sem.run, hc, hf]
theorem storeCells_run {b : Nat} {t : TypeId} {fz : Nat × Nat} (hfz : ¬ fz.1 < fz.2) : ∀ (vs : List Value) (w : World) (p i : Nat) (c : Array Value), w.heap[b]? = some (.cells c t fz) → (∀ v ∈ vs, isOne v = true) → p + i + vs.length ≤ c.size →
    (storeCells ⟨b, p, none⟩ vs i).run P w = .ok () { w with heap := w.heap.setIfInBounds b (.cells (over c (p + i) vs) t fz) }
  | [], w, p, i, c, hb, _, _ => by
    have hlt : b < w.heap.size := (Array.getElem?_eq_some_iff.1 hb).1
    have e := (Array.getElem?_eq_some_iff.1 hb).2
    have : w.heap.setIfInBounds b (.cells c t fz) = w.heap := by
      apply Array.ext (by simp)
      intro j h1 h2
      by_cases hi : b = j
      · subst hi; simp [e]
      · rw [Array.getElem_setIfInBounds_ne _ hi]
    simp only [over, this]; rfl
  | v :: vs, w, p, i, c, hb, hv, hl => by
    simp only [List.length_cons] at hl
    have hlt : b < w.heap.size := (Array.getElem?_eq_some_iff.1 hb).1
    have hp : c[p + i]? = some c[p + i] := Array.getElem?_eq_getElem (by omega)
    have ea : (⟨b, p, none⟩ : Addr).add i = ⟨b, p + i, none⟩ := by unfold Addr.add; split <;> simp_all
    simp only [storeCells, Sem.run_bind, ea, store_run hb hfz hp (hv v (by simp)), Result.andThen]
    rw [storeCells_run (t := t) hfz vs _ p (i + 1) (c.setIfInBounds (p + i) v) (by simp [hlt]) (fun x hx => hv x (by simp [hx])) (by simp; omega)]
    simp only [over, Array.setIfInBounds_setIfInBounds]
    rw [Nat.add_assoc p i 1]

theorem loadCells_world (a : Addr) : ∀ (n i : Nat) (acc : Array Value) (w : World) (r : Array Value) (w' : World), (loadCellsFrom a i n acc).run P w = .ok r w' → w' = w
  | 0, i, acc, w, r, w', h => by cases h; rfl
  | n + 1, i, acc, w, r, w', h => by
    simp only [loadCellsFrom, Sem.run_bind] at h
    cases h1 : (load (a.add i)).run P w with
    | halt q u => rw [h1] at h; cases h
    | ok v u =>
      rw [h1] at h
      have hu : u = w := by
        simp only [load, Sem.run] at h1
        split at h1
        · cases h1; rfl
        · split at h1
          · cases h1; rfl
          · cases h1
      subst hu
      exact loadCells_world a n (i + 1) _ u r w' h
theorem firstCells_world {size n : Nat} {x : Value} {w w' : World} {r : Array Value} (h : (Builtin.firstCells size n x).run P w = .ok r w') : w' = w := by
  cases x with
  | slice a l c =>
    cases a with
    | none => cases h; rfl
    | some a => exact loadCells_world a _ _ _ _ _ _ h
  | string s => cases h; rfl
  | _ => cases h
theorem appSrc_world {zeros : Bool} {elem : TypeId} {size n : Nat} {x : Value} {w w' : World} {r : Array Value} (h : (appSrc zeros elem size n x).run P w = .ok r w') : w' = w := by
  unfold appSrc at h
  split at h
  · exact firstCells_world h
  · split at h
    · cases h; rfl
    · simp only [zeroValue, typeInfo, program, Sem.run_bind, Sem.run, Result.andThen] at h
      cases hi : P.info? elem with
      | none => rw [hi] at h; cases h
      | some i =>
        rw [hi] at h
        simp only [Sem.run_pure] at h
        cases hz : i.zero with
        | none => rw [hz] at h; cases h
        | some z => rw [hz] at h; cases h; rfl
theorem RS.appSrc (G : Good P) (zeros : Bool) (elem : TypeId) (size n bytes : Nat) {x x' : Value} (h : VRel P ι x x') (hn : appN zeros bytes x = some n) : RS P n₀ ι (Vs P) (Abs.appSrc zeros elem size n x) (Abs.appSrc zeros elem size n x') := by
  unfold Abs.appSrc
  cases zeros with
  | false =>
    simp only [Bool.not_false, if_true]
    refine RS.firstCells size n h fun a l c e => ?_
    subst e
    simp only [appN, Option.some.injEq] at hn
    omega
  | true =>
    simp only [Bool.not_true, Bool.false_eq_true, if_false]
    split
    · exact .pure .empty
    · refine (RS.zeroValue G elem).bind fun ι1 l1 z z' ⟨hz, hzz⟩ => ?_
      subst hz
      exact .pure (Vs.map _ _ _ fun i _ => (hzz ι1).cells.bang _)
theorem appN_rel {zeros : Bool} {bytes n : Nat} {x x' : Value} (h : VRel P ι x x') (hn : appN zeros bytes x = some n) : appN zeros bytes x' = some n := by
  cases h with
  | slice0 l c => exact hn
  | slice h =>
    cases zeros with
    | true => simp [appN] at hn
    | false => exact hn
  | int k m => exact hn
  | string s => exact hn
  | _ => cases zeros <;> simp [appN] at hn

/-- What the canonical append comes to. -/
def AppNew (P : Program) (ts : Array TypeId) (elem : TypeId) (ie : TypeInfo) (s x : Value) (base : Option Addr) (sLen n : Nat) (A : World) (v : Value) (A' : World) : Prop :=
  ∃ old new, (Builtin.firstCells ie.size sLen s).run P A = .ok old A ∧ (appSrc (zerosOf P ts) elem ie.size n x).run P A = .ok new A ∧ v = .slice (some ⟨A.heap.size, 0, none⟩) (sLen + n) (sLen + n) ∧
    old.size = sLen * ie.size ∧ new.size = n * ie.size ∧ new.toList.all isOne = true ∧
    ((A' = A.alloc (.cells (old ++ new) elem (1, 0)) ∧ ∀ a, base = some a → ∃ c t fz, A.heap[a.block]? = some (.cells c t fz) ∧ fz ≠ (2, 0) ∧ fz ≠ (1, 0)) ∨
     (∃ a c, base = some a ∧ A.heap[a.block]? = some (.cells c elem (1, 0)) ∧ 0 < sLen ∧ A' = (kill A a.block elem).alloc (.cells (old ++ new) elem (1, 0))))
def AppIn (P : Program) (ts : Array TypeId) (elem : TypeId) (ie : TypeInfo) (x : Value) (base : Option Addr) (sLen sCap n : Nat) (A : World) (v : Value) (A' : World) : Prop :=
  ∃ new, (appSrc (zerosOf P ts) elem ie.size n x).run P A = .ok new A ∧ (match base with | some a => storeCells (a.add (sLen * ie.size)) new.toList | none => pure ()).run P A = .ok () A' ∧ v = .slice base (sLen + n) sCap
def AApp (P : Program) (ts : Array TypeId) (xs : Array Value) (A : World) (v : Value) (A' : World) : Prop :=
  ∃ elem ie z base sLen sCap x n, AppAt P ts elem ie z ∧ xs = #[.slice base sLen sCap, x] ∧ appN (zerosOf P ts) ie.bytes x = some n ∧
    ((sLen + n ≤ sCap ∧ AppIn P ts elem ie x base sLen sCap n A v A') ∨
     (sCap < sLen + n ∧ sLen ≤ sCap ∧ sLen + n ≤ 2 ^ 24 ∧ ie.bytes ≤ 2 ^ 16 ∧ z.cells.size = ie.size ∧ AppNew P ts elem ie (.slice base sLen sCap) x base sLen n A v A'))

theorem sim_append_in (G : Good P) {ts : Array TypeId} {ty elem : TypeId} {ie : TypeInfo} {z : Value} (H : AppAt P ts elem ie z) {base : Option Addr} {sLen sCap n : Nat} {s' x x' v : Value}
    (hs : VRel P ι (.slice base sLen sCap) s') (hx : VRel P ι x x') (hn : appN (zerosOf P ts) ie.bytes x = some n) (hle : sLen + n ≤ sCap) (S : Sim P n₀ ι A W)
    (h : AppIn P ts elem ie x base sLen sCap n A v A') (hfree : ∀ b, A.heap.size ≤ b → b < A'.heap.size → ι b = none) :
    ∃ ι' v' W', (Builtin.append_ ts ty #[s', x']).run P W = .ok v' W' ∧ Sim P n₀ ι' A' W' ∧ Moves P ι A W ι' A' W' ∧ VRel P ι' v v' := by
  obtain ⟨new, h1, h2, rfl⟩ := h
  obtain ⟨ι1, new', W1, r1, S1, M1, R1⟩ := RS.appSrc G (zerosOf P ts) elem ie.size n ie.bytes hx hn A W new A S h1 (fun b p q => by omega)
  have := appSrc_world r1
  subst this
  have hn' := appN_rel hx hn
  cases hs with
  | slice0 l c =>
    simp at h2; subst h2
    exact ⟨ι1, _, W1, append_in H rfl hn' hle r1 rfl, S1, M1, .slice0 _ _⟩
  | slice hr =>
    rename_i a a' c'
    have hcap := hr.cap_le
    rcases hr with ⟨ha, hc⟩ | ⟨e1, e2, e3, e, g, e4, e5⟩
    · obtain ⟨ι2, _, W2, r2, S2, M2, _⟩ := RS.storeCells (n₀ := n₀) ((ha.mono M1.le).add (sLen * ie.size)) 0 R1.toList A W1 () A' S1 h2 (fun b p q => by
        cases hb : ι1 b with
        | none => rfl
        | some e => have := M1.news b e (hfree b p q) hb; omega)
      refine ⟨ι2, .slice (some a') (sLen + n) c', W2, append_in H rfl hn' (by omega) r1 r2, S2, M1.trans M2, .slice (.inl ⟨(ha.mono M1.le).mono M2.le, ?_⟩)⟩
      rcases hc with hc | ⟨e, t, N, q1, q2, q3, q4⟩
      · exact .inl hc
      · exact .inr ⟨e, t, N, M2.le _ _ (M1.le _ _ q1), q2, q3, q4⟩
    · have hn0 : n = 0 := by omega
      subst hn0
      have hnew : new = #[] ∧ new' = #[] := by
        have hz : ∀ {y : Value} {w w' : World} {r : Array Value}, (appSrc (zerosOf P ts) elem ie.size 0 y).run P w = .ok r w' → r = #[] := by
          intro y w w' r h
          unfold appSrc at h
          split at h
          · cases y with
            | slice a l c => cases a <;> simp only [Builtin.firstCells, Nat.zero_mul] at h <;> cases h <;> rfl
            | string s => simp [Builtin.firstCells] at h; simpa using h.1.symm
            | _ => cases h
          · simp at h; exact h.1.symm ▸ rfl
        exact ⟨hz h1, hz r1⟩
      obtain ⟨rfl, rfl⟩ := hnew
      cases h2
      refine ⟨ι1, .slice (some a') (sLen + 0) c', W1, append_in H rfl hn' (by omega) r1 rfl, S1, M1, .slice (.inr ⟨by omega, e2, e3, e, g, M1.le _ _ e4, e5⟩)⟩

theorem loadCells_run {b : Nat} {c : Array Value} {t : TypeId} {fz : Nat × Nat} {w : World} (hb : w.heap[b]? = some (.cells c t fz)) : ∀ (n o i : Nat) (acc r : Array Value) (w' : World),
    (loadCellsFrom ⟨b, o, none⟩ i n acc).run P w = .ok r w' → r.size = acc.size + n ∧ ∀ j, r[j]? = if j < acc.size then acc[j]? else if j < acc.size + n then c[o + i + (j - acc.size)]? else none
  | 0, o, i, acc, r, w', h => by
    cases h
    refine ⟨rfl, fun j => ?_⟩
    split
    · rfl
    · rw [if_neg (by omega)]; simp; omega
  | n + 1, o, i, acc, r, w', h => by
    have ea : (⟨b, o, none⟩ : Addr).add i = ⟨b, o + i, none⟩ := by unfold Addr.add; split <;> simp_all
    simp only [loadCellsFrom, Sem.run_bind, ea] at h
    have hl : ∀ v u, (load ⟨b, o + i, none⟩).run P w = .ok v u → c[o + i]? = some v ∧ u = w := by
      intro v u h
      simp only [load, Sem.run, World.cell?, hb] at h
      cases hc : c[o + i]? with
      | none => simp [hc, World.farLoad, hb] at h
      | some x => simp [hc] at h; exact ⟨by rw [h.1], h.2.symm⟩
    cases h1 : (load ⟨b, o + i, none⟩).run P w with
    | halt q u => rw [h1] at h; cases h
    | ok v u =>
      rw [h1] at h
      obtain ⟨hv, rfl⟩ := hl v u h1
      obtain ⟨h2, h3⟩ := loadCells_run hb n o (i + 1) _ r w' h
      simp only [Array.size_push] at h2 h3
      refine ⟨by omega, fun j => ?_⟩
      rw [h3 j]
      by_cases c1 : j < acc.size
      · rw [if_pos (by omega), if_pos c1, Array.getElem?_push, if_neg (by omega)]
      · by_cases c2 : j = acc.size
        · subst c2
          rw [if_pos (by omega), if_neg c1, if_pos (by omega), Array.getElem?_push, if_pos rfl, ← hv]
          simp
        · rw [if_neg (by omega), if_neg c1]
          by_cases c3 : j < acc.size + 1 + n
          · rw [if_pos c3, if_pos (by omega)]
            congr 1; omega
          · rw [if_neg c3, if_neg (by omega)]

theorem cellsOf_eq {t : TypeId} {i : TypeInfo} (h : P.info? t = some i) : P.cellsOf t = i.size := by simp [Program.cellsOf, h]

theorem sim_append_new (G : Good P) {ts : Array TypeId} {ty elem : TypeId} {ie : TypeInfo} {z : Value} (H : AppAt P ts elem ie z) (hzs : z.cells.size = ie.size) {base : Option Addr} {sLen sCap n : Nat} {s' x x' v : Value}
    (hs : VRel P ι (.slice base sLen sCap) s') (hx : VRel P ι x x') (hn : appN (zerosOf P ts) ie.bytes x = some n) (hgt : sCap < sLen + n) (_ : sLen ≤ sCap) (hb1 : sLen + n ≤ 2 ^ 24) (hb2 : ie.bytes ≤ 2 ^ 16) (S : Sim P n₀ ι A W)
    (h : AppNew P ts elem ie (.slice base sLen sCap) x base sLen n A v A') (hfree : ∀ b, A.heap.size ≤ b → b < A'.heap.size → ι b = none) :
    ∃ ι' v' W', (Builtin.append_ ts ty #[s', x']).run P W = .ok v' W' ∧ Sim P n₀ ι' A' W' ∧ Moves P ι A W ι' A' W' ∧ VRel P ι' v v' := by
  obtain ⟨old, new, h1, h2, rfl, hos, hns, hone, hA⟩ := h
  have hn' := appN_rel hx hn
  have hsz := cellsOf_eq H.info
  have hfr : ι A.heap.size = none := by
    refine hfree _ (Nat.le_refl _) ?_
    rcases hA with ⟨rfl, _⟩ | ⟨a, c, _, _, _, rfl⟩ <;> simp
  -- what the cells are, on the other side
  have S0 : Sim P n₀ ι A W.drew := S.heap rfl
  have nofree : ∀ {κ : Ren}, ∀ b, A.heap.size ≤ b → b < A.heap.size → κ b = none := fun b p q => by omega
  obtain ⟨ι1, old', W1, r1, _, M1, R1⟩ := RS.firstCells (n₀ := n₀) ie.size sLen hs (fun a l c e => by cases e; exact Nat.le_refl _) A W.drew old A S0 h1 nofree
  have := firstCells_world r1
  subst this
  obtain ⟨ι2, new', W1, r2, _, M2, R2⟩ := RS.appSrc (n₀ := n₀) G (zerosOf P ts) elem ie.size n ie.bytes hx hn A W.drew new A S0 h2 nofree
  have := appSrc_world r2
  subst this
  have old1 : ∀ {κ : Ren}, Moves P ι A W.drew κ A W.drew → κ.le ι := fun {κ} M b e hb => by
    cases h : ι b with
    | none => have := M.news b e h hb; omega
    | some e' => have := M.le b e' h; rw [hb] at this; cases this; rfl
  have R1 : Vs P ι old old' := R1.mono (old1 M1)
  have R2 : Vs P ι new new' := R2.mono (old1 M2)
  have hos' : old'.size = sLen * ie.size := by rw [← R1.1, hos]
  have hns' : new'.size = n * ie.size := by rw [← R2.1, hns]
  -- in new memory
  have fresh : ∀ (A1 : World) (base' : Option Addr) (cap' : Nat), A1.heap.size = A.heap.size → Sim P n₀ ι A1 W → Moves P ι A W ι A1 W → s' = .slice base' sLen cap' → cap' < sLen + n →
      ∃ ι' v' W', (Builtin.append_ ts ty #[s', x']).run P W = .ok v' W' ∧ Sim P n₀ ι' (A1.alloc (.cells (old ++ new) elem (1, 0))) W' ∧ Moves P ι A W ι' (A1.alloc (.cells (old ++ new) elem (1, 0))) W' ∧ VRel P ι' (.slice (some ⟨A.heap.size, 0, none⟩) (sLen + n) (sLen + n)) v' := by
    intro A1 base' cap' hsz1 SA MA hs' hc'
    obtain ⟨newCap, hcap, hrun⟩ := append_new H (s := s') (ty := ty) hs' hn' hc' hb1 hb2 r1 r2
    have hN : (old' ++ new' ++ Builtin.zeroCells z.cells (newCap - (sLen + n))).size = newCap * ie.size := by
      simp only [Array.size_append, hos', hns', Builtin.zeroCells, Array.size_map, Array.size_range, hzs]
      rw [← Nat.add_mul, ← Nat.add_mul]; congr 1; omega
    have SA' : Sim P n₀ ι A1 W.drew := SA.heap rfl
    have hfr1 : ι A1.heap.size = none := by rw [hsz1]; exact hfr
    refine ⟨ι.put A1.heap.size ⟨W.heap.size, 0, some (elem, newCap * ie.size)⟩, _, _, hrun, SA'.alloc hfr1 rfl ?_, (MA.trans .drew).trans (.alloc hfr1 rfl), ?_⟩
    · refine .inr ⟨_, elem, (0, 0), heap_alloc_self _ _, ?_, .inr (.inl rfl), fun _ => ⟨S.lo, by simp⟩, fun _ => by rw [hN], fun h => absurd rfl h⟩
      intro i y hy
      have hi : i < (old ++ new).size := (Array.getElem?_eq_some_iff.1 hy).1
      obtain ⟨y', p, q⟩ := (R1.append R2).at hy
      refine ⟨y', ?_, q.mono (Ren.le_put _ hfr1)⟩
      have : i < (old' ++ new').size := (Array.getElem?_eq_some_iff.1 p).1
      rw [Nat.add_zero, Array.getElem?_append, if_pos this]
      exact p
    · refine .slice (.inl ⟨⟨rfl, rfl, _, by rw [← hsz1]; exact Ren.put_self _ _ _, rfl, rfl⟩, .inr ⟨_, elem, newCap * ie.size, by rw [← hsz1]; exact Ren.put_self _ _ _, rfl, hcap, ?_⟩⟩)
      rw [hsz, Nat.zero_add]; exact Nat.le_refl _
  rcases hA with ⟨rfl, hbase⟩ | ⟨a, c, rfl, hac, hpos, rfl⟩
  · -- the capacity is the same on both sides
    have hcap : ∃ base' , s' = .slice base' sLen sCap := by
      cases hs with
      | slice0 l c => exact ⟨_, rfl⟩
      | slice hr =>
        rename_i a a' c'
        obtain ⟨c, t, fz, q1, q2, q3⟩ := hbase a rfl
        have nog : ∀ e, ι a.block = some e → e.gr = none := fun e he => by
          have R := S.obj _ _ _ he q1
          rcases R with ⟨h, _⟩ | ⟨_, _, _, _, _, _, _, _, hh⟩
          · exact absurd h q2
          · exact hh q3
        rcases hr with ⟨_, rfl | ⟨e, t, N, p1, p2, _⟩⟩ | ⟨_, _, _, e, g, p1, p2⟩
        · exact ⟨_, rfl⟩
        · rw [nog e p1] at p2; cases p2
        · rw [nog e p1] at p2; cases p2
    obtain ⟨base', hs'⟩ := hcap
    exact fresh A base' sCap rfl S .refl hs' hgt
  · cases hs with
    | slice hr =>
      rename_i a' c'
      by_cases hc' : c' < sLen + n
      · exact fresh (kill A a.block elem) (some a') c' (by simp) (S.kill _ _) .kill rfl hc'
      · rcases hr with ⟨ha, hc⟩ | ⟨p1, _⟩
        · rcases hc with rfl | ⟨e, t, N, p1, p2, p3, p4⟩
          · omega
          · -- there is room behind it on the other side
            obtain ⟨ha1, ha2, e', ha3, ha4, ha5⟩ := ha
            rw [p1] at ha3; cases ha3
            have R := S.obj _ _ _ p1 hac
            rcases R with ⟨h, _⟩ | ⟨cc, t', fz', q1, q2, q3, q4, q5, q6⟩
            · simp at h
            · obtain ⟨q7, q8⟩ := q4 (by simp)
              have hgr := q5 rfl
              rw [p2] at hgr; cases hgr
              rw [hsz] at p4
              obtain ⟨ab, ao, asp⟩ := a
              obtain ⟨ab', ao', asp'⟩ := a'
              simp only at ha1 ha2 ha4 ha5 p1 hac p4 ⊢
              subst ha1; subst ha2; subst ha4; subst ha5
              have hlt : e.blk < W.heap.size := S.dom _ _ p1
              have hltA : ab < A.heap.size := (Array.getElem?_eq_some_iff.1 hac).1
              have hroom : ao + e.sh + (sLen + n) * ie.size ≤ cc.size := Nat.le_trans (Nat.add_le_add_left (Nat.mul_le_mul_right _ (by omega)) _) p4
              rw [Nat.add_mul] at hroom
              obtain ⟨ι3, nn, W3, r3, _, M3, R3⟩ := RS.appSrc (n₀ := n₀) G (zerosOf P ts) elem ie.size n ie.bytes hx hn A W new A S h2 nofree
              have := appSrc_world r3
              subst this
              have R3 : Vs P ι new nn := R3.mono (fun b e hb => by
                cases h : ι b with
                | none => have := M3.news b e h hb; omega
                | some e' => have := M3.le b e' h; rw [hb] at this; cases this; rfl)
              have hnn : nn.size = n * ie.size := by rw [← R3.1, hns]
              have hone' : ∀ v ∈ nn.toList, isOne v = true := by
                intro v hv
                obtain ⟨i, hi⟩ := List.mem_iff_getElem?.1 hv
                have hi' : nn[i]? = some v := by simpa using hi
                have hlt' : i < nn.size := (Array.getElem?_eq_some_iff.1 hi').1
                have hx := R3.2 i _ _ (Array.getElem?_eq_getElem (R3.1 ▸ hlt')) hi'
                rw [hx.isOne]
                rw [List.all_eq_true] at hone
                exact hone _ (by simp)
              have hadd : (⟨e.blk, ao + e.sh, none⟩ : Addr).add (sLen * ie.size) = ⟨e.blk, ao + e.sh + sLen * ie.size, none⟩ := by unfold Addr.add; split <;> simp_all
              have hst := storeCells_run (P := P) (b := e.blk) (t := t') q8 nn.toList W3 (ao + e.sh + sLen * ie.size) 0 cc q1 hone' (by simp only [Array.length_toList, hnn]; omega)
              rw [Nat.add_zero] at hst
              have hrun := append_in (ty := ty) H (s := .slice (some ⟨e.blk, ao + e.sh, none⟩) sLen c') rfl hn' (by omega) r3 (by rw [← hadd] at hst; exact hst)
              -- what was loaded
              have ho := loadCells_run (P := P) (w := W3.drew) q1 (sLen * ie.size) (ao + e.sh) 0 #[] old' W3.drew r1
              have hwa : wr (.cells c elem (1, 0)) = true := rfl
              have hWb : ∀ k, k ≠ e.blk → (W3.heap.setIfInBounds e.blk (.cells (over cc (ao + e.sh + sLen * ie.size) nn.toList) t' fz'))[k]? = W3.heap[k]? := fun k hk => Array.getElem?_setIfInBounds_ne (fun h => hk h.symm)
              have hWs : (W3.heap.setIfInBounds e.blk (.cells (over cc (ao + e.sh + sLen * ie.size) nn.toList) t' fz'))[e.blk]? = some (.cells (over cc (ao + e.sh + sLen * ie.size) nn.toList) t' fz') := by simp [hlt]
              have hle : ι.le (ι.put A.heap.size ⟨e.blk, ao + e.sh, some (elem, cc.size)⟩) := Ren.le_put _ hfr
              have hks : (kill A ab elem).heap.size = A.heap.size := by simp
              refine ⟨ι.put A.heap.size ⟨e.blk, ao + e.sh, some (elem, cc.size)⟩, _, _, hrun, ?_, ?_, ?_⟩
              · refine ⟨?_, ?_, ?_, ?_⟩
                · intro k x o hk ho'
                  rcases heap_alloc_some ho' with ⟨hlt1, h'⟩ | ⟨rfl, rfl⟩
                  · rw [hks] at hlt1
                    rw [Ren.put_ne _ _ (by omega)] at hk
                    rcases kill_some h' with ⟨hne, h''⟩ | ⟨rfl, rfl⟩
                    · by_cases hal : alive o = true
                      · exact (S.obj k x o hk h'').later hle (hWb _ fun hx => hne (S.inj ab k e x _ o p1 hk hac h'' hwa hal hx.symm).symm)
                      · have R := S.obj k x o hk h''
                        cases o <;> simp [alive] at hal
                        rcases R with h0 | ⟨_, _, _, _, _, g3, _⟩
                        · exact .inl h0
                        · rcases g3 with rfl | rfl | g3
                          · simp at hal
                          · simp at hal
                          · omega
                    · exact .inl ⟨rfl, rfl⟩
                  · rw [hks, Ren.put_self] at hk; cases hk
                    refine .inr ⟨_, t', fz', hWs, ?_, .inr (.inl rfl), fun _ => ⟨q7, q8⟩, fun _ => by rw [over_size], fun h => absurd rfl h⟩
                    intro i y hy
                    have hsize : old'.size = sLen * ie.size := hos'
                    rw [Array.getElem?_append] at hy
                    rw [over_at _ _ _ _ (by simp only [Array.length_toList, hnn]; omega)]
                    by_cases hi : i < old.size
                    · rw [if_pos hi] at hy
                      obtain ⟨y', g1, g2⟩ := R1.at hy
                      refine ⟨y', ?_, g2.mono hle⟩
                      rw [if_neg (by rw [hos] at hi; simp only; omega), ← g1, ho.2 i, if_neg (by simp), if_pos (by rw [hos] at hi; simpa using hi)]
                      congr 1; simp; omega
                    · rw [if_neg hi] at hy
                      have hlt2 : i - old.size < new.size := (Array.getElem?_eq_some_iff.1 hy).1
                      obtain ⟨y', g1, g2⟩ := R3.at hy
                      refine ⟨y', ?_, g2.mono hle⟩
                      rw [if_pos (by simp only [Array.length_toList, hnn]; rw [hos] at hi hlt2; rw [hns] at hlt2; omega)]
                      simp only [Array.getElem?_toList]
                      rw [← g1]; congr 1; rw [hos]; rw [hos] at hi; omega
                · intro k k' x x' o o' hk hk' ho1 ho2 hw hal hbk
                  rcases heap_alloc_some ho1 with ⟨hlt1, h1'⟩ | ⟨rfl, rfl⟩ <;> rcases heap_alloc_some ho2 with ⟨hlt2, h2'⟩ | ⟨rfl, rfl⟩
                  · rw [hks] at hlt1 hlt2
                    rw [Ren.put_ne _ _ (by omega)] at hk hk'
                    rcases kill_some h1' with ⟨hne, h''⟩ | ⟨rfl, rfl⟩
                    · rcases kill_some h2' with ⟨hne', h'''⟩ | ⟨rfl, rfl⟩
                      · exact S.inj k k' x x' o o' hk hk' h'' h''' hw hal hbk
                      · simp [alive] at hal
                    · simp [wr] at hw
                  · rw [hks] at hlt1
                    rw [Ren.put_ne _ _ (by omega)] at hk
                    rw [hks, Ren.put_self] at hk'; cases hk'
                    rcases kill_some h1' with ⟨hne, h''⟩ | ⟨rfl, rfl⟩
                    · exact absurd (S.inj k ab x e o _ hk p1 h'' hac hw rfl hbk) hne
                    · simp [wr] at hw
                  · rw [hks] at hlt2
                    rw [Ren.put_ne _ _ (by omega)] at hk'
                    rw [hks, Ren.put_self] at hk; cases hk
                    rcases kill_some h2' with ⟨hne, h''⟩ | ⟨rfl, rfl⟩
                    · exact absurd (S.inj ab k' e x' _ o' p1 hk' hac h'' hwa hal hbk).symm hne
                    · simp [alive] at hal
                  · rfl
                · intro k x hk
                  by_cases hkk : k = A.heap.size
                  · subst hkk; rw [Ren.put_self] at hk; cases hk; simpa using hlt
                  · rw [Ren.put_ne _ _ hkk] at hk; have := S.dom k x hk; simpa using this
                · have := S.lo; simpa using this
              · refine ⟨hle, ?_, ?_, ?_, ?_, by simp, by simp, rfl, rfl, rfl⟩
                · intro k x hk hx'
                  by_cases hkk : k = A.heap.size
                  · subst hkk; simp
                  · rw [Ren.put_ne _ _ hkk, hk] at hx'; cases hx'
                · intro k _ hk
                  exact hWb k fun h => hk ab e _ p1 hac hwa h.symm
                · intro k x o hk ho1 hw _
                  rcases heap_alloc_some ho1 with ⟨hlt1, h1'⟩ | ⟨rfl, rfl⟩
                  · rw [hks] at hlt1
                    rw [Ren.put_ne _ _ (by omega)] at hk
                    rcases kill_some h1' with ⟨hne, h''⟩ | ⟨rfl, rfl⟩
                    · exact ⟨k, x, o, hk, h'', hw, rfl⟩
                    · simp [wr] at hw
                  · rw [hks, Ren.put_self] at hk; cases hk
                    exact ⟨ab, e, _, p1, hac, hwa, rfl⟩
                · intro k x hk hx'
                  by_cases hkk : k = A.heap.size
                  · subst hkk; rw [Ren.put_self] at hx'; cases hx'
                    exact .inr ⟨ab, e, _, p1, hac, hwa, rfl⟩
                  · rw [Ren.put_ne _ _ hkk, hk] at hx'; cases hx'
              · refine .slice (.inl ⟨⟨rfl, rfl, _, Ren.put_self _ _ _, rfl, by simp⟩, .inr ⟨_, elem, cc.size, Ren.put_self _ _ _, rfl, by omega, ?_⟩⟩)
                rw [hsz]; exact p4
        · omega
end
end Go.Abs
