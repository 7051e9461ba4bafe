/-
  ABS 36: memo: a call from a heap that is written out, to a heap that is written out, each a theorem of its own.
-/
import Derived.Test.YtipomlcnmaldkaaA35
namespace Go.Abs
section
variable {P : Program} {K : Know}
theorem LvK_le : ∀ n, (LvK P K n).le (LvK P K (n + 1))
  | 0 => ⟨fun _ _ _ _ _ h => h.elim, fun _ _ _ _ _ _ _ h => h.elim, fun _ _ _ _ _ _ _ h => h.elim, fun _ _ _ _ _ _ _ h => h.elim⟩
  | n + 1 => by
    have h := LvK_le n
    refine ⟨?_, ?_, ?_, ?_⟩
    · rintro f xs A v A' (⟨fn, c, e, a1, A1, h1, h2, h3, h4⟩ | h1)
      · exact .inl ⟨fn, c, e, a1, A1, h1, h2, h.codes _ _ _ _ _ _ _ h3, h4⟩
      · exact .inr h1
    · rintro l ts as bd A v A' ⟨a1, A1, A2, e, a3, A3, j, h1, h2, h3, h4⟩
      exact ⟨a1, A1, A2, e, a3, A3, j, h.codes _ _ _ _ _ _ _ h1, h2, h.codes _ _ _ _ _ _ _ h3, h4⟩
    · intro ro c a A e a' A' r
      cases c with
      | seq x y =>
        obtain ⟨e1, a1, A1, h1, h2⟩ := r
        exact ⟨e1, a1, A1, h.codes _ _ _ _ _ _ _ h1, h2.mono fun _ _ _ _ _ q => h.codes _ _ _ _ _ _ _ q⟩
      | cond c x y =>
        obtain ⟨b, h1, h2⟩ := r
        exact ⟨b, h1, h.codes _ _ _ _ _ _ _ h2⟩
      | block id x =>
        obtain ⟨e1, h1, h2⟩ := r
        exact ⟨e1, h.codes _ _ _ _ _ _ _ h1, h2⟩
      | loop x => exact h.loops _ _ _ _ _ _ _ r
      | region id ops draw =>
        cases draw with
        | false => exact ⟨r.1, r.2.mono h⟩
        | true => exact ⟨r.1, r.2.mono h⟩
      | rangeFunc g ps as bd =>
        obtain ⟨l, mark, A1, f, first, cap, fn, code, v, A2, jump, A3, h1, h2, h3, h4, h5, h6, h7, h8⟩ := r
        refine ⟨l, mark, A1, f, first, cap, fn, code, v, A2, jump, A3, h1, h2, h3, h4, h5, h.calls _ _ _ _ _ h6, h7, ?_⟩
        cases jump with
        | none => exact h8
        | some c => exact h.codes _ _ _ _ _ _ _ h8
      | _ => exact r
    · rintro ro c a A e a' A' ⟨e1, a1, A1, h1, h2⟩
      exact ⟨e1, a1, A1, h.codes _ _ _ _ _ _ _ h1, h2.mono fun _ _ _ _ _ q => h.loops _ _ _ _ _ _ _ q⟩
theorem Lvl.le.refl (L : Lvl) : L.le L := ⟨fun _ _ _ _ _ q => q, fun _ _ _ _ _ _ _ q => q, fun _ _ _ _ _ _ _ q => q, fun _ _ _ _ _ _ _ q => q⟩
theorem LvK_mono {m n : Nat} (h : m ≤ n) : (LvK P K m).le (LvK P K n) := by
  obtain ⟨d, rfl⟩ := Nat.exists_eq_add_of_le h
  induction d with
  | zero => exact .refl _
  | succ d ih => exact (ih (Nat.le_add_right _ _)).trans (LvK_le _)

/-- A heap written out: what is known of it. -/
structure Lit where
  n : Nat
  l : List (Nat × Obj)
def triOf : List (Nat × Obj) → Tri Obj
  | [] => .leaf
  | (b, o) :: l => (triOf l).put (b + 1) b o
noncomputable def triK {β : Type} (l : List (Nat × Obj)) (k : Tri Obj → β) : β :=
  List.rec (motive := fun _ => (Tri Obj → β) → β) (fun k => k .leaf) (fun p _ ih k => ih fun t => t.putK (p.1 + 1) p.1 p.2 k) l k
theorem triK_eq {β : Type} : ∀ (l : List (Nat × Obj)) (k : Tri Obj → β), triK l k = k (triOf l)
  | [], _ => rfl
  | (b, o) :: l, k => by
    show triK l (fun t => t.putK (b + 1) b o k) = _
    rw [triK_eq l, Tri.putK_eq]; rfl
def Lit.hp (L : Lit) : Hp := ⟨triOf L.l, L.n⟩
theorem triOf_get : ∀ {l : List (Nat × Obj)} {b : Nat} {o : Obj}, (triOf l).get b = some o → (b, o) ∈ l
  | [], b, o, h => by rw [triOf, Tri.get_leaf] at h; cases h
  | (c, p) :: l, b, o, h => by
    simp only [triOf] at h
    by_cases e : b = c
    · subst e
      rw [Tri.get_put_self _ _ _ _ (Nat.lt_succ_self _)] at h
      cases h
      exact List.mem_cons_self
    · rw [Tri.get_put_ne _ _ _ _ _ e] at h
      exact List.mem_cons_of_mem _ (triOf_get h)
/-- What the list says, later entries (nearer its head) ahead of earlier ones. -/
noncomputable def fits (h : Hp) (L : Lit) : Bool := Nat.beq h.n L.n && triK L.l fun t => L.l.all fun p => match h.t.get p.1, t.get p.1 with
  | some o, some o' => beqO o o'
  | _, _ => false
theorem fits_ok {h : Hp} {L : Lit} {A : World} (r : Rep h A) (q : fits h L = true) : Rep L.hp A := by
  unfold fits at q
  rw [triK_eq] at q
  simp only [Bool.and_eq_true, List.all_eq_true] at q
  refine ⟨(Nat.eq_of_beq_eq_true q.1).symm.trans r.size, fun b o hb => ?_⟩
  have := q.2 _ (triOf_get hb)
  simp only at this
  split at this
  · rename_i o1 o2 h1 h2
    have hb' : (triOf L.l).get b = some o := hb
    rw [hb'] at h2
    cases h2
    rw [beqO_eq this] at h1
    exact r.get _ _ h1
  · cases this

structure Memo where
  f : FuncId
  xs : List Value
  h : Lit
  v : Value
  h' : Lit
def MemoOk (P : Program) (K : Know) (N : Nat) (m : Memo) : Prop := ∀ A, Rep m.h.hp A → ∃ A', (LvK P K N).calls m.f ⟨m.xs⟩ A m.v A' ∧ Rep m.h'.hp A'
theorem MemoOk.mono {M N : Nat} (h : M ≤ N) {m : Memo} (q : MemoOk P K M m) : MemoOk P K N m := fun A r => by
  obtain ⟨A', h1, h2⟩ := q A r
  exact ⟨A', (LvK_mono h).calls _ _ _ _ _ h1, h2⟩
noncomputable def hit (ms : List Memo) (f : FuncId) (xs : List Value) (h : Hp) : Option Memo :=
  ms.find? fun m => Nat.beq m.f f && beqL (beqV 4) xs m.xs && fits h m.h
variable (P K)
noncomputable def evM (ms : List Memo) (n : Nat) : EvT :=
  Nat.rec (motive := fun _ => EvT) ⟨fun _ _ _ => none, fun _ _ _ _ _ => none, fun _ _ _ _ _ => none, fun _ _ _ _ _ => none⟩
    (fun _ E => ⟨fun f xs h => (match K f xs.toList with
      | some v => some (v, h)
      | none => (match hit ms f xs.toList h with
        | some m => triK m.h'.l fun t => some (m.v, ⟨t, m.h'.n⟩)
        | none => evCallT P E f xs h)), evRoundT P E, evCodeT P E, evLoopT E⟩) n
variable {P K}
theorem evM_ok {ms : List Memo} {N : Nat} (hM : ∀ m ∈ ms, MemoOk P K N m) : ∀ n, EvTOk (evM P K ms n) (LvK P K (N + n))
  | 0 => ⟨fun _ _ _ _ _ h => (by cases h), fun _ _ _ _ _ _ _ h => (by cases h), fun _ _ _ _ _ _ _ _ _ h => (by cases h), fun _ _ _ _ _ _ _ _ _ h => (by cases h)⟩
  | n + 1 =>
    have hE := evM_ok hM n
    ⟨fun f xs h v h' q A r => by
      have q' : (match K f xs.toList with
        | some v => some (v, h)
        | none => (match hit ms f xs.toList h with
          | some m => triK m.h'.l fun t => some (m.v, ⟨t, m.h'.n⟩)
          | none => evCallT P (evM P K ms n) f xs h)) = some (v, h') := q
      split at q'
      · rename_i u hu
        cases q'
        exact ⟨A, .inr ⟨hu, rfl⟩, r⟩
      · split at q'
        · rename_i m hm
          rw [triK_eq] at q'
          cases q'
          unfold hit at hm
          have h1 := List.find?_some hm
          have h2 := List.mem_of_find?_eq_some hm
          simp only [Bool.and_eq_true] at h1
          obtain ⟨⟨e1, e2⟩, e3⟩ := h1
          have e1' := Nat.eq_of_beq_eq_true e1
          have e2' : xs.toList = m.xs := beqL_eq (fun x y => beqV_eq) e2
          obtain ⟨A', k1, k2⟩ := hM m h2 A (fits_ok r e3)
          refine ⟨A', ?_, k2⟩
          rw [← e1', show xs = ⟨m.xs⟩ from by rw [← e2']]
          exact (LvK_mono (Nat.le_add_right N (n + 1))).calls _ _ _ _ _ k1
        · obtain ⟨A', h1, h2⟩ := evCallT_ok hE q' r
          exact ⟨A', .inl h1, h2⟩,
    fun _ _ _ _ _ _ _ h _ r => evRoundT_ok hE h r, fun _ _ _ _ _ _ _ _ _ h _ _ s r => evCodeT_ok hE h s r, fun _ _ _ _ _ _ _ _ _ h _ _ s r => evLoopT_ok hE h s r⟩

/-- The kernel's check of one record. -/
noncomputable def memoB (P : Program) (K : Know) (ms : List Memo) (n : Nat) (m : Memo) : Bool :=
  triK m.h.l fun t => match (evM P K ms n).calls m.f ⟨m.xs⟩ ⟨t, m.h.n⟩ with
  | some (v', h') => beqV 4 v' m.v && fits h' m.h'
  | none => false
theorem memoB_ok {ms : List Memo} {N n : Nat} (hM : ∀ m ∈ ms, MemoOk P K N m) {m : Memo} (h : memoB P K ms n m = true) : MemoOk P K (N + n) m := by
  intro A r
  unfold memoB at h
  rw [triK_eq] at h
  split at h
  · rename_i v' h' hv
    simp only [Bool.and_eq_true] at h
    obtain ⟨A', h1, h2⟩ := (evM_ok hM n).calls _ _ _ _ _ hv A r
    rw [beqV_eq h.1] at h1
    exact ⟨A', h1, fits_ok h2 h.2⟩
  · cases h
/-- A closed call that leans on records. -/
noncomputable def tellsM (P : Program) (K : Know) (ms : List Memo) (n : Nat) (f : FuncId) (xs : List Value) (v : Value) : Bool :=
  xs.all plain && plain v && match (evM P K ms n).calls f ⟨xs⟩ ⟨.leaf, 0⟩ with
  | some (v', _) => beqV 4 v' v
  | none => false
open Go.RowKit in
theorem tellsM_ok (G : Good P) (hK : Known P K) {ms : List Memo} {N : Nat} (hM : ∀ m ∈ ms, MemoOk P K N m) {n : Nat} {f : FuncId} {xs : List Value} {v : Value} (h : tellsM P K ms n f xs v = true) (W : World) : Calls P f ⟨xs⟩ W fun e W' => e = .returned v ∧ Below W.heap.size W W' := by
  unfold tellsM at h
  simp only [Bool.and_eq_true, List.all_eq_true] at h
  obtain ⟨⟨h1, h2⟩, h3⟩ := h
  split at h3
  · rename_i v' h' hv
    have := beqV_eq h3
    subst this
    obtain ⟨A', hA, _⟩ := (evM_ok hM n).calls _ _ _ _ _ hv (tombs 0) ⟨by rw [tombs_size], fun b o hb => by rw [Tri.get_leaf] at hb; cases hb⟩
    exact plain_callK G hK h1 h2 hA W
  · cases h3
end
end Go.Abs
