/-
  ABS 35: what is known of a call stands for it: a closed call, or one whose arguments and whose result bear no address.
-/
import Derived.Test.YthkoolfmealabaaGreatN9
namespace Go.Abs
open Go.RowKit
/-- What is known: the function, its arguments, its result. -/
abbrev Know := FuncId → List Value → Option Value
def Known (P : Program) (K : Know) : Prop :=
  ∀ f xs v, K f xs = some v → (∀ x ∈ xs, plain x = true) ∧ plain v = true ∧ ∀ W, Calls P f ⟨xs⟩ W fun e W' => e = .returned v ∧ Below W.heap.size W W'
section
variable (P : Program) (K : Know)
noncomputable def lvlK (D : Lvl → Array Oper → Act → World → Act → World → Prop) : Nat → Lvl
  | 0 => { calls := fun _ _ _ _ _ => False, rounds := fun _ _ _ _ _ _ _ => False, codes := fun _ _ _ _ _ _ _ => False, loops := fun _ _ _ _ _ _ _ => False }
  | n + 1 => { calls := fun f xs A v A' => callStep P (lvlK D n) f xs A v A' ∨ (K f xs.toList = some v ∧ A' = A), rounds := roundStep P (lvlK D n), codes := codeStep P (lvlK D n) D, loops := loopStep (lvlK D n) }
noncomputable def LvK (n : Nat) : Lvl := lvlK P K (RunDraw P) n
variable {P K} {n₀ : Nat}

theorem snd_known (hK : Known P K) {f : FuncId} {xs : Array Value} {A : World} {v : Value} (h : K f xs.toList = some v) : SndCall P n₀ f xs A v A := by
  refine ⟨Nat.le_refl _, fun ι W xs' S hx _ => ?_⟩
  obtain ⟨h1, h2, h3⟩ := hK _ _ _ h
  have hxs : xs' = xs := arr_eq hx.1 fun i x x' ha hb => (hx.2 i x x' ha hb).plain_eq (h1 x (by simpa using Array.mem_of_getElem? ha))
  subst hxs
  have := h3 W
  rw [show (⟨xs'.toList⟩ : Array Value) = xs' from rfl] at this
  refine (callsIn_wide.2 this).mono ?_
  rintro e W' ⟨rfl, B⟩
  refine ⟨ι, v, rfl, ⟨fun b e o hb ho => (S.obj b e o hb ho).later (Ren.le.refl ι) (B.block _ (S.dom b e hb)), S.inj, fun b e hb => Nat.lt_of_lt_of_le (S.dom b e hb) B.size, Nat.le_trans S.lo B.size⟩, ?_, .of_plain h2⟩
  exact { (Moves.refl : Moves P ι A W ι A W) with
    keep := fun b hb _ => B.block b hb
    wsz := B.size
    os := B.os
    tape := B.tape
    output := B.output }
theorem snd_lvlK (G : Good P) (hK : Known P K) {D : Lvl → Array Oper → Act → World → Act → World → Prop} (hD : ∀ L, Snd P n₀ L → SndDraw P n₀ (D L)) : ∀ n, Snd P n₀ (lvlK P K D n)
  | 0 => ⟨fun _ _ _ _ _ h => h.elim, fun _ _ _ _ _ _ _ h => h.elim, fun _ _ _ _ _ _ _ h => h.elim, fun _ _ _ _ _ _ _ h => h.elim⟩
  | n + 1 =>
    have hL := snd_lvlK G hK hD n
    ⟨fun _ _ _ _ _ h => h.elim (fun h => snd_call G hL h) (fun ⟨h1, h2⟩ => h2 ▸ snd_known hK h1), fun _ _ _ _ _ _ _ h => snd_round hL h, fun _ _ _ _ _ _ _ h => snd_code G hL (hD _ hL) h, fun _ _ _ _ _ _ _ h => snd_loop hL h⟩
theorem sndK (G : Good P) (hK : Known P K) (n : Nat) : Snd P n₀ (LvK P K n) := snd_lvlK G hK (fun _ hL => snd_draw G hL) n

/-- From a call on whose arguments bear no address, of a world without a block. -/
theorem plain_callK (G : Good P) (hK : Known P K) {n : Nat} {f : FuncId} {xs : List Value} (hxs : ∀ x ∈ xs, plain x = true) {v : Value} (hv : plain v = true) {A' : World} (h : (LvK P K n).calls f ⟨xs⟩ (tombs 0) v A') (W : World) :
    Calls P f ⟨xs⟩ W fun e W' => e = .returned v ∧ Below W.heap.size W W' := by
  have S : Sim P W.heap.size (fun _ => none) (tombs 0) W := ⟨fun b e o hb => (by cases hb), fun b b' e e' o o' hb => (by cases hb), fun b e hb => (by cases hb), Nat.le_refl _⟩
  have hx : Vs P (fun _ => none) ⟨xs⟩ ⟨xs⟩ := ⟨rfl, fun i x x' ha hb => by
    rw [ha] at hb; cases hb
    exact .of_plain (hxs x (by simpa using Array.mem_of_getElem? ha))⟩
  have hc := ((sndK G hK n).calls _ _ _ _ _ h).2 _ W ⟨xs⟩ S hx ⟨by rw [tombs_size]; exact Nat.zero_le _, fun b _ _ => rfl⟩
  have hc' := callsIn_wide.1 hc
  refine hc'.mono ?_
  rintro e W' ⟨ι', v', rfl, S', M, V⟩
  have := V.plain_eq hv
  subst this
  exact ⟨rfl, ⟨M.os, M.tape, M.output, M.wsz, fun b hb => M.keep b hb (fun k e o hk => by cases hk)⟩⟩

variable (P K)
noncomputable def evK (n : Nat) : EvT :=
  Nat.rec (motive := fun _ => EvT) ⟨fun _ _ _ => none, fun _ _ _ _ _ => none, fun _ _ _ _ _ => none, fun _ _ _ _ _ => none⟩
    (fun _ E => ⟨fun f xs h => (match K f xs.toList with | some v => some (v, h) | none => evCallT P E f xs h), evRoundT P E, evCodeT P E, evLoopT E⟩) n
variable {P K}
theorem evK_ok : ∀ n, EvTOk (evK P K n) (LvK P K n)
  | 0 => ⟨fun _ _ _ _ _ h => (by cases h), fun _ _ _ _ _ _ _ h => (by cases h), fun _ _ _ _ _ _ _ _ _ h => (by cases h), fun _ _ _ _ _ _ _ _ _ h => (by cases h)⟩
  | n + 1 =>
    have hE := evK_ok n
    ⟨fun f xs h v h' q A r => by
      have q' : (match K f xs.toList with | some v => some (v, h) | none => evCallT P (evK P K n) f xs h) = some (v, h') := q
      split at q'
      · rename_i u hu
        cases q'
        exact ⟨A, .inr ⟨hu, rfl⟩, r⟩
      · obtain ⟨A', h1, h2⟩ := evCallT_ok hE q' r
        exact ⟨A', .inl h1, h2⟩,
    fun _ _ _ _ _ _ _ h _ r => evRoundT_ok hE h r, fun _ _ _ _ _ _ _ _ _ h _ _ s r => evCodeT_ok hE h s r, fun _ _ _ _ _ _ _ _ _ h _ _ s r => evLoopT_ok hE h s r⟩

/-- What such a call answers with. -/
noncomputable def tells (P : Program) (K : Know) (n : Nat) (f : FuncId) (xs : List Value) (v : Value) : Bool :=
  xs.all plain && plain v && match (evK P K n).calls f ⟨xs⟩ ⟨.leaf, 0⟩ with
  | some (v', _) => beqV 4 v' v
  | none => false
theorem tells_ok (G : Good P) (hK : Known P K) {n : Nat} {f : FuncId} {xs : List Value} {v : Value} (h : tells P K n f xs v = true) (W : World) : Calls P f ⟨xs⟩ W fun e W' => e = .returned v ∧ Below W.heap.size W W' := by
  unfold tells at h
  simp only [Bool.and_eq_true, List.all_eq_true] at h
  obtain ⟨⟨h1, h2⟩, h3⟩ := h
  split at h3
  · rename_i v' h' hv
    have := beqV_eq h3
    subst this
    obtain ⟨A', hA, _⟩ := (evK_ok n).calls _ _ _ _ _ hv (tombs 0) ⟨by rw [tombs_size], fun b o hb => by rw [Tri.get_leaf] at hb; cases hb⟩
    exact plain_callK G hK h1 h2 hA W
  · cases h3
/-- Nothing is known; one thing more is known. -/
noncomputable def know0 : Know := fun _ _ => none
theorem known0 : Known P know0 := fun _ _ _ h => (by cases h)
noncomputable def knowTrue (fs : List FuncId) : Know := fun f xs => match xs, fs.contains f with
  | [], true => some (.bool true)
  | _, _ => none
theorem knownTrue {fs : List FuncId} (h : ∀ f ∈ fs, ∀ W, Calls P f ⟨[]⟩ W fun e W' => e = .returned (.bool true) ∧ Below W.heap.size W W') : Known P (knowTrue fs) := by
  intro f xs v hv
  unfold knowTrue at hv
  split at hv
  · rename_i hc
    cases hv
    exact ⟨fun x hx => (by cases hx), rfl, h f (by simpa using hc)⟩
  · cases hv
end
end Go.Abs
/-
  ABS 36: memo: a call from a heap that is written out, to a heap that is written out, each a theorem of its own.
-/
namespace Go.Abs
section
variable {P : Program} {K : Know}
theorem LvK_le : ∀ n, (LvK P K n).le (LvK P K (n + 1))
  | 0 => ⟨fun _ _ _ _ _ h => h.elim, fun _ _ _ _ _ _ _ h => h.elim, fun _ _ _ _ _ _ _ h => h.elim, fun _ _ _ _ _ _ _ h => h.elim⟩
  | n + 1 => by
    have h := LvK_le n
    refine ⟨?_, ?_, ?_, ?_⟩
    · rintro f xs A v A' (⟨fn, c, e, a1, A1, h1, h2, h3, h4⟩ | h1)
      · exact .inl ⟨fn, c, e, a1, A1, h1, h2, h.codes _ _ _ _ _ _ _ h3, h4⟩
      · exact .inr h1
    · rintro l ts as bd A v A' ⟨a1, A1, A2, e, a3, A3, j, h1, h2, h3, h4⟩
      exact ⟨a1, A1, A2, e, a3, A3, j, h.codes _ _ _ _ _ _ _ h1, h2, h.codes _ _ _ _ _ _ _ h3, h4⟩
    · intro ro c a A e a' A' r
      cases c with
      | seq x y =>
        obtain ⟨e1, a1, A1, h1, h2⟩ := r
        exact ⟨e1, a1, A1, h.codes _ _ _ _ _ _ _ h1, h2.mono fun _ _ _ _ _ q => h.codes _ _ _ _ _ _ _ q⟩
      | cond c x y =>
        obtain ⟨b, h1, h2⟩ := r
        exact ⟨b, h1, h.codes _ _ _ _ _ _ _ h2⟩
      | block id x =>
        obtain ⟨e1, h1, h2⟩ := r
        exact ⟨e1, h.codes _ _ _ _ _ _ _ h1, h2⟩
      | loop x => exact h.loops _ _ _ _ _ _ _ r
      | region id ops draw =>
        cases draw with
        | false => exact ⟨r.1, r.2.mono h⟩
        | true => exact ⟨r.1, r.2.mono h⟩
      | rangeFunc g ps as bd =>
        obtain ⟨l, mark, A1, f, first, cap, fn, code, v, A2, jump, A3, h1, h2, h3, h4, h5, h6, h7, h8⟩ := r
        refine ⟨l, mark, A1, f, first, cap, fn, code, v, A2, jump, A3, h1, h2, h3, h4, h5, h.calls _ _ _ _ _ h6, h7, ?_⟩
        cases jump with
        | none => exact h8
        | some c => exact h.codes _ _ _ _ _ _ _ h8
      | _ => exact r
    · rintro ro c a A e a' A' ⟨e1, a1, A1, h1, h2⟩
      exact ⟨e1, a1, A1, h.codes _ _ _ _ _ _ _ h1, h2.mono fun _ _ _ _ _ q => h.loops _ _ _ _ _ _ _ q⟩
theorem Lvl.le.refl (L : Lvl) : L.le L := ⟨fun _ _ _ _ _ q => q, fun _ _ _ _ _ _ _ q => q, fun _ _ _ _ _ _ _ q => q, fun _ _ _ _ _ _ _ q => q⟩
theorem LvK_mono {m n : Nat} (h : m ≤ n) : (LvK P K m).le (LvK P K n) := by
  obtain ⟨d, rfl⟩ := Nat.exists_eq_add_of_le h
  induction d with
  | zero => exact .refl _
  | succ d ih => exact (ih (Nat.le_add_right _ _)).trans (LvK_le _)

/-- A heap written out: what is known of it. -/
structure Lit where
  n : Nat
  l : List (Nat × Obj)
def triOf : List (Nat × Obj) → Tri Obj
  | [] => .leaf
  | (b, o) :: l => (triOf l).put (b + 1) b o
noncomputable def triK {β : Type} (l : List (Nat × Obj)) (k : Tri Obj → β) : β :=
  List.rec (motive := fun _ => (Tri Obj → β) → β) (fun k => k .leaf) (fun p _ ih k => ih fun t => t.putK (p.1 + 1) p.1 p.2 k) l k
theorem triK_eq {β : Type} : ∀ (l : List (Nat × Obj)) (k : Tri Obj → β), triK l k = k (triOf l)
  | [], _ => rfl
  | (b, o) :: l, k => by
    show triK l (fun t => t.putK (b + 1) b o k) = _
    rw [triK_eq l, Tri.putK_eq]; rfl
def Lit.hp (L : Lit) : Hp := ⟨triOf L.l, L.n⟩
theorem triOf_get : ∀ {l : List (Nat × Obj)} {b : Nat} {o : Obj}, (triOf l).get b = some o → (b, o) ∈ l
  | [], b, o, h => by rw [triOf, Tri.get_leaf] at h; cases h
  | (c, p) :: l, b, o, h => by
    simp only [triOf] at h
    by_cases e : b = c
    · subst e
      rw [Tri.get_put_self _ _ _ _ (Nat.lt_succ_self _)] at h
      cases h
      exact List.mem_cons_self
    · rw [Tri.get_put_ne _ _ _ _ _ e] at h
      exact List.mem_cons_of_mem _ (triOf_get h)
/-- What the list says, later entries (nearer its head) ahead of earlier ones. -/
noncomputable def fits (h : Hp) (L : Lit) : Bool := Nat.beq h.n L.n && triK L.l fun t => L.l.all fun p => match h.t.get p.1, t.get p.1 with
  | some o, some o' => beqO o o'
  | _, _ => false
theorem fits_ok {h : Hp} {L : Lit} {A : World} (r : Rep h A) (q : fits h L = true) : Rep L.hp A := by
  unfold fits at q
  rw [triK_eq] at q
  simp only [Bool.and_eq_true, List.all_eq_true] at q
  refine ⟨(Nat.eq_of_beq_eq_true q.1).symm.trans r.size, fun b o hb => ?_⟩
  have := q.2 _ (triOf_get hb)
  simp only at this
  split at this
  · rename_i o1 o2 h1 h2
    have hb' : (triOf L.l).get b = some o := hb
    rw [hb'] at h2
    cases h2
    rw [beqO_eq this] at h1
    exact r.get _ _ h1
  · cases this

structure Memo where
  f : FuncId
  xs : List Value
  h : Lit
  v : Value
  h' : Lit
def MemoOk (P : Program) (K : Know) (N : Nat) (m : Memo) : Prop := ∀ A, Rep m.h.hp A → ∃ A', (LvK P K N).calls m.f ⟨m.xs⟩ A m.v A' ∧ Rep m.h'.hp A'
theorem MemoOk.mono {M N : Nat} (h : M ≤ N) {m : Memo} (q : MemoOk P K M m) : MemoOk P K N m := fun A r => by
  obtain ⟨A', h1, h2⟩ := q A r
  exact ⟨A', (LvK_mono h).calls _ _ _ _ _ h1, h2⟩
noncomputable def hit (ms : List Memo) (f : FuncId) (xs : List Value) (h : Hp) : Option Memo :=
  ms.find? fun m => Nat.beq m.f f && beqL (beqV 4) xs m.xs && fits h m.h
variable (P K)
noncomputable def evM (ms : List Memo) (n : Nat) : EvT :=
  Nat.rec (motive := fun _ => EvT) ⟨fun _ _ _ => none, fun _ _ _ _ _ => none, fun _ _ _ _ _ => none, fun _ _ _ _ _ => none⟩
    (fun _ E => ⟨fun f xs h => (match K f xs.toList with
      | some v => some (v, h)
      | none => (match hit ms f xs.toList h with
        | some m => triK m.h'.l fun t => some (m.v, ⟨t, m.h'.n⟩)
        | none => evCallT P E f xs h)), evRoundT P E, evCodeT P E, evLoopT E⟩) n
variable {P K}
theorem evM_ok {ms : List Memo} {N : Nat} (hM : ∀ m ∈ ms, MemoOk P K N m) : ∀ n, EvTOk (evM P K ms n) (LvK P K (N + n))
  | 0 => ⟨fun _ _ _ _ _ h => (by cases h), fun _ _ _ _ _ _ _ h => (by cases h), fun _ _ _ _ _ _ _ _ _ h => (by cases h), fun _ _ _ _ _ _ _ _ _ h => (by cases h)⟩
  | n + 1 =>
    have hE := evM_ok hM n
    ⟨fun f xs h v h' q A r => by
      have q' : (match K f xs.toList with
        | some v => some (v, h)
        | none => (match hit ms f xs.toList h with
          | some m => triK m.h'.l fun t => some (m.v, ⟨t, m.h'.n⟩)
          | none => evCallT P (evM P K ms n) f xs h)) = some (v, h') := q
      split at q'
      · rename_i u hu
        cases q'
        exact ⟨A, .inr ⟨hu, rfl⟩, r⟩
      · split at q'
        · rename_i m hm
          rw [triK_eq] at q'
          cases q'
          unfold hit at hm
          have h1 := List.find?_some hm
          have h2 := List.mem_of_find?_eq_some hm
          simp only [Bool.and_eq_true] at h1
          obtain ⟨⟨e1, e2⟩, e3⟩ := h1
          have e1' := Nat.eq_of_beq_eq_true e1
          have e2' : xs.toList = m.xs := beqL_eq (fun x y => beqV_eq) e2
          obtain ⟨A', k1, k2⟩ := hM m h2 A (fits_ok r e3)
          refine ⟨A', ?_, k2⟩
          rw [← e1', show xs = ⟨m.xs⟩ from by rw [← e2']]
          exact (LvK_mono (Nat.le_add_right N (n + 1))).calls _ _ _ _ _ k1
        · obtain ⟨A', h1, h2⟩ := evCallT_ok hE q' r
          exact ⟨A', .inl h1, h2⟩,
    fun _ _ _ _ _ _ _ h _ r => evRoundT_ok hE h r, fun _ _ _ _ _ _ _ _ _ h _ _ s r => evCodeT_ok hE h s r, fun _ _ _ _ _ _ _ _ _ h _ _ s r => evLoopT_ok hE h s r⟩

/-- The kernel's check of one record. -/
noncomputable def memoB (P : Program) (K : Know) (ms : List Memo) (n : Nat) (m : Memo) : Bool :=
  triK m.h.l fun t => match (evM P K ms n).calls m.f ⟨m.xs⟩ ⟨t, m.h.n⟩ with
  | some (v', h') => beqV 4 v' m.v && fits h' m.h'
  | none => false
theorem memoB_ok {ms : List Memo} {N n : Nat} (hM : ∀ m ∈ ms, MemoOk P K N m) {m : Memo} (h : memoB P K ms n m = true) : MemoOk P K (N + n) m := by
  intro A r
  unfold memoB at h
  rw [triK_eq] at h
  split at h
  · rename_i v' h' hv
    simp only [Bool.and_eq_true] at h
    obtain ⟨A', h1, h2⟩ := (evM_ok hM n).calls _ _ _ _ _ hv A r
    rw [beqV_eq h.1] at h1
    exact ⟨A', h1, fits_ok h2 h.2⟩
  · cases h
/-- A closed call that leans on records. -/
noncomputable def tellsM (P : Program) (K : Know) (ms : List Memo) (n : Nat) (f : FuncId) (xs : List Value) (v : Value) : Bool :=
  xs.all plain && plain v && match (evM P K ms n).calls f ⟨xs⟩ ⟨.leaf, 0⟩ with
  | some (v', _) => beqV 4 v' v
  | none => false
open Go.RowKit in
theorem tellsM_ok (G : Good P) (hK : Known P K) {ms : List Memo} {N : Nat} (hM : ∀ m ∈ ms, MemoOk P K N m) {n : Nat} {f : FuncId} {xs : List Value} {v : Value} (h : tellsM P K ms n f xs v = true) (W : World) : Calls P f ⟨xs⟩ W fun e W' => e = .returned v ∧ Below W.heap.size W W' := by
  unfold tellsM at h
  simp only [Bool.and_eq_true, List.all_eq_true] at h
  obtain ⟨⟨h1, h2⟩, h3⟩ := h
  split at h3
  · rename_i v' h' hv
    have := beqV_eq h3
    subst this
    obtain ⟨A', hA, _⟩ := (evM_ok hM n).calls _ _ _ _ _ hv (tombs 0) ⟨by rw [tombs_size], fun b o hb => by rw [Tri.get_leaf] at hb; cases hb⟩
    exact plain_callK G hK h1 h2 hA W
  · cases h3
end
end Go.Abs
/-
  ABS B1: the widest level of the canonical run (all that is sound), and how code is walked at it.
-/
namespace Go.Abs
section
variable (P : Program) (n₀ : Nat)
/-- The widest level: whatever is sound. -/
def Wd : Lvl := { calls := SndCall P n₀, rounds := SndRound P n₀, codes := SndCode P n₀, loops := SndLoop P n₀ }
theorem snd_wd : Snd P n₀ (Wd P n₀) := ⟨fun _ _ _ _ _ h => h, fun _ _ _ _ _ _ _ h => h, fun _ _ _ _ _ _ _ h => h, fun _ _ _ _ _ _ _ h => h⟩

def wpC (ro : Option Nat) (c : Code) (Q : Exit → Act → World → Prop) (a : Act) (A : World) : Prop := ∃ e a' A', SndCode P n₀ ro c a A e a' A' ∧ Q e a' A'
def wpL (ro : Option Nat) (c : Code) (Q : Exit → Act → World → Prop) (a : Act) (A : World) : Prop := ∃ e a' A', SndLoop P n₀ ro c a A e a' A' ∧ Q e a' A'
def wpF (f : FuncId) (xs : Array Value) (Q : Value → World → Prop) (A : World) : Prop := ∃ v A', SndCall P n₀ f xs A v A' ∧ Q v A'
def wpO (ops : Array Oper) : List Oper → (Act → World → Prop) → Act → World → Prop
  | [], Q, a, A => Q a A
  | o :: os, Q, a, A => if Region.wanted o (yielded ops a.tmps) then ∃ v A1, RunOp P (Wd P n₀) o a A v A1 ∧ wpO ops os Q (a.put o.dst v) A1 else wpO ops os Q (a.put o.dst undef) A

/-- What a function is. -/
structure IsFn (f : FuncId) (fn : Func) (c : Code) : Prop where
  at_ : P.funcs[f]? = some fn
  body : fn.body = some c
  name : (fn.name == "runtime.NumGoroutine") = false

structure retQ (fn : Func) (Q : Value → World → Prop) (e : Exit) (a : Act) (A : World) : Prop where
  how : e = .normal ∨ e = .ret
  defers : a.defers = []
  out : ∃ v, (results fn a.tmps).run P A = .ok v A ∧ Q v A
def thenQ (N : Act → World → Prop) (Q : Exit → Act → World → Prop) : Exit → Act → World → Prop := fun e a A => match e with
  | .normal => N a A
  | e => Q e a A
end
section
variable {P : Program} {n₀ : Nat} {ro : Option Nat} {Q : Exit → Act → World → Prop} {a : Act} {A : World}

theorem wpC.mono {c : Code} {Q' : Exit → Act → World → Prop} (h : wpC P n₀ ro c Q a A) (k : ∀ e a A, Q e a A → Q' e a A) : wpC P n₀ ro c Q' a A :=
  let ⟨e, a', A', h1, h2⟩ := h; ⟨e, a', A', h1, k _ _ _ h2⟩
theorem wpF.mono {f : FuncId} {xs : Array Value} {Q Q' : Value → World → Prop} (h : wpF P n₀ f xs Q A) (k : ∀ v A, Q v A → Q' v A) : wpF P n₀ f xs Q' A :=
  let ⟨v, A', h1, h2⟩ := h; ⟨v, A', h1, k _ _ h2⟩

theorem wpO_run {ops : Array Oper} : ∀ (os : List Oper) (k : Nat) (Q : Act → World → Prop) (a : Act) (A : World), (∀ (j : Nat) (o : Oper), os[j]? = some o → ops[k + j]? = some o) → wpO P n₀ ops os Q a A →
    ∃ a' A', RunOps P (Wd P n₀) ops (List.range' k os.length) a A a' A' ∧ Q a' A'
  | [], k, Q, a, A, _, h => ⟨a, A, ⟨rfl, rfl⟩, h⟩
  | o :: os, k, Q, a, A, hk, h => by
    have h0 : ops[k]? = some o := by simpa using hk 0 o rfl
    have hk' : ∀ (j : Nat) (o : Oper), os[j]? = some o → ops[k + 1 + j]? = some o := fun j o' hj => by
      have := hk (j + 1) o' (by simpa using hj)
      rw [show k + 1 + j = k + (j + 1) by omega]; exact this
    simp only [List.length_cons, List.range'_succ, RunOps, h0]
    unfold wpO at h
    split at h
    · rename_i hw
      obtain ⟨v, A1, h1, h2⟩ := h
      obtain ⟨a', A', h3, h4⟩ := wpO_run os (k + 1) Q _ _ hk' h2
      refine ⟨a', A', ?_, h4⟩
      rw [if_pos hw]; exact ⟨v, A1, h1, h3⟩
    · rename_i hw
      obtain ⟨a', A', h3, h4⟩ := wpO_run os (k + 1) Q _ _ hk' h
      refine ⟨a', A', ?_, h4⟩
      rw [if_neg hw]; exact h3

theorem code_of (G : Good P) {c : Code} {e : Exit} {a' : Act} {A' : World} (h : codeStep P (Wd P n₀) (RunDraw P) ro c a A e a' A') : SndCode P n₀ ro c a A e a' A' :=
  snd_code G (snd_wd P n₀) (snd_draw G (snd_wd P n₀)) h

theorem cw_region (G : Good P) {id : Nat} {ops : Array Oper} (h : wpO P n₀ ops ops.toList (Q .normal) a A) : wpC P n₀ ro (.region id ops false) Q a A := by
  obtain ⟨a', A', h1, h2⟩ := wpO_run ops.toList 0 _ a A (fun j o h => by simpa using h) h
  exact ⟨.normal, a', A', code_of G (c := .region id ops false) ⟨rfl, by simpa [List.range_eq_range'] using h1⟩, h2⟩
theorem cw_skip (G : Good P) (h : Q .normal a A) : wpC P n₀ ro .skip Q a A := ⟨_, _, _, code_of G (c := .skip) ⟨rfl, rfl, rfl⟩, h⟩
theorem cw_ret (G : Good P) (h : Q .ret a A) : wpC P n₀ ro .ret Q a A := ⟨_, _, _, code_of G (c := .ret) ⟨rfl, rfl, rfl⟩, h⟩
theorem cw_exit (G : Good P) {id : Nat} (h : Q (.exit id) a A) : wpC P n₀ ro (.exit id) Q a A := ⟨_, _, _, code_of G (c := .exit id) ⟨rfl, rfl, rfl⟩, h⟩
theorem cw_seq (G : Good P) {x y : Code} (h : wpC P n₀ ro x (thenQ (wpC P n₀ ro y Q) Q) a A) : wpC P n₀ ro (.seq x y) Q a A := by
  obtain ⟨e, a1, A1, h1, h2⟩ := h
  cases e with
  | normal =>
    obtain ⟨e2, a2, A2, h3, h4⟩ := h2
    exact ⟨e2, a2, A2, code_of G (c := .seq x y) ⟨_, _, _, h1, h3⟩, h4⟩
  | exit i => exact ⟨_, _, _, code_of G (c := .seq x y) ⟨_, _, _, h1, rfl, rfl, rfl⟩, h2⟩
  | goto l => exact ⟨_, _, _, code_of G (c := .seq x y) ⟨_, _, _, h1, rfl, rfl, rfl⟩, h2⟩
  | ret => exact ⟨_, _, _, code_of G (c := .seq x y) ⟨_, _, _, h1, rfl, rfl, rfl⟩, h2⟩
  | panic ch => exact ⟨_, _, _, code_of G (c := .seq x y) ⟨_, _, _, h1, rfl, rfl, rfl⟩, h2⟩
  | outgrown => exact ⟨_, _, _, code_of G (c := .seq x y) ⟨_, _, _, h1, rfl, rfl, rfl⟩, h2⟩
theorem cw_cond (G : Good P) {c : Operand} {x y : Code} (b : Bool) (hc : a.eval c = .bool b) (h : wpC P n₀ ro (if b then x else y) Q a A) : wpC P n₀ ro (.cond c x y) Q a A := by
  obtain ⟨e, a1, A1, h1, h2⟩ := h
  exact ⟨_, _, _, code_of G (c := .cond c x y) ⟨b, hc, h1⟩, h2⟩
theorem cw_block (G : Good P) {id : Nat} {x : Code} (h : wpC P n₀ ro x (fun e => Q (inBlk id e)) a A) : wpC P n₀ ro (.block id x) Q a A := by
  obtain ⟨e, a1, A1, h1, h2⟩ := h
  exact ⟨_, _, _, code_of G (c := .block id x) ⟨e, h1, rfl⟩, h2⟩
theorem cw_loop (G : Good P) {x : Code} (h : wpL P n₀ ro x Q a A) : wpC P n₀ ro (.loop x) Q a A := by
  obtain ⟨e, a1, A1, h1, h2⟩ := h
  exact ⟨_, _, _, code_of G (c := .loop x) h1, h2⟩
theorem wpL_step {x : Code} (h : wpC P n₀ ro x (thenQ (wpL P n₀ ro x Q) Q) a A) : wpL P n₀ ro x Q a A := by
  obtain ⟨e, a1, A1, h1, h2⟩ := h
  have mk : ∀ {e2 a2 A2}, thenStep e a1 A1 (SndLoop P n₀ ro x) e2 a2 A2 → SndLoop P n₀ ro x a A e2 a2 A2 := fun h3 => snd_loop (snd_wd P n₀) ⟨_, _, _, h1, h3⟩
  cases e with
  | normal =>
    obtain ⟨e2, a2, A2, h3, h4⟩ := h2
    exact ⟨e2, a2, A2, mk h3, h4⟩
  | exit i => exact ⟨_, _, _, mk ⟨rfl, rfl, rfl⟩, h2⟩
  | goto l => exact ⟨_, _, _, mk ⟨rfl, rfl, rfl⟩, h2⟩
  | ret => exact ⟨_, _, _, mk ⟨rfl, rfl, rfl⟩, h2⟩
  | panic ch => exact ⟨_, _, _, mk ⟨rfl, rfl, rfl⟩, h2⟩
  | outgrown => exact ⟨_, _, _, mk ⟨rfl, rfl, rfl⟩, h2⟩
/-- A loop, by what holds ahead of each round, and how much is still to do. -/
theorem wpL_ind {x : Code} (I : Nat → Act → World → Prop) (h : ∀ n a A, I n a A → wpC P n₀ ro x (thenQ (fun a' A' => ∃ m, m < n ∧ I m a' A') Q) a A) : ∀ (n : Nat) (a : Act) (A : World), I n a A → wpL P n₀ ro x Q a A := by
  intro n
  induction n using Nat.strongRecOn with
  | _ n ih =>
    intro a A hI
    refine wpL_step ((h n a A hI).mono fun e a' A' hq => ?_)
    cases e with
    | normal => obtain ⟨m, hm, hI'⟩ := hq; exact ih m hm _ _ hI'
    | _ => exact hq

theorem wpF_fn (G : Good P) {f : FuncId} {fn : Func} {c : Code} {xs ts : Array Value} (H : IsFn P f fn c) (ht : xs ++ Array.replicate (fn.ntmps - xs.size) undef = ts) {Q : Value → World → Prop}
    (h : wpC P n₀ none c (retQ P fn Q) ⟨ts, []⟩ A) : wpF P n₀ f xs Q A := by
  subst ht
  obtain ⟨e, a1, A1, h1, ⟨h2, h3, v, h4, h5⟩⟩ := h
  exact ⟨v, A1, snd_call G (snd_wd P n₀) ⟨fn, c, e, a1, A1, H.at_, H.body, h1, h2, by rw [h3]; rfl, h4⟩, h5⟩

section
variable {ops : Array Oper} {o : Oper} {os : List Oper} {Q : Act → World → Prop}
theorem wpO_val {v : Value} {A1 : World} (h : AOp P a.eval o A (.value v) A1) (k : wpO P n₀ ops os Q (a.put o.dst v) A1) (hw : Region.wanted o (yielded ops a.tmps) = true := by rfl) : wpO P n₀ ops (o :: os) Q a A := by
  unfold wpO; rw [if_pos hw]; exact ⟨v, A1, ⟨_, _, h, rfl, rfl⟩, k⟩
theorem wpO_unit {A1 : World} (h : AOp P a.eval o A .skip A1) (k : wpO P n₀ ops os Q (a.put o.dst undef) A1) (hw : Region.wanted o (yielded ops a.tmps) = true := by rfl) : wpO P n₀ ops (o :: os) Q a A := by
  unfold wpO; rw [if_pos hw]; exact ⟨undef, A1, ⟨_, _, h, rfl, rfl⟩, k⟩
theorem wpO_not (k : wpO P n₀ ops os Q (a.put o.dst undef) A) (hw : Region.wanted o (yielded ops a.tmps) = false := by rfl) : wpO P n₀ ops (o :: os) Q a A := by
  unfold wpO; rw [if_neg (by rw [hw]; decide)]; exact k
theorem wpO_call {c : Call} {g : Operand} {f : FuncId} {fn : Func} {code : Code} {first cap xs : Array Value} (H : IsFn P f fn code) (hg : a.eval g = .func (.func f) first cap) {l : List Value} (hl : c.args.toList.map a.eval = l) (hx : first ++ l.toArray ++ cap = xs)
    (k : wpF P n₀ f xs (fun v A1 => wpO P n₀ ops os Q (a.put o.dst v) A1) A) (ho : o.op = .call c := by rfl) (hc : c.callee = .value g := by rfl) (hw : Region.wanted o (yielded ops a.tmps) = true := by rfl) : wpO P n₀ ops (o :: os) Q a A := by
  subst hx
  obtain ⟨v, A1, h1, h2⟩ := k
  have e : c.args.map a.eval = l.toArray := by rw [← hl, ← Array.toList_map]
  rw [← e] at h1
  unfold wpO; rw [if_pos hw]
  exact ⟨v, A1, ⟨_, _, .inr (.inr (.inr (.inl ⟨c, g, f, first, cap, fn, code, ho, hc, hg, H.at_, H.body, H.name, rfl, rfl⟩))), h1⟩, h2⟩
end
end
end Go.Abs
/-
  ABS B2: single operations, as a walk meets them.
-/
namespace Go.Abs
section
variable {P : Program} {A A' : World} {ρ : Operand → Value} {o : Oper}

/-- A type whose values are one cell each. -/
def one (P : Program) (t : TypeId) : Bool :=
  (match P.underlying t with | some (.struct _) => false | some (.array ..) => false | some _ => true | none => false) && (match P.info? t with | some i => decide (i.size = 1) | none => false)
theorem run_isAgg {t : TypeId} (h : one P t = true) (w : World) : (isAgg t).run P w = .ok false w := by
  unfold one at h
  simp only [Bool.and_eq_true] at h
  obtain ⟨h1, _⟩ := h
  unfold isAgg underlying program
  cases hu : P.underlying t with
  | none => rw [hu] at h1; cases h1
  | some d => cases d <;> simp_all [Sem.run, Bind.bind, Sem.bind, Pure.pure]
theorem run_sizeOne {t : TypeId} (h : one P t = true) (w : World) : (sizeOf t).run P w = .ok 1 w := by
  unfold one at h
  simp only [Bool.and_eq_true] at h
  obtain ⟨_, h1⟩ := h
  unfold sizeOf typeInfo program
  cases hu : P.info? t with
  | none => rw [hu] at h1; cases h1
  | some d => rw [hu] at h1; simp_all [Sem.run, Bind.bind, Sem.bind, Pure.pure]
theorem isOne_cells {v : Value} (h : isOne v = true) : v.cells = #[v] := by cases v <;> simp_all [isOne, Value.cells]
theorem isOne_size {v : Value} (h : isOne v = true) : v.cells.size = 1 := by rw [isOne_cells h]; rfl

theorem aop_move {x : Operand} (h : o.op = .move x ∨ o.op = .assign x) : AOp P ρ o A (.value (ρ x)) A := by
  refine .inr (.inl ⟨?_, ?_⟩)
  · rcases h with h | h <;> rw [h] <;> trivial
  · unfold execOp; rcases h with h | h <;> rw [h] <;> rfl
theorem aop_mv {x : Operand} {v : Value} (h : o.op = .move x) (hx : ρ x = v) : AOp P ρ o A (.value v) A := hx ▸ aop_move (.inl h)
theorem aop_as {x : Operand} {v : Value} (h : o.op = .assign x) (hx : ρ x = v) : AOp P ρ o A (.value v) A := hx ▸ aop_move (.inr h)
theorem aop_pick {c x y : Operand} {b : Bool} (h : o.op = .pick c x y) (hc : ρ c = .bool b) : AOp P ρ o A (.value (if b then ρ x else ρ y)) A := by
  refine .inr (.inl ⟨by rw [h]; trivial, ?_⟩)
  unfold execOp; rw [h]; simp only [hc]; rfl
theorem run_loadVar {t : TypeId} {p : Addr} {v : Value} (h1 : one P t = true) (hc : A.cell? p = some v) : (loadVar t p).run P A = .ok v A := by
  unfold loadVar
  simp only [Sem.run_bind, run_isAgg h1, Result.andThen]
  simp [hc]
theorem aop_load {t : TypeId} {x : Operand} {p : Addr} {v : Value} (h : o.op = .load t x) (hx : ρ x = .pointer (some p)) (h1 : one P t = true) (hc : A.cell? p = some v) : AOp P ρ o A (.value v) A := by
  refine .inr (.inl ⟨by rw [h]; trivial, ?_⟩)
  unfold execOp; rw [h]
  simp only [Instr.loadAt, hx, Instr.sureAddr, Sem.run_bind, Sem.run_pure, Result.andThen, run_loadVar h1 hc]
theorem aop_store {t : TypeId} {x y : Operand} {p : Addr} {u v : Value} (h : o.op = .store t x y) (hx : ρ x = .pointer (some p)) (hy : ρ y = v) (h1 : one P t = true) (hv : isOne v = true) (hc : A.cell? p = some u) (hz : A.frozen? p = false) :
    AOp P ρ o A .skip (A.setCell p v) := by
  refine .inr (.inl ⟨by rw [h]; trivial, ?_⟩)
  unfold execOp; rw [h]
  simp only [Instr.storeAt, hx, hy, Instr.sureAddr, Sem.run_bind, Sem.run_pure, Result.andThen, storeVar, run_sizeOne h1, isOne_size hv, ne_eq, not_true_eq_false, if_false]
  rw [isOne_cells hv]
  have e : p.add 0 = p := by cases p; simp [Addr.add]
  simp only [storeCells, e]
  cases v <;> simp_all [isOne, store, Sem.run, Bind.bind, Sem.bind, Pure.pure]
theorem aop_box {t : TypeId} {x : Operand} {v : Value} (h : o.op = .box t x) (hx : ρ x = v) (hv : isOne v = true) : AOp P ρ o A (.value (.pointer (some ⟨A.heap.size, 0, none⟩))) (A.alloc (.cells #[v] t (0, 0))) := by
  refine .inr (.inl ⟨by rw [h]; trivial, ?_⟩)
  unfold execOp; rw [h]
  simp only [hx]
  simp only [Instr.box, newVar, newRow, isOne_cells hv]
  rfl
theorem aop_alloc {t : TypeId} {i : TypeInfo} {z : Value} (h : o.op = .alloc t) (hi : P.info? t = some i) (hz : i.zero = some z) (hv : isOne z = true) :
    AOp P ρ o A (.value (.pointer (some ⟨A.heap.size, 0, none⟩))) (A.alloc (.cells #[z] t (0, 0))) := by
  refine .inr (.inl ⟨by rw [h]; trivial, ?_⟩)
  unfold execOp; rw [h]
  have hzr : (zeroValue t).run P A = .ok z A := by simp [zeroValue, typeInfo, program, Sem.run, Bind.bind, Sem.bind, Pure.pure, hi, hz]
  simp only [Instr.alloc, Sem.run_bind, Result.andThen, hzr, newVar, newRow, isOne_cells hv]
  rfl
theorem map_list {α : Type} {xs : Array α} {g : α → Value} {l : List Value} (h : xs.toList.map g = l) : xs.map g = l.toArray := by
  rw [← h, ← Array.toList_map]
theorem aop_func {f : FuncId} {first cap : Array Operand} {l l' : List Value} (h : o.op = .makeFunc (.func f) first cap) (h1 : first.toList.map ρ = l) (h2 : cap.toList.map ρ = l') : AOp P ρ o A (.value (.func (.func f) l.toArray l'.toArray)) A := by
  refine .inr (.inl ⟨by rw [h]; exact ⟨_, rfl⟩, ?_⟩)
  unfold execOp; rw [h]; rw [← map_list h1, ← map_list h2]; rfl
/-- Two whole numbers. -/
def intV (op : BinOp) (k : IntKind) (m n : Int) : Option Value := match op with
  | .add => some (.int k (k.wrap (m + n)))
  | .sub => some (.int k (k.wrap (m - n)))
  | .mul => some (.int k (k.wrap (m * n)))
  | .quo => if n = 0 then none else some (.int k (k.wrap (m.tdiv n)))
  | .rem => if n = 0 then none else some (.int k (m.tmod n))
  | .eql => some (.bool (m == n))
  | .neq => some (.bool (m != n))
  | .lss => some (.bool (m < n))
  | .leq => some (.bool (m ≤ n))
  | .gtr => some (.bool (m > n))
  | .geq => some (.bool (m ≥ n))
  | .shr => if n < 0 then none else some (.int k (m.fdiv (2 ^ (min n.toNat k.bits))))
  | .shl => if n < 0 then none else some (.int k (k.wrap (m * 2 ^ (min n.toNat k.bits))))
  | _ => none
theorem aop_int {op : BinOp} {t : TypeId} {x y : Operand} {z : TypeId} {k : IntKind} {m n : Int} {v : Value} (h : o.op = .binOp op t x y z) (hx : ρ x = .int k m) (hy : ρ y = .int k n) (hv : intV op k m n = some v) : AOp P ρ o A (.value v) A := by
  refine .inl ⟨v, rfl, rfl, ?_, ?_, by rw [h]; rfl, fun w => ?_⟩
  · unfold intV at hv
    split at hv <;> first | (cases hv; done) | (cases hv; rfl) | (split at hv <;> cases hv <;> rfl)
  · rw [h]; intro u hu
    simp only [Op.operands, List.mem_toArray, List.mem_cons, List.not_mem_nil, or_false] at hu
    rcases hu with rfl | rfl
    · rw [hx]; rfl
    · rw [hy]; rfl
  · unfold execOp; rw [h]
    simp only [hx, hy]
    unfold intV at hv
    split at hv <;> first | (cases hv; done) | skip
    all_goals first
      | (cases hv; simp [eqGuard, binOp, Op.intArith, Op.intCmp, Bind.bind, Sem.bind, Pure.pure]; done)
      | (split at hv <;> first | (cases hv; done) | (cases hv; rename_i hn; simp [eqGuard, binOp, Op.intDiv, hn, Bind.bind, Sem.bind, Pure.pure]; done) | (cases hv; rename_i hn; simp [eqGuard, binOp, Op.shift, hn, Bind.bind, Sem.bind, Pure.pure]))
theorem aop_not {t : TypeId} {x : Operand} {b : Bool} (h : o.op = .unOp .not t x) (hx : ρ x = .bool b) : AOp P ρ o A (.value (.bool !b)) A := by
  refine .inl ⟨_, rfl, rfl, rfl, ?_, by rw [h]; rfl, fun w => ?_⟩
  · rw [h]; intro u hu
    simp only [Op.operands, List.mem_toArray, List.mem_cons, List.not_mem_nil, or_false] at hu
    subst hu; rw [hx]; rfl
  · unfold execOp; rw [h]; simp only [hx]; rfl
theorem aop_neNil {t : TypeId} {x y : Operand} {z : TypeId} {v w : Value} (h : o.op = .binOp .neq t x y z) (hx : ρ x = v) (hy : ρ y = w) (hn : nilPair v w = true) {b : Bool} (hr : (Op.equal t v w).run P A = .ok b A) : AOp P ρ o A (.value (.bool !b)) A := by
  refine .inr (.inl ⟨by rw [h]; show nilPair (ρ x) (ρ y) = true; rw [hx, hy]; exact hn, ?_⟩)
  unfold execOp; rw [h]
  simp only [hx, hy, nilPair_guard hn .neq t x y (.inr rfl), nilPair_neq hn t, Sem.run_bind, Sem.run_pure, Result.andThen, hr]

theorem aop_len {c : Call} {t e : TypeId} {b : Option Addr} {len cap : Nat} (h : o.op = .call c) (hc : c.callee = .builtin .len) (ht : c.argTypes[0]? = some t) (hu : P.underlying t = some (.slice e)) (hx : c.args.toList.map ρ = [.slice b len cap]) :
    AOp P ρ o A (.value (.int .i64 len)) A := by
  refine .inr (.inl ⟨by rw [h]; exact .inl hc, ?_⟩)
  unfold execOp; rw [h]
  simp only [resolve, hc, map_list hx, Sem.run_bind, Sem.run_pure, Result.andThen, invoke, builtin, Builtin.len_, ht]
  simp [underlying, program, Sem.run, Bind.bind, Sem.bind, Pure.pure, hu, goInt]
theorem aop_min {c : Call} {k : IntKind} {m n : Int} (h : o.op = .call c) (hc : c.callee = .builtin .min) (hx : c.args.toList.map ρ = [.int k m, .int k n]) (hp : o.op.operands.toList.all (fun x => plain (ρ x)) = true) :
    AOp P ρ o A (.value (.int k (if n < m then n else m))) A := by
  refine .inl ⟨_, rfl, rfl, rfl, fun x hx => (List.all_eq_true.1 hp) x (by simpa using hx), by rw [h]; rfl, fun w => ?_⟩
  unfold execOp; rw [h]
  simp only [resolve, hc, map_list hx, Sem.run_bind, Sem.run_pure, Result.andThen, invoke, builtin, Builtin.min_]
  rfl
theorem aop_max {c : Call} {k : IntKind} {m n : Int} (h : o.op = .call c) (hc : c.callee = .builtin .max) (hx : c.args.toList.map ρ = [.int k m, .int k n]) (hp : o.op.operands.toList.all (fun x => plain (ρ x)) = true) :
    AOp P ρ o A (.value (.int k (if m < n then n else m))) A := by
  refine .inl ⟨_, rfl, rfl, rfl, fun x hx => (List.all_eq_true.1 hp) x (by simpa using hx), by rw [h]; rfl, fun w => ?_⟩
  unfold execOp; rw [h]
  simp only [resolve, hc, map_list hx, Sem.run_bind, Sem.run_pure, Result.andThen, invoke, builtin, Builtin.max_]
  rfl
theorem aop_index {t e : TypeId} {x ix : Operand} {p : Addr} {len cap i : Nat} {k : IntKind} (h : o.op = .indexAddr t x ix) (hx : ρ x = .slice (some p) len cap) (hi : ρ ix = .int k i) (hu : P.underlying t = some (.slice e)) (h1 : one P e = true) (hl : i < len) :
    AOp P ρ o A (.value (.pointer (some (p.add (i * 1))))) A := by
  refine .inr (.inl ⟨by rw [h]; trivial, ?_⟩)
  unfold execOp; rw [h]
  have hs : (sizeOf e).run P A = .ok 1 A := run_sizeOne h1 A
  have hun : (underlying t).run P A = .ok (.slice e) A := by simp [underlying, program, Sem.run, Bind.bind, Sem.bind, Pure.pure, hu]
  have hl' : (0 : Int) ≤ i ∧ (i : Int) < len := ⟨by omega, by omega⟩
  simp only [Instr.indexAt, hx, hi, asIntOf, Sem.run_bind, Sem.run_pure, Result.andThen, hun, hs, hl', and_self, if_true, Int.toNat_natCast]
theorem run_bound {v : Value} {k : IntKind} {n y : Nat} {code : BoundsCode} (hv : v = .int k n) (h : n ≤ y) : (Instr.sliceBound v y code).run P A = .ok n A := by
  subst hv
  have h' : (0 : Int) ≤ n ∧ (n : Int) ≤ y := ⟨by omega, by omega⟩
  simp only [Instr.sliceBound, asIntOf, Sem.run_bind, Sem.run_pure, Result.andThen, h', and_self, if_true, Int.toNat_natCast]
theorem aop_slice {t e : TypeId} {x : Operand} {lo hi : Option Operand} {b : Option Addr} {len cap l h : Nat} {k : IntKind} (ho : o.op = .slice t x lo hi none) (hx : ρ x = .slice b len cap) (hu : P.underlying t = some (.slice e)) (h1 : one P e = true)
    (hlo : (lo.map ρ = none ∧ l = 0) ∨ lo.map ρ = some (.int k l)) (hhi : hi.map ρ = some (.int k h)) (hl : l ≤ h) (hh : h ≤ cap) (hlen : len ≤ cap)
    (hb : ∀ a, b = some a → ∃ cs t' fz, A.heap[a.block]? = some (.cells cs t' fz) ∧ fz ≠ (2, 0) ∧ (fz = (1, 0) → P.cellsOf e = P.cellsOf t')) :
    AOp P ρ o A (.value (.slice (if cap = l then b else b.map (·.add (l * 1))) (h - l) (cap - l))) A := by
  refine .inr (.inl ⟨?_, ?_⟩)
  · rw [ho]
    refine ⟨fun a l' c' h' => ?_, fun e' h' => ?_, fun el he a l' c' h' => ?_⟩
    · rw [hx] at h'; cases h'; exact hlen
    · rw [hu] at h'; cases h'
    · rw [hu] at he; cases he; rw [hx] at h'; cases h'; exact hb a rfl
  · unfold execOp; rw [ho]
    have hs : (sizeOf e).run P A = .ok 1 A := run_sizeOne h1 A
    have hun : (underlying t).run P A = .ok (.slice e) A := by simp [underlying, program, Sem.run, Bind.bind, Sem.bind, Pure.pure, hu]
    have hbd : (Instr.sliceBounds true len cap (lo.map ρ) (hi.map ρ) none).run P A = .ok (l, h, cap) A := by
      unfold Instr.sliceBounds
      rw [hhi]
      rcases hlo with ⟨h0, rfl⟩ | h0
      · rw [h0]
        simp only [Sem.run_bind, Sem.run_pure, Result.andThen, run_bound (v := .int k h) rfl hh]
      · rw [h0]
        simp only [Sem.run_bind, Sem.run_pure, Result.andThen, run_bound (v := .int k h) rfl hh, run_bound (v := .int k l) rfl hl, Option.isSome_none, if_true]
    simp only [Instr.sliceAt, Instr.slice, hx, Sem.run_bind, Sem.run_pure, Result.andThen, hun, hs, hbd, Option.map_none]
theorem aop_slice1 {t e : TypeId} {x : Operand} {v z : Value} {i : TypeInfo} (h : o.op = .buildSlice t 1 #[(0, x)]) (hx : ρ x = v) (hv : isOne v = true) (hu : P.underlying t = some (.slice e)) (h1 : one P e = true) (hi : P.info? e = some i) (hz : i.zero = some z) (hz1 : isOne z = true) :
    AOp P ρ o A (.value (.slice (some ⟨A.heap.size, 0, none⟩) 1 1)) (A.alloc (.cells #[v] e (0, 0))) := by
  refine .inr (.inl ⟨by rw [h]; trivial, ?_⟩)
  unfold execOp; rw [h]
  have hs : ∀ w, (sizeOf e).run P w = .ok 1 w := run_sizeOne h1
  have hun : (underlying t).run P A = .ok (.slice e) A := by simp [underlying, program, Sem.run, Bind.bind, Sem.bind, Pure.pure, hu]
  have hzr : (zeroValue e).run P A = .ok z A := by simp [zeroValue, typeInfo, program, Sem.run, Bind.bind, Sem.bind, Pure.pure, hi, hz]
  have hf : Instr.fill (fun i => some (i * 1, 1)) ((Array.range (1 * 1)).map (z.cells[· % z.cells.size]!)) [(0, v)] = some #[v] := by
    rw [isOne_cells hz1]
    have hr : Array.range 1 = #[0] := rfl
    simp [Instr.fill, isOne_cells hv, hr]
  simp only [Instr.buildSlice, Sem.run_bind, Sem.run_pure, Result.andThen, hun, hs]
  have e1 : (#[((0 : Nat), x)].map fun (p : Nat × Operand) => (p.1, ρ p.2)).toList = [(0, v)] := by simp [hx]
  rw [if_neg (by decide : ¬ 1 * 1 > 2 ^ 24), if_neg (by decide : ¬ 1 * 1 = 0)]
  simp only [Sem.run_bind, Sem.run_pure, Result.andThen, hzr, e1, hf, newRow]
  rfl
theorem add_block (a : Addr) (i : Nat) : (a.add i).block = a.block := by unfold Addr.add; split <;> rfl
theorem add_off (a : Addr) (i : Nat) : (a.add i).off = a.off + i := by unfold Addr.add; split <;> simp_all
theorem add_spot {a : Addr} (h : a.spot = none) (i : Nat) : (a.add i).spot = none := by unfold Addr.add; split <;> simp_all
theorem cell_at {a : Addr} {cs : Array Value} {t : TypeId} {fz : Nat × Nat} (h : A.heap[a.block]? = some (.cells cs t fz)) (hs : a.spot = none) : A.cell? a = cs[a.off]? := by
  simp only [World.cell?, h, hs]; rfl
theorem cell_add {a : Addr} {cs : Array Value} {t : TypeId} {fz : Nat × Nat} (h : A.heap[a.block]? = some (.cells cs t fz)) (hs : a.spot = none) (i : Nat) : A.cell? (a.add i) = cs[a.off + i]? := by
  rw [cell_at (a := a.add i) (by rw [add_block]; exact h) (add_spot hs i), add_off]
theorem run_loadCells : ∀ (n : Nat) (a : Addr) (i : Nat) (acc cs : Array Value) (t : TypeId) (fz : Nat × Nat), A.heap[a.block]? = some (.cells cs t fz) → a.spot = none → a.off + i + n ≤ cs.size →
    (loadCellsFrom a i n acc).run P A = .ok (acc ++ cs.extract (a.off + i) (a.off + i + n)) A
  | 0, a, i, acc, cs, t, fz, h, hs, hn => by
    have : cs.extract (a.off + i) (a.off + i + 0) = #[] := by simp; omega
    rw [this]; simp [loadCellsFrom]
  | n + 1, a, i, acc, cs, t, fz, h, hs, hn => by
    have hlt : a.off + i < cs.size := by omega
    have hc : A.cell? (a.add i) = some cs[a.off + i] := by rw [cell_add h hs]; exact Array.getElem?_eq_getElem hlt
    have ih := run_loadCells n a (i + 1) (acc.push cs[a.off + i]) cs t fz h hs (by omega)
    have e : acc.push cs[a.off + i] ++ cs.extract (a.off + (i + 1)) (a.off + (i + 1) + n) = acc ++ cs.extract (a.off + i) (a.off + i + (n + 1)) := by
      apply Array.ext'
      simp only [Array.toList_append, Array.toList_push, Array.toList_extract, List.extract_eq_take_drop, List.append_assoc]
      congr 1
      have hl : a.off + i < cs.toList.length := by simpa using hlt
      rw [List.drop_eq_getElem_cons hl, show a.off + i + (n + 1) - (a.off + i) = n + 1 by omega, List.take_succ_cons, show a.off + (i + 1) + n - (a.off + (i + 1)) = n by omega]
      simp [Nat.add_assoc]
    rw [e] at ih
    have e0 : (Go.load (a.add i)).run P A = .ok cs[a.off + i] A := by simp [Go.load, Sem.run, hc]
    unfold loadCellsFrom
    simp only [Sem.run_bind, e0, Result.andThen]
    exact ih
/-- One element more, of a slice that is full: nil, or a block of its own that was grown. -/
theorem aop_append1 {c : Call} {sT xT e e' : TypeId} {ie : TypeInfo} {z v : Value} {b : Option Addr} {k q : Nat} {cs : Array Value} {tq : TypeId} {fq : Nat × Nat} (h : o.op = .call c) (hc : c.callee = .builtin .append) (ht : c.argTypes = #[sT, xT])
    (hs : P.underlying sT = some (.slice e)) (hx : P.underlying xT = some (.slice e')) (hi : P.info? e = some ie) (hz : ie.zero = some z) (hz1 : isOne z = true) (hsz : ie.size = 1) (hby : ie.bytes ≤ 2 ^ 16)
    (ha : c.args.toList.map ρ = [.slice b k k, .slice (some ⟨q, 0, none⟩) 1 1]) (hq : A.heap[q]? = some (.cells #[v] tq fq)) (hv : isOne v = true) (hk : k + 1 ≤ 2 ^ 24)
    (hb : (b = none ∧ k = 0 ∧ cs = #[] ∧ A' = A.alloc (.cells (cs.push v) e (1, 0))) ∨
      ∃ d, b = some ⟨d, 0, none⟩ ∧ 0 < k ∧ cs.size = k ∧ A.heap[d]? = some (.cells cs e (1, 0)) ∧ A' = (kill A d e).alloc (.cells (cs.push v) e (1, 0))) :
    AOp P ρ o A (.value (.slice (some ⟨A.heap.size, 0, none⟩) (k + 1) (k + 1))) A' := by
  refine .inr (.inr (.inl ⟨c, _, h, hc, rfl, ?_⟩))
  have hzs : zerosOf P c.argTypes = false := by simp [zerosOf, ht, hx]
  refine ⟨e, ie, z, b, k, k, .slice (some ⟨q, 0, none⟩) 1 1, 1, ⟨hz, ⟨sT, by rw [ht]; rfl, hs⟩, hi, fun t h => ?_⟩, map_list ha, by rw [hzs]; rfl, .inr ⟨by omega, Nat.le_refl _, hk, hby, by rw [isOne_cells hz1, hsz]; rfl, ?_⟩⟩
  · rw [ht] at h; cases h; exact .inl ⟨_, hx⟩
  · have hnew : (appSrc (zerosOf P c.argTypes) e ie.size 1 (.slice (some ⟨q, 0, none⟩) 1 1)).run P A = .ok #[v] A := by
      rw [hzs, hsz]
      have := run_loadCells (P := P) 1 ⟨q, 0, none⟩ 0 #[] #[v] tq fq hq rfl (by simp)
      simpa [appSrc, Builtin.firstCells, loadCells] using this
    rcases hb with ⟨rfl, rfl, rfl, rfl⟩ | ⟨d, rfl, hk0, hcs, hd, rfl⟩
    · refine ⟨#[], #[v], rfl, hnew, rfl, by simp, by simp [hsz], by simp [hv], .inl ⟨rfl, fun a h => by cases h⟩⟩
    · refine ⟨cs, #[v], ?_, hnew, rfl, by simp [hcs, hsz], by simp [hsz], by simp [hv], .inr ⟨⟨d, 0, none⟩, cs, rfl, hd, hk0, rfl⟩⟩
      have := run_loadCells (P := P) k ⟨d, 0, none⟩ 0 #[] cs e (1, 0) hd rfl (by simp [hcs])
      rw [hsz]
      have e1 : cs.extract 0 k = cs := by rw [← hcs]; simp
      simpa [Builtin.firstCells, loadCells, e1] using this
end
section
variable {P : Program} {n₀ : Nat} {ops : Array Oper} {o : Oper} {os : List Oper} {Q : Act → World → Prop} {a : Act} {A : World}
theorem wpO_mv (v : Value) {x : Operand} (hx : a.eval x = v) (k : wpO P n₀ ops os Q (a.put o.dst v) A) (h : o.op = .move x := by rfl) (hw : Region.wanted o (yielded ops a.tmps) = true := by rfl) : wpO P n₀ ops (o :: os) Q a A :=
  wpO_val (hx ▸ aop_move (.inl h)) k hw
theorem wpO_as (v : Value) {x : Operand} (hx : a.eval x = v) (k : wpO P n₀ ops os Q (a.put o.dst v) A) (h : o.op = .assign x := by rfl) (hw : Region.wanted o (yielded ops a.tmps) = true := by rfl) : wpO P n₀ ops (o :: os) Q a A :=
  wpO_val (hx ▸ aop_move (.inr h)) k hw
theorem wpO_norm (b : Act) (h : a = b) (k : wpO P n₀ ops os Q b A) : wpO P n₀ ops os Q a A := h ▸ k
theorem wpC_norm {ro : Option Nat} {c : Code} {Q : Exit → Act → World → Prop} (b : Act) (h : a = b) (k : wpC P n₀ ro c Q b A) : wpC P n₀ ro c Q a A := h ▸ k
theorem res_none {fn : Func} {ts : Array Value} (h : fn.results = #[]) : (results fn ts).run P A = .ok undef A := by
  unfold results; rw [h]
  simp [Sem.run_pure]
  rfl
theorem res_one {fn : Func} {ts : Array Value} {t : Tmp} (h : fn.results = #[.tmp t]) : (results fn ts).run P A = .ok (ts.getD t undef) A := by
  unfold results; rw [h]
  simp [Sem.run_pure]
theorem ret_none {fn : Func} {Q : Value → World → Prop} {e : Exit} (k : Q undef A) (h : fn.results = #[] := by rfl) (hd : a.defers = [] := by rfl) (he : e = .normal ∨ e = .ret := by first | exact .inl rfl | exact .inr rfl) : retQ P fn Q e a A := ⟨he, hd, _, res_none h, k⟩
theorem ret_one {fn : Func} {Q : Value → World → Prop} {e : Exit} {t : Tmp} (v : Value) (hv : a.tmps.getD t undef = v) (k : Q v A) (h : fn.results = #[.tmp t] := by rfl) (hd : a.defers = [] := by rfl) (he : e = .normal ∨ e = .ret := by first | exact .inl rfl | exact .inr rfl) : retQ P fn Q e a A := ⟨he, hd, v, hv ▸ res_one h, k⟩
end
end Go.Abs
/-
  ABS B3: what lies where: assertions on the canonical world, each with the blocks that it is of; what a step may turn.
-/
namespace Go.Abs

/-- A block that none may write. -/
def RoB (A : World) (b : Nat) : Prop := ∃ c t n, A.heap[b]? = some (.cells c t (0, n)) ∧ 0 < n
def RoKept (A A' : World) : Prop := ∀ b, RoB A b → A'.heap[b]? = A.heap[b]?
abbrev Foot := Nat → Prop
abbrev Asn := Foot → World → Prop
structure Owns (I : Asn) : Prop where
  lt : ∀ {F A b}, I F A → F b → b < A.heap.size
  loc : ∀ {F A A'}, I F A → (∀ b, F b → A'.heap[b]? = A.heap[b]?) → RoKept A A' → I F A'
/-- From F at A to F' at A': nothing but F has turned, and F' is of F, or new. -/
structure Step (F : Foot) (A : World) (F' : Foot) (A' : World) : Prop where
  size : A.heap.size ≤ A'.heap.size
  kept : ∀ b, b < A.heap.size → ¬ F b → A'.heap[b]? = A.heap[b]?
  ro : RoKept A A'
  grow : ∀ b, F' b → F b ∨ A.heap.size ≤ b
theorem Step.refl {F : Foot} {A : World} : Step F A F A := ⟨Nat.le_refl _, fun _ _ _ => rfl, fun _ _ => rfl, fun _ h => .inl h⟩
theorem RoKept.trans {A A' A'' : World} (h : RoKept A A') (k : RoKept A' A'') : RoKept A A'' := fun b hb => by
  rw [← h b hb]
  refine k b ?_
  obtain ⟨c, t, n, h1, h2⟩ := hb
  exact ⟨c, t, n, by rw [h b ⟨c, t, n, h1, h2⟩]; exact h1, h2⟩
theorem Step.trans {F F' F'' : Foot} {A A' A'' : World} (h : Step F A F' A') (k : Step F' A' F'' A'') : Step F A F'' A'' where
  size := Nat.le_trans h.size k.size
  kept b hb hn := by
    rw [k.kept b (Nat.lt_of_lt_of_le hb h.size) fun hf => (h.grow b hf).elim hn fun h => absurd hb (Nat.not_lt_of_le h), h.kept b hb hn]
  ro := h.ro.trans k.ro
  grow b hb := by
    rcases k.grow b hb with hb | hb
    · exact h.grow b hb
    · exact .inr (Nat.le_trans h.size hb)

def Asn.sep (I J : Asn) : Asn := fun F A => ∃ F1 F2, I F1 A ∧ J F2 A ∧ (∀ b, F1 b → ¬ F2 b) ∧ ∀ b, F b ↔ F1 b ∨ F2 b
def Asn.nil : Asn := fun F _ => ∀ b, ¬ F b
/-- One cell of one's own. -/
def cel (b : Nat) (v : Value) : Asn := fun F A => (∀ k, F k ↔ k = b) ∧ ∃ t, A.heap[b]? = some (.cells #[v] t (0, 0))
/-- A block of one's own. -/
def blk (b : Nat) (o : Obj) : Asn := fun F A => (∀ k, F k ↔ k = b) ∧ A.heap[b]? = some o
section
variable {I I' J K : Asn} {F : Foot} {A A' : World}
theorem lt_of_some {b : Nat} {o : Obj} (h : A.heap[b]? = some o) : b < A.heap.size := (Array.getElem?_eq_some_iff.1 h).1
theorem Owns.nil : Owns Asn.nil := ⟨fun h hb => (h _ hb).elim, fun h _ _ => h⟩
theorem Owns.cel {b : Nat} {v : Value} : Owns (cel b v) := ⟨fun ⟨h1, t, h2⟩ hb => by rw [(h1 _).1 hb]; exact lt_of_some h2, fun ⟨h1, t, h2⟩ hk _ => ⟨h1, t, by rw [hk _ ((h1 _).2 rfl)]; exact h2⟩⟩
theorem Owns.blk {b : Nat} {o : Obj} : Owns (blk b o) := ⟨fun ⟨h1, h2⟩ hb => by rw [(h1 _).1 hb]; exact lt_of_some h2, fun ⟨h1, h2⟩ hk _ => ⟨h1, by rw [hk _ ((h1 _).2 rfl)]; exact h2⟩⟩
theorem Owns.sep (hI : Owns I) (hJ : Owns J) : Owns (I.sep J) := ⟨fun ⟨_F1, _F2, h1, h2, _, h4⟩ hb => ((h4 _).1 hb).elim (hI.lt h1) (hJ.lt h2),
  fun ⟨F1, F2, h1, h2, h3, h4⟩ hk hr => ⟨F1, F2, hI.loc h1 (fun b hb => hk b ((h4 b).2 (.inl hb))) hr, hJ.loc h2 (fun b hb => hk b ((h4 b).2 (.inr hb))) hr, h3, h4⟩⟩
theorem Asn.swap (h : (I.sep (J.sep K)) F A) : (J.sep (I.sep K)) F A := by
  obtain ⟨F1, F2, h1, ⟨F3, F4, h2, h3, h4, h5⟩, h6, h7⟩ := h
  refine ⟨F3, fun b => F1 b ∨ F4 b, h2, ⟨F1, F4, h1, h3, fun b hb hb' => h6 b hb ((h5 b).2 (.inr hb')), fun b => Iff.rfl⟩, fun b hb hb' => ?_, fun b => ?_⟩
  · rcases hb' with hb' | hb'
    · exact h6 b hb' ((h5 b).2 (.inl hb))
    · exact h4 b hb hb'
  · rw [h7, h5]; constructor <;> (rintro (h | h | h) <;> simp [h])
theorem Asn.comm (h : (I.sep J) F A) : (J.sep I) F A := by
  obtain ⟨F1, F2, h1, h2, h3, h4⟩ := h
  exact ⟨F2, F1, h2, h1, fun b hb hb' => h3 b hb' hb, fun b => by rw [h4]; exact Or.comm⟩
theorem Asn.assoc (h : ((I.sep J).sep K) F A) : (I.sep (J.sep K)) F A := by
  obtain ⟨F1, F2, ⟨F3, F4, h2, h3, h4, h5⟩, h1, h6, h7⟩ := h
  refine ⟨F3, fun b => F4 b ∨ F2 b, h2, ⟨F4, F2, h3, h1, fun b hb hb' => h6 b ((h5 b).2 (.inr hb)) hb', fun b => Iff.rfl⟩, fun b hb hb' => ?_, fun b => ?_⟩
  · rcases hb' with hb' | hb'
    · exact h4 b hb hb'
    · exact h6 b ((h5 b).2 (.inl hb)) hb'
  · rw [h7, h5, or_assoc]
theorem Asn.assoc' (h : (I.sep (J.sep K)) F A) : ((I.sep J).sep K) F A := by
  have := Asn.assoc (Asn.comm (Asn.assoc (Asn.comm h)))
  exact Asn.comm this
/-- A step of one part is a step of the whole. -/
theorem Asn.frame (_hI : Owns I) (hJ : Owns J) (_hI' : Owns I') (h : (I.sep J) F A) {R : World → Prop} (run : ∀ F1, I F1 A → ∃ A' F1', R A' ∧ I' F1' A' ∧ Step F1 A F1' A') : ∃ A' F', R A' ∧ (I'.sep J) F' A' ∧ Step F A F' A' := by
  obtain ⟨F1, F2, h1, h2, h3, h4⟩ := h
  obtain ⟨A', F1', hR, h5, S⟩ := run F1 h1
  have hk : ∀ b, F2 b → A'.heap[b]? = A.heap[b]? := fun b hb => S.kept b (hJ.lt h2 hb) fun h => h3 b h hb
  refine ⟨A', fun b => F1' b ∨ F2 b, hR, ⟨F1', F2, h5, hJ.loc h2 hk S.ro, fun b hb hb' => ?_, fun b => Iff.rfl⟩, ⟨S.size, fun b hb hn => S.kept b hb fun h => hn ((h4 b).2 (.inl h)), S.ro, fun b hb => ?_⟩⟩
  · rcases S.grow b hb with h | h
    · exact h3 b h hb'
    · exact absurd (hJ.lt h2 hb') (Nat.not_lt_of_le h)
  · rcases hb with hb | hb
    · rcases S.grow b hb with h | h
      · exact .inl ((h4 b).2 (.inl h))
      · exact .inr h
    · exact .inl ((h4 b).2 (.inr hb))

theorem alloc_lt {o : Obj} {b : Nat} (h : b < A.heap.size) : (A.alloc o).heap[b]? = A.heap[b]? := by
  show (A.heap.push o)[b]? = _
  rw [Array.getElem?_push_lt h, Array.getElem?_eq_getElem h]
theorem alloc_at {o : Obj} : (A.alloc o).heap[A.heap.size]? = some o := by
  show (A.heap.push o)[A.heap.size]? = _
  simp
theorem ro_alloc {o : Obj} : RoKept A (A.alloc o) := fun _b ⟨_c, _t, _n, h, _⟩ => alloc_lt (lt_of_some h)
theorem Asn.newO (hJ : Owns J) (h : J F A) (o : Obj) : ∃ F', ((blk A.heap.size o).sep J) F' (A.alloc o) ∧ Step F A F' (A.alloc o) := by
  refine ⟨fun b => b = A.heap.size ∨ F b, ⟨fun b => b = A.heap.size, F, ⟨fun _ => Iff.rfl, alloc_at⟩, hJ.loc h (fun b hb => alloc_lt (hJ.lt h hb)) ro_alloc, fun b hb hb' => ?_, fun b => Iff.rfl⟩, ⟨by simp, fun b hb _ => alloc_lt hb, ro_alloc, fun b hb => ?_⟩⟩
  · have := hJ.lt h hb'; omega
  · rcases hb with hb | hb
    · exact .inr (by omega)
    · exact .inl hb
theorem blk_cel {b : Nat} {v : Value} {t : TypeId} (h : blk b (.cells #[v] t (0, 0)) F A) : cel b v F A := ⟨h.1, t, h.2⟩
theorem Asn.map (h : (I.sep J) F A) (k : ∀ F, I F A → I' F A) : (I'.sep J) F A := by
  obtain ⟨F1, F2, h1, h2, h3, h4⟩ := h
  exact ⟨F1, F2, k _ h1, h2, h3, h4⟩
theorem Asn.map' (h : (I.sep J) F A) (k : ∀ F, J F A → I' F A) : (I.sep I') F A := by
  obtain ⟨F1, F2, h1, h2, h3, h4⟩ := h
  exact ⟨F1, F2, h1, k _ h2, h3, h4⟩
theorem Asn.emp (h : I F A) : (I.sep Asn.nil) F A := ⟨F, fun _ => False, h, fun _ h => h, fun _ _ h => h, fun b => by simp⟩
theorem Asn.take (h : (I.sep J) F A) : ∃ F', I F' A ∧ Step F A F' A := by
  obtain ⟨F1, F2, h1, h2, h3, h4⟩ := h
  exact ⟨F1, h1, ⟨Nat.le_refl _, fun _ _ _ => rfl, fun _ _ => rfl, fun b hb => .inl ((h4 b).2 (.inl hb))⟩⟩
theorem Asn.new (hJ : Owns J) (h : J F A) (v : Value) (t : TypeId) : ∃ F', ((cel A.heap.size v).sep J) F' (A.alloc (.cells #[v] t (0, 0))) ∧ Step F A F' (A.alloc (.cells #[v] t (0, 0))) := by
  obtain ⟨F', h1, h2⟩ := Asn.newO hJ h (.cells #[v] t (0, 0))
  exact ⟨F', Asn.map h1 fun _ => blk_cel, h2⟩
theorem Asn.drop (h : (I.sep J) F A) : ∃ F', J F' A ∧ Step F A F' A := by
  obtain ⟨F1, F2, h1, h2, h3, h4⟩ := h
  exact ⟨F2, h2, ⟨Nat.le_refl _, fun _ _ _ => rfl, fun _ _ => rfl, fun b hb => .inl ((h4 b).2 (.inr hb))⟩⟩

theorem set_ne {p : Addr} {v : Value} {k : Nat} (h : k ≠ p.block) : (A.setCell p v).heap[k]? = A.heap[k]? := by
  show (A.heap.modify p.block _)[k]? = _
  rw [Array.getElem?_modify, if_neg (fun e => h e.symm)]
theorem set_at {b : Nat} {u v : Value} {t : TypeId} {fz : Nat × Nat} (h : A.heap[b]? = some (.cells #[u] t fz)) : (A.setCell ⟨b, 0, none⟩ v).heap[b]? = some (.cells #[v] t fz) := by
  show (A.heap.modify b _)[b]? = _
  rw [Array.getElem?_modify]; simp [h]
theorem set_size {p : Addr} {v : Value} : (A.setCell p v).heap.size = A.heap.size := by simp [World.setCell]
theorem Asn.get {b : Nat} {v : Value} (h : ((cel b v).sep J) F A) : A.cell? ⟨b, 0, none⟩ = some v := by
  obtain ⟨F1, F2, ⟨h1, t, h2⟩, _⟩ := h
  simp [World.cell?, h2]
theorem Asn.soft {b : Nat} {v : Value} (h : ((cel b v).sep J) F A) : A.frozen? ⟨b, 0, none⟩ = false := by
  obtain ⟨F1, F2, ⟨h1, t, h2⟩, _⟩ := h
  simp [World.frozen?, h2]
theorem Asn.put {b : Nat} {u : Value} (hJ : Owns J) (h : ((cel b u).sep J) F A) (v : Value) : ((cel b v).sep J) F (A.setCell ⟨b, 0, none⟩ v) ∧ Step F A F (A.setCell ⟨b, 0, none⟩ v) := by
  obtain ⟨F1, F2, ⟨h1, t, h2⟩, h3, h4, h5⟩ := h
  have hb : F1 b := (h1 b).2 rfl
  have hne : ∀ k, k ≠ b → (A.setCell ⟨b, 0, none⟩ v).heap[k]? = A.heap[k]? := fun k hk => set_ne hk
  have hro : RoKept A (A.setCell ⟨b, 0, none⟩ v) := fun k ⟨c, t', n, hc, hn⟩ => hne k fun e => by
    subst e; rw [h2] at hc; simp at hc; omega
  refine ⟨⟨F1, F2, ⟨h1, t, set_at h2⟩, hJ.loc h3 (fun k hk => hne k fun e => h4 b hb (e ▸ hk)) hro, h4, h5⟩, ⟨Nat.le_of_eq set_size.symm, fun k _ hn => hne k fun e => hn ((h5 k).2 (.inl (e ▸ hb))), hro, fun k hk => .inl hk⟩⟩
end

/-- Several, side by side. -/
def Asn.tot : List Asn → Asn
  | [] => Asn.nil
  | I :: l => I.sep (Asn.tot l)
def Asn.all : List Asn → Asn
  | [] => Asn.nil
  | [I] => I
  | I :: J :: l => I.sep (Asn.all (J :: l))
section
variable {I J K : Asn} {F : Foot} {A : World}
theorem Asn.unnil (h : (I.sep Asn.nil) F A) : I F A := by
  obtain ⟨F1, F2, h1, h2, h3, h4⟩ := h
  have : F = F1 := funext fun b => propext ((h4 b).trans ⟨fun h => h.elim id fun h => (h2 b h).elim, .inl⟩)
  exact this ▸ h1
theorem Asn.all_tot : ∀ {l : List Asn} {F : Foot} {A : World}, Asn.all l F A → Asn.tot l F A
  | [], _, _, h => h
  | [_], _, _, h => Asn.emp h
  | _ :: _ :: _, _, _, h => Asn.map' h fun _ h => Asn.all_tot h
theorem Asn.tot_all : ∀ {l : List Asn} {F : Foot} {A : World}, Asn.tot l F A → Asn.all l F A
  | [], _, _, h => h
  | [_], _, _, h => Asn.unnil h
  | _ :: _ :: _, _, _, h => Asn.map' h fun _ h => Asn.tot_all h
theorem Asn.tot_perm {l l' : List Asn} (p : l.Perm l') : ∀ {F : Foot} {A : World}, Asn.tot l F A → Asn.tot l' F A := by
  induction p with
  | nil => exact fun h => h
  | cons x _ ih => exact fun h => Asn.map' h fun _ h => ih h
  | swap x y l => exact fun h => Asn.swap h
  | trans _ _ ih1 ih2 => exact fun h => ih2 (ih1 h)
theorem range_map_getD (l : List Asn) : (List.range l.length).map (fun i => l.getD i Asn.nil) = l := by
  apply List.ext_getElem
  · simp
  · intro i h1 h2
    simp at h1 h2 ⊢
    simp [h2]
/-- In another order. -/
theorem Asn.perm (l : List Asn) (idx : List Nat) (h : Asn.all l F A) (p : (List.range idx.length).Perm idx) (hn : l.length = idx.length := by rfl) : Asn.all (idx.map fun i => l.getD i Asn.nil) F A := by
  refine Asn.tot_all (Asn.tot_perm ?_ (Asn.all_tot h))
  rw [← hn] at p
  have := p.map (fun i => l.getD i Asn.nil)
  rwa [range_map_getD] at this
theorem Asn.tot_cat : ∀ {l l' : List Asn} {F : Foot} {A : World}, ((Asn.tot l).sep (Asn.tot l')) F A → Asn.tot (l ++ l') F A
  | [], _, _, _, h => Asn.unnil (Asn.comm h)
  | _ :: _, _, _, _, h => Asn.map' (Asn.assoc h) fun _ h => Asn.tot_cat h
theorem Asn.cat {l l' : List Asn} (h : ((Asn.all l).sep (Asn.all l')) F A) : Asn.all (l ++ l') F A :=
  Asn.tot_all (Asn.tot_cat (Asn.map' (Asn.map h fun _ h => Asn.all_tot h) fun _ h => Asn.all_tot h))
theorem Owns.tot : ∀ {l : List Asn}, (∀ I ∈ l, Owns I) → Owns (Asn.tot l)
  | [], _ => Owns.nil
  | _ :: _, h => Owns.sep (h _ List.mem_cons_self) (Owns.tot fun I hI => h I (List.mem_cons_of_mem _ hI))
end
/-- A list of whole numbers that may be read, of a block that none may write. -/
def Rd (A : World) (p : Option Addr) (l : List Int) : Prop := ∀ (i : Nat) (x : Int), l[i]? = some x → ∃ ad, p = some ad ∧ A.cell? (ad.add (i * 1)) = some (.int .i64 x)
def rd (p : Option Addr) (l : List Int) : Asn := fun F A => (∀ b, ¬ F b) ∧ Rd A p l ∧ ∀ ad, p = some ad → RoB A ad.block
section
variable {I J : Asn} {F : Foot} {A A' : World} {p : Option Addr} {l : List Int}
theorem cell_eq {a : Addr} (h : A'.heap[a.block]? = A.heap[a.block]?) : A'.cell? a = A.cell? a := by simp only [World.cell?, h]
theorem RoB.kept {b : Nat} (h : RoB A b) (k : RoKept A A') : RoB A' b := by
  obtain ⟨c, t, n, h1, h2⟩ := h
  exact ⟨c, t, n, by rw [k b ⟨c, t, n, h1, h2⟩]; exact h1, h2⟩
theorem Owns.rd : Owns (rd p l) := ⟨fun h hb => (h.1 _ hb).elim, fun {F A A'} ⟨h1, h2, h3⟩ _ hr => ⟨h1, fun i x hx => by
  obtain ⟨ad, e, hc⟩ := h2 i x hx
  exact ⟨ad, e, (cell_eq (A := A) (A' := A') (by rw [add_block]; exact hr _ (h3 ad e))).trans hc⟩, fun ad e => (h3 ad e).kept hr⟩⟩
theorem Asn.left (h : (I.sep J) F A) : ∃ F', I F' A := let ⟨F1, _, h1, _⟩ := h; ⟨F1, h1⟩
theorem Asn.right (h : (I.sep J) F A) : ∃ F', J F' A := let ⟨_, F2, _, h2, _⟩ := h; ⟨F2, h2⟩
end
/-- Handed on, one by one, as long as more is wanted. -/
def foldY {α : Type} (st : α → Int → Option (Bool × α)) : List Int → α → Option α
  | [], a => some a
  | x :: l, a => match st a x with
    | none => none
    | some (true, a') => foldY st l a'
    | some (false, a') => some a'
theorem wrap_id {z : Int} (h1 : -9223372036854775808 ≤ z) (h2 : z < 9223372036854775808) : IntKind.i64.wrap z = z := by
  have e1 : (2 ^ IntKind.i64.bits : Int) = 18446744073709551616 := rfl
  have e2 : (2 ^ (IntKind.i64.bits - 1) : Int) = 9223372036854775808 := rfl
  unfold IntKind.wrap
  simp only [e1, e2, IntKind.signed, Bool.true_and, decide_eq_true_eq]
  split <;> omega
theorem intV_add {m n z : Int} (h : z = m + n) (h1 : -9223372036854775808 ≤ z) (h2 : z < 9223372036854775808) : intV .add .i64 m n = some (.int .i64 z) := by
  subst h; simp only [intV, wrap_id h1 h2]
theorem intV_sub {m n z : Int} (h : z = m - n) (h1 : -9223372036854775808 ≤ z) (h2 : z < 9223372036854775808) : intV .sub .i64 m n = some (.int .i64 z) := by
  subst h; simp only [intV, wrap_id h1 h2]
section
variable {I J K : Asn} {F : Foot} {A A' : World}
theorem Asn.at {b : Nat} {o : Obj} (h : ((blk b o).sep J) F A) : A.heap[b]? = some o := let ⟨_, _, h1, _⟩ := h; h1.2
theorem Asn.killed {d : Nat} {c : Array Value} {t e : TypeId} (hJ : Owns J) (h : ((blk d (.cells c t (1, 0))).sep J) F A) : ((blk d (.cells #[] e (2, 0))).sep J) F (kill A d e) ∧ Step F A F (kill A d e) := by
  obtain ⟨F1, F2, h1, h2, h3, h4⟩ := h
  have hd : F1 d := (h1.1 d).2 rfl
  have hro : RoKept A (kill A d e) := fun k ⟨c', t', n, hc, hn⟩ => kill_ne fun eq => by
    subst eq; rw [h1.2] at hc; cases hc
  exact ⟨⟨F1, F2, ⟨h1.1, kill_self (lt_of_some h1.2)⟩, hJ.loc h2 (fun k hk => kill_ne fun eq => h3 d hd (eq ▸ hk)) hro, h3, h4⟩, ⟨by simp, fun k _ hn => kill_ne fun eq => hn ((h4 k).2 (.inl (eq ▸ hd))), hro, fun k hk => .inl hk⟩⟩
end
def ints (l : List Int) : Array Value := (l.map (Value.int .i64)).toArray
/-- A list of one's own, as it grows: the cell c bears it. -/
def lst (t : TypeId) (c : Nat) (acc : List Int) : Asn := fun F A => (acc = [] ∧ cel c (.slice none 0 0) F A) ∨ (acc ≠ [] ∧ ∃ d, ((cel c (.slice (some ⟨d, 0, none⟩) acc.length acc.length)).sep (blk d (.cells (ints acc) t (1, 0)))) F A)
def lstV (t : TypeId) (v : Value) (acc : List Int) : Asn := fun F A => (acc = [] ∧ v = .slice none 0 0 ∧ ∀ b, ¬ F b) ∨ (acc ≠ [] ∧ ∃ d, v = .slice (some ⟨d, 0, none⟩) acc.length acc.length ∧ blk d (.cells (ints acc) t (1, 0)) F A)
theorem Owns.lst {t : TypeId} {c : Nat} {acc : List Int} : Owns (lst t c acc) := by
  refine ⟨fun {F A b} h hb => ?_, fun {F A A'} h hk hr => ?_⟩
  · rcases h with ⟨_, h⟩ | ⟨_, d, h⟩
    · exact Owns.cel.lt h hb
    · exact (Owns.sep Owns.cel Owns.blk).lt h hb
  · rcases h with ⟨e, h⟩ | ⟨e, d, h⟩
    · exact .inl ⟨e, Owns.cel.loc h hk hr⟩
    · exact .inr ⟨e, d, (Owns.sep Owns.cel Owns.blk).loc h hk hr⟩
theorem Owns.lstV {t : TypeId} {v : Value} {acc : List Int} : Owns (lstV t v acc) := by
  refine ⟨fun {F A b} h hb => ?_, fun {F A A'} h hk hr => ?_⟩
  · rcases h with ⟨_, _, h⟩ | ⟨_, d, _, h⟩
    · exact (h _ hb).elim
    · exact Owns.blk.lt h hb
  · rcases h with ⟨e, e', h⟩ | ⟨e, d, e', h⟩
    · exact .inl ⟨e, e', h⟩
    · exact .inr ⟨e, d, e', Owns.blk.loc h hk hr⟩
theorem lstV_rd {t : TypeId} {v : Value} {acc : List Int} {F : Foot} {A : World} (h : lstV t v acc F A) : ∃ p, v = .slice p acc.length acc.length ∧ Rd A p acc := by
  rcases h with ⟨rfl, rfl, _⟩ | ⟨_, d, rfl, h⟩
  · exact ⟨none, rfl, fun i x hx => by simp at hx⟩
  · refine ⟨_, rfl, fun i x hx => ⟨_, rfl, ?_⟩⟩
    rw [cell_add (a := ⟨d, 0, none⟩) h.2 rfl]
    simp [ints, hx]
/-- The list that the cell bears, taken out of it. -/
theorem lst_out {t : TypeId} {c : Nat} {acc : List Int} {J : Asn} {F : Foot} {A : World} (h : (J.sep (lst t c acc)) F A) : ∃ v, A.cell? ⟨c, 0, none⟩ = some v ∧ ∃ F', (J.sep (lstV t v acc)) F' A ∧ Step F A F' A := by
  obtain ⟨F1, F2, h1, h2, h3, h4⟩ := h
  rcases h2 with ⟨rfl, h2⟩ | ⟨hne, d, h2⟩
  · refine ⟨.slice none 0 0, Asn.get (Asn.emp h2), F1, ⟨F1, fun _ => False, h1, .inl ⟨rfl, rfl, fun _ h => h⟩, fun _ _ h => h, fun b => by simp⟩, ⟨Nat.le_refl _, fun _ _ _ => rfl, fun _ _ => rfl, fun b hb => .inl ((h4 b).2 (.inl hb))⟩⟩
  · refine ⟨_, Asn.get h2, ?_⟩
    obtain ⟨F3, F4, h5, h6, h7, h8⟩ := h2
    refine ⟨fun b => F1 b ∨ F4 b, ⟨F1, F4, h1, .inr ⟨hne, d, rfl, h6⟩, fun b hb hb' => h3 b hb ((h8 b).2 (.inr hb')), fun b => Iff.rfl⟩, ⟨Nat.le_refl _, fun _ _ _ => rfl, fun _ _ => rfl, fun b hb => .inl ((h4 b).2 (hb.imp id fun h => (h8 b).2 (.inr h)))⟩⟩
def stL (acc : List Int) (x : Int) : Option (Bool × List Int) := if acc.length < 16777216 then some (true, acc ++ [x]) else none
section
variable (P : Program) (n₀ : Nat)
/-- A call of a function's value. -/
def CallV (y : Value) (xs : Array Value) (A : World) (v : Value) (A' : World) : Prop :=
  ∃ f fn code first cap, IsFn P f fn code ∧ y = .func (.func f) first cap ∧ SndCall P n₀ f (first ++ xs ++ cap) A v A'
/-- What takes whole numbers, one by one, and says whether it wants more. -/
structure Ypec {α : Type} (y : Value) (I : α → Asn) (st : α → Int → Option (Bool × α)) : Prop where
  one : isOne y = true
  loc : ∀ s, Owns (I s)
  run : ∀ {s F A x b s'}, I s F A → st s x = some (b, s') → ∃ A' F', CallV P n₀ y #[.int .i64 x] A (.bool b) A' ∧ I s' F' A' ∧ Step F A F' A'
/-- What turns a whole number. -/
structure Fpec {α : Type} (f : Value) (I : α → Asn) (fn : α → Int → Option (Int × α)) : Prop where
  loc : ∀ s, Owns (I s)
  run : ∀ {s F A x v s'}, I s F A → fn s x = some (v, s') → ∃ A' F', CallV P n₀ f #[.int .i64 x] A (.int .i64 v) A' ∧ I s' F' A' ∧ Step F A F' A'
/-- What tests a whole number. -/
def Ppec (f : Value) (p : Int → Bool) : Prop := ∀ (A : World) (x : Int), CallV P n₀ f #[.int .i64 x] A (.bool (p x)) A
/-- What hands whole numbers on. -/
structure Hands {β : Type} (s : Value) (J : β → Asn) (run : ∀ α : Type, (α → Int → Option (Bool × α)) → β → α → Option (β × α)) : Prop where
  loc : ∀ b, Owns (J b)
  run : ∀ {α : Type} {y : Value} {I : α → Asn} {st : α → Int → Option (Bool × α)}, Ypec P n₀ y I st → ∀ {b0 a0 b1 a1 F A}, ((J b0).sep (I a0)) F A → run α st b0 a0 = some (b1, a1) →
    ∃ A' F', CallV P n₀ s #[y] A undef A' ∧ ((J b1).sep (I a1)) F' A' ∧ Step F A F' A'
variable {P n₀}
theorem wpO_callv {ops : Array Oper} {o : Oper} {os : List Oper} {Q : Act → World → Prop} {a : Act} {A A1 : World} {c : Call} {g : Operand} {y v : Value} {l : List Value} (H : CallV P n₀ y l.toArray A v A1) (hg : a.eval g = y) (hx : c.args.toList.map a.eval = l)
    (k : wpO P n₀ ops os Q (a.put o.dst v) A1) (ho : o.op = .call c := by rfl) (hc : c.callee = .value g := by rfl) (hw : Region.wanted o (yielded ops a.tmps) = true := by rfl) : wpO P n₀ ops (o :: os) Q a A := by
  obtain ⟨f, fn, code, first, cap, h1, rfl, h2⟩ := H
  exact wpO_call h1 hg hx rfl ⟨v, A1, h2, k⟩ ho hc hw
theorem wpF.call {f : FuncId} {xs : Array Value} {Q : Value → World → Prop} {A : World} (h : wpF P n₀ f xs Q A) : ∃ v A', SndCall P n₀ f xs A v A' ∧ Q v A' := h
end
end Go.Abs
