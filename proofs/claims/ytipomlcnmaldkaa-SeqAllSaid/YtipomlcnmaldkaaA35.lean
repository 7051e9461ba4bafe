/-
  ABS 35: what is known of a call stands for it: a closed call, or one whose arguments and whose result bear no address.
-/
import Derived.Test.YtipomlcnmaldkaaA34
namespace Go.Abs
open Go.RowKit
/-- What is known: the function, its arguments, its result. -/
abbrev Know := FuncId → List Value → Option Value
def Known (P : Program) (K : Know) : Prop :=
  ∀ f xs v, K f xs = some v → (∀ x ∈ xs, plain x = true) ∧ plain v = true ∧ ∀ W, Calls P f ⟨xs⟩ W fun e W' => e = .returned v ∧ Below W.heap.size W W'
section
variable (P : Program) (K : Know)
noncomputable def lvlK (D : Lvl → Array Oper → Act → World → Act → World → Prop) : Nat → Lvl
  | 0 => { calls := fun _ _ _ _ _ => False, rounds := fun _ _ _ _ _ _ _ => False, codes := fun _ _ _ _ _ _ _ => False, loops := fun _ _ _ _ _ _ _ => False }
  | n + 1 => { calls := fun f xs A v A' => callStep P (lvlK D n) f xs A v A' ∨ (K f xs.toList = some v ∧ A' = A), rounds := roundStep P (lvlK D n), codes := codeStep P (lvlK D n) D, loops := loopStep (lvlK D n) }
noncomputable def LvK (n : Nat) : Lvl := lvlK P K (RunDraw P) n
variable {P K} {n₀ : Nat}

theorem snd_known (hK : Known P K) {f : FuncId} {xs : Array Value} {A : World} {v : Value} (h : K f xs.toList = some v) : SndCall P n₀ f xs A v A := by
  refine ⟨Nat.le_refl _, fun ι W xs' S hx _ => ?_⟩
  obtain ⟨h1, h2, h3⟩ := hK _ _ _ h
  have hxs : xs' = xs := arr_eq hx.1 fun i x x' ha hb => (hx.2 i x x' ha hb).plain_eq (h1 x (by simpa using Array.mem_of_getElem? ha))
  subst hxs
  have := h3 W
  rw [show (⟨xs'.toList⟩ : Array Value) = xs' from rfl] at this
  refine (callsIn_wide.2 this).mono ?_
  rintro e W' ⟨rfl, B⟩
  refine ⟨ι, v, rfl, ⟨fun b e o hb ho => (S.obj b e o hb ho).later (Ren.le.refl ι) (B.block _ (S.dom b e hb)), S.inj, fun b e hb => Nat.lt_of_lt_of_le (S.dom b e hb) B.size, Nat.le_trans S.lo B.size⟩, ?_, .of_plain h2⟩
  exact { (Moves.refl : Moves P ι A W ι A W) with
    keep := fun b hb _ => B.block b hb
    wsz := B.size
    os := B.os
    tape := B.tape
    output := B.output }
theorem snd_lvlK (G : Good P) (hK : Known P K) {D : Lvl → Array Oper → Act → World → Act → World → Prop} (hD : ∀ L, Snd P n₀ L → SndDraw P n₀ (D L)) : ∀ n, Snd P n₀ (lvlK P K D n)
  | 0 => ⟨fun _ _ _ _ _ h => h.elim, fun _ _ _ _ _ _ _ h => h.elim, fun _ _ _ _ _ _ _ h => h.elim, fun _ _ _ _ _ _ _ h => h.elim⟩
  | n + 1 =>
    have hL := snd_lvlK G hK hD n
    ⟨fun _ _ _ _ _ h => h.elim (fun h => snd_call G hL h) (fun ⟨h1, h2⟩ => h2 ▸ snd_known hK h1), fun _ _ _ _ _ _ _ h => snd_round hL h, fun _ _ _ _ _ _ _ h => snd_code G hL (hD _ hL) h, fun _ _ _ _ _ _ _ h => snd_loop hL h⟩
theorem sndK (G : Good P) (hK : Known P K) (n : Nat) : Snd P n₀ (LvK P K n) := snd_lvlK G hK (fun _ hL => snd_draw G hL) n

/-- From a call on whose arguments bear no address, of a world without a block. -/
theorem plain_callK (G : Good P) (hK : Known P K) {n : Nat} {f : FuncId} {xs : List Value} (hxs : ∀ x ∈ xs, plain x = true) {v : Value} (hv : plain v = true) {A' : World} (h : (LvK P K n).calls f ⟨xs⟩ (tombs 0) v A') (W : World) :
    Calls P f ⟨xs⟩ W fun e W' => e = .returned v ∧ Below W.heap.size W W' := by
  have S : Sim P W.heap.size (fun _ => none) (tombs 0) W := ⟨fun b e o hb => (by cases hb), fun b b' e e' o o' hb => (by cases hb), fun b e hb => (by cases hb), Nat.le_refl _⟩
  have hx : Vs P (fun _ => none) ⟨xs⟩ ⟨xs⟩ := ⟨rfl, fun i x x' ha hb => by
    rw [ha] at hb; cases hb
    exact .of_plain (hxs x (by simpa using Array.mem_of_getElem? ha))⟩
  have hc := ((sndK G hK n).calls _ _ _ _ _ h).2 _ W ⟨xs⟩ S hx ⟨by rw [tombs_size]; exact Nat.zero_le _, fun b _ _ => rfl⟩
  have hc' := callsIn_wide.1 hc
  refine hc'.mono ?_
  rintro e W' ⟨ι', v', rfl, S', M, V⟩
  have := V.plain_eq hv
  subst this
  exact ⟨rfl, ⟨M.os, M.tape, M.output, M.wsz, fun b hb => M.keep b hb (fun k e o hk => by cases hk)⟩⟩

variable (P K)
noncomputable def evK (n : Nat) : EvT :=
  Nat.rec (motive := fun _ => EvT) ⟨fun _ _ _ => none, fun _ _ _ _ _ => none, fun _ _ _ _ _ => none, fun _ _ _ _ _ => none⟩
    (fun _ E => ⟨fun f xs h => (match K f xs.toList with | some v => some (v, h) | none => evCallT P E f xs h), evRoundT P E, evCodeT P E, evLoopT E⟩) n
variable {P K}
theorem evK_ok : ∀ n, EvTOk (evK P K n) (LvK P K n)
  | 0 => ⟨fun _ _ _ _ _ h => (by cases h), fun _ _ _ _ _ _ _ h => (by cases h), fun _ _ _ _ _ _ _ _ _ h => (by cases h), fun _ _ _ _ _ _ _ _ _ h => (by cases h)⟩
  | n + 1 =>
    have hE := evK_ok n
    ⟨fun f xs h v h' q A r => by
      have q' : (match K f xs.toList with | some v => some (v, h) | none => evCallT P (evK P K n) f xs h) = some (v, h') := q
      split at q'
      · rename_i u hu
        cases q'
        exact ⟨A, .inr ⟨hu, rfl⟩, r⟩
      · obtain ⟨A', h1, h2⟩ := evCallT_ok hE q' r
        exact ⟨A', .inl h1, h2⟩,
    fun _ _ _ _ _ _ _ h _ r => evRoundT_ok hE h r, fun _ _ _ _ _ _ _ _ _ h _ _ s r => evCodeT_ok hE h s r, fun _ _ _ _ _ _ _ _ _ h _ _ s r => evLoopT_ok hE h s r⟩

/-- What such a call answers with. -/
noncomputable def tells (P : Program) (K : Know) (n : Nat) (f : FuncId) (xs : List Value) (v : Value) : Bool :=
  xs.all plain && plain v && match (evK P K n).calls f ⟨xs⟩ ⟨.leaf, 0⟩ with
  | some (v', _) => beqV 4 v' v
  | none => false
theorem tells_ok (G : Good P) (hK : Known P K) {n : Nat} {f : FuncId} {xs : List Value} {v : Value} (h : tells P K n f xs v = true) (W : World) : Calls P f ⟨xs⟩ W fun e W' => e = .returned v ∧ Below W.heap.size W W' := by
  unfold tells at h
  simp only [Bool.and_eq_true, List.all_eq_true] at h
  obtain ⟨⟨h1, h2⟩, h3⟩ := h
  split at h3
  · rename_i v' h' hv
    have := beqV_eq h3
    subst this
    obtain ⟨A', hA, _⟩ := (evK_ok n).calls _ _ _ _ _ hv (tombs 0) ⟨by rw [tombs_size], fun b o hb => by rw [Tri.get_leaf] at hb; cases hb⟩
    exact plain_callK G hK h1 h2 hA W
  · cases h3
/-- Nothing is known; one thing more is known. -/
noncomputable def know0 : Know := fun _ _ => none
theorem known0 : Known P know0 := fun _ _ _ h => (by cases h)
noncomputable def knowTrue (fs : List FuncId) : Know := fun f xs => match xs, fs.contains f with
  | [], true => some (.bool true)
  | _, _ => none
theorem knownTrue {fs : List FuncId} (h : ∀ f ∈ fs, ∀ W, Calls P f ⟨[]⟩ W fun e W' => e = .returned (.bool true) ∧ Below W.heap.size W W') : Known P (knowTrue fs) := by
  intro f xs v hv
  unfold knowTrue at hv
  split at hv
  · rename_i hc
    cases hv
    exact ⟨fun x hx => (by cases hx), rfl, h f (by simpa using hc)⟩
  · cases hv
end
end Go.Abs
