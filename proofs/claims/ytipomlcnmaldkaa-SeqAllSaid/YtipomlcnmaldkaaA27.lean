/-
  ABS 26: a closed call, and what a row asks of it.
-/
import Derived.Test.YtipomlcnmaldkaaA26
import Derived.ProofKit
namespace Go.Abs
open Go.ChangeShapes Go.WideShapes Go.ChangeAt Go.RowKit
section
variable {P : Program}

theorem good_of (h1 : zeroOk P = true) (h2 : codesOk P = true) (h3 : P.follows .mixedOrders = true) : Good P where
  zero t i z hi hz ι := info_zero (P := P) (T := P.toTables) (fun t i z hi hz => by
    unfold zeroOk at h1
    rw [List.all_eq_true] at h1
    have := h1 i (by simpa using Array.mem_of_getElem? hi)
    rw [hz] at this
    exact fun ι => .of_plain this) t i z hi hz ι
  mixed := h3
  code f fn c hf hc := by
    unfold codesOk at h2
    rw [List.all_eq_true] at h2
    have hm : fn ∈ P.funcs.toList := by simpa using Array.mem_of_getElem? hf
    have := h2 fn hm
    rw [hc] at this
    exact this

/-- From a closed call on: what lay there lies there as it did. -/
theorem closed_below (G : Good P) {n : Nat} {f : FuncId} {v : Value} {A' : World} (h : (Lv P n).calls f #[] (tombs 0) v A') (W : World) :
    Calls P f #[] W fun e W' => ∃ ι' v', e = .returned v' ∧ VRel P ι' v v' ∧ Below W.heap.size W W' :=
  (closed_call G h W).mono fun _ _ ⟨ι', v', h1, h2, h3, h4, h5, h6, h7⟩ => ⟨ι', v', h1, h2, ⟨h5, h6, h7, h4, h3⟩⟩

theorem post_of_below {H : Type} {enc : TypeId × Value → H} {f : Func} {s : ChangeSpec} {apart fresh handsOn again : Bool} {W W' : World} {args : Array Value} {v : Value} {ds gs : List (DataW H)} {before pa pv : List MemPlace}
    (hW : DataW.Whole enc P f.params.toList s.vars apart W args.toList ds gs before) (hB : Below W.heap.size W W')
    (hres : ∀ (b : Nat) (sp : Nat → Bool) (hd : Bool), DataW.TrodAll enc P W' b sp hd f.resultTypes.toList (v.resultList f.resultTypes.size) (s.fn H (ds ++ gs)).results [])
    (hargs : ∀ sp : Nat → Bool, (∀ p ∈ before, sp p.block = true) → DataW.TrodAll enc P W' 0 sp true f.params.toList args.toList (s.fn H (ds ++ gs)).args pa)
    (hvars : ∀ sp : Nat → Bool, (∀ p ∈ before, sp p.block = true) → DataW.TrodVars enc P W' sp s.vars (s.fn H (ds ++ gs)).vars pv)
    (hps : before = pa ++ pv)
    (hok : ∀ (j : Nat) (t : TypeId) (r : Value), f.resultTypes[j]? = some t → (v.resultList f.resultTypes.size)[j]? = some r → Value.okWide P W' .any 0 t r) :
    s.post enc P f apart fresh handsOn again W args v W' := by
  have hlt : ∀ p ∈ before, p.block < W.heap.size := fun p hp => hW.lt p hp
  have hold : ∀ p ∈ before, (fun b => decide (b < W.heap.size)) p.block = true := fun p hp => by simpa using hW.lt p hp
  refine ⟨ds, gs, before, [], pa, pv, hW, hres _ _ _, hargs _ hold, hvars _ hold, World.keptBut_mono (fun p hp => ⟨hp, ?_⟩) (hB.frame (· ∈ before)), fun _ => ?_⟩
  · rw [hps, List.mem_append] at hp
    exact Or.inr hp
  · obtain ⟨_, _, _, _, _, hz, hn⟩ := hW
    refine ⟨hok, _, _, ([] ++ pa) ++ pv, ⟨[] ++ pa, pv, trodAll_append (hargs _ (fun _ _ => rfl)) (hres _ _ _), hvars _ (fun _ _ => rfl), rfl, ?_, ?_⟩, ?_⟩
    · intro b off hp
      have hm : MemPlace.cell b off ∈ before := by rw [hps]; simpa using hp
      rw [hB.frozen (p := ⟨b, off, none⟩) (hlt _ hm)]
      exact hz b off hm
    · intro ha
      have := hn ha
      rw [hps] at this
      simpa using this
    · intro p hp _
      rw [hps]
      simpa using hp
end
end Go.Abs
