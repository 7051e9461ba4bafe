/-
  ABS 8: the last operations; what an operation of the canonical run is; it is met on the other side.
-/
import Derived.Test.YtipomlcnmaldkaaA7
namespace Go.Abs
section
variable {P : Program} {n₀ : Nat} {ι ι' : Ren} {A A' W W' : World}

theorem RS.len (ts : Array TypeId) (t : TypeId) {xs xs' : Array Value} (h : Vs P ι xs xs') : RS P n₀ ι (VRel P) (Builtin.len_ ts t xs) (Builtin.len_ ts t xs') := by
  unfold Builtin.len_
  cases h0 : ts[0]? with
  | none => exact RS.stuck _
  | some tt =>
    cases h1 : xs[0]? with
    | none => exact RS.stuck _
    | some x =>
      obtain ⟨x', hx, hxx⟩ := h.at h1
      rw [hx]
      simp only
      refine (RS.underlying tt).bind fun ι1 l1 d d' ⟨hd, _⟩ => ?_
      subst hd
      have hv := hxx.mono l1
      cases d' with
      | array n e => exact .pure (.int _ _)
      | pointer e =>
        simp only
        refine (RS.underlying e).bind fun ι2 l2 d d' ⟨hd, _⟩ => ?_
        subst hd
        cases d' with
        | array n e => exact .pure (.int _ _)
        | _ => exact RS.stuck _
      | string => cases hv with
        | string s => exact .pure (.int _ _)
        | _ => exact RS.stuck _
      | slice e => cases hv with
        | slice0 l c => exact .pure (.int _ _)
        | slice hh => exact .pure (.int _ _)
        | _ => exact RS.stuck _
      | map k e => cases hv with
        | map0 => exact .pure (.int _ _)
        | map hm hs =>
          simp only
          refine (RS.getObj hm).bind fun ι2 l2 o o' ⟨_, ho⟩ => ?_
          unfold ObjRel at ho
          split at ho
          · simp only; rw [ho.2.1]; exact .pure (.int _ _)
          · exact RS.stuck _
          · exact RS.stuck _
          · exact ho.elim
        | _ => exact RS.stuck _
      | _ => cases hv <;> first | exact RS.stuck _ | exact .pure (.int _ _)
theorem RS.clear (G : Good P) (ts : Array TypeId) (t : TypeId) {xs xs' : Array Value} (h : Vs P ι xs xs') : RS P n₀ ι (VRel P) (Builtin.clear_ ts t xs) (Builtin.clear_ ts t xs') := by
  unfold Builtin.clear_
  have fin : ∀ {κ : Ren}, RS P n₀ κ (VRel P) (Pure.pure (.tuple #[]) : Sem Value) (Pure.pure (.tuple #[])) := .pure .undef
  cases h0 : ts[0]? with
  | none => exact RS.stuck _
  | some tt =>
    cases h1 : xs[0]? with
    | none => exact RS.stuck _
    | some x =>
      obtain ⟨x', hx, hxx⟩ := h.at h1
      rw [hx]
      simp only
      refine (RS.underlying tt).bind fun ι1 l1 d d' ⟨hd, _⟩ => ?_
      subst hd
      have hv := hxx.mono l1
      have one : ∀ {κ : Ren}, RS P n₀ κ (fun _ _ _ => True) (Pure.pure () : Sem Unit) (Pure.pure ()) := .pure trivial
      cases hv with
      | map0 => exact one.bind fun _ _ _ _ _ => fin
      | slice0 l c => exact one.bind fun _ _ _ _ _ => fin
      | slice hh =>
        rename_i a a' l c c'
        cases l with
        | zero => exact one.bind fun _ _ _ _ _ => fin
        | succ l =>
          cases d' with
          | slice elem =>
            refine (RS.zeroValue G elem).bind fun ι2 l2 z z' ⟨hz, hzz⟩ => ?_
            subst hz
            rcases hh with ⟨ha, _⟩ | ⟨h0, _⟩
            · exact (RS.storeCells (ha.mono l2) 0 (Vs.toList (Vs.map _ _ _ fun i _ => (hzz ι2).cells.bang _))).bind fun _ _ _ _ _ => fin
            · omega
          | _ => exact RS.halt _
      | map hm hs =>
        refine (RS.getObj hm).bind fun ι2 l2 o o' ⟨_, ho⟩ => ?_
        unfold ObjRel at ho
        split at ho
        · rename_i es ck es' ck' _
          obtain ⟨hck, _⟩ := ho
          subst hck
          exact (RS.setObj (q := .map #[] ck') (q' := .map #[] ck') (l2 _ _ hm) hs (show ck' = ck' ∧ EsRel P ι2 #[] #[] from ⟨rfl, rfl, fun i x y h => by simp at h⟩)).bind fun _ _ _ _ _ => fin
        · exact RS.halt _
        · exact RS.halt _
        · exact ho.elim
      | _ => cases d' <;> exact RS.halt _

/-- '==' where one of both is nil. -/
theorem RS.eqNilIn (d : Nat) (t : TypeId) {x x' y y' : Value} (hx : VRel P ι x x') (hy : VRel P ι y y') (h : (isNil x || isNil y) = true) : RS P n₀ ι (fun _ r r' => r' = r) (Op.equalIn (d + 1) t x y) (Op.equalIn (d + 1) t x' y') := by
  simp only [Op.equalIn]
  refine (RS.underlying t).bind fun ι1 l1 u u' ⟨hu, _⟩ => ?_
  subst hu
  cases hx <;> cases hy <;> first
    | (exfalso; revert h; simp only [isNil]; decide)
    | (cases u' <;> first | exact RS.pure rfl | exact RS.halt _)
theorem RS.eqNil (t : TypeId) {x x' y y' : Value} (hx : VRel P ι x x') (hy : VRel P ι y y') (h : (isNil x || isNil y) = true) : RS P n₀ ι (fun _ r r' => r' = r) (Op.equal t x y) (Op.equal t x' y') := by
  have := RS.eqNilIn (P := P) (n₀ := n₀) 9999 t hx hy h
  exact this
end
end Go.Abs
