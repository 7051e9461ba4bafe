/-
  asterismlaw11.TableNumbers answers true, whatever it is handed, whatever the machine draws; what it is handed reads behind the call as it did. No condition.
-/
import Derived.Test.YthkoolfmealabaaGreatN30
import Derived.Test.YthkoolfmealabaaGreatN26
import Derived.Deep.Grids
import Derived.ChangeMaps5
import Derived.Test.YthkoolfmealabaaGreatRows
import Derived.Test.YthkoolfmealabaaGreatChecked
namespace Go.Abs
open Go.ChangeShapes Go.WideShapes Go.ChangeAt Go.RowKit
/-- What a row's reading says of a slice of truths. -/
theorem open_boolsR {P : Program} {W : World} {H : Type} {enc : TypeId × Value → H} {sp : Nat → Bool} {base : Nat} {t e : TypeId} {v : Value} {d : DataW H} {ps : List MemPlace} (ht : P.underlying t = some (.slice e)) (he : P.underlying e = some .bool) (hs : P.cellsOf e = 1)
    (hval : Value.okWide P W .any base t v) (hd : DataW.Trod enc P W 0 sp true t v d ps) : v = .slice none 0 0 ∨ ∃ a cap l, v = .slice (some a) (List.length l) cap ∧ l.length ≤ maxLen ∧ LiesC W (vcells eB.f l) a := by
  obtain ⟨fuel, hd⟩ := hd
  have hone : isOne v = true := by
    unfold Value.okWide at hval
    rw [ht] at hval
    simp only at hval
    unfold Cell.okWide at hval
    rw [ht] at hval
    simp only at hval
    unfold Cell.ok at hval
    rw [ht] at hval
    cases v <;> simp_all [isOne]
  rw [isOne_cells hone] at hd
  rcases DataW.trod_slice ht hd with ⟨h, _⟩ | ⟨a, len, cap, elems, rest, n, _, h, _, _, hl, hm, hel, hi, _⟩
  · left
    simpa using h
  · right
    have hv : v = .slice (some a) len cap := by simpa using h
    subst hv
    have hcell : ∀ i, i < len → ∃ x, W.cell? (a.add (i * 1)) = some (.bool x) := by
      intro i hlt
      have hq := hi i hlt
      rw [hs] at hq
      have hlt' : i < elems.length := by omega
      rw [List.getElem?_eq_getElem hlt', Option.bind_eq_some_iff] at hq
      obtain ⟨cs, h1, h2⟩ := hq
      obtain ⟨m, rfl, _⟩ := DataW.trod_bool he h2
      refine ⟨m, ?_⟩
      unfold World.cells? at h1
      simp at h1
      have e0 : (a.add i).add 0 = a.add i := by cases hq : a.add i; simp [Addr.add]
      cases hc : W.cell? ((a.add i).add 0) with
      | none => simp [hc] at h1
      | some u => simp [hc] at h1; rw [e0] at hc; rw [Nat.mul_one, hc, h1]
    have hhas : W.has P .any base a e cap := by
      unfold Value.okWide at hval
      rw [ht] at hval
      simp only at hval
      unfold Cell.okWide at hval
      rw [ht] at hval
      simp only at hval
      unfold Cell.ok at hval
      rw [ht] at hval
      exact hval.2.2
    obtain ⟨_, hsp, row, cells, hsh, _⟩ := hhas
    unfold World.shape? at hsh
    split at hsh
    case h_2 => cases hsh
    rename_i c t' fz hb
    have key : ∀ l : List Bool, vcells eB.f l = (l.map Value.bool).toArray := fun l => by
      unfold vcells eB
      congr 1
      induction l with
      | nil => rfl
      | cons x l ih =>
        simp only [List.flatMap_cons, List.map_cons, List.map_nil, List.cons_append, List.nil_append, C1.den] at ih ⊢
        rw [ih]
    refine ⟨a, cap, (List.range len).map fun i => match W.cell? (a.add (i * 1)) with | some (.bool x) => x | _ => false, by simp, by simp; omega, fun i x hx => ?_, hsp, c, t', fz, hb, fun i x hx => ?_⟩
    · rw [key] at hx
      simp only [List.getElem?_toArray, List.getElem?_map, Option.map_eq_some_iff] at hx
      obtain ⟨y, _, rfl⟩ := hx
      rfl
    · rw [key] at hx
      simp only [List.getElem?_toArray, List.getElem?_map, Option.map_eq_some_iff] at hx
      obtain ⟨z, ⟨j, hj, hz⟩, rfl⟩ := hx
      have hlt : i < len ∧ j = i := by
        rw [List.getElem?_eq_some_iff] at hj
        obtain ⟨h1, h2⟩ := hj
        simp at h1 h2
        exact ⟨h1, h2.symm⟩
      obtain ⟨hlt, rfl⟩ := hlt
      obtain ⟨y, hy⟩ := hcell j hlt
      rw [hy] at hz
      simp only at hz
      subst hz
      rw [cell_add hb hsp, Nat.mul_one] at hy
      exact hy
end Go.Abs
namespace Go.Proofs.YthkoolfmealabaaGreat
open Go.ChangeShapes Go.WideShapes Go.ChangeAt Go.RowKit Go.Abs
theorem own : ownKnob Tryz.prog.godebug = none := by kernel_rfl
theorem laidOut : laidOutB Tryz.prog = true := by kernel_rfl
theorem vs1 {ι : Ren} {a a' : Value} (h : VRel Tryz.prog ι a a') : Vs Tryz.prog ι #[a] #[a'] := ⟨rfl, fun i x x' hx hx' => by
  match i, hx, hx' with
  | 0, hx, hx' => cases hx; cases hx'; exact h
  | n + 1, hx, _ => simp at hx⟩
/-- The call, whatever it is handed. -/
theorem tableNumbers_calls {W : World} {v : Value} (hv : v = .slice none 0 0 ∨ ∃ a cap l, v = .slice (some a) (List.length l) cap ∧ l.length ≤ maxLen ∧ LiesC W (vcells eB.f l) a) :
    Calls Tryz.prog 5 #[v] W fun e W' => e = .returned (.bool true) ∧ Below W.heap.size W W' := by
  rcases hv with rfl | ⟨a, cap, l, rfl, hm, hL⟩
  · obtain ⟨_, A', F', _, h, _, _⟩ := num_ctr (n₀ := W.heap.size) (qg := 0) (cg := 0) (zg := true) (gone := []) (tg := 4) (mg := .imm) (fun _ => rfl) (by decide) Ft.no (inC []) (As.addE ⟨rfl, rfl⟩)
    exact ro_call h rfl (sim_inC (ls := []) (fun p hp => by cases hp)) (vs1 (.slice0 _ _)) inC_free inC_ro
  · obtain ⟨_, A', F', _, h, _, _⟩ := num_ctr (n₀ := W.heap.size) (qg := 0) (cg := cap) (zg := false) (gone := l) (tg := 4) (mg := .imm) (fun h => nomatch h) (by unfold maxLen at hm; omega) ⟨fun _ => False, fun b => b = 0⟩ (inC [((vcells eB.f l, 4), a)])
      (As.addE ⟨fun _ => rfl, fun b => by simp [Md.mine], fun b => by simp [Md.mine], _, by show (0, (vcells eB.f l).size + 1) ≠ (2, 0); simp, inC_get (p := ((vcells eB.f l, 4), a)) rfl⟩)
    exact ro_call h rfl (sim_inC (ls := [((vcells eB.f l, 4), a)]) (fun p hp => by simp only [List.mem_cons, List.not_mem_nil, or_false] at hp; subst hp; exact hL)) (vs1 (inC_rel (k := 0) (p := ((vcells eB.f l, 4), a)) rfl hL)) inC_free inC_ro

set_option maxRecDepth 100000 in
theorem tableNumbers_lifted (os : Os) (started : os.Started) (H : Type) (enc : TypeId × Value → H) :
    ReturnsInHanded {} Tryz.checked os 5 .any (Rows.tableNumbersSpec.pre6 enc Tryz.prog Tryz.f5 Rows.tableNumbersRow.domain false) (Rows.tableNumbersSpec.post enc Tryz.prog Tryz.f5 false true false false) := by
  refine returnsInHanded_of_change (C := Tryz.checked) own started (by kernel_rfl) Tryz.func5
    (ChangeSpec.witness6 (enc := enc) (C := Tryz.checked) false ⟨#[], #[.slice none 0 0], []⟩ 8 (by kernel_rfl) (by kernel_rfl) (by kernel_rfl) (by kernel_rfl)) ?_
  intro W base args ds gs before hval0 hW hcnd _
  have hW' := hW
  obtain ⟨p, q, hA0, hV, rfl, hfz, hnd⟩ := hW
  have hA : DataW.TrodAll enc Tryz.prog W 0 (fun _ => true) true Tryz.f5.params.toList args.toList ds p := hA0
  rw [Tryz.params5] at hA
  obtain ⟨v, vs1, d, ds1, p1, q1, hargs, rfl, rfl, hd, hA1⟩ := trodAll_cons hA
  obtain ⟨rfl, rfl, rfl⟩ := trodAll_nil hA1
  obtain ⟨rfl, rfl⟩ := trodVars_none hV
  have hargs : args = #[v] := by cases args; simp_all
  subst hargs
  have hv : Value.okWide Tryz.prog W .any base 57 v := hval0 0 57 v (by rw [Tryz.params5]; rfl) rfl
  have hopen := open_boolsR Tryz.underlying57 Tryz.underlying4 (by kernel_rfl) hv hd
  clear hA0 hval0
  simp only [List.append_nil] at hW'
  have hlt : ∀ x ∈ p1, x.block < W.heap.size := fun x hx => hW'.lt x hx
  refine (tableNumbers_calls hopen).mono fun e W' ⟨he, hB⟩ => ?_
  subst he
  refine ⟨_, rfl, post_of_below (pa := p1 ++ []) (pv := []) hW' hB (fun _ _ _ => trodAll_mk1 (shut_bool Tryz.underlying4 true)) (fun sp hsp => ?_) (fun _ _ => rfl) (by simp)
    (ok_one (by kernel_rfl) rfl (okWide_bool_mk Tryz.underlying4 true))⟩
  show DataW.TrodAll enc Tryz.prog W' 0 sp true Tryz.f5.params.toList [v] [d] (p1 ++ [])
  rw [Tryz.params5, List.append_nil]
  exact trodAll_mk1 (WideElems.Trod_stays laidOut (by kernel_rfl) (of_decide_eq_true (by kernel_rfl)) hd (fun x hx => hB.same (hlt x hx)) (fun x hx => hsp x (by simp [hx])))

theorem tableNumbers_holds : Rows.TableNumbersSaid :=
  OpenClaim.holds_of_wide 5 Tryz.f5 rfl rfl rfl rfl rfl rfl rfl ⟨rfl, rfl, rfl, rfl, rfl⟩ rfl rfl rfl rfl rfl (by kernel_rfl) Tryz.func5 (by kernel_rfl)
    (of_decide_eq_true (by kernel_rfl)) (by unfold Func.isWrapper; first | (rw [if_pos (by decide +kernel)]; kernel_rfl) | (rw [if_neg (by decide +kernel)]; exact ⟨rfl, rfl⟩))
    (fun os started H enc _ => tableNumbers_lifted os started H enc)
end Go.Proofs.YthkoolfmealabaaGreat
