/-
  ABS 37: a record that was made with less known is a record with more known.
-/
import Derived.Test.YtipomlcnmaldkaaA36
namespace Go.Abs
section
variable {P : Program}
theorem LvK_know {K K' : Know} (hK : ∀ f xs v, K f xs = some v → K' f xs = some v) : ∀ n, (LvK P K n).le (LvK P K' n)
  | 0 => ⟨fun _ _ _ _ _ h => h.elim, fun _ _ _ _ _ _ _ h => h.elim, fun _ _ _ _ _ _ _ h => h.elim, fun _ _ _ _ _ _ _ h => h.elim⟩
  | n + 1 => by
    have h := LvK_know hK n
    refine ⟨?_, ?_, ?_, ?_⟩
    · rintro f xs A v A' (⟨fn, c, e, a1, A1, h1, h2, h3, h4⟩ | ⟨h1, h2⟩)
      · exact .inl ⟨fn, c, e, a1, A1, h1, h2, h.codes _ _ _ _ _ _ _ h3, h4⟩
      · exact .inr ⟨hK _ _ _ h1, h2⟩
    · rintro l ts as bd A v A' ⟨a1, A1, A2, e, a3, A3, j, h1, h2, h3, h4⟩
      exact ⟨a1, A1, A2, e, a3, A3, j, h.codes _ _ _ _ _ _ _ h1, h2, h.codes _ _ _ _ _ _ _ h3, h4⟩
    · intro ro c a A e a' A' r
      cases c with
      | seq x y =>
        obtain ⟨e1, a1, A1, h1, h2⟩ := r
        exact ⟨e1, a1, A1, h.codes _ _ _ _ _ _ _ h1, h2.mono fun _ _ _ _ _ q => h.codes _ _ _ _ _ _ _ q⟩
      | cond c x y =>
        obtain ⟨b, h1, h2⟩ := r
        exact ⟨b, h1, h.codes _ _ _ _ _ _ _ h2⟩
      | block id x =>
        obtain ⟨e1, h1, h2⟩ := r
        exact ⟨e1, h.codes _ _ _ _ _ _ _ h1, h2⟩
      | loop x => exact h.loops _ _ _ _ _ _ _ r
      | region id ops draw =>
        cases draw with
        | false => exact ⟨r.1, r.2.mono h⟩
        | true => exact ⟨r.1, r.2.mono h⟩
      | rangeFunc g ps as bd =>
        obtain ⟨l, mark, A1, f, first, cap, fn, code, v, A2, jump, A3, h1, h2, h3, h4, h5, h6, h7, h8⟩ := r
        refine ⟨l, mark, A1, f, first, cap, fn, code, v, A2, jump, A3, h1, h2, h3, h4, h5, h.calls _ _ _ _ _ h6, h7, ?_⟩
        cases jump with
        | none => exact h8
        | some c => exact h.codes _ _ _ _ _ _ _ h8
      | _ => exact r
    · rintro ro c a A e a' A' ⟨e1, a1, A1, h1, h2⟩
      exact ⟨e1, a1, A1, h.codes _ _ _ _ _ _ _ h1, h2.mono fun _ _ _ _ _ q => h.loops _ _ _ _ _ _ _ q⟩
theorem MemoOk.know {K K' : Know} (hK : ∀ f xs v, K f xs = some v → K' f xs = some v) {N : Nat} {m : Memo} (q : MemoOk P K N m) : MemoOk P K' N m := fun A r => by
  obtain ⟨A', h1, h2⟩ := q A r
  exact ⟨A', (LvK_know hK N).calls _ _ _ _ _ h1, h2⟩
theorem know0_le (K : Know) : ∀ f xs v, know0 f xs = some v → K f xs = some v := fun _ _ _ h => by cases h
/-- Records, grown by one. -/
theorem memos_cons {K : Know} {N : Nat} {m : Memo} {ms : List Memo} (h : MemoOk P K N m) (hs : ∀ m ∈ ms, MemoOk P K N m) : ∀ k ∈ m :: ms, MemoOk P K N k := fun k hk => by
  rcases List.mem_cons.1 hk with rfl | hk
  · exact h
  · exact hs k hk
theorem memos_nil {K : Know} {N : Nat} : ∀ k ∈ ([] : List Memo), MemoOk P K N k := fun _ h => by cases h
end
end Go.Abs
