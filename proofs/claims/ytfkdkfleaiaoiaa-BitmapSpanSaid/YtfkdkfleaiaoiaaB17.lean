/-
  ABS B17: any number of lists of whole numbers that are handed in, one after another laid into a canonical world.
-/
import Derived.Test.YtfkdkfleaiaoiaaB5
namespace Go.Abs
open Go.ChangeShapes Go.WideShapes Go.ChangeAt Go.RowKit
section
variable {P : Program} {W : World} {t : TypeId}
/-- What a row's reading says of a slice of whole numbers. -/
def OpenInts (W : World) (v : Value) : Prop := v = .slice none 0 0 ∨ ∃ a cap l, v = .slice (some a) (List.length l) cap ∧ l.length ≤ cap ∧ Lies W l a
/-- How a canonical world of lists has it. -/
def ArgIn (ls : List (List Int × Addr)) (v : Value) (p : Option Addr) (l : List Int) (c : Nat) : Prop :=
  (v = .slice none 0 0 ∧ p = none ∧ l = [] ∧ c = 0) ∨ ∃ k q, ls[k]? = some q ∧ p = some ⟨k, 0, none⟩ ∧ l = q.1 ∧ l.length ≤ c ∧ v = .slice (some q.2) l.length c
/-- All that lie there. -/
def AllLie (W : World) (ls : List (List Int × Addr)) : Prop := ∀ p ∈ ls, Lies W p.1 p.2
theorem allLie_nil : AllLie W [] := fun _ h => nomatch h
/-- One more. -/
theorem arg_add {ls : List (List Int × Addr)} {v : Value} (h : AllLie W ls) (hv : OpenInts W v) : ∃ ls' p l c, AllLie W ls' ∧ (∀ (k : Nat) q, ls[k]? = some q → ls'[k]? = some q) ∧ ArgIn ls' v p l c := by
  rcases hv with rfl | ⟨a, cap, l, rfl, hc, hL⟩
  · exact ⟨ls, none, [], 0, h, fun _ _ h => h, .inl ⟨rfl, rfl, rfl, rfl⟩⟩
  · refine ⟨ls ++ [(l, a)], some ⟨ls.length, 0, none⟩, l, cap, fun p hp => ?_, fun k q hq => ?_, .inr ⟨ls.length, (l, a), by simp, rfl, rfl, hc, rfl⟩⟩
    · rcases List.mem_append.1 hp with hp | hp
      · exact h p hp
      · simp only [List.mem_cons, List.not_mem_nil, or_false] at hp
        subst hp; exact hL
    · rw [List.getElem?_append_left (List.getElem?_eq_some_iff.1 hq).1]; exact hq
theorem ArgIn.mono {ls ls' : List (List Int × Addr)} {v : Value} {p : Option Addr} {l : List Int} {c : Nat} (h : ArgIn ls v p l c) (k : ∀ (k : Nat) q, ls[k]? = some q → ls'[k]? = some q) : ArgIn ls' v p l c := by
  rcases h with h | ⟨j, q, h1, h2⟩
  · exact .inl h
  · exact .inr ⟨j, q, k j q h1, h2⟩
theorem ArgIn.fits {ls : List (List Int × Addr)} {v : Value} {p : Option Addr} {l : List Int} {c : Nat} (h : ArgIn ls v p l c) : l.length ≤ c := by
  rcases h with ⟨_, _, rfl, rfl⟩ | ⟨_, _, _, _, _, h, _⟩
  · exact Nat.le_refl _
  · exact h
theorem ArgIn.nil {ls : List (List Int × Addr)} {v : Value} {p : Option Addr} {l : List Int} {c : Nat} (h : ArgIn ls v p l c) (e : p = none) : l = [] ∧ c = 0 := by
  rcases h with ⟨_, _, h⟩ | ⟨_, _, _, h, _⟩
  · exact h
  · rw [e] at h; cases h
theorem ArgIn.rd {ls : List (List Int × Addr)} {v : Value} {p : Option Addr} {l : List Int} {c : Nat} (h : ArgIn ls v p l c) : Go.Abs.rd p l (fun _ => False) (inW t ls) := by
  rcases h with ⟨_, rfl, rfl, _⟩ | ⟨_, _, h1, rfl, rfl, _⟩
  · exact rd_none
  · exact in_rd h1
theorem ArgIn.rel {ls : List (List Int × Addr)} {v : Value} {p : Option Addr} {l : List Int} {c : Nat} (h : ArgIn ls v p l c) (hl : AllLie W ls) : VRel P (inR ls) (.slice p l.length c) v := by
  rcases h with ⟨rfl, rfl, rfl, rfl⟩ | ⟨_, q, h1, rfl, rfl, _, rfl⟩
  · exact .slice0 _ _
  · exact in_slice h1 (hl q (List.mem_of_getElem? h1))
end
end Go.Abs
