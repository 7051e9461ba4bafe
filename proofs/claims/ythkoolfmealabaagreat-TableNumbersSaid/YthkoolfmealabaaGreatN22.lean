/-
  ABS D8: many things of one kind, side by side: one is taken out, and laid back.
-/
import Derived.Test.YthkoolfmealabaaGreatN20
namespace Go.Abs
def bigA {α : Type} (I : α → As) (l : List α) : As := As.all (l.map I)
theorem perm_at {α : Type} {l : List α} {i : Nat} (d x : α) (h : i < l.length) : (l.set i x).Perm (x :: l.eraseIdx i) := by
  induction l generalizing i with
  | nil => simp at h
  | cons a l ih =>
    cases i with
    | zero => exact List.Perm.refl _
    | succ i =>
      simp only [List.set_cons_succ, List.eraseIdx_cons_succ]
      exact ((ih (by simpa using h)).cons a).trans (List.Perm.swap _ _ _)
theorem set_self {α : Type} {l : List α} {i : Nat} (d : α) (h : i < l.length) : l.set i (l.getD i d) = l := by
  rw [getD_at h, List.set_getElem_self]
theorem big_out {α : Type} {I : α → As} {l : List α} (i : Nat) (d : α) (h : i < l.length) : GE [.as (bigA I l)] Unit (fun _ => True) (fun _ => [.as (I (l.getD i d)), .as (bigA I (l.eraseIdx i))]) := fun F A hF => by
  have hF := As.unE hF
  have hF : (As.all (l.map I)).p F A := hF
  have p := (perm_at d (l.getD i d) h).map I
  rw [set_self d h] at p
  have h2 := As.perm p hF
  exact ⟨(), F, trivial, As.map' h2 fun _ h => As.addE h, .refl⟩
theorem big_in {α : Type} {I : α → As} {l : List α} (i : Nat) (d x : α) (h : i < l.length) : GE [.as (I x), .as (bigA I (l.eraseIdx i))] Unit (fun _ => True) (fun _ => [.as (bigA I (l.set i x))]) := fun F A hF => by
  have h2 : (As.all ((x :: l.eraseIdx i).map I)).p F A := As.map' hF fun _ h => As.unE h
  have h3 := As.perm ((perm_at d x h).map I).symm h2
  exact ⟨(), F, trivial, As.addE h3, .refl⟩
theorem big_nil {α : Type} {I : α → As} : GE [] Unit (fun _ => True) (fun _ => [.as (bigA I [])]) := fun F A hF => ⟨(), F, trivial, As.addE hF, .refl⟩
theorem big_snoc {α : Type} {I : α → As} {l : List α} {x : α} : GE [.as (I x), .as (bigA I l)] Unit (fun _ => True) (fun _ => [.as (bigA I (l ++ [x]))]) := fun F A hF => by
  have h2 : (As.all ((x :: l).map I)).p F A := As.map' hF fun _ h => As.unE h
  have h3 := As.perm (((List.perm_append_comm (l₁ := [x]) (l₂ := l))).map I) h2
  exact ⟨(), F, trivial, As.addE h3, .refl⟩
/-- A loop of two things that change. -/
theorem lp2 {P : Program} {n₀ : Nat} {ro : Option Nat} {B : Ft × World} {Q : Exit → Act → World → Prop} {p : Pt} {s : St} (G : Good P) (X Y : Type) (live : List Nat) (env : X × Y → List (Nat × SV)) (keep : List Nat) (hp : X × Y → List Ch) (nx : Nat) (φ : X × Y → Prop) (m : X × Y → Nat) (x0 : X × Y) (h0 : φ x0) (idx : List Nat)
    (body : ∀ a b, φ (a, b) → (∀ (p' : Pt) (s' : St) (x' : X × Y), m x' < m (a, b) → φ x' → ∀ idx', ent1 s' (invS s live env keep hp nx x') idx' = ent2 (invS s live env keep hp nx x') → agN p' = some (loN B (invS s live env keep hp nx) φ m (a, b)) → GP P n₀ ro B Q p' s') → GP P n₀ ro B Q (loP p (loN B (invS s live env keep hp nx) φ m (a, b))) (invS s live env keep hp nx (a, b)))
    (he : ent1 s (invS s live env keep hp nx x0) (idx ++ keep) = ent2 (invS s live env keep hp nx x0) := by kernel_rfl) : GP P n₀ ro B Q p s :=
  lp G (X × Y) live env keep hp nx φ m x0 h0 idx (fun y => body y.1 y.2) he
/-- Whether a sum may go round, from here on. -/
theorem ovS {P : Program} {n₀ : Nat} {ro : Option Nat} {B : Ft × World} {Q : Exit → Act → World → Prop} {p : Pt} {s : St} (o : Bool) (next : GP P n₀ ro B Q p { s with ov := o }) : GP P n₀ ro B Q p s := by
  have e : EnS s { s with ov := o } := fun B a A hs => hs
  cases p with
  | rg id ops d K i lg => exact wr_ent e next
  | cd x a b K => exact w_ent e next
  | lo c K => exact w_ent e next
  | rf g ps as bd K => exact w_ent e next
  | ag N K => exact k_ent e next
  | fi x => exact k_ent e next
  | bad => exact next
end Go.Abs
