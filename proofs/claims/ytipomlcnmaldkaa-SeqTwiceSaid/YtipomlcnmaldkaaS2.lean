/-
  seq.Map: what comes of it is what comes, each turned. No condition.
-/
import Derived.Test.YtipomlcnmaldkaaS1
namespace Go.Proofs.Ytipomlcnmaldkaa
open Go.Abs
variable {n₀ : Nat}
set_option maxRecDepth 4000
def mapV (bs bf : Nat) : Value := .func (.func 34) #[] #[.pointer (some ⟨bs, 0, none⟩), .pointer (some ⟨bf, 0, none⟩)]
def mapY (yb bf : Nat) : Value := .func (.func 36) #[] #[.pointer (some ⟨yb, 0, none⟩), .pointer (some ⟨bf, 0, none⟩)]
def mapSt {φ α : Type} (fn : φ → Int → Option (Int × φ)) (st : α → Int → Option (Bool × α)) : φ × α → Int → Option (Bool × (φ × α)) :=
  fun s x => (fn s.1 x).bind fun v => (st s.2 v.1).map fun b => (b.1, (v.2, b.2))
def mapRun {φ β : Type} (fn : φ → Int → Option (Int × φ)) (run : ∀ α : Type, (α → Int → Option (Bool × α)) → β → α → Option (β × α)) : ∀ α : Type, (α → Int → Option (Bool × α)) → φ × β → α → Option ((φ × β) × α) :=
  fun α st s a => (run (φ × α) (mapSt fn st) s.2 (s.1, a)).map fun r => ((r.2.1, r.1), r.2.2)
def mapI {φ α : Type} (yb bf : Nat) (y f : Value) (K : φ → Asn) (I : α → Asn) : φ × α → Asn := fun s => (K s.1).sep ((I s.2).sep ((cel yb y).sep (cel bf f)))
theorem mapY_spec {φ α : Type} {yb bf : Nat} {y f : Value} {K : φ → Asn} {fn : φ → Int → Option (Int × φ)} {I : α → Asn} {st : α → Int → Option (Bool × α)} (Hf : Fpec Try.prog n₀ f K fn) (Hy : Ypec Try.prog n₀ y I st) :
    Ypec Try.prog n₀ (mapY yb bf) (mapI yb bf y f K I) (mapSt fn st) := by
  refine ⟨rfl, fun s => Owns.sep (Hf.loc _) (Owns.sep (Hy.loc _) (Owns.sep Owns.cel Owns.cel)), fun {s F A x b s'} h hst => ?_⟩
  obtain ⟨p, a⟩ := s
  unfold mapSt at hst
  cases hfn : fn p x with
  | none => rw [hfn] at hst; cases hst
  | some v =>
    obtain ⟨v, p'⟩ := v
    rw [hfn] at hst
    cases hs : st a v with
    | none => simp [hs] at hst
    | some r =>
      obtain ⟨bb, a'⟩ := r
      simp [hs] at hst
      obtain ⟨rfl, rfl⟩ := hst
      have hO := Owns.sep (Owns.cel (b := yb) (v := y)) (Owns.cel (b := bf) (v := f))
      obtain ⟨A1, F1, c1, h1, S1⟩ := Asn.frame (Hf.loc p) (Owns.sep (Hy.loc a) hO) (Hf.loc p') h (R := fun A1 => CallV Try.prog n₀ f #[.int .i64 x] A (.int .i64 v) A1) (fun F1 h1 => Hf.run h1 hfn)
      obtain ⟨A2, F2, c2, h2, S2⟩ := Asn.frame (Hy.loc a) (Owns.sep (Hf.loc p') hO) (Hy.loc a') (Asn.swap h1) (R := fun A2 => CallV Try.prog n₀ y #[.int .i64 v] A1 (.bool bb) A2) (fun F1 h1 => Hy.run h1 hs)
      have gy : A.cell? ⟨yb, 0, none⟩ = some y := let ⟨_, q⟩ := Asn.right h; let ⟨_, q⟩ := Asn.right q; Asn.get q
      have gf : A.cell? ⟨bf, 0, none⟩ = some f := let ⟨_, q⟩ := Asn.right h; let ⟨_, q⟩ := Asn.right q; Asn.get (Asn.comm q)
      have gy1 : A1.cell? ⟨yb, 0, none⟩ = some y := let ⟨_, q⟩ := Asn.right h1; let ⟨_, q⟩ := Asn.right q; Asn.get q
      have : wpF Try.prog n₀ 36 #[.int .i64 x, .pointer (some ⟨yb, 0, none⟩), .pointer (some ⟨bf, 0, none⟩)] (fun v A' => v = .bool bb ∧ A' = A2) A := by
        refine wpF_fn (ts := #[.int .i64 x, .pointer (some ⟨yb, 0, none⟩), .pointer (some ⟨bf, 0, none⟩), undef, undef, undef, undef, undef, undef, undef]) good ⟨rfl, rfl, rfl⟩ rfl ?_
        refine cw_seq good (cw_region good ?_)
        refine wpO_as (.bool false) rfl ?_
        simp only [Act.put, List.setIfInBounds_toArray, List.set_cons_succ, List.set_cons_zero]
        refine cw_seq good (cw_draw good [y, f, .int .i64 x, .int .i64 v, .bool bb, .bool bb] [A, A, A, A, A1, A2, A2] (by kernel_rfl) rfl ?_ ⟨#[.int .i64 x, .pointer (some ⟨yb, 0, none⟩), .pointer (some ⟨bf, 0, none⟩), undef, .bool bb, y, f, .int .i64 x, .int .i64 v, .bool bb], []⟩ A2 (by kernel_rfl) rfl ?_)
        · intro i o ho
          match i, ho with
          | 0, ho => cases ho; exact step_quiet rfl [3, 4] (all2 (aop_load rfl rfl rfl gy) (aop_load rfl rfl rfl gy1)) rfl
          | 1, ho => cases ho; exact step_quiet rfl [3] (all1 (aop_load rfl rfl rfl gf)) rfl
          | 2, ho => cases ho; exact step_quiet rfl [3] (all1 (aop_mv rfl rfl)) rfl
          | 3, ho => cases ho; exact step_acts rfl (runOp_callv (y := f) (l := [.int .i64 x]) c1 rfl rfl)
          | 4, ho => cases ho; exact step_acts rfl (runOp_callv (y := y) (l := [.int .i64 v]) c2 rfl rfl)
          | 5, ho => cases ho; exact step_quiet rfl [6] (all1 (aop_as rfl rfl)) rfl
          | n + 6, ho => simp at ho
        · refine cw_ret good ?_
          exact ret_one (.bool bb) rfl ⟨rfl, rfl⟩
      obtain ⟨v, A3, h3, rfl, rfl⟩ := this
      exact ⟨A3, F2, ⟨36, _, _, _, _, ⟨rfl, rfl, rfl⟩, rfl, h3⟩, Asn.swap h2, S1.trans S2⟩

def mapJ {φ β : Type} (bs bf : Nat) (s f : Value) (K : φ → Asn) (J : β → Asn) : φ × β → Asn := fun p => (J p.2).sep ((K p.1).sep ((cel bs s).sep (cel bf f)))
theorem map_spec {φ β : Type} {bs bf : Nat} {s f : Value} {K : φ → Asn} {fn : φ → Int → Option (Int × φ)} {J : β → Asn} {run : ∀ α : Type, (α → Int → Option (Bool × α)) → β → α → Option (β × α)} (Hf : Fpec Try.prog n₀ f K fn) (Hs : Hands Try.prog n₀ s J run) :
    Hands Try.prog n₀ (mapV bs bf) (mapJ bs bf s f K J) (mapRun fn run) := by
  have hO : ∀ p : φ × β, Owns (mapJ bs bf s f K J p) := fun p => Owns.sep (Hs.loc _) (Owns.sep (Hf.loc _) (Owns.sep Owns.cel Owns.cel))
  refine ⟨hO, fun {α y I st} H {b0 a0 b1 a1 F A} h hr => ?_⟩
  obtain ⟨p0, q0⟩ := b0
  obtain ⟨p1, q1⟩ := b1
  have hr' : run (φ × α) (mapSt fn st) q0 (p0, a0) = some (q1, (p1, a1)) := by
    unfold mapRun at hr
    cases hx : run (φ × α) (mapSt fn st) q0 (p0, a0) with
    | none => simp [hx] at hr
    | some r => obtain ⟨q, p, a⟩ := r; simp [hx] at hr; obtain ⟨⟨rfl, rfl⟩, rfl⟩ := hr; rfl
  have hl : Asn.all [J q0, K p0, cel bs s, cel bf f, I a0] F A := Asn.cat (l := [J q0, K p0, cel bs s, cel bf f]) (l' := [I a0]) h
  obtain ⟨F1, h1, S1⟩ := Asn.new (Owns.sep (Hs.loc q0) (Owns.sep (Hf.loc p0) (Owns.sep Owns.cel (Owns.sep Owns.cel (H.loc a0))))) hl y 39
  have h2 : ((cel bs s).sep ((J q0).sep (mapI A.heap.size bf y f K I (p0, a0)))) F1 (A.alloc (.cells #[y] 39 (0, 0))) :=
    Asn.perm [cel A.heap.size y, J q0, K p0, cel bs s, cel bf f, I a0] [3, 1, 2, 5, 0, 4] h1 (by decide)
  have hM := mapY_spec (yb := A.heap.size) (bf := bf) Hf H
  obtain ⟨A2, F2, c2, h3, S2⟩ := Asn.frame (Owns.sep (Hs.loc q0) (hM.loc (p0, a0))) Owns.cel (Owns.sep (Hs.loc q1) (hM.loc (p1, a1))) (Asn.comm h2) (R := fun A2 => CallV Try.prog n₀ s #[mapY A.heap.size bf] (A.alloc (.cells #[y] 39 (0, 0))) undef A2) (fun F1 h => Hs.run hM h hr')
  have h4 : Asn.all [cel bs s, J q1, K p1, I a1, cel A.heap.size y, cel bf f] F2 A2 := Asn.comm h3
  have h5 := Asn.perm _ [4, 1, 2, 0, 5, 3] h4 (by decide)
  obtain ⟨F3, h6, S3⟩ := Asn.drop (I := cel A.heap.size y) h5
  have h7 : ((mapJ bs bf s f K J (p1, q1)).sep (I a1)) F3 A2 := Asn.assoc' (Asn.map' h6 fun _ h => Asn.assoc' (Asn.map' h fun _ h => Asn.assoc' h))
  have : wpF Try.prog n₀ 34 #[y, .pointer (some ⟨bs, 0, none⟩), .pointer (some ⟨bf, 0, none⟩)] (fun v A' => v = undef ∧ A' = A2) A := by
    refine wpF_fn (ts := #[y, .pointer (some ⟨bs, 0, none⟩), .pointer (some ⟨bf, 0, none⟩), undef, undef, undef, undef]) good ⟨rfl, rfl, rfl⟩ rfl ?_
    refine cw_seq good (cw_region good ?_)
    refine wpO_val (aop_box (v := y) rfl rfl H.one) ?_
    refine cw_region good ?_
    refine wpO_val (aop_load rfl rfl rfl (Asn.get h2)) ?_
    refine wpO_val (aop_func (l := []) (l' := [.pointer (some ⟨A.heap.size, 0, none⟩), .pointer (some ⟨bf, 0, none⟩)]) rfl rfl rfl) ?_
    simp only [Act.put, List.setIfInBounds_toArray, List.set_cons_succ, List.set_cons_zero]
    refine wpO_call (f := 35) (first := #[]) (cap := #[]) (l := [s, mapY A.heap.size bf]) (xs := #[s, mapY A.heap.size bf]) ⟨rfl, rfl, rfl⟩ rfl rfl rfl ⟨undef, A2, each_some c2, ?_⟩
    exact ret_none ⟨rfl, rfl⟩
  obtain ⟨v, A3, h8, rfl, rfl⟩ := this
  exact ⟨A3, F3, ⟨34, _, _, _, _, ⟨rfl, rfl, rfl⟩, rfl, h8⟩, h7, S1.trans (S2.trans S3)⟩
end Go.Proofs.Ytipomlcnmaldkaa
