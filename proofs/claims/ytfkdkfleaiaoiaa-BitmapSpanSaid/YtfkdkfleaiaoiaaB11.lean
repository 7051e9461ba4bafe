/-
  ABS B11: a call of which it is known, at every real world, that it turns one block: as a call of the canonical run.
-/
import Derived.Test.YtfkdkfleaiaoiaaB10
namespace Go.Abs
open Go.RowKit
section
variable {P : Program} {n₀ : Nat} {A W W' : World}
def turn (A : World) (d : Nat) (o : Obj) : World := { A with heap := A.heap.setIfInBounds d o }
theorem turn_size {d : Nat} {o : Obj} : (turn A d o).heap.size = A.heap.size := by simp [turn]
theorem turn_ne {d k : Nat} {o : Obj} (h : k ≠ d) : (turn A d o).heap[k]? = A.heap[k]? := by
  simp only [turn, Array.getElem?_setIfInBounds]
  rw [if_neg (fun e => h e.symm)]
theorem turn_at {d : Nat} {o o' : Obj} (h : A.heap[d]? = some o') : (turn A d o).heap[d]? = some o := by
  have hd := lt_of_some h
  simp [turn, hd]
/-- From blk's cells at off on there is what c' says; all else is as it was. -/
structure Turned (W W' : World) (blk off : Nat) (c' : Array Value) : Prop where
  at_ : ∀ cw tw fw, W.heap[blk]? = some (.cells cw tw fw) → ∃ cw', W'.heap[blk]? = some (.cells cw' tw fw) ∧ cw'.size = cw.size ∧ ∀ (i : Nat) x, c'[i]? = some x → cw'[off + i]? = some x
  keep : ∀ b, b < W.heap.size → b ≠ blk → W'.heap[b]? = W.heap[b]?
  size : W.heap.size ≤ W'.heap.size
  os : W'.os = W.os
  tape : W'.tape = W.tape
  output : W'.output = W.output
theorem snd_turn {f : FuncId} {d n cap : Nat} {c c' : Array Value} {t : TypeId} {fz : Nat × Nat} (hd : A.heap[d]? = some (.cells c t fz)) (hw : fz = (0, 0) ∨ fz = (1, 0)) (hsz : c'.size = c.size) (hcap : 0 < cap ∨ fz = (0, 0)) (hp : ∀ (i : Nat) x, c[i]? = some x → plain x = true) (hp' : ∀ (i : Nat) x, c'[i]? = some x → plain x = true)
    (H : ∀ (W : World) (blk off cap' : Nat) (cw : Array Value) (tw : TypeId) (fw : Nat × Nat), W.heap[blk]? = some (.cells cw tw fw) → ¬ fw.1 < fw.2 → (∀ (i : Nat) x, c[i]? = some x → cw[off + i]? = some x) → Calls P f #[.slice (some ⟨blk, off, none⟩) n cap'] W fun e W' => e = .returned undef ∧ Turned W W' blk off c') :
    SndCall P n₀ f #[.slice (some ⟨d, 0, none⟩) n cap] A undef (turn A d (.cells c' t fz)) := by
  refine ⟨Nat.le_of_eq turn_size.symm, fun ι W xs' S hx _ => ?_⟩
  have hx0 : xs'.size = 1 := hx.1.symm
  obtain ⟨y, rfl⟩ : ∃ y, xs' = #[y] := Array.size_eq_one_iff.1 hx0
  have hy := hx.2 0 _ y rfl rfl
  cases hy with
  | slice h =>
    rename_i a' cap'
    rcases h with ⟨⟨_, hsp, e, he, hb, ho⟩, _⟩ | ⟨_, h0, _, e, g, he, hg⟩
    case inr =>
      exfalso
      rcases hcap with hcap | rfl
      · omega
      · rcases S.obj d e _ he hd with ⟨h1, _⟩ | ⟨_, _, _, _, _, _, _, _, h2⟩
        · cases h1
        · rw [h2 (by simp)] at hg; cases hg
    have hO := S.obj d e _ he hd
    obtain ⟨cw, tw, fw, hW, hcells, hfz, hfr, hg1, hg2⟩ : ∃ c0 t0 fz0, W.heap[e.blk]? = some (.cells c0 t0 fz0) ∧ (∀ (i : Nat) x, c[i]? = some x → ∃ x', c0[i + e.sh]? = some x' ∧ VRel P ι x x') ∧ (fz = (0, 0) ∨ fz = (1, 0) ∨ (fz.1 = 0 ∧ c.size < fz.2)) ∧ (¬ fz.1 < fz.2 → n₀ ≤ e.blk ∧ ¬ fz0.1 < fz0.2) ∧ (fz = (1, 0) → e.gr = some (t, c0.size)) ∧ (fz ≠ (1, 0) → e.gr = none) := by
      rcases hO with ⟨h1, _⟩ | h
      · rcases hw with h | h <;> (rw [h] at h1; cases h1)
      · exact h
    have hnf : ¬ fz.1 < fz.2 := by rcases hw with rfl | rfl <;> simp
    obtain ⟨hn0, hfw⟩ := hfr hnf
    have hwr : wr (.cells c t fz) = true := by rcases hw with rfl | rfl <;> simp [wr]
    have ea : a' = ⟨e.blk, e.sh, none⟩ := by
      cases a'
      simp only [Nat.zero_add] at hb ho hsp
      subst hb; subst ho; subst hsp; rfl
    subst ea
    have := H W e.blk e.sh cap' cw tw fw hW hfw (fun i x hx => by
      obtain ⟨x', h1, h2⟩ := hcells i x hx
      have := h2.plain_eq (hp i x hx)
      subst this
      rw [Nat.add_comm]; exact h1)
    refine (callsIn_wide.2 this).mono ?_
    rintro e2 W' ⟨rfl, T⟩
    refine ⟨ι, undef, rfl, ⟨fun b eb o hb ho => ?_, fun b b' eb eb' o o' hb hb' ho ho' hwo hal hbe => ?_, fun b eb hb => Nat.lt_of_lt_of_le (S.dom b eb hb) T.size, Nat.le_trans S.lo T.size⟩, ?_, .of_plain rfl⟩
    · by_cases hbd : b = d
      · subst hbd
        rw [he] at hb; cases hb
        rw [turn_at hd] at ho; cases ho
        obtain ⟨cw', h1, h2, h3⟩ := T.at_ cw tw fw hW
        refine .inr ⟨cw', tw, fw, h1, fun i x hx => ⟨x, by rw [Nat.add_comm]; exact h3 i x hx, .of_plain (hp' i x hx)⟩, ?_, hfr, fun h => by rw [h2]; exact hg1 h, hg2⟩
        rcases hfz with h | h | h
        · exact .inl h
        · exact .inr (.inl h)
        · exact .inr (.inr ⟨h.1, by omega⟩)
      · rw [turn_ne hbd] at ho
        by_cases hal : alive o = true
        · have hne : eb.blk ≠ e.blk := fun h => hbd (S.inj d b e eb _ o he hb hd ho hwr hal h.symm).symm
          exact (S.obj b eb o hb ho).later (Ren.le.refl ι) (T.keep _ (S.dom b eb hb) hne)
        · have hO' := S.obj b eb o hb ho
          cases o with
          | cells c1 t1 fz1 =>
            rcases hO' with h | ⟨_, _, _, _, _, h, _⟩
            · exact .inl h
            · exfalso
              apply hal
              rcases h with rfl | rfl | ⟨h1, h2⟩
              · rfl
              · rfl
              · have : 0 < fz1.2 := by omega
                simp [alive, h1, this]
          | _ => simp [alive] at hal
    · have get : ∀ {k : Nat} {o : Obj}, (turn A d (.cells c' t fz)).heap[k]? = some o → ∃ o0, A.heap[k]? = some o0 ∧ (wr o = true → wr o0 = true) ∧ (alive o = true → alive o0 = true) := fun {k o} hk => by
        by_cases e : k = d
        · subst e
          rw [turn_at hd] at hk; cases hk
          exact ⟨_, hd, fun _ => hwr, fun _ => alive_of_wr hwr⟩
        · rw [turn_ne e] at hk
          exact ⟨o, hk, id, id⟩
      obtain ⟨o1, g1, g2, _⟩ := get ho
      obtain ⟨o2, g3, _, g4⟩ := get ho'
      exact S.inj b b' eb eb' o1 o2 hb hb' g1 g3 (g2 hwo) (g4 hal) hbe
    · have get : ∀ {k : Nat} {o : Obj}, (turn A d (.cells c' t fz)).heap[k]? = some o → wr o = true → ∃ o0, A.heap[k]? = some o0 ∧ wr o0 = true := fun {k o} hk hwo => by
        by_cases e : k = d
        · subst e; exact ⟨_, hd, hwr⟩
        · rw [turn_ne e] at hk; exact ⟨o, hk, hwo⟩
      exact { le := Ren.le.refl ι
              news := fun b e h h' => by rw [h] at h'; cases h'
              keep := fun b hb hn => T.keep b hb fun h => hn d e _ he hd hwr h.symm
              img := fun k eb o h h' hwo _ => by
                obtain ⟨o0, h1, h2⟩ := get h' hwo
                exact ⟨k, eb, o0, h, h1, h2, rfl⟩
              fresh := fun k e h h' => by rw [h] at h'; cases h'
              asz := Nat.le_of_eq turn_size.symm
              wsz := T.size
              os := T.os
              tape := T.tape
              output := T.output }
/-- A block of one's own, turned. -/
theorem Asn.turned {J : Asn} {F : Foot} {d : Nat} {c c' : Array Value} {t : TypeId} {fz : Nat × Nat} (hJ : Owns J) (h : ((blk d (.cells c t fz)).sep J) F A) (hf : fz = (0, 0) ∨ fz = (1, 0)) :
    ((blk d (.cells c' t fz)).sep J) F (turn A d (.cells c' t fz)) ∧ Step F A F (turn A d (.cells c' t fz)) := by
  obtain ⟨F1, F2, h1, h3, h4, h5⟩ := h
  have hb : F1 d := (h1.1 d).2 rfl
  have hro : RoKept A (turn A d (.cells c' t fz)) := fun k ⟨c0, t0, n, hc, hn⟩ => turn_ne fun e => by
    subst e; rw [h1.2] at hc; cases hc
    rcases hf with hf | hf <;> (cases hf <;> omega)
  exact ⟨⟨F1, F2, ⟨h1.1, turn_at h1.2⟩, hJ.loc h3 (fun k hk => turn_ne fun e => h4 d hb (e ▸ hk)) hro, h4, h5⟩, ⟨Nat.le_of_eq turn_size.symm, fun k _ hn => turn_ne fun e => hn ((h5 k).2 (.inl (e ▸ hb))), hro, fun k hk => .inl hk⟩⟩
end
end Go.Abs
