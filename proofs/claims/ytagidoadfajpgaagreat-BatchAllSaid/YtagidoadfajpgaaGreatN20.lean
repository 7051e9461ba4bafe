/-
  B19.
-/
import Derived.Test.YtagidoadfajpgaaGreatN11
import Derived.Laws.IdiomCopy
namespace Go.Abs
open Go.RowKit
section
variable {P : Program} {nO : Nat} {A W W' : World}
theorem w7 (b : Nat) : ∀ (vs : List Value) (o : Nat) (w : World) (cw : Array Value) (t : TypeId) (fz : Nat × Nat), w.heap[b]? = some (.cells cw t fz) -> (w.setCells b o vs).heap[b]? = some (.cells (a20 cw o vs) t fz)
 | [], _, _, _, _, _, h => h
 | v :: r, o, w, cw, t, fz, h => by
  rw [World.setCells, a20]
  refine w7 b r (o + 1) _ _ _ _ ?_
  simp only [World.setCell]
  rw [z7 h]
  simp
theorem F9 {b k : Nat} (hk : k ≠ b) : ∀ (vs : List Value) (o : Nat) (w : World), (w.setCells b o vs).heap[k]? = w.heap[k]?
 | [], _, _ => rfl
 | v :: r, o, w => by
  rw [World.setCells, F9 hk r]
  simp only [World.setCell]
  exact s9 hk
theorem d6 (b : Nat) : ∀ (vs : List Value) (o : Nat) (w : World), (w.setCells b o vs).heap.size = w.heap.size /\ (w.setCells b o vs).os = w.os /\ (w.setCells b o vs).tape = w.tape /\ (w.setCells b o vs).output = w.output
 | [], _, _ => ⟨rfl, rfl, rfl, rfl⟩
 | v :: r, o, w => by
  rw [World.setCells]
  obtain ⟨h1, h2, h3, h4⟩ := d6 b r (o + 1) (w.setCell ⟨b, o, none⟩ v)
  exact ⟨by rw [h1]; simp [World.setCell], h2, h3, h4⟩
structure Born (W W' : World) (cs : Array Value) (t : TypeId) : Prop where
 at_ : W'.heap[W.heap.size]? = some (.cells cs t (0, 0))
 keep : ∀ b, b < W.heap.size -> W'.heap[b]? = W.heap[b]?
 size : W.heap.size <= W'.heap.size
 os : W'.os = W.os
 tape : W'.tape = W.tape
 output : W'.output = W.output
theorem b4E {f : FuncId} {iv : Value} (hiv : r7 iv = true) {d qv n cap n' w : Nat} {c cv new : Array Value} {t tv : TypeId} (hd : A.heap[d]? = some (.cells c t (1, 0))) (hq : A.heap[qv]? = some (.cells cv tv (0, 0))) (hne : d ≠ qv) (hcap : 0 < cap) (hw : P.cellsOf t = w) (hw0 : 0 < w)
  (hc : c.size = cap * w) (hp : ∀ (i : Nat) x, c[i]? = some x -> r7 x = true) (hpv : ∀ (i : Nat) x, cv[i]? = some x -> r7 x = true) (hpn : ∀ (i : Nat) x, new[i]? = some x -> r7 x = true)
  (H : ∀ (W : World) (blk off cap' vb voff : Nat) (cw cvw : Array Value) (tw tvw : TypeId) (fw fv : Nat × Nat), W.heap[blk]? = some (.cells cw tw fw) -> ¬ fw.1 < fw.2 -> W.heap[vb]? = some (.cells cvw tvw fv) -> ¬ fv.1 < fv.2 -> vb ≠ blk -> (∀ (i : Nat) x, c[i]? = some x -> cw[off + i]? = some x) -> (∀ (i : Nat) x, cv[i]? = some x -> cvw[voff + i]? = some x) -> cap <= cap' -> off + cap' * w <= cw.size ->
   Calls P f #[.slice (some ⟨blk, off, none⟩) n cap', iv, .slice (some ⟨vb, voff, none⟩) 1 1] W fun e W' =>
    (n' <= cap' /\ e = .returned (.slice (some ⟨blk, off, none⟩) n' cap') /\ Turned W W' blk off new) ∨
    (∃ (N : Nat) (cs : Array Value), e = .returned (.slice (some ⟨W.heap.size, 0, none⟩) n' N) /\ Born W W' cs t /\ n' <= N /\ cs.size = N * w /\ ∀ (i : Nat) x, new[i]? = some x -> cs[i]? = some x)) :
  u9 P nO f #[.slice (some ⟨d, 0, none⟩) n cap, iv, .slice (some ⟨qv, 0, none⟩) 1 1] A (.slice (some ⟨A.heap.size, 0, none⟩) n' n') ((kill A d t).alloc (.cells new t (1, 0))) := by
 refine ⟨by simp, fun ι W xs' S hx hF => ?_⟩
 obtain ⟨y0, y1, y2, rfl⟩ : ∃ y0 y1 y2, xs' = #[y0, y1, y2] := by
  have hx0 : xs'.size = 3 := hx.1.symm
  refine ⟨xs'[0], xs'[1], xs'[2], Array.ext (by simp [hx0]) fun i h1 h2 => ?_⟩
  match i, h1, h2 with
  | 0, _, _ => rfl
  | 1, _, _ => rfl
  | 2, _, _ => rfl
  | i + 3, h1, _ => omega
 have e1 := (hx.2 1 _ y1 rfl rfl).plain_eq hiv
 subst e1
 have h0 := hx.2 0 _ y0 rfl rfl
 have h2 := hx.2 2 _ y2 rfl rfl
 have hfr : ι A.heap.size = none := hF.2 _ (Nat.le_refl _) (by simp)
 cases h0 with
 | slice h0 =>
 rename_i a' cap'
 cases h2 with
 | slice h2 =>
 rename_i b' capv
 rcases h0 with ⟨⟨_, hsp, e, he, hb, ho⟩, hcc⟩ | ⟨_, h00, _⟩
 case inr => omega
 rcases h2 with ⟨⟨_, hspv, ev, hev, hbv, hov⟩, hccv⟩ | ⟨h00, _⟩
 case inr => omega
 simp only [Nat.zero_add] at hb ho hsp hbv hov hspv he hev hcc hccv
 have hnfd : ¬ ((1, 0) : Nat × Nat).1 < ((1, 0) : Nat × Nat).2 := by simp
 obtain ⟨cw, tw, fw, hW, hcells, _, hfr1, hg1, _⟩ := (S.obj d e _ he hd).resolve_left (fun h => by simp at h)
 obtain ⟨cvw, tvw, fv, hWv, hcellsv, _, hfr2, _, hg2⟩ := (S.obj qv ev _ hev hq).resolve_left (fun h => by simp at h)
 obtain ⟨hn0, hfw⟩ := hfr1 (by simp)
 obtain ⟨_, hfv⟩ := hfr2 (by simp)
 have hgr := hg1 rfl
 have hgv := hg2 (by simp)
 have ea : a' = ⟨e.blk, e.sh, none⟩ := by
  cases a'; simp only at hb ho hsp; subst hb; subst ho; subst hsp; rfl
 have eb : b' = ⟨ev.blk, ev.sh, none⟩ := by
  cases b'; simp only at hbv hov hspv; subst hbv; subst hov; subst hspv; rfl
 subst ea; subst eb
 have hcv : capv = 1 := by
  rcases hccv with h | ⟨e', t', N, h1, h2, _⟩
  ·exact h.symm
  ·rw [hev] at h1; cases h1; rw [hgv] at h2; cases h2
 subst hcv
 have hwr : wr (.cells c t (1, 0)) = true := rfl
 have hdq : ev.blk ≠ e.blk := fun h => hne (S.inj d qv e ev _ _ he hev hd hq hwr rfl h.symm)
 have hlt : e.blk < W.heap.size := S.dom _ _ he
 have hltA : d < A.heap.size := (Array.getElem?_eq_some_iff.1 hd).1
 have hin : ∀ (i : Nat) x, c[i]? = some x -> cw[e.sh + i]? = some x := fun i x hx => by
  obtain ⟨x', h1, h2⟩ := hcells i x hx
  have := h2.plain_eq (hp i x hx)
  subst this
  rw [Nat.add_comm]; exact h1
 have hinv : ∀ (i : Nat) x, cv[i]? = some x -> cvw[ev.sh + i]? = some x := fun i x hx => by
  obtain ⟨x', h1, h2⟩ := hcellsv i x hx
  have := h2.plain_eq (hpv i x hx)
  subst this
  rw [Nat.add_comm]; exact h1
 have hcapr : cap <= cap' /\ e.sh + cap' * w <= cw.size := by
  rcases hcc with rfl | ⟨e', t', N, h1, h2, h3, h4⟩
  ·refine ⟨Nat.le_refl _, ?_⟩
   have hpos : 0 < c.size := by rw [hc]; exact Nat.mul_pos hcap hw0
   have := (Array.getElem?_eq_some_iff.1 (hin (c.size - 1) _ (Array.getElem?_eq_getElem (by omega)))).1
   omega
  ·rw [he] at h1; cases h1
   rw [hgr] at h2; cases h2
   rw [hw] at h4
   exact ⟨h3, h4⟩
 have hcall := H W e.blk e.sh cap' ev.blk ev.sh cw cvw tw tvw fw fv hW hfw hWv hfv hdq hin hinv hcapr.1 hcapr.2
 refine (callsIn_wide.2 hcall).mono ?_
 have fin : ∀ (W' : World) (e' : Ent) (N : Nat) (cs : Array Value) (ts : TypeId) (fs : Nat × Nat) (c2 : Nat), W.heap.size <= W'.heap.size -> W'.os = W.os -> W'.tape = W.tape -> W'.output = W.output ->
   (∀ k, k < W.heap.size -> k ≠ e.blk -> W'.heap[k]? = W.heap[k]?) -> (e'.blk = e.blk ∨ W.heap.size <= e'.blk) -> W'.heap[e'.blk]? = some (.cells cs ts fs) -> ¬ fs.1 < fs.2 -> e'.gr = some (t, cs.size) -> nO <= e'.blk ->
   (∀ (i : Nat) x, new[i]? = some x -> cs[e'.sh + i]? = some x) -> n' <= c2 -> e'.sh + c2 * w <= cs.size ->
   b09 P nO ι A W (.slice (some ⟨A.heap.size, 0, none⟩) n' n') ((kill A d t).alloc (.cells new t (1, 0))) (.returned (.slice (some ⟨e'.blk, e'.sh, none⟩) n' c2)) W' := by
  intro W' e' N cs ts fs c2 hsz hos htp hout hkeep hwh hat hnf hg hlo hnew hle hroom
  have hks : (kill A d t).heap.size = A.heap.size := by simp
  have hleR : ι.le (ι.put A.heap.size e') := Ren.le_put _ hfr
  have hdom' : e'.blk < W'.heap.size := (Array.getElem?_eq_some_iff.1 hat).1
  have hold : ∀ k ek o, ι k = some ek -> A.heap[k]? = some o -> alive o = true -> k ≠ d -> ek.blk ≠ e.blk := fun k ek o hk ho hal hkd h => hkd (S.inj d k e ek _ o he hk hd ho hwr hal h.symm).symm
  have hold' : ∀ k ek o, ι k = some ek -> A.heap[k]? = some o -> alive o = true -> k ≠ d -> ek.blk ≠ e'.blk := fun k ek o hk ho hal hkd h => by
   rcases hwh with h1 | h1
   ·exact hold k ek o hk ho hal hkd (h.trans h1)
   ·have := S.dom k ek hk; omega
  refine ⟨ι.put A.heap.size e', _, rfl, ⟨?_, ?_, ?_, ?_⟩, ?_, ?_⟩
  ·intro k x o hk ho'
   rcases c9 ho' with ⟨hlt1, h'⟩ | ⟨rfl, rfl⟩
   ·rw [hks] at hlt1
    rw [Ren.put_ne _ _ (by omega)] at hk
    rcases j8 h' with ⟨hkd, h''⟩ | ⟨rfl, rfl⟩
    ·by_cases hal : alive o = true
     ·exact (S.obj k x o hk h'').later hleR (hkeep _ (S.dom k x hk) (hold k x o hk h'' hal hkd))
     ·have R := S.obj k x o hk h''
      cases o <;> simp [alive] at hal
      rcases R with h0 | ⟨_, _, _, _, _, g3, _⟩
      ·exact .inl h0
      ·rcases g3 with rfl | rfl | g3
       ·simp at hal
       ·simp at hal
       ·omega
    ·exact .inl ⟨rfl, rfl⟩
   ·rw [hks, Ren.put_self] at hk; cases hk
    refine .inr ⟨cs, ts, fs, hat, fun i x hx => ⟨x, by rw [Nat.add_comm]; exact hnew i x hx, .of_plain (hpn i x hx)⟩, .inr (.inl rfl), fun _ => ⟨hlo, hnf⟩, fun _ => hg, fun h => absurd rfl h⟩
  ·intro k k' x x' o o' hk hk' ho1 ho2 hwo hal hbk
   rcases c9 ho1 with ⟨hlt1, h1'⟩ | ⟨rfl, rfl⟩ <;> rcases c9 ho2 with ⟨hlt2, h2'⟩ | ⟨rfl, rfl⟩
   ·rw [hks] at hlt1 hlt2
    rw [Ren.put_ne _ _ (by omega)] at hk hk'
    rcases j8 h1' with ⟨_, h''⟩ | ⟨rfl, rfl⟩
    ·rcases j8 h2' with ⟨_, h'''⟩ | ⟨rfl, rfl⟩
     ·exact S.inj k k' x x' o o' hk hk' h'' h''' hwo hal hbk
     ·simp [alive] at hal
    ·simp [wr] at hwo
   ·rw [hks] at hlt1
    rw [Ren.put_ne _ _ (by omega)] at hk
    rw [hks, Ren.put_self] at hk'; cases hk'
    rcases j8 h1' with ⟨hkd, h''⟩ | ⟨rfl, rfl⟩
    ·exact absurd hbk (hold' k x o hk h'' (G5 hwo) hkd)
    ·simp [wr] at hwo
   ·rw [hks] at hlt2
    rw [Ren.put_ne _ _ (by omega)] at hk'
    rw [hks, Ren.put_self] at hk; cases hk
    rcases j8 h2' with ⟨hkd, h''⟩ | ⟨rfl, rfl⟩
    ·exact absurd hbk.symm (hold' k' x' o' hk' h'' hal hkd)
    ·simp [alive] at hal
   ·rfl
  ·intro k x hk
   by_cases hkk : k = A.heap.size
   ·subst hkk; rw [Ren.put_self] at hk; cases hk; exact hdom'
   ·rw [Ren.put_ne _ _ hkk] at hk; have := S.dom k x hk; omega
  ·exact Nat.le_trans S.lo hsz
  ·refine ⟨hleR, ?_, ?_, ?_, ?_, by simp, hsz, hos, htp, hout⟩
   ·intro k x hk hx'
    by_cases hkk : k = A.heap.size
    ·subst hkk; simp
    ·rw [Ren.put_ne _ _ hkk, hk] at hx'; cases hx'
   ·intro k hk hn
    exact hkeep k hk fun h => hn d e _ he hd hwr h.symm
   ·intro k x o hk ho1 hwo hbl
    rcases c9 ho1 with ⟨hlt1, h1'⟩ | ⟨rfl, rfl⟩
    ·rw [hks] at hlt1
     rw [Ren.put_ne _ _ (by omega)] at hk
     rcases j8 h1' with ⟨_, h''⟩ | ⟨rfl, rfl⟩
     ·exact ⟨k, x, o, hk, h'', hwo, rfl⟩
     ·simp [wr] at hwo
    ·rw [hks, Ren.put_self] at hk; cases hk
     rcases hwh with h1 | h1
     ·exact ⟨d, e, _, he, hd, hwr, h1.symm⟩
     ·omega
   ·intro k x hk hx'
    by_cases hkk : k = A.heap.size
    ·subst hkk; rw [Ren.put_self] at hx'; cases hx'
     rcases hwh with h1 | h1
     ·exact .inr ⟨d, e, _, he, hd, hwr, h1.symm⟩
     ·exact .inl h1
    ·rw [Ren.put_ne _ _ hkk, hk] at hx'; cases hx'
  ·refine .slice (.inl ⟨⟨rfl, rfl, _, Ren.put_self _ _ _, rfl, by simp⟩, .inr ⟨_, t, cs.size, Ren.put_self _ _ _, hg, hle, ?_⟩⟩)
   rw [hw]; exact hroom
 rintro e2 W' (⟨hle, rfl, T⟩ | ⟨N, cs, rfl, B, hle, hN, hnew⟩)
 ·obtain ⟨cw', h1, h2, h3⟩ := T.at_ cw tw fw hW
  exact fin W' ⟨e.blk, e.sh, some (t, cw'.size)⟩ 0 cw' tw fw cap' T.size T.os T.tape T.output T.keep (.inl rfl) h1 hfw rfl hn0 h3 hle (by rw [h2]; exact hcapr.2)
 ·exact fin W' ⟨W.heap.size, 0, some (t, cs.size)⟩ 0 cs t (0, 0) N B.size B.os B.tape B.output (fun k hk _ => B.keep k hk) (.inr (Nat.le_refl _)) B.at_ (by simp) rfl S.lo (fun i x hx => by rw [Nat.zero_add]; exact hnew i x hx) hle (Nat.le_of_eq (by rw [hN]; exact Nat.zero_add _))
end
end Go.Abs
