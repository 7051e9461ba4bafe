/-
  Or, And, Not, Without, Eq, told by who is in. No condition.
-/
import Derived.Test.YtfkdkfleaiaoiaaM9
import Derived.Test.YtfkdkfleaiaoiaaM4
namespace Go.Proofs.Ytfkdkfleaiaoiaa
open Go.Abs
variable {n₀ : Nat}
set_option maxRecDepth 8000
/-- A number that may stand in a set. -/
def inR (i : Int) : Bool := decide (0 ≤ i) && decide (i < 65536)
theorem wf_short {m : List Sp} (h : WF (-1) m) : m.length ≤ 32768 := by
  have := wf_len h (by decide)
  omega
theorem wf_begin {m : List Sp} (h : WF (-1) m) : ∀ s ∈ m, 0 ≤ s.1 ∧ s.1 ≤ 65536 := fun s hs => by
  have := wf_mem h s hs
  omega
theorem has_range {m : List Sp} (h : WF (-1) m) {i : Int} (hi : has m i = true) : inR i = true := by
  obtain ⟨s, hs, h1, h2⟩ := has_mem.1 hi
  have := wf_mem h s hs
  unfold inR
  simp; omega
theorem or_is {va vb : Value} {a b : List Sp} {J : Asn} {F : Foot} {A : World} (hJ : Owns J) (ha : WF (-1) a) (hb : WF (-1) b) (h : Asn.all [spans va a, spans vb b, J] F A) :
    ∃ v r A' F', WF (-1) r ∧ (∀ i, has r i = (has a i || has b i)) ∧ SndCall Try.prog n₀ 23 #[.agg #[va], .agg #[vb]] A (.agg #[v]) A' ∧ Asn.all [spans v r, spans va a, spans vb b, J] F' A' ∧ Step F A F' A' := by
  have la := wf_short ha
  have lb := wf_short hb
  obtain ⟨v, L, A', F', hp, hs, h1, h2, h3⟩ := or_call (n₀ := n₀) hJ (by omega) (wf_begin ha) (wf_begin hb) h
  obtain ⟨g1, g2⟩ := addL_is (l := L) (fun s hs => by
    rcases List.mem_append.1 (hp.mem_iff.1 hs) with hs | hs
    · have := wf_mem ha s hs; omega
    · have := wf_mem hb s hs; omega) hs
  exact ⟨v, addL L, A', F', g1, fun i => by rw [g2, has_perm hp, has_append], h1, h2, h3⟩
theorem both_is {va vb : Value} {a b : List Sp} {J : Asn} {F : Foot} {A : World} (hJ : Owns J) (ha : WF (-1) a) (hb : WF (-1) b) (h : Asn.all [spans va a, spans vb b, J] F A) :
    ∃ v r A' F', WF (-1) r ∧ (∀ i, has r i = (has a i && has b i)) ∧ SndCall Try.prog n₀ 22 #[.agg #[va], .agg #[vb]] A (.agg #[v]) A' ∧ Asn.all [spans v r, spans va a, spans vb b, J] F' A' ∧ Step F A F' A' := by
  have la := wf_short ha
  have lb := wf_short hb
  obtain ⟨v, A', F', h1, h2, h3⟩ := and_call (n₀ := n₀) hJ (by omega) h
  obtain ⟨g1, g2⟩ := and_is ha hb
  exact ⟨v, _, A', F', g1, g2, h1, h2, h3⟩
theorem neg_is {va : Value} {a : List Sp} {J : Asn} {F : Foot} {A : World} (hJ : Owns J) (ha : WF (-1) a) (n : Int) (h : Asn.all [spans va a, J] F A) :
    ∃ v r A' F', WF (-1) r ∧ (∀ i, has r i = (inR i && decide (i < n) && !has a i)) ∧ SndCall Try.prog n₀ 26 #[.agg #[va], .int .i64 n] A (.agg #[v]) A' ∧ Asn.all [spans v r, spans va a, J] F' A' ∧ Step F A F' A' := by
  have la := wf_short ha
  obtain ⟨v, A', F', h1, h2, h3⟩ := not_call (n₀ := n₀) (n0 := n) hJ (by omega) h
  obtain ⟨g1, g2⟩ := not_is (n0 := n) ha
  refine ⟨v, _, A', F', g1, fun i => ?_, h1, h2, h3⟩
  rw [g2]
  congr 1
  unfold inR
  rw [Bool.eq_iff_iff]
  simp
  split <;> omega
theorem out_is {va vb : Value} {a b : List Sp} {J : Asn} {F : Foot} {A : World} (hJ : Owns J) (ha : WF (-1) a) (hb : WF (-1) b) (h : Asn.all [spans va a, spans vb b, J] F A) :
    ∃ v r A' F', WF (-1) r ∧ (∀ i, has r i = (has a i && !has b i)) ∧ SndCall Try.prog n₀ 24 #[.agg #[va], .agg #[vb]] A (.agg #[v]) A' ∧ Asn.all [spans v r, spans va a, spans vb b, J] F' A' ∧ Step F A F' A' := by
  have la := wf_short ha
  have lb := wf_short hb
  obtain ⟨g1, g2⟩ := not_is (n0 := 65536) hb
  have ln := wf_short g1
  obtain ⟨v, A', F', h1, h2, h3⟩ := without_call (n₀ := n₀) hJ (by omega) (by omega) h
  obtain ⟨k1, k2⟩ := and_is ha g1
  refine ⟨v, _, A', F', k1, fun i => ?_, h1, h2, h3⟩
  rw [k2, g2]
  cases hh : has a i
  · rfl
  · have := has_range ha hh
    unfold inR at this
    rw [if_neg (by decide), this]; rfl
theorem same_is {va vb : Value} {a b : List Sp} {J : Asn} {F : Foot} {A : World} (hJ : Owns J) (ha : WF (-1) a) (hb : WF (-1) b) (h : Asn.all [spans va a, spans vb b, J] F A) :
    ∃ A' F', SndCall Try.prog n₀ 25 #[.agg #[va], .agg #[vb]] A (.bool (decide (a = b))) A' ∧ Asn.all [spans va a, spans vb b, J] F' A' ∧ Step F A F' A' := by
  have la := wf_short ha
  have lb := wf_short hb
  exact eq_call hJ (by omega) h
theorem many_is {va : Value} {a : List Sp} {J : Asn} {F : Foot} {A : World} (hJ : Owns J) (ha : WF (-1) a) (h : Asn.all [spans va a, J] F A) :
    ∃ A' F', SndCall Try.prog n₀ 28 #[.agg #[va]] A (.int .i64 (count a)) A' ∧ Asn.all [spans va a, J] F' A' ∧ Step F A F' A' := by
  have la := wf_short ha
  exact count_call hJ ha (by omega) h
theorem count_fits {m : List Sp} (h : WF (-1) m) : 0 ≤ count m ∧ count m ≤ 65537 :=
  ⟨rank_nonneg h, rank_le h (by decide)⟩
/-- A set's one cell. -/
theorem spans_one {v : Value} {m : List Sp} {J : Asn} {F : Foot} {A : World} (h : ((spans v m).sep J) F A) : isOne v = true := by
  obtain ⟨_, hk⟩ := Asn.left h
  obtain ⟨_, rfl⟩ := spans_val hk
  rfl
/-- What is read stays. -/
theorem rd_kept {F F' : Foot} {A A' : World} {p : Option Addr} {l : List Int} (S : Step F A F' A') (hro : ∀ ad, p = some ad → RoB A ad.block) (hr : Rd A p l) : Rd A' p l := fun i x hx => by
  obtain ⟨ad, e, hc⟩ := hr i x hx
  refine ⟨ad, e, (cell_eq (A := A) (A' := A') ?_).trans hc⟩
  rw [add_block]
  exact S.ro _ (hro ad e)
theorem run_alloc1 {w : World} {ρ : Operand → Value} : RegOk Try.prog w ρ (.alloc 27) ∧ ∀ o : Oper, o.op = .alloc 27 → (execOp ρ o).run Try.prog w = .ok (.value (ptr w.heap.size)) (w.alloc (.cells #[.slice none 0 0] 27 (0, 0))) := by
  refine ⟨trivial, fun o h => ?_⟩
  rcases aop_allocT (P := Try.prog) (A := w) (ρ := ρ) (cs := #[.slice none 0 0]) h rfl rfl rfl with ⟨_, _, e, _⟩ | ⟨_, h⟩ | ⟨c, _, hc, _⟩ | ⟨c, _, _, _, _, _, _, hc, _⟩ | ⟨c, _, _, _, _, _, hc, _⟩
  · exfalso
    have := congrArg (fun w => w.heap.size) e
    simp at this
  · exact h
  · rw [h] at hc; cases hc
  · rw [h] at hc; cases hc
  · rw [h] at hc; cases hc
/-- A list, cut and laid out as a set. -/
theorem cut_of {p : Option Addr} {l : List Int} {c : Nat} {J : Asn} {F : Foot} {A : World} (hJ : Owns J) (h : J F A) (hc : l.length ≤ c) (hp : p = none → l = [] ∧ c = 0) (hr : Rd A p l) (hro : ∀ ad, p = some ad → RoB A ad.block) :
    SndCall Try.prog n₀ 10 #[.slice p l.length c] A (.slice p (l.take 60).length c) A ∧ ∃ v m A' F', WF (-1) m ∧ m = ofL (sorted (l.take 60)) ∧ SndCall Try.prog n₀ 11 #[.slice p (l.take 60).length c] A (.agg #[v]) A' ∧ ((spans v m).sep J) F' A' ∧ Step F A F' A' := by
  have hlen : (l.take 60).length = min l.length 60 := by rw [List.length_take, Nat.min_comm]
  refine ⟨by rw [hlen]; exact cut_call hc hro, ?_⟩
  have hr0 : Rd A p (l.take 60) := fun j x hx => hr j x (by
    rw [List.getElem?_take] at hx
    split at hx
    · exact hx
    · cases hx)
  obtain ⟨v, A1, F1, c1, h1, S1⟩ := of_call (n₀ := n₀) (c := c) (l := l.take 60) hJ h (fun e => ⟨by rw [(hp e).1]; rfl, (hp e).2⟩) hr0 hro (by omega)
  exact ⟨v, _, A1, F1, wf_of _, rfl, c1, h1, S1⟩
end Go.Proofs.Ytfkdkfleaiaoiaa
/-
  asterismlaw7.BitmapLaws answers true. No condition.
-/
namespace Go.Proofs.Ytfkdkfleaiaoiaa
open Go.Abs
variable {n₀ : Nat}
set_option maxRecDepth 8000
theorem all4 {R : Nat → Prop} {p0 p1 p2 p3 : Nat} (h0 : R p0) (h1 : R p1) (h2 : R p2) (h3 : R p3) : ∀ q ∈ [p0, p1, p2, p3], R q := fun q hq => by
  rcases List.mem_cons.1 hq with rfl | hq
  · exact h0
  · exact all3 h1 h2 h3 q hq
theorem all5 {R : Nat → Prop} {p0 p1 p2 p3 p4 : Nat} (h0 : R p0) (h1 : R p1) (h2 : R p2) (h3 : R p3) (h4 : R p4) : ∀ q ∈ [p0, p1, p2, p3, p4], R q := fun q hq => by
  rcases List.mem_cons.1 hq with rfl | hq
  · exact h0
  · exact all4 h1 h2 h3 h4 q hq
theorem all6 {R : Nat → Prop} {p0 p1 p2 p3 p4 p5 : Nat} (h0 : R p0) (h1 : R p1) (h2 : R p2) (h3 : R p3) (h4 : R p4) (h5 : R p5) : ∀ q ∈ [p0, p1, p2, p3, p4, p5], R q := fun q hq => by
  rcases List.mem_cons.1 hq with rfl | hq
  · exact h0
  · exact all5 h1 h2 h3 h4 h5 q hq
theorem all7 {R : Nat → Prop} {p0 p1 p2 p3 p4 p5 p6 : Nat} (h0 : R p0) (h1 : R p1) (h2 : R p2) (h3 : R p3) (h4 : R p4) (h5 : R p5) (h6 : R p6) : ∀ q ∈ [p0, p1, p2, p3, p4, p5, p6], R q := fun q hq => by
  rcases List.mem_cons.1 hq with rfl | hq
  · exact h0
  · exact all6 h1 h2 h3 h4 h5 h6 q hq
theorem all8 {R : Nat → Prop} {p0 p1 p2 p3 p4 p5 p6 p7 : Nat} (h0 : R p0) (h1 : R p1) (h2 : R p2) (h3 : R p3) (h4 : R p4) (h5 : R p5) (h6 : R p6) (h7 : R p7) : ∀ q ∈ [p0, p1, p2, p3, p4, p5, p6, p7], R q := fun q hq => by
  rcases List.mem_cons.1 hq with rfl | hq
  · exact h0
  · exact all7 h1 h2 h3 h4 h5 h6 h7 q hq
theorem all9 {R : Nat → Prop} {p0 p1 p2 p3 p4 p5 p6 p7 p8 : Nat} (h0 : R p0) (h1 : R p1) (h2 : R p2) (h3 : R p3) (h4 : R p4) (h5 : R p5) (h6 : R p6) (h7 : R p7) (h8 : R p8) : ∀ q ∈ [p0, p1, p2, p3, p4, p5, p6, p7, p8], R q := fun q hq => by
  rcases List.mem_cons.1 hq with rfl | hq
  · exact h0
  · exact all8 h1 h2 h3 h4 h5 h6 h7 h8 q hq
theorem all10 {R : Nat → Prop} {p0 p1 p2 p3 p4 p5 p6 p7 p8 p9 : Nat} (h0 : R p0) (h1 : R p1) (h2 : R p2) (h3 : R p3) (h4 : R p4) (h5 : R p5) (h6 : R p6) (h7 : R p7) (h8 : R p8) (h9 : R p9) : ∀ q ∈ [p0, p1, p2, p3, p4, p5, p6, p7, p8, p9], R q := fun q hq => by
  rcases List.mem_cons.1 hq with rfl | hq
  · exact h0
  · exact all9 h1 h2 h3 h4 h5 h6 h7 h8 h9 q hq
theorem all11 {R : Nat → Prop} {p0 p1 p2 p3 p4 p5 p6 p7 p8 p9 p10 : Nat} (h0 : R p0) (h1 : R p1) (h2 : R p2) (h3 : R p3) (h4 : R p4) (h5 : R p5) (h6 : R p6) (h7 : R p7) (h8 : R p8) (h9 : R p9) (h10 : R p10) : ∀ q ∈ [p0, p1, p2, p3, p4, p5, p6, p7, p8, p9, p10], R q := fun q hq => by
  rcases List.mem_cons.1 hq with rfl | hq
  · exact h0
  · exact all10 h1 h2 h3 h4 h5 h6 h7 h8 h9 h10 q hq
theorem run_store1 {n₀ : Nat} {t : TypeId} {x y : Operand} {p : Addr} {u v : Value} {o : Oper} {a : Act} {A A1 : World} (h : o.op = .store t x y) (hx : a.eval x = .pointer (some p)) (hy : a.eval y = .agg #[v]) (h1 : tyOf Try.prog t 1 true = true) (hv : isOne v = true) (hc : A.cell? p = some u) (hz : A.frozen? p = false) (he : A.setCell p v = A1) : RunOp Try.prog (Wd Try.prog n₀) o a A undef A1 := by
  subst he
  exact ⟨_, _, aop_storeT1 h hx hy h1 hv hc hz, rfl, rfl⟩
set_option maxHeartbeats 32000000 in
theorem laws_law {p1 : Option Addr} {l1 : List Int} {c1 : Nat} {p2 : Option Addr} {l2 : List Int} {c2 : Nat} {p3 : Option Addr} {l3 : List Int} {c3 : Nat} {A : World} (hc1 : l1.length ≤ c1) (hp1 : p1 = none → l1 = [] ∧ c1 = 0) (hr1 : Rd A p1 l1) (hro1 : ∀ ad, p1 = some ad → RoB A ad.block) (hc2 : l2.length ≤ c2) (hp2 : p2 = none → l2 = [] ∧ c2 = 0) (hr2 : Rd A p2 l2) (hro2 : ∀ ad, p2 = some ad → RoB A ad.block) (hc3 : l3.length ≤ c3) (hp3 : p3 = none → l3 = [] ∧ c3 = 0) (hr3 : Rd A p3 l3) (hro3 : ∀ ad, p3 = some ad → RoB A ad.block) :
    ∃ A', SndCall Try.prog n₀ 6 #[.slice p1 l1.length c1, .slice p2 l2.length c2, .slice p3 l3.length c3] A (.bool true) A' := by
  obtain ⟨cc1, x1, mx, A1, F1, wx, _, co1, h1, S1⟩ := cut_of (n₀ := n₀) (J := Asn.nil) (F := fun _ => False) Owns.nil (fun _ h => h) hc1 hp1 hr1 hro1
  obtain ⟨cc2, x2, my, A2, F2, wy, _, co2, h2, S2⟩ := cut_of (n₀ := n₀) (Owns.sep Owns.spans Owns.nil) h1 hc2 hp2 (rd_kept S1 hro2 hr2) (fun ad e => (hro2 ad e).kept S1.ro)
  have S12 := S1.trans S2
  obtain ⟨cc3, x3, mz, A3, F3, wz, _, co3, h3, S3⟩ := cut_of (n₀ := n₀) (Owns.sep Owns.spans (Owns.sep Owns.spans Owns.nil)) h2 hc3 hp3 (rd_kept S12 hro3 hr3) (fun ad e => (hro3 ad e).kept S12.ro)
  have hh11 := Asn.perm [spans x3 mz, spans x2 my, spans x1 mx, Asn.nil] [2, 0, 1, 3] h3 (by decide)
  have o12 := spans_one hh11
  have hh13 := Asn.perm [spans x1 mx, spans x3 mz, spans x2 my, Asn.nil] [2, 0, 1, 3] hh11 (by decide)
  have o14 := spans_one hh13
  have hh15 := Asn.perm [spans x2 my, spans x1 mx, spans x3 mz, Asn.nil] [2, 0, 1, 3] hh13 (by decide)
  have o16 := spans_one hh15
  obtain ⟨F17, hh17, _⟩ := Asn.new (Owns.sep Owns.spans (Owns.sep Owns.spans (Owns.sep Owns.spans Owns.nil))) hh15 (.slice none 0 0) 27
  have al17 : (A3.alloc (.cells #[.slice none 0 0] 27 (0, 0))).heap[A3.heap.size]? = some (.cells #[.slice none 0 0] 27 (0, 0)) := alloc_at
  generalize hq8 : A3.heap.size = q8 at hh17 al17
  generalize hA17 : A3.alloc (.cells #[.slice none 0 0] 27 (0, 0)) = A17 at hh17 al17
  obtain ⟨F18, hh18, _⟩ := Asn.new (Owns.sep Owns.cel (Owns.sep Owns.spans (Owns.sep Owns.spans (Owns.sep Owns.spans Owns.nil)))) hh17 (.slice none 0 0) 27
  have al18 : (A17.alloc (.cells #[.slice none 0 0] 27 (0, 0))).heap[A17.heap.size]? = some (.cells #[.slice none 0 0] 27 (0, 0)) := alloc_at
  generalize hq9 : A17.heap.size = q9 at hh18 al18
  generalize hA18 : A17.alloc (.cells #[.slice none 0 0] 27 (0, 0)) = A18 at hh18 al18
  obtain ⟨F19, hh19, _⟩ := Asn.new (Owns.sep Owns.cel (Owns.sep Owns.cel (Owns.sep Owns.spans (Owns.sep Owns.spans (Owns.sep Owns.spans Owns.nil))))) hh18 (.slice none 0 0) 27
  have al19 : (A18.alloc (.cells #[.slice none 0 0] 27 (0, 0))).heap[A18.heap.size]? = some (.cells #[.slice none 0 0] 27 (0, 0)) := alloc_at
  generalize hq10 : A18.heap.size = q10 at hh19 al19
  generalize hA19 : A18.alloc (.cells #[.slice none 0 0] 27 (0, 0)) = A19 at hh19 al19
  have hh20 := Asn.perm [cel q10 (.slice none 0 0), cel q9 (.slice none 0 0), cel q8 (.slice none 0 0), spans x3 mz, spans x2 my, spans x1 mx, Asn.nil] [2, 0, 1, 3, 4, 5, 6] hh19 (by decide)
  obtain ⟨hh21, _⟩ := Asn.put (Owns.sep Owns.cel (Owns.sep Owns.cel (Owns.sep Owns.spans (Owns.sep Owns.spans (Owns.sep Owns.spans Owns.nil))))) hh20 x1
  generalize hA21 : A19.setCell ⟨q8, 0, none⟩ x1 = A21 at hh21
  have hh22 := Asn.perm [cel q8 x1, cel q10 (.slice none 0 0), cel q9 (.slice none 0 0), spans x3 mz, spans x2 my, spans x1 mx, Asn.nil] [2, 0, 1, 3, 4, 5, 6] hh21 (by decide)
  obtain ⟨hh23, _⟩ := Asn.put (Owns.sep Owns.cel (Owns.sep Owns.cel (Owns.sep Owns.spans (Owns.sep Owns.spans (Owns.sep Owns.spans Owns.nil))))) hh22 x2
  generalize hA23 : A21.setCell ⟨q9, 0, none⟩ x2 = A23 at hh23
  have hh24 := Asn.perm [cel q9 x2, cel q8 x1, cel q10 (.slice none 0 0), spans x3 mz, spans x2 my, spans x1 mx, Asn.nil] [2, 0, 1, 3, 4, 5, 6] hh23 (by decide)
  obtain ⟨hh25, _⟩ := Asn.put (Owns.sep Owns.cel (Owns.sep Owns.cel (Owns.sep Owns.spans (Owns.sep Owns.spans (Owns.sep Owns.spans Owns.nil))))) hh24 x3
  generalize hA25 : A23.setCell ⟨q10, 0, none⟩ x3 = A25 at hh25
  have hh26 := Asn.perm [cel q10 x3, cel q9 x2, cel q8 x1, spans x3 mz, spans x2 my, spans x1 mx, Asn.nil] [2, 0, 1, 3, 4, 5, 6] hh25 (by decide)
  obtain ⟨u27, hb27⟩ := cel_at hh26
  have hh28 := Asn.perm [cel q8 x1, cel q10 x3, cel q9 x2, spans x3 mz, spans x2 my, spans x1 mx, Asn.nil] [2, 0, 1, 3, 4, 5, 6] hh26 (by decide)
  obtain ⟨u29, hb29⟩ := cel_at hh28
  have hh30 := Asn.perm [cel q9 x2, cel q8 x1, cel q10 x3, spans x3 mz, spans x2 my, spans x1 mx, Asn.nil] [5, 4, 0, 1, 2, 3, 6] hh28 (by decide)
  obtain ⟨v31, m31, A31, F31, w31, e31, c31, hh31, _⟩ := or_is (n₀ := n₀) (J := Asn.all [cel q9 x2, cel q8 x1, cel q10 x3, spans x3 mz, Asn.nil]) (Owns.sep Owns.cel (Owns.sep Owns.cel (Owns.sep Owns.cel (Owns.sep Owns.spans Owns.nil)))) wx wy hh30
  obtain ⟨v33, m33, A33, F33, w33, e33, c33, hh33, _⟩ := neg_is (n₀ := n₀) (J := Asn.all [spans x1 mx, spans x2 my, cel q9 x2, cel q8 x1, cel q10 x3, spans x3 mz, Asn.nil]) (Owns.sep Owns.spans (Owns.sep Owns.spans (Owns.sep Owns.cel (Owns.sep Owns.cel (Owns.sep Owns.cel (Owns.sep Owns.spans Owns.nil)))))) w31 65536 hh31
  obtain ⟨F34, hh34, _⟩ := Asn.new (Owns.sep Owns.spans (Owns.sep Owns.spans (Owns.sep Owns.spans (Owns.sep Owns.spans (Owns.sep Owns.cel (Owns.sep Owns.cel (Owns.sep Owns.cel (Owns.sep Owns.spans Owns.nil)))))))) hh33 (.slice none 0 0) 27
  have al34 : (A33.alloc (.cells #[.slice none 0 0] 27 (0, 0))).heap[A33.heap.size]? = some (.cells #[.slice none 0 0] 27 (0, 0)) := alloc_at
  generalize hq12 : A33.heap.size = q12 at hh34 al34
  generalize hA34 : A33.alloc (.cells #[.slice none 0 0] 27 (0, 0)) = A34 at hh34 al34
  have hh35 := Asn.perm [cel q12 (.slice none 0 0), spans v33 m33, spans v31 m31, spans x1 mx, spans x2 my, cel q9 x2, cel q8 x1, cel q10 x3, spans x3 mz, Asn.nil] [1, 0, 2, 3, 4, 5, 6, 7, 8, 9] hh34 (by decide)
  have o36 := spans_one hh35
  have hh37 := Asn.perm [spans v33 m33, cel q12 (.slice none 0 0), spans v31 m31, spans x1 mx, spans x2 my, cel q9 x2, cel q8 x1, cel q10 x3, spans x3 mz, Asn.nil] [1, 0, 2, 3, 4, 5, 6, 7, 8, 9] hh35 (by decide)
  obtain ⟨hh38, _⟩ := Asn.put (Owns.sep Owns.spans (Owns.sep Owns.spans (Owns.sep Owns.spans (Owns.sep Owns.spans (Owns.sep Owns.cel (Owns.sep Owns.cel (Owns.sep Owns.cel (Owns.sep Owns.spans Owns.nil)))))))) hh37 v33
  generalize hA38 : A34.setCell ⟨q12, 0, none⟩ v33 = A38 at hh38
  have hh39 := Asn.perm [cel q12 v33, spans v33 m33, spans v31 m31, spans x1 mx, spans x2 my, cel q9 x2, cel q8 x1, cel q10 x3, spans x3 mz, Asn.nil] [6, 0, 1, 2, 3, 4, 5, 7, 8, 9] hh38 (by decide)
  obtain ⟨u40, hb40⟩ := cel_at hh39
  have hh41 := Asn.perm [cel q8 x1, cel q12 v33, spans v33 m33, spans v31 m31, spans x1 mx, spans x2 my, cel q9 x2, cel q10 x3, spans x3 mz, Asn.nil] [6, 0, 1, 2, 3, 4, 5, 7, 8, 9] hh39 (by decide)
  obtain ⟨u42, hb42⟩ := cel_at hh41
  have hh43 := Asn.perm [cel q9 x2, cel q8 x1, cel q12 v33, spans v33 m33, spans v31 m31, spans x1 mx, spans x2 my, cel q10 x3, spans x3 mz, Asn.nil] [5, 0, 1, 2, 3, 4, 6, 7, 8, 9] hh41 (by decide)
  obtain ⟨v44, m44, A44, F44, w44, e44, c44, hh44, _⟩ := neg_is (n₀ := n₀) (J := Asn.all [cel q9 x2, cel q8 x1, cel q12 v33, spans v33 m33, spans v31 m31, spans x2 my, cel q10 x3, spans x3 mz, Asn.nil]) (Owns.sep Owns.cel (Owns.sep Owns.cel (Owns.sep Owns.cel (Owns.sep Owns.spans (Owns.sep Owns.spans (Owns.sep Owns.spans (Owns.sep Owns.cel (Owns.sep Owns.spans Owns.nil)))))))) wx 65536 hh43
  have hh45 := Asn.perm [spans v44 m44, spans x1 mx, cel q9 x2, cel q8 x1, cel q12 v33, spans v33 m33, spans v31 m31, spans x2 my, cel q10 x3, spans x3 mz, Asn.nil] [2, 0, 1, 3, 4, 5, 6, 7, 8, 9, 10] hh44 (by decide)
  obtain ⟨u46, hb46⟩ := cel_at hh45
  have hh47 := Asn.perm [cel q9 x2, spans v44 m44, spans x1 mx, cel q8 x1, cel q12 v33, spans v33 m33, spans v31 m31, spans x2 my, cel q10 x3, spans x3 mz, Asn.nil] [7, 0, 1, 2, 3, 4, 5, 6, 8, 9, 10] hh45 (by decide)
  obtain ⟨v48, m48, A48, F48, w48, e48, c48, hh48, _⟩ := neg_is (n₀ := n₀) (J := Asn.all [cel q9 x2, spans v44 m44, spans x1 mx, cel q8 x1, cel q12 v33, spans v33 m33, spans v31 m31, cel q10 x3, spans x3 mz, Asn.nil]) (Owns.sep Owns.cel (Owns.sep Owns.spans (Owns.sep Owns.spans (Owns.sep Owns.cel (Owns.sep Owns.cel (Owns.sep Owns.spans (Owns.sep Owns.spans (Owns.sep Owns.cel (Owns.sep Owns.spans Owns.nil))))))))) wy 65536 hh47
  have hh49 := Asn.perm [spans v48 m48, spans x2 my, cel q9 x2, spans v44 m44, spans x1 mx, cel q8 x1, cel q12 v33, spans v33 m33, spans v31 m31, cel q10 x3, spans x3 mz, Asn.nil] [3, 0, 1, 2, 4, 5, 6, 7, 8, 9, 10, 11] hh48 (by decide)
  obtain ⟨v50, m50, A50, F50, w50, e50, c50, hh50, _⟩ := both_is (n₀ := n₀) (J := Asn.all [spans x2 my, cel q9 x2, spans x1 mx, cel q8 x1, cel q12 v33, spans v33 m33, spans v31 m31, cel q10 x3, spans x3 mz, Asn.nil]) (Owns.sep Owns.spans (Owns.sep Owns.cel (Owns.sep Owns.spans (Owns.sep Owns.cel (Owns.sep Owns.cel (Owns.sep Owns.spans (Owns.sep Owns.spans (Owns.sep Owns.cel (Owns.sep Owns.spans Owns.nil))))))))) w44 w48 hh49
  obtain ⟨F51, hh51, _⟩ := Asn.new (Owns.sep Owns.spans (Owns.sep Owns.spans (Owns.sep Owns.spans (Owns.sep Owns.spans (Owns.sep Owns.cel (Owns.sep Owns.spans (Owns.sep Owns.cel (Owns.sep Owns.cel (Owns.sep Owns.spans (Owns.sep Owns.spans (Owns.sep Owns.cel (Owns.sep Owns.spans Owns.nil)))))))))))) hh50 (.slice none 0 0) 27
  have al51 : (A50.alloc (.cells #[.slice none 0 0] 27 (0, 0))).heap[A50.heap.size]? = some (.cells #[.slice none 0 0] 27 (0, 0)) := alloc_at
  generalize hq13 : A50.heap.size = q13 at hh51 al51
  generalize hA51 : A50.alloc (.cells #[.slice none 0 0] 27 (0, 0)) = A51 at hh51 al51
  have hh52 := Asn.perm [cel q13 (.slice none 0 0), spans v50 m50, spans v44 m44, spans v48 m48, spans x2 my, cel q9 x2, spans x1 mx, cel q8 x1, cel q12 v33, spans v33 m33, spans v31 m31, cel q10 x3, spans x3 mz, Asn.nil] [1, 0, 2, 3, 4, 5, 6, 7, 8, 9, 10, 11, 12, 13] hh51 (by decide)
  have o53 := spans_one hh52
  have hh54 := Asn.perm [spans v50 m50, cel q13 (.slice none 0 0), spans v44 m44, spans v48 m48, spans x2 my, cel q9 x2, spans x1 mx, cel q8 x1, cel q12 v33, spans v33 m33, spans v31 m31, cel q10 x3, spans x3 mz, Asn.nil] [1, 0, 2, 3, 4, 5, 6, 7, 8, 9, 10, 11, 12, 13] hh52 (by decide)
  obtain ⟨hh55, _⟩ := Asn.put (Owns.sep Owns.spans (Owns.sep Owns.spans (Owns.sep Owns.spans (Owns.sep Owns.spans (Owns.sep Owns.cel (Owns.sep Owns.spans (Owns.sep Owns.cel (Owns.sep Owns.cel (Owns.sep Owns.spans (Owns.sep Owns.spans (Owns.sep Owns.cel (Owns.sep Owns.spans Owns.nil)))))))))))) hh54 v50
  generalize hA55 : A51.setCell ⟨q13, 0, none⟩ v50 = A55 at hh55
  have hh56 := Asn.perm [cel q13 v50, spans v50 m50, spans v44 m44, spans v48 m48, spans x2 my, cel q9 x2, spans x1 mx, cel q8 x1, cel q12 v33, spans v33 m33, spans v31 m31, cel q10 x3, spans x3 mz, Asn.nil] [7, 0, 1, 2, 3, 4, 5, 6, 8, 9, 10, 11, 12, 13] hh55 (by decide)
  obtain ⟨u57, hb57⟩ := cel_at hh56
  have hh58 := Asn.perm [cel q8 x1, cel q13 v50, spans v50 m50, spans v44 m44, spans v48 m48, spans x2 my, cel q9 x2, spans x1 mx, cel q12 v33, spans v33 m33, spans v31 m31, cel q10 x3, spans x3 mz, Asn.nil] [6, 0, 1, 2, 3, 4, 5, 7, 8, 9, 10, 11, 12, 13] hh56 (by decide)
  obtain ⟨u59, hb59⟩ := cel_at hh58
  have hh60 := Asn.perm [cel q9 x2, cel q8 x1, cel q13 v50, spans v50 m50, spans v44 m44, spans v48 m48, spans x2 my, spans x1 mx, cel q12 v33, spans v33 m33, spans v31 m31, cel q10 x3, spans x3 mz, Asn.nil] [11, 0, 1, 2, 3, 4, 5, 6, 7, 8, 9, 10, 12, 13] hh58 (by decide)
  obtain ⟨u61, hb61⟩ := cel_at hh60
  have hh62 := Asn.perm [cel q10 x3, cel q9 x2, cel q8 x1, cel q13 v50, spans v50 m50, spans v44 m44, spans v48 m48, spans x2 my, spans x1 mx, cel q12 v33, spans v33 m33, spans v31 m31, spans x3 mz, Asn.nil] [7, 12, 0, 1, 2, 3, 4, 5, 6, 8, 9, 10, 11, 13] hh60 (by decide)
  obtain ⟨v63, m63, A63, F63, w63, e63, c63, hh63, _⟩ := or_is (n₀ := n₀) (J := Asn.all [cel q10 x3, cel q9 x2, cel q8 x1, cel q13 v50, spans v50 m50, spans v44 m44, spans v48 m48, spans x1 mx, cel q12 v33, spans v33 m33, spans v31 m31, Asn.nil]) (Owns.sep Owns.cel (Owns.sep Owns.cel (Owns.sep Owns.cel (Owns.sep Owns.cel (Owns.sep Owns.spans (Owns.sep Owns.spans (Owns.sep Owns.spans (Owns.sep Owns.spans (Owns.sep Owns.cel (Owns.sep Owns.spans (Owns.sep Owns.spans Owns.nil))))))))))) wy wz hh62
  have hh64 := Asn.perm [spans v63 m63, spans x2 my, spans x3 mz, cel q10 x3, cel q9 x2, cel q8 x1, cel q13 v50, spans v50 m50, spans v44 m44, spans v48 m48, spans x1 mx, cel q12 v33, spans v33 m33, spans v31 m31, Asn.nil] [5, 0, 1, 2, 3, 4, 6, 7, 8, 9, 10, 11, 12, 13, 14] hh63 (by decide)
  obtain ⟨u65, hb65⟩ := cel_at hh64
  have hh66 := Asn.perm [cel q8 x1, spans v63 m63, spans x2 my, spans x3 mz, cel q10 x3, cel q9 x2, cel q13 v50, spans v50 m50, spans v44 m44, spans v48 m48, spans x1 mx, cel q12 v33, spans v33 m33, spans v31 m31, Asn.nil] [10, 1, 0, 2, 3, 4, 5, 6, 7, 8, 9, 11, 12, 13, 14] hh64 (by decide)
  obtain ⟨v67, m67, A67, F67, w67, e67, c67, hh67, _⟩ := both_is (n₀ := n₀) (J := Asn.all [cel q8 x1, spans x2 my, spans x3 mz, cel q10 x3, cel q9 x2, cel q13 v50, spans v50 m50, spans v44 m44, spans v48 m48, cel q12 v33, spans v33 m33, spans v31 m31, Asn.nil]) (Owns.sep Owns.cel (Owns.sep Owns.spans (Owns.sep Owns.spans (Owns.sep Owns.cel (Owns.sep Owns.cel (Owns.sep Owns.cel (Owns.sep Owns.spans (Owns.sep Owns.spans (Owns.sep Owns.spans (Owns.sep Owns.cel (Owns.sep Owns.spans (Owns.sep Owns.spans Owns.nil)))))))))))) wx w63 hh66
  obtain ⟨F68, hh68, _⟩ := Asn.new (Owns.sep Owns.spans (Owns.sep Owns.spans (Owns.sep Owns.spans (Owns.sep Owns.cel (Owns.sep Owns.spans (Owns.sep Owns.spans (Owns.sep Owns.cel (Owns.sep Owns.cel (Owns.sep Owns.cel (Owns.sep Owns.spans (Owns.sep Owns.spans (Owns.sep Owns.spans (Owns.sep Owns.cel (Owns.sep Owns.spans (Owns.sep Owns.spans Owns.nil))))))))))))))) hh67 (.slice none 0 0) 27
  have al68 : (A67.alloc (.cells #[.slice none 0 0] 27 (0, 0))).heap[A67.heap.size]? = some (.cells #[.slice none 0 0] 27 (0, 0)) := alloc_at
  generalize hq14 : A67.heap.size = q14 at hh68 al68
  generalize hA68 : A67.alloc (.cells #[.slice none 0 0] 27 (0, 0)) = A68 at hh68 al68
  have hh69 := Asn.perm [cel q14 (.slice none 0 0), spans v67 m67, spans x1 mx, spans v63 m63, cel q8 x1, spans x2 my, spans x3 mz, cel q10 x3, cel q9 x2, cel q13 v50, spans v50 m50, spans v44 m44, spans v48 m48, cel q12 v33, spans v33 m33, spans v31 m31, Asn.nil] [1, 0, 2, 3, 4, 5, 6, 7, 8, 9, 10, 11, 12, 13, 14, 15, 16] hh68 (by decide)
  have o70 := spans_one hh69
  have hh71 := Asn.perm [spans v67 m67, cel q14 (.slice none 0 0), spans x1 mx, spans v63 m63, cel q8 x1, spans x2 my, spans x3 mz, cel q10 x3, cel q9 x2, cel q13 v50, spans v50 m50, spans v44 m44, spans v48 m48, cel q12 v33, spans v33 m33, spans v31 m31, Asn.nil] [1, 0, 2, 3, 4, 5, 6, 7, 8, 9, 10, 11, 12, 13, 14, 15, 16] hh69 (by decide)
  obtain ⟨hh72, _⟩ := Asn.put (Owns.sep Owns.spans (Owns.sep Owns.spans (Owns.sep Owns.spans (Owns.sep Owns.cel (Owns.sep Owns.spans (Owns.sep Owns.spans (Owns.sep Owns.cel (Owns.sep Owns.cel (Owns.sep Owns.cel (Owns.sep Owns.spans (Owns.sep Owns.spans (Owns.sep Owns.spans (Owns.sep Owns.cel (Owns.sep Owns.spans (Owns.sep Owns.spans Owns.nil))))))))))))))) hh71 v67
  generalize hA72 : A68.setCell ⟨q14, 0, none⟩ v67 = A72 at hh72
  have hh73 := Asn.perm [cel q14 v67, spans v67 m67, spans x1 mx, spans v63 m63, cel q8 x1, spans x2 my, spans x3 mz, cel q10 x3, cel q9 x2, cel q13 v50, spans v50 m50, spans v44 m44, spans v48 m48, cel q12 v33, spans v33 m33, spans v31 m31, Asn.nil] [4, 0, 1, 2, 3, 5, 6, 7, 8, 9, 10, 11, 12, 13, 14, 15, 16] hh72 (by decide)
  obtain ⟨u74, hb74⟩ := cel_at hh73
  have hh75 := Asn.perm [cel q8 x1, cel q14 v67, spans v67 m67, spans x1 mx, spans v63 m63, spans x2 my, spans x3 mz, cel q10 x3, cel q9 x2, cel q13 v50, spans v50 m50, spans v44 m44, spans v48 m48, cel q12 v33, spans v33 m33, spans v31 m31, Asn.nil] [8, 0, 1, 2, 3, 4, 5, 6, 7, 9, 10, 11, 12, 13, 14, 15, 16] hh73 (by decide)
  obtain ⟨u76, hb76⟩ := cel_at hh75
  have hh77 := Asn.perm [cel q9 x2, cel q8 x1, cel q14 v67, spans v67 m67, spans x1 mx, spans v63 m63, spans x2 my, spans x3 mz, cel q10 x3, cel q13 v50, spans v50 m50, spans v44 m44, spans v48 m48, cel q12 v33, spans v33 m33, spans v31 m31, Asn.nil] [8, 0, 1, 2, 3, 4, 5, 6, 7, 9, 10, 11, 12, 13, 14, 15, 16] hh75 (by decide)
  obtain ⟨u78, hb78⟩ := cel_at hh77
  have hh79 := Asn.perm [cel q10 x3, cel q9 x2, cel q8 x1, cel q14 v67, spans v67 m67, spans x1 mx, spans v63 m63, spans x2 my, spans x3 mz, cel q13 v50, spans v50 m50, spans v44 m44, spans v48 m48, cel q12 v33, spans v33 m33, spans v31 m31, Asn.nil] [5, 7, 0, 1, 2, 3, 4, 6, 8, 9, 10, 11, 12, 13, 14, 15, 16] hh77 (by decide)
  obtain ⟨v80, m80, A80, F80, w80, e80, c80, hh80, _⟩ := both_is (n₀ := n₀) (J := Asn.all [cel q10 x3, cel q9 x2, cel q8 x1, cel q14 v67, spans v67 m67, spans v63 m63, spans x3 mz, cel q13 v50, spans v50 m50, spans v44 m44, spans v48 m48, cel q12 v33, spans v33 m33, spans v31 m31, Asn.nil]) (Owns.sep Owns.cel (Owns.sep Owns.cel (Owns.sep Owns.cel (Owns.sep Owns.cel (Owns.sep Owns.spans (Owns.sep Owns.spans (Owns.sep Owns.spans (Owns.sep Owns.cel (Owns.sep Owns.spans (Owns.sep Owns.spans (Owns.sep Owns.spans (Owns.sep Owns.cel (Owns.sep Owns.spans (Owns.sep Owns.spans Owns.nil)))))))))))))) wx wy hh79
  have hh81 := Asn.perm [spans v80 m80, spans x1 mx, spans x2 my, cel q10 x3, cel q9 x2, cel q8 x1, cel q14 v67, spans v67 m67, spans v63 m63, spans x3 mz, cel q13 v50, spans v50 m50, spans v44 m44, spans v48 m48, cel q12 v33, spans v33 m33, spans v31 m31, Asn.nil] [5, 0, 1, 2, 3, 4, 6, 7, 8, 9, 10, 11, 12, 13, 14, 15, 16, 17] hh80 (by decide)
  obtain ⟨u82, hb82⟩ := cel_at hh81
  have hh83 := Asn.perm [cel q8 x1, spans v80 m80, spans x1 mx, spans x2 my, cel q10 x3, cel q9 x2, cel q14 v67, spans v67 m67, spans v63 m63, spans x3 mz, cel q13 v50, spans v50 m50, spans v44 m44, spans v48 m48, cel q12 v33, spans v33 m33, spans v31 m31, Asn.nil] [4, 0, 1, 2, 3, 5, 6, 7, 8, 9, 10, 11, 12, 13, 14, 15, 16, 17] hh81 (by decide)
  obtain ⟨u84, hb84⟩ := cel_at hh83
  have hh85 := Asn.perm [cel q10 x3, cel q8 x1, spans v80 m80, spans x1 mx, spans x2 my, cel q9 x2, cel q14 v67, spans v67 m67, spans v63 m63, spans x3 mz, cel q13 v50, spans v50 m50, spans v44 m44, spans v48 m48, cel q12 v33, spans v33 m33, spans v31 m31, Asn.nil] [3, 9, 0, 1, 2, 4, 5, 6, 7, 8, 10, 11, 12, 13, 14, 15, 16, 17] hh83 (by decide)
  obtain ⟨v86, m86, A86, F86, w86, e86, c86, hh86, _⟩ := both_is (n₀ := n₀) (J := Asn.all [cel q10 x3, cel q8 x1, spans v80 m80, spans x2 my, cel q9 x2, cel q14 v67, spans v67 m67, spans v63 m63, cel q13 v50, spans v50 m50, spans v44 m44, spans v48 m48, cel q12 v33, spans v33 m33, spans v31 m31, Asn.nil]) (Owns.sep Owns.cel (Owns.sep Owns.cel (Owns.sep Owns.spans (Owns.sep Owns.spans (Owns.sep Owns.cel (Owns.sep Owns.cel (Owns.sep Owns.spans (Owns.sep Owns.spans (Owns.sep Owns.cel (Owns.sep Owns.spans (Owns.sep Owns.spans (Owns.sep Owns.spans (Owns.sep Owns.cel (Owns.sep Owns.spans (Owns.sep Owns.spans Owns.nil))))))))))))))) wx wz hh85
  have hh87 := Asn.perm [spans v86 m86, spans x1 mx, spans x3 mz, cel q10 x3, cel q8 x1, spans v80 m80, spans x2 my, cel q9 x2, cel q14 v67, spans v67 m67, spans v63 m63, cel q13 v50, spans v50 m50, spans v44 m44, spans v48 m48, cel q12 v33, spans v33 m33, spans v31 m31, Asn.nil] [5, 0, 1, 2, 3, 4, 6, 7, 8, 9, 10, 11, 12, 13, 14, 15, 16, 17, 18] hh86 (by decide)
  obtain ⟨v88, m88, A88, F88, w88, e88, c88, hh88, _⟩ := or_is (n₀ := n₀) (J := Asn.all [spans x1 mx, spans x3 mz, cel q10 x3, cel q8 x1, spans x2 my, cel q9 x2, cel q14 v67, spans v67 m67, spans v63 m63, cel q13 v50, spans v50 m50, spans v44 m44, spans v48 m48, cel q12 v33, spans v33 m33, spans v31 m31, Asn.nil]) (Owns.sep Owns.spans (Owns.sep Owns.spans (Owns.sep Owns.cel (Owns.sep Owns.cel (Owns.sep Owns.spans (Owns.sep Owns.cel (Owns.sep Owns.cel (Owns.sep Owns.spans (Owns.sep Owns.spans (Owns.sep Owns.cel (Owns.sep Owns.spans (Owns.sep Owns.spans (Owns.sep Owns.spans (Owns.sep Owns.cel (Owns.sep Owns.spans (Owns.sep Owns.spans Owns.nil)))))))))))))))) w80 w86 hh87
  obtain ⟨F89, hh89, _⟩ := Asn.new (Owns.sep Owns.spans (Owns.sep Owns.spans (Owns.sep Owns.spans (Owns.sep Owns.spans (Owns.sep Owns.spans (Owns.sep Owns.cel (Owns.sep Owns.cel (Owns.sep Owns.spans (Owns.sep Owns.cel (Owns.sep Owns.cel (Owns.sep Owns.spans (Owns.sep Owns.spans (Owns.sep Owns.cel (Owns.sep Owns.spans (Owns.sep Owns.spans (Owns.sep Owns.spans (Owns.sep Owns.cel (Owns.sep Owns.spans (Owns.sep Owns.spans Owns.nil))))))))))))))))))) hh88 (.slice none 0 0) 27
  have al89 : (A88.alloc (.cells #[.slice none 0 0] 27 (0, 0))).heap[A88.heap.size]? = some (.cells #[.slice none 0 0] 27 (0, 0)) := alloc_at
  generalize hq15 : A88.heap.size = q15 at hh89 al89
  generalize hA89 : A88.alloc (.cells #[.slice none 0 0] 27 (0, 0)) = A89 at hh89 al89
  have hh90 := Asn.perm [cel q15 (.slice none 0 0), spans v88 m88, spans v80 m80, spans v86 m86, spans x1 mx, spans x3 mz, cel q10 x3, cel q8 x1, spans x2 my, cel q9 x2, cel q14 v67, spans v67 m67, spans v63 m63, cel q13 v50, spans v50 m50, spans v44 m44, spans v48 m48, cel q12 v33, spans v33 m33, spans v31 m31, Asn.nil] [1, 0, 2, 3, 4, 5, 6, 7, 8, 9, 10, 11, 12, 13, 14, 15, 16, 17, 18, 19, 20] hh89 (by decide)
  have o91 := spans_one hh90
  have hh92 := Asn.perm [spans v88 m88, cel q15 (.slice none 0 0), spans v80 m80, spans v86 m86, spans x1 mx, spans x3 mz, cel q10 x3, cel q8 x1, spans x2 my, cel q9 x2, cel q14 v67, spans v67 m67, spans v63 m63, cel q13 v50, spans v50 m50, spans v44 m44, spans v48 m48, cel q12 v33, spans v33 m33, spans v31 m31, Asn.nil] [1, 0, 2, 3, 4, 5, 6, 7, 8, 9, 10, 11, 12, 13, 14, 15, 16, 17, 18, 19, 20] hh90 (by decide)
  obtain ⟨hh93, _⟩ := Asn.put (Owns.sep Owns.spans (Owns.sep Owns.spans (Owns.sep Owns.spans (Owns.sep Owns.spans (Owns.sep Owns.spans (Owns.sep Owns.cel (Owns.sep Owns.cel (Owns.sep Owns.spans (Owns.sep Owns.cel (Owns.sep Owns.cel (Owns.sep Owns.spans (Owns.sep Owns.spans (Owns.sep Owns.cel (Owns.sep Owns.spans (Owns.sep Owns.spans (Owns.sep Owns.spans (Owns.sep Owns.cel (Owns.sep Owns.spans (Owns.sep Owns.spans Owns.nil))))))))))))))))))) hh92 v88
  generalize hA93 : A89.setCell ⟨q15, 0, none⟩ v88 = A93 at hh93
  have hh94 := Asn.perm [cel q15 v88, spans v88 m88, spans v80 m80, spans v86 m86, spans x1 mx, spans x3 mz, cel q10 x3, cel q8 x1, spans x2 my, cel q9 x2, cel q14 v67, spans v67 m67, spans v63 m63, cel q13 v50, spans v50 m50, spans v44 m44, spans v48 m48, cel q12 v33, spans v33 m33, spans v31 m31, Asn.nil] [17, 0, 1, 2, 3, 4, 5, 6, 7, 8, 9, 10, 11, 12, 13, 14, 15, 16, 18, 19, 20] hh93 (by decide)
  obtain ⟨u95, hb95⟩ := cel_at hh94
  have hh96 := Asn.perm [cel q12 v33, cel q15 v88, spans v88 m88, spans v80 m80, spans v86 m86, spans x1 mx, spans x3 mz, cel q10 x3, cel q8 x1, spans x2 my, cel q9 x2, cel q14 v67, spans v67 m67, spans v63 m63, cel q13 v50, spans v50 m50, spans v44 m44, spans v48 m48, spans v33 m33, spans v31 m31, Asn.nil] [14, 0, 1, 2, 3, 4, 5, 6, 7, 8, 9, 10, 11, 12, 13, 15, 16, 17, 18, 19, 20] hh94 (by decide)
  obtain ⟨u97, hb97⟩ := cel_at hh96
  have hh98 := Asn.perm [cel q13 v50, cel q12 v33, cel q15 v88, spans v88 m88, spans v80 m80, spans v86 m86, spans x1 mx, spans x3 mz, cel q10 x3, cel q8 x1, spans x2 my, cel q9 x2, cel q14 v67, spans v67 m67, spans v63 m63, spans v50 m50, spans v44 m44, spans v48 m48, spans v33 m33, spans v31 m31, Asn.nil] [18, 15, 0, 1, 2, 3, 4, 5, 6, 7, 8, 9, 10, 11, 12, 13, 14, 16, 17, 19, 20] hh96 (by decide)
  obtain ⟨A99, F99, c99, hh99, _⟩ := same_is (n₀ := n₀) (J := Asn.all [cel q13 v50, cel q12 v33, cel q15 v88, spans v88 m88, spans v80 m80, spans v86 m86, spans x1 mx, spans x3 mz, cel q10 x3, cel q8 x1, spans x2 my, cel q9 x2, cel q14 v67, spans v67 m67, spans v63 m63, spans v44 m44, spans v48 m48, spans v31 m31, Asn.nil]) (Owns.sep Owns.cel (Owns.sep Owns.cel (Owns.sep Owns.cel (Owns.sep Owns.spans (Owns.sep Owns.spans (Owns.sep Owns.spans (Owns.sep Owns.spans (Owns.sep Owns.spans (Owns.sep Owns.cel (Owns.sep Owns.cel (Owns.sep Owns.spans (Owns.sep Owns.cel (Owns.sep Owns.cel (Owns.sep Owns.spans (Owns.sep Owns.spans (Owns.sep Owns.spans (Owns.sep Owns.spans (Owns.sep Owns.spans Owns.nil)))))))))))))))))) w33 w50 hh98
  have same100 : m33 = m50 := wf_same w33 w50 fun i => by
    simp only [e33, e31, e50, e44, e48]
    have hdi : inR i = true → decide (i < 65536) = true := fun h => by unfold inR at h; simp at h ⊢; omega
    have hxi : has mx i = true → inR i = true := has_range wx
    revert hdi hxi
    cases has mx i <;> cases has my i <;> cases has mz i <;> cases inR i <;> cases decide (i < 65536) <;> simp
  rw [decide_eq_true same100] at c99
  have hh101 := Asn.perm [spans v33 m33, spans v50 m50, cel q13 v50, cel q12 v33, cel q15 v88, spans v88 m88, spans v80 m80, spans v86 m86, spans x1 mx, spans x3 mz, cel q10 x3, cel q8 x1, spans x2 my, cel q9 x2, cel q14 v67, spans v67 m67, spans v63 m63, spans v44 m44, spans v48 m48, spans v31 m31, Asn.nil] [14, 0, 1, 2, 3, 4, 5, 6, 7, 8, 9, 10, 11, 12, 13, 15, 16, 17, 18, 19, 20] hh99 (by decide)
  obtain ⟨u102, hb102⟩ := cel_at hh101
  have hh103 := Asn.perm [cel q14 v67, spans v33 m33, spans v50 m50, cel q13 v50, cel q12 v33, cel q15 v88, spans v88 m88, spans v80 m80, spans v86 m86, spans x1 mx, spans x3 mz, cel q10 x3, cel q8 x1, spans x2 my, cel q9 x2, spans v67 m67, spans v63 m63, spans v44 m44, spans v48 m48, spans v31 m31, Asn.nil] [5, 0, 1, 2, 3, 4, 6, 7, 8, 9, 10, 11, 12, 13, 14, 15, 16, 17, 18, 19, 20] hh101 (by decide)
  obtain ⟨u104, hb104⟩ := cel_at hh103
  have hh105 := Asn.perm [cel q15 v88, cel q14 v67, spans v33 m33, spans v50 m50, cel q13 v50, cel q12 v33, spans v88 m88, spans v80 m80, spans v86 m86, spans x1 mx, spans x3 mz, cel q10 x3, cel q8 x1, spans x2 my, cel q9 x2, spans v67 m67, spans v63 m63, spans v44 m44, spans v48 m48, spans v31 m31, Asn.nil] [15, 6, 0, 1, 2, 3, 4, 5, 7, 8, 9, 10, 11, 12, 13, 14, 16, 17, 18, 19, 20] hh103 (by decide)
  obtain ⟨A106, F106, c106, hh106, _⟩ := same_is (n₀ := n₀) (J := Asn.all [cel q15 v88, cel q14 v67, spans v33 m33, spans v50 m50, cel q13 v50, cel q12 v33, spans v80 m80, spans v86 m86, spans x1 mx, spans x3 mz, cel q10 x3, cel q8 x1, spans x2 my, cel q9 x2, spans v63 m63, spans v44 m44, spans v48 m48, spans v31 m31, Asn.nil]) (Owns.sep Owns.cel (Owns.sep Owns.cel (Owns.sep Owns.spans (Owns.sep Owns.spans (Owns.sep Owns.cel (Owns.sep Owns.cel (Owns.sep Owns.spans (Owns.sep Owns.spans (Owns.sep Owns.spans (Owns.sep Owns.spans (Owns.sep Owns.cel (Owns.sep Owns.cel (Owns.sep Owns.spans (Owns.sep Owns.cel (Owns.sep Owns.spans (Owns.sep Owns.spans (Owns.sep Owns.spans (Owns.sep Owns.spans Owns.nil)))))))))))))))))) w67 w88 hh105
  have same107 : m67 = m88 := wf_same w67 w88 fun i => by
    simp only [e67, e63, e88, e80, e86]
    have hdi : inR i = true → decide (i < 65536) = true := fun h => by unfold inR at h; simp at h ⊢; omega
    have hxi : has mx i = true → inR i = true := has_range wx
    revert hdi hxi
    cases has mx i <;> cases has my i <;> cases has mz i <;> cases inR i <;> cases decide (i < 65536) <;> simp
  rw [decide_eq_true same107] at c106
  have hh108 := Asn.perm [spans v67 m67, spans v88 m88, cel q15 v88, cel q14 v67, spans v33 m33, spans v50 m50, cel q13 v50, cel q12 v33, spans v80 m80, spans v86 m86, spans x1 mx, spans x3 mz, cel q10 x3, cel q8 x1, spans x2 my, cel q9 x2, spans v63 m63, spans v44 m44, spans v48 m48, spans v31 m31, Asn.nil] [13, 0, 1, 2, 3, 4, 5, 6, 7, 8, 9, 10, 11, 12, 14, 15, 16, 17, 18, 19, 20] hh106 (by decide)
  obtain ⟨u109, hb109⟩ := cel_at hh108
  have hh110 := Asn.perm [cel q8 x1, spans v67 m67, spans v88 m88, cel q15 v88, cel q14 v67, spans v33 m33, spans v50 m50, cel q13 v50, cel q12 v33, spans v80 m80, spans v86 m86, spans x1 mx, spans x3 mz, cel q10 x3, spans x2 my, cel q9 x2, spans v63 m63, spans v44 m44, spans v48 m48, spans v31 m31, Asn.nil] [15, 0, 1, 2, 3, 4, 5, 6, 7, 8, 9, 10, 11, 12, 13, 14, 16, 17, 18, 19, 20] hh108 (by decide)
  obtain ⟨u111, hb111⟩ := cel_at hh110
  have hh112 := Asn.perm [cel q9 x2, cel q8 x1, spans v67 m67, spans v88 m88, cel q15 v88, cel q14 v67, spans v33 m33, spans v50 m50, cel q13 v50, cel q12 v33, spans v80 m80, spans v86 m86, spans x1 mx, spans x3 mz, cel q10 x3, spans x2 my, spans v63 m63, spans v44 m44, spans v48 m48, spans v31 m31, Asn.nil] [12, 15, 0, 1, 2, 3, 4, 5, 6, 7, 8, 9, 10, 11, 13, 14, 16, 17, 18, 19, 20] hh110 (by decide)
  obtain ⟨v113, m113, A113, F113, w113, e113, c113, hh113, _⟩ := out_is (n₀ := n₀) (J := Asn.all [cel q9 x2, cel q8 x1, spans v67 m67, spans v88 m88, cel q15 v88, cel q14 v67, spans v33 m33, spans v50 m50, cel q13 v50, cel q12 v33, spans v80 m80, spans v86 m86, spans x3 mz, cel q10 x3, spans v63 m63, spans v44 m44, spans v48 m48, spans v31 m31, Asn.nil]) (Owns.sep Owns.cel (Owns.sep Owns.cel (Owns.sep Owns.spans (Owns.sep Owns.spans (Owns.sep Owns.cel (Owns.sep Owns.cel (Owns.sep Owns.spans (Owns.sep Owns.spans (Owns.sep Owns.cel (Owns.sep Owns.cel (Owns.sep Owns.spans (Owns.sep Owns.spans (Owns.sep Owns.spans (Owns.sep Owns.cel (Owns.sep Owns.spans (Owns.sep Owns.spans (Owns.sep Owns.spans (Owns.sep Owns.spans Owns.nil)))))))))))))))))) wx wy hh112
  have hh114 := Asn.perm [spans v113 m113, spans x1 mx, spans x2 my, cel q9 x2, cel q8 x1, spans v67 m67, spans v88 m88, cel q15 v88, cel q14 v67, spans v33 m33, spans v50 m50, cel q13 v50, cel q12 v33, spans v80 m80, spans v86 m86, spans x3 mz, cel q10 x3, spans v63 m63, spans v44 m44, spans v48 m48, spans v31 m31, Asn.nil] [4, 0, 1, 2, 3, 5, 6, 7, 8, 9, 10, 11, 12, 13, 14, 15, 16, 17, 18, 19, 20, 21] hh113 (by decide)
  obtain ⟨u115, hb115⟩ := cel_at hh114
  have hh116 := Asn.perm [cel q8 x1, spans v113 m113, spans x1 mx, spans x2 my, cel q9 x2, spans v67 m67, spans v88 m88, cel q15 v88, cel q14 v67, spans v33 m33, spans v50 m50, cel q13 v50, cel q12 v33, spans v80 m80, spans v86 m86, spans x3 mz, cel q10 x3, spans v63 m63, spans v44 m44, spans v48 m48, spans v31 m31, Asn.nil] [4, 0, 1, 2, 3, 5, 6, 7, 8, 9, 10, 11, 12, 13, 14, 15, 16, 17, 18, 19, 20, 21] hh114 (by decide)
  obtain ⟨u117, hb117⟩ := cel_at hh116
  have hh118 := Asn.perm [cel q9 x2, cel q8 x1, spans v113 m113, spans x1 mx, spans x2 my, spans v67 m67, spans v88 m88, cel q15 v88, cel q14 v67, spans v33 m33, spans v50 m50, cel q13 v50, cel q12 v33, spans v80 m80, spans v86 m86, spans x3 mz, cel q10 x3, spans v63 m63, spans v44 m44, spans v48 m48, spans v31 m31, Asn.nil] [3, 4, 0, 1, 2, 5, 6, 7, 8, 9, 10, 11, 12, 13, 14, 15, 16, 17, 18, 19, 20, 21] hh116 (by decide)
  obtain ⟨v119, m119, A119, F119, w119, e119, c119, hh119, _⟩ := both_is (n₀ := n₀) (J := Asn.all [cel q9 x2, cel q8 x1, spans v113 m113, spans v67 m67, spans v88 m88, cel q15 v88, cel q14 v67, spans v33 m33, spans v50 m50, cel q13 v50, cel q12 v33, spans v80 m80, spans v86 m86, spans x3 mz, cel q10 x3, spans v63 m63, spans v44 m44, spans v48 m48, spans v31 m31, Asn.nil]) (Owns.sep Owns.cel (Owns.sep Owns.cel (Owns.sep Owns.spans (Owns.sep Owns.spans (Owns.sep Owns.spans (Owns.sep Owns.cel (Owns.sep Owns.cel (Owns.sep Owns.spans (Owns.sep Owns.spans (Owns.sep Owns.cel (Owns.sep Owns.cel (Owns.sep Owns.spans (Owns.sep Owns.spans (Owns.sep Owns.spans (Owns.sep Owns.cel (Owns.sep Owns.spans (Owns.sep Owns.spans (Owns.sep Owns.spans (Owns.sep Owns.spans Owns.nil))))))))))))))))))) wx wy hh118
  have hh120 := Asn.perm [spans v119 m119, spans x1 mx, spans x2 my, cel q9 x2, cel q8 x1, spans v113 m113, spans v67 m67, spans v88 m88, cel q15 v88, cel q14 v67, spans v33 m33, spans v50 m50, cel q13 v50, cel q12 v33, spans v80 m80, spans v86 m86, spans x3 mz, cel q10 x3, spans v63 m63, spans v44 m44, spans v48 m48, spans v31 m31, Asn.nil] [4, 0, 1, 2, 3, 5, 6, 7, 8, 9, 10, 11, 12, 13, 14, 15, 16, 17, 18, 19, 20, 21, 22] hh119 (by decide)
  obtain ⟨u121, hb121⟩ := cel_at hh120
  have hh122 := Asn.perm [cel q8 x1, spans v119 m119, spans x1 mx, spans x2 my, cel q9 x2, spans v113 m113, spans v67 m67, spans v88 m88, cel q15 v88, cel q14 v67, spans v33 m33, spans v50 m50, cel q13 v50, cel q12 v33, spans v80 m80, spans v86 m86, spans x3 mz, cel q10 x3, spans v63 m63, spans v44 m44, spans v48 m48, spans v31 m31, Asn.nil] [5, 1, 0, 2, 3, 4, 6, 7, 8, 9, 10, 11, 12, 13, 14, 15, 16, 17, 18, 19, 20, 21, 22] hh120 (by decide)
  obtain ⟨v123, m123, A123, F123, w123, e123, c123, hh123, _⟩ := or_is (n₀ := n₀) (J := Asn.all [cel q8 x1, spans x1 mx, spans x2 my, cel q9 x2, spans v67 m67, spans v88 m88, cel q15 v88, cel q14 v67, spans v33 m33, spans v50 m50, cel q13 v50, cel q12 v33, spans v80 m80, spans v86 m86, spans x3 mz, cel q10 x3, spans v63 m63, spans v44 m44, spans v48 m48, spans v31 m31, Asn.nil]) (Owns.sep Owns.cel (Owns.sep Owns.spans (Owns.sep Owns.spans (Owns.sep Owns.cel (Owns.sep Owns.spans (Owns.sep Owns.spans (Owns.sep Owns.cel (Owns.sep Owns.cel (Owns.sep Owns.spans (Owns.sep Owns.spans (Owns.sep Owns.cel (Owns.sep Owns.cel (Owns.sep Owns.spans (Owns.sep Owns.spans (Owns.sep Owns.spans (Owns.sep Owns.cel (Owns.sep Owns.spans (Owns.sep Owns.spans (Owns.sep Owns.spans (Owns.sep Owns.spans Owns.nil)))))))))))))))))))) w113 w119 hh122
  have hh124 := Asn.perm [spans v123 m123, spans v113 m113, spans v119 m119, cel q8 x1, spans x1 mx, spans x2 my, cel q9 x2, spans v67 m67, spans v88 m88, cel q15 v88, cel q14 v67, spans v33 m33, spans v50 m50, cel q13 v50, cel q12 v33, spans v80 m80, spans v86 m86, spans x3 mz, cel q10 x3, spans v63 m63, spans v44 m44, spans v48 m48, spans v31 m31, Asn.nil] [3, 0, 1, 2, 4, 5, 6, 7, 8, 9, 10, 11, 12, 13, 14, 15, 16, 17, 18, 19, 20, 21, 22, 23] hh123 (by decide)
  obtain ⟨u125, hb125⟩ := cel_at hh124
  have hh126 := Asn.perm [cel q8 x1, spans v123 m123, spans v113 m113, spans v119 m119, spans x1 mx, spans x2 my, cel q9 x2, spans v67 m67, spans v88 m88, cel q15 v88, cel q14 v67, spans v33 m33, spans v50 m50, cel q13 v50, cel q12 v33, spans v80 m80, spans v86 m86, spans x3 mz, cel q10 x3, spans v63 m63, spans v44 m44, spans v48 m48, spans v31 m31, Asn.nil] [1, 4, 0, 2, 3, 5, 6, 7, 8, 9, 10, 11, 12, 13, 14, 15, 16, 17, 18, 19, 20, 21, 22, 23] hh124 (by decide)
  obtain ⟨A127, F127, c127, hh127, _⟩ := same_is (n₀ := n₀) (J := Asn.all [cel q8 x1, spans v113 m113, spans v119 m119, spans x2 my, cel q9 x2, spans v67 m67, spans v88 m88, cel q15 v88, cel q14 v67, spans v33 m33, spans v50 m50, cel q13 v50, cel q12 v33, spans v80 m80, spans v86 m86, spans x3 mz, cel q10 x3, spans v63 m63, spans v44 m44, spans v48 m48, spans v31 m31, Asn.nil]) (Owns.sep Owns.cel (Owns.sep Owns.spans (Owns.sep Owns.spans (Owns.sep Owns.spans (Owns.sep Owns.cel (Owns.sep Owns.spans (Owns.sep Owns.spans (Owns.sep Owns.cel (Owns.sep Owns.cel (Owns.sep Owns.spans (Owns.sep Owns.spans (Owns.sep Owns.cel (Owns.sep Owns.cel (Owns.sep Owns.spans (Owns.sep Owns.spans (Owns.sep Owns.spans (Owns.sep Owns.cel (Owns.sep Owns.spans (Owns.sep Owns.spans (Owns.sep Owns.spans (Owns.sep Owns.spans Owns.nil))))))))))))))))))))) w123 wx hh126
  have same128 : m123 = mx := wf_same w123 wx fun i => by
    simp only [e123, e113, e119]
    have hdi : inR i = true → decide (i < 65536) = true := fun h => by unfold inR at h; simp at h ⊢; omega
    have hxi : has mx i = true → inR i = true := has_range wx
    revert hdi hxi
    cases has mx i <;> cases has my i <;> cases has mz i <;> cases inR i <;> cases decide (i < 65536) <;> simp
  rw [decide_eq_true same128] at c127
  have hh129 := Asn.perm [spans v123 m123, spans x1 mx, cel q8 x1, spans v113 m113, spans v119 m119, spans x2 my, cel q9 x2, spans v67 m67, spans v88 m88, cel q15 v88, cel q14 v67, spans v33 m33, spans v50 m50, cel q13 v50, cel q12 v33, spans v80 m80, spans v86 m86, spans x3 mz, cel q10 x3, spans v63 m63, spans v44 m44, spans v48 m48, spans v31 m31, Asn.nil] [2, 0, 1, 3, 4, 5, 6, 7, 8, 9, 10, 11, 12, 13, 14, 15, 16, 17, 18, 19, 20, 21, 22, 23] hh127 (by decide)
  obtain ⟨u130, hb130⟩ := cel_at hh129
  have hh131 := Asn.perm [cel q8 x1, spans v123 m123, spans x1 mx, spans v113 m113, spans v119 m119, spans x2 my, cel q9 x2, spans v67 m67, spans v88 m88, cel q15 v88, cel q14 v67, spans v33 m33, spans v50 m50, cel q13 v50, cel q12 v33, spans v80 m80, spans v86 m86, spans x3 mz, cel q10 x3, spans v63 m63, spans v44 m44, spans v48 m48, spans v31 m31, Asn.nil] [6, 0, 1, 2, 3, 4, 5, 7, 8, 9, 10, 11, 12, 13, 14, 15, 16, 17, 18, 19, 20, 21, 22, 23] hh129 (by decide)
  obtain ⟨u132, hb132⟩ := cel_at hh131
  have hh133 := Asn.perm [cel q9 x2, cel q8 x1, spans v123 m123, spans x1 mx, spans v113 m113, spans v119 m119, spans x2 my, spans v67 m67, spans v88 m88, cel q15 v88, cel q14 v67, spans v33 m33, spans v50 m50, cel q13 v50, cel q12 v33, spans v80 m80, spans v86 m86, spans x3 mz, cel q10 x3, spans v63 m63, spans v44 m44, spans v48 m48, spans v31 m31, Asn.nil] [3, 6, 0, 1, 2, 4, 5, 7, 8, 9, 10, 11, 12, 13, 14, 15, 16, 17, 18, 19, 20, 21, 22, 23] hh131 (by decide)
  obtain ⟨v134, m134, A134, F134, w134, e134, c134, hh134, _⟩ := or_is (n₀ := n₀) (J := Asn.all [cel q9 x2, cel q8 x1, spans v123 m123, spans v113 m113, spans v119 m119, spans v67 m67, spans v88 m88, cel q15 v88, cel q14 v67, spans v33 m33, spans v50 m50, cel q13 v50, cel q12 v33, spans v80 m80, spans v86 m86, spans x3 mz, cel q10 x3, spans v63 m63, spans v44 m44, spans v48 m48, spans v31 m31, Asn.nil]) (Owns.sep Owns.cel (Owns.sep Owns.cel (Owns.sep Owns.spans (Owns.sep Owns.spans (Owns.sep Owns.spans (Owns.sep Owns.spans (Owns.sep Owns.spans (Owns.sep Owns.cel (Owns.sep Owns.cel (Owns.sep Owns.spans (Owns.sep Owns.spans (Owns.sep Owns.cel (Owns.sep Owns.cel (Owns.sep Owns.spans (Owns.sep Owns.spans (Owns.sep Owns.spans (Owns.sep Owns.cel (Owns.sep Owns.spans (Owns.sep Owns.spans (Owns.sep Owns.spans (Owns.sep Owns.spans Owns.nil))))))))))))))))))))) wx wy hh133
  have hh135 := Asn.perm [spans v134 m134, spans x1 mx, spans x2 my, cel q9 x2, cel q8 x1, spans v123 m123, spans v113 m113, spans v119 m119, spans v67 m67, spans v88 m88, cel q15 v88, cel q14 v67, spans v33 m33, spans v50 m50, cel q13 v50, cel q12 v33, spans v80 m80, spans v86 m86, spans x3 mz, cel q10 x3, spans v63 m63, spans v44 m44, spans v48 m48, spans v31 m31, Asn.nil] [4, 0, 1, 2, 3, 5, 6, 7, 8, 9, 10, 11, 12, 13, 14, 15, 16, 17, 18, 19, 20, 21, 22, 23, 24] hh134 (by decide)
  obtain ⟨u136, hb136⟩ := cel_at hh135
  have hh137 := Asn.perm [cel q8 x1, spans v134 m134, spans x1 mx, spans x2 my, cel q9 x2, spans v123 m123, spans v113 m113, spans v119 m119, spans v67 m67, spans v88 m88, cel q15 v88, cel q14 v67, spans v33 m33, spans v50 m50, cel q13 v50, cel q12 v33, spans v80 m80, spans v86 m86, spans x3 mz, cel q10 x3, spans v63 m63, spans v44 m44, spans v48 m48, spans v31 m31, Asn.nil] [4, 0, 1, 2, 3, 5, 6, 7, 8, 9, 10, 11, 12, 13, 14, 15, 16, 17, 18, 19, 20, 21, 22, 23, 24] hh135 (by decide)
  obtain ⟨u138, hb138⟩ := cel_at hh137
  have hh139 := Asn.perm [cel q9 x2, cel q8 x1, spans v134 m134, spans x1 mx, spans x2 my, spans v123 m123, spans v113 m113, spans v119 m119, spans v67 m67, spans v88 m88, cel q15 v88, cel q14 v67, spans v33 m33, spans v50 m50, cel q13 v50, cel q12 v33, spans v80 m80, spans v86 m86, spans x3 mz, cel q10 x3, spans v63 m63, spans v44 m44, spans v48 m48, spans v31 m31, Asn.nil] [2, 0, 1, 3, 4, 5, 6, 7, 8, 9, 10, 11, 12, 13, 14, 15, 16, 17, 18, 19, 20, 21, 22, 23, 24] hh137 (by decide)
  obtain ⟨A140, F140, c140, hh140, _⟩ := many_is (n₀ := n₀) (J := Asn.all [cel q9 x2, cel q8 x1, spans x1 mx, spans x2 my, spans v123 m123, spans v113 m113, spans v119 m119, spans v67 m67, spans v88 m88, cel q15 v88, cel q14 v67, spans v33 m33, spans v50 m50, cel q13 v50, cel q12 v33, spans v80 m80, spans v86 m86, spans x3 mz, cel q10 x3, spans v63 m63, spans v44 m44, spans v48 m48, spans v31 m31, Asn.nil]) (Owns.sep Owns.cel (Owns.sep Owns.cel (Owns.sep Owns.spans (Owns.sep Owns.spans (Owns.sep Owns.spans (Owns.sep Owns.spans (Owns.sep Owns.spans (Owns.sep Owns.spans (Owns.sep Owns.spans (Owns.sep Owns.cel (Owns.sep Owns.cel (Owns.sep Owns.spans (Owns.sep Owns.spans (Owns.sep Owns.cel (Owns.sep Owns.cel (Owns.sep Owns.spans (Owns.sep Owns.spans (Owns.sep Owns.spans (Owns.sep Owns.cel (Owns.sep Owns.spans (Owns.sep Owns.spans (Owns.sep Owns.spans (Owns.sep Owns.spans Owns.nil))))))))))))))))))))))) w134 hh139
  have hh141 := Asn.perm [spans v134 m134, cel q9 x2, cel q8 x1, spans x1 mx, spans x2 my, spans v123 m123, spans v113 m113, spans v119 m119, spans v67 m67, spans v88 m88, cel q15 v88, cel q14 v67, spans v33 m33, spans v50 m50, cel q13 v50, cel q12 v33, spans v80 m80, spans v86 m86, spans x3 mz, cel q10 x3, spans v63 m63, spans v44 m44, spans v48 m48, spans v31 m31, Asn.nil] [2, 0, 1, 3, 4, 5, 6, 7, 8, 9, 10, 11, 12, 13, 14, 15, 16, 17, 18, 19, 20, 21, 22, 23, 24] hh140 (by decide)
  obtain ⟨u142, hb142⟩ := cel_at hh141
  have hh143 := Asn.perm [cel q8 x1, spans v134 m134, cel q9 x2, spans x1 mx, spans x2 my, spans v123 m123, spans v113 m113, spans v119 m119, spans v67 m67, spans v88 m88, cel q15 v88, cel q14 v67, spans v33 m33, spans v50 m50, cel q13 v50, cel q12 v33, spans v80 m80, spans v86 m86, spans x3 mz, cel q10 x3, spans v63 m63, spans v44 m44, spans v48 m48, spans v31 m31, Asn.nil] [2, 0, 1, 3, 4, 5, 6, 7, 8, 9, 10, 11, 12, 13, 14, 15, 16, 17, 18, 19, 20, 21, 22, 23, 24] hh141 (by decide)
  obtain ⟨u144, hb144⟩ := cel_at hh143
  have hh145 := Asn.perm [cel q9 x2, cel q8 x1, spans v134 m134, spans x1 mx, spans x2 my, spans v123 m123, spans v113 m113, spans v119 m119, spans v67 m67, spans v88 m88, cel q15 v88, cel q14 v67, spans v33 m33, spans v50 m50, cel q13 v50, cel q12 v33, spans v80 m80, spans v86 m86, spans x3 mz, cel q10 x3, spans v63 m63, spans v44 m44, spans v48 m48, spans v31 m31, Asn.nil] [3, 4, 0, 1, 2, 5, 6, 7, 8, 9, 10, 11, 12, 13, 14, 15, 16, 17, 18, 19, 20, 21, 22, 23, 24] hh143 (by decide)
  obtain ⟨v146, m146, A146, F146, w146, e146, c146, hh146, _⟩ := both_is (n₀ := n₀) (J := Asn.all [cel q9 x2, cel q8 x1, spans v134 m134, spans v123 m123, spans v113 m113, spans v119 m119, spans v67 m67, spans v88 m88, cel q15 v88, cel q14 v67, spans v33 m33, spans v50 m50, cel q13 v50, cel q12 v33, spans v80 m80, spans v86 m86, spans x3 mz, cel q10 x3, spans v63 m63, spans v44 m44, spans v48 m48, spans v31 m31, Asn.nil]) (Owns.sep Owns.cel (Owns.sep Owns.cel (Owns.sep Owns.spans (Owns.sep Owns.spans (Owns.sep Owns.spans (Owns.sep Owns.spans (Owns.sep Owns.spans (Owns.sep Owns.spans (Owns.sep Owns.cel (Owns.sep Owns.cel (Owns.sep Owns.spans (Owns.sep Owns.spans (Owns.sep Owns.cel (Owns.sep Owns.cel (Owns.sep Owns.spans (Owns.sep Owns.spans (Owns.sep Owns.spans (Owns.sep Owns.cel (Owns.sep Owns.spans (Owns.sep Owns.spans (Owns.sep Owns.spans (Owns.sep Owns.spans Owns.nil)))))))))))))))))))))) wx wy hh145
  have hh147 := Asn.perm [spans v146 m146, spans x1 mx, spans x2 my, cel q9 x2, cel q8 x1, spans v134 m134, spans v123 m123, spans v113 m113, spans v119 m119, spans v67 m67, spans v88 m88, cel q15 v88, cel q14 v67, spans v33 m33, spans v50 m50, cel q13 v50, cel q12 v33, spans v80 m80, spans v86 m86, spans x3 mz, cel q10 x3, spans v63 m63, spans v44 m44, spans v48 m48, spans v31 m31, Asn.nil] [4, 0, 1, 2, 3, 5, 6, 7, 8, 9, 10, 11, 12, 13, 14, 15, 16, 17, 18, 19, 20, 21, 22, 23, 24, 25] hh146 (by decide)
  obtain ⟨u148, hb148⟩ := cel_at hh147
  have hh149 := Asn.perm [cel q8 x1, spans v146 m146, spans x1 mx, spans x2 my, cel q9 x2, spans v134 m134, spans v123 m123, spans v113 m113, spans v119 m119, spans v67 m67, spans v88 m88, cel q15 v88, cel q14 v67, spans v33 m33, spans v50 m50, cel q13 v50, cel q12 v33, spans v80 m80, spans v86 m86, spans x3 mz, cel q10 x3, spans v63 m63, spans v44 m44, spans v48 m48, spans v31 m31, Asn.nil] [4, 0, 1, 2, 3, 5, 6, 7, 8, 9, 10, 11, 12, 13, 14, 15, 16, 17, 18, 19, 20, 21, 22, 23, 24, 25] hh147 (by decide)
  obtain ⟨u150, hb150⟩ := cel_at hh149
  have hh151 := Asn.perm [cel q9 x2, cel q8 x1, spans v146 m146, spans x1 mx, spans x2 my, spans v134 m134, spans v123 m123, spans v113 m113, spans v119 m119, spans v67 m67, spans v88 m88, cel q15 v88, cel q14 v67, spans v33 m33, spans v50 m50, cel q13 v50, cel q12 v33, spans v80 m80, spans v86 m86, spans x3 mz, cel q10 x3, spans v63 m63, spans v44 m44, spans v48 m48, spans v31 m31, Asn.nil] [2, 0, 1, 3, 4, 5, 6, 7, 8, 9, 10, 11, 12, 13, 14, 15, 16, 17, 18, 19, 20, 21, 22, 23, 24, 25] hh149 (by decide)
  obtain ⟨A152, F152, c152, hh152, _⟩ := many_is (n₀ := n₀) (J := Asn.all [cel q9 x2, cel q8 x1, spans x1 mx, spans x2 my, spans v134 m134, spans v123 m123, spans v113 m113, spans v119 m119, spans v67 m67, spans v88 m88, cel q15 v88, cel q14 v67, spans v33 m33, spans v50 m50, cel q13 v50, cel q12 v33, spans v80 m80, spans v86 m86, spans x3 mz, cel q10 x3, spans v63 m63, spans v44 m44, spans v48 m48, spans v31 m31, Asn.nil]) (Owns.sep Owns.cel (Owns.sep Owns.cel (Owns.sep Owns.spans (Owns.sep Owns.spans (Owns.sep Owns.spans (Owns.sep Owns.spans (Owns.sep Owns.spans (Owns.sep Owns.spans (Owns.sep Owns.spans (Owns.sep Owns.spans (Owns.sep Owns.cel (Owns.sep Owns.cel (Owns.sep Owns.spans (Owns.sep Owns.spans (Owns.sep Owns.cel (Owns.sep Owns.cel (Owns.sep Owns.spans (Owns.sep Owns.spans (Owns.sep Owns.spans (Owns.sep Owns.cel (Owns.sep Owns.spans (Owns.sep Owns.spans (Owns.sep Owns.spans (Owns.sep Owns.spans Owns.nil)))))))))))))))))))))))) w146 hh151
  have hh153 := Asn.perm [spans v146 m146, cel q9 x2, cel q8 x1, spans x1 mx, spans x2 my, spans v134 m134, spans v123 m123, spans v113 m113, spans v119 m119, spans v67 m67, spans v88 m88, cel q15 v88, cel q14 v67, spans v33 m33, spans v50 m50, cel q13 v50, cel q12 v33, spans v80 m80, spans v86 m86, spans x3 mz, cel q10 x3, spans v63 m63, spans v44 m44, spans v48 m48, spans v31 m31, Asn.nil] [2, 0, 1, 3, 4, 5, 6, 7, 8, 9, 10, 11, 12, 13, 14, 15, 16, 17, 18, 19, 20, 21, 22, 23, 24, 25] hh152 (by decide)
  obtain ⟨u154, hb154⟩ := cel_at hh153
  have hh155 := Asn.perm [cel q8 x1, spans v146 m146, cel q9 x2, spans x1 mx, spans x2 my, spans v134 m134, spans v123 m123, spans v113 m113, spans v119 m119, spans v67 m67, spans v88 m88, cel q15 v88, cel q14 v67, spans v33 m33, spans v50 m50, cel q13 v50, cel q12 v33, spans v80 m80, spans v86 m86, spans x3 mz, cel q10 x3, spans v63 m63, spans v44 m44, spans v48 m48, spans v31 m31, Asn.nil] [2, 0, 1, 3, 4, 5, 6, 7, 8, 9, 10, 11, 12, 13, 14, 15, 16, 17, 18, 19, 20, 21, 22, 23, 24, 25] hh153 (by decide)
  obtain ⟨u156, hb156⟩ := cel_at hh155
  have hh157 := Asn.perm [cel q9 x2, cel q8 x1, spans v146 m146, spans x1 mx, spans x2 my, spans v134 m134, spans v123 m123, spans v113 m113, spans v119 m119, spans v67 m67, spans v88 m88, cel q15 v88, cel q14 v67, spans v33 m33, spans v50 m50, cel q13 v50, cel q12 v33, spans v80 m80, spans v86 m86, spans x3 mz, cel q10 x3, spans v63 m63, spans v44 m44, spans v48 m48, spans v31 m31, Asn.nil] [3, 0, 1, 2, 4, 5, 6, 7, 8, 9, 10, 11, 12, 13, 14, 15, 16, 17, 18, 19, 20, 21, 22, 23, 24, 25] hh155 (by decide)
  obtain ⟨A158, F158, c158, hh158, _⟩ := many_is (n₀ := n₀) (J := Asn.all [cel q9 x2, cel q8 x1, spans v146 m146, spans x2 my, spans v134 m134, spans v123 m123, spans v113 m113, spans v119 m119, spans v67 m67, spans v88 m88, cel q15 v88, cel q14 v67, spans v33 m33, spans v50 m50, cel q13 v50, cel q12 v33, spans v80 m80, spans v86 m86, spans x3 mz, cel q10 x3, spans v63 m63, spans v44 m44, spans v48 m48, spans v31 m31, Asn.nil]) (Owns.sep Owns.cel (Owns.sep Owns.cel (Owns.sep Owns.spans (Owns.sep Owns.spans (Owns.sep Owns.spans (Owns.sep Owns.spans (Owns.sep Owns.spans (Owns.sep Owns.spans (Owns.sep Owns.spans (Owns.sep Owns.spans (Owns.sep Owns.cel (Owns.sep Owns.cel (Owns.sep Owns.spans (Owns.sep Owns.spans (Owns.sep Owns.cel (Owns.sep Owns.cel (Owns.sep Owns.spans (Owns.sep Owns.spans (Owns.sep Owns.spans (Owns.sep Owns.cel (Owns.sep Owns.spans (Owns.sep Owns.spans (Owns.sep Owns.spans (Owns.sep Owns.spans Owns.nil)))))))))))))))))))))))) wx hh157
  have hh159 := Asn.perm [spans x1 mx, cel q9 x2, cel q8 x1, spans v146 m146, spans x2 my, spans v134 m134, spans v123 m123, spans v113 m113, spans v119 m119, spans v67 m67, spans v88 m88, cel q15 v88, cel q14 v67, spans v33 m33, spans v50 m50, cel q13 v50, cel q12 v33, spans v80 m80, spans v86 m86, spans x3 mz, cel q10 x3, spans v63 m63, spans v44 m44, spans v48 m48, spans v31 m31, Asn.nil] [1, 0, 2, 3, 4, 5, 6, 7, 8, 9, 10, 11, 12, 13, 14, 15, 16, 17, 18, 19, 20, 21, 22, 23, 24, 25] hh158 (by decide)
  obtain ⟨u160, hb160⟩ := cel_at hh159
  have hh161 := Asn.perm [cel q9 x2, spans x1 mx, cel q8 x1, spans v146 m146, spans x2 my, spans v134 m134, spans v123 m123, spans v113 m113, spans v119 m119, spans v67 m67, spans v88 m88, cel q15 v88, cel q14 v67, spans v33 m33, spans v50 m50, cel q13 v50, cel q12 v33, spans v80 m80, spans v86 m86, spans x3 mz, cel q10 x3, spans v63 m63, spans v44 m44, spans v48 m48, spans v31 m31, Asn.nil] [4, 0, 1, 2, 3, 5, 6, 7, 8, 9, 10, 11, 12, 13, 14, 15, 16, 17, 18, 19, 20, 21, 22, 23, 24, 25] hh159 (by decide)
  obtain ⟨A162, F162, c162, hh162, _⟩ := many_is (n₀ := n₀) (J := Asn.all [cel q9 x2, spans x1 mx, cel q8 x1, spans v146 m146, spans v134 m134, spans v123 m123, spans v113 m113, spans v119 m119, spans v67 m67, spans v88 m88, cel q15 v88, cel q14 v67, spans v33 m33, spans v50 m50, cel q13 v50, cel q12 v33, spans v80 m80, spans v86 m86, spans x3 mz, cel q10 x3, spans v63 m63, spans v44 m44, spans v48 m48, spans v31 m31, Asn.nil]) (Owns.sep Owns.cel (Owns.sep Owns.spans (Owns.sep Owns.cel (Owns.sep Owns.spans (Owns.sep Owns.spans (Owns.sep Owns.spans (Owns.sep Owns.spans (Owns.sep Owns.spans (Owns.sep Owns.spans (Owns.sep Owns.spans (Owns.sep Owns.cel (Owns.sep Owns.cel (Owns.sep Owns.spans (Owns.sep Owns.spans (Owns.sep Owns.cel (Owns.sep Owns.cel (Owns.sep Owns.spans (Owns.sep Owns.spans (Owns.sep Owns.spans (Owns.sep Owns.cel (Owns.sep Owns.spans (Owns.sep Owns.spans (Owns.sep Owns.spans (Owns.sep Owns.spans Owns.nil)))))))))))))))))))))))) wy hh161
  have hcb := count_both wx wy w134 w146 e134 e146
  have k1 := count_fits wx
  have k2 := count_fits wy
  have k3 := count_fits w134
  have k4 := count_fits w146
  suffices hw : wpF Try.prog n₀ 6 #[.slice p1 l1.length c1, .slice p2 l2.length c2, .slice p3 l3.length c3] (fun r _ => r = .bool true) A by
    obtain ⟨r, A', h1, rfl⟩ := hw
    exact ⟨A', h1⟩
  refine wpF_fn (fn := Try.f6) (ts := #[.slice p1 l1.length c1, .slice p2 l2.length c2, .slice p3 l3.length c3, undef, undef, undef, undef, undef, undef, undef, undef, undef, undef, undef, undef, undef, undef, undef, undef, undef, undef, undef, undef, undef, undef, undef, undef, undef, undef, undef, undef, undef, undef, undef, undef, undef, undef, undef, undef, undef, undef, undef, undef, undef, undef, undef, undef, undef, undef, undef, undef, undef, undef, undef, undef, undef, undef, undef, undef, undef, undef, undef, undef, undef, undef, undef, undef, undef, undef, undef, undef, undef, undef, undef, undef, undef, undef, undef, undef, undef, undef, undef, undef, undef, undef, undef, undef, undef]) good ⟨rfl, rfl, rfl⟩ (by kernel_rfl) ?_
  refine cw_seq good (cw_region good ?_)
  refine wpO_as (.bool false) (by kernel_rfl) ?_
  simp only [Act.put, List.setIfInBounds_toArray, List.set_cons_succ, List.set_cons_zero]
  refine cw_seq good (cw_region good ?_)
  refine wpO_call (f := 9) (first := #[]) (cap := #[]) (l := []) (xs := #[]) ⟨rfl, rfl, rfl⟩ rfl rfl rfl ⟨_, _, begun_call, ?_⟩
  simp only [Act.put, List.setIfInBounds_toArray, List.set_cons_succ, List.set_cons_zero]
  refine wpO_as (.bool true) (by kernel_rfl) ?_
  simp only [Act.put, List.setIfInBounds_toArray, List.set_cons_succ, List.set_cons_zero]
  refine cw_seq good (cw_seq good (cw_region good ?_))
  refine wpO_mv (.bool true) (by kernel_rfl) ?_
  refine wpO_val (aop_not (b := true) rfl (by kernel_rfl)) ?_
  simp only [Act.put, List.setIfInBounds_toArray, List.set_cons_succ, List.set_cons_zero]
  refine cw_cond good false (by kernel_rfl) (cw_skip good ?_)
  refine cw_seq good (cw_region good ?_)
  refine wpO_mv (.slice p1 l1.length c1) (by kernel_rfl) ?_
  simp only [Act.put, List.setIfInBounds_toArray, List.set_cons_succ, List.set_cons_zero]
  refine wpO_call (f := 10) (first := #[]) (cap := #[]) (l := [.slice p1 l1.length c1]) (xs := #[.slice p1 l1.length c1]) ⟨rfl, rfl, rfl⟩ rfl (by kernel_rfl) rfl ⟨_, _, cc1, ?_⟩
  simp only [Act.put, List.setIfInBounds_toArray, List.set_cons_succ, List.set_cons_zero]
  refine wpO_call (f := 11) (first := #[]) (cap := #[]) (l := [.slice p1 (l1.take 60).length c1]) (xs := #[.slice p1 (l1.take 60).length c1]) ⟨rfl, rfl, rfl⟩ rfl (by kernel_rfl) rfl ⟨_, _, co1, ?_⟩
  simp only [Act.put, List.setIfInBounds_toArray, List.set_cons_succ, List.set_cons_zero]
  refine wpO_mv (.slice p2 l2.length c2) (by kernel_rfl) ?_
  simp only [Act.put, List.setIfInBounds_toArray, List.set_cons_succ, List.set_cons_zero]
  refine wpO_call (f := 10) (first := #[]) (cap := #[]) (l := [.slice p2 l2.length c2]) (xs := #[.slice p2 l2.length c2]) ⟨rfl, rfl, rfl⟩ rfl (by kernel_rfl) rfl ⟨_, _, cc2, ?_⟩
  simp only [Act.put, List.setIfInBounds_toArray, List.set_cons_succ, List.set_cons_zero]
  refine wpO_call (f := 11) (first := #[]) (cap := #[]) (l := [.slice p2 (l2.take 60).length c2]) (xs := #[.slice p2 (l2.take 60).length c2]) ⟨rfl, rfl, rfl⟩ rfl (by kernel_rfl) rfl ⟨_, _, co2, ?_⟩
  simp only [Act.put, List.setIfInBounds_toArray, List.set_cons_succ, List.set_cons_zero]
  refine wpO_mv (.slice p3 l3.length c3) (by kernel_rfl) ?_
  simp only [Act.put, List.setIfInBounds_toArray, List.set_cons_succ, List.set_cons_zero]
  refine wpO_call (f := 10) (first := #[]) (cap := #[]) (l := [.slice p3 l3.length c3]) (xs := #[.slice p3 l3.length c3]) ⟨rfl, rfl, rfl⟩ rfl (by kernel_rfl) rfl ⟨_, _, cc3, ?_⟩
  simp only [Act.put, List.setIfInBounds_toArray, List.set_cons_succ, List.set_cons_zero]
  refine wpO_call (f := 11) (first := #[]) (cap := #[]) (l := [.slice p3 (l3.take 60).length c3]) (xs := #[.slice p3 (l3.take 60).length c3]) ⟨rfl, rfl, rfl⟩ rfl (by kernel_rfl) rfl ⟨_, _, co3, ?_⟩
  simp only [Act.put, List.setIfInBounds_toArray, List.set_cons_succ, List.set_cons_zero]
  refine wpO_val (aop_allocT (cs := #[.slice none 0 0]) rfl rfl rfl rfl) ?_
  rw [hq8, hA17]
  simp only [Act.put, List.setIfInBounds_toArray, List.set_cons_succ, List.set_cons_zero]
  refine wpO_val (aop_allocT (cs := #[.slice none 0 0]) rfl rfl rfl rfl) ?_
  rw [hq9, hA18]
  simp only [Act.put, List.setIfInBounds_toArray, List.set_cons_succ, List.set_cons_zero]
  refine wpO_val (aop_allocT (cs := #[.slice none 0 0]) rfl rfl rfl rfl) ?_
  rw [hq10, hA19]
  simp only [Act.put, List.setIfInBounds_toArray, List.set_cons_succ, List.set_cons_zero]
  refine wpO_unit (aop_storeT1 (p := ⟨q8, 0, none⟩) (v := x1) rfl (by kernel_rfl) (by kernel_rfl) rfl o12 (Asn.get hh20) (Asn.soft hh20)) ?_
  rw [hA21]
  simp only [Act.put]
  refine wpO_unit (aop_storeT1 (p := ⟨q9, 0, none⟩) (v := x2) rfl (by kernel_rfl) (by kernel_rfl) rfl o14 (Asn.get hh22) (Asn.soft hh22)) ?_
  rw [hA23]
  simp only [Act.put]
  refine wpO_unit (aop_storeT1 (p := ⟨q10, 0, none⟩) (v := x3) rfl (by kernel_rfl) (by kernel_rfl) rfl o16 (Asn.get hh24) (Asn.soft hh24)) ?_
  rw [hA25]
  simp only [Act.put]
  refine cw_seq good (cw_region good ?_)
  refine wpO_as (.int .i64 65536) (by kernel_rfl) ?_
  simp only [Act.put, List.setIfInBounds_toArray, List.set_cons_succ, List.set_cons_zero]
  refine cw_seq good (cw_region good ?_)
  refine wpO_val (aop_loadT (n := 1) (p := ⟨q8, 0, none⟩) (xs := #[x1]) rfl (by kernel_rfl) rfl hb27 rfl (Nat.le_refl 1) rfl) ?_
  simp only [Act.put, List.setIfInBounds_toArray, List.set_cons_succ, List.set_cons_zero]
  refine wpO_val (aop_loadT (n := 1) (p := ⟨q9, 0, none⟩) (xs := #[x2]) rfl (by kernel_rfl) rfl hb29 rfl (Nat.le_refl 1) rfl) ?_
  simp only [Act.put, List.setIfInBounds_toArray, List.set_cons_succ, List.set_cons_zero]
  refine wpO_call (f := 23) (first := #[]) (cap := #[]) (l := [.agg #[x1], .agg #[x2]]) (xs := #[.agg #[x1], .agg #[x2]]) ⟨rfl, rfl, rfl⟩ rfl (by kernel_rfl) rfl ⟨_, _, c31, ?_⟩
  simp only [Act.put, List.setIfInBounds_toArray, List.set_cons_succ, List.set_cons_zero]
  refine wpO_mv (.int .i64 65536) (by kernel_rfl) ?_
  simp only [Act.put, List.setIfInBounds_toArray, List.set_cons_succ, List.set_cons_zero]
  refine wpO_call (f := 26) (first := #[]) (cap := #[]) (l := [.agg #[v31], .int .i64 65536]) (xs := #[.agg #[v31], .int .i64 65536]) ⟨rfl, rfl, rfl⟩ rfl (by kernel_rfl) rfl ⟨_, _, c33, ?_⟩
  simp only [Act.put, List.setIfInBounds_toArray, List.set_cons_succ, List.set_cons_zero]
  refine wpO_val (aop_allocT (cs := #[.slice none 0 0]) rfl rfl rfl rfl) ?_
  rw [hq12, hA34]
  simp only [Act.put, List.setIfInBounds_toArray, List.set_cons_succ, List.set_cons_zero]
  refine wpO_unit (aop_storeT1 (p := ⟨q12, 0, none⟩) (v := v33) rfl (by kernel_rfl) (by kernel_rfl) rfl o36 (Asn.get hh37) (Asn.soft hh37)) ?_
  rw [hA38]
  simp only [Act.put]
  refine cw_seq good (ca_draw good [.agg #[x1], .int .i64 65536, .agg #[v44], .agg #[x2], .int .i64 65536, .agg #[v48], .agg #[v50], ptr q13, undef] [A38, A38, A38, A44, A44, A44, A48, A50, A51, A55] (by kernel_rfl) rfl ?_ ⟨#[.slice p1 l1.length c1, .slice p2 l2.length c2, .slice p3 l3.length c3, undef, undef, undef, .bool false, .bool true, ptr q8, ptr q9, ptr q10, .int .i64 65536, ptr q12, ptr q13, undef, undef, .bool true, .bool true, .bool (!true), .slice p1 l1.length c1, .slice p1 (l1.take 60).length c1, .agg #[x1], .slice p2 l2.length c2, .slice p2 (l2.take 60).length c2, .agg #[x2], .slice p3 l3.length c3, .slice p3 (l3.take 60).length c3, .agg #[x3], .agg #[x1], .agg #[x2], .agg #[v31], .int .i64 65536, .agg #[v33], .agg #[x1], .int .i64 65536, .agg #[v44], .agg #[x2], .int .i64 65536, .agg #[v48], .agg #[v50], undef, undef, undef, undef, undef, undef, undef, undef, undef, undef, undef, undef, undef, undef, undef, undef, undef, undef, undef, undef, undef, undef, undef, undef, undef, undef, undef, undef, undef, undef, undef, undef, undef, undef, undef, undef, undef, undef, undef, undef, undef, undef, undef, undef, undef, undef, undef, undef], []⟩ _ (by kernel_rfl) rfl ?_)
  · intro jj o ho
    match jj, ho with
    | 0, ho => cases ho; exact sa_quiet rfl [2] (all1 (aop_loadT (n := 1) (p := ⟨q8, 0, none⟩) (xs := #[x1]) rfl (by kernel_rfl) rfl hb40 rfl (Nat.le_refl 1) rfl)) rfl
    | 1, ho => cases ho; exact sa_quiet rfl [2] (all1 (aop_mv rfl (by kernel_rfl))) rfl
    | 2, ho => cases ho; exact sa_acts rfl (run_named (f := 26) (l := [.agg #[x1], .int .i64 65536]) ⟨rfl, rfl, rfl⟩ c44 (by kernel_rfl) (by kernel_rfl))
    | 3, ho => cases ho; exact sa_quiet rfl [2, 5] (all2 (aop_loadT (n := 1) (p := ⟨q9, 0, none⟩) (xs := #[x2]) rfl (by kernel_rfl) rfl hb42 rfl (Nat.le_refl 1) rfl) (aop_loadT (n := 1) (p := ⟨q9, 0, none⟩) (xs := #[x2]) rfl (by kernel_rfl) rfl hb46 rfl (Nat.le_refl 1) rfl)) rfl
    | 4, ho => cases ho; exact sa_quiet rfl [2, 5] (all2 (aop_mv rfl (by kernel_rfl)) (aop_mv rfl (by kernel_rfl))) rfl
    | 5, ho => cases ho; exact sa_acts rfl (run_named (f := 26) (l := [.agg #[x2], .int .i64 65536]) ⟨rfl, rfl, rfl⟩ c48 (by kernel_rfl) (by kernel_rfl))
    | 6, ho => cases ho; exact sa_acts rfl (run_named (f := 22) (l := [.agg #[v44], .agg #[v48]]) ⟨rfl, rfl, rfl⟩ c50 (by kernel_rfl) (by kernel_rfl))
    | 7, ho => cases ho; exact sa_makes rfl (.cells #[.slice none 0 0] 27 (0, 0)) hA51.symm rfl (.inl (congrArg ptr hq13.symm)) ptr (congrArg ptr hq13.symm) (fun w => ⟨run_alloc1.1, run_alloc1.2 _ rfl⟩) [8] (all1 (by show A51.heap[A50.heap.size]? = _; rw [hq13]; exact al51))
    | 8, ho => cases ho; exact sa_acts rfl (run_store1 (p := ⟨q13, 0, none⟩) (v := v50) rfl (by kernel_rfl) (by kernel_rfl) rfl o53 (Asn.get hh54) (Asn.soft hh54) hA55)
    | n + 9, ho => simp at ho
  refine cw_seq good (ca_draw good [.agg #[x1], .agg #[x2], .agg #[x3], .agg #[v63], .agg #[v67], ptr q14, undef] [A55, A55, A55, A55, A63, A67, A68, A72] (by kernel_rfl) rfl ?_ ⟨#[.slice p1 l1.length c1, .slice p2 l2.length c2, .slice p3 l3.length c3, undef, undef, undef, .bool false, .bool true, ptr q8, ptr q9, ptr q10, .int .i64 65536, ptr q12, ptr q13, ptr q14, undef, .bool true, .bool true, .bool (!true), .slice p1 l1.length c1, .slice p1 (l1.take 60).length c1, .agg #[x1], .slice p2 l2.length c2, .slice p2 (l2.take 60).length c2, .agg #[x2], .slice p3 l3.length c3, .slice p3 (l3.take 60).length c3, .agg #[x3], .agg #[x1], .agg #[x2], .agg #[v31], .int .i64 65536, .agg #[v33], .agg #[x1], .int .i64 65536, .agg #[v44], .agg #[x2], .int .i64 65536, .agg #[v48], .agg #[v50], .agg #[x1], .agg #[x2], .agg #[x3], .agg #[v63], .agg #[v67], undef, undef, undef, undef, undef, undef, undef, undef, undef, undef, undef, undef, undef, undef, undef, undef, undef, undef, undef, undef, undef, undef, undef, undef, undef, undef, undef, undef, undef, undef, undef, undef, undef, undef, undef, undef, undef, undef, undef, undef, undef, undef, undef], []⟩ _ (by kernel_rfl) rfl ?_)
  · intro jj o ho
    match jj, ho with
    | 0, ho => cases ho; exact sa_quiet rfl [3, 4] (all2 (aop_loadT (n := 1) (p := ⟨q8, 0, none⟩) (xs := #[x1]) rfl (by kernel_rfl) rfl hb57 rfl (Nat.le_refl 1) rfl) (aop_loadT (n := 1) (p := ⟨q8, 0, none⟩) (xs := #[x1]) rfl (by kernel_rfl) rfl hb65 rfl (Nat.le_refl 1) rfl)) rfl
    | 1, ho => cases ho; exact sa_quiet rfl [3] (all1 (aop_loadT (n := 1) (p := ⟨q9, 0, none⟩) (xs := #[x2]) rfl (by kernel_rfl) rfl hb59 rfl (Nat.le_refl 1) rfl)) rfl
    | 2, ho => cases ho; exact sa_quiet rfl [3] (all1 (aop_loadT (n := 1) (p := ⟨q10, 0, none⟩) (xs := #[x3]) rfl (by kernel_rfl) rfl hb61 rfl (Nat.le_refl 1) rfl)) rfl
    | 3, ho => cases ho; exact sa_acts rfl (run_named (f := 23) (l := [.agg #[x2], .agg #[x3]]) ⟨rfl, rfl, rfl⟩ c63 (by kernel_rfl) (by kernel_rfl))
    | 4, ho => cases ho; exact sa_acts rfl (run_named (f := 22) (l := [.agg #[x1], .agg #[v63]]) ⟨rfl, rfl, rfl⟩ c67 (by kernel_rfl) (by kernel_rfl))
    | 5, ho => cases ho; exact sa_makes rfl (.cells #[.slice none 0 0] 27 (0, 0)) hA68.symm rfl (.inl (congrArg ptr hq14.symm)) ptr (congrArg ptr hq14.symm) (fun w => ⟨run_alloc1.1, run_alloc1.2 _ rfl⟩) [6] (all1 (by show A68.heap[A67.heap.size]? = _; rw [hq14]; exact al68))
    | 6, ho => cases ho; exact sa_acts rfl (run_store1 (p := ⟨q14, 0, none⟩) (v := v67) rfl (by kernel_rfl) (by kernel_rfl) rfl o70 (Asn.get hh71) (Asn.soft hh71) hA72)
    | n + 7, ho => simp at ho
  refine cw_seq good (ca_draw good [.agg #[x1], .agg #[x2], .agg #[v80], .agg #[x1], .agg #[x3], .agg #[v86], .agg #[v88], ptr q15, undef] [A72, A72, A72, A80, A80, A80, A86, A88, A89, A93] (by kernel_rfl) rfl ?_ ⟨#[.slice p1 l1.length c1, .slice p2 l2.length c2, .slice p3 l3.length c3, undef, undef, undef, .bool false, .bool true, ptr q8, ptr q9, ptr q10, .int .i64 65536, ptr q12, ptr q13, ptr q14, ptr q15, .bool true, .bool true, .bool (!true), .slice p1 l1.length c1, .slice p1 (l1.take 60).length c1, .agg #[x1], .slice p2 l2.length c2, .slice p2 (l2.take 60).length c2, .agg #[x2], .slice p3 l3.length c3, .slice p3 (l3.take 60).length c3, .agg #[x3], .agg #[x1], .agg #[x2], .agg #[v31], .int .i64 65536, .agg #[v33], .agg #[x1], .int .i64 65536, .agg #[v44], .agg #[x2], .int .i64 65536, .agg #[v48], .agg #[v50], .agg #[x1], .agg #[x2], .agg #[x3], .agg #[v63], .agg #[v67], .agg #[x1], .agg #[x2], .agg #[v80], .agg #[x1], .agg #[x3], .agg #[v86], .agg #[v88], undef, undef, undef, undef, undef, undef, undef, undef, undef, undef, undef, undef, undef, undef, undef, undef, undef, undef, undef, undef, undef, undef, undef, undef, undef, undef, undef, undef, undef, undef, undef, undef, undef, undef, undef, undef], []⟩ _ (by kernel_rfl) rfl ?_)
  · intro jj o ho
    match jj, ho with
    | 0, ho => cases ho; exact sa_quiet rfl [2] (all1 (aop_loadT (n := 1) (p := ⟨q8, 0, none⟩) (xs := #[x1]) rfl (by kernel_rfl) rfl hb74 rfl (Nat.le_refl 1) rfl)) rfl
    | 1, ho => cases ho; exact sa_quiet rfl [2] (all1 (aop_loadT (n := 1) (p := ⟨q9, 0, none⟩) (xs := #[x2]) rfl (by kernel_rfl) rfl hb76 rfl (Nat.le_refl 1) rfl)) rfl
    | 2, ho => cases ho; exact sa_acts rfl (run_named (f := 22) (l := [.agg #[x1], .agg #[x2]]) ⟨rfl, rfl, rfl⟩ c80 (by kernel_rfl) (by kernel_rfl))
    | 3, ho => cases ho; exact sa_quiet rfl [2, 5] (all2 (aop_loadT (n := 1) (p := ⟨q8, 0, none⟩) (xs := #[x1]) rfl (by kernel_rfl) rfl hb74 rfl (Nat.le_refl 1) rfl) (aop_loadT (n := 1) (p := ⟨q8, 0, none⟩) (xs := #[x1]) rfl (by kernel_rfl) rfl hb82 rfl (Nat.le_refl 1) rfl)) rfl
    | 4, ho => cases ho; exact sa_quiet rfl [2, 5] (all2 (aop_loadT (n := 1) (p := ⟨q10, 0, none⟩) (xs := #[x3]) rfl (by kernel_rfl) rfl hb78 rfl (Nat.le_refl 1) rfl) (aop_loadT (n := 1) (p := ⟨q10, 0, none⟩) (xs := #[x3]) rfl (by kernel_rfl) rfl hb84 rfl (Nat.le_refl 1) rfl)) rfl
    | 5, ho => cases ho; exact sa_acts rfl (run_named (f := 22) (l := [.agg #[x1], .agg #[x3]]) ⟨rfl, rfl, rfl⟩ c86 (by kernel_rfl) (by kernel_rfl))
    | 6, ho => cases ho; exact sa_acts rfl (run_named (f := 23) (l := [.agg #[v80], .agg #[v86]]) ⟨rfl, rfl, rfl⟩ c88 (by kernel_rfl) (by kernel_rfl))
    | 7, ho => cases ho; exact sa_makes rfl (.cells #[.slice none 0 0] 27 (0, 0)) hA89.symm rfl (.inl (congrArg ptr hq15.symm)) ptr (congrArg ptr hq15.symm) (fun w => ⟨run_alloc1.1, run_alloc1.2 _ rfl⟩) [8] (all1 (by show A89.heap[A88.heap.size]? = _; rw [hq15]; exact al89))
    | 8, ho => cases ho; exact sa_acts rfl (run_store1 (p := ⟨q15, 0, none⟩) (v := v88) rfl (by kernel_rfl) (by kernel_rfl) rfl o91 (Asn.get hh92) (Asn.soft hh92) hA93)
    | n + 9, ho => simp at ho
  refine cw_seq good (ca_draw good [.agg #[v33], .agg #[v50], .bool true, .bool true, .agg #[v67], .agg #[v88], .bool true, .bool true, .bool true, .agg #[x1], .agg #[x2], .agg #[v113], .agg #[x1], .agg #[x2], .agg #[v119], .agg #[v123], .agg #[x1], .bool true, .bool true, .bool true, .agg #[x1], .agg #[x2], .agg #[v134], .int .i64 (count m134), .agg #[x1], .agg #[x2], .agg #[v146], .int .i64 (count m146), .int .i64 (count m134 + count m146), .agg #[x1], .int .i64 (count mx), .agg #[x2], .int .i64 (count my), .int .i64 (count mx + count my), .bool true, .bool true, .bool true] [A93, A93, A93, A99, A99, A99, A99, A106, A106, A106, A106, A106, A113, A113, A113, A119, A123, A123, A127, A127, A127, A127, A127, A134, A140, A140, A140, A146, A152, A152, A152, A158, A158, A162, A162, A162, A162, A162] (by kernel_rfl) rfl ?_ ⟨#[.slice p1 l1.length c1, .slice p2 l2.length c2, .slice p3 l3.length c3, undef, undef, undef, .bool true, .bool true, ptr q8, ptr q9, ptr q10, .int .i64 65536, ptr q12, ptr q13, ptr q14, ptr q15, .bool true, .bool true, .bool (!true), .slice p1 l1.length c1, .slice p1 (l1.take 60).length c1, .agg #[x1], .slice p2 l2.length c2, .slice p2 (l2.take 60).length c2, .agg #[x2], .slice p3 l3.length c3, .slice p3 (l3.take 60).length c3, .agg #[x3], .agg #[x1], .agg #[x2], .agg #[v31], .int .i64 65536, .agg #[v33], .agg #[x1], .int .i64 65536, .agg #[v44], .agg #[x2], .int .i64 65536, .agg #[v48], .agg #[v50], .agg #[x1], .agg #[x2], .agg #[x3], .agg #[v63], .agg #[v67], .agg #[x1], .agg #[x2], .agg #[v80], .agg #[x1], .agg #[x3], .agg #[v86], .agg #[v88], .agg #[v33], .agg #[v50], .bool true, .bool true, .agg #[v67], .agg #[v88], .bool true, .bool true, .bool true, .agg #[x1], .agg #[x2], .agg #[v113], .agg #[x1], .agg #[x2], .agg #[v119], .agg #[v123], .agg #[x1], .bool true, .bool true, .bool true, .agg #[x1], .agg #[x2], .agg #[v134], .int .i64 (count m134), .agg #[x1], .agg #[x2], .agg #[v146], .int .i64 (count m146), .int .i64 (count m134 + count m146), .agg #[x1], .int .i64 (count mx), .agg #[x2], .int .i64 (count my), .int .i64 (count mx + count my), .bool true, .bool true], []⟩ _ (by kernel_rfl) rfl ?_)
  · intro jj o ho
    match jj, ho with
    | 0, ho => cases ho; exact sa_quiet rfl [2] (all1 (aop_loadT (n := 1) (p := ⟨q12, 0, none⟩) (xs := #[v33]) rfl (by kernel_rfl) rfl hb95 rfl (Nat.le_refl 1) rfl)) rfl
    | 1, ho => cases ho; exact sa_quiet rfl [2] (all1 (aop_loadT (n := 1) (p := ⟨q13, 0, none⟩) (xs := #[v50]) rfl (by kernel_rfl) rfl hb97 rfl (Nat.le_refl 1) rfl)) rfl
    | 2, ho => cases ho; exact sa_acts rfl (run_named (f := 25) (l := [.agg #[v33], .agg #[v50]]) ⟨rfl, rfl, rfl⟩ c99 (by kernel_rfl) (by kernel_rfl))
    | 3, ho => cases ho; exact sa_quiet rfl [6] (all1 (aop_mv rfl (by kernel_rfl))) rfl
    | 4, ho => cases ho; exact sa_quiet rfl [6] (all1 (aop_loadT (n := 1) (p := ⟨q14, 0, none⟩) (xs := #[v67]) rfl (by kernel_rfl) rfl hb102 rfl (Nat.le_refl 1) rfl)) rfl
    | 5, ho => cases ho; exact sa_quiet rfl [6] (all1 (aop_loadT (n := 1) (p := ⟨q15, 0, none⟩) (xs := #[v88]) rfl (by kernel_rfl) rfl hb104 rfl (Nat.le_refl 1) rfl)) rfl
    | 6, ho => cases ho; exact sa_acts rfl (run_named (f := 25) (l := [.agg #[v67], .agg #[v88]]) ⟨rfl, rfl, rfl⟩ c106 (by kernel_rfl) (by kernel_rfl))
    | 7, ho => cases ho; exact sa_quiet rfl [11] (all1 (aop_picks (b := true) rfl (by kernel_rfl) (by kernel_rfl))) rfl
    | 8, ho => cases ho; exact sa_quiet rfl [11] (all1 (aop_mv rfl (by kernel_rfl))) rfl
    | 9, ho => cases ho; exact sa_quiet rfl [11] (all1 (aop_loadT (n := 1) (p := ⟨q8, 0, none⟩) (xs := #[x1]) rfl (by kernel_rfl) rfl hb109 rfl (Nat.le_refl 1) rfl)) rfl
    | 10, ho => cases ho; exact sa_quiet rfl [11] (all1 (aop_loadT (n := 1) (p := ⟨q9, 0, none⟩) (xs := #[x2]) rfl (by kernel_rfl) rfl hb111 rfl (Nat.le_refl 1) rfl)) rfl
    | 11, ho => cases ho; exact sa_acts rfl (run_named (f := 24) (l := [.agg #[x1], .agg #[x2]]) ⟨rfl, rfl, rfl⟩ c113 (by kernel_rfl) (by kernel_rfl))
    | 12, ho => cases ho; exact sa_quiet rfl [11, 14] (all2 (aop_loadT (n := 1) (p := ⟨q8, 0, none⟩) (xs := #[x1]) rfl (by kernel_rfl) rfl hb109 rfl (Nat.le_refl 1) rfl) (aop_loadT (n := 1) (p := ⟨q8, 0, none⟩) (xs := #[x1]) rfl (by kernel_rfl) rfl hb115 rfl (Nat.le_refl 1) rfl)) rfl
    | 13, ho => cases ho; exact sa_quiet rfl [11, 14] (all2 (aop_loadT (n := 1) (p := ⟨q9, 0, none⟩) (xs := #[x2]) rfl (by kernel_rfl) rfl hb111 rfl (Nat.le_refl 1) rfl) (aop_loadT (n := 1) (p := ⟨q9, 0, none⟩) (xs := #[x2]) rfl (by kernel_rfl) rfl hb117 rfl (Nat.le_refl 1) rfl)) rfl
    | 14, ho => cases ho; exact sa_acts rfl (run_named (f := 22) (l := [.agg #[x1], .agg #[x2]]) ⟨rfl, rfl, rfl⟩ c119 (by kernel_rfl) (by kernel_rfl))
    | 15, ho => cases ho; exact sa_acts rfl (run_named (f := 23) (l := [.agg #[v113], .agg #[v119]]) ⟨rfl, rfl, rfl⟩ c123 (by kernel_rfl) (by kernel_rfl))
    | 16, ho => cases ho; exact sa_quiet rfl [11, 14, 15, 17] (all4 (aop_loadT (n := 1) (p := ⟨q8, 0, none⟩) (xs := #[x1]) rfl (by kernel_rfl) rfl hb109 rfl (Nat.le_refl 1) rfl) (aop_loadT (n := 1) (p := ⟨q8, 0, none⟩) (xs := #[x1]) rfl (by kernel_rfl) rfl hb115 rfl (Nat.le_refl 1) rfl) (aop_loadT (n := 1) (p := ⟨q8, 0, none⟩) (xs := #[x1]) rfl (by kernel_rfl) rfl hb121 rfl (Nat.le_refl 1) rfl) (aop_loadT (n := 1) (p := ⟨q8, 0, none⟩) (xs := #[x1]) rfl (by kernel_rfl) rfl hb125 rfl (Nat.le_refl 1) rfl)) rfl
    | 17, ho => cases ho; exact sa_acts rfl (run_named (f := 25) (l := [.agg #[v123], .agg #[x1]]) ⟨rfl, rfl, rfl⟩ c127 (by kernel_rfl) (by kernel_rfl))
    | 18, ho => cases ho; exact sa_quiet rfl [22] (all1 (aop_picks (b := true) rfl (by kernel_rfl) (by kernel_rfl))) rfl
    | 19, ho => cases ho; exact sa_quiet rfl [22] (all1 (aop_mv rfl (by kernel_rfl))) rfl
    | 20, ho => cases ho; exact sa_quiet rfl [22] (all1 (aop_loadT (n := 1) (p := ⟨q8, 0, none⟩) (xs := #[x1]) rfl (by kernel_rfl) rfl hb130 rfl (Nat.le_refl 1) rfl)) rfl
    | 21, ho => cases ho; exact sa_quiet rfl [22] (all1 (aop_loadT (n := 1) (p := ⟨q9, 0, none⟩) (xs := #[x2]) rfl (by kernel_rfl) rfl hb132 rfl (Nat.le_refl 1) rfl)) rfl
    | 22, ho => cases ho; exact sa_acts rfl (run_named (f := 23) (l := [.agg #[x1], .agg #[x2]]) ⟨rfl, rfl, rfl⟩ c134 (by kernel_rfl) (by kernel_rfl))
    | 23, ho => cases ho; exact sa_acts rfl (run_named (f := 28) (l := [.agg #[v134]]) ⟨rfl, rfl, rfl⟩ c140 (by kernel_rfl) (by kernel_rfl))
    | 24, ho => cases ho; exact sa_quiet rfl [22, 23, 26] (all3 (aop_loadT (n := 1) (p := ⟨q8, 0, none⟩) (xs := #[x1]) rfl (by kernel_rfl) rfl hb130 rfl (Nat.le_refl 1) rfl) (aop_loadT (n := 1) (p := ⟨q8, 0, none⟩) (xs := #[x1]) rfl (by kernel_rfl) rfl hb136 rfl (Nat.le_refl 1) rfl) (aop_loadT (n := 1) (p := ⟨q8, 0, none⟩) (xs := #[x1]) rfl (by kernel_rfl) rfl hb142 rfl (Nat.le_refl 1) rfl)) rfl
    | 25, ho => cases ho; exact sa_quiet rfl [22, 23, 26] (all3 (aop_loadT (n := 1) (p := ⟨q9, 0, none⟩) (xs := #[x2]) rfl (by kernel_rfl) rfl hb132 rfl (Nat.le_refl 1) rfl) (aop_loadT (n := 1) (p := ⟨q9, 0, none⟩) (xs := #[x2]) rfl (by kernel_rfl) rfl hb138 rfl (Nat.le_refl 1) rfl) (aop_loadT (n := 1) (p := ⟨q9, 0, none⟩) (xs := #[x2]) rfl (by kernel_rfl) rfl hb144 rfl (Nat.le_refl 1) rfl)) rfl
    | 26, ho => cases ho; exact sa_acts rfl (run_named (f := 22) (l := [.agg #[x1], .agg #[x2]]) ⟨rfl, rfl, rfl⟩ c146 (by kernel_rfl) (by kernel_rfl))
    | 27, ho => cases ho; exact sa_acts rfl (run_named (f := 28) (l := [.agg #[v146]]) ⟨rfl, rfl, rfl⟩ c152 (by kernel_rfl) (by kernel_rfl))
    | 28, ho => cases ho; exact sa_quiet rfl [30, 32, 37] (all3 (aop_int (k := .i64) (m := count m134) (n := count m146) rfl (by kernel_rfl) (by kernel_rfl) (intV_add rfl (by omega) (by omega))) (aop_int (k := .i64) (m := count m134) (n := count m146) rfl (by kernel_rfl) (by kernel_rfl) (intV_add rfl (by omega) (by omega))) (aop_int (k := .i64) (m := count m134) (n := count m146) rfl (by kernel_rfl) (by kernel_rfl) (intV_add rfl (by omega) (by omega)))) rfl
    | 29, ho => cases ho; exact sa_quiet rfl [22, 23, 26, 27, 30] (all5 (aop_loadT (n := 1) (p := ⟨q8, 0, none⟩) (xs := #[x1]) rfl (by kernel_rfl) rfl hb130 rfl (Nat.le_refl 1) rfl) (aop_loadT (n := 1) (p := ⟨q8, 0, none⟩) (xs := #[x1]) rfl (by kernel_rfl) rfl hb136 rfl (Nat.le_refl 1) rfl) (aop_loadT (n := 1) (p := ⟨q8, 0, none⟩) (xs := #[x1]) rfl (by kernel_rfl) rfl hb142 rfl (Nat.le_refl 1) rfl) (aop_loadT (n := 1) (p := ⟨q8, 0, none⟩) (xs := #[x1]) rfl (by kernel_rfl) rfl hb148 rfl (Nat.le_refl 1) rfl) (aop_loadT (n := 1) (p := ⟨q8, 0, none⟩) (xs := #[x1]) rfl (by kernel_rfl) rfl hb154 rfl (Nat.le_refl 1) rfl)) rfl
    | 30, ho => cases ho; exact sa_acts rfl (run_named (f := 28) (l := [.agg #[x1]]) ⟨rfl, rfl, rfl⟩ c158 (by kernel_rfl) (by kernel_rfl))
    | 31, ho => cases ho; exact sa_quiet rfl [22, 23, 26, 27, 30, 32] (all6 (aop_loadT (n := 1) (p := ⟨q9, 0, none⟩) (xs := #[x2]) rfl (by kernel_rfl) rfl hb132 rfl (Nat.le_refl 1) rfl) (aop_loadT (n := 1) (p := ⟨q9, 0, none⟩) (xs := #[x2]) rfl (by kernel_rfl) rfl hb138 rfl (Nat.le_refl 1) rfl) (aop_loadT (n := 1) (p := ⟨q9, 0, none⟩) (xs := #[x2]) rfl (by kernel_rfl) rfl hb144 rfl (Nat.le_refl 1) rfl) (aop_loadT (n := 1) (p := ⟨q9, 0, none⟩) (xs := #[x2]) rfl (by kernel_rfl) rfl hb150 rfl (Nat.le_refl 1) rfl) (aop_loadT (n := 1) (p := ⟨q9, 0, none⟩) (xs := #[x2]) rfl (by kernel_rfl) rfl hb156 rfl (Nat.le_refl 1) rfl) (aop_loadT (n := 1) (p := ⟨q9, 0, none⟩) (xs := #[x2]) rfl (by kernel_rfl) rfl hb160 rfl (Nat.le_refl 1) rfl)) rfl
    | 32, ho => cases ho; exact sa_acts rfl (run_named (f := 28) (l := [.agg #[x2]]) ⟨rfl, rfl, rfl⟩ c162 (by kernel_rfl) (by kernel_rfl))
    | 33, ho => cases ho; exact sa_quiet rfl [37] (all1 (aop_int (k := .i64) (m := count mx) (n := count my) rfl (by kernel_rfl) (by kernel_rfl) (intV_add rfl (by omega) (by omega)))) rfl
    | 34, ho => cases ho; exact sa_quiet rfl [37] (all1 (aop_int (k := .i64) (m := count m134 + count m146) (n := count mx + count my) rfl (by kernel_rfl) (by kernel_rfl) (by simp [intV]; omega))) rfl
    | 35, ho => cases ho; exact sa_quiet rfl [37] (all1 (aop_picks (b := true) rfl (by kernel_rfl) (by kernel_rfl))) rfl
    | 36, ho => cases ho; exact sa_quiet rfl [37] (all1 (aop_as rfl (by kernel_rfl))) rfl
    | n + 37, ho => simp at ho
  exact cw_ret good (ret_one (.bool true) (by kernel_rfl) rfl)
end Go.Proofs.Ytfkdkfleaiaoiaa
