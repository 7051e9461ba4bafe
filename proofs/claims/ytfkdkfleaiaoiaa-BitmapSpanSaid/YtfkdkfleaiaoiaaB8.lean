/-
  ABS B8: lists of any values of one cell each, as they grow; writes and reads within a block of one's own.
-/
import Derived.Test.YtfkdkfleaiaoiaaB7
namespace Go.Abs
section
variable {P : Program}
/-- A list of values that may be read. -/
def RdV (A : World) (p : Option Addr) (l : List Value) : Prop := ∀ (i : Nat) (x : Value), l[i]? = some x → ∃ ad, p = some ad ∧ A.cell? (ad.add (i * 1)) = some x
/-- A list of one's own that an append has grown (or that is nil). -/
def lstG (t : TypeId) (v : Value) (l : List Value) : Asn := fun F A => (l = [] ∧ v = .slice none 0 0 ∧ ∀ b, ¬ F b) ∨ (l ≠ [] ∧ ∃ d, v = .slice (some ⟨d, 0, none⟩) l.length l.length ∧ blk d (.cells l.toArray t (1, 0)) F A)
theorem Owns.lstG {t : TypeId} {v : Value} {l : List Value} : Owns (lstG t v l) := by
  refine ⟨fun {F A b} h hb => ?_, fun {F A A'} h hk hr => ?_⟩
  · rcases h with ⟨_, _, h⟩ | ⟨_, d, _, h⟩
    · exact (h _ hb).elim
    · exact Owns.blk.lt h hb
  · rcases h with ⟨e, e', h⟩ | ⟨e, d, e', h⟩
    · exact .inl ⟨e, e', h⟩
    · exact .inr ⟨e, d, e', Owns.blk.loc h hk hr⟩
theorem lstG_rd {t : TypeId} {v : Value} {l : List Value} {F : Foot} {A : World} (h : lstG t v l F A) : ∃ p, v = .slice p l.length l.length ∧ RdV A p l := by
  rcases h with ⟨rfl, rfl, _⟩ | ⟨_, d, rfl, h⟩
  · exact ⟨none, rfl, fun i x hx => by simp at hx⟩
  · refine ⟨_, rfl, fun i x hx => ⟨_, rfl, ?_⟩⟩
    rw [cell_add (a := ⟨d, 0, none⟩) h.2 rfl]
    simp [hx]
theorem lstV_lstG {t : TypeId} {v : Value} {acc : List Int} {F : Foot} {A : World} : lstV t v acc F A ↔ lstG t v (acc.map (Value.int .i64)) F A := by
  unfold lstV lstG ints
  simp
theorem lstG_grow {sT xT e : TypeId} (T : AppTy P sT xT e) {v : Value} {acc l : List Value} {R : Asn} {F : Foot} {A : World} {p : Option Addr} {n c2 : Nat} (hR : Owns R) (h : ((lstG e v acc).sep R) F A) (hr : RdV A p l) (ho : ∀ x ∈ l, isOne x = true) (hn : n = l.length) (hlen : acc.length + l.length ≤ 16777216) :
    ∃ v' A2 F2, (∀ (o : Oper) (c : Call) (ρ : Operand → Value), o.op = .call c → c.callee = .builtin .append → c.argTypes = #[sT, xT] → c.args.toList.map ρ = [v, .slice p n c2] → AOp P ρ o A (.value v') A2) ∧
      ((lstG e v' (acc ++ l)).sep R) F2 A2 ∧ Step F A F2 A2 := by
  subst hn
  obtain ⟨e', hx⟩ := T.x
  obtain ⟨ie, z, hi, hz, hz1, hsz, hby⟩ := T.i
  have hAt : ∀ c : Call, c.argTypes = #[sT, xT] → AppAt P c.argTypes e ie z ∧ zerosOf P c.argTypes = false := fun c ht =>
    ⟨⟨hz, ⟨sT, by rw [ht]; rfl, T.s⟩, hi, fun t h => by rw [ht] at h; cases h; exact .inl ⟨_, hx⟩⟩, by simp [zerosOf, ht, hx]⟩
  have hall : l.toArray.toList.all isOne = true := by simpa using ho
  have hsl : ∃ b, v = .slice b acc.length acc.length ∧ ((acc = [] ∧ b = none) ∨ (acc ≠ [] ∧ ∃ d, b = some ⟨d, 0, none⟩)) := by
    obtain ⟨F1, _, h1, _⟩ := h
    rcases h1 with ⟨rfl, rfl, _⟩ | ⟨hne, d, rfl, _⟩
    · exact ⟨none, rfl, .inl ⟨rfl, rfl⟩⟩
    · exact ⟨_, rfl, .inr ⟨hne, d, rfl⟩⟩
  obtain ⟨b, rfl, hb⟩ := hsl
  have hsrc : ∀ c : Call, c.argTypes = #[sT, xT] → (appSrc (zerosOf P c.argTypes) e ie.size l.length (.slice p l.length c2)).run P A = .ok l.toArray A := fun c ht => by
    rw [(hAt c ht).2, hsz]
    simp only [appSrc, Bool.not_false, if_true]
    cases p with
    | none =>
      have : l = [] := by
        cases l with
        | nil => rfl
        | cons y l => obtain ⟨ad, e, _⟩ := hr 0 y rfl; cases e
      subst this
      simp [Builtin.firstCells]
    | some ad =>
      have := run_loadCells_at (P := P) (A := A) l ad 0 #[] (fun j x hx => by
        obtain ⟨ad', e1, hc⟩ := hr j x hx
        cases e1
        rw [Nat.zero_add]
        rwa [Nat.mul_one] at hc)
      simpa [Builtin.firstCells, loadCells] using this
  by_cases hl0 : l = []
  · subst hl0
    refine ⟨_, A, F, fun o c ρ ho hc ht ha => .inr (.inr (.inl ⟨c, _, ho, hc, rfl, e, ie, z, b, acc.length, acc.length, _, 0, (hAt c ht).1, map_list ha, by rw [(hAt c ht).2]; rfl, .inl ⟨Nat.le_refl _, #[], hsrc c ht, ?_, rfl⟩⟩)), ?_, .refl⟩
    · cases b <;> rfl
    · rw [List.append_nil]; exact h
  · have hl1 : 0 < l.length := List.length_pos_iff.2 hl0
    rcases hb with ⟨rfl, rfl⟩ | ⟨hne, d, rfl⟩
    · obtain ⟨F1, h1, S1⟩ := Asn.newO (Owns.sep Owns.lstG hR) h (.cells l.toArray e (1, 0))
      obtain ⟨F2, h2, S2⟩ := Asn.drop (Asn.swap h1)
      refine ⟨.slice (some ⟨A.heap.size, 0, none⟩) l.length l.length, _, F2, fun o c ρ ho hc ht ha => .inr (.inr (.inl ⟨c, _, ho, hc, rfl, e, ie, z, none, 0, 0, _, l.length, (hAt c ht).1, map_list ha, by rw [(hAt c ht).2]; rfl,
        .inr ⟨by omega, Nat.le_refl _, by simpa using hlen, hby, by rw [isOne_cells hz1, hsz]; rfl, #[], l.toArray, rfl, hsrc c ht, by simp, by simp, by simp [hsz], hall, .inl ⟨by simp, fun a h => by cases h⟩⟩⟩)), ?_, S1.trans S2⟩
      refine Asn.map h2 fun F hb => .inr ⟨by simpa using hl0, A.heap.size, by simp, by simpa using hb⟩
    · have hl2 : 0 < acc.length := List.length_pos_iff.2 hne
      have hblk : ((blk d (.cells acc.toArray e (1, 0))).sep R) F A := Asn.map h fun F hb => by
        rcases hb with ⟨e1, _⟩ | ⟨_, d', e1, hb⟩
        · exact absurd e1 hne
        · cases e1; exact hb
      obtain ⟨hk, Sk⟩ := Asn.killed (e := e) hR hblk
      obtain ⟨F1, h1, S1⟩ := Asn.newO (Owns.sep Owns.blk hR) hk (.cells (acc.toArray ++ l.toArray) e (1, 0))
      obtain ⟨F2, h2, S2⟩ := Asn.drop (Asn.swap h1)
      have hold : (Builtin.firstCells ie.size acc.length (.slice (some ⟨d, 0, none⟩) acc.length acc.length)).run P A = .ok acc.toArray A := by
        have := run_loadCells (P := P) acc.length ⟨d, 0, none⟩ 0 #[] acc.toArray e (1, 0) (Asn.at hblk) rfl (by simp)
        rw [hsz]
        have e1 : acc.toArray.extract 0 acc.length = acc.toArray := by
          have : acc.length = acc.toArray.size := by simp
          rw [this]; simp
        simpa [Builtin.firstCells, loadCells, e1] using this
      have esz : (kill A d e).heap.size = A.heap.size := kill_size _ _
      rw [esz] at h2
      refine ⟨.slice (some ⟨A.heap.size, 0, none⟩) (acc.length + l.length) (acc.length + l.length), _, F2, fun o c ρ ho hc ht ha => .inr (.inr (.inl ⟨c, _, ho, hc, rfl, e, ie, z, some ⟨d, 0, none⟩, acc.length, acc.length, _, l.length, (hAt c ht).1, map_list ha, by rw [(hAt c ht).2]; rfl,
        .inr ⟨by omega, Nat.le_refl _, hlen, hby, by rw [isOne_cells hz1, hsz]; rfl, acc.toArray, l.toArray, hold, hsrc c ht, rfl, by simp [hsz], by simp [hsz], hall, .inr ⟨⟨d, 0, none⟩, acc.toArray, rfl, Asn.at hblk, hl2, rfl⟩⟩⟩)), ?_, Sk.trans (S1.trans S2)⟩
      refine Asn.map h2 fun F hb => .inr ⟨by simp [hne], A.heap.size, by simp, ?_⟩
      have e2 : (acc ++ l).toArray = acc.toArray ++ l.toArray := by simp
      rw [e2]; exact hb

theorem add_at (d i : Nat) : (⟨d, 0, none⟩ : Addr).add (i * 1) = ⟨d, i, none⟩ := by
  rw [Nat.mul_one]
  unfold Addr.add
  by_cases h : i = 0
  · subst h; rfl
  · rw [if_neg h]; simp
/-- A cell of a block of one's own. -/
theorem Asn.cellAt {J : Asn} {F : Foot} {A : World} {d i : Nat} {c : Array Value} {t : TypeId} {fz : Nat × Nat} {x : Value} (h : ((blk d (.cells c t fz)).sep J) F A) (hi : c[i]? = some x) : A.cell? ⟨d, i, none⟩ = some x := by
  rw [cell_at (a := ⟨d, i, none⟩) (Asn.at h) rfl]; exact hi
theorem Asn.softAt {J : Asn} {F : Foot} {A : World} {d i : Nat} {c : Array Value} {t : TypeId} {fz : Nat × Nat} (h : ((blk d (.cells c t fz)).sep J) F A) (hf : fz = (0, 0) ∨ fz = (1, 0)) : A.frozen? ⟨d, i, none⟩ = false := by
  simp only [World.frozen?, Asn.at h]
  rcases hf with rfl | rfl <;> simp
theorem Asn.putAt {J : Asn} {F : Foot} {A : World} {d i : Nat} {c : Array Value} {t : TypeId} {fz : Nat × Nat} (hJ : Owns J) (h : ((blk d (.cells c t fz)).sep J) F A) (hf : fz = (0, 0) ∨ fz = (1, 0)) (x : Value) :
    ((blk d (.cells (c.setIfInBounds i x) t fz)).sep J) F (A.setCell ⟨d, i, none⟩ x) ∧ Step F A F (A.setCell ⟨d, i, none⟩ x) := by
  obtain ⟨F1, F2, h1, h3, h4, h5⟩ := h
  have hb : F1 d := (h1.1 d).2 rfl
  have hne : ∀ k, k ≠ d → (A.setCell ⟨d, i, none⟩ x).heap[k]? = A.heap[k]? := fun k hk => set_ne hk
  have hro : RoKept A (A.setCell ⟨d, i, none⟩ x) := fun k ⟨c', t', n, hc, hn⟩ => hne k fun e => by
    subst e; rw [h1.2] at hc; cases hc
    rcases hf with hf | hf <;> (cases hf <;> omega)
  have hat : (A.setCell ⟨d, i, none⟩ x).heap[d]? = some (.cells (c.setIfInBounds i x) t fz) := by
    show (A.heap.modify d _)[d]? = _
    rw [Array.getElem?_modify]; simp [h1.2]
  exact ⟨⟨F1, F2, ⟨h1.1, hat⟩, hJ.loc h3 (fun k hk => hne k fun e => h4 d hb (e ▸ hk)) hro, h4, h5⟩, ⟨Nat.le_of_eq set_size.symm, fun k _ hn => hne k fun e => hn ((h5 k).2 (.inl (e ▸ hb))), hro, fun k hk => .inl hk⟩⟩
end
end Go.Abs
