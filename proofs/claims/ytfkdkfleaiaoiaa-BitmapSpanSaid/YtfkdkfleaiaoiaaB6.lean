/-
  ABS B6: lists that grow in hand: one element more, another list behind; what is made within a region that draws its order.
-/
import Derived.Test.YtfkdkfleaiaoiaaB5
namespace Go.Abs
section
variable {P : Program}
theorem run_loadCells_at {A : World} : ∀ (vs : List Value) (a : Addr) (i : Nat) (acc : Array Value), (∀ (j : Nat) x, vs[j]? = some x → A.cell? (a.add (i + j)) = some x) → (loadCellsFrom a i vs.length acc).run P A = .ok (acc ++ vs.toArray) A
  | [], a, i, acc, _ => by simp [loadCellsFrom]
  | v :: vs, a, i, acc, h => by
    have e0 : (Go.load (a.add i)).run P A = .ok v A := by
      have := h 0 v rfl
      simp only [Nat.add_zero] at this
      simp [Go.load, Sem.run, this]
    have ih := run_loadCells_at vs a (i + 1) (acc.push v) (fun j x hx => by
      have := h (j + 1) x (by simpa using hx)
      rwa [show i + (j + 1) = i + 1 + j by omega] at this)
    rw [List.length_cons]
    unfold loadCellsFrom
    simp only [Sem.run_bind, e0, Result.andThen]
    rw [ih]
    congr 1
    apply Array.ext'
    simp
/-- What types an append has, so that a list grows by it. -/
structure AppTy (P : Program) (sT xT e : TypeId) : Prop where
  s : P.underlying sT = some (.slice e)
  x : ∃ e', P.underlying xT = some (.slice e')
  i : ∃ ie z, P.info? e = some ie ∧ ie.zero = some z ∧ isOne z = true ∧ ie.size = 1 ∧ ie.bytes ≤ 2 ^ 16
theorem lstV_grow {sT xT e : TypeId} (T : AppTy P sT xT e) {v : Value} {acc l : List Int} {R : Asn} {F : Foot} {A : World} {p : Option Addr} {n c2 : Nat} (hR : Owns R) (h : ((lstV e v acc).sep R) F A) (hr : Rd A p l) (hn : n = l.length) (hlen : acc.length + l.length ≤ 16777216) :
    ∃ v' A2 F2, (∀ (o : Oper) (c : Call) (ρ : Operand → Value), o.op = .call c → c.callee = .builtin .append → c.argTypes = #[sT, xT] → c.args.toList.map ρ = [v, .slice p n c2] → AOp P ρ o A (.value v') A2) ∧
      ((lstV e v' (acc ++ l)).sep R) F2 A2 ∧ Step F A F2 A2 := by
  subst hn
  obtain ⟨e', hx⟩ := T.x
  obtain ⟨ie, z, hi, hz, hz1, hsz, hby⟩ := T.i
  have hAt : ∀ c : Call, c.argTypes = #[sT, xT] → AppAt P c.argTypes e ie z ∧ zerosOf P c.argTypes = false := fun c ht =>
    ⟨⟨hz, ⟨sT, by rw [ht]; rfl, T.s⟩, hi, fun t h => by rw [ht] at h; cases h; exact .inl ⟨_, hx⟩⟩, by simp [zerosOf, ht, hx]⟩
  have hsl : ∃ b, v = .slice b acc.length acc.length ∧ ((acc = [] ∧ b = none) ∨ (acc ≠ [] ∧ ∃ d, b = some ⟨d, 0, none⟩)) := by
    obtain ⟨F1, _, h1, _⟩ := h
    rcases h1 with ⟨rfl, rfl, _⟩ | ⟨hne, d, rfl, _⟩
    · exact ⟨none, rfl, .inl ⟨rfl, rfl⟩⟩
    · exact ⟨_, rfl, .inr ⟨hne, d, rfl⟩⟩
  obtain ⟨b, rfl, hb⟩ := hsl
  have hsrc : ∀ c : Call, c.argTypes = #[sT, xT] → (appSrc (zerosOf P c.argTypes) e ie.size l.length (.slice p l.length c2)).run P A = .ok (ints l) A := fun c ht => by
    rw [(hAt c ht).2, hsz]
    simp only [appSrc, Bool.not_false, if_true]
    cases p with
    | none =>
      have : l = [] := by
        cases l with
        | nil => rfl
        | cons y l => obtain ⟨ad, e, _⟩ := hr 0 y rfl; cases e
      subst this
      simp [Builtin.firstCells, ints]
    | some ad =>
      have := run_loadCells_at (P := P) (A := A) (l.map (Value.int .i64)) ad 0 #[] (fun j x hx => by
        simp only [List.getElem?_map, Option.map_eq_some_iff] at hx
        obtain ⟨y, hy, rfl⟩ := hx
        obtain ⟨ad', e1, hc⟩ := hr j y hy
        cases e1
        rw [Nat.zero_add]
        rwa [Nat.mul_one] at hc)
      simp only [List.length_map] at this
      simpa [Builtin.firstCells, loadCells, ints] using this
  by_cases hl0 : l = []
  · subst hl0
    refine ⟨_, A, F, fun o c ρ ho hc ht ha => .inr (.inr (.inl ⟨c, _, ho, hc, rfl, e, ie, z, b, acc.length, acc.length, _, 0, (hAt c ht).1, map_list ha, by rw [(hAt c ht).2]; rfl, .inl ⟨Nat.le_refl _, ints [], hsrc c ht, ?_, rfl⟩⟩)), ?_, .refl⟩
    · cases b <;> rfl
    · rw [List.append_nil]; exact h
  · have hl1 : 0 < l.length := List.length_pos_iff.2 hl0
    rcases hb with ⟨rfl, rfl⟩ | ⟨hne, d, rfl⟩
    · obtain ⟨F1, h1, S1⟩ := Asn.newO (Owns.sep Owns.lstV hR) h (.cells (ints l) e (1, 0))
      obtain ⟨F2, h2, S2⟩ := Asn.drop (Asn.swap h1)
      refine ⟨.slice (some ⟨A.heap.size, 0, none⟩) l.length l.length, _, F2, fun o c ρ ho hc ht ha => .inr (.inr (.inl ⟨c, _, ho, hc, rfl, e, ie, z, none, 0, 0, _, l.length, (hAt c ht).1, map_list ha, by rw [(hAt c ht).2]; rfl,
        .inr ⟨by omega, Nat.le_refl _, by simpa using hlen, hby, by rw [isOne_cells hz1, hsz]; rfl, #[], ints l, rfl, hsrc c ht, by simp, by simp, by simp [hsz, ints], by simp [ints, isOne], .inl ⟨by simp, fun a h => by cases h⟩⟩⟩)), ?_, S1.trans S2⟩
      refine Asn.map h2 fun F hb => .inr ⟨by simpa using hl0, A.heap.size, by simp, by simpa using hb⟩
    · have hl2 : 0 < acc.length := List.length_pos_iff.2 hne
      have hblk : ((blk d (.cells (ints acc) e (1, 0))).sep R) F A := Asn.map h fun F hb => by
        rcases hb with ⟨e1, _⟩ | ⟨_, d', e1, hb⟩
        · exact absurd e1 hne
        · cases e1; exact hb
      obtain ⟨hk, Sk⟩ := Asn.killed (e := e) hR hblk
      obtain ⟨F1, h1, S1⟩ := Asn.newO (Owns.sep Owns.blk hR) hk (.cells (ints acc ++ ints l) e (1, 0))
      obtain ⟨F2, h2, S2⟩ := Asn.drop (Asn.swap h1)
      have hold : (Builtin.firstCells ie.size acc.length (.slice (some ⟨d, 0, none⟩) acc.length acc.length)).run P A = .ok (ints acc) A := by
        have := run_loadCells (P := P) acc.length ⟨d, 0, none⟩ 0 #[] (ints acc) e (1, 0) (Asn.at hblk) rfl (by simp [ints])
        rw [hsz]
        have e1 : (ints acc).extract 0 acc.length = ints acc := by
          have : acc.length = (ints acc).size := by simp [ints]
          rw [this]; simp
        simpa [Builtin.firstCells, loadCells, e1] using this
      have esz : (kill A d e).heap.size = A.heap.size := kill_size _ _
      rw [esz] at h2
      refine ⟨.slice (some ⟨A.heap.size, 0, none⟩) (acc.length + l.length) (acc.length + l.length), _, F2, fun o c ρ ho hc ht ha => .inr (.inr (.inl ⟨c, _, ho, hc, rfl, e, ie, z, some ⟨d, 0, none⟩, acc.length, acc.length, _, l.length, (hAt c ht).1, map_list ha, by rw [(hAt c ht).2]; rfl,
        .inr ⟨by omega, Nat.le_refl _, hlen, hby, by rw [isOne_cells hz1, hsz]; rfl, ints acc, ints l, hold, hsrc c ht, rfl, by simp [hsz, ints], by simp [hsz, ints], by simp [ints, isOne], .inr ⟨⟨d, 0, none⟩, ints acc, rfl, Asn.at hblk, hl2, rfl⟩⟩⟩)), ?_, Sk.trans (S1.trans S2)⟩
      refine Asn.map h2 fun F hb => .inr ⟨by simp [hne], A.heap.size, by simp, ?_⟩
      have e2 : ints (acc ++ l) = ints acc ++ ints l := by simp [ints]
      rw [e2]; exact hb

theorem run_slice1 {A : World} {ρ : Operand → Value} {o : Oper} {t e : TypeId} {x : Operand} {v z : Value} {i : TypeInfo} (h : o.op = .buildSlice t 1 #[(0, x)]) (hx : ρ x = v) (hv : isOne v = true) (hu : P.underlying t = some (.slice e)) (h1 : one P e = true) (hi : P.info? e = some i) (hz : i.zero = some z) (hz1 : isOne z = true) :
    RegOk P A ρ o.op ∧ (execOp ρ o).run P A = .ok (.value (.slice (some ⟨A.heap.size, 0, none⟩) 1 1)) (A.alloc (.cells #[v] e (0, 0))) := by
  refine ⟨by rw [h]; trivial, ?_⟩
  rcases aop_slice1 (A := A) h hx hv hu h1 hi hz hz1 with ⟨v', e1, e2, _, _, _, _⟩ | ⟨_, h2⟩ | ⟨c, _, e1, _⟩ | ⟨c, _, _, _, _, _, _, e1, _⟩ | ⟨c, _, _, _, _, _, e1, _⟩
  · have := congrArg (·.heap.size) e2
    simp at this
  · exact h2
  · rw [h] at e1; cases e1
  · rw [h] at e1; cases e1
  · rw [h] at e1; cases e1
theorem run_slice3 {A : World} {ρ : Operand → Value} {o : Oper} {t e : TypeId} {x y w : Operand} {a b c z : Value} {i : TypeInfo} (h : o.op = .buildSlice t 3 #[(0, x), (1, y), (2, w)]) (hx : ρ x = a) (hy : ρ y = b) (hw : ρ w = c) (ha : isOne a = true) (hb : isOne b = true) (hc : isOne c = true)
    (hu : P.underlying t = some (.slice e)) (h1 : one P e = true) (hi : P.info? e = some i) (hz : i.zero = some z) (hz1 : isOne z = true) :
    AOp P ρ o A (.value (.slice (some ⟨A.heap.size, 0, none⟩) 3 3)) (A.alloc (.cells #[a, b, c] e (0, 0))) := by
  refine .inr (.inl ⟨by rw [h]; trivial, ?_⟩)
  unfold execOp; rw [h]
  have hs : ∀ w, (sizeOf e).run P w = .ok 1 w := run_sizeOne h1
  have hun : (underlying t).run P A = .ok (.slice e) A := by simp [underlying, program, Sem.run, Bind.bind, Sem.bind, Pure.pure, hu]
  have hzr : (zeroValue e).run P A = .ok z A := by simp [zeroValue, typeInfo, program, Sem.run, Bind.bind, Sem.bind, Pure.pure, hi, hz]
  have hf : Instr.fill (fun i => some (i * 1, 1)) ((Array.range (3 * 1)).map (z.cells[· % z.cells.size]!)) [(0, a), (1, b), (2, c)] = some #[a, b, c] := by
    rw [isOne_cells hz1]
    have hr : Array.range 3 = #[0, 1, 2] := rfl
    simp [Instr.fill, isOne_cells ha, isOne_cells hb, isOne_cells hc, hr]
  simp only [Instr.buildSlice, Sem.run_bind, Sem.run_pure, Result.andThen, hun, hs]
  have e1 : (#[((0 : Nat), x), (1, y), (2, w)].map fun (p : Nat × Operand) => (p.1, ρ p.2)).toList = [(0, a), (1, b), (2, c)] := by simp [hx, hy, hw]
  rw [if_neg (by decide : ¬ 3 * 1 > 2 ^ 24), if_neg (by decide : ¬ 3 * 1 = 0)]
  simp only [Sem.run_bind, Sem.run_pure, Result.andThen, hzr, e1, hf, newRow]
  rfl
theorem step_makes {n₀ : Nat} {ops : Array Oper} {a : Act} {A : World} {vs : List Value} {ws : List World} {i : Nat} {o : Oper} (ho : ops[i]? = some o) (obj : Obj) (hws : ws.getD (i + 1) A = (ws.getD i A).alloc obj) (hwr : wr obj = true) (hv : newVal (vs.getD i undef) (ws.getD i A).heap.size)
    (mkv : Nat → Value) (hmk : vs.getD i undef = mkv (ws.getD i A).heap.size) (hrun : ∀ w : World, RegOk P w (asOf ops a vs i).eval o.op ∧ (execOp (asOf ops a vs i).eval o).run P w = .ok (.value (mkv w.heap.size)) (w.alloc obj)) (ps : List Nat) (h : ∀ p ∈ ps, (ws.getD p A).heap[(ws.getD i A).heap.size]? = some obj)
    (hps : (effs ops ++ [ops.size]).filter (fun p => decide (i < p) && mayAt ops (masks ops) i p) = ps := by kernel_rfl) (hk : kindOf o.op = .makes := by rfl) (hw : Region.wanted o (yielded ops (asOf ops a vs i).tmps) = true := by rfl) : StepOk P (Wd P n₀) ops (trOf ops a vs ws A) i o := by
  refine ⟨by simp [trOf, asOf, ho], ?_⟩
  rw [if_pos (by exact hw), hk]
  refine ⟨obj, hws, hwr, hv, fun w hw => ?_, fun p hp hlt hm => h p ?_⟩
  · have := hrun w
    rw [show w.heap.size = (ws.getD i A).heap.size from hw, ← hmk] at this
    exact this
  rw [← hps]; exact List.mem_filter.2 ⟨hp, by simp [hlt, hm]⟩
end
end Go.Abs
