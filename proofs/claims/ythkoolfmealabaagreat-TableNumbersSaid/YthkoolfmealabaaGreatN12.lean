/-
  ABS B5: a call on lists of whole numbers that it may read: from the row's reading of its arguments to a canonical world, and back.
-/
import Derived.Test.YthkoolfmealabaaGreatN11
import Derived.ProofKit
import Derived.Carry
namespace Go.Abs
open Go.ChangeShapes Go.WideShapes Go.ChangeAt Go.RowKit
section
variable {P : Program} {W : World}
/-- A call from a world of which nothing may be written. -/
theorem ro_call {f : FuncId} {xs xs' : Array Value} {A A' : World} {v : Value} {ι : Ren} (h : SndCall P W.heap.size f xs A v A') (hv : plain v = true) (S : Sim P W.heap.size ι A W) (hx : Vs P ι xs xs') (hfree : ∀ b, A.heap.size ≤ b → ι b = none)
    (hro : ∀ (k : Nat) o, A.heap[k]? = some o → wr o = false) : Calls P f xs' W fun e W' => e = .returned v ∧ Below W.heap.size W W' := by
  have hc := callsIn_wide.1 (h.2 ι W xs' S hx ⟨h.1, fun b hb _ => hfree b hb⟩)
  refine hc.mono ?_
  rintro e W' ⟨ι', v', rfl, S', M, V⟩
  have := V.plain_eq hv
  subst this
  exact ⟨rfl, ⟨M.os, M.tape, M.output, M.wsz, fun b hb => M.keep b hb fun k e o _ ho hw => by rw [hro k o ho] at hw; cases hw⟩⟩
/-- A world of lists, to be read. -/
def inW (t : TypeId) (ls : List (List Int × Addr)) : World := { (default : World) with heap := (ls.map fun p => Obj.cells (ints p.1) t (0, p.1.length + 1)).toArray }
def inR (ls : List (List Int × Addr)) : Ren := fun b => (ls[b]?).map fun p => ⟨p.2.block, p.2.off, none⟩
/-- There they lie. -/
def Lies (W : World) (l : List Int) (a : Addr) : Prop := a.spot = none ∧ ∃ c t fz, W.heap[a.block]? = some (.cells c t fz) ∧ ∀ (i : Nat) x, l[i]? = some x → c[a.off + i]? = some (.int .i64 x)
theorem inW_at {t : TypeId} {ls : List (List Int × Addr)} {b : Nat} {o : Obj} (h : (inW t ls).heap[b]? = some o) : ∃ p, ls[b]? = some p ∧ o = .cells (ints p.1) t (0, p.1.length + 1) := by
  simp only [inW, List.getElem?_toArray, List.getElem?_map, Option.map_eq_some_iff] at h
  obtain ⟨p, h1, h2⟩ := h
  exact ⟨p, h1, h2.symm⟩
theorem ints_size {l : List Int} : (ints l).size = l.length := by simp [ints]
theorem ints_at {l : List Int} {i : Nat} : (ints l)[i]? = (l[i]?).map (Value.int .i64) := by simp [ints]
theorem sim_in {t : TypeId} {ls : List (List Int × Addr)} (h : ∀ p ∈ ls, Lies W p.1 p.2) : Sim P W.heap.size (inR ls) (inW t ls) W where
  obj b e o hb ho := by
    obtain ⟨p, hp, rfl⟩ := inW_at ho
    simp only [inR, hp, Option.map_some, Option.some.injEq] at hb
    subst hb
    obtain ⟨_, c, t', fz, hc, hi⟩ := h p (List.mem_of_getElem? hp)
    refine .inr ⟨c, t', fz, hc, fun i x hx => ?_, .inr (.inr ⟨rfl, by rw [ints_size]; exact Nat.lt_succ_self _⟩), fun hn => absurd (Nat.succ_pos _) hn, fun hf => by simp at hf, fun _ => rfl⟩
    rw [ints_at, Option.map_eq_some_iff] at hx
    obtain ⟨n, hn, rfl⟩ := hx
    exact ⟨_, by rw [Nat.add_comm]; exact hi i n hn, .int _ _⟩
  inj b b' e e' o o' _ _ ho _ hw := by
    obtain ⟨p, _, rfl⟩ := inW_at ho
    simp [wr] at hw
  dom b e hb := by
    simp only [inR, Option.map_eq_some_iff] at hb
    obtain ⟨p, hp, rfl⟩ := hb
    obtain ⟨_, c, t', fz, hc, _⟩ := h p (List.mem_of_getElem? hp)
    exact (Array.getElem?_eq_some_iff.1 hc).1
  lo := Nat.le_refl _
theorem in_size {t : TypeId} {ls : List (List Int × Addr)} : (inW t ls).heap.size = ls.length := by simp [inW]
theorem in_free {t : TypeId} {ls : List (List Int × Addr)} (b : Nat) (h : (inW t ls).heap.size ≤ b) : inR ls b = none := by
  rw [in_size] at h
  simp [inR, h]
theorem in_ro {t : TypeId} {ls : List (List Int × Addr)} (k : Nat) (o : Obj) (h : (inW t ls).heap[k]? = some o) : wr o = false := by
  obtain ⟨p, _, rfl⟩ := inW_at h
  simp [wr]
/-- The k-th list, as the canonical world has it. -/
theorem in_slice {ls : List (List Int × Addr)} {k : Nat} {p : List Int × Addr} {n cap : Nat} (hp : ls[k]? = some p) (h : Lies W p.1 p.2) : VRel P (inR ls) (.slice (some ⟨k, 0, none⟩) n cap) (.slice (some p.2) n cap) :=
  .slice (.inl ⟨⟨rfl, h.1, ⟨p.2.block, p.2.off, none⟩, by simp [inR, hp], rfl, by simp⟩, .inl rfl⟩)
theorem in_rd {t : TypeId} {ls : List (List Int × Addr)} {k : Nat} {p : List Int × Addr} (hp : ls[k]? = some p) : rd (some ⟨k, 0, none⟩) p.1 (fun _ => False) (inW t ls) := by
  have hb : (inW t ls).heap[k]? = some (.cells (ints p.1) t (0, p.1.length + 1)) := by simp [inW, hp]
  refine ⟨fun _ h => h, fun i x hx => ⟨_, rfl, ?_⟩, fun ad e => ?_⟩
  · rw [cell_add (a := ⟨k, 0, none⟩) hb rfl, ints_at]
    simp [hx]
  · cases e; exact ⟨_, _, _, hb, Nat.succ_pos _⟩
theorem rd_none {A : World} : rd none [] (fun _ => False) A := ⟨fun _ h => h, fun i x hx => by simp at hx, fun ad e => by cases e⟩
/-- What the row's reading says of a slice of whole numbers. -/
theorem open_ints {H : Type} {enc : TypeId × Value → H} {sp : Nat → Bool} {base : Nat} {t e : TypeId} {v : Value} {d : DataW H} {ps : List MemPlace} (ht : P.underlying t = some (.slice e)) (he : P.underlying e = some (.int .i64)) (hs : P.cellsOf e = 1)
    (hval : Value.okWide P W .any base t v) (hd : DataW.Trod enc P W 0 sp true t v d ps) : v = .slice none 0 0 ∨ ∃ a cap l, v = .slice (some a) (List.length l) cap ∧ l.length ≤ cap ∧ Lies W l a := by
  obtain ⟨fuel, hd⟩ := hd
  have hone : isOne v = true := by
    unfold Value.okWide at hval
    rw [ht] at hval
    simp only at hval
    unfold Cell.okWide at hval
    rw [ht] at hval
    simp only at hval
    unfold Cell.ok at hval
    rw [ht] at hval
    cases v <;> simp_all [isOne]
  rw [isOne_cells hone] at hd
  rcases DataW.trod_slice ht hd with ⟨h, _⟩ | ⟨a, len, cap, elems, rest, n, _, h, _, _, hl, _, hel, hi, _⟩
  · left
    simpa using h
  · right
    have hv : v = .slice (some a) len cap := by simpa using h
    subst hv
    have hcell : ∀ i, i < len → ∃ x, W.cell? (a.add (i * 1)) = some (.int .i64 x) := by
      intro i hlt
      have hq := hi i hlt
      rw [hs] at hq
      have hlt' : i < elems.length := by omega
      rw [List.getElem?_eq_getElem hlt', Option.bind_eq_some_iff] at hq
      obtain ⟨cs, h1, h2⟩ := hq
      obtain ⟨m, rfl, _⟩ := DataW.trod_int he h2
      refine ⟨m, ?_⟩
      unfold World.cells? at h1
      simp at h1
      have e0 : (a.add i).add 0 = a.add i := by cases hq : a.add i; simp [Addr.add]
      cases hc : W.cell? ((a.add i).add 0) with
      | none => simp [hc] at h1
      | some u => simp [hc] at h1; rw [e0] at hc; rw [Nat.mul_one, hc, h1]
    have hhas : W.has P .any base a e cap := by
      unfold Value.okWide at hval
      rw [ht] at hval
      simp only at hval
      unfold Cell.okWide at hval
      rw [ht] at hval
      simp only at hval
      unfold Cell.ok at hval
      rw [ht] at hval
      exact hval.2.2
    obtain ⟨_, hsp, row, cells, hsh, _⟩ := hhas
    unfold World.shape? at hsh
    split at hsh
    case h_2 => cases hsh
    rename_i c t' fz hb
    refine ⟨a, cap, (List.range len).map fun i => match W.cell? (a.add (i * 1)) with | some (.int _ x) => x | _ => 0, by simp, by simpa using hl, hsp, c, t', fz, hb, fun i x hx => ?_⟩
    simp only [List.getElem?_map, Option.map_eq_some_iff] at hx
    obtain ⟨j, hj, hx⟩ := hx
    have hlt : i < len ∧ j = i := by
      rw [List.getElem?_eq_some_iff] at hj
      obtain ⟨h1, h2⟩ := hj
      simp at h1 h2
      exact ⟨h1, h2.symm⟩
    obtain ⟨hlt, rfl⟩ := hlt
    obtain ⟨y, hy⟩ := hcell j hlt
    rw [hy] at hx
    simp only at hx
    subst hx
    rw [cell_add hb hsp, Nat.mul_one] at hy
    exact hy
end
end Go.Abs
/-
  ABS B6: lists that grow in hand: one element more, another list behind; what is made within a region that draws its order.
-/
namespace Go.Abs
section
variable {P : Program}
theorem run_loadCells_at {A : World} : ∀ (vs : List Value) (a : Addr) (i : Nat) (acc : Array Value), (∀ (j : Nat) x, vs[j]? = some x → A.cell? (a.add (i + j)) = some x) → (loadCellsFrom a i vs.length acc).run P A = .ok (acc ++ vs.toArray) A
  | [], a, i, acc, _ => by simp [loadCellsFrom]
  | v :: vs, a, i, acc, h => by
    have e0 : (Go.load (a.add i)).run P A = .ok v A := by
      have := h 0 v rfl
      simp only [Nat.add_zero] at this
      simp [Go.load, Sem.run, this]
    have ih := run_loadCells_at vs a (i + 1) (acc.push v) (fun j x hx => by
      have := h (j + 1) x (by simpa using hx)
      rwa [show i + (j + 1) = i + 1 + j by omega] at this)
    rw [List.length_cons]
    unfold loadCellsFrom
    simp only [Sem.run_bind, e0, Result.andThen]
    rw [ih]
    congr 1
    apply Array.ext'
    simp
/-- What types an append has, so that a list grows by it. -/
structure AppTy (P : Program) (sT xT e : TypeId) : Prop where
  s : P.underlying sT = some (.slice e)
  x : ∃ e', P.underlying xT = some (.slice e')
  i : ∃ ie z, P.info? e = some ie ∧ ie.zero = some z ∧ isOne z = true ∧ ie.size = 1 ∧ ie.bytes ≤ 2 ^ 16
theorem lstV_grow {sT xT e : TypeId} (T : AppTy P sT xT e) {v : Value} {acc l : List Int} {R : Asn} {F : Foot} {A : World} {p : Option Addr} {n c2 : Nat} (hR : Owns R) (h : ((lstV e v acc).sep R) F A) (hr : Rd A p l) (hn : n = l.length) (hlen : acc.length + l.length ≤ 16777216) :
    ∃ v' A2 F2, (∀ (o : Oper) (c : Call) (ρ : Operand → Value), o.op = .call c → c.callee = .builtin .append → c.argTypes = #[sT, xT] → c.args.toList.map ρ = [v, .slice p n c2] → AOp P ρ o A (.value v') A2) ∧
      ((lstV e v' (acc ++ l)).sep R) F2 A2 ∧ Step F A F2 A2 := by
  subst hn
  obtain ⟨e', hx⟩ := T.x
  obtain ⟨ie, z, hi, hz, hz1, hsz, hby⟩ := T.i
  have hAt : ∀ c : Call, c.argTypes = #[sT, xT] → AppAt P c.argTypes e ie z ∧ zerosOf P c.argTypes = false := fun c ht =>
    ⟨⟨hz, ⟨sT, by rw [ht]; rfl, T.s⟩, hi, fun t h => by rw [ht] at h; cases h; exact .inl ⟨_, hx⟩⟩, by simp [zerosOf, ht, hx]⟩
  have hsl : ∃ b, v = .slice b acc.length acc.length ∧ ((acc = [] ∧ b = none) ∨ (acc ≠ [] ∧ ∃ d, b = some ⟨d, 0, none⟩)) := by
    obtain ⟨F1, _, h1, _⟩ := h
    rcases h1 with ⟨rfl, rfl, _⟩ | ⟨hne, d, rfl, _⟩
    · exact ⟨none, rfl, .inl ⟨rfl, rfl⟩⟩
    · exact ⟨_, rfl, .inr ⟨hne, d, rfl⟩⟩
  obtain ⟨b, rfl, hb⟩ := hsl
  have hsrc : ∀ c : Call, c.argTypes = #[sT, xT] → (appSrc (zerosOf P c.argTypes) e ie.size l.length (.slice p l.length c2)).run P A = .ok (ints l) A := fun c ht => by
    rw [(hAt c ht).2, hsz]
    simp only [appSrc, Bool.not_false, if_true]
    cases p with
    | none =>
      have : l = [] := by
        cases l with
        | nil => rfl
        | cons y l => obtain ⟨ad, e, _⟩ := hr 0 y rfl; cases e
      subst this
      simp [Builtin.firstCells, ints]
    | some ad =>
      have := run_loadCells_at (P := P) (A := A) (l.map (Value.int .i64)) ad 0 #[] (fun j x hx => by
        simp only [List.getElem?_map, Option.map_eq_some_iff] at hx
        obtain ⟨y, hy, rfl⟩ := hx
        obtain ⟨ad', e1, hc⟩ := hr j y hy
        cases e1
        rw [Nat.zero_add]
        rwa [Nat.mul_one] at hc)
      simp only [List.length_map] at this
      simpa [Builtin.firstCells, loadCells, ints] using this
  by_cases hl0 : l = []
  · subst hl0
    refine ⟨_, A, F, fun o c ρ ho hc ht ha => .inr (.inr (.inl ⟨c, _, ho, hc, rfl, e, ie, z, b, acc.length, acc.length, _, 0, (hAt c ht).1, map_list ha, by rw [(hAt c ht).2]; rfl, .inl ⟨Nat.le_refl _, ints [], hsrc c ht, ?_, rfl⟩⟩)), ?_, .refl⟩
    · cases b <;> rfl
    · rw [List.append_nil]; exact h
  · have hl1 : 0 < l.length := List.length_pos_iff.2 hl0
    rcases hb with ⟨rfl, rfl⟩ | ⟨hne, d, rfl⟩
    · obtain ⟨F1, h1, S1⟩ := Asn.newO (Owns.sep Owns.lstV hR) h (.cells (ints l) e (1, 0))
      obtain ⟨F2, h2, S2⟩ := Asn.drop (Asn.swap h1)
      refine ⟨.slice (some ⟨A.heap.size, 0, none⟩) l.length l.length, _, F2, fun o c ρ ho hc ht ha => .inr (.inr (.inl ⟨c, _, ho, hc, rfl, e, ie, z, none, 0, 0, _, l.length, (hAt c ht).1, map_list ha, by rw [(hAt c ht).2]; rfl,
        .inr ⟨by omega, Nat.le_refl _, by simpa using hlen, hby, by rw [isOne_cells hz1, hsz]; rfl, #[], ints l, rfl, hsrc c ht, by simp, by simp, by simp [hsz, ints], by simp [ints, isOne], .inl ⟨by simp, fun a h => by cases h⟩⟩⟩)), ?_, S1.trans S2⟩
      refine Asn.map h2 fun F hb => .inr ⟨by simpa using hl0, A.heap.size, by simp, by simpa using hb⟩
    · have hl2 : 0 < acc.length := List.length_pos_iff.2 hne
      have hblk : ((blk d (.cells (ints acc) e (1, 0))).sep R) F A := Asn.map h fun F hb => by
        rcases hb with ⟨e1, _⟩ | ⟨_, d', e1, hb⟩
        · exact absurd e1 hne
        · cases e1; exact hb
      obtain ⟨hk, Sk⟩ := Asn.killed (e := e) hR hblk
      obtain ⟨F1, h1, S1⟩ := Asn.newO (Owns.sep Owns.blk hR) hk (.cells (ints acc ++ ints l) e (1, 0))
      obtain ⟨F2, h2, S2⟩ := Asn.drop (Asn.swap h1)
      have hold : (Builtin.firstCells ie.size acc.length (.slice (some ⟨d, 0, none⟩) acc.length acc.length)).run P A = .ok (ints acc) A := by
        have := run_loadCells (P := P) acc.length ⟨d, 0, none⟩ 0 #[] (ints acc) e (1, 0) (Asn.at hblk) rfl (by simp [ints])
        rw [hsz]
        have e1 : (ints acc).extract 0 acc.length = ints acc := by
          have : acc.length = (ints acc).size := by simp [ints]
          rw [this]; simp
        simpa [Builtin.firstCells, loadCells, e1] using this
      have esz : (kill A d e).heap.size = A.heap.size := kill_size _ _
      rw [esz] at h2
      refine ⟨.slice (some ⟨A.heap.size, 0, none⟩) (acc.length + l.length) (acc.length + l.length), _, F2, fun o c ρ ho hc ht ha => .inr (.inr (.inl ⟨c, _, ho, hc, rfl, e, ie, z, some ⟨d, 0, none⟩, acc.length, acc.length, _, l.length, (hAt c ht).1, map_list ha, by rw [(hAt c ht).2]; rfl,
        .inr ⟨by omega, Nat.le_refl _, hlen, hby, by rw [isOne_cells hz1, hsz]; rfl, ints acc, ints l, hold, hsrc c ht, rfl, by simp [hsz, ints], by simp [hsz, ints], by simp [ints, isOne], .inr ⟨⟨d, 0, none⟩, ints acc, rfl, Asn.at hblk, hl2, rfl⟩⟩⟩)), ?_, Sk.trans (S1.trans S2)⟩
      refine Asn.map h2 fun F hb => .inr ⟨by simp [hne], A.heap.size, by simp, ?_⟩
      have e2 : ints (acc ++ l) = ints acc ++ ints l := by simp [ints]
      rw [e2]; exact hb

theorem run_slice1 {A : World} {ρ : Operand → Value} {o : Oper} {t e : TypeId} {x : Operand} {v z : Value} {i : TypeInfo} (h : o.op = .buildSlice t 1 #[(0, x)]) (hx : ρ x = v) (hv : isOne v = true) (hu : P.underlying t = some (.slice e)) (h1 : one P e = true) (hi : P.info? e = some i) (hz : i.zero = some z) (hz1 : isOne z = true) :
    RegOk P A ρ o.op ∧ (execOp ρ o).run P A = .ok (.value (.slice (some ⟨A.heap.size, 0, none⟩) 1 1)) (A.alloc (.cells #[v] e (0, 0))) := by
  refine ⟨by rw [h]; trivial, ?_⟩
  rcases aop_slice1 (A := A) h hx hv hu h1 hi hz hz1 with ⟨v', e1, e2, _, _, _, _⟩ | ⟨_, h2⟩ | ⟨c, _, e1, _⟩ | ⟨c, _, _, _, _, _, _, e1, _⟩ | ⟨c, _, _, _, _, _, e1, _⟩
  · have := congrArg (·.heap.size) e2
    simp at this
  · exact h2
  · rw [h] at e1; cases e1
  · rw [h] at e1; cases e1
  · rw [h] at e1; cases e1
theorem run_slice3 {A : World} {ρ : Operand → Value} {o : Oper} {t e : TypeId} {x y w : Operand} {a b c z : Value} {i : TypeInfo} (h : o.op = .buildSlice t 3 #[(0, x), (1, y), (2, w)]) (hx : ρ x = a) (hy : ρ y = b) (hw : ρ w = c) (ha : isOne a = true) (hb : isOne b = true) (hc : isOne c = true)
    (hu : P.underlying t = some (.slice e)) (h1 : one P e = true) (hi : P.info? e = some i) (hz : i.zero = some z) (hz1 : isOne z = true) :
    AOp P ρ o A (.value (.slice (some ⟨A.heap.size, 0, none⟩) 3 3)) (A.alloc (.cells #[a, b, c] e (0, 0))) := by
  refine .inr (.inl ⟨by rw [h]; trivial, ?_⟩)
  unfold execOp; rw [h]
  have hs : ∀ w, (sizeOf e).run P w = .ok 1 w := run_sizeOne h1
  have hun : (underlying t).run P A = .ok (.slice e) A := by simp [underlying, program, Sem.run, Bind.bind, Sem.bind, Pure.pure, hu]
  have hzr : (zeroValue e).run P A = .ok z A := by simp [zeroValue, typeInfo, program, Sem.run, Bind.bind, Sem.bind, Pure.pure, hi, hz]
  have hf : Instr.fill (fun i => some (i * 1, 1)) ((Array.range (3 * 1)).map (z.cells[· % z.cells.size]!)) [(0, a), (1, b), (2, c)] = some #[a, b, c] := by
    rw [isOne_cells hz1]
    have hr : Array.range 3 = #[0, 1, 2] := rfl
    simp [Instr.fill, isOne_cells ha, isOne_cells hb, isOne_cells hc, hr]
  simp only [Instr.buildSlice, Sem.run_bind, Sem.run_pure, Result.andThen, hun, hs]
  have e1 : (#[((0 : Nat), x), (1, y), (2, w)].map fun (p : Nat × Operand) => (p.1, ρ p.2)).toList = [(0, a), (1, b), (2, c)] := by simp [hx, hy, hw]
  rw [if_neg (by decide : ¬ 3 * 1 > 2 ^ 24), if_neg (by decide : ¬ 3 * 1 = 0)]
  simp only [Sem.run_bind, Sem.run_pure, Result.andThen, hzr, e1, hf, newRow]
  rfl
theorem step_makes {n₀ : Nat} {ops : Array Oper} {a : Act} {A : World} {vs : List Value} {ws : List World} {i : Nat} {o : Oper} (ho : ops[i]? = some o) (obj : Obj) (hws : ws.getD (i + 1) A = (ws.getD i A).alloc obj) (hwr : wr obj = true) (hv : newVal (vs.getD i undef) (ws.getD i A).heap.size)
    (mkv : Nat → Value) (hmk : vs.getD i undef = mkv (ws.getD i A).heap.size) (hrun : ∀ w : World, RegOk P w (asOf ops a vs i).eval o.op ∧ (execOp (asOf ops a vs i).eval o).run P w = .ok (.value (mkv w.heap.size)) (w.alloc obj)) (ps : List Nat) (h : ∀ p ∈ ps, (ws.getD p A).heap[(ws.getD i A).heap.size]? = some obj)
    (hps : (effs ops ++ [ops.size]).filter (fun p => decide (i < p) && mayAt ops (masks ops) i p) = ps := by kernel_rfl) (hk : kindOf o.op = .makes := by rfl) (hw : Region.wanted o (yielded ops (asOf ops a vs i).tmps) = true := by rfl) : StepOk P (Wd P n₀) ops (trOf ops a vs ws A) i o := by
  refine ⟨by simp [trOf, asOf, ho], ?_⟩
  rw [if_pos (by exact hw), hk]
  refine ⟨obj, hws, hwr, hv, fun w hw => ?_, fun p hp hlt hm => h p ?_⟩
  · have := hrun w
    rw [show w.heap.size = (ws.getD i A).heap.size from hw, ← hmk] at this
    exact this
  rw [← hps]; exact List.mem_filter.2 ⟨hp, by simp [hlt, hm]⟩
end
end Go.Abs
/-
  ABS B7: a long region that draws its order: what stands in the temporaries, as a list.
-/
namespace Go.Abs
section
variable {P : Program} {n₀ : Nat} {ro : Option Nat} {Q : Exit → Act → World → Prop} {a : Act} {A : World} {ops : Array Oper}
def asL (ops : List Oper) (vs : List Value) (l : List Value) : Nat → List Value
  | 0 => l
  | i + 1 => match (ops[i]?).bind (·.dst) with
    | none => asL ops vs l i
    | some d => (asL ops vs l i).set d (vs.getD i undef)
def asA (ops : Array Oper) (a : Act) (vs : List Value) (i : Nat) : Act := ⟨(asL ops.toList vs a.tmps.toList i).toArray, a.defers⟩
theorem asA_succ {vs : List Value} {i : Nat} {o : Oper} (ho : ops[i]? = some o) : asA ops a vs (i + 1) = (asA ops a vs i).put o.dst (vs.getD i undef) := by
  have ho' : ops.toList[i]? = some o := by simpa using ho
  unfold asA
  simp only [asL, ho', Option.bind_some]
  cases o.dst with
  | none => rfl
  | some d => simp only [Act.put, List.setIfInBounds_toArray]
def trA (ops : Array Oper) (a : Act) (vs : List Value) (ws : List World) (A : World) : Trace := ⟨asA ops a vs, fun i => ws.getD i A, fun i => vs.getD i undef⟩
theorem ca_draw (G : Good P) {id : Nat} (vs : List Value) (ws : List World) (hr : rck ops = true) (h0 : ws.getD 0 A = A) (h : ∀ (i : Nat) (o : Oper), ops[i]? = some o → StepOk P (Wd P n₀) ops (trA ops a vs ws A) i o)
    (b : Act) (A' : World) (hb : asA ops a vs ops.size = b) (hA : ws.getD ops.size A = A') (k : Q .normal b A') : wpC P n₀ ro (.region id ops true) Q a A :=
  have k : Q .normal (asA ops a vs ops.size) (ws.getD ops.size A) := by rw [hb, hA]; exact k
  ⟨.normal, _, _, code_of G (c := .region id ops true) ⟨rfl, hr, trA ops a vs ws A, by simp [trA, asA, asL], h0, rfl, rfl, h⟩, k⟩
theorem sa_quiet {vs : List Value} {ws : List World} {i : Nat} {o : Oper} (ho : ops[i]? = some o) (ps : List Nat) (h : ∀ p ∈ ps, AOp P (asA ops a vs i).eval o (ws.getD p A) (.value (vs.getD i undef)) (ws.getD p A)) (hws : ws.getD (i + 1) A = ws.getD i A)
    (hps : (effs ops ++ [ops.size]).filter (mayAt ops (masks ops) i) = ps := by kernel_rfl) (hk : kindOf o.op = .quiet := by rfl) (hw : Region.wanted o (yielded ops (asA ops a vs i).tmps) = true := by kernel_rfl) : StepOk P (Wd P n₀) ops (trA ops a vs ws A) i o := by
  refine ⟨asA_succ ho, ?_⟩
  rw [if_pos (by exact hw), hk]
  refine ⟨hws, fun p hp hm => h p ?_⟩
  rw [← hps]; exact List.mem_filter.2 ⟨hp, hm⟩
theorem sa_acts {vs : List Value} {ws : List World} {i : Nat} {o : Oper} (ho : ops[i]? = some o) (h : RunOp P (Wd P n₀) o (asA ops a vs i) (ws.getD i A) (vs.getD i undef) (ws.getD (i + 1) A))
    (hk : kindOf o.op = .acts := by rfl) (hw : Region.wanted o (yielded ops (asA ops a vs i).tmps) = true := by kernel_rfl) : StepOk P (Wd P n₀) ops (trA ops a vs ws A) i o := by
  refine ⟨asA_succ ho, ?_⟩
  rw [if_pos (by exact hw), hk]; exact h
end
end Go.Abs
/-
  ABS B8: lists of any values of one cell each, as they grow; writes and reads within a block of one's own.
-/
namespace Go.Abs
section
variable {P : Program}
/-- A list of values that may be read. -/
def RdV (A : World) (p : Option Addr) (l : List Value) : Prop := ∀ (i : Nat) (x : Value), l[i]? = some x → ∃ ad, p = some ad ∧ A.cell? (ad.add (i * 1)) = some x
/-- A list of one's own that an append has grown (or that is nil). -/
def lstG (t : TypeId) (v : Value) (l : List Value) : Asn := fun F A => (l = [] ∧ v = .slice none 0 0 ∧ ∀ b, ¬ F b) ∨ (l ≠ [] ∧ ∃ d, v = .slice (some ⟨d, 0, none⟩) l.length l.length ∧ blk d (.cells l.toArray t (1, 0)) F A)
theorem Owns.lstG {t : TypeId} {v : Value} {l : List Value} : Owns (lstG t v l) := by
  refine ⟨fun {F A b} h hb => ?_, fun {F A A'} h hk hr => ?_⟩
  · rcases h with ⟨_, _, h⟩ | ⟨_, d, _, h⟩
    · exact (h _ hb).elim
    · exact Owns.blk.lt h hb
  · rcases h with ⟨e, e', h⟩ | ⟨e, d, e', h⟩
    · exact .inl ⟨e, e', h⟩
    · exact .inr ⟨e, d, e', Owns.blk.loc h hk hr⟩
theorem lstG_rd {t : TypeId} {v : Value} {l : List Value} {F : Foot} {A : World} (h : lstG t v l F A) : ∃ p, v = .slice p l.length l.length ∧ RdV A p l := by
  rcases h with ⟨rfl, rfl, _⟩ | ⟨_, d, rfl, h⟩
  · exact ⟨none, rfl, fun i x hx => by simp at hx⟩
  · refine ⟨_, rfl, fun i x hx => ⟨_, rfl, ?_⟩⟩
    rw [cell_add (a := ⟨d, 0, none⟩) h.2 rfl]
    simp [hx]
theorem lstV_lstG {t : TypeId} {v : Value} {acc : List Int} {F : Foot} {A : World} : lstV t v acc F A ↔ lstG t v (acc.map (Value.int .i64)) F A := by
  unfold lstV lstG ints
  simp
theorem lstG_grow {sT xT e : TypeId} (T : AppTy P sT xT e) {v : Value} {acc l : List Value} {R : Asn} {F : Foot} {A : World} {p : Option Addr} {n c2 : Nat} (hR : Owns R) (h : ((lstG e v acc).sep R) F A) (hr : RdV A p l) (ho : ∀ x ∈ l, isOne x = true) (hn : n = l.length) (hlen : acc.length + l.length ≤ 16777216) :
    ∃ v' A2 F2, (∀ (o : Oper) (c : Call) (ρ : Operand → Value), o.op = .call c → c.callee = .builtin .append → c.argTypes = #[sT, xT] → c.args.toList.map ρ = [v, .slice p n c2] → AOp P ρ o A (.value v') A2) ∧
      ((lstG e v' (acc ++ l)).sep R) F2 A2 ∧ Step F A F2 A2 := by
  subst hn
  obtain ⟨e', hx⟩ := T.x
  obtain ⟨ie, z, hi, hz, hz1, hsz, hby⟩ := T.i
  have hAt : ∀ c : Call, c.argTypes = #[sT, xT] → AppAt P c.argTypes e ie z ∧ zerosOf P c.argTypes = false := fun c ht =>
    ⟨⟨hz, ⟨sT, by rw [ht]; rfl, T.s⟩, hi, fun t h => by rw [ht] at h; cases h; exact .inl ⟨_, hx⟩⟩, by simp [zerosOf, ht, hx]⟩
  have hall : l.toArray.toList.all isOne = true := by simpa using ho
  have hsl : ∃ b, v = .slice b acc.length acc.length ∧ ((acc = [] ∧ b = none) ∨ (acc ≠ [] ∧ ∃ d, b = some ⟨d, 0, none⟩)) := by
    obtain ⟨F1, _, h1, _⟩ := h
    rcases h1 with ⟨rfl, rfl, _⟩ | ⟨hne, d, rfl, _⟩
    · exact ⟨none, rfl, .inl ⟨rfl, rfl⟩⟩
    · exact ⟨_, rfl, .inr ⟨hne, d, rfl⟩⟩
  obtain ⟨b, rfl, hb⟩ := hsl
  have hsrc : ∀ c : Call, c.argTypes = #[sT, xT] → (appSrc (zerosOf P c.argTypes) e ie.size l.length (.slice p l.length c2)).run P A = .ok l.toArray A := fun c ht => by
    rw [(hAt c ht).2, hsz]
    simp only [appSrc, Bool.not_false, if_true]
    cases p with
    | none =>
      have : l = [] := by
        cases l with
        | nil => rfl
        | cons y l => obtain ⟨ad, e, _⟩ := hr 0 y rfl; cases e
      subst this
      simp [Builtin.firstCells]
    | some ad =>
      have := run_loadCells_at (P := P) (A := A) l ad 0 #[] (fun j x hx => by
        obtain ⟨ad', e1, hc⟩ := hr j x hx
        cases e1
        rw [Nat.zero_add]
        rwa [Nat.mul_one] at hc)
      simpa [Builtin.firstCells, loadCells] using this
  by_cases hl0 : l = []
  · subst hl0
    refine ⟨_, A, F, fun o c ρ ho hc ht ha => .inr (.inr (.inl ⟨c, _, ho, hc, rfl, e, ie, z, b, acc.length, acc.length, _, 0, (hAt c ht).1, map_list ha, by rw [(hAt c ht).2]; rfl, .inl ⟨Nat.le_refl _, #[], hsrc c ht, ?_, rfl⟩⟩)), ?_, .refl⟩
    · cases b <;> rfl
    · rw [List.append_nil]; exact h
  · have hl1 : 0 < l.length := List.length_pos_iff.2 hl0
    rcases hb with ⟨rfl, rfl⟩ | ⟨hne, d, rfl⟩
    · obtain ⟨F1, h1, S1⟩ := Asn.newO (Owns.sep Owns.lstG hR) h (.cells l.toArray e (1, 0))
      obtain ⟨F2, h2, S2⟩ := Asn.drop (Asn.swap h1)
      refine ⟨.slice (some ⟨A.heap.size, 0, none⟩) l.length l.length, _, F2, fun o c ρ ho hc ht ha => .inr (.inr (.inl ⟨c, _, ho, hc, rfl, e, ie, z, none, 0, 0, _, l.length, (hAt c ht).1, map_list ha, by rw [(hAt c ht).2]; rfl,
        .inr ⟨by omega, Nat.le_refl _, by simpa using hlen, hby, by rw [isOne_cells hz1, hsz]; rfl, #[], l.toArray, rfl, hsrc c ht, by simp, by simp, by simp [hsz], hall, .inl ⟨by simp, fun a h => by cases h⟩⟩⟩)), ?_, S1.trans S2⟩
      refine Asn.map h2 fun F hb => .inr ⟨by simpa using hl0, A.heap.size, by simp, by simpa using hb⟩
    · have hl2 : 0 < acc.length := List.length_pos_iff.2 hne
      have hblk : ((blk d (.cells acc.toArray e (1, 0))).sep R) F A := Asn.map h fun F hb => by
        rcases hb with ⟨e1, _⟩ | ⟨_, d', e1, hb⟩
        · exact absurd e1 hne
        · cases e1; exact hb
      obtain ⟨hk, Sk⟩ := Asn.killed (e := e) hR hblk
      obtain ⟨F1, h1, S1⟩ := Asn.newO (Owns.sep Owns.blk hR) hk (.cells (acc.toArray ++ l.toArray) e (1, 0))
      obtain ⟨F2, h2, S2⟩ := Asn.drop (Asn.swap h1)
      have hold : (Builtin.firstCells ie.size acc.length (.slice (some ⟨d, 0, none⟩) acc.length acc.length)).run P A = .ok acc.toArray A := by
        have := run_loadCells (P := P) acc.length ⟨d, 0, none⟩ 0 #[] acc.toArray e (1, 0) (Asn.at hblk) rfl (by simp)
        rw [hsz]
        have e1 : acc.toArray.extract 0 acc.length = acc.toArray := by
          have : acc.length = acc.toArray.size := by simp
          rw [this]; simp
        simpa [Builtin.firstCells, loadCells, e1] using this
      have esz : (kill A d e).heap.size = A.heap.size := kill_size _ _
      rw [esz] at h2
      refine ⟨.slice (some ⟨A.heap.size, 0, none⟩) (acc.length + l.length) (acc.length + l.length), _, F2, fun o c ρ ho hc ht ha => .inr (.inr (.inl ⟨c, _, ho, hc, rfl, e, ie, z, some ⟨d, 0, none⟩, acc.length, acc.length, _, l.length, (hAt c ht).1, map_list ha, by rw [(hAt c ht).2]; rfl,
        .inr ⟨by omega, Nat.le_refl _, hlen, hby, by rw [isOne_cells hz1, hsz]; rfl, acc.toArray, l.toArray, hold, hsrc c ht, rfl, by simp [hsz], by simp [hsz], hall, .inr ⟨⟨d, 0, none⟩, acc.toArray, rfl, Asn.at hblk, hl2, rfl⟩⟩⟩)), ?_, Sk.trans (S1.trans S2)⟩
      refine Asn.map h2 fun F hb => .inr ⟨by simp [hne], A.heap.size, by simp, ?_⟩
      have e2 : (acc ++ l).toArray = acc.toArray ++ l.toArray := by simp
      rw [e2]; exact hb

theorem add_at (d i : Nat) : (⟨d, 0, none⟩ : Addr).add (i * 1) = ⟨d, i, none⟩ := by
  rw [Nat.mul_one]
  unfold Addr.add
  by_cases h : i = 0
  · subst h; rfl
  · rw [if_neg h]; simp
/-- A cell of a block of one's own. -/
theorem Asn.cellAt {J : Asn} {F : Foot} {A : World} {d i : Nat} {c : Array Value} {t : TypeId} {fz : Nat × Nat} {x : Value} (h : ((blk d (.cells c t fz)).sep J) F A) (hi : c[i]? = some x) : A.cell? ⟨d, i, none⟩ = some x := by
  rw [cell_at (a := ⟨d, i, none⟩) (Asn.at h) rfl]; exact hi
theorem Asn.softAt {J : Asn} {F : Foot} {A : World} {d i : Nat} {c : Array Value} {t : TypeId} {fz : Nat × Nat} (h : ((blk d (.cells c t fz)).sep J) F A) (hf : fz = (0, 0) ∨ fz = (1, 0)) : A.frozen? ⟨d, i, none⟩ = false := by
  simp only [World.frozen?, Asn.at h]
  rcases hf with rfl | rfl <;> simp
theorem Asn.putAt {J : Asn} {F : Foot} {A : World} {d i : Nat} {c : Array Value} {t : TypeId} {fz : Nat × Nat} (hJ : Owns J) (h : ((blk d (.cells c t fz)).sep J) F A) (hf : fz = (0, 0) ∨ fz = (1, 0)) (x : Value) :
    ((blk d (.cells (c.setIfInBounds i x) t fz)).sep J) F (A.setCell ⟨d, i, none⟩ x) ∧ Step F A F (A.setCell ⟨d, i, none⟩ x) := by
  obtain ⟨F1, F2, h1, h3, h4, h5⟩ := h
  have hb : F1 d := (h1.1 d).2 rfl
  have hne : ∀ k, k ≠ d → (A.setCell ⟨d, i, none⟩ x).heap[k]? = A.heap[k]? := fun k hk => set_ne hk
  have hro : RoKept A (A.setCell ⟨d, i, none⟩ x) := fun k ⟨c', t', n, hc, hn⟩ => hne k fun e => by
    subst e; rw [h1.2] at hc; cases hc
    rcases hf with hf | hf <;> (cases hf <;> omega)
  have hat : (A.setCell ⟨d, i, none⟩ x).heap[d]? = some (.cells (c.setIfInBounds i x) t fz) := by
    show (A.heap.modify d _)[d]? = _
    rw [Array.getElem?_modify]; simp [h1.2]
  exact ⟨⟨F1, F2, ⟨h1.1, hat⟩, hJ.loc h3 (fun k hk => hne k fun e => h4 d hb (e ▸ hk)) hro, h4, h5⟩, ⟨Nat.le_of_eq set_size.symm, fun k _ hn => hne k fun e => hn ((h5 k).2 (.inl (e ▸ hb))), hro, fun k hk => .inl hk⟩⟩
end
end Go.Abs
/-
  ABS B9: a call on blocks that it may read, whatever lies in them: from a real world to a canonical one.
-/
namespace Go.Abs
section
variable {P : Program} {W : World}
/-- A block to be read: what of it is seen, its element type, where it lies in the real world. -/
structure InB where
  l : List Value
  t : TypeId
  a : Addr
def inG (bs : List InB) : World := { (default : World) with heap := (bs.map fun b => Obj.cells b.l.toArray b.t (0, b.l.length + 1)).toArray }
def inGR (bs : List InB) : Ren := fun k => (bs[k]?).map fun b => ⟨b.a.block, b.a.off, none⟩
/-- There it lies. -/
def LiesG (P : Program) (bs : List InB) (W : World) (b : InB) : Prop := b.a.spot = none ∧ ∃ c t fz, W.heap[b.a.block]? = some (.cells c t fz) ∧ ∀ (i : Nat) x, b.l[i]? = some x → ∃ x', c[b.a.off + i]? = some x' ∧ VRel P (inGR bs) x x'
theorem inG_at {bs : List InB} {k : Nat} {o : Obj} (h : (inG bs).heap[k]? = some o) : ∃ b, bs[k]? = some b ∧ o = .cells b.l.toArray b.t (0, b.l.length + 1) := by
  simp only [inG, List.getElem?_toArray, List.getElem?_map, Option.map_eq_some_iff] at h
  obtain ⟨p, h1, h2⟩ := h
  exact ⟨p, h1, h2.symm⟩
theorem sim_inG {bs : List InB} (h : ∀ b ∈ bs, LiesG P bs W b) : Sim P W.heap.size (inGR bs) (inG bs) W where
  obj k e o hb ho := by
    obtain ⟨p, hp, rfl⟩ := inG_at ho
    simp only [inGR, hp, Option.map_some, Option.some.injEq] at hb
    subst hb
    obtain ⟨_, c, t', fz, hc, hi⟩ := h p (List.mem_of_getElem? hp)
    refine .inr ⟨c, t', fz, hc, fun i x hx => ?_, .inr (.inr ⟨rfl, by simp⟩), fun hn => absurd (Nat.succ_pos _) hn, fun hf => by simp at hf, fun _ => rfl⟩
    obtain ⟨x', h1, h2⟩ := hi i x (by simpa using hx)
    exact ⟨x', by rw [Nat.add_comm]; exact h1, h2⟩
  inj b b' e e' o o' _ _ ho _ hw := by
    obtain ⟨p, _, rfl⟩ := inG_at ho
    simp [wr] at hw
  dom b e hb := by
    simp only [inGR, Option.map_eq_some_iff] at hb
    obtain ⟨p, hp, rfl⟩ := hb
    obtain ⟨_, c, t', fz, hc, _⟩ := h p (List.mem_of_getElem? hp)
    exact (Array.getElem?_eq_some_iff.1 hc).1
  lo := Nat.le_refl _
theorem inG_size {bs : List InB} : (inG bs).heap.size = bs.length := by simp [inG]
theorem inG_free {bs : List InB} (b : Nat) (h : (inG bs).heap.size ≤ b) : inGR bs b = none := by
  rw [inG_size] at h
  simp [inGR, h]
theorem inG_ro {bs : List InB} (k : Nat) (o : Obj) (h : (inG bs).heap[k]? = some o) : wr o = false := by
  obtain ⟨p, _, rfl⟩ := inG_at h
  simp [wr]
theorem inG_slice {bs : List InB} {k : Nat} {b : InB} {n cap : Nat} (hb : bs[k]? = some b) (h : b.a.spot = none) : VRel P (inGR bs) (.slice (some ⟨k, 0, none⟩) n cap) (.slice (some b.a) n cap) :=
  .slice (.inl ⟨⟨rfl, h, ⟨b.a.block, b.a.off, none⟩, by simp [inGR, hb], rfl, by simp⟩, .inl rfl⟩)
theorem inG_rd {bs : List InB} {k : Nat} {b : InB} (hb : bs[k]? = some b) : RdV (inG bs) (some ⟨k, 0, none⟩) b.l ∧ RoB (inG bs) k := by
  have hh : (inG bs).heap[k]? = some (.cells b.l.toArray b.t (0, b.l.length + 1)) := by simp [inG, hb]
  refine ⟨fun i x hx => ⟨_, rfl, ?_⟩, ⟨_, _, _, hh, Nat.succ_pos _⟩⟩
  rw [cell_add (a := ⟨k, 0, none⟩) hh rfl]
  simp [hx]
end
end Go.Abs
/-
  ABS B10: more of a region that draws its order: operations whose guard says no; a function called by its name; a choice whose value is told.
-/
namespace Go.Abs
section
variable {P : Program} {n₀ : Nat} {a : Act} {A : World} {ops : Array Oper}
theorem sa_not {vs : List Value} {ws : List World} {i : Nat} {o : Oper} (ho : ops[i]? = some o) (hv : vs.getD i undef = undef) (hws : ws.getD (i + 1) A = ws.getD i A) (hw : Region.wanted o (yielded ops (asA ops a vs i).tmps) = false := by kernel_rfl) : StepOk P (Wd P n₀) ops (trA ops a vs ws A) i o := by
  refine ⟨asA_succ ho, ?_⟩
  have hw' : Region.wanted o (yielded ops ((trA ops a vs ws A).as i).tmps) = false := hw
  rw [if_neg (by rw [hw']; decide)]
  exact ⟨hws, hv⟩
theorem sa_makes {vs : List Value} {ws : List World} {i : Nat} {o : Oper} (ho : ops[i]? = some o) (obj : Obj) (hws : ws.getD (i + 1) A = (ws.getD i A).alloc obj) (hwr : wr obj = true) (hv : newVal (vs.getD i undef) (ws.getD i A).heap.size)
    (mkv : Nat → Value) (hmk : vs.getD i undef = mkv (ws.getD i A).heap.size) (hrun : ∀ w : World, RegOk P w (asA ops a vs i).eval o.op ∧ (execOp (asA ops a vs i).eval o).run P w = .ok (.value (mkv w.heap.size)) (w.alloc obj)) (ps : List Nat) (h : ∀ p ∈ ps, (ws.getD p A).heap[(ws.getD i A).heap.size]? = some obj)
    (hps : (effs ops ++ [ops.size]).filter (fun p => decide (i < p) && mayAt ops (masks ops) i p) = ps := by kernel_rfl) (hk : kindOf o.op = .makes := by rfl) (hw : Region.wanted o (yielded ops (asA ops a vs i).tmps) = true := by kernel_rfl) : StepOk P (Wd P n₀) ops (trA ops a vs ws A) i o := by
  refine ⟨asA_succ ho, ?_⟩
  rw [if_pos (by exact hw), hk]
  refine ⟨obj, hws, hwr, hv, fun w hw => ?_, fun p hp hlt hm => h p ?_⟩
  · have := hrun w
    rw [show w.heap.size = (ws.getD i A).heap.size from hw, ← hmk] at this
    exact this
  · rw [← hps]; exact List.mem_filter.2 ⟨hp, by simp [hlt, hm]⟩
theorem run_named {o : Oper} {A1 : World} {c : Call} {g : Operand} {f : FuncId} {fn : Func} {code : Code} {v : Value} {l : List Value} (H : IsFn P f fn code) (h : SndCall P n₀ f l.toArray A v A1) (hg : a.eval g = .func (.func f) #[] #[]) (hx : c.args.toList.map a.eval = l)
    (ho : o.op = .call c := by rfl) (hc : c.callee = .value g := by rfl) : RunOp P (Wd P n₀) o a A v A1 := by
  have e : c.args.map a.eval = l.toArray := by rw [← hx, ← Array.toList_map]
  have e2 : #[] ++ c.args.map a.eval ++ #[] = l.toArray := by rw [e]; simp
  exact ⟨_, _, .inr (.inr (.inr (.inl ⟨c, g, f, #[], #[], fn, code, ho, hc, hg, H.at_, H.body, H.name, rfl, rfl⟩))), e2 ▸ h⟩
theorem aop_picks {ρ : Operand → Value} {o : Oper} {c x y : Operand} {b : Bool} {v : Value} (h : o.op = .pick c x y) (hc : ρ c = .bool b) (hv : (if b then ρ x else ρ y) = v) : AOp P ρ o A (.value v) A := hv ▸ aop_pick h hc
theorem aop_lenV {ρ : Operand → Value} {o : Oper} {c : Call} {t e : TypeId} {b : Option Addr} {len cap : Nat} {v : Value} (h : o.op = .call c) (hc : c.callee = .builtin .len) (ht : c.argTypes[0]? = some t) (hu : P.underlying t = some (.slice e)) (hx : c.args.toList.map ρ = [.slice b len cap]) (hv : Value.int .i64 len = v) :
    AOp P ρ o A (.value v) A := hv ▸ aop_len h hc ht hu hx
end
end Go.Abs
/-
  ABS B11: a call of which it is known, at every real world, that it turns one block: as a call of the canonical run.
-/
namespace Go.Abs
open Go.RowKit
section
variable {P : Program} {n₀ : Nat} {A W W' : World}
def turn (A : World) (d : Nat) (o : Obj) : World := { A with heap := A.heap.setIfInBounds d o }
theorem turn_size {d : Nat} {o : Obj} : (turn A d o).heap.size = A.heap.size := by simp [turn]
theorem turn_ne {d k : Nat} {o : Obj} (h : k ≠ d) : (turn A d o).heap[k]? = A.heap[k]? := by
  simp only [turn, Array.getElem?_setIfInBounds]
  rw [if_neg (fun e => h e.symm)]
theorem turn_at {d : Nat} {o o' : Obj} (h : A.heap[d]? = some o') : (turn A d o).heap[d]? = some o := by
  have hd := lt_of_some h
  simp [turn, hd]
/-- From blk's cells at off on there is what c' says; all else is as it was. -/
structure Turned (W W' : World) (blk off : Nat) (c' : Array Value) : Prop where
  at_ : ∀ cw tw fw, W.heap[blk]? = some (.cells cw tw fw) → ∃ cw', W'.heap[blk]? = some (.cells cw' tw fw) ∧ cw'.size = cw.size ∧ ∀ (i : Nat) x, c'[i]? = some x → cw'[off + i]? = some x
  keep : ∀ b, b < W.heap.size → b ≠ blk → W'.heap[b]? = W.heap[b]?
  size : W.heap.size ≤ W'.heap.size
  os : W'.os = W.os
  tape : W'.tape = W.tape
  output : W'.output = W.output
theorem snd_turn {f : FuncId} {d n cap : Nat} {c c' : Array Value} {t : TypeId} {fz : Nat × Nat} (hd : A.heap[d]? = some (.cells c t fz)) (hw : fz = (0, 0) ∨ fz = (1, 0)) (hsz : c'.size = c.size) (hcap : 0 < cap ∨ fz = (0, 0)) (hp : ∀ (i : Nat) x, c[i]? = some x → plain x = true) (hp' : ∀ (i : Nat) x, c'[i]? = some x → plain x = true)
    (H : ∀ (W : World) (blk off cap' : Nat) (cw : Array Value) (tw : TypeId) (fw : Nat × Nat), W.heap[blk]? = some (.cells cw tw fw) → ¬ fw.1 < fw.2 → (∀ (i : Nat) x, c[i]? = some x → cw[off + i]? = some x) → Calls P f #[.slice (some ⟨blk, off, none⟩) n cap'] W fun e W' => e = .returned undef ∧ Turned W W' blk off c') :
    SndCall P n₀ f #[.slice (some ⟨d, 0, none⟩) n cap] A undef (turn A d (.cells c' t fz)) := by
  refine ⟨Nat.le_of_eq turn_size.symm, fun ι W xs' S hx _ => ?_⟩
  have hx0 : xs'.size = 1 := hx.1.symm
  obtain ⟨y, rfl⟩ : ∃ y, xs' = #[y] := Array.size_eq_one_iff.1 hx0
  have hy := hx.2 0 _ y rfl rfl
  cases hy with
  | slice h =>
    rename_i a' cap'
    rcases h with ⟨⟨_, hsp, e, he, hb, ho⟩, _⟩ | ⟨_, h0, _, e, g, he, hg⟩
    case inr =>
      exfalso
      rcases hcap with hcap | rfl
      · omega
      · rcases S.obj d e _ he hd with ⟨h1, _⟩ | ⟨_, _, _, _, _, _, _, _, h2⟩
        · cases h1
        · rw [h2 (by simp)] at hg; cases hg
    have hO := S.obj d e _ he hd
    obtain ⟨cw, tw, fw, hW, hcells, hfz, hfr, hg1, hg2⟩ : ∃ c0 t0 fz0, W.heap[e.blk]? = some (.cells c0 t0 fz0) ∧ (∀ (i : Nat) x, c[i]? = some x → ∃ x', c0[i + e.sh]? = some x' ∧ VRel P ι x x') ∧ (fz = (0, 0) ∨ fz = (1, 0) ∨ (fz.1 = 0 ∧ c.size < fz.2)) ∧ (¬ fz.1 < fz.2 → n₀ ≤ e.blk ∧ ¬ fz0.1 < fz0.2) ∧ (fz = (1, 0) → e.gr = some (t, c0.size)) ∧ (fz ≠ (1, 0) → e.gr = none) := by
      rcases hO with ⟨h1, _⟩ | h
      · rcases hw with h | h <;> (rw [h] at h1; cases h1)
      · exact h
    have hnf : ¬ fz.1 < fz.2 := by rcases hw with rfl | rfl <;> simp
    obtain ⟨hn0, hfw⟩ := hfr hnf
    have hwr : wr (.cells c t fz) = true := by rcases hw with rfl | rfl <;> simp [wr]
    have ea : a' = ⟨e.blk, e.sh, none⟩ := by
      cases a'
      simp only [Nat.zero_add] at hb ho hsp
      subst hb; subst ho; subst hsp; rfl
    subst ea
    have := H W e.blk e.sh cap' cw tw fw hW hfw (fun i x hx => by
      obtain ⟨x', h1, h2⟩ := hcells i x hx
      have := h2.plain_eq (hp i x hx)
      subst this
      rw [Nat.add_comm]; exact h1)
    refine (callsIn_wide.2 this).mono ?_
    rintro e2 W' ⟨rfl, T⟩
    refine ⟨ι, undef, rfl, ⟨fun b eb o hb ho => ?_, fun b b' eb eb' o o' hb hb' ho ho' hwo hal hbe => ?_, fun b eb hb => Nat.lt_of_lt_of_le (S.dom b eb hb) T.size, Nat.le_trans S.lo T.size⟩, ?_, .of_plain rfl⟩
    · by_cases hbd : b = d
      · subst hbd
        rw [he] at hb; cases hb
        rw [turn_at hd] at ho; cases ho
        obtain ⟨cw', h1, h2, h3⟩ := T.at_ cw tw fw hW
        refine .inr ⟨cw', tw, fw, h1, fun i x hx => ⟨x, by rw [Nat.add_comm]; exact h3 i x hx, .of_plain (hp' i x hx)⟩, ?_, hfr, fun h => by rw [h2]; exact hg1 h, hg2⟩
        rcases hfz with h | h | h
        · exact .inl h
        · exact .inr (.inl h)
        · exact .inr (.inr ⟨h.1, by omega⟩)
      · rw [turn_ne hbd] at ho
        by_cases hal : alive o = true
        · have hne : eb.blk ≠ e.blk := fun h => hbd (S.inj d b e eb _ o he hb hd ho hwr hal h.symm).symm
          exact (S.obj b eb o hb ho).later (Ren.le.refl ι) (T.keep _ (S.dom b eb hb) hne)
        · have hO' := S.obj b eb o hb ho
          cases o with
          | cells c1 t1 fz1 =>
            rcases hO' with h | ⟨_, _, _, _, _, h, _⟩
            · exact .inl h
            · exfalso
              apply hal
              rcases h with rfl | rfl | ⟨h1, h2⟩
              · rfl
              · rfl
              · have : 0 < fz1.2 := by omega
                simp [alive, h1, this]
          | _ => simp [alive] at hal
    · have get : ∀ {k : Nat} {o : Obj}, (turn A d (.cells c' t fz)).heap[k]? = some o → ∃ o0, A.heap[k]? = some o0 ∧ (wr o = true → wr o0 = true) ∧ (alive o = true → alive o0 = true) := fun {k o} hk => by
        by_cases e : k = d
        · subst e
          rw [turn_at hd] at hk; cases hk
          exact ⟨_, hd, fun _ => hwr, fun _ => alive_of_wr hwr⟩
        · rw [turn_ne e] at hk
          exact ⟨o, hk, id, id⟩
      obtain ⟨o1, g1, g2, _⟩ := get ho
      obtain ⟨o2, g3, _, g4⟩ := get ho'
      exact S.inj b b' eb eb' o1 o2 hb hb' g1 g3 (g2 hwo) (g4 hal) hbe
    · have get : ∀ {k : Nat} {o : Obj}, (turn A d (.cells c' t fz)).heap[k]? = some o → wr o = true → ∃ o0, A.heap[k]? = some o0 ∧ wr o0 = true := fun {k o} hk hwo => by
        by_cases e : k = d
        · subst e; exact ⟨_, hd, hwr⟩
        · rw [turn_ne e] at hk; exact ⟨o, hk, hwo⟩
      exact { le := Ren.le.refl ι
              news := fun b e h h' => by rw [h] at h'; cases h'
              keep := fun b hb hn => T.keep b hb fun h => hn d e _ he hd hwr h.symm
              img := fun k eb o h h' hwo _ => by
                obtain ⟨o0, h1, h2⟩ := get h' hwo
                exact ⟨k, eb, o0, h, h1, h2, rfl⟩
              fresh := fun k e h h' => by rw [h] at h'; cases h'
              asz := Nat.le_of_eq turn_size.symm
              wsz := T.size
              os := T.os
              tape := T.tape
              output := T.output }
/-- A block of one's own, turned. -/
theorem Asn.turned {J : Asn} {F : Foot} {d : Nat} {c c' : Array Value} {t : TypeId} {fz : Nat × Nat} (hJ : Owns J) (h : ((blk d (.cells c t fz)).sep J) F A) (hf : fz = (0, 0) ∨ fz = (1, 0)) :
    ((blk d (.cells c' t fz)).sep J) F (turn A d (.cells c' t fz)) ∧ Step F A F (turn A d (.cells c' t fz)) := by
  obtain ⟨F1, F2, h1, h3, h4, h5⟩ := h
  have hb : F1 d := (h1.1 d).2 rfl
  have hro : RoKept A (turn A d (.cells c' t fz)) := fun k ⟨c0, t0, n, hc, hn⟩ => turn_ne fun e => by
    subst e; rw [h1.2] at hc; cases hc
    rcases hf with hf | hf <;> (cases hf <;> omega)
  exact ⟨⟨F1, F2, ⟨h1.1, turn_at h1.2⟩, hJ.loc h3 (fun k hk => turn_ne fun e => h4 d hb (e ▸ hk)) hro, h4, h5⟩, ⟨Nat.le_of_eq turn_size.symm, fun k _ hn => turn_ne fun e => hn ((h5 k).2 (.inl (e ▸ hb))), hro, fun k hk => .inl hk⟩⟩
end
end Go.Abs
/-
  ABS B13: values of several cells: structs and arrays: laid, read, written, put together; slices of them.
-/
namespace Go.Abs
section
variable {P : Program} {A A' : World} {ρ : Operand → Value} {o : Oper}
/-- A type: how many cells, and whether its values are put together. -/
def tyOf (P : Program) (t : TypeId) (n : Nat) (g : Bool) : Bool :=
  (match P.underlying t with | some (.struct _) | some (.array ..) => g | some _ => !g | none => false) && (match P.info? t with | some i => decide (i.size = n) | none => false)
theorem run_agg {t : TypeId} {n : Nat} {g : Bool} (h : tyOf P t n g = true) (w : World) : (isAgg t).run P w = .ok g w := by
  unfold tyOf at h
  simp only [Bool.and_eq_true] at h
  obtain ⟨h1, _⟩ := h
  unfold isAgg underlying program
  cases hu : P.underlying t with
  | none => rw [hu] at h1; cases h1
  | some d => cases d <;> simp_all [Sem.run, Bind.bind, Sem.bind, Pure.pure]
theorem run_szT {t : TypeId} {n : Nat} {g : Bool} (h : tyOf P t n g = true) (w : World) : (sizeOf t).run P w = .ok n w := by
  unfold tyOf at h
  simp only [Bool.and_eq_true] at h
  obtain ⟨_, h1⟩ := h
  unfold sizeOf typeInfo program
  cases hu : P.info? t with
  | none => rw [hu] at h1; cases h1
  | some d => rw [hu] at h1; simp_all [Sem.run, Bind.bind, Sem.bind, Pure.pure]
theorem run_under {t : TypeId} {d : TypeDesc} (hu : P.underlying t = some d) (w : World) : (underlying t).run P w = .ok d w := by
  simp [underlying, program, Sem.run, Bind.bind, Sem.bind, Pure.pure, hu]
theorem run_zeroT {t : TypeId} {i : TypeInfo} {z : Value} (hi : P.info? t = some i) (hz : i.zero = some z) (w : World) : (zeroValue t).run P w = .ok z w := by
  simp [zeroValue, typeInfo, program, Sem.run, Bind.bind, Sem.bind, Pure.pure, hi, hz]
theorem aop_boxT {t : TypeId} {x : Operand} {v : Value} {cs : Array Value} (h : o.op = .box t x) (hx : ρ x = v) (hc : v.cells = cs) : AOp P ρ o A (.value (.pointer (some ⟨A.heap.size, 0, none⟩))) (A.alloc (.cells cs t (0, 0))) := by
  refine .inr (.inl ⟨by rw [h]; trivial, ?_⟩)
  subst hc
  unfold execOp; rw [h]
  simp only [hx]
  simp only [Instr.box, newVar, newRow]
  rfl
theorem aop_allocT {t : TypeId} {i : TypeInfo} {z : Value} {cs : Array Value} (h : o.op = .alloc t) (hi : P.info? t = some i) (hz : i.zero = some z) (hc : z.cells = cs) :
    AOp P ρ o A (.value (.pointer (some ⟨A.heap.size, 0, none⟩))) (A.alloc (.cells cs t (0, 0))) := by
  refine .inr (.inl ⟨by rw [h]; trivial, ?_⟩)
  subst hc
  unfold execOp; rw [h]
  simp only [Instr.alloc, Sem.run_bind, Result.andThen, run_zeroT hi hz, newVar, newRow]
  rfl
/-- A value of n cells is read. -/
theorem aop_loadT {t : TypeId} {n : Nat} {x : Operand} {p : Addr} {cs xs : Array Value} {tq : TypeId} {fz : Nat × Nat} (h : o.op = .load t x) (hx : ρ x = .pointer (some p)) (h1 : tyOf P t n true = true) (hb : A.heap[p.block]? = some (.cells cs tq fz)) (hs : p.spot = none) (hn : p.off + n ≤ cs.size)
    (hc : cs.extract p.off (p.off + n) = xs) : AOp P ρ o A (.value (.agg xs)) A := by
  refine .inr (.inl ⟨by rw [h]; trivial, ?_⟩)
  subst hc
  unfold execOp; rw [h]
  have := run_loadCells (P := P) n p 0 #[] cs tq fz hb hs (by simpa using hn)
  simp only [Nat.add_zero, Array.empty_append] at this
  simp only [Instr.loadAt, hx, Instr.sureAddr, Sem.run_bind, Sem.run_pure, Result.andThen, loadVar, run_agg h1, run_szT h1, if_true, loadCells, this]
theorem run_store {p : Addr} {u v : Value} (hv : isOne v = true) (hc : A.cell? p = some u) (hz : A.frozen? p = false) : (Go.store p v).run P A = .ok () (A.setCell p v) := by
  cases v <;> simp_all [isOne, Go.store, Sem.run]
/-- A value of one cell that is put together is written. -/
theorem aop_storeT1 {t : TypeId} {x y : Operand} {p : Addr} {u v : Value} (h : o.op = .store t x y) (hx : ρ x = .pointer (some p)) (hy : ρ y = .agg #[v]) (h1 : tyOf P t 1 true = true) (hv : isOne v = true) (hc : A.cell? p = some u) (hz : A.frozen? p = false) : AOp P ρ o A .skip (A.setCell p v) := by
  refine .inr (.inl ⟨by rw [h]; trivial, ?_⟩)
  unfold execOp; rw [h]
  have e : p.add 0 = p := by cases p; simp [Addr.add]
  simp only [Instr.storeAt, hx, hy, Instr.sureAddr, Sem.run_bind, Sem.run_pure, Result.andThen, storeVar, run_szT h1, Value.cells]
  rw [if_neg (by simp)]
  simp only [storeCells, e, Sem.run_bind, run_store hv hc hz, Result.andThen]
  rfl
theorem aop_storeT2 {t : TypeId} {x y : Operand} {p : Addr} {u u' v v' : Value} (h : o.op = .store t x y) (hx : ρ x = .pointer (some p)) (hy : ρ y = .agg #[v, v']) (h1 : tyOf P t 2 true = true) (hv : isOne v = true) (hv' : isOne v' = true) (hc : A.cell? p = some u) (hz : A.frozen? p = false)
    (hc' : (A.setCell p v).cell? (p.add 1) = some u') (hz' : (A.setCell p v).frozen? (p.add 1) = false) : AOp P ρ o A .skip ((A.setCell p v).setCell (p.add 1) v') := by
  refine .inr (.inl ⟨by rw [h]; trivial, ?_⟩)
  unfold execOp; rw [h]
  have e : p.add 0 = p := by cases p; simp [Addr.add]
  simp only [Instr.storeAt, hx, hy, Instr.sureAddr, Sem.run_bind, Sem.run_pure, Result.andThen, storeVar, run_szT h1, Value.cells]
  rw [if_neg (by simp)]
  simp only [storeCells, e, Sem.run_bind, run_store hv hc hz, Result.andThen, Nat.zero_add, run_store hv' hc' hz']
  rfl
/-- A field's address. -/
theorem aop_fieldAddr {s : TypeId} {x : Operand} {k n : Nat} {p : Addr} {fs : Array Field} {f : Field} {g : Bool} (h : o.op = .fieldAddr s x k) (hx : ρ x = .pointer (some p)) (hu : P.underlying s = some (.struct fs)) (hf : fs[k]? = some f) (h1 : tyOf P f.type n g = true) (hn : n ≠ 0) (hc : P.cellsOf f.type ≠ 0) : AOp P ρ o A (.value (.pointer (some (p.add f.offset)))) A := by
  refine .inr (.inl ⟨by rw [h]; exact fun fs' f' h1 h2 => by rw [hu] at h1; cases h1; rw [hf] at h2; cases h2; exact hc, ?_⟩)
  unfold execOp; rw [h]
  simp only [Instr.fieldAt, hx, Sem.run_bind, Result.andThen, run_under hu, hf, Instr.sureAddr, Sem.run_pure, fieldPlace, run_szT h1]
  rw [if_neg hn]
  simp only [Sem.run_pure]
/-- An element's address, of a slice. -/
theorem aop_indexT {t e : TypeId} {n : Nat} {g : Bool} {x ix : Operand} {p : Addr} {len cap i : Nat} {k : IntKind} (h : o.op = .indexAddr t x ix) (hx : ρ x = .slice (some p) len cap) (hi : ρ ix = .int k i) (hu : P.underlying t = some (.slice e)) (h1 : tyOf P e n g = true) (hl : i < len) :
    AOp P ρ o A (.value (.pointer (some (p.add (i * n))))) A := by
  refine .inr (.inl ⟨by rw [h]; trivial, ?_⟩)
  unfold execOp; rw [h]
  have hl' : (0 : Int) ≤ i ∧ (i : Int) < len := ⟨by omega, by omega⟩
  simp only [Instr.indexAt, hx, hi, asIntOf, Sem.run_bind, Sem.run_pure, Result.andThen, run_under hu, run_szT h1, hl', and_self, if_true, Int.toNat_natCast]
/-- .. of an array. -/
theorem aop_indexA {t e : TypeId} {n len : Nat} {g : Bool} {x ix : Operand} {p : Addr} {i : Nat} {k : IntKind} (h : o.op = .indexAddr t x ix) (hx : ρ x = .pointer (some p)) (hi : ρ ix = .int k i) (hu : P.underlying t = some (.array len e)) (h1 : tyOf P e n g = true) (hl : i < len) :
    AOp P ρ o A (.value (.pointer (some (p.add (i * n))))) A := by
  refine .inr (.inl ⟨by rw [h]; trivial, ?_⟩)
  unfold execOp; rw [h]
  have hl' : (0 : Int) ≤ i ∧ (i : Int) < len := ⟨by omega, by omega⟩
  simp only [Instr.indexAt, hx, hi, asIntOf, Sem.run_bind, Sem.run_pure, Result.andThen, run_under hu, run_szT h1, hl', and_self, if_true, Int.toNat_natCast, Instr.sureAddr]
theorem aop_nilCheck {x : Operand} {p : Addr} (h : o.op = .nilCheck x) (hx : ρ x = .pointer (some p)) : AOp P ρ o A (.value (.pointer (some p))) A := by
  refine .inr (.inl ⟨by rw [h]; trivial, ?_⟩)
  unfold execOp; rw [h]
  simp only [hx]
  rfl
/-- Two cells are put together. -/
theorem aop_build2 {t e : TypeId} {x y : Operand} {i : TypeInfo} {z v v' : Value} {a b : Value} (h : o.op = .build t #[(0, x), (1, y)]) (hx : ρ x = v) (hy : ρ y = v') (hv : isOne v = true) (hv' : isOne v' = true) (hu : P.underlying t = some (.array 2 e)) (h1 : tyOf P e 1 false = true) (hi : P.info? t = some i) (hz : i.zero = some z) (hc : z.cells = #[a, b]) :
    AOp P ρ o A (.value (.agg #[v, v'])) A := by
  refine .inr (.inl ⟨by rw [h]; trivial, ?_⟩)
  unfold execOp; rw [h]
  have e1 : (#[((0 : Nat), x), (1, y)].map fun (p : Nat × Operand) => (p.1, ρ p.2)).toList = [(0, v), (1, v')] := by simp [hx, hy]
  have hf : Instr.fill (fun i => some (i * 1, 1)) #[a, b] [(0, v), (1, v')] = some #[v, v'] := by
    simp [Instr.fill, isOne_cells hv, isOne_cells hv']
  simp only [Instr.build, Sem.run_bind, Result.andThen, run_zeroT hi hz, hc, run_under hu, run_szT h1, e1, hf, Sem.run_pure]
/-- A slice of one element of two cells. -/
theorem aop_sliceT2 {t e : TypeId} {x : Operand} {i : TypeInfo} {z v v' a b : Value} (h : o.op = .buildSlice t 1 #[(0, x)]) (hx : ρ x = .agg #[v, v']) (hu : P.underlying t = some (.slice e)) (h1 : tyOf P e 2 true = true) (hi : P.info? e = some i) (hz : i.zero = some z) (hc : z.cells = #[a, b]) :
    AOp P ρ o A (.value (.slice (some ⟨A.heap.size, 0, none⟩) 1 1)) (A.alloc (.cells #[v, v'] e (0, 0))) := by
  refine .inr (.inl ⟨by rw [h]; trivial, ?_⟩)
  unfold execOp; rw [h]
  have hf : Instr.fill (fun i => some (i * 2, 2)) ((Array.range (1 * 2)).map (#[a, b][· % #[a, b].size]!)) [(0, .agg #[v, v'])] = some #[v, v'] := by
    have hr : Array.range 2 = #[0, 1] := rfl
    simp [Instr.fill, Value.cells, hr]
  have e1 : (#[((0 : Nat), x)].map fun (p : Nat × Operand) => (p.1, ρ p.2)).toList = [(0, .agg #[v, v'])] := by simp [hx]
  simp only [Instr.buildSlice, Sem.run_bind, Sem.run_pure, Result.andThen, run_under hu, run_szT h1]
  rw [if_neg (by decide : ¬ 1 * 2 > 2 ^ 24), if_neg (by decide : ¬ 1 * 2 = 0)]
  simp only [Sem.run_bind, Sem.run_pure, Result.andThen, run_zeroT hi hz, hc, e1, hf, newRow]
  rfl
/-- A slice of nothing, not nil. -/
theorem aop_sliceT0 {t e : TypeId} {n : Nat} {g : Bool} (h : o.op = .buildSlice t 0 #[]) (hu : P.underlying t = some (.slice e)) (h1 : tyOf P e n g = true) :
    AOp P ρ o A (.value (.slice (some ⟨A.heap.size, 0, none⟩) 0 0)) (A.alloc (.cells #[] e (0, 0))) := by
  refine .inr (.inl ⟨by rw [h]; trivial, ?_⟩)
  unfold execOp; rw [h]
  simp only [Instr.buildSlice, Sem.run_bind, Sem.run_pure, Result.andThen, run_under hu, run_szT h1, Nat.zero_mul]
  rw [if_neg (by decide : ¬ 0 > 2 ^ 24)]
  simp only [if_true, Sem.run_bind, Sem.run_pure, Result.andThen]
  have hr : Array.range 0 = #[] := rfl
  simp only [hr]
  simp [Instr.fill, newRow, newObj, Sem.run, Bind.bind, Sem.bind, Pure.pure]
/-- Whether a slice is nil. -/
theorem aop_eqNil {t : TypeId} {x y : Operand} {z : TypeId} {v w : Value} (h : o.op = .binOp .eql t x y z) (hx : ρ x = v) (hy : ρ y = w) (hn : nilPair v w = true) {b : Bool} (hr : (Op.equal t v w).run P A = .ok b A) : AOp P ρ o A (.value (.bool b)) A := by
  refine .inr (.inl ⟨by rw [h]; show nilPair (ρ x) (ρ y) = true; rw [hx, hy]; exact hn, ?_⟩)
  unfold execOp; rw [h]
  simp only [hx, hy, nilPair_guard hn .eql t x y (.inl rfl), nilPair_eql hn t, Sem.run_bind, Sem.run_pure, Result.andThen, hr]
end
end Go.Abs
/-
  ABS C1: assertions that bear what they own and what they share: blocks of one's own, blocks that nobody turns any more.
-/
namespace Go.Abs
/-- The blocks of one's own; those that are shared, and turned by nobody. -/
structure Ft where
  own : Nat → Prop
  imm : Nat → Prop
structure As where
  p : Ft → World → Prop
  lt : ∀ {F A b}, p F A → F.own b ∨ F.imm b → b < A.heap.size
  loc : ∀ {F A A'}, p F A → (∀ b, F.own b ∨ F.imm b → A'.heap[b]? = A.heap[b]?) → p F A'
/-- From F at A to F' at A': nothing but one's own has turned. -/
structure Mv (F : Ft) (A : World) (F' : Ft) (A' : World) : Prop where
  size : A.heap.size ≤ A'.heap.size
  kept : ∀ b, b < A.heap.size → ¬ F.own b → A'.heap[b]? = A.heap[b]?
  own : ∀ b, F'.own b → F.own b ∨ A.heap.size ≤ b
  imm : ∀ b, F'.imm b → F.own b ∨ F.imm b ∨ A.heap.size ≤ b
theorem Mv.refl {F : Ft} {A : World} : Mv F A F A := ⟨Nat.le_refl _, fun _ _ _ => rfl, fun _ h => .inl h, fun _ h => .inr (.inl h)⟩
theorem Mv.trans {F F' F'' : Ft} {A A' A'' : World} (h : Mv F A F' A') (k : Mv F' A' F'' A'') : Mv F A F'' A'' where
  size := Nat.le_trans h.size k.size
  kept b hb hn := by
    rw [k.kept b (Nat.lt_of_lt_of_le hb h.size) fun hf => (h.own b hf).elim hn fun h => absurd hb (Nat.not_lt_of_le h), h.kept b hb hn]
  own b hb := by
    rcases k.own b hb with hb | hb
    · exact h.own b hb
    · exact .inr (Nat.le_trans h.size hb)
  imm b hb := by
    rcases k.imm b hb with hb | hb | hb
    · exact (h.own b hb).imp id .inr
    · exact h.imm b hb
    · exact .inr (.inr (Nat.le_trans h.size hb))
/-- F of F1 and F2, side by side. -/
structure Ft.Jn (F F1 F2 : Ft) : Prop where
  own : ∀ b, F.own b ↔ F1.own b ∨ F2.own b
  imm : ∀ b, F.imm b ↔ F1.imm b ∨ F2.imm b
  oo : ∀ b, F1.own b → ¬ F2.own b
  oi : ∀ b, F1.own b → ¬ F2.imm b
  io : ∀ b, F1.imm b → ¬ F2.own b
def Ft.un (F1 F2 : Ft) : Ft := ⟨fun b => F1.own b ∨ F2.own b, fun b => F1.imm b ∨ F2.imm b⟩
def Ft.no : Ft := ⟨fun _ => False, fun _ => False⟩
theorem Ft.ext {F G : Ft} (h : ∀ b, F.own b ↔ G.own b) (k : ∀ b, F.imm b ↔ G.imm b) : F = G := by
  cases F; cases G
  congr
  · exact funext fun b => propext (h b)
  · exact funext fun b => propext (k b)
section
variable {F F1 F2 F3 G : Ft}
theorem Ft.Jn.symm (h : F.Jn F1 F2) : F.Jn F2 F1 := ⟨fun b => (h.own b).trans Or.comm, fun b => (h.imm b).trans Or.comm, fun b h2 h1 => h.oo b h1 h2, fun b h2 h1 => h.io b h1 h2, fun b h2 h1 => h.oi b h1 h2⟩
theorem Ft.Jn.no : F.Jn F Ft.no := ⟨fun b => by simp [Ft.no], fun b => by simp [Ft.no], fun _ _ h => h, fun _ _ h => h, fun _ _ h => h⟩
theorem Ft.Jn.eq_no (h : F.Jn F1 Ft.no) : F = F1 := Ft.ext (fun b => (h.own b).trans ⟨fun h => h.elim id fun h => h.elim, .inl⟩) (fun b => (h.imm b).trans ⟨fun h => h.elim id fun h => h.elim, .inl⟩)
theorem Ft.Jn.assoc (h : F.Jn G F3) (k : G.Jn F1 F2) : F.Jn F1 (F2.un F3) ∧ (F2.un F3).Jn F2 F3 :=
  ⟨⟨fun b => by rw [h.own, k.own, or_assoc]; rfl, fun b => by rw [h.imm, k.imm, or_assoc]; rfl, fun b h1 h2 => h2.elim (k.oo b h1) (h.oo b ((k.own b).2 (.inl h1))), fun b h1 h2 => h2.elim (k.oi b h1) (h.oi b ((k.own b).2 (.inl h1))), fun b h1 h2 => h2.elim (k.io b h1) (h.io b ((k.imm b).2 (.inl h1)))⟩,
   ⟨fun _ => Iff.rfl, fun _ => Iff.rfl, fun b h2 => h.oo b ((k.own b).2 (.inr h2)), fun b h2 => h.oi b ((k.own b).2 (.inr h2)), fun b h2 => h.io b ((k.imm b).2 (.inr h2))⟩⟩
end
def As.emp : As := ⟨fun F _ => F = Ft.no, fun h hb => by subst h; exact hb.elim False.elim False.elim, fun h _ => h⟩
def As.star (I J : As) : As where
  p F A := ∃ F1 F2, I.p F1 A ∧ J.p F2 A ∧ F.Jn F1 F2
  lt := fun ⟨_F1, _F2, h1, h2, j⟩ hb => hb.elim (fun hb => ((j.own _).1 hb).elim (fun h => I.lt h1 (.inl h)) (fun h => J.lt h2 (.inl h))) (fun hb => ((j.imm _).1 hb).elim (fun h => I.lt h1 (.inr h)) (fun h => J.lt h2 (.inr h)))
  loc := fun ⟨F1, F2, h1, h2, j⟩ hk => ⟨F1, F2, I.loc h1 fun b hb => hk b (hb.imp (fun h => (j.own b).2 (.inl h)) (fun h => (j.imm b).2 (.inl h))), J.loc h2 fun b hb => hk b (hb.imp (fun h => (j.own b).2 (.inr h)) (fun h => (j.imm b).2 (.inr h))), j⟩
def As.all : List As → As
  | [] => As.emp
  | I :: l => I.star (As.all l)
def As.ex {α : Type} (f : α → As) : As := ⟨fun F A => ∃ x, (f x).p F A, fun ⟨x, h⟩ hb => (f x).lt h hb, fun ⟨x, h⟩ hk => ⟨x, (f x).loc h hk⟩⟩
def As.pure (φ : Prop) : As := ⟨fun F _ => F = Ft.no ∧ φ, fun h hb => by obtain ⟨rfl, _⟩ := h; exact hb.elim False.elim False.elim, fun h _ => h⟩
section
variable {I J K : As} {F : Ft} {A A' : World}
theorem As.comm (h : (I.star J).p F A) : (J.star I).p F A := let ⟨F1, F2, h1, h2, j⟩ := h; ⟨F2, F1, h2, h1, j.symm⟩
theorem As.assoc (h : ((I.star J).star K).p F A) : (I.star (J.star K)).p F A := by
  obtain ⟨G, F3, ⟨F1, F2, h1, h2, j1⟩, h3, j2⟩ := h
  obtain ⟨a, b⟩ := j2.assoc j1
  exact ⟨F1, _, h1, ⟨F2, F3, h2, h3, b⟩, a⟩
theorem As.assoc' (h : (I.star (J.star K)).p F A) : ((I.star J).star K).p F A := As.comm (As.assoc (As.comm (As.assoc (As.comm h))))
theorem As.map (h : (I.star J).p F A) (k : ∀ F, I.p F A → K.p F A) : (K.star J).p F A := let ⟨F1, F2, h1, h2, j⟩ := h; ⟨F1, F2, k _ h1, h2, j⟩
theorem As.map' (h : (I.star J).p F A) (k : ∀ F, J.p F A → K.p F A) : (I.star K).p F A := let ⟨F1, F2, h1, h2, j⟩ := h; ⟨F1, F2, h1, k _ h2, j⟩
theorem As.swap (h : (I.star (J.star K)).p F A) : (J.star (I.star K)).p F A := As.assoc (As.map (As.assoc' h) fun _ h => As.comm h)
theorem As.addE (h : I.p F A) : (I.star As.emp).p F A := ⟨F, _, h, rfl, .no⟩
theorem As.unE (h : (I.star As.emp).p F A) : I.p F A := by
  obtain ⟨F1, F2, h1, rfl, j⟩ := h
  rw [j.eq_no]; exact h1
theorem As.perm {l l' : List As} (p : l.Perm l') : ∀ {F : Ft} {A : World}, (As.all l).p F A → (As.all l').p F A := by
  induction p with
  | nil => exact fun h => h
  | cons x _ ih => exact fun h => As.map' h fun _ h => ih h
  | swap x y l => exact fun h => As.swap h
  | trans _ _ ih1 ih2 => exact fun h => ih2 (ih1 h)
theorem As.cat : ∀ {l l' : List As} {F : Ft} {A : World}, ((As.all l).star (As.all l')).p F A → (As.all (l ++ l')).p F A
  | [], _, _, _, h => As.unE (As.comm h)
  | _ :: _, _, _, _, h => As.map' (As.assoc h) fun _ h => As.cat h
theorem As.split : ∀ {l l' : List As} {F : Ft} {A : World}, (As.all (l ++ l')).p F A → ((As.all l).star (As.all l')).p F A
  | [], _, _, _, h => As.comm (As.addE h)
  | _ :: _, _, _, _, h => As.assoc' (As.map' h fun _ h => As.split h)
/-- A step of one part is a step of the whole. -/
theorem As.frame {F1 F2 F1' : Ft} (j : F.Jn F1 F2) (h2 : J.p F2 A) (h3 : K.p F1' A') (M : Mv F1 A F1' A') : ∃ F', (K.star J).p F' A' ∧ Mv F A F' A' := by
  have hk : ∀ b, F2.own b ∨ F2.imm b → A'.heap[b]? = A.heap[b]? := fun b hb => M.kept b (J.lt h2 hb) fun h => hb.elim (j.oo b h) (j.oi b h)
  refine ⟨F1'.un F2, ⟨F1', F2, h3, J.loc h2 hk, ⟨fun _ => Iff.rfl, fun _ => Iff.rfl, fun b hb hb' => ?_, fun b hb hb' => ?_, fun b hb hb' => ?_⟩⟩, ⟨M.size, fun b hb hn => M.kept b hb fun h => hn ((j.own b).2 (.inl h)), fun b hb => ?_, fun b hb => ?_⟩⟩
  · rcases M.own b hb with h | h
    · exact j.oo b h hb'
    · exact absurd (J.lt h2 (.inl hb')) (Nat.not_lt_of_le h)
  · rcases M.own b hb with h | h
    · exact j.oi b h hb'
    · exact absurd (J.lt h2 (.inr hb')) (Nat.not_lt_of_le h)
  · rcases M.imm b hb with h | h | h
    · exact j.oo b h hb'
    · exact j.io b h hb'
    · exact absurd (J.lt h2 (.inl hb')) (Nat.not_lt_of_le h)
  · rcases hb with hb | hb
    · exact (M.own b hb).imp (fun h => (j.own b).2 (.inl h)) id
    · exact .inl ((j.own b).2 (.inr hb))
  · rcases hb with hb | hb
    · rcases M.imm b hb with h | h | h
      · exact .inl ((j.own b).2 (.inl h))
      · exact .inr (.inl ((j.imm b).2 (.inl h)))
      · exact .inr (.inr h)
    · exact .inr (.inl ((j.imm b).2 (.inr hb)))
theorem As.left (h : (I.star J).p F A) : ∃ F', I.p F' A ∧ Mv F A F' A := by
  obtain ⟨F1, F2, h1, h2, j⟩ := h
  exact ⟨F1, h1, ⟨Nat.le_refl _, fun _ _ _ => rfl, fun b hb => .inl ((j.own b).2 (.inl hb)), fun b hb => .inr (.inl ((j.imm b).2 (.inl hb)))⟩⟩
theorem As.right (h : (I.star J).p F A) : ∃ F', J.p F' A ∧ Mv F A F' A := As.left (As.comm h)
end
end Go.Abs
/-
  ABS C2: what stands in the temporaries and in the heap, as a text that can be evaluated: values, blocks, and how a quiet operation is told from them.
-/
namespace Go.Abs
/-- What a cell may have: a value; a pointer to a cell (k behind the i-th element of w cells) of block q; a slice of block q, of n elements of w cells, from the o-th on (z: nil). g: the block's name in the text. -/
inductive C1 where
  | v (x : Value)
  | cb (e : Bool)
  | p (g q i w k : Nat)
  | s (g q w o n c : Nat) (z : Bool)
def C1.den : C1 → Value
  | .v x => x
  | .cb e => .bool e
  | .p _ q i w k => .pointer (some ⟨q, i * w + k, none⟩)
  | .s _ q w o n c z => .slice (cond z none (some ⟨q, o * w, none⟩)) n c
def C1.one : C1 → Bool
  | .v x => isOne x
  | _ => true
theorem C1.one_den {c : C1} (h : c.one = true) : isOne c.den = true := by cases c <;> first | exact h | rfl
inductive SV where
  | o (c : C1)
  | a (l : List C1)
  | t (l : List (Bool × List C1))
  | kk (d : Nat) (kb : Bool) (e : Bool) (ag : Bool) (l : List C1)
def compV : Bool × List C1 → Value
  | (true, l) => .agg (l.map C1.den).toArray
  | (false, l) => (l.headD (.v undef)).den
def SV.den : SV → Value
  | .o c => c.den
  | .a l => .agg (l.map C1.den).toArray
  | .t l => .tuple (l.map compV).toArray
  | .kk _ _ e ag l => if e then compV (ag, l) else undef
def ofV : Value → SV
  | .agg cs => .a (cs.toList.map C1.v)
  | x => .o (.v x)
theorem ofV_den (x : Value) : (ofV x).den = x := by
  unfold ofV
  split
  · simp only [SV.den, List.map_map]
    congr 1
    apply Array.ext'
    simp [Function.comp_def, C1.den]
  · rfl
/-- The cells of a value. -/
def SV.cells : SV → Option (List C1)
  | .o c => some [c]
  | .a l => some l
  | _ => none
theorem SV.cells_den {v : SV} {l : List C1} (h : v.cells = some l) (h1 : l.all C1.one = true) : v.den.cells = (l.map C1.den).toArray := by
  cases v with
  | o c =>
    cases h
    simp only [List.all_cons, List.all_nil, Bool.and_true] at h1
    exact isOne_cells (C1.one_den h1)
  | a l' => cases h; rfl
  | t l' => cases h
  | kk _ _ e ag l' => cases h
inductive Md where
  | own | grown | imm
def Md.fz : Md → Nat × Nat → Prop
  | .own, f => f = (0, 0)
  | .grown, f => f = (1, 0)
  | .imm, f => f ≠ (2, 0)
def Md.mine : Md → Bool
  | .imm => false
  | _ => true
/-- A block. -/
def blkA (q : Nat) (cs : Array Value) (t : TypeId) (m : Md) : As where
  p F A := (∀ b, F.own b ↔ (m.mine = true ∧ b = q)) ∧ (∀ b, F.imm b ↔ (m.mine = false ∧ b = q)) ∧ ∃ fz, m.fz fz ∧ A.heap[q]? = some (.cells cs t fz)
  lt := fun ⟨h1, h2, fz, _, h⟩ hb => by
    have := (Array.getElem?_eq_some_iff.1 h).1
    rcases hb with hb | hb
    · rw [((h1 _).1 hb).2]; exact this
    · rw [((h2 _).1 hb).2]; exact this
  loc := fun ⟨h1, h2, fz, h3, h⟩ hk => ⟨h1, h2, fz, h3, by
    rw [hk q ?_]
    · exact h
    · cases hm : Md.mine _ with
      | true => exact .inl ((h1 q).2 ⟨hm, rfl⟩)
      | false => exact .inr ((h2 q).2 ⟨hm, rfl⟩)⟩
def As.guard (φ : Prop) (I : As) : As := ⟨fun F A => φ ∧ I.p F A, fun h hb => I.lt h.2 hb, fun h hk => ⟨h.1, I.loc h.2 hk⟩⟩
/-- A block of the heap: its cells one by one; or a list of things of w cells each; or anything that is said. -/
inductive Ch : Type 1 where
  | blk (g q : Nat) (cs : List C1) (t : TypeId) (m : Md)
  | vec {α : Type} (g q w : Nat) (en : α → List C1) (d : α) (xs : List α) (t : TypeId) (m : Md) (z : Bool)
  | as (I : As)
def cells1 (l : List C1) : Array Value := (l.map C1.den).toArray
def vcells {α : Type} (en : α → List C1) (xs : List α) : Array Value := (xs.flatMap fun x => (en x).map C1.den).toArray
def Ch.den : Ch → As
  | .blk _ q cs t m => blkA q (cells1 cs) t m
  | .vec _ q w en _ xs t m z => match z with
    | true => As.pure (xs = [])
    | false => As.guard (∀ x, (en x).length = w) (blkA q (vcells en xs) t m)
  | .as I => I
def hpA (l : List Ch) : As := As.all (l.map Ch.den)
def fnd : List Ch → Nat → Option Ch
  | [], _ => none
  | .blk g q cs t m :: l, n => match Nat.beq g n with
    | true => some (.blk g q cs t m)
    | false => fnd l n
  | .vec g q w en d xs t m z :: l, n => match Nat.beq g n with
    | true => some (.vec g q w en d xs t m z)
    | false => fnd l n
  | .as _ :: l, n => fnd l n
section
variable {F : Ft} {A : World}
theorem fnd_mem : ∀ {l : List Ch} {n : Nat} {c : Ch}, fnd l n = some c → c ∈ l
  | [], _, _, h => by cases h
  | .blk .. :: l, n, c, h => by
    simp only [fnd] at h
    split at h
    · cases h; exact List.mem_cons_self
    · exact List.mem_cons_of_mem _ (fnd_mem h)
  | .vec .. :: l, n, c, h => by
    simp only [fnd] at h
    split at h
    · cases h; exact List.mem_cons_self
    · exact List.mem_cons_of_mem _ (fnd_mem h)
  | .as _ :: l, n, c, h => List.mem_cons_of_mem _ (fnd_mem h)
theorem hp_mem : ∀ {l : List Ch} {c : Ch} {F : Ft}, c ∈ l → (hpA l).p F A → ∃ F', c.den.p F' A
  | [], _, _, h, _ => by cases h
  | d :: l, c, F, h, ⟨F1, F2, h1, h2, _⟩ => by
    rcases List.mem_cons.1 h with rfl | h
    · exact ⟨F1, h1⟩
    · exact hp_mem h h2
theorem fz_ne {m : Md} {fz : Nat × Nat} (h : m.fz fz) : fz ≠ (2, 0) := by
  cases m
  · rintro rfl; cases h
  · rintro rfl; cases h
  · exact h
theorem blk_at {l : List Ch} {n g q : Nat} {cs : List C1} {t : TypeId} {m : Md} (h : fnd l n = some (.blk g q cs t m)) (hp : (hpA l).p F A) : ∃ fz, m.fz fz ∧ A.heap[q]? = some (.cells (cells1 cs) t fz) := by
  obtain ⟨F', _, _, fz, h1, h2⟩ := hp_mem (fnd_mem h) hp
  exact ⟨fz, h1, h2⟩
theorem vec_at {α : Type} {l : List Ch} {n g q w : Nat} {en : α → List C1} {d : α} {xs : List α} {t : TypeId} {m : Md} {z : Bool} (h : fnd l n = some (.vec g q w en d xs t m z)) (hp : (hpA l).p F A) : (z = true ∧ xs = []) ∨ (z = false ∧ (∀ x, (en x).length = w) ∧ ∃ fz, m.fz fz ∧ A.heap[q]? = some (.cells (vcells en xs) t fz)) := by
  obtain ⟨F', h1⟩ := hp_mem (fnd_mem h) hp
  cases z with
  | true => exact .inl ⟨rfl, h1.2⟩
  | false =>
    obtain ⟨hw, _, _, fz, h1, h2⟩ := h1
    exact .inr ⟨rfl, hw, fz, h1, h2⟩
theorem vcells_size {α : Type} {en : α → List C1} {w : Nat} (hw : ∀ x, (en x).length = w) (xs : List α) : (vcells en xs).size = xs.length * w := by
  unfold vcells
  induction xs with
  | nil => simp
  | cons x xs ih =>
    simp only [List.size_toArray, List.flatMap_cons, List.length_append, List.length_map, hw, List.length_cons] at ih ⊢
    rw [ih, Nat.succ_mul, Nat.add_comm]
/-- The cells of the i-th thing. -/
theorem vcells_extract {α : Type} {en : α → List C1} {w : Nat} (hw : ∀ x, (en x).length = w) {d : α} {xs : List α} {i k n : Nat} (hi : i < xs.length) (hk : k + n ≤ w) : (vcells en xs).extract (i * w + k) (i * w + k + n) = ((((en (xs.getD i d)).drop k).take n).map C1.den).toArray := by
  apply Array.ext'
  unfold vcells
  simp only [List.extract_toArray, List.extract_eq_drop_take']
  induction xs generalizing i with
  | nil => simp at hi
  | cons x xs ih =>
    cases i with
    | zero =>
      simp only [List.flatMap_cons, Nat.zero_mul, Nat.zero_add, List.getD_cons_zero]
      rw [List.take_append_of_le_length (by simp [hw]; exact hk), List.drop_take, ← List.map_drop, Nat.add_sub_cancel_left, List.map_take]
    | succ i =>
      simp only [List.length_cons, Nat.add_lt_add_iff_right] at hi
      have := ih hi
      simp only [List.flatMap_cons, List.getD_cons_succ] at this ⊢
      rw [← this]
      have e1 : (i + 1) * w + k + n = ((en x).map C1.den).length + (i * w + k + n) := by simp [hw, Nat.succ_mul]; omega
      have e2 : (i + 1) * w + k = ((en x).map C1.den).length + (i * w + k) := by simp [hw, Nat.succ_mul]; omega
      rw [e1, e2, List.take_length_add_append, List.drop_length_add_append]
end
def look : List (Nat × SV) → Nat → Option SV
  | [], _ => none
  | (i, v) :: l, t => match Nat.beq i t with
    | true => some v
    | false => look l t
def rem : List (Nat × SV) → Nat → List (Nat × SV)
  | [], _ => []
  | (i, v) :: l, t => match Nat.beq i t with
    | true => rem l t
    | false => (i, v) :: rem l t
def evX (env : List (Nat × SV)) : Operand → Option SV
  | .tmp t => look env t
  | .const x => some (ofV x)
  | .func f => some (.o (.v (.func (.func f) #[] #[])))
  | .global _ => none
def EnvOk (env : List (Nat × SV)) (a : Act) : Prop := ∀ i v, look env i = some v → a.tmps.getD i undef = v.den
theorem evX_ok {env : List (Nat × SV)} {a : Act} (h : EnvOk env a) {x : Operand} {v : SV} (hx : evX env x = some v) : a.eval x = v.den := by
  cases x with
  | tmp t => exact h t v hx
  | const y => cases hx; rw [ofV_den]; rfl
  | func f => cases hx; rfl
  | global g => cases hx
/-- How many cells, and whether they are put together. -/
def tsz (P : Program) (t : TypeId) : Option (Nat × Bool) := match P.underlying t, P.info? t with
  | some (.struct _), some i => some (i.size, true)
  | some (.array ..), some i => some (i.size, true)
  | some _, some i => some (i.size, false)
  | _, _ => none
theorem tsz_ok {P : Program} {t : TypeId} {n : Nat} {g : Bool} (h : tsz P t = some (n, g)) : tyOf P t n g = true := by
  unfold tsz at h
  unfold tyOf
  split at h <;> simp_all
/-- A value of so many cells. -/
def mkv : Bool → List C1 → SV
  | true, l => .a l
  | false, l => .o (l.headD (.v undef))
end Go.Abs
