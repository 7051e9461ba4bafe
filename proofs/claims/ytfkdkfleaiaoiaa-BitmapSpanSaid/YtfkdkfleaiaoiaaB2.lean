/-
  ABS B2: single operations, as a walk meets them.
-/
import Derived.Test.YtfkdkfleaiaoiaaB1
namespace Go.Abs
section
variable {P : Program} {A A' : World} {ρ : Operand → Value} {o : Oper}

/-- A type whose values are one cell each. -/
def one (P : Program) (t : TypeId) : Bool :=
  (match P.underlying t with | some (.struct _) => false | some (.array ..) => false | some _ => true | none => false) && (match P.info? t with | some i => decide (i.size = 1) | none => false)
theorem run_isAgg {t : TypeId} (h : one P t = true) (w : World) : (isAgg t).run P w = .ok false w := by
  unfold one at h
  simp only [Bool.and_eq_true] at h
  obtain ⟨h1, _⟩ := h
  unfold isAgg underlying program
  cases hu : P.underlying t with
  | none => rw [hu] at h1; cases h1
  | some d => cases d <;> simp_all [Sem.run, Bind.bind, Sem.bind, Pure.pure]
theorem run_sizeOne {t : TypeId} (h : one P t = true) (w : World) : (sizeOf t).run P w = .ok 1 w := by
  unfold one at h
  simp only [Bool.and_eq_true] at h
  obtain ⟨_, h1⟩ := h
  unfold sizeOf typeInfo program
  cases hu : P.info? t with
  | none => rw [hu] at h1; cases h1
  | some d => rw [hu] at h1; simp_all [Sem.run, Bind.bind, Sem.bind, Pure.pure]
theorem isOne_cells {v : Value} (h : isOne v = true) : v.cells = #[v] := by cases v <;> simp_all [isOne, Value.cells]
theorem isOne_size {v : Value} (h : isOne v = true) : v.cells.size = 1 := by rw [isOne_cells h]; rfl

theorem aop_move {x : Operand} (h : o.op = .move x ∨ o.op = .assign x) : AOp P ρ o A (.value (ρ x)) A := by
  refine .inr (.inl ⟨?_, ?_⟩)
  · rcases h with h | h <;> rw [h] <;> trivial
  · unfold execOp; rcases h with h | h <;> rw [h] <;> rfl
theorem aop_mv {x : Operand} {v : Value} (h : o.op = .move x) (hx : ρ x = v) : AOp P ρ o A (.value v) A := hx ▸ aop_move (.inl h)
theorem aop_as {x : Operand} {v : Value} (h : o.op = .assign x) (hx : ρ x = v) : AOp P ρ o A (.value v) A := hx ▸ aop_move (.inr h)
theorem aop_pick {c x y : Operand} {b : Bool} (h : o.op = .pick c x y) (hc : ρ c = .bool b) : AOp P ρ o A (.value (if b then ρ x else ρ y)) A := by
  refine .inr (.inl ⟨by rw [h]; trivial, ?_⟩)
  unfold execOp; rw [h]; simp only [hc]; rfl
theorem run_loadVar {t : TypeId} {p : Addr} {v : Value} (h1 : one P t = true) (hc : A.cell? p = some v) : (loadVar t p).run P A = .ok v A := by
  unfold loadVar
  simp only [Sem.run_bind, run_isAgg h1, Result.andThen]
  simp [hc]
theorem aop_load {t : TypeId} {x : Operand} {p : Addr} {v : Value} (h : o.op = .load t x) (hx : ρ x = .pointer (some p)) (h1 : one P t = true) (hc : A.cell? p = some v) : AOp P ρ o A (.value v) A := by
  refine .inr (.inl ⟨by rw [h]; trivial, ?_⟩)
  unfold execOp; rw [h]
  simp only [Instr.loadAt, hx, Instr.sureAddr, Sem.run_bind, Sem.run_pure, Result.andThen, run_loadVar h1 hc]
theorem aop_store {t : TypeId} {x y : Operand} {p : Addr} {u v : Value} (h : o.op = .store t x y) (hx : ρ x = .pointer (some p)) (hy : ρ y = v) (h1 : one P t = true) (hv : isOne v = true) (hc : A.cell? p = some u) (hz : A.frozen? p = false) :
    AOp P ρ o A .skip (A.setCell p v) := by
  refine .inr (.inl ⟨by rw [h]; trivial, ?_⟩)
  unfold execOp; rw [h]
  simp only [Instr.storeAt, hx, hy, Instr.sureAddr, Sem.run_bind, Sem.run_pure, Result.andThen, storeVar, run_sizeOne h1, isOne_size hv, ne_eq, not_true_eq_false, if_false]
  rw [isOne_cells hv]
  have e : p.add 0 = p := by cases p; simp [Addr.add]
  simp only [storeCells, e]
  cases v <;> simp_all [isOne, store, Sem.run, Bind.bind, Sem.bind, Pure.pure]
theorem aop_box {t : TypeId} {x : Operand} {v : Value} (h : o.op = .box t x) (hx : ρ x = v) (hv : isOne v = true) : AOp P ρ o A (.value (.pointer (some ⟨A.heap.size, 0, none⟩))) (A.alloc (.cells #[v] t (0, 0))) := by
  refine .inr (.inl ⟨by rw [h]; trivial, ?_⟩)
  unfold execOp; rw [h]
  simp only [hx]
  simp only [Instr.box, newVar, newRow, isOne_cells hv]
  rfl
theorem aop_alloc {t : TypeId} {i : TypeInfo} {z : Value} (h : o.op = .alloc t) (hi : P.info? t = some i) (hz : i.zero = some z) (hv : isOne z = true) :
    AOp P ρ o A (.value (.pointer (some ⟨A.heap.size, 0, none⟩))) (A.alloc (.cells #[z] t (0, 0))) := by
  refine .inr (.inl ⟨by rw [h]; trivial, ?_⟩)
  unfold execOp; rw [h]
  have hzr : (zeroValue t).run P A = .ok z A := by simp [zeroValue, typeInfo, program, Sem.run, Bind.bind, Sem.bind, Pure.pure, hi, hz]
  simp only [Instr.alloc, Sem.run_bind, Result.andThen, hzr, newVar, newRow, isOne_cells hv]
  rfl
theorem map_list {α : Type} {xs : Array α} {g : α → Value} {l : List Value} (h : xs.toList.map g = l) : xs.map g = l.toArray := by
  rw [← h, ← Array.toList_map]
theorem aop_func {f : FuncId} {first cap : Array Operand} {l l' : List Value} (h : o.op = .makeFunc (.func f) first cap) (h1 : first.toList.map ρ = l) (h2 : cap.toList.map ρ = l') : AOp P ρ o A (.value (.func (.func f) l.toArray l'.toArray)) A := by
  refine .inr (.inl ⟨by rw [h]; exact ⟨_, rfl⟩, ?_⟩)
  unfold execOp; rw [h]; rw [← map_list h1, ← map_list h2]; rfl
/-- Two whole numbers. -/
def intV (op : BinOp) (k : IntKind) (m n : Int) : Option Value := match op with
  | .add => some (.int k (k.wrap (m + n)))
  | .sub => some (.int k (k.wrap (m - n)))
  | .mul => some (.int k (k.wrap (m * n)))
  | .quo => if n = 0 then none else some (.int k (k.wrap (m.tdiv n)))
  | .rem => if n = 0 then none else some (.int k (m.tmod n))
  | .eql => some (.bool (m == n))
  | .neq => some (.bool (m != n))
  | .lss => some (.bool (m < n))
  | .leq => some (.bool (m ≤ n))
  | .gtr => some (.bool (m > n))
  | .geq => some (.bool (m ≥ n))
  | _ => none
theorem aop_int {op : BinOp} {t : TypeId} {x y : Operand} {z : TypeId} {k : IntKind} {m n : Int} {v : Value} (h : o.op = .binOp op t x y z) (hx : ρ x = .int k m) (hy : ρ y = .int k n) (hv : intV op k m n = some v) : AOp P ρ o A (.value v) A := by
  refine .inl ⟨v, rfl, rfl, ?_, ?_, by rw [h]; rfl, fun w => ?_⟩
  · unfold intV at hv
    split at hv <;> first | (cases hv; done) | (cases hv; rfl) | (split at hv <;> cases hv <;> rfl)
  · rw [h]; intro u hu
    simp only [Op.operands, List.mem_toArray, List.mem_cons, List.not_mem_nil, or_false] at hu
    rcases hu with rfl | rfl
    · rw [hx]; rfl
    · rw [hy]; rfl
  · unfold execOp; rw [h]
    simp only [hx, hy]
    unfold intV at hv
    split at hv <;> first | (cases hv; done) | skip
    all_goals first
      | (cases hv; simp [eqGuard, binOp, Op.intArith, Op.intCmp, Bind.bind, Sem.bind, Pure.pure]; done)
      | (split at hv <;> first | (cases hv; done) | (cases hv; rename_i hn; simp [eqGuard, binOp, Op.intDiv, hn, Bind.bind, Sem.bind, Pure.pure]))
theorem aop_not {t : TypeId} {x : Operand} {b : Bool} (h : o.op = .unOp .not t x) (hx : ρ x = .bool b) : AOp P ρ o A (.value (.bool !b)) A := by
  refine .inl ⟨_, rfl, rfl, rfl, ?_, by rw [h]; rfl, fun w => ?_⟩
  · rw [h]; intro u hu
    simp only [Op.operands, List.mem_toArray, List.mem_cons, List.not_mem_nil, or_false] at hu
    subst hu; rw [hx]; rfl
  · unfold execOp; rw [h]; simp only [hx]; rfl
theorem aop_neNil {t : TypeId} {x y : Operand} {z : TypeId} {v w : Value} (h : o.op = .binOp .neq t x y z) (hx : ρ x = v) (hy : ρ y = w) (hn : nilPair v w = true) {b : Bool} (hr : (Op.equal t v w).run P A = .ok b A) : AOp P ρ o A (.value (.bool !b)) A := by
  refine .inr (.inl ⟨by rw [h]; show nilPair (ρ x) (ρ y) = true; rw [hx, hy]; exact hn, ?_⟩)
  unfold execOp; rw [h]
  simp only [hx, hy, nilPair_guard hn .neq t x y (.inr rfl), nilPair_neq hn t, Sem.run_bind, Sem.run_pure, Result.andThen, hr]

theorem aop_len {c : Call} {t e : TypeId} {b : Option Addr} {len cap : Nat} (h : o.op = .call c) (hc : c.callee = .builtin .len) (ht : c.argTypes[0]? = some t) (hu : P.underlying t = some (.slice e)) (hx : c.args.toList.map ρ = [.slice b len cap]) :
    AOp P ρ o A (.value (.int .i64 len)) A := by
  refine .inr (.inl ⟨by rw [h]; exact .inl hc, ?_⟩)
  unfold execOp; rw [h]
  simp only [resolve, hc, map_list hx, Sem.run_bind, Sem.run_pure, Result.andThen, invoke, builtin, Builtin.len_, ht]
  simp [underlying, program, Sem.run, Bind.bind, Sem.bind, Pure.pure, hu, goInt]
theorem aop_min {c : Call} {k : IntKind} {m n : Int} (h : o.op = .call c) (hc : c.callee = .builtin .min) (hx : c.args.toList.map ρ = [.int k m, .int k n]) (hp : o.op.operands.toList.all (fun x => plain (ρ x)) = true) :
    AOp P ρ o A (.value (.int k (if n < m then n else m))) A := by
  refine .inl ⟨_, rfl, rfl, rfl, fun x hx => (List.all_eq_true.1 hp) x (by simpa using hx), by rw [h]; rfl, fun w => ?_⟩
  unfold execOp; rw [h]
  simp only [resolve, hc, map_list hx, Sem.run_bind, Sem.run_pure, Result.andThen, invoke, builtin, Builtin.min_]
  rfl
theorem aop_max {c : Call} {k : IntKind} {m n : Int} (h : o.op = .call c) (hc : c.callee = .builtin .max) (hx : c.args.toList.map ρ = [.int k m, .int k n]) (hp : o.op.operands.toList.all (fun x => plain (ρ x)) = true) :
    AOp P ρ o A (.value (.int k (if m < n then n else m))) A := by
  refine .inl ⟨_, rfl, rfl, rfl, fun x hx => (List.all_eq_true.1 hp) x (by simpa using hx), by rw [h]; rfl, fun w => ?_⟩
  unfold execOp; rw [h]
  simp only [resolve, hc, map_list hx, Sem.run_bind, Sem.run_pure, Result.andThen, invoke, builtin, Builtin.max_]
  rfl
theorem aop_index {t e : TypeId} {x ix : Operand} {p : Addr} {len cap i : Nat} {k : IntKind} (h : o.op = .indexAddr t x ix) (hx : ρ x = .slice (some p) len cap) (hi : ρ ix = .int k i) (hu : P.underlying t = some (.slice e)) (h1 : one P e = true) (hl : i < len) :
    AOp P ρ o A (.value (.pointer (some (p.add (i * 1))))) A := by
  refine .inr (.inl ⟨by rw [h]; trivial, ?_⟩)
  unfold execOp; rw [h]
  have hs : (sizeOf e).run P A = .ok 1 A := run_sizeOne h1 A
  have hun : (underlying t).run P A = .ok (.slice e) A := by simp [underlying, program, Sem.run, Bind.bind, Sem.bind, Pure.pure, hu]
  have hl' : (0 : Int) ≤ i ∧ (i : Int) < len := ⟨by omega, by omega⟩
  simp only [Instr.indexAt, hx, hi, asIntOf, Sem.run_bind, Sem.run_pure, Result.andThen, hun, hs, hl', and_self, if_true, Int.toNat_natCast]
theorem run_bound {v : Value} {k : IntKind} {n y : Nat} {code : BoundsCode} (hv : v = .int k n) (h : n ≤ y) : (Instr.sliceBound v y code).run P A = .ok n A := by
  subst hv
  have h' : (0 : Int) ≤ n ∧ (n : Int) ≤ y := ⟨by omega, by omega⟩
  simp only [Instr.sliceBound, asIntOf, Sem.run_bind, Sem.run_pure, Result.andThen, h', and_self, if_true, Int.toNat_natCast]
theorem aop_slice {t e : TypeId} {x : Operand} {lo hi : Option Operand} {b : Option Addr} {len cap l h : Nat} {k : IntKind} (ho : o.op = .slice t x lo hi none) (hx : ρ x = .slice b len cap) (hu : P.underlying t = some (.slice e)) (h1 : one P e = true)
    (hlo : (lo.map ρ = none ∧ l = 0) ∨ lo.map ρ = some (.int k l)) (hhi : hi.map ρ = some (.int k h)) (hl : l ≤ h) (hh : h ≤ cap) (hlen : len ≤ cap)
    (hb : ∀ a, b = some a → ∃ cs t' fz, A.heap[a.block]? = some (.cells cs t' fz) ∧ fz ≠ (2, 0) ∧ (fz = (1, 0) → P.cellsOf e = P.cellsOf t')) :
    AOp P ρ o A (.value (.slice (if cap = l then b else b.map (·.add (l * 1))) (h - l) (cap - l))) A := by
  refine .inr (.inl ⟨?_, ?_⟩)
  · rw [ho]
    refine ⟨fun a l' c' h' => ?_, fun e' h' => ?_, fun el he a l' c' h' => ?_⟩
    · rw [hx] at h'; cases h'; exact hlen
    · rw [hu] at h'; cases h'
    · rw [hu] at he; cases he; rw [hx] at h'; cases h'; exact hb a rfl
  · unfold execOp; rw [ho]
    have hs : (sizeOf e).run P A = .ok 1 A := run_sizeOne h1 A
    have hun : (underlying t).run P A = .ok (.slice e) A := by simp [underlying, program, Sem.run, Bind.bind, Sem.bind, Pure.pure, hu]
    have hbd : (Instr.sliceBounds true len cap (lo.map ρ) (hi.map ρ) none).run P A = .ok (l, h, cap) A := by
      unfold Instr.sliceBounds
      rw [hhi]
      rcases hlo with ⟨h0, rfl⟩ | h0
      · rw [h0]
        simp only [Sem.run_bind, Sem.run_pure, Result.andThen, run_bound (v := .int k h) rfl hh]
      · rw [h0]
        simp only [Sem.run_bind, Sem.run_pure, Result.andThen, run_bound (v := .int k h) rfl hh, run_bound (v := .int k l) rfl hl, Option.isSome_none, if_true]
    simp only [Instr.sliceAt, Instr.slice, hx, Sem.run_bind, Sem.run_pure, Result.andThen, hun, hs, hbd, Option.map_none]
theorem aop_slice1 {t e : TypeId} {x : Operand} {v z : Value} {i : TypeInfo} (h : o.op = .buildSlice t 1 #[(0, x)]) (hx : ρ x = v) (hv : isOne v = true) (hu : P.underlying t = some (.slice e)) (h1 : one P e = true) (hi : P.info? e = some i) (hz : i.zero = some z) (hz1 : isOne z = true) :
    AOp P ρ o A (.value (.slice (some ⟨A.heap.size, 0, none⟩) 1 1)) (A.alloc (.cells #[v] e (0, 0))) := by
  refine .inr (.inl ⟨by rw [h]; trivial, ?_⟩)
  unfold execOp; rw [h]
  have hs : ∀ w, (sizeOf e).run P w = .ok 1 w := run_sizeOne h1
  have hun : (underlying t).run P A = .ok (.slice e) A := by simp [underlying, program, Sem.run, Bind.bind, Sem.bind, Pure.pure, hu]
  have hzr : (zeroValue e).run P A = .ok z A := by simp [zeroValue, typeInfo, program, Sem.run, Bind.bind, Sem.bind, Pure.pure, hi, hz]
  have hf : Instr.fill (fun i => some (i * 1, 1)) ((Array.range (1 * 1)).map (z.cells[· % z.cells.size]!)) [(0, v)] = some #[v] := by
    rw [isOne_cells hz1]
    have hr : Array.range 1 = #[0] := rfl
    simp [Instr.fill, isOne_cells hv, hr]
  simp only [Instr.buildSlice, Sem.run_bind, Sem.run_pure, Result.andThen, hun, hs]
  have e1 : (#[((0 : Nat), x)].map fun (p : Nat × Operand) => (p.1, ρ p.2)).toList = [(0, v)] := by simp [hx]
  rw [if_neg (by decide : ¬ 1 * 1 > 2 ^ 24), if_neg (by decide : ¬ 1 * 1 = 0)]
  simp only [Sem.run_bind, Sem.run_pure, Result.andThen, hzr, e1, hf, newRow]
  rfl
theorem add_block (a : Addr) (i : Nat) : (a.add i).block = a.block := by unfold Addr.add; split <;> rfl
theorem add_off (a : Addr) (i : Nat) : (a.add i).off = a.off + i := by unfold Addr.add; split <;> simp_all
theorem add_spot {a : Addr} (h : a.spot = none) (i : Nat) : (a.add i).spot = none := by unfold Addr.add; split <;> simp_all
theorem cell_at {a : Addr} {cs : Array Value} {t : TypeId} {fz : Nat × Nat} (h : A.heap[a.block]? = some (.cells cs t fz)) (hs : a.spot = none) : A.cell? a = cs[a.off]? := by
  simp only [World.cell?, h, hs]; rfl
theorem cell_add {a : Addr} {cs : Array Value} {t : TypeId} {fz : Nat × Nat} (h : A.heap[a.block]? = some (.cells cs t fz)) (hs : a.spot = none) (i : Nat) : A.cell? (a.add i) = cs[a.off + i]? := by
  rw [cell_at (a := a.add i) (by rw [add_block]; exact h) (add_spot hs i), add_off]
theorem run_loadCells : ∀ (n : Nat) (a : Addr) (i : Nat) (acc cs : Array Value) (t : TypeId) (fz : Nat × Nat), A.heap[a.block]? = some (.cells cs t fz) → a.spot = none → a.off + i + n ≤ cs.size →
    (loadCellsFrom a i n acc).run P A = .ok (acc ++ cs.extract (a.off + i) (a.off + i + n)) A
  | 0, a, i, acc, cs, t, fz, h, hs, hn => by
    have : cs.extract (a.off + i) (a.off + i + 0) = #[] := by simp; omega
    rw [this]; simp [loadCellsFrom]
  | n + 1, a, i, acc, cs, t, fz, h, hs, hn => by
    have hlt : a.off + i < cs.size := by omega
    have hc : A.cell? (a.add i) = some cs[a.off + i] := by rw [cell_add h hs]; exact Array.getElem?_eq_getElem hlt
    have ih := run_loadCells n a (i + 1) (acc.push cs[a.off + i]) cs t fz h hs (by omega)
    have e : acc.push cs[a.off + i] ++ cs.extract (a.off + (i + 1)) (a.off + (i + 1) + n) = acc ++ cs.extract (a.off + i) (a.off + i + (n + 1)) := by
      apply Array.ext'
      simp only [Array.toList_append, Array.toList_push, Array.toList_extract, List.extract_eq_take_drop, List.append_assoc]
      congr 1
      have hl : a.off + i < cs.toList.length := by simpa using hlt
      rw [List.drop_eq_getElem_cons hl, show a.off + i + (n + 1) - (a.off + i) = n + 1 by omega, List.take_succ_cons, show a.off + (i + 1) + n - (a.off + (i + 1)) = n by omega]
      simp [Nat.add_assoc]
    rw [e] at ih
    have e0 : (Go.load (a.add i)).run P A = .ok cs[a.off + i] A := by simp [Go.load, Sem.run, hc]
    unfold loadCellsFrom
    simp only [Sem.run_bind, e0, Result.andThen]
    exact ih
/-- One element more, of a slice that is full: nil, or a block of its own that was grown. -/
theorem aop_append1 {c : Call} {sT xT e e' : TypeId} {ie : TypeInfo} {z v : Value} {b : Option Addr} {k q : Nat} {cs : Array Value} {tq : TypeId} {fq : Nat × Nat} (h : o.op = .call c) (hc : c.callee = .builtin .append) (ht : c.argTypes = #[sT, xT])
    (hs : P.underlying sT = some (.slice e)) (hx : P.underlying xT = some (.slice e')) (hi : P.info? e = some ie) (hz : ie.zero = some z) (hz1 : isOne z = true) (hsz : ie.size = 1) (hby : ie.bytes ≤ 2 ^ 16)
    (ha : c.args.toList.map ρ = [.slice b k k, .slice (some ⟨q, 0, none⟩) 1 1]) (hq : A.heap[q]? = some (.cells #[v] tq fq)) (hv : isOne v = true) (hk : k + 1 ≤ 2 ^ 24)
    (hb : (b = none ∧ k = 0 ∧ cs = #[] ∧ A' = A.alloc (.cells (cs.push v) e (1, 0))) ∨
      ∃ d, b = some ⟨d, 0, none⟩ ∧ 0 < k ∧ cs.size = k ∧ A.heap[d]? = some (.cells cs e (1, 0)) ∧ A' = (kill A d e).alloc (.cells (cs.push v) e (1, 0))) :
    AOp P ρ o A (.value (.slice (some ⟨A.heap.size, 0, none⟩) (k + 1) (k + 1))) A' := by
  refine .inr (.inr (.inl ⟨c, _, h, hc, rfl, ?_⟩))
  have hzs : zerosOf P c.argTypes = false := by simp [zerosOf, ht, hx]
  refine ⟨e, ie, z, b, k, k, .slice (some ⟨q, 0, none⟩) 1 1, 1, ⟨hz, ⟨sT, by rw [ht]; rfl, hs⟩, hi, fun t h => ?_⟩, map_list ha, by rw [hzs]; rfl, .inr ⟨by omega, Nat.le_refl _, hk, hby, by rw [isOne_cells hz1, hsz]; rfl, ?_⟩⟩
  · rw [ht] at h; cases h; exact .inl ⟨_, hx⟩
  · have hnew : (appSrc (zerosOf P c.argTypes) e ie.size 1 (.slice (some ⟨q, 0, none⟩) 1 1)).run P A = .ok #[v] A := by
      rw [hzs, hsz]
      have := run_loadCells (P := P) 1 ⟨q, 0, none⟩ 0 #[] #[v] tq fq hq rfl (by simp)
      simpa [appSrc, Builtin.firstCells, loadCells] using this
    rcases hb with ⟨rfl, rfl, rfl, rfl⟩ | ⟨d, rfl, hk0, hcs, hd, rfl⟩
    · refine ⟨#[], #[v], rfl, hnew, rfl, by simp, by simp [hsz], by simp [hv], .inl ⟨rfl, fun a h => by cases h⟩⟩
    · refine ⟨cs, #[v], ?_, hnew, rfl, by simp [hcs, hsz], by simp [hsz], by simp [hv], .inr ⟨⟨d, 0, none⟩, cs, rfl, hd, hk0, rfl⟩⟩
      have := run_loadCells (P := P) k ⟨d, 0, none⟩ 0 #[] cs e (1, 0) hd rfl (by simp [hcs])
      rw [hsz]
      have e1 : cs.extract 0 k = cs := by rw [← hcs]; simp
      simpa [Builtin.firstCells, loadCells, e1] using this
end
section
variable {P : Program} {n₀ : Nat} {ops : Array Oper} {o : Oper} {os : List Oper} {Q : Act → World → Prop} {a : Act} {A : World}
theorem wpO_mv (v : Value) {x : Operand} (hx : a.eval x = v) (k : wpO P n₀ ops os Q (a.put o.dst v) A) (h : o.op = .move x := by rfl) (hw : Region.wanted o (yielded ops a.tmps) = true := by rfl) : wpO P n₀ ops (o :: os) Q a A :=
  wpO_val (hx ▸ aop_move (.inl h)) k hw
theorem wpO_as (v : Value) {x : Operand} (hx : a.eval x = v) (k : wpO P n₀ ops os Q (a.put o.dst v) A) (h : o.op = .assign x := by rfl) (hw : Region.wanted o (yielded ops a.tmps) = true := by rfl) : wpO P n₀ ops (o :: os) Q a A :=
  wpO_val (hx ▸ aop_move (.inr h)) k hw
theorem wpO_norm (b : Act) (h : a = b) (k : wpO P n₀ ops os Q b A) : wpO P n₀ ops os Q a A := h ▸ k
theorem wpC_norm {ro : Option Nat} {c : Code} {Q : Exit → Act → World → Prop} (b : Act) (h : a = b) (k : wpC P n₀ ro c Q b A) : wpC P n₀ ro c Q a A := h ▸ k
theorem res_none {fn : Func} {ts : Array Value} (h : fn.results = #[]) : (results fn ts).run P A = .ok undef A := by
  unfold results; rw [h]
  simp [Sem.run_pure]
  rfl
theorem res_one {fn : Func} {ts : Array Value} {t : Tmp} (h : fn.results = #[.tmp t]) : (results fn ts).run P A = .ok (ts.getD t undef) A := by
  unfold results; rw [h]
  simp [Sem.run_pure]
theorem ret_none {fn : Func} {Q : Value → World → Prop} {e : Exit} (k : Q undef A) (h : fn.results = #[] := by rfl) (hd : a.defers = [] := by rfl) (he : e = .normal ∨ e = .ret := by first | exact .inl rfl | exact .inr rfl) : retQ P fn Q e a A := ⟨he, hd, _, res_none h, k⟩
theorem ret_one {fn : Func} {Q : Value → World → Prop} {e : Exit} {t : Tmp} (v : Value) (hv : a.tmps.getD t undef = v) (k : Q v A) (h : fn.results = #[.tmp t] := by rfl) (hd : a.defers = [] := by rfl) (he : e = .normal ∨ e = .ret := by first | exact .inl rfl | exact .inr rfl) : retQ P fn Q e a A := ⟨he, hd, v, hv ▸ res_one h, k⟩
end
end Go.Abs
