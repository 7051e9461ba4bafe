/-
  ABS B13: values of several cells: structs and arrays: laid, read, written, put together; slices of them.
-/
import Derived.Test.YtfkdkfleaiaoiaaB11
namespace Go.Abs
section
variable {P : Program} {A A' : World} {ρ : Operand → Value} {o : Oper}
/-- A type: how many cells, and whether its values are put together. -/
def tyOf (P : Program) (t : TypeId) (n : Nat) (g : Bool) : Bool :=
  (match P.underlying t with | some (.struct _) | some (.array ..) => g | some _ => !g | none => false) && (match P.info? t with | some i => decide (i.size = n) | none => false)
theorem run_agg {t : TypeId} {n : Nat} {g : Bool} (h : tyOf P t n g = true) (w : World) : (isAgg t).run P w = .ok g w := by
  unfold tyOf at h
  simp only [Bool.and_eq_true] at h
  obtain ⟨h1, _⟩ := h
  unfold isAgg underlying program
  cases hu : P.underlying t with
  | none => rw [hu] at h1; cases h1
  | some d => cases d <;> simp_all [Sem.run, Bind.bind, Sem.bind, Pure.pure]
theorem run_szT {t : TypeId} {n : Nat} {g : Bool} (h : tyOf P t n g = true) (w : World) : (sizeOf t).run P w = .ok n w := by
  unfold tyOf at h
  simp only [Bool.and_eq_true] at h
  obtain ⟨_, h1⟩ := h
  unfold sizeOf typeInfo program
  cases hu : P.info? t with
  | none => rw [hu] at h1; cases h1
  | some d => rw [hu] at h1; simp_all [Sem.run, Bind.bind, Sem.bind, Pure.pure]
theorem run_under {t : TypeId} {d : TypeDesc} (hu : P.underlying t = some d) (w : World) : (underlying t).run P w = .ok d w := by
  simp [underlying, program, Sem.run, Bind.bind, Sem.bind, Pure.pure, hu]
theorem run_zeroT {t : TypeId} {i : TypeInfo} {z : Value} (hi : P.info? t = some i) (hz : i.zero = some z) (w : World) : (zeroValue t).run P w = .ok z w := by
  simp [zeroValue, typeInfo, program, Sem.run, Bind.bind, Sem.bind, Pure.pure, hi, hz]
theorem aop_boxT {t : TypeId} {x : Operand} {v : Value} {cs : Array Value} (h : o.op = .box t x) (hx : ρ x = v) (hc : v.cells = cs) : AOp P ρ o A (.value (.pointer (some ⟨A.heap.size, 0, none⟩))) (A.alloc (.cells cs t (0, 0))) := by
  refine .inr (.inl ⟨by rw [h]; trivial, ?_⟩)
  subst hc
  unfold execOp; rw [h]
  simp only [hx]
  simp only [Instr.box, newVar, newRow]
  rfl
theorem aop_allocT {t : TypeId} {i : TypeInfo} {z : Value} {cs : Array Value} (h : o.op = .alloc t) (hi : P.info? t = some i) (hz : i.zero = some z) (hc : z.cells = cs) :
    AOp P ρ o A (.value (.pointer (some ⟨A.heap.size, 0, none⟩))) (A.alloc (.cells cs t (0, 0))) := by
  refine .inr (.inl ⟨by rw [h]; trivial, ?_⟩)
  subst hc
  unfold execOp; rw [h]
  simp only [Instr.alloc, Sem.run_bind, Result.andThen, run_zeroT hi hz, newVar, newRow]
  rfl
/-- A value of n cells is read. -/
theorem aop_loadT {t : TypeId} {n : Nat} {x : Operand} {p : Addr} {cs xs : Array Value} {tq : TypeId} {fz : Nat × Nat} (h : o.op = .load t x) (hx : ρ x = .pointer (some p)) (h1 : tyOf P t n true = true) (hb : A.heap[p.block]? = some (.cells cs tq fz)) (hs : p.spot = none) (hn : p.off + n ≤ cs.size)
    (hc : cs.extract p.off (p.off + n) = xs) : AOp P ρ o A (.value (.agg xs)) A := by
  refine .inr (.inl ⟨by rw [h]; trivial, ?_⟩)
  subst hc
  unfold execOp; rw [h]
  have := run_loadCells (P := P) n p 0 #[] cs tq fz hb hs (by simpa using hn)
  simp only [Nat.add_zero, Array.empty_append] at this
  simp only [Instr.loadAt, hx, Instr.sureAddr, Sem.run_bind, Sem.run_pure, Result.andThen, loadVar, run_agg h1, run_szT h1, if_true, loadCells, this]
theorem run_store {p : Addr} {u v : Value} (hv : isOne v = true) (hc : A.cell? p = some u) (hz : A.frozen? p = false) : (Go.store p v).run P A = .ok () (A.setCell p v) := by
  cases v <;> simp_all [isOne, Go.store, Sem.run]
/-- A value of one cell that is put together is written. -/
theorem aop_storeT1 {t : TypeId} {x y : Operand} {p : Addr} {u v : Value} (h : o.op = .store t x y) (hx : ρ x = .pointer (some p)) (hy : ρ y = .agg #[v]) (h1 : tyOf P t 1 true = true) (hv : isOne v = true) (hc : A.cell? p = some u) (hz : A.frozen? p = false) : AOp P ρ o A .skip (A.setCell p v) := by
  refine .inr (.inl ⟨by rw [h]; trivial, ?_⟩)
  unfold execOp; rw [h]
  have e : p.add 0 = p := by cases p; simp [Addr.add]
  simp only [Instr.storeAt, hx, hy, Instr.sureAddr, Sem.run_bind, Sem.run_pure, Result.andThen, storeVar, run_szT h1, Value.cells]
  rw [if_neg (by simp)]
  simp only [storeCells, e, Sem.run_bind, run_store hv hc hz, Result.andThen]
  rfl
theorem aop_storeT2 {t : TypeId} {x y : Operand} {p : Addr} {u u' v v' : Value} (h : o.op = .store t x y) (hx : ρ x = .pointer (some p)) (hy : ρ y = .agg #[v, v']) (h1 : tyOf P t 2 true = true) (hv : isOne v = true) (hv' : isOne v' = true) (hc : A.cell? p = some u) (hz : A.frozen? p = false)
    (hc' : (A.setCell p v).cell? (p.add 1) = some u') (hz' : (A.setCell p v).frozen? (p.add 1) = false) : AOp P ρ o A .skip ((A.setCell p v).setCell (p.add 1) v') := by
  refine .inr (.inl ⟨by rw [h]; trivial, ?_⟩)
  unfold execOp; rw [h]
  have e : p.add 0 = p := by cases p; simp [Addr.add]
  simp only [Instr.storeAt, hx, hy, Instr.sureAddr, Sem.run_bind, Sem.run_pure, Result.andThen, storeVar, run_szT h1, Value.cells]
  rw [if_neg (by simp)]
  simp only [storeCells, e, Sem.run_bind, run_store hv hc hz, Result.andThen, Nat.zero_add, run_store hv' hc' hz']
  rfl
/-- A field's address. -/
theorem aop_fieldAddr {s : TypeId} {x : Operand} {k n : Nat} {p : Addr} {fs : Array Field} {f : Field} {g : Bool} (h : o.op = .fieldAddr s x k) (hx : ρ x = .pointer (some p)) (hu : P.underlying s = some (.struct fs)) (hf : fs[k]? = some f) (h1 : tyOf P f.type n g = true) (hn : n ≠ 0) (hc : P.cellsOf f.type ≠ 0) : AOp P ρ o A (.value (.pointer (some (p.add f.offset)))) A := by
  refine .inr (.inl ⟨by rw [h]; exact fun fs' f' h1 h2 => by rw [hu] at h1; cases h1; rw [hf] at h2; cases h2; exact hc, ?_⟩)
  unfold execOp; rw [h]
  simp only [Instr.fieldAt, hx, Sem.run_bind, Result.andThen, run_under hu, hf, Instr.sureAddr, Sem.run_pure, fieldPlace, run_szT h1]
  rw [if_neg hn]
  simp only [Sem.run_pure]
/-- An element's address, of a slice. -/
theorem aop_indexT {t e : TypeId} {n : Nat} {g : Bool} {x ix : Operand} {p : Addr} {len cap i : Nat} {k : IntKind} (h : o.op = .indexAddr t x ix) (hx : ρ x = .slice (some p) len cap) (hi : ρ ix = .int k i) (hu : P.underlying t = some (.slice e)) (h1 : tyOf P e n g = true) (hl : i < len) :
    AOp P ρ o A (.value (.pointer (some (p.add (i * n))))) A := by
  refine .inr (.inl ⟨by rw [h]; trivial, ?_⟩)
  unfold execOp; rw [h]
  have hl' : (0 : Int) ≤ i ∧ (i : Int) < len := ⟨by omega, by omega⟩
  simp only [Instr.indexAt, hx, hi, asIntOf, Sem.run_bind, Sem.run_pure, Result.andThen, run_under hu, run_szT h1, hl', and_self, if_true, Int.toNat_natCast]
/-- .. of an array. -/
theorem aop_indexA {t e : TypeId} {n len : Nat} {g : Bool} {x ix : Operand} {p : Addr} {i : Nat} {k : IntKind} (h : o.op = .indexAddr t x ix) (hx : ρ x = .pointer (some p)) (hi : ρ ix = .int k i) (hu : P.underlying t = some (.array len e)) (h1 : tyOf P e n g = true) (hl : i < len) :
    AOp P ρ o A (.value (.pointer (some (p.add (i * n))))) A := by
  refine .inr (.inl ⟨by rw [h]; trivial, ?_⟩)
  unfold execOp; rw [h]
  have hl' : (0 : Int) ≤ i ∧ (i : Int) < len := ⟨by omega, by omega⟩
  simp only [Instr.indexAt, hx, hi, asIntOf, Sem.run_bind, Sem.run_pure, Result.andThen, run_under hu, run_szT h1, hl', and_self, if_true, Int.toNat_natCast, Instr.sureAddr]
theorem aop_nilCheck {x : Operand} {p : Addr} (h : o.op = .nilCheck x) (hx : ρ x = .pointer (some p)) : AOp P ρ o A (.value (.pointer (some p))) A := by
  refine .inr (.inl ⟨by rw [h]; trivial, ?_⟩)
  unfold execOp; rw [h]
  simp only [hx]
  rfl
/-- Two cells are put together. -/
theorem aop_build2 {t e : TypeId} {x y : Operand} {i : TypeInfo} {z v v' : Value} {a b : Value} (h : o.op = .build t #[(0, x), (1, y)]) (hx : ρ x = v) (hy : ρ y = v') (hv : isOne v = true) (hv' : isOne v' = true) (hu : P.underlying t = some (.array 2 e)) (h1 : tyOf P e 1 false = true) (hi : P.info? t = some i) (hz : i.zero = some z) (hc : z.cells = #[a, b]) :
    AOp P ρ o A (.value (.agg #[v, v'])) A := by
  refine .inr (.inl ⟨by rw [h]; trivial, ?_⟩)
  unfold execOp; rw [h]
  have e1 : (#[((0 : Nat), x), (1, y)].map fun (p : Nat × Operand) => (p.1, ρ p.2)).toList = [(0, v), (1, v')] := by simp [hx, hy]
  have hf : Instr.fill (fun i => some (i * 1, 1)) #[a, b] [(0, v), (1, v')] = some #[v, v'] := by
    simp [Instr.fill, isOne_cells hv, isOne_cells hv']
  simp only [Instr.build, Sem.run_bind, Result.andThen, run_zeroT hi hz, hc, run_under hu, run_szT h1, e1, hf, Sem.run_pure]
/-- A slice of one element of two cells. -/
theorem aop_sliceT2 {t e : TypeId} {x : Operand} {i : TypeInfo} {z v v' a b : Value} (h : o.op = .buildSlice t 1 #[(0, x)]) (hx : ρ x = .agg #[v, v']) (hu : P.underlying t = some (.slice e)) (h1 : tyOf P e 2 true = true) (hi : P.info? e = some i) (hz : i.zero = some z) (hc : z.cells = #[a, b]) :
    AOp P ρ o A (.value (.slice (some ⟨A.heap.size, 0, none⟩) 1 1)) (A.alloc (.cells #[v, v'] e (0, 0))) := by
  refine .inr (.inl ⟨by rw [h]; trivial, ?_⟩)
  unfold execOp; rw [h]
  have hf : Instr.fill (fun i => some (i * 2, 2)) ((Array.range (1 * 2)).map (#[a, b][· % #[a, b].size]!)) [(0, .agg #[v, v'])] = some #[v, v'] := by
    have hr : Array.range 2 = #[0, 1] := rfl
    simp [Instr.fill, Value.cells, hr]
  have e1 : (#[((0 : Nat), x)].map fun (p : Nat × Operand) => (p.1, ρ p.2)).toList = [(0, .agg #[v, v'])] := by simp [hx]
  simp only [Instr.buildSlice, Sem.run_bind, Sem.run_pure, Result.andThen, run_under hu, run_szT h1]
  rw [if_neg (by decide : ¬ 1 * 2 > 2 ^ 24), if_neg (by decide : ¬ 1 * 2 = 0)]
  simp only [Sem.run_bind, Sem.run_pure, Result.andThen, run_zeroT hi hz, hc, e1, hf, newRow]
  rfl
/-- A slice of nothing, not nil. -/
theorem aop_sliceT0 {t e : TypeId} {n : Nat} {g : Bool} (h : o.op = .buildSlice t 0 #[]) (hu : P.underlying t = some (.slice e)) (h1 : tyOf P e n g = true) :
    AOp P ρ o A (.value (.slice (some ⟨A.heap.size, 0, none⟩) 0 0)) (A.alloc (.cells #[] e (0, 0))) := by
  refine .inr (.inl ⟨by rw [h]; trivial, ?_⟩)
  unfold execOp; rw [h]
  simp only [Instr.buildSlice, Sem.run_bind, Sem.run_pure, Result.andThen, run_under hu, run_szT h1, Nat.zero_mul]
  rw [if_neg (by decide : ¬ 0 > 2 ^ 24)]
  simp only [if_true, Sem.run_bind, Sem.run_pure, Result.andThen]
  have hr : Array.range 0 = #[] := rfl
  simp only [hr]
  simp [Instr.fill, newRow, newObj, Sem.run, Bind.bind, Sem.bind, Pure.pure]
/-- Whether a slice is nil. -/
theorem aop_eqNil {t : TypeId} {x y : Operand} {z : TypeId} {v w : Value} (h : o.op = .binOp .eql t x y z) (hx : ρ x = v) (hy : ρ y = w) (hn : nilPair v w = true) {b : Bool} (hr : (Op.equal t v w).run P A = .ok b A) : AOp P ρ o A (.value (.bool b)) A := by
  refine .inr (.inl ⟨by rw [h]; show nilPair (ρ x) (ρ y) = true; rw [hx, hy]; exact hn, ?_⟩)
  unfold execOp; rw [h]
  simp only [hx, hy, nilPair_guard hn .eql t x y (.inl rfl), nilPair_eql hn t, Sem.run_bind, Sem.run_pure, Result.andThen, hr]
end
end Go.Abs
