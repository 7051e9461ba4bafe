/-
  ABS B16: an append within capacity; more of slices of values of several cells. No condition.
-/
import Derived.Test.YtfkdkfleaiaoiaaB14
namespace Go.Abs
section
variable {P : Program} {A : World} {ρ : Operand → Value} {o : Oper}
/-- Values put one behind the other, from k on. -/
def putL (cs : Array Value) : Nat → List Value → Array Value
  | _, [] => cs
  | k, v :: vs => putL (cs.setIfInBounds k v) (k + 1) vs
theorem putL_toList : ∀ (new : List Value) (a b c : List Value), b.length = new.length → putL (a ++ b ++ c).toArray a.length new = (a ++ new ++ c).toArray
  | [], a, b, c, h => by
    have : b = [] := List.eq_nil_of_length_eq_zero (by simpa using h)
    subst this; rfl
  | v :: new, a, [], c, h => by simp at h
  | v :: new, a, w :: b, c, h => by
    have ih := putL_toList new (a ++ [v]) b c (by simpa using h)
    simp only [putL]
    have e1 : ((a ++ w :: b ++ c).toArray).setIfInBounds a.length v = (a ++ [v] ++ b ++ c).toArray := by
      simp [List.set_append_right]
    rw [e1]
    have e2 : a.length + 1 = (a ++ [v]).length := by simp
    rw [e2, ih]; simp
theorem store_in {J : Asn} {F : Foot} {d off : Nat} {t : TypeId} {fz : Nat × Nat} (hJ : Owns J) (hf : fz = (0, 0) ∨ fz = (1, 0)) : ∀ {new : List Value} {cs : Array Value} {i : Nat} {A : World}, new.all isOne = true → ((blk d (.cells cs t fz)).sep J) F A → off + i + new.length ≤ cs.size →
    ∃ A', (storeCells ⟨d, off, none⟩ new i).run P A = .ok () A' ∧ ((blk d (.cells (putL cs (off + i) new) t fz)).sep J) F A' ∧ Step F A F A'
  | [], cs, i, A, _, h, _ => ⟨A, rfl, h, .refl⟩
  | v :: new, cs, i, A, ho, h, hl => by
    simp only [List.all_cons, Bool.and_eq_true] at ho
    simp only [List.length_cons] at hl
    have e : (⟨d, off, none⟩ : Addr).add i = ⟨d, off + i, none⟩ := by
      unfold Addr.add
      by_cases h : i = 0
      · subst h; rfl
      · rw [if_neg h]
    obtain ⟨h1, S1⟩ := Asn.putAt (i := off + i) hJ h hf v
    obtain ⟨A', r, h2, S2⟩ := store_in (off := off) hJ hf (i := i + 1) ho.2 h1 (by simp; omega)
    refine ⟨A', ?_, h2, S1.trans S2⟩
    have hc : A.cell? ⟨d, off + i, none⟩ = some cs[off + i] := Asn.cellAt h (Array.getElem?_eq_getElem (by omega))
    simp only [storeCells, Sem.run_bind, e, run_store ho.1 hc (Asn.softAt h hf), Result.andThen, r]
/-- The first ones of a slice. -/
theorem aop_sliceK {t e : TypeId} {n : Nat} {g : Bool} {x : Operand} {hi : Option Operand} {b : Option Addr} {len cap h : Nat} {k : IntKind} (ho : o.op = .slice t x none hi none) (hx : ρ x = .slice b len cap) (hu : P.underlying t = some (.slice e)) (h1 : tyOf P e n g = true)
    (hhi : hi.map ρ = some (.int k h)) (hh : h ≤ cap) (hlen : len ≤ cap)
    (hb : ∀ a, b = some a → ∃ cs t' fz, A.heap[a.block]? = some (.cells cs t' fz) ∧ fz ≠ (2, 0) ∧ (fz = (1, 0) → P.cellsOf e = P.cellsOf t')) :
    AOp P ρ o A (.value (.slice b h cap)) A := by
  refine .inr (.inl ⟨?_, ?_⟩)
  · rw [ho]
    refine ⟨fun a l' c' h' => ?_, fun e' h' => ?_, fun el he a l' c' h' => ?_⟩
    · rw [hx] at h'; cases h'; exact hlen
    · rw [hu] at h'; cases h'
    · rw [hu] at he; cases he; rw [hx] at h'; cases h'; exact hb a rfl
  · unfold execOp; rw [ho]
    have hbd : (Instr.sliceBounds true len cap ((none : Option Operand).map ρ) (hi.map ρ) none).run P A = .ok (0, h, cap) A := by
      unfold Instr.sliceBounds
      rw [hhi]
      simp only [Option.map_none, Sem.run_bind, Sem.run_pure, Result.andThen, run_bound (v := .int k h) rfl hh]
    have e0 : (if cap = 0 then b else b.map (·.add (0 * n))) = b := by
      rw [Nat.zero_mul]
      cases b <;> simp [Addr.add]
    simp only [Option.map_none] at hbd
    simp only [Instr.sliceAt, Instr.slice, hx, Sem.run_bind, Sem.run_pure, Result.andThen, run_under hu, run_szT h1, hbd, Option.map_none, e0, Nat.sub_zero]
theorem aop_cap0 {c : Call} {t e : TypeId} (h : o.op = .call c) (hc : c.callee = .builtin .cap) (ht : c.argTypes[0]? = some t) (hu : P.underlying t = some (.slice e)) (hx : c.args.toList.map ρ = [.slice none 0 0]) (hp : o.op.operands.toList.all (fun x => plain (ρ x)) = true) :
    AOp P ρ o A (.value (.int .i64 0)) A := by
  refine .inl ⟨_, rfl, rfl, rfl, fun x hx' => (List.all_eq_true.1 hp) x (by simpa using hx'), by rw [h]; rfl, fun w => ?_⟩
  · unfold execOp; rw [h]
    simp only [resolve, hc, map_list hx, Sem.run_bind, Sem.run_pure, Result.andThen, invoke, builtin, Builtin.cap_, ht]
    simp [underlying, program, Sem.run, Bind.bind, Sem.bind, Pure.pure, hu, goInt]
end
end Go.Abs
