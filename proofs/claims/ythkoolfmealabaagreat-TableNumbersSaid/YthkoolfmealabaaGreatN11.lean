/-
  ABS B4: a region that draws its order, as a walk meets it.
-/
import Derived.Test.YthkoolfmealabaaGreatN10
import Derived.KernelRfl
namespace Go.Abs
section
variable {P : Program} {n₀ : Nat} {ro : Option Nat} {Q : Exit → Act → World → Prop} {a : Act} {A : World} {ops : Array Oper}
/-- What stands in the temporaries, operation by operation. -/
def asOf (ops : Array Oper) (a : Act) (vs : List Value) : Nat → Act
  | 0 => a
  | i + 1 => (asOf ops a vs i).put ((ops[i]?).bind (·.dst)) (vs.getD i undef)
def trOf (ops : Array Oper) (a : Act) (vs : List Value) (ws : List World) (A : World) : Trace := ⟨asOf ops a vs, fun i => ws.getD i A, fun i => vs.getD i undef⟩
theorem cw_draw (G : Good P) {id : Nat} (vs : List Value) (ws : List World) (hr : rck ops = true) (h0 : ws.getD 0 A = A) (h : ∀ (i : Nat) (o : Oper), ops[i]? = some o → StepOk P (Wd P n₀) ops (trOf ops a vs ws A) i o)
    (b : Act) (A' : World) (hb : asOf ops a vs ops.size = b) (hA : ws.getD ops.size A = A') (k : Q .normal b A') : wpC P n₀ ro (.region id ops true) Q a A :=
  have k : Q .normal (asOf ops a vs ops.size) (ws.getD ops.size A) := by rw [hb, hA]; exact k
  ⟨.normal, _, _, code_of G (c := .region id ops true) ⟨rfl, hr, trOf ops a vs ws A, rfl, h0, rfl, rfl, h⟩, k⟩
theorem step_quiet {vs : List Value} {ws : List World} {i : Nat} {o : Oper} (ho : ops[i]? = some o) (ps : List Nat) (h : ∀ p ∈ ps, AOp P (asOf ops a vs i).eval o (ws.getD p A) (.value (vs.getD i undef)) (ws.getD p A)) (hws : ws.getD (i + 1) A = ws.getD i A)
    (hps : (effs ops ++ [ops.size]).filter (mayAt ops (masks ops) i) = ps := by kernel_rfl) (hk : kindOf o.op = .quiet := by rfl) (hw : Region.wanted o (yielded ops (asOf ops a vs i).tmps) = true := by rfl) : StepOk P (Wd P n₀) ops (trOf ops a vs ws A) i o := by
  refine ⟨by simp [trOf, asOf, ho], ?_⟩
  rw [if_pos (by exact hw), hk]
  refine ⟨hws, fun p hp hm => h p ?_⟩
  rw [← hps]; exact List.mem_filter.2 ⟨hp, hm⟩
theorem step_acts {vs : List Value} {ws : List World} {i : Nat} {o : Oper} (ho : ops[i]? = some o) (h : RunOp P (Wd P n₀) o (asOf ops a vs i) (ws.getD i A) (vs.getD i undef) (ws.getD (i + 1) A))
    (hk : kindOf o.op = .acts := by rfl) (hw : Region.wanted o (yielded ops (asOf ops a vs i).tmps) = true := by rfl) : StepOk P (Wd P n₀) ops (trOf ops a vs ws A) i o := by
  refine ⟨by simp [trOf, asOf, ho], ?_⟩
  rw [if_pos (by exact hw), hk]; exact h
theorem step_not {vs : List Value} {ws : List World} {i : Nat} {o : Oper} (ho : ops[i]? = some o) (hv : vs.getD i undef = undef) (hws : ws.getD (i + 1) A = ws.getD i A) (hw : Region.wanted o (yielded ops (asOf ops a vs i).tmps) = false := by rfl) : StepOk P (Wd P n₀) ops (trOf ops a vs ws A) i o := by
  refine ⟨by simp [trOf, asOf, ho], ?_⟩
  rw [if_neg (by rw [show Region.wanted o (yielded ops ((trOf ops a vs ws A).as i).tmps) = false from hw]; decide)]; exact ⟨hws, hv⟩
theorem runOp_callv {o : Oper} {c : Call} {g : Operand} {y v : Value} {l : List Value} {A1 : World} (H : CallV P n₀ y l.toArray A v A1) (hg : a.eval g = y) (hx : c.args.toList.map a.eval = l) (ho : o.op = .call c := by rfl) (hc : c.callee = .value g := by rfl) : RunOp P (Wd P n₀) o a A v A1 := by
  obtain ⟨f, fn, code, first, cap, H, rfl, h2⟩ := H
  have e : c.args.map a.eval = l.toArray := by rw [← hx, ← Array.toList_map]
  rw [← e] at h2
  exact ⟨_, _, .inr (.inr (.inr (.inl ⟨c, g, f, first, cap, fn, code, ho, hc, hg, H.at_, H.body, H.name, rfl, rfl⟩))), h2⟩
theorem all0 {R : Nat → Prop} : ∀ q ∈ ([] : List Nat), R q := fun _ h => by cases h
theorem all1 {R : Nat → Prop} {p : Nat} (h : R p) : ∀ q ∈ [p], R q := fun q hq => by
  simp only [List.mem_cons, List.not_mem_nil, or_false] at hq; exact hq ▸ h
theorem all2 {R : Nat → Prop} {p r : Nat} (h : R p) (k : R r) : ∀ q ∈ [p, r], R q := fun q hq => by
  simp only [List.mem_cons, List.not_mem_nil, or_false] at hq
  rcases hq with rfl | rfl
  · exact h
  · exact k
end
end Go.Abs
