/-
  ABS B7: a long region that draws its order: what stands in the temporaries, as a list.
-/
import Derived.Test.YtfkdkfleaiaoiaaB6
namespace Go.Abs
section
variable {P : Program} {n₀ : Nat} {ro : Option Nat} {Q : Exit → Act → World → Prop} {a : Act} {A : World} {ops : Array Oper}
def asL (ops : List Oper) (vs : List Value) (l : List Value) : Nat → List Value
  | 0 => l
  | i + 1 => match (ops[i]?).bind (·.dst) with
    | none => asL ops vs l i
    | some d => (asL ops vs l i).set d (vs.getD i undef)
def asA (ops : Array Oper) (a : Act) (vs : List Value) (i : Nat) : Act := ⟨(asL ops.toList vs a.tmps.toList i).toArray, a.defers⟩
theorem asA_succ {vs : List Value} {i : Nat} {o : Oper} (ho : ops[i]? = some o) : asA ops a vs (i + 1) = (asA ops a vs i).put o.dst (vs.getD i undef) := by
  have ho' : ops.toList[i]? = some o := by simpa using ho
  unfold asA
  simp only [asL, ho', Option.bind_some]
  cases o.dst with
  | none => rfl
  | some d => simp only [Act.put, List.setIfInBounds_toArray]
def trA (ops : Array Oper) (a : Act) (vs : List Value) (ws : List World) (A : World) : Trace := ⟨asA ops a vs, fun i => ws.getD i A, fun i => vs.getD i undef⟩
theorem ca_draw (G : Good P) {id : Nat} (vs : List Value) (ws : List World) (hr : rck ops = true) (h0 : ws.getD 0 A = A) (h : ∀ (i : Nat) (o : Oper), ops[i]? = some o → StepOk P (Wd P n₀) ops (trA ops a vs ws A) i o)
    (b : Act) (A' : World) (hb : asA ops a vs ops.size = b) (hA : ws.getD ops.size A = A') (k : Q .normal b A') : wpC P n₀ ro (.region id ops true) Q a A :=
  have k : Q .normal (asA ops a vs ops.size) (ws.getD ops.size A) := by rw [hb, hA]; exact k
  ⟨.normal, _, _, code_of G (c := .region id ops true) ⟨rfl, hr, trA ops a vs ws A, by simp [trA, asA, asL], h0, rfl, rfl, h⟩, k⟩
theorem sa_quiet {vs : List Value} {ws : List World} {i : Nat} {o : Oper} (ho : ops[i]? = some o) (ps : List Nat) (h : ∀ p ∈ ps, AOp P (asA ops a vs i).eval o (ws.getD p A) (.value (vs.getD i undef)) (ws.getD p A)) (hws : ws.getD (i + 1) A = ws.getD i A)
    (hps : (effs ops ++ [ops.size]).filter (mayAt ops (masks ops) i) = ps := by kernel_rfl) (hk : kindOf o.op = .quiet := by rfl) (hw : Region.wanted o (yielded ops (asA ops a vs i).tmps) = true := by kernel_rfl) : StepOk P (Wd P n₀) ops (trA ops a vs ws A) i o := by
  refine ⟨asA_succ ho, ?_⟩
  rw [if_pos (by exact hw), hk]
  refine ⟨hws, fun p hp hm => h p ?_⟩
  rw [← hps]; exact List.mem_filter.2 ⟨hp, hm⟩
theorem sa_acts {vs : List Value} {ws : List World} {i : Nat} {o : Oper} (ho : ops[i]? = some o) (h : RunOp P (Wd P n₀) o (asA ops a vs i) (ws.getD i A) (vs.getD i undef) (ws.getD (i + 1) A))
    (hk : kindOf o.op = .acts := by rfl) (hw : Region.wanted o (yielded ops (asA ops a vs i).tmps) = true := by kernel_rfl) : StepOk P (Wd P n₀) ops (trA ops a vs ws A) i o := by
  refine ⟨asA_succ ho, ?_⟩
  rw [if_pos (by exact hw), hk]; exact h
end
end Go.Abs
