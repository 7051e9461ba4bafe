/-
  ABS B10: more of a region that draws its order: operations whose guard says no; a function called by its name; a choice whose value is told.
-/
import Derived.Test.YtfkdkfleaiaoiaaB9
namespace Go.Abs
section
variable {P : Program} {n₀ : Nat} {a : Act} {A : World} {ops : Array Oper}
theorem sa_not {vs : List Value} {ws : List World} {i : Nat} {o : Oper} (ho : ops[i]? = some o) (hv : vs.getD i undef = undef) (hws : ws.getD (i + 1) A = ws.getD i A) (hw : Region.wanted o (yielded ops (asA ops a vs i).tmps) = false := by kernel_rfl) : StepOk P (Wd P n₀) ops (trA ops a vs ws A) i o := by
  refine ⟨asA_succ ho, ?_⟩
  have hw' : Region.wanted o (yielded ops ((trA ops a vs ws A).as i).tmps) = false := hw
  rw [if_neg (by rw [hw']; decide)]
  exact ⟨hws, hv⟩
theorem sa_makes {vs : List Value} {ws : List World} {i : Nat} {o : Oper} (ho : ops[i]? = some o) (obj : Obj) (hws : ws.getD (i + 1) A = (ws.getD i A).alloc obj) (hwr : wr obj = true) (hv : newVal (vs.getD i undef) (ws.getD i A).heap.size)
    (mkv : Nat → Value) (hmk : vs.getD i undef = mkv (ws.getD i A).heap.size) (hrun : ∀ w : World, RegOk P w (asA ops a vs i).eval o.op ∧ (execOp (asA ops a vs i).eval o).run P w = .ok (.value (mkv w.heap.size)) (w.alloc obj)) (ps : List Nat) (h : ∀ p ∈ ps, (ws.getD p A).heap[(ws.getD i A).heap.size]? = some obj)
    (hps : (effs ops ++ [ops.size]).filter (fun p => decide (i < p) && mayAt ops (masks ops) i p) = ps := by kernel_rfl) (hk : kindOf o.op = .makes := by rfl) (hw : Region.wanted o (yielded ops (asA ops a vs i).tmps) = true := by kernel_rfl) : StepOk P (Wd P n₀) ops (trA ops a vs ws A) i o := by
  refine ⟨asA_succ ho, ?_⟩
  rw [if_pos (by exact hw), hk]
  refine ⟨obj, hws, hwr, hv, fun w hw => ?_, fun p hp hlt hm => h p ?_⟩
  · have := hrun w
    rw [show w.heap.size = (ws.getD i A).heap.size from hw, ← hmk] at this
    exact this
  · rw [← hps]; exact List.mem_filter.2 ⟨hp, by simp [hlt, hm]⟩
theorem run_named {o : Oper} {A1 : World} {c : Call} {g : Operand} {f : FuncId} {fn : Func} {code : Code} {v : Value} {l : List Value} (H : IsFn P f fn code) (h : SndCall P n₀ f l.toArray A v A1) (hg : a.eval g = .func (.func f) #[] #[]) (hx : c.args.toList.map a.eval = l)
    (ho : o.op = .call c := by rfl) (hc : c.callee = .value g := by rfl) : RunOp P (Wd P n₀) o a A v A1 := by
  have e : c.args.map a.eval = l.toArray := by rw [← hx, ← Array.toList_map]
  have e2 : #[] ++ c.args.map a.eval ++ #[] = l.toArray := by rw [e]; simp
  exact ⟨_, _, .inr (.inr (.inr (.inl ⟨c, g, f, #[], #[], fn, code, ho, hc, hg, H.at_, H.body, H.name, rfl, rfl⟩))), e2 ▸ h⟩
theorem aop_picks {ρ : Operand → Value} {o : Oper} {c x y : Operand} {b : Bool} {v : Value} (h : o.op = .pick c x y) (hc : ρ c = .bool b) (hv : (if b then ρ x else ρ y) = v) : AOp P ρ o A (.value v) A := hv ▸ aop_pick h hc
theorem aop_lenV {ρ : Operand → Value} {o : Oper} {c : Call} {t e : TypeId} {b : Option Addr} {len cap : Nat} {v : Value} (h : o.op = .call c) (hc : c.callee = .builtin .len) (ht : c.argTypes[0]? = some t) (hu : P.underlying t = some (.slice e)) (hx : c.args.toList.map ρ = [.slice b len cap]) (hv : Value.int .i64 len = v) :
    AOp P ρ o A (.value v) A := hv ▸ aop_len h hc ht hu hx
end
end Go.Abs
