/-
  ABS 32: the commonest operations, read once and done at once.
-/
import Derived.Test.YtipomlcnmaldkaaA31
namespace Go.Abs

inductive Fast where
  | mv (x : Operand)
  | cmp (c : Nat) (x y : Operand)
  | ari (c : Nat) (x y : Operand)
  | ld (x : Operand)
  | fa (off : Nat) (x : Operand)
  | ia (size : Nat) (x i : Operand)
  | len (x : Operand)
  | pk (c a b : Operand)
  | nc (x : Operand)
  | slow

def cmpCode : BinOp → Option Nat
  | .eql => some 0 | .neq => some 1 | .lss => some 2 | .leq => some 3 | .gtr => some 4 | .geq => some 5
  | _ => none
def cmpI (c : Nat) (a b : Int) : Bool := match c with
  | 0 => decide (a = b)
  | 1 => !decide (a = b)
  | 2 => decide (a < b)
  | 3 => decide (a ≤ b)
  | 4 => decide (b < a)
  | _ => decide (b ≤ a)
section
variable (P : Program)
def fast (o : Oper) : Fast := match o.op with
  | .move x | .assign x => .mv x
  | .binOp op _ x y _ => (match cmpCode op with
    | some c => .cmp c x y
    | none => match op with
      | .add => .ari 0 x y
      | .sub => .ari 1 x y
      | _ => .slow)
  | .load t x => (match P.underlying t with
    | some (.struct _) | some (.array _ _) | none => .slow
    | _ => .ld x)
  | .fieldAddr s x k => (match P.underlying s with
    | some (.struct fs) => (match fs[k]? with
      | some f => (match P.info? f.type with
        | some i => (match i.size with | 0 => .slow | _ + 1 => .fa f.offset x)
        | none => .slow)
      | none => .slow)
    | _ => .slow)
  | .indexAddr t x i => (match P.underlying t with
    | some (.slice e) => (match P.info? e with | some ie => .ia ie.size x i | none => .slow)
    | _ => .slow)
  | .pick c a b => .pk c a b
  | .nilCheck x => .nc x
  | .call c => (match c.callee with
    | .builtin .len => (match c.argTypes[0]?, c.args.toList with
      | some t, [x] => (match P.underlying t with | some (.slice _) => .len x | _ => .slow)
      | _, _ => .slow)
    | _ => .slow)
  | _ => .slow
noncomputable def evCmp (R : Rg) (c : Nat) (x y : Operand) : Option Value := match evalT R x, evalT R y with
  | .int k a, .int k' b => (match decide (k = k') with
    | true => forceB (cmpI c a b) fun r => some (.bool r)
    | false => none)
  | _, _ => none
noncomputable def evAri (R : Rg) (c : Nat) (x y : Operand) : Option Value := match evalT R x, evalT R y with
  | .int k a, .int k' b => (match decide (k = k'), c with
    | true, 0 => forceI (k.wrap (a + b)) fun r => some (.int k r)
    | true, 1 => forceI (k.wrap (a - b)) fun r => some (.int k r)
    | _, _ => none)
  | _, _ => none
noncomputable def evLd (R : Rg) (h : Hp) (x : Operand) : Option Value := match evalT R x with
  | .pointer (some a) => h.cell a
  | _ => none
noncomputable def evFa (R : Rg) (off : Nat) (x : Operand) : Option Value := match evalT R x with
  | .pointer (some ⟨b, o, none⟩) => forceN (o + off) fun n => some (.pointer (some ⟨b, n, none⟩))
  | _ => none
noncomputable def evIa (R : Rg) (size : Nat) (x i : Operand) : Option Value := match evalT R x, evalT R i with
  | .slice (some ⟨b, o, none⟩) l _, .int _ (.ofNat n) => (match Nat.blt n l with
    | true => forceN (o + n * size) fun m => some (.pointer (some ⟨b, m, none⟩))
    | false => none)
  | _, _ => none
noncomputable def evLen (R : Rg) (x : Operand) : Option Value := match evalT R x with
  | .slice _ n _ => some (goInt n)
  | _ => none
noncomputable def evMv (R : Rg) (x : Operand) : Option Value := match x with
  | .tmp t => (match R.t.get t with
    | some v => some v
    | none => some undef)
  | x => some (evalT R x)
theorem evMv_eq (R : Rg) (x : Operand) : evMv R x = some (evalT R x) := by
  cases x with
  | tmp t =>
    simp only [evMv, evalT]
    cases R.t.get t <;> rfl
  | _ => rfl
noncomputable def evPk (R : Rg) (c a b : Operand) : Option Value := match evalT R c with
  | .bool true => evMv R a
  | .bool false => evMv R b
  | _ => none
noncomputable def evNc (R : Rg) (x : Operand) : Option Value := match evalT R x with
  | .pointer (some a) => some (.pointer (some a))
  | _ => none
noncomputable def evFast (R : Rg) (h : Hp) (F : Fast) : Option Value := match F with
  | .mv x => evMv R x
  | .cmp c x y => evCmp R c x y
  | .ari c x y => evAri R c x y
  | .ld x => evLd R h x
  | .fa off x => evFa R off x
  | .ia size x i => evIa R size x i
  | .len x => evLen R x
  | .pk c a b => evPk R c a b
  | .nc x => evNc R x
  | .slow => none
end
section
variable (P : Program)
variable {P}
theorem int_run {op : BinOp} {t : TypeId} {x y : Operand} {yt : TypeId} {ρ : Operand → Value} {o : Oper} (ho : o.op = .binOp op t x y yt) {k : IntKind} {a b : Int} (hx : ρ x = .int k a) (hy : ρ y = .int k b) {v : Value} (hv : plain v = true)
    (h : ∀ w : World, (binOp op t (.int k a) (.int k b)).run P w = .ok v w) (A : World) : AOp P ρ o A (.value v) A := by
  refine .inl ⟨v, rfl, rfl, hv, ?_, by rw [ho]; rfl, fun w => ?_⟩
  · intro z hz
    rw [ho] at hz
    simp only [Op.operands] at hz
    have hz' : z = x ∨ z = y := by simpa using hz
    rcases hz' with rfl | rfl
    · rw [hx]; rfl
    · rw [hy]; rfl
  · unfold execOp
    rw [ho]
    simp only [hx, hy]
    have e : (eqGuard op t x y (.int k a) (.int k b)).run P w = .ok () w := by
      unfold eqGuard
      split <;> rfl
    simp only [Sem.run_bind, e, h w, Result.andThen, Sem.run_pure]
theorem evFast_ok {R : Rg} {a : Act} {h : Hp} {A : World} {o : Oper} {v : Value} (ra : RepA R a) (r : Rep h A) (q : evFast R h (fast P o) = some v) : AOp P a.eval o A (.value v) A ∧ kindOf o.op ≠ .makes := by
  unfold fast at q
  split at q
  · rename_i x ho
    simp only [evFast, evMv_eq, Option.some.injEq] at q
    subst q
    rw [evalT_eq ra]
    exact ⟨.inr (.inl ⟨by rw [ho]; trivial, by unfold execOp; rw [ho]; rfl⟩), by rw [ho]; simp [kindOf]⟩
  · rename_i x ho
    simp only [evFast, evMv_eq, Option.some.injEq] at q
    subst q
    rw [evalT_eq ra]
    exact ⟨.inr (.inl ⟨by rw [ho]; trivial, by unfold execOp; rw [ho]; rfl⟩), by rw [ho]; simp [kindOf]⟩
  · rename_i op t x y yt ho
    refine ⟨?_, by rw [ho]; simp [kindOf]⟩
    split at q
    · rename_i c hc
      simp only [evFast, evCmp, evalT_eq ra] at q
      split at q
      · rename_i k m k' n hx hy
        split at q
        · rename_i hk
          simp only [decide_eq_true_eq] at hk
          subst hk
          rw [forceB_eq] at q
          cases q
          refine int_run ho hx hy rfl (fun w => ?_) A
          cases op <;> simp only [cmpCode, Option.some.injEq, reduceCtorEq] at hc <;> subst hc <;> simp [binOp, Op.intCmp, cmpI] <;> rfl
        · cases q
      · cases q
    · rename_i hc
      split at q
      · simp only [evFast, evAri, evalT_eq ra] at q
        split at q
        · rename_i k m k' n hx hy
          split at q
          · rename_i hk _
            simp only [decide_eq_true_eq] at hk
            subst hk
            rw [forceI_eq] at q
            cases q
            exact int_run ho hx hy rfl (fun w => by simp [binOp, Op.intArith]) A
          · rename_i h1; cases h1
          · cases q
        · cases q
      · simp only [evFast, evAri, evalT_eq ra] at q
        split at q
        · rename_i k m k' n hx hy
          split at q
          · rename_i h1; cases h1
          · rename_i hk _
            simp only [decide_eq_true_eq] at hk
            subst hk
            rw [forceI_eq] at q
            cases q
            exact int_run ho hx hy rfl (fun w => by simp [binOp, Op.intArith]) A
          · cases q
        · cases q
      · simp [evFast] at q
  · rename_i t x ho
    refine ⟨.inr (.inl ⟨by rw [ho]; trivial, ?_⟩), by rw [ho]; simp [kindOf]⟩
    unfold execOp
    rw [ho]
    split at q
    · simp [evFast] at q
    · simp [evFast] at q
    · simp [evFast] at q
    · rename_i h1 h2 h3
      simp only [evFast, evLd, evalT_eq ra] at q
      split at q
      · rename_i ad hx
        have q := r.cell q
        cases hu : P.underlying t with
        | none => exact absurd hu h3
        | some d =>
          have hag : (isAgg t).run P A = .ok false A := by
            unfold isAgg
            rw [Sem.run_bind, run_und t hu]
            simp only [Result.andThen]
            cases d <;> first | rfl | exact absurd hu (h1 _) | exact absurd hu (h2 _ _)
          simp only [Instr.loadAt, hx, Instr.sureAddr, loadVar, Sem.run_bind, Sem.run_pure, Result.andThen, hag]
          simp [Go.load, Sem.run, q]
      · cases q
  · rename_i s x k ho
    split at q
    · rename_i fs hu
      split at q
      · rename_i f hf
        split at q
        · rename_i i hi
          split at q
          · simp [evFast] at q
          · rename_i m hsz
            simp only [evFast, evFa, evalT_eq ra] at q
            split at q
            · rename_i b off hx
              rw [forceN_eq] at q
              cases q
              refine ⟨.inr (.inl ⟨?_, ?_⟩), by rw [ho]; simp [kindOf]⟩
              · rw [ho]
                intro fs' f' h1 h2
                rw [hu] at h1; cases h1
                rw [hf] at h2; cases h2
                rw [cellsOf_eq hi, hsz]; omega
              · unfold execOp
                rw [ho]
                simp only [Instr.fieldAt, Sem.run_bind, run_und s hu, Result.andThen, hf, hx, Instr.sureAddr, Sem.run_pure, fieldPlace, run_siz f.type hi, hsz]
                simp [Addr.add]
            · cases q
        · simp [evFast] at q
      · simp [evFast] at q
    · simp [evFast] at q
  · rename_i t x i ho
    split at q
    · rename_i e hu
      split at q
      · rename_i ie hi
        simp only [evFast, evIa, evalT_eq ra] at q
        split at q
        · rename_i b off l c k n hx hy
          split at q
          · rename_i hlt
            rw [Nat.blt_eq] at hlt
            rw [forceN_eq] at q
            cases q
            refine ⟨.inr (.inl ⟨by rw [ho]; trivial, ?_⟩), by rw [ho]; simp [kindOf]⟩
            unfold execOp
            rw [ho]
            simp only [Instr.indexAt, Sem.run_bind, hx, hy, asIntOf, Sem.run_pure, Result.andThen, run_und t hu]
            have : (0 : Int) ≤ Int.ofNat n ∧ Int.ofNat n < (l : Int) := ⟨Int.natCast_nonneg n, Int.ofNat_lt.2 hlt⟩
            rw [if_pos this]
            simp [run_siz e hi, Result.andThen, Addr.add]
          · cases q
        · cases q
      · simp [evFast] at q
    · simp [evFast] at q
  · rename_i c x y ho
    simp only [evFast, evPk, evMv_eq, evalT_eq ra] at q
    refine ⟨.inr (.inl ⟨by rw [ho]; trivial, ?_⟩), by rw [ho]; simp [kindOf]⟩
    unfold execOp
    rw [ho]
    split at q
    · rename_i hc; cases q; simp [hc, asBool]
    · rename_i hc; cases q; simp [hc, asBool]
    · cases q
  · rename_i x ho
    simp only [evFast, evNc, evalT_eq ra] at q
    refine ⟨.inr (.inl ⟨by rw [ho]; trivial, ?_⟩), by rw [ho]; simp [kindOf]⟩
    unfold execOp
    rw [ho]
    split at q
    · rename_i ad hx; cases q; simp [hx]
    · cases q
  · rename_i c ho
    split at q
    · rename_i hc
      split at q
      · rename_i t x ht hxs
        split at q
        · rename_i e hu
          simp only [evFast, evLen, evalT_eq ra] at q
          split at q
          · rename_i ad n cp hx
            cases q
            have ha : c.args = #[x] := by rw [← Array.toList_inj, hxs]
            refine ⟨.inr (.inl ⟨by rw [ho]; exact .inl hc, ?_⟩), by rw [ho]; simp [kindOf, hc]⟩
            unfold execOp
            rw [ho]
            simp only [resolve, hc, invoke, builtin, Sem.run_bind, Sem.run_pure, Result.andThen, ha]
            simp [Builtin.len_, ht, hx, Sem.run_bind, run_und t hu, Result.andThen]
          · cases q
        · simp [evFast] at q
      · simp [evFast] at q
    · simp [evFast] at q
  · simp [evFast] at q

def calm : Fast → Bool
  | .ld _ | .slow => false
  | _ => true
theorem calm_any {R : Rg} {F : Fast} (h : calm F = true) (g g' : Hp) : evFast R g F = evFast R g' F := by
  cases F <;> first | rfl | (simp [calm] at h)
variable (P)
noncomputable def sureAt (R : Rg) (v : Value) (o : Oper) (h : Hp) : Bool := match evFast R h (fast P o) with
  | some v' => beqV 4 v' v
  | none => match evValT P (evalT R) o h with
    | some v' => beqV 4 v' v
    | none => false
variable {P}
theorem sureAt_ok {R : Rg} {a : Act} {h : Hp} {A : World} {o : Oper} {v : Value} (ra : RepA R a) (r : Rep h A) (q : sureAt P R v o h = true) : AOp P a.eval o A (.value v) A := by
  unfold sureAt at q
  split at q
  · rename_i v' hv
    rw [beqV_eq q] at hv
    exact (evFast_ok ra r hv).1
  · split at q
    · rename_i v' hv
      rw [beqV_eq q, evalT_eq ra] at hv
      exact evValT_ok P r hv
    · cases q
variable (P) (E : EvT)
noncomputable def evOpF (o : Oper) (R : Rg) (h : Hp) : Option (Value × Hp) := match evFast R h (fast P o) with
  | some v => some (v, h)
  | none => match evOpT P E o R h with
    | some (v, h') => forceV 4 v fun v => some (v, h')
    | none => none
variable {P E} {L : Lvl}
theorem evOpF_ok (hE : EvTOk E L) {o : Oper} {R : Rg} {a : Act} {A : World} {h h' : Hp} {v : Value} (ra : RepA R a) (r : Rep h A) (q : evOpF P E o R h = some (v, h')) : ∃ A', RunOp P L o a A v A' ∧ Rep h' A' ∧ OpT P o a A v A' := by
  unfold evOpF at q
  split at q
  · rename_i u hu
    cases q
    obtain ⟨h1, h2⟩ := evFast_ok ra r hu
    exact ⟨A, ⟨_, _, h1, rfl, rfl⟩, r, .stay h2⟩
  · split at q
    · rename_i v1 h1 hq
      rw [forceV_eq] at q
      cases q
      exact evOpT_ok hE ra r hq
    · cases q
end
end Go.Abs
