/-
  ABS 6: what append comes to, in place and in new memory.
-/
import Derived.Test.YtipomlcnmaldkaaA5
namespace Go.Abs
section
variable {P : Program}
theorem run_ty (t : TypeId) {i : TypeInfo} (h : P.info? t = some i) (W : World) : (typeInfo t).run P W = .ok i W := by
  simp [typeInfo, program, Sem.run, h]
theorem run_und (t : TypeId) {d : TypeDesc} (h : P.underlying t = some d) (W : World) : (underlying t).run P W = .ok d W := by
  simp [underlying, program, Sem.run, h]
theorem run_siz (t : TypeId) {i : TypeInfo} (h : P.info? t = some i) (W : World) : (sizeOf t).run P W = .ok i.size W := by
  simp [sizeOf, run_ty t h]

theorem run_zero (t : TypeId) {i : TypeInfo} {z : Value} (h : P.info? t = some i) (hz : i.zero = some z) (W : World) : (zeroValue t).run P W = .ok z W := by
  simp [zeroValue, run_ty t h, hz]
/-- Is 'append' called on a 'make'? -/
def zerosOf (P : Program) (ts : Array TypeId) : Bool := match ts[1]? with
  | some xT => (match P.underlying xT with | some (.int _) => true | _ => false)
  | none => false
/-- How many elements come. -/
def appN (zeros : Bool) (bytes : Nat) (x : Value) : Option Nat :=
  match zeros, x with
  | true, .int _ n => if IntKind.i64.wrap n < 0 then none else if IntKind.i64.wrap n * bytes > 2 ^ 48 then none else some (IntKind.i64.wrap n).toNat
  | false, .slice _ n _ => some n
  | false, .string s => some s.size
  | _, _ => none
def appSrc (zeros : Bool) (elem : TypeId) (size n : Nat) (x : Value) : Sem (Array Value) :=
  if !zeros then Builtin.firstCells size n x else if n * size = 0 then pure #[] else do pure (Builtin.zeroCells (← zeroValue elem).cells n)

structure AppAt (P : Program) (ts : Array TypeId) (elem : TypeId) (ie : TypeInfo) (z : Value) : Prop where
  zero : ie.zero = some z
  ty : ∃ sT, ts[0]? = some sT ∧ P.underlying sT = some (.slice elem)
  info : P.info? elem = some ie
  ty1 : ∀ xT, ts[1]? = some xT → (∃ e, P.underlying xT = some (.slice e)) ∨ P.underlying xT = some .string ∨ ∃ k, P.underlying xT = some (.int k)

theorem append_in {ts : Array TypeId} {ty elem : TypeId} {ie : TypeInfo} {z : Value} (H : AppAt P ts elem ie z) {s x : Value} {base : Option Addr} {sLen sCap n : Nat} (hs : s = .slice base sLen sCap)
    (hn : appN (zerosOf P ts) ie.bytes x = some n) (hle : sLen + n ≤ sCap) {W W1 : World} {new : Array Value} (hsrc : (appSrc (zerosOf P ts) elem ie.size n x).run P W = .ok new W)
    (hst : (match base with | some a => storeCells (a.add (sLen * ie.size)) new.toList | none => pure ()).run P W = .ok () W1) :
    (Builtin.append_ ts ty #[s, x]).run P W = .ok (.slice base (sLen + n) sCap) W1 := by
  obtain ⟨hzv, ⟨sT, h0, hu⟩, hi, h1⟩ := H
  subst hs
  unfold Builtin.append_
  rw [h0]
  cases hx : ts[1]? with
  | none =>
    have hz : zerosOf P ts = false := by simp [zerosOf, hx]
    rw [hz] at hn hsrc
    have e2 : (Builtin.lenOf x).run P W = .ok n W := by
      cases x <;> simp [appN] at hn <;> subst hn <;> rfl
    simp only [appSrc, Bool.not_false, if_true] at hsrc
    cases base with
    | none => simp at hst; subst hst; simp [run_und sT hu, run_siz elem hi, e2, hle, hsrc]
    | some a => simp at hst; simp [run_und sT hu, run_siz elem hi, e2, hle, hsrc, hst]
  | some xT =>
    rcases h1 xT hx with ⟨e, hd⟩ | hd | ⟨kk, hd⟩
    · have hz : zerosOf P ts = false := by simp [zerosOf, hx, hd]
      rw [hz] at hn hsrc
      have e2 : (Builtin.lenOf x).run P W = .ok n W := by
        cases x <;> simp [appN] at hn <;> subst hn <;> rfl
      simp only [appSrc, Bool.not_false, if_true] at hsrc
      cases base with
      | none => simp at hst; subst hst; simp [run_und sT hu, run_und xT hd, run_siz elem hi, e2, hle, hsrc]
      | some a => simp at hst; simp [run_und sT hu, run_und xT hd, run_siz elem hi, e2, hle, hsrc, hst]
    · have hz : zerosOf P ts = false := by simp [zerosOf, hx, hd]
      rw [hz] at hn hsrc
      have e2 : (Builtin.lenOf x).run P W = .ok n W := by
        cases x <;> simp [appN] at hn <;> subst hn <;> rfl
      simp only [appSrc, Bool.not_false, if_true] at hsrc
      cases base with
      | none => simp at hst; subst hst; simp [run_und sT hu, run_und xT hd, run_siz elem hi, e2, hle, hsrc]
      | some a => simp at hst; simp [run_und sT hu, run_und xT hd, run_siz elem hi, e2, hle, hsrc, hst]
    · have hz : zerosOf P ts = true := by simp [zerosOf, hx, hd]
      rw [hz] at hn hsrc
      cases x <;> simp only [appN, reduceCtorEq] at hn
      rename_i k m
      split at hn
      · cases hn
      · split at hn
        · cases hn
        · rename_i h3 h4
          simp only [Option.some.injEq] at hn
          subst hn
          have e3 : (asInt (.int k m)).run P W = .ok m W := rfl
          simp only [appSrc, Bool.not_true, Bool.false_eq_true, if_false] at hsrc
          have h4' : ¬ 281474976710656 < IntKind.i64.wrap m * (ie.bytes : Int) := by simpa using h4
          by_cases h5 : (IntKind.i64.wrap m).toNat * ie.size = 0
          · rw [if_pos h5] at hsrc; cases hsrc
            cases base with
            | none => simp at hst; subst hst; simp [run_und sT hu, run_und xT hd, run_ty elem hi, run_siz elem hi, e3, hle, h3, h4', h5]
            | some a => simp at hst; simp [run_und sT hu, run_und xT hd, run_ty elem hi, run_siz elem hi, e3, hle, h3, h4', h5, hst]
          · rw [if_neg h5] at hsrc; simp [run_zero elem hi hzv] at hsrc; subst hsrc
            cases base with
            | none => simp at hst; subst hst; simp [run_und sT hu, run_und xT hd, run_ty elem hi, run_siz elem hi, e3, hle, h3, h4', run_zero elem hi hzv]
            | some a => simp at hst; simp [run_und sT hu, run_und xT hd, run_ty elem hi, run_siz elem hi, e3, hle, h3, h4', h5, hst, run_zero elem hi hzv]
theorem nextslicecap_le {need cap : Nat} (h : cap < need) (hn : need ≤ 2 ^ 24) : Builtin.nextslicecap need cap ≤ 2 ^ 26 := by
  unfold Builtin.nextslicecap
  split
  · omega
  · split
    · omega
    · have g : ∀ (r c : Nat), c ≤ 2 ^ 26 → Builtin.growBy need r c ≤ 2 ^ 26 := by
        intro r
        induction r with
        | zero => intro c h; exact h
        | succ r ih =>
          intro c hc
          simp only [Builtin.growBy]
          split
          · exact hc
          · exact ih _ (by omega)
      exact g 4 cap (by omega)

theorem append_new {ts : Array TypeId} {ty elem : TypeId} {ie : TypeInfo} {z : Value} (H : AppAt P ts elem ie z) {s x : Value} {base : Option Addr} {sLen sCap n : Nat} (hs : s = .slice base sLen sCap)
    (hn : appN (zerosOf P ts) ie.bytes x = some n) (hle : sCap < sLen + n) (hb1 : sLen + n ≤ 2 ^ 24) (hb2 : ie.bytes ≤ 2 ^ 16) {W : World} {old new : Array Value}
    (hold : (Builtin.firstCells ie.size sLen s).run P W.drew = .ok old W.drew) (hsrc : (appSrc (zerosOf P ts) elem ie.size n x).run P W.drew = .ok new W.drew) :
    ∃ newCap, sLen + n ≤ newCap ∧ (Builtin.append_ ts ty #[s, x]).run P W = .ok (.slice (some ⟨W.heap.size, 0, none⟩) (sLen + n) newCap) (W.drew.alloc (.cells (old ++ new ++ Builtin.zeroCells z.cells (newCap - (sLen + n))) elem)) := by
  obtain ⟨hzv, ⟨sT, h0, hu⟩, hi, h1⟩ := H
  refine ⟨(Question.appendCap (sLen + n) sCap elem).cut (W.tape W.drawn (.appendCap (sLen + n) sCap elem)), by simp [Question.cut], ?_⟩
  have hcap : Builtin.nextslicecap (sLen + n) sCap * ie.bytes ≤ 2 ^ 48 := by
    have := nextslicecap_le hle hb1
    calc _ ≤ 2 ^ 26 * 2 ^ 16 := Nat.mul_le_mul this hb2
      _ ≤ 2 ^ 48 := by decide
  have hcap' : ¬ 281474976710656 < Builtin.nextslicecap (sLen + n) sCap * ie.bytes := by omega
  have hmax : ¬ 9223372036854775807 < (sLen : Int) + (n : Int) := by omega
  have hle' : ¬ sLen + n ≤ sCap := by omega
  generalize hc : (Question.appendCap (sLen + n) sCap elem).cut (W.tape W.drawn (.appendCap (sLen + n) sCap elem)) = newCap
  have hforced : (Question.appendCap (sLen + n) sCap elem).forced = false := rfl
  have hdraw : (choose (.appendCap (sLen + n) sCap elem)).run P W = .ok newCap W.drew := by
    simp only [choose, Sem.run, hforced, Bool.false_eq_true, if_false, hc]; rfl
  have hask : ∀ m w, (askRoom m).run P w = .ok () w := by intro m w; unfold askRoom; split <;> rfl
  have hrow : ∀ c, (newRow elem c).run P W.drew = .ok ⟨W.heap.size, 0, none⟩ (W.drew.alloc (.cells c elem)) := fun c => rfl
  subst hs
  unfold Builtin.append_
  rw [h0]
  cases hx : ts[1]? with
  | none =>
    have hz : zerosOf P ts = false := by simp [zerosOf, hx]
    rw [hz] at hn hsrc
    have e2 : (Builtin.lenOf x).run P W = .ok n W := by
      cases x <;> simp [appN] at hn <;> subst hn <;> rfl
    simp only [appSrc, Bool.not_false, if_true] at hsrc
    simp [run_und sT hu, run_ty elem hi, run_siz elem hi, e2, hle', hcap', hmax, hforced, hc, hask, hold, hsrc, run_zero elem hi hzv, hrow]
  | some xT =>
    rcases h1 xT hx with ⟨e, hd⟩ | hd | ⟨kk, hd⟩
    · have hz : zerosOf P ts = false := by simp [zerosOf, hx, hd]
      rw [hz] at hn hsrc
      have e2 : (Builtin.lenOf x).run P W = .ok n W := by
        cases x <;> simp [appN] at hn <;> subst hn <;> rfl
      simp only [appSrc, Bool.not_false, if_true] at hsrc
      simp [run_und sT hu, run_und xT hd, run_ty elem hi, run_siz elem hi, e2, hle', hcap', hmax, hforced, hc, hask, hold, hsrc, run_zero elem hi hzv, hrow]
    · have hz : zerosOf P ts = false := by simp [zerosOf, hx, hd]
      rw [hz] at hn hsrc
      have e2 : (Builtin.lenOf x).run P W = .ok n W := by
        cases x <;> simp [appN] at hn <;> subst hn <;> rfl
      simp only [appSrc, Bool.not_false, if_true] at hsrc
      simp [run_und sT hu, run_und xT hd, run_ty elem hi, run_siz elem hi, e2, hle', hcap', hmax, hforced, hc, hask, hold, hsrc, run_zero elem hi hzv, hrow]
    · have hz : zerosOf P ts = true := by simp [zerosOf, hx, hd]
      rw [hz] at hn hsrc
      cases x <;> simp only [appN, reduceCtorEq] at hn
      rename_i k m
      split at hn
      · cases hn
      · split at hn
        · cases hn
        · rename_i h3 h4
          simp only [Option.some.injEq] at hn
          have e3 : (asInt (.int k m)).run P W = .ok m W := rfl
          simp only [appSrc, Bool.not_true, Bool.false_eq_true, if_false] at hsrc
          have h4' : ¬ 281474976710656 < IntKind.i64.wrap m * (ie.bytes : Int) := by simpa using h4
          have hmax' : ¬ 9223372036854775807 < (sLen : Int) + max (IntKind.i64.wrap m) 0 := by omega
          by_cases h5 : n * ie.size = 0
          · rw [if_pos h5] at hsrc; cases hsrc
            subst hn
            simp [run_und sT hu, run_und xT hd, run_ty elem hi, run_siz elem hi, e3, h3, h4', h5, hmax', hle', hcap', hforced, hc, hask, hold, run_zero elem hi hzv, hrow]
          · rw [if_neg h5] at hsrc; simp [run_zero elem hi hzv] at hsrc; subst hsrc
            subst hn
            simp [run_und sT hu, run_und xT hd, run_ty elem hi, run_siz elem hi, e3, h3, h4', h5, hmax', hle', hcap', hforced, hc, hask, hold, run_zero elem hi hzv, hrow]
end
end Go.Abs
