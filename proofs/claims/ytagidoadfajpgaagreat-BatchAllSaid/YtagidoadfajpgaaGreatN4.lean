/-
  A6.
-/
import Derived.Test.YtagidoadfajpgaaGreatN3
namespace Go.Abs
section
variable {P : Program}
theorem L1 (t : TypeId) {i : TypeInfo} (h : P.info? t = some i) (W : World) : (typeInfo t).run P W = .ok i W := by
 simp [typeInfo, program, Sem.run, h]
theorem i4 (t : TypeId) {d : TypeDesc} (h : P.underlying t = some d) (W : World) : (underlying t).run P W = .ok d W := by
 simp [underlying, program, Sem.run, h]
theorem u6 (t : TypeId) {i : TypeInfo} (h : P.info? t = some i) (W : World) : (sizeOf t).run P W = .ok i.size W := by
 simp [sizeOf, L1 t h]
theorem E0 (t : TypeId) {i : TypeInfo} {z : Value} (h : P.info? t = some i) (hz : i.zero = some z) (W : World) : (zeroValue t).run P W = .ok z W := by
 simp [zeroValue, L1 t h, hz]
def d8 (P : Program) (ts : Array TypeId) : Bool := match ts[1]? with
 | some xT => (match P.underlying xT with | some (.int _) => true | _ => false)
 | none => false
def a0u (zeros : Bool) (bytes : Nat) (x : Value) : Option Nat :=
 match zeros, x with
 | true, .int _ n => if IntKind.i64.wrap n < 0 then none else if IntKind.i64.wrap n * bytes > 2 ^ 48 then none else some (IntKind.i64.wrap n).toNat
 | false, .slice _ n _ => some n
 | false, .string s => some s.size
 | _, _ => none
def appSrc (zeros : Bool) (elem : TypeId) (size n : Nat) (x : Value) : Sem (Array Value) :=
 if !zeros then Builtin.firstCells size n x else if n * size = 0 then pure #[] else do pure (Builtin.zeroCells (<- zeroValue elem).cells n)
structure AppAt (P : Program) (ts : Array TypeId) (elem : TypeId) (ie : TypeInfo) (z : Value) : Prop where
 zero : ie.zero = some z
 ty : ∃ sT, ts[0]? = some sT /\ P.underlying sT = some (.slice elem)
 info : P.info? elem = some ie
 ty1 : ∀ xT, ts[1]? = some xT -> (∃ e, P.underlying xT = some (.slice e)) ∨ P.underlying xT = some .string ∨ ∃ k, P.underlying xT = some (.int k)
theorem U7 {ts : Array TypeId} {ty elem : TypeId} {ie : TypeInfo} {z : Value} (H : AppAt P ts elem ie z) {s x : Value} {base : Option Addr} {sLen sCap n : Nat} (hs : s = .slice base sLen sCap)
  (hn : a0u (d8 P ts) ie.bytes x = some n) (hle : sLen + n <= sCap) {W W1 : World} {new : Array Value} (hsrc : (appSrc (d8 P ts) elem ie.size n x).run P W = .ok new W)
  (hst : (match base with | some a => storeCells (a.add (sLen * ie.size)) new.toList | none => pure ()).run P W = .ok () W1) :
  (Builtin.append_ ts ty #[s, x]).run P W = .ok (.slice base (sLen + n) sCap) W1 := by
 obtain ⟨hzv, ⟨sT, h0, hu⟩, hi, h1⟩ := H
 subst hs
 unfold Builtin.append_
 rw [h0]
 cases hx : ts[1]? with
 | none =>
  have hz : d8 P ts = false := by simp [d8, hx]
  rw [hz] at hn hsrc
  have e2 : (Builtin.lenOf x).run P W = .ok n W := by
   cases x <;> simp [a0u] at hn <;> subst hn <;> rfl
  simp only [appSrc, Bool.not_false, if_true] at hsrc
  cases base with
  | none => simp at hst; subst hst; simp [i4 sT hu, u6 elem hi, e2, hle, hsrc]
  | some a => simp at hst; simp [i4 sT hu, u6 elem hi, e2, hle, hsrc, hst]
 | some xT =>
  rcases h1 xT hx with ⟨e, hd⟩ | hd | ⟨kk, hd⟩
  ·have hz : d8 P ts = false := by simp [d8, hx, hd]
   rw [hz] at hn hsrc
   have e2 : (Builtin.lenOf x).run P W = .ok n W := by
    cases x <;> simp [a0u] at hn <;> subst hn <;> rfl
   simp only [appSrc, Bool.not_false, if_true] at hsrc
   cases base with
   | none => simp at hst; subst hst; simp [i4 sT hu, i4 xT hd, u6 elem hi, e2, hle, hsrc]
   | some a => simp at hst; simp [i4 sT hu, i4 xT hd, u6 elem hi, e2, hle, hsrc, hst]
  ·have hz : d8 P ts = false := by simp [d8, hx, hd]
   rw [hz] at hn hsrc
   have e2 : (Builtin.lenOf x).run P W = .ok n W := by
    cases x <;> simp [a0u] at hn <;> subst hn <;> rfl
   simp only [appSrc, Bool.not_false, if_true] at hsrc
   cases base with
   | none => simp at hst; subst hst; simp [i4 sT hu, i4 xT hd, u6 elem hi, e2, hle, hsrc]
   | some a => simp at hst; simp [i4 sT hu, i4 xT hd, u6 elem hi, e2, hle, hsrc, hst]
  ·have hz : d8 P ts = true := by simp [d8, hx, hd]
   rw [hz] at hn hsrc
   cases x <;> simp only [a0u, reduceCtorEq] at hn
   rename_i k m
   split at hn
   ·cases hn
   ·split at hn
    ·cases hn
    ·rename_i h3 h4
     simp only [Option.some.injEq] at hn
     subst hn
     have e3 : (asInt (.int k m)).run P W = .ok m W := rfl
     simp only [appSrc, Bool.not_true, Bool.false_eq_true, if_false] at hsrc
     have h4' : ¬ 281474976710656 < IntKind.i64.wrap m * (ie.bytes : Int) := by simpa using h4
     by_cases h5 : (IntKind.i64.wrap m).toNat * ie.size = 0
     ·rw [if_pos h5] at hsrc; cases hsrc
      cases base with
      | none => simp at hst; subst hst; simp [i4 sT hu, i4 xT hd, L1 elem hi, u6 elem hi, e3, hle, h3, h4', h5]
      | some a => simp at hst; simp [i4 sT hu, i4 xT hd, L1 elem hi, u6 elem hi, e3, hle, h3, h4', h5, hst]
     ·rw [if_neg h5] at hsrc; simp [E0 elem hi hzv] at hsrc; subst hsrc
      cases base with
      | none => simp at hst; subst hst; simp [i4 sT hu, i4 xT hd, L1 elem hi, u6 elem hi, e3, hle, h3, h4', E0 elem hi hzv]
      | some a => simp at hst; simp [i4 sT hu, i4 xT hd, L1 elem hi, u6 elem hi, e3, hle, h3, h4', h5, hst, E0 elem hi hzv]
theorem a0K {need cap : Nat} (h : cap < need) (hn : need <= 2 ^ 24) : Builtin.nextslicecap need cap <= 2 ^ 26 := by
 unfold Builtin.nextslicecap
 split
 ·omega
 ·split
  ·omega
  ·have g : ∀ (r c : Nat), c <= 2 ^ 26 -> Builtin.growBy need r c <= 2 ^ 26 := by
    intro r
    induction r with
    | zero => intro c h; exact h
    | succ r ih =>
     intro c hc
     simp only [Builtin.growBy]
     split
     ·exact hc
     ·exact ih _ (by omega)
   exact g 4 cap (by omega)
theorem a7s {ts : Array TypeId} {ty elem : TypeId} {ie : TypeInfo} {z : Value} (H : AppAt P ts elem ie z) {s x : Value} {base : Option Addr} {sLen sCap n : Nat} (hs : s = .slice base sLen sCap)
  (hn : a0u (d8 P ts) ie.bytes x = some n) (hle : sCap < sLen + n) (hb1 : sLen + n <= 2 ^ 24) (hb2 : ie.bytes <= 2 ^ 16) {W : World} {old new : Array Value}
  (hold : (Builtin.firstCells ie.size sLen s).run P W.drew = .ok old W.drew) (hsrc : (appSrc (d8 P ts) elem ie.size n x).run P W.drew = .ok new W.drew) :
  ∃ newCap, sLen + n <= newCap /\ (Builtin.append_ ts ty #[s, x]).run P W = .ok (.slice (some ⟨W.heap.size, 0, none⟩) (sLen + n) newCap) (W.drew.alloc (.cells (old ++ new ++ Builtin.zeroCells z.cells (newCap - (sLen + n))) elem)) := by
 obtain ⟨hzv, ⟨sT, h0, hu⟩, hi, h1⟩ := H
 refine ⟨(Question.appendCap (sLen + n) sCap elem).cut (W.tape W.drawn (.appendCap (sLen + n) sCap elem)), by simp [Question.cut], ?_⟩
 have hcap : Builtin.nextslicecap (sLen + n) sCap * ie.bytes <= 2 ^ 48 := by
  have := a0K hle hb1
  calc _ <= 2 ^ 26 * 2 ^ 16 := Nat.mul_le_mul this hb2
   _ <= 2 ^ 48 := by decide
 have hcap' : ¬ 281474976710656 < Builtin.nextslicecap (sLen + n) sCap * ie.bytes := by omega
 have hmax : ¬ 9223372036854775807 < (sLen : Int) + (n : Int) := by omega
 have hle' : ¬ sLen + n <= sCap := by omega
 generalize hc : (Question.appendCap (sLen + n) sCap elem).cut (W.tape W.drawn (.appendCap (sLen + n) sCap elem)) = newCap
 have hforced : (Question.appendCap (sLen + n) sCap elem).forced = false := rfl
 have hdraw : (choose (.appendCap (sLen + n) sCap elem)).run P W = .ok newCap W.drew := by
  simp only [choose, Sem.run, hforced, Bool.false_eq_true, if_false, hc]; rfl
 have hask : ∀ m w, (askRoom m).run P w = .ok () w := by intro m w; unfold askRoom; split <;> rfl
 have hrow : ∀ c, (newRow elem c).run P W.drew = .ok ⟨W.heap.size, 0, none⟩ (W.drew.alloc (.cells c elem)) := fun c => rfl
 subst hs
 unfold Builtin.append_
 rw [h0]
 cases hx : ts[1]? with
 | none =>
  have hz : d8 P ts = false := by simp [d8, hx]
  rw [hz] at hn hsrc
  have e2 : (Builtin.lenOf x).run P W = .ok n W := by
   cases x <;> simp [a0u] at hn <;> subst hn <;> rfl
  simp only [appSrc, Bool.not_false, if_true] at hsrc
  simp [i4 sT hu, L1 elem hi, u6 elem hi, e2, hle', hcap', hmax, hforced, hc, hask, hold, hsrc, E0 elem hi hzv, hrow]
 | some xT =>
  rcases h1 xT hx with ⟨e, hd⟩ | hd | ⟨kk, hd⟩
  ·have hz : d8 P ts = false := by simp [d8, hx, hd]
   rw [hz] at hn hsrc
   have e2 : (Builtin.lenOf x).run P W = .ok n W := by
    cases x <;> simp [a0u] at hn <;> subst hn <;> rfl
   simp only [appSrc, Bool.not_false, if_true] at hsrc
   simp [i4 sT hu, i4 xT hd, L1 elem hi, u6 elem hi, e2, hle', hcap', hmax, hforced, hc, hask, hold, hsrc, E0 elem hi hzv, hrow]
  ·have hz : d8 P ts = false := by simp [d8, hx, hd]
   rw [hz] at hn hsrc
   have e2 : (Builtin.lenOf x).run P W = .ok n W := by
    cases x <;> simp [a0u] at hn <;> subst hn <;> rfl
   simp only [appSrc, Bool.not_false, if_true] at hsrc
   simp [i4 sT hu, i4 xT hd, L1 elem hi, u6 elem hi, e2, hle', hcap', hmax, hforced, hc, hask, hold, hsrc, E0 elem hi hzv, hrow]
  ·have hz : d8 P ts = true := by simp [d8, hx, hd]
   rw [hz] at hn hsrc
   cases x <;> simp only [a0u, reduceCtorEq] at hn
   rename_i k m
   split at hn
   ·cases hn
   ·split at hn
    ·cases hn
    ·rename_i h3 h4
     simp only [Option.some.injEq] at hn
     have e3 : (asInt (.int k m)).run P W = .ok m W := rfl
     simp only [appSrc, Bool.not_true, Bool.false_eq_true, if_false] at hsrc
     have h4' : ¬ 281474976710656 < IntKind.i64.wrap m * (ie.bytes : Int) := by simpa using h4
     have hmax' : ¬ 9223372036854775807 < (sLen : Int) + max (IntKind.i64.wrap m) 0 := by omega
     by_cases h5 : n * ie.size = 0
     ·rw [if_pos h5] at hsrc; cases hsrc
      subst hn
      simp [i4 sT hu, i4 xT hd, L1 elem hi, u6 elem hi, e3, h3, h4', h5, hmax', hle', hcap', hforced, hc, hask, hold, E0 elem hi hzv, hrow]
     ·rw [if_neg h5] at hsrc; simp [E0 elem hi hzv] at hsrc; subst hsrc
      subst hn
      simp [i4 sT hu, i4 xT hd, L1 elem hi, u6 elem hi, e3, h3, h4', h5, hmax', hle', hcap', hforced, hc, hask, hold, E0 elem hi hzv, hrow]
end
end Go.Abs
namespace Go.Abs
section
variable {P : Program} {nO : Nat} {ι ι' : Ren} {A A' W W' : World}
theorem Sim.heap (S : Sim P nO ι A W) (h : W'.heap = W.heap) : Sim P nO ι A W' where
 obj b e o hb ho := by
  have := S.obj b e o hb ho
  cases o with
  | cells c t fz => simp only [a7G, h] at this ⊢; exact this
  | _ => simp only [a7G, h] at this ⊢; exact this
 inj := S.inj
 dom b e hb := by rw [h]; exact S.dom b e hb
 lo := by rw [h]; exact S.lo
theorem Moves.drew : Moves P ι A W ι A W.drew :=
 ⟨.refl ι, fun b e h h' => by rw [h] at h'; (cases h'), fun _ _ _ => rfl, fun k e o h h' hw _ => ⟨k, e, o, h, h', hw, rfl⟩, fun k e h h' => by rw [h] at h'; (cases h'), Nat.le_refl _, Nat.le_refl _, rfl, rfl, rfl⟩
def kill (A : World) (b : Nat) (t : TypeId) : World := { A with heap := A.heap.setIfInBounds b (.cells #[] t (2, 0)) }
theorem a9x {b : Nat} {t : TypeId} (h : b < A.heap.size) : (kill A b t).heap[b]? = some (.cells #[] t (2, 0)) := by simp [kill, h]
theorem a4O {b k : Nat} {t : TypeId} (h : k ≠ b) : (kill A b t).heap[k]? = A.heap[k]? := by
 simp only [kill]; exact Array.getElem?_setIfInBounds_ne (fun e => h e.symm)
@[simp] theorem a3F (b : Nat) (t : TypeId) : (kill A b t).heap.size = A.heap.size := by simp [kill]
theorem j8 {b k : Nat} {t : TypeId} {o : Obj} (h : (kill A b t).heap[k]? = some o) : (k ≠ b /\ A.heap[k]? = some o) ∨ (k = b /\ o = .cells #[] t (2, 0)) := by
 by_cases e : k = b
 ·subst e
  have hlt : k < A.heap.size := by have := (Array.getElem?_eq_some_iff.1 h).1; simpa using this
  rw [a9x hlt] at h; cases h; exact .inr ⟨rfl, rfl⟩
 ·rw [a4O e] at h; exact .inl ⟨e, h⟩
theorem Sim.kill (S : Sim P nO ι A W) (b : Nat) (t : TypeId) : Sim P nO ι (Abs.kill A b t) W where
 obj k e o hk ho := by
  rcases j8 ho with ⟨_, h⟩ | ⟨rfl, rfl⟩
  ·exact S.obj k e o hk h
  ·exact .inl ⟨rfl, rfl⟩
 inj k k' e e' o o' hk hk' ho ho' hw ha hb := by
  rcases j8 ho with ⟨_, h⟩ | ⟨rfl, rfl⟩
  ·rcases j8 ho' with ⟨_, h'⟩ | ⟨rfl, rfl⟩
   ·exact S.inj k k' e e' o o' hk hk' h h' hw ha hb
   ·simp [alive] at ha
  ·simp [wr] at hw
 dom := S.dom
 lo := S.lo
theorem Moves.kill {b : Nat} {t : TypeId} : Moves P ι A W ι (Abs.kill A b t) W where
 le := .refl ι
 news b e h h' := by rw [h] at h'; cases h'
 keep _ _ _ := rfl
 img k e o hk ho hw _ := by
  rcases j8 ho with ⟨_, h⟩ | ⟨rfl, rfl⟩
  ·exact ⟨k, e, o, hk, h, hw, rfl⟩
  ·simp [wr] at hw
 fresh k e h h' := by rw [h] at h'; cases h'
 asz := by simp
 wsz := Nat.le_refl _
 os := rfl
 tape := rfl
 output := rfl
def a20 : Array Value -> Nat -> List Value -> Array Value
 | c, _, [] => c
 | c, p, v :: vs => a20 (c.setIfInBounds p v) (p + 1) vs
theorem y6 : ∀ (vs : List Value) (c : Array Value) (p : Nat), (a20 c p vs).size = c.size
 | [], _, _ => rfl
 | v :: vs, c, p => by simp [a20, y6 vs]
theorem W6 : ∀ (vs : List Value) (c : Array Value) (p j : Nat), p + vs.length <= c.size -> (a20 c p vs)[j]? = if p <= j /\ j < p + vs.length then vs[j - p]? else c[j]?
 | [], c, p, j, _ => by simp only [a20, List.length_nil]; rw [if_neg (by omega)]
 | v :: vs, c, p, j, h => by
  simp only [List.length_cons] at h ⊢
  rw [a20, W6 vs _ _ j (by simp; omega)]
  by_cases h1 : j = p
  ·subst h1
   rw [if_neg (by omega), if_pos (by omega), Array.getElem?_setIfInBounds_self_of_lt (by omega)]
   simp
  ·by_cases h2 : p <= j /\ j < p + (vs.length + 1)
   ·rw [if_pos (by omega), if_pos h2]
    have : j - p = (j - (p + 1)) + 1 := by omega
    rw [this]; rfl
   ·rw [if_neg (by omega), if_neg h2, Array.getElem?_setIfInBounds_ne (by omega)]
theorem a8e {w : World} {b p : Nat} {v u : Value} {c : Array Value} {t : TypeId} {fz : Nat × Nat} (hb : w.heap[b]? = some (.cells c t fz)) (hfz : ¬ fz.1 < fz.2) (hp : c[p]? = some u) (hv : isOne v = true) :
  (store ⟨b, p, none⟩ v).run P w = .ok () { w with heap := w.heap.setIfInBounds b (.cells (c.setIfInBounds p v) t fz) } := by
 have hc : w.cell? ⟨b, p, none⟩ = some u := by simp [World.cell?, hb, hp]
 have hf : w.frozen? ⟨b, p, none⟩ = false := by simp only [World.frozen?, hb]; simp; omega
 have hm : w.setCell ⟨b, p, none⟩ v = { w with heap := w.heap.setIfInBounds b (.cells (c.setIfInBounds p v) t fz) } := by
  simp only [World.setCell]
  congr 1
  apply Array.ext (by simp)
  intro i h1 h2
  have e := (Array.getElem?_eq_some_iff.1 hb).2
  by_cases hi : b = i
  ·subst hi; simp [Array.getElem_modify, e]
  ·rw [Array.getElem_modify, if_neg hi, Array.getElem_setIfInBounds_ne _ hi]
 rw [<- hm]
 cases v <;> simp [isOne] at hv <;> simp [store, Sem.run, hc, hf]
theorem O8 {b : Nat} {t : TypeId} {fz : Nat × Nat} (hfz : ¬ fz.1 < fz.2) : ∀ (vs : List Value) (w : World) (p i : Nat) (c : Array Value), w.heap[b]? = some (.cells c t fz) -> (∀ v ∈ vs, isOne v = true) -> p + i + vs.length <= c.size ->
  (storeCells ⟨b, p, none⟩ vs i).run P w = .ok () { w with heap := w.heap.setIfInBounds b (.cells (a20 c (p + i) vs) t fz) }
 | [], w, p, i, c, hb, _, _ => by
  have hlt : b < w.heap.size := (Array.getElem?_eq_some_iff.1 hb).1
  have e := (Array.getElem?_eq_some_iff.1 hb).2
  have : w.heap.setIfInBounds b (.cells c t fz) = w.heap := by
   apply Array.ext (by simp)
   intro j h1 h2
   by_cases hi : b = j
   ·subst hi; simp [e]
   ·rw [Array.getElem_setIfInBounds_ne _ hi]
  simp only [a20, this]; rfl
 | v :: vs, w, p, i, c, hb, hv, hl => by
  simp only [List.length_cons] at hl
  have hlt : b < w.heap.size := (Array.getElem?_eq_some_iff.1 hb).1
  have hp : c[p + i]? = some c[p + i] := Array.getElem?_eq_getElem (by omega)
  have ea : (⟨b, p, none⟩ : Addr).add i = ⟨b, p + i, none⟩ := by unfold Addr.add; split <;> simp_all
  simp only [storeCells, Sem.run_bind, ea, a8e hb hfz hp (hv v (by simp)), Result.andThen]
  rw [O8 (t := t) hfz vs _ p (i + 1) (c.setIfInBounds (p + i) v) (by simp [hlt]) (fun x hx => hv x (by simp [hx])) (by simp; omega)]
  simp only [a20, Array.setIfInBounds_setIfInBounds]
  rw [Nat.add_assoc p i 1]
theorem w9 (a : Addr) : ∀ (n i : Nat) (acc : Array Value) (w : World) (r : Array Value) (w' : World), (loadCellsFrom a i n acc).run P w = .ok r w' -> w' = w
 | 0, i, acc, w, r, w', h => by cases h; rfl
 | n + 1, i, acc, w, r, w', h => by
  simp only [loadCellsFrom, Sem.run_bind] at h
  cases h1 : (load (a.add i)).run P w with
  | halt q u => rw [h1] at h; cases h
  | ok v u =>
   rw [h1] at h
   have hu : u = w := by
    simp only [load, Sem.run] at h1
    split at h1
    ·cases h1; rfl
    ·split at h1
     ·cases h1; rfl
     ·cases h1
   subst hu
   exact w9 a n (i + 1) _ u r w' h
theorem K0 {size n : Nat} {x : Value} {w w' : World} {r : Array Value} (h : (Builtin.firstCells size n x).run P w = .ok r w') : w' = w := by
 cases x with
 | slice a l c =>
  cases a with
  | none => cases h; rfl
  | some a => exact w9 a _ _ _ _ _ _ h
 | string s => cases h; rfl
 | _ => cases h
theorem M0 {zeros : Bool} {elem : TypeId} {size n : Nat} {x : Value} {w w' : World} {r : Array Value} (h : (appSrc zeros elem size n x).run P w = .ok r w') : w' = w := by
 unfold appSrc at h
 split at h
 ·exact K0 h
 ·split at h
  ·cases h; rfl
  ·simp only [zeroValue, typeInfo, program, Sem.run_bind, Sem.run, Result.andThen] at h
   cases hi : P.info? elem with
   | none => rw [hi] at h; cases h
   | some i =>
    rw [hi] at h
    simp only [Sem.run_pure] at h
    cases hz : i.zero with
    | none => rw [hz] at h; cases h
    | some z => rw [hz] at h; cases h; rfl
theorem RS.appSrc (G : Good P) (zeros : Bool) (elem : TypeId) (size n bytes : Nat) {x x' : Value} (h : VRel P ι x x') (hn : a0u zeros bytes x = some n) : RS P nO ι (Vs P) (Abs.appSrc zeros elem size n x) (Abs.appSrc zeros elem size n x') := by
 unfold Abs.appSrc
 cases zeros with
 | false =>
  simp only [Bool.not_false, if_true]
  refine RS.firstCells size n h fun a l c e => ?_
  subst e
  simp only [a0u, Option.some.injEq] at hn
  omega
 | true =>
  simp only [Bool.not_true, Bool.false_eq_true, if_false]
  split
  ·exact .pure .empty
  ·refine (RS.zeroValue G elem).bind fun ι1 l1 z z' ⟨hz, hzz⟩ => ?_
   subst hz
   exact .pure (Vs.map _ _ _ fun i _ => (hzz ι1).cells.bang _)
theorem a6B {zeros : Bool} {bytes n : Nat} {x x' : Value} (h : VRel P ι x x') (hn : a0u zeros bytes x = some n) : a0u zeros bytes x' = some n := by
 cases h with
 | slice0 l c => exact hn
 | slice h =>
  cases zeros with
  | true => simp [a0u] at hn
  | false => exact hn
 | int k m => exact hn
 | string s => exact hn
 | _ => cases zeros <;> simp [a0u] at hn
def b4m (P : Program) (ts : Array TypeId) (elem : TypeId) (ie : TypeInfo) (s x : Value) (base : Option Addr) (sLen n : Nat) (A : World) (v : Value) (A' : World) : Prop :=
 ∃ old new, (Builtin.firstCells ie.size sLen s).run P A = .ok old A /\ (appSrc (d8 P ts) elem ie.size n x).run P A = .ok new A /\ v = .slice (some ⟨A.heap.size, 0, none⟩) (sLen + n) (sLen + n) /\
  old.size = sLen * ie.size /\ new.size = n * ie.size /\ new.toList.all isOne = true /\
  ((A' = A.alloc (.cells (old ++ new) elem (1, 0)) /\ ∀ a, base = some a -> ∃ c t fz, A.heap[a.block]? = some (.cells c t fz) /\ fz ≠ (2, 0) /\ fz ≠ (1, 0)) ∨
   (∃ a c, base = some a /\ A.heap[a.block]? = some (.cells c elem (1, 0)) /\ 0 < sLen /\ A' = (kill A a.block elem).alloc (.cells (old ++ new) elem (1, 0))))
def b7R (P : Program) (ts : Array TypeId) (elem : TypeId) (ie : TypeInfo) (x : Value) (base : Option Addr) (sLen sCap n : Nat) (A : World) (v : Value) (A' : World) : Prop :=
 ∃ new, (appSrc (d8 P ts) elem ie.size n x).run P A = .ok new A /\ (match base with | some a => storeCells (a.add (sLen * ie.size)) new.toList | none => pure ()).run P A = .ok () A' /\ v = .slice base (sLen + n) sCap
def b8H (P : Program) (ts : Array TypeId) (xs : Array Value) (A : World) (v : Value) (A' : World) : Prop :=
 ∃ elem ie z base sLen sCap x n, AppAt P ts elem ie z /\ xs = #[.slice base sLen sCap, x] /\ a0u (d8 P ts) ie.bytes x = some n /\
  ((sLen + n <= sCap /\ b7R P ts elem ie x base sLen sCap n A v A') ∨
   (sCap < sLen + n /\ sLen <= sCap /\ sLen + n <= 2 ^ 24 /\ ie.bytes <= 2 ^ 16 /\ z.cells.size = ie.size /\ b4m P ts elem ie (.slice base sLen sCap) x base sLen n A v A'))
theorem a2a (G : Good P) {ts : Array TypeId} {ty elem : TypeId} {ie : TypeInfo} {z : Value} (H : AppAt P ts elem ie z) {base : Option Addr} {sLen sCap n : Nat} {s' x x' v : Value}
  (hs : VRel P ι (.slice base sLen sCap) s') (hx : VRel P ι x x') (hn : a0u (d8 P ts) ie.bytes x = some n) (hle : sLen + n <= sCap) (S : Sim P nO ι A W)
  (h : b7R P ts elem ie x base sLen sCap n A v A') (hfree : ∀ b, A.heap.size <= b -> b < A'.heap.size -> ι b = none) :
  ∃ ι' v' W', (Builtin.append_ ts ty #[s', x']).run P W = .ok v' W' /\ Sim P nO ι' A' W' /\ Moves P ι A W ι' A' W' /\ VRel P ι' v v' := by
 obtain ⟨new, h1, h2, rfl⟩ := h
 obtain ⟨ι1, new', W1, r1, S1, M1, R1⟩ := RS.appSrc G (d8 P ts) elem ie.size n ie.bytes hx hn A W new A S h1 (fun b p q => by omega)
 have := M0 r1
 subst this
 have hn' := a6B hx hn
 cases hs with
 | slice0 l c =>
  simp at h2; subst h2
  exact ⟨ι1, _, W1, U7 H rfl hn' hle r1 rfl, S1, M1, .slice0 _ _⟩
 | slice hr =>
  rename_i a a' c'
  have hcap := hr.cap_le
  rcases hr with ⟨ha, hc⟩ | ⟨e1, e2, e3, e, g, e4, e5⟩
  ·obtain ⟨ι2, _, W2, r2, S2, M2, _⟩ := RS.storeCells (nO := nO) ((ha.mono M1.le).add (sLen * ie.size)) 0 R1.toList A W1 () A' S1 h2 (fun b p q => by
    cases hb : ι1 b with
    | none => rfl
    | some e => have := M1.news b e (hfree b p q) hb; omega)
   refine ⟨ι2, .slice (some a') (sLen + n) c', W2, U7 H rfl hn' (by omega) r1 r2, S2, M1.trans M2, .slice (.inl ⟨(ha.mono M1.le).mono M2.le, ?_⟩)⟩
   rcases hc with hc | ⟨e, t, N, q1, q2, q3, q4⟩
   ·exact .inl hc
   ·exact .inr ⟨e, t, N, M2.le _ _ (M1.le _ _ q1), q2, q3, q4⟩
  ·have hn0 : n = 0 := by omega
   subst hn0
   have hnew : new = #[] /\ new' = #[] := by
    have hz : ∀ {y : Value} {w w' : World} {r : Array Value}, (appSrc (d8 P ts) elem ie.size 0 y).run P w = .ok r w' -> r = #[] := by
     intro y w w' r h
     unfold appSrc at h
     split at h
     ·cases y with
      | slice a l c => cases a <;> simp only [Builtin.firstCells, Nat.zero_mul] at h <;> cases h <;> rfl
      | string s => simp [Builtin.firstCells] at h; simpa using h.1.symm
      | _ => cases h
     ·simp at h; exact h.1.symm ▸ rfl
    exact ⟨hz h1, hz r1⟩
   obtain ⟨rfl, rfl⟩ := hnew
   cases h2
   refine ⟨ι1, .slice (some a') (sLen + 0) c', W1, U7 H rfl hn' (by omega) r1 rfl, S1, M1, .slice (.inr ⟨by omega, e2, e3, e, g, M1.le _ _ e4, e5⟩)⟩
theorem R8 {b : Nat} {c : Array Value} {t : TypeId} {fz : Nat × Nat} {w : World} (hb : w.heap[b]? = some (.cells c t fz)) : ∀ (n o i : Nat) (acc r : Array Value) (w' : World),
  (loadCellsFrom ⟨b, o, none⟩ i n acc).run P w = .ok r w' -> r.size = acc.size + n /\ ∀ j, r[j]? = if j < acc.size then acc[j]? else if j < acc.size + n then c[o + i + (j - acc.size)]? else none
 | 0, o, i, acc, r, w', h => by
  cases h
  refine ⟨rfl, fun j => ?_⟩
  split
  ·rfl
  ·rw [if_neg (by omega)]; simp; omega
 | n + 1, o, i, acc, r, w', h => by
  have ea : (⟨b, o, none⟩ : Addr).add i = ⟨b, o + i, none⟩ := by unfold Addr.add; split <;> simp_all
  simp only [loadCellsFrom, Sem.run_bind, ea] at h
  have hl : ∀ v u, (load ⟨b, o + i, none⟩).run P w = .ok v u -> c[o + i]? = some v /\ u = w := by
   intro v u h
   simp only [load, Sem.run, World.cell?, hb] at h
   cases hc : c[o + i]? with
   | none => simp [hc, World.farLoad, hb] at h
   | some x => simp [hc] at h; exact ⟨by rw [h.1], h.2.symm⟩
  cases h1 : (load ⟨b, o + i, none⟩).run P w with
  | halt q u => rw [h1] at h; cases h
  | ok v u =>
   rw [h1] at h
   obtain ⟨hv, rfl⟩ := hl v u h1
   obtain ⟨h2, h3⟩ := R8 hb n o (i + 1) _ r w' h
   simp only [Array.size_push] at h2 h3
   refine ⟨by omega, fun j => ?_⟩
   rw [h3 j]
   by_cases c1 : j < acc.size
   ·rw [if_pos (by omega), if_pos c1, Array.getElem?_push, if_neg (by omega)]
   ·by_cases c2 : j = acc.size
    ·subst c2
     rw [if_pos (by omega), if_neg c1, if_pos (by omega), Array.getElem?_push, if_pos rfl, <- hv]
     simp
    ·rw [if_neg (by omega), if_neg c1]
     by_cases c3 : j < acc.size + 1 + n
     ·rw [if_pos c3, if_pos (by omega)]
      congr 1; omega
     ·rw [if_neg c3, if_neg (by omega)]
theorem a7p {t : TypeId} {i : TypeInfo} (h : P.info? t = some i) : P.cellsOf t = i.size := by simp [Program.cellsOf, h]
theorem a1p (G : Good P) {ts : Array TypeId} {ty elem : TypeId} {ie : TypeInfo} {z : Value} (H : AppAt P ts elem ie z) (hzs : z.cells.size = ie.size) {base : Option Addr} {sLen sCap n : Nat} {s' x x' v : Value}
  (hs : VRel P ι (.slice base sLen sCap) s') (hx : VRel P ι x x') (hn : a0u (d8 P ts) ie.bytes x = some n) (hgt : sCap < sLen + n) (_ : sLen <= sCap) (hb1 : sLen + n <= 2 ^ 24) (hb2 : ie.bytes <= 2 ^ 16) (S : Sim P nO ι A W)
  (h : b4m P ts elem ie (.slice base sLen sCap) x base sLen n A v A') (hfree : ∀ b, A.heap.size <= b -> b < A'.heap.size -> ι b = none) :
  ∃ ι' v' W', (Builtin.append_ ts ty #[s', x']).run P W = .ok v' W' /\ Sim P nO ι' A' W' /\ Moves P ι A W ι' A' W' /\ VRel P ι' v v' := by
 obtain ⟨old, new, h1, h2, rfl, hos, hns, hone, hA⟩ := h
 have hn' := a6B hx hn
 have hsz := a7p H.info
 have hfr : ι A.heap.size = none := by
  refine hfree _ (Nat.le_refl _) ?_
  rcases hA with ⟨rfl, _⟩ | ⟨a, c, _, _, _, rfl⟩ <;> simp
 have S0 : Sim P nO ι A W.drew := S.heap rfl
 have nofree : ∀ {κ : Ren}, ∀ b, A.heap.size <= b -> b < A.heap.size -> κ b = none := fun b p q => by omega
 obtain ⟨ι1, old', W1, r1, _, M1, R1⟩ := RS.firstCells (nO := nO) ie.size sLen hs (fun a l c e => by cases e; exact Nat.le_refl _) A W.drew old A S0 h1 nofree
 have := K0 r1
 subst this
 obtain ⟨ι2, new', W1, r2, _, M2, R2⟩ := RS.appSrc (nO := nO) G (d8 P ts) elem ie.size n ie.bytes hx hn A W.drew new A S0 h2 nofree
 have := M0 r2
 subst this
 have old1 : ∀ {κ : Ren}, Moves P ι A W.drew κ A W.drew -> κ.le ι := fun {κ} M b e hb => by
  cases h : ι b with
  | none => have := M.news b e h hb; omega
  | some e' => have := M.le b e' h; rw [hb] at this; cases this; rfl
 have R1 : Vs P ι old old' := R1.mono (old1 M1)
 have R2 : Vs P ι new new' := R2.mono (old1 M2)
 have hos' : old'.size = sLen * ie.size := by rw [<- R1.1, hos]
 have hns' : new'.size = n * ie.size := by rw [<- R2.1, hns]
 have fresh : ∀ (A1 : World) (base' : Option Addr) (cap' : Nat), A1.heap.size = A.heap.size -> Sim P nO ι A1 W -> Moves P ι A W ι A1 W -> s' = .slice base' sLen cap' -> cap' < sLen + n ->
   ∃ ι' v' W', (Builtin.append_ ts ty #[s', x']).run P W = .ok v' W' /\ Sim P nO ι' (A1.alloc (.cells (old ++ new) elem (1, 0))) W' /\ Moves P ι A W ι' (A1.alloc (.cells (old ++ new) elem (1, 0))) W' /\ VRel P ι' (.slice (some ⟨A.heap.size, 0, none⟩) (sLen + n) (sLen + n)) v' := by
  intro A1 base' cap' hsz1 SA MA hs' hc'
  obtain ⟨newCap, hcap, hrun⟩ := a7s H (s := s') (ty := ty) hs' hn' hc' hb1 hb2 r1 r2
  have hN : (old' ++ new' ++ Builtin.zeroCells z.cells (newCap - (sLen + n))).size = newCap * ie.size := by
   simp only [Array.size_append, hos', hns', Builtin.zeroCells, Array.size_map, Array.size_range, hzs]
   rw [<- Nat.add_mul, <- Nat.add_mul]; congr 1; omega
  have SA' : Sim P nO ι A1 W.drew := SA.heap rfl
  have hfr1 : ι A1.heap.size = none := by rw [hsz1]; exact hfr
  refine ⟨ι.put A1.heap.size ⟨W.heap.size, 0, some (elem, newCap * ie.size)⟩, _, _, hrun, SA'.alloc hfr1 rfl ?_, (MA.trans .drew).trans (.alloc hfr1 rfl), ?_⟩
  ·refine .inr ⟨_, elem, (0, 0), i8 _ _, ?_, .inr (.inl rfl), fun _ => ⟨S.lo, by simp⟩, fun _ => by rw [hN], fun h => absurd rfl h⟩
   intro i y hy
   have hi : i < (old ++ new).size := (Array.getElem?_eq_some_iff.1 hy).1
   obtain ⟨y', p, q⟩ := (R1.append R2).at hy
   refine ⟨y', ?_, q.mono (Ren.le_put _ hfr1)⟩
   have : i < (old' ++ new').size := (Array.getElem?_eq_some_iff.1 p).1
   rw [Nat.add_zero, Array.getElem?_append, if_pos this]
   exact p
  ·refine .slice (.inl ⟨⟨rfl, rfl, _, by rw [<- hsz1]; exact Ren.put_self _ _ _, rfl, rfl⟩, .inr ⟨_, elem, newCap * ie.size, by rw [<- hsz1]; exact Ren.put_self _ _ _, rfl, hcap, ?_⟩⟩)
   rw [hsz, Nat.zero_add]; exact Nat.le_refl _
 rcases hA with ⟨rfl, hbase⟩ | ⟨a, c, rfl, hac, hpos, rfl⟩
 ·-- the capacity is the same on both sides
  have hcap : ∃ base' , s' = .slice base' sLen sCap := by
   cases hs with
   | slice0 l c => exact ⟨_, rfl⟩
   | slice hr =>
    rename_i a a' c'
    obtain ⟨c, t, fz, q1, q2, q3⟩ := hbase a rfl
    have nog : ∀ e, ι a.block = some e -> e.gr = none := fun e he => by
     have R := S.obj _ _ _ he q1
     rcases R with ⟨h, _⟩ | ⟨_, _, _, _, _, _, _, _, hh⟩
     ·exact absurd h q2
     ·exact hh q3
    rcases hr with ⟨_, rfl | ⟨e, t, N, p1, p2, _⟩⟩ | ⟨_, _, _, e, g, p1, p2⟩
    ·exact ⟨_, rfl⟩
    ·rw [nog e p1] at p2; cases p2
    ·rw [nog e p1] at p2; cases p2
  obtain ⟨base', hs'⟩ := hcap
  exact fresh A base' sCap rfl S .refl hs' hgt
 ·cases hs with
  | slice hr =>
   rename_i a' c'
   by_cases hc' : c' < sLen + n
   ·exact fresh (kill A a.block elem) (some a') c' (by simp) (S.kill _ _) .kill rfl hc'
   ·rcases hr with ⟨ha, hc⟩ | ⟨p1, _⟩
    ·rcases hc with rfl | ⟨e, t, N, p1, p2, p3, p4⟩
     ·omega
     ·-- there is room behind it on the other side
      obtain ⟨ha1, ha2, e', ha3, ha4, ha5⟩ := ha
      rw [p1] at ha3; cases ha3
      have R := S.obj _ _ _ p1 hac
      rcases R with ⟨h, _⟩ | ⟨cc, t', fz', q1, q2, q3, q4, q5, q6⟩
      ·simp at h
      ·obtain ⟨q7, q8⟩ := q4 (by simp)
       have hgr := q5 rfl
       rw [p2] at hgr; cases hgr
       rw [hsz] at p4
       obtain ⟨ab, ao, asp⟩ := a
       obtain ⟨ab', ao', asp'⟩ := a'
       simp only at ha1 ha2 ha4 ha5 p1 hac p4 ⊢
       subst ha1; subst ha2; subst ha4; subst ha5
       have hlt : e.blk < W.heap.size := S.dom _ _ p1
       have hltA : ab < A.heap.size := (Array.getElem?_eq_some_iff.1 hac).1
       have hroom : ao + e.sh + (sLen + n) * ie.size <= cc.size := Nat.le_trans (Nat.add_le_add_left (Nat.mul_le_mul_right _ (by omega)) _) p4
       rw [Nat.add_mul] at hroom
       obtain ⟨ι3, nn, W3, r3, _, M3, R3⟩ := RS.appSrc (nO := nO) G (d8 P ts) elem ie.size n ie.bytes hx hn A W new A S h2 nofree
       have := M0 r3
       subst this
       have R3 : Vs P ι new nn := R3.mono (fun b e hb => by
        cases h : ι b with
        | none => have := M3.news b e h hb; omega
        | some e' => have := M3.le b e' h; rw [hb] at this; cases this; rfl)
       have hnn : nn.size = n * ie.size := by rw [<- R3.1, hns]
       have hone' : ∀ v ∈ nn.toList, isOne v = true := by
        intro v hv
        obtain ⟨i, hi⟩ := List.mem_iff_getElem?.1 hv
        have hi' : nn[i]? = some v := by simpa using hi
        have hlt' : i < nn.size := (Array.getElem?_eq_some_iff.1 hi').1
        have hx := R3.2 i _ _ (Array.getElem?_eq_getElem (R3.1 ▸ hlt')) hi'
        rw [hx.isOne]
        rw [List.all_eq_true] at hone
        exact hone _ (by simp)
       have hadd : (⟨e.blk, ao + e.sh, none⟩ : Addr).add (sLen * ie.size) = ⟨e.blk, ao + e.sh + sLen * ie.size, none⟩ := by unfold Addr.add; split <;> simp_all
       have hst := O8 (P := P) (b := e.blk) (t := t') q8 nn.toList W3 (ao + e.sh + sLen * ie.size) 0 cc q1 hone' (by simp only [Array.length_toList, hnn]; omega)
       rw [Nat.add_zero] at hst
       have hrun := U7 (ty := ty) H (s := .slice (some ⟨e.blk, ao + e.sh, none⟩) sLen c') rfl hn' (by omega) r3 (by rw [<- hadd] at hst; exact hst)
       have ho := R8 (P := P) (w := W3.drew) q1 (sLen * ie.size) (ao + e.sh) 0 #[] old' W3.drew r1
       have hwa : wr (.cells c elem (1, 0)) = true := rfl
       have hWb : ∀ k, k ≠ e.blk -> (W3.heap.setIfInBounds e.blk (.cells (a20 cc (ao + e.sh + sLen * ie.size) nn.toList) t' fz'))[k]? = W3.heap[k]? := fun k hk => Array.getElem?_setIfInBounds_ne (fun h => hk h.symm)
       have hWs : (W3.heap.setIfInBounds e.blk (.cells (a20 cc (ao + e.sh + sLen * ie.size) nn.toList) t' fz'))[e.blk]? = some (.cells (a20 cc (ao + e.sh + sLen * ie.size) nn.toList) t' fz') := by simp [hlt]
       have hle : ι.le (ι.put A.heap.size ⟨e.blk, ao + e.sh, some (elem, cc.size)⟩) := Ren.le_put _ hfr
       have hks : (kill A ab elem).heap.size = A.heap.size := by simp
       refine ⟨ι.put A.heap.size ⟨e.blk, ao + e.sh, some (elem, cc.size)⟩, _, _, hrun, ?_, ?_, ?_⟩
       ·refine ⟨?_, ?_, ?_, ?_⟩
        ·intro k x o hk ho'
         rcases c9 ho' with ⟨hlt1, h'⟩ | ⟨rfl, rfl⟩
         ·rw [hks] at hlt1
          rw [Ren.put_ne _ _ (by omega)] at hk
          rcases j8 h' with ⟨hne, h''⟩ | ⟨rfl, rfl⟩
          ·by_cases hal : alive o = true
           ·exact (S.obj k x o hk h'').later hle (hWb _ fun hx => hne (S.inj ab k e x _ o p1 hk hac h'' hwa hal hx.symm).symm)
           ·have R := S.obj k x o hk h''
            cases o <;> simp [alive] at hal
            rcases R with h0 | ⟨_, _, _, _, _, g3, _⟩
            ·exact .inl h0
            ·rcases g3 with rfl | rfl | g3
             ·simp at hal
             ·simp at hal
             ·omega
          ·exact .inl ⟨rfl, rfl⟩
         ·rw [hks, Ren.put_self] at hk; cases hk
          refine .inr ⟨_, t', fz', hWs, ?_, .inr (.inl rfl), fun _ => ⟨q7, q8⟩, fun _ => by rw [y6], fun h => absurd rfl h⟩
          intro i y hy
          have hsize : old'.size = sLen * ie.size := hos'
          rw [Array.getElem?_append] at hy
          rw [W6 _ _ _ _ (by simp only [Array.length_toList, hnn]; omega)]
          by_cases hi : i < old.size
          ·rw [if_pos hi] at hy
           obtain ⟨y', g1, g2⟩ := R1.at hy
           refine ⟨y', ?_, g2.mono hle⟩
           rw [if_neg (by rw [hos] at hi; simp only; omega), <- g1, ho.2 i, if_neg (by simp), if_pos (by rw [hos] at hi; simpa using hi)]
           congr 1; simp; omega
          ·rw [if_neg hi] at hy
           have hlt2 : i - old.size < new.size := (Array.getElem?_eq_some_iff.1 hy).1
           obtain ⟨y', g1, g2⟩ := R3.at hy
           refine ⟨y', ?_, g2.mono hle⟩
           rw [if_pos (by simp only [Array.length_toList, hnn]; rw [hos] at hi hlt2; rw [hns] at hlt2; omega)]
           simp only [Array.getElem?_toList]
           rw [<- g1]; congr 1; rw [hos]; rw [hos] at hi; omega
        ·intro k k' x x' o o' hk hk' ho1 ho2 hw hal hbk
         rcases c9 ho1 with ⟨hlt1, h1'⟩ | ⟨rfl, rfl⟩ <;> rcases c9 ho2 with ⟨hlt2, h2'⟩ | ⟨rfl, rfl⟩
         ·rw [hks] at hlt1 hlt2
          rw [Ren.put_ne _ _ (by omega)] at hk hk'
          rcases j8 h1' with ⟨hne, h''⟩ | ⟨rfl, rfl⟩
          ·rcases j8 h2' with ⟨hne', h'''⟩ | ⟨rfl, rfl⟩
           ·exact S.inj k k' x x' o o' hk hk' h'' h''' hw hal hbk
           ·simp [alive] at hal
          ·simp [wr] at hw
         ·rw [hks] at hlt1
          rw [Ren.put_ne _ _ (by omega)] at hk
          rw [hks, Ren.put_self] at hk'; cases hk'
          rcases j8 h1' with ⟨hne, h''⟩ | ⟨rfl, rfl⟩
          ·exact absurd (S.inj k ab x e o _ hk p1 h'' hac hw rfl hbk) hne
          ·simp [wr] at hw
         ·rw [hks] at hlt2
          rw [Ren.put_ne _ _ (by omega)] at hk'
          rw [hks, Ren.put_self] at hk; cases hk
          rcases j8 h2' with ⟨hne, h''⟩ | ⟨rfl, rfl⟩
          ·exact absurd (S.inj ab k' e x' _ o' p1 hk' hac h'' hwa hal hbk).symm hne
          ·simp [alive] at hal
         ·rfl
        ·intro k x hk
         by_cases hkk : k = A.heap.size
         ·subst hkk; rw [Ren.put_self] at hk; cases hk; simpa using hlt
         ·rw [Ren.put_ne _ _ hkk] at hk; have := S.dom k x hk; simpa using this
        ·have := S.lo; simpa using this
       ·refine ⟨hle, ?_, ?_, ?_, ?_, by simp, by simp, rfl, rfl, rfl⟩
        ·intro k x hk hx'
         by_cases hkk : k = A.heap.size
         ·subst hkk; simp
         ·rw [Ren.put_ne _ _ hkk, hk] at hx'; cases hx'
        ·intro k _ hk
         exact hWb k fun h => hk ab e _ p1 hac hwa h.symm
        ·intro k x o hk ho1 hw _
         rcases c9 ho1 with ⟨hlt1, h1'⟩ | ⟨rfl, rfl⟩
         ·rw [hks] at hlt1
          rw [Ren.put_ne _ _ (by omega)] at hk
          rcases j8 h1' with ⟨hne, h''⟩ | ⟨rfl, rfl⟩
          ·exact ⟨k, x, o, hk, h'', hw, rfl⟩
          ·simp [wr] at hw
         ·rw [hks, Ren.put_self] at hk; cases hk
          exact ⟨ab, e, _, p1, hac, hwa, rfl⟩
        ·intro k x hk hx'
         by_cases hkk : k = A.heap.size
         ·subst hkk; rw [Ren.put_self] at hx'; cases hx'
          exact .inr ⟨ab, e, _, p1, hac, hwa, rfl⟩
         ·rw [Ren.put_ne _ _ hkk, hk] at hx'; cases hx'
       ·refine .slice (.inl ⟨⟨rfl, rfl, _, Ren.put_self _ _ _, rfl, by simp⟩, .inr ⟨_, elem, cc.size, Ren.put_self _ _ _, rfl, by omega, ?_⟩⟩)
        rw [hsz]; exact p4
    ·omega
end
end Go.Abs
namespace Go.Abs
section
variable {P : Program} {nO : Nat} {ι ι' : Ren} {A A' W W' : World}
theorem RS.len (ts : Array TypeId) (t : TypeId) {xs xs' : Array Value} (h : Vs P ι xs xs') : RS P nO ι (VRel P) (Builtin.len_ ts t xs) (Builtin.len_ ts t xs') := by
  unfold Builtin.len_
  cases h0 : ts[0]? with
  | none => exact RS.stuck _
  | some tt =>
    cases h1 : xs[0]? with
    | none => exact RS.stuck _
    | some x =>
      obtain ⟨x', hx, hxx⟩ := h.at h1
      rw [hx]
      simp only
      refine (RS.underlying tt).bind fun ι1 l1 d d' ⟨hd, _⟩ => ?_
      subst hd
      have hv := hxx.mono l1
      cases d' with
      | array n e => exact .pure (.int _ _)
      | pointer e =>
        simp only
        refine (RS.underlying e).bind fun ι2 l2 d d' ⟨hd, _⟩ => ?_
        subst hd
        cases d' with
        | array n e => exact .pure (.int _ _)
        | _ => exact RS.stuck _
      | string => cases hv with
        | string s => exact .pure (.int _ _)
        | _ => exact RS.stuck _
      | slice e => cases hv with
        | slice0 l c => exact .pure (.int _ _)
        | slice hh => exact .pure (.int _ _)
        | _ => exact RS.stuck _
      | map k e => cases hv with
        | map0 => exact .pure (.int _ _)
        | map hm hs =>
          simp only
          refine (RS.getObj hm).bind fun ι2 l2 o o' ⟨_, ho⟩ => ?_
          unfold z1 at ho
          split at ho
          · simp only; rw [ho.2.1]; exact .pure (.int _ _)
          · exact RS.stuck _
          · exact RS.stuck _
          · exact ho.elim
        | _ => exact RS.stuck _
      | _ => cases hv <;> first | exact RS.stuck _ | exact .pure (.int _ _)
theorem RS.clear (G : Good P) (ts : Array TypeId) (t : TypeId) {xs xs' : Array Value} (h : Vs P ι xs xs') : RS P nO ι (VRel P) (Builtin.clear_ ts t xs) (Builtin.clear_ ts t xs') := by
  unfold Builtin.clear_
  have fin : ∀ {κ : Ren}, RS P nO κ (VRel P) (Pure.pure (.tuple #[]) : Sem Value) (Pure.pure (.tuple #[])) := .pure .undef
  cases h0 : ts[0]? with
  | none => exact RS.stuck _
  | some tt =>
    cases h1 : xs[0]? with
    | none => exact RS.stuck _
    | some x =>
      obtain ⟨x', hx, hxx⟩ := h.at h1
      rw [hx]
      simp only
      refine (RS.underlying tt).bind fun ι1 l1 d d' ⟨hd, _⟩ => ?_
      subst hd
      have hv := hxx.mono l1
      have one : ∀ {κ : Ren}, RS P nO κ (fun _ _ _ => True) (Pure.pure () : Sem Unit) (Pure.pure ()) := .pure trivial
      cases hv with
      | map0 => exact one.bind fun _ _ _ _ _ => fin
      | slice0 l c => exact one.bind fun _ _ _ _ _ => fin
      | slice hh =>
        rename_i a a' l c c'
        cases l with
        | zero => exact one.bind fun _ _ _ _ _ => fin
        | succ l =>
          cases d' with
          | slice elem =>
            refine (RS.zeroValue G elem).bind fun ι2 l2 z z' ⟨hz, hzz⟩ => ?_
            subst hz
            rcases hh with ⟨ha, _⟩ | ⟨h0, _⟩
            · exact (RS.storeCells (ha.mono l2) 0 (Vs.toList (Vs.map _ _ _ fun i _ => (hzz ι2).cells.bang _))).bind fun _ _ _ _ _ => fin
            · omega
          | _ => exact RS.halt _
      | map hm hs =>
        refine (RS.getObj hm).bind fun ι2 l2 o o' ⟨_, ho⟩ => ?_
        unfold z1 at ho
        split at ho
        · rename_i es ck es' ck' _
          obtain ⟨hck, _⟩ := ho
          subst hck
          exact (RS.setObj (q := .map #[] ck') (q' := .map #[] ck') (l2 _ _ hm) hs (show ck' = ck' /\ H5 P ι2 #[] #[] from ⟨rfl, rfl, fun i x y h => by simp at h⟩)).bind fun _ _ _ _ _ => fin
        · exact RS.halt _
        · exact RS.halt _
        · exact ho.elim
      | _ => cases d' <;> exact RS.halt _
theorem RS.eqNilIn (d : Nat) (t : TypeId) {x x' y y' : Value} (hx : VRel P ι x x') (hy : VRel P ι y y') (h : (Y0 x || Y0 y) = true) : RS P nO ι (fun _ r r' => r' = r) (Op.equalIn (d + 1) t x y) (Op.equalIn (d + 1) t x' y') := by
  simp only [Op.equalIn]
  refine (RS.underlying t).bind fun ι1 l1 u u' ⟨hu, _⟩ => ?_
  subst hu
  cases hx <;> cases hy <;> first
    | (exfalso; revert h; simp only [Y0]; decide)
    | (cases u' <;> first | exact RS.pure rfl | exact RS.halt _)
theorem RS.eqNil (t : TypeId) {x x' y y' : Value} (hx : VRel P ι x x') (hy : VRel P ι y y') (h : (Y0 x || Y0 y) = true) : RS P nO ι (fun _ r r' => r' = r) (Op.equal t x y) (Op.equal t x' y') := by
  have := RS.eqNilIn (P := P) (nO := nO) 9999 t hx hy h
  exact this
def o9 (d : TypeDesc) (k : Value) : Bool := match d, k with
  | .int _, .int _ _ | .string, .string _ | .bool, .bool _ => true
  | _, _ => false
theorem N7 {d : TypeDesc} {k k' : Value} (h : o9 d k = true) (r : VRel P ι k k') : k' = k := by
  cases r <;> first | rfl | (cases d <;> simp [o9] at h)
theorem E6 {empty : Bool} {n : Nat} {t : TypeId} {d : TypeDesc} {k : Value} (hd : P.underlying t = some d) (h : o9 d k = true) (w : World) : (Instr.checkKey empty (n + 1) t k).run P w = .ok () w := by
  unfold Instr.checkKey
  simp only [Sem.run_bind, Go.underlying, Go.program, Sem.run, Result.andThen, hd]
  cases d <;> cases k <;> first | (simp [o9] at h; done) | rfl
theorem RS.checkKey {empty empty' : Bool} {n : Nat} {t : TypeId} {d : TypeDesc} {k : Value} (hd : P.underlying t = some d) (h : o9 d k = true) : RS P nO ι (fun _ _ _ => True) (Instr.checkKey empty (n + 1) t k) (Instr.checkKey empty' (n + 1) t k) := by
  intro A W x A' S hr _
  rw [E6 hd h] at hr
  cases hr
  exact ⟨ι, (), W, E6 hd h W, S, .refl, trivial⟩
theorem a4z {d : TypeDesc} {k a a' : Value} (r : VRel P ι a a') : Instr.sameNow d k a' = Instr.sameNow d k a := by
  cases r <;> first | rfl | (cases d <;> cases k <;> rfl)
def Es (P : Program) (ι : Ren) : List MapEntry -> List MapEntry -> Prop
  | [], [] => True
  | x :: xs, y :: ys => EntryRel P ι x y /\ Es P ι xs ys
  | _, _ => False
theorem Es.of : ∀ {es es' : List MapEntry}, es.length = es'.length -> (∀ (i : Nat) (x y : MapEntry), es[i]? = some x -> es'[i]? = some y -> EntryRel P ι x y) -> Es P ι es es'
  | [], [], _, _ => trivial
  | x :: xs, y :: ys, hl, h => ⟨h 0 x y rfl rfl, Es.of (by simpa using hl) fun i a b ha hb => h (i + 1) a b (by simpa using ha) (by simpa using hb)⟩
  | [], _ :: _, hl, _ => by simp at hl
  | _ :: _, [], hl, _ => by simp at hl
theorem H5.list {es es' : Array MapEntry} (h : H5 P ι es es') : Es P ι es.toList es'.toList := Es.of (by simpa using h.1) fun i x y hx hy => h.2 i x y (by simpa using hx) (by simpa using hy)
def b6h (P : Program) (ι : Ren) : Option (Nat × Value) -> Option (Nat × Value) -> Prop
  | none, none => True
  | some (i, v), some (j, v') => j = i /\ VRel P ι v v'
  | _, _ => False
theorem a0Y {d : TypeDesc} {k : Value} : ∀ {es es' : List MapEntry} {i : Nat}, Es P ι es es' ->
    match Instr.findNow d k es i, Instr.findNow d k es' i with
    | some r, some r' => b6h P ι r r'
    | none, none => True
    | _, _ => False
  | [], [], i, _ => trivial
  | x :: xs, y :: ys, i, h => by
    simp only [Instr.findNow]
    rw [a4z h.1.key]
    cases Instr.sameNow d k x.key with
    | none => trivial
    | some b => cases b with
      | true => exact ⟨rfl, h.1.val⟩
      | false => exact a0Y h.2
  | [], _ :: _, _, h => h.elim
  | _ :: _, [], _, h => h.elim
theorem RS.equalEasy {t : TypeId} {d : TypeDesc} {k a a' : Value} (hd : P.underlying t = some d) (hk : o9 d k = true) (r : VRel P ι a a') : RS P nO ι (fun _ b b' => b' = b) (Op.equal t k a) (Op.equal t k a') := by
  unfold Op.equal Op.maxDepth Op.equalIn
  refine (RS.underlying t).bind fun ι1 _ e e' ⟨h1, h2⟩ => ?_
  rw [hd] at h2
  cases h2
  subst h1
  cases e' <;> cases k <;> first | (simp [o9] at hk; done) | skip
  · cases r <;> first | exact .pure rfl | exact RS.stuck _
  · rename_i kk j n
    have hint : ∀ (a b : IntKind) (p : Bool), RS P nO ι1 (fun _ b b' => b' = b) (if a = b then Pure.pure p else Go.stuck "==: kinds differ" : Sem Bool) (if a = b then Pure.pure p else Go.stuck "==: kinds differ") := by
      intro a b p
      split
      · exact .pure rfl
      · exact RS.stuck _
    rcases n with (_ | n) | n
    · cases r <;> first | exact RS.stuck _ | exact RS.unsupported _ | exact .pure rfl | exact hint _ _ _
    · cases r <;> first | exact RS.stuck _ | exact RS.unsupported _ | exact .pure rfl | exact hint _ _ _
    · cases r <;> first | exact RS.stuck _ | exact RS.unsupported _ | exact .pure rfl | exact hint _ _ _
  · cases r <;> first | exact .pure rfl | exact RS.stuck _
theorem RS.findAsking {t : TypeId} {d : TypeDesc} {k : Value} (hd : P.underlying t = some d) (hk : o9 d k = true) : ∀ {es es' : List MapEntry} {i : Nat} {ι : Ren}, Es P ι es es' -> RS P nO ι (b6h P) (Instr.findAsking t k es i) (Instr.findAsking t k es' i)
  | [], [], i, ι, _ => .pure trivial
  | x :: xs, y :: ys, i, ι, h => by
    simp only [Instr.findAsking]
    refine (RS.equalEasy hd hk h.1.key).bind fun ι1 l1 b b' hb => ?_
    subst hb
    cases b' with
    | true => exact .pure ⟨rfl, h.1.val.mono l1⟩
    | false =>
      have hm : ∀ {es es' : List MapEntry}, Es P ι es es' -> Es P ι1 es es' := by
        intro es
        induction es with
        | nil => intro es' h; cases es' <;> exact h
        | cons x xs ih => intro es' h; cases es' with
          | nil => exact h
          | cons y ys => exact ⟨⟨h.1.key.mono l1, h.1.val.mono l1, h.1.born⟩, ih h.2⟩
      exact RS.findAsking hd hk (hm h.2)
  | [], _ :: _, _, _, h => h.elim
  | _ :: _, [], _, _, h => h.elim
theorem RS.findKey {t : TypeId} {d : TypeDesc} {k : Value} (hd : P.underlying t = some d) (hk : o9 d k = true) {es es' : Array MapEntry} (h : H5 P ι es es') : RS P nO ι (b6h P) (Instr.findKey t k es.toList) (Instr.findKey t k es'.toList) := by
  unfold Instr.findKey
  refine (RS.underlying t).bind fun ι1 l1 e e' ⟨h1, h2⟩ => ?_
  rw [hd] at h2
  cases h2
  subst h1
  have hL := (h.mono l1).list
  have hf := a0Y (d := e') (k := k) (i := 0) hL
  cases h1 : Instr.findNow e' k es.toList 0 with
  | none => cases h2 : Instr.findNow e' k es'.toList 0 with
    | none => exact RS.findAsking hd hk hL
    | some r => rw [h1, h2] at hf; exact hf.elim
  | some r => cases h2 : Instr.findNow e' k es'.toList 0 with
    | none => rw [h1, h2] at hf; exact hf.elim
    | some r' => rw [h1, h2] at hf; exact .pure hf
def a7x (P : Program) (t : TypeId) (k : Value) : Prop := ∀ kt et, P.underlying t = some (.map kt et) -> ∃ d, P.underlying kt = some d /\ o9 d k = true
theorem RS.lookup (G : Good P) (t : TypeId) {m m' k k' : Value} (hm : VRel P ι m m') (hk : VRel P ι k k') (ok : Bool) (hok : a7x P t k) : RS P nO ι (VRel P) (Instr.lookup t m k ok) (Instr.lookup t m' k' ok) := by
  unfold Instr.lookup
  refine (RS.underlying t).bind fun ι1 l1 e e' ⟨h1, h2⟩ => ?_
  subst h1
  cases e' with
  | map kt et =>
    obtain ⟨d, hd, he⟩ := hok _ _ h2
    have := N7 he hk
    subst this
    have hrest : ∀ (ι2 : Ren), ι1.le ι2 -> ∀ (es es' : Array MapEntry), H5 P ι2 es es' -> RS P nO ι2 (VRel P)
        (do Instr.checkKey es.isEmpty 10000 kt k'
            let (v, b) <- match <- Instr.findKey kt k' es.toList with
              | some (_, v) => Pure.pure (v, true)
              | none => Pure.pure (<- Go.zeroValue et, false)
            Pure.pure (if ok then .tuple #[v, .bool b] else v))
        (do Instr.checkKey es'.isEmpty 10000 kt k'
            let (v, b) <- match <- Instr.findKey kt k' es'.toList with
              | some (_, v) => Pure.pure (v, true)
              | none => Pure.pure (<- Go.zeroValue et, false)
            Pure.pure (if ok then .tuple #[v, .bool b] else v)) := by
      intro ι2 l2 es es' hE
      have fin : ∀ (κ : Ren) (v v' : Value) (b : Bool), VRel P κ v v' -> RS P nO κ (VRel P) (Pure.pure (if ok then .tuple #[v, .bool b] else v)) (Pure.pure (if ok then .tuple #[v', .bool b] else v')) := by
        intro κ v v' b hv
        cases ok with
        | true =>
          refine .pure (.tuple rfl fun i x x' hx hx' => ?_)
          match i with
          | 0 => cases hx; cases hx'; exact hv
          | 1 => cases hx; cases hx'; exact .bool _
          | i + 2 => simp at hx
        | false => exact .pure hv
      refine (RS.checkKey hd he).bind fun ι3 l3 _ _ _ => ?_
      refine (RS.findKey hd he (hE.mono l3)).bind fun ι4 l4 f f' hf => ?_
      cases f with
      | none => cases f' with
        | none => exact (RS.zeroValue G et).bind fun ι5 l5 z z' ⟨hz, hzz⟩ => by subst hz; exact (RS.pure (R := fun _ p p' => p = (z', false) /\ p' = p) ⟨rfl, rfl⟩).bind fun ι6 l6 p p' ⟨h1, h2⟩ => by subst h1; subst h2; exact fin _ _ _ _ (hzz _)
        | some q => exact hf.elim
      | some q => cases f' with
        | none => exact hf.elim
        | some q' =>
          obtain ⟨q1, q2⟩ := q
          obtain ⟨q1', q2'⟩ := q'
          exact (RS.pure (R := fun _ p p' => p = (q2, true) /\ p' = (q2', true)) ⟨rfl, rfl⟩).bind fun ι6 l6 p p' ⟨h1, h2⟩ => by subst h1; subst h2; exact fin _ _ _ _ (hf.2.mono l6)
    cases hm with
    | map0 => exact (RS.pure (R := H5 P) ⟨rfl, fun i x y h => by simp at h⟩).bind fun ι2 l2 es es' hE => hrest _ l2 _ _ hE
    | map hr hs =>
      refine (RS.getObj (l1 _ _ hr)).bind fun ι2 l2 o o' ⟨_, ho⟩ => ?_
      unfold z1 at ho
      split at ho
      · exact (RS.pure (R := H5 P) ho.2).bind fun ι3 l3 es es' hE => hrest _ (l2.trans l3) _ _ hE
      · exact RS.stuck _
      · exact RS.stuck _
      · exact ho.elim
    | _ => exact RS.stuck _
  | _ => exact RS.stuck _
theorem a0d {a b : ByteArray} (h : (a == b) = true) : a = b := by
  obtain ⟨a⟩ := a; obtain ⟨b⟩ := b
  have h' : (a == b) = true := h
  rw [eq_of_beq h']
theorem a1w (a : ByteArray) : (a == a) = true := by
  obtain ⟨a⟩ := a
  exact beq_self_eq_true a
theorem a6S {d : TypeDesc} {k a : Value} (h : Instr.sameNow d k a = some true) : a = k := by
  cases d <;> cases k <;> cases a <;> simp [Instr.sameNow] at h <;> first | (simp_all; done) | (rw [a0d h])
theorem b0M {d : TypeDesc} {k : Value} (h : o9 d k = true) (n : Nat) : Instr.sameBits n k k = true := by
  cases d <;> cases k <;> simp [o9] at h <;> cases n <;> simp [Instr.sameBits, a1w]
theorem b22 {t : TypeId} {d : TypeDesc} {k a : Value} (hd : P.underlying t = some d) (hk : o9 d k = true) {A A' : World} (h : (Op.equal t k a).run P A = .ok true A') : a = k /\ A' = A := by
  unfold Op.equal Op.maxDepth Op.equalIn at h
  simp only [Sem.run_bind, Go.underlying, Go.program, Sem.run, Result.andThen, hd] at h
  cases d <;> cases k <;> first | (simp [o9] at hk; done) | skip
  · cases a <;> simp [Go.stuck] at h ⊢
    exact ⟨h.1.symm, h.2.symm⟩
  · rename_i kk j n
    have hint : ∀ (a b : IntKind) (p : Bool) (w w' : World), (if a = b then Pure.pure p else Go.stuck "==: kinds differ" : Sem Bool).run P w = .ok true w' -> a = b /\ p = true /\ w' = w := by
      intro a b p w w' h
      split at h
      · rename_i e
        simp at h
        exact ⟨e, h.1, h.2.symm⟩
      · cases h
    have fin : ∀ {a : Value} {w w' : World}, (match a with
        | .int k' b => (if j = k' then Pure.pure (n == b) else Go.stuck "==: kinds differ" : Sem Bool)
        | _ => Go.stuck "").run P w = .ok true w' -> a = .int j n /\ w' = w := by
      intro a w w' h
      split at h
      · obtain ⟨rfl, h1, rfl⟩ := hint _ _ _ _ _ h
        rw [eq_of_beq h1]; exact ⟨rfl, rfl⟩
      · cases h
    rcases n with (_ | n) | n
    · cases a <;> first | (cases h; done) | exact fin (a := .int _ _) h | (rename_i p; cases p <;> cases h; done)
    · cases a <;> first | (cases h; done) | exact fin (a := .int _ _) h | (rename_i p; cases p <;> cases h; done)
    · cases a <;> first | (cases h; done) | exact fin (a := .int _ _) h | (rename_i p; cases p <;> cases h; done)
  · cases a <;> first | (cases h; done) | skip
    rename_i s s'
    have h' : (Pure.pure (s == s') : Sem Bool).run P A = .ok true A' := h
    simp at h'
    rw [a0d h'.1]; exact ⟨rfl, h'.2.symm⟩
theorem a1T {d : TypeDesc} {k : Value} : ∀ {es : List MapEntry} {i j : Nat} {v : Value}, Instr.findNow d k es i = some (some (j, v)) -> i <= j /\ ∃ e, es[j - i]? = some e /\ Instr.sameNow d k e.key = some true
  | [], _, _, _, h => by simp [Instr.findNow] at h
  | e :: es, i, j, v, h => by
    simp only [Instr.findNow] at h
    split at h
    · rename_i hs
      simp only [Option.some.injEq, Prod.mk.injEq] at h
      obtain ⟨rfl, _⟩ := h
      exact ⟨Nat.le_refl _, e, by simp, hs⟩
    · obtain ⟨h1, e', h2, h3⟩ := a1T h
      exact ⟨by omega, e', by rw [show j - i = (j - (i + 1)) + 1 from by omega]; simpa using h2, h3⟩
    · cases h
theorem H5.push {es es' : Array MapEntry} (h : H5 P ι es es') {x y : MapEntry} (hx : EntryRel P ι x y) : H5 P ι (es.push x) (es'.push y) := by
  refine ⟨by simp [h.1], fun i a b ha hb => ?_⟩
  rw [Array.getElem?_push] at ha hb
  rw [<- h.1] at hb
  split at ha
  · rename_i e; rw [if_pos e] at hb; cases ha; cases hb; exact hx
  · rename_i e; rw [if_neg e] at hb; exact h.2 i a b ha hb
theorem H5.modify {es es' : Array MapEntry} (h : H5 P ι es es') {j : Nat} {f g : MapEntry -> MapEntry} (hf : ∀ x y, EntryRel P ι x y -> EntryRel P ι (f x) (g y)) : H5 P ι (es.modify j f) (es'.modify j g) := by
  refine ⟨by simp [h.1], fun i a b ha hb => ?_⟩
  rw [Array.getElem?_modify] at ha hb
  split at ha
  · rename_i e
    rw [if_pos e] at hb
    simp only [Option.map_eq_some_iff] at ha hb
    obtain ⟨x, hx, rfl⟩ := ha
    obtain ⟨y, hy, rfl⟩ := hb
    exact hf _ _ (h.2 i x y hx hy)
  · rename_i e
    rw [if_neg e] at hb
    exact h.2 i a b ha hb
theorem H5.erase {es es' : Array MapEntry} (h : H5 P ι es es') (j : Nat) : H5 P ι (es.eraseIdxIfInBounds j) (es'.eraseIdxIfInBounds j) := by
  by_cases hj : j < es.size
  · have hj' : j < es'.size := h.1 ▸ hj
    rw [Array.eraseIdxIfInBounds_eq, Array.eraseIdxIfInBounds_eq, dif_pos hj, dif_pos hj']
    refine ⟨by simp [h.1], fun i a b ha hb => ?_⟩
    rw [Array.getElem?_eraseIdx] at ha hb
    split at ha
    · rename_i q; rw [if_pos q] at hb; exact h.2 _ a b ha hb
    · rename_i q; rw [if_neg q] at hb; exact h.2 _ a b ha hb
  · have hj' : ¬ j < es'.size := h.1 ▸ hj
    rw [Array.eraseIdxIfInBounds_eq, Array.eraseIdxIfInBounds_eq, dif_neg hj, dif_neg hj']
    exact h
theorem S8 {t : TypeId} {d : TypeDesc} {k : Value} (hd : P.underlying t = some d) (hk : o9 d k = true) : ∀ {es : List MapEntry} {i j : Nat} {v : Value} {A A' : World}, (Instr.findAsking t k es i).run P A = .ok (some (j, v)) A' -> i <= j /\ ∃ e, es[j - i]? = some e /\ e.key = k
  | [], i, j, v, A, A', h => by simp [Instr.findAsking] at h
  | e :: es, i, j, v, A, A', h => by
    simp only [Instr.findAsking] at h
    rw [Sem.run_bind] at h
    cases h1 : (Op.equal t k e.key).run P A with
    | halt q w => rw [h1] at h; cases h
    | ok b A1 =>
      rw [h1] at h
      cases b with
      | true =>
        have := (b22 hd hk h1).1
        simp [Result.andThen] at h
        obtain ⟨⟨rfl, _⟩, _⟩ := h
        exact ⟨Nat.le_refl _, e, by simp, this⟩
      | false =>
        have h' : (Instr.findAsking t k es (i + 1)).run P A1 = .ok (some (j, v)) A' := h
        obtain ⟨q1, e', q2, q3⟩ := S8 hd hk h'
        exact ⟨by omega, e', by rw [show j - i = (j - (i + 1)) + 1 from by omega]; simpa using q2, q3⟩
theorem a69 {t : TypeId} {d : TypeDesc} {k : Value} (hd : P.underlying t = some d) (hk : o9 d k = true) {es : Array MapEntry} {j : Nat} {v : Value} {A A' : World} (h : (Instr.findKey t k es.toList).run P A = .ok (some (j, v)) A') : ∃ e, es[j]? = some e /\ e.key = k := by
  unfold Instr.findKey at h
  simp only [Sem.run_bind, Go.underlying, Go.program, Sem.run, Result.andThen, hd] at h
  simp only [Sem.run_pure] at h
  split at h
  · rename_i r hr
    simp at h
    obtain ⟨rfl, _⟩ := h
    obtain ⟨_, e, h2, h3⟩ := a1T hr
    exact ⟨e, by simpa using h2, a6S h3⟩
  · obtain ⟨_, e, h2, h3⟩ := S8 hd hk h
    exact ⟨e, by simpa using h2, h3⟩
theorem RS.and_run {α β : Type} {R : Ren -> α -> β -> Prop} {s : Sem α} {s' : Sem β} {Q : α -> Prop} (h : RS P nO ι R s s') (hq : ∀ A x A', s.run P A = .ok x A' -> Q x) : RS P nO ι (fun ι r r' => R ι r r' /\ Q r) s s' := by
  intro A W x A' S hr hf
  obtain ⟨ι1, y, W1, h1, h2, h3, h4⟩ := h A W x A' S hr hf
  exact ⟨ι1, y, W1, h1, h2, h3, h4, hq _ _ _ hr⟩
theorem b2x {k : Value} {d : TypeDesc} (hk : o9 d k = true) : Instr.keyThatStays k k = Pure.pure k := by
  unfold Instr.keyThatStays
  rw [if_pos (b0M hk _)]
theorem RS.mapUpdate (t : TypeId) {m m' k k' v v' : Value} (hm : VRel P ι m m') (hk : VRel P ι k k') (hv : VRel P ι v v') (hok : a7x P t k) : RS P nO ι (fun _ _ _ => True) (Instr.mapUpdate t m k v) (Instr.mapUpdate t m' k' v') := by
  unfold Instr.mapUpdate
  refine (RS.underlying t).bind fun ι1 l1 e e' ⟨h1, h2⟩ => ?_
  subst h1
  cases e' with
  | map kt et =>
    obtain ⟨d, hd, he⟩ := hok _ _ h2
    have := N7 he hk
    subst this
    cases hm with
    | map0 => exact RS.never (b9 _)
    | map hr hs =>
      refine (RS.getObj (l1 _ _ hr)).bind fun ι2 l2 o o' ⟨_, ho⟩ => ?_
      cases o with
      | map es c =>
        cases o' with
        | map es' c' =>
          obtain ⟨rfl, hE⟩ := ho
          refine (RS.checkKey hd he).bind fun ι3 l3 _ _ _ => ?_
          refine ((RS.findKey hd he (hE.mono l3)).and_run (Q := fun r => ∀ j u, r = some (j, u) -> ∃ e, es[j]? = some e /\ e.key = k') fun A x A' hx j u hju => a69 hd he (hju ▸ hx)).bind fun ι4 l4 f f' ⟨hf, hq⟩ => ?_
          have l04 : ι.le ι4 := l1.trans (l2.trans (l3.trans l4))
          have hE4 := hE.mono (l3.trans l4)
          cases f with
          | none => cases f' with
            | none => exact RS.setObj (l04 _ _ hr) hs ⟨rfl, hE4.push ⟨hk.mono l04, hv.mono l04, rfl⟩⟩
            | some q => exact hf.elim
          | some q => cases f' with
            | none => exact hf.elim
            | some q' =>
              obtain ⟨j, u⟩ := q
              obtain ⟨j', u'⟩ := q'
              obtain ⟨hj, hu⟩ := hf
              have hj : j' = j := hj
              subst hj
              obtain ⟨e, he1, he2⟩ := hq _ _ rfl
              obtain ⟨e', he1'⟩ : ∃ e', es'[j']? = some e' := by
                have : j' < es'.size := by rw [<- hE.1]; exact (Array.getElem?_eq_some_iff.1 he1).1
                exact ⟨_, Array.getElem?_eq_getElem this⟩
              have hr1 := hE4.2 _ _ _ he1 he1'
              have he2' : e'.key = k' := by
                have q := hr1.key
                rw [he2] at q
                exact N7 he q
              simp only [he1, he1', Option.map_some, Option.getD_some, he2, he2', b2x he]
              refine (RS.pure (R := fun _ a b => a = k' /\ b = k') ⟨rfl, rfl⟩).bind fun ι5 l5 a b ⟨ha, hb⟩ => ?_
              subst ha; subst hb
              exact RS.setObj ((l04.trans l5) _ _ hr) hs ⟨rfl, (hE4.mono l5).modify fun x y hxy => ⟨hk.mono (l04.trans l5), hv.mono (l04.trans l5), hxy.born⟩⟩
        | _ => exact ho.elim
      | _ => exact RS.stuck _
    | _ => exact RS.stuck _
  | _ => exact RS.stuck _
theorem RS.delete (ts : Array TypeId) (t : TypeId) {xs xs' : Array Value} (h : Vs P ι xs xs') (hok : ∀ mt k, ts[0]? = some mt -> xs[1]? = some k -> a7x P mt k) : RS P nO ι (VRel P) (Builtin.delete_ ts t xs) (Builtin.delete_ ts t xs') := by
  unfold Builtin.delete_
  have fin : ∀ {κ : Ren}, RS P nO κ (VRel P) (Pure.pure (.tuple #[]) : Sem Value) (Pure.pure (.tuple #[])) := .pure .undef
  cases h0 : ts[0]? with
  | none => exact RS.stuck _
  | some mt =>
    cases h1 : xs[0]? with
    | none => exact RS.stuck _
    | some m =>
      obtain ⟨m', h1', hm⟩ := h.at h1
      cases h2 : xs[1]? with
      | none => exact RS.stuck _
      | some k =>
        obtain ⟨k', h2', hk⟩ := h.at h2
        rw [h1', h2']
        simp only
        refine (RS.underlying mt).bind fun ι1 l1 e e' ⟨q1, q2⟩ => ?_
        subst q1
        cases e' with
        | map kt et =>
          obtain ⟨d, hd, he⟩ := hok _ _ h0 h2 _ _ q2
          have := N7 he hk
          subst this
          cases hm with
          | map0 => exact (RS.checkKey hd he).bind fun _ _ _ _ _ => fin
          | map hr hs =>
            refine (RS.getObj (l1 _ _ hr)).bind fun ι2 l2 o o' ⟨_, ho⟩ => ?_
            cases o with
            | map es c =>
              cases o' with
              | map es' c' =>
                obtain ⟨rfl, hE⟩ := ho
                refine (RS.checkKey hd he).bind fun ι3 l3 _ _ _ => ?_
                refine (RS.findKey hd he (hE.mono l3)).bind fun ι4 l4 f f' hf => ?_
                have l04 : ι.le ι4 := l1.trans (l2.trans (l3.trans l4))
                have hE4 := hE.mono (l3.trans l4)
                cases f with
                | none => cases f' with
                  | none => exact (RS.setObj (q := .map _ _) (q' := .map _ _) (l04 _ _ hr) hs ⟨rfl, hE4⟩).bind fun _ _ _ _ _ => fin
                  | some q => exact hf.elim
                | some q => cases f' with
                  | none => exact hf.elim
                  | some q' =>
                    obtain ⟨j, u⟩ := q
                    obtain ⟨j', u'⟩ := q'
                    obtain ⟨hj, hu⟩ := hf
                    have hj : j' = j := hj
                    subst hj
                    exact (RS.setObj (q := .map _ _) (q' := .map _ _) (l04 _ _ hr) hs ⟨rfl, hE4.erase _⟩).bind fun _ _ _ _ _ => fin
              | _ => exact ho.elim
            | _ => exact RS.stuck _
          | _ => exact RS.stuck _
        | _ => exact RS.stuck _
end
end Go.Abs
namespace Go.Abs
def b3G (P : Program) (ι : Ren) : Next -> Next -> Prop
 | .value v, .value v' => VRel P ι v v'
 | .skip, .skip => True
 | .enter f xs, .enter f' xs' => f' = f /\ Vs P ι xs xs'
 | .round l _ ts as bd, .round l' _ ts' as' bd' => (∃ e, ι l = some e /\ e.sh = 0 /\ l' = e.blk) /\ Vs P ι ts ts' /\ as' = as /\ bd' = bd /\ l0 as = true /\ l0 bd = true
 | _, _ => False
def nilPair : Value -> Value -> Bool
 | .pointer a, .pointer b => a.isNone || b.isNone
 | .slice a _ _, .slice b _ _ => a.isNone || b.isNone
 | .map a, .map b => a.isNone || b.isNone
 | .func .., .nilFunc | .nilFunc, .func .. | .nilFunc, .nilFunc => true
 | _, _ => false
theorem a0J {a b : Value} (h : nilPair a b = true) : (Y0 a || Y0 b) = true := by
 unfold nilPair at h
 split at h
 ·rename_i a b; cases a <;> cases b <;> simp_all [Y0]
 ·rename_i a _ _ b _ _; cases a <;> cases b <;> simp_all [Y0]
 ·rename_i a b; cases a <;> cases b <;> simp_all [Y0]
 ·simp [Y0]
 ·simp [Y0]
 ·simp [Y0]
 ·cases h
theorem P5 {a b : Value} (h : nilPair a b = true) (t : TypeId) : binOp .eql t a b = (do Pure.pure (.bool (<- Op.equal t a b))) := by
 unfold nilPair at h
 split at h <;> first | rfl | cases h
theorem P4 {a b : Value} (h : nilPair a b = true) (t : TypeId) : binOp .neq t a b = (do Pure.pure (.bool (!(<- Op.equal t a b)))) := by
 unfold nilPair at h
 split at h <;> first | rfl | cases h
theorem E2 {a b : Value} (h : nilPair a b = true) (op : BinOp) (t : TypeId) (x y : Operand) (ho : op = .eql ∨ op = .neq) : eqGuard op t x y a b = Pure.pure () := by
 unfold nilPair at h
 rcases ho with rfl | rfl <;> (split at h <;> first | rfl | cases h)
def a2V (P : Program) (A : World) (ρ : Operand -> Value) : Op -> Prop
 | .move _ | .assign _ | .pick .. | .alloc _ | .box .. | .build .. | .buildSlice .. | .load .. | .store .. | .extract .. | .field .. | .index .. | .indexAddr .. | .makeSlice .. | .makeMap .. | .nilCheck _ => True
 | .makeFunc fn _ _ => ∃ f, fn = .func f
 | .fieldAddr s _ k => ∀ fs f, P.underlying s = some (.struct fs) -> fs[k]? = some f -> P.cellsOf f.type ≠ 0
 | .slice t x _ _ _ => (∀ a l c, ρ x = .slice a l c -> l <= c) /\ (∀ e, P.underlying t ≠ some (.pointer e)) /\
   ∀ elem, P.underlying t = some (.slice elem) -> ∀ a l c, ρ x = .slice (some a) l c -> ∃ cs t' fz, A.heap[a.block]? = some (.cells cs t' fz) /\ fz ≠ (2, 0) /\ (fz = (1, 0) -> P.cellsOf elem = P.cellsOf t')
 | .binOp .eql _ x y _ | .binOp .neq _ x y _ => nilPair (ρ x) (ρ y) = true
 | .lookup t _ k _ => a7x P t (ρ k)
 | .mapUpdate t _ k _ => a7x P t (ρ k)
 | .call c => c.callee = .builtin .len ∨ c.callee = .builtin .copy ∨ c.callee = .builtin .clear ∨ (c.callee = .builtin .delete /\ ∀ mt k, c.argTypes[0]? = some mt -> (c.args.map ρ)[1]? = some k -> a7x P mt k)
 | _ => False
section
variable {P : Program} {nO : Nat} {ι ι' : Ren} {A A' W W' : World}
def b1c (P : Program) (ι : Ren) (ρ : Operand -> Value) : Op -> Prop
 | .slice t x _ _ _ => ∀ elem, P.underlying t = some (.slice elem) -> b6n P ι elem (ρ x)
 | _ => True
theorem b1c.of (S : Sim P nO ι A W) {ρ : Operand -> Value} {op : Op} (h : a2V P A ρ op) : b1c P ι ρ op := by
 cases op <;> try trivial
 rename_i t x lo hi mx
 intro elem hu a l c e t' N hx he hg
 obtain ⟨cs, t2, fz, h1, h2, h3⟩ := h.2.2 elem hu a l c hx
 rcases S.obj _ _ _ he h1 with ⟨h, _⟩ | ⟨_, _, _, _, _, _, _, h5, h6⟩
 ·exact absurd h h2
 ·by_cases hf : fz = (1, 0)
  ·have := h5 hf; rw [hg] at this; cases this; exact h3 hf
  ·rw [h6 hf] at hg; cases hg
theorem RS.val {s s' : Sem Value} (h : RS P nO ι (VRel P) s s') : RS P nO ι (b3G P) (do Pure.pure (.value (<- s))) (do Pure.pure (.value (<- s'))) :=
 h.bind fun _ _ _ _ hv => .pure hv
theorem RS.unit {s s' : Sem Unit} (h : RS P nO ι (fun _ _ _ => True) s s') : RS P nO ι (b3G P) (do s; Pure.pure .skip) (do s'; Pure.pure .skip) :=
 h.bind fun _ _ _ _ _ => .pure trivial
theorem J7.map {ρ ρ' : Operand -> Value} (o : Option Operand) (h : ∀ x ∈ o.toArray, VRel P ι (ρ x) (ρ' x)) : J7 P ι (o.map ρ) (o.map ρ') := by
 cases o with
 | none => exact .inl ⟨rfl, rfl⟩
 | some x => exact .inr ⟨_, _, rfl, rfl, h x (by simp)⟩
theorem Ps.map {ρ ρ' : Operand -> Value} (ps : Array (Nat × Operand)) (h : ∀ x ∈ (ps.toList.map (·.2)).toArray, VRel P ι (ρ x) (ρ' x)) : Ps P ι (ps.map fun (i, x) => (i, ρ x)) (ps.map fun (i, x) => (i, ρ' x)) := by
 refine ⟨by simp, fun i x x' hx hx' => ?_⟩
 simp only [Array.toList_map, List.getElem?_map] at hx hx'
 cases hp : ps.toList[i]? with
 | none => rw [hp] at hx; cases hx
 | some p =>
  rw [hp] at hx hx'
  cases hx; cases hx'
  refine ⟨rfl, h p.2 ?_⟩
  have := List.mem_of_getElem? hp
  simp only [List.mem_toArray, List.mem_map]
  exact ⟨p, this, rfl⟩
theorem VRel.nilPair {a a' b b' : Value} (ha : VRel P ι a a') (hb : VRel P ι b b') (h : Abs.nilPair a b = true) : Abs.nilPair a' b' = true := by
 cases ha <;> cases hb <;> first | (exfalso; revert h; simp only [Abs.nilPair]; decide) | rfl | exact h
theorem RS.binNil {op : BinOp} (ho : op = .eql ∨ op = .neq) (t : TypeId) (x y : Operand) {a a' b b' : Value} (ha : VRel P ι a a') (hb : VRel P ι b b') (h : Abs.nilPair a b = true) :
  RS P nO ι (VRel P) (do eqGuard op t x y a b; binOp op t a b) (do eqGuard op t x y a' b'; binOp op t a' b') := by
 have h' := VRel.nilPair ha hb h
 rw [E2 h op t x y ho, E2 h' op t x y ho]
 rcases ho with rfl | rfl
 ·rw [P5 h, P5 h']
  exact (RS.pure (R := fun _ _ _ => True) trivial).bind fun _ l _ _ _ => (RS.eqNil t (ha.mono l) (hb.mono l) (a0J h)).bind fun _ _ r r' hr => by subst hr; exact .pure (.bool _)
 ·rw [P4 h, P4 h']
  exact (RS.pure (R := fun _ _ _ => True) trivial).bind fun _ l _ _ _ => (RS.eqNil t (ha.mono l) (hb.mono l) (a0J h)).bind fun _ _ r r' hr => by subst hr; exact .pure (.bool _)
theorem RS.reg (G : Good P) {ρ ρ' : Operand -> Value} {o : Oper} (hρ : ∀ x ∈ o.op.operands, VRel P ι (ρ x) (ρ' x)) (hok : a2V P A ρ o.op) (hgr : b1c P ι ρ o.op) : RS P nO ι (b3G P) (execOp ρ o) (execOp ρ' o) := by
 obtain ⟨dst, op, type, pos, after, guard⟩ := o
 simp only at hρ hok hgr
 cases op <;> simp only [a2V] at hok <;> simp only [Op.operands] at hρ <;> simp only [execOp]
 case move x => exact .pure (hρ x (by simp))
 case assign x => exact .pure (hρ x (by simp))
 case pick c a b =>
  refine (RS.asBool (hρ c (by simp))).bind fun _ l r r' hr => ?_
  subst hr
  cases r' with
  | true => exact .pure ((hρ a (by simp)).mono l)
  | false => exact .pure ((hρ b (by simp)).mono l)
 case alloc t => exact RS.val (RS.instrAlloc G t)
 case box t x => exact RS.val (RS.instrBox t (hρ x (by simp)))
 case build t ps => exact RS.val (RS.build G t (Ps.map ps hρ))
 case buildSlice t n ps => exact RS.val (RS.buildSlice G t n (Ps.map ps hρ))
 case load t x => exact RS.val (RS.instrLoad t (hρ x (by simp)))
 case store t x y => exact RS.unit (RS.instrStore t (hρ x (by simp)) (hρ y (by simp)))
 case nilCheck x =>
  have hx := hρ x (by simp)
  generalize ρ x = v at hx
  generalize ρ' x = v' at hx
  cases hx with
  | ptr0 => exact RS.never (b9 _)
  | iface0 => exact RS.never (b9 _)
  | func0 => exact RS.never (b9 _)
  | func hf h1 h2 h3 h4 =>
   cases hf with
   | func f => exact .pure (VRel.func (.func f) h1 h2 h3 h4)
   | yield a b => exact .pure (VRel.func (.yield a b) h1 h2 h3 h4)
  | bool b => exact .pure (VRel.bool b)
  | int k n => exact .pure (VRel.int k n)
  | float k n => exact .pure (VRel.float k n)
  | complex k a b => exact .pure (VRel.complex k a b)
  | string s => exact .pure (VRel.string s)
  | ptr h => exact .pure (VRel.ptr h)
  | slice0 l c => exact .pure (VRel.slice0 l c)
  | slice h => exact .pure (VRel.slice h)
  | map0 => exact .pure VRel.map0
  | chan0 => exact .pure VRel.chan0
  | map a b => exact .pure (VRel.map a b)
  | iface t h => exact .pure (VRel.iface t h)
  | agg a b => exact .pure (VRel.agg a b)
  | tuple a b => exact .pure (VRel.tuple a b)
 case binOp op t x y yt =>
  have e : op = .eql ∨ op = .neq := by cases op <;> simp_all
  have h : Abs.nilPair (ρ x) (ρ y) = true := by rcases e with rfl | rfl <;> exact hok
  exact RS.val (RS.binNil e t x y (hρ x (by simp)) (hρ y (by simp)) h)
 case makeFunc fn first cap =>
  obtain ⟨f, rfl⟩ := hok
  exact RS.val (RS.makeFunc (.func f) (Vs.map first ρ ρ' fun x hx => hρ x (by simp [hx])) (Vs.map cap ρ ρ' fun x hx => hρ x (by simp [hx])))
 case makeMap t r => exact RS.val (RS.makeMap t (J7.map r hρ))
 case makeSlice t l c => exact RS.val (RS.makeSlice G t (hρ l (by simp)) (hρ c (by simp)))
 case slice t x lo hi mx =>
  obtain ⟨h1, h2, _⟩ := hok
  exact RS.val (RS.sliceAt t (hρ x (by simp)) (J7.map lo fun y hy => hρ y (by simp at hy ⊢; simp [hy])) (J7.map hi fun y hy => hρ y (by simp at hy ⊢; simp [hy])) (J7.map mx fun y hy => hρ y (by simp at hy ⊢; simp [hy])) h1 hgr h2)
 case fieldAddr t x k => exact RS.val (RS.fieldAt t (hρ x (by simp)) k hok)
 case field t x k => exact RS.val (RS.field t (hρ x (by simp)) k)
 case indexAddr t x i => exact RS.val (RS.indexAt t (hρ x (by simp)) (hρ i (by simp)))
 case index t x i => exact RS.val (RS.index t (hρ x (by simp)) (hρ i (by simp)))
 case extract x i => exact RS.val (RS.extract (hρ x (by simp)) i)
 case call c =>
  obtain ⟨callee, args, ats⟩ := c
  simp only at hok
  have ha : Vs P ι (args.map ρ) (args.map ρ') := Vs.map _ _ _ fun x hx => hρ x (by simp [Call.operands, hx])
  rcases hok with rfl | rfl | rfl | ⟨rfl, hd⟩
  ·exact RS.val (RS.len _ _ ha)
  ·exact RS.val (RS.copy _ _ ha)
  ·exact RS.val (RS.clear G _ _ ha)
  ·exact RS.val (RS.delete _ _ ha hd)
 case lookup t x k ok => exact RS.val (RS.lookup G t (hρ x (by simp)) (hρ k (by simp)) ok hok)
 case mapUpdate t m k x => exact RS.unit (RS.mapUpdate t (hρ m (by simp)) (hρ k (by simp)) (hρ x (by simp)) hok)
end
end Go.Abs
namespace Go.Abs
def a4x : Op -> Bool
 | .select .. | .defer _ | .go _ => false
 | _ => true
def AOp (P : Program) (ρ : Operand -> Value) (o : Oper) (A : World) (nx : Next) (A' : World) : Prop :=
 (∃ v, nx = .value v /\ A' = A /\ r7 v = true /\ (∀ x ∈ o.op.operands, r7 (ρ x) = true) /\ a4x o.op = true /\ ∀ w, (execOp ρ o).run P w = .ok (.value v) w) ∨
 (a2V P A ρ o.op /\ (execOp ρ o).run P A = .ok nx A') ∨
 (∃ c v, o.op = .call c /\ c.callee = .builtin .append /\ nx = .value v /\ b8H P c.argTypes (c.args.map ρ) A v A') ∨
 (∃ c g f first cap fn code, o.op = .call c /\ c.callee = .value g /\ ρ g = .func (.func f) first cap /\ P.funcs[f]? = some fn /\ fn.body = some code /\ (fn.name == "runtime.NumGoroutine") = false /\
  nx = .enter f (first ++ c.args.map ρ ++ cap) /\ A' = A) ∨
 (∃ c g l first cap r, o.op = .call c /\ c.callee = .value g /\ ρ g = .func (.yield l) first cap /\ A.heap[l]? = some (.loop r) /\ (first ++ c.args.map ρ).size = r.params.size /\
  nx = .round l r.fn ((r.params.zip (first ++ c.args.map ρ)).foldl (fun tmps (t, a) => tmps.setIfInBounds t a) r.tmps) r.assign r.body /\ A' = A)
section
variable {P : Program} {nO : Nat} {ι ι' : Ren} {A A' W W' : World}
theorem a4W (ps : Array Tmp) {xs xs' ts ts' : Array Value} (hx : Vs P ι xs xs') (ht : Vs P ι ts ts') :
  Vs P ι ((ps.zip xs).foldl (fun tmps (t, a) => tmps.setIfInBounds t a) ts) ((ps.zip xs').foldl (fun tmps (t, a) => tmps.setIfInBounds t a) ts') := by
 rw [<- Array.foldl_toList, <- Array.foldl_toList, Array.toList_zip, Array.toList_zip]
 have key : ∀ (l : List Tmp) (v v' : List Value) (d d' : Array Value), Vl P ι v v' -> Vs P ι d d' -> Vs P ι ((l.zip v).foldl (fun tmps (t, a) => tmps.setIfInBounds t a) d) ((l.zip v').foldl (fun tmps (t, a) => tmps.setIfInBounds t a) d') := by
  intro l
  induction l with
  | nil => intro v v' d d' _ hd; exact hd
  | cons t l ih =>
   intro v v' d d' hv hd
   match v, v', hv with
   | [], [], _ => exact hd
   | a :: v, b :: v', hv => exact ih v v' _ _ hv.2 (hd.set t hv.1)
 exact key _ _ _ _ _ hx.toList ht
theorem b1V {ρ : Operand -> Value} {o : Oper} {c : Call} {g : Operand} {f : FuncId} {first cap : Array Value} {fn : Func} {code : Code} (ho : o.op = .call c) (hc : c.callee = .value g) (hg : ρ g = .func (.func f) first cap)
  (hf : P.funcs[f]? = some fn) (hb : fn.body = some code) (hn : (fn.name == "runtime.NumGoroutine") = false) : (execOp ρ o).run P W = .ok (.enter f (first ++ c.args.map ρ ++ cap)) W := by
 unfold execOp
 rw [ho]
 simp only [resolve, hc, hg, Deferred.ofValue, invoke, callFunc, Sem.run_bind, Sem.run_pure, Result.andThen]
 simp [program, Sem.run, hf, hb, hn]
theorem a2c {ρ : Operand -> Value} {o : Oper} {c : Call} {g : Operand} {l : Nat} {first cap : Array Value} {r : Loop} (ho : o.op = .call c) (hc : c.callee = .value g) (hg : ρ g = .func (.yield l) first cap)
  (hl : W.heap[l]? = some (.loop r)) (hs : (first ++ c.args.map ρ).size = r.params.size) :
  (execOp ρ o).run P W = .ok (.round l r.fn ((r.params.zip (first ++ c.args.map ρ)).foldl (fun tmps (t, a) => tmps.setIfInBounds t a) r.tmps) r.assign r.body) W := by
 unfold execOp
 rw [ho]
 have hget : (Instr.getLoop l).run P W = .ok r W := by simp [Instr.getLoop, getObj, Sem.run, hl]
 simp only [resolve, hc, hg, Deferred.ofValue, invoke, Sem.run_bind, Sem.run_pure, Result.andThen, Instr.yield, hget]
 rw [if_neg (by simpa using hs)]
 rfl
theorem a5F (G : Good P) {ρ ρ' : Operand -> Value} {o : Oper} {nx : Next} (hρ : ∀ x ∈ o.op.operands, VRel P ι (ρ x) (ρ' x)) (S : Sim P nO ι A W) (h : AOp P ρ o A nx A') (hfree : ∀ b, A.heap.size <= b -> b < A'.heap.size -> ι b = none) :
  ∃ ι' nx' W', (execOp ρ' o).run P W = .ok nx' W' /\ Sim P nO ι' A' W' /\ Moves P ι A W ι' A' W' /\ b3G P ι' nx nx' := by
 rcases h with ⟨v, rfl, rfl, hp, hops, hst, hrun⟩ | ⟨hok, hrun⟩ | ⟨c, v, ho, hc, rfl, happ⟩ | ⟨c, g, f, first, cap, fn, code, ho, hc, hg, hf, hb, hn, rfl, rfl⟩ | ⟨c, g, l, first, cap, r, ho, hc, hg, hl, hs, rfl, rfl⟩
 ·refine ⟨ι, .value v, W, ?_, S, .refl, .of_plain hp⟩
  rw [<- execOp_congr (ρ := ρ) (ρ' := ρ') o (fun cs b e => by rw [e] at hst; cases hst) (fun x hx => ((hρ x hx).plain_eq (hops x hx)).symm)]
  exact hrun W
 ·exact RS.reg G hρ hok (b1c.of S hok) A W nx A' S hrun hfree
 ·obtain ⟨elem, ie, z, base, sLen, sCap, x, n, H, hxs, hn, hcase⟩ := happ
  have hargs : Vs P ι (c.args.map ρ) (c.args.map ρ') := Vs.map _ _ _ fun y hy => hρ y (by rw [ho]; simp [Op.operands, Call.operands, hy])
  rw [hxs] at hargs
  have hsz : (c.args.map ρ').size = 2 := by rw [<- hargs.1]; rfl
  obtain ⟨s', x', hxs'⟩ : ∃ s' x', c.args.map ρ' = #[s', x'] := by
   obtain ⟨s', h1, _⟩ := hargs.at (i := 0) (x := .slice base sLen sCap) rfl
   obtain ⟨x', h2, _⟩ := hargs.at (i := 1) (x := x) rfl
   refine ⟨s', x', Array.ext (by simpa using hsz) fun i h3 h4 => ?_⟩
   match i with
   | 0 => exact (Array.getElem?_eq_some_iff.1 h1).2
   | 1 => exact (Array.getElem?_eq_some_iff.1 h2).2
   | i + 2 => simp at h4; omega
  rw [hxs'] at hargs
  have hsv : VRel P ι (.slice base sLen sCap) s' := hargs.2 0 _ _ rfl rfl
  have hxv : VRel P ι x x' := hargs.2 1 _ _ rfl rfl
  have hex : ∀ v' W', (Builtin.append_ c.argTypes o.type #[s', x']).run P W = .ok v' W' -> (execOp ρ' o).run P W = .ok (.value v') W' := by
   intro v' W' hr
   unfold execOp
   rw [ho]
   simp only [resolve, hc, Sem.run_bind, Sem.run_pure, Result.andThen, invoke, builtin, hxs', hr]
  rcases hcase with ⟨hle, hin⟩ | ⟨hgt, hlc, hb1, hb2, hzs, hnew⟩
  ·obtain ⟨ι', v', W', h1, h2, h3, h4⟩ := a2a G (ty := o.type) H hsv hxv hn hle S hin hfree
   exact ⟨ι', .value v', W', hex _ _ h1, h2, h3, h4⟩
  ·obtain ⟨ι', v', W', h1, h2, h3, h4⟩ := a1p G (ty := o.type) H hzs hsv hxv hn hgt hlc hb1 hb2 S hnew hfree
   exact ⟨ι', .value v', W', hex _ _ h1, h2, h3, h4⟩
 ·have hgv := hρ g (by rw [ho]; simp [Op.operands, Call.operands, hc])
  have hargs : Vs P ι (c.args.map ρ) (c.args.map ρ') := Vs.map _ _ _ fun y hy => hρ y (by rw [ho]; simp [Op.operands, Call.operands, hy])
  rw [hg] at hgv
  generalize hv' : ρ' g = v' at hgv
  cases hgv with
  | func hF h1 h2 h3 h4 =>
   cases hF with
   | func f => exact ⟨ι, _, W, b1V ho hc hv' hf hb hn, S, .refl, rfl, (Vs.append ⟨h1, h3⟩ hargs).append ⟨h2, h4⟩⟩
 ·have hgv := hρ g (by rw [ho]; simp [Op.operands, Call.operands, hc])
  have hargs : Vs P ι (c.args.map ρ) (c.args.map ρ') := Vs.map _ _ _ fun y hy => hρ y (by rw [ho]; simp [Op.operands, Call.operands, hy])
  rw [hg] at hgv
  generalize hv' : ρ' g = v' at hgv
  cases hgv with
  | func hF h1 h2 h3 h4 =>
   cases hF with
   | yield ha hb =>
    rename_i e
    obtain ⟨_, _, o', h5, h6⟩ := S.obj _ _ _ ha hl
    cases o' <;> simp only [z1] at h6
    rename_i r'
    have hall := Vs.append (P := P) (ι := ι) ⟨h1, h3⟩ hargs
    refine ⟨ι, _, W, a2c ho hc hv' h5 (by rw [<- hall.1, hs, h6.params]), S, .refl, ⟨e, ha, hb, rfl⟩, ?_, h6.assign, h6.body, h6.ok.1, h6.ok.2.1⟩
    rw [h6.params]
    exact a4W _ hall h6.tmps
end
end Go.Abs
