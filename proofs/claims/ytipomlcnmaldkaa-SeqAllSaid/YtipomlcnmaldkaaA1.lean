/-
  ABS 1: two runs of one program on two worlds that are alike but for the blocks' numbers and the capacities that 'append' draws: the relation on values and on worlds. No program is named here.
-/
import Derived.WalkKit
import Derived.RangeFuncLeaves
import Derived.OrdersIn
namespace Go.Abs

theorem viewStore_size {p : Program} {w w' : World} {at_ : Addr} {u : TypeId} {k : Addr} {v : Value} {at' : Bool} {l : List Addr}
    (h : w.viewStore p at_ u k v at' = .ok (w', l)) : w'.heap.size = w.heap.size := by
  unfold World.viewStore at h
  simp only [bind, Except.bind, pure, Except.pure] at h
  repeat (split at h <;> try (simp at h; done))
  all_goals (simp only [Except.ok.injEq, Prod.mk.injEq] at h; obtain ⟨rfl, _⟩ := h; simp)

theorem ask_heap {α : Type} (w : World) (x : Ask α) : (w.ask x).2.heap = w.heap := by
  induction x generalizing w with
  | done a => rfl
  | ask what range k ih => simp only [World.ask]; split <;> rw [ih]

theorem run_size {α : Type} (P : Program) (s : Sem α) : ∀ (w : World) (r : α) (w' : World), s.run P w = .ok r w' → w.heap.size ≤ w'.heap.size := by
  induction s with
  | pure a => intro w r w' h; simp [Sem.run] at h; rw [h.2]; exact Nat.le_refl _
  | load m a k ih =>
    intro w r w' h; simp only [Sem.run] at h
    split at h
    · exact ih _ _ _ _ h
    · split at h
      · exact ih _ _ _ _ h
      · cases h
  | store m a v k ih =>
    intro w r w' h
    cases v <;> simp only [Sem.run] at h
    all_goals first
      | (cases h; done)
      | (split at h
         · split at h
           · cases h
           · have := ih _ _ _ h; simpa using this
         · split at h
           · rename_i w1 l hf
             have h1 := ih _ _ _ h
             unfold World.farStore at hf
             split at hf
             · split at hf
               · rename_i q hq
                 simp only [Except.ok.injEq] at hf
                 subst hf
                 rw [viewStore_size hq] at h1; exact h1
               · cases hf
             · cases hf
           · cases h)
  | new o k ih => intro w r w' h; simp only [Sem.run] at h; have := ih _ _ _ _ h; simp at this; omega
  | shape r k ih => intro w r w' h; simp only [Sem.run] at h; exact ih _ _ _ _ h
  | freeze a n k ih =>
    intro w r w' h; simp only [Sem.run] at h; have := ih _ _ _ h
    unfold World.freeze at this; split at this <;> simpa using this
  | frozen a k ih => intro w r w' h; simp only [Sem.run] at h; exact ih _ _ _ _ h
  | getObj r k ih =>
    intro w r w' h; simp only [Sem.run] at h
    split at h
    · cases h
    · exact ih _ _ _ _ h
    · cases h
  | setObj r o k ih =>
    intro w r w' h; simp only [Sem.run] at h
    split at h
    · cases h
    · have := ih _ _ _ h; simpa using this
    · cases h
  | choose q k ih =>
    intro w r w' h; simp only [Sem.run] at h
    split at h
    · exact ih _ _ _ _ h
    · exact ih _ { w with drawn := w.drawn + 1 } _ _ h
  | sys c k ih =>
    intro w r w' h; simp only [Sem.run] at h
    have := ih _ _ _ _ h
    unfold World.sys at this
    have e := ask_heap w (Kernel.perform c w.os)
    split at this
    · exact this
    · rename_i rr os w1 hw
      rw [hw] at e
      simp only at e
      rw [← e]; exact this
  | program k ih => intro w r w' h; simp only [Sem.run] at h; exact ih _ _ _ _ h
  | mark m k ih => intro w r w' h; simp only [Sem.run] at h; exact ih _ _ _ h
  | halt h => intro w r w' h; simp [Sem.run] at h

/-- Where a block of the canonical world lies in the other one: the block, how far its first cell stands within it, and, of a block whose capacity was drawn, its element type and how many cells the other one has. -/
structure Ent where
  blk : Nat
  sh : Nat
  gr : Option (TypeId × Nat)

abbrev Ren := Nat → Option Ent

def Ren.le (ι ι' : Ren) : Prop := ∀ b e, ι b = some e → ι' b = some e
theorem Ren.le.refl (ι : Ren) : ι.le ι := fun _ _ h => h
theorem Ren.le.trans {a b c : Ren} (h : a.le b) (k : b.le c) : a.le c := fun _ _ x => k _ _ (h _ _ x)

def ARel (ι : Ren) (a a' : Addr) : Prop := a.spot = none ∧ a'.spot = none ∧ ∃ e, ι a.block = some e ∧ a'.block = e.blk ∧ a'.off = a.off + e.sh
theorem ARel.mono {ι ι' : Ren} (h : ι.le ι') {a a' : Addr} (r : ARel ι a a') : ARel ι' a a' := ⟨r.1, r.2.1, let ⟨e, x, y⟩ := r.2.2; ⟨e, h _ _ x, y⟩⟩

/-- A slice that is not nil. -/
def SRel (P : Program) (ι : Ren) (a a' : Addr) (len cap cap' : Nat) : Prop :=
  (ARel ι a a' ∧ (cap = cap' ∨ ∃ e t N, ι a.block = some e ∧ e.gr = some (t, N) ∧ cap ≤ cap' ∧ a'.off + cap' * P.cellsOf t ≤ N)) ∨
  (len = 0 ∧ cap = 0 ∧ a.spot = none ∧ ∃ e g, ι a.block = some e ∧ e.gr = some g)
theorem SRel.mono {P : Program} {ι ι' : Ren} (h : ι.le ι') {a a' : Addr} {l c c' : Nat} (r : SRel P ι a a' l c c') : SRel P ι' a a' l c c' := by
  rcases r with ⟨x, y⟩ | ⟨x, y, z, e, g, u, v⟩
  · refine .inl ⟨x.mono h, y.imp id ?_⟩
    rintro ⟨e, t, N, p, q⟩; exact ⟨e, t, N, h _ _ p, q⟩
  · exact .inr ⟨x, y, z, e, g, h _ _ u, v⟩

inductive FRel (ι : Ren) : Fn → Fn → Prop
  | func (f : FuncId) : FRel ι (.func f) (.func f)
  | yield {l : Nat} {e : Ent} (h : ι l = some e) (hs : e.sh = 0) : FRel ι (.yield l) (.yield e.blk)

inductive VRel (P : Program) (ι : Ren) : Value → Value → Prop
  | bool (b : Bool) : VRel P ι (.bool b) (.bool b)
  | int (k : IntKind) (n : Int) : VRel P ι (.int k n) (.int k n)
  | float (k : FloatKind) (n : Nat) : VRel P ι (.float k n) (.float k n)
  | complex (k : FloatKind) (a b : Nat) : VRel P ι (.complex k a b) (.complex k a b)
  | string (s : ByteArray) : VRel P ι (.string s) (.string s)
  | ptr0 : VRel P ι (.pointer none) (.pointer none)
  | ptr {a a' : Addr} (h : ARel ι a a') : VRel P ι (.pointer (some a)) (.pointer (some a'))
  | slice0 (l c : Nat) : VRel P ι (.slice none l c) (.slice none l c)
  | slice {a a' : Addr} {l c c' : Nat} (h : SRel P ι a a' l c c') : VRel P ι (.slice (some a) l c) (.slice (some a') l c')
  | map0 : VRel P ι (.map none) (.map none)
  | chan0 : VRel P ι (.chan none) (.chan none)
  | map {r : Nat} {e : Ent} (h : ι r = some e) (hs : e.sh = 0) : VRel P ι (.map (some r)) (.map (some e.blk))
  | func0 : VRel P ι .nilFunc .nilFunc
  | func {fn fn' : Fn} {xs xs' ys ys' : Array Value} (hf : FRel ι fn fn') (hx : xs.size = xs'.size) (hy : ys.size = ys'.size)
      (h1 : ∀ (i : Nat) (x x' : Value), xs[i]? = some x → xs'[i]? = some x' → VRel P ι x x') (h2 : ∀ (i : Nat) (x x' : Value), ys[i]? = some x → ys'[i]? = some x' → VRel P ι x x') : VRel P ι (.func fn xs ys) (.func fn' xs' ys')
  | iface0 : VRel P ι .nilIface .nilIface
  | iface (t : TypeId) {v v' : Value} (h : VRel P ι v v') : VRel P ι (.iface t v) (.iface t v')
  | agg {xs xs' : Array Value} (hx : xs.size = xs'.size) (h : ∀ (i : Nat) (x x' : Value), xs[i]? = some x → xs'[i]? = some x' → VRel P ι x x') : VRel P ι (.agg xs) (.agg xs')
  | tuple {xs xs' : Array Value} (hx : xs.size = xs'.size) (h : ∀ (i : Nat) (x x' : Value), xs[i]? = some x → xs'[i]? = some x' → VRel P ι x x') : VRel P ι (.tuple xs) (.tuple xs')

/-- Lists of values, place by place. -/
def Vs (P : Program) (ι : Ren) (xs xs' : Array Value) : Prop := xs.size = xs'.size ∧ ∀ (i : Nat) (x x' : Value), xs[i]? = some x → xs'[i]? = some x' → VRel P ι x x'

section
variable {P : Program} {ι ι' : Ren}

theorem FRel.mono (h : ι.le ι') {f f' : Fn} (r : FRel ι f f') : FRel ι' f f' := by
  cases r with
  | func f => exact .func f
  | yield x y => exact .yield (h _ _ x) y

theorem VRel.mono (h : ι.le ι') {v v' : Value} (r : VRel P ι v v') : VRel P ι' v v' := by
  induction r with
  | bool b => exact .bool b
  | int k n => exact .int k n
  | float k n => exact .float k n
  | complex k a b => exact .complex k a b
  | string s => exact .string s
  | ptr0 => exact .ptr0
  | chan0 => exact .chan0
  | ptr x => exact .ptr (x.mono h)
  | slice0 l c => exact .slice0 l c
  | slice x => exact .slice (x.mono h)
  | map0 => exact .map0
  | map x y => exact .map (h _ _ x) y
  | func0 => exact .func0
  | func hf hx hy _ _ i1 i2 => exact .func (hf.mono h) hx hy i1 i2
  | iface0 => exact .iface0
  | iface t _ ih => exact .iface t ih
  | agg hx _ ih => exact .agg hx ih
  | tuple hx _ ih => exact .tuple hx ih

theorem Vs.mono (h : ι.le ι') {xs xs' : Array Value} (r : Vs P ι xs xs') : Vs P ι' xs xs' := ⟨r.1, fun i x x' a b => (r.2 i x x' a b).mono h⟩
theorem Vs.empty : Vs P ι #[] #[] := ⟨rfl, fun i x x' h => by simp at h⟩
theorem Vs.at {xs xs' : Array Value} (r : Vs P ι xs xs') {i : Nat} {x : Value} (h : xs[i]? = some x) : ∃ x', xs'[i]? = some x' ∧ VRel P ι x x' := by
  have hi : i < xs.size := (Array.getElem?_eq_some_iff.1 h).1
  have hi' : i < xs'.size := r.1 ▸ hi
  exact ⟨xs'[i], Array.getElem?_eq_getElem hi', r.2 i _ _ h (Array.getElem?_eq_getElem hi')⟩
theorem Vs.none_at {xs xs' : Array Value} (r : Vs P ι xs xs') {i : Nat} (h : xs[i]? = none) : xs'[i]? = none := by
  have := r.1; simp at *; omega
theorem VRel.undef : VRel P ι undef undef := .tuple rfl (fun i x x' h => by simp at h)
theorem Vs.getD {xs xs' : Array Value} (r : Vs P ι xs xs') (i : Nat) : VRel P ι (xs.getD i undef) (xs'.getD i undef) := by
  cases h : xs[i]? with
  | none => simp only [Array.getD_eq_getD_getElem?, h, r.none_at h, Option.getD_none]; exact .undef
  | some x => obtain ⟨x', h', rr⟩ := r.at h; simp only [Array.getD_eq_getD_getElem?, h, h', Option.getD_some]; exact rr
theorem Vs.set {xs xs' : Array Value} (r : Vs P ι xs xs') (d : Nat) {v v' : Value} (hv : VRel P ι v v') : Vs P ι (xs.setIfInBounds d v) (xs'.setIfInBounds d v') := by
  refine ⟨by simp [r.1], fun i x x' h h' => ?_⟩
  by_cases e : d = i
  · subst e
    simp only [Array.getElem?_setIfInBounds_self] at h h'
    split at h
    · split at h'
      · cases h; cases h'; exact hv
      · cases h'
    · cases h
  · simp only [Array.getElem?_setIfInBounds_ne e] at h h'
    exact r.2 i x x' h h'
theorem Vs.push {xs xs' : Array Value} (r : Vs P ι xs xs') {v v' : Value} (hv : VRel P ι v v') : Vs P ι (xs.push v) (xs'.push v') := by
  refine ⟨by simp [r.1], fun i x x' h h' => ?_⟩
  simp only [Array.getElem?_push, r.1] at h h'
  split at h
  · rename_i e; rw [if_pos e] at h'; cases h; cases h'; exact hv
  · rename_i e; rw [if_neg e] at h'; exact r.2 i x x' h h'
theorem Vs.append {xs xs' ys ys' : Array Value} (r : Vs P ι xs xs') (q : Vs P ι ys ys') : Vs P ι (xs ++ ys) (xs' ++ ys') := by
  refine ⟨by simp [r.1, q.1], fun i x x' h h' => ?_⟩
  simp only [Array.getElem?_append, r.1] at h h'
  split at h
  · rename_i e; rw [if_pos e] at h'; exact r.2 i x x' h h'
  · rename_i e; rw [if_neg e] at h'; exact q.2 _ x x' h h'
theorem Vs.extract {xs xs' : Array Value} (r : Vs P ι xs xs') (a b : Nat) : Vs P ι (xs.extract a b) (xs'.extract a b) := by
  refine ⟨by simp [r.1], fun i x x' h h' => ?_⟩
  simp only [Array.getElem?_extract, r.1] at h h'
  split at h
  · rename_i e; rw [if_pos e] at h'; exact r.2 _ x x' h h'
  · cases h
theorem Vs.replicate (n : Nat) {v v' : Value} (hv : VRel P ι v v') : Vs P ι (Array.replicate n v) (Array.replicate n v') := by
  refine ⟨by simp, fun i x x' h h' => ?_⟩
  simp only [Array.getElem?_replicate] at h h'
  split at h
  · rename_i e; rw [if_pos e] at h'; cases h; cases h'; exact hv
  · cases h
theorem Vs.one {v v' : Value} (hv : VRel P ι v v') : Vs P ι #[v] #[v'] := by
  refine ⟨rfl, fun i x x' h h' => ?_⟩
  cases i with
  | zero => simp at h h'; subst h; subst h'; exact hv
  | succ i => simp at h
theorem VRel.cells {v v' : Value} (r : VRel P ι v v') : Vs P ι v.cells v'.cells := by
  cases r with
  | agg hx h => exact ⟨hx, h⟩
  | bool b => exact .one (.bool b)
  | int k n => exact .one (.int k n)
  | float k n => exact .one (.float k n)
  | complex k a b => exact .one (.complex k a b)
  | string s => exact .one (.string s)
  | ptr0 => exact .one .ptr0
  | chan0 => exact .one .chan0
  | ptr x => exact .one (.ptr x)
  | slice0 l c => exact .one (.slice0 l c)
  | slice x => exact .one (.slice x)
  | map0 => exact .one .map0
  | map x y => exact .one (.map x y)
  | func0 => exact .one .func0
  | func hf hx hy i1 i2 => exact .one (.func hf hx hy i1 i2)
  | iface0 => exact .one .iface0
  | iface t h => exact .one (.iface t h)
  | tuple hx h => exact .one (.tuple hx h)
theorem VRel.ofVs {xs xs' : Array Value} (r : Vs P ι xs xs') : VRel P ι (.agg xs) (.agg xs') := .agg r.1 r.2
theorem VRel.tupleVs {xs xs' : Array Value} (r : Vs P ι xs xs') : VRel P ι (.tuple xs) (.tuple xs') := .tuple r.1 r.2
def isOne : Value → Bool | .agg _ | .tuple _ => false | _ => true
theorem VRel.isOne {v v' : Value} (r : VRel P ι v v') : Abs.isOne v' = Abs.isOne v := by cases r <;> rfl

/-- No address in it. -/
def plainN : Nat → Value → Bool
  | _, .bool _ | _, .int _ _ | _, .float _ _ | _, .complex _ _ _ | _, .string _ | _, .pointer none | _, .slice none _ _ | _, .map none | _, .chan none | _, .nilFunc | _, .nilIface => true
  | n + 1, .agg cs => cs.toList.all (plainN n)
  | n + 1, .tuple cs => cs.toList.all (plainN n)
  | n + 1, .iface _ v => plainN n v
  | n + 1, .func (.func _) xs ys => xs.toList.all (plainN n) && ys.toList.all (plainN n)
  | _, _ => false
def plain (v : Value) : Bool := plainN 3 v

theorem all_at {p : Value → Bool} {xs : Array Value} (h : xs.toList.all p = true) {i : Nat} {x : Value} (hx : xs[i]? = some x) : p x = true := by
  rw [List.all_eq_true] at h
  exact h x (by simpa using Array.mem_of_getElem? hx)

theorem VRel.of_plainN {n : Nat} : ∀ {v : Value}, plainN n v = true → VRel P ι v v := by
  induction n with
  | zero => intro v h; cases v <;> first | exact .bool _ | exact .int _ _ | exact .float _ _ | exact .complex _ _ _ | exact .string _ | exact .func0 | exact .iface0 | (rename_i a; cases a <;> first | exact .ptr0 | exact .map0 | exact .chan0 | (simp [plainN] at h; done)) | (rename_i a b c; cases a <;> first | exact .slice0 _ _ | (simp [plainN] at h; done)) | (simp [plainN] at h; done)
  | succ n ih =>
    intro v h
    cases v with
    | bool b => exact .bool _
    | int k n => exact .int _ _
    | float k n => exact .float _ _
    | complex k a b => exact .complex _ _ _
    | string s => exact .string _
    | pointer a => cases a with | none => exact .ptr0 | some a => simp [plainN] at h
    | slice a l c => cases a with | none => exact .slice0 _ _ | some a => simp [plainN] at h
    | map r => cases r with | none => exact .map0 | some a => simp [plainN] at h
    | chan r => cases r with | none => exact .chan0 | some a => simp [plainN] at h
    | nilFunc => exact .func0
    | nilIface => exact .iface0
    | func fn xs ys =>
      cases fn with
      | func f =>
        simp only [plainN, Bool.and_eq_true] at h
        exact .func (.func f) rfl rfl (fun i x x' hx hx' => by rw [hx] at hx'; cases hx'; exact ih (all_at h.1 hx)) (fun i x x' hx hx' => by rw [hx] at hx'; cases hx'; exact ih (all_at h.2 hx))
      | _ => simp [plainN] at h
    | iface t v => exact .iface t (ih h)
    | agg cs => exact .agg rfl (fun i x x' hx hx' => by rw [hx] at hx'; cases hx'; exact ih (all_at h hx))
    | tuple cs => exact .tuple rfl (fun i x x' hx hx' => by rw [hx] at hx'; cases hx'; exact ih (all_at h hx))
theorem VRel.of_plain {v : Value} (h : plain v = true) : VRel P ι v v := of_plainN h

theorem arr_eq {xs xs' : Array Value} (hs : xs.size = xs'.size) (h : ∀ (i : Nat) (x x' : Value), xs[i]? = some x → xs'[i]? = some x' → x' = x) : xs' = xs := by
  apply Array.ext hs.symm
  intro i h1 h2
  exact h i _ _ (Array.getElem?_eq_getElem h2) (Array.getElem?_eq_getElem h1)

theorem VRel.plainN_eq {v v' : Value} (r : VRel P ι v v') : ∀ n, plainN n v = true → v' = v := by
  induction r with
  | ptr x => intro n h; cases n <;> simp [plainN] at h
  | slice x => intro n h; cases n <;> simp [plainN] at h
  | map x y => intro n h; cases n <;> simp [plainN] at h
  | func hf hx hy _ _ i1 i2 =>
    intro n h
    cases hf with
    | func f =>
      cases n with
      | zero => simp [plainN] at h
      | succ n =>
        simp only [plainN, Bool.and_eq_true] at h
        rw [arr_eq hx (fun i x x' a b => i1 i x x' a b n (all_at h.1 a)), arr_eq hy (fun i x x' a b => i2 i x x' a b n (all_at h.2 a))]
    | yield x y => cases n <;> simp [plainN] at h
  | iface t _ ih =>
    intro n h
    cases n with
    | zero => simp [plainN] at h
    | succ n => rw [ih n h]
  | agg hx _ ih =>
    intro n h
    cases n with
    | zero => simp [plainN] at h
    | succ n => rw [arr_eq hx (fun i x x' a b => ih i x x' a b n (all_at h a))]
  | tuple hx _ ih =>
    intro n h
    cases n with
    | zero => simp [plainN] at h
    | succ n => rw [arr_eq hx (fun i x x' a b => ih i x x' a b n (all_at h a))]
  | _ => intro n _; rfl
theorem VRel.plain_eq {v v' : Value} (r : VRel P ι v v') (h : plain v = true) : v' = v := r.plainN_eq 3 h
/-- No operand of code bears an address. -/
def opndOk : Operand → Bool
  | .const v => plain v
  | .global _ => false
  | _ => true
def operOk (o : Oper) : Bool := o.op.operands.toList.all opndOk && (match o.op with | .defer _ => false | _ => true)
def codeOk : Code → Bool
  | .region _ ops _ => ops.toList.all operOk
  | .seq a b => codeOk a && codeOk b
  | .cond c a b => opndOk c && codeOk a && codeOk b
  | .block _ b | .loop b | .scope b => codeOk b
  | .rangeFunc g _ a b => opndOk g && codeOk a && codeOk b
  | _ => true
end
end Go.Abs
