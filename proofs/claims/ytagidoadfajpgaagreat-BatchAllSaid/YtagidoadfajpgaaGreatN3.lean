/-
  A1.
-/
import Derived.WalkKit
import Derived.RangeFuncLeaves
import Derived.OrdersIn
namespace Go.Abs
theorem a1n {p : Program} {w w' : World} {at_ : Addr} {u : TypeId} {k : Addr} {v : Value} {at' : Bool} {l : List Addr}
    (h : w.viewStore p at_ u k v at' = .ok (w', l)) : w'.heap.size = w.heap.size := by
  unfold World.viewStore at h
  simp only [bind, Except.bind, pure, Except.pure] at h
  repeat (split at h <;> try (simp at h; done))
  all_goals (simp only [Except.ok.injEq, Prod.mk.injEq] at h; obtain ⟨rfl, _⟩ := h; simp)
theorem b3u {α : Type} (w : World) (x : Ask α) : (w.ask x).2.heap = w.heap := by
  induction x generalizing w with
  | done a => rfl
  | ask what range k ih => simp only [World.ask]; split <;> rw [ih]
theorem x9 {α : Type} (P : Program) (s : Sem α) : ∀ (w : World) (r : α) (w' : World), s.run P w = .ok r w' -> w.heap.size <= w'.heap.size := by
  induction s with
  | pure a => intro w r w' h; simp [Sem.run] at h; rw [h.2]; exact Nat.le_refl _
  | load m a k ih =>
    intro w r w' h; simp only [Sem.run] at h
    split at h
    · exact ih _ _ _ _ h
    · split at h
      · exact ih _ _ _ _ h
      · cases h
  | store m a v k ih =>
    intro w r w' h
    cases v <;> simp only [Sem.run] at h
    all_goals first
      | (cases h; done)
      | (split at h
         · split at h
           · cases h
           · have := ih _ _ _ h; simpa using this
         · split at h
           · rename_i w1 l hf
             have h1 := ih _ _ _ h
             unfold World.farStore at hf
             split at hf
             · split at hf
               · rename_i q hq
                 simp only [Except.ok.injEq] at hf
                 subst hf
                 rw [a1n hq] at h1; exact h1
               · cases hf
             · cases hf
           · cases h)
  | new o k ih => intro w r w' h; simp only [Sem.run] at h; have := ih _ _ _ _ h; simp at this; omega
  | shape r k ih => intro w r w' h; simp only [Sem.run] at h; exact ih _ _ _ _ h
  | freeze a n k ih =>
    intro w r w' h; simp only [Sem.run] at h; have := ih _ _ _ h
    unfold World.freeze at this; split at this <;> simpa using this
  | frozen a k ih => intro w r w' h; simp only [Sem.run] at h; exact ih _ _ _ _ h
  | getObj r k ih =>
    intro w r w' h; simp only [Sem.run] at h
    split at h
    · cases h
    · exact ih _ _ _ _ h
    · cases h
  | setObj r o k ih =>
    intro w r w' h; simp only [Sem.run] at h
    split at h
    · cases h
    · have := ih _ _ _ h; simpa using this
    · cases h
  | choose q k ih =>
    intro w r w' h; simp only [Sem.run] at h
    split at h
    · exact ih _ _ _ _ h
    · exact ih _ { w with drawn := w.drawn + 1 } _ _ h
  | sys c k ih =>
    intro w r w' h; simp only [Sem.run] at h
    have := ih _ _ _ _ h
    unfold World.sys at this
    have e := b3u w (Kernel.perform c w.os)
    split at this
    · exact this
    · rename_i rr os w1 hw
      rw [hw] at e
      simp only at e
      rw [<- e]; exact this
  | program k ih => intro w r w' h; simp only [Sem.run] at h; exact ih _ _ _ _ h
  | mark m k ih => intro w r w' h; simp only [Sem.run] at h; exact ih _ _ _ h
  | halt h => intro w r w' h; simp [Sem.run] at h
structure Ent where
  blk : Nat
  sh : Nat
  gr : Option (TypeId × Nat)
abbrev Ren := Nat -> Option Ent
def Ren.le (ι ι' : Ren) : Prop := ∀ b e, ι b = some e -> ι' b = some e
theorem Ren.le.refl (ι : Ren) : ι.le ι := fun _ _ h => h
theorem Ren.le.trans {a b c : Ren} (h : a.le b) (k : b.le c) : a.le c := fun _ _ x => k _ _ (h _ _ x)
def a1m (ι : Ren) (a a' : Addr) : Prop := a.spot = none /\ a'.spot = none /\ ∃ e, ι a.block = some e /\ a'.block = e.blk /\ a'.off = a.off + e.sh
theorem a1m.mono {ι ι' : Ren} (h : ι.le ι') {a a' : Addr} (r : a1m ι a a') : a1m ι' a a' := ⟨r.1, r.2.1, let ⟨e, x, y⟩ := r.2.2; ⟨e, h _ _ x, y⟩⟩
def b1l (P : Program) (ι : Ren) (a a' : Addr) (len cap cap' : Nat) : Prop :=
  (a1m ι a a' /\ (cap = cap' ∨ ∃ e t N, ι a.block = some e /\ e.gr = some (t, N) /\ cap <= cap' /\ a'.off + cap' * P.cellsOf t <= N)) ∨
  (len = 0 /\ cap = 0 /\ a.spot = none /\ ∃ e g, ι a.block = some e /\ e.gr = some g)
theorem b1l.mono {P : Program} {ι ι' : Ren} (h : ι.le ι') {a a' : Addr} {l c c' : Nat} (r : b1l P ι a a' l c c') : b1l P ι' a a' l c c' := by
  rcases r with ⟨x, y⟩ | ⟨x, y, z, e, g, u, v⟩
  · refine .inl ⟨x.mono h, y.imp id ?_⟩
    rintro ⟨e, t, N, p, q⟩; exact ⟨e, t, N, h _ _ p, q⟩
  · exact .inr ⟨x, y, z, e, g, h _ _ u, v⟩
inductive FRel (ι : Ren) : Fn -> Fn -> Prop
  | func (f : FuncId) : FRel ι (.func f) (.func f)
  | yield {l : Nat} {e : Ent} (h : ι l = some e) (hs : e.sh = 0) : FRel ι (.yield l) (.yield e.blk)
inductive VRel (P : Program) (ι : Ren) : Value -> Value -> Prop
  | bool (b : Bool) : VRel P ι (.bool b) (.bool b)
  | int (k : IntKind) (n : Int) : VRel P ι (.int k n) (.int k n)
  | float (k : FloatKind) (n : Nat) : VRel P ι (.float k n) (.float k n)
  | complex (k : FloatKind) (a b : Nat) : VRel P ι (.complex k a b) (.complex k a b)
  | string (s : ByteArray) : VRel P ι (.string s) (.string s)
  | ptr0 : VRel P ι (.pointer none) (.pointer none)
  | ptr {a a' : Addr} (h : a1m ι a a') : VRel P ι (.pointer (some a)) (.pointer (some a'))
  | slice0 (l c : Nat) : VRel P ι (.slice none l c) (.slice none l c)
  | slice {a a' : Addr} {l c c' : Nat} (h : b1l P ι a a' l c c') : VRel P ι (.slice (some a) l c) (.slice (some a') l c')
  | map0 : VRel P ι (.map none) (.map none)
  | chan0 : VRel P ι (.chan none) (.chan none)
  | map {r : Nat} {e : Ent} (h : ι r = some e) (hs : e.sh = 0) : VRel P ι (.map (some r)) (.map (some e.blk))
  | func0 : VRel P ι .nilFunc .nilFunc
  | func {fn fn' : Fn} {xs xs' ys ys' : Array Value} (hf : FRel ι fn fn') (hx : xs.size = xs'.size) (hy : ys.size = ys'.size)
      (h1 : ∀ (i : Nat) (x x' : Value), xs[i]? = some x -> xs'[i]? = some x' -> VRel P ι x x') (h2 : ∀ (i : Nat) (x x' : Value), ys[i]? = some x -> ys'[i]? = some x' -> VRel P ι x x') : VRel P ι (.func fn xs ys) (.func fn' xs' ys')
  | iface0 : VRel P ι .nilIface .nilIface
  | iface (t : TypeId) {v v' : Value} (h : VRel P ι v v') : VRel P ι (.iface t v) (.iface t v')
  | agg {xs xs' : Array Value} (hx : xs.size = xs'.size) (h : ∀ (i : Nat) (x x' : Value), xs[i]? = some x -> xs'[i]? = some x' -> VRel P ι x x') : VRel P ι (.agg xs) (.agg xs')
  | tuple {xs xs' : Array Value} (hx : xs.size = xs'.size) (h : ∀ (i : Nat) (x x' : Value), xs[i]? = some x -> xs'[i]? = some x' -> VRel P ι x x') : VRel P ι (.tuple xs) (.tuple xs')
def Vs (P : Program) (ι : Ren) (xs xs' : Array Value) : Prop := xs.size = xs'.size /\ ∀ (i : Nat) (x x' : Value), xs[i]? = some x -> xs'[i]? = some x' -> VRel P ι x x'
section
variable {P : Program} {ι ι' : Ren}
theorem FRel.mono (h : ι.le ι') {f f' : Fn} (r : FRel ι f f') : FRel ι' f f' := by
  cases r with
  | func f => exact .func f
  | yield x y => exact .yield (h _ _ x) y
theorem VRel.mono (h : ι.le ι') {v v' : Value} (r : VRel P ι v v') : VRel P ι' v v' := by
  induction r with
  | bool b => exact .bool b
  | int k n => exact .int k n
  | float k n => exact .float k n
  | complex k a b => exact .complex k a b
  | string s => exact .string s
  | ptr0 => exact .ptr0
  | chan0 => exact .chan0
  | ptr x => exact .ptr (x.mono h)
  | slice0 l c => exact .slice0 l c
  | slice x => exact .slice (x.mono h)
  | map0 => exact .map0
  | map x y => exact .map (h _ _ x) y
  | func0 => exact .func0
  | func hf hx hy _ _ i1 i2 => exact .func (hf.mono h) hx hy i1 i2
  | iface0 => exact .iface0
  | iface t _ ih => exact .iface t ih
  | agg hx _ ih => exact .agg hx ih
  | tuple hx _ ih => exact .tuple hx ih
theorem Vs.mono (h : ι.le ι') {xs xs' : Array Value} (r : Vs P ι xs xs') : Vs P ι' xs xs' := ⟨r.1, fun i x x' a b => (r.2 i x x' a b).mono h⟩
theorem Vs.empty : Vs P ι #[] #[] := ⟨rfl, fun i x x' h => by simp at h⟩
theorem Vs.at {xs xs' : Array Value} (r : Vs P ι xs xs') {i : Nat} {x : Value} (h : xs[i]? = some x) : ∃ x', xs'[i]? = some x' /\ VRel P ι x x' := by
  have hi : i < xs.size := (Array.getElem?_eq_some_iff.1 h).1
  have hi' : i < xs'.size := r.1 ▸ hi
  exact ⟨xs'[i], Array.getElem?_eq_getElem hi', r.2 i _ _ h (Array.getElem?_eq_getElem hi')⟩
theorem Vs.none_at {xs xs' : Array Value} (r : Vs P ι xs xs') {i : Nat} (h : xs[i]? = none) : xs'[i]? = none := by
  have := r.1; simp at *; omega
theorem VRel.undef : VRel P ι undef undef := .tuple rfl (fun i x x' h => by simp at h)
theorem Vs.getD {xs xs' : Array Value} (r : Vs P ι xs xs') (i : Nat) : VRel P ι (xs.getD i undef) (xs'.getD i undef) := by
  cases h : xs[i]? with
  | none => simp only [Array.getD_eq_getD_getElem?, h, r.none_at h, Option.getD_none]; exact .undef
  | some x => obtain ⟨x', h', rr⟩ := r.at h; simp only [Array.getD_eq_getD_getElem?, h, h', Option.getD_some]; exact rr
theorem Vs.set {xs xs' : Array Value} (r : Vs P ι xs xs') (d : Nat) {v v' : Value} (hv : VRel P ι v v') : Vs P ι (xs.setIfInBounds d v) (xs'.setIfInBounds d v') := by
  refine ⟨by simp [r.1], fun i x x' h h' => ?_⟩
  by_cases e : d = i
  · subst e
    simp only [Array.getElem?_setIfInBounds_self] at h h'
    split at h
    · split at h'
      · cases h; cases h'; exact hv
      · cases h'
    · cases h
  · simp only [Array.getElem?_setIfInBounds_ne e] at h h'
    exact r.2 i x x' h h'
theorem Vs.push {xs xs' : Array Value} (r : Vs P ι xs xs') {v v' : Value} (hv : VRel P ι v v') : Vs P ι (xs.push v) (xs'.push v') := by
  refine ⟨by simp [r.1], fun i x x' h h' => ?_⟩
  simp only [Array.getElem?_push, r.1] at h h'
  split at h
  · rename_i e; rw [if_pos e] at h'; cases h; cases h'; exact hv
  · rename_i e; rw [if_neg e] at h'; exact r.2 i x x' h h'
theorem Vs.append {xs xs' ys ys' : Array Value} (r : Vs P ι xs xs') (q : Vs P ι ys ys') : Vs P ι (xs ++ ys) (xs' ++ ys') := by
  refine ⟨by simp [r.1, q.1], fun i x x' h h' => ?_⟩
  simp only [Array.getElem?_append, r.1] at h h'
  split at h
  · rename_i e; rw [if_pos e] at h'; exact r.2 i x x' h h'
  · rename_i e; rw [if_neg e] at h'; exact q.2 _ x x' h h'
theorem Vs.extract {xs xs' : Array Value} (r : Vs P ι xs xs') (a b : Nat) : Vs P ι (xs.extract a b) (xs'.extract a b) := by
  refine ⟨by simp [r.1], fun i x x' h h' => ?_⟩
  simp only [Array.getElem?_extract, r.1] at h h'
  split at h
  · rename_i e; rw [if_pos e] at h'; exact r.2 _ x x' h h'
  · cases h
theorem Vs.replicate (n : Nat) {v v' : Value} (hv : VRel P ι v v') : Vs P ι (Array.replicate n v) (Array.replicate n v') := by
  refine ⟨by simp, fun i x x' h h' => ?_⟩
  simp only [Array.getElem?_replicate] at h h'
  split at h
  · rename_i e; rw [if_pos e] at h'; cases h; cases h'; exact hv
  · cases h
theorem Vs.one {v v' : Value} (hv : VRel P ι v v') : Vs P ι #[v] #[v'] := by
  refine ⟨rfl, fun i x x' h h' => ?_⟩
  cases i with
  | zero => simp at h h'; subst h; subst h'; exact hv
  | succ i => simp at h
theorem VRel.cells {v v' : Value} (r : VRel P ι v v') : Vs P ι v.cells v'.cells := by
  cases r with
  | agg hx h => exact ⟨hx, h⟩
  | bool b => exact .one (.bool b)
  | int k n => exact .one (.int k n)
  | float k n => exact .one (.float k n)
  | complex k a b => exact .one (.complex k a b)
  | string s => exact .one (.string s)
  | ptr0 => exact .one .ptr0
  | chan0 => exact .one .chan0
  | ptr x => exact .one (.ptr x)
  | slice0 l c => exact .one (.slice0 l c)
  | slice x => exact .one (.slice x)
  | map0 => exact .one .map0
  | map x y => exact .one (.map x y)
  | func0 => exact .one .func0
  | func hf hx hy i1 i2 => exact .one (.func hf hx hy i1 i2)
  | iface0 => exact .one .iface0
  | iface t h => exact .one (.iface t h)
  | tuple hx h => exact .one (.tuple hx h)
theorem VRel.ofVs {xs xs' : Array Value} (r : Vs P ι xs xs') : VRel P ι (.agg xs) (.agg xs') := .agg r.1 r.2
theorem VRel.tupleVs {xs xs' : Array Value} (r : Vs P ι xs xs') : VRel P ι (.tuple xs) (.tuple xs') := .tuple r.1 r.2
def isOne : Value -> Bool | .agg _ | .tuple _ => false | _ => true
theorem VRel.isOne {v v' : Value} (r : VRel P ι v v') : Abs.isOne v' = Abs.isOne v := by cases r <;> rfl
def n3 : Nat -> Value -> Bool
  | _, .bool _ | _, .int _ _ | _, .float _ _ | _, .complex _ _ _ | _, .string _ | _, .pointer none | _, .slice none _ _ | _, .map none | _, .chan none | _, .nilFunc | _, .nilIface => true
  | n + 1, .agg cs => cs.toList.all (n3 n)
  | n + 1, .tuple cs => cs.toList.all (n3 n)
  | n + 1, .iface _ v => n3 n v
  | n + 1, .func (.func _) xs ys => xs.toList.all (n3 n) && ys.toList.all (n3 n)
  | _, _ => false
def r7 (v : Value) : Bool := n3 3 v
theorem a0e {p : Value -> Bool} {xs : Array Value} (h : xs.toList.all p = true) {i : Nat} {x : Value} (hx : xs[i]? = some x) : p x = true := by
  rw [List.all_eq_true] at h
  exact h x (by simpa using Array.mem_of_getElem? hx)
theorem VRel.of_plainN {n : Nat} : ∀ {v : Value}, n3 n v = true -> VRel P ι v v := by
  induction n with
  | zero => intro v h; cases v <;> first | exact .bool _ | exact .int _ _ | exact .float _ _ | exact .complex _ _ _ | exact .string _ | exact .func0 | exact .iface0 | (rename_i a; cases a <;> first | exact .ptr0 | exact .map0 | exact .chan0 | (simp [n3] at h; done)) | (rename_i a b c; cases a <;> first | exact .slice0 _ _ | (simp [n3] at h; done)) | (simp [n3] at h; done)
  | succ n ih =>
    intro v h
    cases v with
    | bool b => exact .bool _
    | int k n => exact .int _ _
    | float k n => exact .float _ _
    | complex k a b => exact .complex _ _ _
    | string s => exact .string _
    | pointer a => cases a with | none => exact .ptr0 | some a => simp [n3] at h
    | slice a l c => cases a with | none => exact .slice0 _ _ | some a => simp [n3] at h
    | map r => cases r with | none => exact .map0 | some a => simp [n3] at h
    | chan r => cases r with | none => exact .chan0 | some a => simp [n3] at h
    | nilFunc => exact .func0
    | nilIface => exact .iface0
    | func fn xs ys =>
      cases fn with
      | func f =>
        simp only [n3, Bool.and_eq_true] at h
        exact .func (.func f) rfl rfl (fun i x x' hx hx' => by rw [hx] at hx'; cases hx'; exact ih (a0e h.1 hx)) (fun i x x' hx hx' => by rw [hx] at hx'; cases hx'; exact ih (a0e h.2 hx))
      | _ => simp [n3] at h
    | iface t v => exact .iface t (ih h)
    | agg cs => exact .agg rfl (fun i x x' hx hx' => by rw [hx] at hx'; cases hx'; exact ih (a0e h hx))
    | tuple cs => exact .tuple rfl (fun i x x' hx hx' => by rw [hx] at hx'; cases hx'; exact ih (a0e h hx))
theorem VRel.of_plain {v : Value} (h : r7 v = true) : VRel P ι v v := of_plainN h
theorem a6x {xs xs' : Array Value} (hs : xs.size = xs'.size) (h : ∀ (i : Nat) (x x' : Value), xs[i]? = some x -> xs'[i]? = some x' -> x' = x) : xs' = xs := by
  apply Array.ext hs.symm
  intro i h1 h2
  exact h i _ _ (Array.getElem?_eq_getElem h2) (Array.getElem?_eq_getElem h1)
theorem VRel.plainN_eq {v v' : Value} (r : VRel P ι v v') : ∀ n, n3 n v = true -> v' = v := by
  induction r with
  | ptr x => intro n h; cases n <;> simp [n3] at h
  | slice x => intro n h; cases n <;> simp [n3] at h
  | map x y => intro n h; cases n <;> simp [n3] at h
  | func hf hx hy _ _ i1 i2 =>
    intro n h
    cases hf with
    | func f =>
      cases n with
      | zero => simp [n3] at h
      | succ n =>
        simp only [n3, Bool.and_eq_true] at h
        rw [a6x hx (fun i x x' a b => i1 i x x' a b n (a0e h.1 a)), a6x hy (fun i x x' a b => i2 i x x' a b n (a0e h.2 a))]
    | yield x y => cases n <;> simp [n3] at h
  | iface t _ ih =>
    intro n h
    cases n with
    | zero => simp [n3] at h
    | succ n => rw [ih n h]
  | agg hx _ ih =>
    intro n h
    cases n with
    | zero => simp [n3] at h
    | succ n => rw [a6x hx (fun i x x' a b => ih i x x' a b n (a0e h a))]
  | tuple hx _ ih =>
    intro n h
    cases n with
    | zero => simp [n3] at h
    | succ n => rw [a6x hx (fun i x x' a b => ih i x x' a b n (a0e h a))]
  | _ => intro n _; rfl
theorem VRel.plain_eq {v v' : Value} (r : VRel P ι v v') (h : r7 v = true) : v' = v := r.plainN_eq 3 h
def a3x : Operand -> Bool
  | .const v => r7 v
  | .global _ => false
  | _ => true
def J9 (o : Oper) : Bool := o.op.operands.toList.all a3x && (match o.op with | .defer _ => false | _ => true)
def l0 : Code -> Bool
  | .region _ ops _ => ops.toList.all J9
  | .seq a b => l0 a && l0 b
  | .cond c a b => a3x c && l0 a && l0 b
  | .block _ b | .loop b | .scope b => l0 b
  | .rangeFunc g _ a b => a3x g && l0 a && l0 b
  | _ => true
end
end Go.Abs
namespace Go.Abs
def wr : Obj -> Bool
 | .cells _ _ fz => !(decide (fz.1 < fz.2)) && fz.1 != 2
 | _ => true
def alive : Obj -> Bool
 | .cells _ _ fz => !(!(decide (fz.1 < fz.2)) && fz.1 == 2)
 | _ => true
theorem G5 {o : Obj} (h : wr o = true) : alive o = true := by cases o <;> simp_all [wr, alive]
structure EntryRel (P : Program) (ι : Ren) (x y : MapEntry) : Prop where
 key : VRel P ι x.key y.key
 val : VRel P ι x.val y.val
 born : x.born = y.born
def H5 (P : Program) (ι : Ren) (es es' : Array MapEntry) : Prop := es.size = es'.size /\ ∀ (i : Nat) (x y : MapEntry), es[i]? = some x -> es'[i]? = some y -> EntryRel P ι x y
structure LRel (P : Program) (ι : Ren) (l l' : Loop) : Prop where
 state : l'.state = l.state
 pending : l'.pending = l.pending
 tmps : Vs P ι l.tmps l'.tmps
 params : l'.params = l.params
 assign : l'.assign = l.assign
 body : l'.body = l.body
 ok : l0 l.assign = true /\ l0 l.body = true /\ ∀ c, l.pending = some c -> l0 c = true
 defers : ∃ e, ι l.defers = some e /\ e.sh = 0 /\ l'.defers = e.blk
def z1 (P : Program) (ι : Ren) : Obj -> Obj -> Prop
 | .map es c, .map es' c' => c' = c /\ H5 P ι es es'
 | .loop l, .loop l' => LRel P ι l l'
 | .deferred ds, .deferred ds' => ds' = ds /\ (ds = some [] ∨ ds = none)
 | _, _ => False
def a7G (P : Program) (nO : Nat) (ι : Ren) (e : Ent) (W : World) : Obj -> Prop
 | .cells c t fz => (fz = (2, 0) /\ c = #[]) ∨ ∃ c' t' fz', W.heap[e.blk]? = some (.cells c' t' fz') /\ (∀ (i : Nat) x, c[i]? = some x -> ∃ x', c'[i + e.sh]? = some x' /\ VRel P ι x x') /\
   (fz = (0, 0) ∨ fz = (1, 0) ∨ (fz.1 = 0 /\ c.size < fz.2)) /\ (¬ fz.1 < fz.2 -> nO <= e.blk /\ ¬ fz'.1 < fz'.2) /\
   (fz = (1, 0) -> e.gr = some (t, c'.size)) /\ (fz ≠ (1, 0) -> e.gr = none)
 | o => e.sh = 0 /\ nO <= e.blk /\ ∃ o', W.heap[e.blk]? = some o' /\ z1 P ι o o'
structure Sim (P : Program) (nO : Nat) (ι : Ren) (A W : World) : Prop where
 obj : ∀ b e o, ι b = some e -> A.heap[b]? = some o -> a7G P nO ι e W o
 inj : ∀ b b' e e' o o', ι b = some e -> ι b' = some e' -> A.heap[b]? = some o -> A.heap[b']? = some o' -> wr o = true -> alive o' = true -> e.blk = e'.blk -> b = b'
 dom : ∀ b e, ι b = some e -> e.blk < W.heap.size
 lo : nO <= W.heap.size
structure Moves (P : Program) (ι : Ren) (A W : World) (ι' : Ren) (A' W' : World) : Prop where
 le : ι.le ι'
 news : ∀ b e, ι b = none -> ι' b = some e -> A.heap.size <= b /\ b < A'.heap.size
 keep : ∀ b, b < W.heap.size -> (∀ k e o, ι k = some e -> A.heap[k]? = some o -> wr o = true -> e.blk ≠ b) -> W'.heap[b]? = W.heap[b]?
 img : ∀ k e o, ι' k = some e -> A'.heap[k]? = some o -> wr o = true -> e.blk < W.heap.size -> ∃ k0 e0 o0, ι k0 = some e0 /\ A.heap[k0]? = some o0 /\ wr o0 = true /\ e0.blk = e.blk
 fresh : ∀ k e, ι k = none -> ι' k = some e -> W.heap.size <= e.blk ∨ ∃ k0 e0 o0, ι k0 = some e0 /\ A.heap[k0]? = some o0 /\ wr o0 = true /\ e0.blk = e.blk
 asz : A.heap.size <= A'.heap.size
 wsz : W.heap.size <= W'.heap.size
 os : W'.os = W.os
 tape : W'.tape = W.tape
 output : W'.output = W.output
section
variable {P : Program} {nO : Nat} {ι ι' ι'' : Ren} {A A' A'' W W' W'' : World}
theorem Moves.refl : Moves P ι A W ι A W :=
 ⟨.refl ι, fun b e h h' => by rw [h] at h'; (cases h'), fun _ _ _ => rfl, fun k e o h h' hw _ => ⟨k, e, o, h, h', hw, rfl⟩, fun k e h h' => by rw [h] at h'; (cases h'), Nat.le_refl _, Nat.le_refl _, rfl, rfl, rfl⟩
theorem Moves.trans (h : Moves P ι A W ι' A' W') (k : Moves P ι' A' W' ι'' A'' W'') : Moves P ι A W ι'' A'' W'' where
 le := h.le.trans k.le
 news b e hb he := by
  cases hb' : ι' b with
  | none => have := k.news b e hb' he; have := h.asz; omega
  | some e' => have := h.news b e' hb hb'; have := k.asz; omega
 keep b hb hn := by
  rw [k.keep b (Nat.lt_of_lt_of_le hb h.wsz) ?_, h.keep b hb hn]
  intro q e o hq ho hw hbe
  obtain ⟨k0, e0, o0, x, y, z, u⟩ := h.img q e o hq ho hw (hbe ▸ hb)
  exact hn k0 e0 o0 x y z (u.trans hbe)
 img q e o hq ho hw hb := by
  obtain ⟨k1, e1, o1, x, y, z, u⟩ := k.img q e o hq ho hw (Nat.lt_of_lt_of_le hb h.wsz)
  obtain ⟨k0, e0, o0, x0, y0, z0, u0⟩ := h.img k1 e1 o1 x y z (u ▸ hb)
  exact ⟨k0, e0, o0, x0, y0, z0, u0.trans u⟩
 fresh q e hq he := by
  cases hq' : ι' q with
  | none =>
   rcases k.fresh q e hq' he with h1 | ⟨k1, e1, o1, x, y, z, u⟩
   ·exact .inl (Nat.le_trans h.wsz h1)
   ·by_cases hlt : e.blk < W.heap.size
    ·obtain ⟨k0, e0, o0, x0, y0, z0, u0⟩ := h.img k1 e1 o1 x y z (u ▸ hlt)
     exact .inr ⟨k0, e0, o0, x0, y0, z0, u0.trans u⟩
    ·exact .inl (by omega)
  | some e' =>
   have := k.le q e' hq'
   rw [he] at this; cases this
   exact h.fresh q e hq hq'
 asz := Nat.le_trans h.asz k.asz
 wsz := Nat.le_trans h.wsz k.wsz
 os := k.os.trans h.os
 tape := k.tape.trans h.tape
 output := k.output.trans h.output
theorem H5.mono (h : ι.le ι') {es es' : Array MapEntry} (r : H5 P ι es es') : H5 P ι' es es' := ⟨r.1, fun i x y a b => let q := r.2 i x y a b; ⟨q.key.mono h, q.val.mono h, q.born⟩⟩
theorem LRel.mono (h : ι.le ι') {l l' : Loop} (r : LRel P ι l l') : LRel P ι' l l' := ⟨r.state, r.pending, r.tmps.mono h, r.params, r.assign, r.body, r.ok, let ⟨e, a, b⟩ := r.defers; ⟨e, h _ _ a, b⟩⟩
theorem z1.mono (h : ι.le ι') {o o' : Obj} (r : z1 P ι o o') : z1 P ι' o o' := by
 unfold z1 at *
 split at r
 ·exact ⟨r.1, r.2.mono h⟩
 ·exact LRel.mono h r
 ·exact r
 ·exact r.elim
theorem a7G.later (h : ι.le ι') {e : Ent} {o : Obj} (hb : W'.heap[e.blk]? = W.heap[e.blk]?) (r : a7G P nO ι e W o) : a7G P nO ι' e W' o := by
 cases o with
 | cells c t fz =>
  rcases r with h0 | ⟨c', t', fz', h1, h2, h3⟩
  ·exact .inl h0
  ·exact .inr ⟨c', t', fz', hb.trans h1, fun i x hx => let ⟨x', p, q⟩ := h2 i x hx; ⟨x', p, q.mono h⟩, h3⟩
 | _ =>
  obtain ⟨h1, h2, o', h3, h4⟩ := r
  exact ⟨h1, h2, o', hb.trans h3, h4.mono h⟩
def Ren.put (ι : Ren) (b : Nat) (e : Ent) : Ren := fun k => if k = b then some e else ι k
theorem Ren.put_self (ι : Ren) (b : Nat) (e : Ent) : ι.put b e b = some e := by simp [Ren.put]
theorem Ren.put_ne (ι : Ren) {b k : Nat} (e : Ent) (h : k ≠ b) : ι.put b e k = ι k := by simp [Ren.put, h]
theorem Ren.le_put {ι : Ren} {b : Nat} (e : Ent) (h : ι b = none) : ι.le (ι.put b e) := fun k x hk => by
 by_cases hkb : k = b
 ·subst hkb; rw [h] at hk; cases hk
 ·rw [Ren.put_ne _ _ hkb]; exact hk
theorem E3 (w : World) (o : Obj) {k : Nat} (h : k < w.heap.size) : (w.alloc o).heap[k]? = w.heap[k]? := by
 show (w.heap.push o)[k]? = _
 rw [Array.getElem?_push, if_neg (by omega)]
theorem i8 (w : World) (o : Obj) : (w.alloc o).heap[w.heap.size]? = some o := by
 show (w.heap.push o)[_]? = _
 simp
theorem c9 {w : World} {o x : Obj} {k : Nat} (h : (w.alloc o).heap[k]? = some x) : (k < w.heap.size /\ w.heap[k]? = some x) ∨ (k = w.heap.size /\ x = o) := by
 have h' : (w.heap.push o)[k]? = some x := h
 rw [Array.getElem?_push] at h'
 split at h'
 ·rename_i e; cases h'; exact .inr ⟨e, rfl⟩
 ·exact .inl ⟨(Array.getElem?_eq_some_iff.1 h').1, h'⟩
theorem Sim.alloc (S : Sim P nO ι A W) (hfree : ι A.heap.size = none) {o o' : Obj} {e : Ent} (he : e.blk = W.heap.size)
  (hr : a7G P nO (ι.put A.heap.size e) e (W.alloc o') o) : Sim P nO (ι.put A.heap.size e) (A.alloc o) (W.alloc o') where
 obj b x q hb hq := by
  rcases c9 hq with ⟨hlt, hq'⟩ | ⟨rfl, rfl⟩
  ·rw [Ren.put_ne _ _ (by omega)] at hb
   exact (S.obj b x q hb hq').later (Ren.le_put _ hfree) (E3 _ _ (S.dom b x hb))
  ·rw [Ren.put_self] at hb; cases hb; exact hr
 inj b b' x x' q q' hb hb' hq hq' hw ha hblk := by
  rcases c9 hq with ⟨hlt, h1⟩ | ⟨rfl, rfl⟩ <;> rcases c9 hq' with ⟨hlt', h1'⟩ | ⟨rfl, rfl⟩
  ·rw [Ren.put_ne _ _ (by omega)] at hb; rw [Ren.put_ne _ _ (by omega)] at hb'
   exact S.inj b b' x x' q q' hb hb' h1 h1' hw ha hblk
  ·rw [Ren.put_ne _ _ (by omega)] at hb; rw [Ren.put_self] at hb'; cases hb'
   have := S.dom b x hb; omega
  ·rw [Ren.put_self] at hb; cases hb; rw [Ren.put_ne _ _ (by omega)] at hb'
   have := S.dom b' x' hb'; omega
  ·rfl
 dom b x hb := by
  by_cases h : b = A.heap.size
  ·subst h; rw [Ren.put_self] at hb; cases hb; simp [he]
  ·rw [Ren.put_ne _ _ h] at hb; have := S.dom b x hb; simp; omega
 lo := by have := S.lo; simp; omega
theorem Moves.alloc (hfree : ι A.heap.size = none) {o o' : Obj} {e : Ent} (he : e.blk = W.heap.size) : Moves P ι A W (ι.put A.heap.size e) (A.alloc o) (W.alloc o') where
 le := Ren.le_put _ hfree
 news b x hb hx := by
  by_cases h : b = A.heap.size
  ·subst h; simp
  ·rw [Ren.put_ne _ _ h, hb] at hx; cases hx
 keep b hb _ := E3 _ _ hb
 img k x q hk hq hw hb := by
  rcases c9 hq with ⟨hlt, h1⟩ | ⟨rfl, rfl⟩
  ·rw [Ren.put_ne _ _ (by omega)] at hk; exact ⟨k, x, q, hk, h1, hw, rfl⟩
  ·rw [Ren.put_self] at hk; cases hk; omega
 fresh k x hk hx := by
  by_cases h : k = A.heap.size
  ·subst h; rw [Ren.put_self] at hx; cases hx; exact .inl (by omega)
  ·rw [Ren.put_ne _ _ h, hk] at hx; cases hx
 asz := by simp
 wsz := by simp
 os := rfl
 tape := rfl
 output := rfl
theorem z7 {h : Array Obj} {b : Nat} {o : Obj} {f : Obj -> Obj} (hb : h[b]? = some o) : (h.modify b f)[b]? = some (f o) := by simp [Array.getElem?_modify, hb]
theorem s9 {h : Array Obj} {b k : Nat} {f : Obj -> Obj} (hne : k ≠ b) : (h.modify b f)[k]? = h[k]? := by
 rw [Array.getElem?_modify, if_neg (fun x => hne x.symm)]
theorem Sim.turn (S : Sim P nO ι A W) {b : Nat} {e : Ent} {o q : Obj} (hb : ι b = some e) (ho : A.heap[b]? = some o) (hw : wr o = true)
  (hA : A'.heap[b]? = some q) (hAo : ∀ k, k ≠ b -> A'.heap[k]? = A.heap[k]?) (hWo : ∀ k, k ≠ e.blk -> W'.heap[k]? = W.heap[k]?) (hsz : W'.heap.size = W.heap.size)
  (hr : a7G P nO ι e W' q) : Sim P nO ι A' W' where
 obj k x y hk hy := by
  by_cases h : k = b
  ·subst h; rw [hb] at hk; cases hk; rw [hA] at hy; cases hy; exact hr
  ·rw [hAo k h] at hy
   by_cases hc : alive y = true
   ·exact (S.obj k x y hk hy).later (.refl ι) (hWo _ fun hx => h (S.inj b k e x o y hb hk ho hy hw hc hx.symm).symm)
   ·have R := S.obj k x y hk hy
    cases y <;> simp [alive] at hc
    rcases R with h0 | ⟨c', t', fz', h1, h2, h3, _⟩
    ·exact .inl h0
    ·rcases h3 with rfl | rfl | h3
     ·simp at hc
     ·simp at hc
     ·omega
 inj k k' x x' y y' hk hk' hy hy' hw' ha hblk := by
  by_cases h : k = b <;> by_cases h' : k' = b
  ·rw [h, h']
  ·subst h; rw [hAo k' h'] at hy'; exact S.inj k k' x x' o y' hk hk' ho hy' hw ha hblk
  ·subst h'; rw [hAo k h] at hy; exact S.inj k k' x x' y o hk hk' hy ho hw' (G5 hw) hblk
  ·rw [hAo k h] at hy; rw [hAo k' h'] at hy'; exact S.inj k k' x x' y y' hk hk' hy hy' hw' ha hblk
 dom k x hk := by rw [hsz]; exact S.dom k x hk
 lo := by rw [hsz]; exact S.lo
theorem Moves.turn {b : Nat} {e : Ent} {o : Obj} (hb : ι b = some e) (ho : A.heap[b]? = some o) (hw : wr o = true)
  (hAo : ∀ k, k ≠ b -> A'.heap[k]? = A.heap[k]?) (hWo : ∀ k, k ≠ e.blk -> W'.heap[k]? = W.heap[k]?) (hsz : W'.heap.size = W.heap.size) (hasz : A'.heap.size = A.heap.size)
  (hos : W'.os = W.os) (ht : W'.tape = W.tape) (hout : W'.output = W.output) : Moves P ι A W ι A' W' where
 le := .refl ι
 news k x hk hx := by rw [hk] at hx; cases hx
 keep k _ hn := hWo k fun h => hn b e o hb ho hw h.symm
 img k x y hk hy hw' _ := by
  by_cases h : k = b
  ·subst h; rw [hb] at hk; cases hk; exact ⟨k, e, o, hb, ho, hw, rfl⟩
  ·rw [hAo k h] at hy; exact ⟨k, x, y, hk, hy, hw', rfl⟩
 fresh k x hk hx := by rw [hk] at hx; cases hx
 asz := by rw [hasz]; exact Nat.le_refl _
 wsz := by rw [hsz]; exact Nat.le_refl _
 os := hos
 tape := ht
 output := hout
end
def RS {α β : Type} (P : Program) (nO : Nat) (ι : Ren) (R : Ren -> α -> β -> Prop) (s : Sem α) (s' : Sem β) : Prop :=
 ∀ A W r A', Sim P nO ι A W -> s.run P A = .ok r A' -> (∀ b, A.heap.size <= b -> b < A'.heap.size -> ι b = none) ->
  ∃ ι' r' W', s'.run P W = .ok r' W' /\ Sim P nO ι' A' W' /\ Moves P ι A W ι' A' W' /\ R ι' r r'
section
variable {P : Program} {nO : Nat} {ι : Ren}
theorem RS.pure {α β : Type} {R : Ren -> α -> β -> Prop} {r : α} {r' : β} (h : R ι r r') : RS P nO ι R (Pure.pure r : Sem α) (Pure.pure r') := by
 intro A W x A' S hr _
 simp at hr; obtain ⟨rfl, rfl⟩ := hr
 exact ⟨ι, r', W, rfl, S, .refl, h⟩
theorem RS.bind {α β γ δ : Type} {R : Ren -> α -> β -> Prop} {R' : Ren -> γ -> δ -> Prop} {s : Sem α} {s' : Sem β} {k : α -> Sem γ} {k' : β -> Sem δ}
  (h : RS P nO ι R s s') (hk : ∀ ι', ι.le ι' -> ∀ r r', R ι' r r' -> RS P nO ι' R' (k r) (k' r')) : RS P nO ι R' (s >>= k) (s' >>= k') := by
 intro A W x A' S hr hf
 rw [Sem.run_bind] at hr
 cases h1 : s.run P A with
 | halt q w => rw [h1] at hr; cases hr
 | ok r A1 =>
  rw [h1] at hr
  have hs1 := x9 P s A r A1 h1
  have hr' : (k r).run P A1 = .ok x A' := hr
  have hs2 := x9 P (k r) A1 x A' hr'
  obtain ⟨ι1, r1, W1, e1, S1, M1, R1⟩ := h A W r A1 S h1 (fun b a c => hf b a (by omega))
  obtain ⟨ι2, r2, W2, e2, S2, M2, R2⟩ := hk ι1 M1.le r r1 R1 A1 W1 x A' S1 hr' (fun b a c => by
   have h0 := hf b (by omega) c
   cases hb : ι1 b with
   | none => rfl
   | some e => have := M1.news b e h0 hb; omega)
  exact ⟨ι2, r2, W2, by rw [Sem.run_bind, e1]; exact e2, S2, M1.trans M2, R2⟩
theorem RS.halt {α β : Type} {R : Ren -> α -> β -> Prop} (q : Halt) {s' : Sem β} : RS P nO ι R (Sem.halt q : Sem α) s' := by
 intro A W x A' S hr _; cases hr
theorem RS.stuck {α β : Type} {R : Ren -> α -> β -> Prop} (q : String) {s' : Sem β} : RS P nO ι R (Go.stuck q : Sem α) s' := RS.halt _
theorem RS.unsupported {α β : Type} {R : Ren -> α -> β -> Prop} (q : Unsupported) {s' : Sem β} : RS P nO ι R (Go.unsupported q : Sem α) s' := RS.halt _
theorem RS.program : RS P nO ι (fun _ p p' => p = P /\ p' = P) program program := by
 intro A W x A' S hr _
 have : x = P /\ A' = A := by simp [Go.program, Sem.run] at hr; exact ⟨hr.1.symm, hr.2.symm⟩
 obtain ⟨rfl, rfl⟩ := this
 exact ⟨ι, x, W, rfl, S, .refl, rfl, rfl⟩
theorem RS.same {α : Type} {s : Sem α} (h : ∀ w, (∃ r, ∀ w', s.run P w' = .ok r w') ∨ (∀ r w', s.run P w ≠ .ok r w')) : RS P nO ι (fun _ r r' => r' = r) s s := by
 intro A W x A' S hr _
 rcases h A with ⟨r, h⟩ | h
 ·have := h A; rw [hr] at this; cases this
  exact ⟨ι, x, W, h W, S, .refl, rfl⟩
 ·exact absurd hr (h _ _)
theorem RS.typeInfo (t : TypeId) : RS P nO ι (fun _ r r' => r' = r /\ P.info? t = some r) (typeInfo t) (typeInfo t) := by
 intro A W x A' S hr _
 simp only [Go.typeInfo, Go.program, Sem.run_bind, Sem.run, Result.andThen] at hr ⊢
 cases h : P.info? t with
 | none => rw [h] at hr; cases hr
 | some i => rw [h] at hr; cases hr; exact ⟨ι, x, W, by rfl, S, .refl, rfl, rfl⟩
theorem RS.underlying (t : TypeId) : RS P nO ι (fun _ r r' => r' = r /\ P.underlying t = some r) (underlying t) (underlying t) := by
 intro A W x A' S hr _
 simp only [Go.underlying, Go.program, Sem.run_bind, Sem.run, Result.andThen] at hr ⊢
 cases h : P.underlying t with
 | none => rw [h] at hr; cases hr
 | some i => rw [h] at hr; cases hr; exact ⟨ι, x, W, by rfl, S, .refl, rfl, rfl⟩
theorem RS.sizeOf (t : TypeId) : RS P nO ι (fun _ r r' => r' = r /\ r = P.cellsOf t) (Go.sizeOf t) (Go.sizeOf t) :=
 (RS.typeInfo t).bind fun ι' _ r r' ⟨h, h'⟩ => .pure ⟨by rw [h], by simp [Program.cellsOf, h']⟩
theorem RS.isAgg (t : TypeId) : RS P nO ι (fun _ r r' => r' = r) (Go.isAgg t) (Go.isAgg t) :=
 (RS.underlying t).bind fun ι' _ r r' ⟨h, _⟩ => by subst h; split <;> exact .pure rfl
theorem RS.load {a a' : Addr} (h : a1m ι a a') : RS P nO ι (VRel P) (Go.load a) (Go.load a') := by
 intro A W x A' S hr _
 obtain ⟨hs, hs', e, he, hb, ho⟩ := h
 cases hx : A.heap[a.block]? with
 | none => simp [World.cell?, hx, World.farLoad] at hr
 | some o =>
  have R := S.obj _ _ _ he hx
  cases o with
  | cells c t fz =>
   cases hc : c[a.off]? with
   | none => simp [World.cell?, hx, hs, hc, World.farLoad] at hr
   | some v =>
    obtain ⟨c', t', fz', h1, h2, h3⟩ := R.resolve_left (fun h => by rw [h.2] at hc; simp at hc)
    obtain ⟨v', h4, h5⟩ := h2 _ _ hc
    simp [World.cell?, hx, hs, hc] at hr
    obtain ⟨rfl, rfl⟩ := hr
    refine ⟨ι, v', W, ?_, S, .refl, h5⟩
    simp [World.cell?, hb, h1, hs', ho, h4]
  | view at_ u => exact R.2.2.elim fun _ h => h.2.elim
  | _ => simp [World.cell?, hx, World.farLoad] at hr
theorem RS.store {a a' : Addr} (h : a1m ι a a') {v v' : Value} (hv : VRel P ι v v') : RS P nO ι (fun _ _ _ => True) (Go.store a v) (Go.store a' v') := by
 intro A W x A' S hr _
 obtain ⟨hs, hs', e, he, hb, ho⟩ := h
 have one : isOne v = true := by cases v <;> first | rfl | (simp [Go.store, Sem.run] at hr)
 have one' : isOne v' = true := hv.isOne.trans one
 have run1 : ∀ (w : World) (p : Addr) (u : Value), isOne u = true -> (Go.store p u).run P w = match w.cell? p with
   | some _ => if w.frozen? p then .halt (.unsupported (.unsafePointer "a write to bytes that a string shares")) w else .ok () (w.setCell p u)
   | none => match w.farStore P p u false with
    | .ok (w, _) => .ok () w
    | .error h => .halt h w := by
  intro w p u hu
  cases u <;> simp [isOne] at hu <;> simp [Go.store, Sem.run] <;> rfl
 rw [run1 A a v one] at hr
 rw [run1 W a' v' one']
 cases hx : A.heap[a.block]? with
 | none => simp [World.cell?, hx, World.farStore] at hr
 | some o =>
  have R := S.obj _ _ _ he hx
  cases o with
  | cells c t fz =>
   cases hc : c[a.off]? with
   | none => simp [World.cell?, hx, hs, hc, World.farStore] at hr
   | some u =>
    obtain ⟨c', t', fz', h1, h2, h3, h4, h5, h6⟩ := R.resolve_left (fun h => by rw [h.2] at hc; simp at hc)
    obtain ⟨u', h7, _⟩ := h2 _ _ hc
    have hlt : a.off < c.size := (Array.getElem?_eq_some_iff.1 hc).1
    have hcell : A.cell? a = some u := by simp [World.cell?, hx, hs, hc]
    rw [hcell] at hr
    by_cases hfz : fz.1 <= a.off /\ a.off < fz.2
    ·simp [World.frozen?, hx, hfz] at hr
    ·have hnf : A.frozen? a = false := by simp only [World.frozen?, hx]; simp; omega
     simp only [hnf] at hr
     cases hr
     have hwr : ¬ fz.1 < fz.2 := by
      rcases h3 with rfl | rfl | ⟨h, h'⟩
      ·simp
      ·simp
      ·omega
     obtain ⟨h8, h9⟩ := h4 hwr
     have hcell' : W.cell? a' = some u' := by simp [World.cell?, hb, h1, hs', ho, h7]
     have hnf' : W.frozen? a' = false := by simp only [World.frozen?, hb, h1]; simp; omega
     rw [hcell']
     simp only [hnf']
     have eA : (A.setCell a v).heap[a.block]? = some (.cells (c.setIfInBounds a.off v) t fz) := by
      simp only [World.setCell]; rw [z7 hx]; simp [hs]
     have eW : (W.setCell a' v').heap[e.blk]? = some (.cells (c'.setIfInBounds a'.off v') t' fz') := by
      simp only [World.setCell]; rw [hb, z7 h1]; simp [hs']
     have hwo : wr (.cells c t fz) = true := by
      rcases h3 with rfl | rfl | h3
      ·rfl
      ·rfl
      ·omega
     refine ⟨ι, (), W.setCell a' v', by simp, ?_, ?_, trivial⟩
     ·refine S.turn he hx hwo eA (fun k hk => s9 hk) (fun k hk => s9 (hb ▸ hk)) (by simp) ?_
      refine .inr ⟨_, t', fz', eW, ?_, ?_, fun _ => ⟨h8, h9⟩, ?_, h6⟩
      ·intro i y hy
       by_cases hi : a.off = i
       ·subst hi
        rw [Array.getElem?_setIfInBounds_self_of_lt hlt] at hy; cases hy
        refine ⟨v', ?_, hv⟩
        rw [ho]; exact Array.getElem?_setIfInBounds_self_of_lt (Array.getElem?_eq_some_iff.1 h7).1
       ·rw [Array.getElem?_setIfInBounds_ne hi] at hy
        rw [Array.getElem?_setIfInBounds_ne (by omega)]
        exact h2 i y hy
      ·simpa using h3
      ·intro hh; simpa using h5 hh
     ·exact .turn he hx hwo (fun k hk => s9 hk) (fun k hk => s9 (hb ▸ hk)) (by simp) (by simp) rfl rfl rfl
  | view at_ u => exact R.2.2.elim fun _ h => h.2.elim
  | _ => simp [World.cell?, hx, World.farStore] at hr
theorem RS.newCells (t : TypeId) {c c' : Array Value} (h : Vs P ι c c') : RS P nO ι (fun ι' r r' => ∃ e, ι' r = some e /\ e.blk = r' /\ e.sh = 0 /\ e.gr = none) (newObj (.cells c t)) (newObj (.cells c' t)) := by
 intro A W x A' S hr hf
 have e1 : x = A.heap.size /\ A' = A.alloc (.cells c t) := by simp [newObj, Sem.run] at hr; exact ⟨hr.1.symm, hr.2.symm⟩
 obtain ⟨rfl, rfl⟩ := e1
 have hfree := hf A.heap.size (Nat.le_refl _) (by simp)
 refine ⟨ι.put A.heap.size ⟨W.heap.size, 0, none⟩, W.heap.size, W.alloc (.cells c' t), rfl, S.alloc hfree rfl ?_, .alloc hfree rfl, _, Ren.put_self _ _ _, rfl, rfl, rfl⟩
 refine .inr ⟨c', t, (0, 0), i8 _ _, ?_, .inl rfl, fun _ => ⟨S.lo, by simp⟩, fun h => by simp at h, fun _ => rfl⟩
 intro i y hy
 obtain ⟨y', p, q⟩ := h.at hy
 exact ⟨y', p, q.mono (Ren.le_put _ hfree)⟩
theorem RS.newOther {o o' : Obj} (hal : ∀ (c : Array Value) t fz, o ≠ .cells c t fz) (h : ∀ ι', ι.le ι' -> z1 P ι' o o') : RS P nO ι (fun ι' r r' => ∃ e, ι' r = some e /\ e.blk = r' /\ e.sh = 0 /\ e.gr = none) (newObj o) (newObj o') := by
 intro A W x A' S hr hf
 have e1 : x = A.heap.size /\ A' = A.alloc o := by simp [newObj, Sem.run] at hr; exact ⟨hr.1.symm, hr.2.symm⟩
 obtain ⟨rfl, rfl⟩ := e1
 have hfree := hf A.heap.size (Nat.le_refl _) (by simp)
 refine ⟨ι.put A.heap.size ⟨W.heap.size, 0, none⟩, W.heap.size, W.alloc o', rfl, S.alloc hfree rfl ?_, .alloc hfree rfl, _, Ren.put_self _ _ _, rfl, rfl, rfl⟩
 have hR := h _ (Ren.le_put ⟨W.heap.size, 0, none⟩ hfree)
 cases o with
 | cells c t fz => exact absurd rfl (hal c t fz)
 | _ => exact ⟨rfl, S.lo, o', i8 _ _, hR⟩
theorem RS.getObj {r : Nat} {e : Ent} (he : ι r = some e) : RS P nO ι (fun ι' o o' => e.sh = 0 /\ z1 P ι' o o') (getObj r) (getObj e.blk) := by
 intro A W x A' S hr _
 cases hx : A.heap[r]? with
 | none => simp [Go.getObj, Sem.run, hx] at hr
 | some o =>
  have R := S.obj _ _ _ he hx
  cases o with
  | cells c t fz => simp [Go.getObj, Sem.run, hx] at hr
  | _ =>
   obtain ⟨h1, h2, o', h3, h4⟩ := R
   simp [Go.getObj, Sem.run, hx] at hr
   obtain ⟨rfl, rfl⟩ := hr
   refine ⟨ι, o', W, ?_, S, .refl, h1, h4⟩
   cases o' <;> simp [z1] at h4 <;> simp [Go.getObj, Sem.run, h3]
theorem RS.setObj {r : Nat} {e : Ent} (he : ι r = some e) (hs : e.sh = 0) {q q' : Obj} (hq : z1 P ι q q') : RS P nO ι (fun _ _ _ => True) (setObj r q) (setObj e.blk q') := by
 intro A W x A' S hr _
 have hqc : ∀ (c : Array Value) t fz, q ≠ .cells c t fz := fun c t fz h => by subst h; simp [z1] at hq
 cases hx : A.heap[r]? with
 | none => simp [Go.setObj, Sem.run, hx] at hr
 | some o =>
  have R := S.obj _ _ _ he hx
  cases o with
  | cells c t fz => simp [Go.setObj, Sem.run, hx] at hr
  | _ =>
   obtain ⟨h1, h2, o', h3, h4⟩ := R
   have hlt : r < A.heap.size := (Array.getElem?_eq_some_iff.1 hx).1
   have hlt' : e.blk < W.heap.size := (Array.getElem?_eq_some_iff.1 h3).1
   have e1 : A' = { A with heap := A.heap.setIfInBounds r q } := by simp [Go.setObj, Sem.run, hx] at hr; exact hr.symm
   have e2 : (Go.setObj e.blk q').run P W = .ok () { W with heap := W.heap.setIfInBounds e.blk q' } := by
    cases o' <;> simp [z1] at h4 <;> simp [Go.setObj, Sem.run, h3]
   subst e1
   refine ⟨ι, (), _, e2, ?_, ?_, trivial⟩
   ·refine S.turn (q := q) he hx rfl (by simp [hlt]) (fun k hk => Array.getElem?_setIfInBounds_ne (fun h => hk h.symm)) (fun k hk => Array.getElem?_setIfInBounds_ne (fun h => hk h.symm)) (by simp) ?_
    cases q with
    | cells c t fz => exact absurd rfl (hqc c t fz)
    | _ => exact ⟨hs, h2, q', by simp [hlt'], hq⟩
   ·exact .turn he hx rfl (fun k hk => Array.getElem?_setIfInBounds_ne (fun h => hk h.symm)) (fun k hk => Array.getElem?_setIfInBounds_ne (fun h => hk h.symm)) (by simp) (by simp) rfl rfl rfl
end
end Go.Abs
namespace Go.Abs
class Good (P : Program) : Prop where
 zero : ∀ t i z, P.info? t = some i -> i.zero = some z -> ∀ ι, VRel P ι z z
 mixed : P.follows .mixedOrders = true
 code : ∀ (f : Nat) (fn : Func) (c : Code), P.funcs[f]? = some fn -> fn.body = some c -> l0 c = true
def Vl (P : Program) (ι : Ren) : List Value -> List Value -> Prop
 | [], [] => True
 | x :: xs, y :: ys => VRel P ι x y /\ Vl P ι xs ys
 | _, _ => False
section
variable {P : Program} {nO : Nat} {ι ι' : Ren}
theorem Vl.mono (h : ι.le ι') : ∀ {l l' : List Value}, Vl P ι l l' -> Vl P ι' l l'
 | [], [], _ => trivial
 | _ :: _, _ :: _, ⟨a, b⟩ => ⟨a.mono h, Vl.mono h b⟩
theorem Vl.of_at : ∀ {l l' : List Value}, l.length = l'.length -> (∀ (i : Nat) (x x' : Value), l[i]? = some x -> l'[i]? = some x' -> VRel P ι x x') -> Vl P ι l l'
 | [], [], _, _ => trivial
 | [], _ :: _, h, _ => by simp at h
 | _ :: _, [], h, _ => by simp at h
 | x :: xs, y :: ys, h, hh => ⟨hh 0 x y rfl rfl, Vl.of_at (by simpa using h) fun i a b ha hb => hh (i + 1) a b (by simpa using ha) (by simpa using hb)⟩
theorem Vs.toList {xs xs' : Array Value} (r : Vs P ι xs xs') : Vl P ι xs.toList xs'.toList :=
 Vl.of_at (by simpa using r.1) fun i x x' h h' => r.2 i x x' (by simpa using h) (by simpa using h')
theorem Vs.map {α : Type} (xs : Array α) (f g : α -> Value) (h : ∀ x ∈ xs, VRel P ι (f x) (g x)) : Vs P ι (xs.map f) (xs.map g) := by
 refine ⟨by simp, fun i x x' hx hx' => ?_⟩
 simp only [Array.getElem?_map] at hx hx'
 cases hi : xs[i]? with
 | none => rw [hi] at hx; cases hx
 | some y => rw [hi] at hx hx'; cases hx; cases hx'; exact h y (Array.mem_of_getElem? hi)
theorem a1m.add {a a' : Addr} (h : a1m ι a a') (n : Nat) : a1m ι (a.add n) (a'.add n) := by
 obtain ⟨h1, h2, e, h3, h4, h5⟩ := h
 unfold Addr.add
 split
 ·exact ⟨h1, h2, e, h3, h4, h5⟩
 ·exact ⟨rfl, rfl, e, h3, h4, by simp only [h5]; omega⟩
theorem RS.never {α β : Type} {R : Ren -> α -> β -> Prop} {s : Sem α} {s' : Sem β} (h : ∀ A r A', s.run P A ≠ .ok r A') : RS P nO ι R s s' :=
 fun _ _ _ _ _ hr _ => absurd hr (h _ _ _)
theorem v7 {α β : Type} {s : Sem α} {k : α -> Sem β} (h : ∀ r A, ∀ r' A', (k r).run P A ≠ .ok r' A') : ∀ A r A', (s >>= k).run P A ≠ .ok r A' := by
 intro A r A' hr
 rw [Sem.run_bind] at hr
 cases h1 : s.run P A with
 | halt q w => rw [h1] at hr; cases hr
 | ok x w => rw [h1] at hr; exact h _ _ _ _ hr
theorem b9 {α : Type} (e : RuntimeError) : ∀ A (r : α) A', (runtimePanic e : Sem α).run P A ≠ .ok r A' := by
 unfold runtimePanic
 refine v7 fun p A => ?_
 have hg : ∀ (v : Value) A (r : α) A', (goPanic v : Sem α).run P A ≠ .ok r A' := fun v A r A' h => by cases h
 cases e with
 | typeAssertion i c a m => exact v7 (fun t A => v7 (fun r A => hg _ A) _) _
 | panicNil => exact v7 (fun t A => v7 (fun r A => hg _ A) _) _
 | _ => exact hg _ A
theorem m6 {α : Type} (k : IntKind) (x y : Int) (c : BoundsCode) : ∀ A (r : α) A', (boundsPanic k x y c : Sem α).run P A ≠ .ok r A' := by
 unfold boundsPanic
 simp only
 split
 ·exact v7 fun p A => b9 _ A
 ·exact v7 fun p A => b9 _ A
theorem RS.zeroValue (G : Good P) (t : TypeId) : RS P nO ι (fun _ r r' => r' = r /\ ∀ ι', VRel P ι' r r) (zeroValue t) (zeroValue t) := by
 refine (RS.typeInfo t).bind fun ι' _ r r' ⟨h, h'⟩ => ?_
 subst h
 cases hz : r'.zero with
 | none => exact RS.unsupported _
 | some z => exact .pure ⟨rfl, G.zero _ _ _ h' hz⟩
theorem RS.loadCellsFrom {a a' : Addr} (n : Nat) : ∀ {ι : Ren} (_ : a1m ι a a') (i : Nat) {acc acc' : Array Value}, Vs P ι acc acc' -> RS P nO ι (Vs P) (Go.loadCellsFrom a i n acc) (Go.loadCellsFrom a' i n acc') := by
 induction n with
 | zero => intro ι _ i acc acc' h; exact .pure h
 | succ n ih =>
  intro ι ha i acc acc' h
  exact (RS.load (ha.add i)).bind fun ι' hle v v' hv => ih (ha.mono hle) (i + 1) ((h.mono hle).push hv)
theorem RS.loadCells {a a' : Addr} (h : a1m ι a a') (n : Nat) : RS P nO ι (Vs P) (Go.loadCells a n) (Go.loadCells a' n) := RS.loadCellsFrom n h 0 .empty
theorem RS.loadCells0 {a a' : Addr} : RS P nO ι (Vs P) (Go.loadCells a 0) (Go.loadCells a' 0) := .pure .empty
theorem RS.storeCells {a a' : Addr} : ∀ {l l' : List Value} {ι : Ren} (_ : a1m ι a a') (i : Nat), Vl P ι l l' -> RS P nO ι (fun _ _ _ => True) (Go.storeCells a l i) (Go.storeCells a' l' i)
 | [], [], _, _, _, _ => .pure trivial
 | [], _ :: _, _, _, _, h => h.elim
 | _ :: _, [], _, _, _, h => h.elim
 | _ :: _, _ :: _, _, ha, i, ⟨h, h'⟩ => (RS.store (ha.add i) h).bind fun _ hle _ _ _ => RS.storeCells (ha.mono hle) (i + 1) (h'.mono hle)
theorem RS.loadVar {a a' : Addr} (t : TypeId) (h : a1m ι a a') : RS P nO ι (VRel P) (Go.loadVar t a) (Go.loadVar t a') := by
 refine (RS.isAgg t).bind fun ι' hle b b' hb => ?_
 subst hb
 cases b' with
 | true =>
  refine (RS.sizeOf t).bind fun ι'' hle' n n' ⟨hn, _⟩ => ?_
  subst hn
  exact (RS.loadCells ((h.mono hle).mono hle') n').bind fun _ _ _ _ hv => .pure (.ofVs hv)
 | false => exact RS.load (h.mono hle)
theorem RS.storeVar {a a' : Addr} (t : TypeId) (h : a1m ι a a') {v v' : Value} (hv : VRel P ι v v') : RS P nO ι (fun _ _ _ => True) (Go.storeVar t a v) (Go.storeVar t a' v') := by
 refine (RS.sizeOf t).bind fun ι' hle n n' ⟨hn, _⟩ => ?_
 subst hn
 have hc := hv.cells
 rw [<- hc.1]
 split
 ·exact RS.stuck _
 ·exact RS.storeCells (h.mono hle) 0 (hc.mono hle).toList
theorem RS.newRow (t : TypeId) {c c' : Array Value} (h : Vs P ι c c') : RS P nO ι a1m (Go.newRow t c) (Go.newRow t c') :=
 (RS.newCells t h).bind fun _ _ r r' ⟨e, h1, h2, h3, _⟩ => .pure ⟨rfl, rfl, e, h1, h2.symm, by simp [h3]⟩
theorem RS.newVar (t : TypeId) {v v' : Value} (h : VRel P ι v v') : RS P nO ι a1m (Go.newVar t v) (Go.newVar t v') := RS.newRow t h.cells
theorem RS.part (t : TypeId) {cs cs' : Array Value} (h : Vs P ι cs cs') (off : Nat) : RS P nO ι (VRel P) (Go.part t cs off) (Go.part t cs' off) := by
 refine (RS.isAgg t).bind fun ι' hle b b' hb => ?_
 subst hb
 cases b' with
 | true =>
  refine (RS.sizeOf t).bind fun ι'' hle' n n' ⟨hn, _⟩ => ?_
  subst hn
  exact .pure (.ofVs (((h.mono hle).mono hle').extract _ _))
 | false =>
  show RS P nO ι' (VRel P) (match cs[off]? with | some v => Pure.pure v | none => Go.stuck _) (match cs'[off]? with | some v => Pure.pure v | none => Go.stuck _)
  cases hx : cs[off]? with
  | none => exact RS.stuck _
  | some x =>
   obtain ⟨x', h1, h2⟩ := h.at hx
   rw [h1]
   exact .pure (h2.mono hle)
theorem RS.asIntOf {v v' : Value} (h : VRel P ι v v') : RS P nO ι (fun _ r r' => r' = r /\ v = .int r.1 r.2 /\ v' = v) (asIntOf v) (asIntOf v') := by
 cases h with
 | int k n => exact .pure ⟨rfl, rfl, rfl⟩
 | ptr h => exact RS.unsupported _
 | _ => exact RS.stuck _
theorem RS.asInt {v v' : Value} (h : VRel P ι v v') : RS P nO ι (fun _ r r' => r' = r) (asInt v) (asInt v') :=
 (RS.asIntOf h).bind fun _ _ r r' ⟨h, _⟩ => .pure (by rw [h])
theorem RS.asBool {v v' : Value} (h : VRel P ι v v') : RS P nO ι (fun _ r r' => r' = r) (asBool v) (asBool v') := by
 cases h with
 | bool b => exact .pure rfl
 | _ => exact RS.stuck _
theorem RS.asAgg {v v' : Value} (h : VRel P ι v v') : RS P nO ι (Vs P) (asAgg v) (asAgg v') := by
 cases h with
 | agg h1 h2 => exact .pure ⟨h1, h2⟩
 | _ => exact RS.stuck _
theorem RS.sureAddr {v v' : Value} (h : VRel P ι v v') : RS P nO ι a1m (Instr.sureAddr v) (Instr.sureAddr v') := by
 cases h with
 | ptr h => exact .pure h
 | _ => exact RS.stuck _
theorem a2G {place : Nat -> Option (Nat × Nat)} : ∀ {ps ps' : List (Nat × Value)} {c c' r : Array Value}, (ps.length = ps'.length /\ ∀ (i : Nat) (x x' : Nat × Value), ps[i]? = some x -> ps'[i]? = some x' -> x.1 = x'.1 /\ VRel P ι x.2 x'.2) ->
  Vs P ι c c' -> Instr.fill place c ps = some r -> ∃ r', Instr.fill place c' ps' = some r' /\ Vs P ι r r' := by
 intro ps
 induction ps with
 | nil =>
  intro ps' c c' r hp hc h
  cases ps' with
  | nil => simp only [Instr.fill, Option.some.injEq] at h ⊢; subst h; exact ⟨c', rfl, hc⟩
  | cons y ys => simp at hp
 | cons x xs ih =>
  intro ps' c c' r hp hc h
  cases ps' with
  | nil => simp at hp
  | cons y ys =>
   obtain ⟨hl, hh⟩ := hp
   obtain ⟨e1, e2⟩ := hh 0 x y rfl rfl
   obtain ⟨i, v⟩ := x
   obtain ⟨i', v'⟩ := y
   simp only at e1 e2
   subst e1
   have hv := e2.cells
   simp only [Instr.fill] at h ⊢
   cases hpl : place i with
   | none => rw [hpl] at h; cases h
   | some q =>
    obtain ⟨off, size⟩ := q
    rw [hpl] at h
    simp only at h ⊢
    rw [<- hv.1, <- hc.1]
    split at h
    ·cases h
    ·rename_i hcond
     rw [if_neg hcond]
     refine ih (ps' := ys) ⟨by simpa using hl, fun j a b ha hb => hh (j + 1) a b (by simpa using ha) (by simpa using hb)⟩ ?_ h
     have key : ∀ (n : Nat) (l l' : List Value) (d d' : Array Value), Vl P ι l l' -> Vs P ι d d' -> Vs P ι ((l.zipIdx n).foldl (fun cs p => cs.setIfInBounds (off + p.2) p.1) d) ((l'.zipIdx n).foldl (fun cs p => cs.setIfInBounds (off + p.2) p.1) d') := by
      intro n l
      induction l generalizing n with
      | nil => intro l' d d' hl' hd; cases l' with | nil => exact hd | cons => exact hl'.elim
      | cons a l ih' =>
       intro l' d d' hl' hd
       cases l' with
       | nil => exact hl'.elim
       | cons b l' => exact ih' (n + 1) l' _ _ hl'.2 (hd.set _ hl'.1)
     have := key 0 v.cells.toList v'.cells.toList c c' hv.toList hc
     simp only [<- Array.foldl_toList, Array.toList_zipIdx]; exact this
def Ps (P : Program) (ι : Ren) (ps ps' : Array (Nat × Value)) : Prop := ps.toList.length = ps'.toList.length /\ ∀ (i : Nat) (x x' : Nat × Value), ps.toList[i]? = some x -> ps'.toList[i]? = some x' -> x.1 = x'.1 /\ VRel P ι x.2 x'.2
theorem Ps.mono (h : ι.le ι') {ps ps' : Array (Nat × Value)} (r : Ps P ι ps ps') : Ps P ι' ps ps' := ⟨r.1, fun i x x' a b => ⟨(r.2 i x x' a b).1, (r.2 i x x' a b).2.mono h⟩⟩
theorem RS.build (G : Good P) (t : TypeId) {ps ps' : Array (Nat × Value)} (h : Ps P ι ps ps') : RS P nO ι (VRel P) (Instr.build t ps) (Instr.build t ps') := by
 refine (RS.zeroValue G t).bind fun ι' hle z z' ⟨hz, hzz⟩ => ?_
 subst hz
 refine (RS.underlying t).bind fun ι'' hle' d d' ⟨hd, _⟩ => ?_
 subst hd
 have hP := (h.mono hle).mono hle'
 cases d' with
 | struct fields =>
  have hR : ∀ {ι : Ren}, RS P nO ι (fun _ r r' => r' = r) (fields.mapM fun f => Go.sizeOf f.type >>= fun s => Pure.pure (f.offset, s)) (fields.mapM fun f => Go.sizeOf f.type >>= fun s => Pure.pure (f.offset, s)) := by
   intro ι
   rw [Array.mapM_eq_mapM_toList]
   generalize fields.toList = l
   have hl : ∀ (l : List Field) {ι : Ren}, RS P nO ι (fun _ r r' => r' = r) (l.mapM fun f => Go.sizeOf f.type >>= fun s => Pure.pure (f.offset, s)) (l.mapM fun f => Go.sizeOf f.type >>= fun s => Pure.pure (f.offset, s)) := by
    intro l
    induction l with
    | nil => intro ι; exact .pure rfl
    | cons f l ih =>
     intro ι
     simp only [List.mapM_cons]
     refine RS.bind (R := fun _ r r' => r' = r) ((RS.sizeOf f.type).bind fun _ _ a b ⟨hab, _⟩ => .pure (by rw [hab])) fun _ _ a b hab => ?_
     subst hab
     exact ih.bind fun _ _ c d hcd => .pure (by rw [hcd])
   simpa using (hl l).bind fun _ _ a b hab => RS.pure (R := fun _ r r' => r' = r) (by rw [hab])
  refine hR.bind fun ι3 hle3 pl pl' hpl => ?_
  subst hpl
  show RS P nO ι3 (VRel P) (match Instr.fill (pl'[·]?) z'.cells ps.toList with | some c => Pure.pure (Value.agg c) | _ => Go.stuck _) (match Instr.fill (pl'[·]?) z'.cells ps'.toList with | some c => Pure.pure (Value.agg c) | _ => Go.stuck _)
  cases hf : Instr.fill (pl'[·]?) z'.cells ps.toList with
  | none => exact RS.stuck _
  | some c =>
   obtain ⟨c', h1, h2⟩ := a2G (hP.mono hle3) (hzz ι3).cells hf
   rw [h1]
   exact .pure (.ofVs h2)
 | array n elem =>
  refine (RS.sizeOf elem).bind fun ι3 hle3 s s' ⟨hs, _⟩ => ?_
  subst hs
  show RS P nO ι3 (VRel P) (match Instr.fill (fun i => some (i * s', s')) z'.cells ps.toList with | some c => Pure.pure (Value.agg c) | _ => Go.stuck _) (match Instr.fill (fun i => some (i * s', s')) z'.cells ps'.toList with | some c => Pure.pure (Value.agg c) | _ => Go.stuck _)
  cases hf : Instr.fill (fun i => some (i * s', s')) z'.cells ps.toList with
  | none => exact RS.stuck _
  | some c =>
   obtain ⟨c', h1, h2⟩ := a2G (hP.mono hle3) (hzz ι3).cells hf
   rw [h1]
   exact .pure (.ofVs h2)
 | _ => exact RS.stuck _
end
end Go.Abs
namespace Go.Abs
section
variable {P : Program} {nO : Nat} {ι ι' : Ren}
theorem a9l {α : Type} {c : Prop} [Decidable c] {s t : Sem α} (h : ∀ A r A', s.run P A ≠ .ok r A') (k : ∀ A r A', t.run P A ≠ .ok r A') : ∀ A r A', (if c then s else t).run P A ≠ .ok r A' := by
  split
  · exact h
  · exact k
theorem V6 {α : Type} (u : Unsupported) : ∀ A (r : α) A', (Go.unsupported u : Sem α).run P A ≠ .ok r A' := fun A r A' h => by cases h
theorem VRel.dflt : VRel P ι (default : Value) default := VRel.bool _
theorem Vs.bang {xs xs' : Array Value} (r : Vs P ι xs xs') (i : Nat) : VRel P ι xs[i]! xs'[i]! := by
  cases h : xs[i]? with
  | none => simp only [getElem!_def, h, r.none_at h]; exact .dflt
  | some x => obtain ⟨x', h', rr⟩ := r.at h; simp only [getElem!_def, h, h']; exact rr
theorem Vs.zeros {z z' : Array Value} (h : Vs P ι z z') (n : Nat) : Vs P ι ((Array.range n).map (z[· % z.size]!)) ((Array.range n).map (z'[· % z'.size]!)) :=
  Vs.map _ _ _ fun x _ => by rw [<- h.1]; exact h.bang _
theorem RS.mark (m : Mark) : RS P nO ι (fun _ _ _ => True) (Go.mark m) (Go.mark m) := by
  intro A W x A' S hr _
  cases hr
  exact ⟨ι, (), W, rfl, S, .refl, trivial⟩
theorem RS.askRoom (n : Nat) : RS P nO ι (fun _ _ _ => True) (Go.askRoom n) (Go.askRoom n) := by
  unfold Go.askRoom; split
  · exact RS.mark _
  · exact .pure trivial
theorem VRel.freshSlice {a a' : Addr} (h : a1m ι a a') (l c : Nat) : VRel P ι (.slice (some a) l c) (.slice (some a') l c) := .slice (.inl ⟨h, .inl rfl⟩)
theorem RS.zeroCells (G : Good P) (t : TypeId) (c : Prop) [Decidable c] : RS P nO ι (Vs P) (if c then Pure.pure #[] else Go.zeroValue t >>= fun z => Pure.pure z.cells) (if c then Pure.pure #[] else Go.zeroValue t >>= fun z => Pure.pure z.cells) := by
  split
  · exact .pure .empty
  · exact (RS.zeroValue G t).bind fun _ _ z z' ⟨h, hz⟩ => .pure (by subst h; exact (hz _).cells)
theorem RS.buildSlice (G : Good P) (t : TypeId) (len : Nat) {ps ps' : Array (Nat × Value)} (h : Ps P ι ps ps') : RS P nO ι (VRel P) (Instr.buildSlice t len ps) (Instr.buildSlice t len ps') := by
  unfold Instr.buildSlice
  refine (RS.underlying t).bind fun ι1 l1 d d' ⟨hd, _⟩ => ?_
  subst hd
  cases d' with
  | slice elem =>
    refine (RS.sizeOf elem).bind fun ι2 l2 s s' ⟨hs, _⟩ => ?_
    subst hs
    simp only
    split
    · exact RS.unsupported _
    · have key : ∀ {ι : Ren} (_ : ι2.le ι) (zero zero' : Array Value), Vs P ι zero zero' -> RS P nO ι (VRel P)
          (match Instr.fill (fun i => some (i * s', s')) ((Array.range (len * s')).map (zero[· % zero.size]!)) ps.toList with
            | some cells => do Pure.pure (.slice (some (<- Go.newRow elem cells)) len len)
            | _ => Go.stuck "buildSlice: a part of the wrong size")
          (match Instr.fill (fun i => some (i * s', s')) ((Array.range (len * s')).map (zero'[· % zero'.size]!)) ps'.toList with
            | some cells => do Pure.pure (.slice (some (<- Go.newRow elem cells)) len len)
            | _ => Go.stuck "buildSlice: a part of the wrong size") := by
        intro ι hle zero zero' hz
        cases hf : Instr.fill (fun i => some (i * s', s')) ((Array.range (len * s')).map (zero[· % zero.size]!)) ps.toList with
        | none => exact RS.stuck _
        | some c =>
          obtain ⟨c', h1, h2⟩ := a2G (((h.mono l1).mono l2).mono hle) (hz.zeros (len * s')) hf
          rw [h1]
          exact (RS.newRow elem h2).bind fun _ _ a a' ha => .pure (.freshSlice ha _ _)
      split
      · exact key (.refl _) _ _ .empty
      · refine (RS.zeroValue G elem).bind fun ι3 l3 z z' ⟨hz, hzz⟩ => ?_
        subst hz
        exact (RS.pure (R := Vs P) (hzz _).cells).bind fun ι4 l4 c c' hc => key (l3.trans l4) _ _ hc
  | _ => exact RS.stuck _
theorem RS.makeFunc {fn fn' : Fn} {xs xs' ys ys' : Array Value} (hf : FRel ι fn fn') (hx : Vs P ι xs xs') (hy : Vs P ι ys ys') : RS P nO ι (VRel P) (Instr.makeFunc fn xs ys) (Instr.makeFunc fn' xs' ys') :=
  .pure (.func hf hx.1 hy.1 hx.2 hy.2)
theorem RS.extract {v v' : Value} (h : VRel P ι v v') (i : Nat) : RS P nO ι (VRel P) (Instr.extract v i) (Instr.extract v' i) := by
  cases h with
  | tuple h1 h2 =>
    rename_i xs xs'
    show RS P nO ι (VRel P) (match xs[i]? with | some v => Pure.pure v | none => Go.stuck _) (match xs'[i]? with | some v => Pure.pure v | none => Go.stuck _)
    cases hx : xs[i]? with
    | none => exact RS.stuck _
    | some x =>
      obtain ⟨x', h3, h4⟩ := Vs.at ⟨h1, h2⟩ hx
      rw [h3]
      exact .pure h4
  | _ => exact RS.stuck _
theorem RS.field (t : TypeId) {v v' : Value} (h : VRel P ι v v') (k : Nat) : RS P nO ι (VRel P) (Instr.field t v k) (Instr.field t v' k) := by
  unfold Instr.field
  refine (RS.underlying t).bind fun ι1 l1 d d' ⟨hd, _⟩ => ?_
  subst hd
  cases d' with
  | struct fields =>
    simp only
    cases hk : fields[k]? with
    | none => exact RS.stuck _
    | some f => exact (RS.asAgg (h.mono l1)).bind fun _ _ c c' hc => RS.part f.type hc f.offset
  | _ => exact RS.stuck _
theorem RS.fieldAt (t : TypeId) {v v' : Value} (h : VRel P ι v v') (k : Nat) (hsz : ∀ fs f, P.underlying t = some (.struct fs) -> fs[k]? = some f -> P.cellsOf f.type ≠ 0) :
    RS P nO ι (VRel P) (Instr.fieldAt t v k) (Instr.fieldAt t v' k) := by
  unfold Instr.fieldAt
  refine (RS.underlying t).bind fun ι1 l1 d d' ⟨hd, hu⟩ => ?_
  subst hd
  cases d' with
  | struct fields =>
    simp only
    cases hk : fields[k]? with
    | none => exact RS.stuck _
    | some f =>
      refine (RS.sureAddr (h.mono l1)).bind fun ι2 l2 a a' ha => ?_
      refine RS.bind (R := a1m) ?_ fun _ _ b b' hb => .pure (.ptr hb)
      unfold fieldPlace
      refine (RS.sizeOf f.type).bind fun ι3 l3 s s' ⟨hs, hs'⟩ => ?_
      subst hs
      have hz : ¬ s' = 0 := by rw [hs']; exact hsz _ f hu hk
      rw [if_neg hz, if_neg hz]
      exact .pure ((ha.mono l3).add _)
  | _ => exact RS.stuck _
theorem RS.index (t : TypeId) {v v' i i' : Value} (h : VRel P ι v v') (hi : VRel P ι i i') : RS P nO ι (VRel P) (Instr.index t v i) (Instr.index t v' i') := by
  unfold Instr.index
  refine (RS.asIntOf hi).bind fun ι1 l1 k k' ⟨hk, _⟩ => ?_
  subst hk
  obtain ⟨k, n⟩ := k'
  refine (RS.underlying t).bind fun ι2 l2 d d' ⟨hd, _⟩ => ?_
  subst hd
  have h2 := (h.mono l1).mono l2
  cases d' with
  | array len elem =>
    cases h2 with
    | agg a b =>
      simp only
      split
      · exact (RS.sizeOf elem).bind fun ι3 l3 s s' ⟨hs, _⟩ => by subst hs; exact RS.part elem (Vs.mono l3 ⟨a, b⟩) _
      · exact RS.never (m6 _ _ _ _)
    | _ => exact RS.stuck _
  | string =>
    cases h2 with
    | string s =>
      simp only
      split
      · exact .pure (.int _ _)
      · exact RS.never (m6 _ _ _ _)
    | _ => exact RS.stuck _
  | _ => cases h2 <;> exact RS.stuck _
theorem RS.indexAt (t : TypeId) {v v' i i' : Value} (h : VRel P ι v v') (hi : VRel P ι i i') : RS P nO ι (VRel P) (Instr.indexAt t v i) (Instr.indexAt t v' i') := by
  unfold Instr.indexAt
  refine (RS.asIntOf hi).bind fun ι1 l1 k k' ⟨hk, _⟩ => ?_
  subst hk
  obtain ⟨k, n⟩ := k'
  refine (RS.underlying t).bind fun ι2 l2 d d' ⟨hd, hu⟩ => ?_
  subst hd
  have h2 := (h.mono l1).mono l2
  have key : ∀ {ι3 : Ren} (_ : ι2.le ι3) (base base' : Option Addr) (len : Nat) (elem : TypeId),
      ((base = none /\ base' = none) ∨ ∃ a a', base = some a /\ base' = some a' /\ (a1m ι3 a a' ∨ len = 0)) -> RS P nO ι3 (VRel P)
        (do
          let d <- Go.underlying t
          have tiny : Bool := decide (len <= 1) && (match d with | .array _ _ => true | _ => false)
          match base with
          | some a => if 0 <= n /\ n < (len : Int) then do Pure.pure (.pointer (some (a.add (n.toNat * (<- Go.sizeOf elem)))))
                      else if tiny = true then Go.unsupported (.noEntry "op/indexAddr.an index out of range at an array of length 0 or 1 (ledger 616)")
                      else boundsPanic k n (len : Int) .index
          | none => boundsPanic k n 0 .index)
        (do
          let d <- Go.underlying t
          have tiny : Bool := decide (len <= 1) && (match d with | .array _ _ => true | _ => false)
          match base' with
          | some a => if 0 <= n /\ n < (len : Int) then do Pure.pure (.pointer (some (a.add (n.toNat * (<- Go.sizeOf elem)))))
                      else if tiny = true then Go.unsupported (.noEntry "op/indexAddr.an index out of range at an array of length 0 or 1 (ledger 616)")
                      else boundsPanic k n (len : Int) .index
          | none => boundsPanic k n 0 .index) := by
    intro ι3 l3 base base' len elem hb
    refine (RS.underlying t).bind fun ι4 l4 d d' ⟨hd, _⟩ => ?_
    subst hd
    rcases hb with ⟨rfl, rfl⟩ | ⟨a, a', rfl, rfl, ha⟩
    · exact RS.never (m6 _ _ _ _)
    · simp only
      split
      · rename_i hlt
        refine (RS.sizeOf elem).bind fun ι5 l5 s s' ⟨hs, _⟩ => ?_
        subst hs
        rcases ha with ha | ha
        · exact .pure (.ptr (((ha.mono l4).mono l5).add _))
        · omega
      · exact RS.never (a9l (V6 _) (m6 _ _ _ _))
  cases d' with
  | array len elem =>
    refine (RS.sureAddr h2).bind fun ι3 l3 a a' ha => ?_
    exact (RS.pure (R := fun ι3 (r r' : Option Addr × Nat × TypeId) => r = (some a, len, elem) /\ r' = (some a', len, elem)) ⟨rfl, rfl⟩).bind fun ι4 l4 r r' ⟨h1, h2⟩ => by
      subst h1; subst h2
      exact key (l3.trans l4) _ _ len elem (.inr ⟨a, a', rfl, rfl, .inl (ha.mono l4)⟩)
  | slice elem =>
    cases h2 with
    | slice0 l c =>
      exact (RS.pure (R := fun ι3 (r r' : Option Addr × Nat × TypeId) => r = (none, l, elem) /\ r' = (none, l, elem)) ⟨rfl, rfl⟩).bind fun ι4 l4 r r' ⟨h1, h2⟩ => by
        subst h1; subst h2
        exact key l4 _ _ l elem (.inl ⟨rfl, rfl⟩)
    | slice hs =>
      rename_i a a' l c c'
      exact (RS.pure (R := fun ι3 (r r' : Option Addr × Nat × TypeId) => r = (some a, l, elem) /\ r' = (some a', l, elem)) ⟨rfl, rfl⟩).bind fun ι4 l4 r r' ⟨h1, h2⟩ => by
        subst h1; subst h2
        refine key l4 _ _ l elem (.inr ⟨a, a', rfl, rfl, ?_⟩)
        rcases hs with ⟨h, _⟩ | ⟨h, _⟩
        · exact .inl (h.mono l4)
        · exact .inr h
    | _ => exact RS.halt _
  | _ => cases h2 <;> exact RS.stuck _
theorem RS.sliceBound {v v' : Value} (h : VRel P ι v v') {y y' : Nat} (hy : y <= y') (c c' : BoundsCode) : RS P nO ι (fun _ r r' => r' = r /\ r <= y) (Instr.sliceBound v y c) (Instr.sliceBound v' y' c') := by
  unfold Instr.sliceBound
  refine (RS.asIntOf h).bind fun ι1 l1 k k' ⟨hk, _⟩ => ?_
  subst hk
  obtain ⟨k, n⟩ := k'
  simp only
  split
  · rename_i hc
    rw [if_pos (by omega)]
    exact .pure ⟨rfl, by omega⟩
  · exact RS.never (m6 _ _ _ _)
def J7 (P : Program) (ι : Ren) (o o' : Option Value) : Prop := (o = none /\ o' = none) ∨ ∃ v v', o = some v /\ o' = some v' /\ VRel P ι v v'
theorem J7.mono (h : ι.le ι') {o o' : Option Value} (r : J7 P ι o o') : J7 P ι' o o' := by
  rcases r with ⟨a, b⟩ | ⟨v, v', a, b, c⟩
  · exact .inl ⟨a, b⟩
  · exact .inr ⟨v, v', a, b, c.mono h⟩
theorem RS.sliceBounds (isSlice : Bool) (len : Nat) {cap cap' : Nat} (hcap : cap <= cap') (hlen : len <= cap) {lo lo' hi hi' mx mx' : Option Value} (h1 : J7 P ι lo lo') (h2 : J7 P ι hi hi') (h3 : J7 P ι mx mx') :
    RS P nO ι (fun _ r r' => r'.1 = r.1 /\ r'.2.1 = r.2.1 /\ r.1 <= r.2.1 /\ r.2.1 <= r.2.2 /\ r.2.2 <= cap /\ (r'.2.2 = r.2.2 ∨ (r.2.2 = cap /\ r'.2.2 = cap'))) (Instr.sliceBounds isSlice len cap lo hi mx) (Instr.sliceBounds isSlice len cap' lo' hi' mx') := by
  unfold Instr.sliceBounds
  have low : ∀ {ι2 : Ren} (_ : ι.le ι2) (c c' : BoundsCode) (h m m' : Nat), h <= m -> m <= cap -> (m' = m ∨ (m = cap /\ m' = cap')) -> RS P nO ι2 (fun _ (r r' : Nat × Nat × Nat) => r'.1 = r.1 /\ r'.2.1 = r.2.1 /\ r.1 <= r.2.1 /\ r.2.1 <= r.2.2 /\ r.2.2 <= cap /\ (r'.2.2 = r.2.2 ∨ (r.2.2 = cap /\ r'.2.2 = cap')))
      (match (generalizing := false) lo with | some v => Instr.sliceBound v h c >>= fun l => Pure.pure (l, h, m) | none => Pure.pure 0 >>= fun l => Pure.pure (l, h, m))
      (match (generalizing := false) lo' with | some v => Instr.sliceBound v h c' >>= fun l => Pure.pure (l, h, m') | none => Pure.pure 0 >>= fun l => Pure.pure (l, h, m')) := by
    intro ι2 hle c c' h m m' hm hmc hmm
    rcases h1 with ⟨rfl, rfl⟩ | ⟨v, v', rfl, rfl, hv⟩
    · exact (RS.pure (R := fun _ (r r' : Nat) => r = 0 /\ r' = 0) ⟨rfl, rfl⟩).bind fun _ _ r r' ⟨a, b⟩ => by subst a; subst b; exact .pure ⟨rfl, rfl, Nat.zero_le _, hm, hmc, hmm⟩
    · exact (RS.sliceBound (hv.mono hle) (Nat.le_refl _) _ _).bind fun _ _ r r' ⟨a, b⟩ => by subst a; exact .pure ⟨rfl, rfl, b, hm, hmc, hmm⟩
  have two : ∀ {ι2 : Ren} {a b : Nat}, RS P nO ι2 (fun _ (r r' : Nat) => r = a /\ r' = b) (Pure.pure a : Sem Nat) (Pure.pure b) := .pure ⟨rfl, rfl⟩
  rcases h3 with ⟨rfl, rfl⟩ | ⟨v3, v3', rfl, rfl, hv3⟩
  · rcases h2 with ⟨rfl, rfl⟩ | ⟨v2, v2', rfl, rfl, hv2⟩
    · exact (two (a := cap) (b := cap')).bind fun _ l1 m m' ⟨a, b⟩ => (two (a := len) (b := len)).bind fun _ l2 h h' ⟨c, d⟩ => by
        subst a; subst b; subst c; subst d
        exact low (l1.trans l2) _ _ _ _ _ hlen (Nat.le_refl _) (.inr ⟨rfl, rfl⟩)
    · exact (two (a := cap) (b := cap')).bind fun _ l1 m m' ⟨a, b⟩ => by
        subst a; subst b
        exact (RS.sliceBound (hv2.mono l1) hcap _ _).bind fun _ l2 h h' ⟨c, d⟩ => by
          subst c
          exact low (l1.trans l2) _ _ _ _ _ d (Nat.le_refl _) (.inr ⟨rfl, rfl⟩)
  · rcases h2 with ⟨rfl, rfl⟩ | ⟨v2, v2', rfl, rfl, hv2⟩
    · exact (RS.sliceBound hv3 hcap _ _).bind fun _ l1 m m' _ => RS.halt _
    · exact (RS.sliceBound hv3 hcap _ _).bind fun _ l1 m m' ⟨a, b⟩ => by
        subst a
        exact (RS.sliceBound (hv2.mono l1) (Nat.le_refl _) _ _).bind fun _ l2 h h' ⟨c, d⟩ => by
          subst c
          exact low (l1.trans l2) _ _ _ _ _ d b (.inl rfl)
def b6n (P : Program) (ι : Ren) (elem : TypeId) (v : Value) : Prop := ∀ a l c e t N, v = .slice (some a) l c -> ι a.block = some e -> e.gr = some (t, N) -> P.cellsOf elem = P.cellsOf t
theorem b6n.mono (h : ι.le ι') {elem : TypeId} {v v' : Value} (hv : VRel P ι v v') (r : b6n P ι elem v) : b6n P ι' elem v := by
  intro a l c e t N hva he hg
  subst hva
  cases hv with
  | slice hs =>
    have : ∃ e0, ι a.block = some e0 := by
      rcases hs with ⟨⟨_, _, e0, h0, _⟩, _⟩ | ⟨_, _, _, e0, g, h0, _⟩ <;> exact ⟨e0, h0⟩
    obtain ⟨e0, h0⟩ := this
    have := h _ _ h0
    rw [he] at this; cases this
    exact r a l c e t N rfl h0 hg
theorem b1l.sub {a a' : Addr} {len cap cap' l h m m' s : Nat} {elem : TypeId} (hs : b1l P ι a a' len cap cap') (hle : cap <= cap') (hlh : l <= h) (hhm : h <= m) (hmc : m <= cap) (hmm : m' = m ∨ (m = cap /\ m' = cap'))
    (hsz : s = P.cellsOf elem) (hgr : ∀ e t N, ι a.block = some e -> e.gr = some (t, N) -> P.cellsOf elem = P.cellsOf t) :
    b1l P ι (if m = l then a else a.add (l * s)) (if m' = l then a' else a'.add (l * s)) (h - l) (m - l) (m' - l) := by
  have adda : ∀ (x : Addr) (n : Nat), (x.add n).block = x.block := fun x n => by unfold Addr.add; split <;> rfl
  rcases hs with ⟨ha, hc⟩ | ⟨h0, h1, h2, e, g, h3, h4⟩
  · by_cases hmeq : m' = m
    · subst hmeq
      refine .inl ⟨?_, .inl rfl⟩
      split
      · exact ha
      · exact ha.add _
    · obtain ⟨rfl, rfl⟩ := hmm.resolve_left hmeq
      rcases hc with rfl | ⟨e, t, N, h1, h2, h3, h4⟩
      · exact absurd rfl hmeq
      · by_cases hl : m = l
        · subst hl
          refine .inr ⟨by omega, by omega, ?_, e, _, ?_, h2⟩
          · rw [if_pos rfl]; exact ha.1
          · rw [if_pos rfl]; exact h1
        · rw [if_neg hl, if_neg (by omega)]
          refine .inl ⟨ha.add _, .inr ⟨e, t, N, ?_, h2, by omega, ?_⟩⟩
          · rw [adda]; exact h1
          · have hst : s = P.cellsOf t := hsz.trans (hgr e t N h1 h2)
            rw [hst]
            have hoff : (a'.add (l * P.cellsOf t)).off = a'.off + l * P.cellsOf t := by
              unfold Addr.add; split
              · rename_i hz; rw [hz]; rfl
              · rfl
            rw [hoff, Nat.add_assoc, <- Nat.add_mul, show l + (m' - l) = m' from by omega]
            exact h4
  · have hm0 : m = 0 := by omega
    have hl0 : l = 0 := by omega
    subst hm0; subst hl0
    refine .inr ⟨by omega, by omega, ?_, e, g, ?_, h4⟩
    · rw [if_pos rfl]; exact h2
    · rw [if_pos rfl]; exact h3
theorem b1l.cap_le {a a' : Addr} {len cap cap' : Nat} (hs : b1l P ι a a' len cap cap') : cap <= cap' := by
  rcases hs with ⟨_, rfl | ⟨_, _, _, _, _, h, _⟩⟩ | ⟨_, h, _⟩
  · exact Nat.le_refl _
  · exact h
  · omega
theorem RS.slice (t : TypeId) {v v' : Value} (h : VRel P ι v v') {lo lo' hi hi' mx mx' : Option Value} (h1 : J7 P ι lo lo') (h2 : J7 P ι hi hi') (h3 : J7 P ι mx mx')
    (hwf : ∀ a l c, v = .slice a l c -> l <= c) (hgr : ∀ elem, P.underlying t = some (.slice elem) -> b6n P ι elem v) (harr : ∀ e, P.underlying t ≠ some (.pointer e)) : RS P nO ι (VRel P) (Instr.slice t v lo hi mx) (Instr.slice t v' lo' hi' mx') := by
  unfold Instr.slice
  refine (RS.underlying t).bind fun ι1 l1 d d' ⟨hd, hu⟩ => ?_
  subst hd
  have hv := h.mono l1
  cases d' with
  | pointer e => exact absurd hu (harr e)
  | slice elem =>
    have hg := (hgr elem hu).mono l1 h
    cases hv with
    | slice0 l c =>
      refine (RS.sliceBounds true l (Nat.le_refl c) (hwf _ _ _ rfl) (h1.mono l1) (h2.mono l1) (h3.mono l1)).bind fun ι2 l2 r r' ⟨a1, a2, a3, a4, a5, a6⟩ => ?_
      obtain ⟨r1, r2, r3⟩ := r
      obtain ⟨s1, s2, s3⟩ := r'
      simp only at a1 a2 a3 a4 a5 a6
      have e3 : s3 = r3 := by rcases a6 with h | ⟨h, h'⟩ <;> omega
      subst a1; subst a2; subst e3
      refine (RS.sizeOf elem).bind fun ι3 l3 s s' ⟨hs, _⟩ => ?_
      subst hs
      simp only [Option.map_none, ite_self]
      exact .pure (.slice0 _ _)
    | slice hs =>
      rename_i a a' l c c'
      refine (RS.sliceBounds true l hs.cap_le (hwf _ _ _ rfl) (h1.mono l1) (h2.mono l1) (h3.mono l1)).bind fun ι2 l2 r r' ⟨a1, a2, a3, a4, a5, a6⟩ => ?_
      obtain ⟨r1, r2, r3⟩ := r
      obtain ⟨s1, s2, s3⟩ := r'
      simp only at a1 a2 a3 a4 a5 a6
      subst a1; subst a2
      refine (RS.sizeOf elem).bind fun ι3 l3 s s' ⟨hs', hs''⟩ => ?_
      subst hs'
      have hf := b1l.sub (hs.mono (l2.trans l3)) hs.cap_le a3 a4 a5 a6 hs'' (fun e t N he hg' => hg.mono (l2.trans l3) (.slice hs) a l c e t N rfl he hg')
      have o1 : ∀ (x : Addr) (c : Prop) [Decidable c] (n : Nat), (if c then some x else (some x).map (·.add n)) = some (if c then x else x.add n) := by intro x c _ n; split <;> rfl
      simp only [o1]
      exact .pure (.slice hf)
    | _ => exact RS.stuck _
  | string =>
    cases hv with
    | string s =>
      simp only
      rcases h3 with ⟨rfl, rfl⟩ | ⟨v3, v3', rfl, rfl, hv3⟩
      · refine (RS.sliceBounds (mx := none) (mx' := none) false s.size (Nat.le_refl _) (Nat.le_refl _) (h1.mono l1) (h2.mono l1) (.inl ⟨rfl, rfl⟩)).bind fun ι2 l2 r r' ⟨a1, a2, _⟩ => ?_
        obtain ⟨r1, r2, r3⟩ := r
        obtain ⟨s1, s2, s3⟩ := r'
        simp only at a1 a2
        subst a1; subst a2
        exact .pure (.string _)
      · exact RS.halt _
    | _ => exact RS.stuck _
  | _ => cases hv <;> exact RS.stuck _
theorem RS.sliceAt (t : TypeId) {v v' : Value} (h : VRel P ι v v') {lo lo' hi hi' mx mx' : Option Value} (h1 : J7 P ι lo lo') (h2 : J7 P ι hi hi') (h3 : J7 P ι mx mx')
    (hwf : ∀ a l c, v = .slice a l c -> l <= c) (hgr : ∀ elem, P.underlying t = some (.slice elem) -> b6n P ι elem v) (harr : ∀ e, P.underlying t ≠ some (.pointer e)) : RS P nO ι (VRel P) (Instr.sliceAt t v lo hi mx) (Instr.sliceAt t v' lo' hi' mx') := by
  unfold Instr.sliceAt
  refine (RS.underlying t).bind fun ι1 l1 d d' ⟨hd, hu⟩ => ?_
  subst hd
  cases d' with
  | array n elem =>
    refine (RS.sureAddr (h.mono l1)).bind fun ι2 l2 a a' ha => ?_
    refine (RS.sliceBounds false n (Nat.le_refl n) (Nat.le_refl n) ((h1.mono l1).mono l2) ((h2.mono l1).mono l2) ((h3.mono l1).mono l2)).bind fun ι3 l3 r r' ⟨a1, a2, a3, a4, a5, a6⟩ => ?_
    obtain ⟨r1, r2, r3⟩ := r
    obtain ⟨s1, s2, s3⟩ := r'
    simp only at a1 a2 a3 a4 a5 a6
    have e3 : s3 = r3 := by rcases a6 with h | ⟨h, h'⟩ <;> omega
    subst a1; subst a2; subst e3
    refine (RS.sizeOf elem).bind fun ι4 l4 s s' ⟨hs, _⟩ => ?_
    subst hs
    refine .pure (.slice (.inl ⟨?_, .inl rfl⟩))
    split
    · exact (ha.mono l3).mono l4
    · exact ((ha.mono l3).mono l4).add _
  | _ => exact RS.slice t (h.mono l1) (h1.mono l1) (h2.mono l1) (h3.mono l1) hwf (fun elem he => (hgr elem he).mono l1 h) harr
end
end Go.Abs
namespace Go.Abs
section
variable {P : Program} {nO : Nat} {ι ι' : Ren}
theorem N5 {α β : Type} {s : Sem α} {k : α -> Sem β} (h : ∀ A r A', s.run P A ≠ .ok r A') : ∀ A r A', (s >>= k).run P A ≠ .ok r A' := by
  intro A r A' hr
  rw [Sem.run_bind] at hr
  cases h1 : s.run P A with
  | halt q w => rw [h1] at hr; cases hr
  | ok x w => exact h _ _ _ h1
theorem RS.instrLoad (t : TypeId) {v v' : Value} (h : VRel P ι v v') : RS P nO ι (VRel P) (Instr.loadAt t v) (Instr.loadAt t v') :=
  (RS.sureAddr h).bind fun _ _ _ _ ha => RS.loadVar t ha
theorem RS.instrStore (t : TypeId) {v v' x x' : Value} (h : VRel P ι v v') (hx : VRel P ι x x') : RS P nO ι (fun _ _ _ => True) (Instr.storeAt t v x) (Instr.storeAt t v' x') :=
  (RS.sureAddr h).bind fun _ l _ _ ha => RS.storeVar t ha (hx.mono l)
theorem RS.instrAlloc (G : Good P) (t : TypeId) : RS P nO ι (VRel P) (Instr.alloc t true (.tuple #[])) (Instr.alloc t true (.tuple #[])) :=
  (RS.zeroValue G t).bind fun _ _ z z' ⟨hz, hzz⟩ => by
    subst hz
    exact (RS.newVar t (hzz _)).bind fun _ _ _ _ ha => .pure (.ptr ha)
theorem RS.instrBox (t : TypeId) {v v' : Value} (h : VRel P ι v v') : RS P nO ι (VRel P) (Instr.box t v) (Instr.box t v') :=
  (RS.newVar t h).bind fun _ _ _ _ ha => .pure (.ptr ha)
theorem RS.makeSlice (G : Good P) (t : TypeId) {l l' c c' : Value} (hl : VRel P ι l l') (hc : VRel P ι c c') : RS P nO ι (VRel P) (Instr.makeSlice t l c) (Instr.makeSlice t l' c') := by
  unfold Instr.makeSlice
  refine (RS.underlying t).bind fun ι1 l1 d d' ⟨hd, _⟩ => ?_
  subst hd
  cases d' with
  | slice elem =>
    refine (RS.asInt (hl.mono l1)).bind fun ι2 l2 x x' hx => ?_
    subst hx
    refine (RS.asInt ((hc.mono l1).mono l2)).bind fun ι3 l3 y y' hy => ?_
    subst hy
    refine (RS.typeInfo elem).bind fun ι4 l4 i i' ⟨hi, _⟩ => ?_
    subst hi
    simp only
    have tail : ∀ {ι5 : Ren}, RS P nO ι5 (VRel P)
        (do
          Go.askRoom ((IntKind.i64.wrap y').toNat * i'.bytes)
          let s <- Go.sizeOf elem
          let n := (IntKind.i64.wrap y').toNat * s
          let zero <- if n = 0 then Pure.pure #[] else do Pure.pure (<- Go.zeroValue elem).cells
          let a <- Go.newRow elem ((Array.range n).map (zero[· % zero.size]!))
          Pure.pure (.slice (some a) (IntKind.i64.wrap x').toNat (IntKind.i64.wrap y').toNat))
        (do
          Go.askRoom ((IntKind.i64.wrap y').toNat * i'.bytes)
          let s <- Go.sizeOf elem
          let n := (IntKind.i64.wrap y').toNat * s
          let zero <- if n = 0 then Pure.pure #[] else do Pure.pure (<- Go.zeroValue elem).cells
          let a <- Go.newRow elem ((Array.range n).map (zero[· % zero.size]!))
          Pure.pure (.slice (some a) (IntKind.i64.wrap x').toNat (IntKind.i64.wrap y').toNat)) := by
      intro ι5
      refine (RS.askRoom _).bind fun ι6 l6 _ _ _ => ?_
      refine (RS.sizeOf elem).bind fun ι7 l7 s s' ⟨hs, _⟩ => ?_
      subst hs
      have fin : ∀ {ι8 : Ren} {z z' : Array Value}, Vs P ι8 z z' -> RS P nO ι8 (VRel P)
          (do let a <- Go.newRow elem ((Array.range ((IntKind.i64.wrap y').toNat * s')).map (z[· % z.size]!))
              Pure.pure (.slice (some a) (IntKind.i64.wrap x').toNat (IntKind.i64.wrap y').toNat))
          (do let a <- Go.newRow elem ((Array.range ((IntKind.i64.wrap y').toNat * s')).map (z'[· % z'.size]!))
              Pure.pure (.slice (some a) (IntKind.i64.wrap x').toNat (IntKind.i64.wrap y').toNat)) := fun hz =>
        (RS.newRow elem (hz.zeros _)).bind fun _ _ a a' ha => .pure (.freshSlice ha _ _)
      simp only
      split
      · exact (RS.pure (R := Vs P) .empty).bind fun _ _ z z' hz => fin hz
      · refine (RS.zeroValue G elem).bind fun ι8 l8 z z' ⟨hz, hzz⟩ => ?_
        subst hz
        exact (RS.pure (R := Vs P) (hzz _).cells).bind fun _ _ z z' hz => fin hz
    split
    · split
      · exact RS.never (N5 (b9 _))
      · split
        · exact RS.never (N5 (b9 _))
        · exact RS.never (v7 fun _ _ => N5 (b9 _) _)
    · exact tail
  | _ => exact RS.stuck _
theorem RS.makeMap (t : TypeId) {o o' : Option Value} (h : J7 P ι o o') : RS P nO ι (VRel P) (Instr.makeMap t o) (Instr.makeMap t o') := by
  unfold Instr.makeMap
  have tail : ∀ {ι : Ren}, RS P nO ι (VRel P) (do Pure.pure (.map (some (<- Go.newObj (.map #[] 0))))) (do Pure.pure (.map (some (<- Go.newObj (.map #[] 0))))) :=
    (RS.newOther (o := .map #[] 0) (o' := .map #[] 0) (by intro _ _ _ h; cases h) fun ι' _ => (⟨rfl, rfl, fun i x y h => by simp at h⟩ : (0 : Nat) = 0 /\ H5 P ι' #[] #[])).bind fun _ _ r r' ⟨e, h1, h2, h3, _⟩ => .pure (by subst h2; exact .map h1 h3)
  rcases h with ⟨rfl, rfl⟩ | ⟨v, v', rfl, rfl, hv⟩
  · exact tail
  · simp only
    refine (RS.underlying t).bind fun ι1 l1 d d' ⟨hd, _⟩ => ?_
    subst hd
    cases d' with
    | map k e => exact (RS.asInt (hv.mono l1)).bind fun _ _ _ _ _ => tail
    | _ => exact RS.halt _
def Y0 : Value -> Bool
  | .pointer none | .slice none _ _ | .map none | .nilFunc => true
  | _ => false
theorem RS.lenOf {v v' : Value} (h : VRel P ι v v') : RS P nO ι (fun _ r r' => r' = r /\ ∀ a l c, v = .slice a l c -> r = l) (Builtin.lenOf v) (Builtin.lenOf v') := by
  cases h with
  | slice0 l c => exact .pure ⟨rfl, fun a l' c' e => by cases e; rfl⟩
  | slice h => exact .pure ⟨rfl, fun a l' c' e => by cases e; rfl⟩
  | string s => exact .pure ⟨rfl, fun a l c e => by cases e⟩
  | _ => exact RS.stuck _
theorem RS.firstCells (size n : Nat) {v v' : Value} (h : VRel P ι v v') (hn : ∀ a l c, v = .slice a l c -> n <= l) : RS P nO ι (Vs P) (Builtin.firstCells size n v) (Builtin.firstCells size n v') := by
  cases h with
  | slice0 l c => exact .pure .empty
  | slice h =>
    rename_i a a' l c c'
    rcases h with ⟨h, _⟩ | ⟨h, _⟩
    · exact RS.loadCells h _
    · have : n = 0 := by have := hn _ _ _ rfl; omega
      subst this
      simp only [Builtin.firstCells, Nat.zero_mul]
      exact RS.loadCells0
  | string s =>
    refine .pure ?_
    refine Vs.map _ _ _ fun b _ => .int _ _
  | _ => exact RS.stuck _
theorem RS.firstCells0 (size : Nat) {v v' : Value} (h : VRel P ι v v') : RS P nO ι (fun _ r r' => r = #[] /\ r' = #[]) (Builtin.firstCells size 0 v) (Builtin.firstCells size 0 v') := by
  cases h with
  | slice0 l c => exact .pure ⟨rfl, rfl⟩
  | slice h => simp only [Builtin.firstCells, Nat.zero_mul]; exact .pure ⟨rfl, rfl⟩
  | string s => exact .pure ⟨by simp, by simp⟩
  | _ => exact RS.stuck _
theorem RS.copy (ts : Array TypeId) (t : TypeId) {xs xs' : Array Value} (h : Vs P ι xs xs') : RS P nO ι (VRel P) (Builtin.copy_ ts t xs) (Builtin.copy_ ts t xs') := by
  unfold Builtin.copy_
  cases h0 : ts[0]? with
  | none => exact RS.stuck _
  | some dType =>
    cases h1 : xs[0]? with
    | none => exact RS.stuck _
    | some d =>
      obtain ⟨d', hd, hdd⟩ := h.at h1
      cases h2 : xs[1]? with
      | none => exact RS.stuck _
      | some x =>
        obtain ⟨x', hx, hxx⟩ := h.at h2
        rw [hd, hx]
        simp only
        refine (RS.underlying dType).bind fun ι1 l1 e e' ⟨he, _⟩ => ?_
        subst he
        cases e' with
        | slice elem =>
          have hdd1 := hdd.mono l1
          cases hdd1 with
          | slice0 l c =>
            refine (RS.lenOf (hxx.mono l1)).bind fun ι2 l2 m m' ⟨hm, hm'⟩ => ?_
            subst hm
            refine (RS.sizeOf elem).bind fun ι3 l3 s s' ⟨hs, _⟩ => ?_
            subst hs
            refine (RS.firstCells s' (Nat.min m' l) (((hxx.mono l1).mono l2).mono l3) (fun a q c e => by rw [hm' a q c e]; exact Nat.min_le_left _ _)).bind fun ι4 l4 c c' hc => ?_
            exact .pure (.int _ _)
          | slice hs =>
            rename_i a a' l c c'
            refine (RS.lenOf (hxx.mono l1)).bind fun ι2 l2 m m' ⟨hm, hm'⟩ => ?_
            subst hm
            refine (RS.sizeOf elem).bind fun ι3 l3 s s' ⟨hs', _⟩ => ?_
            subst hs'
            have fc := RS.firstCells (nO := nO) s' (Nat.min m' l) (((hxx.mono l1).mono l2).mono l3) (fun a q c e => by rw [hm' a q c e]; exact Nat.min_le_left _ _)
            rcases hs with ⟨ha, _⟩ | ⟨hl, _⟩
            · exact fc.bind fun ι4 l4 c c' hc => (RS.storeCells (((ha.mono l2).mono l3).mono l4) 0 hc.toList).bind fun _ _ _ _ _ => .pure (.int _ _)
            · subst hl
              have z : Nat.min m' 0 = 0 := Nat.min_zero m'
              rw [z]
              exact (RS.firstCells0 s' (((hxx.mono l1).mono l2).mono l3)).bind fun ι4 l4 c c' ⟨h, h'⟩ => by
                subst h; subst h'
                exact (RS.pure (R := fun _ _ _ => True) trivial).bind fun _ _ _ _ _ => .pure (.int _ _)
          | _ => exact RS.stuck _
        | _ => exact RS.stuck _
end
end Go.Abs
