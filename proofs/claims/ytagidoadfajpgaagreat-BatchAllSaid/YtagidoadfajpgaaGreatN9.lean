/-
  A27.
-/
import Derived.Test.YtagidoadfajpgaaGreatN8
import Derived.ProofKit
namespace Go.Abs
open Go.ChangeShapes Go.WideShapes Go.ChangeAt Go.RowKit
section
variable {P : Program}
theorem b5q (h1 : a7I P = true) (h2 : a5c P = true) (h3 : P.follows .mixedOrders = true) : Good P where
 zero t i z hi hz ι := a9F (P := P) (T := P.toTables) (fun t i z hi hz => by
  unfold a7I at h1
  rw [List.all_eq_true] at h1
  have := h1 i (by simpa using Array.mem_of_getElem? hi)
  rw [hz] at this
  exact fun ι => .of_plain this) t i z hi hz ι
 mixed := h3
 code f fn c hf hc := by
  unfold a5c at h2
  rw [List.all_eq_true] at h2
  have hm : fn ∈ P.funcs.toList := by simpa using Array.mem_of_getElem? hf
  have := h2 fn hm
  rw [hc] at this
  exact this
theorem a2i {H : Type} {enc : TypeId × Value -> H} {f : Func} {s : ChangeSpec} {apart fresh handsOn again : Bool} {W W' : World} {args : Array Value} {v : Value} {ds gs : List (DataW H)} {before pa pv : List MemPlace}
  (hW : DataW.Whole enc P f.params.toList s.vars apart W args.toList ds gs before) (hB : Below W.heap.size W W')
  (hres : ∀ (b : Nat) (sp : Nat -> Bool) (hd : Bool), DataW.TrodAll enc P W' b sp hd f.resultTypes.toList (v.resultList f.resultTypes.size) (s.fn H (ds ++ gs)).results [])
  (hargs : ∀ sp : Nat -> Bool, (∀ p ∈ before, sp p.block = true) -> DataW.TrodAll enc P W' 0 sp true f.params.toList args.toList (s.fn H (ds ++ gs)).args pa)
  (hvars : ∀ sp : Nat -> Bool, (∀ p ∈ before, sp p.block = true) -> DataW.TrodVars enc P W' sp s.vars (s.fn H (ds ++ gs)).vars pv)
  (hps : before = pa ++ pv)
  (hok : ∀ (j : Nat) (t : TypeId) (r : Value), f.resultTypes[j]? = some t -> (v.resultList f.resultTypes.size)[j]? = some r -> Value.okWide P W' .any 0 t r) :
  s.post enc P f apart fresh handsOn again W args v W' := by
 have hlt : ∀ p ∈ before, p.block < W.heap.size := fun p hp => hW.lt p hp
 have hold : ∀ p ∈ before, (fun b => decide (b < W.heap.size)) p.block = true := fun p hp => by simpa using hW.lt p hp
 refine ⟨ds, gs, before, [], pa, pv, hW, hres _ _ _, hargs _ hold, hvars _ hold, World.keptBut_mono (fun p hp => ⟨hp, ?_⟩) (hB.frame (· ∈ before)), fun _ => ?_⟩
 ·rw [hps, List.mem_append] at hp
  exact Or.inr hp
 ·obtain ⟨_, _, _, _, _, hz, hn⟩ := hW
  refine ⟨hok, _, _, ([] ++ pa) ++ pv, ⟨[] ++ pa, pv, trodAll_append (hargs _ (fun _ _ => rfl)) (hres _ _ _), hvars _ (fun _ _ => rfl), rfl, ?_, ?_⟩, ?_⟩
  ·intro b off hp
   have hm : MemPlace.cell b off ∈ before := by rw [hps]; simpa using hp
   rw [hB.frozen (p := ⟨b, off, none⟩) (hlt _ hm)]
   exact hz b off hm
  ·intro ha
   have := hn ha
   rw [hps] at this
   simpa using this
  ·intro p hp _
   rw [hps]
   simpa using hp
end
end Go.Abs
namespace Go.Abs
section
variable (P : Program) (nO : Nat)
def Wd : Lvl := { calls := u9 P nO, rounds := O4 P nO, codes := Q2 P nO, loops := Z4 P nO }
theorem a3g : Snd P nO (Wd P nO) := ⟨fun _ _ _ _ _ h => h, fun _ _ _ _ _ _ _ h => h, fun _ _ _ _ _ _ _ h => h, fun _ _ _ _ _ _ _ h => h⟩
def wpC (ro : Option Nat) (c : Code) (Q : Exit -> Act -> World -> Prop) (a : Act) (A : World) : Prop := ∃ e a' A', Q2 P nO ro c a A e a' A' /\ Q e a' A'
def wpL (ro : Option Nat) (c : Code) (Q : Exit -> Act -> World -> Prop) (a : Act) (A : World) : Prop := ∃ e a' A', Z4 P nO ro c a A e a' A' /\ Q e a' A'
def wpF (f : FuncId) (xs : Array Value) (Q : Value -> World -> Prop) (A : World) : Prop := ∃ v A', u9 P nO f xs A v A' /\ Q v A'
structure IsFn (f : FuncId) (fn : Func) (c : Code) : Prop where
 at_ : P.funcs[f]? = some fn
 body : fn.body = some c
 name : (fn.name == "runtime.NumGoroutine") = false
structure retQ (fn : Func) (Q : Value -> World -> Prop) (e : Exit) (a : Act) (A : World) : Prop where
 how : e = .normal ∨ e = .ret
 defers : a.defers = []
 out : ∃ v, (results fn a.tmps).run P A = .ok v A /\ Q v A
def a4t (N : Act -> World -> Prop) (Q : Exit -> Act -> World -> Prop) : Exit -> Act -> World -> Prop := fun e a A => match e with
 | .normal => N a A
 | e => Q e a A
end
section
variable {P : Program} {nO : Nat} {ro : Option Nat} {Q : Exit -> Act -> World -> Prop} {a : Act} {A : World}
theorem wpC.mono {c : Code} {Q' : Exit -> Act -> World -> Prop} (h : wpC P nO ro c Q a A) (k : ∀ e a A, Q e a A -> Q' e a A) : wpC P nO ro c Q' a A :=
 let ⟨e, a', A', h1, h2⟩ := h; ⟨e, a', A', h1, k _ _ _ h2⟩
theorem p0 (G : Good P) {c : Code} {e : Exit} {a' : Act} {A' : World} (h : a2P P (Wd P nO) (a5m P) ro c a A e a' A') : Q2 P nO ro c a A e a' A' :=
 a5D G (a3g P nO) (a5C G (a3g P nO)) h
theorem b5N (G : Good P) (h : Q .normal a A) : wpC P nO ro .skip Q a A := ⟨_, _, _, p0 G (c := .skip) ⟨rfl, rfl, rfl⟩, h⟩
theorem b7D (G : Good P) (h : Q .ret a A) : wpC P nO ro .ret Q a A := ⟨_, _, _, p0 G (c := .ret) ⟨rfl, rfl, rfl⟩, h⟩
theorem b5P (G : Good P) {id : Nat} (h : Q (.exit id) a A) : wpC P nO ro (.exit id) Q a A := ⟨_, _, _, p0 G (c := .exit id) ⟨rfl, rfl, rfl⟩, h⟩
theorem b7C (G : Good P) {x y : Code} (h : wpC P nO ro x (a4t (wpC P nO ro y Q) Q) a A) : wpC P nO ro (.seq x y) Q a A := by
 obtain ⟨e, a1, A1, h1, h2⟩ := h
 cases e with
 | normal =>
  obtain ⟨e2, a2, A2, h3, h4⟩ := h2
  exact ⟨e2, a2, A2, p0 G (c := .seq x y) ⟨_, _, _, h1, h3⟩, h4⟩
 | exit i => exact ⟨_, _, _, p0 G (c := .seq x y) ⟨_, _, _, h1, rfl, rfl, rfl⟩, h2⟩
 | goto l => exact ⟨_, _, _, p0 G (c := .seq x y) ⟨_, _, _, h1, rfl, rfl, rfl⟩, h2⟩
 | ret => exact ⟨_, _, _, p0 G (c := .seq x y) ⟨_, _, _, h1, rfl, rfl, rfl⟩, h2⟩
 | panic ch => exact ⟨_, _, _, p0 G (c := .seq x y) ⟨_, _, _, h1, rfl, rfl, rfl⟩, h2⟩
 | outgrown => exact ⟨_, _, _, p0 G (c := .seq x y) ⟨_, _, _, h1, rfl, rfl, rfl⟩, h2⟩
theorem b5Q (G : Good P) {c : Operand} {x y : Code} (b : Bool) (hc : a.eval c = .bool b) (h : wpC P nO ro (if b then x else y) Q a A) : wpC P nO ro (.cond c x y) Q a A := by
 obtain ⟨e, a1, A1, h1, h2⟩ := h
 exact ⟨_, _, _, p0 G (c := .cond c x y) ⟨b, hc, h1⟩, h2⟩
theorem b3e (G : Good P) {id : Nat} {x : Code} (h : wpC P nO ro x (fun e => Q (a3L id e)) a A) : wpC P nO ro (.block id x) Q a A := by
 obtain ⟨e, a1, A1, h1, h2⟩ := h
 exact ⟨_, _, _, p0 G (c := .block id x) ⟨e, h1, rfl⟩, h2⟩
theorem b5O (G : Good P) {x : Code} (h : wpL P nO ro x Q a A) : wpC P nO ro (.loop x) Q a A := by
 obtain ⟨e, a1, A1, h1, h2⟩ := h
 exact ⟨_, _, _, p0 G (c := .loop x) h1, h2⟩
theorem b1p {x : Code} (h : wpC P nO ro x (a4t (wpL P nO ro x Q) Q) a A) : wpL P nO ro x Q a A := by
 obtain ⟨e, a1, A1, h1, h2⟩ := h
 have mk : ∀ {e2 a2 A2}, Q7 e a1 A1 (Z4 P nO ro x) e2 a2 A2 -> Z4 P nO ro x a A e2 a2 A2 := fun h3 => a5B (a3g P nO) ⟨_, _, _, h1, h3⟩
 cases e with
 | normal =>
  obtain ⟨e2, a2, A2, h3, h4⟩ := h2
  exact ⟨e2, a2, A2, mk h3, h4⟩
 | exit i => exact ⟨_, _, _, mk ⟨rfl, rfl, rfl⟩, h2⟩
 | goto l => exact ⟨_, _, _, mk ⟨rfl, rfl, rfl⟩, h2⟩
 | ret => exact ⟨_, _, _, mk ⟨rfl, rfl, rfl⟩, h2⟩
 | panic ch => exact ⟨_, _, _, mk ⟨rfl, rfl, rfl⟩, h2⟩
 | outgrown => exact ⟨_, _, _, mk ⟨rfl, rfl, rfl⟩, h2⟩
theorem b4s {x : Code} (I : Nat -> Act -> World -> Prop) (h : ∀ n a A, I n a A -> wpC P nO ro x (a4t (fun a' A' => ∃ m, m < n /\ I m a' A') Q) a A) : ∀ (n : Nat) (a : Act) (A : World), I n a A -> wpL P nO ro x Q a A := by
 intro n
 induction n using Nat.strongRecOn with
 | _ n ih =>
  intro a A hI
  refine b1p ((h n a A hI).mono fun e a' A' hq => ?_)
  cases e with
  | normal => obtain ⟨m, hm, hI'⟩ := hq; exact ih m hm _ _ hI'
  | _ => exact hq
end
end Go.Abs
open List (mem_cons mem_toArray not_mem_nil append_assoc drop_eq_getElem_cons)
namespace Go.Abs
section
variable {P : Program} {A A' : World} {ρ : Operand -> Value} {o : Oper}
def one (P : Program) (t : TypeId) : Bool :=
 (match P.underlying t with | some (.struct _) => false | some (.array ..) => false | some _ => true | none => false) && (match P.info? t with | some i => decide (i.size = 1) | none => false)
theorem a8H {t : TypeId} (h : one P t = true) (w : World) : (isAgg t).run P w = .ok false w := by
 unfold one at h
 simp only [Bool.and_eq_true] at h
 obtain ⟨h1, _⟩ := h
 unfold isAgg underlying program
 cases hu : P.underlying t with
 | none => rw [hu] at h1; cases h1
 | some d => cases d <;> simp_all [Sem.run, Bind.bind, Sem.bind, Pure.pure]
theorem a0O {v : Value} (h : isOne v = true) : v.cells = #[v] := by cases v <;> simp_all [isOne, Value.cells]
theorem a6C {x : Operand} (h : o.op = .move x ∨ o.op = .assign x) : AOp P ρ o A (.value (ρ x)) A := by
 refine .inr (.inl ⟨?_, ?_⟩)
 ·rcases h with h | h <;> rw [h] <;> trivial
 ·unfold execOp; rcases h with h | h <;> rw [h] <;> rfl
theorem b7K {x : Operand} {v : Value} (h : o.op = .move x) (hx : ρ x = v) : AOp P ρ o A (.value v) A := hx ▸ a6C (.inl h)
theorem b7L {x : Operand} {v : Value} (h : o.op = .assign x) (hx : ρ x = v) : AOp P ρ o A (.value v) A := hx ▸ a6C (.inr h)
theorem b3z {c x y : Operand} {b : Bool} (h : o.op = .pick c x y) (hc : ρ c = .bool b) : AOp P ρ o A (.value (if b then ρ x else ρ y)) A := by
 refine .inr (.inl ⟨by rw [h]; trivial, ?_⟩)
 unfold execOp; rw [h]; simp only [hc]; rfl
theorem a4A {t : TypeId} {p : Addr} {v : Value} (h1 : one P t = true) (hc : A.cell? p = some v) : (loadVar t p).run P A = .ok v A := by
 unfold loadVar
 simp only [Sem.run_bind, a8H h1, Result.andThen]
 simp [hc]
theorem b3A {t : TypeId} {x : Operand} {p : Addr} {v : Value} (h : o.op = .load t x) (hx : ρ x = .pointer (some p)) (h1 : one P t = true) (hc : A.cell? p = some v) : AOp P ρ o A (.value v) A := by
 refine .inr (.inl ⟨by rw [h]; trivial, ?_⟩)
 unfold execOp; rw [h]
 simp only [Instr.loadAt, hx, Instr.sureAddr, Sem.run_bind, Sem.run_pure, Result.andThen, a4A h1 hc]
theorem G9 {α : Type} {xs : Array α} {g : α -> Value} {l : List Value} (h : xs.toList.map g = l) : xs.map g = l.toArray := by
 rw [<- h, <- Array.toList_map]
theorem b3B {f : FuncId} {first cap : Array Operand} {l l' : List Value} (h : o.op = .makeFunc (.func f) first cap) (h1 : first.toList.map ρ = l) (h2 : cap.toList.map ρ = l') : AOp P ρ o A (.value (.func (.func f) l.toArray l'.toArray)) A := by
 refine .inr (.inl ⟨by rw [h]; exact ⟨_, rfl⟩, ?_⟩)
 unfold execOp; rw [h]; rw [<- G9 h1, <- G9 h2]; rfl
def b1i (op : BinOp) (k : IntKind) (m n : Int) : Option Value := match op with
 | .add => some (.int k (k.wrap (m + n)))
 | .sub => some (.int k (k.wrap (m - n)))
 | .mul => some (.int k (k.wrap (m * n)))
 | .quo => if n = 0 then none else some (.int k (k.wrap (m.tdiv n)))
 | .rem => if n = 0 then none else some (.int k (m.tmod n))
 | .eql => some (.bool (m == n))
 | .neq => some (.bool (m != n))
 | .lss => some (.bool (m < n))
 | .leq => some (.bool (m <= n))
 | .gtr => some (.bool (m > n))
 | .geq => some (.bool (m ≥ n))
 | .shr => if n < 0 then none else some (.int k (m.fdiv (2 ^ (min n.toNat k.bits))))
 | .shl => if n < 0 then none else some (.int k (k.wrap (m * 2 ^ (min n.toNat k.bits))))
 | _ => none
theorem b56 {op : BinOp} {t : TypeId} {x y : Operand} {z : TypeId} {k : IntKind} {m n : Int} {v : Value} (h : o.op = .binOp op t x y z) (hx : ρ x = .int k m) (hy : ρ y = .int k n) (hv : b1i op k m n = some v) : AOp P ρ o A (.value v) A := by
 refine .inl ⟨v, rfl, rfl, ?_, ?_, by rw [h]; rfl, fun w => ?_⟩
 ·unfold b1i at hv
  split at hv <;> first | (cases hv; done) | (cases hv; rfl) | (split at hv <;> cases hv <;> rfl)
 ·rw [h]; intro u hu
  simp only [Op.operands, mem_toArray, mem_cons, not_mem_nil, or_false] at hu
  rcases hu with rfl | rfl
  ·rw [hx]; rfl
  ·rw [hy]; rfl
 ·unfold execOp; rw [h]
  simp only [hx, hy]
  unfold b1i at hv
  split at hv <;> first | (cases hv; done) | skip
  all_goals first
   | (cases hv; simp [eqGuard, binOp, Op.intArith, Op.intCmp, Bind.bind, Sem.bind, Pure.pure]; done)
   | (split at hv <;> first | (cases hv; done) | (cases hv; rename_i hn; simp [eqGuard, binOp, Op.intDiv, hn, Bind.bind, Sem.bind, Pure.pure]; done) | (cases hv; rename_i hn; simp [eqGuard, binOp, Op.shift, hn, Bind.bind, Sem.bind, Pure.pure]))
theorem b0U {t : TypeId} {x : Operand} {b : Bool} (h : o.op = .unOp .not t x) (hx : ρ x = .bool b) : AOp P ρ o A (.value (.bool !b)) A := by
 refine .inl ⟨_, rfl, rfl, rfl, ?_, by rw [h]; rfl, fun w => ?_⟩
 ·rw [h]; intro u hu
  simp only [Op.operands, mem_toArray, mem_cons, not_mem_nil, or_false] at hu
  subst hu; rw [hx]; rfl
 ·unfold execOp; rw [h]; simp only [hx]; rfl
theorem b0V {t : TypeId} {x y : Operand} {z : TypeId} {v w : Value} (h : o.op = .binOp .neq t x y z) (hx : ρ x = v) (hy : ρ y = w) (hn : nilPair v w = true) {b : Bool} (hr : (Op.equal t v w).run P A = .ok b A) : AOp P ρ o A (.value (.bool !b)) A := by
 refine .inr (.inl ⟨by rw [h]; show nilPair (ρ x) (ρ y) = true; rw [hx, hy]; exact hn, ?_⟩)
 unfold execOp; rw [h]
 simp only [hx, hy, E2 hn .neq t x y (.inr rfl), P4 hn t, Sem.run_bind, Sem.run_pure, Result.andThen, hr]
theorem b0X {c : Call} {t e : TypeId} {b : Option Addr} {len cap : Nat} (h : o.op = .call c) (hc : c.callee = .builtin .len) (ht : c.argTypes[0]? = some t) (hu : P.underlying t = some (.slice e)) (hx : c.args.toList.map ρ = [.slice b len cap]) :
  AOp P ρ o A (.value (.int .i64 len)) A := by
 refine .inr (.inl ⟨by rw [h]; exact .inl hc, ?_⟩)
 unfold execOp; rw [h]
 simp only [resolve, hc, G9 hx, Sem.run_bind, Sem.run_pure, Result.andThen, invoke, builtin, Builtin.len_, ht]
 simp [underlying, program, Sem.run, Bind.bind, Sem.bind, Pure.pure, hu, goInt]
theorem b54 {c : Call} {k : IntKind} {m n : Int} (h : o.op = .call c) (hc : c.callee = .builtin .min) (hx : c.args.toList.map ρ = [.int k m, .int k n]) (hp : o.op.operands.toList.all (fun x => r7 (ρ x)) = true) :
  AOp P ρ o A (.value (.int k (if n < m then n else m))) A := by
 refine .inl ⟨_, rfl, rfl, rfl, fun x hx => (List.all_eq_true.1 hp) x (by simpa using hx), by rw [h]; rfl, fun w => ?_⟩
 unfold execOp; rw [h]
 simp only [resolve, hc, G9 hx, Sem.run_bind, Sem.run_pure, Result.andThen, invoke, builtin, Builtin.min_]
 rfl
theorem b55 {c : Call} {k : IntKind} {m n : Int} (h : o.op = .call c) (hc : c.callee = .builtin .max) (hx : c.args.toList.map ρ = [.int k m, .int k n]) (hp : o.op.operands.toList.all (fun x => r7 (ρ x)) = true) :
  AOp P ρ o A (.value (.int k (if m < n then n else m))) A := by
 refine .inl ⟨_, rfl, rfl, rfl, fun x hx => (List.all_eq_true.1 hp) x (by simpa using hx), by rw [h]; rfl, fun w => ?_⟩
 unfold execOp; rw [h]
 simp only [resolve, hc, G9 hx, Sem.run_bind, Sem.run_pure, Result.andThen, invoke, builtin, Builtin.max_]
 rfl
theorem b05 (a : Addr) (i : Nat) : (a.add i).block = a.block := by unfold Addr.add; split <;> rfl
theorem b6b (a : Addr) (i : Nat) : (a.add i).off = a.off + i := by unfold Addr.add; split <;> simp_all
theorem b3D {a : Addr} (h : a.spot = none) (i : Nat) : (a.add i).spot = none := by unfold Addr.add; split <;> simp_all
theorem cell_at {a : Addr} {cs : Array Value} {t : TypeId} {fz : Nat × Nat} (h : A.heap[a.block]? = some (.cells cs t fz)) (hs : a.spot = none) : A.cell? a = cs[a.off]? := by
 simp only [World.cell?, h, hs]; rfl
theorem a6q {a : Addr} {cs : Array Value} {t : TypeId} {fz : Nat × Nat} (h : A.heap[a.block]? = some (.cells cs t fz)) (hs : a.spot = none) (i : Nat) : A.cell? (a.add i) = cs[a.off + i]? := by
 rw [cell_at (a := a.add i) (by rw [b05]; exact h) (b3D hs i), b6b]
theorem E1 : ∀ (n : Nat) (a : Addr) (i : Nat) (acc cs : Array Value) (t : TypeId) (fz : Nat × Nat), A.heap[a.block]? = some (.cells cs t fz) -> a.spot = none -> a.off + i + n <= cs.size ->
  (loadCellsFrom a i n acc).run P A = .ok (acc ++ cs.extract (a.off + i) (a.off + i + n)) A
 | 0, a, i, acc, cs, t, fz, h, hs, hn => by
  have : cs.extract (a.off + i) (a.off + i + 0) = #[] := by simp; omega
  rw [this]; simp [loadCellsFrom]
 | n + 1, a, i, acc, cs, t, fz, h, hs, hn => by
  have hlt : a.off + i < cs.size := by omega
  have hc : A.cell? (a.add i) = some cs[a.off + i] := by rw [a6q h hs]; exact Array.getElem?_eq_getElem hlt
  have ih := E1 n a (i + 1) (acc.push cs[a.off + i]) cs t fz h hs (by omega)
  have e : acc.push cs[a.off + i] ++ cs.extract (a.off + (i + 1)) (a.off + (i + 1) + n) = acc ++ cs.extract (a.off + i) (a.off + i + (n + 1)) := by
   apply Array.ext'
   simp only [Array.toList_append, Array.toList_push, Array.toList_extract, List.extract_eq_take_drop, append_assoc]
   congr 1
   have hl : a.off + i < cs.toList.length := by simpa using hlt
   rw [drop_eq_getElem_cons hl, show a.off + i + (n + 1) - (a.off + i) = n + 1 by omega, List.take_succ_cons, show a.off + (i + 1) + n - (a.off + (i + 1)) = n by omega]
   simp [Nat.add_assoc]
  rw [e] at ih
  have e0 : (Go.load (a.add i)).run P A = .ok cs[a.off + i] A := by simp [Go.load, Sem.run, hc]
  unfold loadCellsFrom
  simp only [Sem.run_bind, e0, Result.andThen]
  exact ih
end
end Go.Abs
namespace Go.Abs
def RoB (A : World) (b : Nat) : Prop := ∃ c t n, A.heap[b]? = some (.cells c t (0, n)) /\ 0 < n
def a4e (A A' : World) : Prop := ∀ b, RoB A b -> A'.heap[b]? = A.heap[b]?
abbrev b6o := Nat -> Prop
abbrev Asn := b6o -> World -> Prop
structure Owns (I : Asn) : Prop where
 lt : ∀ {F A b}, I F A -> F b -> b < A.heap.size
 loc : ∀ {F A A'}, I F A -> (∀ b, F b -> A'.heap[b]? = A.heap[b]?) -> a4e A A' -> I F A'
structure Step (F : b6o) (A : World) (F' : b6o) (A' : World) : Prop where
 size : A.heap.size <= A'.heap.size
 kept : ∀ b, b < A.heap.size -> ¬ F b -> A'.heap[b]? = A.heap[b]?
 ro : a4e A A'
 grow : ∀ b, F' b -> F b ∨ A.heap.size <= b
def Asn.sep (I J : Asn) : Asn := fun F A => ∃ F1 F2, I F1 A /\ J F2 A /\ (∀ b, F1 b -> ¬ F2 b) /\ ∀ b, F b ↔ F1 b ∨ F2 b
def cel (b : Nat) (v : Value) : Asn := fun F A => (∀ k, F k ↔ k = b) /\ ∃ t, A.heap[b]? = some (.cells #[v] t (0, 0))
def blk (b : Nat) (o : Obj) : Asn := fun F A => (∀ k, F k ↔ k = b) /\ A.heap[b]? = some o
section
variable {I I' J K : Asn} {F : b6o} {A A' : World}
theorem E8 {b : Nat} {o : Obj} (h : A.heap[b]? = some o) : b < A.heap.size := (Array.getElem?_eq_some_iff.1 h).1
theorem Owns.cel {b : Nat} {v : Value} : Owns (cel b v) := ⟨fun ⟨h1, t, h2⟩ hb => by rw [(h1 _).1 hb]; exact E8 h2, fun ⟨h1, t, h2⟩ hk _ => ⟨h1, t, by rw [hk _ ((h1 _).2 rfl)]; exact h2⟩⟩
theorem Owns.sep (hI : Owns I) (hJ : Owns J) : Owns (I.sep J) := ⟨fun ⟨_F1, _F2, h1, h2, _, h4⟩ hb => ((h4 _).1 hb).elim (hI.lt h1) (hJ.lt h2),
 fun ⟨F1, F2, h1, h2, h3, h4⟩ hk hr => ⟨F1, F2, hI.loc h1 (fun b hb => hk b ((h4 b).2 (.inl hb))) hr, hJ.loc h2 (fun b hb => hk b ((h4 b).2 (.inr hb))) hr, h3, h4⟩⟩
theorem x5 {o : Obj} {b : Nat} (h : b < A.heap.size) : (A.alloc o).heap[b]? = A.heap[b]? := by
 show (A.heap.push o)[b]? = _
 rw [Array.getElem?_push_lt h, Array.getElem?_eq_getElem h]
theorem J6 {o : Obj} : (A.alloc o).heap[A.heap.size]? = some o := by
 show (A.heap.push o)[A.heap.size]? = _
 simp
theorem a5N {o : Obj} : a4e A (A.alloc o) := fun _b ⟨_c, _t, _n, h, _⟩ => x5 (E8 h)
theorem Asn.newO (hJ : Owns J) (h : J F A) (o : Obj) : ∃ F', ((blk A.heap.size o).sep J) F' (A.alloc o) /\ Step F A F' (A.alloc o) := by
 refine ⟨fun b => b = A.heap.size ∨ F b, ⟨fun b => b = A.heap.size, F, ⟨fun _ => Iff.rfl, J6⟩, hJ.loc h (fun b hb => x5 (hJ.lt h hb)) a5N, fun b hb hb' => ?_, fun b => Iff.rfl⟩, ⟨by simp, fun b hb _ => x5 hb, a5N, fun b hb => ?_⟩⟩
 ·have := hJ.lt h hb'; omega
 ·rcases hb with hb | hb
  ·exact .inr (by omega)
  ·exact .inl hb
theorem b5W {b : Nat} {v : Value} {t : TypeId} (h : blk b (.cells #[v] t (0, 0)) F A) : cel b v F A := ⟨h.1, t, h.2⟩
theorem Asn.map (h : (I.sep J) F A) (k : ∀ F, I F A -> I' F A) : (I'.sep J) F A := by
 obtain ⟨F1, F2, h1, h2, h3, h4⟩ := h
 exact ⟨F1, F2, k _ h1, h2, h3, h4⟩
theorem Asn.new (hJ : Owns J) (h : J F A) (v : Value) (t : TypeId) : ∃ F', ((cel A.heap.size v).sep J) F' (A.alloc (.cells #[v] t (0, 0))) /\ Step F A F' (A.alloc (.cells #[v] t (0, 0))) := by
 obtain ⟨F', h1, h2⟩ := Asn.newO hJ h (.cells #[v] t (0, 0))
 exact ⟨F', Asn.map h1 fun _ => b5W, h2⟩
theorem Asn.drop (h : (I.sep J) F A) : ∃ F', J F' A /\ Step F A F' A := by
 obtain ⟨F1, F2, h1, h2, h3, h4⟩ := h
 exact ⟨F2, h2, ⟨Nat.le_refl _, fun _ _ _ => rfl, fun _ _ => rfl, fun b hb => .inl ((h4 b).2 (.inr hb))⟩⟩
theorem b6M {p : Addr} {v : Value} {k : Nat} (h : k ≠ p.block) : (A.setCell p v).heap[k]? = A.heap[k]? := by
 show (A.heap.modify p.block _)[k]? = _
 rw [Array.getElem?_modify, if_neg (fun e => h e.symm)]
theorem b1T {p : Addr} {v : Value} : (A.setCell p v).heap.size = A.heap.size := by simp [World.setCell]
end
section
variable {I J : Asn} {F : b6o} {A A' : World} {p : Option Addr} {l : List Int}
theorem RoB.kept {b : Nat} (h : RoB A b) (k : a4e A A') : RoB A' b := by
 obtain ⟨c, t, n, h1, h2⟩ := h
 exact ⟨c, t, n, by rw [k b ⟨c, t, n, h1, h2⟩]; exact h1, h2⟩
end
theorem V3 {z : Int} (h1 : -9223372036854775808 <= z) (h2 : z < 9223372036854775808) : IntKind.i64.wrap z = z := by
 have e1 : (2 ^ IntKind.i64.bits : Int) = 18446744073709551616 := rfl
 have e2 : (2 ^ (IntKind.i64.bits - 1) : Int) = 9223372036854775808 := rfl
 unfold IntKind.wrap
 simp only [e1, e2, IntKind.signed, Bool.true_and, decide_eq_true_eq]
 split <;> omega
theorem b2C {m n z : Int} (h : z = m + n) (h1 : -9223372036854775808 <= z) (h2 : z < 9223372036854775808) : b1i .add .i64 m n = some (.int .i64 z) := by
 subst h; simp only [b1i, V3 h1 h2]
theorem b2B {m n z : Int} (h : z = m - n) (h1 : -9223372036854775808 <= z) (h2 : z < 9223372036854775808) : b1i .sub .i64 m n = some (.int .i64 z) := by
 subst h; simp only [b1i, V3 h1 h2]
def a9C (l : List Int) : Array Value := (l.map (Value.int .i64)).toArray
section
variable (P : Program) (nO : Nat)
def b1d (y : Value) (xs : Array Value) (A : World) (v : Value) (A' : World) : Prop :=
 ∃ f fn code first cap, IsFn P f fn code /\ y = .func (.func f) first cap /\ u9 P nO f (first ++ xs ++ cap) A v A'
structure Ypec {α : Type} (y : Value) (I : α -> Asn) (st : α -> Int -> Option (Bool × α)) : Prop where
 one : isOne y = true
 loc : ∀ s, Owns (I s)
 run : ∀ {s F A x b s'}, I s F A -> st s x = some (b, s') -> ∃ A' F', b1d P nO y #[.int .i64 x] A (.bool b) A' /\ I s' F' A' /\ Step F A F' A'
structure Fpec {α : Type} (f : Value) (I : α -> Asn) (fn : α -> Int -> Option (Int × α)) : Prop where
 loc : ∀ s, Owns (I s)
 run : ∀ {s F A x v s'}, I s F A -> fn s x = some (v, s') -> ∃ A' F', b1d P nO f #[.int .i64 x] A (.int .i64 v) A' /\ I s' F' A' /\ Step F A F' A'
structure Hands {β : Type} (s : Value) (J : β -> Asn) (run : ∀ α : Type, (α -> Int -> Option (Bool × α)) -> β -> α -> Option (β × α)) : Prop where
 loc : ∀ b, Owns (J b)
 run : ∀ {α : Type} {y : Value} {I : α -> Asn} {st : α -> Int -> Option (Bool × α)}, Ypec P nO y I st -> ∀ {b0 a0 b1 a1 F A}, ((J b0).sep (I a0)) F A -> run α st b0 a0 = some (b1, a1) ->
  ∃ A' F', b1d P nO s #[y] A undef A' /\ ((J b1).sep (I a1)) F' A' /\ Step F A F' A'
variable {P nO}
theorem wpF.call {f : FuncId} {xs : Array Value} {Q : Value -> World -> Prop} {A : World} (h : wpF P nO f xs Q A) : ∃ v A', u9 P nO f xs A v A' /\ Q v A' := h
end
end Go.Abs
