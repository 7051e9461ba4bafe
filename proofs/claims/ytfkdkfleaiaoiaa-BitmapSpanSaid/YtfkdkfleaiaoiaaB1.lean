/-
  ABS B1: the widest level of the canonical run (all that is sound), and how code is walked at it.
-/
import Derived.Test.YtfkdkfleaiaoiaaA37
namespace Go.Abs
section
variable (P : Program) (n₀ : Nat)
/-- The widest level: whatever is sound. -/
def Wd : Lvl := { calls := SndCall P n₀, rounds := SndRound P n₀, codes := SndCode P n₀, loops := SndLoop P n₀ }
theorem snd_wd : Snd P n₀ (Wd P n₀) := ⟨fun _ _ _ _ _ h => h, fun _ _ _ _ _ _ _ h => h, fun _ _ _ _ _ _ _ h => h, fun _ _ _ _ _ _ _ h => h⟩

def wpC (ro : Option Nat) (c : Code) (Q : Exit → Act → World → Prop) (a : Act) (A : World) : Prop := ∃ e a' A', SndCode P n₀ ro c a A e a' A' ∧ Q e a' A'
def wpL (ro : Option Nat) (c : Code) (Q : Exit → Act → World → Prop) (a : Act) (A : World) : Prop := ∃ e a' A', SndLoop P n₀ ro c a A e a' A' ∧ Q e a' A'
def wpF (f : FuncId) (xs : Array Value) (Q : Value → World → Prop) (A : World) : Prop := ∃ v A', SndCall P n₀ f xs A v A' ∧ Q v A'
def wpO (ops : Array Oper) : List Oper → (Act → World → Prop) → Act → World → Prop
  | [], Q, a, A => Q a A
  | o :: os, Q, a, A => if Region.wanted o (yielded ops a.tmps) then ∃ v A1, RunOp P (Wd P n₀) o a A v A1 ∧ wpO ops os Q (a.put o.dst v) A1 else wpO ops os Q (a.put o.dst undef) A

/-- What a function is. -/
structure IsFn (f : FuncId) (fn : Func) (c : Code) : Prop where
  at_ : P.funcs[f]? = some fn
  body : fn.body = some c
  name : (fn.name == "runtime.NumGoroutine") = false

structure retQ (fn : Func) (Q : Value → World → Prop) (e : Exit) (a : Act) (A : World) : Prop where
  how : e = .normal ∨ e = .ret
  defers : a.defers = []
  out : ∃ v, (results fn a.tmps).run P A = .ok v A ∧ Q v A
def thenQ (N : Act → World → Prop) (Q : Exit → Act → World → Prop) : Exit → Act → World → Prop := fun e a A => match e with
  | .normal => N a A
  | e => Q e a A
end
section
variable {P : Program} {n₀ : Nat} {ro : Option Nat} {Q : Exit → Act → World → Prop} {a : Act} {A : World}

theorem wpC.mono {c : Code} {Q' : Exit → Act → World → Prop} (h : wpC P n₀ ro c Q a A) (k : ∀ e a A, Q e a A → Q' e a A) : wpC P n₀ ro c Q' a A :=
  let ⟨e, a', A', h1, h2⟩ := h; ⟨e, a', A', h1, k _ _ _ h2⟩
theorem wpF.mono {f : FuncId} {xs : Array Value} {Q Q' : Value → World → Prop} (h : wpF P n₀ f xs Q A) (k : ∀ v A, Q v A → Q' v A) : wpF P n₀ f xs Q' A :=
  let ⟨v, A', h1, h2⟩ := h; ⟨v, A', h1, k _ _ h2⟩

theorem wpO_run {ops : Array Oper} : ∀ (os : List Oper) (k : Nat) (Q : Act → World → Prop) (a : Act) (A : World), (∀ (j : Nat) (o : Oper), os[j]? = some o → ops[k + j]? = some o) → wpO P n₀ ops os Q a A →
    ∃ a' A', RunOps P (Wd P n₀) ops (List.range' k os.length) a A a' A' ∧ Q a' A'
  | [], k, Q, a, A, _, h => ⟨a, A, ⟨rfl, rfl⟩, h⟩
  | o :: os, k, Q, a, A, hk, h => by
    have h0 : ops[k]? = some o := by simpa using hk 0 o rfl
    have hk' : ∀ (j : Nat) (o : Oper), os[j]? = some o → ops[k + 1 + j]? = some o := fun j o' hj => by
      have := hk (j + 1) o' (by simpa using hj)
      rw [show k + 1 + j = k + (j + 1) by omega]; exact this
    simp only [List.length_cons, List.range'_succ, RunOps, h0]
    unfold wpO at h
    split at h
    · rename_i hw
      obtain ⟨v, A1, h1, h2⟩ := h
      obtain ⟨a', A', h3, h4⟩ := wpO_run os (k + 1) Q _ _ hk' h2
      refine ⟨a', A', ?_, h4⟩
      rw [if_pos hw]; exact ⟨v, A1, h1, h3⟩
    · rename_i hw
      obtain ⟨a', A', h3, h4⟩ := wpO_run os (k + 1) Q _ _ hk' h
      refine ⟨a', A', ?_, h4⟩
      rw [if_neg hw]; exact h3

theorem code_of (G : Good P) {c : Code} {e : Exit} {a' : Act} {A' : World} (h : codeStep P (Wd P n₀) (RunDraw P) ro c a A e a' A') : SndCode P n₀ ro c a A e a' A' :=
  snd_code G (snd_wd P n₀) (snd_draw G (snd_wd P n₀)) h

theorem cw_region (G : Good P) {id : Nat} {ops : Array Oper} (h : wpO P n₀ ops ops.toList (Q .normal) a A) : wpC P n₀ ro (.region id ops false) Q a A := by
  obtain ⟨a', A', h1, h2⟩ := wpO_run ops.toList 0 _ a A (fun j o h => by simpa using h) h
  exact ⟨.normal, a', A', code_of G (c := .region id ops false) ⟨rfl, by simpa [List.range_eq_range'] using h1⟩, h2⟩
theorem cw_skip (G : Good P) (h : Q .normal a A) : wpC P n₀ ro .skip Q a A := ⟨_, _, _, code_of G (c := .skip) ⟨rfl, rfl, rfl⟩, h⟩
theorem cw_ret (G : Good P) (h : Q .ret a A) : wpC P n₀ ro .ret Q a A := ⟨_, _, _, code_of G (c := .ret) ⟨rfl, rfl, rfl⟩, h⟩
theorem cw_exit (G : Good P) {id : Nat} (h : Q (.exit id) a A) : wpC P n₀ ro (.exit id) Q a A := ⟨_, _, _, code_of G (c := .exit id) ⟨rfl, rfl, rfl⟩, h⟩
theorem cw_seq (G : Good P) {x y : Code} (h : wpC P n₀ ro x (thenQ (wpC P n₀ ro y Q) Q) a A) : wpC P n₀ ro (.seq x y) Q a A := by
  obtain ⟨e, a1, A1, h1, h2⟩ := h
  cases e with
  | normal =>
    obtain ⟨e2, a2, A2, h3, h4⟩ := h2
    exact ⟨e2, a2, A2, code_of G (c := .seq x y) ⟨_, _, _, h1, h3⟩, h4⟩
  | exit i => exact ⟨_, _, _, code_of G (c := .seq x y) ⟨_, _, _, h1, rfl, rfl, rfl⟩, h2⟩
  | goto l => exact ⟨_, _, _, code_of G (c := .seq x y) ⟨_, _, _, h1, rfl, rfl, rfl⟩, h2⟩
  | ret => exact ⟨_, _, _, code_of G (c := .seq x y) ⟨_, _, _, h1, rfl, rfl, rfl⟩, h2⟩
  | panic ch => exact ⟨_, _, _, code_of G (c := .seq x y) ⟨_, _, _, h1, rfl, rfl, rfl⟩, h2⟩
  | outgrown => exact ⟨_, _, _, code_of G (c := .seq x y) ⟨_, _, _, h1, rfl, rfl, rfl⟩, h2⟩
theorem cw_cond (G : Good P) {c : Operand} {x y : Code} (b : Bool) (hc : a.eval c = .bool b) (h : wpC P n₀ ro (if b then x else y) Q a A) : wpC P n₀ ro (.cond c x y) Q a A := by
  obtain ⟨e, a1, A1, h1, h2⟩ := h
  exact ⟨_, _, _, code_of G (c := .cond c x y) ⟨b, hc, h1⟩, h2⟩
theorem cw_block (G : Good P) {id : Nat} {x : Code} (h : wpC P n₀ ro x (fun e => Q (inBlk id e)) a A) : wpC P n₀ ro (.block id x) Q a A := by
  obtain ⟨e, a1, A1, h1, h2⟩ := h
  exact ⟨_, _, _, code_of G (c := .block id x) ⟨e, h1, rfl⟩, h2⟩
theorem cw_loop (G : Good P) {x : Code} (h : wpL P n₀ ro x Q a A) : wpC P n₀ ro (.loop x) Q a A := by
  obtain ⟨e, a1, A1, h1, h2⟩ := h
  exact ⟨_, _, _, code_of G (c := .loop x) h1, h2⟩
theorem wpL_step {x : Code} (h : wpC P n₀ ro x (thenQ (wpL P n₀ ro x Q) Q) a A) : wpL P n₀ ro x Q a A := by
  obtain ⟨e, a1, A1, h1, h2⟩ := h
  have mk : ∀ {e2 a2 A2}, thenStep e a1 A1 (SndLoop P n₀ ro x) e2 a2 A2 → SndLoop P n₀ ro x a A e2 a2 A2 := fun h3 => snd_loop (snd_wd P n₀) ⟨_, _, _, h1, h3⟩
  cases e with
  | normal =>
    obtain ⟨e2, a2, A2, h3, h4⟩ := h2
    exact ⟨e2, a2, A2, mk h3, h4⟩
  | exit i => exact ⟨_, _, _, mk ⟨rfl, rfl, rfl⟩, h2⟩
  | goto l => exact ⟨_, _, _, mk ⟨rfl, rfl, rfl⟩, h2⟩
  | ret => exact ⟨_, _, _, mk ⟨rfl, rfl, rfl⟩, h2⟩
  | panic ch => exact ⟨_, _, _, mk ⟨rfl, rfl, rfl⟩, h2⟩
  | outgrown => exact ⟨_, _, _, mk ⟨rfl, rfl, rfl⟩, h2⟩
/-- A loop, by what holds ahead of each round, and how much is still to do. -/
theorem wpL_ind {x : Code} (I : Nat → Act → World → Prop) (h : ∀ n a A, I n a A → wpC P n₀ ro x (thenQ (fun a' A' => ∃ m, m < n ∧ I m a' A') Q) a A) : ∀ (n : Nat) (a : Act) (A : World), I n a A → wpL P n₀ ro x Q a A := by
  intro n
  induction n using Nat.strongRecOn with
  | _ n ih =>
    intro a A hI
    refine wpL_step ((h n a A hI).mono fun e a' A' hq => ?_)
    cases e with
    | normal => obtain ⟨m, hm, hI'⟩ := hq; exact ih m hm _ _ hI'
    | _ => exact hq

theorem wpF_fn (G : Good P) {f : FuncId} {fn : Func} {c : Code} {xs ts : Array Value} (H : IsFn P f fn c) (ht : xs ++ Array.replicate (fn.ntmps - xs.size) undef = ts) {Q : Value → World → Prop}
    (h : wpC P n₀ none c (retQ P fn Q) ⟨ts, []⟩ A) : wpF P n₀ f xs Q A := by
  subst ht
  obtain ⟨e, a1, A1, h1, ⟨h2, h3, v, h4, h5⟩⟩ := h
  exact ⟨v, A1, snd_call G (snd_wd P n₀) ⟨fn, c, e, a1, A1, H.at_, H.body, h1, h2, by rw [h3]; rfl, h4⟩, h5⟩

section
variable {ops : Array Oper} {o : Oper} {os : List Oper} {Q : Act → World → Prop}
theorem wpO_val {v : Value} {A1 : World} (h : AOp P a.eval o A (.value v) A1) (k : wpO P n₀ ops os Q (a.put o.dst v) A1) (hw : Region.wanted o (yielded ops a.tmps) = true := by rfl) : wpO P n₀ ops (o :: os) Q a A := by
  unfold wpO; rw [if_pos hw]; exact ⟨v, A1, ⟨_, _, h, rfl, rfl⟩, k⟩
theorem wpO_unit {A1 : World} (h : AOp P a.eval o A .skip A1) (k : wpO P n₀ ops os Q (a.put o.dst undef) A1) (hw : Region.wanted o (yielded ops a.tmps) = true := by rfl) : wpO P n₀ ops (o :: os) Q a A := by
  unfold wpO; rw [if_pos hw]; exact ⟨undef, A1, ⟨_, _, h, rfl, rfl⟩, k⟩
theorem wpO_not (k : wpO P n₀ ops os Q (a.put o.dst undef) A) (hw : Region.wanted o (yielded ops a.tmps) = false := by rfl) : wpO P n₀ ops (o :: os) Q a A := by
  unfold wpO; rw [if_neg (by rw [hw]; decide)]; exact k
theorem wpO_call {c : Call} {g : Operand} {f : FuncId} {fn : Func} {code : Code} {first cap xs : Array Value} (H : IsFn P f fn code) (hg : a.eval g = .func (.func f) first cap) {l : List Value} (hl : c.args.toList.map a.eval = l) (hx : first ++ l.toArray ++ cap = xs)
    (k : wpF P n₀ f xs (fun v A1 => wpO P n₀ ops os Q (a.put o.dst v) A1) A) (ho : o.op = .call c := by rfl) (hc : c.callee = .value g := by rfl) (hw : Region.wanted o (yielded ops a.tmps) = true := by rfl) : wpO P n₀ ops (o :: os) Q a A := by
  subst hx
  obtain ⟨v, A1, h1, h2⟩ := k
  have e : c.args.map a.eval = l.toArray := by rw [← hl, ← Array.toList_map]
  rw [← e] at h1
  unfold wpO; rw [if_pos hw]
  exact ⟨v, A1, ⟨_, _, .inr (.inr (.inr (.inl ⟨c, g, f, first, cap, fn, code, ho, hc, hg, H.at_, H.body, H.name, rfl, rfl⟩))), h1⟩, h2⟩
end
end
end Go.Abs
