/-
  ABS C9: a region, operation by operation, with a log of what was where; a region that draws its order.
-/
import Derived.Test.YthkoolfmealabaaGreatN13
import Derived.KernelRfl
namespace Go.Abs
/-- Ahead of each operation: the state; what it makes. -/
abbrev Lg := Nat → St × Option Ch
def Lg.snoc (lg : Lg) (i : Nat) (x : St × Option Ch) : Lg := fun j => match Nat.beq j i with
  | true => x
  | false => lg j
def lg0 : Lg := fun _ => (⟨[], [], 0, 0, false, []⟩, none)
def mkOf (P : Program) (s : St) (q : Nat → Nat) (o : Oper) : Option Ch := match kindOf o.op with
  | .makes => match evMk P (evX s.env) (q s.nx) s.nx o.op with
    | some (_, l, t, _) => some (.blk s.nx (q s.nx) l t .own)
    | none => none
  | _ => none
section
variable (P : Program) (n₀ : Nat) (ops : Array Oper)
def OpOk (a : Act) (A : World) (v : Value) (a1 : Act) (A1 : World) (s : St) (mk : Option Ch) (o : Oper) : Prop :=
  a1 = a.put o.dst v ∧ if Region.wanted o (yielded ops a.tmps) = true then RunOp P (Wd P n₀) o a A v A1 ∧ (match kindOf o.op with
    | .quiet => A1 = A ∧ RhoOk (rhoOf ops s o) a.eval ∧ ∃ u ps, evq P s.ov (rhoOf ops s o) s.hp o.op = some (u, ps) ∧ AllP ps ∧ v = u.den
    | .makes => ∃ l t, wantS ops s.env o = some .yes ∧ A1 = A.alloc (.cells (cells1 l) t (0, 0)) ∧ newVal v A.heap.size ∧ (∀ w : World, w.heap.size = A.heap.size → RegOk P w a.eval o.op ∧ (execOp a.eval o).run P w = .ok (.value v) (w.alloc (.cells (cells1 l) t (0, 0)))) ∧ mk = some (.blk s.nx A.heap.size l t .own)
    | .acts => True)
  else A1 = A ∧ v = undef
def SeqOk (T : Trace) (lg : Lg) (i : Nat) : Prop := ∀ j o, j < i → ops[j]? = some o → OpOk P n₀ ops (T.as j) (T.ws j) (T.vs j) (T.as (j + 1)) (T.ws (j + 1)) (lg j).1 (lg j).2 o
def runS (q : Nat → Nat) : Nat → Nat → St → Option (St × List Ob)
  | 0, _, s => some (s, [])
  | k + 1, i, s => match ops[i]? with
    | some o => match stepS P ops s q o with
      | some (_, s1, p1) => match runS q k (i + 1) s1 with
        | some (s2, p2) => some (s2, p1 ++ p2)
        | none => none
      | none => none
    | none => none
def logRun (q : Nat → Nat) : Nat → Nat → St → Lg → Lg
  | 0, _, _, lg => lg
  | k + 1, i, s, lg => match ops[i]? with
    | some o => match stepS P ops s q o with
      | some (_, s1, _) => logRun q k (i + 1) s1 (lg.snoc i (s, mkOf P s q o))
      | none => lg
    | none => lg
variable (ro : Option Nat) (id : Nat) (d : Bool) (B : Ft × World) (Q : Exit → Act → World → Prop)
def WR (i : Nat) (lg : Lg) (s : St) : Prop := ∀ T : Trace, SeqOk P n₀ ops T lg i → (∀ j, j < i → Sat B (lg j).1 (T.as j) (T.ws j)) → Sat B s (T.as i) (T.ws i) → wpC P n₀ ro (.region id ops d) Q (T.as 0) (T.ws 0)
end
section
variable {P : Program} {n₀ : Nat} {ops : Array Oper} {B : Ft × World}
theorem step_ok {s s1 : St} {a : Act} {A : World} {q : Nat → Nat} {o : Oper} {v : SV} {ps : List Ob} (hs : Sat B s a A) (h : stepS P ops s q o = some (v, s1, ps)) (hps : AllP ps) (hq : q s.nx = A.heap.size) :
    ∃ u A1, OpOk P n₀ ops a A u (a.put o.dst u) A1 s (mkOf P s q o) o ∧ Sat B s1 (a.put o.dst u) A1 ∧ ((s1.nx = s.nx ∧ A1.heap.size = A.heap.size) ∨ (s1.nx = s.nx + 1 ∧ A1.heap.size = A.heap.size + 1)) := by
  have hρ : RhoOk (evX s.env) a.eval := fun x v h => evX_ok hs.1 h
  obtain ⟨F, hF, hM⟩ := hs.2.2.2
  unfold stepS at h
  split at h
  · cases h
  · rename_i hw
    split at h
    case h_2 => cases h
    rename_i s2 h2
    cases h
    obtain ⟨h3, h4, _⟩ := putE_ok (A1 := A) (hp := s.hp) (nx := s.nx) (u := undef) hs ⟨F, hF, hM⟩ h2 rfl
    refine ⟨undef, A, ⟨rfl, ?_⟩, h3, .inl ⟨h4, rfl⟩⟩
    have hw' : Region.wanted o (yielded ops a.tmps) = false := wantS_ok hs hw
    rw [if_neg (by rw [hw']; decide)]; exact ⟨rfl, rfl⟩
  · rename_i e hw
    have hw' : Region.wanted o (yielded ops a.tmps) = e := wantS_ok hs hw
    split at h
    case h_2 => cases h
    rename_i hk
    split at h
    case h_2 => cases h
    rename_i u ps' h1
    split at h
    case h_2 => cases h
    rename_i v' hv
    split at h
    case h_2 => cases h
    rename_i s2 h2
    cases h
    obtain ⟨p1, p2⟩ := AllP.split hps
    have hd := condV_den hv
    obtain ⟨h3, h4, _⟩ := putE_ok (A1 := A) (hp := s.hp) (nx := s.nx) (u := v.den) hs ⟨F, hF, hM⟩ h2 rfl
    refine ⟨v.den, A, ⟨rfl, ?_⟩, h3, .inl ⟨h4, rfl⟩⟩
    cases he : e with
    | false =>
      rw [he] at hw' hd
      rw [if_neg (by rw [hw']; decide)]
      exact ⟨rfl, hd⟩
    | true =>
      rw [he] at hw'
      rw [if_pos hw']
      have hd' : v.den = u.den := by rw [hd, he]; rfl
      have hρ' := stripX_ok hs.1 p1 he
      have hA := evq_ok (A := A) hρ' hF h1 (mayP_ok p2 he)
      rw [← hd'] at hA
      refine ⟨⟨_, _, hA, rfl, rfl⟩, ?_⟩
      rw [hk]
      have er : rhoOf ops s o = stripX s.env (opTmps o.op) := by unfold rhoOf; rw [hw]
      rw [er]
      exact ⟨rfl, hρ', u, ps', h1, mayP_ok p2 he, hd'⟩
  · rename_i hw
    have hw' : Region.wanted o (yielded ops a.tmps) = true := wantS_ok hs hw
    have er : rhoOf ops s o = evX s.env := by unfold rhoOf; rw [hw]
    split at h
    · rename_i hk
      split at h
      case h_2 => cases h
      rename_i u ps' h1
      split at h
      case h_2 => cases h
      rename_i s2 h2
      cases h
      have hA := evq_ok (A := A) hρ hF h1 hps
      obtain ⟨h3, h4, _⟩ := putE_ok (A1 := A) (hp := s.hp) (nx := s.nx) (u := v.den) hs ⟨F, hF, hM⟩ h2 rfl
      refine ⟨v.den, A, ⟨rfl, ?_⟩, h3, .inl ⟨h4, rfl⟩⟩
      rw [if_pos hw']
      refine ⟨⟨_, _, hA, rfl, rfl⟩, ?_⟩
      rw [hk]
      rw [er]
      exact ⟨rfl, hρ, v, ps, h1, hps, rfl⟩
    · rename_i hk
      split at h
      case h_2 => cases h
      rename_i u l t ps' h1
      split at h
      case h_2 => cases h
      rename_i s2 h2
      cases h
      obtain ⟨_, hn, hrun⟩ := evMk_ok hρ h1 hps
      rw [hq] at hn hrun
      have hlt : ∀ b, F.own b ∨ F.imm b → b < A.heap.size := fun b hb => (hpA s.hp).lt hF hb
      have hnew : ∃ F', (hpA (.blk s.nx (q s.nx) l t .own :: s.hp)).p F' (A.alloc (.cells (cells1 l) t (0, 0))) ∧ Mv F A F' (A.alloc (.cells (cells1 l) t (0, 0))) := by
        refine ⟨Ft.un ⟨fun b => b = A.heap.size, fun _ => False⟩ F, ⟨⟨fun b => b = A.heap.size, fun _ => False⟩, F, ⟨fun b => by rw [hq]; simp [Md.mine], fun b => by simp [Md.mine], (0, 0), rfl, by rw [hq]; exact alloc_at⟩, As.loc _ hF fun b hb => alloc_lt (hlt b hb), ⟨fun _ => Iff.rfl, fun _ => Iff.rfl, fun b h1 h2 => ?_, fun b h1 h2 => ?_, fun b h1 => h1.elim⟩⟩,
          ⟨by simp, fun b hb _ => alloc_lt hb, fun b hb => ?_, fun b hb => ?_⟩⟩
        · have := hlt b (.inl h2); simp only at h1; omega
        · have := hlt b (.inr h2); simp only at h1; omega
        · rcases hb with hb | hb
          · simp only at hb; exact .inr (by omega)
          · exact .inl hb
        · rcases hb with hb | hb
          · exact hb.elim
          · exact .inr (.inl hb)
      obtain ⟨F', h5, h6⟩ := hnew
      obtain ⟨h3, h4, _⟩ := putE_ok (A1 := A.alloc (.cells (cells1 l) t (0, 0))) (u := v.den) hs ⟨F', h5, hM.trans h6⟩ h2 rfl
      obtain ⟨hr1, hr2⟩ := hrun A rfl
      refine ⟨v.den, _, ⟨rfl, ?_⟩, h3, .inr ⟨h4, by simp⟩⟩
      rw [if_pos hw']
      refine ⟨⟨_, _, .inr (.inl ⟨hr1, hr2⟩), rfl, rfl⟩, ?_⟩
      rw [hk]
      refine ⟨l, t, hw, rfl, hn, hrun, ?_⟩
      unfold mkOf
      rw [hk]
      rw [← hq]
      simp only [h1]
    · rename_i hk
      split at h
      case h_2 => cases h
      rename_i t x y ho
      split at h
      case h_2 => cases h
      rename_i hp' ps' h1
      split at h
      case h_2 => cases h
      rename_i s2 h2
      cases h
      obtain ⟨A', hA, h5, h6, h7⟩ := evStore_ok (A := A) hρ hF ho h1 hps
      obtain ⟨h3, h4, _⟩ := putE_ok (A1 := A') (hp := hp') (nx := s.nx) (u := undef) hs ⟨F, h5, hM.trans h6⟩ h2 rfl
      refine ⟨undef, A', ⟨rfl, ?_⟩, h3, .inl ⟨h4, h7⟩⟩
      rw [if_pos hw']
      refine ⟨⟨_, _, hA, rfl, rfl⟩, ?_⟩
      rw [hk]; trivial
theorem snoc_ne {lg : Lg} {i j : Nat} {x : St × Option Ch} (h : j ≠ i) : lg.snoc i x j = lg j := by
  unfold Lg.snoc
  split
  · rename_i e; exact absurd (Nat.eq_of_beq_eq_true e) h
  · rfl
theorem snoc_at {lg : Lg} {i : Nat} {x : St × Option Ch} : lg.snoc i x i = x := by
  unfold Lg.snoc; rw [Nat.beq_refl]
/-- One more. -/
theorem seq_more {T : Trace} {lg : Lg} {i : Nat} {o : Oper} {s s1 : St} {mk : Option Ch} {u : Value} {A1 : World} (ho : ops[i]? = some o) (h1 : SeqOk P n₀ ops T lg i) (h2 : ∀ j, j < i → Sat B (lg j).1 (T.as j) (T.ws j)) (h3 : Sat B s (T.as i) (T.ws i))
    (h4 : OpOk P n₀ ops (T.as i) (T.ws i) u ((T.as i).put o.dst u) A1 s mk o) (h5 : Sat B s1 ((T.as i).put o.dst u) A1) :
    ∃ T' : Trace, T'.as 0 = T.as 0 ∧ T'.ws 0 = T.ws 0 ∧ SeqOk P n₀ ops T' (lg.snoc i (s, mk)) (i + 1) ∧ (∀ j, j < i + 1 → Sat B ((lg.snoc i (s, mk)) j).1 (T'.as j) (T'.ws j)) ∧ Sat B s1 (T'.as (i + 1)) (T'.ws (i + 1)) ∧ T'.ws (i + 1) = A1 := by
  refine ⟨⟨fun j => if j = i + 1 then (T.as i).put o.dst u else T.as j, fun j => if j = i + 1 then A1 else T.ws j, fun j => if j = i then u else T.vs j⟩, by simp, by simp, fun j o' hj ho' => ?_, fun j hj => ?_, by simpa using h5, by simp⟩
  · by_cases e : j = i
    · subst e
      rw [ho] at ho'; cases ho'
      rw [snoc_at]
      simpa using h4
    · have hlt : j < i := by omega
      rw [snoc_ne e]
      have := h1 j o' hlt ho'
      simpa [e, show j ≠ i + 1 by omega] using this
  · by_cases e : j = i
    · subst e
      rw [snoc_at]; simpa using h3
    · rw [snoc_ne e]
      have := h2 j (by omega)
      simpa [show j ≠ i + 1 by omega] using this
theorem run_ok {q : Nat → Nat} : ∀ {k i : Nat} {lg : Lg} {s s' : St} {ps : List Ob} {T : Trace}, SeqOk P n₀ ops T lg i → (∀ j, j < i → Sat B (lg j).1 (T.as j) (T.ws j)) → Sat B s (T.as i) (T.ws i) → runS P ops q k i s = some (s', ps) → AllP ps → (∀ m, q (s.nx + m) = (T.ws i).heap.size + m) →
    ∃ T' : Trace, T'.as 0 = T.as 0 ∧ T'.ws 0 = T.ws 0 ∧ SeqOk P n₀ ops T' (logRun P ops q k i s lg) (i + k) ∧ (∀ j, j < i + k → Sat B (logRun P ops q k i s lg j).1 (T'.as j) (T'.ws j)) ∧ Sat B s' (T'.as (i + k)) (T'.ws (i + k))
  | 0, i, lg, s, s', ps, T, h1, h2, h3, h, _, _ => by cases h; exact ⟨T, rfl, rfl, h1, h2, h3⟩
  | k + 1, i, lg, s, s', ps, T, h1, h2, h3, h, hps, hq => by
    simp only [runS] at h
    split at h
    case h_2 => cases h
    rename_i o ho
    split at h
    case h_2 => cases h
    rename_i v s1 p1 hst
    split at h
    case h_2 => cases h
    rename_i s2 p2 hr
    cases h
    obtain ⟨hp1, hp2⟩ := AllP.split hps
    obtain ⟨u, A1, h4, h5, h6⟩ := step_ok (n₀ := n₀) h3 hst hp1 (by have := hq 0; simpa using this)
    obtain ⟨T1, e1, e2, g1, g2, g3, g4⟩ := seq_more ho h1 h2 h3 h4 h5
    obtain ⟨T', e3, e4, k1, k2, k3⟩ := run_ok g1 g2 g3 hr hp2 (fun m => by
      rw [g4]
      rcases h6 with ⟨a, b⟩ | ⟨a, b⟩
      · rw [a, b]; exact hq m
      · rw [a, b]; have := hq (m + 1); rw [show s.nx + 1 + m = s.nx + (m + 1) by omega, this]; omega)
    have el : logRun P ops q (k + 1) i s lg = logRun P ops q k (i + 1) s1 (lg.snoc i (s, mkOf P s q o)) := by
      simp only [logRun, ho, hst]
    rw [el, show i + (k + 1) = i + 1 + k by omega]
    exact ⟨T', e3.trans e1, e4.trans e2, k1, k2, k3⟩
def pickE (live : List Nat) (env : List (Nat × SV)) : List (Nat × SV) := live.filterMap fun i => match look env i with
  | some v => some (i, v)
  | none => none
def nar (live : List Nat) (r : St × List Ob) : St × List Ob := ({ r.1 with env := pickE live r.1.env }, r.2)
theorem look_pick {env : List (Nat × SV)} : ∀ {live : List Nat} {i : Nat} {v : SV}, look (pickE live env) i = some v → look env i = some v
  | [], _, _, h => by cases h
  | j :: live, i, v, h => by
    unfold pickE at h
    rw [List.filterMap_cons] at h
    cases hj : look env j with
    | none => rw [hj] at h; exact look_pick (live := live) h
    | some u =>
      rw [hj] at h
      simp only [look] at h
      split at h
      · rename_i e
        cases h
        rw [← Nat.eq_of_beq_eq_true e]; exact hj
      · exact look_pick (live := live) h
theorem sat_nar {s : St} {a : Act} {A : World} {live : List Nat} (h : Sat B s a A) : Sat B { s with env := pickE live s.env } a A := ⟨fun i v hi => h.1 i v (look_pick hi), h.2⟩
end
section
variable {P : Program} {n₀ : Nat} {ops : Array Oper} {ro : Option Nat} {id : Nat} {d : Bool} {B : Ft × World} {Q : Exit → Act → World → Prop}
/-- Some operations. -/
theorem wr_seg {i : Nat} {lg : Lg} {s : St} (k : Nat) (live : List Nat) (s' : (Nat → Nat) → St) (ps : (Nat → Nat) → List Ob) (h : ∀ q, (runS P ops q k i s).map (nar live) = some (s' q, ps q)) (next : ∀ q, AllP (ps q) ∧ WR P n₀ ops ro id d B Q (i + k) (logRun P ops q k i s lg) (s' q)) : WR P n₀ ops ro id d B Q i lg s := by
  intro T h1 h2 h3
  have hq : ∀ m, (fun g => (T.ws i).heap.size + (g - s.nx)) (s.nx + m) = (T.ws i).heap.size + m := fun m => by simp only; omega
  generalize (fun g => (T.ws i).heap.size + (g - s.nx)) = q at hq
  have hr := h q
  rw [Option.map_eq_some_iff] at hr
  obtain ⟨⟨s2, p2⟩, hr, e⟩ := hr
  unfold nar at e
  simp only [Prod.mk.injEq] at e
  obtain ⟨e1, rfl⟩ := e
  obtain ⟨hp, hn⟩ := next q
  obtain ⟨T', e3, e4, k1, k2, k3⟩ := run_ok h1 h2 h3 hr hp hq
  rw [← e3, ← e4]
  refine hn T' k1 k2 ?_
  rw [← e1]
  exact sat_nar k3
def lgAt (lg : Lg) (n : Nat) (s : St) (p : Nat) : St := match Nat.beq p n with
  | true => s
  | false => (lg p).1
def heapless : Op → Bool
  | .load .. | .slice .. => false
  | _ => true
theorem heapless_ev {op : Op} (h : heapless op = true) (ov : Bool) (ρ : Operand → Option SV) (hp hp' : List Ch) : evq P ov ρ hp op = evq P ov ρ hp' op := by
  cases op with
  | unOp o _ _ => cases o <;> rfl
  | makeFunc f _ _ => cases f <;> rfl
  | load _ _ => cases h
  | slice _ _ _ _ _ => cases h
  | _ => rfl
/-- Where a quiet operation may come up, what it would see there; and what it sees. -/
def crossQ (P : Program) (ops : Array Oper) (lg : Lg) (s : St) : List (EvR × EvR) := (List.range ops.size).flatMap fun j => match ops[j]? with
  | some o => match wantS ops (lg j).1.env o with
    | some .no => []
    | _ => match kindOf o.op, heapless o.op with
      | .quiet, false => ((effs ops ++ [ops.size]).filter (mayAt ops (masks ops) j)).map fun p => (evq P (lg j).1.ov (rhoOf ops (lg j).1 o) (lgAt lg ops.size s p).hp o.op, evq P (lg j).1.ov (rhoOf ops (lg j).1 o) (lg j).1.hp o.op)
      | _, _ => []
  | none => []
/-- Where what was made must still be as it was. -/
def crossM (ops : Array Oper) (lg : Lg) (s : St) : List (Option Ch × Option Ch) := (List.range ops.size).flatMap fun j => match ops[j]? with
  | some o => match wantS ops (lg j).1.env o, kindOf o.op with
    | some .yes, .makes => ((effs ops ++ [ops.size]).filter fun p => decide (j < p) && mayAt ops (masks ops) j p).map fun p => (fnd (lgAt lg ops.size s p).hp (lg j).1.nx, (lg j).2)
    | _, _ => []
  | none => []
theorem seq_runs {T : Trace} {lg : Lg} (hS : SeqOk P n₀ ops T lg ops.size) (hs : ∀ j, j < ops.size → Sat B (lg j).1 (T.as j) (T.ws j)) : ∀ (k i : Nat), i + k = ops.size → RunOps P (Wd P n₀) ops (List.range' i k) (T.as i) (T.ws i) (T.as ops.size) (T.ws ops.size)
  | 0, i, h => by
    obtain rfl : i = ops.size := by omega
    exact ⟨rfl, rfl⟩
  | k + 1, i, h => by
    have hi : i < ops.size := by omega
    have ho := Array.getElem?_eq_getElem hi
    have ih := seq_runs hS hs k (i + 1) (by omega)
    obtain ⟨e, hst⟩ := hS i _ hi ho
    simp only [List.range'_succ, RunOps, ho]
    rw [e] at ih
    split at hst
    · rename_i hw
      rw [if_pos hw]
      exact ⟨_, _, hst.1, ih⟩
    · rename_i hw
      rw [if_neg hw]
      obtain ⟨h1, h2⟩ := hst
      rw [h1, h2] at ih
      exact ih
theorem wr_end (G : Good P) {i : Nat} {lg : Lg} {s : St} (hi : i = ops.size) (K : ∀ a A, Sat B s a A → Q .normal a A) : WR P n₀ ops ro id false B Q i lg s := by
  subst hi
  intro T h1 h2 h3
  refine ⟨.normal, _, _, code_of G (c := .region id ops false) ⟨rfl, ?_⟩, K _ _ h3⟩
  rw [List.range_eq_range']
  exact seq_runs h1 h2 ops.size 0 (by omega)
theorem mem_fst {α : Type} {l : List (α × α)} (h : l.map Prod.fst = l.map Prod.snd) {x : α × α} (hx : x ∈ l) : x.1 = x.2 := by
  induction l with
  | nil => cases hx
  | cons y l ih =>
    simp only [List.map_cons, List.cons.injEq] at h
    rcases List.mem_cons.1 hx with rfl | hx
    · exact h.1
    · exact ih h.2 hx
theorem mem_fst1 {α : Type 1} {l : List (α × α)} (h : l.map Prod.fst = l.map Prod.snd) {x : α × α} (hx : x ∈ l) : x.1 = x.2 := by
  induction l with
  | nil => cases hx
  | cons y l ih =>
    simp only [List.map_cons, List.cons.injEq] at h
    rcases List.mem_cons.1 hx with rfl | hx
    · exact h.1
    · exact ih h.2 hx
theorem wr_endD (G : Good P) {i : Nat} {lg : Lg} {s : St} (hi : i = ops.size) (hr : rck ops = true) (hq : (crossQ P ops lg s).map Prod.fst = (crossQ P ops lg s).map Prod.snd) (hm : (crossM ops lg s).map Prod.fst = (crossM ops lg s).map Prod.snd)
    (K : ∀ a A, Sat B s a A → Q .normal a A) : WR P n₀ ops ro id true B Q i lg s := by
  subst hi
  intro T h1 h2 h3
  refine ⟨.normal, _, _, code_of G (c := .region id ops true) ⟨rfl, hr, T, rfl, rfl, rfl, rfl, fun j o ho => ?_⟩, K _ _ h3⟩
  have hj : j < ops.size := (Array.getElem?_eq_some_iff.1 ho).1
  have hsat : ∀ p, p ∈ effs ops ++ [ops.size] → Sat B (lgAt lg ops.size s p) (T.as p) (T.ws p) := fun p hp => by
    unfold lgAt
    split
    · rename_i e
      rw [Nat.eq_of_beq_eq_true e]; exact h3
    · rename_i e
      rcases List.mem_append.1 hp with hp | hp
      · obtain ⟨j', o', ho', _, e'⟩ := mem_actsFrom.1 hp
        have : j' < ops.size := by
          have := (List.getElem?_eq_some_iff.1 ho').1
          simpa using this
        exact h2 p (by omega)
      · simp only [List.mem_cons, List.not_mem_nil, or_false] at hp
        subst hp
        rw [Nat.beq_refl] at e; cases e
  obtain ⟨e, hst⟩ := h1 j o hj ho
  refine ⟨e, ?_⟩
  split at hst
  · rename_i hw
    rw [if_pos hw]
    have hno : wantS ops (lg j).1.env o ≠ some .no := fun h => by
      have : Region.wanted o (yielded ops (T.as j).tmps) = false := wantS_ok (h2 j hj) h
      rw [hw] at this; cases this
    obtain ⟨hrun, hst⟩ := hst
    cases hk : kindOf o.op with
    | quiet =>
      rw [hk] at hst
      obtain ⟨h4, hρ, u, ps, h5, h6, h7⟩ := hst
      refine ⟨h4, fun p hp hmay => ?_⟩
      obtain ⟨F, hF, _⟩ := (hsat p hp).2.2.2
      rw [h7]
      refine evq_ok (ov := (lg j).1.ov) hρ hF ?_ h6
      rw [← h5]
      cases hh : heapless o.op with
      | true => exact heapless_ev hh _ _ _ _
      | false =>
        refine mem_fst hq (x := (evq P (lg j).1.ov (rhoOf ops (lg j).1 o) (lgAt lg ops.size s p).hp o.op, evq P (lg j).1.ov (rhoOf ops (lg j).1 o) (lg j).1.hp o.op)) ?_
        unfold crossQ
        rw [List.mem_flatMap]
        refine ⟨j, List.mem_range.2 hj, ?_⟩
        rw [ho]
        have key : (evq P (lg j).1.ov (rhoOf ops (lg j).1 o) (lgAt lg ops.size s p).hp o.op, evq P (lg j).1.ov (rhoOf ops (lg j).1 o) (lg j).1.hp o.op) ∈ ((effs ops ++ [ops.size]).filter (mayAt ops (masks ops) j)).map fun p => (evq P (lg j).1.ov (rhoOf ops (lg j).1 o) (lgAt lg ops.size s p).hp o.op, evq P (lg j).1.ov (rhoOf ops (lg j).1 o) (lg j).1.hp o.op) := List.mem_map.2 ⟨p, List.mem_filter.2 ⟨hp, hmay⟩, rfl⟩
        simp only [hk, hh]
        generalize wantS ops (lg j).1.env o = wv at hno
        match wv, hno with
        | none, _ => exact key
        | some .yes, _ => exact key
        | some (.may _), _ => exact key
        | some .no, h => exact absurd rfl h
    | makes =>
      rw [hk] at hst
      obtain ⟨l, t, hyes, h4, h5, h6, h7⟩ := hst
      refine ⟨_, h4, rfl, h5, h6, fun p hp hlt hmay => ?_⟩
      have := mem_fst1 hm (x := (fnd (lgAt lg ops.size s p).hp (lg j).1.nx, (lg j).2)) (by
        unfold crossM
        rw [List.mem_flatMap]
        refine ⟨j, List.mem_range.2 hj, ?_⟩
        rw [ho]
        simp only [hyes, hk]
        exact List.mem_map.2 ⟨p, List.mem_filter.2 ⟨hp, by simp [hlt, hmay]⟩, rfl⟩)
      simp only [h7] at this
      obtain ⟨F, hF, _⟩ := (hsat p hp).2.2.2
      obtain ⟨fz, h8, h9⟩ := blk_at this hF
      cases h8
      exact h9
    | acts => exact hrun
  · rename_i hw
    rw [if_neg hw]
    exact hst
end
end Go.Abs
/-
  ABS C10: code, from state to state: functions, calls, loops, branches; what is known restated.
-/
namespace Go.Abs
section
variable (P : Program) (n₀ : Nat) (ro : Option Nat) (B : Ft × World)
def W (c : Code) (Q : Exit → Act → World → Prop) (s : St) : Prop := ∀ a A, Sat B s a A → wpC P n₀ ro c Q a A
/-- What a function does: args; what must lie there; what comes of it. -/
def Ctr (f : FuncId) (args : List SV) (pre : List Ch) (R : Type) (φ : R → Prop) (res : R → SV) (post : R → List Ch) : Prop :=
  ∀ F A, (hpA pre).p F A → ∃ r A' F', φ r ∧ SndCall P n₀ f (args.map SV.den).toArray A (res r).den A' ∧ (hpA (post r)).p F' A' ∧ Mv F A F' A'
def RQ (fn : Func) {R : Type} (φ : R → Prop) (res : R → SV) (post : R → List Ch) (e : Exit) (a : Act) (A : World) : Prop :=
  (e = .normal ∨ e = .ret) ∧ ∃ v A', Marks P a.defers A A' ∧ (results fn a.tmps).run P A' = .ok v A' ∧ ∃ r F', φ r ∧ v = (res r).den ∧ (hpA (post r)).p F' A' ∧ Mv B.1 B.2 F' A'
end
/-- What lies there, said in another way. -/
def GE (l : List Ch) (R : Type) (φ : R → Prop) (l' : R → List Ch) : Prop := ∀ F A, (hpA l).p F A → ∃ r F', φ r ∧ (hpA (l' r)).p F' A ∧ Mv F A F' A
theorem getD_at {α : Type} {l : List α} {i : Nat} {d : α} (h : i < l.length) : l.getD i d = l[i] := by simp [List.getD, h]
theorem zfe {α : Type} {xs : List α} (h : 0 < xs.length) : xs.isEmpty = false := by
  cases xs
  · simp at h
  · rfl
theorem zf {z : Bool} {n k : Nat} (h : z = true → n = 0) (hk : k < n) : z = false := by
  cases z
  · rfl
  · have := h rfl; omega
def emC : Ch := .as As.emp
def selC (idx : List Nat) (l : List Ch) : List Ch := idx.map fun i => l.getD i emC
def restI (idx : List Nat) (n : Nat) : List Nat := (List.range n).filter fun i => !idx.contains i
def okB (idx : List Nat) (n : Nat) : Bool := (List.range n).isPerm (idx ++ restI idx n)
theorem hp_perm {l l' : List Ch} (p : l.Perm l') {F : Ft} {A : World} (h : (hpA l).p F A) : (hpA l').p F A := As.perm (p.map _) h
theorem hp_app {l l' : List Ch} {F : Ft} {A : World} : (hpA (l ++ l')).p F A ↔ ((hpA l).star (hpA l')).p F A := by
  unfold hpA
  rw [List.map_append]
  exact ⟨As.split, As.cat⟩
theorem hp_sel {idx : List Nat} {l : List Ch} (hi : okB idx l.length = true) {F : Ft} {A : World} (h : (hpA l).p F A) : ((hpA (selC idx l)).star (hpA (selC (restI idx l.length) l))).p F A := by
  have hr : (List.range l.length).map (fun i => l.getD i emC) = l := by
    apply List.ext_getElem
    · simp
    · intro i h1 h2
      simp at h1 h2 ⊢
      simp [h2]
  have := (List.isPerm_iff.1 hi).map fun i => l.getD i emC
  rw [hr, List.map_append] at this
  exact hp_app.1 (hp_perm this h)
theorem hp_drop {l l' : List Ch} {F : Ft} {A : World} (h : ((hpA l).star (hpA l')).p F A) : ∃ F', (hpA l).p F' A ∧ Mv F A F' A := As.left h
def envOf : List SV → Nat → List (Nat × SV)
  | [], _ => []
  | v :: l, i => (i, v) :: envOf l (i + 1)
theorem look_envOf : ∀ {l : List SV} {k i : Nat} {v : SV}, look (envOf l k) i = some v → ∃ j, i = k + j ∧ l[j]? = some v
  | [], _, _, _, h => by cases h
  | u :: l, k, i, v, h => by
    simp only [envOf, look] at h
    split at h
    · rename_i e
      cases h
      exact ⟨0, (Nat.eq_of_beq_eq_true e).symm, rfl⟩
    · obtain ⟨j, h1, h2⟩ := look_envOf h
      exact ⟨j + 1, by omega, by simpa using h2⟩
section
variable {P : Program} {n₀ : Nat} {ro : Option Nat} {B : Ft × World} {Q : Exit → Act → World → Prop} {s : St}
theorem fn_start (G : Good P) {f : FuncId} {fn : Func} {c : Code} (H : IsFn P f fn c) {args : List SV} {pre : List Ch} {R : Type} {φ : R → Prop} {res : R → SV} {post : R → List Ch} (sz nx : Nat) (hsz : args.length + (fn.ntmps - args.length) = sz)
    (k : ∀ B, W P n₀ none B c (RQ P B fn φ res post) ⟨envOf args 0, pre, sz, nx, false, []⟩) : Ctr P n₀ f args pre R φ res post := by
  intro F A hF
  suffices h : wpF P n₀ f (args.map SV.den).toArray (fun v A' => ∃ r F', φ r ∧ v = (res r).den ∧ (hpA (post r)).p F' A' ∧ Mv F A F' A') A by
    obtain ⟨v, A', h1, r, F', h2, rfl, h3, h4⟩ := h
    exact ⟨r, A', F', h2, h1, h3, h4⟩
  have hS : Sat (F, A) ⟨envOf args 0, pre, sz, nx, false, []⟩ ⟨(args.map SV.den).toArray ++ Array.replicate (fn.ntmps - (args.map SV.den).toArray.size) undef, []⟩ A := by
    refine ⟨fun i v hi => ?_, ?_, rfl, F, hF, Mv.refl⟩
    · obtain ⟨j, rfl, hj⟩ := look_envOf hi
      have hlt : j < (args.map SV.den).toArray.size := by
        have := (List.getElem?_eq_some_iff.1 hj).1
        simpa using this
      simp only [Nat.zero_add]
      rw [Array.getD_eq_getD_getElem?, Array.getElem?_append_left hlt]
      simp [hj]
    · simp only [Array.size_append, List.size_toArray, List.length_map, Array.size_replicate]
      exact hsz
  obtain ⟨e, a1, A1, h1, ⟨h2, v, A', h3, h4, h5⟩⟩ := k (F, A) _ A hS
  exact ⟨v, A', snd_call G (snd_wd P n₀) ⟨fn, c, e, a1, A1, H.at_, H.body, h1, h2, h3, h4⟩, h5⟩
theorem w_reg {id : Nat} {ops : Array Oper} {d : Bool} (h : WR P n₀ ops ro id d B Q 0 lg0 s) : W P n₀ ro B (.region id ops d) Q s := fun a A hs =>
  h ⟨fun _ => a, fun _ => A, fun _ => undef⟩ (fun j _ hj => absurd hj (Nat.not_lt_zero j)) (fun j hj => absurd hj (Nat.not_lt_zero j)) hs
theorem w_seq (G : Good P) {x y : Code} (h : W P n₀ ro B x (thenQ (wpC P n₀ ro y Q) Q) s) : W P n₀ ro B (.seq x y) Q s := fun a A hs => cw_seq G (h a A hs)
theorem w_skip (G : Good P) (h : ∀ a A, Sat B s a A → Q .normal a A) : W P n₀ ro B .skip Q s := fun a A hs => cw_skip G (h a A hs)
theorem w_ret (G : Good P) (h : ∀ a A, Sat B s a A → Q .ret a A) : W P n₀ ro B .ret Q s := fun a A hs => cw_ret G (h a A hs)
theorem w_exit (G : Good P) {id : Nat} (h : ∀ a A, Sat B s a A → Q (.exit id) a A) : W P n₀ ro B (.exit id) Q s := fun a A hs => cw_exit G (h a A hs)
theorem w_block (G : Good P) {id : Nat} {x : Code} (h : W P n₀ ro B x (fun e => Q (inBlk id e)) s) : W P n₀ ro B (.block id x) Q s := fun a A hs => cw_block G (h a A hs)
theorem w_cond (G : Good P) {c : Operand} {x y : Code} (b : Bool) (hc : evX s.env c = some (.o (.cb b))) (h1 : b = true → W P n₀ ro B x Q s) (h2 : b = false → W P n₀ ro B y Q s) : W P n₀ ro B (.cond c x y) Q s := fun a A hs => by
  refine cw_cond G b (evX_ok hs.1 hc) ?_
  cases b with
  | true => exact h1 rfl a A hs
  | false => exact h2 rfl a A hs
theorem w_condD (G : Good P) {c : Operand} {x y : Code} (p : Prop) [Decidable p] (hc : evX s.env c = some (.o (.cb (decide p)))) (h1 : p → W P n₀ ro B x Q s) (h2 : ¬ p → W P n₀ ro B y Q s) : W P n₀ ro B (.cond c x y) Q s := w_cond G _ hc (fun h => h1 (of_decide_eq_true h)) fun h => h2 (of_decide_eq_false h)
theorem w_condE (G : Good P) {c : Operand} {x y : Code} (m n : Int) (hc : evX s.env c = some (.o (.cb (m == n)))) (h1 : m = n → W P n₀ ro B x Q s) (h2 : m ≠ n → W P n₀ ro B y Q s) : W P n₀ ro B (.cond c x y) Q s := w_cond G _ hc (fun h => h1 (eq_of_beq h)) fun h => h2 (ne_of_beq_false h)
theorem w_condN (G : Good P) {c : Operand} {x y : Code} (m n : Int) (hc : evX s.env c = some (.o (.cb (m != n)))) (h1 : m ≠ n → W P n₀ ro B x Q s) (h2 : m = n → W P n₀ ro B y Q s) : W P n₀ ro B (.cond c x y) Q s := w_cond G _ hc (fun h => h1 (ne_of_beq_false (Bool.not_eq_true' _ ▸ h))) fun h => h2 (by simpa using h)
theorem w_condB (G : Good P) {c : Operand} {x y : Code} (b : Bool) {v : SV} (hc : evX s.env c = some v) (hv : v.den = .bool b) (h : W P n₀ ro B (if b then x else y) Q s) : W P n₀ ro B (.cond c x y) Q s := fun a A hs => cw_cond G b ((evX_ok hs.1 hc).trans hv) (h a A hs)
theorem w_condT (G : Good P) {c : Operand} {x y : Code} {v : SV} (hc : evX s.env c = some v) (hv : v.den = .bool true) (h : W P n₀ ro B x Q s) : W P n₀ ro B (.cond c x y) Q s := w_condB G true hc hv h
theorem w_condF (G : Good P) {c : Operand} {x y : Code} {v : SV} (hc : evX s.env c = some v) (hv : v.den = .bool false) (h : W P n₀ ro B y Q s) : W P n₀ ro B (.cond c x y) Q s := w_condB G false hc hv h
theorem k_then {y : Code} (h : W P n₀ ro B y Q s) : ∀ a A, Sat B s a A → thenQ (wpC P n₀ ro y Q) Q .normal a A := h
theorem k_xs {N : Act → World → Prop} {e : Exit} (he : e ≠ .normal) (h : ∀ a A, Sat B s a A → Q e a A) : ∀ a A, Sat B s a A → thenQ N Q e a A := fun a A hs => by
  cases e with
  | normal => exact absurd rfl he
  | _ => exact h a A hs
theorem k_r {N : Act → World → Prop} (h : ∀ a A, Sat B s a A → Q .ret a A) : ∀ a A, Sat B s a A → thenQ N Q .ret a A := h
theorem k_e {N : Act → World → Prop} {i : Nat} (h : ∀ a A, Sat B s a A → Q (.exit i) a A) : ∀ a A, Sat B s a A → thenQ N Q (.exit i) a A := h
theorem k_xb {i : Nat} {e : Exit} (e' : Exit) (he : inBlk i e = e') (h : ∀ a A, Sat B s a A → Q e' a A) : ∀ a A, Sat B s a A → Q (inBlk i e) a A := he ▸ h
def EnS (s s' : St) : Prop := ∀ (B : Ft × World) a A, Sat B s a A → Sat B s' a A
theorem w_ent {c : Code} {s' : St} (e : EnS s s') (h : W P n₀ ro B c Q s') : W P n₀ ro B c Q s := fun a A hs => h a A (e B a A hs)
theorem k_ent {s' : St} {R : Act → World → Prop} (e : EnS s s') (h : ∀ a A, Sat B s' a A → R a A) : ∀ a A, Sat B s a A → R a A := fun a A hs => h a A (e B a A hs)
theorem wr_ent {ops : Array Oper} {id : Nat} {d : Bool} {i : Nat} {lg : Lg} {s' : St} (e : EnS s s') (h : WR P n₀ ops ro id d B Q i lg s') : WR P n₀ ops ro id d B Q i lg s := fun T h1 h2 h3 => h T h1 h2 (e B _ _ h3)
/-- A temporary's value, restated. -/
theorem ent_set {t : Nat} {v v' : SV} (hv : look s.env t = some v) (h : v.den = v'.den) : EnS s { s with env := (t, v') :: rem s.env t } := fun B a A hs => by
  refine ⟨fun i w hi => ?_, hs.2⟩
  simp only [look] at hi
  split at hi
  · rename_i e
    cases hi
    rw [← Nat.eq_of_beq_eq_true e, hs.1 t v hv, h]
  · exact hs.1 i w (look_rem hi).2
/-- The same values, those that are wanted; the same blocks, those that are wanted. -/
theorem ent_of (idx : List Nat) {s' : St} (hz : s.sz = s'.sz ∧ s.df = s'.df) (he : s'.env.map (fun p => (p.1, (look s.env p.1).map SV.den)) = s'.env.map fun p => (p.1, some p.2.den)) (hi : okB idx s.hp.length = true) (hh : (selC idx s.hp).map Ch.den = s'.hp.map Ch.den) : EnS s s' := fun B a A hs => by
  obtain ⟨h1, h2, h3, F, hF, hM⟩ := hs
  obtain ⟨F', h4, h5⟩ := hp_drop (hp_sel hi hF)
  rw [hpA, hh] at h4
  refine ⟨fun i v hv => ?_, h2.trans hz.1, by rw [h3, hz.2], F', h4, hM.trans h5⟩
  have hm : ∀ (l : List (Nat × SV)), l.map (fun p => (p.1, (look s.env p.1).map SV.den)) = l.map (fun p => (p.1, some p.2.den)) → look l i = some v → (look s.env i).map SV.den = some v.den := by
    intro l
    induction l with
    | nil => intro _ h; cases h
    | cons p l ih =>
      intro hl hv
      simp only [List.map_cons, List.cons.injEq, Prod.mk.injEq, true_and] at hl
      obtain ⟨j, u⟩ := p
      simp only [look] at hv
      split at hv
      · rename_i e
        cases hv
        rw [← Nat.eq_of_beq_eq_true e]; exact hl.1
      · exact ih hl.2 hv
  have := hm _ he hv
  rw [Option.map_eq_some_iff] at this
  obtain ⟨u, hu, e⟩ := this
  rw [h1 i u hu, e]
/-- What lies there, restated. -/
def gst (s : St) (idx : List Nat) (l : List Ch) (nx : Nat) : St := { s with hp := l ++ selC (restI idx s.hp.length) s.hp, nx := nx }
theorem sat_frame {R : Type} {A : World} {a : Act} {idx : List Nat} {pre : List Ch} {post : R → List Ch} {nx : Nat} {X : R → World → Prop} (hi : okB idx s.hp.length = true) (hh : (selC idx s.hp).map Ch.den = pre.map Ch.den) (C : ∀ F, (hpA pre).p F A → ∃ r A' F', X r A' ∧ (hpA (post r)).p F' A' ∧ Mv F A F' A') (hs : Sat B s a A) :
    ∃ r A', X r A' ∧ Sat B (gst s idx (post r) nx) a A' := by
  obtain ⟨h1, h2, h3, F, hF, hM⟩ := hs
  obtain ⟨F1, F2, g1, g2, j⟩ := hp_sel hi hF
  rw [hpA, hh] at g1
  obtain ⟨r, A', F1', hX, h5, h6⟩ := C F1 g1
  obtain ⟨F', g3, g4⟩ := As.frame j g2 h5 h6
  exact ⟨r, A', hX, h1, h2, h3, F', hp_app.2 g3, hM.trans g4⟩
theorem sat_gh {R : Type} {φ : R → Prop} {pre : List Ch} {post : R → List Ch} (idx : List Nat) (nx : Nat) (E : GE pre R φ post) (hi : okB idx s.hp.length = true) (hh : (selC idx s.hp).map Ch.den = pre.map Ch.den) {a : Act} {A : World} (hs : Sat B s a A) : ∃ r, φ r ∧ Sat B (gst s idx (post r) nx) a A := by
  obtain ⟨h1, h2, h3, F, hF, hM⟩ := hs
  obtain ⟨F1, F2, g1, g2, j⟩ := hp_sel hi hF
  rw [hpA, hh] at g1
  obtain ⟨r, F1', h4, h5, h6⟩ := E F1 A g1
  obtain ⟨F', g3, g4⟩ := As.frame j g2 h5 h6
  exact ⟨r, h4, h1, h2, h3, F', hp_app.2 g3, hM.trans g4⟩
theorem w_gh {c : Code} {R : Type} {φ : R → Prop} {pre : List Ch} {post : R → List Ch} (idx : List Nat) (nx : Nat) (E : GE pre R φ post) (hi : okB idx s.hp.length = true) (hh : (selC idx s.hp).map Ch.den = pre.map Ch.den) (h : ∀ r, φ r → W P n₀ ro B c Q (gst s idx (post r) nx)) : W P n₀ ro B c Q s := fun a A hs => by
  obtain ⟨r, h1, h2⟩ := sat_gh idx nx E hi hh hs
  exact h r h1 a A h2
theorem wr_gh {ops : Array Oper} {id : Nat} {d : Bool} {i : Nat} {lg : Lg} {R : Type} {φ : R → Prop} {pre : List Ch} {post : R → List Ch} (idx : List Nat) (nx : Nat) (E : GE pre R φ post) (hi : okB idx s.hp.length = true) (hh : (selC idx s.hp).map Ch.den = pre.map Ch.den) (h : ∀ r, φ r → WR P n₀ ops ro id d B Q i lg (gst s idx (post r) nx)) : WR P n₀ ops ro id d B Q i lg s := fun T h1 h2 h3 => by
  obtain ⟨r, h4, h5⟩ := sat_gh idx nx E hi hh h3
  exact h r h4 T h1 h2 h5
theorem k_gh {e : Exit} {R : Type} {φ : R → Prop} {pre : List Ch} {post : R → List Ch} (idx : List Nat) (nx : Nat) (E : GE pre R φ post) (hi : okB idx s.hp.length = true) (hh : (selC idx s.hp).map Ch.den = pre.map Ch.den) (h : ∀ r, φ r → ∀ a A, Sat B (gst s idx (post r) nx) a A → Q e a A) : ∀ a A, Sat B s a A → Q e a A := fun a A hs => by
  obtain ⟨r, h1, h2⟩ := sat_gh idx nx E hi hh hs
  exact h r h1 a A h2
/-- A loop. -/
theorem w_loop (G : Good P) {x : Code} (X : Type) (inv : X → St) (φ : X → Prop) (m : X → Nat) (x0 : X) (h0 : φ x0) (he : EnS s (inv x0)) (body : ∀ y, φ y → W P n₀ ro B x (thenQ (fun a A => ∃ x', m x' < m y ∧ φ x' ∧ Sat B (inv x') a A) Q) (inv y)) : W P n₀ ro B (.loop x) Q s := fun a A hs => by
  refine cw_loop G (wpL_ind (fun n a A => ∃ x, n = m x ∧ φ x ∧ Sat B (inv x) a A) ?_ (m x0) a A ⟨x0, rfl, h0, he B a A hs⟩)
  rintro n a A ⟨x, rfl, hx, hS⟩
  refine (body x hx a A hS).mono fun e a A hq => ?_
  cases e with
  | normal => obtain ⟨x', h1, h2, h3⟩ := hq; exact ⟨m x', h1, x', rfl, h2, h3⟩
  | _ => exact hq
theorem k_again {X : Type} {inv : X → St} {φ : X → Prop} {m : X → Nat} {x : X} (x' : X) (h1 : m x' < m x) (h2 : φ x') (he : EnS s (inv x')) : ∀ a A, Sat B s a A → thenQ (fun a A => ∃ x', m x' < m x ∧ φ x' ∧ Sat B (inv x') a A) Q .normal a A := fun a A hs => ⟨x', h1, h2, he B a A hs⟩
theorem run_var {t : TypeId} {q off n : Nat} {ag : Bool} {cs : Array Value} {tq : TypeId} {fz : Nat × Nat} {l : List C1} {A : World} (ht : tsz P t = some (n, ag)) (h1 : (ag || Nat.beq n 1) = true) (hl : l.length = n)
    (hb : A.heap[q]? = some (.cells cs tq fz)) (hc : cs.extract off (off + n) = cells1 l) (hn : off + n ≤ cs.size) : (loadVar t ⟨q, off, none⟩).run P A = .ok (mkv ag l).den A := by
  have ht' := tsz_ok ht
  unfold loadVar
  simp only [Sem.run_bind, run_agg ht', Result.andThen]
  cases ag with
  | true =>
    have := run_loadCells (P := P) n ⟨q, off, none⟩ 0 #[] cs tq fz hb rfl (by simpa using hn)
    simp only [Nat.add_zero, Array.empty_append, hc] at this
    simp only [if_true, Sem.run_bind, run_szT ht', Result.andThen, loadCells, this, Sem.run_pure]
    rfl
  | false =>
    simp only [Bool.false_or] at h1
    obtain rfl : n = 1 := Nat.eq_of_beq_eq_true h1
    match l, hl with
    | [c], _ =>
      have := congrArg (fun a => a[0]?) hc
      have e : (cs.extract off (off + 1))[0]? = cs[off]? := by
        rw [Array.getElem?_extract, if_pos (by omega), Nat.add_zero]
      simp only [e] at this
      have hcell : A.cell? ⟨q, off, none⟩ = some c.den := cell_of hb rfl (by simpa [cells1] using this)
      simp [Go.load, Sem.run, hcell, mkv, SV.den]
/-- What a function gives back. -/
def resC (P : Program) (s : St) : ResultVar → Option ((Bool × List C1) × List Ob)
  | .tmp t => match look s.env t with
    | some (.o c) => some ((false, [c]), [])
    | some (.a l) => some ((true, l), [])
    | _ => none
  | .cell a t => match look s.env a, tsz P t with
    | some (.o (.p g q i w k)), some (n, ag) => match fnd s.hp g, Bool.or ag (Nat.beq n 1) with
      | some (.blk _ q' cs _ _), true => match Nat.ble (i * w + k + n) cs.length with
        | true => some ((ag, (cs.drop (i * w + k)).take n), [q = q'])
        | false => none
      | _, _ => none
    | _, _ => none
def resL (P : Program) (s : St) : List ResultVar → Option (List (Bool × List C1) × List Ob)
  | [] => some ([], [])
  | r :: l => match resC P s r, resL P s l with
    | some (c, p), some (cs, ps) => some (c :: cs, p ++ ps)
    | _, _ => none
def resS (P : Program) (s : St) (l : List ResultVar) : Option (SV × List Ob) := match resL P s l with
  | some ([(false, l)], ps) => some (.o (l.headD (.v undef)), ps)
  | some ([(true, l)], ps) => some (.a l, ps)
  | some (cs, ps) => match Nat.beq cs.length 1 with
    | true => none
    | false => some (.t cs, ps)
  | none => none
theorem resC_ok {a : Act} {A : World} (hs : Sat B s a A) {r : ResultVar} {c : Bool × List C1} {ps : List Ob} (hr : resC P s r = some (c, ps)) (hps : AllP ps) : (resVar a.tmps r).run P A = .ok (compV c) A := by
  unfold resC at hr
  split at hr
  · rename_i t
    split at hr
    · rename_i c' hl
      cases hr
      simp only [resVar, Sem.run_pure, hs.1 t _ hl]; rfl
    · rename_i l hl
      cases hr
      simp only [resVar, Sem.run_pure, hs.1 t _ hl]; rfl
    · cases hr
  · rename_i t' t
    split at hr
    case h_2 => cases hr
    rename_i g q i w k n ag hx ht
    split at hr
    case h_2 => cases hr
    rename_i g' q' cs t2 m hf hb
    split at hr
    case h_2 => cases hr
    rename_i hle
    cases hr
    obtain ⟨rfl, _⟩ := hps
    obtain ⟨F, hF, _⟩ := hs.2.2.2
    obtain ⟨fz, _, hB⟩ := blk_at hf hF
    have hle' := Nat.le_of_ble_eq_true hle
    have hx' : a.tmps.getD t' undef = .pointer (some ⟨q, i * w + k, none⟩) := hs.1 _ _ hx
    simp only [resVar, hx', asAddr, Sem.run_bind, Sem.run_pure, Result.andThen]
    have := run_var (l := (cs.drop (i * w + k)).take n) ht hb (by simp; omega) hB cells1_extract (by simpa [cells1] using hle')
    rw [this]
    cases ag <;> rfl
theorem resL_ok {a : Act} {A : World} (hs : Sat B s a A) : ∀ {l : List ResultVar} {cs : List (Bool × List C1)} {ps : List Ob}, resL P s l = some (cs, ps) → AllP ps → (List.mapM (m := Sem) (resVar a.tmps) l).run P A = .ok (cs.map compV) A
  | [], cs, ps, hr, _ => by cases hr; rfl
  | r :: l, cs, ps, hr, hps => by
    simp only [resL] at hr
    split at hr
    case h_2 => cases hr
    rename_i c p cs' ps' h1 h2
    cases hr
    obtain ⟨hp1, hp2⟩ := AllP.split hps
    simp only [List.mapM_cons, Sem.run_bind, resC_ok hs h1 hp1, Result.andThen, resL_ok hs h2 hp2, Sem.run_pure, List.map_cons]
theorem resS_ok {fn : Func} {a : Act} {A : World} (hs : Sat B s a A) {v : SV} {ps : List Ob} (hr : resS P s fn.results.toList = some (v, ps)) (hps : AllP ps) : (results fn a.tmps).run P A = .ok v.den A := by
  rw [results_eq, Array.mapM_eq_mapM_toList]
  unfold resS at hr
  split at hr
  · rename_i c ps' hl
    cases hr
    simp only [map_eq_pure_bind, Sem.run_bind, resL_ok hs hl hps, Result.andThen, Sem.run_pure]
    rfl
  · rename_i l ps' hl
    cases hr
    simp only [map_eq_pure_bind, Sem.run_bind, resL_ok hs hl hps, Result.andThen, Sem.run_pure]
    rfl
  · rename_i cs ps' _ _ hl
    split at hr
    case h_1 => cases hr
    rename_i hb
    cases hr
    simp only [map_eq_pure_bind, Sem.run_bind, resL_ok hs hl hps, Result.andThen, Sem.run_pure]
    rw [dif_neg (fun e => by
      simp only [List.size_toArray, List.length_map] at e
      rw [e] at hb; cases hb)]
    rfl
  · cases hr
/-- A function returns. -/
theorem k_ret {fn : Func} {R : Type} {φ : R → Prop} {res : R → SV} {post : R → List Ch} {e : Exit} (r : R) (idx : List Nat) (v : SV) (ps : List Ob) (hv : resS P s fn.results.toList = some (v, ps)) (hps : AllP ps) (hd : v.den = (res r).den) (hφ : φ r) (hi : okB idx s.hp.length = true) (hh : (selC idx s.hp).map Ch.den = (post r).map Ch.den) (he : e = .normal ∨ e = .ret) (hdf : s.df = [] := by rfl) :
    ∀ a A, Sat B s a A → RQ P B fn φ res post e a A := fun a A hs => by
  have hres := resS_ok hs hv hps
  obtain ⟨h1, h2, h3, F, hF, hM⟩ := hs
  obtain ⟨F', h4, h5⟩ := hp_drop (hp_sel hi hF)
  rw [hpA, hh] at h4
  exact ⟨he, v.den, A, by rw [h3, hdf]; rfl, hres, r, F', hφ, hd, h4, hM.trans h5⟩
/-- Where the deferred calls of a loop over a function are kept. -/
def defC (q : Nat) : As where
  p F A := (∀ b, F.own b ↔ b = q) ∧ (∀ b, ¬ F.imm b) ∧ A.heap[q]? = some (.deferred (some []))
  lt := fun ⟨h1, h2, h⟩ hb => by
    have := (Array.getElem?_eq_some_iff.1 h).1
    rcases hb with hb | hb
    · rw [(h1 _).1 hb]; exact this
    · exact (h2 _ hb).elim
  loc := fun ⟨h1, h2, h⟩ hk => ⟨h1, h2, by rw [hk q (.inl ((h1 q).2 rfl))]; exact h⟩
theorem k_retD {fn : Func} {R : Type} {φ : R → Prop} {res : R → SV} {post : R → List Ch} {e : Exit} (q j : Nat) (hdf : s.df = [q]) (hj : okB [j] s.hp.length = true) (hc : (selC [j] s.hp).map Ch.den = [defC q])
    (k : ∀ B a A, Sat B { s with hp := selC (restI [j] s.hp.length) s.hp, df := [] } a A → RQ P B fn φ res post e a A) : ∀ a A, Sat B s a A → RQ P B fn φ res post e a A := fun a A hs => by
  obtain ⟨h1, h2, h3, F, hF, hM⟩ := hs
  obtain ⟨F1, F2, g1, g2, jn⟩ := hp_sel hj hF
  rw [hpA, hc] at g1
  have g1 := As.unE g1
  obtain ⟨o1, o2, hB⟩ := g1
  have hk : ∀ b, b ≠ q → (turn A q (.deferred none)).heap[b]? = A.heap[b]? := fun b hb => turn_ne hb
  have hq : F.own q := (jn.own q).2 (.inl ((o1 q).2 rfl))
  have hM1 : Mv F A F2 (turn A q (.deferred none)) := ⟨Nat.le_of_eq turn_size.symm, fun b _ hn => hk b fun e => hn (e ▸ hq), fun b hb => .inl ((jn.own b).2 (.inr hb)), fun b hb => .inr (.inl ((jn.imm b).2 (.inr hb)))⟩
  have hs' : Sat B { s with hp := selC (restI [j] s.hp.length) s.hp, df := [] } ⟨a.tmps, []⟩ (turn A q (.deferred none)) :=
    ⟨h1, h2, rfl, F2, As.loc _ g2 fun b hb => hk b fun e => by subst e; exact hb.elim (jn.oo b ((o1 b).2 rfl)) (jn.oi b ((o1 b).2 rfl)), hM.trans hM1⟩
  obtain ⟨e1, v, A', e2, e3, e4⟩ := k B _ _ hs'
  have e2' : A' = turn A q (.deferred none) := e2
  subst e2'
  refine ⟨e1, v, _, ?_, e3, e4⟩
  rw [h3, hdf]
  exact ⟨q, turn A q (.deferred none), rfl, by
    unfold Instr.takeDeferred getObj setObj
    simp [Sem.run, Bind.bind, Sem.bind, Pure.pure, hB, turn], rfl⟩
def argL (env : List (Nat × SV)) : List Operand → Option (List Value)
  | [] => some []
  | x :: l => match evX env x, argL env l with
    | some v, some vs => some (v.den :: vs)
    | _, _ => none
theorem argL_ok {env : List (Nat × SV)} {a : Act} (h : EnvOk env a) : ∀ {l : List Operand} {vs : List Value}, argL env l = some vs → l.map a.eval = vs
  | [], _, e => by cases e; rfl
  | x :: l, vs, e => by
    simp only [argL] at e
    split at e
    case h_2 => cases e
    rename_i v vs' h1 h2
    cases e
    simp only [List.map_cons, evX_ok h h1, argL_ok h h2]
/-- A call, of what is known of it. -/
def aft (s : St) (d : Option Tmp) (v : SV) (idx : List Nat) (l : List Ch) (nx : Nat) : Option St := putE (gst s idx l nx) d v
theorem wr_acts {ops : Array Oper} {id : Nat} {d : Bool} {i : Nat} {lg : Lg} {o : Oper} {R : Type} {φ : R → Prop} {res : R → SV} {pre : List Ch} {post : R → List Ch} (ho : ops[i]? = some o) (hw : wantS ops s.env o = some .yes) (hk : kindOf o.op = .acts) (idx : List Nat) (nx : Nat) (hi : okB idx s.hp.length = true) (hh : (selC idx s.hp).map Ch.den = pre.map Ch.den)
    (run : ∀ a : Act, EnvOk s.env a → ∀ F A, (hpA pre).p F A → ∃ r A' F', (φ r ∧ RunOp P (Wd P n₀) o a A (res r).den A') ∧ (hpA (post r)).p F' A' ∧ Mv F A F' A')
    (next : ∀ r, φ r → ∃ s', aft s o.dst (res r) idx (post r) nx = some s' ∧ WR P n₀ ops ro id d B Q (i + 1) (lg.snoc i (s, none)) s') : WR P n₀ ops ro id d B Q i lg s := fun T h1 h2 h3 => by
  obtain ⟨r, A', ⟨hφ, hrun⟩, hS⟩ := sat_frame (X := fun r A' => φ r ∧ RunOp P (Wd P n₀) o (T.as i) (T.ws i) (res r).den A') (nx := nx) hi hh (fun F hF => run _ h3.1 F _ hF) h3
  obtain ⟨s', hs', hn⟩ := next r hφ
  obtain ⟨h4, _, _⟩ := putE_ok (s := gst s idx (post r) nx) (hp := (gst s idx (post r) nx).hp) (nx := nx) hS hS.2.2.2 hs' rfl
  obtain ⟨T1, e1, e2, g1, g2, g3, _⟩ := seq_more (s1 := s') ho h1 h2 h3 (u := (res r).den) (A1 := A') (mk := none) ⟨rfl, by rw [if_pos (show Region.wanted o (yielded ops (T.as i).tmps) = true from wantS_ok h3 hw)]; exact ⟨hrun, by rw [hk]; trivial⟩⟩ h4
  rw [← e1, ← e2]
  exact hn T1 g1 g2 g3
theorem runOp_enter {o : Oper} {a : Act} {A A' : World} {c : Call} {g : Operand} {f : FuncId} {first cap : Array Value} {fn : Func} {code : Code} {v : Value} {l : List Value} {xs : Array Value} (H : IsFn P f fn code) (hg : a.eval g = .func (.func f) first cap) (hl : c.args.toList.map a.eval = l) (hx : first ++ l.toArray ++ cap = xs)
    (h : SndCall P n₀ f xs A v A') (ho : o.op = .call c) (hc : c.callee = .value g) : RunOp P (Wd P n₀) o a A v A' := by
  subst hx
  have e : c.args.map a.eval = l.toArray := by rw [← hl, ← Array.toList_map]
  rw [← e] at h
  exact ⟨_, _, .inr (.inr (.inr (.inl ⟨c, g, f, first, cap, fn, code, ho, hc, hg, H.at_, H.body, H.name, rfl, rfl⟩))), h⟩
/-- A call, of which it is known what it does. -/
theorem wr_call {ops : Array Oper} {id : Nat} {d : Bool} {i : Nat} {lg : Lg} {o : Oper} {c : Call} {g : Operand} {f : FuncId} {fn : Func} {code : Code} {first cap : Array Value} {l : List Value} {args : List SV} {pre : List Ch} {R : Type} {φ : R → Prop} {res : R → SV} {post : R → List Ch} (H : IsFn P f fn code)
    (C : Ctr P n₀ f args pre R φ res post) (res' : R → SV) (post' : R → List Ch) (idx : List Nat) (nx : Nat) (ho : ops[i]? = some o) (hop : o.op = .call c) (hc : c.callee = .value g) (hw : wantS ops s.env o = some .yes) (hg : evX s.env g = some (.o (.v (.func (.func f) first cap)))) (hl : argL s.env c.args.toList = some l) (hx : (first ++ l.toArray ++ cap).toList = args.map SV.den)
    (hi : okB idx s.hp.length = true) (hh : (selC idx s.hp).map Ch.den = pre.map Ch.den) (hr : ∀ r, (res r).den = (res' r).den ∧ (post r).map Ch.den = (post' r).map Ch.den) (next : ∀ r, φ r → ∃ s', aft s o.dst (res' r) idx (post' r) nx = some s' ∧ WR P n₀ ops ro id d B Q (i + 1) (lg.snoc i (s, none)) s') : WR P n₀ ops ro id d B Q i lg s :=
  wr_acts (res := res') (post := post') ho hw (by rw [hop]; unfold kindOf; simp only [hc]) idx nx hi hh (fun a ha F A hF => by
    obtain ⟨r, A', F', h1, h2, h3, h4⟩ := C F A hF
    rw [(hr r).1] at h2
    rw [hpA, (hr r).2] at h3
    refine ⟨r, A', F', ⟨h1, runOp_enter H (evX_ok ha hg) (argL_ok ha hl) ?_ h2 hop hc⟩, h3, h4⟩
    apply Array.ext'
    rw [hx]) next
end
section
variable {P : Program} {n₀ : Nat} {ro : Option Nat} {B : Ft × World} {Q : Exit → Act → World → Prop} {s : St} {ops : Array Oper} {id : Nat}
/-- A region that calls nothing, then the rest. -/
theorem st_reg (G : Good P) {y : Code} (live : List Nat) (s' : (Nat → Nat) → St) (ps : (Nat → Nat) → List Ob) (h : ∀ q, (runS P ops q ops.size 0 s).map (nar live) = some (s' q, ps q)) (next : ∀ q, AllP (ps q) ∧ W P n₀ ro B y Q (s' q)) : W P n₀ ro B (.seq (.region id ops false) y) Q s :=
  w_seq G (w_reg (wr_seg ops.size live s' ps h fun q => ⟨(next q).1, wr_end G (Nat.zero_add _) (next q).2⟩))
theorem st_regE (G : Good P) (live : List Nat) (s' : (Nat → Nat) → St) (ps : (Nat → Nat) → List Ob) (h : ∀ q, (runS P ops q ops.size 0 s).map (nar live) = some (s' q, ps q)) (next : ∀ q, AllP (ps q) ∧ ∀ a A, Sat B (s' q) a A → Q .normal a A) : W P n₀ ro B (.region id ops false) Q s :=
  w_reg (wr_seg ops.size live s' ps h fun q => ⟨(next q).1, wr_end G (Nat.zero_add _) (next q).2⟩)
theorem st_regED (G : Good P) (live : List Nat) (s' : (Nat → Nat) → St) (ps : (Nat → Nat) → List Ob) (h : ∀ q, (runS P ops q ops.size 0 s).map (nar live) = some (s' q, ps q)) (hr : rck ops = true)
    (hc : ∀ q, (crossQ P ops (logRun P ops q ops.size 0 s lg0) (s' q)).map Prod.fst = (crossQ P ops (logRun P ops q ops.size 0 s lg0) (s' q)).map Prod.snd) (hm : ∀ q, (crossM ops (logRun P ops q ops.size 0 s lg0) (s' q)).map Prod.fst = (crossM ops (logRun P ops q ops.size 0 s lg0) (s' q)).map Prod.snd)
    (next : ∀ q, AllP (ps q) ∧ ∀ a A, Sat B (s' q) a A → Q .normal a A) : W P n₀ ro B (.region id ops true) Q s :=
  w_reg (wr_seg ops.size live s' ps h fun q => ⟨(next q).1, wr_endD G (Nat.zero_add _) hr (hc q) (hm q) (next q).2⟩)
theorem st_regD (G : Good P) {y : Code} (live : List Nat) (s' : (Nat → Nat) → St) (ps : (Nat → Nat) → List Ob) (h : ∀ q, (runS P ops q ops.size 0 s).map (nar live) = some (s' q, ps q)) (hr : rck ops = true)
    (hc : ∀ q, (crossQ P ops (logRun P ops q ops.size 0 s lg0) (s' q)).map Prod.fst = (crossQ P ops (logRun P ops q ops.size 0 s lg0) (s' q)).map Prod.snd) (hm : ∀ q, (crossM ops (logRun P ops q ops.size 0 s lg0) (s' q)).map Prod.fst = (crossM ops (logRun P ops q ops.size 0 s lg0) (s' q)).map Prod.snd)
    (next : ∀ q, AllP (ps q) ∧ W P n₀ ro B y Q (s' q)) : W P n₀ ro B (.seq (.region id ops true) y) Q s :=
  w_seq G (w_reg (wr_seg ops.size live s' ps h fun q => ⟨(next q).1, wr_endD G (Nat.zero_add _) hr (hc q) (hm q) (next q).2⟩))
end
end Go.Abs
/-
  ABS C11: appends, copies, writes into lists; calls of functions' values; slices' ends.
-/
namespace Go.Abs
section
variable {P : Program} {n₀ : Nat} {A : World} {F : Ft}
/-- There these cells can be read. -/
def SrcAt (A : World) (q off : Nat) (z : Bool) (cs : Array Value) : Prop := (z = true ∧ cs = #[]) ∨ (z = false ∧ ∃ c t fz, A.heap[q]? = some (.cells c t fz) ∧ off + cs.size ≤ c.size ∧ c.extract off (off + cs.size) = cs)
def Src (c : Ch) (q off : Nat) (z : Bool) (cs : Array Value) : Prop := ∀ F A, c.den.p F A → SrcAt A q off z cs
theorem src_blk {g q : Nat} {cs l : List C1} {t : TypeId} {m : Md} {off : Nat} (h1 : off + l.length ≤ cs.length) (h2 : (cells1 cs).extract off (off + l.length) = cells1 l) : Src (.blk g q cs t m) q off false (cells1 l) := fun F A h => by
  obtain ⟨_, _, fz, _, hb⟩ := h
  exact .inr ⟨rfl, _, _, _, hb, by simpa [cells1_size] using h1, by simpa [cells1_size] using h2⟩
theorem vcells_one {α : Type} {en : α → List C1} {x : α} : vcells en [x] = cells1 (en x) := by simp [vcells, cells1]
theorem vcells_append {α : Type} {en : α → List C1} {xs ys : List α} : vcells en (xs ++ ys) = vcells en xs ++ vcells en ys := by simp [vcells]
theorem vcells_nil {α : Type} {en : α → List C1} : vcells en [] = #[] := by simp [vcells]
/-- One thing, of a block that was just made. -/
theorem src_one {α : Type} {en : α → List C1} {x : α} {g q : Nat} {cs : List C1} {t : TypeId} {m : Md} (h : cells1 cs = cells1 (en x)) : Src (.blk g q cs t m) q 0 false (vcells en [x]) := by
  rw [vcells_one, ← h]
  exact src_blk (by simp) (by simp [cells1_size])
theorem src_vec {α : Type} {en : α → List C1} {d : α} {xs : List α} {g q w : Nat} {t : TypeId} {m : Md} {z : Bool} : Src (.vec g q w en d xs t m z) q 0 z (vcells en xs) := fun F A h => by
  cases z with
  | true =>
    obtain ⟨_, rfl⟩ := h
    exact .inl ⟨rfl, vcells_nil⟩
  | false =>
    obtain ⟨_, _, _, fz, _, hb⟩ := h
    exact .inr ⟨rfl, _, _, _, hb, by simp, by simp⟩
theorem run_first {q off n n' c' sz : Nat} {z : Bool} {cs : Array Value} (h : SrcAt A q off z cs) (hn : cs.size = n * sz) : (Builtin.firstCells sz n (.slice (cond z none (some ⟨q, off, none⟩)) n' c')).run P A = .ok cs A := by
  rcases h with ⟨rfl, rfl⟩ | ⟨rfl, c, t, fz, hb, h1, h2⟩
  · rfl
  · have := run_loadCells (P := P) (n * sz) ⟨q, off, none⟩ 0 #[] c t fz hb rfl (by simp; omega)
    simp only [Nat.add_zero, Array.empty_append] at this
    show (loadCells ⟨q, off, none⟩ (n * sz)).run P A = _
    unfold loadCells
    rw [this, ← hn, h2]
/-- What types an append has. -/
def appB (P : Program) (ts : Array TypeId) (e w : Nat) : Bool := match ts[0]?, ts[1]? with
  | some s, some x => match P.underlying s, P.underlying x, P.info? e with
    | some (.slice e'), some (.slice _), some ie => match ie.zero with
      | some z => Nat.beq e e' && Nat.beq ie.size w && Nat.ble ie.bytes 65536 && Nat.beq z.cells.size ie.size
      | none => false
    | _, _, _ => false
  | _, _ => false
structure AppT (P : Program) (ts : Array TypeId) (e w : Nat) (ie : TypeInfo) (z : Value) : Prop where
  at_ : AppAt P ts e ie z
  nz : zerosOf P ts = false
  size : ie.size = w
  bytes : ie.bytes ≤ 2 ^ 16
  zs : z.cells.size = ie.size
theorem appB_ok {ts : Array TypeId} {e w : Nat} (h : appB P ts e w = true) : ∃ ie z, AppT P ts e w ie z := by
  unfold appB at h
  split at h
  case h_2 => cases h
  rename_i s x h0 h1
  split at h
  case h_2 => cases h
  rename_i e' e2 ie hs hx hi
  split at h
  case h_2 => cases h
  rename_i z hz
  simp only [Bool.and_eq_true] at h
  obtain ⟨⟨⟨k1, k2⟩, k3⟩, k4⟩ := h
  have k1' := Nat.eq_of_beq_eq_true k1
  subst k1'
  refine ⟨ie, z, ⟨hz, ⟨s, h0, hs⟩, hi, fun t ht => ?_⟩, ?_, Nat.eq_of_beq_eq_true k2, Nat.le_of_ble_eq_true k3, Nat.eq_of_beq_eq_true k4⟩
  · rw [h1] at ht; cases ht; exact .inl ⟨_, hx⟩
  · simp [zerosOf, h1, hx]
def blkF (q : Nat) : Ft := ⟨fun b => b = q, fun _ => False⟩
/-- A list that is full grows by others. -/
theorem app_run {α : Type} {en : α → List C1} {d : α} {xs ys : List α} {g q w n2 c2 q2 off : Nat} {e : TypeId} {m : Md} {z z2 : Bool} {cs : Ch} {ts : Array TypeId} (hw : ∀ x, (en x).length = w) (h1 : ∀ x, (en x).all C1.one = true) (hT : appB P ts e w = true) (hm : m = .grown ∨ (m = .own ∧ ys ≠ []))
    (hne : z = false → m = .grown → 0 < xs.length) (hs : Src cs q2 off z2 (vcells en ys)) (hn : n2 = ys.length) (hlen : xs.length + ys.length ≤ 16777216) (hF : (hpA [.vec g q w en d xs e m z, cs]).p F A) :
    ∃ q' A' F', AApp P ts #[.slice (cond z none (some ⟨q, 0, none⟩)) xs.length xs.length, .slice (cond z2 none (some ⟨q2, off, none⟩)) n2 c2] A (.slice (cond (z && ys.isEmpty) none (some ⟨q', 0, none⟩)) (xs ++ ys).length (xs ++ ys).length) A' ∧
      (hpA [.vec g q' w en d (xs ++ ys) e .grown (z && ys.isEmpty), cs]).p F' A' ∧ Mv F A F' A' := by
  subst hn
  obtain ⟨ie, zv, T⟩ := appB_ok hT
  obtain ⟨F1, F2, k1, k2, j⟩ := hF
  have k2' := As.unE k2
  have hsrc := hs _ _ k2'
  have hsz : (vcells en ys).size = ys.length * ie.size := by rw [vcells_size hw, T.size]
  have hnew : (appSrc (zerosOf P ts) e ie.size ys.length (.slice (cond z2 none (some ⟨q2, off, none⟩)) ys.length c2)).run P A = .ok (vcells en ys) A := by
    rw [T.nz]
    simp only [appSrc, Bool.not_false, if_true]
    exact run_first hsrc hsz
  have hone : (vcells en ys).toList.all isOne = true := by
    unfold vcells
    simp only [List.all_flatMap, List.all_map, List.all_eq_true, Function.comp_apply]
    intro x _ c hc
    exact C1.one_den ((List.all_eq_true.1 (h1 x)) c hc)
  have hnx : appN (zerosOf P ts) ie.bytes (.slice (cond z2 none (some ⟨q2, off, none⟩)) ys.length c2) = some ys.length := by rw [T.nz]; rfl
  have frame : ∀ {q' : Nat} {z' : Bool} {F1' : Ft} {A' : World}, (Ch.vec g q' w en d (xs ++ ys) e .grown z').den.p F1' A' → Mv F1 A F1' A' → ∃ F', (hpA [.vec g q' w en d (xs ++ ys) e .grown z', cs]).p F' A' ∧ Mv F A F' A' := fun {q' z' F1' A'} h M => As.frame (K := (Ch.vec g q' w en d (xs ++ ys) e .grown z').den) j k2 h M
  by_cases hy : ys = []
  · subst hy
    have hm' : m = .grown := by exact hm.resolve_right fun h => h.2 rfl
    subst hm'
    refine ⟨q, A, F, ⟨e, ie, zv, _, xs.length, xs.length, _, 0, T.at_, rfl, hnx, .inl ⟨Nat.le_refl _, vcells en [], hnew, ?_, ?_⟩⟩, ?_, .refl⟩
    · rw [vcells_nil]
      cases z <;> rfl
    · simp
    · simp only [List.append_nil, List.isEmpty_nil, Bool.and_true]
      exact ⟨F1, F2, k1, k2, j⟩
  · have hpos : 0 < ys.length := List.length_pos_iff.2 hy
    have hie : ys.isEmpty = false := by
      cases ys with
      | nil => exact absurd rfl hy
      | cons => rfl
    have hlt1 : ∀ b, F1.own b ∨ F1.imm b → b < A.heap.size := fun b hb => (Ch.den _).lt k1 hb
    simp only [hie, Bool.and_false, cond_false]
    have newA : ∀ {A0 : World}, A0.heap.size = A.heap.size → (∀ b, b < A.heap.size → ¬ F1.own b → A0.heap[b]? = A.heap[b]?) → ∃ F', (hpA [.vec g A.heap.size w en d (xs ++ ys) e .grown false, cs]).p F' (A0.alloc (.cells (vcells en xs ++ vcells en ys) e (1, 0))) ∧ Mv F A F' (A0.alloc (.cells (vcells en xs ++ vcells en ys) e (1, 0))) := fun {A0} hsz0 hk0 => by
      refine frame (F1' := blkF A.heap.size) ⟨hw, fun b => by simp [blkF, Md.mine], fun b => by simp [blkF, Md.mine], (1, 0), rfl, ?_⟩ ⟨by simp [hsz0], fun b hb hn => ?_, fun b hb => .inr (by simp only [blkF] at hb; omega), fun b hb => hb.elim⟩
      · rw [vcells_append, ← hsz0]; exact alloc_at
      · rw [alloc_lt (by rw [hsz0]; exact hb)]; exact hk0 b hb hn
    cases z with
    | true =>
      obtain ⟨rfl, rfl⟩ := k1
      obtain ⟨F', g1, g2⟩ := newA (A0 := A) rfl fun _ _ _ => rfl
      rw [vcells_nil, Array.empty_append] at g1 g2
      refine ⟨A.heap.size, _, F', ⟨e, ie, zv, none, 0, 0, _, ys.length, T.at_, rfl, hnx, .inr ⟨by omega, Nat.le_refl _, by simpa using hlen, T.bytes, T.zs, #[], vcells en ys, rfl, hnew, by simp, by simp, hsz, hone, .inl ⟨by simp, fun a h => by cases h⟩⟩⟩, g1, g2⟩
    | false =>
      obtain ⟨_, o1, _, fz, hfz, hb⟩ := k1
      have hold : (Builtin.firstCells ie.size xs.length (.slice (some ⟨q, 0, none⟩) xs.length xs.length)).run P A = .ok (vcells en xs) A := by
        have := run_first (P := P) (A := A) (q := q) (off := 0) (n := xs.length) (n' := xs.length) (c' := xs.length) (sz := ie.size) (z := false) (cs := vcells en xs) (.inr ⟨rfl, _, _, _, hb, by simp, by simp⟩) (by rw [vcells_size hw, T.size])
        exact this
      have hxs : (vcells en xs).size = xs.length * ie.size := by rw [vcells_size hw, T.size]
      by_cases hg : m = .grown ∧ 0 < xs.length
      · obtain ⟨rfl, hx0⟩ := hg
        cases hfz
        have how : F1.own q := (o1 q).2 ⟨rfl, rfl⟩
        obtain ⟨F', g1, g2⟩ := newA (A0 := kill A q e) (kill_size _ _) fun b _ hn => kill_ne fun eq => hn (eq ▸ how)
        refine ⟨A.heap.size, _, F', ⟨e, ie, zv, some ⟨q, 0, none⟩, xs.length, xs.length, _, ys.length, T.at_, rfl, hnx, .inr ⟨by omega, Nat.le_refl _, hlen, T.bytes, T.zs, vcells en xs, vcells en ys, hold, hnew, by simp, hxs, hsz, hone, .inr ⟨⟨q, 0, none⟩, vcells en xs, rfl, hb, hx0, rfl⟩⟩⟩, g1, g2⟩
      · have hf1 : fz ≠ (1, 0) := by
          rcases hm with rfl | ⟨rfl, _⟩
          · exact absurd ⟨rfl, hne rfl rfl⟩ hg
          · intro h; cases hfz; cases h
        obtain ⟨F', g1, g2⟩ := newA (A0 := A) rfl fun _ _ _ => rfl
        refine ⟨A.heap.size, _, F', ⟨e, ie, zv, some ⟨q, 0, none⟩, xs.length, xs.length, _, ys.length, T.at_, rfl, hnx, .inr ⟨by omega, Nat.le_refl _, hlen, T.bytes, T.zs, vcells en xs, vcells en ys, hold, hnew, by simp, hxs, hsz, hone, .inl ⟨rfl, fun a h => by cases h; exact ⟨_, _, _, hb, fz_ne hfz, hf1⟩⟩⟩⟩, g1, g2⟩
end
section
variable {P : Program} {n₀ : Nat} {ro : Option Nat} {B : Ft × World} {Q : Exit → Act → World → Prop} {s : St} {ops : Array Oper} {id : Nat} {dr : Bool} {i : Nat} {lg : Lg} {o : Oper}
def isApp (o : Oper) : Option Call := match o.op with
  | .call c => match c.callee with
    | .builtin .append => some c
    | _ => none
  | _ => none
theorem isApp_ok {c : Call} (h : isApp o = some c) : o.op = .call c ∧ c.callee = .builtin .append := by
  unfold isApp at h
  split at h
  case h_2 => cases h
  rename_i c' ho
  split at h
  case h_2 => cases h
  rename_i hc
  cases h
  exact ⟨ho, hc⟩
/-- A list of one's own grows. g': the name of the new one. -/
theorem wr_app {α : Type} {en : α → List C1} {d : α} {xs ys : List α} {g q w n2 c2 q2 off : Nat} {e : TypeId} {m : Md} {z z2 : Bool} {cs : Ch} {c : Call} (g' : Nat) (z' : Bool) (xs' : List α) (idx : List Nat) (nx : Nat) (ho : ops[i]? = some o) (hc : isApp o = some c) (hwt : wantS ops s.env o = some .yes)
    (ha : argL s.env c.args.toList = some [.slice (cond z none (some ⟨q, 0, none⟩)) xs.length xs.length, .slice (cond z2 none (some ⟨q2, off, none⟩)) n2 c2])
    (hw : ∀ x, (en x).length = w) (h1 : ∀ x, (en x).all C1.one = true) (hT : appB P c.argTypes e w = true) (hm : m = .grown ∨ (m = .own ∧ ys ≠ [])) (hne : z = false → m = .grown → 0 < xs.length) (hs : Src cs q2 off z2 (vcells en ys)) (hn : n2 = ys.length) (hlen : xs.length + ys.length ≤ 16777216)
    (hz' : z' = (z && ys.isEmpty)) (hxs : xs' = xs ++ ys) (hi : okB idx s.hp.length = true) (hh : (selC idx s.hp).map Ch.den = [Ch.vec g q w en d xs e m z, cs].map Ch.den)
    (next : ∀ q', ∃ s', aft s o.dst (.o (.s g' q' w 0 xs'.length xs'.length z')) idx [.vec g' q' w en d xs' e .grown z', cs] nx = some s' ∧ WR P n₀ ops ro id dr B Q (i + 1) (lg.snoc i (s, none)) s') : WR P n₀ ops ro id dr B Q i lg s := by
  obtain ⟨h2, h3⟩ := isApp_ok hc
  subst hxs
  refine wr_acts (R := Nat) (φ := fun _ => True) (res := fun q' => .o (.s g' q' w 0 (xs ++ ys).length (xs ++ ys).length z')) (post := fun q' => [.vec g' q' w en d (xs ++ ys) e .grown z', cs]) ho hwt (by rw [h2]; unfold kindOf; simp only [h3]) idx nx hi hh (fun a hE F A hF => ?_) fun q' _ => next q'
  obtain ⟨q', A', F', k1, k2, k3⟩ := app_run hw h1 hT hm hne hs hn hlen hF
  rw [← hz'] at k1 k2
  refine ⟨q', A', F', ⟨trivial, ?_⟩, k2, k3⟩
  have hargs : c.args.map a.eval = #[.slice (cond z none (some ⟨q, 0, none⟩)) xs.length xs.length, .slice (cond z2 none (some ⟨q2, off, none⟩)) n2 c2] := by
    have := argL_ok hE ha
    apply Array.ext'
    rw [Array.toList_map]; exact this
  have hd : (SV.o (.s g' q' w 0 (xs ++ ys).length (xs ++ ys).length z')).den = .slice (cond z' none (some ⟨q', 0, none⟩)) (xs ++ ys).length (xs ++ ys).length := by
    show Value.slice (cond z' none (some ⟨q', 0 * w, none⟩)) _ _ = _
    rw [Nat.zero_mul]
  rw [hd]
  exact ⟨_, _, .inr (.inr (.inl ⟨c, _, h2, h3, rfl, by rw [hargs]; exact k1⟩)), rfl, rfl⟩
theorem blkA_put {q : Nat} {cs cs' : Array Value} {t : TypeId} {m : Md} {F : Ft} {A A' : World} (hm : m.mine = true) (h : (blkA q cs t m).p F A) (hk : ∀ k, k ≠ q → A'.heap[k]? = A.heap[k]?) (hsz : A'.heap.size = A.heap.size) (hb : ∀ fz, A.heap[q]? = some (.cells cs t fz) → A'.heap[q]? = some (.cells cs' t fz)) : (blkA q cs' t m).p F A' ∧ Mv F A F A' := by
  obtain ⟨h1, h2, fz, h3, h4⟩ := h
  refine ⟨⟨h1, h2, fz, h3, hb fz h4⟩, ⟨Nat.le_of_eq hsz.symm, fun b _ hn => hk b fun e => hn ((h1 b).2 ⟨hm, e⟩), fun _ hb => .inl hb, fun _ hb => .inr (.inl hb)⟩⟩
theorem vcells_cut {α : Type} {en : α → List C1} {d : α} {xs : List α} {i : Nat} (hi : i < xs.length) : (vcells en xs).toList = (vcells en (xs.take i)).toList ++ (en (xs.getD i d)).map C1.den ++ (vcells en (xs.drop (i + 1))).toList := by
  have : xs = xs.take i ++ [xs.getD i d] ++ xs.drop (i + 1) := by
    rw [getD_at hi, List.append_assoc, List.singleton_append, ← List.drop_eq_getElem_cons hi, List.take_append_drop]
  conv => lhs; rw [this]
  simp [vcells]
/-- A write into a list. -/
theorem wr_vst {α : Type} {en : α → List C1} {d : α} {xs : List α} {g g0 q w j k n : Nat} {t te : TypeId} {m : Md} {ag : Bool} {x y : Operand} {v : SV} {l : List C1} {z : Bool} (x' : α) (idx : List Nat) (ho : ops[i]? = some o) (hop : o.op = .store t x y) (hwt : wantS ops s.env o = some .yes) (hm : m.mine = true)
    (hx : evX s.env x = some (.o (.p g0 q j w k))) (hy : evX s.env y = some v) (hv : v.cells = some l) (hone : l.all C1.one = true) (ht : tsz P t = some (n, ag)) (hn : l.length = n) (hw : ∀ x, (en x).length = w) (hj : j < xs.length) (hk : k + n ≤ w) (hx' : (en x').map C1.den = (putAt (en (xs.getD j d)) k l).map C1.den)
    (hi : okB idx s.hp.length = true) (hh : (selC idx s.hp).map Ch.den = [Ch.vec g q w en d xs te m z].map Ch.den) (hz : z = false) (xs' : List α) (hxs : xs' = xs.set j x')
    (next : ∃ s', aft s o.dst (.o (.v undef)) idx [.vec g q w en d xs' te m z] s.nx = some s' ∧ WR P n₀ ops ro id dr B Q (i + 1) (lg.snoc i (s, none)) s') : WR P n₀ ops ro id dr B Q i lg s := by
  subst hz
  subst hxs
  refine wr_acts (R := Unit) (φ := fun _ => True) (res := fun _ => .o (.v undef)) (post := fun _ => [.vec g q w en d (xs.set j x') te m false]) ho hwt (by rw [hop]; rfl) idx s.nx hi hh (fun a hE F A hF => ?_) fun _ _ => next
  obtain ⟨F1, F2, ⟨hw', hb⟩, h2, j0⟩ := hF
  obtain ⟨o1, o2, fz, hfz, hB⟩ := hb
  have hcut := vcells_cut (en := en) (d := d) hj
  have hE' : (en (xs.getD j d)).map C1.den = ((en (xs.getD j d)).take k).map C1.den ++ (((en (xs.getD j d)).drop k).take n).map C1.den ++ ((en (xs.getD j d)).drop (k + n)).map C1.den := by
    rw [← List.map_append, ← List.map_append, ← List.drop_drop, List.append_assoc, List.take_append_drop, List.take_append_drop]
  have hB' : A.heap[q]? = some (.cells (((vcells en (xs.take j)).toList ++ ((en (xs.getD j d)).take k).map C1.den) ++ (((en (xs.getD j d)).drop k).take n).map C1.den ++ (((en (xs.getD j d)).drop (k + n)).map C1.den ++ (vcells en (xs.drop (j + 1))).toList)).toArray te fz) := by
    rw [hB]
    congr 2
    apply Array.ext'
    rw [hcut, hE']
    simp
  have hone' : (l.map C1.den).all isOne = true := by
    rw [List.all_eq_true] at hone ⊢
    intro u hu
    obtain ⟨c, hc', rfl⟩ := List.mem_map.1 hu
    exact C1.one_den (hone c hc')
  have hpre : ((vcells en (xs.take j)).toList ++ ((en (xs.getD j d)).take k).map C1.den).length = j * w + k + 0 := by
    have h1 := vcells_size hw (xs.take j)
    simp only [List.length_append, Array.length_toList, h1, List.length_map, List.length_take, hw]
    rw [Nat.min_eq_left (by omega), Nat.min_eq_left (by omega)]; rfl
  obtain ⟨A', r, h5, h6, h7⟩ := store_runs (P := P) (new := l.map C1.den) (off := j * w + k) (i := 0) (mine_fz hm hfz) hone' hB' hpre (by simp [hw, hn]; omega)
  obtain ⟨k1, k2⟩ := blkA_put (cs' := vcells en (xs.set j x')) hm ⟨o1, o2, fz, hfz, hB⟩ h7 h6 (fun fz' hB2 => by
    rw [hB] at hB2; cases hB2
    rw [h5]
    congr 2
    apply Array.ext'
    have hj' : j < (xs.set j x').length := by simpa using hj
    rw [vcells_cut (d := d) hj', List.take_set, List.drop_set_of_lt (by omega), getD_at hj', List.getElem_set_self, hx']
    have e1 : (xs.take j).set j x' = xs.take j := List.set_eq_of_length_le (by simp; omega)
    rw [e1]
    simp [putAt, hn])
  obtain ⟨F', g1, g2⟩ := As.frame (K := (Ch.vec g q w en d (xs.set j x') te m false).den) j0 h2 ⟨hw', k1⟩ k2
  refine ⟨(), A', F', ⟨trivial, ?_⟩, g1, g2⟩
  refine ⟨.skip, A', .inr (.inl ⟨by rw [hop]; trivial, ?_⟩), rfl, rfl⟩
  unfold execOp; rw [hop]
  have hx2 : a.eval x = .pointer (some ⟨q, j * w + k, none⟩) := evX_ok hE hx
  have hv2 : v.den.cells = (l.map C1.den).toArray := SV.cells_den hv hone
  simp only [Instr.storeAt, hx2, evX_ok hE hy, Instr.sureAddr, Sem.run_bind, Sem.run_pure, Result.andThen, storeVar, run_szT (tsz_ok ht), hv2, List.size_toArray, List.length_map, hn]
  rw [if_neg (by simp)]
  simp only [r]
/-- What a function's value does. -/
def CtrV (P : Program) (n₀ : Nat) (y : Value) (args : List SV) (pre : List Ch) (R : Type) (φ : R → Prop) (res : R → SV) (post : R → List Ch) : Prop :=
  ∀ F A, (hpA pre).p F A → ∃ r A' F', φ r ∧ CallV P n₀ y (args.map SV.den).toArray A (res r).den A' ∧ (hpA (post r)).p F' A' ∧ Mv F A F' A'
theorem ctrV_of {f : FuncId} {fn : Func} {code : Code} {first cap args args' : List SV} {y : Value} {pre : List Ch} {R : Type} {φ : R → Prop} {res : R → SV} {post : R → List Ch} (H : IsFn P f fn code) (C : Ctr P n₀ f args' pre R φ res post) (hy : y = .func (.func f) (first.map SV.den).toArray (cap.map SV.den).toArray)
    (ha : args'.map SV.den = first.map SV.den ++ args.map SV.den ++ cap.map SV.den) : CtrV P n₀ y args pre R φ res post := fun F A hF => by
  obtain ⟨r, A', F', h1, h2, h3⟩ := C F A hF
  refine ⟨r, A', F', h1, ⟨f, fn, code, _, _, H, hy, ?_⟩, h3⟩
  rw [ha] at h2
  simpa using h2
theorem wr_callv {c : Call} {g : Operand} {y : Value} {args : List SV} {pre : List Ch} {R : Type} {φ : R → Prop} {res : R → SV} {post : R → List Ch} (C : CtrV P n₀ y args pre R φ res post) (res' : R → SV) (post' : R → List Ch) (idx : List Nat) (nx : Nat) (ho : ops[i]? = some o) (hop : o.op = .call c) (hc : c.callee = .value g)
    (hw : wantS ops s.env o = some .yes) (hg : (evX s.env g).map SV.den = some y) (hl : argL s.env c.args.toList = some (args.map SV.den)) (hi : okB idx s.hp.length = true) (hh : (selC idx s.hp).map Ch.den = pre.map Ch.den) (hr : ∀ r, (res r).den = (res' r).den ∧ (post r).map Ch.den = (post' r).map Ch.den)
    (next : ∀ r, φ r → ∃ s', aft s o.dst (res' r) idx (post' r) nx = some s' ∧ WR P n₀ ops ro id dr B Q (i + 1) (lg.snoc i (s, none)) s') : WR P n₀ ops ro id dr B Q i lg s :=
  wr_acts (res := res') (post := post') ho hw (by rw [hop]; unfold kindOf; simp only [hc]) idx nx hi hh (fun a ha F A hF => by
    obtain ⟨r, A', F', h1, ⟨f, fn, code, first, cap, H, hy, h2⟩, h3, h4⟩ := C F A hF
    rw [(hr r).1] at h2
    rw [hpA, (hr r).2] at h3
    rw [Option.map_eq_some_iff] at hg
    obtain ⟨v, hv, e⟩ := hg
    refine ⟨r, A', F', ⟨h1, runOp_enter H ((evX_ok ha hv).trans (e.trans hy)) (argL_ok ha hl) rfl h2 hop hc⟩, h3, h4⟩) next
theorem ne_of {α : Type} {xs : List α} (h : xs.isEmpty = false) : 0 < xs.length := by
  cases xs
  · cases h
  · simp
/-- A list that is nil, as a list. -/
theorem nil_vec {α : Type} (g w : Nat) (en : α → List C1) (d : α) (t : TypeId) (m : Md) : GE [] Unit (fun _ => True) (fun _ => [.vec g 0 w en d [] t m true]) := fun F _A h => ⟨(), F, trivial, ⟨Ft.no, F, ⟨rfl, rfl⟩, h, Ft.Jn.symm Ft.Jn.no⟩, .refl⟩
end
end Go.Abs
/-
  ABS C12: a list's part laid elsewhere in it; contracts of the old kind, laid at the new one.
-/
namespace Go.Abs
section
variable {P : Program} {n₀ : Nat} {ro : Option Nat} {B : Ft × World} {Q : Exit → Act → World → Prop} {s : St} {ops : Array Oper} {id : Nat} {dr : Bool} {i : Nat} {lg : Lg} {o : Oper}
def isCopy (o : Oper) : Option Call := match o.op with
  | .call c => match c.callee with
    | .builtin .copy => some c
    | _ => none
  | _ => none
theorem isCopy_ok {c : Call} (h : isCopy o = some c) : o.op = .call c ∧ c.callee = .builtin .copy := by
  unfold isCopy at h
  split at h
  case h_2 => cases h
  rename_i c' ho
  split at h
  case h_2 => cases h
  rename_i hc
  cases h
  exact ⟨ho, hc⟩
theorem vcells_len {α : Type} {en : α → List C1} {w : Nat} (hw : ∀ x, (en x).length = w) (xs : List α) : (vcells en xs).toList.length = xs.length * w := by rw [Array.length_toList, vcells_size hw]
theorem vcells_part {α : Type} {en : α → List C1} {w : Nat} (hw : ∀ x, (en x).length = w) {xs : List α} {a n : Nat} (h : a + n ≤ xs.length) : (vcells en xs).extract (a * w) (a * w + n * w) = vcells en ((xs.drop a).take n) := by
  have hs : xs = xs.take a ++ (xs.drop a).take n ++ xs.drop (a + n) := by
    rw [← List.drop_drop, List.append_assoc, List.take_append_drop, List.take_append_drop]
  apply Array.ext'
  conv => lhs; rw [hs]
  rw [vcells_append, vcells_append, Array.toList_extract, Array.toList_append, Array.toList_append, List.extract_eq_take_drop, List.append_assoc]
  have l1 : (vcells en (xs.take a)).toList.length = a * w := by rw [vcells_len hw, List.length_take, Nat.min_eq_left (by omega)]
  have l2 : (vcells en ((xs.drop a).take n)).toList.length = n * w := by rw [vcells_len hw, List.length_take, List.length_drop, Nat.min_eq_left (by omega)]
  rw [← l1, List.drop_left, ← l2, Nat.add_sub_cancel_left, List.take_left]
/-- copy, within one list. -/
theorem wr_copy {α : Type} {en : α → List C1} {d : α} {xs : List α} {g q w od nd cd os ns cs n t e : Nat} {m : Md} {ag : Bool} {c : Call} (idx : List Nat) (ho : ops[i]? = some o) (hc : isCopy o = some c) (hwt : wantS ops s.env o = some .yes) (hm : m.mine = true)
    (ha : argL s.env c.args.toList = some [.slice (some ⟨q, od * w, none⟩) nd cd, .slice (some ⟨q, os * w, none⟩) ns cs]) (ht : c.argTypes[0]? = some t) (hu : P.underlying t = some (.slice e)) (hsz : tsz P e = some (w, ag)) (hw : ∀ x, (en x).length = w) (h1 : ∀ x, (en x).all C1.one = true)
    (hn : n = Nat.min ns nd) (k1 : od + n ≤ xs.length) (k2 : os + n ≤ xs.length) (hi : okB idx s.hp.length = true) {te : TypeId} (hh : (selC idx s.hp).map Ch.den = [Ch.vec g q w en d xs te m false].map Ch.den) (xs' : List α) (hxs : xs' = xs.take od ++ (xs.drop os).take n ++ xs.drop (od + n))
    (next : ∃ s', aft s o.dst (.o (.v (.int .i64 n))) idx [.vec g q w en d xs' te m false] s.nx = some s' ∧ WR P n₀ ops ro id dr B Q (i + 1) (lg.snoc i (s, none)) s') : WR P n₀ ops ro id dr B Q i lg s := by
  obtain ⟨hop, hcc⟩ := isCopy_ok hc
  subst hxs
  refine wr_acts (R := Unit) (φ := fun _ => True) (res := fun _ => .o (.v (.int .i64 n))) (post := fun _ => [.vec g q w en d (xs.take od ++ (xs.drop os).take n ++ xs.drop (od + n)) te m false]) ho hwt (by rw [hop]; unfold kindOf; simp only [hcc]) idx s.nx hi hh (fun a hE F A hF => ?_) fun _ _ => next
  obtain ⟨F1, F2, ⟨hw', hb⟩, h2, j0⟩ := hF
  obtain ⟨o1, o2, fz, hfz, hB⟩ := hb
  have hs : xs = xs.take od ++ (xs.drop od).take n ++ xs.drop (od + n) := by
    rw [← List.drop_drop, List.append_assoc, List.take_append_drop, List.take_append_drop]
  have hB' : A.heap[q]? = some (.cells ((vcells en (xs.take od)).toList ++ (vcells en ((xs.drop od).take n)).toList ++ (vcells en (xs.drop (od + n))).toList).toArray te fz) := by
    rw [hB]
    congr 2
    apply Array.ext'
    conv => lhs; rw [hs]
    simp [vcells_append]
  have hone : (vcells en ((xs.drop os).take n)).toList.all isOne = true := by
    unfold vcells
    simp only [List.all_flatMap, List.all_map, List.all_eq_true, Function.comp_apply]
    intro x _ c hc
    exact C1.one_den ((List.all_eq_true.1 (h1 x)) c hc)
  obtain ⟨A', r, h5, h6, h7⟩ := store_runs (P := P) (new := (vcells en ((xs.drop os).take n)).toList) (off := od * w) (i := 0) (mine_fz hm hfz) hone hB' (by rw [vcells_len hw, List.length_take, Nat.min_eq_left (by omega)]; rfl) (by rw [vcells_len hw, vcells_len hw, List.length_take, List.length_take, List.length_drop, List.length_drop, Nat.min_eq_left (by omega), Nat.min_eq_left (by omega)])
  obtain ⟨g1, g2⟩ := blkA_put (cs' := vcells en (xs.take od ++ (xs.drop os).take n ++ xs.drop (od + n))) hm ⟨o1, o2, fz, hfz, hB⟩ h7 h6 (fun fz' hB2 => by
    rw [hB] at hB2; cases hB2
    rw [h5]
    congr 2
    apply Array.ext'
    simp [vcells_append])
  obtain ⟨F', g3, g4⟩ := As.frame (K := (Ch.vec g q w en d (xs.take od ++ (xs.drop os).take n ++ xs.drop (od + n)) te m false).den) j0 h2 ⟨hw', g1⟩ g2
  refine ⟨(), A', F', ⟨trivial, .value (.int .i64 n), A', .inr (.inl ⟨?_, ?_⟩), rfl, rfl⟩, g3, g4⟩
  · rw [hop]; exact .inr (.inl hcc)
  · have hx : c.args.toList.map a.eval = [.slice (some ⟨q, od * w, none⟩) nd cd, .slice (some ⟨q, os * w, none⟩) ns cs] := argL_ok hE ha
    have hsrc : (Builtin.firstCells w n (.slice (some ⟨q, os * w, none⟩) ns cs)).run P A = .ok (vcells en ((xs.drop os).take n)) A := by
      have hsz2 : (vcells en ((xs.drop os).take n)).size = n * w := by rw [vcells_size hw, List.length_take, List.length_drop, Nat.min_eq_left (by omega)]
      refine run_first (z := false) (cs := vcells en ((xs.drop os).take n)) (.inr ⟨rfl, _, _, _, hB, ?_, ?_⟩) hsz2
      · rw [hsz2, vcells_size hw, ← Nat.add_mul]; exact Nat.mul_le_mul_right _ k2
      · rw [hsz2]; exact vcells_part hw k2
    unfold execOp; rw [hop]
    simp only [resolve, hcc, map_list hx, Sem.run_bind, Sem.run_pure, Result.andThen, invoke, builtin, Builtin.copy_, ht]
    simp only [List.getElem?_toArray, List.getElem?_cons_zero, List.getElem?_cons_succ, Sem.run_bind, run_under hu, Result.andThen, Builtin.lenOf, Sem.run_pure, run_szT (tsz_ok hsz), ← hn, hsrc, r]
    rfl
end
end Go.Abs
