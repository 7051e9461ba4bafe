/-
  C13.
-/
import Derived.Test.YtagidoadfajpgaaGreatN12
namespace Go.Abs
section
variable (P : Program) (nO : Nat)
def b9b (y : Value) (xs : Array Value) (A : World) (v : Value) (A' : World) : Prop :=
 b1d P nO y xs A v A' ∨ ∃ l r, y = .func (.yield l) #[] #[] /\ A.heap[l]? = some (.loop r) /\ xs.size = r.params.size /\ O4 P nO l ((r.params.zip xs).foldl (fun tmps (t, a) => tmps.setIfInBounds t a) r.tmps) r.assign r.body A v A'
def b8Y (y : Value) (args : List SV) (pre : List Ch) (R : Type) (φ : R -> Prop) (res : R -> SV) (post : R -> List Ch) : Prop :=
 ∀ F A, (hpA pre).p F A -> ∃ r A' F', φ r /\ b9b P nO y (args.map SV.den).toArray A (res r).den A' /\ (hpA (post r)).p F' A' /\ Mv F A F' A'
def b3F (y : Value) (es : List (List SV)) (Inv : Nat -> As) (Stop : As) : Prop :=
 ∀ k e, es[k]? = some e -> b8Y P nO y e [.as (Inv k)] Bool (fun _ => True) (fun b => .o (.cb b)) (fun b => [.as (cond b (Inv (k + 1)) Stop)])
def b1b (g : Value) (J : List Ch) (es : List (List SV)) : Prop :=
 ∀ (y : Value) (Inv : Nat -> As) (Stop : As), isOne y = true -> b3F P nO y es Inv Stop ->
  a2X P nO g [.o (.v y)] (.as (Inv 0) :: J) Bool (fun _ => True) (fun _ => .o (.v undef)) (fun b => .as (cond b (Inv es.length) Stop) :: J)
end
section
variable {P : Program} {nO : Nat} {ro : Option Nat} {B : Ft × World} {Q : Exit -> Act -> World -> Prop} {s : St}
def a63 (l : Nat) (r : Loop) : As where
 p F A := (∀ b, F.own b ↔ b = l) /\ (∀ b, ¬ F.imm b) /\ A.heap[l]? = some (.loop r)
 lt := fun ⟨h1, h2, h⟩ hb => by
  have := (Array.getElem?_eq_some_iff.1 h).1
  rcases hb with hb | hb
  ·rw [(h1 _).1 hb]; exact this
  ·exact (h2 _ hb).elim
 loc := fun ⟨h1, h2, h⟩ hk => ⟨h1, h2, by rw [hk l (.inl ((h1 l).2 rfl))]; exact h⟩
theorem a1P {I : As} {l : Nat} {r r' : Loop} {F : Ft} {A : World} (h : (I.star (a63 l r)).p F A) : (I.star (a63 l r')).p F (turn A l (.loop r')) /\ Mv F A F (turn A l (.loop r')) /\ A.heap[l]? = some (.loop r) := by
 obtain ⟨F1, F2, h1, ⟨o1, o2, hL⟩, j⟩ := h
 have hk : ∀ b, b ≠ l -> (turn A l (.loop r')).heap[b]? = A.heap[b]? := fun b hb => w0 hb
 have hl : F2.own l := (o1 l).2 rfl
 exact ⟨⟨F1, F2, I.loc h1 fun b hb => hk b fun e => by subst e; exact hb.elim (fun h => j.oo b h hl) (fun h => j.io b h hl), ⟨o1, o2, K8 hL⟩, j⟩, ⟨Nat.le_of_eq r9.symm, fun b _ hn => hk b fun e => hn (e ▸ (j.own l).2 (.inr hl)), fun b hb => .inl hb, fun b hb => .inr (.inl hb)⟩, hL⟩
theorem a8J {A : World} {l : Nat} {r : Loop} (h : A.heap[l]? = some (.loop r)) (hr : r.state = .ready) : (Instr.beginRound l).run P A = .ok () (turn A l (.loop { r with state := .busy })) := by
 unfold Instr.beginRound Instr.getLoop getObj setObj
 simp [Sem.run, Bind.bind, Sem.bind, Pure.pure, h, hr, turn]
theorem b4K {A : World} {l : Nat} {r : Loop} (j : Option Code) (h : A.heap[l]? = some (.loop r)) : (Instr.endRound l j).run P A = .ok (.bool j.isNone) (turn A l (.loop { r with state := if j.isNone then .ready else .done, pending := j })) := by
 unfold Instr.endRound Instr.getLoop getObj setObj
 simp [Sem.run, Bind.bind, Sem.bind, Pure.pure, h, turn]
theorem a4B {A : World} {l : Nat} {r : Loop} (h : A.heap[l]? = some (.loop r)) (hr : r.state ≠ .busy) : (Instr.endLoop l).run P A = .ok r.pending (turn A l (.loop { r with state := .exhausted })) := by
 unfold Instr.endLoop Instr.getLoop getObj setObj
 simp [Sem.run, Bind.bind, Sem.bind, Pure.pure, h, hr, turn]
def b7X : List Tmp -> List SV -> List (Nat × SV) -> List (Nat × SV)
 | t :: ts, v :: vs, env => b7X ts vs ((t, v) :: rem env t)
 | _, _, env => env
theorem a80 : ∀ {ps : List Tmp} {vs : List SV} {env : List (Nat × SV)} {ts : Array Value} {ds : List Deferred}, V0 env ⟨ts, ds⟩ -> (∀ t ∈ ps, t < ts.size) -> V0 (b7X ps vs env) ⟨(ps.zip (vs.map SV.den)).foldl (fun tmps (t, a) => tmps.setIfInBounds t a) ts, ds⟩ /\ ((ps.zip (vs.map SV.den)).foldl (fun tmps (t, a) => tmps.setIfInBounds t a) ts).size = ts.size
 | [], _, _, _, _, h, _ => ⟨h, rfl⟩
 | _ :: _, [], _, _, _, h, _ => ⟨h, rfl⟩
 | t :: ps, v :: vs, env, ts, ds, h, hlt => by
  have ht : t < ts.size := hlt t List.mem_cons_self
  have h1 : V0 ((t, v) :: rem env t) ⟨ts.setIfInBounds t v.den, ds⟩ := V0.put (s := ⟨env, [], 0, 0, false, []⟩) h ht rfl
  obtain ⟨k1, k2⟩ := a80 (ps := ps) (vs := vs) h1 (fun u hu => by simpa using hlt u (List.mem_cons_of_mem _ hu))
  exact ⟨k1, k2.trans (by simp)⟩
def BQ {X Y : Type} (inv : Nat -> X -> List Ch) (φ : Nat -> X -> Prop) (ex : Y -> Exit) (ψ : Y -> Prop) (stop : Y -> List Ch) (k : Nat) (B : Ft × World) (e : Exit) (_a : Act) (A : World) : Prop := match e with
 | .normal => ∃ x', φ (k + 1) x' /\ ∃ F, (hpA (inv (k + 1) x')).p F A /\ Mv B.1 B.2 F A
 | e => ∃ y, ψ y /\ e = ex y /\ ∃ F, (hpA (stop y)).p F A /\ Mv B.1 B.2 F A
def b0z : Exit -> Code
 | .exit i => .exit i
 | _ => .ret
theorem b4t (G : Good P) {g : Operand} {ps : Array Tmp} {as bd : Code} {gv : SV} {J : List Ch} {es : List (List SV)} (X Y : Type) (inv : Nat -> X -> List Ch) (φ : Nat -> X -> Prop) (ex : Y -> Exit) (ψ : Y -> Prop) (stop : Y -> List Ch) (x0 : X) (h0 : φ 0 x0) (idx : List Nat) (nx : Nat) (s1 : Nat -> List SV -> X -> St)
  (hg : evX s.env g = some gv) (H : b1b P nO gv.den J es) (hi : okB idx s.hp.length = true) (hJ : (z6 idx s.hp).map Ch.den = J.map Ch.den) (hI : (z6 (V9 idx s.hp.length) s.hp).map Ch.den = (inv 0 x0).map Ch.den) (hps : ps.toList.all (fun t => Nat.blt t s.sz) = true) (hes : ∀ e ∈ es, e.length = ps.size)
  (hex : ∀ y, ex y = .ret ∨ ∃ i, ex y = .exit i)
  (has : ∀ B l k e x, es[k]? = some e -> φ k x -> W P nO (some l) B as (fun ex a A => ex = .normal /\ Sat B (s1 k e x) a A) { s with env := b7X ps.toList e s.env, hp := inv k x, df := [], nx := nx })
  (hbd : ∀ B l k e x, es[k]? = some e -> φ k x -> W P nO (some l) B bd (BQ inv φ ex ψ stop k B) (s1 k e x))
  (k1 : ∀ x r, φ es.length x -> ∀ a A, Sat B { s with hp := .as (b5L r) :: (inv es.length x ++ J), nx := nx, df := r :: s.df } a A -> Q .normal a A)
  (k2 : ∀ y r, ψ y -> ∀ a A, Sat B { s with hp := .as (b5L r) :: (stop y ++ J), nx := nx, df := r :: s.df } a A -> Q (ex y) a A) : W P nO none B (.rangeFunc g ps as bd) Q s := by
 intro a A hs
 obtain ⟨hE, hsz, hdf, F, hF, hM⟩ := hs
 generalize hr0 : A.heap.size = r0
 let lp : Loop := { state := .ready, pending := none, fn := 0, tmps := a.tmps, params := ps, assign := as, body := bd, defers := r0 }
 let A1 := (A.alloc (.deferred (some []))).alloc (.loop lp)
 have hent : (Instr.enterLoop 0 a.tmps ps as bd none).run P A = .ok (r0 + 1, [mkD r0]) A1 := by
  have hA : (A.alloc (.deferred (some []))).heap.size = r0 + 1 := by simp [hr0]
  have : (Instr.enterLoop 0 a.tmps ps as bd none).run P A = .ok ((A.alloc (.deferred (some []))).heap.size, [mkD A.heap.size]) ((A.alloc (.deferred (some []))).alloc (.loop { state := .ready, pending := none, fn := 0, tmps := a.tmps, params := ps, assign := as, body := bd, defers := A.heap.size })) := rfl
  rw [this, hA, hr0]
 have hA1s : A1.heap.size = r0 + 2 := by simp [A1, hr0]
 have hA1k : ∀ b, b < A.heap.size -> A1.heap[b]? = A.heap[b]? := fun b hb => by
  show ((A.alloc (.deferred (some []))).alloc (.loop lp)).heap[b]? = _
  rw [x5 (by simp; omega), x5 hb]
 have hd1 : A1.heap[r0]? = some (.deferred (some [])) := by
  show ((A.alloc (.deferred (some []))).alloc (.loop lp)).heap[r0]? = _
  rw [x5 (by simp; omega), <- hr0]; exact J6
 have hl1 : A1.heap[r0 + 1]? = some (.loop lp) := by
  have : (A.alloc (.deferred (some []))).heap.size = r0 + 1 := by simp [hr0]
  rw [<- this]; exact J6
 obtain ⟨FJ, FI, gJ, gI, jn⟩ := y8 hi hF
 rw [hpA, hJ] at gJ
 rw [hpA, hI] at gI
 have ltF : ∀ b, F.own b ∨ F.imm b -> b < A.heap.size := fun b hb => (hpA s.hp).lt hF hb
 have gJ1 : (hpA J).p FJ A1 := As.loc _ gJ fun b hb => hA1k b (ltF b (hb.imp (fun h => (jn.own b).2 (.inl h)) (fun h => (jn.imm b).2 (.inl h))))
 have gI1 : (hpA (inv 0 x0)).p FI A1 := As.loc _ gI fun b hb => hA1k b (ltF b (hb.imp (fun h => (jn.own b).2 (.inr h)) (fun h => (jn.imm b).2 (.inr h))))
 let one : Nat -> Ft := fun q => ⟨fun b => b = q, fun _ => False⟩
 let Inv : Nat -> As := fun k => (As.ex fun x => As.guard (φ k x) (hpA (inv k x))).star (a63 (r0 + 1) lp)
 let Stop : As := As.ex fun y => As.guard (ψ y) ((hpA (stop y)).star (a63 (r0 + 1) { lp with state := .done, pending := some (b0z (ex y)) }))
 have hT : b3F P nO (.func (.yield (r0 + 1)) #[] #[]) es Inv Stop := by
  intro k e he F0 A0 hF0
  have hF0 := As.unE hF0
  obtain ⟨Fx, Fl, ⟨x, hx, hinv⟩, hloop, j0⟩ := hF0
  have hlen : e.length = ps.size := hes e (List.mem_of_getElem? he)
  let ts := (ps.zip (e.map SV.den).toArray).foldl (fun tmps (t, a) => tmps.setIfInBounds t a) a.tmps
  have hts : ts = (ps.toList.zip (e.map SV.den)).foldl (fun tmps (t, a) => tmps.setIfInBounds t a) a.tmps := by
   show Array.foldl _ _ _ = _
   rw [<- Array.foldl_toList, Array.toList_zip]
  obtain ⟨p1, p2⟩ := a80 (ps := ps.toList) (vs := e) (env := s.env) (ts := a.tmps) (ds := []) (fun i v h => hE i v h) (fun t ht => by
   have := (List.all_eq_true.1 hps) t ht
   rw [hsz]
   have := Nat.le_of_ble_eq_true (show Nat.ble (t + 1) s.sz = true from this)
   exact this)
  rw [<- hts] at p1 p2
  obtain ⟨e1, a1, A2, c1, rfl, hS1⟩ := has (Fx, A0) (r0 + 1) k e x he hx ⟨ts, []⟩ A0 ⟨p1, p2.trans hsz, rfl, Fx, hinv, .refl⟩
  obtain ⟨q1, q2, q3, F1, q4, q5⟩ := hS1
  obtain ⟨F2, m1, m2⟩ := As.frame (K := hpA (s1 k e x).hp) j0 hloop q4 q5
  obtain ⟨m3, m4, m5⟩ := a1P (r' := { lp with state := .busy }) m1
  have c2 := a8J (P := P) m5 rfl
  obtain ⟨G1, G2, n1, n2, j1⟩ := m3
  obtain ⟨e3, a3, A4, c3, hB⟩ := hbd (G1, turn A2 (r0 + 1) (.loop { lp with state := .busy })) (r0 + 1) k e x he hx a1 _ ⟨q1, q2, q3, G1, n1, .refl⟩
  have fin : ∀ {K : As} {F3 : Ft} (j : Option Code), K.p F3 A4 -> Mv G1 (turn A2 (r0 + 1) (.loop { lp with state := .busy })) F3 A4 -> a3G e3 = some j -> ∃ A5 F5, O4 P nO (r0 + 1) ts as bd A0 (.bool j.isNone) A5 /\ (K.star (a63 (r0 + 1) { lp with state := if j.isNone then .ready else .done, pending := j })).p F5 A5 /\ Mv F0 A0 F5 A5 := fun {K F3} j hK hMv hj => by
   obtain ⟨F4, u1, u2⟩ := As.frame (K := K) j1 n2 hK hMv
   obtain ⟨u3, u4, u5⟩ := a1P (r' := { lp with state := if j.isNone then .ready else .done, pending := j }) u1
   refine ⟨_, F4, a3h (a3g P nO) ⟨a1, A2, _, e3, a3, A4, j, c1, c2, c3, hj, b4K j u5⟩, u3, m2.trans (m4.trans (u2.trans u4))⟩
  cases e3 with
  | normal =>
   obtain ⟨x', hx', F3, h3, h4⟩ := hB
   obtain ⟨A5, F5, v1, v2, v3⟩ := fin (K := As.ex fun x => As.guard (φ (k + 1) x) (hpA (inv (k + 1) x))) none ⟨x', hx', h3⟩ h4 rfl
   refine ⟨true, A5, F5, trivial, .inr ⟨r0 + 1, lp, rfl, hloop.2.2, by simp [lp, hlen], v1⟩, As.addE v2, v3⟩
  | exit i =>
   obtain ⟨y, hy, hey, F3, h3, h4⟩ := hB
   obtain ⟨A5, F5, v1, v2, v3⟩ := fin (K := hpA (stop y)) (some (.exit i)) h3 h4 rfl
   refine ⟨false, A5, F5, trivial, .inr ⟨r0 + 1, lp, rfl, hloop.2.2, by simp [lp, hlen], v1⟩, As.addE ⟨y, hy, ?_⟩, v3⟩
   rw [<- hey]; exact v2
  | ret =>
   obtain ⟨y, hy, hey, F3, h3, h4⟩ := hB
   obtain ⟨A5, F5, v1, v2, v3⟩ := fin (K := hpA (stop y)) (some .ret) h3 h4 rfl
   refine ⟨false, A5, F5, trivial, .inr ⟨r0 + 1, lp, rfl, hloop.2.2, by simp [lp, hlen], v1⟩, As.addE ⟨y, hy, ?_⟩, v3⟩
   rw [<- hey]; exact v2
  | goto i =>
   obtain ⟨y, _, hey, _⟩ := hB
   rcases hex y with h | ⟨i, h⟩ <;> (rw [h] at hey; cases hey)
  | panic ch =>
   obtain ⟨y, _, hey, _⟩ := hB
   rcases hex y with h | ⟨i, h⟩ <;> (rw [h] at hey; cases hey)
  | outgrown =>
   obtain ⟨y, _, hey, _⟩ := hB
   rcases hex y with h | ⟨i, h⟩ <;> (rw [h] at hey; cases hey)
 have jd : ∀ {G : Ft} (q : Nat), (∀ b, G.own b ∨ G.imm b -> b ≠ q) -> (Ft.un G (one q)).Jn G (one q) := fun {G} q h => ⟨fun _ => Iff.rfl, fun _ => Iff.rfl, fun b h1 h2 => h b (.inl h1) h2, fun b _ h2 => h2, fun b h1 h2 => h b (.inr h1) h2⟩
 have hlt' : ∀ {G : Ft} {I : As}, I.p G A -> ∀ b, G.own b ∨ G.imm b -> b < r0 := fun {G I} h b hb => hr0 ▸ I.lt h hb
 have hInv0 : (Inv 0).p (FI.un (one (r0 + 1))) A1 := ⟨FI, one (r0 + 1), ⟨x0, h0, gI1⟩, ⟨fun b => Iff.rfl, fun b h => h, hl1⟩, jd _ fun b hb => by have := hlt' gI b hb; omega⟩
 have hJn : ((FI.un (one (r0 + 1))).un FJ).Jn (FI.un (one (r0 + 1))) FJ := by
  refine ⟨fun _ => Iff.rfl, fun _ => Iff.rfl, fun b h1 h2 => ?_, fun b h1 h2 => ?_, fun b h1 h2 => ?_⟩
  ·rcases h1 with h1 | h1
   ·exact jn.oo b h2 h1
   ·have := hlt' gJ b (.inl h2); simp only [one] at h1; omega
  ·rcases h1 with h1 | h1
   ·exact jn.io b h2 h1
   ·have := hlt' gJ b (.inr h2); simp only [one] at h1; omega
  ·rcases h1 with h1 | h1
   ·exact jn.oi b h2 h1
   ·exact h1
 obtain ⟨bo, A2, F2, _, ⟨f, fn, code, first, cap, hf, hgv, hcall⟩, hpost, hMv⟩ := H _ Inv Stop rfl hT ((FI.un (one (r0 + 1))).un FJ) A1 ⟨_, FJ, hInv0, gJ1, hJn⟩
 have ownA : ∀ b, ((FI.un (one (r0 + 1))).un FJ).own b -> F.own b ∨ b = r0 + 1 := fun b h => by
  rcases h with (h | h) | h
  ·exact .inl ((jn.own b).2 (.inr h))
  ·exact .inr h
  ·exact .inl ((jn.own b).2 (.inl h))
 have immA : ∀ b, ((FI.un (one (r0 + 1))).un FJ).imm b -> F.imm b := fun b h => by
  rcases h with (h | h) | h
  ·exact (jn.imm b).2 (.inr h)
  ·exact h.elim
  ·exact (jn.imm b).2 (.inl h)
 have nr0 : ∀ b, F2.own b ∨ F2.imm b -> b ≠ r0 := fun b hb e => by
  subst e
  have := ltF b
  rcases hb with hb | hb
  ·rcases hMv.own b hb with h | h
   ·rcases ownA b h with h | h
    ·have := ltF b (.inl h); omega
    ·omega
   ·omega
  ·rcases hMv.imm b hb with h | h | h
   ·rcases ownA b h with h | h
    ·have := ltF b (.inl h); omega
    ·omega
   ·have := ltF b (.inr (immA b h)); omega
   ·omega
 have hd2 : A2.heap[r0]? = some (.deferred (some [])) := by
  rw [hMv.kept r0 (by omega) (fun h => by
   rcases ownA r0 h with h | h
   ·have := ltF r0 (.inl h); omega
   ·omega)]
  exact hd1
 obtain ⟨FS, FJ', hS, hJ', j2⟩ := hpost
 have close : ∀ {rr : Loop} {l : List Ch}, ((hpA l).star (a63 (r0 + 1) rr)).p FS A2 -> rr.state ≠ .busy -> ∃ A3 F3, (Instr.endLoop (r0 + 1)).run P A2 = .ok rr.pending A3 /\ (hpA (.as (b5L r0) :: (l ++ J))).p F3 A3 /\ Mv F A F3 A3 := fun {rr l} h hb => by
  obtain ⟨Fx, Fl, hx, ⟨o1, o2, hL⟩, j3⟩ := h
  have hl : Fl.own (r0 + 1) := (o1 _).2 rfl
  have hk : ∀ b, b ≠ r0 + 1 -> (turn A2 (r0 + 1) (.loop { rr with state := .exhausted })).heap[b]? = A2.heap[b]? := fun b hb => w0 hb
  have hFS : ∀ b, FS.own b ∨ FS.imm b -> F2.own b ∨ F2.imm b := fun b h => h.imp (fun h => (j2.own b).2 (.inl h)) (fun h => (j2.imm b).2 (.inl h))
  have hFJ : ∀ b, FJ'.own b ∨ FJ'.imm b -> F2.own b ∨ F2.imm b := fun b h => h.imp (fun h => (j2.own b).2 (.inr h)) (fun h => (j2.imm b).2 (.inr h))
  have hxS : ∀ b, Fx.own b ∨ Fx.imm b -> FS.own b ∨ FS.imm b := fun b h => h.imp (fun h => (j3.own b).2 (.inl h)) (fun h => (j3.imm b).2 (.inl h))
  have hFSl : FS.own (r0 + 1) := (j3.own _).2 (.inr hl)
  have x1 : (hpA l).p Fx (turn A2 (r0 + 1) (.loop { rr with state := .exhausted })) := As.loc _ hx fun b hb => hk b fun e => by subst e; exact hb.elim (fun h => j3.oo _ h hl) (fun h => j3.io _ h hl)
  have x2 : (hpA J).p FJ' (turn A2 (r0 + 1) (.loop { rr with state := .exhausted })) := As.loc _ hJ' fun b hb => hk b fun e => by subst e; exact hb.elim (fun h => j2.oo _ hFSl h) (fun h => j2.oi _ hFSl h)
  have x3 : (b5L r0).p (one r0) (turn A2 (r0 + 1) (.loop { rr with state := .exhausted })) := ⟨fun b => Iff.rfl, fun b h => h, by rw [hk r0 (by omega)]; exact hd2⟩
  have j4 : (Fx.un FJ').Jn Fx FJ' := ⟨fun _ => Iff.rfl, fun _ => Iff.rfl, fun b h1 h2 => j2.oo b ((j3.own b).2 (.inl h1)) h2, fun b h1 h2 => j2.oi b ((j3.own b).2 (.inl h1)) h2, fun b h1 h2 => j2.io b ((j3.imm b).2 (.inl h1)) h2⟩
  have in2 : ∀ b, (Fx.un FJ').own b -> F2.own b := fun b h => h.elim (fun h => (j2.own b).2 (.inl ((j3.own b).2 (.inl h)))) (fun h => (j2.own b).2 (.inr h))
  have im2 : ∀ b, (Fx.un FJ').imm b -> F2.imm b := fun b h => h.elim (fun h => (j2.imm b).2 (.inl ((j3.imm b).2 (.inl h)))) (fun h => (j2.imm b).2 (.inr h))
  have j5 : ((one r0).un (Fx.un FJ')).Jn (one r0) (Fx.un FJ') := ⟨fun _ => Iff.rfl, fun _ => Iff.rfl, fun b h1 h2 => nr0 b (.inl (in2 b h2)) h1, fun b h1 h2 => nr0 b (.inr (im2 b h2)) h1, fun b h1 => h1.elim⟩
  refine ⟨_, (one r0).un (Fx.un FJ'), a4B hL hb, ⟨one r0, Fx.un FJ', x3, a0b.2 ⟨Fx, FJ', x1, x2, j4⟩, j5⟩, ⟨?_, fun b hb hn => ?_, fun b hb => ?_, fun b hb => ?_⟩⟩
  ·have := hMv.size
   rw [r9]; omega
  ·rw [hk b (by omega), hMv.kept b (by omega) (fun h => by
    rcases ownA b h with h | h
    ·exact hn h
    ·omega), hA1k b hb]
  ·rcases hb with hb | hb
   ·simp only [one] at hb; exact .inr (by omega)
   ·rcases hMv.own b (in2 b hb) with h | h
    ·rcases ownA b h with h | h
     ·exact .inl h
     ·exact .inr (by omega)
    ·exact .inr (by omega)
  ·rcases hb with hb | hb
   ·exact hb.elim
   ·rcases hMv.imm b (im2 b hb) with h | h | h
    ·rcases ownA b h with h | h
     ·exact .inl h
     ·exact .inr (.inr (by omega))
    ·exact .inr (.inl (immA b h))
    ·exact .inr (.inr (by omega))
 have hgv' : a.eval g = .func (.func f) first cap := (p7 hE hg).trans hgv
 have hcall' : u9 P nO f (first ++ #[.func (.yield (r0 + 1)) #[] #[]] ++ cap) A1 undef A2 := hcall
 cases bo with
 | true =>
  obtain ⟨Fx, Fl, ⟨x, hx, hinv⟩, hloop, j3⟩ := hS
  obtain ⟨A3, F3, c1, c2, c3⟩ := close (rr := lp) ⟨Fx, Fl, hinv, hloop, j3⟩ (by simp [lp])
  refine ⟨.normal, { a with defers := [mkD r0] ++ a.defers }, A3, p0 G (c := .rangeFunc g ps as bd) ⟨r0 + 1, [mkD r0], A1, f, first, cap, fn, code, undef, A2, none, A3, hent, hgv', hf.at_, hf.body, hf.name, hcall', c1, rfl, rfl, rfl⟩, k1 x r0 hx _ _ ⟨hE, hsz, by simp [hdf], F3, c2, hM.trans c3⟩⟩
 | false =>
  obtain ⟨y, hy, hst⟩ := hS
  obtain ⟨A3, F3, c1, c2, c3⟩ := close hst (by simp)
  have hend := k2 y r0 hy { a with defers := [mkD r0] ++ a.defers } A3 ⟨hE, hsz, by simp [hdf], F3, c2, hM.trans c3⟩
  have hcode : Q2 P nO none (b0z (ex y)) { a with defers := [mkD r0] ++ a.defers } A3 (ex y) { a with defers := [mkD r0] ++ a.defers } A3 := by
   rcases hex y with h | ⟨i, h⟩ <;> rw [h]
   ·exact p0 G (c := .ret) ⟨rfl, rfl, rfl⟩
   ·exact p0 G (c := .exit i) ⟨rfl, rfl, rfl⟩
  exact ⟨ex y, _, A3, p0 G (c := .rangeFunc g ps as bd) ⟨r0 + 1, [mkD r0], A1, f, first, cap, fn, code, undef, A2, some (b0z (ex y)), A3, hent, hgv', hf.at_, hf.body, hf.name, hcall', c1, hcode⟩, hend⟩
theorem b7d {X Y : Type} {inv : Nat -> X -> List Ch} {φ : Nat -> X -> Prop} {ex : Y -> Exit} {ψ : Y -> Prop} {stop : Y -> List Ch} {k : Nat} (x' : X) (h : φ (k + 1) x') (idx : List Nat) (hi : okB idx s.hp.length = true) (hh : (z6 idx s.hp).map Ch.den = (inv (k + 1) x').map Ch.den) :
  ∀ a A, Sat B s a A -> BQ inv φ ex ψ stop k B .normal a A := fun a A hs => by
 obtain ⟨_, _, _, F, hF, hM⟩ := hs
 obtain ⟨F', h4, h5⟩ := a2B (y8 hi hF)
 rw [hpA, hh] at h4
 exact ⟨x', h, F', h4, hM.trans h5⟩
theorem b7b {X Y : Type} {inv : Nat -> X -> List Ch} {φ : Nat -> X -> Prop} {ex : Y -> Exit} {ψ : Y -> Prop} {stop : Y -> List Ch} {k : Nat} {e : Exit} (y : Y) (h : ψ y) (he : e = ex y) (hne : e ≠ .normal) (idx : List Nat) (hi : okB idx s.hp.length = true) (hh : (z6 idx s.hp).map Ch.den = (stop y).map Ch.den) :
  ∀ a A, Sat B s a A -> BQ inv φ ex ψ stop k B e a A := fun a A hs => by
 obtain ⟨_, _, _, F, hF, hM⟩ := hs
 obtain ⟨F', h4, h5⟩ := a2B (y8 hi hF)
 rw [hpA, hh] at h4
 cases e with
 | normal => exact absurd rfl hne
 | _ => exact ⟨y, h, he, F', h4, hM.trans h5⟩
theorem b7x {α : Type} {f : α -> List SV} {d : α} {L : List α} {k : Nat} {e : List SV} (h : (L.map f)[k]? = some e) : k < L.length /\ e = f (L.getD k d) := by
 rw [List.getElem?_map, Option.map_eq_some_iff] at h
 obtain ⟨x, hx, rfl⟩ := h
 obtain ⟨hk, e⟩ := List.getElem?_eq_some_iff.1 hx
 exact ⟨hk, by rw [a8 hk, e]⟩
theorem b2L {g : Value} {J : List Ch} {es : List (List SV)} {f : FuncId} {fn : Func} {code : Code} (cap : List SV) (H : IsFn P f fn code) (hg : g = .func (.func f) #[] (cap.map SV.den).toArray)
  (C : ∀ (y : Value) (Inv : Nat -> As) (Stop : As), isOne y = true -> b3F P nO y es Inv Stop -> Ctr P nO f (.o (.v y) :: cap) (.as (Inv 0) :: J) Bool (fun _ => True) (fun _ => .o (.v undef)) (fun b => .as (cond b (Inv es.length) Stop) :: J)) : b1b P nO g J es := fun y Inv Stop h1 hT =>
 b5S (first := []) (cap := cap) H (C y Inv Stop h1 hT) hg rfl
end
end Go.Abs
namespace Go.Abs
def n8 {α : Type} (l : List α) : Md := cond l.isEmpty .own .grown
theorem a9p {α : Type} {l : List α} (h : l ≠ []) : n8 l = .grown := by
 cases l with
 | nil => exact absurd rfl h
 | cons => rfl
section
variable {P : Program} {nO : Nat} {ro : Option Nat} {B : Ft × World} {Q : Exit -> Act -> World -> Prop} {s : St} {ops : Array Oper} {id : Nat} {dr : Bool} {i : Nat} {lg : Lg} {o : Oper}
theorem b3y {α : Type} {en : α -> List C1} {d : α} {ys : List α} {g q w n2 c2 q2 off : Nat} {e : TypeId} {z2 : Bool} {cs : Ch} {ts : Array TypeId} {F : Ft} {A : World} (hw : ∀ x, (en x).length = w) (h1 : ∀ x, (en x).all C1.one = true) (hT : b6m P ts e w = true)
  (hs : Src cs q2 off z2 (b7 en ys)) (hn : n2 = ys.length) (hlen : ys.length <= 16777216) (hF : (hpA [.vec g q w en d [] e .own false, cs]).p F A) :
  ∃ q' A' F', b8H P ts #[.slice (some ⟨q, 0, none⟩) 0 0, .slice (cond z2 none (some ⟨q2, off, none⟩)) n2 c2] A (.slice (some ⟨q', 0, none⟩) ys.length ys.length) A' /\
   (hpA [.vec g q' w en d ys e (n8 ys) false, cs]).p F' A' /\ Mv F A F' A' := by
 by_cases hy : ys = []
 ·subst hy
  subst hn
  obtain ⟨ie, zv, T⟩ := a5i hT
  have hF' := hF
  obtain ⟨F1, F2, k1, k2, j⟩ := hF
  have hsrc := hs _ _ (As.unE k2)
  have hnew : (appSrc (d8 P ts) e ie.size ([] : List α).length (.slice (cond z2 none (some ⟨q2, off, none⟩)) ([] : List α).length c2)).run P A = .ok (b7 en ([] : List α)) A := by
   rw [T.nz]
   simp only [appSrc, Bool.not_false, if_true]
   exact R0 hsrc (by rw [f5 hw, T.size])
  have hnx : a0u (d8 P ts) ie.bytes (.slice (cond z2 none (some ⟨q2, off, none⟩)) ([] : List α).length c2) = some ([] : List α).length := by rw [T.nz]; rfl
  refine ⟨q, A, F, ⟨e, ie, zv, some ⟨q, 0, none⟩, 0, 0, _, 0, T.at_, rfl, hnx, .inl ⟨Nat.le_refl _, b7 en [], hnew, by rw [M6]; rfl, by simp⟩⟩, hF', .refl⟩
 ·obtain ⟨q', A', F', a1, a2, a3⟩ := b0R (en := en) (d := d) (xs := []) (ys := ys) (g := g) (q := q) (m := .own) (z := false) (c2 := c2) hw h1 hT (.inr ⟨rfl, hy⟩) (fun _ h => by cases h) hs hn (by simpa using hlen) hF
  have hie : ys.isEmpty = false := by cases ys with
   | nil => exact absurd rfl hy
   | cons => rfl
  simp only [Bool.false_and, List.nil_append] at a1 a2
  rw [a9p hy]
  exact ⟨q', A', F', a1, a2, a3⟩
end
end Go.Abs
namespace Go.Abs
inductive Fr where
 | seq (y : Code)
 | blk (id : Nat)
 | lp (N : Act -> World -> Prop)
inductive Pt where
 | rg (id : Nat) (ops : Array Oper) (d : Bool) (K : List Fr) (i : Nat) (lg : Lg)
 | cd (x : Operand) (a b : Code) (K : List Fr)
 | lo (c : Code) (K : List Fr)
 | rf (g : Operand) (ps : Array Tmp) (as bd : Code) (K : List Fr)
 | ag (N : Act -> World -> Prop) (K : List Fr)
 | fi (e : Exit)
 | bad
inductive Nd where
 | c (x : Code)
 | e (x : Exit)
def adv : Nat -> Nd -> List Fr -> Pt
 | 0, _, _ => .bad
 | n + 1, .c c, K => match c with
  | .seq x y => adv n (.c x) (.seq y :: K)
  | .block id x => adv n (.c x) (.blk id :: K)
  | .skip => adv n (.e .normal) K
  | .exit i => adv n (.e (.exit i)) K
  | .ret => adv n (.e .ret) K
  | .region id ops d => .rg id ops d K 0 lg0
  | .cond x a b => .cd x a b K
  | .loop x => .lo x K
  | .rangeFunc g ps as bd => .rf g ps as bd K
  | _ => .bad
 | n + 1, .e e, K => match K with
  | [] => .fi e
  | .seq y :: K => match e with
   | .normal => adv n (.c y) K
   | e => adv n (.e e) K
  | .blk i :: K => adv n (.e (a3L i e)) K
  | .lp N :: K => match e with
   | .normal => .ag N K
   | e => adv n (.e e) K
section
variable (P : Program) (nO : Nat) (ro : Option Nat) (B : Ft × World) (Q : Exit -> Act -> World -> Prop)
def kQ : List Fr -> Exit -> Act -> World -> Prop
 | [] => Q
 | .seq y :: K => a4t (wpC P nO ro y (kQ K)) (kQ K)
 | .blk i :: K => fun e => kQ K (a3L i e)
 | .lp N :: K => a4t N (kQ K)
def GP (p : Pt) (s : St) : Prop := match p with
 | .rg id ops d K i lg => WR P nO ops ro id d B (kQ P nO ro Q K) i lg s
 | .cd x a b K => W P nO ro B (.cond x a b) (kQ P nO ro Q K) s
 | .lo c K => W P nO ro B (.loop c) (kQ P nO ro Q K) s
 | .rf g ps as bd K => W P nO ro B (.rangeFunc g ps as bd) (kQ P nO ro Q K) s
 | .ag N _ => ∀ a A, Sat B s a A -> N a A
 | .fi e => ∀ a A, Sat B s a A -> Q e a A
 | .bad => False
def b84 (x : Nd) (K : List Fr) (s : St) : Prop := match x with
 | .c c => W P nO ro B c (kQ P nO ro Q K) s
 | .e e => ∀ a A, Sat B s a A -> kQ P nO ro Q K e a A
end
section
variable {P : Program} {nO : Nat} {ro : Option Nat} {B : Ft × World} {Q : Exit -> Act -> World -> Prop}
theorem x6 (G : Good P) {s : St} : ∀ (n : Nat) (x : Nd) (K : List Fr), GP P nO ro B Q (adv n x K) s -> b84 P nO ro B Q x K s
 | 0, _, _, h => h.elim
 | n + 1, .c c, K, h => by
  cases c with
  | seq x y => exact b75 G (x6 G n (.c x) (.seq y :: K) h)
  | block id x => exact b4w G (x6 G n (.c x) (.blk id :: K) h)
  | skip => exact b6D G (x6 G n (.e .normal) K h)
  | exit i => exact b6F G (x6 G n (.e (.exit i)) K h)
  | ret => exact b76 G (x6 G n (.e .ret) K h)
  | region id ops d => exact b77 h
  | cond x a b => exact h
  | loop x => exact h
  | rangeFunc g ps as bd => exact h
  | _ => exact h.elim
 | n + 1, .e e, [], h => h
 | n + 1, .e e, .seq y :: K, h => by
  cases e with
  | normal => exact x6 G n (.c y) K h
  | _ => exact fun a A hs => x6 G n (.e _) K h a A hs
 | n + 1, .e e, .blk i :: K, h => x6 G n (.e (a3L i e)) K h
 | n + 1, .e e, .lp N :: K, h => by
  cases e with
  | normal => exact h
  | _ => exact fun a A hs => x6 G n (.e _) K h a A hs
end
structure RU where
 j : Nat
 s : St
 ps : List Ob
 lg : Lg
def b1W (P : Program) (ops : Array Oper) (q : Nat -> Nat) : Nat -> Nat -> St -> Lg -> RU
 | 0, i, s, lg => ⟨i, s, [], lg⟩
 | k + 1, i, s, lg => match ops[i]? with
  | some o => match a8g P ops s q o with
   | some (_, s1, p1) => match b1W P ops q k (i + 1) s1 (lg.snoc i (s, b5a P s q o)) with
    | ⟨j, s2, p2, lg2⟩ => ⟨j, s2, p1 ++ p2, lg2⟩
   | none => ⟨i, s, [], lg⟩
  | none => ⟨i, s, [], lg⟩
def b8t (id : Nat) (ops : Array Oper) (d : Bool) (K : List Fr) (j : Nat) (lg : Lg) : Pt := match Nat.beq j ops.size with
 | true => adv 300 (.e .normal) K
 | false => .rg id ops d K j lg
abbrev EnT := List EvR × List (Option Ch) × Bool
def enP (P : Program) (p : Pt) (j : Nat) (lg : Lg) (s : St) : EnT × EnT := match p with
 | .rg _ ops true _ _ _ => match Nat.beq j ops.size with
  | true => (((a3Y P ops lg s).map Prod.fst, (a3Z ops lg s).map Prod.fst, rck ops), ((a3Y P ops lg s).map Prod.snd, (a3Z ops lg s).map Prod.snd, true))
  | false => (([], [], true), ([], [], true))
 | _ => (([], [], true), ([], [], true))
def nxP (p : Pt) (j : Nat) (lg : Lg) : Pt := match p with
 | .rg id ops d K _ _ => b8t id ops d K j lg
 | _ => .bad
def ruP (P : Program) (p : Pt) (s : St) (q : Nat -> Nat) : RU := match p with
 | .rg _ ops _ _ i lg => b1W P ops q ops.size i s lg
 | _ => ⟨0, s, [], lg0⟩
section
variable {P : Program} {nO : Nat} {ro : Option Nat} {B : Ft × World} {Q : Exit -> Act -> World -> Prop} {p : Pt} {s : St}
theorem a4C {ops : Array Oper} {q : Nat -> Nat} : ∀ (k i : Nat) (s : St) (lg : Lg), ∃ m, (b1W P ops q k i s lg).j = i + m /\ b6N P ops q m i s = some ((b1W P ops q k i s lg).s, (b1W P ops q k i s lg).ps) /\ a0a P ops q m i s lg = (b1W P ops q k i s lg).lg
 | 0, _, _, _ => ⟨0, rfl, rfl, rfl⟩
 | k + 1, i, s, lg => by
  unfold b1W
  split
  ·rename_i o ho
   split
   ·rename_i v s1 p1 hst
    obtain ⟨m, h1, h2, h3⟩ := a4C k (i + 1) s1 (lg.snoc i (s, b5a P s q o))
    generalize b1W P ops q k (i + 1) s1 (lg.snoc i (s, b5a P s q o)) = r at h1 h2 h3
    obtain ⟨j, s2, p2, lg2⟩ := r
    refine ⟨m + 1, by simp only at h1 ⊢; omega, ?_, ?_⟩
    ·simp only [b6N, ho, hst, h2]
    ·simp only [a0a, ho, hst, h3]
   ·exact ⟨0, rfl, rfl, rfl⟩
  ·exact ⟨0, rfl, rfl, rfl⟩
theorem a01 (G : Good P) {id : Nat} {ops : Array Oper} {d : Bool} {K : List Fr} {i : Nat} {lg0 lg : Lg} {j : Nat} (e : (enP P (.rg id ops d K i lg0) j lg s).1 = (enP P (.rg id ops d K i lg0) j lg s).2) (h : GP P nO ro B Q (b8t id ops d K j lg) s) : WR P nO ops ro id d B (kQ P nO ro Q K) j lg s := by
 unfold b8t at h
 split at h
 ·rename_i hj
  have hj' := Nat.eq_of_beq_eq_true hj
  have hK := x6 G 300 (.e .normal) K h
  cases d with
  | false => exact b6w G hj' hK
  | true =>
   simp only [enP, hj] at e
   simp only [Prod.mk.injEq] at e
   exact b4r G hj' e.2.2 e.1 e.2.1 hK
 ·exact h
theorem go [G : Good P] {T : (Nat -> Nat) -> Prop} (pf : ∀ q, T q) (next : ∀ q, GP P nO ro B Q (nxP p (ruP P p s q).j (ruP P p s q).lg) (ruP P p s q).s) (e : ∀ q, T q = obP (ruP P p s q).ps := by intro q; kernel_rfl)
  (ed : ∀ q, ((enP P p (ruP P p s q).j (ruP P p s q).lg (ruP P p s q).s).1, (obQ (ruP P p s q).ps).map Prod.fst) = ((enP P p (ruP P p s q).j (ruP P p s q).lg (ruP P p s q).s).2, (obQ (ruP P p s q).ps).map Prod.snd) := by intro q; kernel_rfl) : GP P nO ro B Q p s := by
 cases p with
 | rg id ops d K i lg =>
  intro T h1 h2 h3
  have hq : ∀ m, (fun g => (T.ws i).heap.size + (g - s.nx)) (s.nx + m) = (T.ws i).heap.size + m := fun m => by simp only; omega
  generalize (fun g => (T.ws i).heap.size + (g - s.nx)) = q at hq
  have hn := next q
  have hed := ed q
  simp only [Prod.mk.injEq] at hed
  have hp := O9 ((e q).mp (pf q)) hed.2
  replace hed := hed.1
  simp only [ruP, nxP] at hn hp hed
  obtain ⟨m, k1, k2, k3⟩ := a4C (P := P) (ops := ops) (q := q) ops.size i s lg
  obtain ⟨T', e3, e4, g1, g2, g3⟩ := a8G h1 h2 h3 k2 hp hq
  rw [k3] at g1 g2
  have := a01 G hed hn
  rw [k1] at this
  rw [<- e3, <- e4]
  exact this T' g1 g2 g3
 | _ => exact (next fun _ => 0).elim
def cdB (p : Pt) (s : St) : Option Bool := match p with
 | .cd x _ _ _ => match evX s.env x with
  | some (.o c) => U4 c
  | _ => none
 | _ => none
def cdP (p : Pt) (b : Bool) : Pt := match p with
 | .cd _ x y K => adv 300 (.c (match b with | true => x | false => y)) K
 | _ => .bad
theorem cd [G : Good P] (b : Bool) (h1 : b = true -> GP P nO ro B Q (cdP p true) s) (h2 : b = false -> GP P nO ro B Q (cdP p false) s) (hc : cdB p s = some b := by kernel_rfl) : GP P nO ro B Q p s := by
 cases p with
 | cd x a c K =>
  simp only [cdB] at hc
  split at hc
  case h_2 => cases hc
  rename_i v hv
  refine b4v G b hv (E9 hc) ?_
  cases b with
  | true => exact x6 G 300 (.c a) K (h1 rfl)
  | false => exact x6 G 300 (.c c) K (h2 rfl)
 | _ => cases hc
theorem cdD [G : Good P] (φ : Prop) [Decidable φ] (h1 : φ -> GP P nO ro B Q (cdP p true) s) (h2 : ¬ φ -> GP P nO ro B Q (cdP p false) s) (hc : cdB p s = some (decide φ) := by kernel_rfl) : GP P nO ro B Q p s := cd _ (fun h => h1 (of_decide_eq_true h)) (fun h => h2 (of_decide_eq_false h)) hc
theorem cdE [G : Good P] (m n : Int) (h1 : m = n -> GP P nO ro B Q (cdP p true) s) (h2 : m ≠ n -> GP P nO ro B Q (cdP p false) s) (hc : cdB p s = some (m == n) := by kernel_rfl) : GP P nO ro B Q p s := cd _ (fun h => h1 (eq_of_beq h)) (fun h => h2 (ne_of_beq_false h)) hc
theorem cdN [G : Good P] (m n : Int) (h1 : m ≠ n -> GP P nO ro B Q (cdP p true) s) (h2 : m = n -> GP P nO ro B Q (cdP p false) s) (hc : cdB p s = some (m != n) := by kernel_rfl) : GP P nO ro B Q p s := cd _ (fun h => h1 (ne_of_beq_false (Bool.not_eq_true' _ ▸ h))) (fun h => h2 (by simpa using h)) hc
theorem cdT [G : Good P] {b : Bool} (hb : b = true) (h : GP P nO ro B Q (cdP p true) s) (hc : cdB p s = some b := by kernel_rfl) : GP P nO ro B Q p s := cd b (fun _ => h) (fun e => by rw [hb] at e; cases e) hc
theorem cdF [G : Good P] {b : Bool} (hb : b = false) (h : GP P nO ro B Q (cdP p false) s) (hc : cdB p s = some b := by kernel_rfl) : GP P nO ro B Q p s := cd b (fun e => by rw [hb] at e; cases e) (fun _ => h) hc
abbrev b8X := Nat × List Nat × List (Nat × Option Value) × Bool × List As
def m9 (s s' : St) (idx : List Nat) : b8X := (s.sz, s.df, s'.env.map (fun p => (p.1, (W9 s.env p.1).map SV.den)), okB idx s.hp.length, (z6 idx s.hp).map Ch.den)
def m8 (s' : St) : b8X := (s'.sz, s'.df, s'.env.map (fun p => (p.1, some p.2.den)), true, s'.hp.map Ch.den)
theorem b0c {s s' : St} {idx : List Nat} (h : m9 s s' idx = m8 s') : EnS s s' := by
 simp only [m9, m8, Prod.mk.injEq] at h
 exact b7z idx ⟨h.1, h.2.1⟩ h.2.2.1 h.2.2.2.1 h.2.2.2.2
def j6 {X : Type} (s : St) (live : List Nat) (env : X -> List (Nat × SV)) (keep : List Nat) (hp : X -> List Ch) (nx : Nat) (x : X) : St := { s with env := env x ++ b8j live s.env, hp := hp x ++ z6 keep s.hp, nx := nx }
def agN (p : Pt) : Option (Act -> World -> Prop) := match p with
 | .ag N _ => some N
 | _ => none
def loP (p : Pt) (N : Act -> World -> Prop) : Pt := match p with
 | .lo c K => adv 300 (.c c) (.lp N :: K)
 | _ => .bad
def loN {X : Type} (B : Ft × World) (inv : X -> St) (φ : X -> Prop) (m : X -> Nat) (y : X) : Act -> World -> Prop := fun a A => ∃ x', m x' < m y /\ φ x' /\ Sat B (inv x') a A
theorem lp [G : Good P] (X : Type) (live : List Nat) (env : X -> List (Nat × SV)) (keep : List Nat) (hp : X -> List Ch) (nx : Nat) (φ : X -> Prop) (m : X -> Nat) (x0 : X) (h0 : φ x0) (idx : List Nat)
  (body : ∀ y, φ y -> (∀ (p' : Pt) (s' : St) (x' : X), m x' < m y -> φ x' -> ∀ idx', m9 s' (j6 s live env keep hp nx x') idx' = m8 (j6 s live env keep hp nx x') -> agN p' = some (loN B (j6 s live env keep hp nx) φ m y) -> GP P nO ro B Q p' s') -> GP P nO ro B Q (loP p (loN B (j6 s live env keep hp nx) φ m y)) (j6 s live env keep hp nx y))
  (he : m9 s (j6 s live env keep hp nx x0) (idx ++ keep) = m8 (j6 s live env keep hp nx x0) := by kernel_rfl) : GP P nO ro B Q p s := by
 have ag : ∀ y (p' : Pt) (s' : St) (x' : X), m x' < m y -> φ x' -> ∀ idx', m9 s' (j6 s live env keep hp nx x') idx' = m8 (j6 s live env keep hp nx x') -> agN p' = some (loN B (j6 s live env keep hp nx) φ m y) -> GP P nO ro B Q p' s' := fun y p' s' x' h1 h2 idx' h3 h4 => by
  cases p' with
  | ag N K =>
   simp only [agN, Option.some.injEq] at h4
   subst h4
   exact fun a A hs => ⟨x', h1, h2, b0c h3 B a A hs⟩
  | _ => cases h4
 cases p with
 | lo c K => exact b6E G X (j6 s live env keep hp nx) φ m x0 h0 (b0c he) fun y hy => x6 G 300 (.c c) (.lp (loN B (j6 s live env keep hp nx) φ m y) :: K) (body y hy (ag y))
 | _ => exact (body x0 h0 (ag x0)).elim
def b8U (p : Pt) : Bool := match p with
 | .fi .normal => true
 | .fi .ret => true
 | _ => false
def n5 (P : Program) (f : FuncId) (s : St) : Option (SV × List Ob) := match P.funcs[f]? with
 | some fn => b7V P s fn.results.toList
 | none => none
def obO {α : Type} (x : Option (α × List Ob)) : List Ob := match x with
 | some (_, ps) => ps
 | none => [.p False]
def RF (P : Program) (B : Ft × World) (f : FuncId) {R : Type} (φ : R -> Prop) (res : R -> SV) (post : R -> List Ch) (e : Exit) (a : Act) (A : World) : Prop := ∀ fn, P.funcs[f]? = some fn -> RQ P B fn φ res post e a A
theorem rtv {f : FuncId} {R : Type} {φ : R -> Prop} {res : R -> SV} {post : R -> List Ch} {T : Prop} (pf : T) (r : R) (hφ : φ r) (idx : List Nat) (v : SV) (hv : v.den = (res r).den) (c : ((b8U p, s.df, okB idx s.hp.length), (n5 P f s).map (fun x => x.1.den), (z6 idx s.hp).map Ch.den, (obQ (obO (n5 P f s))).map Prod.fst) = ((true, [], true), some v.den, (post r).map Ch.den, (obQ (obO (n5 P f s))).map Prod.snd) := by kernel_rfl)
  (e : T = obP (obO (n5 P f s)) := by kernel_rfl) : GP P nO ro B (RF P B f φ res post) p s := by
 simp only [Prod.mk.injEq] at c
 obtain ⟨⟨c1, c2, c3⟩, c4, c5, c6⟩ := c
 have hps := O9 (e.mp pf) c6
 have key : ∀ ex, (ex = .normal ∨ ex = .ret) -> ∀ a A, Sat B s a A -> RF P B f φ res post ex a A := fun ex hex a A hs fn hfn => by
  simp only [n5, hfn] at c4 hps
  rw [Option.map_eq_some_iff] at c4
  obtain ⟨⟨u, ps⟩, hu, ed⟩ := c4
  rw [hu] at hps
  exact b8q r idx u ps hu hps (ed.trans hv) hφ c3 c5 hex c2 a A hs
 cases p with
 | fi ex =>
  cases ex with
  | normal => exact key _ (.inl rfl)
  | ret => exact key _ (.inr rfl)
  | _ => cases c1
 | _ => cases c1
theorem rt {f : FuncId} {R : Type} {φ : R -> Prop} {res : R -> SV} {post : R -> List Ch} {T : Prop} (pf : T) (r : R) (hφ : φ r) (idx : List Nat) (c : ((b8U p, s.df, okB idx s.hp.length), (n5 P f s).map (fun x => x.1.den), (z6 idx s.hp).map Ch.den, (obQ (obO (n5 P f s))).map Prod.fst) = ((true, [], true), some (res r).den, (post r).map Ch.den, (obQ (obO (n5 P f s))).map Prod.snd) := by kernel_rfl)
  (e : T = obP (obO (n5 P f s)) := by kernel_rfl) : GP P nO ro B (RF P B f φ res post) p s := rtv pf r hφ idx (res r) rfl c e
def isF (P : Program) (f : FuncId) : Bool := match P.funcs[f]? with
 | some fn => match fn.body with
  | some _ => match fn.name == "runtime.NumGoroutine" with
   | true => false
   | false => true
  | none => false
 | none => false
theorem a3I {f : FuncId} (h : isF P f = true) : ∃ fn c, IsFn P f fn c := by
 unfold isF at h
 split at h
 case h_2 => cases h
 rename_i fn h1
 split at h
 case h_2 => cases h
 rename_i c h2
 split at h
 ·cases h
 rename_i h3
 exact ⟨fn, c, h1, h2, h3⟩
def coD (P : Program) (f : FuncId) : Code := match P.funcs[f]? with
 | some fn => match fn.body with
  | some c => c
  | none => .skip
 | none => .skip
def szD (P : Program) (f : FuncId) (n : Nat) : Nat := match P.funcs[f]? with
 | some fn => n + (fn.ntmps - n)
 | none => n
theorem fs [G : Good P] {f : FuncId} {args : List SV} {pre : List Ch} {R : Type} {φ : R -> Prop} {res : R -> SV} {post : R -> List Ch} (nx : Nat) (k : ∀ B, GP P nO none B (RF P B f φ res post) (adv 300 (.c (coD P f)) []) ⟨a7g args 0, pre, szD P f args.length, nx, false, []⟩) (h : isF P f = true := by kernel_rfl) : Ctr P nO f args pre R φ res post := by
 obtain ⟨fn, c, H⟩ := a3I h
 have e1 : coD P f = c := by simp only [coD, H.at_, H.body]
 have e2 : szD P f args.length = args.length + (fn.ntmps - args.length) := by simp only [szD, H.at_]
 refine b2T G H _ nx e2.symm fun B => ?_
 have hB := k B
 rw [e1] at hB
 have h1 := x6 G 300 (.c c) [] hB
 intro a A hs
 obtain ⟨e, a', A', h2, h3⟩ := h1 a A hs
 exact ⟨e, a', A', h2, h3 fn H.at_⟩
def tgN : List (Nat × Nat) -> Nat -> Nat
 | [], n => n
 | (a, b) :: l, n => match Nat.beq a n with
  | true => b
  | false => tgN l n
def tg1 (l : List (Nat × Nat)) : C1 -> C1
 | .p g q i w k => .p (tgN l g) q i w k
 | .s g q w o n c z => .s (tgN l g) q w o n c z
 | x => x
theorem a4v {l : List (Nat × Nat)} {c : C1} : (tg1 l c).den = c.den := by cases c <;> rfl
theorem a4u {l : List (Nat × Nat)} {cs : List C1} : (cs.map (tg1 l)).map C1.den = cs.map C1.den := by
 rw [List.map_map]; exact List.map_congr_left fun c _ => a4v
def tgV (l : List (Nat × Nat)) : SV -> SV
 | .o c => .o (tg1 l c)
 | .a cs => .a (cs.map (tg1 l))
 | .t cs => .t (cs.map fun p => (p.1, p.2.map (tg1 l)))
 | .kk d b e ag cs => .kk d b e ag (cs.map (tg1 l))
theorem a78 {l : List (Nat × Nat)} (g : Bool) (cs : List C1) : Y6 (g, cs.map (tg1 l)) = Y6 (g, cs) := by
 cases g with
 | true => simp only [Y6, a4u]
 | false => cases cs with
  | nil => rfl
  | cons c cs => simp only [Y6, List.map_cons, List.headD_cons, a4v]
theorem a17 {l : List (Nat × Nat)} {v : SV} : (tgV l v).den = v.den := by
 cases v with
 | o c => exact a4v
 | a cs => simp only [tgV, SV.den, a4u]
 | t cs =>
  simp only [tgV, SV.den, List.map_map]
  congr 2
  exact List.map_congr_left fun p _ => a78 p.1 p.2
 | kk d b e ag cs => simp only [tgV, SV.den, a78]
def tgC (l : List (Nat × Nat)) : Ch -> Ch
 | .blk g q cs t m => .blk (tgN l g) q (cs.map (tg1 l)) t m
 | .vec g q w en d xs t m z => .vec (tgN l g) q w en d xs t m z
 | .as I => .as I
theorem b4y {l : List (Nat × Nat)} {c : Ch} : (tgC l c).den = c.den := by
 cases c with
 | blk g q cs t m => simp only [tgC, Ch.den, d0, a4u]
 | _ => rfl
theorem a0C {l : List (Nat × Nat)} {cs : List Ch} : (cs.map (tgC l)).map Ch.den = cs.map Ch.den := by
 rw [List.map_map]; exact List.map_congr_left fun c _ => b4y
def caA (p : Pt) (s : St) : Option (FuncId × List Value) := match p with
 | .rg _ ops _ _ i _ => match ops[i]? with
  | some o => match o.op, K2 ops s.env o with
   | .call c, some .yes => match c.callee with
    | .value g => match evX s.env g, b3v s.env c.args.toList with
     | some (.o (.v (.func (.func f) first cap))), some l => some (f, first.toList ++ l ++ cap.toList)
     | _, _ => none
    | _ => none
   | _, _ => none
  | none => none
 | _ => none
def dsD (p : Pt) : Option Tmp := match p with
 | .rg _ ops _ _ i _ => match ops[i]? with
  | some o => o.dst
  | none => none
 | _ => none
def a05 (p : Pt) (s : St) : Bool := match dsD p with
 | some d => Nat.blt d s.sz
 | none => true
def b8i (s : St) (d : Option Tmp) (v : SV) : St := match d with
 | some d => { s with env := (d, v) :: rem s.env d }
 | none => s
def acS (p : Pt) (s : St) (v : SV) (idx : List Nat) (l : List Ch) (nx : Nat) : St := b8i (gst s idx l nx) (dsD p) v
def ixP (p : Pt) : Nat := match p with
 | .rg _ _ _ _ i _ => i
 | _ => 0
def lgP (p : Pt) (s : St) : Lg := match p with
 | .rg _ _ _ _ i lg => lg.snoc i (s, none)
 | _ => lg0
theorem a8W {d : Option Tmp} {s' : St} {v : SV} (h : (match d with | some d => Nat.blt d s'.sz | none => true) = true) : a7z s' d v = some (b8i s' d v) := by
 cases d with
 | none => rfl
 | some d => simp only [a7z, b8i]; simp only at h; rw [h]
theorem act (G : Good P) {R : Type} {φ : R -> Prop} {res : R -> SV} {pre : List Ch} {post : R -> List Ch} {id : Nat} {ops : Array Oper} {d : Bool} {K : List Fr} {i : Nat} {lg : Lg} {o : Oper} (ho : ops[i]? = some o) (hw : K2 ops s.env o = some .yes) (hk : g6 o.op = .acts) (idx : List Nat) (nx : Nat) (hi : okB idx s.hp.length = true) (hh : (z6 idx s.hp).map Ch.den = pre.map Ch.den)
  (run : ∀ a : Act, V0 s.env a -> ∀ F A, (hpA pre).p F A -> ∃ r A' F', (φ r /\ Z5 P (Wd P nO) o a A (res r).den A') /\ (hpA (post r)).p F' A' /\ Mv F A F' A')
  (hd : a05 (.rg id ops d K i lg) s = true) (next : ∀ r, φ r -> GP P nO ro B Q (nxP (.rg id ops d K i lg) (i + 1) (lg.snoc i (s, none))) (acS (.rg id ops d K i lg) s (res r) idx (post r) nx))
  (ed : ∀ r, (enP P (.rg id ops d K i lg) (i + 1) (lg.snoc i (s, none)) (acS (.rg id ops d K i lg) s (res r) idx (post r) nx)).1 = (enP P (.rg id ops d K i lg) (i + 1) (lg.snoc i (s, none)) (acS (.rg id ops d K i lg) s (res r) idx (post r) nx)).2) : GP P nO ro B Q (.rg id ops d K i lg) s := by
 refine a4o (res := res) (post := post) ho hw hk idx nx hi hh run fun r hr => ?_
 have hdd : dsD (.rg id ops d K i lg) = o.dst := by simp only [dsD, ho]
 refine ⟨acS (.rg id ops d K i lg) s (res r) idx (post r) nx, ?_, a01 G (ed r) (next r hr)⟩
 unfold aft acS
 rw [hdd]
 refine a8W ?_
 unfold a05 at hd
 rw [hdd] at hd
 exact hd
theorem cl [G : Good P] {f : FuncId} {args : List SV} {pre : List Ch} {R : Type} {φ : R -> Prop} {res : R -> SV} {post : R -> List Ch} (C : Ctr P nO f args pre R φ res post) (idx : List Nat) (tg : List (Nat × Nat)) (nx : Nat)
  (next : ∀ r, φ r -> GP P nO ro B Q (nxP p (ixP p + 1) (lgP p s)) (acS p s (tgV tg (res r)) idx ((post r).map (tgC tg)) nx))
  (chk : (caA p s, isF P f, okB idx s.hp.length, a05 p s, (z6 idx s.hp).map Ch.den) = (some (f, args.map SV.den), true, true, true, pre.map Ch.den) := by kernel_rfl)
  (ed : ∀ r, (enP P p (ixP p + 1) (lgP p s) (acS p s (tgV tg (res r)) idx ((post r).map (tgC tg)) nx)).1 = (enP P p (ixP p + 1) (lgP p s) (acS p s (tgV tg (res r)) idx ((post r).map (tgC tg)) nx)).2 := by intro r; kernel_rfl) : GP P nO ro B Q p s := by
 simp only [Prod.mk.injEq] at chk
 obtain ⟨c1, c2, c3, c4, c5⟩ := chk
 unfold caA at c1
 split at c1
 case h_2 => cases c1
 rename_i id ops d K i lg
 split at c1
 case h_2 => cases c1
 rename_i o ho
 split at c1
 case h_2 => cases c1
 rename_i c hop hw
 split at c1
 case h_2 => cases c1
 rename_i g hc
 split at c1
 case h_2 => cases c1
 rename_i f' first cap l hg hl
 simp only [Option.some.injEq, Prod.mk.injEq] at c1
 obtain ⟨rfl, hx⟩ := c1
 obtain ⟨fn, code, H⟩ := a3I c2
 refine act G (res := fun r => tgV tg (res r)) (post := fun r => (post r).map (tgC tg)) ho hw (by rw [hop]; unfold g6; simp only [hc]) idx nx c3 c5 (fun a ha F A hF => ?_) c4 next ed
 obtain ⟨r, A', F', h1, h2, h3, h4⟩ := C F A hF
 refine ⟨r, A', F', ⟨h1, ?_⟩, by rw [hpA, a0C]; exact h3, h4⟩
 rw [a17]
 refine x7 H (p7 ha hg) (G4 ha hl) ?_ h2 hop hc
 apply Array.ext'
 simpa using hx
def b81 (p : Pt) : Bool := match p with
 | .bad => false
 | _ => true
theorem gh {R : Type} {φ : R -> Prop} {pre : List Ch} {post : R -> List Ch} (E : GE pre R φ post) (idx : List Nat) (tg : List (Nat × Nat)) (nx : Nat) (next : ∀ r, φ r -> GP P nO ro B Q p (gst s idx ((post r).map (tgC tg)) nx))
  (chk : (b81 p, okB idx s.hp.length, (z6 idx s.hp).map Ch.den) = (true, true, pre.map Ch.den) := by kernel_rfl) : GP P nO ro B Q p s := by
 simp only [Prod.mk.injEq] at chk
 obtain ⟨c0, c1, c2⟩ := chk
 have E' : GE pre R φ fun r => (post r).map (tgC tg) := fun F A h => by
  obtain ⟨r, F', h1, h2, h3⟩ := E F A h
  exact ⟨r, F', h1, by rw [hpA, a0C]; exact h2, h3⟩
 cases p with
 | rg id ops d K i lg => exact b74 idx nx E' c1 c2 next
 | cd x a b K => exact b78 idx nx E' c1 c2 next
 | lo c K => exact b78 idx nx E' c1 c2 next
 | rf g ps as bd K => exact b78 idx nx E' c1 c2 next
 | ag N K => exact b8S (Q := fun _ a A => N a A) (e := .normal) idx nx E' c1 c2 next
 | fi e => exact b8S (Q := Q) (e := e) idx nx E' c1 c2 next
 | bad => cases c0
theorem sv (t : Nat) {v v' : SV} (hd : v.den = v'.den) (next : GP P nO ro B Q p { s with env := (t, v') :: rem s.env t }) (hv : W9 s.env t = some v := by kernel_rfl) : GP P nO ro B Q p s := by
 have e := b5H hv hd
 cases p with
 | rg id ops d K i lg => exact b6v e next
 | cd x a b K => exact b4u e next
 | lo c K => exact b4u e next
 | rf g ps as bd K => exact b4u e next
 | ag N K => exact b7e e next
 | fi x => exact b7e e next
 | bad => exact next
end
end Go.Abs
namespace Go.Abs
theorem nz (k : Nat) : (0 : Int) <= (k : Int) := Int.natCast_nonneg k
section
variable {a b c d e f g h i : Prop}
theorem o1 (x : a) : a /\ True := ⟨x, trivial⟩
theorem o2 (x : a) (y : b) : a /\ b /\ True := ⟨x, y, trivial⟩
theorem o3 (x : a) (y : b) (z : c) : a /\ b /\ c /\ True := ⟨x, y, z, trivial⟩
theorem o4 (x : a) (y : b) (z : c) (w : d) : a /\ b /\ c /\ d /\ True := ⟨x, y, z, w, trivial⟩
theorem o5 (x : a) (y : b) (z : c) (w : d) (u : e) : a /\ b /\ c /\ d /\ e /\ True := ⟨x, y, z, w, u, trivial⟩
theorem o6 (x : a) (y : b) (z : c) (w : d) (u : e) (v : f) : a /\ b /\ c /\ d /\ e /\ f /\ True := ⟨x, y, z, w, u, v, trivial⟩
theorem oc (x : a) (y : b) (z : c) (w : d) (u : e) (v : f) (t : g) : a /\ b /\ c /\ d /\ e /\ f /\ g := ⟨x, y, z, w, u, v, t⟩
end
theorem hh (e : Bool) : e = true -> e = true := fun h => h
theorem ht (e : Bool) : e = true -> True := fun _ => trivial
theorem h1 {e : Bool} {φ : Prop} (h : e = true -> φ) : e = true -> φ /\ True := fun he => ⟨h he, trivial⟩
structure En (α : Type) where
 w : Nat
 f : α -> List C1
 d : α
def vc {α : Type} (E : En α) (g q : Nat) (xs : List α) (t : TypeId) (m : Md) (z : Bool) : Ch := .vec g q E.w E.f E.d xs t m z
def a7q {X : Type} (φ : X -> Prop) (L : X -> List Ch) : As := ⟨fun F A => ∃ x, φ x /\ (hpA (L x)).p F A, fun ⟨_, _, h⟩ hb => (hpA _).lt h hb, fun ⟨x, h1, h2⟩ hk => ⟨x, h1, (hpA _).loc h2 hk⟩⟩
theorem f9 {X : Type} {φ : X -> Prop} {L : X -> List Ch} : GE [.as (a7q φ L)] X φ L := fun F A h => by
 obtain ⟨x, h1, h2⟩ := As.unE h
 exact ⟨x, F, h1, h2, .refl⟩
theorem d5 {X : Type} {φ : X -> Prop} {L : X -> List Ch} (x : X) (h : φ x) : GE (L x) Unit (fun _ => True) (fun _ => [.as (a7q φ L)]) := fun F A hF => ⟨(), F, trivial, As.addE ⟨x, h, hF⟩, .refl⟩
theorem b3t {q : Nat} {cs : Array Value} {t : TypeId} {m : Md} {F : Ft} {A : World} (h : (a7r q cs t m).p F A) : ∃ F', (a7r q cs t .imm).p F' A /\ Mv F A F' A /\ ∀ b, F'.own b ∨ F'.imm b ↔ F.own b ∨ F.imm b := by
 obtain ⟨h1, h2, fz, h3, h4⟩ := h
 refine ⟨⟨fun _ => False, fun b => b = q⟩, ⟨fun b => by simp [Md.mine], fun b => by simp [Md.mine], fz, b2R h3, h4⟩, ⟨Nat.le_refl _, fun _ _ _ => rfl, fun b hb => hb.elim, fun b hb => ?_⟩, fun b => ?_⟩
 ·cases hm : m.mine with
  | true => exact .inl ((h1 b).2 ⟨hm, hb⟩)
  | false => exact .inr (.inl ((h2 b).2 ⟨hm, hb⟩))
 ·cases hm : m.mine with
  | true => simp [h1, h2, hm]
  | false => simp [h1, h2, hm]
theorem k7 {α : Type} {E : En α} {g q : Nat} {xs : List α} {t : TypeId} {m : Md} {z : Bool} : GE [vc E g q xs t m z] Unit (fun _ => True) (fun _ => [vc E g q xs t .imm z]) := fun F A h => by
 have h := As.unE h
 cases z with
 | true => exact ⟨(), F, trivial, As.addE h, .refl⟩
 | false =>
  obtain ⟨hw, h⟩ := h
  obtain ⟨F', h1, h2, _⟩ := b3t h
  exact ⟨(), F', trivial, As.addE ⟨hw, h1⟩, h2⟩
theorem b5j {q : Nat} {cs : Array Value} {t : TypeId} {F : Ft} {A : World} (h : (a7r q cs t .imm).p F A) : F.Jn F F := by
 obtain ⟨h1, h2, _⟩ := h
 have hn : ∀ b, ¬ F.own b := fun b hb => by have := (h1 b).1 hb; simp [Md.mine] at this
 exact ⟨fun b => (or_self _).symm ▸ Iff.rfl, fun b => (or_self _).symm ▸ Iff.rfl, fun b h _ => hn b h, fun b h _ => hn b h, fun b _ h => hn b h⟩
theorem a4q {α : Type} {E : En α} {g q : Nat} {xs : List α} {t : TypeId} {z : Bool} : GE [vc E g q xs t .imm z] Unit (fun _ => True) (fun _ => [vc E g q xs t .imm z, vc E g q xs t .imm z]) := fun F _ h => by
 have h := As.unE h
 cases z with
 | true =>
  obtain ⟨rfl, h2⟩ := h
  exact ⟨(), _, trivial, ⟨_, _, ⟨rfl, h2⟩, As.addE ⟨rfl, h2⟩, .no⟩, .refl⟩
 | false =>
  obtain ⟨hw, h⟩ := h
  exact ⟨(), F, trivial, ⟨F, F, ⟨hw, h⟩, As.addE ⟨hw, h⟩, b5j h⟩, .refl⟩
section
variable {P : Program} {nO : Nat} {ro : Option Nat} {B : Ft × World} {Q : Exit -> Act -> World -> Prop} {p : Pt} {s : St}
theorem g0 [G : Good P] (next : ∀ q, GP P nO ro B Q (nxP p (ruP P p s q).j (ruP P p s q).lg) (ruP P p s q).s) (e : ∀ q, True = obP (ruP P p s q).ps := by intro q; kernel_rfl)
  (ed : ∀ q, ((enP P p (ruP P p s q).j (ruP P p s q).lg (ruP P p s q).s).1, (obQ (ruP P p s q).ps).map Prod.fst) = ((enP P p (ruP P p s q).j (ruP P p s q).lg (ruP P p s q).s).2, (obQ (ruP P p s q).ps).map Prod.snd) := by intro q; kernel_rfl) : GP P nO ro B Q p s := go (fun _ => trivial) next e ed
def opA (p : Pt) : Option Oper := match p with
 | .rg _ ops _ _ i _ => ops[i]?
 | _ => none
def wtA (p : Pt) (s : St) : Bool := match p with
 | .rg _ ops _ _ i _ => match ops[i]? with
  | some o => match K2 ops s.env o with
   | some .yes => true
   | _ => false
  | none => false
 | _ => false
def apA (P : Program) (p : Pt) (s : St) (w : Nat) : Option (List Value × TypeId × Bool) := match opA p with
 | some o => match b2A o with
  | some c => match b3v s.env c.args.toList, c.argTypes[0]? with
   | some l, some t => match P.underlying t with
    | some (.slice e) => some (l, e, b6m P c.argTypes e w)
    | _ => none
   | _, _ => none
  | none => none
 | none => none
theorem L4 {o : Oper} (h : opA p = some o) : ∃ id ops d K i lg, p = .rg id ops d K i lg /\ ops[i]? = some o := by
 cases p with
 | rg id ops d K i lg => exact ⟨id, ops, d, K, i, lg, rfl, h⟩
 | _ => cases h
theorem K7 {id : Nat} {ops : Array Oper} {d : Bool} {K : List Fr} {i : Nat} {lg : Lg} {o : Oper} (h : wtA (.rg id ops d K i lg) s = true) (ho : ops[i]? = some o) : K2 ops s.env o = some .yes := by
 unfold wtA at h
 simp only [ho] at h
 split at h
 ·assumption
 ·cases h
theorem apd [G : Good P] {α : Type} (E : En α) (xs ys xs' : List α) (g q : Nat) (m : Md) (z z' : Bool) (cs : Ch) (q2 off n2 c2 : Nat) (z2 : Bool) (g' : Nat) (idx : List Nat) (nx : Nat) (e : TypeId)
  (hne : z = false -> m = .grown -> 0 < xs.length) (hlen : xs.length + ys.length <= 16777216) (hs : Src cs q2 off z2 (b7 E.f ys)) (hz' : z' = (z && ys.isEmpty)) (hxs : xs' = xs ++ ys)
  (next : ∀ q', GP P nO ro B Q (nxP p (ixP p + 1) (lgP p s)) (acS p s (.o (.s g' q' E.w 0 xs'.length xs'.length z')) idx [vc E g' q' xs' e .grown z', cs] nx))
  (hw : ∀ x, (E.f x).length = E.w := by intro _; rfl) (h1 : ∀ x, (E.f x).all C1.one = true := by intro _; rfl) (hm : m = .grown ∨ (m = .own /\ ys ≠ []) := by first | exact .inl rfl | exact .inr ⟨rfl, by simp⟩) (hn : n2 = ys.length := by rfl)
  (chk : (apA P p s E.w, okB idx s.hp.length, wtA p s, a05 p s, (z6 idx s.hp).map Ch.den) = (some ([.slice (cond z none (some ⟨q, 0, none⟩)) xs.length xs.length, .slice (cond z2 none (some ⟨q2, off, none⟩)) n2 c2], e, true), true, true, true, [vc E g q xs e m z, cs].map Ch.den) := by kernel_rfl)
  (ed : ∀ q', (enP P p (ixP p + 1) (lgP p s) (acS p s (.o (.s g' q' E.w 0 xs'.length xs'.length z')) idx [vc E g' q' xs' e .grown z', cs] nx)).1 = (enP P p (ixP p + 1) (lgP p s) (acS p s (.o (.s g' q' E.w 0 xs'.length xs'.length z')) idx [vc E g' q' xs' e .grown z', cs] nx)).2 := by intro q'; kernel_rfl) : GP P nO ro B Q p s := by
 simp only [Prod.mk.injEq] at chk
 obtain ⟨c1, c2', c3, c4, c5⟩ := chk
 unfold apA at c1
 split at c1
 case h_2 => cases c1
 rename_i o hop
 obtain ⟨id, ops, d, K, i, lg, rfl, ho⟩ := L4 hop
 split at c1
 case h_2 => cases c1
 rename_i c hc
 split at c1
 case h_2 => cases c1
 rename_i l t hl ht
 split at c1
 case h_2 => cases c1
 rename_i e' hu
 simp only [Option.some.injEq, Prod.mk.injEq] at c1
 obtain ⟨rfl, rfl, hT⟩ := c1
 have hwt := K7 c3 ho
 refine b6x (en := E.f) (d := E.d) g' z' xs' idx nx ho hc hwt hl hw h1 hT hm hne hs hn hlen hz' hxs c2' c5 fun q' => ⟨_, ?_, a01 G (ed q') (next q')⟩
 have hdd : dsD (.rg id ops d K i lg) = o.dst := by simp only [dsD, ho]
 unfold aft acS
 rw [hdd]
 refine a8W ?_
 unfold a05 at c4
 rw [hdd] at c4
 exact c4
def stA (P : Program) (p : Pt) (s : St) : Option (SV × Option (List C1) × Option Nat) := match opA p with
 | some o => match o.op with
  | .store t x y => match evX s.env x, evX s.env y with
   | some v, some u => some (v, u.cells, (tsz P t).map Prod.fst)
   | _, _ => none
  | _ => none
 | none => none
theorem vst [G : Good P] {α : Type} (E : En α) (xs : List α) (x' : α) (xs' : List α) (g0 g q j k : Nat) (te : TypeId) (m : Md) (z : Bool) (l : List C1) (idx : List Nat)
  (hj : j < xs.length) (hz : z = false) (hxs : xs' = xs.set j x') (hk : k + l.length <= E.w) (hone : l.all C1.one = true)
  (next : GP P nO ro B Q (nxP p (ixP p + 1) (lgP p s)) (acS p s (.o (.v undef)) idx [vc E g q xs' te m z] s.nx))
  (hx' : (E.f x').map C1.den = (a3u (E.f (xs.getD j E.d)) k l).map C1.den := by rfl) (hw : ∀ x, (E.f x).length = E.w := by intro _; rfl) (hm : m.mine = true := by rfl)
  (chk : (stA P p s, okB idx s.hp.length, wtA p s, a05 p s, (z6 idx s.hp).map Ch.den) = (some (.o (.p g0 q j E.w k), some l, some l.length), true, true, true, [vc E g q xs te m z].map Ch.den) := by kernel_rfl)
  (ed : (enP P p (ixP p + 1) (lgP p s) (acS p s (.o (.v undef)) idx [vc E g q xs' te m z] s.nx)).1 = (enP P p (ixP p + 1) (lgP p s) (acS p s (.o (.v undef)) idx [vc E g q xs' te m z] s.nx)).2 := by kernel_rfl) : GP P nO ro B Q p s := by
 simp only [Prod.mk.injEq] at chk
 obtain ⟨c1, c2', c3, c4, c5⟩ := chk
 unfold stA at c1
 split at c1
 case h_2 => cases c1
 rename_i o hop
 obtain ⟨id, ops, d, K, i, lg, rfl, ho⟩ := L4 hop
 split at c1
 case h_2 => cases c1
 rename_i t x y hst
 split at c1
 case h_2 => cases c1
 rename_i v u hx hy
 simp only [Option.some.injEq, Prod.mk.injEq] at c1
 obtain ⟨rfl, hu, ht⟩ := c1
 rw [Option.map_eq_some_iff] at ht
 obtain ⟨⟨n, ag⟩, ht, hl'⟩ := ht
 have hl' : n = l.length := hl'
 subst hl'
 have hwt := K7 c3 ho
 refine b6u (en := E.f) (d := E.d) x' idx ho hst hwt hm hx hy hu hone ht rfl hw hj hk hx' c2' c5 hz xs' hxs ⟨_, ?_, a01 G ed next⟩
 have hdd : dsD (.rg id ops d K i lg) = o.dst := by simp only [dsD, ho]
 unfold aft acS
 rw [hdd]
 refine a8W ?_
 unfold a05 at c4
 rw [hdd] at c4
 exact c4
end
end Go.Abs
namespace Go.Abs
section
variable {P : Program} {nO : Nat} {ro : Option Nat} {B : Ft × World} {Q : Exit -> Act -> World -> Prop} {p : Pt} {s : St}
def b7J (ρ : Operand -> Option SV) : List Operand -> Option (List SV)
 | [] => some []
 | x :: l => match ρ x, b7J ρ l with
  | some v, some vs => some (v :: vs)
  | _, _ => none
def caM (p : Pt) (s : St) : Option (Bool × FuncId × List Value × List Ob × Option (Nat × Bool)) := match p with
 | .rg _ ops _ _ i _ => match ops[i]? with
  | some o => match o.op, K2 ops s.env o with
   | .call c, some (.may e) => match c.callee with
    | .value g => match evX s.env g, b7J (Z6 s.env (L3 o.op)) c.args.toList with
     | some (.o (.v (.func (.func f) first cap))), some l => some (e, f, first.toList ++ l.map SV.den ++ cap.toList, O7 (b6j ops o) e s.env (L3 o.op), b6j ops o)
     | _, _ => none
    | _ => none
   | _, _ => none
  | none => none
 | _ => none
theorem a0L {ρ : Operand -> Option SV} {σ : Operand -> Value} (h : v8 ρ σ) : ∀ {l : List Operand} {vs : List SV}, b7J ρ l = some vs -> l.map σ = vs.map SV.den
 | [], vs, e => by cases e; rfl
 | x :: l, vs, e => by
  simp only [b7J] at e
  split at e
  case h_2 => cases e
  rename_i v w hx hl
  cases e
  simp only [List.map_cons, h x v hx, a0L h hl]
def obM (x : Option (Bool × FuncId × List Value × List Ob × Option (Nat × Bool))) : List Ob := match x with
 | some (_, _, _, l, _) => l
 | none => [.p False]
def kkR (p : Pt) (s : St) (res : SV) : SV := match caM p s with
 | some (e, _, _, _, k) => match a49 k e res with
  | some v => v
  | none => res
 | none => res
def kkO (p : Pt) (s : St) (res : SV) : Bool := match caM p s with
 | some (e, _, _, _, k) => match a49 k e res with
  | some _ => true
  | none => false
 | none => false
def kkE (p : Pt) (s : St) : Bool := match caM p s with
 | some (e, _, _, _, _) => e
 | none => false
theorem b89 [G : Good P] {f : FuncId} {args : List SV} {pre : List Ch} {res : SV} {T : Prop} {e : Bool} (C : e = true -> Ctr P nO f args pre Unit (fun _ => True) (fun _ => res) (fun _ => pre)) (idx : List Nat) (pf : T)
  (next : GP P nO ro B Q (nxP p (ixP p + 1) (lgP p s)) (acS p s (kkR p s res) idx pre s.nx))
  (chk : ((caM p s).map (fun x => (x.1, x.2.1, x.2.2.1)), isF P f, okB idx s.hp.length, a05 p s, kkO p s res, (z6 idx s.hp).map Ch.den, (obQ (obM (caM p s))).map Prod.fst) = (some (e, f, args.map SV.den), true, true, true, true, pre.map Ch.den, (obQ (obM (caM p s))).map Prod.snd) := by kernel_rfl) (hT : T = obP (obM (caM p s)) := by kernel_rfl)
  (ed : (enP P p (ixP p + 1) (lgP p s) (acS p s (kkR p s res) idx pre s.nx)).1 = (enP P p (ixP p + 1) (lgP p s) (acS p s (kkR p s res) idx pre s.nx)).2 := by kernel_rfl) : GP P nO ro B Q p s := by
 simp only [Prod.mk.injEq] at chk
 obtain ⟨c1, c2, c3, c4, c6, c5, c7⟩ := chk
 have hps := O9 (hT.mp pf) c7
 obtain ⟨res', hres, hkk⟩ : ∃ res', (caM p s).bind (fun x => a49 x.2.2.2.2 x.1 res) = some res' /\ kkR p s res = res' := by
  unfold kkO at c6
  unfold kkR
  split at c6
  ·rename_i e1 a1 a2 a3 k1 hca
   split at c6
   ·rename_i v hv
    exact ⟨v, by rw [hca]; exact hv, rfl⟩
   ·cases c6
  ·cases c6
 rw [hkk] at next ed
 rw [Option.map_eq_some_iff] at c1
 obtain ⟨⟨e1, f1, as1, ps1, ky⟩, hca, c1⟩ := c1
 rw [hca] at hps hres
 simp only [Prod.mk.injEq] at c1
 obtain ⟨rfl, rfl, c1⟩ := c1
 simp only [obM, Option.bind_some] at hps hres
 unfold caM at hca
 split at hca
 case h_2 => cases hca
 rename_i id ops d K i lg
 split at hca
 case h_2 => cases hca
 rename_i o ho
 split at hca
 case h_2 => cases hca
 rename_i c e2 hop hw
 split at hca
 case h_2 => cases hca
 rename_i g hc
 split at hca
 case h_2 => cases hca
 rename_i f2 first cap l hg hl
 simp only [Option.some.injEq, Prod.mk.injEq] at hca
 obtain ⟨rfl, rfl, rfl, rfl, rfl⟩ := hca
 obtain ⟨fn, code, H⟩ := a3I c2
 refine (fun T h1 h2 h3 => ?_ : WR P nO ops ro id d B (kQ P nO ro Q K) i lg s)
 have hdd : dsD (.rg id ops d K i lg) = o.dst := by simp only [dsD, ho]
 have hput : a7z (gst s idx pre s.nx) o.dst res' = some (acS (.rg id ops d K i lg) s res' idx pre s.nx) := by
  unfold acS
  rw [hdd]
  refine a8W ?_
  unfold a05 at c4
  rw [hdd] at c4
  exact c4
 have hd := a08 hres
 have hwant : Region.wanted o (yielded ops (T.as i).tmps) = e2 := I5 h3 hw
 have key : ∃ (u : Value) (A1 : World), b7O P nO ops (T.as i) (T.ws i) u ((T.as i).put o.dst u) A1 s none o /\ Sat B (acS (.rg id ops d K i lg) s res' idx pre s.nx) ((T.as i).put o.dst u) A1 := by
  cases he : e2 with
  | true =>
   rw [he] at hwant hd hps
   obtain ⟨r, A', ⟨_, hrun⟩, hS⟩ := a0H (X := fun (_ : Unit) A' => True /\ Z5 P (Wd P nO) o (T.as i) (T.ws i) res.den A') (post := fun _ => pre) (nx := s.nx) c3 c5 (fun F hF => by
    obtain ⟨r, A', F', k1, k2, k3, k4⟩ := C he F _ hF
    refine ⟨r, A', F', ⟨trivial, ?_⟩, k3, k4⟩
    have hρ := a0E (ts := L3 o.op) h3.1 hps rfl
    refine x7 H (p7 h3.1 hg) (a0L hρ hl) ?_ k2 hop hc
    apply Array.ext'
    rw [<- c1]; simp) h3
   refine ⟨res.den, A', ⟨rfl, ?_⟩, ?_⟩
   ·rw [if_pos hwant]
    refine ⟨hrun, ?_⟩
    rw [hop]; unfold g6; simp only [hc]
   ·exact (H2 (s := gst s idx pre s.nx) (hp := (gst s idx pre s.nx).hp) (nx := s.nx) hS hS.2.2.2 hput (by rw [hd]; rfl)).1
  | false =>
   rw [he] at hwant hd
   have hS : Sat B (gst s idx pre s.nx) (T.as i) (T.ws i) := by
    obtain ⟨g1, g2, g3, F, hF, hM⟩ := h3
    have := y8 c3 hF
    rw [hpA, c5] at this
    exact ⟨g1, g2, g3, F, a0b.2 this, hM⟩
   refine ⟨undef, T.ws i, ⟨rfl, ?_⟩, ?_⟩
   ·rw [if_neg (by rw [hwant]; decide)]; exact ⟨rfl, rfl⟩
   ·exact (H2 (s := gst s idx pre s.nx) (hp := (gst s idx pre s.nx).hp) (nx := s.nx) hS hS.2.2.2 hput (by rw [hd]; rfl)).1
 obtain ⟨u, A1, h4, h5⟩ := key
 obtain ⟨T1, e1, e2', g1, g2, g3, _⟩ := a0k ho h1 h2 h3 h4 h5
 rw [<- e1, <- e2']
 exact a01 G ed next T1 g1 g2 g3
theorem clm [G : Good P] {f : FuncId} {args : List SV} {pre : List Ch} {res : SV} {T : Prop} (C : Ctr P nO f args pre Unit (fun _ => True) (fun _ => res) (fun _ => pre)) (idx : List Nat) (pf : T)
  (next : GP P nO ro B Q (nxP p (ixP p + 1) (lgP p s)) (acS p s (kkR p s res) idx pre s.nx))
  (chk : ((caM p s).map (fun x => (x.1, x.2.1, x.2.2.1)), isF P f, okB idx s.hp.length, a05 p s, kkO p s res, (z6 idx s.hp).map Ch.den, (obQ (obM (caM p s))).map Prod.fst) = (some (kkE p s, f, args.map SV.den), true, true, true, true, pre.map Ch.den, (obQ (obM (caM p s))).map Prod.snd) := by kernel_rfl) (hT : T = obP (obM (caM p s)) := by kernel_rfl)
  (ed : (enP P p (ixP p + 1) (lgP p s) (acS p s (kkR p s res) idx pre s.nx)).1 = (enP P p (ixP p + 1) (lgP p s) (acS p s (kkR p s res) idx pre s.nx)).2 := by kernel_rfl) : GP P nO ro B Q p s := b89 (fun _ => C) idx pf next chk hT ed
end
end Go.Abs
open List (all_eq_true length_append getElem?_toArray append_assoc drop_eq_getElem_cons take_append_drop drop_drop length_take length_drop nil_append getElem?_cons_zero length_replicate)
namespace Go.Abs
def spl {α : Type} (xs : List α) (od : Nat) (ys : List α) : List α := xs.take od ++ ys ++ xs.drop (od + ys.length)
theorem P2 {α : Type} {xs ys : List α} {od : Nat} (h : od + ys.length <= xs.length) : (spl xs od ys).length = xs.length := by
 simp only [spl, length_append, length_take, length_drop]; omega
section
variable {P : Program} {nO : Nat} {ro : Option Nat} {B : Ft × World} {Q : Exit -> Act -> World -> Prop} {p : Pt} {s : St} {α : Type}
theorem b3Z {E : En α} (h1 : ∀ x, (E.f x).all C1.one = true) (ys : List α) : (b7 E.f ys).toList.all isOne = true := by
 unfold b7
 simp only [List.all_flatMap, List.all_map, all_eq_true, Function.comp_apply]
 intro x _ c hc
 exact C1.one_den ((List.all_eq_true.1 (h1 x)) c hc)
theorem a8k {E : En α} {xs ys : List α} {g q od : Nat} {te : TypeId} {m : Md} {J : List Ch} {F : Ft} {A : World} (hm : m.mine = true) (h1 : ∀ x, (E.f x).all C1.one = true) (hod : od + ys.length <= xs.length) (hF : (hpA (vc E g q xs te m false :: J)).p F A) :
  ∃ A' F', (storeCells ⟨q, od * E.w, none⟩ (b7 E.f ys).toList 0).run P A = .ok () A' /\ (hpA (vc E g q (spl xs od ys) te m false :: J)).p F' A' /\ Mv F A F' A' := by
 obtain ⟨F1, F2, ⟨hw, hb⟩, h2, j0⟩ := hF
 obtain ⟨o1, o2, fz, hfz, hB⟩ := hb
 have hs : xs = xs.take od ++ (xs.drop od).take ys.length ++ xs.drop (od + ys.length) := by
  rw [<- drop_drop, append_assoc, take_append_drop, take_append_drop]
 have hB' : A.heap[q]? = some (.cells ((b7 E.f (xs.take od)).toList ++ (b7 E.f ((xs.drop od).take ys.length)).toList ++ (b7 E.f (xs.drop (od + ys.length))).toList).toArray te fz) := by
  rw [hB]
  congr 2
  apply Array.ext'
  conv => lhs; rw [hs]
  simp [k8]
 obtain ⟨A', r, h5, h6, h7⟩ := N0 (P := P) (new := (b7 E.f ys).toList) (off := od * E.w) (i := 0) (a2r hm hfz) (b3Z h1 ys) hB' (by rw [H7 hw, length_take, Nat.min_eq_left (by omega)]; rfl) (by rw [H7 hw, H7 hw, length_take, length_drop, Nat.min_eq_left (by omega)])
 obtain ⟨g1, g2⟩ := a0t (cs' := b7 E.f (spl xs od ys)) hm ⟨o1, o2, fz, hfz, hB⟩ h7 h6 (fun fz' hB2 => by
  rw [hB] at hB2; cases hB2
  rw [h5]
  congr 2
  apply Array.ext'
  simp [spl, k8])
 obtain ⟨F', g3, g4⟩ := As.frame (K := (vc E g q (spl xs od ys) te m false).den) j0 h2 ⟨hw, g1⟩ g2
 exact ⟨A', F', r, g3, g4⟩
theorem apr [G : Good P] (E : En α) (xs ys xs' : List α) (g q k : Nat) (te : TypeId) (m : Md) (z : Bool) (J : List Ch) (q2 off n2 c2 : Nat) (z2 : Bool) (idx : List Nat) (e : TypeId) (cc : Nat) (hcc : cc = xs.length) (hlen : k + ys.length <= xs.length) (hs : ∀ F A, (hpA (vc E g q xs te m z :: J)).p F A -> b08 A q2 off z2 (b7 E.f ys)) (hxs : xs' = spl xs k ys)
  (next : GP P nO ro B Q (nxP p (ixP p + 1) (lgP p s)) (acS p s (.o (.s g q E.w 0 (k + ys.length) cc z)) idx (vc E g q xs' te m z :: J) s.nx))
  (hw : ∀ x, (E.f x).length = E.w := by intro _; rfl) (h1 : ∀ x, (E.f x).all C1.one = true := by intro _; rfl) (hm : m.mine = true := by rfl) (hn : n2 = ys.length := by rfl)
  (chk : (apA P p s E.w, okB idx s.hp.length, wtA p s, a05 p s, (z6 idx s.hp).map Ch.den) = (some ([.slice (cond z none (some ⟨q, 0, none⟩)) k cc, .slice (cond z2 none (some ⟨q2, off, none⟩)) n2 c2], e, true), true, true, true, (vc E g q xs te m z :: J).map Ch.den) := by kernel_rfl)
  (ed : (enP P p (ixP p + 1) (lgP p s) (acS p s (.o (.s g q E.w 0 (k + ys.length) cc z)) idx (vc E g q xs' te m z :: J) s.nx)).1 = (enP P p (ixP p + 1) (lgP p s) (acS p s (.o (.s g q E.w 0 (k + ys.length) cc z)) idx (vc E g q xs' te m z :: J) s.nx)).2 := by kernel_rfl) : GP P nO ro B Q p s := by
 simp only [Prod.mk.injEq] at chk
 obtain ⟨c1, c2', c3, c4, c5⟩ := chk
 unfold apA at c1
 split at c1
 case h_2 => cases c1
 rename_i o hop
 obtain ⟨id, ops, d, K, i, lg, rfl, ho⟩ := L4 hop
 split at c1
 case h_2 => cases c1
 rename_i c hc
 split at c1
 case h_2 => cases c1
 rename_i l t hl ht
 split at c1
 case h_2 => cases c1
 rename_i e' hu
 simp only [Option.some.injEq, Prod.mk.injEq] at c1
 obtain ⟨rfl, rfl, hT⟩ := c1
 have hwt := K7 c3 ho
 obtain ⟨h2, h3⟩ := a2z hc
 subst hxs
 subst hn
 refine act (R := Unit) (φ := fun _ => True) (res := fun _ => .o (.s g q E.w 0 (k + ys.length) cc z)) (post := fun _ => vc E g q (spl xs k ys) te m z :: J) G ho hwt (by rw [h2]; unfold g6; simp only [h3]) idx s.nx c2' c5 (fun a hE F A hF => ?_) c4 (fun _ _ => next) (fun _ => ed)
 obtain ⟨ie, zv, T⟩ := a5i hT
 have hsrc := hs _ _ hF
 have hsz : (b7 E.f ys).size = ys.length * ie.size := by rw [f5 hw, T.size]
 have hnew : (appSrc (d8 P c.argTypes) e' ie.size ys.length (.slice (cond z2 none (some ⟨q2, off, none⟩)) ys.length c2)).run P A = .ok (b7 E.f ys) A := by
  rw [T.nz]
  simp only [appSrc, Bool.not_false, if_true]
  exact R0 hsrc hsz
 have hnx : a0u (d8 P c.argTypes) ie.bytes (.slice (cond z2 none (some ⟨q2, off, none⟩)) ys.length c2) = some ys.length := by rw [T.nz]; rfl
 have hargs : c.args.map a.eval = #[.slice (cond z none (some ⟨q, 0, none⟩)) k cc, .slice (cond z2 none (some ⟨q2, off, none⟩)) ys.length c2] := by
  have := G4 hE hl
  apply Array.ext'
  rw [Array.toList_map]; exact this
 have hd : (SV.o (.s g q E.w 0 (k + ys.length) cc z)).den = .slice (cond z none (some ⟨q, 0, none⟩)) (k + ys.length) cc := by
  show Value.slice (cond z none (some ⟨q, 0 * E.w, none⟩)) _ _ = _
  rw [Nat.zero_mul]
 cases z with
 | false =>
  obtain ⟨A', F', r, k1, k2⟩ := a8k (P := P) hm h1 hlen hF
  refine ⟨(), A', F', ⟨trivial, ?_⟩, k1, k2⟩
  rw [hd]
  refine ⟨_, _, .inr (.inr (.inl ⟨c, _, h2, h3, rfl, ?_⟩)), rfl, rfl⟩
  rw [hargs]
  refine ⟨e', ie, zv, some ⟨q, 0, none⟩, k, cc, _, ys.length, T.at_, rfl, hnx, .inl ⟨by omega, b7 E.f ys, hnew, ?_, rfl⟩⟩
  have ea : (⟨q, 0, none⟩ : Addr).add (k * ie.size) = ⟨q, k * E.w, none⟩ := by rw [Addr.add_mk, T.size, Nat.zero_add]
  simp only [ea]
  exact r
 | true =>
  have hx : xs = [] := by
   obtain ⟨F1, F2, ⟨_, hx⟩, _⟩ := hF
   exact hx
  subst hx
  have hy : ys = [] := by cases ys; rfl; simp at hlen
  subst hy
  refine ⟨(), A, F, ⟨trivial, ?_⟩, by simpa [spl] using hF, .refl⟩
  rw [hd]
  refine ⟨_, _, .inr (.inr (.inl ⟨c, _, h2, h3, rfl, ?_⟩)), rfl, rfl⟩
  rw [hargs]
  refine ⟨e', ie, zv, none, k, cc, _, 0, T.at_, rfl, hnx, .inl ⟨by rw [hcc]; exact hlen, b7 E.f [], hnew, rfl, rfl⟩⟩
def biA (p : Pt) (s : St) (b : Call -> Bool) : Option (List Value × Option TypeId) := match opA p with
 | some o => match o.op with
  | .call c => match b c with
   | true => match b3v s.env c.args.toList with
    | some l => some (l, c.argTypes[0]?)
    | none => none
   | false => none
  | _ => none
 | none => none
theorem b4h {b : Call -> Bool} {l : List Value} {t : Option TypeId} (h : biA p s b = some (l, t)) : ∃ o c, opA p = some o /\ o.op = .call c /\ b c = true /\ b3v s.env c.args.toList = some l /\ c.argTypes[0]? = t := by
 unfold biA at h
 split at h
 case h_2 => cases h
 rename_i o ho
 split at h
 case h_2 => cases h
 rename_i c hc
 split at h
 case h_2 => cases h
 rename_i hb
 split at h
 case h_2 => cases h
 rename_i l' hl
 cases h
 exact ⟨o, c, ho, hc, hb, hl, rfl⟩
def szA (P : Program) (t : Option TypeId) : Option Nat := match t with
 | some t => match P.underlying t with
  | some (.slice e) => (tsz P e).map Prod.fst
  | _ => none
 | none => none
def zrA (P : Program) (t : Option TypeId) : Option (TypeId × Array Value × Bool × Nat) := match t with
 | some t => match P.underlying t with
  | some (.slice e) => match P.info? e with
   | some ie => match ie.zero with
    | some z => some (e, z.cells, Nat.ble ie.bytes 65536 && Nat.beq z.cells.size ie.size, ie.size)
    | none => none
   | none => none
  | _ => none
 | none => none
theorem b3I {t : Option TypeId} {e : TypeId} {cs : Array Value} {n : Nat} (h : zrA P t = some (e, cs, true, n)) : ∃ t' ie z, t = some t' /\ P.underlying t' = some (.slice e) /\ P.info? e = some ie /\ ie.zero = some z /\ z.cells = cs /\ ie.bytes <= 65536 /\ z.cells.size = ie.size /\ ie.size = n := by
 unfold zrA at h
 split at h
 case h_2 => cases h
 rename_i t'
 split at h
 case h_2 => cases h
 rename_i e' hu
 split at h
 case h_2 => cases h
 rename_i ie hi
 split at h
 case h_2 => cases h
 rename_i z hz
 simp only [Option.some.injEq, Prod.mk.injEq, Bool.and_eq_true] at h
 obtain ⟨rfl, h2, ⟨h3, h4⟩, h5⟩ := h
 exact ⟨t', ie, z, rfl, hu, hi, hz, h2, Nat.le_of_ble_eq_true h3, Nat.eq_of_beq_eq_true h4, h5⟩
def b86 (c : Call) : Bool := match c.callee with
 | .builtin .copy => true
 | _ => false
def b2z (c : Call) : Bool := match c.callee with
 | .builtin .clear => true
 | _ => false
theorem a0w {E : En α} {z : Array Value} (hz : z = d0 (E.f E.d)) (hw : ∀ x, (E.f x).length = E.w) (hw0 : 0 < E.w) (n : Nat) : Builtin.zeroCells z n = b7 E.f (List.replicate n E.d) := by
 subst hz
 have hsz : (d0 (E.f E.d)).size = E.w := by simp [d0, hw]
 apply Array.ext
 ·rw [f5 hw]
  simp [Builtin.zeroCells, hsz]
 ·intro i h1 h2
  rw [f5 hw, length_replicate] at h2
  have hi : i / E.w < n := (Nat.div_lt_iff_lt_mul hw0).2 h2
  have hm : i % E.w < E.w := Nat.mod_lt _ hw0
  have hx := O6 (en := E.f) hw (d := E.d) (xs := List.replicate n E.d) (i := i / E.w) (k := i % E.w) (n := 1) (by simpa using hi) (by omega)
  have he : i / E.w * E.w + i % E.w = i := Nat.div_add_mod' i E.w
  rw [he] at hx
  have hx0 := congrArg (fun a => a[0]?) hx
  have hlt : i < (b7 E.f (List.replicate n E.d)).size := by rw [f5 hw, length_replicate]; exact h2
  simp only [Array.getElem?_extract] at hx0
  rw [if_pos (by omega), Nat.add_zero, Array.getElem?_eq_getElem hlt] at hx0
  have hg : (List.replicate n E.d).getD (i / E.w) E.d = E.d := by
   rw [a8 (by simpa using hi)]; simp
  rw [hg] at hx0
  have hl : i % E.w < (E.f E.d).length := by rw [hw]; exact hm
  have h3 : (Builtin.zeroCells (d0 (E.f E.d)) n)[i] = (d0 (E.f E.d))[i % E.w]! := by
   simp only [Builtin.zeroCells, Array.getElem_map, Array.getElem_range, hsz]
  rw [h3, getElem!_pos _ _ (by rw [hsz]; exact hm)]
  have h4 : ((((E.f E.d).drop (i % E.w)).take 1).map C1.den).toArray[0]? = some ((E.f E.d)[i % E.w]'hl).den := by
   rw [drop_eq_getElem_cons hl]; rfl
  rw [h4] at hx0
  simp only [Option.some.injEq] at hx0
  rw [hx0]
  simp [d0]
theorem clr [G : Good P] (E : En α) (xs xs' : List α) (g q od nd cd : Nat) (te : TypeId) (m : Md) (J : List Ch) (idx : List Nat) (hlen : od + nd <= xs.length) (hnd : 0 < nd) (hxs : xs' = spl xs od (List.replicate nd E.d))
  (next : GP P nO ro B Q (nxP p (ixP p + 1) (lgP p s)) (acS p s (.o (.v (.tuple #[]))) idx (vc E g q xs' te m false :: J) s.nx))
  (hw : ∀ x, (E.f x).length = E.w := by intro _; rfl) (h1 : ∀ x, (E.f x).all C1.one = true := by intro _; rfl) (hm : m.mine = true := by rfl) (hw0 : 0 < E.w := by decide)
  (chk : ((biA p s b2z).map Prod.fst, okB idx s.hp.length, wtA p s, a05 p s, ((biA p s b2z).bind (fun x => zrA P x.2)).map (fun x => x.2.1), ((biA p s b2z).bind (fun x => zrA P x.2)).map (fun x => x.2.2.1), (z6 idx s.hp).map Ch.den) = (some [.slice (some ⟨q, od * E.w, none⟩) nd cd], true, true, true, some (d0 (E.f E.d)), some true, (vc E g q xs te m false :: J).map Ch.den) := by kernel_rfl)
  (ed : (enP P p (ixP p + 1) (lgP p s) (acS p s (.o (.v (.tuple #[]))) idx (vc E g q xs' te m false :: J) s.nx)).1 = (enP P p (ixP p + 1) (lgP p s) (acS p s (.o (.v (.tuple #[]))) idx (vc E g q xs' te m false :: J) s.nx)).2 := by kernel_rfl) : GP P nO ro B Q p s := by
 simp only [Prod.mk.injEq] at chk
 obtain ⟨c1, c2', c3, c4, c6, c7, c5⟩ := chk
 rw [Option.map_eq_some_iff] at c1
 obtain ⟨⟨l, tt⟩, c1, hll⟩ := c1
 have hll : l = _ := hll
 subst hll
 rw [c1] at c6 c7
 obtain ⟨o, c, hop, h2, h3, hl, ht⟩ := b4h c1
 rw [Option.map_eq_some_iff] at c6 c7
 obtain ⟨⟨e, cs, b, n⟩, hzr, hcs⟩ := c6
 obtain ⟨x2, hzr2, hb⟩ := c7
 rw [hzr] at hzr2
 cases hzr2
 have hb : b = true := hb
 have hcs : cs = _ := hcs
 subst hb hcs
 obtain ⟨t, ie, zv, htt, hu, hi, hzz, hz, _⟩ := b3I (show zrA P tt = some (e, d0 (E.f E.d), true, n) from hzr)
 rw [htt] at ht
 obtain ⟨id, ops, d, K, i, lg, rfl, ho⟩ := L4 hop
 have hwt := K7 c3 ho
 have hcc : c.callee = .builtin .clear := by
  unfold b2z at h3
  split at h3
  ·assumption
  ·cases h3
 subst hxs
 refine act (R := Unit) (φ := fun _ => True) (res := fun _ => .o (.v (.tuple #[]))) (post := fun _ => vc E g q (spl xs od (List.replicate nd E.d)) te m false :: J) G ho hwt (by rw [h2]; unfold g6; simp only [hcc]) idx s.nx c2' c5 (fun a hE F A hF => ?_) c4 (fun _ _ => next) (fun _ => ed)
 obtain ⟨A', F', r, k1, k2⟩ := a8k (P := P) (ys := List.replicate nd E.d) hm h1 (by simpa using hlen) hF
 refine ⟨(), A', F', ⟨trivial, .value (.tuple #[]), A', .inr (.inl ⟨?_, ?_⟩), rfl, rfl⟩, k1, k2⟩
 ·rw [h2]; exact .inr (.inr (.inl hcc))
 ·have hx := G4 hE hl
  rw [<- a0w hz hw hw0] at r
  obtain ⟨n', rfl⟩ : ∃ n', nd = n' + 1 := ⟨nd - 1, by omega⟩
  unfold execOp; rw [h2]
  simp only [resolve, hcc, G9 hx, Sem.run_bind, Sem.run_pure, Result.andThen, invoke, builtin, Builtin.clear_, ht]
  simp only [getElem?_toArray, getElem?_cons_zero, Sem.run_bind, d9 hu, Result.andThen, Sem.run_pure, y5 hi hzz, r]
def b5e (c : Call) : Bool := match c.callee with
 | .builtin .append => true
 | _ => false
def inA (P : Program) (o : Oper) : Option Bool := match o.op with
 | .call c => match c.argTypes[1]? with
  | some t => match P.underlying t with
   | some (.int _) => some true
   | _ => none
  | none => none
 | _ => none
theorem apz [G : Good P] (E : En α) (n : Nat) (g' : Nat) (nx : Nat) (e : TypeId) (hn0 : 0 < n) (hn1 : n <= 16777216)
  (next : ∀ q', GP P nO ro B Q (nxP p (ixP p + 1) (lgP p s)) (acS p s (.o (.s g' q' E.w 0 n n false)) [] [vc E g' q' (List.replicate n E.d) e .grown false] nx))
  (hw : ∀ x, (E.f x).length = E.w := by intro _; rfl) (h1 : ∀ x, (E.f x).all C1.one = true := by intro _; rfl) (hw0 : 0 < E.w := by decide)
  (chk : ((biA p s b5e).map Prod.fst, wtA p s, a05 p s, (opA p).bind (fun o => inA P o), (biA p s b5e).bind (fun x => zrA P x.2)) = (some [.slice none 0 0, .int .i64 (n : Int)], true, true, some true, some (e, d0 (E.f E.d), true, E.w)) := by kernel_rfl)
  (ed : ∀ q', (enP P p (ixP p + 1) (lgP p s) (acS p s (.o (.s g' q' E.w 0 n n false)) [] [vc E g' q' (List.replicate n E.d) e .grown false] nx)).1 = (enP P p (ixP p + 1) (lgP p s) (acS p s (.o (.s g' q' E.w 0 n n false)) [] [vc E g' q' (List.replicate n E.d) e .grown false] nx)).2 := by intro q'; kernel_rfl) : GP P nO ro B Q p s := by
 simp only [Prod.mk.injEq] at chk
 obtain ⟨c1, c3, c4, c6, c7⟩ := chk
 rw [Option.map_eq_some_iff] at c1
 obtain ⟨⟨l, tt⟩, c1, hll⟩ := c1
 have hll : l = _ := hll
 subst hll
 rw [c1] at c7
 obtain ⟨o, c, hop, h2, h3, hl, ht⟩ := b4h c1
 obtain ⟨t0, ie, zv, htt, hu, hi, hzz, hz, hby', hzs', hie⟩ := b3I (show zrA P tt = some (e, d0 (E.f E.d), true, E.w) from c7)
 obtain ⟨id, ops, d, K, i, lg, rfl, ho⟩ := L4 hop
 have hwt := K7 c3 ho
 have hcc : c.callee = .builtin .append := by
  unfold b5e at h3
  split at h3
  ·assumption
  ·cases h3
 rw [hop] at c6
 have ht0 : c.argTypes[0]? = some t0 := ht.trans htt
 obtain ⟨t1, k1, ht1, hu1⟩ : ∃ t1 k1, c.argTypes[1]? = some t1 /\ P.underlying t1 = some (.int k1) := by
  have c6 : inA P o = some true := c6
  unfold inA at c6
  rw [h2] at c6
  simp only at c6
  split at c6
  ·rename_i t1 ht1
   split at c6
   ·rename_i k1 hu1; exact ⟨t1, k1, ht1, hu1⟩
   ·cases c6
  ·cases c6
 have hzr : d8 P c.argTypes = true := by simp [d8, ht1, hu1]
 refine act (R := Nat) (φ := fun _ => True) (res := fun q' => .o (.s g' q' E.w 0 n n false)) (pre := []) (post := fun q' => [vc E g' q' (List.replicate n E.d) e .grown false]) G ho hwt (by rw [h2]; unfold g6; simp only [hcc]) [] nx (List.isPerm_iff.2 (by rw [nil_append, V9, show (List.range s.hp.length).filter (fun i => !([] : List Nat).contains i) = List.range s.hp.length from List.filter_eq_self.2 (fun _ _ => rfl)])) rfl (fun a hE F A hF => ?_) c4 (fun q' _ => next q') ed
 have hargs : c.args.map a.eval = #[.slice none 0 0, .int .i64 (n : Int)] := by
  have := G4 hE hl
  apply Array.ext'
  rw [Array.toList_map]; exact this
 have hzc := a0w hz hw hw0 n
 have hsz : (b7 E.f (List.replicate n E.d)).size = n * ie.size := by rw [f5 hw, length_replicate, hie]
 have hwr : IntKind.i64.wrap (n : Int) = n := V3 (by omega) (by omega)
 have hlt : ∀ b, F.own b ∨ F.imm b -> b < A.heap.size := fun b hb => (hpA []).lt hF hb
 have hF0 : F = Ft.no := hF
 subst hF0
 refine ⟨A.heap.size, A.alloc (.cells (b7 E.f (List.replicate n E.d)) e (1, 0)), a7F A.heap.size, ⟨trivial, ?_⟩, As.addE ⟨hw, fun b => by simp [a7F, Md.mine], fun b => by simp [a7F, Md.mine], (1, 0), rfl, J6⟩, ⟨by simp, fun b hb _ => x5 hb, fun b hb => .inr (by simp only [a7F] at hb; omega), fun b hb => hb.elim⟩⟩
 have hd : (SV.o (.s g' A.heap.size E.w 0 n n false)).den = .slice (some ⟨A.heap.size, 0, none⟩) n n := by
  show Value.slice (cond false none (some ⟨A.heap.size, 0 * E.w, none⟩)) _ _ = _
  rw [Nat.zero_mul]; rfl
 rw [hd]
 refine ⟨_, _, .inr (.inr (.inl ⟨c, _, h2, hcc, rfl, ?_⟩)), rfl, rfl⟩
 rw [hargs]
 refine ⟨e, ie, zv, none, 0, 0, .int .i64 (n : Int), n, ⟨hzz, ⟨t0, ht0, hu⟩, hi, fun t h => by rw [ht1] at h; cases h; exact .inr (.inr ⟨_, hu1⟩)⟩, rfl, ?_, .inr ⟨by omega, Nat.le_refl _, by omega, by omega, hzs', #[], b7 E.f (List.replicate n E.d), ?_, ?_, by simp, by simp, hsz, b3Z h1 _, .inl ⟨by simp, fun a h => by cases h⟩⟩⟩
 ·rw [hzr]
  simp only [a0u, hwr]
  have h3 : ((n * ie.bytes : Nat) : Int) <= ((16777216 * 65536 : Nat) : Int) := Int.ofNat_le.2 (Nat.mul_le_mul hn1 hby')
  rw [Int.natCast_mul] at h3
  rw [if_neg (by omega), if_neg (by omega), Int.toNat_natCast]
 ·rfl
 ·rw [hzr]
  simp only [appSrc, Bool.not_true, Bool.false_eq_true, if_false]
  rw [if_neg (by rw [hie]; exact fun h => by rcases Nat.mul_eq_zero.1 h with h | h <;> omega)]
  simp only [Sem.run_bind, y5 hi hzz, Result.andThen, hzc, Sem.run_pure]
end
end Go.Abs
