/-
  B5.
-/
import Derived.Test.YtagidoadfajpgaaGreatN10
import Derived.ProofKit
import Derived.Carry
namespace Go.Abs
open Go.ChangeShapes Go.WideShapes Go.ChangeAt Go.RowKit
section
variable {P : Program} {W : World}
theorem b4M {f : FuncId} {xs xs' : Array Value} {A A' : World} {v : Value} {ι : Ren} (h : u9 P W.heap.size f xs A v A') (hv : r7 v = true) (S : Sim P W.heap.size ι A W) (hx : Vs P ι xs xs') (hfree : ∀ b, A.heap.size <= b -> ι b = none)
  (hro : ∀ (k : Nat) o, A.heap[k]? = some o -> wr o = false) : Calls P f xs' W fun e W' => e = .returned v /\ Below W.heap.size W W' := by
 have hc := callsIn_wide.1 (h.2 ι W xs' S hx ⟨h.1, fun b hb _ => hfree b hb⟩)
 refine hc.mono ?_
 rintro e W' ⟨ι', v', rfl, S', M, V⟩
 have := V.plain_eq hv
 subst this
 exact ⟨rfl, ⟨M.os, M.tape, M.output, M.wsz, fun b hb => M.keep b hb fun k e o _ ho hw => by rw [hro k o ho] at hw; cases hw⟩⟩
end
end Go.Abs
namespace Go.Abs
section
variable {P : Program}
structure AppTy (P : Program) (sT xT e : TypeId) : Prop where
 s : P.underlying sT = some (.slice e)
 x : ∃ e', P.underlying xT = some (.slice e')
 i : ∃ ie z, P.info? e = some ie /\ ie.zero = some z /\ isOne z = true /\ ie.size = 1 /\ ie.bytes <= 2 ^ 16
end
end Go.Abs
namespace Go.Abs
end Go.Abs
namespace Go.Abs
end Go.Abs
namespace Go.Abs
section
variable {P : Program} {W : World}
structure InB where
 l : List Value
 t : TypeId
 a : Addr
end
end Go.Abs
namespace Go.Abs
section
variable {P : Program} {nO : Nat} {a : Act} {A : World} {ops : Array Oper}
theorem a1f {ρ : Operand -> Value} {o : Oper} {c x y : Operand} {b : Bool} {v : Value} (h : o.op = .pick c x y) (hc : ρ c = .bool b) (hv : (if b then ρ x else ρ y) = v) : AOp P ρ o A (.value v) A := hv ▸ b3z h hc
end
end Go.Abs
namespace Go.Abs
open Go.RowKit
section
variable {P : Program} {nO : Nat} {A W W' : World}
def turn (A : World) (d : Nat) (o : Obj) : World := { A with heap := A.heap.setIfInBounds d o }
theorem r9 {d : Nat} {o : Obj} : (turn A d o).heap.size = A.heap.size := by simp [turn]
theorem w0 {d k : Nat} {o : Obj} (h : k ≠ d) : (turn A d o).heap[k]? = A.heap[k]? := by
  simp only [turn, Array.getElem?_setIfInBounds]
  rw [if_neg (fun e => h e.symm)]
theorem K8 {d : Nat} {o o' : Obj} (h : A.heap[d]? = some o') : (turn A d o).heap[d]? = some o := by
  have hd := E8 h
  simp [turn, hd]
structure Turned (W W' : World) (blk off : Nat) (c' : Array Value) : Prop where
  at_ : ∀ cw tw fw, W.heap[blk]? = some (.cells cw tw fw) -> ∃ cw', W'.heap[blk]? = some (.cells cw' tw fw) /\ cw'.size = cw.size /\ ∀ (i : Nat) x, c'[i]? = some x -> cw'[off + i]? = some x
  keep : ∀ b, b < W.heap.size -> b ≠ blk -> W'.heap[b]? = W.heap[b]?
  size : W.heap.size <= W'.heap.size
  os : W'.os = W.os
  tape : W'.tape = W.tape
  output : W'.output = W.output
theorem b1N {f : FuncId} {d n cap : Nat} {c c' : Array Value} {t : TypeId} {fz : Nat × Nat} (hd : A.heap[d]? = some (.cells c t fz)) (hw : fz = (0, 0) ∨ fz = (1, 0)) (hsz : c'.size = c.size) (hcap : 0 < cap ∨ fz = (0, 0)) (hp : ∀ (i : Nat) x, c[i]? = some x -> r7 x = true) (hp' : ∀ (i : Nat) x, c'[i]? = some x -> r7 x = true)
    (H : ∀ (W : World) (blk off cap' : Nat) (cw : Array Value) (tw : TypeId) (fw : Nat × Nat), W.heap[blk]? = some (.cells cw tw fw) -> ¬ fw.1 < fw.2 -> (∀ (i : Nat) x, c[i]? = some x -> cw[off + i]? = some x) -> Calls P f #[.slice (some ⟨blk, off, none⟩) n cap'] W fun e W' => e = .returned undef /\ Turned W W' blk off c') :
    u9 P nO f #[.slice (some ⟨d, 0, none⟩) n cap] A undef (turn A d (.cells c' t fz)) := by
  refine ⟨Nat.le_of_eq r9.symm, fun ι W xs' S hx _ => ?_⟩
  have hx0 : xs'.size = 1 := hx.1.symm
  obtain ⟨y, rfl⟩ : ∃ y, xs' = #[y] := Array.size_eq_one_iff.1 hx0
  have hy := hx.2 0 _ y rfl rfl
  cases hy with
  | slice h =>
    rename_i a' cap'
    rcases h with ⟨⟨_, hsp, e, he, hb, ho⟩, _⟩ | ⟨_, h0, _, e, g, he, hg⟩
    case inr =>
      exfalso
      rcases hcap with hcap | rfl
      · omega
      · rcases S.obj d e _ he hd with ⟨h1, _⟩ | ⟨_, _, _, _, _, _, _, _, h2⟩
        · cases h1
        · rw [h2 (by simp)] at hg; cases hg
    have hO := S.obj d e _ he hd
    obtain ⟨cw, tw, fw, hW, hcells, hfz, hfr, hg1, hg2⟩ : ∃ c0 t0 fz0, W.heap[e.blk]? = some (.cells c0 t0 fz0) /\ (∀ (i : Nat) x, c[i]? = some x -> ∃ x', c0[i + e.sh]? = some x' /\ VRel P ι x x') /\ (fz = (0, 0) ∨ fz = (1, 0) ∨ (fz.1 = 0 /\ c.size < fz.2)) /\ (¬ fz.1 < fz.2 -> nO <= e.blk /\ ¬ fz0.1 < fz0.2) /\ (fz = (1, 0) -> e.gr = some (t, c0.size)) /\ (fz ≠ (1, 0) -> e.gr = none) := by
      rcases hO with ⟨h1, _⟩ | h
      · rcases hw with h | h <;> (rw [h] at h1; cases h1)
      · exact h
    have hnf : ¬ fz.1 < fz.2 := by rcases hw with rfl | rfl <;> simp
    obtain ⟨hn0, hfw⟩ := hfr hnf
    have hwr : wr (.cells c t fz) = true := by rcases hw with rfl | rfl <;> simp [wr]
    have ea : a' = ⟨e.blk, e.sh, none⟩ := by
      cases a'
      simp only [Nat.zero_add] at hb ho hsp
      subst hb; subst ho; subst hsp; rfl
    subst ea
    have := H W e.blk e.sh cap' cw tw fw hW hfw (fun i x hx => by
      obtain ⟨x', h1, h2⟩ := hcells i x hx
      have := h2.plain_eq (hp i x hx)
      subst this
      rw [Nat.add_comm]; exact h1)
    refine (callsIn_wide.2 this).mono ?_
    rintro e2 W' ⟨rfl, T⟩
    refine ⟨ι, undef, rfl, ⟨fun b eb o hb ho => ?_, fun b b' eb eb' o o' hb hb' ho ho' hwo hal hbe => ?_, fun b eb hb => Nat.lt_of_lt_of_le (S.dom b eb hb) T.size, Nat.le_trans S.lo T.size⟩, ?_, .of_plain rfl⟩
    · by_cases hbd : b = d
      · subst hbd
        rw [he] at hb; cases hb
        rw [K8 hd] at ho; cases ho
        obtain ⟨cw', h1, h2, h3⟩ := T.at_ cw tw fw hW
        refine .inr ⟨cw', tw, fw, h1, fun i x hx => ⟨x, by rw [Nat.add_comm]; exact h3 i x hx, .of_plain (hp' i x hx)⟩, ?_, hfr, fun h => by rw [h2]; exact hg1 h, hg2⟩
        rcases hfz with h | h | h
        · exact .inl h
        · exact .inr (.inl h)
        · exact .inr (.inr ⟨h.1, by omega⟩)
      · rw [w0 hbd] at ho
        by_cases hal : alive o = true
        · have hne : eb.blk ≠ e.blk := fun h => hbd (S.inj d b e eb _ o he hb hd ho hwr hal h.symm).symm
          exact (S.obj b eb o hb ho).later (Ren.le.refl ι) (T.keep _ (S.dom b eb hb) hne)
        · have hO' := S.obj b eb o hb ho
          cases o with
          | cells c1 t1 fz1 =>
            rcases hO' with h | ⟨_, _, _, _, _, h, _⟩
            · exact .inl h
            · exfalso
              apply hal
              rcases h with rfl | rfl | ⟨h1, h2⟩
              · rfl
              · rfl
              · have : 0 < fz1.2 := by omega
                simp [alive, h1, this]
          | _ => simp [alive] at hal
    · have get : ∀ {k : Nat} {o : Obj}, (turn A d (.cells c' t fz)).heap[k]? = some o -> ∃ o0, A.heap[k]? = some o0 /\ (wr o = true -> wr o0 = true) /\ (alive o = true -> alive o0 = true) := fun {k o} hk => by
        by_cases e : k = d
        · subst e
          rw [K8 hd] at hk; cases hk
          exact ⟨_, hd, fun _ => hwr, fun _ => G5 hwr⟩
        · rw [w0 e] at hk
          exact ⟨o, hk, id, id⟩
      obtain ⟨o1, g1, g2, _⟩ := get ho
      obtain ⟨o2, g3, _, g4⟩ := get ho'
      exact S.inj b b' eb eb' o1 o2 hb hb' g1 g3 (g2 hwo) (g4 hal) hbe
    · have get : ∀ {k : Nat} {o : Obj}, (turn A d (.cells c' t fz)).heap[k]? = some o -> wr o = true -> ∃ o0, A.heap[k]? = some o0 /\ wr o0 = true := fun {k o} hk hwo => by
        by_cases e : k = d
        · subst e; exact ⟨_, hd, hwr⟩
        · rw [w0 e] at hk; exact ⟨o, hk, hwo⟩
      exact { le := Ren.le.refl ι
              news := fun b e h h' => by rw [h] at h'; cases h'
              keep := fun b hb hn => T.keep b hb fun h => hn d e _ he hd hwr h.symm
              img := fun k eb o h h' hwo _ => by
                obtain ⟨o0, h1, h2⟩ := get h' hwo
                exact ⟨k, eb, o0, h, h1, h2, rfl⟩
              fresh := fun k e h h' => by rw [h] at h'; cases h'
              asz := Nat.le_of_eq r9.symm
              wsz := T.size
              os := T.os
              tape := T.tape
              output := T.output }
theorem Asn.turned {J : Asn} {F : b6o} {d : Nat} {c c' : Array Value} {t : TypeId} {fz : Nat × Nat} (hJ : Owns J) (h : ((blk d (.cells c t fz)).sep J) F A) (hf : fz = (0, 0) ∨ fz = (1, 0)) :
    ((blk d (.cells c' t fz)).sep J) F (turn A d (.cells c' t fz)) /\ Step F A F (turn A d (.cells c' t fz)) := by
  obtain ⟨F1, F2, h1, h3, h4, h5⟩ := h
  have hb : F1 d := (h1.1 d).2 rfl
  have hro : a4e A (turn A d (.cells c' t fz)) := fun k ⟨c0, t0, n, hc, hn⟩ => w0 fun e => by
    subst e; rw [h1.2] at hc; cases hc
    rcases hf with hf | hf <;> (cases hf <;> omega)
  exact ⟨⟨F1, F2, ⟨h1.1, K8 h1.2⟩, hJ.loc h3 (fun k hk => w0 fun e => h4 d hb (e ▸ hk)) hro, h4, h5⟩, ⟨Nat.le_of_eq r9.symm, fun k _ hn => w0 fun e => hn ((h5 k).2 (.inl (e ▸ hb))), hro, fun k hk => .inl hk⟩⟩
end
end Go.Abs
namespace Go.Abs
section
variable {P : Program} {A A' : World} {ρ : Operand -> Value} {o : Oper}
def a7y (P : Program) (t : TypeId) (n : Nat) (g : Bool) : Bool :=
 (match P.underlying t with | some (.struct _) | some (.array ..) => g | some _ => !g | none => false) && (match P.info? t with | some i => decide (i.size = n) | none => false)
theorem a0I {t : TypeId} {n : Nat} {g : Bool} (h : a7y P t n g = true) (w : World) : (isAgg t).run P w = .ok g w := by
 unfold a7y at h
 simp only [Bool.and_eq_true] at h
 obtain ⟨h1, _⟩ := h
 unfold isAgg underlying program
 cases hu : P.underlying t with
 | none => rw [hu] at h1; cases h1
 | some d => cases d <;> simp_all [Sem.run, Bind.bind, Sem.bind, Pure.pure]
theorem p8 {t : TypeId} {n : Nat} {g : Bool} (h : a7y P t n g = true) (w : World) : (sizeOf t).run P w = .ok n w := by
 unfold a7y at h
 simp only [Bool.and_eq_true] at h
 obtain ⟨_, h1⟩ := h
 unfold sizeOf typeInfo program
 cases hu : P.info? t with
 | none => rw [hu] at h1; cases h1
 | some d => rw [hu] at h1; simp_all [Sem.run, Bind.bind, Sem.bind, Pure.pure]
theorem d9 {t : TypeId} {d : TypeDesc} (hu : P.underlying t = some d) (w : World) : (underlying t).run P w = .ok d w := by
 simp [underlying, program, Sem.run, Bind.bind, Sem.bind, Pure.pure, hu]
theorem y5 {t : TypeId} {i : TypeInfo} {z : Value} (hi : P.info? t = some i) (hz : i.zero = some z) (w : World) : (zeroValue t).run P w = .ok z w := by
 simp [zeroValue, typeInfo, program, Sem.run, Bind.bind, Sem.bind, Pure.pure, hi, hz]
theorem b0W {t : TypeId} {n : Nat} {x : Operand} {p : Addr} {cs xs : Array Value} {tq : TypeId} {fz : Nat × Nat} (h : o.op = .load t x) (hx : ρ x = .pointer (some p)) (h1 : a7y P t n true = true) (hb : A.heap[p.block]? = some (.cells cs tq fz)) (hs : p.spot = none) (hn : p.off + n <= cs.size)
  (hc : cs.extract p.off (p.off + n) = xs) : AOp P ρ o A (.value (.agg xs)) A := by
 refine .inr (.inl ⟨by rw [h]; trivial, ?_⟩)
 subst hc
 unfold execOp; rw [h]
 have := E1 (P := P) n p 0 #[] cs tq fz hb hs (by simpa using hn)
 simp only [Nat.add_zero, Array.empty_append] at this
 simp only [Instr.loadAt, hx, Instr.sureAddr, Sem.run_bind, Sem.run_pure, Result.andThen, loadVar, a0I h1, p8 h1, if_true, loadCells, this]
theorem a8F {p : Addr} {u v : Value} (hv : isOne v = true) (hc : A.cell? p = some u) (hz : A.frozen? p = false) : (Go.store p v).run P A = .ok () (A.setCell p v) := by
 cases v <;> simp_all [isOne, Go.store, Sem.run]
theorem a2U {s : TypeId} {x : Operand} {k n : Nat} {p : Addr} {fs : Array Field} {f : Field} {g : Bool} (h : o.op = .fieldAddr s x k) (hx : ρ x = .pointer (some p)) (hu : P.underlying s = some (.struct fs)) (hf : fs[k]? = some f) (h1 : a7y P f.type n g = true) (hn : n ≠ 0) (hc : P.cellsOf f.type ≠ 0) : AOp P ρ o A (.value (.pointer (some (p.add f.offset)))) A := by
 refine .inr (.inl ⟨by rw [h]; exact fun fs' f' h1 h2 => by rw [hu] at h1; cases h1; rw [hf] at h2; cases h2; exact hc, ?_⟩)
 unfold execOp; rw [h]
 simp only [Instr.fieldAt, hx, Sem.run_bind, Result.andThen, d9 hu, hf, Instr.sureAddr, Sem.run_pure, fieldPlace, p8 h1]
 rw [if_neg hn]
 simp only [Sem.run_pure]
theorem a7t {t e : TypeId} {n : Nat} {g : Bool} {x ix : Operand} {p : Addr} {len cap i : Nat} {k : IntKind} (h : o.op = .indexAddr t x ix) (hx : ρ x = .slice (some p) len cap) (hi : ρ ix = .int k i) (hu : P.underlying t = some (.slice e)) (h1 : a7y P e n g = true) (hl : i < len) :
  AOp P ρ o A (.value (.pointer (some (p.add (i * n))))) A := by
 refine .inr (.inl ⟨by rw [h]; trivial, ?_⟩)
 unfold execOp; rw [h]
 have hl' : (0 : Int) <= i /\ (i : Int) < len := ⟨by omega, by omega⟩
 simp only [Instr.indexAt, hx, hi, asIntOf, Sem.run_bind, Sem.run_pure, Result.andThen, d9 hu, p8 h1, hl', and_self, if_true, Int.toNat_natCast]
theorem a7u {t e : TypeId} {n len : Nat} {g : Bool} {x ix : Operand} {p : Addr} {i : Nat} {k : IntKind} (h : o.op = .indexAddr t x ix) (hx : ρ x = .pointer (some p)) (hi : ρ ix = .int k i) (hu : P.underlying t = some (.array len e)) (h1 : a7y P e n g = true) (hl : i < len) :
  AOp P ρ o A (.value (.pointer (some (p.add (i * n))))) A := by
 refine .inr (.inl ⟨by rw [h]; trivial, ?_⟩)
 unfold execOp; rw [h]
 have hl' : (0 : Int) <= i /\ (i : Int) < len := ⟨by omega, by omega⟩
 simp only [Instr.indexAt, hx, hi, asIntOf, Sem.run_bind, Sem.run_pure, Result.andThen, d9 hu, p8 h1, hl', and_self, if_true, Int.toNat_natCast, Instr.sureAddr]
theorem a4c {x : Operand} {p : Addr} (h : o.op = .nilCheck x) (hx : ρ x = .pointer (some p)) : AOp P ρ o A (.value (.pointer (some p))) A := by
 refine .inr (.inl ⟨by rw [h]; trivial, ?_⟩)
 unfold execOp; rw [h]
 simp only [hx]
 rfl
theorem b0Y {t : TypeId} {x y : Operand} {z : TypeId} {v w : Value} (h : o.op = .binOp .eql t x y z) (hx : ρ x = v) (hy : ρ y = w) (hn : nilPair v w = true) {b : Bool} (hr : (Op.equal t v w).run P A = .ok b A) : AOp P ρ o A (.value (.bool b)) A := by
 refine .inr (.inl ⟨by rw [h]; show nilPair (ρ x) (ρ y) = true; rw [hx, hy]; exact hn, ?_⟩)
 unfold execOp; rw [h]
 simp only [hx, hy, E2 hn .eql t x y (.inl rfl), P5 hn t, Sem.run_bind, Sem.run_pure, Result.andThen, hr]
end
end Go.Abs
namespace Go.Abs
structure Ft where
 own : Nat -> Prop
 imm : Nat -> Prop
structure As where
 p : Ft -> World -> Prop
 lt : ∀ {F A b}, p F A -> F.own b ∨ F.imm b -> b < A.heap.size
 loc : ∀ {F A A'}, p F A -> (∀ b, F.own b ∨ F.imm b -> A'.heap[b]? = A.heap[b]?) -> p F A'
structure Mv (F : Ft) (A : World) (F' : Ft) (A' : World) : Prop where
 size : A.heap.size <= A'.heap.size
 kept : ∀ b, b < A.heap.size -> ¬ F.own b -> A'.heap[b]? = A.heap[b]?
 own : ∀ b, F'.own b -> F.own b ∨ A.heap.size <= b
 imm : ∀ b, F'.imm b -> F.own b ∨ F.imm b ∨ A.heap.size <= b
theorem Mv.refl {F : Ft} {A : World} : Mv F A F A := ⟨Nat.le_refl _, fun _ _ _ => rfl, fun _ h => .inl h, fun _ h => .inr (.inl h)⟩
theorem Mv.trans {F F' F'' : Ft} {A A' A'' : World} (h : Mv F A F' A') (k : Mv F' A' F'' A'') : Mv F A F'' A'' where
 size := Nat.le_trans h.size k.size
 kept b hb hn := by
  rw [k.kept b (Nat.lt_of_lt_of_le hb h.size) fun hf => (h.own b hf).elim hn fun h => absurd hb (Nat.not_lt_of_le h), h.kept b hb hn]
 own b hb := by
  rcases k.own b hb with hb | hb
  ·exact h.own b hb
  ·exact .inr (Nat.le_trans h.size hb)
 imm b hb := by
  rcases k.imm b hb with hb | hb | hb
  ·exact (h.own b hb).imp id .inr
  ·exact h.imm b hb
  ·exact .inr (.inr (Nat.le_trans h.size hb))
structure Ft.Jn (F F1 F2 : Ft) : Prop where
 own : ∀ b, F.own b ↔ F1.own b ∨ F2.own b
 imm : ∀ b, F.imm b ↔ F1.imm b ∨ F2.imm b
 oo : ∀ b, F1.own b -> ¬ F2.own b
 oi : ∀ b, F1.own b -> ¬ F2.imm b
 io : ∀ b, F1.imm b -> ¬ F2.own b
def Ft.un (F1 F2 : Ft) : Ft := ⟨fun b => F1.own b ∨ F2.own b, fun b => F1.imm b ∨ F2.imm b⟩
def Ft.no : Ft := ⟨fun _ => False, fun _ => False⟩
theorem Ft.ext {F G : Ft} (h : ∀ b, F.own b ↔ G.own b) (k : ∀ b, F.imm b ↔ G.imm b) : F = G := by
 cases F; cases G
 congr
 ·exact funext fun b => propext (h b)
 ·exact funext fun b => propext (k b)
section
variable {F F1 F2 F3 G : Ft}
theorem Ft.Jn.symm (h : F.Jn F1 F2) : F.Jn F2 F1 := ⟨fun b => (h.own b).trans Or.comm, fun b => (h.imm b).trans Or.comm, fun b h2 h1 => h.oo b h1 h2, fun b h2 h1 => h.io b h1 h2, fun b h2 h1 => h.oi b h1 h2⟩
theorem Ft.Jn.no : F.Jn F Ft.no := ⟨fun b => by simp [Ft.no], fun b => by simp [Ft.no], fun _ _ h => h, fun _ _ h => h, fun _ _ h => h⟩
theorem Ft.Jn.eq_no (h : F.Jn F1 Ft.no) : F = F1 := Ft.ext (fun b => (h.own b).trans ⟨fun h => h.elim id fun h => h.elim, .inl⟩) (fun b => (h.imm b).trans ⟨fun h => h.elim id fun h => h.elim, .inl⟩)
theorem Ft.Jn.assoc (h : F.Jn G F3) (k : G.Jn F1 F2) : F.Jn F1 (F2.un F3) /\ (F2.un F3).Jn F2 F3 :=
 ⟨⟨fun b => by rw [h.own, k.own, or_assoc]; rfl, fun b => by rw [h.imm, k.imm, or_assoc]; rfl, fun b h1 h2 => h2.elim (k.oo b h1) (h.oo b ((k.own b).2 (.inl h1))), fun b h1 h2 => h2.elim (k.oi b h1) (h.oi b ((k.own b).2 (.inl h1))), fun b h1 h2 => h2.elim (k.io b h1) (h.io b ((k.imm b).2 (.inl h1)))⟩,
  ⟨fun _ => Iff.rfl, fun _ => Iff.rfl, fun b h2 => h.oo b ((k.own b).2 (.inr h2)), fun b h2 => h.oi b ((k.own b).2 (.inr h2)), fun b h2 => h.io b ((k.imm b).2 (.inr h2))⟩⟩
end
def As.emp : As := ⟨fun F _ => F = Ft.no, fun h hb => by subst h; exact hb.elim False.elim False.elim, fun h _ => h⟩
def As.star (I J : As) : As where
 p F A := ∃ F1 F2, I.p F1 A /\ J.p F2 A /\ F.Jn F1 F2
 lt := fun ⟨_F1, _F2, h1, h2, j⟩ hb => hb.elim (fun hb => ((j.own _).1 hb).elim (fun h => I.lt h1 (.inl h)) (fun h => J.lt h2 (.inl h))) (fun hb => ((j.imm _).1 hb).elim (fun h => I.lt h1 (.inr h)) (fun h => J.lt h2 (.inr h)))
 loc := fun ⟨F1, F2, h1, h2, j⟩ hk => ⟨F1, F2, I.loc h1 fun b hb => hk b (hb.imp (fun h => (j.own b).2 (.inl h)) (fun h => (j.imm b).2 (.inl h))), J.loc h2 fun b hb => hk b (hb.imp (fun h => (j.own b).2 (.inr h)) (fun h => (j.imm b).2 (.inr h))), j⟩
def As.all : List As -> As
 | [] => As.emp
 | I :: l => I.star (As.all l)
def As.ex {α : Type} (f : α -> As) : As := ⟨fun F A => ∃ x, (f x).p F A, fun ⟨x, h⟩ hb => (f x).lt h hb, fun ⟨x, h⟩ hk => ⟨x, (f x).loc h hk⟩⟩
def As.pure (φ : Prop) : As := ⟨fun F _ => F = Ft.no /\ φ, fun h hb => by obtain ⟨rfl, _⟩ := h; exact hb.elim False.elim False.elim, fun h _ => h⟩
section
variable {I J K : As} {F : Ft} {A A' : World}
theorem As.comm (h : (I.star J).p F A) : (J.star I).p F A := let ⟨F1, F2, h1, h2, j⟩ := h; ⟨F2, F1, h2, h1, j.symm⟩
theorem As.assoc (h : ((I.star J).star K).p F A) : (I.star (J.star K)).p F A := by
 obtain ⟨G, F3, ⟨F1, F2, h1, h2, j1⟩, h3, j2⟩ := h
 obtain ⟨a, b⟩ := j2.assoc j1
 exact ⟨F1, _, h1, ⟨F2, F3, h2, h3, b⟩, a⟩
theorem As.assoc' (h : (I.star (J.star K)).p F A) : ((I.star J).star K).p F A := As.comm (As.assoc (As.comm (As.assoc (As.comm h))))
theorem As.map (h : (I.star J).p F A) (k : ∀ F, I.p F A -> K.p F A) : (K.star J).p F A := let ⟨F1, F2, h1, h2, j⟩ := h; ⟨F1, F2, k _ h1, h2, j⟩
theorem As.map' (h : (I.star J).p F A) (k : ∀ F, J.p F A -> K.p F A) : (I.star K).p F A := let ⟨F1, F2, h1, h2, j⟩ := h; ⟨F1, F2, h1, k _ h2, j⟩
theorem As.swap (h : (I.star (J.star K)).p F A) : (J.star (I.star K)).p F A := As.assoc (As.map (As.assoc' h) fun _ h => As.comm h)
theorem As.addE (h : I.p F A) : (I.star As.emp).p F A := ⟨F, _, h, rfl, .no⟩
theorem As.unE (h : (I.star As.emp).p F A) : I.p F A := by
 obtain ⟨F1, F2, h1, rfl, j⟩ := h
 rw [j.eq_no]; exact h1
theorem As.perm {l l' : List As} (p : l.Perm l') : ∀ {F : Ft} {A : World}, (As.all l).p F A -> (As.all l').p F A := by
 induction p with
 | nil => exact fun h => h
 | cons x _ ih => exact fun h => As.map' h fun _ h => ih h
 | swap x y l => exact fun h => As.swap h
 | trans _ _ ih1 ih2 => exact fun h => ih2 (ih1 h)
theorem As.cat : ∀ {l l' : List As} {F : Ft} {A : World}, ((As.all l).star (As.all l')).p F A -> (As.all (l ++ l')).p F A
 | [], _, _, _, h => As.unE (As.comm h)
 | _ :: _, _, _, _, h => As.map' (As.assoc h) fun _ h => As.cat h
theorem As.split : ∀ {l l' : List As} {F : Ft} {A : World}, (As.all (l ++ l')).p F A -> ((As.all l).star (As.all l')).p F A
 | [], _, _, _, h => As.comm (As.addE h)
 | _ :: _, _, _, _, h => As.assoc' (As.map' h fun _ h => As.split h)
theorem As.frame {F1 F2 F1' : Ft} (j : F.Jn F1 F2) (h2 : J.p F2 A) (h3 : K.p F1' A') (M : Mv F1 A F1' A') : ∃ F', (K.star J).p F' A' /\ Mv F A F' A' := by
 have hk : ∀ b, F2.own b ∨ F2.imm b -> A'.heap[b]? = A.heap[b]? := fun b hb => M.kept b (J.lt h2 hb) fun h => hb.elim (j.oo b h) (j.oi b h)
 refine ⟨F1'.un F2, ⟨F1', F2, h3, J.loc h2 hk, ⟨fun _ => Iff.rfl, fun _ => Iff.rfl, fun b hb hb' => ?_, fun b hb hb' => ?_, fun b hb hb' => ?_⟩⟩, ⟨M.size, fun b hb hn => M.kept b hb fun h => hn ((j.own b).2 (.inl h)), fun b hb => ?_, fun b hb => ?_⟩⟩
 ·rcases M.own b hb with h | h
  ·exact j.oo b h hb'
  ·exact absurd (J.lt h2 (.inl hb')) (Nat.not_lt_of_le h)
 ·rcases M.own b hb with h | h
  ·exact j.oi b h hb'
  ·exact absurd (J.lt h2 (.inr hb')) (Nat.not_lt_of_le h)
 ·rcases M.imm b hb with h | h | h
  ·exact j.oo b h hb'
  ·exact j.io b h hb'
  ·exact absurd (J.lt h2 (.inl hb')) (Nat.not_lt_of_le h)
 ·rcases hb with hb | hb
  ·exact (M.own b hb).imp (fun h => (j.own b).2 (.inl h)) id
  ·exact .inl ((j.own b).2 (.inr hb))
 ·rcases hb with hb | hb
  ·rcases M.imm b hb with h | h | h
   ·exact .inl ((j.own b).2 (.inl h))
   ·exact .inr (.inl ((j.imm b).2 (.inl h)))
   ·exact .inr (.inr h)
  ·exact .inr (.inl ((j.imm b).2 (.inr hb)))
theorem As.left (h : (I.star J).p F A) : ∃ F', I.p F' A /\ Mv F A F' A := by
 obtain ⟨F1, F2, h1, h2, j⟩ := h
 exact ⟨F1, h1, ⟨Nat.le_refl _, fun _ _ _ => rfl, fun b hb => .inl ((j.own b).2 (.inl hb)), fun b hb => .inr (.inl ((j.imm b).2 (.inl hb)))⟩⟩
end
end Go.Abs
open List (length_append length_cons mem_cons_self mem_cons_of_mem size_toArray length_map map_map flatMap_cons map_drop map_take)
namespace Go.Abs
inductive C1 where
 | v (x : Value)
 | cb (e : Bool)
 | p (g q i w k : Nat)
 | s (g q w o n c : Nat) (z : Bool)
abbrev C1.i (x : Int) : C1 := .v (.int .i64 x)
abbrev C1.t (x : ByteArray) : C1 := .v (.string x)
def C1.den : C1 -> Value
 | .v x => x
 | .cb e => .bool e
 | .p _ q i w k => .pointer (some ⟨q, i * w + k, none⟩)
 | .s _ q w o n c z => .slice (cond z none (some ⟨q, o * w, none⟩)) n c
def C1.one : C1 -> Bool
 | .v x => isOne x
 | _ => true
theorem C1.one_den {c : C1} (h : c.one = true) : isOne c.den = true := by cases c <;> first | exact h | rfl
inductive SV where
 | o (c : C1)
 | a (l : List C1)
 | t (l : List (Bool × List C1))
 | kk (d : Nat) (kb : Bool) (e : Bool) (ag : Bool) (l : List C1)
def Y6 : Bool × List C1 -> Value
 | (true, l) => .agg (l.map C1.den).toArray
 | (false, l) => (l.headD (.v undef)).den
def SV.den : SV -> Value
 | .o c => c.den
 | .a l => .agg (l.map C1.den).toArray
 | .t l => .tuple (l.map Y6).toArray
 | .kk _ _ e ag l => if e then Y6 (ag, l) else undef
def ofV : Value -> SV
 | .agg cs => .a (cs.toList.map C1.v)
 | x => .o (.v x)
theorem b45 (x : Value) : (ofV x).den = x := by
 unfold ofV
 split
 ·simp only [SV.den, map_map]
  congr 1
  apply Array.ext'
  simp [Function.comp_def, C1.den]
 ·rfl
def SV.cells : SV -> Option (List C1)
 | .o c => some [c]
 | .a l => some l
 | _ => none
theorem SV.cells_den {v : SV} {l : List C1} (h : v.cells = some l) (h1 : l.all C1.one = true) : v.den.cells = (l.map C1.den).toArray := by
 cases v with
 | o c =>
  cases h
  simp only [List.all_cons, List.all_nil, Bool.and_true] at h1
  exact a0O (C1.one_den h1)
 | a l' => cases h; rfl
 | t l' => cases h
 | kk _ _ e ag l' => cases h
inductive Md where
 | own | grown | imm
def Md.fz : Md -> Nat × Nat -> Prop
 | .own, f => f = (0, 0)
 | .grown, f => f = (1, 0)
 | .imm, f => f ≠ (2, 0)
def Md.mine : Md -> Bool
 | .imm => false
 | _ => true
def a7r (q : Nat) (cs : Array Value) (t : TypeId) (m : Md) : As where
 p F A := (∀ b, F.own b ↔ (m.mine = true /\ b = q)) /\ (∀ b, F.imm b ↔ (m.mine = false /\ b = q)) /\ ∃ fz, m.fz fz /\ A.heap[q]? = some (.cells cs t fz)
 lt := fun ⟨h1, h2, fz, _, h⟩ hb => by
  have := (Array.getElem?_eq_some_iff.1 h).1
  rcases hb with hb | hb
  ·rw [((h1 _).1 hb).2]; exact this
  ·rw [((h2 _).1 hb).2]; exact this
 loc := fun ⟨h1, h2, fz, h3, h⟩ hk => ⟨h1, h2, fz, h3, by
  rw [hk q ?_]
  ·exact h
  ·cases hm : Md.mine _ with
   | true => exact .inl ((h1 q).2 ⟨hm, rfl⟩)
   | false => exact .inr ((h2 q).2 ⟨hm, rfl⟩)⟩
def As.guard (φ : Prop) (I : As) : As := ⟨fun F A => φ /\ I.p F A, fun h hb => I.lt h.2 hb, fun h hk => ⟨h.1, I.loc h.2 hk⟩⟩
inductive Ch : Type 1 where
 | blk (g q : Nat) (cs : List C1) (t : TypeId) (m : Md)
 | vec {α : Type} (g q w : Nat) (en : α -> List C1) (d : α) (xs : List α) (t : TypeId) (m : Md) (z : Bool)
 | as (I : As)
def d0 (l : List C1) : Array Value := (l.map C1.den).toArray
def b7 {α : Type} (en : α -> List C1) (xs : List α) : Array Value := (xs.flatMap fun x => (en x).map C1.den).toArray
def Ch.den : Ch -> As
 | .blk _ q cs t m => a7r q (d0 cs) t m
 | .vec _ q w en _ xs t m z => match z with
  | true => As.pure (xs = [])
  | false => As.guard (∀ x, (en x).length = w) (a7r q (b7 en xs) t m)
 | .as I => I
def hpA (l : List Ch) : As := As.all (l.map Ch.den)
def fnd : List Ch -> Nat -> Option Ch
 | [], _ => none
 | .blk g q cs t m :: l, n => match Nat.beq g n with
  | true => some (.blk g q cs t m)
  | false => fnd l n
 | .vec g q w en d xs t m z :: l, n => match Nat.beq g n with
  | true => some (.vec g q w en d xs t m z)
  | false => fnd l n
 | .as _ :: l, n => fnd l n
section
variable {F : Ft} {A : World}
theorem a0V : ∀ {l : List Ch} {n : Nat} {c : Ch}, fnd l n = some c -> c ∈ l
 | [], _, _, h => by cases h
 | .blk .. :: l, n, c, h => by
  simp only [fnd] at h
  split at h
  ·cases h; exact mem_cons_self
  ·exact mem_cons_of_mem _ (a0V h)
 | .vec .. :: l, n, c, h => by
  simp only [fnd] at h
  split at h
  ·cases h; exact mem_cons_self
  ·exact mem_cons_of_mem _ (a0V h)
 | .as _ :: l, n, c, h => mem_cons_of_mem _ (a0V h)
theorem a9N : ∀ {l : List Ch} {c : Ch} {F : Ft}, c ∈ l -> (hpA l).p F A -> ∃ F', c.den.p F' A
 | [], _, _, h, _ => by cases h
 | d :: l, c, F, h, ⟨F1, F2, h1, h2, _⟩ => by
  rcases List.mem_cons.1 h with rfl | h
  ·exact ⟨F1, h1⟩
  ·exact a9N h h2
theorem b2R {m : Md} {fz : Nat × Nat} (h : m.fz fz) : fz ≠ (2, 0) := by
 cases m
 ·rintro rfl; cases h
 ·rintro rfl; cases h
 ·exact h
theorem a36 {l : List Ch} {n g q : Nat} {cs : List C1} {t : TypeId} {m : Md} (h : fnd l n = some (.blk g q cs t m)) (hp : (hpA l).p F A) : ∃ fz, m.fz fz /\ A.heap[q]? = some (.cells (d0 cs) t fz) := by
 obtain ⟨F', _, _, fz, h1, h2⟩ := a9N (a0V h) hp
 exact ⟨fz, h1, h2⟩
theorem b3M {α : Type} {l : List Ch} {n g q w : Nat} {en : α -> List C1} {d : α} {xs : List α} {t : TypeId} {m : Md} {z : Bool} (h : fnd l n = some (.vec g q w en d xs t m z)) (hp : (hpA l).p F A) : (z = true /\ xs = []) ∨ (z = false /\ (∀ x, (en x).length = w) /\ ∃ fz, m.fz fz /\ A.heap[q]? = some (.cells (b7 en xs) t fz)) := by
 obtain ⟨F', h1⟩ := a9N (a0V h) hp
 cases z with
 | true => exact .inl ⟨rfl, h1.2⟩
 | false =>
  obtain ⟨hw, _, _, fz, h1, h2⟩ := h1
  exact .inr ⟨rfl, hw, fz, h1, h2⟩
theorem f5 {α : Type} {en : α -> List C1} {w : Nat} (hw : ∀ x, (en x).length = w) (xs : List α) : (b7 en xs).size = xs.length * w := by
 unfold b7
 induction xs with
 | nil => simp
 | cons x xs ih =>
  simp only [size_toArray, flatMap_cons, length_append, length_map, hw, length_cons] at ih ⊢
  rw [ih, Nat.succ_mul, Nat.add_comm]
theorem O6 {α : Type} {en : α -> List C1} {w : Nat} (hw : ∀ x, (en x).length = w) {d : α} {xs : List α} {i k n : Nat} (hi : i < xs.length) (hk : k + n <= w) : (b7 en xs).extract (i * w + k) (i * w + k + n) = ((((en (xs.getD i d)).drop k).take n).map C1.den).toArray := by
 apply Array.ext'
 unfold b7
 simp only [List.extract_toArray, List.extract_eq_drop_take']
 induction xs generalizing i with
 | nil => simp at hi
 | cons x xs ih =>
  cases i with
  | zero =>
   simp only [flatMap_cons, Nat.zero_mul, Nat.zero_add, List.getD_cons_zero]
   rw [List.take_append_of_le_length (by simp [hw]; exact hk), List.drop_take, <- map_drop, Nat.add_sub_cancel_left, map_take]
  | succ i =>
   simp only [length_cons, Nat.add_lt_add_iff_right] at hi
   have := ih hi
   simp only [flatMap_cons, List.getD_cons_succ] at this ⊢
   rw [<- this]
   have e1 : (i + 1) * w + k + n = ((en x).map C1.den).length + (i * w + k + n) := by simp [hw, Nat.succ_mul]; omega
   have e2 : (i + 1) * w + k = ((en x).map C1.den).length + (i * w + k) := by simp [hw, Nat.succ_mul]; omega
   rw [e1, e2, List.take_length_add_append, List.drop_length_add_append]
end
def W9 : List (Nat × SV) -> Nat -> Option SV
 | [], _ => none
 | (i, v) :: l, t => match Nat.beq i t with
  | true => some v
  | false => W9 l t
def rem : List (Nat × SV) -> Nat -> List (Nat × SV)
 | [], _ => []
 | (i, v) :: l, t => match Nat.beq i t with
  | true => rem l t
  | false => (i, v) :: rem l t
def evX (env : List (Nat × SV)) : Operand -> Option SV
 | .tmp t => W9 env t
 | .const x => some (ofV x)
 | .func f => some (.o (.v (.func (.func f) #[] #[])))
 | .global _ => none
def V0 (env : List (Nat × SV)) (a : Act) : Prop := ∀ i v, W9 env i = some v -> a.tmps.getD i undef = v.den
theorem p7 {env : List (Nat × SV)} {a : Act} (h : V0 env a) {x : Operand} {v : SV} (hx : evX env x = some v) : a.eval x = v.den := by
 cases x with
 | tmp t => exact h t v hx
 | const y => cases hx; rw [b45]; rfl
 | func f => cases hx; rfl
 | global g => cases hx
def tsz (P : Program) (t : TypeId) : Option (Nat × Bool) := match P.underlying t, P.info? t with
 | some (.struct _), some i => some (i.size, true)
 | some (.array ..), some i => some (i.size, true)
 | some _, some i => some (i.size, false)
 | _, _ => none
theorem v6 {P : Program} {t : TypeId} {n : Nat} {g : Bool} (h : tsz P t = some (n, g)) : a7y P t n g = true := by
 unfold tsz at h
 unfold a7y
 split at h <;> simp_all
def mkv : Bool -> List C1 -> SV
 | true, l => .a l
 | false, l => .o (l.headD (.v undef))
end Go.Abs
namespace Go.Abs
inductive Ob where
 | p (φ : Prop)
 | q (a b : Bool)
 | n (a b : Nat)
instance : Coe Prop Ob := ⟨.p⟩
def G7 : List Ob -> Prop
 | [] => True
 | .p φ :: l => φ /\ G7 l
 | .q a b :: l => a = b /\ G7 l
 | .n a b :: l => a = b /\ G7 l
def obP : List Ob -> Prop
 | [] => True
 | .p φ :: l => φ /\ obP l
 | .q _ _ :: l => obP l
 | .n _ _ :: l => obP l
def obQ : List Ob -> List ((Bool × Nat) × Bool × Nat)
 | [] => []
 | .p _ :: l => obQ l
 | .q a b :: l => ((a, 0), b, 0) :: obQ l
 | .n a b :: l => ((true, a), true, b) :: obQ l
theorem O9 : ∀ {l : List Ob}, obP l -> (obQ l).map Prod.fst = (obQ l).map Prod.snd -> G7 l
 | [], _, _ => trivial
 | .p _ :: _, h, k => ⟨h.1, O9 h.2 k⟩
 | .q _ _ :: _, h, k => by
  simp only [obQ, List.map_cons, List.cons.injEq, Prod.mk.injEq, and_true] at k
  exact ⟨k.1, O9 h k.2⟩
 | .n _ _ :: _, h, k => by
  simp only [obQ, List.map_cons, List.cons.injEq, Prod.mk.injEq, true_and] at k
  exact ⟨k.1, O9 h k.2⟩
def a3m (b x : Bool) : Bool := match b with
 | true => x
 | false => !x
def noP : List Ob -> Bool
 | [] => true
 | .p _ :: _ => false
 | .q _ _ :: l => noP l
 | .n _ _ :: l => noP l
def onQ : List Ob -> List Ob
 | [] => []
 | .p _ :: l => onQ l
 | .q a b :: l => .q a b :: onQ l
 | .n a b :: l => .n a b :: onQ l
def b8l (e : Bool) (l : List Ob) : List Ob := match noP l with
 | true => onQ l
 | false => .p (e = true -> obP l) :: onQ l
theorem a3z : ∀ {l : List Ob}, G7 (onQ l) -> (obQ l).map Prod.fst = (obQ l).map Prod.snd
 | [], _ => rfl
 | .p _ :: l, h => a3z (l := l) h
 | .q a b :: l, h => by
  simp only [obQ, List.map_cons]
  rw [a3z (l := l) h.2]
  have : a = b := h.1
  rw [this]
 | .n a b :: l, h => by
  simp only [obQ, List.map_cons]
  rw [a3z (l := l) h.2]
  have : a = b := h.1
  rw [this]
theorem a9i : ∀ {l : List Ob}, noP l = true -> obP l
 | [], _ => trivial
 | .p _ :: _, h => by cases h
 | .q _ _ :: l, h => a9i (l := l) h
 | .n _ _ :: l, h => a9i (l := l) h
theorem a9r {e : Bool} {l : List Ob} (h : G7 (b8l e l)) (he : e = true) : G7 l := by
 unfold b8l at h
 split at h
 ·rename_i hn; exact O9 (a9i hn) (a3z h)
 ·exact O9 (h.1 he) (a3z h.2)
theorem G7.split : ∀ {l l' : List Ob}, G7 (l ++ l') -> G7 l /\ G7 l'
 | [], _, h => ⟨trivial, h⟩
 | .p _ :: _, _, h => ⟨⟨h.1, (G7.split h.2).1⟩, (G7.split h.2).2⟩
 | .q _ _ :: _, _, h => ⟨⟨h.1, (G7.split h.2).1⟩, (G7.split h.2).2⟩
 | .n _ _ :: _, _, h => ⟨⟨h.1, (G7.split h.2).1⟩, (G7.split h.2).2⟩
abbrev EvR := Option (SV × List Ob)
def a7 (a b : ByteArray) : Bool := a.toList == b.toList
def I7 (a b : ByteArray) : Bool := Op.bytesLess a.toList b.toList
def b6J (op : BinOp) (a b : ByteArray) : Option Value := match op with
 | .eql => some (.bool (a7 a b))
 | .neq => some (.bool (!a7 a b))
 | .lss => some (.bool (I7 a b))
 | .leq => some (.bool (I7 a b || a7 a b))
 | .gtr => some (.bool (!(I7 a b || a7 a b)))
 | .geq => some (.bool (!I7 a b))
 | _ => none
def b0J (op : BinOp) (a b : Bool) : Option Value := match op with
 | .eql => some (.bool (a == b))
 | .neq => some (.bool (!(a == b)))
 | _ => none
def U4 : C1 -> Option Bool
 | .v (.bool b) => some b
 | .cb b => some b
 | _ => none
def ofR : Value -> C1
 | .bool b => .cb b
 | v => .v v
theorem a4N (v : Value) : (ofR v).den = v := by cases v <;> rfl
def b8s (ov : Bool) (op : BinOp) (k : IntKind) (m n : Int) : Option (Value × List Ob) := match ov, op, k with
 | false, .add, .i64 => some (.int .i64 (m + n), [-9223372036854775808 <= m + n, m + n < 9223372036854775808])
 | false, .sub, .i64 => some (.int .i64 (m - n), [-9223372036854775808 <= m - n, m - n < 9223372036854775808])
 | false, .mul, .i64 => some (.int .i64 (m * n), [-9223372036854775808 <= m * n, m * n < 9223372036854775808])
 | _, _, _ => match b1i op k m n with
  | some v => some (v, [])
  | none => none
def b7Y : C1 -> Option Bool
 | .p .. => some false
 | .s _ _ _ _ _ _ z => some z
 | .v (.pointer none) => some true
 | .v (.slice none _ _) => some true
 | .v .nilFunc => some true
 | .v (.func ..) => some false
 | .v (.map none) => some true
 | .v (.map (some _)) => some false
 | _ => none
def b2i : TypeDesc -> C1 -> C1 -> Bool
 | .pointer _, .p .., .v (.pointer none) => true
 | .pointer _, .v (.pointer none), .p .. => true
 | .pointer _, .v (.pointer none), .v (.pointer none) => true
 | .slice _, .s .., .v (.slice none _ _) => true
 | .slice _, .v (.slice none _ _), .v (.slice none _ _) => true
 | .map _ _, .v (.map (some _)), .v (.map none) => true
 | .map _ _, .v (.map none), .v (.map none) => true
 | .func _ _ _, .v .nilFunc, .v .nilFunc => true
 | .func _ _ _, .v (.func ..), .v .nilFunc => true
 | _, _, _ => false
def b65 : C1 -> Bool -> C1
 | .s .., b => .cb b
 | _, b => .v (.bool b)
theorem a5Y (c : C1) (b : Bool) : (b65 c b).den = .bool b := by cases c <;> rfl
section
variable (P : Program) (ov : Bool) (ρ : Operand -> Option SV) (hp : List Ch)
def a94 (t : TypeId) (x : Operand) : EvR := match ρ x, tsz P t with
 | some (.o (.p g q i w k)), some (n, ag) => match fnd hp g, Bool.or ag (Nat.beq n 1) with
  | some (.blk _ q' cs _ _), true => match Nat.ble (i * w + k + n) cs.length with
   | true => some (mkv ag ((cs.drop (i * w + k)).take n), [.n q q'])
   | false => none
  | some (.vec _ q' w' en d xs _ _ _), true => match Nat.beq w w', Nat.ble (k + n) w' with
   | true, true => some (mkv ag (((en (xs.getD i d)).drop k).take n), [.n q q', i < xs.length])
   | _, _ => none
  | _, _ => none
 | _, _ => none
def P9 (s : TypeId) (x : Operand) (k : Nat) : EvR := match ρ x, P.underlying s with
 | some (.o (.p g q i w k0)), some (.struct fs) => match fs[k]? with
  | some f => match tsz P f.type with
   | some (n, _) => match Nat.beq n 0, Nat.beq (P.cellsOf f.type) 0 with
    | false, false => some (.o (.p g q i w (k0 + f.offset)), [])
    | _, _ => none
   | none => none
  | none => none
 | _, _ => none
def P8 (t : TypeId) (x ix : Operand) : EvR := match ρ x, ρ ix, P.underlying t with
 | some (.o (.s g q w o n _ nl)), some (.o (.v (.int _ z))), some (.slice e) => match tsz P e with
  | some (sz, _) => match Nat.beq sz w with
   | true => some (.o (.p g q (z.toNat + o) w 0), [0 <= z, z < n, nl = false])
   | false => none
  | none => none
 | some (.o (.p g q i w k)), some (.o (.v (.int _ z))), some (.array n e) => match tsz P e with
  | some (sz, _) => some (.o (.p g q i w (k + z.toNat * sz)), [0 <= z, z < n])
  | none => none
 | _, _, _ => none
def a41 (s : TypeId) (x : Operand) (k : Nat) : EvR := match ρ x, P.underlying s with
 | some (.a l), some (.struct fs) => match fs[k]? with
  | some f => match tsz P f.type with
   | some (n, ag) => match Nat.ble (f.offset + n) l.length, Bool.or ag (Nat.beq n 1) with
    | true, true => some (mkv ag ((l.drop f.offset).take n), [])
    | _, _ => none
   | none => none
  | none => none
 | _, _ => none
def d4 (s : ByteArray) (i : Nat) : UInt8 := s.data.getD i 0
def a40 (t : TypeId) (x ix : Operand) : EvR := match ρ x, ρ ix, P.underlying t with
 | some (.o (.v (.string s))), some (.o (.v (.int _ z))), some .string => some (.o (.v (.int .u8 (d4 s z.toNat).toNat)), [0 <= z, z < s.size])
 | _, _, _ => none
def b5E (op : BinOp) (t : TypeId) (x y : Operand) : EvR := match ρ x, ρ y with
 | some (.o (.v (.int k m))), some (.o (.v (.int k' n))) => match b8s ov op k m n, decide (k = k') with
  | some (v, ps), true => some (.o (ofR v), ps)
  | _, _ => none
 | some (.o (.v (.string a))), some (.o (.v (.string b))) => match b6J op a b with
  | some v => some (.o (ofR v), [])
  | none => none
 | some (.o a), some (.o b) => match U4 a, U4 b with
  | some a, some b => match P.underlying t, b0J op a b with
   | some .bool, some v => some (.o (ofR v), [])
   | _, _ => none
  | _, _ => match op, P.underlying t, b7Y a, b7Y b with
   | .eql, some d, some m, some n => match b2i d a b with
    | true => some (.o (b65 a (m == n)), [])
    | false => none
   | .neq, some d, some m, some n => match b2i d a b with
    | true => some (.o (b65 a (!(m == n))), [])
    | false => none
   | _, _, _, _ => none
 | some (.a [.v (.int k1 a), .v (.int k2 b)]), some (.a [.v (.int k3 c), .v (.int k4 d)]) => match P.underlying t with
  | some (.array 2 e) => match P.underlying e, tsz P e, P.eqGuardType P.depth t, decide (k1 = k3), decide (k2 = k4) with
   | some (.int _), some (1, false), false, true, true => match op with
    | .eql => some (.o (.cb (a == c && b == d)), [])
    | .neq => some (.o (.cb (!(a == c && b == d))), [])
    | _ => none
   | _, _, _, _, _ => none
  | _ => none
 | _, _ => none
def a96 (c : Call) : EvR := match c.args.toList.map ρ, c.argTypes[0]? with
 | [some (.o (.s _ _ _ _ n _ _))], some t => match P.underlying t with
  | some (.slice _) => some (.o (.v (.int .i64 n)), [])
  | _ => none
 | [some (.o (.v (.slice _ n _)))], some t => match P.underlying t with
  | some (.slice _) => some (.o (.v (.int .i64 n)), [])
  | _ => none
 | [some (.o (.v (.string s)))], some t => match P.underlying t with
  | some .string => some (.o (.v (.int .i64 s.size)), [])
  | _ => none
 | _, _ => none
def b8x : C1 -> Option (Nat × Nat)
 | .v (.slice none n c) => some (n, c)
 | .s _ _ _ _ n c true => some (n, c)
 | _ => none
def b5D (c : Call) : EvR := match c.args.toList.map ρ, c.argTypes[0]? with
 | [some (.o x)], some t => match b8x x, P.underlying t with
  | some (_, k), some (.slice _) => some (.o (.v (.int .i64 k)), [])
  | _, _ => none
 | _, _ => none
def a0q (mn : Bool) (c : Call) : EvR := match c.args.toList.map ρ with
 | [some (.o (.v (.int k m))), some (.o (.v (.int k' n)))] => some (.o (.v (.int k (match mn with | true => if n < m then n else m | false => if m < n then n else m))), [k' = k])
 | _ => none
def b6V : List (Option SV) -> Option (List C1)
 | [] => some []
 | some (.o c) :: l => match b6V l with
  | some cs => some (c :: cs)
  | none => none
 | _ :: _ => none
def a98 (f : FuncId) (first cap : Array Operand) : EvR := match b6V (first.toList.map ρ), b6V (cap.toList.map ρ) with
 | some l, some l' => some (.o (.v (.func (.func f) (l.map C1.den).toArray (l'.map C1.den).toArray)), [])
 | _, _ => none
def a03 (x : Operand) (i : Nat) : EvR := match ρ x with
 | some (.t l) => match l[i]? with
  | some (true, cs) => some (.a cs, [])
  | some (false, cs) => some (.o (cs.headD (.v undef)), [])
  | none => none
 | _ => none
def a3u (l : List C1) (off : Nat) (cs : List C1) : List C1 := l.take off ++ cs ++ l.drop (off + cs.length)
def fillL (place : Nat -> Option (Nat × Nat)) (l : List C1) : List (Nat × Option SV) -> Option (List C1 × List Ob)
 | [] => some (l, [])
 | (i, v) :: rest => match place i, v with
  | some (off, size), some v => match v.cells with
   | some cs => match Nat.beq cs.length size, Nat.ble (off + cs.length) l.length with
    | true, true => match fillL place (a3u l off cs) rest with
     | some (l', ps) => some (l', .q (cs.all C1.one) true :: ps)
     | none => none
    | _, _ => none
   | none => none
  | _, _ => none
def Z8 (fs : List Field) : List (Option (Nat × Nat)) := fs.map fun f => match tsz P f.type with
 | some (n, _) => some (f.offset, n)
 | none => none
def a42 (t : TypeId) (parts : Array (Nat × Operand)) : EvR := match P.underlying t, P.info? t with
 | some (.struct fs), some i => match i.zero with
  | some z => match fillL (fun k => match (Z8 P fs.toList)[k]? with | some o => o | none => none) (z.cells.toList.map C1.v) (parts.toList.map fun p => (p.1, ρ p.2)) with
   | some (l, ps) => match (Z8 P fs.toList).all Option.isSome with
    | true => some (.a l, ps)
    | false => none
   | none => none
  | none => none
 | some (.array _ e), some i => match i.zero, tsz P e with
  | some z, some (n, _) => match fillL (fun k => some (k * n, n)) (z.cells.toList.map C1.v) (parts.toList.map fun p => (p.1, ρ p.2)) with
   | some (l, ps) => some (.a l, ps)
   | none => none
  | _, _ => none
 | _, _ => none
def b6l (c : Operand) (h e0 : Bool) : SV -> Option (Bool × List Ob)
 | .o c => match U4 c with
  | some b => some (b, [])
  | none => none
 | .kk d kb e false [x] => match U4 x with
  | some b => match c with
   | .tmp t => match Nat.beq t d, a3m kb h with
    | true, true => some (b, [.q e (a3m h e0)])
    | _, _ => some (b, [.p (a3m h e0 = true -> e = true)])
   | _ => some (b, [.p (a3m h e0 = true -> e = true)])
  | none => none
 | _ => none
def b7S (e : Bool) (x y : SV) (bx b_y : Bool) : Bool := match y with
 | .o (.v (.bool false)) => and e bx
 | _ => match x with
  | .o (.v (.bool true)) => or e b_y
  | _ => cond e bx b_y
theorem b4I (e : Bool) (x y : SV) (bx b_y : Bool) (hx : x = .o (.v (.bool true)) -> bx = true) (hy : y = .o (.v (.bool false)) -> b_y = false) : b7S e x y bx b_y = if e then bx else b_y := by
 unfold b7S
 split
 ·rename_i h; rw [hy rfl]; cases e <;> rfl
 ·split
  ·rename_i h; rw [hx rfl]; cases e <;> rfl
  ·cases e <;> rfl
def a91 (c x y : Operand) : EvR := match ρ c with
 | some (.o (.v (.bool true))) => (ρ x).map fun v => (v, [])
 | some (.o (.v (.bool false))) => (ρ y).map fun v => (v, [])
 | some (.o (.cb e)) => match ρ x, ρ y with
  | some vx, some vy => match b6l c true e vx, b6l c false e vy with
   | some (bx, p1), some (b_y, p2) => some (.o (.cb (b7S e vx vy bx b_y)), p1 ++ p2)
   | _, _ => none
  | _, _ => none
 | _ => none
def Y4 (x : Operand) : EvR := match ρ x with
 | some (.o (.p g q i w k)) => some (.o (.p g q i w k), [])
 | _ => none
def b5z (x : Operand) : EvR := match ρ x with
 | some (.o (.v (.bool b))) => some (.o (.v (.bool !b)), [])
 | some (.o (.cb b)) => some (.o (.cb !b), [])
 | _ => none
def b0a (src dst : TypeId) (x : Operand) : EvR := match ρ x, P.underlying dst, P.underlying src with
 | some (.o (.v (.int _ n))), some (.int k), some _ => some (.o (.v (.int k (k.wrap n))), [])
 | _, _, _ => none
def bnd (x : Option Operand) : Option (Option (IntKind × Int)) := match x with
 | none => some none
 | some x => match ρ x with
  | some (.o (.v (.int k z))) => some (some (k, z))
  | _ => none
def chT : Ch -> Option (Nat × TypeId × Bool)
 | .blk _ q _ t _ => some (q, t, false)
 | .vec _ q _ _ _ _ t _ z => some (q, t, z)
 | .as _ => none
def ofs (c l o : Nat) : Nat := if c = l then o else l + o
theorem b30 {c l o : Nat} (h : l < c) : ofs c l o = l + o := if_neg (by omega)
def a4Z (t : TypeId) (x : Operand) (lo hi : Option Operand) : EvR := match ρ x, P.underlying t, bnd ρ lo, bnd ρ hi with
 | some (.o (.s g q w o n c z)), some (.slice e), some lo, some hi => match tsz P e with
  | some (sz, _) => match Nat.beq sz w, fnd hp g with
   | true, some c0 => match chT c0 with
    | some (q', t', z') => match Nat.beq (P.cellsOf e) (P.cellsOf t') with
     | true => match lo, hi with
      | none, none => some (.o (.s g q w o n c z), [.n q q', .q z z', n <= c])
      | none, some (_, h) => some (.o (.s g q w o h.toNat c z), [.n q q', .q z z', n <= c, 0 <= h, h <= c])
      | some (_, l), none => some (.o (.s g q w (ofs c l.toNat o) (n - l.toNat) (c - l.toNat) z), [.n q q', .q z z', n <= c, 0 <= l, l <= n])
      | some (_, l), some (_, h) => some (.o (.s g q w (ofs c l.toNat o) (h.toNat - l.toNat) (c - l.toNat) z), [.n q q', .q z z', n <= c, 0 <= l, l <= h, h <= c])
     | false => none
    | none => none
   | _, _ => none
  | none => none
 | some (.o (.v (.string s))), some .string, some lo, some hi => match lo, hi with
  | none, none => none
  | none, some (_, h) => some (.o (.v (.string (s.extract 0 h.toNat))), [0 <= h, h <= s.size])
  | some (_, l), none => some (.o (.v (.string (s.extract l.toNat s.size))), [0 <= l, l <= s.size])
  | some (_, l), some (_, h) => some (.o (.v (.string (s.extract l.toNat h.toNat))), [0 <= l, l <= h, h <= s.size])
 | _, _, _, _ => none
def a2K (t : TypeId) (x lo hi mx : Operand) : EvR := match ρ x, P.underlying t, ρ lo, ρ hi, ρ mx with
 | some (.o (.s g q w o n c z)), some (.slice e), some (.o (.v (.int _ l))), some (.o (.v (.int _ h))), some (.o (.v (.int _ m))) => match tsz P e with
  | some (sz, _) => match Nat.beq sz w, fnd hp g with
   | true, some c0 => match chT c0 with
    | some (q', t', z') => match Nat.beq (P.cellsOf e) (P.cellsOf t') with
     | true => some (.o (.s g q w (ofs m.toNat l.toNat o) (h.toNat - l.toNat) (m.toNat - l.toNat) z), [.n q q', .q z z', n <= c, 0 <= l, l <= h, h <= m, m <= c])
     | false => none
    | none => none
   | _, _ => none
  | none => none
 | _, _, _, _, _ => none
def evq (op : Op) : EvR := match op with
 | .move x => (ρ x).map fun v => (v, [])
 | .assign x => (ρ x).map fun v => (v, [])
 | .pick c x y => a91 ρ c x y
 | .load t x => a94 P ρ hp t x
 | .nilCheck x => Y4 ρ x
 | .binOp op t x y _ => b5E P ov ρ op t x y
 | .unOp .not _ x => b5z ρ x
 | .convert src dst x => b0a P ρ src dst x
 | .fieldAddr s x k => P9 P ρ s x k
 | .field s x k => a41 P ρ s x k
 | .indexAddr t x ix => P8 P ρ t x ix
 | .index t x ix => a40 P ρ t x ix
 | .makeFunc (.func f) first cap => a98 ρ f first cap
 | .extract x i => a03 ρ x i
 | .build t parts => a42 P ρ t parts
 | .slice t x lo hi none => a4Z P ρ hp t x lo hi
 | .slice t x (some lo) (some hi) (some mx) => a2K P ρ hp t x lo hi mx
 | .call c => match c.callee with
  | .builtin .len => a96 P ρ c
  | .builtin .cap => b5D P ρ c
  | .builtin .min => a0q ρ true c
  | .builtin .max => a0q ρ false c
  | _ => none
 | _ => none
end
end Go.Abs
open List (mem_cons mem_toArray not_mem_nil drop_eq_getElem_cons map_drop map_take getElem?_eq_getElem)
namespace Go.Abs
section
variable {P : Program} {ρ : Operand -> Option SV} {σ : Operand -> Value} {hp : List Ch} {F : Ft} {A : World} {o : Oper} {v : SV} {ps : List Ob}
def v8 (ρ : Operand -> Option SV) (σ : Operand -> Value) : Prop := ∀ x v, ρ x = some v -> σ x = v.den
theorem O1 {v : Value} (h1 : r7 v = true) (h2 : ∀ x ∈ o.op.operands, r7 (σ x) = true) (h3 : a4x o.op = true) (h4 : ∀ w, (execOp σ o).run P w = .ok (.value v) w) : AOp P σ o A (.value v) A := .inl ⟨v, rfl, rfl, h1, h2, h3, h4⟩
theorem b0F {p : Addr} {cs : Array Value} {t : TypeId} {fz : Nat × Nat} {x : Value} (hb : A.heap[p.block]? = some (.cells cs t fz)) (hs : p.spot = none) (hc : cs[p.off]? = some x) : A.cell? p = some x := by rw [cell_at hb hs]; exact hc
theorem a9u {t : TypeId} {x : Operand} {q off n : Nat} {ag : Bool} {cs : Array Value} {tq : TypeId} {fz : Nat × Nat} {l : List C1} (h : o.op = .load t x) (hx : σ x = .pointer (some ⟨q, off, none⟩)) (ht : tsz P t = some (n, ag)) (h1 : (ag || Nat.beq n 1) = true) (hl : l.length = n)
  (hb : A.heap[q]? = some (.cells cs tq fz)) (hc : cs.extract off (off + n) = d0 l) (hn : off + n <= cs.size) : AOp P σ o A (.value (mkv ag l).den) A := by
 have ht' := v6 ht
 cases ag with
 | true => exact b0W (p := ⟨q, off, none⟩) h hx ht' hb rfl hn hc
 | false =>
  simp only [Bool.false_or] at h1
  obtain rfl : n = 1 := Nat.eq_of_beq_eq_true h1
  have hone : one P t = true := by
   unfold a7y at ht'
   unfold Go.Abs.one
   simp only [Bool.and_eq_true] at ht' ⊢
   refine ⟨?_, ht'.2⟩
   have := ht'.1
   cases hu : P.underlying t with
   | none => rw [hu] at this; cases this
   | some d => rw [hu] at this; cases d <;> simp_all
  match l, hl with
  | [c], _ =>
   refine b3A h hx hone (b0F hb rfl ?_)
   have := congrArg (fun a => a[0]?) hc
   have e : (cs.extract off (off + 1))[0]? = cs[off]? := by
    rw [Array.getElem?_extract, if_pos (by omega), Nat.add_zero]
   simp only [e] at this
   simpa [d0, mkv, SV.den, List.headD] using this
theorem H4 {l : List C1} {k n : Nat} : (d0 l).extract k (k + n) = d0 ((l.drop k).take n) := by
 apply Array.ext'
 simp [d0, map_take, map_drop]
theorem a93 (hρ : v8 ρ σ) (hH : (hpA hp).p F A) {t : TypeId} {x : Operand} (ho : o.op = .load t x) (h : a94 P ρ hp t x = some (v, ps)) (hps : G7 ps) : AOp P σ o A (.value v.den) A := by
 unfold a94 at h
 split at h
 case h_2 => cases h
 rename_i g q i w k n ag hx ht
 have hx' := hρ _ _ hx
 split at h
 case h_3 => cases h
 ·rename_i g' q' cs t' m hf hb
  split at h
  case h_2 => cases h
  rename_i hle
  cases h
  obtain ⟨rfl, _⟩ := hps
  obtain ⟨fz, _, hB⟩ := a36 hf hH
  have hle' := Nat.le_of_ble_eq_true hle
  exact a9u ho hx' ht hb (by simp; omega) hB H4 (by simpa [d0] using hle')
 ·rename_i α g' q' w' en d xs t' m z hf hb
  split at h
  case h_2 => cases h
  rename_i h1 h2
  cases h
  obtain ⟨rfl, hi, _⟩ := hps
  obtain ⟨_, rfl⟩ | ⟨_, hw, fz, _, hB⟩ := b3M hf hH
  ·simp at hi
  obtain rfl := Nat.eq_of_beq_eq_true h1
  have h2' := Nat.le_of_ble_eq_true h2
  refine a9u ho hx' ht hb (by simp [hw]; omega) hB (O6 hw hi h2') ?_
  rw [f5 hw]
  have : (i + 1) * w <= xs.length * w := Nat.mul_le_mul_right _ hi
  rw [Nat.succ_mul] at this
  omega
theorem Addr.add_mk {q off n : Nat} : (⟨q, off, none⟩ : Addr).add n = ⟨q, off + n, none⟩ := by
 unfold Addr.add
 split
 ·rename_i h; subst h; rfl
 ·rfl
theorem a1v (hρ : v8 ρ σ) {s : TypeId} {x : Operand} {k : Nat} (ho : o.op = .fieldAddr s x k) (h : P9 P ρ s x k = some (v, ps)) : AOp P σ o A (.value v.den) A := by
 unfold P9 at h
 split at h
 case h_2 => cases h
 rename_i g q i w k0 fs hx hu
 split at h
 case h_2 => cases h
 rename_i f hf
 split at h
 case h_2 => cases h
 rename_i n ag ht
 split at h
 case h_2 => cases h
 rename_i h1 h2
 cases h
 have := a2U (A := A) (p := ⟨q, i * w + k0, none⟩) ho (hρ _ _ hx) hu hf (v6 ht) (by rintro rfl; simp at h1) (by intro e; rw [e] at h2; simp at h2)
 rw [Addr.add_mk] at this
 simpa [SV.den, C1.den, Nat.add_assoc] using this
theorem a1u (hρ : v8 ρ σ) {t : TypeId} {x ix : Operand} (ho : o.op = .indexAddr t x ix) (h : P8 P ρ t x ix = some (v, ps)) (hps : G7 ps) : AOp P σ o A (.value v.den) A := by
 unfold P8 at h
 split at h
 ·rename_i g q w off n c nl kk z e hx hi hu
  split at h
  case h_2 => cases h
  rename_i sz ag ht
  split at h
  case h_2 => cases h
  rename_i hw
  cases h
  obtain rfl := Nat.eq_of_beq_eq_true hw
  obtain ⟨h0, h1, rfl, _⟩ := hps
  have hz : z = (z.toNat : Int) := by omega
  have hi' := hρ _ _ hi
  simp only [SV.den, C1.den] at hi'
  rw [hz] at hi'
  have := a7t (A := A) (p := ⟨q, off * sz, none⟩) ho (hρ _ _ hx) hi' hu (v6 ht) (by omega)
  rw [Addr.add_mk] at this
  simp only [SV.den, C1.den, Nat.add_zero, Nat.add_mul]
  rw [Nat.add_comm]
  exact this
 ·rename_i g q i w k kk z n e hx hi hu
  split at h
  case h_2 => cases h
  rename_i sz ag ht
  cases h
  obtain ⟨h0, h1, _⟩ := hps
  have hz : z = (z.toNat : Int) := by omega
  have hi' := hρ _ _ hi
  simp only [SV.den, C1.den] at hi'
  rw [hz] at hi'
  have := a7u (A := A) (p := ⟨q, i * w + k, none⟩) ho (hρ _ _ hx) hi' hu (v6 ht) (by omega)
  rw [Addr.add_mk] at this
  simpa [SV.den, C1.den, Nat.add_assoc] using this
 ·cases h
theorem b1U {t : TypeId} {n : Nat} {ag : Bool} {l : List C1} {off : Nat} (ht : tsz P t = some (n, ag)) (h1 : (ag || Nat.beq n 1) = true) (hl : off + n <= l.length) (w : World) : (part t (d0 l) off).run P w = .ok (mkv ag ((l.drop off).take n)).den w := by
 have ht' := v6 ht
 unfold part
 simp only [Sem.run_bind, a0I ht', Result.andThen]
 cases ag with
 | true =>
  simp only [if_true, Sem.run_bind, p8 ht', Result.andThen, Sem.run_pure, H4]
  rfl
 | false =>
  simp only [Bool.false_or] at h1
  obtain rfl : n = 1 := Nat.eq_of_beq_eq_true h1
  have e : (d0 l)[off]? = some (l[off]'(by omega)).den := by simp [d0, getElem?_eq_getElem (show off < l.length by omega)]
  rw [if_neg (by simp), e]
  simp only [Sem.run_pure, mkv, SV.den]
  rw [drop_eq_getElem_cons (show off < l.length by omega)]
  rfl
theorem a7e (hρ : v8 ρ σ) {s : TypeId} {x : Operand} {k : Nat} (ho : o.op = .field s x k) (h : a41 P ρ s x k = some (v, ps)) : AOp P σ o A (.value v.den) A := by
 unfold a41 at h
 split at h
 case h_2 => cases h
 rename_i l fs hx hu
 split at h
 case h_2 => cases h
 rename_i f hf
 split at h
 case h_2 => cases h
 rename_i n ag ht
 split at h
 case h_2 => cases h
 rename_i h1 h2
 cases h
 refine .inr (.inl ⟨by rw [ho]; trivial, ?_⟩)
 unfold execOp; rw [ho]
 have hx' : σ x = .agg (d0 l) := hρ _ _ hx
 simp only [hx', Instr.field, Sem.run_bind, Result.andThen, d9 hu, hf, asAgg, Sem.run_pure, b1U ht h2 (Nat.le_of_ble_eq_true h1)]
theorem a7d (hρ : v8 ρ σ) {t : TypeId} {x ix : Operand} (ho : o.op = .index t x ix) (h : a40 P ρ t x ix = some (v, ps)) (hps : G7 ps) : AOp P σ o A (.value v.den) A := by
 unfold a40 at h
 split at h
 case h_2 => cases h
 rename_i s k z hx hi hu
 cases h
 obtain ⟨h0, h1, _⟩ := hps
 refine .inr (.inl ⟨by rw [ho]; trivial, ?_⟩)
 unfold execOp; rw [ho]
 have hx' : σ x = .string s := hρ _ _ hx
 have hi' : σ ix = .int k z := hρ _ _ hi
 have hlt : z.toNat < s.size := by omega
 have e : s[z.toNat]? = some (d4 s z.toNat) := by
  rw [getElem?_pos s z.toNat hlt]
  congr 1
  unfold d4
  have hlt' : z.toNat < s.data.size := hlt
  rw [Array.getD_eq_getD_getElem?, Array.getElem?_eq_getElem hlt']
  rfl
 simp only [hx', hi', Instr.index, asIntOf, Sem.run_bind, Result.andThen, d9 hu, Sem.run_pure, h0, if_true, e]
 rfl
theorem a6P {op : BinOp} {a b : ByteArray} {v : Value} (h : b6J op a b = some v) : r7 v = true := by
 unfold b6J at h; split at h <;> cases h <;> rfl
theorem a5f {op : BinOp} {a b : Bool} {v : Value} (h : b0J op a b = some v) : r7 v = true := by
 unfold b0J at h; split at h <;> cases h <;> rfl
theorem b53 {op : BinOp} {t : TypeId} {x y : Operand} {z : TypeId} {a b : ByteArray} {v : Value} (h : o.op = .binOp op t x y z) (hx : σ x = .string a) (hy : σ y = .string b) (hv : b6J op a b = some v) : AOp P σ o A (.value v) A := by
 refine O1 (a6P hv) ?_ (by rw [h]; rfl) fun w => ?_
 ·rw [h]; intro u hu
  simp only [Op.operands, mem_toArray, mem_cons, not_mem_nil, or_false] at hu
  rcases hu with rfl | rfl
  ·rw [hx]; rfl
  ·rw [hy]; rfl
 ·unfold execOp; rw [h]
  simp only [hx, hy]
  unfold b6J at hv
  split at hv <;> first | (cases hv; done) | skip
  all_goals (cases hv; simp [eqGuard, binOp, Op.stringOp, a7, I7, Bind.bind, Sem.bind, Pure.pure])
theorem b0Z {op : BinOp} {t : TypeId} {x y : Operand} {z : TypeId} {a b : Bool} {v : Value} (h : o.op = .binOp op t x y z) (hx : σ x = .bool a) (hy : σ y = .bool b) (hu : P.underlying t = some .bool) (hv : b0J op a b = some v) : AOp P σ o A (.value v) A := by
 refine O1 (a5f hv) ?_ (by rw [h]; rfl) fun w => ?_
 ·rw [h]; intro u hu
  simp only [Op.operands, mem_toArray, mem_cons, not_mem_nil, or_false] at hu
  rcases hu with rfl | rfl
  ·rw [hx]; rfl
  ·rw [hy]; rfl
 ·unfold execOp; rw [h]
  simp only [hx, hy]
  have he : (Op.equal t (.bool a) (.bool b)).run P w = .ok (a == b) w := by
   unfold Op.equal Op.maxDepth Op.equalIn
   simp only [Sem.run_bind, d9 hu, Result.andThen, Sem.run_pure]
  unfold b0J at hv
  split at hv <;> first | (cases hv; done) | skip
  all_goals (cases hv; simp only [eqGuard, binOp, Sem.run_bind, Sem.run_pure, Result.andThen]; simp [Pure.pure, he])
theorem a9j {t : TypeId} {d : TypeDesc} {a b : C1} {m n : Bool} (hu : P.underlying t = some d) (hm : b7Y a = some m) (hn : b7Y b = some n) (ht : b2i d a b = true) (w : World) : nilPair a.den b.den = true /\ (Op.equal t a.den b.den).run P w = .ok (m == n) w := by
 unfold b2i at ht
 unfold Op.equal Op.maxDepth Op.equalIn
 split at ht <;> first | (cases ht; done) | skip
 all_goals first
  | (cases hm; cases hn; simp only [C1.den, nilPair, Option.isNone, Bool.or_true, Bool.true_or, Bool.or_self, true_and, Sem.run_bind, d9 hu, Result.andThen, Sem.run_pure]; done)
  | (cases hm; cases hn; simp only [C1.den, nilPair, Option.isNone, Bool.or_true, Bool.true_or, Bool.or_self, true_and, Sem.run_bind, d9 hu, Result.andThen, Sem.run_pure]; rfl)
  | (cases hm; cases hn; cases m <;> simp [C1.den, nilPair, Sem.run_bind, d9 hu, Result.andThen, Sem.run_pure])
end
end Go.Abs
open List (all_eq_true mem_cons getElem?_map mem_toArray getElem?_toArray not_mem_nil map_cons)
namespace Go.Abs
section
variable {P : Program} {ρ : Operand -> Option SV} {σ : Operand -> Value} {hp : List Ch} {F : Ft} {A : World} {o : Oper} {v : SV} {ps : List Ob}
theorem E9 {c : C1} {b : Bool} (h : U4 c = some b) : c.den = .bool b := by
 unfold U4 at h
 split at h <;> cases h <;> rfl
section
variable {t e : TypeId} {ki k1 k2 : IntKind} {a b c d : Int} (hu : P.underlying t = some (.array 2 e)) (he : P.underlying e = some (.int ki)) (hs : tsz P e = some (1, false))
include hu he hs
theorem a3o (w : World) : (Op.equal t (.agg #[.int k1 a, .int k2 b]) (.agg #[.int k1 c, .int k2 d])).run P w = .ok (a == c && b == d) w := by
 have hint : ∀ {n : Nat} {k : IntKind} {x y : Int} {w : World}, (Op.equalIn (n + 1) e (.int k x) (.int k y)).run P w = .ok (x == y) w := fun {n k x y w} => by
  unfold Op.equalIn
  simp only [Sem.run_bind, d9 he, Result.andThen, if_true, Sem.run_pure]
 have hp : ∀ (x y : Value) (w : World), (part e #[x, y] 0).run P w = .ok x w /\ (part e #[x, y] 1).run P w = .ok y w := fun x y w => by
  constructor <;> (unfold part; simp only [Sem.run_bind, a0I (v6 hs), Result.andThen, Bool.false_eq_true, if_false]; rfl)
 unfold Op.equal Op.maxDepth
 rw [Op.equalIn]
 simp only [Sem.run_bind, d9 hu, p8 (v6 hs), Result.andThen]
 simp [Std.Legacy.Range.forIn_eq_forIn_range', List.range', Sem.run_bind, Result.andThen, fun x y w => (hp x y w).1, hint]
 by_cases h1 : a = c
 ·by_cases h2 : b = d
  ·simp [h1, h2, Sem.run_bind, Result.andThen, fun x y w => (hp x y w).2, hint]
  ·simp [h1, h2, Sem.run_bind, Result.andThen, fun x y w => (hp x y w).2, hint]
 ·simp [h1]
theorem a4b (hg : P.eqGuardType P.depth t = false) {x y : Operand} {z : TypeId} {op : BinOp} {r : Bool} (ho : o.op = .binOp op t x y z) (hx : σ x = .agg #[.int k1 a, .int k2 b]) (hy : σ y = .agg #[.int k1 c, .int k2 d]) (hr : (op = .eql /\ r = (a == c && b == d)) ∨ (op = .neq /\ r = !(a == c && b == d))) : AOp P σ o A (.value (.bool r)) A := by
 refine O1 rfl ?_ (by rw [ho]; rfl) fun w => ?_
 ·rw [ho]; intro u hu
  simp only [Op.operands, mem_toArray, mem_cons, not_mem_nil, or_false] at hu
  rcases hu with rfl | rfl
  ·rw [hx]; rfl
  ·rw [hy]; rfl
 ·unfold execOp; rw [ho]; simp only [hx, hy]
  have e1 : ∀ op, (eqGuard op t x y (.agg #[.int k1 a, .int k2 b]) (.agg #[.int k1 c, .int k2 d])).run P w = .ok () w := fun op => by
   unfold eqGuard
   cases op <;> simp [program, hg, Sem.run, Bind.bind, Sem.bind, Pure.pure]
  rcases hr with ⟨rfl, rfl⟩ | ⟨rfl, rfl⟩
  ·have e2 : (binOp .eql t (.agg #[.int k1 a, .int k2 b]) (.agg #[.int k1 c, .int k2 d])).run P w = .ok (.bool (a == c && b == d)) w := by
    show (do Pure.pure (Value.bool (<- Op.equal t _ _)) : Sem Value).run P w = _
    simp only [Sem.run_bind, a3o hu he hs, Result.andThen, Sem.run_pure]
   simp only [Sem.run_bind, e1, e2, Result.andThen, Sem.run_pure]
  ·have e2 : (binOp .neq t (.agg #[.int k1 a, .int k2 b]) (.agg #[.int k1 c, .int k2 d])).run P w = .ok (.bool (!(a == c && b == d))) w := by
    show (do Pure.pure (Value.bool (!(<- Op.equal t _ _))) : Sem Value).run P w = _
    simp only [Sem.run_bind, a3o hu he hs, Result.andThen, Sem.run_pure]
   simp only [Sem.run_bind, e1, e2, Result.andThen, Sem.run_pure]
end
theorem b5f {ov : Bool} {op : BinOp} {k : IntKind} {m n : Int} {u : Value} {ps : List Ob} (h : b8s ov op k m n = some (u, ps)) (hps : G7 ps) : b1i op k m n = some u := by
 unfold b8s at h
 split at h
 ·cases h
  exact b2C rfl hps.1 hps.2.1
 ·cases h
  exact b2B rfl hps.1 hps.2.1
 ·cases h
  simp only [b1i, V3 hps.1 hps.2.1]
 ·split at h
  case h_2 => cases h
  rename_i v hv
  cases h
  exact hv
theorem b20 {ov : Bool} (hρ : v8 ρ σ) {op : BinOp} {t z : TypeId} {x y : Operand} (ho : o.op = .binOp op t x y z) (h : b5E P ov ρ op t x y = some (v, ps)) (hps : G7 ps) : AOp P σ o A (.value v.den) A := by
 unfold b5E at h
 split at h
 ·rename_i k m k' n hx hy
  split at h
  case h_2 => cases h
  rename_i u ps' hu hk
  cases h
  have hk' := of_decide_eq_true hk
  subst hk'
  rw [show (SV.o (ofR u)).den = u from a4N u]
  exact b56 ho (hρ _ _ hx) (hρ _ _ hy) (b5f hu hps)
 ·rename_i a b hx hy
  split at h
  case h_2 => cases h
  rename_i u hu
  cases h
  rw [show (SV.o (ofR u)).den = u from a4N u]
  exact b53 ho (hρ _ _ hx) (hρ _ _ hy) hu
 ·rename_i a b _ _ hx hy
  split at h
  ·rename_i a' b' ha hb
   split at h
   case h_2 => cases h
   rename_i u hu hv
   cases h
   rw [show (SV.o (ofR u)).den = u from a4N u]
   exact b0Z ho ((hρ _ _ hx).trans (E9 ha)) ((hρ _ _ hy).trans (E9 hb)) hu hv
  ·split at h
   ·rename_i d m n hu hm hn
    split at h
    case h_2 => cases h
    rename_i ht
    cases h
    obtain ⟨h1, h2⟩ := a9j hu hm hn ht A
    rw [show (SV.o (b65 a (m == n))).den = .bool (m == n) from a5Y _ _]
    exact b0Y ho (hρ _ _ hx) (hρ _ _ hy) h1 h2
   ·rename_i d m n hu hm hn
    split at h
    case h_2 => cases h
    rename_i ht
    cases h
    obtain ⟨h1, h2⟩ := a9j hu hm hn ht A
    rw [show (SV.o (b65 a (!(m == n)))).den = .bool (!(m == n)) from a5Y _ _]
    exact b0V ho (hρ _ _ hx) (hρ _ _ hy) h1 h2
   ·cases h
 ·rename_i k1 a b2 b k3 c k4 d hx hy
  split at h
  case h_2 => cases h
  rename_i e hu
  split at h
  case h_2 => cases h
  rename_i ki he hs hg h13 h24
  have e13 := of_decide_eq_true h13
  have e24 := of_decide_eq_true h24
  subst e13
  subst e24
  split at h
  ·cases h
   exact a4b hu he hs hg ho (hρ _ _ hx) (hρ _ _ hy) (.inl ⟨rfl, rfl⟩)
  ·cases h
   exact a4b hu he hs hg ho (hρ _ _ hx) (hρ _ _ hy) (.inr ⟨rfl, rfl⟩)
  ·cases h
 ·cases h
theorem b0Q {c : Operand} {h e0 : Bool} {v : SV} {b : Bool} {ps : List Ob} (e : b6l c h e0 v = some (b, ps)) (hps : G7 ps) (hh : a3m h e0 = true) : v.den = .bool b := by
 unfold b6l at e
 split at e
 ·split at e
  case h_2 => cases e
  rename_i b' hb
  cases e
  exact E9 hb
 ·rename_i d kb e' x
  split at e
  case h_2 => cases e
  rename_i b' hb
  have key : e' = true -> (SV.kk d kb e' false [x]).den = .bool b' := fun he => by
   simp only [SV.den, he, if_true, Y6, List.headD_cons]
   exact E9 hb
  split at e
  ·split at e
   ·cases e
    exact key (by rw [hps.1, hh])
   ·cases e
    exact key (hps.1 hh)
  ·cases e
   exact key (hps.1 hh)
 ·cases e
theorem a6y {c : Operand} {h e0 b : Bool} {ps : List Ob} {x : Bool} (e : b6l c h e0 (.o (.v (.bool x))) = some (b, ps)) : b = x := by
 unfold b6l at e
 simp only [U4] at e
 cases e; rfl
theorem a90 (hρ : v8 ρ σ) {c x y : Operand} (ho : o.op = .pick c x y) (h : a91 ρ c x y = some (v, ps)) (hps : G7 ps) : AOp P σ o A (.value v.den) A := by
 unfold a91 at h
 split at h
 ·rename_i hc
  rw [Option.map_eq_some_iff] at h
  obtain ⟨u, hu, e⟩ := h
  cases e
  exact a1f ho (hρ _ _ hc) (hρ _ _ hu)
 ·rename_i hc
  rw [Option.map_eq_some_iff] at h
  obtain ⟨u, hu, e⟩ := h
  cases e
  exact a1f ho (hρ _ _ hc) (hρ _ _ hu)
 ·rename_i e hc
  split at h
  case h_2 => cases h
  rename_i vx vy hx hy
  split at h
  case h_2 => cases h
  rename_i bx p1 b_y p2 h1 h2
  cases h
  obtain ⟨q1, q2⟩ := G7.split hps
  refine a1f (b := e) ho (hρ _ _ hc) ?_
  rw [hρ _ _ hx, hρ _ _ hy]
  show _ = Value.bool (b7S e vx vy bx b_y)
  rw [b4I _ _ _ _ _ (fun e1 => by rw [e1] at h1; exact a6y h1) (fun e2 => by rw [e2] at h2; exact a6y h2)]
  cases e with
  | true => exact b0Q h1 q1 rfl
  | false => exact b0Q h2 q2 rfl
 ·cases h
theorem a2L (hρ : v8 ρ σ) {x : Operand} (ho : o.op = .nilCheck x) (h : Y4 ρ x = some (v, ps)) : AOp P σ o A (.value v.den) A := by
 unfold Y4 at h
 split at h
 case h_2 => cases h
 rename_i hx
 cases h
 exact a4c ho (hρ _ _ hx)
theorem b2Y (hρ : v8 ρ σ) {t : TypeId} {x : Operand} (ho : o.op = .unOp .not t x) (h : b5z ρ x = some (v, ps)) : AOp P σ o A (.value v.den) A := by
 unfold b5z at h
 split at h
 ·rename_i hx
  cases h
  exact b0U ho (hρ _ _ hx)
 ·rename_i hx
  cases h
  exact b0U ho (hρ _ _ hx)
 ·cases h
theorem a99 (hρ : v8 ρ σ) {s d : TypeId} {x : Operand} (ho : o.op = .convert s d x) (h : b0a P ρ s d x = some (v, ps)) : AOp P σ o A (.value v.den) A := by
 unfold b0a at h
 split at h
 case h_2 => cases h
 rename_i k0 n k u0 hx hu hs
 cases h
 have hx' : σ x = .int k0 n := hρ _ _ hx
 refine O1 rfl ?_ (by rw [ho]; rfl) fun w => ?_
 ·rw [ho]; intro u hu
  simp only [Op.operands, mem_toArray, mem_cons, not_mem_nil, or_false] at hu
  subst hu; rw [hx']; rfl
 ·unfold execOp; rw [ho]
  simp only [hx', convert, Sem.run_bind, d9 hs, d9 hu, Result.andThen, Conv.intToInt, Sem.run_pure]
  rfl
theorem a95 (hρ : v8 ρ σ) {c : Call} (ho : o.op = .call c) (hc : c.callee = .builtin .len) (h : a96 P ρ c = some (v, ps)) : AOp P σ o A (.value v.den) A := by
 have key : ∀ {x : SV}, c.args.toList.map ρ = [some x] -> c.args.toList.map σ = [x.den] := fun {x} hm => by
  obtain ⟨y, e, hy⟩ := List.map_eq_singleton_iff.1 hm
  rw [e, List.map_singleton, hρ _ _ hy]
 unfold a96 at h
 split at h
 ·rename_i g q w oo n cc nl t hx ht
  split at h
  case h_2 => cases h
  rename_i e hu
  cases h
  exact b0X ho hc ht hu (key hx)
 ·rename_i b n cc t hx ht
  split at h
  case h_2 => cases h
  rename_i e hu
  cases h
  exact b0X ho hc ht hu (key hx)
 ·rename_i s t hx ht
  split at h
  case h_2 => cases h
  rename_i hu
  cases h
  have hx' := key hx
  refine O1 rfl ?_ (by rw [ho]; rfl) fun w => ?_
  ·rw [ho]
   intro u hu
   simp only [Op.operands, Call.operands, hc, Array.empty_append] at hu
   have : σ u ∈ c.args.toList.map σ := List.mem_map.2 ⟨u, by simpa using hu, rfl⟩
   rw [hx'] at this
   simp only [mem_cons, not_mem_nil, or_false] at this
   rw [this]; rfl
  ·unfold execOp; rw [ho]
   simp only [resolve, hc, G9 hx', Sem.run_bind, Sem.run_pure, Result.andThen, invoke, builtin, Builtin.len_, ht]
   simp [SV.den, C1.den, d9 hu, Sem.run_bind, Result.andThen, Sem.run_pure, goInt]
 ·cases h
theorem b3r {x : C1} {n k : Nat} (h : b8x x = some (n, k)) : x.den = .slice none n k := by
 unfold b8x at h
 split at h <;> cases h <;> rfl
theorem b2Z (hρ : v8 ρ σ) {c : Call} (ho : o.op = .call c) (hc : c.callee = .builtin .cap) (h : b5D P ρ c = some (v, ps)) : AOp P σ o A (.value v.den) A := by
 unfold b5D at h
 split at h
 case h_2 => cases h
 rename_i x t hm ht
 split at h
 case h_2 => cases h
 rename_i n k e hx hu
 cases h
 have hx' : c.args.toList.map σ = [.slice none n k] := by
  obtain ⟨y, e, hy⟩ := List.map_eq_singleton_iff.1 hm
  rw [e, List.map_singleton, hρ _ _ hy, SV.den, b3r hx]
 refine O1 rfl ?_ (by rw [ho]; rfl) fun w => ?_
 ·rw [ho]
  intro u hu
  simp only [Op.operands, Call.operands, hc, Array.empty_append] at hu
  have : σ u ∈ c.args.toList.map σ := List.mem_map.2 ⟨u, by simpa using hu, rfl⟩
  rw [hx'] at this
  simp only [mem_cons, not_mem_nil, or_false] at this
  rw [this]; rfl
 ·unfold execOp; rw [ho]
  simp only [resolve, hc, G9 hx', Sem.run_bind, Sem.run_pure, Result.andThen, invoke, builtin, Builtin.cap_, ht]
  simp [SV.den, C1.den, d9 hu, Sem.run_bind, Result.andThen, Sem.run_pure, goInt]
theorem a02 (hρ : v8 ρ σ) {mn : Bool} {c : Call} (ho : o.op = .call c) (hc : c.callee = .builtin (if mn then .min else .max)) (h : a0q ρ mn c = some (v, ps)) (hps : G7 ps) : AOp P σ o A (.value v.den) A := by
 unfold a0q at h
 split at h
 case h_2 => cases h
 rename_i k m k' n hx
 cases h
 obtain ⟨rfl, _⟩ := hps
 have hm : c.args.toList.map σ = [.int k' m, .int k' n] := by
  obtain ⟨y, l, e, hy, hl⟩ := List.map_eq_cons_iff.1 hx
  obtain ⟨z, e', hz⟩ := List.map_eq_singleton_iff.1 hl
  rw [e, e', map_cons, List.map_singleton, hρ _ _ hy, hρ _ _ hz]
  rfl
 have hp : o.op.operands.toList.all (fun x => r7 (σ x)) = true := by
  rw [ho]
  simp only [Op.operands, Call.operands]
  have : ∀ x ∈ c.args.toList, r7 (σ x) = true := fun x hx => by
   have : σ x ∈ c.args.toList.map σ := List.mem_map.2 ⟨x, hx, rfl⟩
   rw [hm] at this
   simp only [mem_cons, not_mem_nil, or_false] at this
   rcases this with e | e <;> (rw [e]; rfl)
  rw [all_eq_true]
  intro x hx
  cases mn <;> (simp only [hc, Bool.false_eq_true, if_true, if_false] at hx; exact this x (by simpa using hx))
 cases mn with
 | true => exact b54 ho hc hm hp
 | false => exact b55 ho hc hm hp
theorem a5T {l : List Operand} {cs : List C1} (hρ : v8 ρ σ) (h : b6V (l.map ρ) = some cs) : l.map σ = cs.map C1.den := by
 induction l generalizing cs with
 | nil => cases h; rfl
 | cons x l ih =>
  simp only [map_cons] at h ⊢
  unfold b6V at h
  split at h
  ·rename_i e; cases e
  ·rename_i c l' e
   cases hx : ρ x with
   | none => rw [hx] at e; cases e
   | some u =>
    rw [hx] at e
    simp only [List.cons.injEq, Option.some.injEq] at e
    obtain ⟨rfl, rfl⟩ := e
    split at h
    case h_2 => cases h
    rename_i cs' h'
    cases h
    rw [ih h', hρ _ _ hx]; rfl
  ·cases h
theorem a97 (hρ : v8 ρ σ) {f : FuncId} {first cap : Array Operand} (ho : o.op = .makeFunc (.func f) first cap) (h : a98 ρ f first cap = some (v, ps)) : AOp P σ o A (.value v.den) A := by
 unfold a98 at h
 split at h
 case h_2 => cases h
 rename_i l l' h1 h2
 cases h
 exact b3B ho (a5T hρ h1) (a5T hρ h2)
theorem a3T (hρ : v8 ρ σ) {x : Operand} {i : Nat} (ho : o.op = .extract x i) (h : a03 ρ x i = some (v, ps)) : AOp P σ o A (.value v.den) A := by
 unfold a03 at h
 split at h
 case h_2 => cases h
 rename_i l hx
 have hx' := hρ _ _ hx
 have key : ∀ c, l[i]? = some c -> AOp P σ o A (.value (Y6 c)) A := fun c hc => by
  refine .inr (.inl ⟨by rw [ho]; trivial, ?_⟩)
  unfold execOp; rw [ho]
  simp only [hx', SV.den, Instr.extract, getElem?_toArray, getElem?_map, hc, Option.map_some, Sem.run_bind, Sem.run_pure, Result.andThen]
 split at h
 ·rename_i cs hc
  cases h
  exact key _ hc
 ·rename_i cs hc
  cases h
  exact key _ hc
 ·cases h
end
end Go.Abs
open List (mapM_cons foldl_cons append_assoc map_append map_cons take_append_drop drop_drop eq_nil_of_length_eq_zero set_append_right getElem?_cons_zero)
namespace Go.Abs
section
variable {P : Program} {ρ : Operand -> Option SV} {σ : Operand -> Value} {hp : List Ch} {F : Ft} {A : World} {o : Oper} {v : SV} {ps : List Ob}
theorem a8x (off : Nat) : ∀ (cs a b c : List Value) (k : Nat), a.length = off + k -> b.length = cs.length -> (cs.zipIdx k).foldl (fun (x : Array Value) p => x.setIfInBounds (off + p.2) p.1) (a ++ b ++ c).toArray = (a ++ cs ++ c).toArray
 | [], a, b, c, k, _, hb => by
  have : b = [] := eq_nil_of_length_eq_zero (by simpa using hb)
  subst this; rfl
 | v :: cs, a, [], c, k, _, hb => by simp at hb
 | v :: cs, a, w :: b, c, k, ha, hb => by
  have ih := a8x off cs (a ++ [v]) b c (k + 1) (by simp; omega) (by simpa using hb)
  simp only [List.zipIdx_cons, foldl_cons]
  have e1 : ((a ++ w :: b ++ c).toArray).setIfInBounds (off + k) v = (a ++ [v] ++ b ++ c).toArray := by
   rw [<- ha]
   simp [set_append_right]
  rw [e1, ih]; simp
theorem b4X {l cs : List C1} {off : Nat} (h : off + cs.length <= l.length) : (d0 cs).zipIdx.foldl (fun (x : Array Value) p => x.setIfInBounds (off + p.2) p.1) (d0 l) = d0 (a3u l off cs) := by
 have hs : l = l.take off ++ (l.drop off).take cs.length ++ l.drop (off + cs.length) := by
  rw [<- drop_drop, append_assoc, take_append_drop, take_append_drop]
 rw [<- Array.foldl_toList]
 have e : (d0 cs).zipIdx.toList = (cs.map C1.den).zipIdx 0 := by simp [d0]
 rw [e]
 have := a8x off (cs.map C1.den) ((l.take off).map C1.den) (((l.drop off).take cs.length).map C1.den) ((l.drop (off + cs.length)).map C1.den) 0 (by simp; omega) (by simp; omega)
 rw [<- map_append, <- map_append, <- hs] at this
 rw [show d0 l = (l.map C1.den).toArray from rfl, this]
 simp [d0, a3u]
theorem J5 {l : List C1} : (d0 l).size = l.length := by simp [d0]
theorem a2H (hρ : v8 ρ σ) {place place' : Nat -> Option (Nat × Nat)} (hpl : ∀ i x, place i = some x -> place' i = some x) : ∀ {parts : List (Nat × Operand)} {l l' : List C1} {ps : List Ob}, fillL place l (parts.map fun p => (p.1, ρ p.2)) = some (l', ps) -> G7 ps -> Instr.fill place' (d0 l) (parts.map fun p => (p.1, σ p.2)) = some (d0 l')
 | [], l, l', ps, h, _ => by cases h; rfl
 | (i, x) :: parts, l, l', ps, h, hps => by
  simp only [map_cons] at h ⊢
  unfold fillL at h
  split at h
  case h_2 => cases h
  rename_i off size v hi hx
  split at h
  case h_2 => cases h
  rename_i cs hc
  split at h
  case h_2 => cases h
  rename_i h1 h2
  split at h
  case h_2 => cases h
  rename_i l2 ps2 h3
  cases h
  obtain ⟨hone, hps⟩ := hps
  have hcell : (σ x).cells = d0 cs := by rw [hρ _ _ hx]; exact SV.cells_den hc hone
  have hle := Nat.le_of_ble_eq_true h2
  have hsz := Nat.eq_of_beq_eq_true h1
  unfold Instr.fill
  rw [hpl _ _ hi]
  simp only [hcell, J5, hsz]
  rw [if_neg (by simp; omega)]
  have := b4X (l := l) (cs := cs) (off := off) hle
  rw [this]
  exact a2H hρ hpl h3 hps
theorem a1O : ∀ {fs : List Field} (w : World), (Z8 P fs).all Option.isSome = true -> ∃ r : List (Nat × Nat), (fs.mapM (fun f => Go.sizeOf f.type >>= fun s => (Pure.pure (f.offset, s) : Sem (Nat × Nat)))).run P w = .ok r w /\ ∀ (k : Nat) x, (Z8 P fs)[k]? = some (some x) -> r[k]? = some x
 | [], w, _ => ⟨[], by simp [Sem.run_pure], fun k x h => by simp [Z8] at h⟩
 | f :: fs, w, h => by
  simp only [Z8, map_cons, List.all_cons, Bool.and_eq_true] at h
  obtain ⟨r, h1, h2⟩ := a1O (fs := fs) w h.2
  cases ht : tsz P f.type with
  | none => rw [ht] at h; simp at h
  | some p =>
   obtain ⟨n, g⟩ := p
   refine ⟨(f.offset, n) :: r, ?_, fun k x hk => ?_⟩
   ·simp only [mapM_cons, Sem.run_bind, p8 (v6 ht), Result.andThen, Sem.run_pure, h1]
   ·cases k with
    | zero => simp only [Z8, map_cons, ht, getElem?_cons_zero, Option.some.injEq] at hk; subst hk; rfl
    | succ k => exact h2 k x (by simpa [Z8] using hk)
theorem a7f (hρ : v8 ρ σ) {t : TypeId} {parts : Array (Nat × Operand)} (ho : o.op = .build t parts) (h : a42 P ρ t parts = some (v, ps)) (hps : G7 ps) : AOp P σ o A (.value v.den) A := by
 have hzc : ∀ z : Value, d0 (z.cells.toList.map C1.v) = z.cells := fun z => by
  apply Array.ext'
  simp [d0, Function.comp_def, C1.den]
 have hpm : (parts.map fun (p : Nat × Operand) => (p.1, σ p.2)).toList = parts.toList.map fun p => (p.1, σ p.2) := by simp
 unfold a42 at h
 split at h
 ·rename_i fs i hu hi
  split at h
  case h_2 => cases h
  rename_i z hz
  split at h
  case h_2 => cases h
  rename_i l ps' hf
  split at h
  case h_2 => cases h
  rename_i hall
  cases h
  obtain ⟨r, h1, h2⟩ := a1O (P := P) (fs := fs.toList) A hall
  refine .inr (.inl ⟨by rw [ho]; trivial, ?_⟩)
  unfold execOp; rw [ho]
  have hm : (fs.mapM fun f => Go.sizeOf f.type >>= fun s => (Pure.pure (f.offset, s) : Sem (Nat × Nat))).run P A = .ok r.toArray A := by
   rw [Array.mapM_eq_mapM_toList]
   simp only [map_eq_pure_bind, Sem.run_bind, h1, Result.andThen, Sem.run_pure]
  have := a2H (place' := fun k => r.toArray[k]?) hρ (fun k x hk => by
   split at hk
   ·rename_i o2 h3
    subst hk
    have := h2 k x h3
    simpa using this
   ·cases hk) hf hps
  rw [hzc] at this
  simp only [Instr.build, Sem.run_bind, Result.andThen, y5 hi hz, d9 hu]
  rw [hm]
  simp only [hpm, this, Sem.run_pure]
  rfl
 ·rename_i n e i hu hi
  split at h
  case h_2 => cases h
  rename_i z n' g hz ht
  split at h
  case h_2 => cases h
  rename_i l ps' hf
  cases h
  refine .inr (.inl ⟨by rw [ho]; trivial, ?_⟩)
  unfold execOp; rw [ho]
  have := a2H (place' := fun k => some (k * n', n')) hρ (fun k x hk => hk) hf hps
  rw [hzc] at this
  simp only [Instr.build, Sem.run_bind, Result.andThen, y5 hi hz, d9 hu, p8 (v6 ht), hpm, this, Sem.run_pure]
  rfl
 ·cases h
theorem b4g {l : List Ch} {n q : Nat} {c : Ch} {t : TypeId} {z : Bool} (h : fnd l n = some c) (hc : chT c = some (q, t, z)) (hp : (hpA l).p F A) : z = true ∨ ∃ cs fz, fz ≠ (2, 0) /\ A.heap[q]? = some (.cells cs t fz) := by
 cases c with
 | blk => cases hc; obtain ⟨fz, h1, h2⟩ := a36 h hp; exact .inr ⟨_, fz, b2R h1, h2⟩
 | vec =>
  cases hc
  obtain ⟨h, _⟩ | ⟨_, _, fz, h1, h2⟩ := b3M h hp
  ·exact .inl h
  ·exact .inr ⟨_, fz, b2R h1, h2⟩
 | as => cases hc
theorem P3 {v : Value} {k : IntKind} {z : Int} {y : Nat} {code : BoundsCode} {w : World} (hv : v = .int k z) (h0 : 0 <= z) (h : z <= y) : (Instr.sliceBound v y code).run P w = .ok z.toNat w := by
 subst hv
 simp only [Instr.sliceBound, asIntOf, Sem.run_bind, Sem.run_pure, Result.andThen]
 rw [if_pos ⟨h0, h⟩]; rfl
def i5 (b : Option (IntKind × Int)) (d : Nat) : Int := match b with
 | none => d
 | some (_, z) => z
theorem a6v (hρ : v8 ρ σ) {x : Option Operand} {b : Option (IntKind × Int)} (h : bnd ρ x = some b) : x.map σ = b.map fun p => .int p.1 p.2 := by
 unfold bnd at h
 split at h
 ·cases h; rfl
 ·rename_i x
  split at h
  case h_2 => cases h
  rename_i k z hx
  cases h
  simp only [Option.map_some, hρ _ _ hx]; rfl
theorem a5L {isS : Bool} {len cap : Nat} {lo hi : Option (IntKind × Int)} (h1 : 0 <= i5 lo 0) (h2 : i5 lo 0 <= i5 hi len) (h3 : i5 hi len <= cap) (w : World) :
  (Instr.sliceBounds isS len cap (lo.map fun p => .int p.1 p.2) (hi.map fun p => .int p.1 p.2) none).run P w = .ok ((i5 lo 0).toNat, (i5 hi len).toNat, cap) w := by
 unfold Instr.sliceBounds
 cases hi with
 | none =>
  simp only [i5] at h2 h3 ⊢
  cases lo with
  | none => simp only [Option.map_none, Sem.run_bind, Sem.run_pure, Result.andThen]; rfl
  | some p =>
   simp only [i5] at h1 h2 ⊢
   simp only [Option.map_none, Option.map_some, Sem.run_bind, Sem.run_pure, Result.andThen, P3 (v := .int p.1 p.2) rfl h1 h2, Option.isSome_none]
   rfl
 | some r =>
  simp only [i5] at h2 h3 ⊢
  cases lo with
  | none =>
   simp only [i5] at h1 h2 ⊢
   simp only [Option.map_none, Option.map_some, Sem.run_bind, Sem.run_pure, Result.andThen, P3 (v := .int r.1 r.2) rfl h2 h3]; rfl
  | some p =>
   simp only [i5] at h1 h2 ⊢
   have h4 : p.2 <= (r.2.toNat : Int) := by omega
   simp only [Option.map_some, Sem.run_bind, Sem.run_pure, Result.andThen, P3 (v := .int r.1 r.2) rfl (by omega : (0 : Int) <= r.2) h3, P3 (v := .int p.1 p.2) rfl h1 h4, Option.isSome_none]
theorem O0 (hρ : v8 ρ σ) {t e : TypeId} {n : Nat} {g : Bool} {x : Operand} {lo hi : Option Operand} {lo' hi' : Option (IntKind × Int)} {b : Option Addr} {len cap : Nat} (ho : o.op = .slice t x lo hi none) (hx : σ x = .slice b len cap) (hu : P.underlying t = some (.slice e)) (h1 : a7y P e n g = true)
  (hlo : bnd ρ lo = some lo') (hhi : bnd ρ hi = some hi') (k1 : 0 <= i5 lo' 0) (k2 : i5 lo' 0 <= i5 hi' len) (k3 : i5 hi' len <= cap) (hlen : len <= cap)
  (hb : ∀ a, b = some a -> ∃ cs t' fz, A.heap[a.block]? = some (.cells cs t' fz) /\ fz ≠ (2, 0) /\ (fz = (1, 0) -> P.cellsOf e = P.cellsOf t')) :
  AOp P σ o A (.value (.slice (if cap = (i5 lo' 0).toNat then b else b.map (·.add ((i5 lo' 0).toNat * n))) ((i5 hi' len).toNat - (i5 lo' 0).toNat) (cap - (i5 lo' 0).toNat))) A := by
 refine .inr (.inl ⟨?_, ?_⟩)
 ·rw [ho]
  refine ⟨fun a l' c' h' => ?_, fun e' h' => ?_, fun el he a l' c' h' => ?_⟩
  ·rw [hx] at h'; cases h'; exact hlen
  ·rw [hu] at h'; cases h'
  ·rw [hu] at he; cases he; rw [hx] at h'; cases h'; exact hb a rfl
 ·unfold execOp; rw [ho]
  simp only [Instr.sliceAt, Instr.slice, hx, Sem.run_bind, Sem.run_pure, Result.andThen, d9 hu, p8 h1, a6v hρ hlo, a6v hρ hhi, Option.map_none, a5L k1 k2 k3]
theorem Z1 (hρ : v8 ρ σ) {t : TypeId} {x : Operand} {lo hi : Option Operand} {lo' hi' : Option (IntKind × Int)} {s : ByteArray} (ho : o.op = .slice t x lo hi none) (hx : σ x = .string s) (hu : P.underlying t = some .string)
  (hlo : bnd ρ lo = some lo') (hhi : bnd ρ hi = some hi') (k1 : 0 <= i5 lo' 0) (k2 : i5 lo' 0 <= i5 hi' s.size) (k3 : i5 hi' s.size <= s.size) :
  AOp P σ o A (.value (.string (s.extract (i5 lo' 0).toNat (i5 hi' s.size).toNat))) A := by
 refine .inr (.inl ⟨?_, ?_⟩)
 ·rw [ho]
  refine ⟨fun a l' c' h' => ?_, fun e' h' => ?_, fun el he a l' c' h' => ?_⟩
  ·rw [hx] at h'; cases h'
  ·rw [hu] at h'; cases h'
  ·rw [hu] at he; cases he
 ·unfold execOp; rw [ho]
  simp only [Instr.sliceAt, Instr.slice, hx, Sem.run_bind, Sem.run_pure, Result.andThen, d9 hu, a6v hρ hlo, a6v hρ hhi, Option.map_none]
  simp [a5L k1 k2 k3, Result.andThen]
theorem T0 {z : Bool} {q a n : Nat} : (cond z none (some (⟨q, a, none⟩ : Addr))).map (·.add n) = cond z none (some ⟨q, a + n, none⟩) := by
 cases z
 ·simp [Addr.add_mk]
 ·rfl
theorem a7c (hρ : v8 ρ σ) (hH : (hpA hp).p F A) {t : TypeId} {x : Operand} {lo hi : Option Operand} (ho : o.op = .slice t x lo hi none) (h : a4Z P ρ hp t x lo hi = some (v, ps)) (hps : G7 ps) : AOp P σ o A (.value v.den) A := by
 unfold a4Z at h
 split at h
 ·rename_i g q w oo n c z e lo' hi' hx hu hlo hhi
  have hx' : σ x = .slice (cond z none (some ⟨q, oo * w, none⟩)) n c := hρ _ _ hx
  split at h
  case h_2 => cases h
  rename_i sz ag ht
  split at h
  case h_2 => cases h
  rename_i c0 hw hf
  obtain rfl := Nat.eq_of_beq_eq_true hw
  split at h
  case h_2 => cases h
  rename_i q' t' z' hc
  split at h
  case h_2 => cases h
  rename_i hce
  have hbk : q = q' -> z = z' -> ∀ a : Addr, cond z none (some (⟨q, oo * sz, none⟩ : Addr)) = some a -> ∃ cs t' fz, A.heap[a.block]? = some (.cells cs t' fz) /\ fz ≠ (2, 0) /\ (fz = (1, 0) -> P.cellsOf e = P.cellsOf t') := fun hq hz a ha => by
   subst hq; subst hz
   cases z with
   | true => cases ha
   | false =>
    cases ha
    obtain h | ⟨cs, fz, hne, hB⟩ := b4g hf hc hH
    ·cases h
    ·exact ⟨cs, t', fz, hB, hne, fun _ => Nat.eq_of_beq_eq_true hce⟩
  have low : ∀ {l : Int}, 0 <= l -> (l.toNat + oo) * sz = oo * sz + l.toNat * sz := fun {l} _ => by rw [Nat.add_mul, Nat.add_comm]
  split at h
  ·cases h
   obtain ⟨hq, hz, hnc, _⟩ := hps
   have := O0 hρ (A := A) ho hx' hu (v6 ht) hlo hhi (by simp [i5]) (by simp [i5]) (by simpa [i5] using hnc) hnc (hbk hq hz)
   simpa [i5, SV.den, C1.den, T0] using this
  ·cases h
   obtain ⟨hq, hz, hnc, h0, h1, _⟩ := hps
   have := O0 hρ (A := A) ho hx' hu (v6 ht) hlo hhi (by simp [i5]) (by simpa [i5] using h0) (by simpa [i5] using h1) hnc (hbk hq hz)
   simpa [i5, SV.den, C1.den, T0] using this
  ·rename_i kk l
   cases h
   obtain ⟨hq, hz, hnc, h0, h1, _⟩ := hps
   have := O0 hρ (A := A) ho hx' hu (v6 ht) hlo hhi (by simpa [i5] using h0) (by simpa [i5] using h1) (by simpa [i5] using hnc) hnc (hbk hq hz)
   simp only [i5, Int.toNat_natCast] at this
   show AOp P σ o A (.value (.slice (cond z none (some ⟨q, ofs c l.toNat oo * sz, none⟩)) _ _)) A
   unfold ofs
   by_cases hne : c = l.toNat
   ·rw [if_pos hne]; simpa [hne] using this
   ·rw [if_neg hne]; simpa [hne, T0, low h0] using this
  ·rename_i kk l kk' h'
   cases h
   obtain ⟨hq, hz, hnc, h0, h1, h2, _⟩ := hps
   have := O0 hρ (A := A) ho hx' hu (v6 ht) hlo hhi (by simpa [i5] using h0) (by simpa [i5] using h1) (by simpa [i5] using h2) hnc (hbk hq hz)
   simp only [i5] at this
   show AOp P σ o A (.value (.slice (cond z none (some ⟨q, ofs c l.toNat oo * sz, none⟩)) _ _)) A
   unfold ofs
   by_cases hne : c = l.toNat
   ·rw [if_pos hne]; simpa [hne] using this
   ·rw [if_neg hne]; simpa [hne, T0, low h0] using this
 ·rename_i s lo' hi' hx hu hlo hhi
  have hx' : σ x = .string s := hρ _ _ hx
  split at h
  ·cases h
  ·cases h
   obtain ⟨h0, h1, _⟩ := hps
   have := Z1 hρ (A := A) ho hx' hu hlo hhi (by simp [i5]) (by simpa [i5] using h0) (by simpa [i5] using h1)
   simpa [i5, SV.den, C1.den] using this
  ·cases h
   obtain ⟨h0, h1, _⟩ := hps
   have := Z1 hρ (A := A) ho hx' hu hlo hhi (by simpa [i5] using h0) (by simpa [i5] using h1) (by simp [i5])
   simpa [i5, SV.den, C1.den] using this
  ·cases h
   obtain ⟨h0, h1, h2, _⟩ := hps
   have := Z1 hρ (A := A) ho hx' hu hlo hhi (by simpa [i5] using h0) (by simpa [i5] using h1) (by simpa [i5] using h2)
   simpa [i5, SV.den, C1.den] using this
 ·cases h
theorem a8I {isS : Bool} {len cap : Nat} {kl kh km : IntKind} {l h m : Int} (h1 : 0 <= l) (h2 : l <= h) (h3 : h <= m) (h4 : m <= cap) (w : World) :
  (Instr.sliceBounds isS len cap (some (.int kl l)) (some (.int kh h)) (some (.int km m))).run P w = .ok (l.toNat, h.toNat, m.toNat) w := by
 unfold Instr.sliceBounds
 simp only [Sem.run_bind, Sem.run_pure, Result.andThen, Option.isSome_some]
 rw [P3 (v := .int km m) rfl (by omega) h4]
 simp only
 rw [P3 (v := .int kh h) rfl (by omega) (by omega)]
 simp only
 rw [P3 (v := .int kl l) rfl h1 (by omega)]
theorem a4Y (hρ : v8 ρ σ) (hH : (hpA hp).p F A) {t : TypeId} {x lo hi mx : Operand} (ho : o.op = .slice t x (some lo) (some hi) (some mx)) (h : a2K P ρ hp t x lo hi mx = some (v, ps)) (hps : G7 ps) : AOp P σ o A (.value v.den) A := by
 unfold a2K at h
 split at h
 case h_2 => cases h
 rename_i g q w oo n c z e kl l kh hh km m hx hu hlo hhi hmx
 have hx' : σ x = .slice (cond z none (some ⟨q, oo * w, none⟩)) n c := hρ _ _ hx
 split at h
 case h_2 => cases h
 rename_i sz ag ht
 split at h
 case h_2 => cases h
 rename_i c0 hw hf
 obtain rfl := Nat.eq_of_beq_eq_true hw
 split at h
 case h_2 => cases h
 rename_i q' t' z' hc
 split at h
 case h_2 => cases h
 rename_i hce
 cases h
 obtain ⟨hq, hz, hnc, h0, h1, h2, h3, _⟩ := hps
 subst hq; subst hz
 have hbk : ∀ a : Addr, cond z none (some (⟨q, oo * sz, none⟩ : Addr)) = some a -> ∃ cs t' fz, A.heap[a.block]? = some (.cells cs t' fz) /\ fz ≠ (2, 0) /\ (fz = (1, 0) -> P.cellsOf e = P.cellsOf t') := fun a ha => by
  cases z with
  | true => cases ha
  | false =>
   cases ha
   obtain h | ⟨cs, fz, hne, hB⟩ := b4g hf hc hH
   ·cases h
   ·exact ⟨cs, t', fz, hB, hne, fun _ => Nat.eq_of_beq_eq_true hce⟩
 refine .inr (.inl ⟨?_, ?_⟩)
 ·rw [ho]
  refine ⟨fun a l' c' h' => ?_, fun e' h' => ?_, fun el he a l' c' h' => ?_⟩
  ·rw [hx'] at h'; cases h'; exact hnc
  ·rw [hu] at h'; cases h'
  ·rw [hu] at he; cases he; rw [hx'] at h'
   generalize hb : cond z none (some (⟨q, oo * sz, none⟩ : Addr)) = b at h'
   cases h'
   exact hbk a hb
 ·unfold execOp; rw [ho]
  have e1 : σ lo = .int kl l := hρ _ _ hlo
  have e2 : σ hi = .int kh hh := hρ _ _ hhi
  have e3 : σ mx = .int km m := hρ _ _ hmx
  simp only [Instr.sliceAt, Instr.slice, hx', Option.map_some, e1, e2, e3, Sem.run_bind, Sem.run_pure, Result.andThen, d9 hu, p8 (v6 ht), a8I h0 h1 h2 h3]
  show _ = Result.ok (Next.value (.slice (cond z none (some ⟨q, ofs m.toNat l.toNat oo * sz, none⟩)) _ _)) A
  unfold ofs
  by_cases hne : m.toNat = l.toNat
  ·rw [if_pos hne, if_pos hne]
  ·rw [if_neg hne, if_neg hne, T0, Nat.add_mul, Nat.add_comm (oo * sz)]
theorem a9X {ov : Bool} (hρ : v8 ρ σ) (hH : (hpA hp).p F A) (h : evq P ov ρ hp o.op = some (v, ps)) (hps : G7 ps) : AOp P σ o A (.value v.den) A := by
 have mp : ∀ {x : Option SV}, x.map (fun v => (v, ([] : List Ob))) = some (v, ps) -> x = some v := fun {x} h => by
  rw [Option.map_eq_some_iff] at h
  obtain ⟨u, hu, e⟩ := h
  cases e; exact hu
 unfold evq at h
 split at h <;> rename_i ho
 ·exact b7K ho (hρ _ _ (mp h))
 ·exact b7L ho (hρ _ _ (mp h))
 ·exact a90 hρ ho h hps
 ·exact a93 hρ hH ho h hps
 ·exact a2L hρ ho h
 ·exact b20 hρ ho h hps
 ·exact b2Y hρ ho h
 ·exact a99 hρ ho h
 ·exact a1v hρ ho h
 ·exact a7e hρ ho h
 ·exact a1u hρ ho h hps
 ·exact a7d hρ ho h hps
 ·exact a97 hρ ho h
 ·exact a3T hρ ho h
 ·exact a7f hρ ho h hps
 ·exact a7c hρ hH ho h hps
 ·exact a4Y hρ hH ho h hps
 ·split at h <;> rename_i hc
  ·exact a95 hρ ho hc h
  ·exact b2Z hρ ho hc h
  ·exact a02 (mn := true) hρ ho hc h hps
  ·exact a02 (mn := false) hρ ho hc h hps
  ·cases h
 ·cases h
end
end Go.Abs
