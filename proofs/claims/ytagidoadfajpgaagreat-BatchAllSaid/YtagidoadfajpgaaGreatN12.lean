/-
  C7.
-/
import Derived.Test.YtagidoadfajpgaaGreatN11
import Derived.KernelRfl
namespace Go.Abs
structure St where
 env : List (Nat × SV)
 hp : List Ch
 sz : Nat
 nx : Nat
 ov : Bool := false
 df : List Nat := []
def mkD (q : Nat) : Deferred := { target := .collected q, args := #[] }
def Sat (B : Ft × World) (s : St) (a : Act) (A : World) : Prop := V0 s.env a /\ a.tmps.size = s.sz /\ a.defers = s.df.map mkD /\ ∃ F, (hpA s.hp).p F A /\ Mv B.1 B.2 F A
def a7z (s : St) (d : Option Tmp) (v : SV) : Option St := match d with
 | none => some s
 | some d => match Nat.blt d s.sz with
  | true => some { s with env := (d, v) :: rem s.env d }
  | false => none
theorem a0m : ∀ {l : List (Nat × SV)} {t i : Nat} {v : SV}, W9 (rem l t) i = some v -> i ≠ t /\ W9 l i = some v
 | [], t, i, v, h => by cases h
 | (j, u) :: l, t, i, v, h => by
  simp only [rem] at h
  split at h
  ·rename_i e
   obtain ⟨h1, h2⟩ := a0m h
   have := Nat.eq_of_beq_eq_true e
   refine ⟨h1, ?_⟩
   simp only [W9]
   rw [show Nat.beq j i = false from by
    cases hb : Nat.beq j i
    ·rfl
    ·exact absurd (Nat.eq_of_beq_eq_true hb) (by omega)]
   exact h2
  ·rename_i e
   simp only [W9] at h ⊢
   split at h
   ·rename_i e2
    cases h
    have := Nat.eq_of_beq_eq_true e2
    subst this
    refine ⟨fun h => ?_, rfl⟩
    subst h
    rw [Nat.beq_refl] at e; cases e
   ·exact a0m h
theorem V0.put {s : St} {a : Act} {d : Nat} {v : SV} {u : Value} (h : V0 s.env a) (hd : d < a.tmps.size) (hu : u = v.den) : V0 ((d, v) :: rem s.env d) (a.put (some d) u) := by
 intro i w hi
 have e : (a.put (some d) u).tmps = a.tmps.setIfInBounds d u := rfl
 simp only [W9] at hi
 split at hi
 ·rename_i e2
  cases hi
  have := Nat.eq_of_beq_eq_true e2
  subst this
  rw [e, Array.getD_eq_getD_getElem?, Array.getElem?_setIfInBounds_self_of_lt hd]
  exact hu
 ·obtain ⟨hne, hi⟩ := a0m hi
  rw [e, Array.getD_eq_getD_getElem?, Array.getElem?_setIfInBounds_ne (fun h => hne h.symm), <- Array.getD_eq_getD_getElem?]
  exact h i w hi
theorem H2 {B : Ft × World} {s s1 : St} {a : Act} {A A1 : World} {d : Option Tmp} {v : SV} {u : Value} {hp : List Ch} {nx : Nat} (h : Sat B s a A) (hp1 : ∃ F, (hpA hp).p F A1 /\ Mv B.1 B.2 F A1) (hs : a7z { s with hp := hp, nx := nx } d v = some s1) (hu : u = v.den) : Sat B s1 (a.put d u) A1 /\ s1.nx = nx /\ s1.hp = hp := by
 obtain ⟨h1, h2, h3, _⟩ := h
 unfold a7z at hs
 cases d with
 | none =>
  cases hs
  exact ⟨⟨h1, h2, h3, hp1⟩, rfl, rfl⟩
 | some d =>
  simp only at hs
  split at hs
  case h_2 => cases hs
  rename_i hb
  cases hs
  have hd : d < s.sz := by
   have := Nat.le_of_ble_eq_true (show Nat.ble (d + 1) s.sz = true from hb)
   exact this
  refine ⟨⟨V0.put h1 (by rw [h2]; exact hd) hu, ?_, h3, hp1⟩, rfl, rfl⟩
  show (a.tmps.setIfInBounds d u).size = _
  rw [Array.size_setIfInBounds]; exact h2
inductive Wt where
 | yes | no | may (e : Bool)
def K2 (ops : Array Oper) (env : List (Nat × SV)) (o : Oper) : Option Wt := match o.guard with
 | none => some .yes
 | some (j, b) => match (ops[j]?).bind (·.dst) with
  | none => none
  | some d => match W9 env d with
   | some (.o (.v (.bool true))) => some (match b with | true => .yes | false => .no)
   | some (.o (.v (.bool false))) => some (match b with | true => .no | false => .yes)
   | some (.o (.v (.tuple _))) => some .no
   | some (.o (.cb e)) => some (.may (a3m b e))
   | some (.kk _ _ e false [c]) => match U4 c with
    | some x => some (.may (and e (a3m b x)))
    | none => none
   | _ => none
def Wt.ok : Wt -> Bool -> Prop
 | .yes, b => b = true
 | .no, b => b = false
 | .may e, b => b = e
theorem I5 {ops : Array Oper} {s : St} {B : Ft × World} {a : Act} {A : World} {o : Oper} {b : Wt} (hs : Sat B s a A) (h : K2 ops s.env o = some b) : b.ok (Region.wanted o (yielded ops a.tmps)) := by
 unfold K2 at h
 unfold Region.wanted
 split at h
 ·rename_i hg; rw [hg]; cases h; rfl
 ·rename_i j w hg
  rw [hg]
  simp only
  split at h
  ·cases h
  ·rename_i d hd
   have key : ∀ v, W9 s.env d = some v -> yielded ops a.tmps j = match v.den with | .bool b => some b | _ => none := fun v hv => by
    have := hs.1 d v hv
    unfold yielded
    rw [hd, Option.bind_some]
    rw [Array.getD_eq_getD_getElem?] at this
    cases hx : a.tmps[d]? with
    | none =>
     rw [hx] at this
     simp only [Option.getD_none] at this
     rw [<- this]
     rfl
    | some x =>
     rw [hx] at this
     simp only [Option.getD_some] at this
     rw [<- this]
     cases x <;> rfl
   split at h
   ·rename_i hl
    cases h
    rw [key _ hl]
    cases w <;> rfl
   ·rename_i hl
    cases h
    rw [key _ hl]
    cases w <;> rfl
   ·rename_i hl
    cases h
    rw [key _ hl]
    rfl
   ·rename_i e hl
    cases h
    rw [key _ hl]
    cases w <;> cases e <;> rfl
   ·rename_i e c hl
    split at h
    case h_2 => cases h
    rename_i x hx
    cases h
    rw [key _ hl]
    have hc := E9 hx
    cases e with
    | false => simp only [SV.den, Bool.false_eq_true, if_false]; rfl
    | true =>
     simp only [SV.den, if_true, Y6, List.headD, hc]
     cases w <;> cases x <;> rfl
   ·cases h
def b72 (P : Program) (ρ : Operand -> Option SV) (q g : Nat) : Op -> Option (SV × List C1 × TypeId × List Ob)
 | .alloc t => match P.info? t with
  | some i => match i.zero with
   | some z => some (.o (.p g q 0 0 0), z.cells.toList.map C1.v, t, [])
   | none => none
  | none => none
 | .box t x => match ρ x with
  | some v => match v.cells with
   | some l => some (.o (.p g q 0 0 0), l, t, [.q (l.all C1.one) true])
   | none => none
  | none => none
 | .buildSlice t n parts => match P.underlying t with
  | some (.slice e) => match tsz P e, P.info? e with
   | some (sz, _), some i => match i.zero with
    | some z => match Nat.ble (n * sz) 16777216, Nat.beq (n * sz) 0 with
     | true, false => match fillL (fun k => some (k * sz, sz)) ((List.range (n * sz)).map fun k => C1.v (z.cells[k % z.cells.size]!)) (parts.toList.map fun p => (p.1, ρ p.2)) with
      | some (l, ps) => some (.o (.s g q sz 0 n n false), l, e, ps)
      | none => none
     | true, true => match parts.toList with
      | [] => some (.o (.s g q sz 0 n n false), [], e, [])
      | _ => none
     | _, _ => none
    | none => none
   | _, _ => none
  | _ => none
 | .makeSlice t x y => match P.underlying t, ρ x, ρ y with
  | some (.slice e), some (.o (.v (.int .i64 m))), some (.o (.v (.int .i64 n))) => match tsz P e, P.info? e with
   | some (sz, _), some i => match i.zero with
    | some z => match and (and (decide (m = n)) (decide (0 < n))) (and (Nat.ble (i.bytes * n.toNat) 16777216) (and (Nat.ble n.toNat 16777216) (Nat.ble 1 sz))) with
     | true => some (.o (.s g q sz 0 n.toNat n.toNat false), (List.range (n.toNat * sz)).map fun k => C1.v (z.cells[k % z.cells.size]!), e, [])
     | false => none
    | none => none
   | _, _ => none
  | _, _, _ => none
 | _ => none
section
variable {P : Program} {ρ : Operand -> Option SV} {σ : Operand -> Value} {o : Oper}
theorem b5A (hρ : v8 ρ σ) {q g : Nat} {v : SV} {l : List C1} {t : TypeId} {ps : List Ob} (h : b72 P ρ q g o.op = some (v, l, t, ps)) (hps : G7 ps) :
  g6 o.op = .makes /\ a3D v.den q /\ ∀ w : World, w.heap.size = q -> a2V P w σ o.op /\ (execOp σ o).run P w = .ok (.value v.den) (w.alloc (.cells (d0 l) t (0, 0))) := by
 have hzc : ∀ z : Value, d0 (z.cells.toList.map C1.v) = z.cells := fun z => by
  apply Array.ext'
  simp [d0, Function.comp_def, C1.den]
 have e00 : (⟨q, 0 * 0 + 0, none⟩ : Addr) = ⟨q, 0, none⟩ := rfl
 unfold b72 at h
 split at h
 ·rename_i t' ho
  split at h
  case h_2 => cases h
  rename_i i hi
  split at h
  case h_2 => cases h
  rename_i z hz
  cases h
  refine ⟨by rw [ho]; rfl, .inl rfl, fun w hw => ⟨by rw [ho]; trivial, ?_⟩⟩
  unfold execOp; rw [ho, hzc]
  subst hw
  simp only [Instr.alloc, Sem.run_bind, Result.andThen, y5 hi hz, newVar, newRow]
  rfl
 ·rename_i t' x ho
  split at h
  case h_2 => cases h
  rename_i u hu
  split at h
  case h_2 => cases h
  rename_i l' hl
  cases h
  obtain ⟨hone, _⟩ := hps
  have hx := hρ _ _ hu
  have hc := SV.cells_den hl hone
  refine ⟨by rw [ho]; rfl, .inl rfl, fun w hw => ⟨by rw [ho]; trivial, ?_⟩⟩
  unfold execOp; rw [ho]
  subst hw
  simp only [hx, Instr.box, newVar, newRow, hc]
  rfl
 ·rename_i t' n parts ho
  split at h
  case h_2 => cases h
  rename_i e hu
  split at h
  case h_2 => cases h
  rename_i sz ag i ht hi
  split at h
  case h_2 => cases h
  rename_i z hz
  split at h
  case h_3 => cases h
  ·rename_i h1 h2
   split at h
   case h_2 => cases h
   rename_i l' ps' hf
   cases h
   have h1' := Nat.le_of_ble_eq_true h1
   have h2' : ¬ n * sz = 0 := fun e => by rw [e] at h2; cases h2
   refine ⟨by rw [ho]; rfl, .inr (.inl ⟨n, n, ?_⟩), fun w hw => ⟨by rw [ho]; trivial, ?_⟩⟩
   ·show Value.slice (some ⟨q, 0 * sz, none⟩) n n = _
    rw [Nat.zero_mul]
   unfold execOp; rw [ho]
   subst hw
   have hpm : (parts.map fun (p : Nat × Operand) => (p.1, σ p.2)).toList = parts.toList.map fun p => (p.1, σ p.2) := by simp
   have := a2H (place' := fun k => some (k * sz, sz)) hρ (fun k x hk => hk) hf hps
   have hcz : d0 ((List.range (n * sz)).map fun k => C1.v (z.cells[k % z.cells.size]!)) = (Array.range (n * sz)).map (z.cells[· % z.cells.size]!) := by
    apply Array.ext'
    simp [d0, Function.comp_def, C1.den]
   rw [hcz] at this
   simp only [Instr.buildSlice, Sem.run_bind, Result.andThen, d9 hu, p8 (v6 ht)]
   rw [if_neg (by omega), if_neg h2']
   simp only [Sem.run_bind, Sem.run_pure, Result.andThen, y5 hi hz, hpm, this, newRow]
   show _ = Result.ok (Next.value (Value.slice (some ⟨w.heap.size, 0 * sz, none⟩) n n)) _
   rw [Nat.zero_mul]
   rfl
  ·rename_i h1 h2
   split at h
   case h_2 => cases h
   rename_i hp
   cases h
   have h2' : n * sz = 0 := Nat.eq_of_beq_eq_true h2
   refine ⟨by rw [ho]; rfl, .inr (.inl ⟨n, n, ?_⟩), fun w hw => ⟨by rw [ho]; trivial, ?_⟩⟩
   ·show Value.slice (some ⟨q, 0 * sz, none⟩) n n = _
    rw [Nat.zero_mul]
   unfold execOp; rw [ho]
   subst hw
   have hpm : (parts.map fun (p : Nat × Operand) => (p.1, σ p.2)).toList = [] := by simp [hp]
   have hr : (Array.range 0 : Array Nat) = #[] := rfl
   simp only [Instr.buildSlice, Sem.run_bind, Sem.run_pure, Result.andThen, d9 hu, p8 (v6 ht), h2', hpm]
   rw [if_neg (by decide : ¬ 0 > 2 ^ 24)]
   simp only [if_true, Sem.run_bind, Sem.run_pure, Result.andThen, hr, Array.map_empty, Instr.fill]
   show _ = Result.ok (Next.value (Value.slice (some ⟨w.heap.size, 0 * sz, none⟩) n n)) _
   rw [Nat.zero_mul]
   rfl
 ·rename_i t' x y ho
  split at h
  case h_2 => cases h
  rename_i e m n hu hx hy
  split at h
  case h_2 => cases h
  rename_i sz ag i ht hi
  split at h
  case h_2 => cases h
  rename_i z hz
  split at h
  case h_2 => cases h
  rename_i hc
  cases h
  simp only [Bool.and_eq_true, decide_eq_true_eq] at hc
  obtain ⟨⟨rfl, hm⟩, h1, h3, h4⟩ := hc
  have h1' := Nat.le_of_ble_eq_true h1
  have h3' := Nat.le_of_ble_eq_true h3
  have h4' := Nat.le_of_ble_eq_true h4
  obtain ⟨n, rfl⟩ : ∃ n : Nat, m = n := ⟨m.toNat, by omega⟩
  rw [Int.toNat_natCast] at h1' h3'
  refine ⟨by rw [ho]; rfl, .inr (.inl ⟨n, n, ?_⟩), fun w hw => ⟨by rw [ho]; trivial, ?_⟩⟩
  ·show Value.slice (some ⟨q, 0 * sz, none⟩) (Int.toNat n) (Int.toNat n) = _
   rw [Nat.zero_mul, Int.toNat_natCast]
  have hvx : σ x = .int .i64 n := hρ _ _ hx
  have hvy : σ y = .int .i64 n := hρ _ _ hy
  unfold execOp; rw [ho]
  subst hw
  have hti : (typeInfo t).run P w = .ok i w := by simp [typeInfo, program, Sem.run, Bind.bind, Sem.bind, Pure.pure, hi]
  have hw : IntKind.i64.wrap (n : Int) = n := V3 (by omega) (by omega)
  have hr : (askRoom (n * i.bytes)).run P w = .ok () w := by
   unfold askRoom
   split
   ·rfl
   ·rfl
  have hc : (decide ((n : Int) < 0) || decide ((i.bytes : Int) * n > 2 ^ 48) || decide ((n : Int) < 0) || decide ((n : Int) > n)) = false := by
   have h48 : ((i.bytes * n : Nat) : Int) <= 16777216 := Int.ofNat_le.2 h1'
   rw [Int.natCast_mul] at h48
   have h49 : ¬ ((i.bytes : Int) * n > 281474976710656) := by omega
   have h50 : ¬ ((n : Int) < 0) := by omega
   have h51 : ¬ ((n : Int) > n) := by omega
   rw [decide_eq_false h50, decide_eq_false h51, show decide ((i.bytes : Int) * n > 2 ^ 48) = false from decide_eq_false h49]
   rfl
  have hn0 : ¬ n * sz = 0 := fun e => by
   rcases Nat.mul_eq_zero.1 e with h | h
   ·subst h; exact absurd hm (by decide)
   ·omega
  have hcz : d0 ((List.range ((n : Int).toNat * sz)).map fun k => C1.v (z.cells[k % z.cells.size]!)) = (Array.range (n * sz)).map (z.cells[· % z.cells.size]!) := by
   rw [Int.toNat_natCast]
   apply Array.ext'
   simp [d0, Function.comp_def, C1.den]
  rw [hcz]
  simp only [Instr.makeSlice, hvx, hvy, asInt, asIntOf, Sem.run_bind, Sem.run_pure, Result.andThen, d9 hu, hti, hw]
  rw [hc]
  simp only [Bool.false_eq_true, if_false, Sem.run_bind, Int.toNat_natCast, hr, Result.andThen, p8 (v6 ht)]
  rw [if_neg hn0]
  simp only [Sem.run_bind, Sem.run_pure, Result.andThen, y5 hi hz, newRow]
  show _ = Result.ok (Next.value (Value.slice (some ⟨w.heap.size, 0 * sz, none⟩) (Int.toNat n) (Int.toNat n))) _
  rw [Nat.zero_mul, Int.toNat_natCast]
  rfl
 ·cases h
end
end Go.Abs
open List (all_eq_true append_assoc map_append size_toArray length_map take_append_drop drop_drop eq_nil_of_length_eq_zero set_append_right)
namespace Go.Abs
section
variable {P : Program} {A : World}
theorem N0 {q : Nat} {t : TypeId} {fz : Nat × Nat} (hf : fz = (0, 0) ∨ fz = (1, 0)) : ∀ {new a b c : List Value} {off i : Nat} {A : World}, new.all isOne = true -> A.heap[q]? = some (.cells (a ++ b ++ c).toArray t fz) -> a.length = off + i -> b.length = new.length ->
  ∃ A', (storeCells ⟨q, off, none⟩ new i).run P A = .ok () A' /\ A'.heap[q]? = some (.cells (a ++ new ++ c).toArray t fz) /\ A'.heap.size = A.heap.size /\ ∀ k, k ≠ q -> A'.heap[k]? = A.heap[k]?
 | [], a, b, c, off, i, A, _, h, _, hb => by
  have : b = [] := eq_nil_of_length_eq_zero (by simpa using hb)
  subst this
  exact ⟨A, rfl, h, rfl, fun _ _ => rfl⟩
 | v :: new, a, [], c, off, i, A, _, h, _, hb => by simp at hb
 | v :: new, a, w :: b, c, off, i, A, ho, h, ha, hb => by
  simp only [List.all_cons, Bool.and_eq_true] at ho
  have e : (⟨q, off, none⟩ : Addr).add i = ⟨q, a.length, none⟩ := by rw [Addr.add_mk, ha]
  have hcell : A.cell? ⟨q, a.length, none⟩ = some w := by
   simp only [World.cell?, h]
   simp
  have hfr : A.frozen? ⟨q, a.length, none⟩ = false := by
   simp only [World.frozen?, h]
   rcases hf with rfl | rfl <;> simp
  have h1 : (A.setCell ⟨q, a.length, none⟩ v).heap[q]? = some (.cells (a ++ [v] ++ b ++ c).toArray t fz) := by
   show (A.heap.modify q _)[q]? = _
   rw [Array.getElem?_modify, if_pos rfl, h]
   simp [set_append_right]
  obtain ⟨A', r, h2, h3, h4⟩ := N0 (new := new) (a := a ++ [v]) (b := b) (c := c) (off := off) (i := i + 1) hf ho.2 h1 (by simp; omega) (by simpa using hb)
  refine ⟨A', ?_, by simpa using h2, h3.trans b1T, fun k hk => (h4 k hk).trans (b6M hk)⟩
  simp only [storeCells, Sem.run_bind, e, a8F ho.1 hcell hfr, Result.andThen, r]
end
def b6G : List Ch -> Nat -> List C1 -> List Ch
 | [], _, _ => []
 | .blk g q cs t m :: l, n, cs' => match Nat.beq g n with
  | true => .blk g q cs' t m :: l
  | false => .blk g q cs t m :: b6G l n cs'
 | c :: l, n, cs' => c :: b6G l n cs'
theorem P7 {m : Md} (hm : m.mine = true) : ∀ {l : List Ch} {n g q : Nat} {cs : List C1} {t : TypeId} {F : Ft} {A : World}, fnd l n = some (.blk g q cs t m) -> (hpA l).p F A -> F.own q
 | [], _, _, _, _, _, _, _, h, _ => by cases h
 | .blk g' q' cs' t' m' :: l, n, g, q, cs, t, F, A, h, ⟨F1, F2, h1, h2, j⟩ => by
  simp only [fnd] at h
  split at h
  ·cases h
   exact (j.own q').2 (.inl ((h1.1 q').2 ⟨hm, rfl⟩))
  ·exact (j.own q).2 (.inr (P7 hm h h2))
 | .vec .. :: l, n, g, q, cs, t, F, A, h, ⟨F1, F2, h1, h2, j⟩ => by
  simp only [fnd] at h
  split at h
  ·cases h
  ·exact (j.own q).2 (.inr (P7 hm h h2))
 | .as _ :: l, n, g, q, cs, t, F, A, h, ⟨F1, F2, h1, h2, j⟩ => (j.own q).2 (.inr (P7 hm (show fnd l n = _ from h) h2))
theorem a15 {m : Md} (hm : m.mine = true) {A A' : World} {q : Nat} (hk : ∀ k, k ≠ q -> A'.heap[k]? = A.heap[k]?) : ∀ {l : List Ch} {n g : Nat} {cs cs' : List C1} {t : TypeId} {F : Ft}, fnd l n = some (.blk g q cs t m) -> (∃ fz, m.fz fz /\ A'.heap[q]? = some (.cells (d0 cs') t fz)) -> (hpA l).p F A -> (hpA (b6G l n cs')).p F A'
 | [], _, _, _, _, _, _, h, _, _ => by cases h
 | .blk g' q' c0 t' m' :: l, n, g, cs, cs', t, F, h, hB, ⟨F1, F2, h1, h2, j⟩ => by
  simp only [fnd, b6G] at h ⊢
  split at h
  ·rename_i e
   cases h
   try rw [e]
   refine ⟨F1, F2, ⟨h1.1, h1.2.1, hB⟩, As.loc _ h2 fun b hb => hk b ?_, j⟩
   rintro rfl
   have := (h1.1 b).2 ⟨hm, rfl⟩
   exact hb.elim (j.oo b this) (j.oi b this)
  ·rename_i e
   try rw [e]
   have ho := P7 hm h h2
   refine ⟨F1, F2, As.loc _ h1 fun b hb => hk b ?_, a15 hm hk h hB h2, j⟩
   rintro rfl
   exact hb.elim (fun hb => j.oo b hb ho) (fun hb => j.io b hb ho)
 | .vec (α := α) g' q' w' en d xs t' m' z' :: l, n, g, cs, cs', t, F, h, hB, ⟨F1, F2, h1, h2, j⟩ => by
  simp only [fnd] at h
  split at h
  ·cases h
  ·have ho := P7 hm h h2
   refine ⟨F1, F2, As.loc _ h1 fun b hb => hk b ?_, a15 hm hk h hB h2, j⟩
   rintro rfl
   exact hb.elim (fun hb => j.oo b hb ho) (fun hb => j.io b hb ho)
 | .as I :: l, n, g, cs, cs', t, F, h, hB, ⟨F1, F2, h1, h2, j⟩ => by
  have ho := P7 hm (show fnd l n = _ from h) h2
  refine ⟨F1, F2, As.loc _ h1 fun b hb => hk b ?_, a15 hm hk h hB h2, j⟩
  rintro rfl
  exact hb.elim (fun hb => j.oo b hb ho) (fun hb => j.io b hb ho)
def a4X (P : Program) (ρ : Operand -> Option SV) (hp : List Ch) (t : TypeId) (x y : Operand) : Option (List Ch × List Ob) := match ρ x, ρ y, tsz P t with
 | some (.o (.p g q i w k)), some v, some (n, _) => match v.cells, fnd hp g with
  | some l, some (.blk _ q' cs _ m) => match Nat.beq l.length n, Nat.ble (i * w + k + n) cs.length, m.mine with
   | true, true, true => some (b6G hp g (a3u cs (i * w + k) l), [.n q q', .q (l.all C1.one) true])
   | _, _, _ => none
  | _, _ => none
 | _, _, _ => none
section
variable {P : Program} {ρ : Operand -> Option SV} {σ : Operand -> Value} {o : Oper} {hp : List Ch} {F : Ft} {A : World}
theorem a2r {m : Md} (h : m.mine = true) {fz : Nat × Nat} (k : m.fz fz) : fz = (0, 0) ∨ fz = (1, 0) := by
 cases m
 ·exact .inl k
 ·exact .inr k
 ·cases h
theorem a7b (hρ : v8 ρ σ) (hH : (hpA hp).p F A) {t : TypeId} {x y : Operand} (ho : o.op = .store t x y) {hp' : List Ch} {ps : List Ob} (h : a4X P ρ hp t x y = some (hp', ps)) (hps : G7 ps) :
  ∃ A', AOp P σ o A .skip A' /\ (hpA hp').p F A' /\ Mv F A F A' /\ A'.heap.size = A.heap.size := by
 unfold a4X at h
 split at h
 case h_2 => cases h
 rename_i g q i w k v n ag hx hy ht
 split at h
 case h_2 => cases h
 rename_i l g' q' cs t' m hc hf
 split at h
 case h_2 => cases h
 rename_i h1 h2 h3
 cases h
 obtain ⟨rfl, hone, _⟩ := hps
 have h1' := Nat.eq_of_beq_eq_true h1
 have h2' := Nat.le_of_ble_eq_true h2
 obtain ⟨fz, hfz, hB⟩ := a36 hf hH
 have hs := (fun (m : Nat) => (show cs = cs.take m ++ (cs.drop m).take l.length ++ cs.drop (m + l.length) by
  rw [<- drop_drop, append_assoc, take_append_drop, take_append_drop])) (i * w + k)
 have hB' : A.heap[q]? = some (.cells ((cs.take (i * w + k)).map C1.den ++ ((cs.drop (i * w + k)).take l.length).map C1.den ++ (cs.drop (i * w + k + l.length)).map C1.den).toArray t' fz) := by
  rw [<- map_append, <- map_append, <- hs]; exact hB
 have hone' : (l.map C1.den).all isOne = true := by
  rw [all_eq_true] at hone ⊢
  intro u hu
  obtain ⟨c, hc', rfl⟩ := List.mem_map.1 hu
  exact C1.one_den (hone c hc')
 obtain ⟨A', r, h5, h6, h7⟩ := N0 (P := P) (new := l.map C1.den) (off := i * w + k) (i := 0) (a2r h3 hfz) hone' hB' (by simp; omega) (by simp; omega)
 have hne : ∀ b, ¬ F.own b -> b ≠ q := fun b hb e => by subst e; exact hb (P7 h3 hf hH)
 refine ⟨A', ?_, a15 h3 h7 hf ⟨fz, hfz, ?_⟩ hH, ⟨Nat.le_of_eq h6.symm, fun b _ hn => h7 b (hne b hn), fun b hb => .inl hb, fun b hb => .inr (.inl hb)⟩, h6⟩
 ·refine .inr (.inl ⟨by rw [ho]; trivial, ?_⟩)
  unfold execOp; rw [ho]
  have hx' : σ x = .pointer (some ⟨q, i * w + k, none⟩) := hρ _ _ hx
  have hv : v.den.cells = (l.map C1.den).toArray := SV.cells_den hc hone
  simp only [Instr.storeAt, hx', hρ _ _ hy, Instr.sureAddr, Sem.run_bind, Sem.run_pure, Result.andThen, storeVar, p8 (v6 ht), hv, size_toArray, length_map, h1']
  rw [if_neg (by simp)]
  simp only [r]
 ·rw [h5]
  simp [d0, a3u]
def L3 (op : Op) : List Nat := op.operands.toList.filterMap fun x => match x with
 | .tmp t => some t
 | _ => none
def b71 : List Nat -> Nat -> Bool
 | [], _ => false
 | i :: l, t => match Nat.beq i t with
  | true => true
  | false => b71 l t
def Z6 (env : List (Nat × SV)) (ts : List Nat) : Operand -> Option SV
 | .tmp t => match b71 ts t, W9 env t with
  | true, some (.kk _ _ _ ag l) => some (mkv ag l)
  | true, some v => some v
  | _, _ => none
 | x => evX env x
def b6j (ops : Array Oper) (o : Oper) : Option (Nat × Bool) := match o.guard with
 | none => none
 | some (j, b) => match (ops[j]?).bind (·.dst) with
  | none => none
  | some d => some (d, b)
def b79 (d : Nat) (kb : Bool) : Option (Nat × Bool) -> Bool
 | none => false
 | some (d', b) => match Nat.beq d d' with
  | true => a3m kb b
  | false => false
def O7 (key : Option (Nat × Bool)) (e : Bool) (env : List (Nat × SV)) : List Nat -> List Ob
 | [] => []
 | t :: ts => match W9 env t with
  | some (.kk d kb e' _ _) => match b79 d kb key with
   | true => .q e' e :: O7 key e env ts
   | false => .p (e = true -> e' = true) :: O7 key e env ts
  | _ => O7 key e env ts
theorem Q8 {key : Option (Nat × Bool)} {e : Bool} {env : List (Nat × SV)} : ∀ {ts : List Nat} {t d : Nat} {kb e' ag : Bool} {l : List C1}, G7 (O7 key e env ts) -> b71 ts t = true -> W9 env t = some (.kk d kb e' ag l) -> e = true -> e' = true
 | [], _, _, _, _, _, _, _, h, _, _ => by cases h
 | i :: ts, t, d, kb, e', ag, l, hp, h, hl, he => by
  simp only [b71] at h
  split at h
  ·rename_i hb
   obtain rfl := Nat.eq_of_beq_eq_true hb
   simp only [O7, hl] at hp
   split at hp
   ·rw [hp.1, he]
   ·exact hp.1 he
  ·simp only [O7] at hp
   split at hp
   ·split at hp
    ·exact Q8 hp.2 h hl he
    ·exact Q8 hp.2 h hl he
   ·exact Q8 hp h hl he
theorem a0E {env : List (Nat × SV)} {a : Act} {ts : List Nat} {key : Option (Nat × Bool)} {e : Bool} (hE : V0 env a) (hp : G7 (O7 key e env ts)) (he : e = true) : v8 (Z6 env ts) a.eval := by
 intro x v hx
 cases x with
 | tmp t =>
  simp only [Z6] at hx
  split at hx
  ·rename_i d kb e' ag l h1 h2
   cases hx
   have := hE t _ h2
   simp only [SV.den, Q8 hp h1 h2 he, if_true] at this
   show a.tmps.getD t undef = _
   rw [this]
   cases ag <;> rfl
  ·rename_i h1 h2
   cases hx
   exact hE t _ h2
  ·cases hx
 | const y => exact p7 hE hx
 | func f => exact p7 hE hx
 | global g => exact p7 hE hx
def a49 (key : Option (Nat × Bool)) (e : Bool) (v : SV) : Option SV := match key, v with
 | some (d, b), .o c => some (.kk d b e false [c])
 | some (d, b), .a l => some (.kk d b e true l)
 | _, _ => none
theorem a08 {key : Option (Nat × Bool)} {e : Bool} {v v' : SV} (h : a49 key e v = some v') : v'.den = if e then v.den else undef := by
 unfold a49 at h
 split at h <;> cases h <;> rfl
def R4 (ops : Array Oper) (s : St) (o : Oper) : Operand -> Option SV := match K2 ops s.env o with
 | some (.may _) => Z6 s.env (L3 o.op)
 | _ => evX s.env
def a8g (P : Program) (ops : Array Oper) (s : St) (q : Nat -> Nat) (o : Oper) : Option (SV × St × List Ob) := match K2 ops s.env o with
 | none => none
 | some .no => match a7z s o.dst (.o (.v undef)) with
  | some s1 => some (.o (.v undef), s1, [])
  | none => none
 | some (.may e) => match g6 o.op with
  | .quiet => match evq P s.ov (Z6 s.env (L3 o.op)) s.hp o.op with
   | some (v, ps) => match a49 (b6j ops o) e v with
    | some v' => match a7z s o.dst v' with
     | some s1 => some (v', s1, O7 (b6j ops o) e s.env (L3 o.op) ++ b8l e ps)
     | none => none
    | none => none
   | none => none
  | _ => none
 | some .yes => match g6 o.op with
  | .quiet => match evq P s.ov (evX s.env) s.hp o.op with
   | some (v, ps) => match a7z s o.dst v with
    | some s1 => some (v, s1, ps)
    | none => none
   | none => none
  | .makes => match b72 P (evX s.env) (q s.nx) s.nx o.op with
   | some (v, l, t, ps) => match a7z { s with hp := .blk s.nx (q s.nx) l t .own :: s.hp, nx := s.nx + 1 } o.dst v with
    | some s1 => some (v, s1, ps)
    | none => none
   | none => none
  | .acts => match o.op with
   | .store t x y => match a4X P (evX s.env) s.hp t x y with
    | some (hp', ps) => match a7z { s with hp := hp' } o.dst (.o (.v undef)) with
     | some s1 => some (.o (.v undef), s1, ps)
     | none => none
    | none => none
   | _ => none
end
end Go.Abs
namespace Go.Abs
abbrev Lg := Nat -> St × Option Ch
def Lg.snoc (lg : Lg) (i : Nat) (x : St × Option Ch) : Lg := fun j => match Nat.beq j i with
 | true => x
 | false => lg j
def lg0 : Lg := fun _ => (⟨[], [], 0, 0, false, []⟩, none)
def b5a (P : Program) (s : St) (q : Nat -> Nat) (o : Oper) : Option Ch := match g6 o.op with
 | .makes => match b72 P (evX s.env) (q s.nx) s.nx o.op with
  | some (_, l, t, _) => some (.blk s.nx (q s.nx) l t .own)
  | none => none
 | _ => none
section
variable (P : Program) (nO : Nat) (ops : Array Oper)
def b7O (a : Act) (A : World) (v : Value) (a1 : Act) (A1 : World) (s : St) (mk : Option Ch) (o : Oper) : Prop :=
 a1 = a.put o.dst v /\ if Region.wanted o (yielded ops a.tmps) = true then Z5 P (Wd P nO) o a A v A1 /\ (match g6 o.op with
  | .quiet => A1 = A /\ v8 (R4 ops s o) a.eval /\ ∃ u ps, evq P s.ov (R4 ops s o) s.hp o.op = some (u, ps) /\ G7 ps /\ v = u.den
  | .makes => ∃ l t, K2 ops s.env o = some .yes /\ A1 = A.alloc (.cells (d0 l) t (0, 0)) /\ a3D v A.heap.size /\ (∀ w : World, w.heap.size = A.heap.size -> a2V P w a.eval o.op /\ (execOp a.eval o).run P w = .ok (.value v) (w.alloc (.cells (d0 l) t (0, 0)))) /\ mk = some (.blk s.nx A.heap.size l t .own)
  | .acts => True)
 else A1 = A /\ v = undef
def a7w (T : Trace) (lg : Lg) (i : Nat) : Prop := ∀ j o, j < i -> ops[j]? = some o -> b7O P nO ops (T.as j) (T.ws j) (T.vs j) (T.as (j + 1)) (T.ws (j + 1)) (lg j).1 (lg j).2 o
def b6N (q : Nat -> Nat) : Nat -> Nat -> St -> Option (St × List Ob)
 | 0, _, s => some (s, [])
 | k + 1, i, s => match ops[i]? with
  | some o => match a8g P ops s q o with
   | some (_, s1, p1) => match b6N q k (i + 1) s1 with
    | some (s2, p2) => some (s2, p1 ++ p2)
    | none => none
   | none => none
  | none => none
def a0a (q : Nat -> Nat) : Nat -> Nat -> St -> Lg -> Lg
 | 0, _, _, lg => lg
 | k + 1, i, s, lg => match ops[i]? with
  | some o => match a8g P ops s q o with
   | some (_, s1, _) => a0a q k (i + 1) s1 (lg.snoc i (s, b5a P s q o))
   | none => lg
  | none => lg
variable (ro : Option Nat) (id : Nat) (d : Bool) (B : Ft × World) (Q : Exit -> Act -> World -> Prop)
def WR (i : Nat) (lg : Lg) (s : St) : Prop := ∀ T : Trace, a7w P nO ops T lg i -> (∀ j, j < i -> Sat B (lg j).1 (T.as j) (T.ws j)) -> Sat B s (T.as i) (T.ws i) -> wpC P nO ro (.region id ops d) Q (T.as 0) (T.ws 0)
end
section
variable {P : Program} {nO : Nat} {ops : Array Oper} {B : Ft × World}
theorem b4z {s s1 : St} {a : Act} {A : World} {q : Nat -> Nat} {o : Oper} {v : SV} {ps : List Ob} (hs : Sat B s a A) (h : a8g P ops s q o = some (v, s1, ps)) (hps : G7 ps) (hq : q s.nx = A.heap.size) :
  ∃ u A1, b7O P nO ops a A u (a.put o.dst u) A1 s (b5a P s q o) o /\ Sat B s1 (a.put o.dst u) A1 /\ ((s1.nx = s.nx /\ A1.heap.size = A.heap.size) ∨ (s1.nx = s.nx + 1 /\ A1.heap.size = A.heap.size + 1)) := by
 have hρ : v8 (evX s.env) a.eval := fun x v h => p7 hs.1 h
 obtain ⟨F, hF, hM⟩ := hs.2.2.2
 unfold a8g at h
 split at h
 ·cases h
 ·rename_i hw
  split at h
  case h_2 => cases h
  rename_i s2 h2
  cases h
  obtain ⟨h3, h4, _⟩ := H2 (A1 := A) (hp := s.hp) (nx := s.nx) (u := undef) hs ⟨F, hF, hM⟩ h2 rfl
  refine ⟨undef, A, ⟨rfl, ?_⟩, h3, .inl ⟨h4, rfl⟩⟩
  have hw' : Region.wanted o (yielded ops a.tmps) = false := I5 hs hw
  rw [if_neg (by rw [hw']; decide)]; exact ⟨rfl, rfl⟩
 ·rename_i e hw
  have hw' : Region.wanted o (yielded ops a.tmps) = e := I5 hs hw
  split at h
  case h_2 => cases h
  rename_i hk
  split at h
  case h_2 => cases h
  rename_i u ps' h1
  split at h
  case h_2 => cases h
  rename_i v' hv
  split at h
  case h_2 => cases h
  rename_i s2 h2
  cases h
  obtain ⟨p1, p2⟩ := G7.split hps
  have hd := a08 hv
  obtain ⟨h3, h4, _⟩ := H2 (A1 := A) (hp := s.hp) (nx := s.nx) (u := v.den) hs ⟨F, hF, hM⟩ h2 rfl
  refine ⟨v.den, A, ⟨rfl, ?_⟩, h3, .inl ⟨h4, rfl⟩⟩
  cases he : e with
  | false =>
   rw [he] at hw' hd
   rw [if_neg (by rw [hw']; decide)]
   exact ⟨rfl, hd⟩
  | true =>
   rw [he] at hw'
   rw [if_pos hw']
   have hd' : v.den = u.den := by rw [hd, he]; rfl
   have hρ' := a0E hs.1 p1 he
   have hA := a9X (A := A) hρ' hF h1 (a9r p2 he)
   rw [<- hd'] at hA
   refine ⟨⟨_, _, hA, rfl, rfl⟩, ?_⟩
   rw [hk]
   have er : R4 ops s o = Z6 s.env (L3 o.op) := by unfold R4; rw [hw]
   rw [er]
   exact ⟨rfl, hρ', u, ps', h1, a9r p2 he, hd'⟩
 ·rename_i hw
  have hw' : Region.wanted o (yielded ops a.tmps) = true := I5 hs hw
  have er : R4 ops s o = evX s.env := by unfold R4; rw [hw]
  split at h
  ·rename_i hk
   split at h
   case h_2 => cases h
   rename_i u ps' h1
   split at h
   case h_2 => cases h
   rename_i s2 h2
   cases h
   have hA := a9X (A := A) hρ hF h1 hps
   obtain ⟨h3, h4, _⟩ := H2 (A1 := A) (hp := s.hp) (nx := s.nx) (u := v.den) hs ⟨F, hF, hM⟩ h2 rfl
   refine ⟨v.den, A, ⟨rfl, ?_⟩, h3, .inl ⟨h4, rfl⟩⟩
   rw [if_pos hw']
   refine ⟨⟨_, _, hA, rfl, rfl⟩, ?_⟩
   rw [hk]
   rw [er]
   exact ⟨rfl, hρ, v, ps, h1, hps, rfl⟩
  ·rename_i hk
   split at h
   case h_2 => cases h
   rename_i u l t ps' h1
   split at h
   case h_2 => cases h
   rename_i s2 h2
   cases h
   obtain ⟨_, hn, hrun⟩ := b5A hρ h1 hps
   rw [hq] at hn hrun
   have hlt : ∀ b, F.own b ∨ F.imm b -> b < A.heap.size := fun b hb => (hpA s.hp).lt hF hb
   have hnew : ∃ F', (hpA (.blk s.nx (q s.nx) l t .own :: s.hp)).p F' (A.alloc (.cells (d0 l) t (0, 0))) /\ Mv F A F' (A.alloc (.cells (d0 l) t (0, 0))) := by
    refine ⟨Ft.un ⟨fun b => b = A.heap.size, fun _ => False⟩ F, ⟨⟨fun b => b = A.heap.size, fun _ => False⟩, F, ⟨fun b => by rw [hq]; simp [Md.mine], fun b => by simp [Md.mine], (0, 0), rfl, by rw [hq]; exact J6⟩, As.loc _ hF fun b hb => x5 (hlt b hb), ⟨fun _ => Iff.rfl, fun _ => Iff.rfl, fun b h1 h2 => ?_, fun b h1 h2 => ?_, fun b h1 => h1.elim⟩⟩,
     ⟨by simp, fun b hb _ => x5 hb, fun b hb => ?_, fun b hb => ?_⟩⟩
    ·have := hlt b (.inl h2); simp only at h1; omega
    ·have := hlt b (.inr h2); simp only at h1; omega
    ·rcases hb with hb | hb
     ·simp only at hb; exact .inr (by omega)
     ·exact .inl hb
    ·rcases hb with hb | hb
     ·exact hb.elim
     ·exact .inr (.inl hb)
   obtain ⟨F', h5, h6⟩ := hnew
   obtain ⟨h3, h4, _⟩ := H2 (A1 := A.alloc (.cells (d0 l) t (0, 0))) (u := v.den) hs ⟨F', h5, hM.trans h6⟩ h2 rfl
   obtain ⟨hr1, hr2⟩ := hrun A rfl
   refine ⟨v.den, _, ⟨rfl, ?_⟩, h3, .inr ⟨h4, by simp⟩⟩
   rw [if_pos hw']
   refine ⟨⟨_, _, .inr (.inl ⟨hr1, hr2⟩), rfl, rfl⟩, ?_⟩
   rw [hk]
   refine ⟨l, t, hw, rfl, hn, hrun, ?_⟩
   unfold b5a
   rw [hk]
   rw [<- hq]
   simp only [h1]
  ·rename_i hk
   split at h
   case h_2 => cases h
   rename_i t x y ho
   split at h
   case h_2 => cases h
   rename_i hp' ps' h1
   split at h
   case h_2 => cases h
   rename_i s2 h2
   cases h
   obtain ⟨A', hA, h5, h6, h7⟩ := a7b (A := A) hρ hF ho h1 hps
   obtain ⟨h3, h4, _⟩ := H2 (A1 := A') (hp := hp') (nx := s.nx) (u := undef) hs ⟨F, h5, hM.trans h6⟩ h2 rfl
   refine ⟨undef, A', ⟨rfl, ?_⟩, h3, .inl ⟨h4, h7⟩⟩
   rw [if_pos hw']
   refine ⟨⟨_, _, hA, rfl, rfl⟩, ?_⟩
   rw [hk]; trivial
theorem a8p {lg : Lg} {i j : Nat} {x : St × Option Ch} (h : j ≠ i) : lg.snoc i x j = lg j := by
 unfold Lg.snoc
 split
 ·rename_i e; exact absurd (Nat.eq_of_beq_eq_true e) h
 ·rfl
theorem a8q {lg : Lg} {i : Nat} {x : St × Option Ch} : lg.snoc i x i = x := by
 unfold Lg.snoc; rw [Nat.beq_refl]
theorem a0k {T : Trace} {lg : Lg} {i : Nat} {o : Oper} {s s1 : St} {mk : Option Ch} {u : Value} {A1 : World} (ho : ops[i]? = some o) (h1 : a7w P nO ops T lg i) (h2 : ∀ j, j < i -> Sat B (lg j).1 (T.as j) (T.ws j)) (h3 : Sat B s (T.as i) (T.ws i))
  (h4 : b7O P nO ops (T.as i) (T.ws i) u ((T.as i).put o.dst u) A1 s mk o) (h5 : Sat B s1 ((T.as i).put o.dst u) A1) :
  ∃ T' : Trace, T'.as 0 = T.as 0 /\ T'.ws 0 = T.ws 0 /\ a7w P nO ops T' (lg.snoc i (s, mk)) (i + 1) /\ (∀ j, j < i + 1 -> Sat B ((lg.snoc i (s, mk)) j).1 (T'.as j) (T'.ws j)) /\ Sat B s1 (T'.as (i + 1)) (T'.ws (i + 1)) /\ T'.ws (i + 1) = A1 := by
 refine ⟨⟨fun j => if j = i + 1 then (T.as i).put o.dst u else T.as j, fun j => if j = i + 1 then A1 else T.ws j, fun j => if j = i then u else T.vs j⟩, by simp, by simp, fun j o' hj ho' => ?_, fun j hj => ?_, by simpa using h5, by simp⟩
 ·by_cases e : j = i
  ·subst e
   rw [ho] at ho'; cases ho'
   rw [a8q]
   simpa using h4
  ·have hlt : j < i := by omega
   rw [a8p e]
   have := h1 j o' hlt ho'
   simpa [e, show j ≠ i + 1 by omega] using this
 ·by_cases e : j = i
  ·subst e
   rw [a8q]; simpa using h3
  ·rw [a8p e]
   have := h2 j (by omega)
   simpa [show j ≠ i + 1 by omega] using this
theorem a8G {q : Nat -> Nat} : ∀ {k i : Nat} {lg : Lg} {s s' : St} {ps : List Ob} {T : Trace}, a7w P nO ops T lg i -> (∀ j, j < i -> Sat B (lg j).1 (T.as j) (T.ws j)) -> Sat B s (T.as i) (T.ws i) -> b6N P ops q k i s = some (s', ps) -> G7 ps -> (∀ m, q (s.nx + m) = (T.ws i).heap.size + m) ->
  ∃ T' : Trace, T'.as 0 = T.as 0 /\ T'.ws 0 = T.ws 0 /\ a7w P nO ops T' (a0a P ops q k i s lg) (i + k) /\ (∀ j, j < i + k -> Sat B (a0a P ops q k i s lg j).1 (T'.as j) (T'.ws j)) /\ Sat B s' (T'.as (i + k)) (T'.ws (i + k))
 | 0, i, lg, s, s', ps, T, h1, h2, h3, h, _, _ => by cases h; exact ⟨T, rfl, rfl, h1, h2, h3⟩
 | k + 1, i, lg, s, s', ps, T, h1, h2, h3, h, hps, hq => by
  simp only [b6N] at h
  split at h
  case h_2 => cases h
  rename_i o ho
  split at h
  case h_2 => cases h
  rename_i v s1 p1 hst
  split at h
  case h_2 => cases h
  rename_i s2 p2 hr
  cases h
  obtain ⟨hp1, hp2⟩ := G7.split hps
  obtain ⟨u, A1, h4, h5, h6⟩ := b4z (nO := nO) h3 hst hp1 (by have := hq 0; simpa using this)
  obtain ⟨T1, e1, e2, g1, g2, g3, g4⟩ := a0k ho h1 h2 h3 h4 h5
  obtain ⟨T', e3, e4, k1, k2, k3⟩ := a8G g1 g2 g3 hr hp2 (fun m => by
   rw [g4]
   rcases h6 with ⟨a, b⟩ | ⟨a, b⟩
   ·rw [a, b]; exact hq m
   ·rw [a, b]; have := hq (m + 1); rw [show s.nx + 1 + m = s.nx + (m + 1) by omega, this]; omega)
  have el : a0a P ops q (k + 1) i s lg = a0a P ops q k (i + 1) s1 (lg.snoc i (s, b5a P s q o)) := by
   simp only [a0a, ho, hst]
  rw [el, show i + (k + 1) = i + 1 + k by omega]
  exact ⟨T', e3.trans e1, e4.trans e2, k1, k2, k3⟩
def b8j (live : List Nat) (env : List (Nat × SV)) : List (Nat × SV) := live.filterMap fun i => match W9 env i with
 | some v => some (i, v)
 | none => none
end
section
variable {P : Program} {nO : Nat} {ops : Array Oper} {ro : Option Nat} {id : Nat} {d : Bool} {B : Ft × World} {Q : Exit -> Act -> World -> Prop}
def b34 (lg : Lg) (n : Nat) (s : St) (p : Nat) : St := match Nat.beq p n with
 | true => s
 | false => (lg p).1
def a2C : Op -> Bool
 | .load .. | .slice .. => false
 | _ => true
theorem a4U {op : Op} (h : a2C op = true) (ov : Bool) (ρ : Operand -> Option SV) (hp hp' : List Ch) : evq P ov ρ hp op = evq P ov ρ hp' op := by
 cases op with
 | unOp o _ _ => cases o <;> rfl
 | makeFunc f _ _ => cases f <;> rfl
 | load _ _ => cases h
 | slice _ _ _ _ _ => cases h
 | _ => rfl
def a3Y (P : Program) (ops : Array Oper) (lg : Lg) (s : St) : List (EvR × EvR) := (List.range ops.size).flatMap fun j => match ops[j]? with
 | some o => match K2 ops (lg j).1.env o with
  | some .no => []
  | _ => match g6 o.op, a2C o.op with
   | .quiet, false => ((a0r ops ++ [ops.size]).filter (a1s ops (G6 ops) j)).map fun p => (evq P (lg j).1.ov (R4 ops (lg j).1 o) (b34 lg ops.size s p).hp o.op, evq P (lg j).1.ov (R4 ops (lg j).1 o) (lg j).1.hp o.op)
   | _, _ => []
 | none => []
def a3Z (ops : Array Oper) (lg : Lg) (s : St) : List (Option Ch × Option Ch) := (List.range ops.size).flatMap fun j => match ops[j]? with
 | some o => match K2 ops (lg j).1.env o, g6 o.op with
  | some .yes, .makes => ((a0r ops ++ [ops.size]).filter fun p => decide (j < p) && a1s ops (G6 ops) j p).map fun p => (fnd (b34 lg ops.size s p).hp (lg j).1.nx, (lg j).2)
  | _, _ => []
 | none => []
theorem a5I {T : Trace} {lg : Lg} (hS : a7w P nO ops T lg ops.size) (hs : ∀ j, j < ops.size -> Sat B (lg j).1 (T.as j) (T.ws j)) : ∀ (k i : Nat), i + k = ops.size -> P1 P (Wd P nO) ops (List.range' i k) (T.as i) (T.ws i) (T.as ops.size) (T.ws ops.size)
 | 0, i, h => by
  obtain rfl : i = ops.size := by omega
  exact ⟨rfl, rfl⟩
 | k + 1, i, h => by
  have hi : i < ops.size := by omega
  have ho := Array.getElem?_eq_getElem hi
  have ih := a5I hS hs k (i + 1) (by omega)
  obtain ⟨e, hst⟩ := hS i _ hi ho
  simp only [List.range'_succ, P1, ho]
  rw [e] at ih
  split at hst
  ·rename_i hw
   rw [if_pos hw]
   exact ⟨_, _, hst.1, ih⟩
  ·rename_i hw
   rw [if_neg hw]
   obtain ⟨h1, h2⟩ := hst
   rw [h1, h2] at ih
   exact ih
theorem b6w (G : Good P) {i : Nat} {lg : Lg} {s : St} (hi : i = ops.size) (K : ∀ a A, Sat B s a A -> Q .normal a A) : WR P nO ops ro id false B Q i lg s := by
 subst hi
 intro T h1 h2 h3
 refine ⟨.normal, _, _, p0 G (c := .region id ops false) ⟨rfl, ?_⟩, K _ _ h3⟩
 rw [List.range_eq_range']
 exact a5I h1 h2 ops.size 0 (by omega)
theorem b5b {α : Type} {l : List (α × α)} (h : l.map Prod.fst = l.map Prod.snd) {x : α × α} (hx : x ∈ l) : x.1 = x.2 := by
 induction l with
 | nil => cases hx
 | cons y l ih =>
  simp only [List.map_cons, List.cons.injEq] at h
  rcases List.mem_cons.1 hx with rfl | hx
  ·exact h.1
  ·exact ih h.2 hx
theorem b2k {α : Type 1} {l : List (α × α)} (h : l.map Prod.fst = l.map Prod.snd) {x : α × α} (hx : x ∈ l) : x.1 = x.2 := by
 induction l with
 | nil => cases hx
 | cons y l ih =>
  simp only [List.map_cons, List.cons.injEq] at h
  rcases List.mem_cons.1 hx with rfl | hx
  ·exact h.1
  ·exact ih h.2 hx
theorem b4r (G : Good P) {i : Nat} {lg : Lg} {s : St} (hi : i = ops.size) (hr : rck ops = true) (hq : (a3Y P ops lg s).map Prod.fst = (a3Y P ops lg s).map Prod.snd) (hm : (a3Z ops lg s).map Prod.fst = (a3Z ops lg s).map Prod.snd)
  (K : ∀ a A, Sat B s a A -> Q .normal a A) : WR P nO ops ro id true B Q i lg s := by
 subst hi
 intro T h1 h2 h3
 refine ⟨.normal, _, _, p0 G (c := .region id ops true) ⟨rfl, hr, T, rfl, rfl, rfl, rfl, fun j o ho => ?_⟩, K _ _ h3⟩
 have hj : j < ops.size := (Array.getElem?_eq_some_iff.1 ho).1
 have hsat : ∀ p, p ∈ a0r ops ++ [ops.size] -> Sat B (b34 lg ops.size s p) (T.as p) (T.ws p) := fun p hp => by
  unfold b34
  split
  ·rename_i e
   rw [Nat.eq_of_beq_eq_true e]; exact h3
  ·rename_i e
   rcases List.mem_append.1 hp with hp | hp
   ·obtain ⟨j', o', ho', _, e'⟩ := L6.1 hp
    have : j' < ops.size := by
     have := (List.getElem?_eq_some_iff.1 ho').1
     simpa using this
    exact h2 p (by omega)
   ·simp only [List.mem_cons, List.not_mem_nil, or_false] at hp
    subst hp
    rw [Nat.beq_refl] at e; cases e
 obtain ⟨e, hst⟩ := h1 j o hj ho
 refine ⟨e, ?_⟩
 split at hst
 ·rename_i hw
  rw [if_pos hw]
  have hno : K2 ops (lg j).1.env o ≠ some .no := fun h => by
   have : Region.wanted o (yielded ops (T.as j).tmps) = false := I5 (h2 j hj) h
   rw [hw] at this; cases this
  obtain ⟨hrun, hst⟩ := hst
  cases hk : g6 o.op with
  | quiet =>
   rw [hk] at hst
   obtain ⟨h4, hρ, u, ps, h5, h6, h7⟩ := hst
   refine ⟨h4, fun p hp hmay => ?_⟩
   obtain ⟨F, hF, _⟩ := (hsat p hp).2.2.2
   rw [h7]
   refine a9X (ov := (lg j).1.ov) hρ hF ?_ h6
   rw [<- h5]
   cases hh : a2C o.op with
   | true => exact a4U hh _ _ _ _
   | false =>
    refine b5b hq (x := (evq P (lg j).1.ov (R4 ops (lg j).1 o) (b34 lg ops.size s p).hp o.op, evq P (lg j).1.ov (R4 ops (lg j).1 o) (lg j).1.hp o.op)) ?_
    unfold a3Y
    rw [List.mem_flatMap]
    refine ⟨j, List.mem_range.2 hj, ?_⟩
    rw [ho]
    have key : (evq P (lg j).1.ov (R4 ops (lg j).1 o) (b34 lg ops.size s p).hp o.op, evq P (lg j).1.ov (R4 ops (lg j).1 o) (lg j).1.hp o.op) ∈ ((a0r ops ++ [ops.size]).filter (a1s ops (G6 ops) j)).map fun p => (evq P (lg j).1.ov (R4 ops (lg j).1 o) (b34 lg ops.size s p).hp o.op, evq P (lg j).1.ov (R4 ops (lg j).1 o) (lg j).1.hp o.op) := List.mem_map.2 ⟨p, List.mem_filter.2 ⟨hp, hmay⟩, rfl⟩
    simp only [hk, hh]
    generalize K2 ops (lg j).1.env o = wv at hno
    match wv, hno with
    | none, _ => exact key
    | some .yes, _ => exact key
    | some (.may _), _ => exact key
    | some .no, h => exact absurd rfl h
  | makes =>
   rw [hk] at hst
   obtain ⟨l, t, hyes, h4, h5, h6, h7⟩ := hst
   refine ⟨_, h4, rfl, h5, h6, fun p hp hlt hmay => ?_⟩
   have := b2k hm (x := (fnd (b34 lg ops.size s p).hp (lg j).1.nx, (lg j).2)) (by
    unfold a3Z
    rw [List.mem_flatMap]
    refine ⟨j, List.mem_range.2 hj, ?_⟩
    rw [ho]
    simp only [hyes, hk]
    exact List.mem_map.2 ⟨p, List.mem_filter.2 ⟨hp, by simp [hlt, hmay]⟩, rfl⟩)
   simp only [h7] at this
   obtain ⟨F, hF, _⟩ := (hsat p hp).2.2.2
   obtain ⟨fz, h8, h9⟩ := a36 this hF
   cases h8
   exact h9
  | acts => exact hrun
 ·rename_i hw
  rw [if_neg hw]
  exact hst
end
end Go.Abs
open List (mapM_cons map_append ext_getElem size_toArray length_map map_cons)
namespace Go.Abs
section
variable (P : Program) (nO : Nat) (ro : Option Nat) (B : Ft × World)
def W (c : Code) (Q : Exit -> Act -> World -> Prop) (s : St) : Prop := ∀ a A, Sat B s a A -> wpC P nO ro c Q a A
def Ctr (f : FuncId) (args : List SV) (pre : List Ch) (R : Type) (φ : R -> Prop) (res : R -> SV) (post : R -> List Ch) : Prop :=
 ∀ F A, (hpA pre).p F A -> ∃ r A' F', φ r /\ u9 P nO f (args.map SV.den).toArray A (res r).den A' /\ (hpA (post r)).p F' A' /\ Mv F A F' A'
def RQ (fn : Func) {R : Type} (φ : R -> Prop) (res : R -> SV) (post : R -> List Ch) (e : Exit) (a : Act) (A : World) : Prop :=
 (e = .normal ∨ e = .ret) /\ ∃ v A', b1a P a.defers A A' /\ (results fn a.tmps).run P A' = .ok v A' /\ ∃ r F', φ r /\ v = (res r).den /\ (hpA (post r)).p F' A' /\ Mv B.1 B.2 F' A'
end
def GE (l : List Ch) (R : Type) (φ : R -> Prop) (l' : R -> List Ch) : Prop := ∀ F A, (hpA l).p F A -> ∃ r F', φ r /\ (hpA (l' r)).p F' A /\ Mv F A F' A
theorem a8 {α : Type} {l : List α} {i : Nat} {d : α} (h : i < l.length) : l.getD i d = l[i] := by simp [List.getD, h]
theorem zfe {α : Type} {xs : List α} (h : 0 < xs.length) : xs.isEmpty = false := by
 cases xs
 ·simp at h
 ·rfl
theorem zf {z : Bool} {n k : Nat} (h : z = true -> n = 0) (hk : k < n) : z = false := by
 cases z
 ·rfl
 ·have := h rfl; omega
def emC : Ch := .as As.emp
def z6 (idx : List Nat) (l : List Ch) : List Ch := idx.map fun i => l.getD i emC
def V9 (idx : List Nat) (n : Nat) : List Nat := (List.range n).filter fun i => !idx.contains i
def okB (idx : List Nat) (n : Nat) : Bool := (List.range n).isPerm (idx ++ V9 idx n)
theorem b5p {l l' : List Ch} (p : l.Perm l') {F : Ft} {A : World} (h : (hpA l).p F A) : (hpA l').p F A := As.perm (p.map _) h
theorem a0b {l l' : List Ch} {F : Ft} {A : World} : (hpA (l ++ l')).p F A ↔ ((hpA l).star (hpA l')).p F A := by
 unfold hpA
 rw [map_append]
 exact ⟨As.split, As.cat⟩
theorem y8 {idx : List Nat} {l : List Ch} (hi : okB idx l.length = true) {F : Ft} {A : World} (h : (hpA l).p F A) : ((hpA (z6 idx l)).star (hpA (z6 (V9 idx l.length) l))).p F A := by
 have hr : (List.range l.length).map (fun i => l.getD i emC) = l := by
  apply ext_getElem
  ·simp
  ·intro i h1 h2
   simp at h1 h2 ⊢
   simp [h2]
 have := (List.isPerm_iff.1 hi).map fun i => l.getD i emC
 rw [hr, map_append] at this
 exact a0b.1 (b5p this h)
theorem a2B {l l' : List Ch} {F : Ft} {A : World} (h : ((hpA l).star (hpA l')).p F A) : ∃ F', (hpA l).p F' A /\ Mv F A F' A := As.left h
def a7g : List SV -> Nat -> List (Nat × SV)
 | [], _ => []
 | v :: l, i => (i, v) :: a7g l (i + 1)
theorem a1Q : ∀ {l : List SV} {k i : Nat} {v : SV}, W9 (a7g l k) i = some v -> ∃ j, i = k + j /\ l[j]? = some v
 | [], _, _, _, h => by cases h
 | u :: l, k, i, v, h => by
  simp only [a7g, W9] at h
  split at h
  ·rename_i e
   cases h
   exact ⟨0, (Nat.eq_of_beq_eq_true e).symm, rfl⟩
  ·obtain ⟨j, h1, h2⟩ := a1Q h
   exact ⟨j + 1, by omega, by simpa using h2⟩
section
variable {P : Program} {nO : Nat} {ro : Option Nat} {B : Ft × World} {Q : Exit -> Act -> World -> Prop} {s : St}
theorem b2T (G : Good P) {f : FuncId} {fn : Func} {c : Code} (H : IsFn P f fn c) {args : List SV} {pre : List Ch} {R : Type} {φ : R -> Prop} {res : R -> SV} {post : R -> List Ch} (sz nx : Nat) (hsz : args.length + (fn.ntmps - args.length) = sz)
  (k : ∀ B, W P nO none B c (RQ P B fn φ res post) ⟨a7g args 0, pre, sz, nx, false, []⟩) : Ctr P nO f args pre R φ res post := by
 intro F A hF
 suffices h : wpF P nO f (args.map SV.den).toArray (fun v A' => ∃ r F', φ r /\ v = (res r).den /\ (hpA (post r)).p F' A' /\ Mv F A F' A') A by
  obtain ⟨v, A', h1, r, F', h2, rfl, h3, h4⟩ := h
  exact ⟨r, A', F', h2, h1, h3, h4⟩
 have hS : Sat (F, A) ⟨a7g args 0, pre, sz, nx, false, []⟩ ⟨(args.map SV.den).toArray ++ Array.replicate (fn.ntmps - (args.map SV.den).toArray.size) undef, []⟩ A := by
  refine ⟨fun i v hi => ?_, ?_, rfl, F, hF, Mv.refl⟩
  ·obtain ⟨j, rfl, hj⟩ := a1Q hi
   have hlt : j < (args.map SV.den).toArray.size := by
    have := (List.getElem?_eq_some_iff.1 hj).1
    simpa using this
   simp only [Nat.zero_add]
   rw [Array.getD_eq_getD_getElem?, Array.getElem?_append_left hlt]
   simp [hj]
  ·simp only [Array.size_append, size_toArray, length_map, Array.size_replicate]
   exact hsz
 obtain ⟨e, a1, A1, h1, ⟨h2, v, A', h3, h4, h5⟩⟩ := k (F, A) _ A hS
 exact ⟨v, A', a5E G (a3g P nO) ⟨fn, c, e, a1, A1, H.at_, H.body, h1, h2, h3, h4⟩, h5⟩
theorem b77 {id : Nat} {ops : Array Oper} {d : Bool} (h : WR P nO ops ro id d B Q 0 lg0 s) : W P nO ro B (.region id ops d) Q s := fun a A hs =>
 h ⟨fun _ => a, fun _ => A, fun _ => undef⟩ (fun j _ hj => absurd hj (Nat.not_lt_zero j)) (fun j hj => absurd hj (Nat.not_lt_zero j)) hs
theorem b75 (G : Good P) {x y : Code} (h : W P nO ro B x (a4t (wpC P nO ro y Q) Q) s) : W P nO ro B (.seq x y) Q s := fun a A hs => b7C G (h a A hs)
theorem b6D (G : Good P) (h : ∀ a A, Sat B s a A -> Q .normal a A) : W P nO ro B .skip Q s := fun a A hs => b5N G (h a A hs)
theorem b76 (G : Good P) (h : ∀ a A, Sat B s a A -> Q .ret a A) : W P nO ro B .ret Q s := fun a A hs => b7D G (h a A hs)
theorem b6F (G : Good P) {id : Nat} (h : ∀ a A, Sat B s a A -> Q (.exit id) a A) : W P nO ro B (.exit id) Q s := fun a A hs => b5P G (h a A hs)
theorem b4w (G : Good P) {id : Nat} {x : Code} (h : W P nO ro B x (fun e => Q (a3L id e)) s) : W P nO ro B (.block id x) Q s := fun a A hs => b3e G (h a A hs)
theorem b4v (G : Good P) {c : Operand} {x y : Code} (b : Bool) {v : SV} (hc : evX s.env c = some v) (hv : v.den = .bool b) (h : W P nO ro B (if b then x else y) Q s) : W P nO ro B (.cond c x y) Q s := fun a A hs => b5Q G b ((p7 hs.1 hc).trans hv) (h a A hs)
def EnS (s s' : St) : Prop := ∀ (B : Ft × World) a A, Sat B s a A -> Sat B s' a A
theorem b4u {c : Code} {s' : St} (e : EnS s s') (h : W P nO ro B c Q s') : W P nO ro B c Q s := fun a A hs => h a A (e B a A hs)
theorem b7e {s' : St} {R : Act -> World -> Prop} (e : EnS s s') (h : ∀ a A, Sat B s' a A -> R a A) : ∀ a A, Sat B s a A -> R a A := fun a A hs => h a A (e B a A hs)
theorem b6v {ops : Array Oper} {id : Nat} {d : Bool} {i : Nat} {lg : Lg} {s' : St} (e : EnS s s') (h : WR P nO ops ro id d B Q i lg s') : WR P nO ops ro id d B Q i lg s := fun T h1 h2 h3 => h T h1 h2 (e B _ _ h3)
theorem b5H {t : Nat} {v v' : SV} (hv : W9 s.env t = some v) (h : v.den = v'.den) : EnS s { s with env := (t, v') :: rem s.env t } := fun B a A hs => by
 refine ⟨fun i w hi => ?_, hs.2⟩
 simp only [W9] at hi
 split at hi
 ·rename_i e
  cases hi
  rw [<- Nat.eq_of_beq_eq_true e, hs.1 t v hv, h]
 ·exact hs.1 i w (a0m hi).2
theorem b7z (idx : List Nat) {s' : St} (hz : s.sz = s'.sz /\ s.df = s'.df) (he : s'.env.map (fun p => (p.1, (W9 s.env p.1).map SV.den)) = s'.env.map fun p => (p.1, some p.2.den)) (hi : okB idx s.hp.length = true) (hh : (z6 idx s.hp).map Ch.den = s'.hp.map Ch.den) : EnS s s' := fun B a A hs => by
 obtain ⟨h1, h2, h3, F, hF, hM⟩ := hs
 obtain ⟨F', h4, h5⟩ := a2B (y8 hi hF)
 rw [hpA, hh] at h4
 refine ⟨fun i v hv => ?_, h2.trans hz.1, by rw [h3, hz.2], F', h4, hM.trans h5⟩
 have hm : ∀ (l : List (Nat × SV)), l.map (fun p => (p.1, (W9 s.env p.1).map SV.den)) = l.map (fun p => (p.1, some p.2.den)) -> W9 l i = some v -> (W9 s.env i).map SV.den = some v.den := by
  intro l
  induction l with
  | nil => intro _ h; cases h
  | cons p l ih =>
   intro hl hv
   simp only [map_cons, List.cons.injEq, Prod.mk.injEq, true_and] at hl
   obtain ⟨j, u⟩ := p
   simp only [W9] at hv
   split at hv
   ·rename_i e
    cases hv
    rw [<- Nat.eq_of_beq_eq_true e]; exact hl.1
   ·exact ih hl.2 hv
 have := hm _ he hv
 rw [Option.map_eq_some_iff] at this
 obtain ⟨u, hu, e⟩ := this
 rw [h1 i u hu, e]
def gst (s : St) (idx : List Nat) (l : List Ch) (nx : Nat) : St := { s with hp := l ++ z6 (V9 idx s.hp.length) s.hp, nx := nx }
theorem a0H {R : Type} {A : World} {a : Act} {idx : List Nat} {pre : List Ch} {post : R -> List Ch} {nx : Nat} {X : R -> World -> Prop} (hi : okB idx s.hp.length = true) (hh : (z6 idx s.hp).map Ch.den = pre.map Ch.den) (C : ∀ F, (hpA pre).p F A -> ∃ r A' F', X r A' /\ (hpA (post r)).p F' A' /\ Mv F A F' A') (hs : Sat B s a A) :
  ∃ r A', X r A' /\ Sat B (gst s idx (post r) nx) a A' := by
 obtain ⟨h1, h2, h3, F, hF, hM⟩ := hs
 obtain ⟨F1, F2, g1, g2, j⟩ := y8 hi hF
 rw [hpA, hh] at g1
 obtain ⟨r, A', F1', hX, h5, h6⟩ := C F1 g1
 obtain ⟨F', g3, g4⟩ := As.frame j g2 h5 h6
 exact ⟨r, A', hX, h1, h2, h3, F', a0b.2 g3, hM.trans g4⟩
theorem a8B {R : Type} {φ : R -> Prop} {pre : List Ch} {post : R -> List Ch} (idx : List Nat) (nx : Nat) (E : GE pre R φ post) (hi : okB idx s.hp.length = true) (hh : (z6 idx s.hp).map Ch.den = pre.map Ch.den) {a : Act} {A : World} (hs : Sat B s a A) : ∃ r, φ r /\ Sat B (gst s idx (post r) nx) a A := by
 obtain ⟨h1, h2, h3, F, hF, hM⟩ := hs
 obtain ⟨F1, F2, g1, g2, j⟩ := y8 hi hF
 rw [hpA, hh] at g1
 obtain ⟨r, F1', h4, h5, h6⟩ := E F1 A g1
 obtain ⟨F', g3, g4⟩ := As.frame j g2 h5 h6
 exact ⟨r, h4, h1, h2, h3, F', a0b.2 g3, hM.trans g4⟩
theorem b78 {c : Code} {R : Type} {φ : R -> Prop} {pre : List Ch} {post : R -> List Ch} (idx : List Nat) (nx : Nat) (E : GE pre R φ post) (hi : okB idx s.hp.length = true) (hh : (z6 idx s.hp).map Ch.den = pre.map Ch.den) (h : ∀ r, φ r -> W P nO ro B c Q (gst s idx (post r) nx)) : W P nO ro B c Q s := fun a A hs => by
 obtain ⟨r, h1, h2⟩ := a8B idx nx E hi hh hs
 exact h r h1 a A h2
theorem b74 {ops : Array Oper} {id : Nat} {d : Bool} {i : Nat} {lg : Lg} {R : Type} {φ : R -> Prop} {pre : List Ch} {post : R -> List Ch} (idx : List Nat) (nx : Nat) (E : GE pre R φ post) (hi : okB idx s.hp.length = true) (hh : (z6 idx s.hp).map Ch.den = pre.map Ch.den) (h : ∀ r, φ r -> WR P nO ops ro id d B Q i lg (gst s idx (post r) nx)) : WR P nO ops ro id d B Q i lg s := fun T h1 h2 h3 => by
 obtain ⟨r, h4, h5⟩ := a8B idx nx E hi hh h3
 exact h r h4 T h1 h2 h5
theorem b8S {e : Exit} {R : Type} {φ : R -> Prop} {pre : List Ch} {post : R -> List Ch} (idx : List Nat) (nx : Nat) (E : GE pre R φ post) (hi : okB idx s.hp.length = true) (hh : (z6 idx s.hp).map Ch.den = pre.map Ch.den) (h : ∀ r, φ r -> ∀ a A, Sat B (gst s idx (post r) nx) a A -> Q e a A) : ∀ a A, Sat B s a A -> Q e a A := fun a A hs => by
 obtain ⟨r, h1, h2⟩ := a8B idx nx E hi hh hs
 exact h r h1 a A h2
theorem b6E (G : Good P) {x : Code} (X : Type) (inv : X -> St) (φ : X -> Prop) (m : X -> Nat) (x0 : X) (h0 : φ x0) (he : EnS s (inv x0)) (body : ∀ y, φ y -> W P nO ro B x (a4t (fun a A => ∃ x', m x' < m y /\ φ x' /\ Sat B (inv x') a A) Q) (inv y)) : W P nO ro B (.loop x) Q s := fun a A hs => by
 refine b5O G (b4s (fun n a A => ∃ x, n = m x /\ φ x /\ Sat B (inv x) a A) ?_ (m x0) a A ⟨x0, rfl, h0, he B a A hs⟩)
 rintro n a A ⟨x, rfl, hx, hS⟩
 refine (body x hx a A hS).mono fun e a A hq => ?_
 cases e with
 | normal => obtain ⟨x', h1, h2, h3⟩ := hq; exact ⟨m x', h1, x', rfl, h2, h3⟩
 | _ => exact hq
theorem b4J {t : TypeId} {q off n : Nat} {ag : Bool} {cs : Array Value} {tq : TypeId} {fz : Nat × Nat} {l : List C1} {A : World} (ht : tsz P t = some (n, ag)) (h1 : (ag || Nat.beq n 1) = true) (hl : l.length = n)
  (hb : A.heap[q]? = some (.cells cs tq fz)) (hc : cs.extract off (off + n) = d0 l) (hn : off + n <= cs.size) : (loadVar t ⟨q, off, none⟩).run P A = .ok (mkv ag l).den A := by
 have ht' := v6 ht
 unfold loadVar
 simp only [Sem.run_bind, a0I ht', Result.andThen]
 cases ag with
 | true =>
  have := E1 (P := P) n ⟨q, off, none⟩ 0 #[] cs tq fz hb rfl (by simpa using hn)
  simp only [Nat.add_zero, Array.empty_append, hc] at this
  simp only [if_true, Sem.run_bind, p8 ht', Result.andThen, loadCells, this, Sem.run_pure]
  rfl
 | false =>
  simp only [Bool.false_or] at h1
  obtain rfl : n = 1 := Nat.eq_of_beq_eq_true h1
  match l, hl with
  | [c], _ =>
   have := congrArg (fun a => a[0]?) hc
   have e : (cs.extract off (off + 1))[0]? = cs[off]? := by
    rw [Array.getElem?_extract, if_pos (by omega), Nat.add_zero]
   simp only [e] at this
   have hcell : A.cell? ⟨q, off, none⟩ = some c.den := b0F hb rfl (by simpa [d0] using this)
   simp [Go.load, Sem.run, hcell, mkv, SV.den]
def b8h (P : Program) (s : St) : ResultVar -> Option ((Bool × List C1) × List Ob)
 | .tmp t => match W9 s.env t with
  | some (.o c) => some ((false, [c]), [])
  | some (.a l) => some ((true, l), [])
  | _ => none
 | .cell a t => match W9 s.env a, tsz P t with
  | some (.o (.p g q i w k)), some (n, ag) => match fnd s.hp g, Bool.or ag (Nat.beq n 1) with
   | some (.blk _ q' cs _ _), true => match Nat.ble (i * w + k + n) cs.length with
    | true => some ((ag, (cs.drop (i * w + k)).take n), [.n q q'])
    | false => none
   | _, _ => none
  | _, _ => none
def b7W (P : Program) (s : St) : List ResultVar -> Option (List (Bool × List C1) × List Ob)
 | [] => some ([], [])
 | r :: l => match b8h P s r, b7W P s l with
  | some (c, p), some (cs, ps) => some (c :: cs, p ++ ps)
  | _, _ => none
def b7V (P : Program) (s : St) (l : List ResultVar) : Option (SV × List Ob) := match b7W P s l with
 | some ([(false, l)], ps) => some (.o (l.headD (.v undef)), ps)
 | some ([(true, l)], ps) => some (.a l, ps)
 | some (cs, ps) => match Nat.beq cs.length 1 with
  | true => none
  | false => some (.t cs, ps)
 | none => none
theorem b4O {a : Act} {A : World} (hs : Sat B s a A) {r : ResultVar} {c : Bool × List C1} {ps : List Ob} (hr : b8h P s r = some (c, ps)) (hps : G7 ps) : (I1 a.tmps r).run P A = .ok (Y6 c) A := by
 unfold b8h at hr
 split at hr
 ·rename_i t
  split at hr
  ·rename_i c' hl
   cases hr
   simp only [I1, Sem.run_pure, hs.1 t _ hl]; rfl
  ·rename_i l hl
   cases hr
   simp only [I1, Sem.run_pure, hs.1 t _ hl]; rfl
  ·cases hr
 ·rename_i t' t
  split at hr
  case h_2 => cases hr
  rename_i g q i w k n ag hx ht
  split at hr
  case h_2 => cases hr
  rename_i g' q' cs t2 m hf hb
  split at hr
  case h_2 => cases hr
  rename_i hle
  cases hr
  obtain ⟨rfl, _⟩ := hps
  obtain ⟨F, hF, _⟩ := hs.2.2.2
  obtain ⟨fz, _, hB⟩ := a36 hf hF
  have hle' := Nat.le_of_ble_eq_true hle
  have hx' : a.tmps.getD t' undef = .pointer (some ⟨q, i * w + k, none⟩) := hs.1 _ _ hx
  simp only [I1, hx', asAddr, Sem.run_bind, Sem.run_pure, Result.andThen]
  have := b4J (l := (cs.drop (i * w + k)).take n) ht hb (by simp; omega) hB H4 (by simpa [d0] using hle')
  rw [this]
  cases ag <;> rfl
theorem a2e {a : Act} {A : World} (hs : Sat B s a A) : ∀ {l : List ResultVar} {cs : List (Bool × List C1)} {ps : List Ob}, b7W P s l = some (cs, ps) -> G7 ps -> (List.mapM (m := Sem) (I1 a.tmps) l).run P A = .ok (cs.map Y6) A
 | [], cs, ps, hr, _ => by cases hr; rfl
 | r :: l, cs, ps, hr, hps => by
  simp only [b7W] at hr
  split at hr
  case h_2 => cases hr
  rename_i c p cs' ps' h1 h2
  cases hr
  obtain ⟨hp1, hp2⟩ := G7.split hps
  simp only [mapM_cons, Sem.run_bind, b4O hs h1 hp1, Result.andThen, a2e hs h2 hp2, Sem.run_pure, map_cons]
theorem b4N {fn : Func} {a : Act} {A : World} (hs : Sat B s a A) {v : SV} {ps : List Ob} (hr : b7V P s fn.results.toList = some (v, ps)) (hps : G7 ps) : (results fn a.tmps).run P A = .ok v.den A := by
 rw [a1J, Array.mapM_eq_mapM_toList]
 unfold b7V at hr
 split at hr
 ·rename_i c ps' hl
  cases hr
  simp only [map_eq_pure_bind, Sem.run_bind, a2e hs hl hps, Result.andThen, Sem.run_pure]
  rfl
 ·rename_i l ps' hl
  cases hr
  simp only [map_eq_pure_bind, Sem.run_bind, a2e hs hl hps, Result.andThen, Sem.run_pure]
  rfl
 ·rename_i cs ps' _ _ hl
  split at hr
  case h_1 => cases hr
  rename_i hb
  cases hr
  simp only [map_eq_pure_bind, Sem.run_bind, a2e hs hl hps, Result.andThen, Sem.run_pure]
  rw [dif_neg (fun e => by
   simp only [size_toArray, length_map] at e
   rw [e] at hb; cases hb)]
  rfl
 ·cases hr
theorem b8q {fn : Func} {R : Type} {φ : R -> Prop} {res : R -> SV} {post : R -> List Ch} {e : Exit} (r : R) (idx : List Nat) (v : SV) (ps : List Ob) (hv : b7V P s fn.results.toList = some (v, ps)) (hps : G7 ps) (hd : v.den = (res r).den) (hφ : φ r) (hi : okB idx s.hp.length = true) (hh : (z6 idx s.hp).map Ch.den = (post r).map Ch.den) (he : e = .normal ∨ e = .ret) (hdf : s.df = [] := by rfl) :
  ∀ a A, Sat B s a A -> RQ P B fn φ res post e a A := fun a A hs => by
 have hres := b4N hs hv hps
 obtain ⟨h1, h2, h3, F, hF, hM⟩ := hs
 obtain ⟨F', h4, h5⟩ := a2B (y8 hi hF)
 rw [hpA, hh] at h4
 exact ⟨he, v.den, A, by rw [h3, hdf]; rfl, hres, r, F', hφ, hd, h4, hM.trans h5⟩
def b5L (q : Nat) : As where
 p F A := (∀ b, F.own b ↔ b = q) /\ (∀ b, ¬ F.imm b) /\ A.heap[q]? = some (.deferred (some []))
 lt := fun ⟨h1, h2, h⟩ hb => by
  have := (Array.getElem?_eq_some_iff.1 h).1
  rcases hb with hb | hb
  ·rw [(h1 _).1 hb]; exact this
  ·exact (h2 _ hb).elim
 loc := fun ⟨h1, h2, h⟩ hk => ⟨h1, h2, by rw [hk q (.inl ((h1 q).2 rfl))]; exact h⟩
theorem b7c {fn : Func} {R : Type} {φ : R -> Prop} {res : R -> SV} {post : R -> List Ch} {e : Exit} (q j : Nat) (hdf : s.df = [q]) (hj : okB [j] s.hp.length = true) (hc : (z6 [j] s.hp).map Ch.den = [b5L q])
  (k : ∀ B a A, Sat B { s with hp := z6 (V9 [j] s.hp.length) s.hp, df := [] } a A -> RQ P B fn φ res post e a A) : ∀ a A, Sat B s a A -> RQ P B fn φ res post e a A := fun a A hs => by
 obtain ⟨h1, h2, h3, F, hF, hM⟩ := hs
 obtain ⟨F1, F2, g1, g2, jn⟩ := y8 hj hF
 rw [hpA, hc] at g1
 have g1 := As.unE g1
 obtain ⟨o1, o2, hB⟩ := g1
 have hk : ∀ b, b ≠ q -> (turn A q (.deferred none)).heap[b]? = A.heap[b]? := fun b hb => w0 hb
 have hq : F.own q := (jn.own q).2 (.inl ((o1 q).2 rfl))
 have hM1 : Mv F A F2 (turn A q (.deferred none)) := ⟨Nat.le_of_eq r9.symm, fun b _ hn => hk b fun e => hn (e ▸ hq), fun b hb => .inl ((jn.own b).2 (.inr hb)), fun b hb => .inr (.inl ((jn.imm b).2 (.inr hb)))⟩
 have hs' : Sat B { s with hp := z6 (V9 [j] s.hp.length) s.hp, df := [] } ⟨a.tmps, []⟩ (turn A q (.deferred none)) :=
  ⟨h1, h2, rfl, F2, As.loc _ g2 fun b hb => hk b fun e => by subst e; exact hb.elim (jn.oo b ((o1 b).2 rfl)) (jn.oi b ((o1 b).2 rfl)), hM.trans hM1⟩
 obtain ⟨e1, v, A', e2, e3, e4⟩ := k B _ _ hs'
 have e2' : A' = turn A q (.deferred none) := e2
 subst e2'
 refine ⟨e1, v, _, ?_, e3, e4⟩
 rw [h3, hdf]
 exact ⟨q, turn A q (.deferred none), rfl, by
  unfold Instr.takeDeferred getObj setObj
  simp [Sem.run, Bind.bind, Sem.bind, Pure.pure, hB, turn], rfl⟩
def b3v (env : List (Nat × SV)) : List Operand -> Option (List Value)
 | [] => some []
 | x :: l => match evX env x, b3v env l with
  | some v, some vs => some (v.den :: vs)
  | _, _ => none
theorem G4 {env : List (Nat × SV)} {a : Act} (h : V0 env a) : ∀ {l : List Operand} {vs : List Value}, b3v env l = some vs -> l.map a.eval = vs
 | [], _, e => by cases e; rfl
 | x :: l, vs, e => by
  simp only [b3v] at e
  split at e
  case h_2 => cases e
  rename_i v vs' h1 h2
  cases e
  simp only [map_cons, p7 h h1, G4 h h2]
def aft (s : St) (d : Option Tmp) (v : SV) (idx : List Nat) (l : List Ch) (nx : Nat) : Option St := a7z (gst s idx l nx) d v
theorem a4o {ops : Array Oper} {id : Nat} {d : Bool} {i : Nat} {lg : Lg} {o : Oper} {R : Type} {φ : R -> Prop} {res : R -> SV} {pre : List Ch} {post : R -> List Ch} (ho : ops[i]? = some o) (hw : K2 ops s.env o = some .yes) (hk : g6 o.op = .acts) (idx : List Nat) (nx : Nat) (hi : okB idx s.hp.length = true) (hh : (z6 idx s.hp).map Ch.den = pre.map Ch.den)
  (run : ∀ a : Act, V0 s.env a -> ∀ F A, (hpA pre).p F A -> ∃ r A' F', (φ r /\ Z5 P (Wd P nO) o a A (res r).den A') /\ (hpA (post r)).p F' A' /\ Mv F A F' A')
  (next : ∀ r, φ r -> ∃ s', aft s o.dst (res r) idx (post r) nx = some s' /\ WR P nO ops ro id d B Q (i + 1) (lg.snoc i (s, none)) s') : WR P nO ops ro id d B Q i lg s := fun T h1 h2 h3 => by
 obtain ⟨r, A', ⟨hφ, hrun⟩, hS⟩ := a0H (X := fun r A' => φ r /\ Z5 P (Wd P nO) o (T.as i) (T.ws i) (res r).den A') (nx := nx) hi hh (fun F hF => run _ h3.1 F _ hF) h3
 obtain ⟨s', hs', hn⟩ := next r hφ
 obtain ⟨h4, _, _⟩ := H2 (s := gst s idx (post r) nx) (hp := (gst s idx (post r) nx).hp) (nx := nx) hS hS.2.2.2 hs' rfl
 obtain ⟨T1, e1, e2, g1, g2, g3, _⟩ := a0k (s1 := s') ho h1 h2 h3 (u := (res r).den) (A1 := A') (mk := none) ⟨rfl, by rw [if_pos (show Region.wanted o (yielded ops (T.as i).tmps) = true from I5 h3 hw)]; exact ⟨hrun, by rw [hk]; trivial⟩⟩ h4
 rw [<- e1, <- e2]
 exact hn T1 g1 g2 g3
theorem x7 {o : Oper} {a : Act} {A A' : World} {c : Call} {g : Operand} {f : FuncId} {first cap : Array Value} {fn : Func} {code : Code} {v : Value} {l : List Value} {xs : Array Value} (H : IsFn P f fn code) (hg : a.eval g = .func (.func f) first cap) (hl : c.args.toList.map a.eval = l) (hx : first ++ l.toArray ++ cap = xs)
  (h : u9 P nO f xs A v A') (ho : o.op = .call c) (hc : c.callee = .value g) : Z5 P (Wd P nO) o a A v A' := by
 subst hx
 have e : c.args.map a.eval = l.toArray := by rw [<- hl, <- Array.toList_map]
 rw [<- e] at h
 exact ⟨_, _, .inr (.inr (.inr (.inl ⟨c, g, f, first, cap, fn, code, ho, hc, hg, H.at_, H.body, H.name, rfl, rfl⟩))), h⟩
end
end Go.Abs
open List (all_eq_true length_append append_assoc drop_eq_getElem_cons map_append size_toArray length_map append_nil take_append_drop drop_drop length_take getElem_set_self)
namespace Go.Abs
section
variable {P : Program} {nO : Nat} {A : World} {F : Ft}
def b08 (A : World) (q off : Nat) (z : Bool) (cs : Array Value) : Prop := (z = true /\ cs = #[]) ∨ (z = false /\ ∃ c t fz, A.heap[q]? = some (.cells c t fz) /\ off + cs.size <= c.size /\ c.extract off (off + cs.size) = cs)
def Src (c : Ch) (q off : Nat) (z : Bool) (cs : Array Value) : Prop := ∀ F A, c.den.p F A -> b08 A q off z cs
theorem b4B {g q : Nat} {cs l : List C1} {t : TypeId} {m : Md} {off : Nat} (h1 : off + l.length <= cs.length) (h2 : (d0 cs).extract off (off + l.length) = d0 l) : Src (.blk g q cs t m) q off false (d0 l) := fun F A h => by
 obtain ⟨_, _, fz, _, hb⟩ := h
 exact .inr ⟨rfl, _, _, _, hb, by simpa [J5] using h1, by simpa [J5] using h2⟩
theorem a1B {α : Type} {en : α -> List C1} {x : α} : b7 en [x] = d0 (en x) := by simp [b7, d0]
theorem k8 {α : Type} {en : α -> List C1} {xs ys : List α} : b7 en (xs ++ ys) = b7 en xs ++ b7 en ys := by simp [b7]
theorem M6 {α : Type} {en : α -> List C1} : b7 en [] = #[] := by simp [b7]
theorem o8 {α : Type} {en : α -> List C1} {x : α} {g q : Nat} {cs : List C1} {t : TypeId} {m : Md} (h : d0 cs = d0 (en x)) : Src (.blk g q cs t m) q 0 false (b7 en [x]) := by
 rw [a1B, <- h]
 exact b4B (by simp) (by simp [J5])
theorem L0 {α : Type} {en : α -> List C1} {d : α} {xs : List α} {g q w : Nat} {t : TypeId} {m : Md} {z : Bool} : Src (.vec g q w en d xs t m z) q 0 z (b7 en xs) := fun F A h => by
 cases z with
 | true =>
  obtain ⟨_, rfl⟩ := h
  exact .inl ⟨rfl, M6⟩
 | false =>
  obtain ⟨_, _, _, fz, _, hb⟩ := h
  exact .inr ⟨rfl, _, _, _, hb, by simp, by simp⟩
theorem R0 {q off n n' c' sz : Nat} {z : Bool} {cs : Array Value} (h : b08 A q off z cs) (hn : cs.size = n * sz) : (Builtin.firstCells sz n (.slice (cond z none (some ⟨q, off, none⟩)) n' c')).run P A = .ok cs A := by
 rcases h with ⟨rfl, rfl⟩ | ⟨rfl, c, t, fz, hb, h1, h2⟩
 ·rfl
 ·have := E1 (P := P) (n * sz) ⟨q, off, none⟩ 0 #[] c t fz hb rfl (by simp; omega)
  simp only [Nat.add_zero, Array.empty_append] at this
  show (loadCells ⟨q, off, none⟩ (n * sz)).run P A = _
  unfold loadCells
  rw [this, <- hn, h2]
def b6m (P : Program) (ts : Array TypeId) (e w : Nat) : Bool := match ts[0]?, ts[1]? with
 | some s, some x => match P.underlying s, P.underlying x, P.info? e with
  | some (.slice e'), some (.slice _), some ie => match ie.zero with
   | some z => Nat.beq e e' && Nat.beq ie.size w && Nat.ble ie.bytes 65536 && Nat.beq z.cells.size ie.size
   | none => false
  | _, _, _ => false
 | _, _ => false
structure AppT (P : Program) (ts : Array TypeId) (e w : Nat) (ie : TypeInfo) (z : Value) : Prop where
 at_ : AppAt P ts e ie z
 nz : d8 P ts = false
 size : ie.size = w
 bytes : ie.bytes <= 2 ^ 16
 zs : z.cells.size = ie.size
theorem a5i {ts : Array TypeId} {e w : Nat} (h : b6m P ts e w = true) : ∃ ie z, AppT P ts e w ie z := by
 unfold b6m at h
 split at h
 case h_2 => cases h
 rename_i s x h0 h1
 split at h
 case h_2 => cases h
 rename_i e' e2 ie hs hx hi
 split at h
 case h_2 => cases h
 rename_i z hz
 simp only [Bool.and_eq_true] at h
 obtain ⟨⟨⟨k1, k2⟩, k3⟩, k4⟩ := h
 have k1' := Nat.eq_of_beq_eq_true k1
 subst k1'
 refine ⟨ie, z, ⟨hz, ⟨s, h0, hs⟩, hi, fun t ht => ?_⟩, ?_, Nat.eq_of_beq_eq_true k2, Nat.le_of_ble_eq_true k3, Nat.eq_of_beq_eq_true k4⟩
 ·rw [h1] at ht; cases ht; exact .inl ⟨_, hx⟩
 ·simp [d8, h1, hx]
def a7F (q : Nat) : Ft := ⟨fun b => b = q, fun _ => False⟩
theorem b0R {α : Type} {en : α -> List C1} {d : α} {xs ys : List α} {g q w n2 c2 q2 off : Nat} {e : TypeId} {m : Md} {z z2 : Bool} {cs : Ch} {ts : Array TypeId} (hw : ∀ x, (en x).length = w) (h1 : ∀ x, (en x).all C1.one = true) (hT : b6m P ts e w = true) (hm : m = .grown ∨ (m = .own /\ ys ≠ []))
  (hne : z = false -> m = .grown -> 0 < xs.length) (hs : Src cs q2 off z2 (b7 en ys)) (hn : n2 = ys.length) (hlen : xs.length + ys.length <= 16777216) (hF : (hpA [.vec g q w en d xs e m z, cs]).p F A) :
  ∃ q' A' F', b8H P ts #[.slice (cond z none (some ⟨q, 0, none⟩)) xs.length xs.length, .slice (cond z2 none (some ⟨q2, off, none⟩)) n2 c2] A (.slice (cond (z && ys.isEmpty) none (some ⟨q', 0, none⟩)) (xs ++ ys).length (xs ++ ys).length) A' /\
   (hpA [.vec g q' w en d (xs ++ ys) e .grown (z && ys.isEmpty), cs]).p F' A' /\ Mv F A F' A' := by
 subst hn
 obtain ⟨ie, zv, T⟩ := a5i hT
 obtain ⟨F1, F2, k1, k2, j⟩ := hF
 have k2' := As.unE k2
 have hsrc := hs _ _ k2'
 have hsz : (b7 en ys).size = ys.length * ie.size := by rw [f5 hw, T.size]
 have hnew : (appSrc (d8 P ts) e ie.size ys.length (.slice (cond z2 none (some ⟨q2, off, none⟩)) ys.length c2)).run P A = .ok (b7 en ys) A := by
  rw [T.nz]
  simp only [appSrc, Bool.not_false, if_true]
  exact R0 hsrc hsz
 have hone : (b7 en ys).toList.all isOne = true := by
  unfold b7
  simp only [List.all_flatMap, List.all_map, all_eq_true, Function.comp_apply]
  intro x _ c hc
  exact C1.one_den ((List.all_eq_true.1 (h1 x)) c hc)
 have hnx : a0u (d8 P ts) ie.bytes (.slice (cond z2 none (some ⟨q2, off, none⟩)) ys.length c2) = some ys.length := by rw [T.nz]; rfl
 have frame : ∀ {q' : Nat} {z' : Bool} {F1' : Ft} {A' : World}, (Ch.vec g q' w en d (xs ++ ys) e .grown z').den.p F1' A' -> Mv F1 A F1' A' -> ∃ F', (hpA [.vec g q' w en d (xs ++ ys) e .grown z', cs]).p F' A' /\ Mv F A F' A' := fun {q' z' F1' A'} h M => As.frame (K := (Ch.vec g q' w en d (xs ++ ys) e .grown z').den) j k2 h M
 by_cases hy : ys = []
 ·subst hy
  have hm' : m = .grown := by exact hm.resolve_right fun h => h.2 rfl
  subst hm'
  refine ⟨q, A, F, ⟨e, ie, zv, _, xs.length, xs.length, _, 0, T.at_, rfl, hnx, .inl ⟨Nat.le_refl _, b7 en [], hnew, ?_, ?_⟩⟩, ?_, .refl⟩
  ·rw [M6]
   cases z <;> rfl
  ·simp
  ·simp only [append_nil, List.isEmpty_nil, Bool.and_true]
   exact ⟨F1, F2, k1, k2, j⟩
 ·have hpos : 0 < ys.length := List.length_pos_iff.2 hy
  have hie : ys.isEmpty = false := by
   cases ys with
   | nil => exact absurd rfl hy
   | cons => rfl
  have hlt1 : ∀ b, F1.own b ∨ F1.imm b -> b < A.heap.size := fun b hb => (Ch.den _).lt k1 hb
  simp only [hie, Bool.and_false, cond_false]
  have newA : ∀ {A0 : World}, A0.heap.size = A.heap.size -> (∀ b, b < A.heap.size -> ¬ F1.own b -> A0.heap[b]? = A.heap[b]?) -> ∃ F', (hpA [.vec g A.heap.size w en d (xs ++ ys) e .grown false, cs]).p F' (A0.alloc (.cells (b7 en xs ++ b7 en ys) e (1, 0))) /\ Mv F A F' (A0.alloc (.cells (b7 en xs ++ b7 en ys) e (1, 0))) := fun {A0} hsz0 hk0 => by
   refine frame (F1' := a7F A.heap.size) ⟨hw, fun b => by simp [a7F, Md.mine], fun b => by simp [a7F, Md.mine], (1, 0), rfl, ?_⟩ ⟨by simp [hsz0], fun b hb hn => ?_, fun b hb => .inr (by simp only [a7F] at hb; omega), fun b hb => hb.elim⟩
   ·rw [k8, <- hsz0]; exact J6
   ·rw [x5 (by rw [hsz0]; exact hb)]; exact hk0 b hb hn
  cases z with
  | true =>
   obtain ⟨rfl, rfl⟩ := k1
   obtain ⟨F', g1, g2⟩ := newA (A0 := A) rfl fun _ _ _ => rfl
   rw [M6, Array.empty_append] at g1 g2
   refine ⟨A.heap.size, _, F', ⟨e, ie, zv, none, 0, 0, _, ys.length, T.at_, rfl, hnx, .inr ⟨by omega, Nat.le_refl _, by simpa using hlen, T.bytes, T.zs, #[], b7 en ys, rfl, hnew, by simp, by simp, hsz, hone, .inl ⟨by simp, fun a h => by cases h⟩⟩⟩, g1, g2⟩
  | false =>
   obtain ⟨_, o1, _, fz, hfz, hb⟩ := k1
   have hold : (Builtin.firstCells ie.size xs.length (.slice (some ⟨q, 0, none⟩) xs.length xs.length)).run P A = .ok (b7 en xs) A := by
    have := R0 (P := P) (A := A) (q := q) (off := 0) (n := xs.length) (n' := xs.length) (c' := xs.length) (sz := ie.size) (z := false) (cs := b7 en xs) (.inr ⟨rfl, _, _, _, hb, by simp, by simp⟩) (by rw [f5 hw, T.size])
    exact this
   have hxs : (b7 en xs).size = xs.length * ie.size := by rw [f5 hw, T.size]
   by_cases hg : m = .grown /\ 0 < xs.length
   ·obtain ⟨rfl, hx0⟩ := hg
    cases hfz
    have how : F1.own q := (o1 q).2 ⟨rfl, rfl⟩
    obtain ⟨F', g1, g2⟩ := newA (A0 := kill A q e) (a3F _ _) fun b _ hn => a4O fun eq => hn (eq ▸ how)
    refine ⟨A.heap.size, _, F', ⟨e, ie, zv, some ⟨q, 0, none⟩, xs.length, xs.length, _, ys.length, T.at_, rfl, hnx, .inr ⟨by omega, Nat.le_refl _, hlen, T.bytes, T.zs, b7 en xs, b7 en ys, hold, hnew, by simp, hxs, hsz, hone, .inr ⟨⟨q, 0, none⟩, b7 en xs, rfl, hb, hx0, rfl⟩⟩⟩, g1, g2⟩
   ·have hf1 : fz ≠ (1, 0) := by
     rcases hm with rfl | ⟨rfl, _⟩
     ·exact absurd ⟨rfl, hne rfl rfl⟩ hg
     ·intro h; cases hfz; cases h
    obtain ⟨F', g1, g2⟩ := newA (A0 := A) rfl fun _ _ _ => rfl
    refine ⟨A.heap.size, _, F', ⟨e, ie, zv, some ⟨q, 0, none⟩, xs.length, xs.length, _, ys.length, T.at_, rfl, hnx, .inr ⟨by omega, Nat.le_refl _, hlen, T.bytes, T.zs, b7 en xs, b7 en ys, hold, hnew, by simp, hxs, hsz, hone, .inl ⟨rfl, fun a h => by cases h; exact ⟨_, _, _, hb, b2R hfz, hf1⟩⟩⟩⟩, g1, g2⟩
end
section
variable {P : Program} {nO : Nat} {ro : Option Nat} {B : Ft × World} {Q : Exit -> Act -> World -> Prop} {s : St} {ops : Array Oper} {id : Nat} {dr : Bool} {i : Nat} {lg : Lg} {o : Oper}
def b2A (o : Oper) : Option Call := match o.op with
 | .call c => match c.callee with
  | .builtin .append => some c
  | _ => none
 | _ => none
theorem a2z {c : Call} (h : b2A o = some c) : o.op = .call c /\ c.callee = .builtin .append := by
 unfold b2A at h
 split at h
 case h_2 => cases h
 rename_i c' ho
 split at h
 case h_2 => cases h
 rename_i hc
 cases h
 exact ⟨ho, hc⟩
theorem b6x {α : Type} {en : α -> List C1} {d : α} {xs ys : List α} {g q w n2 c2 q2 off : Nat} {e : TypeId} {m : Md} {z z2 : Bool} {cs : Ch} {c : Call} (g' : Nat) (z' : Bool) (xs' : List α) (idx : List Nat) (nx : Nat) (ho : ops[i]? = some o) (hc : b2A o = some c) (hwt : K2 ops s.env o = some .yes)
  (ha : b3v s.env c.args.toList = some [.slice (cond z none (some ⟨q, 0, none⟩)) xs.length xs.length, .slice (cond z2 none (some ⟨q2, off, none⟩)) n2 c2])
  (hw : ∀ x, (en x).length = w) (h1 : ∀ x, (en x).all C1.one = true) (hT : b6m P c.argTypes e w = true) (hm : m = .grown ∨ (m = .own /\ ys ≠ [])) (hne : z = false -> m = .grown -> 0 < xs.length) (hs : Src cs q2 off z2 (b7 en ys)) (hn : n2 = ys.length) (hlen : xs.length + ys.length <= 16777216)
  (hz' : z' = (z && ys.isEmpty)) (hxs : xs' = xs ++ ys) (hi : okB idx s.hp.length = true) (hh : (z6 idx s.hp).map Ch.den = [Ch.vec g q w en d xs e m z, cs].map Ch.den)
  (next : ∀ q', ∃ s', aft s o.dst (.o (.s g' q' w 0 xs'.length xs'.length z')) idx [.vec g' q' w en d xs' e .grown z', cs] nx = some s' /\ WR P nO ops ro id dr B Q (i + 1) (lg.snoc i (s, none)) s') : WR P nO ops ro id dr B Q i lg s := by
 obtain ⟨h2, h3⟩ := a2z hc
 subst hxs
 refine a4o (R := Nat) (φ := fun _ => True) (res := fun q' => .o (.s g' q' w 0 (xs ++ ys).length (xs ++ ys).length z')) (post := fun q' => [.vec g' q' w en d (xs ++ ys) e .grown z', cs]) ho hwt (by rw [h2]; unfold g6; simp only [h3]) idx nx hi hh (fun a hE F A hF => ?_) fun q' _ => next q'
 obtain ⟨q', A', F', k1, k2, k3⟩ := b0R hw h1 hT hm hne hs hn hlen hF
 rw [<- hz'] at k1 k2
 refine ⟨q', A', F', ⟨trivial, ?_⟩, k2, k3⟩
 have hargs : c.args.map a.eval = #[.slice (cond z none (some ⟨q, 0, none⟩)) xs.length xs.length, .slice (cond z2 none (some ⟨q2, off, none⟩)) n2 c2] := by
  have := G4 hE ha
  apply Array.ext'
  rw [Array.toList_map]; exact this
 have hd : (SV.o (.s g' q' w 0 (xs ++ ys).length (xs ++ ys).length z')).den = .slice (cond z' none (some ⟨q', 0, none⟩)) (xs ++ ys).length (xs ++ ys).length := by
  show Value.slice (cond z' none (some ⟨q', 0 * w, none⟩)) _ _ = _
  rw [Nat.zero_mul]
 rw [hd]
 exact ⟨_, _, .inr (.inr (.inl ⟨c, _, h2, h3, rfl, by rw [hargs]; exact k1⟩)), rfl, rfl⟩
theorem a0t {q : Nat} {cs cs' : Array Value} {t : TypeId} {m : Md} {F : Ft} {A A' : World} (hm : m.mine = true) (h : (a7r q cs t m).p F A) (hk : ∀ k, k ≠ q -> A'.heap[k]? = A.heap[k]?) (hsz : A'.heap.size = A.heap.size) (hb : ∀ fz, A.heap[q]? = some (.cells cs t fz) -> A'.heap[q]? = some (.cells cs' t fz)) : (a7r q cs' t m).p F A' /\ Mv F A F A' := by
 obtain ⟨h1, h2, fz, h3, h4⟩ := h
 refine ⟨⟨h1, h2, fz, h3, hb fz h4⟩, ⟨Nat.le_of_eq hsz.symm, fun b _ hn => hk b fun e => hn ((h1 b).2 ⟨hm, e⟩), fun _ hb => .inl hb, fun _ hb => .inr (.inl hb)⟩⟩
theorem a1C {α : Type} {en : α -> List C1} {d : α} {xs : List α} {i : Nat} (hi : i < xs.length) : (b7 en xs).toList = (b7 en (xs.take i)).toList ++ (en (xs.getD i d)).map C1.den ++ (b7 en (xs.drop (i + 1))).toList := by
 have : xs = xs.take i ++ [xs.getD i d] ++ xs.drop (i + 1) := by
  rw [a8 hi, append_assoc, List.singleton_append, <- drop_eq_getElem_cons hi, take_append_drop]
 conv => lhs; rw [this]
 simp [b7]
theorem b6u {α : Type} {en : α -> List C1} {d : α} {xs : List α} {g g0 q w j k n : Nat} {t te : TypeId} {m : Md} {ag : Bool} {x y : Operand} {v : SV} {l : List C1} {z : Bool} (x' : α) (idx : List Nat) (ho : ops[i]? = some o) (hop : o.op = .store t x y) (hwt : K2 ops s.env o = some .yes) (hm : m.mine = true)
  (hx : evX s.env x = some (.o (.p g0 q j w k))) (hy : evX s.env y = some v) (hv : v.cells = some l) (hone : l.all C1.one = true) (ht : tsz P t = some (n, ag)) (hn : l.length = n) (hw : ∀ x, (en x).length = w) (hj : j < xs.length) (hk : k + n <= w) (hx' : (en x').map C1.den = (a3u (en (xs.getD j d)) k l).map C1.den)
  (hi : okB idx s.hp.length = true) (hh : (z6 idx s.hp).map Ch.den = [Ch.vec g q w en d xs te m z].map Ch.den) (hz : z = false) (xs' : List α) (hxs : xs' = xs.set j x')
  (next : ∃ s', aft s o.dst (.o (.v undef)) idx [.vec g q w en d xs' te m z] s.nx = some s' /\ WR P nO ops ro id dr B Q (i + 1) (lg.snoc i (s, none)) s') : WR P nO ops ro id dr B Q i lg s := by
 subst hz
 subst hxs
 refine a4o (R := Unit) (φ := fun _ => True) (res := fun _ => .o (.v undef)) (post := fun _ => [.vec g q w en d (xs.set j x') te m false]) ho hwt (by rw [hop]; rfl) idx s.nx hi hh (fun a hE F A hF => ?_) fun _ _ => next
 obtain ⟨F1, F2, ⟨hw', hb⟩, h2, j0⟩ := hF
 obtain ⟨o1, o2, fz, hfz, hB⟩ := hb
 have hcut := a1C (en := en) (d := d) hj
 have hE' : (en (xs.getD j d)).map C1.den = ((en (xs.getD j d)).take k).map C1.den ++ (((en (xs.getD j d)).drop k).take n).map C1.den ++ ((en (xs.getD j d)).drop (k + n)).map C1.den := by
  rw [<- map_append, <- map_append, <- drop_drop, append_assoc, take_append_drop, take_append_drop]
 have hB' : A.heap[q]? = some (.cells (((b7 en (xs.take j)).toList ++ ((en (xs.getD j d)).take k).map C1.den) ++ (((en (xs.getD j d)).drop k).take n).map C1.den ++ (((en (xs.getD j d)).drop (k + n)).map C1.den ++ (b7 en (xs.drop (j + 1))).toList)).toArray te fz) := by
  rw [hB]
  congr 2
  apply Array.ext'
  rw [hcut, hE']
  simp
 have hone' : (l.map C1.den).all isOne = true := by
  rw [all_eq_true] at hone ⊢
  intro u hu
  obtain ⟨c, hc', rfl⟩ := List.mem_map.1 hu
  exact C1.one_den (hone c hc')
 have hpre : ((b7 en (xs.take j)).toList ++ ((en (xs.getD j d)).take k).map C1.den).length = j * w + k + 0 := by
  have h1 := f5 hw (xs.take j)
  simp only [length_append, Array.length_toList, h1, length_map, length_take, hw]
  rw [Nat.min_eq_left (by omega), Nat.min_eq_left (by omega)]; rfl
 obtain ⟨A', r, h5, h6, h7⟩ := N0 (P := P) (new := l.map C1.den) (off := j * w + k) (i := 0) (a2r hm hfz) hone' hB' hpre (by simp [hw, hn]; omega)
 obtain ⟨k1, k2⟩ := a0t (cs' := b7 en (xs.set j x')) hm ⟨o1, o2, fz, hfz, hB⟩ h7 h6 (fun fz' hB2 => by
  rw [hB] at hB2; cases hB2
  rw [h5]
  congr 2
  apply Array.ext'
  have hj' : j < (xs.set j x').length := by simpa using hj
  rw [a1C (d := d) hj', List.take_set, List.drop_set_of_lt (by omega), a8 hj', getElem_set_self, hx']
  have e1 : (xs.take j).set j x' = xs.take j := List.set_eq_of_length_le (by simp; omega)
  rw [e1]
  simp [a3u, hn])
 obtain ⟨F', g1, g2⟩ := As.frame (K := (Ch.vec g q w en d (xs.set j x') te m false).den) j0 h2 ⟨hw', k1⟩ k2
 refine ⟨(), A', F', ⟨trivial, ?_⟩, g1, g2⟩
 refine ⟨.skip, A', .inr (.inl ⟨by rw [hop]; trivial, ?_⟩), rfl, rfl⟩
 unfold execOp; rw [hop]
 have hx2 : a.eval x = .pointer (some ⟨q, j * w + k, none⟩) := p7 hE hx
 have hv2 : v.den.cells = (l.map C1.den).toArray := SV.cells_den hv hone
 simp only [Instr.storeAt, hx2, p7 hE hy, Instr.sureAddr, Sem.run_bind, Sem.run_pure, Result.andThen, storeVar, p8 (v6 ht), hv2, size_toArray, length_map, hn]
 rw [if_neg (by simp)]
 simp only [r]
def a2X (P : Program) (nO : Nat) (y : Value) (args : List SV) (pre : List Ch) (R : Type) (φ : R -> Prop) (res : R -> SV) (post : R -> List Ch) : Prop :=
 ∀ F A, (hpA pre).p F A -> ∃ r A' F', φ r /\ b1d P nO y (args.map SV.den).toArray A (res r).den A' /\ (hpA (post r)).p F' A' /\ Mv F A F' A'
theorem b5S {f : FuncId} {fn : Func} {code : Code} {first cap args args' : List SV} {y : Value} {pre : List Ch} {R : Type} {φ : R -> Prop} {res : R -> SV} {post : R -> List Ch} (H : IsFn P f fn code) (C : Ctr P nO f args' pre R φ res post) (hy : y = .func (.func f) (first.map SV.den).toArray (cap.map SV.den).toArray)
  (ha : args'.map SV.den = first.map SV.den ++ args.map SV.den ++ cap.map SV.den) : a2X P nO y args pre R φ res post := fun F A hF => by
 obtain ⟨r, A', F', h1, h2, h3⟩ := C F A hF
 refine ⟨r, A', F', h1, ⟨f, fn, code, _, _, H, hy, ?_⟩, h3⟩
 rw [ha] at h2
 simpa using h2
theorem K4 {α : Type} {xs : List α} (h : xs.isEmpty = false) : 0 < xs.length := by
 cases xs
 ·cases h
 ·simp
theorem e7 {α : Type} (g w : Nat) (en : α -> List C1) (d : α) (t : TypeId) (m : Md) : GE [] Unit (fun _ => True) (fun _ => [.vec g 0 w en d [] t m true]) := fun F _A h => ⟨(), F, trivial, ⟨Ft.no, F, ⟨rfl, rfl⟩, h, Ft.Jn.symm Ft.Jn.no⟩, .refl⟩
end
end Go.Abs
open List (append_assoc take_append_drop drop_drop length_take length_drop)
namespace Go.Abs
section
variable {P : Program} {nO : Nat} {ro : Option Nat} {B : Ft × World} {Q : Exit -> Act -> World -> Prop} {s : St} {ops : Array Oper} {id : Nat} {dr : Bool} {i : Nat} {lg : Lg} {o : Oper}
theorem H7 {α : Type} {en : α -> List C1} {w : Nat} (hw : ∀ x, (en x).length = w) (xs : List α) : (b7 en xs).toList.length = xs.length * w := by rw [Array.length_toList, f5 hw]
theorem a4r {α : Type} {en : α -> List C1} {w : Nat} (hw : ∀ x, (en x).length = w) {xs : List α} {a n : Nat} (h : a + n <= xs.length) : (b7 en xs).extract (a * w) (a * w + n * w) = b7 en ((xs.drop a).take n) := by
 have hs : xs = xs.take a ++ (xs.drop a).take n ++ xs.drop (a + n) := by
  rw [<- drop_drop, append_assoc, take_append_drop, take_append_drop]
 apply Array.ext'
 conv => lhs; rw [hs]
 rw [k8, k8, Array.toList_extract, Array.toList_append, Array.toList_append, List.extract_eq_take_drop, append_assoc]
 have l1 : (b7 en (xs.take a)).toList.length = a * w := by rw [H7 hw, length_take, Nat.min_eq_left (by omega)]
 have l2 : (b7 en ((xs.drop a).take n)).toList.length = n * w := by rw [H7 hw, length_take, length_drop, Nat.min_eq_left (by omega)]
 rw [<- l1, List.drop_left, <- l2, Nat.add_sub_cancel_left, List.take_left]
end
end Go.Abs
