/-
  ABS B3: what lies where: assertions on the canonical world, each with the blocks that it is of; what a step may turn.
-/
import Derived.Test.YtfkdkfleaiaoiaaB2
namespace Go.Abs

/-- A block that none may write. -/
def RoB (A : World) (b : Nat) : Prop := ∃ c t n, A.heap[b]? = some (.cells c t (0, n)) ∧ 0 < n
def RoKept (A A' : World) : Prop := ∀ b, RoB A b → A'.heap[b]? = A.heap[b]?
abbrev Foot := Nat → Prop
abbrev Asn := Foot → World → Prop
structure Owns (I : Asn) : Prop where
  lt : ∀ {F A b}, I F A → F b → b < A.heap.size
  loc : ∀ {F A A'}, I F A → (∀ b, F b → A'.heap[b]? = A.heap[b]?) → RoKept A A' → I F A'
/-- From F at A to F' at A': nothing but F has turned, and F' is of F, or new. -/
structure Step (F : Foot) (A : World) (F' : Foot) (A' : World) : Prop where
  size : A.heap.size ≤ A'.heap.size
  kept : ∀ b, b < A.heap.size → ¬ F b → A'.heap[b]? = A.heap[b]?
  ro : RoKept A A'
  grow : ∀ b, F' b → F b ∨ A.heap.size ≤ b
theorem Step.refl {F : Foot} {A : World} : Step F A F A := ⟨Nat.le_refl _, fun _ _ _ => rfl, fun _ _ => rfl, fun _ h => .inl h⟩
theorem RoKept.trans {A A' A'' : World} (h : RoKept A A') (k : RoKept A' A'') : RoKept A A'' := fun b hb => by
  rw [← h b hb]
  refine k b ?_
  obtain ⟨c, t, n, h1, h2⟩ := hb
  exact ⟨c, t, n, by rw [h b ⟨c, t, n, h1, h2⟩]; exact h1, h2⟩
theorem Step.trans {F F' F'' : Foot} {A A' A'' : World} (h : Step F A F' A') (k : Step F' A' F'' A'') : Step F A F'' A'' where
  size := Nat.le_trans h.size k.size
  kept b hb hn := by
    rw [k.kept b (Nat.lt_of_lt_of_le hb h.size) fun hf => (h.grow b hf).elim hn fun h => absurd hb (Nat.not_lt_of_le h), h.kept b hb hn]
  ro := h.ro.trans k.ro
  grow b hb := by
    rcases k.grow b hb with hb | hb
    · exact h.grow b hb
    · exact .inr (Nat.le_trans h.size hb)

def Asn.sep (I J : Asn) : Asn := fun F A => ∃ F1 F2, I F1 A ∧ J F2 A ∧ (∀ b, F1 b → ¬ F2 b) ∧ ∀ b, F b ↔ F1 b ∨ F2 b
def Asn.nil : Asn := fun F _ => ∀ b, ¬ F b
/-- One cell of one's own. -/
def cel (b : Nat) (v : Value) : Asn := fun F A => (∀ k, F k ↔ k = b) ∧ ∃ t, A.heap[b]? = some (.cells #[v] t (0, 0))
/-- A block of one's own. -/
def blk (b : Nat) (o : Obj) : Asn := fun F A => (∀ k, F k ↔ k = b) ∧ A.heap[b]? = some o
section
variable {I I' J K : Asn} {F : Foot} {A A' : World}
theorem lt_of_some {b : Nat} {o : Obj} (h : A.heap[b]? = some o) : b < A.heap.size := (Array.getElem?_eq_some_iff.1 h).1
theorem Owns.nil : Owns Asn.nil := ⟨fun h hb => (h _ hb).elim, fun h _ _ => h⟩
theorem Owns.cel {b : Nat} {v : Value} : Owns (cel b v) := ⟨fun ⟨h1, t, h2⟩ hb => by rw [(h1 _).1 hb]; exact lt_of_some h2, fun ⟨h1, t, h2⟩ hk _ => ⟨h1, t, by rw [hk _ ((h1 _).2 rfl)]; exact h2⟩⟩
theorem Owns.blk {b : Nat} {o : Obj} : Owns (blk b o) := ⟨fun ⟨h1, h2⟩ hb => by rw [(h1 _).1 hb]; exact lt_of_some h2, fun ⟨h1, h2⟩ hk _ => ⟨h1, by rw [hk _ ((h1 _).2 rfl)]; exact h2⟩⟩
theorem Owns.sep (hI : Owns I) (hJ : Owns J) : Owns (I.sep J) := ⟨fun ⟨_F1, _F2, h1, h2, _, h4⟩ hb => ((h4 _).1 hb).elim (hI.lt h1) (hJ.lt h2),
  fun ⟨F1, F2, h1, h2, h3, h4⟩ hk hr => ⟨F1, F2, hI.loc h1 (fun b hb => hk b ((h4 b).2 (.inl hb))) hr, hJ.loc h2 (fun b hb => hk b ((h4 b).2 (.inr hb))) hr, h3, h4⟩⟩
theorem Asn.swap (h : (I.sep (J.sep K)) F A) : (J.sep (I.sep K)) F A := by
  obtain ⟨F1, F2, h1, ⟨F3, F4, h2, h3, h4, h5⟩, h6, h7⟩ := h
  refine ⟨F3, fun b => F1 b ∨ F4 b, h2, ⟨F1, F4, h1, h3, fun b hb hb' => h6 b hb ((h5 b).2 (.inr hb')), fun b => Iff.rfl⟩, fun b hb hb' => ?_, fun b => ?_⟩
  · rcases hb' with hb' | hb'
    · exact h6 b hb' ((h5 b).2 (.inl hb))
    · exact h4 b hb hb'
  · rw [h7, h5]; constructor <;> (rintro (h | h | h) <;> simp [h])
theorem Asn.comm (h : (I.sep J) F A) : (J.sep I) F A := by
  obtain ⟨F1, F2, h1, h2, h3, h4⟩ := h
  exact ⟨F2, F1, h2, h1, fun b hb hb' => h3 b hb' hb, fun b => by rw [h4]; exact Or.comm⟩
theorem Asn.assoc (h : ((I.sep J).sep K) F A) : (I.sep (J.sep K)) F A := by
  obtain ⟨F1, F2, ⟨F3, F4, h2, h3, h4, h5⟩, h1, h6, h7⟩ := h
  refine ⟨F3, fun b => F4 b ∨ F2 b, h2, ⟨F4, F2, h3, h1, fun b hb hb' => h6 b ((h5 b).2 (.inr hb)) hb', fun b => Iff.rfl⟩, fun b hb hb' => ?_, fun b => ?_⟩
  · rcases hb' with hb' | hb'
    · exact h4 b hb hb'
    · exact h6 b ((h5 b).2 (.inl hb)) hb'
  · rw [h7, h5, or_assoc]
theorem Asn.assoc' (h : (I.sep (J.sep K)) F A) : ((I.sep J).sep K) F A := by
  have := Asn.assoc (Asn.comm (Asn.assoc (Asn.comm h)))
  exact Asn.comm this
/-- A step of one part is a step of the whole. -/
theorem Asn.frame (_hI : Owns I) (hJ : Owns J) (_hI' : Owns I') (h : (I.sep J) F A) {R : World → Prop} (run : ∀ F1, I F1 A → ∃ A' F1', R A' ∧ I' F1' A' ∧ Step F1 A F1' A') : ∃ A' F', R A' ∧ (I'.sep J) F' A' ∧ Step F A F' A' := by
  obtain ⟨F1, F2, h1, h2, h3, h4⟩ := h
  obtain ⟨A', F1', hR, h5, S⟩ := run F1 h1
  have hk : ∀ b, F2 b → A'.heap[b]? = A.heap[b]? := fun b hb => S.kept b (hJ.lt h2 hb) fun h => h3 b h hb
  refine ⟨A', fun b => F1' b ∨ F2 b, hR, ⟨F1', F2, h5, hJ.loc h2 hk S.ro, fun b hb hb' => ?_, fun b => Iff.rfl⟩, ⟨S.size, fun b hb hn => S.kept b hb fun h => hn ((h4 b).2 (.inl h)), S.ro, fun b hb => ?_⟩⟩
  · rcases S.grow b hb with h | h
    · exact h3 b h hb'
    · exact absurd (hJ.lt h2 hb') (Nat.not_lt_of_le h)
  · rcases hb with hb | hb
    · rcases S.grow b hb with h | h
      · exact .inl ((h4 b).2 (.inl h))
      · exact .inr h
    · exact .inl ((h4 b).2 (.inr hb))

theorem alloc_lt {o : Obj} {b : Nat} (h : b < A.heap.size) : (A.alloc o).heap[b]? = A.heap[b]? := by
  show (A.heap.push o)[b]? = _
  rw [Array.getElem?_push_lt h, Array.getElem?_eq_getElem h]
theorem alloc_at {o : Obj} : (A.alloc o).heap[A.heap.size]? = some o := by
  show (A.heap.push o)[A.heap.size]? = _
  simp
theorem ro_alloc {o : Obj} : RoKept A (A.alloc o) := fun _b ⟨_c, _t, _n, h, _⟩ => alloc_lt (lt_of_some h)
theorem Asn.newO (hJ : Owns J) (h : J F A) (o : Obj) : ∃ F', ((blk A.heap.size o).sep J) F' (A.alloc o) ∧ Step F A F' (A.alloc o) := by
  refine ⟨fun b => b = A.heap.size ∨ F b, ⟨fun b => b = A.heap.size, F, ⟨fun _ => Iff.rfl, alloc_at⟩, hJ.loc h (fun b hb => alloc_lt (hJ.lt h hb)) ro_alloc, fun b hb hb' => ?_, fun b => Iff.rfl⟩, ⟨by simp, fun b hb _ => alloc_lt hb, ro_alloc, fun b hb => ?_⟩⟩
  · have := hJ.lt h hb'; omega
  · rcases hb with hb | hb
    · exact .inr (by omega)
    · exact .inl hb
theorem blk_cel {b : Nat} {v : Value} {t : TypeId} (h : blk b (.cells #[v] t (0, 0)) F A) : cel b v F A := ⟨h.1, t, h.2⟩
theorem Asn.map (h : (I.sep J) F A) (k : ∀ F, I F A → I' F A) : (I'.sep J) F A := by
  obtain ⟨F1, F2, h1, h2, h3, h4⟩ := h
  exact ⟨F1, F2, k _ h1, h2, h3, h4⟩
theorem Asn.map' (h : (I.sep J) F A) (k : ∀ F, J F A → I' F A) : (I.sep I') F A := by
  obtain ⟨F1, F2, h1, h2, h3, h4⟩ := h
  exact ⟨F1, F2, h1, k _ h2, h3, h4⟩
theorem Asn.emp (h : I F A) : (I.sep Asn.nil) F A := ⟨F, fun _ => False, h, fun _ h => h, fun _ _ h => h, fun b => by simp⟩
theorem Asn.take (h : (I.sep J) F A) : ∃ F', I F' A ∧ Step F A F' A := by
  obtain ⟨F1, F2, h1, h2, h3, h4⟩ := h
  exact ⟨F1, h1, ⟨Nat.le_refl _, fun _ _ _ => rfl, fun _ _ => rfl, fun b hb => .inl ((h4 b).2 (.inl hb))⟩⟩
theorem Asn.new (hJ : Owns J) (h : J F A) (v : Value) (t : TypeId) : ∃ F', ((cel A.heap.size v).sep J) F' (A.alloc (.cells #[v] t (0, 0))) ∧ Step F A F' (A.alloc (.cells #[v] t (0, 0))) := by
  obtain ⟨F', h1, h2⟩ := Asn.newO hJ h (.cells #[v] t (0, 0))
  exact ⟨F', Asn.map h1 fun _ => blk_cel, h2⟩
theorem Asn.drop (h : (I.sep J) F A) : ∃ F', J F' A ∧ Step F A F' A := by
  obtain ⟨F1, F2, h1, h2, h3, h4⟩ := h
  exact ⟨F2, h2, ⟨Nat.le_refl _, fun _ _ _ => rfl, fun _ _ => rfl, fun b hb => .inl ((h4 b).2 (.inr hb))⟩⟩

theorem set_ne {p : Addr} {v : Value} {k : Nat} (h : k ≠ p.block) : (A.setCell p v).heap[k]? = A.heap[k]? := by
  show (A.heap.modify p.block _)[k]? = _
  rw [Array.getElem?_modify, if_neg (fun e => h e.symm)]
theorem set_at {b : Nat} {u v : Value} {t : TypeId} {fz : Nat × Nat} (h : A.heap[b]? = some (.cells #[u] t fz)) : (A.setCell ⟨b, 0, none⟩ v).heap[b]? = some (.cells #[v] t fz) := by
  show (A.heap.modify b _)[b]? = _
  rw [Array.getElem?_modify]; simp [h]
theorem set_size {p : Addr} {v : Value} : (A.setCell p v).heap.size = A.heap.size := by simp [World.setCell]
theorem Asn.get {b : Nat} {v : Value} (h : ((cel b v).sep J) F A) : A.cell? ⟨b, 0, none⟩ = some v := by
  obtain ⟨F1, F2, ⟨h1, t, h2⟩, _⟩ := h
  simp [World.cell?, h2]
theorem Asn.soft {b : Nat} {v : Value} (h : ((cel b v).sep J) F A) : A.frozen? ⟨b, 0, none⟩ = false := by
  obtain ⟨F1, F2, ⟨h1, t, h2⟩, _⟩ := h
  simp [World.frozen?, h2]
theorem Asn.put {b : Nat} {u : Value} (hJ : Owns J) (h : ((cel b u).sep J) F A) (v : Value) : ((cel b v).sep J) F (A.setCell ⟨b, 0, none⟩ v) ∧ Step F A F (A.setCell ⟨b, 0, none⟩ v) := by
  obtain ⟨F1, F2, ⟨h1, t, h2⟩, h3, h4, h5⟩ := h
  have hb : F1 b := (h1 b).2 rfl
  have hne : ∀ k, k ≠ b → (A.setCell ⟨b, 0, none⟩ v).heap[k]? = A.heap[k]? := fun k hk => set_ne hk
  have hro : RoKept A (A.setCell ⟨b, 0, none⟩ v) := fun k ⟨c, t', n, hc, hn⟩ => hne k fun e => by
    subst e; rw [h2] at hc; simp at hc; omega
  refine ⟨⟨F1, F2, ⟨h1, t, set_at h2⟩, hJ.loc h3 (fun k hk => hne k fun e => h4 b hb (e ▸ hk)) hro, h4, h5⟩, ⟨Nat.le_of_eq set_size.symm, fun k _ hn => hne k fun e => hn ((h5 k).2 (.inl (e ▸ hb))), hro, fun k hk => .inl hk⟩⟩
end

/-- Several, side by side. -/
def Asn.tot : List Asn → Asn
  | [] => Asn.nil
  | I :: l => I.sep (Asn.tot l)
def Asn.all : List Asn → Asn
  | [] => Asn.nil
  | [I] => I
  | I :: J :: l => I.sep (Asn.all (J :: l))
section
variable {I J K : Asn} {F : Foot} {A : World}
theorem Asn.unnil (h : (I.sep Asn.nil) F A) : I F A := by
  obtain ⟨F1, F2, h1, h2, h3, h4⟩ := h
  have : F = F1 := funext fun b => propext ((h4 b).trans ⟨fun h => h.elim id fun h => (h2 b h).elim, .inl⟩)
  exact this ▸ h1
theorem Asn.all_tot : ∀ {l : List Asn} {F : Foot} {A : World}, Asn.all l F A → Asn.tot l F A
  | [], _, _, h => h
  | [_], _, _, h => Asn.emp h
  | _ :: _ :: _, _, _, h => Asn.map' h fun _ h => Asn.all_tot h
theorem Asn.tot_all : ∀ {l : List Asn} {F : Foot} {A : World}, Asn.tot l F A → Asn.all l F A
  | [], _, _, h => h
  | [_], _, _, h => Asn.unnil h
  | _ :: _ :: _, _, _, h => Asn.map' h fun _ h => Asn.tot_all h
theorem Asn.tot_perm {l l' : List Asn} (p : l.Perm l') : ∀ {F : Foot} {A : World}, Asn.tot l F A → Asn.tot l' F A := by
  induction p with
  | nil => exact fun h => h
  | cons x _ ih => exact fun h => Asn.map' h fun _ h => ih h
  | swap x y l => exact fun h => Asn.swap h
  | trans _ _ ih1 ih2 => exact fun h => ih2 (ih1 h)
theorem range_map_getD (l : List Asn) : (List.range l.length).map (fun i => l.getD i Asn.nil) = l := by
  apply List.ext_getElem
  · simp
  · intro i h1 h2
    simp at h1 h2 ⊢
    simp [h2]
/-- In another order. -/
theorem Asn.perm (l : List Asn) (idx : List Nat) (h : Asn.all l F A) (p : (List.range idx.length).Perm idx) (hn : l.length = idx.length := by rfl) : Asn.all (idx.map fun i => l.getD i Asn.nil) F A := by
  refine Asn.tot_all (Asn.tot_perm ?_ (Asn.all_tot h))
  rw [← hn] at p
  have := p.map (fun i => l.getD i Asn.nil)
  rwa [range_map_getD] at this
theorem Asn.tot_cat : ∀ {l l' : List Asn} {F : Foot} {A : World}, ((Asn.tot l).sep (Asn.tot l')) F A → Asn.tot (l ++ l') F A
  | [], _, _, _, h => Asn.unnil (Asn.comm h)
  | _ :: _, _, _, _, h => Asn.map' (Asn.assoc h) fun _ h => Asn.tot_cat h
theorem Asn.cat {l l' : List Asn} (h : ((Asn.all l).sep (Asn.all l')) F A) : Asn.all (l ++ l') F A :=
  Asn.tot_all (Asn.tot_cat (Asn.map' (Asn.map h fun _ h => Asn.all_tot h) fun _ h => Asn.all_tot h))
theorem Owns.tot : ∀ {l : List Asn}, (∀ I ∈ l, Owns I) → Owns (Asn.tot l)
  | [], _ => Owns.nil
  | _ :: _, h => Owns.sep (h _ List.mem_cons_self) (Owns.tot fun I hI => h I (List.mem_cons_of_mem _ hI))
end
/-- A list of whole numbers that may be read, of a block that none may write. -/
def Rd (A : World) (p : Option Addr) (l : List Int) : Prop := ∀ (i : Nat) (x : Int), l[i]? = some x → ∃ ad, p = some ad ∧ A.cell? (ad.add (i * 1)) = some (.int .i64 x)
def rd (p : Option Addr) (l : List Int) : Asn := fun F A => (∀ b, ¬ F b) ∧ Rd A p l ∧ ∀ ad, p = some ad → RoB A ad.block
section
variable {I J : Asn} {F : Foot} {A A' : World} {p : Option Addr} {l : List Int}
theorem cell_eq {a : Addr} (h : A'.heap[a.block]? = A.heap[a.block]?) : A'.cell? a = A.cell? a := by simp only [World.cell?, h]
theorem RoB.kept {b : Nat} (h : RoB A b) (k : RoKept A A') : RoB A' b := by
  obtain ⟨c, t, n, h1, h2⟩ := h
  exact ⟨c, t, n, by rw [k b ⟨c, t, n, h1, h2⟩]; exact h1, h2⟩
theorem Owns.rd : Owns (rd p l) := ⟨fun h hb => (h.1 _ hb).elim, fun {F A A'} ⟨h1, h2, h3⟩ _ hr => ⟨h1, fun i x hx => by
  obtain ⟨ad, e, hc⟩ := h2 i x hx
  exact ⟨ad, e, (cell_eq (A := A) (A' := A') (by rw [add_block]; exact hr _ (h3 ad e))).trans hc⟩, fun ad e => (h3 ad e).kept hr⟩⟩
theorem Asn.left (h : (I.sep J) F A) : ∃ F', I F' A := let ⟨F1, _, h1, _⟩ := h; ⟨F1, h1⟩
theorem Asn.right (h : (I.sep J) F A) : ∃ F', J F' A := let ⟨_, F2, _, h2, _⟩ := h; ⟨F2, h2⟩
end
/-- Handed on, one by one, as long as more is wanted. -/
def foldY {α : Type} (st : α → Int → Option (Bool × α)) : List Int → α → Option α
  | [], a => some a
  | x :: l, a => match st a x with
    | none => none
    | some (true, a') => foldY st l a'
    | some (false, a') => some a'
theorem wrap_id {z : Int} (h1 : -9223372036854775808 ≤ z) (h2 : z < 9223372036854775808) : IntKind.i64.wrap z = z := by
  have e1 : (2 ^ IntKind.i64.bits : Int) = 18446744073709551616 := rfl
  have e2 : (2 ^ (IntKind.i64.bits - 1) : Int) = 9223372036854775808 := rfl
  unfold IntKind.wrap
  simp only [e1, e2, IntKind.signed, Bool.true_and, decide_eq_true_eq]
  split <;> omega
theorem intV_add {m n z : Int} (h : z = m + n) (h1 : -9223372036854775808 ≤ z) (h2 : z < 9223372036854775808) : intV .add .i64 m n = some (.int .i64 z) := by
  subst h; simp only [intV, wrap_id h1 h2]
theorem intV_sub {m n z : Int} (h : z = m - n) (h1 : -9223372036854775808 ≤ z) (h2 : z < 9223372036854775808) : intV .sub .i64 m n = some (.int .i64 z) := by
  subst h; simp only [intV, wrap_id h1 h2]
section
variable {I J K : Asn} {F : Foot} {A A' : World}
theorem Asn.at {b : Nat} {o : Obj} (h : ((blk b o).sep J) F A) : A.heap[b]? = some o := let ⟨_, _, h1, _⟩ := h; h1.2
theorem Asn.killed {d : Nat} {c : Array Value} {t e : TypeId} (hJ : Owns J) (h : ((blk d (.cells c t (1, 0))).sep J) F A) : ((blk d (.cells #[] e (2, 0))).sep J) F (kill A d e) ∧ Step F A F (kill A d e) := by
  obtain ⟨F1, F2, h1, h2, h3, h4⟩ := h
  have hd : F1 d := (h1.1 d).2 rfl
  have hro : RoKept A (kill A d e) := fun k ⟨c', t', n, hc, hn⟩ => kill_ne fun eq => by
    subst eq; rw [h1.2] at hc; cases hc
  exact ⟨⟨F1, F2, ⟨h1.1, kill_self (lt_of_some h1.2)⟩, hJ.loc h2 (fun k hk => kill_ne fun eq => h3 d hd (eq ▸ hk)) hro, h3, h4⟩, ⟨by simp, fun k _ hn => kill_ne fun eq => hn ((h4 k).2 (.inl (eq ▸ hd))), hro, fun k hk => .inl hk⟩⟩
end
def ints (l : List Int) : Array Value := (l.map (Value.int .i64)).toArray
/-- A list of one's own, as it grows: the cell c bears it. -/
def lst (t : TypeId) (c : Nat) (acc : List Int) : Asn := fun F A => (acc = [] ∧ cel c (.slice none 0 0) F A) ∨ (acc ≠ [] ∧ ∃ d, ((cel c (.slice (some ⟨d, 0, none⟩) acc.length acc.length)).sep (blk d (.cells (ints acc) t (1, 0)))) F A)
def lstV (t : TypeId) (v : Value) (acc : List Int) : Asn := fun F A => (acc = [] ∧ v = .slice none 0 0 ∧ ∀ b, ¬ F b) ∨ (acc ≠ [] ∧ ∃ d, v = .slice (some ⟨d, 0, none⟩) acc.length acc.length ∧ blk d (.cells (ints acc) t (1, 0)) F A)
theorem Owns.lst {t : TypeId} {c : Nat} {acc : List Int} : Owns (lst t c acc) := by
  refine ⟨fun {F A b} h hb => ?_, fun {F A A'} h hk hr => ?_⟩
  · rcases h with ⟨_, h⟩ | ⟨_, d, h⟩
    · exact Owns.cel.lt h hb
    · exact (Owns.sep Owns.cel Owns.blk).lt h hb
  · rcases h with ⟨e, h⟩ | ⟨e, d, h⟩
    · exact .inl ⟨e, Owns.cel.loc h hk hr⟩
    · exact .inr ⟨e, d, (Owns.sep Owns.cel Owns.blk).loc h hk hr⟩
theorem Owns.lstV {t : TypeId} {v : Value} {acc : List Int} : Owns (lstV t v acc) := by
  refine ⟨fun {F A b} h hb => ?_, fun {F A A'} h hk hr => ?_⟩
  · rcases h with ⟨_, _, h⟩ | ⟨_, d, _, h⟩
    · exact (h _ hb).elim
    · exact Owns.blk.lt h hb
  · rcases h with ⟨e, e', h⟩ | ⟨e, d, e', h⟩
    · exact .inl ⟨e, e', h⟩
    · exact .inr ⟨e, d, e', Owns.blk.loc h hk hr⟩
theorem lstV_rd {t : TypeId} {v : Value} {acc : List Int} {F : Foot} {A : World} (h : lstV t v acc F A) : ∃ p, v = .slice p acc.length acc.length ∧ Rd A p acc := by
  rcases h with ⟨rfl, rfl, _⟩ | ⟨_, d, rfl, h⟩
  · exact ⟨none, rfl, fun i x hx => by simp at hx⟩
  · refine ⟨_, rfl, fun i x hx => ⟨_, rfl, ?_⟩⟩
    rw [cell_add (a := ⟨d, 0, none⟩) h.2 rfl]
    simp [ints, hx]
/-- The list that the cell bears, taken out of it. -/
theorem lst_out {t : TypeId} {c : Nat} {acc : List Int} {J : Asn} {F : Foot} {A : World} (h : (J.sep (lst t c acc)) F A) : ∃ v, A.cell? ⟨c, 0, none⟩ = some v ∧ ∃ F', (J.sep (lstV t v acc)) F' A ∧ Step F A F' A := by
  obtain ⟨F1, F2, h1, h2, h3, h4⟩ := h
  rcases h2 with ⟨rfl, h2⟩ | ⟨hne, d, h2⟩
  · refine ⟨.slice none 0 0, Asn.get (Asn.emp h2), F1, ⟨F1, fun _ => False, h1, .inl ⟨rfl, rfl, fun _ h => h⟩, fun _ _ h => h, fun b => by simp⟩, ⟨Nat.le_refl _, fun _ _ _ => rfl, fun _ _ => rfl, fun b hb => .inl ((h4 b).2 (.inl hb))⟩⟩
  · refine ⟨_, Asn.get h2, ?_⟩
    obtain ⟨F3, F4, h5, h6, h7, h8⟩ := h2
    refine ⟨fun b => F1 b ∨ F4 b, ⟨F1, F4, h1, .inr ⟨hne, d, rfl, h6⟩, fun b hb hb' => h3 b hb ((h8 b).2 (.inr hb')), fun b => Iff.rfl⟩, ⟨Nat.le_refl _, fun _ _ _ => rfl, fun _ _ => rfl, fun b hb => .inl ((h4 b).2 (hb.imp id fun h => (h8 b).2 (.inr h)))⟩⟩
def stL (acc : List Int) (x : Int) : Option (Bool × List Int) := if acc.length < 16777216 then some (true, acc ++ [x]) else none
section
variable (P : Program) (n₀ : Nat)
/-- A call of a function's value. -/
def CallV (y : Value) (xs : Array Value) (A : World) (v : Value) (A' : World) : Prop :=
  ∃ f fn code first cap, IsFn P f fn code ∧ y = .func (.func f) first cap ∧ SndCall P n₀ f (first ++ xs ++ cap) A v A'
/-- What takes whole numbers, one by one, and says whether it wants more. -/
structure Ypec {α : Type} (y : Value) (I : α → Asn) (st : α → Int → Option (Bool × α)) : Prop where
  one : isOne y = true
  loc : ∀ s, Owns (I s)
  run : ∀ {s F A x b s'}, I s F A → st s x = some (b, s') → ∃ A' F', CallV P n₀ y #[.int .i64 x] A (.bool b) A' ∧ I s' F' A' ∧ Step F A F' A'
/-- What turns a whole number. -/
structure Fpec {α : Type} (f : Value) (I : α → Asn) (fn : α → Int → Option (Int × α)) : Prop where
  loc : ∀ s, Owns (I s)
  run : ∀ {s F A x v s'}, I s F A → fn s x = some (v, s') → ∃ A' F', CallV P n₀ f #[.int .i64 x] A (.int .i64 v) A' ∧ I s' F' A' ∧ Step F A F' A'
/-- What tests a whole number. -/
def Ppec (f : Value) (p : Int → Bool) : Prop := ∀ (A : World) (x : Int), CallV P n₀ f #[.int .i64 x] A (.bool (p x)) A
/-- What hands whole numbers on. -/
structure Hands {β : Type} (s : Value) (J : β → Asn) (run : ∀ α : Type, (α → Int → Option (Bool × α)) → β → α → Option (β × α)) : Prop where
  loc : ∀ b, Owns (J b)
  run : ∀ {α : Type} {y : Value} {I : α → Asn} {st : α → Int → Option (Bool × α)}, Ypec P n₀ y I st → ∀ {b0 a0 b1 a1 F A}, ((J b0).sep (I a0)) F A → run α st b0 a0 = some (b1, a1) →
    ∃ A' F', CallV P n₀ s #[y] A undef A' ∧ ((J b1).sep (I a1)) F' A' ∧ Step F A F' A'
variable {P n₀}
theorem wpO_callv {ops : Array Oper} {o : Oper} {os : List Oper} {Q : Act → World → Prop} {a : Act} {A A1 : World} {c : Call} {g : Operand} {y v : Value} {l : List Value} (H : CallV P n₀ y l.toArray A v A1) (hg : a.eval g = y) (hx : c.args.toList.map a.eval = l)
    (k : wpO P n₀ ops os Q (a.put o.dst v) A1) (ho : o.op = .call c := by rfl) (hc : c.callee = .value g := by rfl) (hw : Region.wanted o (yielded ops a.tmps) = true := by rfl) : wpO P n₀ ops (o :: os) Q a A := by
  obtain ⟨f, fn, code, first, cap, h1, rfl, h2⟩ := H
  exact wpO_call h1 hg hx rfl ⟨v, A1, h2, k⟩ ho hc hw
theorem wpF.call {f : FuncId} {xs : Array Value} {Q : Value → World → Prop} {A : World} (h : wpF P n₀ f xs Q A) : ∃ v A', SndCall P n₀ f xs A v A' ∧ Q v A' := h
end
end Go.Abs
