/-
  Sets as lists: how they are made of any numbers; who is in; the fewest runs.
-/
import Derived.Test.YtfkdkfleaiaoiaaBase
import Derived.Test.YtfkdkfleaiaoiaaM8
import Derived.Test.YtfkdkfleaiaoiaaM6
namespace Go.Proofs.Ytfkdkfleaiaoiaa
open Go.Abs
/-- Whole numbers, one cell each. -/
def eI (x : Int) : List C1 := [.v (.int .i64 x)]
/-- Pairs of whole numbers. -/
def eP (x : Int × Int) : List C1 := [.v (.int .i64 x.1), .v (.int .i64 x.2)]
def posB (s : List Int) (x : Int) : Nat → Nat
  | 0 => 0
  | n + 1 => if x < s.getD n 0 then posB s x n else n + 1
def insS (s : List Int) (x : Int) : List Int :=
  if x < 0 ∨ 65535 < x then s else if 0 < posB s x s.length ∧ s.getD (posB s x s.length - 1) 0 = x then s else s.take (posB s x s.length) ++ [x] ++ s.drop (posB s x s.length)
def setOf (l : List Int) : List Int := l.foldl insS []
theorem setOf_take {l : List Int} {i : Nat} (h : i < l.length) : setOf (l.take (i + 1)) = insS (setOf (l.take i)) (l.getD i 0) := by
  unfold setOf
  rw [List.take_succ_eq_append_getElem h, List.foldl_append, getD_at h]; rfl
theorem insS_len (s : List Int) (x : Int) : (insS s x).length ≤ s.length + 1 := by
  unfold insS
  split
  · omega
  · split
    · omega
    · simp; omega
theorem setOf_len (l : List Int) : (setOf l).length ≤ l.length := by
  have : ∀ (l s : List Int), (l.foldl insS s).length ≤ s.length + l.length := by
    intro l
    induction l with
    | nil => intro s; simp
    | cons x l ih =>
      intro s
      have h1 := ih (insS s x)
      have h2 := insS_len s x
      simp only [List.foldl_cons, List.length_cons]
      omega
  simpa [setOf] using this l []
theorem posB_le (s : List Int) (x : Int) : ∀ n, posB s x n ≤ n
  | 0 => Nat.le_refl _
  | n + 1 => by
    simp only [posB]
    split
    · exact Nat.le_succ_of_le (posB_le s x n)
    · exact Nat.le_refl _
theorem insS_out {s : List Int} {x : Int} (h : x < 0 ∨ x > 65535) : insS s x = s := by
  unfold insS; rw [if_pos h]
theorem insS_dup {s : List Int} {x : Int} {n : Nat} (hn : posB s x n = posB s x s.length) (hs : ¬ (0 < n ∧ x < s.getD (n - 1) 0)) (h : 0 < n) (e : s.getD (n - 1) 0 = x) : insS s x = s := by
  have hp : posB s x n = n := by
    obtain ⟨m, rfl⟩ : ∃ m, n = m + 1 := ⟨n - 1, by omega⟩
    simp only [posB]
    rw [if_neg (fun h => hs ⟨by omega, by simpa using h⟩)]
  unfold insS
  split
  · rfl
  · rw [← hn, hp, if_pos ⟨h, e⟩]
theorem insS_new {s : List Int} {x : Int} {n : Nat} (h0 : ¬ (x < 0 ∨ x > 65535)) (hn : posB s x n = posB s x s.length) (hs : ¬ (0 < n ∧ x < s.getD (n - 1) 0)) (e : ¬ (0 < n ∧ s.getD (n - 1) 0 = x)) : insS s x = s.take n ++ [x] ++ s.drop n := by
  have hp : posB s x n = n := by
    cases n with
    | zero => rfl
    | succ m =>
      simp only [posB]
      rw [if_neg (fun h => hs ⟨by omega, by simpa using h⟩)]
  unfold insS
  rw [if_neg h0, ← hn, hp, if_neg e]
theorem posB_step {s : List Int} {x : Int} {n : Nat} (h : 0 < n) (hx : x < s.getD (n - 1) 0) : posB s x n = posB s x (n - 1) := by
  obtain ⟨m, rfl⟩ : ∃ m, n = m + 1 := ⟨n - 1, by omega⟩
  simp only [posB, Nat.add_sub_cancel] at hx ⊢
  rw [if_pos hx]
theorem shiftS {s : List Int} {n : Nat} (h : n ≤ s.length) : s.take n ++ [(s ++ [(0 : Int)]).getD n 0] ++ s.drop n = (s ++ [0]).take (ofs (s ++ [(0 : Int)]).length (n + 1) 0) ++ ((s ++ [0]).drop (ofs (s ++ [(0 : Int)]).length n 0)).take (s.length - n) ++ (s ++ [0]).drop (ofs (s ++ [(0 : Int)]).length (n + 1) 0 + (s.length - n)) := by
  have hl : (s ++ [(0 : Int)]).length = s.length + 1 := by simp
  have h2 : ofs (s ++ [(0 : Int)]).length n 0 = n := by rw [hl]; unfold ofs; rw [if_neg (by omega)]; rfl
  rw [h2]
  have hd : ((s ++ [(0 : Int)]).drop n).take (s.length - n) = s.drop n := by
    rw [List.drop_append_of_le_length h, List.take_append_of_le_length (by simp), List.take_of_length_le (by simp)]
  rw [hd]
  by_cases hn : n = s.length
  · subst hn
    have h3 : ofs (s ++ [(0 : Int)]).length (s.length + 1) 0 = 0 := by rw [hl]; unfold ofs; rw [if_pos rfl]
    rw [h3]
    simp [List.getD]
  · have h3 : ofs (s ++ [(0 : Int)]).length (n + 1) 0 = n + 1 := by rw [hl]; unfold ofs; rw [if_neg (by omega)]
    rw [h3]
    have e1 : (s ++ [(0 : Int)]).take (n + 1) = s.take n ++ [(s ++ [(0 : Int)]).getD n 0] := by
      rw [getD_at (by simp; omega), List.take_succ_eq_append_getElem (by simp; omega), List.take_append_of_le_length h]
    rw [e1, show n + 1 + (s.length - n) = (s ++ [(0 : Int)]).length by simp; omega, List.drop_length, List.append_nil]
theorem setAt {s : List Int} {n : Nat} {x y : Int} (h : n ≤ s.length) : (s.take n ++ [y] ++ s.drop n).set n x = s.take n ++ [x] ++ s.drop n := by
  rw [List.append_assoc, List.set_append_right _ _ (by simp; omega)]
  have : n - (s.take n).length = 0 := by simp; omega
  rw [this]; simp
def bump (l : List (Int × Int)) : List (Int × Int) := l.set (l.length - 1) ((l.getD (l.length - 1) (0, 0)).1, (l.getD (l.length - 1) (0, 0)).2 + 1)
def runsTo (s : List Int) : Nat → List (Int × Int)
  | 0 => []
  | i + 1 => if 0 < i ∧ s.getD i 0 = s.getD (i - 1) 0 + 1 then bump (runsTo s i) else runsTo s i ++ [(s.getD i 0, s.getD i 0 + 1)]
theorem runsTo_pos (s : List Int) : ∀ i, 0 < i → 0 < (runsTo s i).length
  | 0, h => absurd h (Nat.lt_irrefl 0)
  | i + 1, _ => by
    simp only [runsTo]
    split
    · rename_i h
      have := runsTo_pos s i h.1
      simpa [bump] using this
    · simp
theorem runsTo_last (s : List Int) : ∀ i, 0 < i → ((runsTo s i).getD ((runsTo s i).length - 1) (0, 0)).2 = s.getD (i - 1) 0 + 1
  | 0, h => absurd h (Nat.lt_irrefl 0)
  | i + 1, _ => by
    simp only [runsTo]
    split
    · rename_i h
      have h1 := runsTo_last s i h.1
      have h2 := runsTo_pos s i h.1
      unfold bump
      rw [List.length_set, getD_at (by simp; omega), List.getElem_set_self]
      simp only [Nat.add_sub_cancel]
      rw [h1, h.2]
    · simp [List.getD]
theorem runsTo_len (s : List Int) : ∀ i, (runsTo s i).length ≤ i
  | 0 => Nat.le_refl _
  | i + 1 => by
    have := runsTo_len s i
    simp only [runsTo]
    split
    · simp [bump]; omega
    · simp; omega
end Go.Proofs.Ytfkdkfleaiaoiaa
/-
  The contracts of bitmap's functions at this seat, laid at the new kind of assertion.
-/
namespace Go.Proofs.Ytfkdkfleaiaoiaa
open Go.Abs
variable {n₀ : Nat}
/-- A set of one's own. -/
def setA (x : Value) (m : List Sp) : As where
  p F A := spans x m F.own A ∧ ∀ b, ¬ F.imm b
  lt := fun ⟨h, h1⟩ hb => Owns.spans.lt h (hb.resolve_right (h1 _))
  loc := fun {F A A'} ⟨h, h1⟩ hk => by
    refine ⟨?_, h1⟩
    rcases h with ⟨a, b, c⟩ | ⟨a, d, b, c⟩
    · exact .inl ⟨a, b, c⟩
    · exact .inr ⟨a, d, b, c.1, by rw [hk d (.inl ((c.1 d).2 rfl))]; exact c.2⟩
theorem agree1 {x : Value} {a : List Sp} {G G' : Foot} {A A' : World} (h : spans x a G A) (h' : spans x a G' A') : ∀ b, G b → A'.heap[b]? = A.heap[b]? ∧ G' b := by
  rcases h with ⟨_, _, h⟩ | ⟨h0, d, e, h⟩
  · exact fun b hb => (h b hb).elim
  · rcases h' with ⟨h1, _⟩ | ⟨_, d', e', h'⟩
    · omega
    · rw [e] at e'; cases e'
      intro b hb
      rw [(h.1 b).1 hb]
      exact ⟨h'.2.trans h.2.symm, (h'.1 d).2 rfl⟩
theorem lift0 {l : List Ch} {F : Ft} {A A' : World} {F' : Foot} (h : (hpA l).p F A) (S : Step F.own A F' A') (hk : ∀ b, F.own b → A'.heap[b]? = A.heap[b]?) : (hpA l).p F A' ∧ Mv F A F A' := by
  have all : ∀ b, b < A.heap.size → A'.heap[b]? = A.heap[b]? := fun b hb => by
    by_cases h : F.own b
    · exact hk b h
    · exact S.kept b hb h
  exact ⟨(hpA l).loc h fun b hb => all b ((hpA l).lt h hb), ⟨S.size, fun b hb _ => all b hb, fun _ h => .inl h, fun _ h => .inr (.inl h)⟩⟩
theorem lift1 {l : List Ch} {F : Ft} {A A' : World} {F' F1 : Foot} {v : Value} {r : List Sp} (h : (hpA l).p F A) (hi : ∀ b, ¬ F.imm b) (S : Step F.own A F' A') (hk : ∀ b, F.own b → A'.heap[b]? = A.heap[b]?) (hn : spans v r F1 A') (hsub : ∀ b, F1 b → F' b) (hd : ∀ b, F1 b → ¬ F.own b) :
    ∃ F2, (hpA (.as (setA v r) :: l)).p F2 A' ∧ Mv F A F2 A' := by
  obtain ⟨g1, g2⟩ := lift0 h S hk
  have hnew : ∀ b, F1 b → A.heap.size ≤ b := fun b hb => (S.grow b (hsub b hb)).resolve_left (hd b hb)
  refine ⟨Ft.un ⟨F1, fun _ => False⟩ F, ⟨⟨F1, fun _ => False⟩, F, ⟨hn, fun _ h => h⟩, g1, ⟨fun _ => Iff.rfl, fun _ => Iff.rfl, fun b h1 h2 => hd b h1 h2, fun b _ h2 => hi b h2, fun b h1 => h1.elim⟩⟩, ⟨g2.size, g2.kept, fun b hb => ?_, fun b hb => ?_⟩⟩
  · rcases hb with hb | hb
    · exact .inr (hnew b hb)
    · exact .inl hb
  · rcases hb with hb | hb
    · exact hb.elim
    · exact .inr (.inl hb)
theorem old1 {x : Value} {a : List Sp} {F : Ft} {A : World} (h : (hpA [.as (setA x a)]).p F A) : ((spans x a).sep Asn.nil) F.own A ∧ ∀ b, ¬ F.imm b :=
  have h := As.unE h
  ⟨Asn.emp h.1, h.2⟩
theorem old2 {x y : Value} {a b : List Sp} {F : Ft} {A : World} (h : (hpA [.as (setA x a), .as (setA y b)]).p F A) : Asn.all [spans x a, spans y b, Asn.nil] F.own A ∧ ∀ b, ¬ F.imm b := by
  obtain ⟨F1, F2, h1, h2, j⟩ := h
  have h2 := As.unE h2
  exact ⟨⟨_, _, h1.1, Asn.emp h2.1, j.oo, j.own⟩, fun b hb => ((j.imm b).1 hb).elim (h1.2 b) (h2.2 b)⟩
/-- One set is looked at. -/
theorem see1 {f : FuncId} {args : List SV} {x : Value} {a : List Sp} {v : SV} (run : ∀ {F : Foot} {A : World}, ((spans x a).sep Asn.nil) F A → ∃ A' F', SndCall Try.prog n₀ f (args.map SV.den).toArray A v.den A' ∧ ((spans x a).sep Asn.nil) F' A' ∧ Step F A F' A') :
    Ctr Try.prog n₀ f args [.as (setA x a)] Unit (fun _ => True) (fun _ => v) (fun _ => [.as (setA x a)]) := fun F A h => by
  obtain ⟨h1, hi⟩ := old1 h
  obtain ⟨A', F', c, h2, S⟩ := run h1
  obtain ⟨g1, g2⟩ := lift0 h S fun b hb => (agree1 (Asn.unnil h1) (Asn.unnil h2) b hb).1
  exact ⟨(), A', F, trivial, c, g1, g2⟩
theorem see2 {f : FuncId} {args : List SV} {x y : Value} {a b : List Sp} {v : SV} (run : ∀ {F : Foot} {A : World}, Asn.all [spans x a, spans y b, Asn.nil] F A → ∃ A' F', SndCall Try.prog n₀ f (args.map SV.den).toArray A v.den A' ∧ Asn.all [spans x a, spans y b, Asn.nil] F' A' ∧ Step F A F' A') :
    Ctr Try.prog n₀ f args [.as (setA x a), .as (setA y b)] Unit (fun _ => True) (fun _ => v) (fun _ => [.as (setA x a), .as (setA y b)]) := fun F A h => by
  obtain ⟨h1, hi⟩ := old2 h
  obtain ⟨A', F', c, h2, S⟩ := run h1
  obtain ⟨G1, G2, k1, k2, _, ko⟩ := h1
  obtain ⟨G1', G2', k1', k2', _, _⟩ := h2
  obtain ⟨g1, g2⟩ := lift0 h S fun q hq => by
    rcases (ko q).1 hq with hq | hq
    · exact (agree1 k1 k1' q hq).1
    · exact (agree1 (Asn.unnil k2) (Asn.unnil k2') q hq).1
  exact ⟨(), A', F, trivial, c, g1, g2⟩
/-- A set is made of one. -/
theorem made1 {f : FuncId} {args : List SV} {x : Value} {a : List Sp} {φ : Value × List Sp → Prop} {res : Value × List Sp → SV} (run : ∀ {F : Foot} {A : World}, ((spans x a).sep Asn.nil) F A → ∃ v r A' F', φ (v, r) ∧ SndCall Try.prog n₀ f (args.map SV.den).toArray A (res (v, r)).den A' ∧ Asn.all [spans v r, spans x a, Asn.nil] F' A' ∧ Step F A F' A') :
    Ctr Try.prog n₀ f args [.as (setA x a)] (Value × List Sp) φ res (fun r => [.as (setA r.1 r.2), .as (setA x a)]) := fun F A h => by
  obtain ⟨h1, hi⟩ := old1 h
  obtain ⟨v, r, A', F', hφ, c, ⟨G0, G1, k0, k1, kd, ko⟩, S⟩ := run h1
  obtain ⟨F2, g1, g2⟩ := lift1 (F1 := G0) h hi S (fun b hb => (agree1 (Asn.unnil h1) (Asn.unnil k1) b hb).1) k0 (fun b hb => (ko b).2 (.inl hb)) fun b hb ho => kd b hb (agree1 (Asn.unnil h1) (Asn.unnil k1) b ho).2
  exact ⟨(v, r), A', F2, hφ, c, g1, g2⟩
theorem made2 {f : FuncId} {args : List SV} {x y : Value} {a b : List Sp} {φ : Value × List Sp → Prop} {res : Value × List Sp → SV} (run : ∀ {F : Foot} {A : World}, Asn.all [spans x a, spans y b, Asn.nil] F A → ∃ v r A' F', φ (v, r) ∧ SndCall Try.prog n₀ f (args.map SV.den).toArray A (res (v, r)).den A' ∧ Asn.all [spans v r, spans x a, spans y b, Asn.nil] F' A' ∧ Step F A F' A') :
    Ctr Try.prog n₀ f args [.as (setA x a), .as (setA y b)] (Value × List Sp) φ res (fun r => [.as (setA r.1 r.2), .as (setA x a), .as (setA y b)]) := fun F A h => by
  obtain ⟨h1, hi⟩ := old2 h
  obtain ⟨v, r, A', F', hφ, c, ⟨G0, G1, k0, ⟨G2, G3, k2, k3, _, ko2⟩, kd, ko⟩, S⟩ := run h1
  obtain ⟨H1, H2, m1, m2, _, mo⟩ := h1
  have key : ∀ q, F.own q → A'.heap[q]? = A.heap[q]? ∧ G1 q := fun q hq => by
    rcases (mo q).1 hq with hq | hq
    · have := agree1 m1 k2 q hq; exact ⟨this.1, (ko2 q).2 (.inl this.2)⟩
    · have := agree1 (Asn.unnil m2) (Asn.unnil k3) q hq; exact ⟨this.1, (ko2 q).2 (.inr this.2)⟩
  obtain ⟨F2, g1, g2⟩ := lift1 (F1 := G0) h hi S (fun q hq => (key q hq).1) k0 (fun q hq => (ko q).2 (.inl hq)) fun q hq ho => kd q hq (key q ho).2
  exact ⟨(v, r), A', F2, hφ, c, g1, g2⟩
/-- A set is made of nothing. -/
theorem made0 {f : FuncId} {args : List SV} {pre : List Ch} {φ : Value × List Sp → Prop} {res : Value × List Sp → SV} (hp : ∀ F A, (hpA pre).p F A → ∃ v r A' F', φ (v, r) ∧ SndCall Try.prog n₀ f (args.map SV.den).toArray A (res (v, r)).den A' ∧ ((spans v r).sep Asn.nil) F' A' ∧ Step (fun _ => False) A F' A') :
    Ctr Try.prog n₀ f args pre (Value × List Sp) φ res (fun r => .as (setA r.1 r.2) :: pre) := fun F A h => by
  obtain ⟨v, r, A', F', hφ, c, h2, S⟩ := hp F A h
  have k := Asn.unnil h2
  have hnew : ∀ b, F' b → A.heap.size ≤ b := fun b hb => (S.grow b hb).resolve_left (fun h => h)
  have all : ∀ b, b < A.heap.size → A'.heap[b]? = A.heap[b]? := fun b hb => S.kept b hb fun h => h
  have hlt : ∀ b, F.own b ∨ F.imm b → b < A.heap.size := fun b hb => (hpA pre).lt h hb
  refine ⟨(v, r), A', Ft.un ⟨F', fun _ => False⟩ F, hφ, c, ⟨⟨F', fun _ => False⟩, F, ⟨k, fun _ h => h⟩, (hpA pre).loc h fun b hb => all b (hlt b hb), ⟨fun _ => Iff.rfl, fun _ => Iff.rfl, fun b h1 h2 => ?_, fun b h1 h2 => ?_, fun b h1 => h1.elim⟩⟩, ⟨S.size, fun b hb _ => all b hb, fun b hb => ?_, fun b hb => ?_⟩⟩
  · have h1 := hnew b h1; have h2 := hlt b (.inl h2); omega
  · have h1 := hnew b h1; have h2 := hlt b (.inr h2); omega
  · rcases hb with hb | hb
    · exact .inr (hnew b hb)
    · exact .inl hb
  · rcases hb with hb | hb
    · exact hb.elim
    · exact .inr (.inl hb)
def IsOr (a b r : List Sp) : Prop := WF (-1) r ∧ ∀ i, has r i = (has a i || has b i)
def IsAnd (a b r : List Sp) : Prop := WF (-1) r ∧ ∀ i, has r i = (has a i && has b i)
def IsOut (a b r : List Sp) : Prop := WF (-1) r ∧ ∀ i, has r i = (has a i && !has b i)
def IsNot (a : List Sp) (n : Int) (r : List Sp) : Prop := WF (-1) r ∧ ∀ i, has r i = (inR i && decide (i < n) && !has a i)
section
variable {x y : Value} {a b : List Sp}
theorem or_ctr (ha : WF (-1) a) (hb : WF (-1) b) : Ctr Try.prog n₀ 23 [.a [.v x], .a [.v y]] [.as (setA x a), .as (setA y b)] (Value × List Sp) (fun r => IsOr a b r.2) (fun r => .a [.v r.1]) (fun r => [.as (setA r.1 r.2), .as (setA x a), .as (setA y b)]) :=
  made2 fun h => by
    obtain ⟨v, r, A', F', w, e, c, h2, S⟩ := or_is (n₀ := n₀) Owns.nil ha hb h
    exact ⟨v, r, A', F', ⟨w, e⟩, c, h2, S⟩
theorem and_ctr (ha : WF (-1) a) (hb : WF (-1) b) : Ctr Try.prog n₀ 22 [.a [.v x], .a [.v y]] [.as (setA x a), .as (setA y b)] (Value × List Sp) (fun r => IsAnd a b r.2) (fun r => .a [.v r.1]) (fun r => [.as (setA r.1 r.2), .as (setA x a), .as (setA y b)]) :=
  made2 fun h => by
    obtain ⟨v, r, A', F', w, e, c, h2, S⟩ := both_is (n₀ := n₀) Owns.nil ha hb h
    exact ⟨v, r, A', F', ⟨w, e⟩, c, h2, S⟩
theorem out_ctr (ha : WF (-1) a) (hb : WF (-1) b) : Ctr Try.prog n₀ 24 [.a [.v x], .a [.v y]] [.as (setA x a), .as (setA y b)] (Value × List Sp) (fun r => IsOut a b r.2) (fun r => .a [.v r.1]) (fun r => [.as (setA r.1 r.2), .as (setA x a), .as (setA y b)]) :=
  made2 fun h => by
    obtain ⟨v, r, A', F', w, e, c, h2, S⟩ := out_is (n₀ := n₀) Owns.nil ha hb h
    exact ⟨v, r, A', F', ⟨w, e⟩, c, h2, S⟩
theorem not_ctr {n : Int} (ha : WF (-1) a) : Ctr Try.prog n₀ 26 [.a [.v x], .o (.v (.int .i64 n))] [.as (setA x a)] (Value × List Sp) (fun r => IsNot a n r.2) (fun r => .a [.v r.1]) (fun r => [.as (setA r.1 r.2), .as (setA x a)]) :=
  made1 fun h => by
    obtain ⟨v, r, A', F', w, e, c, h2, S⟩ := neg_is (n₀ := n₀) Owns.nil ha n h
    exact ⟨v, r, A', F', ⟨w, e⟩, c, h2, S⟩
theorem runs_ctr (ha : WF (-1) a) : Ctr Try.prog n₀ 29 [.a [.v x]] [.as (setA x a)] (Value × List Sp) (fun r => r.2 = a) (fun r => .o (.v r.1)) (fun r => [.as (setA r.1 r.2), .as (setA x a)]) :=
  made1 fun h => by
    have := wf_short ha
    obtain ⟨v, A', F', c, h2, S⟩ := runs_call (n₀ := n₀) Owns.nil (by omega) h
    exact ⟨v, a, A', F', rfl, c, h2, S⟩
theorem eq_ctr (ha : WF (-1) a) (hb : WF (-1) b) : Ctr Try.prog n₀ 25 [.a [.v x], .a [.v y]] [.as (setA x a), .as (setA y b)] Unit (fun _ => True) (fun _ => .o (.cb (decide (a = b)))) (fun _ => [.as (setA x a), .as (setA y b)]) :=
  see2 fun h => same_is (n₀ := n₀) Owns.nil ha hb h
theorem count_ctr (ha : WF (-1) a) : Ctr Try.prog n₀ 28 [.a [.v x]] [.as (setA x a)] Unit (fun _ => True) (fun _ => .o (.v (.int .i64 (count a)))) (fun _ => [.as (setA x a)]) :=
  see1 fun h => many_is (n₀ := n₀) Owns.nil ha h
theorem hasm_ctr {i : Int} (ha : WF (-1) a) : Ctr Try.prog n₀ 14 [.a [.v x], .o (.v (.int .i64 i))] [.as (setA x a)] Unit (fun _ => True) (fun _ => .o (.cb (has a i))) (fun _ => [.as (setA x a)]) :=
  see1 fun h => by
    have := wf_short ha
    exact has_call (n₀ := n₀) Owns.nil (by omega) h
theorem rank_ctr {i : Int} (ha : WF (-1) a) : Ctr Try.prog n₀ 16 [.a [.v x], .o (.v (.int .i64 i))] [.as (setA x a)] Unit (fun _ => True) (fun _ => .o (.v (.int .i64 (rank a i)))) (fun _ => [.as (setA x a)]) :=
  see1 fun h => by
    have := wf_short ha
    exact rank_call (n₀ := n₀) Owns.nil ha (by omega) h
theorem sel_ctr {k : Int} (ha : WF (-1) a) (hk : k < 9223372036854775808) : Ctr Try.prog n₀ 17 [.a [.v x], .o (.v (.int .i64 k))] [.as (setA x a)] Unit (fun _ => True) (fun _ => .o (.v (.int .i64 (sel0 a k)))) (fun _ => [.as (setA x a)]) :=
  see1 fun h => by
    have := wf_short ha
    exact select_call (n₀ := n₀) Owns.nil ha (by omega) hk h
theorem span_ctr {f t : Int} : Ctr Try.prog n₀ 27 [.o (.v (.int .i64 f)), .o (.v (.int .i64 t))] [] (Value × List Sp) (fun r => r.2 = addSp [] (if f < 0 then 0 else f) (if (65536 : Int) < t then 65536 else t)) (fun r => .a [.v r.1]) (fun r => [.as (setA r.1 r.2)]) :=
  made0 fun F A _ => by
    obtain ⟨v, A', F', c, h2, S⟩ := span_call (n₀ := n₀) (from_ := f) (to_ := t) (J := Asn.nil) (F := fun _ => False) (A := A) Owns.nil (fun _ h => h)
    exact ⟨v, _, A', F', rfl, c, h2, S⟩
end
end Go.Proofs.Ytfkdkfleaiaoiaa
/-
  A set's numbers, one by one; a set opened and shut.
-/
namespace Go.Proofs.Ytfkdkfleaiaoiaa
open Go.Abs
variable {n₀ : Nat}
def spanE (s : Sp) : List Int := (List.range (s.2 - s.1).toNat).map fun (j : Nat) => s.1 + j
def allE (m : List Sp) : List Int := m.flatMap spanE
theorem spanE_len (s : Sp) : (spanE s).length = (s.2 - s.1).toNat := by simp [spanE]
theorem allE_append (a b : List Sp) : allE (a ++ b) = allE a ++ allE b := by simp [allE]
theorem take_cut {m : List Sp} {k : Nat} (h : k < m.length) : m.take (k + 1) = m.take k ++ [m.getD k (0, 0)] := by
  rw [List.take_succ_eq_append_getElem h, getD_at h]
theorem allE_take {m : List Sp} {k : Nat} (h : k < m.length) : (allE (m.take (k + 1))).length = (allE (m.take k)).length + ((m.getD k (0, 0)).2 - (m.getD k (0, 0)).1).toNat := by
  rw [take_cut h, allE_append, List.length_append]
  simp [allE, spanE_len]
theorem allE_at {m : List Sp} {k j : Nat} (h : k < m.length) (hj : j < ((m.getD k (0, 0)).2 - (m.getD k (0, 0)).1).toNat) : (allE m)[(allE (m.take k)).length + j]? = some ((m.getD k (0, 0)).1 + j) := by
  have hm : m = m.take k ++ [m.getD k (0, 0)] ++ m.drop (k + 1) := by
    rw [← take_cut h, List.take_append_drop]
  have hA : allE m = allE (m.take k) ++ spanE (m.getD k (0, 0)) ++ allE (m.drop (k + 1)) := by
    have := congrArg allE hm
    rw [allE_append, allE_append] at this
    rw [this]; simp [allE]
  rw [hA, List.append_assoc, List.getElem?_append_right (by omega), Nat.add_sub_cancel_left, List.getElem?_append_left (by rw [spanE_len]; exact hj)]
  unfold spanE
  rw [List.getElem?_map, List.getElem?_range hj]; rfl
theorem one1 {x : Value} (h : isOne x = true) : [C1.v x].all C1.one = true := by simp [C1.one, h]
theorem take_snoc {α : Type} {l : List α} {k : Nat} {d : α} (h : k < l.length) : l.take (k + 1) = l.take k ++ [l.getD k d] := by rw [List.take_succ_eq_append_getElem h, getD_at h]
theorem cells2_v (m : List Sp) : cells2 m = vcells eP m := by
  unfold cells2 vcells
  congr 1
theorem ge_eq {l l' : List Ch} (h : l.map Ch.den = l'.map Ch.den) : GE l Unit (fun _ => True) (fun _ => l') := fun F A hF => ⟨(), F, trivial, by unfold hpA at hF ⊢; rw [← h]; exact hF, .refl⟩
theorem set_open (g : Nat) {x : Value} {m : List Sp} : GE [.as (setA x m)] Nat (fun q => x = .slice (cond m.isEmpty none (some ⟨q, 0, none⟩)) m.length m.length) (fun q => [.vec g q 2 eP ((0, 0) : Int × Int) m 42 .grown m.isEmpty]) := fun F A h => by
  obtain ⟨h1, h2⟩ := As.unE h
  rcases h1 with ⟨h0, rfl, hF⟩ | ⟨h0, d, rfl, hb⟩
  · have : m = [] := List.length_eq_zero_iff.1 h0
    subst this
    refine ⟨0, F, rfl, As.addE ⟨Ft.ext (fun b => ⟨fun h => (hF b h).elim, fun h => h.elim⟩) (fun b => ⟨fun h => (h2 b h).elim, fun h => h.elim⟩), rfl⟩, .refl⟩
  · have hz : m.isEmpty = false := by cases m; exact absurd h0 (by simp); rfl
    refine ⟨d, F, by rw [hz]; rfl, As.addE ?_, .refl⟩
    show (Ch.den (.vec g d 2 eP _ m 42 .grown m.isEmpty)).p F A
    rw [hz]
    refine ⟨fun _ => rfl, fun b => ?_, fun b => ?_, (1, 0), rfl, ?_⟩
    · rw [hb.1]; simp [Md.mine]
    · simp [Md.mine, h2]
    · rw [← cells2_v]; exact hb.2
theorem set_shut {g q : Nat} {m : List Sp} : GE [.vec g q 2 eP ((0, 0) : Int × Int) m 42 .grown m.isEmpty] Unit (fun _ => True) (fun _ => [.as (setA (.slice (cond m.isEmpty none (some ⟨q, 0, none⟩)) m.length m.length) m)]) := fun F A h => by
  have h := As.unE h
  cases m with
  | nil =>
    obtain ⟨rfl, _⟩ := h
    exact ⟨(), _, trivial, As.addE ⟨.inl ⟨rfl, rfl, fun _ h => h⟩, fun _ h => h⟩, .refl⟩
  | cons s m =>
    obtain ⟨_, h1, h2, fz, h3, h4⟩ := h
    cases h3
    refine ⟨(), F, trivial, As.addE ⟨.inr ⟨by simp, q, rfl, fun b => ?_, ?_⟩, fun b hb => by have := (h2 b).1 hb; simp [Md.mine] at this⟩, .refl⟩
    · rw [h1]; simp [Md.mine]
    · rw [cells2_v]; exact h4
end Go.Proofs.Ytfkdkfleaiaoiaa
