/-
  A20.
-/
import Derived.Test.YtagidoadfajpgaaGreatN5
namespace Go.Abs
section
variable {P : Program} {nO : Nat} {L : Lvl} {ops : Array Oper} {T : Trace}
structure Inv (P : Program) (nO : Nat) (ops : Array Oper) (T : Trace) (ι0 : Ren) (W0 : World) (S : Nat -> Prop) (p : Nat) (ι : Ren) (a b : Act) (W : World) : Prop where
 closed : ∀ i o, S i -> ops[i]? = some o -> ∀ e ∈ o.after.toList, Region.binds .any e = true -> S e.on
 isP : p ∈ a0r ops ++ [ops.size]
 done : ∀ e, e ∈ a0r ops -> e < p -> S e
 todo : ∀ e, e ∈ a0r ops -> p <= e -> ¬ S e
 core : Core P nO ops T ι0 W0 S p ι W
 puts : Puts ops T S a
 act : ARl P ι a b
theorem a2p (ops : Array Oper) (m : Nat) (hm : m <= ops.size) : ∃ d, m + d <= ops.size /\ (∀ j, m <= j -> j < m + d -> j ∉ a0r ops) /\ m + d ∈ a0r ops ++ [ops.size] := by
 generalize hk : ops.size - m = k
 induction k generalizing m with
 | zero => exact ⟨0, by omega, fun j h1 h2 => by omega, by simp; omega⟩
 | succ k ih =>
  by_cases h : m ∈ a0r ops
  ·exact ⟨0, by omega, fun j h1 h2 => by omega, by simp [h]⟩
  ·obtain ⟨d, h1, h2, h3⟩ := ih (m + 1) (by omega) (by omega)
   refine ⟨d + 1, by omega, fun j h4 h5 => ?_, by rw [show m + (d + 1) = m + 1 + d from by omega]; exact h3⟩
   by_cases hj : j = m
   ·rw [hj]; exact h
   ·exact h2 j (by omega) (by omega)
theorem a44 {i : Nat} (h : i ∈ a0r ops) : i < ops.size := by
 obtain ⟨o, ho, _⟩ := t7.1 h
 exact J0 ho
theorem Inv.one (G : Good P) (hL : Snd P nO L) (R : Rck ops) (hops : ∀ (i : Nat) (o : Oper), ops[i]? = some o -> J9 o = true) (hT : ∀ (i : Nat) (o : Oper), ops[i]? = some o -> U9 P L ops T i o)
  (hm : ∀ i k, i <= k -> k <= ops.size -> (T.ws i).heap.size <= (T.ws k).heap.size) {ι0 ι : Ren} {W0 W : World} {S : Nat -> Prop} {p : Nat} {a b : Act} (I : Inv P nO ops T ι0 W0 S p ι a b W)
  {i : Nat} {o : Oper} (ho : ops[i]? = some o) (hi : ¬ S i) (hdeps : ∀ e ∈ o.after.toList, Region.binds .any e = true -> S e.on) (ro : Option Nat) (Q : Exit -> Act -> World -> Prop) (K : Act -> World -> Prop)
  (hK : ∀ p' ι' a' b' W', Inv P nO ops T ι0 W0 (fun k => S k ∨ k = i) p' ι' a' b' W' -> K b' W') : wpOpIn (wide ro) 0 P ops Q i K b W := by
 have hilt := J0 ho
 have hbef : ∀ k, bef (G6 ops) i k = true -> S k := fun k hk => b0P I.closed (i + 1) i k o (Nat.lt_succ_self _) ho hdeps hk
 have hbef' : ∀ k ok, ops[k]? = some ok -> S k -> bef (G6 ops) k i = true -> False := fun k ok hk hs hb => hi (b0P I.closed (k + 1) k i ok (Nat.lt_succ_self _) hk (fun e he hbd => I.closed k ok hs hk e he hbd) hb)
 have hPt := Puts.text R hT i (Nat.le_of_lt hilt)
 have hlook : ∀ t, t ∈ a65 ops o -> ∀ w ow, ops[w]? = some ow -> ow.dst = some t -> (S w ↔ w < i) := by
  intro t ht w ow hw hd
  obtain ⟨h1, h2⟩ := R.names w i ow o t hw ho hd ht
  constructor
  ·intro hs
   rcases Nat.lt_trichotomy w i with h | h | h
   ·exact h
   ·exact absurd (h ▸ hs) hi
   ·exact (hbef' w ow hw hs (h2 h)).elim
  ·intro h; exact hbef w (h1 h)
 have hev : ∀ x ∈ o.op.operands, a.eval x = (T.as i).eval x := by
  intro x hx
  refine I.puts.eval hPt fun t ht w ow hw hd => hlook t ?_ w ow hw hd
  unfold a65
  refine List.mem_append_left _ (List.mem_filterMap.2 ⟨x, by simpa using hx, ?_⟩)
  rw [ht]
 have hwant : Region.wanted o (yielded ops b.tmps) = Region.wanted o (yielded ops (T.as i).tmps) := by
  rw [V5 I.act]
  unfold Region.wanted
  cases hg : o.guard with
  | none => rfl
  | some q =>
   obtain ⟨g, want⟩ := q
   simp only
   have : yielded ops a.tmps g = yielded ops (T.as i).tmps g := by
    unfold yielded
    cases hd : (ops[g]?).bind (·.dst) with
    | none => rfl
    | some d =>
     simp only [Option.bind_some]
     rw [I.puts.agree hPt (fun w ow hw hdw => hlook d (by unfold a65; rw [hg]; simp [hd]) w ow hw hdw)]
   rw [this]
 have hvr : ∀ x ∈ o.op.operands, VRel P ι ((T.as i).eval x) (b.eval x) := by
  intro x hx
  rw [<- hev x hx]
  have hok := hops i o ho
  simp only [J9, Bool.and_eq_true, List.all_eq_true] at hok
  exact I.act.eval (hok.1 x (by simpa using hx))
 have hclosed : ∀ k ok, (S k ∨ k = i) -> ops[k]? = some ok -> ∀ e ∈ ok.after.toList, Region.binds .any e = true -> (S e.on ∨ e.on = i) := by
  rintro k ok (hs | rfl) hok e he hb
  ·exact .inl (I.closed k ok hs hok e he hb)
  ·rw [ho] at hok; cases hok; exact .inl (hdeps e he hb)
 have hputs := I.puts.add R ho hi
 unfold wpOpIn
 simp only [ho]
 rw [hwant]
 have hst := hT i o ho
 by_cases hw : Region.wanted o (yielded ops (T.as i).tmps) = true
 ·rw [if_pos hw]
  have hst2 := hst.2
  rw [if_pos hw] at hst2
  have hne : g6 o.op ≠ .acts -> i ≠ p /\ a1s ops (G6 ops) i p = true := by
   intro hk
   have hine : i ∉ a0r ops := fun h => by
    obtain ⟨o', h1, h2⟩ := t7.1 h
    rw [ho] at h1; cases h1; exact hk h2
   have hip : i ≠ p := by
    rintro rfl
    rcases List.mem_append.1 I.isP with h | h
    ·exact hine h
    ·simp at h; omega
   refine ⟨hip, ?_⟩
   unfold a1s
   simp only [Bool.and_eq_true, List.all_eq_true, Bool.or_eq_true, Bool.not_eq_true', decide_eq_false_iff_not]
   refine ⟨fun e he => ?_, ?_⟩
   ·by_cases hep : e < p
    ·refine .inr ?_
     obtain ⟨oe, h1, _⟩ := t7.1 he
     cases hb : bef (G6 ops) e i with
     | false => rfl
     | true => exact (hbef' e oe h1 (I.done e he hep) hb).elim
    ·exact .inl hep
   ·cases hb : bef (G6 ops) i p with
    | false => rfl
    | true =>
     have hs := hbef p hb
     rcases List.mem_append.1 I.isP with h | h
     ·exact absurd hs (I.todo p h (Nat.le_refl _))
     ·simp at h
      obtain ⟨e, he, hb', hk⟩ := a2R ho hb
      rcases hk with h' | ⟨hlt, hb''⟩
      ·have := R.back i o ho e (by simpa using he) hb'; omega
      ·exfalso
       have : ∀ (n j : Nat), j < n -> j < ops.size -> bef (G6 ops) j p = true -> False := by
        intro n
        induction n with
        | zero => intro j hj; omega
        | succ n ih =>
         intro j hj hjs hb
         have hoj : ops[j]? = some ops[j] := Array.getElem?_eq_getElem hjs
         obtain ⟨e, he, hb', hk⟩ := a2R hoj hb
         have := R.back j _ hoj e (by simpa using he) hb'
         rcases hk with h' | ⟨hlt, hb''⟩
         ·omega
         ·exact ih e.on (by omega) (by omega) hb''
       exact this (e.on + 1) e.on (Nat.lt_succ_self _) (by omega) hb''
  cases hk : g6 o.op with
  | quiet =>
   rw [hk] at hst2
   obtain ⟨hip, hmay⟩ := hne (by rw [hk]; decide)
   have hrun : Z5 P L o (T.as i) (T.ws p) (T.vs i) (T.ws p) := ⟨_, _, hst2.2 p I.isP hmay, rfl, rfl⟩
   have hfr : a4h ι (T.ws p) (T.ws p) := ⟨Nat.le_refl _, fun b h1 h2 => by omega⟩
   have hple : p <= ops.size := by
    rcases List.mem_append.1 I.isP with h | h
    ·exact Nat.le_of_lt (a44 h)
    ·simp at h; omega
   have notmk : ∀ k obj, Mk P ops T k obj -> k ≠ i := by
    rintro k obj ⟨ok, h1, _, h2, _⟩ rfl
    rw [ho] at h1; cases h1; rw [hk] at h2; cases h2
   refine (a19 (ι := ι) (W := W) (b := b) G hL (hops i o ho) hrun).2 ro _ Q I.core.sim hvr hfr fun ι1 v1 W1 S1 M1 V1 => ?_
   refine hK p ι1 _ _ W1 ⟨hclosed, I.isP, fun e he hlt => .inl (I.done e he hlt), ?_, ?_, hputs, (I.act.mono M1.le).put o.dst V1⟩
   ·rintro e he hle (hs | rfl)
    ·exact I.todo e he hle hs
    ·obtain ⟨o', h1, h2⟩ := t7.1 he
     rw [ho] at h1; cases h1; rw [hk] at h2; cases h2
   ·refine I.core.move S1 M1 (hm _ _ hple (Nat.le_refl _)) (Nat.le_refl _) (fun k obj hmk => ⟨fun h => h.resolve_right (notmk k obj hmk), .inl⟩) (fun k obj hmk hle => hm _ _ hle (Nat.le_of_lt hmk.sz)) (fun k obj hmk hlt => Nat.lt_of_lt_of_le hmk.lt (hm _ _ hlt hple))
  | makes =>
   obtain ⟨hip, hmay⟩ := hne (by rw [hk]; decide)
   obtain ⟨obj, hmk⟩ := Mk.of ho hst hw hk
   obtain ⟨o', ho', _, _, q1, q2, q3, q4, q5⟩ := id hmk
   rw [ho] at ho'; cases ho'
   obtain ⟨ι1, v', W1, en, r1, hle, hkeys, hen, hfr, hlt, hor, V1, hkeep, hsz, hos, htp, hout⟩ := a9s G I.core.sim hk hvr q4 (I.core.late i obj hi hmk) q3
   refine ⟨fun _ _ => trivial, ?_⟩
   rw [Oper.semAt_eq _ _ _ (L2 (hops i o ho)), r1]
   show K (b.put o.dst v') W1
   refine hK p ι1 _ _ W1 ⟨hclosed, I.isP, fun e he hlt => .inl (I.done e he hlt), ?_, ?_, hputs, (I.act.mono hle).put o.dst V1⟩
   ·rintro e he hle' (hs | rfl)
    ·exact I.todo e he hle' hs
    ·obtain ⟨o', h1, h2⟩ := t7.1 he
     rw [ho] at h1; cases h1; rw [hk] at h2; cases h2
   ·exact I.core.make hm hmk (fun _ => Iff.rfl) hi hle hkeys hen hfr hlt hor hkeep hsz hos htp hout (fun h => q5 p I.isP h hmay) (fun h => hm _ _ h (Nat.le_of_lt hilt))
  | acts =>
   rw [hk] at hst2
   have hie : i ∈ a0r ops := t7.2 ⟨o, ho, hk⟩
   have hip : i = p := by
    rcases Nat.lt_trichotomy i p with h | h | h
    ·exact absurd (I.done i hie h) hi
    ·exact h
    ·rcases List.mem_append.1 I.isP with hp | hp
     ·obtain ⟨op, h1, h2⟩ := t7.1 hp
      have := hbef p (R.chain i p o op ho h1 hk h2 h)
      exact absurd this (I.todo p hp (Nat.le_refl _))
     ·simp at hp; omega
   subst hip
   have notmk : ∀ k obj, Mk P ops T k obj -> k ≠ i := by
    rintro k obj ⟨ok, h1, _, h2, _⟩ rfl
    rw [ho] at h1; cases h1; rw [hk] at h2; cases h2
   have hs1 := hm i (i + 1) (Nat.le_succ _) hilt
   have hs2 := hm (i + 1) ops.size hilt (Nat.le_refl _)
   have hfr : a4h ι (T.ws i) (T.ws (i + 1)) := ⟨hs1, fun k h1 h2 => I.core.free k h1 (by omega) fun q obj hs hmk => by
    have hq := notmk q obj hmk
    rcases Nat.lt_or_gt_of_ne hq with h | h
    ·have := Nat.lt_of_lt_of_le hmk.lt (hm (q + 1) i h (Nat.le_of_lt hilt)); omega
    ·have := hm (i + 1) q h (Nat.le_of_lt hmk.sz); omega⟩
   refine (a19 (ι := ι) (W := W) (b := b) G hL (hops i o ho) hst2).2 ro _ Q I.core.sim hvr hfr fun ι1 v1 W1 S1 M1 V1 => ?_
   have C1 : Core P nO ops T ι0 W0 (fun k => S k ∨ k = i) (i + 1) ι1 W1 :=
    I.core.move S1 M1 hs2 (Nat.le_succ _) (fun k obj hmk => ⟨fun h => h.resolve_right (notmk k obj hmk), .inl⟩) (fun k obj hmk hle => hm _ _ hle (Nat.le_of_lt hmk.sz))
     (fun k obj hmk hlt => by
      have hq := notmk k obj hmk
      exact Nat.lt_of_lt_of_le hmk.lt (hm (k + 1) i (by omega) (Nat.le_of_lt hilt)))
   obtain ⟨d, hd1, hd2, hd3⟩ := a2p ops (i + 1) hilt
   have C2 := C1.advanceTo hT d (i + 1) hd1 hd2
   refine hK (i + 1 + d) ι1 _ _ W1 ⟨hclosed, hd3, ?_, ?_, C2, hputs, (I.act.mono M1.le).put o.dst V1⟩
   ·intro e he hlt
    by_cases h1 : e < i
    ·exact .inl (I.done e he h1)
    ·by_cases h2 : e = i
     ·exact .inr h2
     ·exact absurd he (hd2 e (by omega) hlt)
   ·rintro e he hle (hs | rfl)
    ·exact I.todo e he (by omega) hs
    ·omega
 ·rw [if_neg hw]
  have hst2 := hst.2
  rw [if_neg hw] at hst2
  obtain ⟨hws, hvs⟩ := hst2
  refine ⟨fun _ _ => trivial, ?_⟩
  rw [hvs] at hputs
  have notmk : ∀ k obj, Mk P ops T k obj -> k ≠ i := by
   rintro k obj ⟨ok, h1, h2, _⟩ rfl
   rw [ho] at h1; cases h1; exact hw h2
  have hSi : ∀ k obj, Mk P ops T k obj -> ((S k ∨ k = i) ↔ S k) := fun k obj hmk => ⟨fun h => h.resolve_right (notmk k obj hmk), .inl⟩
  have hple : p <= ops.size := by
   rcases List.mem_append.1 I.isP with h | h
   ·exact Nat.le_of_lt (a44 h)
   ·simp at h; omega
  have C0 : Core P nO ops T ι0 W0 (fun k => S k ∨ k = i) p ι W :=
   I.core.move I.core.sim .refl (hm _ _ hple (Nat.le_refl _)) (Nat.le_refl _) hSi (fun k obj hmk hle => hm _ _ hle (Nat.le_of_lt hmk.sz)) (fun k obj hmk hlt => Nat.lt_of_lt_of_le hmk.lt (hm _ _ hlt hple))
  by_cases hip : i = p
  ·subst hip
   have C1 : Core P nO ops T ι0 W0 (fun k => S k ∨ k = i) (i + 1) ι W :=
    ⟨by rw [hws]; exact C0.sim, fun k obj hs hle hmk => C0.early k obj hs (by omega) hmk, C0.late, by rw [hws]; exact C0.free, by rw [hws]; exact C0.mv⟩
   obtain ⟨d, hd1, hd2, hd3⟩ := a2p ops (i + 1) hilt
   have C2 := C1.advanceTo hT d (i + 1) hd1 hd2
   refine hK (i + 1 + d) ι _ _ W ⟨hclosed, hd3, ?_, ?_, C2, hputs, I.act.put o.dst .undef⟩
   ·intro e he hlt
    by_cases h1 : e < i
    ·exact .inl (I.done e he h1)
    ·by_cases h2 : e = i
     ·exact .inr h2
     ·exact absurd he (hd2 e (by omega) hlt)
   ·rintro e he hle (hs | rfl)
    ·exact I.todo e he (by omega) hs
    ·omega
  ·refine hK p ι _ _ W ⟨hclosed, I.isP, fun e he hlt => .inl (I.done e he hlt), ?_, C0, hputs, I.act.put o.dst .undef⟩
   rintro e he hle (hs | rfl)
   ·exact I.todo e he hle hs
   ·-- an acting one beyond p would have p ahead of it
    obtain ⟨o', h1, h2⟩ := t7.1 he
    rw [ho] at h1; cases h1
    rcases List.mem_append.1 I.isP with hp | hp
    ·obtain ⟨op, h3, h4⟩ := t7.1 hp
     have := hbef p (R.chain e p o op ho h3 h2 h4 (by omega))
     exact I.todo p hp (Nat.le_refl _) this
    ·simp at hp; omega
theorem a3U (hL : Snd P nO L) (hT : ∀ (i : Nat) (o : Oper), ops[i]? = some o -> U9 P L ops T i o) : ∀ i k, i <= k -> k <= ops.size -> (T.ws i).heap.size <= (T.ws k).heap.size := by
 intro i k h1 h2
 obtain ⟨d, rfl⟩ := Nat.exists_eq_add_of_le h1
 exact a7O (fun j hj => a8f hL (hT j _ (Array.getElem?_eq_getElem hj))) d i h2
theorem a1K {listed : Array Bool} {i : Nat} (_ : listed.size = ops.size) (h : i ∈ Region.ready .any ops listed) : ∃ o, ops[i]? = some o /\ ¬ listed[i]? = some true /\ ∀ e ∈ o.after.toList, Region.binds .any e = true -> listed[e.on]? = some true := by
 unfold Region.ready at h
 rw [List.mem_filter, List.mem_range] at h
 obtain ⟨hlt, h⟩ := h
 rw [Array.getElem?_eq_getElem hlt] at h
 simp only [Bool.and_eq_true, Option.map_some, Option.getD_some, Array.all_eq_true'] at h
 obtain ⟨h1, h2⟩ := h
 refine ⟨ops[i], Array.getElem?_eq_getElem hlt, ?_, ?_⟩
 ·intro h3
  rw [Array.getD_eq_getD_getElem?, h3] at h1
  simp at h1
 ·intro e he hb
  have := h2 e (by simpa using he)
  rw [hb] at this
  simp only [Bool.not_true, Bool.false_or, Array.getD_eq_getD_getElem?] at this
  cases hx : listed[e.on]? with
  | none => rw [hx] at this; simp at this
  | some q => rw [hx] at this; simp at this; rw [this]
theorem b26 (G : Good P) (hL : Snd P nO L) (R : Rck ops) (hops : ∀ (i : Nat) (o : Oper), ops[i]? = some o -> J9 o = true) (hT : ∀ (i : Nat) (o : Oper), ops[i]? = some o -> U9 P L ops T i o)
  {ι0 : Ren} {W0 : World} (ro : Option Nat) : ∀ (fuel : Nat) (listed : Array Bool) (p : Nat) (ι : Ren) (a b : Act) (W : World), listed.size = ops.size -> (listed.toList.filter (fun x => !x)).length = fuel ->
   Inv P nO ops T ι0 W0 (fun k => listed[k]? = some true) p ι a b W -> wpAnyIn (wide ro) 0 P .any ops (a4k P nO ι0 (T.ws 0) W0 .normal (T.as ops.size) (T.ws ops.size)) fuel listed b W := by
 have hm := a3U hL hT
 have fin : ∀ (listed : Array Bool) (p : Nat) (ι : Ren) (a b : Act) (W : World), (∀ k, k < ops.size -> listed[k]? = some true) -> Inv P nO ops T ι0 W0 (fun k => listed[k]? = some true) p ι a b W ->
   a4k P nO ι0 (T.ws 0) W0 .normal (T.as ops.size) (T.ws ops.size) .normal b W := by
  intro listed p ι a b W hall I
  have hp : p = ops.size := by
   rcases List.mem_append.1 I.isP with h | h
   ·exact absurd (hall p (a44 h)) (I.todo p h (Nat.le_refl _))
   ·simpa using h
  subst hp
  refine ⟨rfl, ι, I.core.sim, ⟨I.core.mv.le, I.core.mv.news, I.core.mv.keep, I.core.mv.img, I.core.mv.fresh, I.core.mv.asz, I.core.mv.wsz, I.core.mv.os, I.core.mv.tape, I.core.mv.output⟩, ?_⟩
  have hP := Puts.text R hT ops.size (Nat.le_refl _)
  have ht : a.tmps = (T.as ops.size).tmps := by
   apply Array.ext_getElem?
   intro t
   exact I.puts.agree hP fun w o hw _ => ⟨fun _ => J0 hw, fun h => hall w h⟩
  have hd : a.defers = (T.as ops.size).defers := I.puts.defers.trans hP.defers.symm
  exact ⟨ht ▸ I.act.tmps, hd ▸ I.act.defers⟩
 intro fuel
 induction fuel with
 | zero =>
  intro listed p ι a b W hs hc I
  have hall : ∀ k, k < ops.size -> listed[k]? = some true := by
   intro k hk
   have hk' : k < listed.size := by omega
   rw [List.length_eq_zero_iff, List.filter_eq_nil_iff] at hc
   have := hc listed[k] (by simp)
   rw [Array.getElem?_eq_getElem hk']
   simpa using this
  refine ⟨?_, fin listed p ι a b W hall I⟩
  cases hr : Region.ready .any ops listed with
  | nil => rfl
  | cons i l =>
   obtain ⟨o, ho, hn, _⟩ := a1K hs (i := i) (by rw [hr]; simp)
   exact absurd (hall i (J0 ho)) hn
 | succ fuel ih =>
  intro listed p ι a b W hs hc I
  refine ⟨fun hr => ?_, fun i hi => ?_⟩
  ·refine fin listed p ι a b W ?_ I
   intro k
   induction k using Nat.strongRecOn with
   | _ k ihk =>
    intro hk
    cases hl : listed[k]? with
    | none => have := Array.getElem?_eq_none_iff.1 hl; omega
    | some q =>
     cases q with
     | true => rfl
     | false =>
      exfalso
      have hmem : k ∈ Region.ready .any ops listed := by
       unfold Region.ready
       rw [List.mem_filter, List.mem_range]
       refine ⟨hk, ?_⟩
       rw [Array.getElem?_eq_getElem hk, Array.getD_eq_getD_getElem?, hl]
       simp only [Option.getD_some, Bool.not_false, Option.map_some, Bool.true_and, Array.all_eq_true']
       intro e he
       by_cases hb : Region.binds .any e = true
       ·have := R.back k _ (Array.getElem?_eq_getElem hk) e he hb
        have := ihk e.on this (by omega)
        rw [Array.getD_eq_getD_getElem?, this]; simp
       ·simp [hb]
      rw [hr] at hmem; cases hmem
  ·obtain ⟨o, ho, hn, hd⟩ := a1K hs hi
   have hilt := J0 ho
   refine I.one G hL R hops hT hm ho hn hd ro _ _ fun p' ι' a' b' W' I' => ?_
   have hS : (fun k => listed[k]? = some true ∨ k = i) = (fun k => (listed.setIfInBounds i true)[k]? = some true) := by
    funext k
    apply propext
    by_cases hk : k = i
    ·subst hk
     rw [Array.getElem?_setIfInBounds_self_of_lt (by omega)]; simp
    ·rw [Array.getElem?_setIfInBounds_ne (fun h => hk h.symm)]; simp [hk]
   rw [hS] at I'
   refine ih (listed.setIfInBounds i true) p' ι' a' b' W' (by simpa using hs) ?_ I'
   have hli : listed[i]? = some false := by
    rw [Array.getElem?_eq_getElem (by omega)] at hn ⊢
    cases h : listed[i]'(by omega) with
    | true => rw [h] at hn; simp at hn
    | false => rfl
   have key : ∀ (l : List Bool) (j : Nat), l[j]? = some false -> (l.filter (fun x => !x)).length = ((l.set j true).filter (fun x => !x)).length + 1 := by
    intro l
    induction l with
    | nil => intro j h; simp at h
    | cons x l ihl =>
     intro j h
     cases j with
     | zero => simp at h; subst h; simp
     | succ j =>
      have := ihl j (by simpa using h)
      cases x <;> simp [this]
   have := key listed.toList i (by simpa using hli)
   rw [hc] at this
   rw [Array.toList_setIfInBounds]
   omega
theorem a5C (G : Good P) (hL : Snd P nO L) : a5l P nO (a5m P L) := by
 rintro ops a a' A A' ⟨hr, T, rfl, rfl, rfl, rfl, hT⟩
 have R := Rck.of hr
 have hm := a3U hL hT
 refine ⟨hm 0 ops.size (Nat.zero_le _) (Nat.le_refl _), fun hops ι W b ro S act F => ?_⟩
 obtain ⟨d, hd1, hd2, hd3⟩ := a2p ops 0 (Nat.zero_le _)
 rw [Nat.zero_add] at hd1 hd2 hd3
 have hfalse : ∀ (k : Nat), ¬ (Array.replicate ops.size false)[k]? = some true := by
  intro k h
  rw [Array.getElem?_replicate] at h
  split at h <;> simp at h
 have C0 : Core P nO ops T ι W (fun k => (Array.replicate ops.size false)[k]? = some true) 0 ι W := by
  refine ⟨S, fun i obj hs => absurd hs (hfalse i), fun i obj _ hmk => ?_, fun k h1 h2 _ => F.2 k h1 h2, ?_⟩
  ·have h1 := hm 0 i (Nat.zero_le _) (Nat.le_of_lt hmk.sz)
   have h2 := hmk.lt
   have h3 := hm (i + 1) ops.size hmk.sz (Nat.le_refl _)
   exact F.2 _ h1 (by omega)
  ·exact ⟨.refl ι, fun b e h h' => by rw [h] at h'; (cases h'), fun _ _ _ => rfl, fun k e o h h' hw _ => ⟨k, e, o, h, h', hw, rfl⟩, fun k e h h' => by rw [h] at h'; (cases h'), Nat.le_refl _, Nat.le_refl _, rfl, rfl, rfl⟩
 have C1 := C0.advanceTo hT d 0 (by omega) (fun j h1 h2 => hd2 j h1 (by omega))
 rw [Nat.zero_add] at C1
 refine b26 G hL R hops hT ro ops.size (Array.replicate ops.size false) d ι (T.as 0) b W (by simp) (by simp) ⟨fun i o hs => absurd hs (hfalse i), hd3, fun e he hlt => absurd he (hd2 e (Nat.zero_le _) hlt), fun e _ _ => hfalse e, C1, ⟨rfl, rfl, fun i _ _ hs => absurd hs (hfalse i), fun _ _ => rfl⟩, act⟩
def Lv (P : Program) : Nat -> Lvl := lvl P (a5m P)
theorem snd (G : Good P) (n : Nat) : Snd P nO (Lv P n) := a8t G (fun _ hL => a5C G hL) n
end
end Go.Abs
namespace Go.Abs
section
variable {P : Program}
structure Lvl.le (L M : Lvl) : Prop where
 calls : ∀ f xs A v A', L.calls f xs A v A' -> M.calls f xs A v A'
 rounds : ∀ l ts as bd A v A', L.rounds l ts as bd A v A' -> M.rounds l ts as bd A v A'
 codes : ∀ ro c a A e a' A', L.codes ro c a A e a' A' -> M.codes ro c a A e a' A'
 loops : ∀ ro c a A e a' A', L.loops ro c a A e a' A' -> M.loops ro c a A e a' A'
variable {L M : Lvl}
end
end Go.Abs
namespace Go.Abs
section
variable (P : Program)
def b1G {α : Type} : Sem α -> Option α
 | .pure a => some a
 | .program k => b1G (k P)
 | .mark _ k => b1G k
 | _ => none
def fresh {α : Type} (id : Nat) : Sem α -> Option (α × Obj)
 | .program k => fresh id (k P)
 | .mark _ k => fresh id k
 | .new o k => match b1G P (k id) with
  | some a => some (a, o)
  | none => none
 | _ => none
def b1f {α : Type} (w : World) : Sem α -> Option α
 | .pure a => some a
 | .program k => b1f w (k P)
 | .mark _ k => b1f w k
 | .load _ a k => match w.cell? a with
  | some v => b1f w (k v)
  | none => none
 | .shape r k => b1f w (k (w.shape? r))
 | .frozen a k => b1f w (k (w.frozen? a))
 | .getObj r k => match w.heap[r]? with
  | some (.cells ..) => none
  | some o => b1f w (k o)
  | none => none
 | _ => none
variable {P}
def b4i (p : Value -> Value -> Bool) : List Value -> List Value -> Bool
 | [], [] => true
 | x :: xs, y :: ys => p x y && b4i p xs ys
 | _, _ => false
def b0N : Nat -> Value -> Value -> Bool
 | _, .bool a, .bool b => a == b
 | _, .int k a, .int l b => decide (k = l) && decide (a = b)
 | _, .float k a, .float l b => decide (k = l) && decide (a = b)
 | _, .string a, .string b => decide (a.data = b.data)
 | _, .pointer a, .pointer b => decide (a = b)
 | _, .slice a l c, .slice b l' c' => decide (a = b) && decide (l = l') && decide (c = c')
 | _, .map a, .map b => decide (a = b)
 | _, .nilFunc, .nilFunc | _, .nilIface, .nilIface => true
 | n + 1, .iface t v, .iface t' v' => decide (t = t') && b0N n v v'
 | n + 1, .agg a, .agg b => b4i (b0N n) a.toList b.toList
 | n + 1, .tuple a, .tuple b => b4i (b0N n) a.toList b.toList
 | n + 1, .func (.func f) a b, .func (.func g) c d => decide (f = g) && b4i (b0N n) a.toList c.toList && b4i (b0N n) b.toList d.toList
 | n + 1, .func (.yield f) a b, .func (.yield g) c d => decide (f = g) && b4i (b0N n) a.toList c.toList && b4i (b0N n) b.toList d.toList
 | _, _, _ => false
def b8W : List MapEntry -> List MapEntry -> Bool
 | [], [] => true
 | x :: xs, y :: ys => b0N 4 x.key y.key && b0N 4 x.val y.val && Nat.beq x.born y.born && b8W xs ys
 | _, _ => false
def b9a : Obj -> Obj -> Bool
 | .cells c t f, .cells c' t' f' => decide (t = t') && decide (f = f') && b4i (b0N 4) c.toList c'.toList
 | .map e n, .map e' n' => b8W e.toList e'.toList && decide (n = n')
 | _, _ => false
end
end Go.Abs
namespace Go.Abs
structure Ev where
 calls : FuncId -> Array Value -> World -> Option (Value × World)
 rounds : Nat -> Array Value -> Code -> Code -> World -> Option (Value × World)
 codes : Option Nat -> Code -> Act -> World -> Option (Exit × Act × World)
 loops : Option Nat -> Code -> Act -> World -> Option (Exit × Act × World)
structure EvOk (E : Ev) (L : Lvl) : Prop where
 calls : ∀ f xs A v A', E.calls f xs A = some (v, A') -> L.calls f xs A v A'
 rounds : ∀ l ts as bd A v A', E.rounds l ts as bd A = some (v, A') -> L.rounds l ts as bd A v A'
 codes : ∀ ro c a A e a' A', E.codes ro c a A = some (e, a', A') -> L.codes ro c a A e a' A'
 loops : ∀ ro c a A e a' A', E.loops ro c a A = some (e, a', A') -> L.loops ro c a A e a' A'
section
variable (P : Program)
def b8p (t : TypeId) (k : Value) : Bool := match P.underlying t with
 | some (.map kt _) => (match P.underlying kt with | some d => o9 d k | none => false)
 | _ => true
def b8N (A : World) (ρ : Operand -> Value) : Op -> Bool
 | .move _ | .assign _ | .pick .. | .alloc _ | .box .. | .build .. | .buildSlice .. | .load .. | .store .. | .extract .. | .field .. | .index .. | .indexAddr .. | .makeSlice .. | .makeMap .. | .nilCheck _ => true
 | .makeFunc (.func _) _ _ => true
 | .fieldAddr s _ k => match P.underlying s with
  | some (.struct fs) => (match fs[k]? with | some f => !decide (P.cellsOf f.type = 0) | none => true)
  | _ => true
 | .slice t x _ _ _ => (match ρ x with | .slice _ l c => decide (l <= c) | _ => true) && match P.underlying t with
  | some (.pointer _) => false
  | some (.slice elem) => (match ρ x with
   | .slice (some a) _ _ => (match A.heap[a.block]? with | some (.cells _ t' fz) => !decide (fz = (2, 0)) && (!decide (fz = (1, 0)) || decide (P.cellsOf elem = P.cellsOf t')) | _ => false)
   | _ => true)
  | _ => true
 | .binOp .eql _ x y _ | .binOp .neq _ x y _ => nilPair (ρ x) (ρ y)
 | .lookup t _ k _ => b8p P t (ρ k)
 | .mapUpdate t _ k _ => b8p P t (ρ k)
 | .call c => match c.callee with
  | .builtin .len | .builtin .copy | .builtin .clear => true
  | .builtin .delete => (match c.argTypes[0]?, (c.args.map ρ)[1]? with | some mt, some k => b8p P mt k | _, _ => true)
  | _ => false
 | _ => false
variable {P}
variable (P)
def b7q (ρ : Operand -> Value) (o : Oper) (A : World) : Option Value :=
 match b8N P A ρ o.op with
 | true => (match b1f P A (execOp ρ o) with | some (.value v) => some v | _ => none)
 | false => match a4x o.op && o.op.operands.toList.all fun x => r7 (ρ x) with
  | true => (match b1G P (execOp ρ o) with
   | some (.value v) => (match r7 v with | true => some v | false => none)
   | _ => none)
  | false => none
variable {P}
variable (P)
def b83 (v : Value) (id : Nat) : Bool :=
 match v with
 | .pointer (some a) => decide (a = ⟨id, 0, none⟩)
 | .slice (some a) _ _ => decide (a = ⟨id, 0, none⟩)
 | .map (some b) => decide (b = id)
 | _ => false
def b4c (ρ : Operand -> Value) (o : Oper) (A : World) : Option (Value × Obj) :=
 match fresh P A.heap.size (execOp ρ o) with
 | some (.value v, obj) => some (v, obj)
 | _ => none
variable {P}
variable (P)
def b21 (ts : Array TypeId) (xs : List Value) (A : World) : Option (Value × World) :=
 match ts[0]?, ts[1]?, xs with
 | some sT, some xT, [.slice base sLen sCap, x] =>
  match (match P.underlying xT with | some (.slice _) | some .string | some (.int _) => true | _ => false), P.underlying sT with
  | true, some (.slice elem) =>
   match P.info? elem with
   | some ie =>
    match ie.zero with
    | some z =>
     match a0u (d8 P ts) ie.bytes x with
     | some n =>
      match b1f P A (appSrc (d8 P ts) elem ie.size n x) with
      | some new =>
       match decide (sLen + n <= sCap) with
       | true => (match (match base with | some a => storeCells (a.add (sLen * ie.size)) new.toList | none => pure ()).run P A with
        | .ok () A' => some (.slice base (sLen + n) sCap, A')
        | _ => none)
       | false =>
        match b1f P A (Builtin.firstCells ie.size sLen (.slice base sLen sCap)) with
        | some old =>
         match decide (sLen <= sCap) && decide (sLen + n <= 2 ^ 24) && decide (ie.bytes <= 2 ^ 16) && decide (z.cells.size = ie.size) && decide (old.size = sLen * ie.size) && decide (new.size = n * ie.size) && new.toList.all isOne with
         | true =>
          (match base with
          | none => some (.slice (some ⟨A.heap.size, 0, none⟩) (sLen + n) (sLen + n), A.alloc (.cells (old ++ new) elem (1, 0)))
          | some a =>
           match A.heap[a.block]? with
           | some (.cells _ t fz) =>
            match decide (fz = (2, 0)), decide (fz = (1, 0)) with
            | false, false => some (.slice (some ⟨A.heap.size, 0, none⟩) (sLen + n) (sLen + n), A.alloc (.cells (old ++ new) elem (1, 0)))
            | false, true => (match decide (t = elem) && decide (0 < sLen) with
             | true => some (.slice (some ⟨A.heap.size, 0, none⟩) (sLen + n) (sLen + n), (kill A a.block elem).alloc (.cells (old ++ new) elem (1, 0)))
             | false => none)
            | true, _ => none
           | _ => none)
         | false => none
        | none => none
      | none => none
     | none => none
    | none => none
   | none => none
  | _, _ => none
 | _, _, _ => none
variable {P}
end
end Go.Abs
namespace Go.Abs
section
variable (P : Program) (E : Ev)
def b5B (ρ : Operand -> Value) (c : Call) (g : Operand) (A : World) : Option (Value × World) :=
 match ρ g with
 | .func (.func f) first cap =>
  match P.funcs[f]? with
  | some fn => (match fn.body.isSome && !(fn.name == "runtime.NumGoroutine") with
   | true => E.calls f (first ++ c.args.map ρ ++ cap) A
   | false => none)
  | none => none
 | .func (.yield l) first _ =>
  match A.heap[l]? with
  | some (.loop r) => (match decide ((first ++ c.args.map ρ).size = r.params.size) with
   | true => E.rounds l ((r.params.zip (first ++ c.args.map ρ)).foldl (fun tmps (t, a) => tmps.setIfInBounds t a) r.tmps) r.assign r.body A
   | false => none)
  | _ => none
 | _ => none
def b7s (ρ : Operand -> Value) (o : Oper) (A : World) : Option (Value × World) :=
 match b8N P A ρ o.op with
 | true => (match (execOp ρ o).run P A with
  | .ok (.value v) A' => some (v, A')
  | .ok .skip A' => some (undef, A')
  | _ => none)
 | false => none
def a9Z (ρ : Operand -> Value) (o : Oper) (A : World) : Option (Value × World) :=
 match b7q P ρ o A with
 | some v => some (v, A)
 | none => none
def b8V (o : Oper) (a : Act) (A : World) : Option (Value × World) :=
 match o.op with
 | .call c => (match c.callee with
  | .builtin .append => b21 P c.argTypes (c.args.map a.eval).toList A
  | .value g => (match b5B P E a.eval c g A with
   | some r => some r
   | none => a9Z P a.eval o A)
  | .builtin .copy | .builtin .clear | .builtin .delete => b7s P a.eval o A
  | _ => a9Z P a.eval o A)
 | .store .. | .mapUpdate .. => b7s P a.eval o A
 | op => match decide (g6 op = .makes) with
  | true => (match b4c P a.eval o A with | some (v, obj) => some (v, A.alloc obj) | none => none)
  | false => a9Z P a.eval o A
variable {P E} {L : Lvl}
variable (P E)
def b2X (ops : Array Oper) : List Nat -> Act -> World -> Option (Act × World)
 | [], a, A => some (a, A)
 | i :: rest, a, A =>
  match ops[i]? with
  | none => b2X ops rest a A
  | some o =>
   match Region.wanted o (yielded ops a.tmps) with
   | true => (match b8V P E o a A with
    | some (v, A1) => b2X ops rest (a.put o.dst v) A1
    | none => none)
   | false => b2X ops rest (a.put o.dst undef) A
variable {P E}
variable (P E)
abbrev Row := Act × World × Value
def b5C (ops : Array Oper) (o : Oper) (a : Act) (A : World) : Option (Value × World) :=
 match Region.wanted o (yielded ops a.tmps) with
 | true => b8V P E o a A
 | false => some (undef, A)
def b4b (ops : Array Oper) : List Oper -> Act -> World -> Option (List Row)
 | [], a, A => some [(a, A, undef)]
 | o :: os, a, A =>
  match b5C P E ops o a A with
  | some (v, A1) => (match b4b ops os (a.put o.dst v) A1 with
   | some rest => some ((a, A, v) :: rest)
   | none => none)
  | none => none
def b8J (rows : List Row) (i : Nat) (A : World) : World := match rows[i]? with | some r => r.2.1 | none => A
def b7r (ops : Array Oper) (rows : List Row) (A0 : World) (i : Nat) (o : Oper) : Bool :=
 match rows[i]? with
 | some (a, A, v) =>
  (match Region.wanted o (yielded ops a.tmps) with
  | true => (match g6 o.op with
   | .quiet => (a0r ops ++ [ops.size]).all fun p => !a1s ops (G6 ops) i p || (match b7q P a.eval o (b8J rows p A0) with | some v' => b0N 4 v' v | none => false)
   | .makes => (match b4c P a.eval o A with
    | some (_, obj) => wr obj && b83 v A.heap.size && (a0r ops ++ [ops.size]).all fun p => !decide (i < p) || !a1s ops (G6 ops) i p || (match (b8J rows p A0).heap[A.heap.size]? with | some o' => b9a o' obj | none => false)
    | none => false)
   | .acts => true)
  | false => true)
 | none => false
def a9Y (ops : Array Oper) (rows : List Row) (A0 : World) : Nat -> List Oper -> Bool
 | _, [] => true
 | i, o :: os => b7r P ops rows A0 i o && a9Y ops rows A0 (i + 1) os
def b4d : List Row -> Option (Act × World)
 | [] => none
 | [(a, A, _)] => some (a, A)
 | _ :: r => b4d r
def b7u (ops : Array Oper) (a : Act) (A : World) : Option (Act × World) :=
 match rck ops with
 | true => (match b4b P E ops ops.toList a A with
  | some rows => (match a9Y P ops rows A 0 ops.toList with
   | true => b4d rows
   | false => none)
  | none => none)
 | false => none
variable {P E}
end
end Go.Abs
namespace Go.Abs
section
variable (P : Program) (E : Ev)
def a92 : List Deferred -> World -> Option World
 | [], A => some A
 | d :: ds, A =>
  match d.target with
  | .collected r => (match (Instr.takeDeferred r).run P A with
   | .ok [] A1 => a92 ds A1
   | _ => none)
  | _ => none
def b7w (f : FuncId) (xs : Array Value) (A : World) : Option (Value × World) :=
 match P.funcs[f]? with
 | some fn =>
  match fn.body with
  | some c =>
   match E.codes none c { tmps := xs ++ Array.replicate (fn.ntmps - xs.size) undef, defers := [] } A with
   | some (e, a1, A1) =>
    match (match e with | .normal | .ret => true | _ => false) with
    | true => (match a92 P a1.defers A1 with
     | some A' => (match b1f P A' (results fn a1.tmps) with
      | some v => some (v, A')
      | none => none)
     | none => none)
    | false => none
   | none => none
  | none => none
 | none => none
def b5x (l : Nat) (ts : Array Value) (as bd : Code) (A : World) : Option (Value × World) :=
 match E.codes (some l) as { tmps := ts, defers := [] } A with
 | some (.normal, a1, A1) =>
  match (Instr.beginRound l).run P A1 with
  | .ok () A2 =>
   match E.codes (some l) bd a1 A2 with
   | some (e, _, A3) =>
    match a3G e with
    | some j => (match (Instr.endRound l j).run P A3 with
     | .ok v A' => some (v, A')
     | _ => none)
    | none => none
   | none => none
  | _ => none
 | _ => none
def b5y (ro : Option Nat) (g : Operand) (ps : Array Tmp) (as bd : Code) (a : Act) (A : World) : Option (Exit × Act × World) :=
 match (Instr.enterLoop 0 a.tmps ps as bd ro).run P A with
 | .ok (l, mark) A1 =>
  match a.eval g with
  | .func (.func f) first cap =>
   match P.funcs[f]? with
   | some fn =>
    match fn.body.isSome && !(fn.name == "runtime.NumGoroutine") with
    | true =>
     match E.calls f (first ++ #[.func (.yield l) #[] #[]] ++ cap) A1 with
     | some (_, A2) =>
      match (Instr.endLoop l).run P A2 with
      | .ok none A3 => some (.normal, { a with defers := mark ++ a.defers }, A3)
      | .ok (some c) A3 => E.codes ro c { a with defers := mark ++ a.defers } A3
      | _ => none
     | none => none
    | false => none
   | none => none
  | _ => none
 | _ => none
def b7v (ro : Option Nat) (c : Code) (a : Act) (A : World) : Option (Exit × Act × World) :=
 match c with
 | .skip | .label _ => some (.normal, a, A)
 | .seq x y => (match E.codes ro x a A with
  | some (.normal, a1, A1) => E.codes ro y a1 A1
  | r => r)
 | .cond c x y => (match a.eval c with
  | .bool true => E.codes ro x a A
  | .bool false => E.codes ro y a A
  | _ => none)
 | .block id x => (match E.codes ro x a A with
  | some (e, a1, A1) => some (a3L id e, a1, A1)
  | none => none)
 | .loop x => E.loops ro x a A
 | .exit id => some (.exit id, a, A)
 | .goto l => some (.goto l, a, A)
 | .ret => some (.ret, a, A)
 | .region _ ops false => (match b2X P E ops (List.range ops.size) a A with
  | some (a1, A1) => some (.normal, a1, A1)
  | none => none)
 | .region _ ops true => (match b7u P E ops a A with
  | some (a1, A1) => some (.normal, a1, A1)
  | none => none)
 | .rangeFunc g ps as bd => b5y P E ro g ps as bd a A
 | _ => none
def b7t (ro : Option Nat) (x : Code) (a : Act) (A : World) : Option (Exit × Act × World) :=
 match E.codes ro x a A with
 | some (.normal, a1, A1) => E.loops ro x a1 A1
 | r => r
def ev : Nat -> Ev
 | 0 => ⟨fun _ _ _ => none, fun _ _ _ _ _ => none, fun _ _ _ _ => none, fun _ _ _ _ => none⟩
 | n + 1 => ⟨b7w P (ev n), b5x P (ev n), b7v P (ev n), b7t (ev n)⟩
variable {P E} {L : Lvl}
def b8G (P : Program) (n : Nat) (f : FuncId) (q : Value -> Bool) : Bool :=
 match (ev P n).calls f #[] (tombs 0) with
 | some (v, _) => q v
 | none => false
def a7I (P : Program) : Bool := P.types.toList.all fun i => match i.zero with | some z => r7 z | none => true
def a5c (P : Program) : Bool := P.funcs.toList.all fun fn => match fn.body with | some c => l0 c | none => true
end
end Go.Abs
