/-
  ABS 20: a region that draws its order: soundness, whole.
-/
import Derived.Test.YtipomlcnmaldkaaA19
namespace Go.Abs
section
variable {P : Program} {n₀ : Nat} {L : Lvl} {ops : Array Oper} {T : Trace}

structure Inv (P : Program) (n₀ : Nat) (ops : Array Oper) (T : Trace) (ι0 : Ren) (W0 : World) (S : Nat → Prop) (p : Nat) (ι : Ren) (a b : Act) (W : World) : Prop where
  closed : ∀ i o, S i → ops[i]? = some o → ∀ e ∈ o.after.toList, Region.binds .any e = true → S e.on
  isP : p ∈ effs ops ++ [ops.size]
  done : ∀ e, e ∈ effs ops → e < p → S e
  todo : ∀ e, e ∈ effs ops → p ≤ e → ¬ S e
  core : Core P n₀ ops T ι0 W0 S p ι W
  puts : Puts ops T S a
  act : ARl P ι a b

theorem next_eff (ops : Array Oper) (m : Nat) (hm : m ≤ ops.size) : ∃ d, m + d ≤ ops.size ∧ (∀ j, m ≤ j → j < m + d → j ∉ effs ops) ∧ m + d ∈ effs ops ++ [ops.size] := by
  generalize hk : ops.size - m = k
  induction k generalizing m with
  | zero => exact ⟨0, by omega, fun j h1 h2 => by omega, by simp; omega⟩
  | succ k ih =>
    by_cases h : m ∈ effs ops
    · exact ⟨0, by omega, fun j h1 h2 => by omega, by simp [h]⟩
    · obtain ⟨d, h1, h2, h3⟩ := ih (m + 1) (by omega) (by omega)
      refine ⟨d + 1, by omega, fun j h4 h5 => ?_, by rw [show m + (d + 1) = m + 1 + d from by omega]; exact h3⟩
      by_cases hj : j = m
      · rw [hj]; exact h
      · exact h2 j (by omega) (by omega)

theorem effs_lt {i : Nat} (h : i ∈ effs ops) : i < ops.size := by
  obtain ⟨o, ho, _⟩ := mem_effs.1 h
  exact lt_of_at ho

/-- One operation comes up. -/
theorem Inv.one (G : Good P) (hL : Snd P n₀ L) (R : Rck ops) (hops : ∀ (i : Nat) (o : Oper), ops[i]? = some o → operOk o = true) (hT : ∀ (i : Nat) (o : Oper), ops[i]? = some o → StepOk P L ops T i o)
    (hm : ∀ i k, i ≤ k → k ≤ ops.size → (T.ws i).heap.size ≤ (T.ws k).heap.size) {ι0 ι : Ren} {W0 W : World} {S : Nat → Prop} {p : Nat} {a b : Act} (I : Inv P n₀ ops T ι0 W0 S p ι a b W)
    {i : Nat} {o : Oper} (ho : ops[i]? = some o) (hi : ¬ S i) (hdeps : ∀ e ∈ o.after.toList, Region.binds .any e = true → S e.on) (ro : Option Nat) (Q : Exit → Act → World → Prop) (K : Act → World → Prop)
    (hK : ∀ p' ι' a' b' W', Inv P n₀ ops T ι0 W0 (fun k => S k ∨ k = i) p' ι' a' b' W' → K b' W') : wpOpIn (wide ro) 0 P ops Q i K b W := by
  have hilt := lt_of_at ho
  have hbef : ∀ k, bef (masks ops) i k = true → S k := fun k hk => bef_in I.closed (i + 1) i k o (Nat.lt_succ_self _) ho hdeps hk
  have hbef' : ∀ k ok, ops[k]? = some ok → S k → bef (masks ops) k i = true → False := fun k ok hk hs hb => hi (bef_in I.closed (k + 1) k i ok (Nat.lt_succ_self _) hk (fun e he hbd => I.closed k ok hs hk e he hbd) hb)
  -- what it looks at is as the text has it
  have hPt := Puts.text R hT i (Nat.le_of_lt hilt)
  have hlook : ∀ t, t ∈ looks ops o → ∀ w ow, ops[w]? = some ow → ow.dst = some t → (S w ↔ w < i) := by
    intro t ht w ow hw hd
    obtain ⟨h1, h2⟩ := R.names w i ow o t hw ho hd ht
    constructor
    · intro hs
      rcases Nat.lt_trichotomy w i with h | h | h
      · exact h
      · exact absurd (h ▸ hs) hi
      · exact (hbef' w ow hw hs (h2 h)).elim
    · intro h; exact hbef w (h1 h)
  have hev : ∀ x ∈ o.op.operands, a.eval x = (T.as i).eval x := by
    intro x hx
    refine I.puts.eval hPt fun t ht w ow hw hd => hlook t ?_ w ow hw hd
    unfold looks
    refine List.mem_append_left _ (List.mem_filterMap.2 ⟨x, by simpa using hx, ?_⟩)
    rw [ht]
  have hwant : Region.wanted o (yielded ops b.tmps) = Region.wanted o (yielded ops (T.as i).tmps) := by
    rw [wanted_rel I.act]
    unfold Region.wanted
    cases hg : o.guard with
    | none => rfl
    | some q =>
      obtain ⟨g, want⟩ := q
      simp only
      have : yielded ops a.tmps g = yielded ops (T.as i).tmps g := by
        unfold yielded
        cases hd : (ops[g]?).bind (·.dst) with
        | none => rfl
        | some d =>
          simp only [Option.bind_some]
          rw [I.puts.agree hPt (fun w ow hw hdw => hlook d (by unfold looks; rw [hg]; simp [hd]) w ow hw hdw)]
      rw [this]
  have hvr : ∀ x ∈ o.op.operands, VRel P ι ((T.as i).eval x) (b.eval x) := by
    intro x hx
    rw [← hev x hx]
    have hok := hops i o ho
    simp only [operOk, Bool.and_eq_true, List.all_eq_true] at hok
    exact I.act.eval (hok.1 x (by simpa using hx))
  have hclosed : ∀ k ok, (S k ∨ k = i) → ops[k]? = some ok → ∀ e ∈ ok.after.toList, Region.binds .any e = true → (S e.on ∨ e.on = i) := by
    rintro k ok (hs | rfl) hok e he hb
    · exact .inl (I.closed k ok hs hok e he hb)
    · rw [ho] at hok; cases hok; exact .inl (hdeps e he hb)
  have hputs := I.puts.add R ho hi
  unfold wpOpIn
  simp only [ho]
  rw [hwant]
  have hst := hT i o ho
  by_cases hw : Region.wanted o (yielded ops (T.as i).tmps) = true
  · rw [if_pos hw]
    have hst2 := hst.2
    rw [if_pos hw] at hst2
    have hne : kindOf o.op ≠ .acts → i ≠ p ∧ mayAt ops (masks ops) i p = true := by
      intro hk
      have hine : i ∉ effs ops := fun h => by
        obtain ⟨o', h1, h2⟩ := mem_effs.1 h
        rw [ho] at h1; cases h1; exact hk h2
      have hip : i ≠ p := by
        rintro rfl
        rcases List.mem_append.1 I.isP with h | h
        · exact hine h
        · simp at h; omega
      refine ⟨hip, ?_⟩
      unfold mayAt
      simp only [Bool.and_eq_true, List.all_eq_true, Bool.or_eq_true, Bool.not_eq_true', decide_eq_false_iff_not]
      refine ⟨fun e he => ?_, ?_⟩
      · by_cases hep : e < p
        · refine .inr ?_
          obtain ⟨oe, h1, _⟩ := mem_effs.1 he
          cases hb : bef (masks ops) e i with
          | false => rfl
          | true => exact (hbef' e oe h1 (I.done e he hep) hb).elim
        · exact .inl hep
      · cases hb : bef (masks ops) i p with
        | false => rfl
        | true =>
          have hs := hbef p hb
          rcases List.mem_append.1 I.isP with h | h
          · exact absurd hs (I.todo p h (Nat.le_refl _))
          · simp at h
            obtain ⟨e, he, hb', hk⟩ := bef_step ho hb
            rcases hk with h' | ⟨hlt, hb''⟩
            · have := R.back i o ho e (by simpa using he) hb'; omega
            · exfalso
              have : ∀ (n j : Nat), j < n → j < ops.size → bef (masks ops) j p = true → False := by
                intro n
                induction n with
                | zero => intro j hj; omega
                | succ n ih =>
                  intro j hj hjs hb
                  have hoj : ops[j]? = some ops[j] := Array.getElem?_eq_getElem hjs
                  obtain ⟨e, he, hb', hk⟩ := bef_step hoj hb
                  have := R.back j _ hoj e (by simpa using he) hb'
                  rcases hk with h' | ⟨hlt, hb''⟩
                  · omega
                  · exact ih e.on (by omega) (by omega) hb''
              exact this (e.on + 1) e.on (Nat.lt_succ_self _) (by omega) hb''
    cases hk : kindOf o.op with
    | quiet =>
      rw [hk] at hst2
      obtain ⟨hip, hmay⟩ := hne (by rw [hk]; decide)
      have hrun : RunOp P L o (T.as i) (T.ws p) (T.vs i) (T.ws p) := ⟨_, _, hst2.2 p I.isP hmay, rfl, rfl⟩
      have hfr : Free ι (T.ws p) (T.ws p) := ⟨Nat.le_refl _, fun b h1 h2 => by omega⟩
      have hple : p ≤ ops.size := by
        rcases List.mem_append.1 I.isP with h | h
        · exact Nat.le_of_lt (effs_lt h)
        · simp at h; omega
      have notmk : ∀ k obj, Mk P ops T k obj → k ≠ i := by
        rintro k obj ⟨ok, h1, _, h2, _⟩ rfl
        rw [ho] at h1; cases h1; rw [hk] at h2; cases h2
      refine (snd_opOf (ι := ι) (W := W) (b := b) G hL (hops i o ho) hrun).2 ro _ Q I.core.sim hvr hfr fun ι1 v1 W1 S1 M1 V1 => ?_
      refine hK p ι1 _ _ W1 ⟨hclosed, I.isP, fun e he hlt => .inl (I.done e he hlt), ?_, ?_, hputs, (I.act.mono M1.le).put o.dst V1⟩
      · rintro e he hle (hs | rfl)
        · exact I.todo e he hle hs
        · obtain ⟨o', h1, h2⟩ := mem_effs.1 he
          rw [ho] at h1; cases h1; rw [hk] at h2; cases h2
      · refine I.core.move S1 M1 (hm _ _ hple (Nat.le_refl _)) (Nat.le_refl _) (fun k obj hmk => ⟨fun h => h.resolve_right (notmk k obj hmk), .inl⟩) (fun k obj hmk hle => hm _ _ hle (Nat.le_of_lt hmk.sz)) (fun k obj hmk hlt => Nat.lt_of_lt_of_le hmk.lt (hm _ _ hlt hple))
    | makes =>
      obtain ⟨hip, hmay⟩ := hne (by rw [hk]; decide)
      obtain ⟨obj, hmk⟩ := Mk.of ho hst hw hk
      obtain ⟨o', ho', _, _, q1, q2, q3, q4, q5⟩ := id hmk
      rw [ho] at ho'; cases ho'
      obtain ⟨ι1, v', W1, en, r1, hle, hkeys, hen, hfr, hlt, hor, V1, hkeep, hsz, hos, htp, hout⟩ := makes_run G I.core.sim hk hvr q4 (I.core.late i obj hi hmk) q3
      refine ⟨fun _ _ => trivial, ?_⟩
      rw [Oper.semAt_eq _ _ _ (operOk_notDefer (hops i o ho)), r1]
      show K (b.put o.dst v') W1
      refine hK p ι1 _ _ W1 ⟨hclosed, I.isP, fun e he hlt => .inl (I.done e he hlt), ?_, ?_, hputs, (I.act.mono hle).put o.dst V1⟩
      · rintro e he hle' (hs | rfl)
        · exact I.todo e he hle' hs
        · obtain ⟨o', h1, h2⟩ := mem_effs.1 he
          rw [ho] at h1; cases h1; rw [hk] at h2; cases h2
      · exact I.core.make hm hmk (fun _ => Iff.rfl) hi hle hkeys hen hfr hlt hor hkeep hsz hos htp hout (fun h => q5 p I.isP h hmay) (fun h => hm _ _ h (Nat.le_of_lt hilt))
    | acts =>
      rw [hk] at hst2
      have hie : i ∈ effs ops := mem_effs.2 ⟨o, ho, hk⟩
      have hip : i = p := by
        rcases Nat.lt_trichotomy i p with h | h | h
        · exact absurd (I.done i hie h) hi
        · exact h
        · rcases List.mem_append.1 I.isP with hp | hp
          · obtain ⟨op, h1, h2⟩ := mem_effs.1 hp
            have := hbef p (R.chain i p o op ho h1 hk h2 h)
            exact absurd this (I.todo p hp (Nat.le_refl _))
          · simp at hp; omega
      subst hip
      have notmk : ∀ k obj, Mk P ops T k obj → k ≠ i := by
        rintro k obj ⟨ok, h1, _, h2, _⟩ rfl
        rw [ho] at h1; cases h1; rw [hk] at h2; cases h2
      have hs1 := hm i (i + 1) (Nat.le_succ _) hilt
      have hs2 := hm (i + 1) ops.size hilt (Nat.le_refl _)
      have hfr : Free ι (T.ws i) (T.ws (i + 1)) := ⟨hs1, fun k h1 h2 => I.core.free k h1 (by omega) fun q obj hs hmk => by
        have hq := notmk q obj hmk
        rcases Nat.lt_or_gt_of_ne hq with h | h
        · have := Nat.lt_of_lt_of_le hmk.lt (hm (q + 1) i h (Nat.le_of_lt hilt)); omega
        · have := hm (i + 1) q h (Nat.le_of_lt hmk.sz); omega⟩
      refine (snd_opOf (ι := ι) (W := W) (b := b) G hL (hops i o ho) hst2).2 ro _ Q I.core.sim hvr hfr fun ι1 v1 W1 S1 M1 V1 => ?_
      have C1 : Core P n₀ ops T ι0 W0 (fun k => S k ∨ k = i) (i + 1) ι1 W1 :=
        I.core.move S1 M1 hs2 (Nat.le_succ _) (fun k obj hmk => ⟨fun h => h.resolve_right (notmk k obj hmk), .inl⟩) (fun k obj hmk hle => hm _ _ hle (Nat.le_of_lt hmk.sz))
          (fun k obj hmk hlt => by
            have hq := notmk k obj hmk
            exact Nat.lt_of_lt_of_le hmk.lt (hm (k + 1) i (by omega) (Nat.le_of_lt hilt)))
      obtain ⟨d, hd1, hd2, hd3⟩ := next_eff ops (i + 1) hilt
      have C2 := C1.advanceTo hT d (i + 1) hd1 hd2
      refine hK (i + 1 + d) ι1 _ _ W1 ⟨hclosed, hd3, ?_, ?_, C2, hputs, (I.act.mono M1.le).put o.dst V1⟩
      · intro e he hlt
        by_cases h1 : e < i
        · exact .inl (I.done e he h1)
        · by_cases h2 : e = i
          · exact .inr h2
          · exact absurd he (hd2 e (by omega) hlt)
      · rintro e he hle (hs | rfl)
        · exact I.todo e he (by omega) hs
        · omega
  · rw [if_neg hw]
    have hst2 := hst.2
    rw [if_neg hw] at hst2
    obtain ⟨hws, hvs⟩ := hst2
    refine ⟨fun _ _ => trivial, ?_⟩
    rw [hvs] at hputs
    have notmk : ∀ k obj, Mk P ops T k obj → k ≠ i := by
      rintro k obj ⟨ok, h1, h2, _⟩ rfl
      rw [ho] at h1; cases h1; exact hw h2
    have hSi : ∀ k obj, Mk P ops T k obj → ((S k ∨ k = i) ↔ S k) := fun k obj hmk => ⟨fun h => h.resolve_right (notmk k obj hmk), .inl⟩
    have hple : p ≤ ops.size := by
      rcases List.mem_append.1 I.isP with h | h
      · exact Nat.le_of_lt (effs_lt h)
      · simp at h; omega
    have C0 : Core P n₀ ops T ι0 W0 (fun k => S k ∨ k = i) p ι W :=
      I.core.move I.core.sim .refl (hm _ _ hple (Nat.le_refl _)) (Nat.le_refl _) hSi (fun k obj hmk hle => hm _ _ hle (Nat.le_of_lt hmk.sz)) (fun k obj hmk hlt => Nat.lt_of_lt_of_le hmk.lt (hm _ _ hlt hple))
    by_cases hip : i = p
    · subst hip
      have C1 : Core P n₀ ops T ι0 W0 (fun k => S k ∨ k = i) (i + 1) ι W :=
        ⟨by rw [hws]; exact C0.sim, fun k obj hs hle hmk => C0.early k obj hs (by omega) hmk, C0.late, by rw [hws]; exact C0.free, by rw [hws]; exact C0.mv⟩
      obtain ⟨d, hd1, hd2, hd3⟩ := next_eff ops (i + 1) hilt
      have C2 := C1.advanceTo hT d (i + 1) hd1 hd2
      refine hK (i + 1 + d) ι _ _ W ⟨hclosed, hd3, ?_, ?_, C2, hputs, I.act.put o.dst .undef⟩
      · intro e he hlt
        by_cases h1 : e < i
        · exact .inl (I.done e he h1)
        · by_cases h2 : e = i
          · exact .inr h2
          · exact absurd he (hd2 e (by omega) hlt)
      · rintro e he hle (hs | rfl)
        · exact I.todo e he (by omega) hs
        · omega
    · refine hK p ι _ _ W ⟨hclosed, I.isP, fun e he hlt => .inl (I.done e he hlt), ?_, C0, hputs, I.act.put o.dst .undef⟩
      rintro e he hle (hs | rfl)
      · exact I.todo e he hle hs
      · -- an acting one beyond p would have p ahead of it
        obtain ⟨o', h1, h2⟩ := mem_effs.1 he
        rw [ho] at h1; cases h1
        rcases List.mem_append.1 I.isP with hp | hp
        · obtain ⟨op, h3, h4⟩ := mem_effs.1 hp
          have := hbef p (R.chain e p o op ho h3 h2 h4 (by omega))
          exact I.todo p hp (Nat.le_refl _) this
        · simp at hp; omega

theorem draw_size (hL : Snd P n₀ L) (hT : ∀ (i : Nat) (o : Oper), ops[i]? = some o → StepOk P L ops T i o) : ∀ i k, i ≤ k → k ≤ ops.size → (T.ws i).heap.size ≤ (T.ws k).heap.size := by
  intro i k h1 h2
  obtain ⟨d, rfl⟩ := Nat.exists_eq_add_of_le h1
  exact ws_mono (fun j hj => step_size hL (hT j _ (Array.getElem?_eq_getElem hj))) d i h2

theorem ready_deps {listed : Array Bool} {i : Nat} (_ : listed.size = ops.size) (h : i ∈ Region.ready .any ops listed) : ∃ o, ops[i]? = some o ∧ ¬ listed[i]? = some true ∧ ∀ e ∈ o.after.toList, Region.binds .any e = true → listed[e.on]? = some true := by
  unfold Region.ready at h
  rw [List.mem_filter, List.mem_range] at h
  obtain ⟨hlt, h⟩ := h
  rw [Array.getElem?_eq_getElem hlt] at h
  simp only [Bool.and_eq_true, Option.map_some, Option.getD_some, Array.all_eq_true'] at h
  obtain ⟨h1, h2⟩ := h
  refine ⟨ops[i], Array.getElem?_eq_getElem hlt, ?_, ?_⟩
  · intro h3
    rw [Array.getD_eq_getD_getElem?, h3] at h1
    simp at h1
  · intro e he hb
    have := h2 e (by simpa using he)
    rw [hb] at this
    simp only [Bool.not_true, Bool.false_or, Array.getD_eq_getD_getElem?] at this
    cases hx : listed[e.on]? with
    | none => rw [hx] at this; simp at this
    | some q => rw [hx] at this; simp at this; rw [this]

theorem draw_all (G : Good P) (hL : Snd P n₀ L) (R : Rck ops) (hops : ∀ (i : Nat) (o : Oper), ops[i]? = some o → operOk o = true) (hT : ∀ (i : Nat) (o : Oper), ops[i]? = some o → StepOk P L ops T i o)
    {ι0 : Ren} {W0 : World} (ro : Option Nat) : ∀ (fuel : Nat) (listed : Array Bool) (p : Nat) (ι : Ren) (a b : Act) (W : World), listed.size = ops.size → (listed.toList.filter (fun x => !x)).length = fuel →
      Inv P n₀ ops T ι0 W0 (fun k => listed[k]? = some true) p ι a b W → wpAnyIn (wide ro) 0 P .any ops (Post P n₀ ι0 (T.ws 0) W0 .normal (T.as ops.size) (T.ws ops.size)) fuel listed b W := by
  have hm := draw_size hL hT
  have fin : ∀ (listed : Array Bool) (p : Nat) (ι : Ren) (a b : Act) (W : World), (∀ k, k < ops.size → listed[k]? = some true) → Inv P n₀ ops T ι0 W0 (fun k => listed[k]? = some true) p ι a b W →
      Post P n₀ ι0 (T.ws 0) W0 .normal (T.as ops.size) (T.ws ops.size) .normal b W := by
    intro listed p ι a b W hall I
    have hp : p = ops.size := by
      rcases List.mem_append.1 I.isP with h | h
      · exact absurd (hall p (effs_lt h)) (I.todo p h (Nat.le_refl _))
      · simpa using h
    subst hp
    refine ⟨rfl, ι, I.core.sim, ⟨I.core.mv.le, I.core.mv.news, I.core.mv.keep, I.core.mv.img, I.core.mv.fresh, I.core.mv.asz, I.core.mv.wsz, I.core.mv.os, I.core.mv.tape, I.core.mv.output⟩, ?_⟩
    have hP := Puts.text R hT ops.size (Nat.le_refl _)
    have ht : a.tmps = (T.as ops.size).tmps := by
      apply Array.ext_getElem?
      intro t
      exact I.puts.agree hP fun w o hw _ => ⟨fun _ => lt_of_at hw, fun h => hall w h⟩
    have hd : a.defers = (T.as ops.size).defers := I.puts.defers.trans hP.defers.symm
    exact ⟨ht ▸ I.act.tmps, hd ▸ I.act.defers⟩
  intro fuel
  induction fuel with
  | zero =>
    intro listed p ι a b W hs hc I
    have hall : ∀ k, k < ops.size → listed[k]? = some true := by
      intro k hk
      have hk' : k < listed.size := by omega
      rw [List.length_eq_zero_iff, List.filter_eq_nil_iff] at hc
      have := hc listed[k] (by simp)
      rw [Array.getElem?_eq_getElem hk']
      simpa using this
    refine ⟨?_, fin listed p ι a b W hall I⟩
    cases hr : Region.ready .any ops listed with
    | nil => rfl
    | cons i l =>
      obtain ⟨o, ho, hn, _⟩ := ready_deps hs (i := i) (by rw [hr]; simp)
      exact absurd (hall i (lt_of_at ho)) hn
  | succ fuel ih =>
    intro listed p ι a b W hs hc I
    refine ⟨fun hr => ?_, fun i hi => ?_⟩
    · refine fin listed p ι a b W ?_ I
      -- the least that is not listed would be ready
      intro k
      induction k using Nat.strongRecOn with
      | _ k ihk =>
        intro hk
        cases hl : listed[k]? with
        | none => have := Array.getElem?_eq_none_iff.1 hl; omega
        | some q =>
          cases q with
          | true => rfl
          | false =>
            exfalso
            have hmem : k ∈ Region.ready .any ops listed := by
              unfold Region.ready
              rw [List.mem_filter, List.mem_range]
              refine ⟨hk, ?_⟩
              rw [Array.getElem?_eq_getElem hk, Array.getD_eq_getD_getElem?, hl]
              simp only [Option.getD_some, Bool.not_false, Option.map_some, Bool.true_and, Array.all_eq_true']
              intro e he
              by_cases hb : Region.binds .any e = true
              · have := R.back k _ (Array.getElem?_eq_getElem hk) e he hb
                have := ihk e.on this (by omega)
                rw [Array.getD_eq_getD_getElem?, this]; simp
              · simp [hb]
            rw [hr] at hmem; cases hmem
    · obtain ⟨o, ho, hn, hd⟩ := ready_deps hs hi
      have hilt := lt_of_at ho
      refine I.one G hL R hops hT hm ho hn hd ro _ _ fun p' ι' a' b' W' I' => ?_
      have hS : (fun k => listed[k]? = some true ∨ k = i) = (fun k => (listed.setIfInBounds i true)[k]? = some true) := by
        funext k
        apply propext
        by_cases hk : k = i
        · subst hk
          rw [Array.getElem?_setIfInBounds_self_of_lt (by omega)]; simp
        · rw [Array.getElem?_setIfInBounds_ne (fun h => hk h.symm)]; simp [hk]
      rw [hS] at I'
      refine ih (listed.setIfInBounds i true) p' ι' a' b' W' (by simpa using hs) ?_ I'
      have hli : listed[i]? = some false := by
        rw [Array.getElem?_eq_getElem (by omega)] at hn ⊢
        cases h : listed[i]'(by omega) with
        | true => rw [h] at hn; simp at hn
        | false => rfl
      have key : ∀ (l : List Bool) (j : Nat), l[j]? = some false → (l.filter (fun x => !x)).length = ((l.set j true).filter (fun x => !x)).length + 1 := by
        intro l
        induction l with
        | nil => intro j h; simp at h
        | cons x l ihl =>
          intro j h
          cases j with
          | zero => simp at h; subst h; simp
          | succ j =>
            have := ihl j (by simpa using h)
            cases x <;> simp [this]
      have := key listed.toList i (by simpa using hli)
      rw [hc] at this
      rw [Array.toList_setIfInBounds]
      omega

theorem snd_draw (G : Good P) (hL : Snd P n₀ L) : SndDraw P n₀ (RunDraw P L) := by
  rintro ops a a' A A' ⟨hr, T, rfl, rfl, rfl, rfl, hT⟩
  have R := Rck.of hr
  have hm := draw_size hL hT
  refine ⟨hm 0 ops.size (Nat.zero_le _) (Nat.le_refl _), fun hops ι W b ro S act F => ?_⟩
  obtain ⟨d, hd1, hd2, hd3⟩ := next_eff ops 0 (Nat.zero_le _)
  rw [Nat.zero_add] at hd1 hd2 hd3
  have hfalse : ∀ (k : Nat), ¬ (Array.replicate ops.size false)[k]? = some true := by
    intro k h
    rw [Array.getElem?_replicate] at h
    split at h <;> simp at h
  have C0 : Core P n₀ ops T ι W (fun k => (Array.replicate ops.size false)[k]? = some true) 0 ι W := by
    refine ⟨S, fun i obj hs => absurd hs (hfalse i), fun i obj _ hmk => ?_, fun k h1 h2 _ => F.2 k h1 h2, ?_⟩
    · have h1 := hm 0 i (Nat.zero_le _) (Nat.le_of_lt hmk.sz)
      have h2 := hmk.lt
      have h3 := hm (i + 1) ops.size hmk.sz (Nat.le_refl _)
      exact F.2 _ h1 (by omega)
    · exact ⟨.refl ι, fun b e h h' => by rw [h] at h'; (cases h'), fun _ _ _ => rfl, fun k e o h h' hw _ => ⟨k, e, o, h, h', hw, rfl⟩, fun k e h h' => by rw [h] at h'; (cases h'), Nat.le_refl _, Nat.le_refl _, rfl, rfl, rfl⟩
  have C1 := C0.advanceTo hT d 0 (by omega) (fun j h1 h2 => hd2 j h1 (by omega))
  rw [Nat.zero_add] at C1
  refine draw_all G hL R hops hT ro ops.size (Array.replicate ops.size false) d ι (T.as 0) b W (by simp) (by simp) ⟨fun i o hs => absurd hs (hfalse i), hd3, fun e he hlt => absurd he (hd2 e (Nat.zero_le _) hlt), fun e _ _ => hfalse e, C1, ⟨rfl, rfl, fun i _ _ hs => absurd hs (hfalse i), fun _ _ => rfl⟩, act⟩

/-- The canonical run, so deep. -/
def Lv (P : Program) : Nat → Lvl := lvl P (RunDraw P)
theorem snd (G : Good P) (n : Nat) : Snd P n₀ (Lv P n) := snd_lvl G (fun _ hL => snd_draw G hL) n
end
end Go.Abs
