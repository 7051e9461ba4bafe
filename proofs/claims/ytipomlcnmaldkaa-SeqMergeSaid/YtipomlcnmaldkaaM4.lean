/-
  What Merge's outer loop leans on: a place that moves on, and that less is left. No program in sight, no condition.
-/
import Derived.Test.YtipomlcnmaldkaaM3
import Derived.Test.YtipomlcnmaldkaaB10
import Derived.Test.YtipomlcnmaldkaaM1
namespace Go.Proofs.Ytipomlcnmaldkaa
theorem pick_len : ∀ {rs : List (List Int)} {x : Int} {rs' : List (List Int)}, pick rs = some (x, rs') → rs'.flatten.length + 1 = rs.flatten.length
  | [], _, _, h => by cases h
  | l :: rs, x, rs', h => by
    unfold pick at h
    split at h
    · cases h
    · rename_i x' rs'' hp
      cases h
      have := pick_len hp
      simpa using this
    · rename_i y l' hp
      cases h
      simp
    · rename_i y l' x' rs'' hp
      have := pick_len hp
      split at h
      · cases h
        simp at this ⊢; omega
      · cases h
        simp
/-- The place of the list that was picked moves on. -/
theorem zip_set {ls : List (List Int)} {pos : List Nat} {m n : Nat} {l t : List Int} {y : Int} (hl : ls[m]? = some l) (hn : pos[m]? = some n) (hd : l.drop n = y :: t) :
    List.zipWith (fun (l : List Int) n => l.drop n) ls (pos.set m (n + 1)) = (List.zipWith (fun (l : List Int) n => l.drop n) ls pos).set m t := by
  have hm : m < pos.length := (List.getElem?_eq_some_iff.1 hn).1
  have hml : m < ls.length := (List.getElem?_eq_some_iff.1 hl).1
  have ht : l.drop (n + 1) = t := by
    have := congrArg (List.drop 1) hd
    simpa [List.drop_drop] using this
  apply List.ext_getElem?
  intro j
  by_cases e : j = m
  · subst e
    have hlj : ls[j] = l := by rw [List.getElem?_eq_getElem hml] at hl; exact Option.some.inj hl
    simp [List.getElem?_zipWith, List.getElem?_set, hm, hml, ht, hlj]
    omega
  · have e2 : ¬ m = j := fun h => e h.symm
    simp [List.getElem?_zipWith, e2]
theorem merged_pick {k : Nat} {rs rs' : List (List Int)} {x : Int} (h : pick rs = some (x, rs')) : merged (k + 1) rs = x :: merged k rs' := by
  simp only [merged, h]
theorem merged_none {k : Nat} {rs : List (List Int)} (h : pick rs = none) : merged k rs = [] := by
  cases k with
  | zero => rfl
  | succ k => simp only [merged, h]
end Go.Proofs.Ytipomlcnmaldkaa
/-
  seq.Merge hands on what is merged. No condition.
-/
namespace Go.Proofs.Ytipomlcnmaldkaa
open Go.Abs
variable {n₀ : Nat}
set_option maxRecDepth 8000
def atv (pos : List Nat) : Array Value := (pos.map fun n : Nat => Value.int .i64 n).toArray
theorem atv_zero (n : Nat) : Array.replicate n (Value.int .i64 0) = atv (List.replicate n 0) := by
  apply Array.ext'
  simp [atv]
theorem atv_set {pos : List Nat} {m k : Nat} : (atv pos).setIfInBounds m (Value.int .i64 k) = atv (pos.set m k) := by
  apply Array.ext'
  simp [atv, List.map_set]
set_option maxHeartbeats 8000000 in
theorem merge_gives {bl bf c0 : Nat} {q : Option Addr} {ls : List (List Int)} {vs : List Value} {R : Asn} (hL : ls.length < 1000) (hvs : vs.length = ls.length) (hlen : ∀ l ∈ ls, l.length < 1000 ∧ ∀ x ∈ l, 0 ≤ x ∧ x < 1000) (oR : Owns R)
    (hR : ∀ {F : Foot} {A : World}, R F A → RdV A q vs ∧ ∀ (i : Nat) (v : Value) (l : List Int), vs[i]? = some v → ls[i]? = some l → ∃ p c, v = .slice p l.length c ∧ Rd A p l) :
    Gives n₀ (mergeV bl bf) (Asn.all [cel bl (.slice q ls.length c0), cel bf (fnV 17), R]) (merged ls.flatten.length ls) := by
  refine ⟨fun _ => Owns.sep Owns.cel (Owns.sep Owns.cel oR), fun {α y I st} Hy {b0 a0 b1 a1 F A} h hr => ?_⟩
  have hf := runL_some hr
  simp only at hf
  have hl := Asn.cat (l := [cel bl (.slice q ls.length c0), cel bf (fnV 17), R]) (l' := [I a0]) h
  obtain ⟨F1, h1, S1⟩ := Asn.newO (Owns.sep Owns.cel (Owns.sep Owns.cel (Owns.sep oR (Hy.loc a0)))) hl (.cells (Array.replicate ls.length (.int .i64 0)) 3 (0, 0))
  have gbl0 : A.cell? ⟨bl, 0, none⟩ = some (.slice q ls.length c0) := Asn.get hl
  generalize hd0 : A.heap.size = d0 at h1
  generalize hA1 : A.alloc (.cells (Array.replicate ls.length (.int .i64 0)) 3 (0, 0)) = A1 at h1 S1
  rw [atv_zero] at h1
  have hz0 : (List.zipWith (fun (l : List Int) n => l.drop n) ls (List.replicate ls.length 0)) = ls := by
    apply List.ext_getElem?
    intro j
    by_cases hj : j < ls.length
    · simp [hj]
    · simp [List.getElem?_zipWith, List.getElem?_eq_none (Nat.le_of_not_lt hj)]
  have oZ := fun (pos : List Nat) (a : α) => Owns.sep (Owns.blk (b := d0) (o := .cells (atv pos) 3 (0, 0))) (Owns.sep (Owns.cel (b := bl) (v := .slice q ls.length c0)) (Owns.sep (Owns.cel (b := bf) (v := fnV 17)) (Owns.sep oR (Hy.loc a))))
  have hb8 : 8 * ls.length ≤ 2 ^ 48 := by omega
  have : wpF Try.prog n₀ 41 #[y, ptr bl, ptr bf] (fun v A' => v = undef ∧ ∃ F', ((Asn.all [cel bl (.slice q ls.length c0), cel bf (fnV 17), R]).sep (I a1)) F' A' ∧ Step F A F' A') A := by
    refine wpF_fn (ts := #[y, ptr bl, ptr bf, undef, undef, undef, undef, undef, undef, undef, undef, undef, undef, undef, undef, undef, undef, undef, undef, undef, undef, undef, undef, undef, undef, undef, undef, undef, undef, undef, undef, undef, undef, undef, undef, undef, undef, undef, undef, undef, undef, undef, undef, undef, undef, undef, undef, undef, undef, undef, undef, undef, undef, undef, undef, undef, undef, undef, undef, undef, undef, undef, undef, undef, undef, undef, undef, undef, undef, undef, undef, undef, undef, undef, undef]) good ⟨rfl, rfl, rfl⟩ (by kernel_rfl) ?_
    refine cw_seq good (cw_region good ?_)
    refine wpO_val (aop_load rfl rfl rfl gbl0) ?_
    refine wpO_val (aop_len rfl rfl rfl rfl rfl) ?_
    simp only [Act.put, List.setIfInBounds_toArray, List.set_cons_succ, List.set_cons_zero]
    refine wpO_val (aop_make (n := ls.length) (z := .int .i64 0) rfl rfl rfl rfl rfl rfl rfl rfl hb8 (by omega)) ?_
    rw [hd0, hA1]
    refine wpO_as (.slice (some ⟨d0, 0, none⟩) ls.length ls.length) rfl ?_
    simp only [Act.put, List.setIfInBounds_toArray, List.set_cons_succ, List.set_cons_zero]
    refine cw_block good (cw_loop good ?_)
    refine wpL_ind (fun nn a A' => ∃ (pos : List Nat) (ai : α) (F' : Foot) (zz : Nat → Value), nn = (List.zipWith (fun (l : List Int) n => l.drop n) ls pos).flatten.length ∧ pos.length = ls.length ∧ (∀ (i : Nat) (l : List Int) (n : Nat), ls[i]? = some l → pos[i]? = some n → n ≤ l.length) ∧ Asn.all [blk d0 (.cells (atv pos) 3 (0, 0)), cel bl (.slice q ls.length c0), cel bf (fnV 17), R, I ai] F' A' ∧ Step F A F' A' ∧
      foldY st (merged (List.zipWith (fun (l : List Int) n => l.drop n) ls pos).flatten.length (List.zipWith (fun (l : List Int) n => l.drop n) ls pos)) ai = some a1 ∧ a = ⟨#[y, ptr bl, ptr bf, (zz 3), .slice (some ⟨d0, 0, none⟩) ls.length ls.length, (zz 5), (zz 6), (zz 7), (zz 8), (zz 9), (zz 10), (zz 11), (zz 12), (zz 13), (zz 14), (zz 15), (zz 16), (zz 17), (zz 18), (zz 19), (zz 20), (zz 21), (zz 22), (zz 23), (zz 24), (zz 25), (zz 26), (zz 27), (zz 28), (zz 29), (zz 30), (zz 31), (zz 32), (zz 33), (zz 34), (zz 35), (zz 36), (zz 37), (zz 38), (zz 39), (zz 40), (zz 41), (zz 42), (zz 43), (zz 44), (zz 45), (zz 46), (zz 47), (zz 48), (zz 49), (zz 50), (zz 51), (zz 52), (zz 53), (zz 54), (zz 55), (zz 56), (zz 57), (zz 58), (zz 59), (zz 60), (zz 61), (zz 62), (zz 63), (zz 64), (zz 65), (zz 66), (zz 67), (zz 68), (zz 69), (zz 70), (zz 71), (zz 72), (zz 73), (zz 74)], []⟩) ?_ _ _ _
      ⟨List.replicate ls.length 0, a0, F1, (fun ix => (⟨#[y, ptr bl, ptr bf, undef, .slice (some ⟨d0, 0, none⟩) ls.length ls.length, undef, undef, undef, .slice q ls.length c0, .int .i64 ls.length, .slice (some ⟨d0, 0, none⟩) ls.length ls.length, undef, undef, undef, undef, undef, undef, undef, undef, undef, undef, undef, undef, undef, undef, undef, undef, undef, undef, undef, undef, undef, undef, undef, undef, undef, undef, undef, undef, undef, undef, undef, undef, undef, undef, undef, undef, undef, undef, undef, undef, undef, undef, undef, undef, undef, undef, undef, undef, undef, undef, undef, undef, undef, undef, undef, undef, undef, undef, undef, undef, undef, undef, undef, undef], []⟩ : Act).tmps.getD ix undef), rfl, by simp, fun i l n hl hn => by (rw [List.getElem?_replicate] at hn; split at hn <;> cases hn; exact Nat.zero_le _), h1, S1, by rw [hz0]; exact hf, by kernel_rfl⟩
    rintro nn _ A' ⟨pos, ai, F', zz, rfl, hpos, hle, h, hS, hfo, rfl⟩
    have hr3 := Asn.perm _ [3, 0, 1, 2, 4] h (by decide)
    obtain ⟨_, hRR⟩ := Asn.left hr3
    obtain ⟨gq, gl⟩ := hR hRR
    have gbl := Asn.get (Asn.perm _ [1, 0, 2, 3, 4] h (by decide))
    have gbf := Asn.get (Asn.perm _ [2, 0, 1, 3, 4] h (by decide))
    have gat : ∀ (i n : Nat), pos[i]? = some n → A'.cell? ((⟨d0, 0, none⟩ : Addr).add (i * 1)) = some (.int .i64 n) := fun i n hn => by
      rw [blk_cell h i]; simp [atv, hn]
    refine cw_block good (cw_seq good (cw_region good ?_))
    refine wpO_as (.int .i64 (-1)) rfl ?_
    simp only [Act.put, List.setIfInBounds_toArray, List.set_cons_succ, List.set_cons_zero]
    refine cw_seq good (cw_seq good (cw_region good ?_))
    refine wpO_val (aop_load rfl rfl rfl gbl) ?_
    refine wpO_val (aop_len rfl rfl rfl rfl rfl) ?_
    refine wpO_mv (.int .i64 (0 : Nat)) rfl ?_
    simp only [Act.put, List.setIfInBounds_toArray, List.set_cons_succ, List.set_cons_zero]
    refine cw_block good (cw_loop good ?_)
    refine merge_inner hL hpos hvs (fun i l n hl hn => ⟨hle i l n hl hn, hlen l (List.mem_of_getElem? hl)⟩) gat gq gl gbl gbf (fun b w6 w7 w14 w15 w16 w17 w18 w19 w20 w21 w22 w23 w24 w25 w26 w27 w28 w29 w30 w31 w32 w33 w34 w35 w36 w37 w38 w39 w40 w41 w42 w43 w44 w45 w46 w47 w48 w49 w50 w51 hB => ?_)
    have hbl : (List.zipWith (fun (l : List Int) n => l.drop n) ls pos).length = ls.length := by simp [hpos]
    rw [← hbl] at hB
    rcases best_pick hB with ⟨rfl, hp⟩ | ⟨m, x, t, rfl, hm, hp⟩
    · rw [merged_none hp] at hfo
      cases hfo
      refine cw_seq good (cw_seq good (ca_draw good [.int .i64 (-1), .bool true, .bool true, undef, undef, undef, undef, undef, undef, undef, undef, undef, undef, undef, undef, undef, .bool true] [] (by kernel_rfl) rfl ?_ ⟨#[y, ptr bl, ptr bf, (zz 3), .slice (some ⟨d0, 0, none⟩) ls.length ls.length, bestV none, w6, w7, (zz 8), (zz 9), (zz 10), .slice q ls.length c0, .int .i64 ls.length, .int .i64 ls.length, w14, w15, w16, w17, w18, w19, w20, w21, w22, w23, w24, w25, w26, w27, w28, w29, w30, w31, w32, w33, w34, w35, w36, w37, w38, w39, w40, w41, w42, w43, w44, w45, w46, w47, w48, w49, w50, w51, .int .i64 (-1), .bool true, .bool true, undef, undef, undef, undef, undef, undef, undef, undef, undef, undef, undef, undef, undef, .bool true, (zz 69), (zz 70), (zz 71), (zz 72), (zz 73), (zz 74)], []⟩ _ (by kernel_rfl) rfl ?_))
      · intro jj o ho
        match jj, ho with
        | 0, ho => cases ho; exact sa_quiet rfl [14] (all1 (aop_mv rfl (by kernel_rfl))) rfl
        | 1, ho => cases ho; exact sa_quiet rfl [14] (all1 (aop_int (k := .i64) (m := -1) (n := 0) (v := .bool true) rfl (by kernel_rfl) (by kernel_rfl) rfl)) rfl
        | 2, ho => cases ho; exact sa_quiet rfl [14] (all1 (aop_mv rfl (by kernel_rfl))) rfl
        | 3, ho => cases ho; exact sa_not rfl rfl rfl
        | 4, ho => cases ho; exact sa_not rfl rfl rfl
        | 5, ho => cases ho; exact sa_not rfl rfl rfl
        | 6, ho => cases ho; exact sa_not rfl rfl rfl
        | 7, ho => cases ho; exact sa_not rfl rfl rfl
        | 8, ho => cases ho; exact sa_not rfl rfl rfl
        | 9, ho => cases ho; exact sa_not rfl rfl rfl
        | 10, ho => cases ho; exact sa_not rfl rfl rfl
        | 11, ho => cases ho; exact sa_not rfl rfl rfl
        | 12, ho => cases ho; exact sa_not rfl rfl rfl
        | 13, ho => cases ho; exact sa_not rfl rfl rfl
        | 14, ho => cases ho; exact sa_not rfl rfl rfl
        | 15, ho => cases ho; exact sa_not rfl rfl rfl
        | 16, ho => cases ho; exact sa_quiet rfl [17] (all1 (aop_picks (b := true) rfl (by kernel_rfl) (by kernel_rfl))) rfl
        | n + 17, ho => simp at ho
      refine cw_cond good true rfl (cw_ret good ?_)
      obtain ⟨F5, h5, S5⟩ := Asn.drop (Asn.perm _ [0, 4, 1, 2, 3] h (by decide))
      exact ret_none ⟨rfl, F5, Asn.comm h5, hS.trans S5⟩
    · have hmlt : m < ls.length := by rw [← hbl]; exact (List.getElem?_eq_some_iff.1 hm).1
      obtain ⟨lm, hlm⟩ : ∃ lm, ls[m]? = some lm := ⟨_, List.getElem?_eq_getElem hmlt⟩
      obtain ⟨vm, hvm⟩ : ∃ vm, vs[m]? = some vm := ⟨_, List.getElem?_eq_getElem (by omega)⟩
      obtain ⟨nm, hnm⟩ : ∃ nm, pos[m]? = some nm := ⟨_, List.getElem?_eq_getElem (by omega)⟩
      have hrm : (List.zipWith (fun (l : List Int) n => l.drop n) ls pos)[m]? = some (lm.drop nm) := by simp [List.getElem?_zipWith, hlm, hnm]
      have hdm : lm.drop nm = x :: t := by rw [hrm] at hm; exact Option.some.inj hm
      have hxm : lm[nm]? = some x := by
        have := congrArg (fun l => l[0]?) hdm
        simpa [List.getElem?_drop] using this
      have hnml : nm < lm.length := (List.getElem?_eq_some_iff.1 hxm).1
      have hlm3 : lm.length < 1000 := (hlen lm (List.mem_of_getElem? hlm)).1
      obtain ⟨pm, cm, rfl, hrlm⟩ := gl m vm lm hvm hlm
      obtain ⟨aq, rfl, hcm⟩ := gq m _ hvm
      obtain ⟨adm, rfl, hcxm⟩ := hrlm nm x hxm
      rw [← pick_len hp, merged_pick hp] at hfo
      unfold foldY at hfo
      cases hst : st ai x with
      | none => rw [hst] at hfo; cases hfo
      | some r =>
        obtain ⟨bb, a2⟩ := r
        rw [hst] at hfo
        obtain ⟨A2, F2, hcall, hA2, hS2⟩ := Asn.frame (Hy.loc ai) (Owns.sep Owns.blk (Owns.sep Owns.cel (Owns.sep Owns.cel oR))) (Hy.loc a2) (Asn.perm _ [4, 0, 1, 2, 3] h (by decide)) (R := fun A2 => CallV Try.prog n₀ y #[.int .i64 x] A' (.bool bb) A2) (fun F1 h1 => Hy.run h1 hst)
        refine cw_seq good (cw_seq good (ca_draw good [.int .i64 m, .bool false, .bool false, y, .slice (some aq) ls.length c0, .int .i64 m, .pointer (some (aq.add (m * 1))), .slice (some adm) lm.length cm, .slice (some ⟨d0, 0, none⟩) ls.length ls.length, .int .i64 m, .pointer (some ((⟨d0, 0, none⟩ : Addr).add (m * 1))), .int .i64 nm, .pointer (some (adm.add (nm * 1))), .int .i64 x, .bool bb, .bool (!bb), .bool (!bb)] [A', A', A', A', A', A', A', A', A', A', A', A', A', A', A', A2, A2, A2] (by kernel_rfl) rfl ?_ ⟨#[y, ptr bl, ptr bf, (zz 3), .slice (some ⟨d0, 0, none⟩) ls.length ls.length, .int .i64 m, w6, w7, (zz 8), (zz 9), (zz 10), .slice (some aq) ls.length c0, .int .i64 ls.length, .int .i64 ls.length, w14, w15, w16, w17, w18, w19, w20, w21, w22, w23, w24, w25, w26, w27, w28, w29, w30, w31, w32, w33, w34, w35, w36, w37, w38, w39, w40, w41, w42, w43, w44, w45, w46, w47, w48, w49, w50, w51, .int .i64 m, .bool false, .bool false, y, .slice (some aq) ls.length c0, .int .i64 m, .pointer (some (aq.add (m * 1))), .slice (some adm) lm.length cm, .slice (some ⟨d0, 0, none⟩) ls.length ls.length, .int .i64 m, .pointer (some ((⟨d0, 0, none⟩ : Addr).add (m * 1))), .int .i64 nm, .pointer (some (adm.add (nm * 1))), .int .i64 x, .bool bb, .bool (!bb), .bool (!bb), (zz 69), (zz 70), (zz 71), (zz 72), (zz 73), (zz 74)], []⟩ _ (by kernel_rfl) rfl ?_))
        · intro jj o ho
          match jj, ho with
          | 0, ho => cases ho; exact sa_quiet rfl [14] (all1 (aop_mv rfl (by kernel_rfl))) rfl
          | 1, ho => cases ho; exact sa_quiet rfl [14] (all1 (aop_int (k := .i64) (m := m) (n := 0) (v := .bool false) rfl (by kernel_rfl) (by kernel_rfl) (by simp [intV] <;> omega))) rfl
          | 2, ho => cases ho; exact sa_quiet rfl [14] (all1 (aop_mv rfl (by kernel_rfl))) rfl
          | 3, ho => cases ho; exact sa_quiet rfl [14] (all1 (aop_mv rfl (by kernel_rfl))) rfl
          | 4, ho => cases ho; exact sa_quiet rfl [14] (all1 (aop_load (p := ⟨bl, 0, none⟩) rfl (by kernel_rfl) rfl gbl)) rfl
          | 5, ho => cases ho; exact sa_quiet rfl [14] (all1 (aop_mv rfl (by kernel_rfl))) rfl
          | 6, ho => cases ho; exact sa_quiet rfl [14] (all1 (aop_index (k := .i64) (p := aq) (len := ls.length) (cap := c0) rfl (by kernel_rfl) (by kernel_rfl) rfl rfl hmlt)) rfl
          | 7, ho => cases ho; exact sa_quiet rfl [14] (all1 (aop_load rfl (by kernel_rfl) rfl hcm)) rfl
          | 8, ho => cases ho; exact sa_quiet rfl [14] (all1 (aop_mv rfl (by kernel_rfl))) rfl
          | 9, ho => cases ho; exact sa_quiet rfl [14] (all1 (aop_mv rfl (by kernel_rfl))) rfl
          | 10, ho => cases ho; exact sa_quiet rfl [14] (all1 (aop_index (k := .i64) (len := ls.length) (cap := ls.length) (p := ⟨d0, 0, none⟩) rfl (by kernel_rfl) (by kernel_rfl) rfl rfl hmlt)) rfl
          | 11, ho => cases ho; exact sa_quiet rfl [14] (all1 (aop_load rfl (by kernel_rfl) rfl (gat m nm hnm))) rfl
          | 12, ho => cases ho; exact sa_quiet rfl [14] (all1 (aop_index (k := .i64) (p := adm) (len := lm.length) (cap := cm) rfl (by kernel_rfl) (by kernel_rfl) rfl rfl hnml)) rfl
          | 13, ho => cases ho; exact sa_quiet rfl [14] (all1 (aop_load rfl (by kernel_rfl) rfl hcxm)) rfl
          | 14, ho => cases ho; exact sa_acts rfl (runOp_callv (y := y) (l := [.int .i64 x]) hcall (by kernel_rfl) (by kernel_rfl))
          | 15, ho => cases ho; exact sa_quiet rfl [17] (all1 (aop_not (b := bb) rfl (by kernel_rfl))) rfl
          | 16, ho => cases ho; exact sa_quiet rfl [17] (all1 (aop_picks (b := false) rfl (by kernel_rfl) (by kernel_rfl))) rfl
          | n + 17, ho => simp at ho
        cases bb with
        | false =>
          cases hfo
          refine cw_cond good true rfl (cw_ret good ?_)
          obtain ⟨F5, h5, S5⟩ := Asn.drop (Asn.perm [I a1, blk d0 (.cells (atv pos) 3 (0, 0)), cel bl (.slice (some aq) ls.length c0), cel bf (fnV 17), R] [1, 0, 2, 3, 4] hA2 (by decide))
          exact ret_none ⟨rfl, F5, Asn.comm h5, hS.trans (hS2.trans S5)⟩
        | true =>
          refine cw_cond good false rfl (cw_skip good ?_)
          refine cw_region good ?_
          have h6 := Asn.perm [I a2, blk d0 (.cells (atv pos) 3 (0, 0)), cel bl (.slice (some aq) ls.length c0), cel bf (fnV 17), R] [1, 2, 3, 4, 0] hA2 (by decide)
          have ga : A2.cell? ⟨d0, m, none⟩ = some (.int .i64 nm) := Asn.cellAt h6 (by simp [atv, hnm])
          refine wpO_mv (.slice (some ⟨d0, 0, none⟩) ls.length ls.length) rfl ?_
          refine wpO_mv (.int .i64 m) rfl ?_
          simp only [Act.put, List.setIfInBounds_toArray, List.set_cons_succ, List.set_cons_zero]
          refine wpO_val (aop_index (k := .i64) (len := ls.length) (cap := ls.length) (p := ⟨d0, 0, none⟩) rfl rfl rfl rfl rfl hmlt) ?_
          rw [add_at]
          simp only [Act.put, List.setIfInBounds_toArray, List.set_cons_succ, List.set_cons_zero]
          refine wpO_val (aop_load (p := ⟨d0, m, none⟩) rfl rfl rfl ga) ?_
          refine wpO_val (aop_int (k := .i64) (m := nm) (n := 1) (v := .int .i64 (nm + 1 : Nat)) rfl rfl rfl (intV_add (by omega) (by omega) (by omega))) ?_
          simp only [Act.put, List.setIfInBounds_toArray, List.set_cons_succ, List.set_cons_zero]
          refine wpO_val (aop_index (k := .i64) (len := ls.length) (cap := ls.length) (p := ⟨d0, 0, none⟩) rfl rfl rfl rfl rfl hmlt) ?_
          rw [add_at]
          simp only [Act.put, List.setIfInBounds_toArray, List.set_cons_succ, List.set_cons_zero]
          refine wpO_unit (aop_store (p := ⟨d0, m, none⟩) (v := .int .i64 (nm + 1 : Nat)) rfl rfl rfl rfl rfl ga (Asn.softAt h6 (.inl rfl))) ?_
          obtain ⟨h7, S7⟩ := Asn.putAt (i := m) (Owns.sep Owns.cel (Owns.sep Owns.cel (Owns.sep oR (Hy.loc a2)))) h6 (.inl rfl) (.int .i64 (nm + 1 : Nat))
          rw [atv_set] at h7
          have hz := zip_set hlm hnm hdm
          have hpl := pick_len hp
          refine ⟨_, ?_, pos.set m (nm + 1), a2, F2, (fun ix => (⟨#[y, ptr bl, ptr bf, (zz 3), .slice (some ⟨d0, 0, none⟩) ls.length ls.length, .int .i64 m, w6, w7, (zz 8), (zz 9), (zz 10), .slice (some aq) ls.length c0, .int .i64 ls.length, .int .i64 ls.length, w14, w15, w16, w17, w18, w19, w20, w21, w22, w23, w24, w25, w26, w27, w28, w29, w30, w31, w32, w33, w34, w35, w36, w37, w38, w39, w40, w41, w42, w43, w44, w45, w46, w47, w48, w49, w50, w51, .int .i64 m, .bool false, .bool false, y, .slice (some aq) ls.length c0, .int .i64 m, .pointer (some (aq.add (m * 1))), .slice (some adm) lm.length cm, .slice (some ⟨d0, 0, none⟩) ls.length ls.length, .int .i64 m, .pointer (some ⟨d0, m, none⟩), .int .i64 nm, .pointer (some (adm.add (nm * 1))), .int .i64 x, .bool true, .bool (!true), .bool (!true), .slice (some ⟨d0, 0, none⟩) ls.length ls.length, .int .i64 m, .pointer (some ⟨d0, m, none⟩), .int .i64 nm, .int .i64 (nm + 1 : Nat), .pointer (some ⟨d0, m, none⟩)], []⟩ : Act).tmps.getD ix undef), rfl, by simpa using hpos, ?_, h7, hS.trans (hS2.trans S7), ?_, by (try simp only [Act.put]); kernel_rfl⟩
          · rw [hz]; omega
          · intro i l n hl hn
            by_cases e : i = m
            · subst e
              rw [hlm] at hl; cases hl
              rw [List.getElem?_set_self (by omega)] at hn
              cases hn; omega
            · rw [List.getElem?_set_ne (fun h => e h.symm)] at hn
              exact hle i l n hl hn
          · rw [hz]; exact hfo
  obtain ⟨v, A5, h8, rfl, F', h9, h10⟩ := this
  exact ⟨A5, F', ⟨41, _, _, _, _, ⟨rfl, rfl, rfl⟩, rfl, h8⟩, h9, h10⟩
end Go.Proofs.Ytipomlcnmaldkaa
/-
  A number put into its place from the right, in place; lists that lie side by side. No program in sight but for the last lemmas, no condition.
-/
namespace Go.Proofs.Ytipomlcnmaldkaa
open Go.Abs
/-- What stands at a and ahead of it is not greater, what stands behind it is. -/
theorem ins_at {x : Int} : ∀ {a b : List Int}, InOrder (a ++ b) → (∀ y ∈ b, k10 x < k10 y) → (∀ z, a.getLast? = some z → k10 z ≤ k10 x) → ins x (a ++ b) = a ++ x :: b
  | [], b, _, hb, _ => by simpa using ins_first hb
  | z :: a, b, .cons h t, hb, ha => by
    have hz : k10 z ≤ k10 x := by
      cases a with
      | nil => exact ha z rfl
      | cons w a =>
        obtain ⟨u, hu⟩ : ∃ u, (w :: a).getLast? = some u := by
          cases hq : (w :: a).getLast? with
          | none => simp at hq
          | some u => exact ⟨u, rfl⟩
        have h1 := ha u (by rw [List.getLast?_cons_cons]; exact hu)
        have h2 := h u (List.mem_append_left _ (List.mem_of_getLast? hu))
        omega
    rw [List.cons_append, ins, if_pos hz, ins_at t hb fun u hu => ha u ?_]
    · rfl
    · cases a with
      | nil => cases hu
      | cons w a => rw [List.getLast?_cons_cons]; exact hu
/-- The way of a number to its place: what is left of the hole is a, what was moved is b. -/
structure Hole (x : Int) (w m a b : List Int) : Prop where
  cut : w = a ++ b
  ord : InOrder w
  gt : ∀ y ∈ b, k10 x < k10 y
  has : ∃ h, m = a ++ h :: b
theorem hole_first {x : Int} {w : List Int} (h : InOrder w) : Hole x w (w ++ [x]) w [] := ⟨by simp, h, (fun _ h => by cases h), x, rfl⟩
theorem hole_next {x z : Int} {w m a b : List Int} (h : Hole x w m (a ++ [z]) b) (hz : k10 x < k10 z) : m[a.length]? = some z ∧ Hole x w (m.set (a.length + 1) z) a (z :: b) := by
  obtain ⟨rfl, o, g, u, rfl⟩ := h
  refine ⟨by simp, by simp, o, fun y hy => ?_, z, by simp⟩
  rcases List.mem_cons.1 hy with rfl | hy
  · exact hz
  · exact g y hy
theorem hole_last {x : Int} {w m a b : List Int} (h : Hole x w m a b) (hz : ∀ z, a.getLast? = some z → k10 z ≤ k10 x) : m.set a.length x = ins x w := by
  obtain ⟨rfl, o, g, u, rfl⟩ := h
  rw [ins_at o g hz]; simp
theorem hole_len {x : Int} {w m a b : List Int} (h : Hole x w m a b) : m.length = w.length + 1 ∧ a.length ≤ w.length := by
  obtain ⟨rfl, o, g, u, rfl⟩ := h
  simp; omega
theorem hole_get {x z : Int} {w m a b : List Int} (h : Hole x w m (a ++ [z]) b) : m[a.length]? = some z ∧ z ∈ w := by
  obtain ⟨rfl, o, g, u, rfl⟩ := h
  simp
theorem ins_len {x : Int} : ∀ {w : List Int}, (ins x w).length = w.length + 1
  | [] => rfl
  | y :: w => by unfold ins; split <;> simp [ins_len]
theorem srt_len : ∀ {l w : List Int}, (srt w l).length = w.length + l.length
  | [], w => rfl
  | x :: l, w => by
    show (srt (ins x w) l).length = _
    rw [srt_len, ins_len]; simp; omega
theorem srt_take {w l : List Int} {k : Nat} {x : Int} (h : l[k]? = some x) : srt w (l.take (k + 1)) = ins x (srt w (l.take k)) := by
  obtain ⟨hk, e⟩ := List.getElem?_eq_some_iff.1 h
  rw [List.take_succ_eq_append_getElem hk, srt_append, e]; rfl
section
variable {J : Asn} {F : Foot} {A : World} {t : TypeId} {v : Value} {acc : List Int}
/-- What lies at a place of one's own list, and what is put there. -/
theorem lstV_put (hJ : Owns J) (h : ((lstV t v acc).sep J) F A) {i : Nat} {u : Int} (hi : acc[i]? = some u) : ∃ d, v = .slice (some ⟨d, 0, none⟩) acc.length acc.length ∧ A.cell? ⟨d, i, none⟩ = some (.int .i64 u) ∧ A.frozen? ⟨d, i, none⟩ = false ∧
    ∀ x : Int, ((lstV t v (acc.set i x)).sep J) F (A.setCell ⟨d, i, none⟩ (.int .i64 x)) ∧ Step F A F (A.setCell ⟨d, i, none⟩ (.int .i64 x)) := by
  have hne : acc ≠ [] := fun e => by subst e; simp at hi
  have hv : ∃ d, v = .slice (some ⟨d, 0, none⟩) acc.length acc.length := by
    obtain ⟨F1, _, h1, _⟩ := h
    rcases h1 with ⟨e, _⟩ | ⟨_, d, e, _⟩
    · exact absurd e hne
    · exact ⟨d, e⟩
  obtain ⟨d, rfl⟩ := hv
  have hb : ((blk d (.cells (ints acc) t (1, 0))).sep J) F A := Asn.map h fun F hb => by
    rcases hb with ⟨e, _⟩ | ⟨_, d', e1, hb⟩
    · exact absurd e hne
    · cases e1; exact hb
  refine ⟨d, rfl, Asn.cellAt hb (by simp [ints, hi]), Asn.softAt hb (.inr rfl), fun x => ?_⟩
  obtain ⟨h1, S1⟩ := Asn.putAt (i := i) hJ hb (.inr rfl) (.int .i64 x)
  refine ⟨Asn.map h1 fun F hb => .inr ⟨by simpa using hne, d, by simp, ?_⟩, S1⟩
  have e : (ints acc).setIfInBounds i (.int .i64 x) = ints (acc.set i x) := by
    apply Array.ext'
    simp [ints, List.map_set]
  rw [← e]; exact hb
end
/-- Lists of one's own, side by side. -/
def lines (t : TypeId) : List Value → List (List Int) → Asn
  | v :: vs, l :: ls => (lstV t v l).sep (lines t vs ls)
  | [], [] => Asn.nil
  | _, _ => fun _ _ => False
theorem Owns.lines {t : TypeId} : ∀ {vs : List Value} {ls : List (List Int)}, Owns (lines t vs ls)
  | _ :: vs, _ :: ls => Owns.sep Owns.lstV (Owns.lines (vs := vs) (ls := ls))
  | [], [] => Owns.nil
  | [], _ :: _ => ⟨fun h => h.elim, fun h => h.elim⟩
  | _ :: _, [] => ⟨fun h => h.elim, fun h => h.elim⟩
theorem lines_len {t : TypeId} : ∀ {vs : List Value} {ls : List (List Int)} {F : Foot} {A : World}, lines t vs ls F A → vs.length = ls.length
  | _ :: vs, _ :: ls, _, _, h => by
    obtain ⟨_, _, _, h2, _⟩ := h
    have := lines_len h2
    simpa using this
  | [], [], _, _, _ => rfl
  | [], _ :: _, _, _, h => h.elim
  | _ :: _, [], _, _, h => h.elim
theorem lines_rd {t : TypeId} : ∀ {vs : List Value} {ls : List (List Int)} {F : Foot} {A : World}, lines t vs ls F A → ∀ (i : Nat) (v : Value) (l : List Int), vs[i]? = some v → ls[i]? = some l → ∃ p c, v = .slice p l.length c ∧ Rd A p l
  | _ :: vs, _ :: ls, _, _, h, 0, _, _, hv, hl => by
    cases hv; cases hl
    obtain ⟨_, _, h1, _⟩ := h
    obtain ⟨p, e, hr⟩ := lstV_rd h1
    exact ⟨p, _, e, hr⟩
  | _ :: vs, _ :: ls, _, _, h, i + 1, v, l, hv, hl => by
    obtain ⟨_, _, _, h2, _⟩ := h
    exact lines_rd h2 i v l (by simpa using hv) (by simpa using hl)
  | [], _, _, _, _, _, _, _, hv, _ => by simp at hv
  | _, [], _, _, _, _, _, _, _, hl => by simp at hl
theorem lines_more {t : TypeId} {v : Value} {l : List Int} : ∀ {vs : List Value} {ls : List (List Int)} {F : Foot} {A : World}, ((lstV t v l).sep (lines t vs ls)) F A → lines t (vs ++ [v]) (ls ++ [l]) F A
  | _ :: vs, _ :: ls, _, _, h => Asn.map' (Asn.swap h) fun _ h => lines_more h
  | [], [], _, _, h => h
  | [], _ :: _, _, _, h => by obtain ⟨_, _, _, h, _⟩ := h; exact h.elim
  | _ :: _, [], _, _, h => by obtain ⟨_, _, _, h, _⟩ := h; exact h.elim
end Go.Proofs.Ytipomlcnmaldkaa
/-
  What the loops of asterismlaw3.SeqMerge lean on. No condition.
-/
namespace Go.Proofs.Ytipomlcnmaldkaa
open Go.Abs
variable {n₀ : Nat}
noncomputable def c4 : Code := match Try.prog.funcs[4]? with
  | some fn => (match fn.body with | some c => c | none => .skip)
  | none => .skip
/-- The loop over the lists; over a list; a number to its place; over what came of it; a number to its place among all. -/
noncomputable def c4a : Code := inl (inl (rgt (lft (rgts 5 c4))))
noncomputable def c4b : Code := inl (inl (rgt (lft (rgt (inl (lft (rgt c4a)))))))
noncomputable def c4c : Code := inl (inl (lft (rgts 3 (inl (lft (rgt c4b))))))
noncomputable def c4d : Code := inl (inl (rgts 4 (inl (lft (rgt c4a)))))
noncomputable def c4e : Code := inl (inl (lft (rgts 2 (inl (lft (rgt c4d))))))
theorem take_max (la : List Int) (n : Int) : la.take n.toNat = la.take (max 0 (min n la.length)).toNat := by
  rw [List.take_eq_take_iff]; omega
theorem all3 {R : Nat → Prop} {p0 p1 p2 : Nat} (h0 : R p0) (h1 : R p1) (h2 : R p2) : ∀ q ∈ [p0, p1, p2], R q := fun q hq => by
  rcases List.mem_cons.1 hq with rfl | hq
  · exact h0
  · exact all2 h1 h2 q hq
theorem sl_to {A : World} {ρ : Operand → Value} {o : Oper} {x hi : Operand} {p : Option Addr} {len cap m : Nat} (ho : o.op = .slice 22 x none (some hi) none) (hx : ρ x = .slice p len cap) (hh : ρ hi = .int .i64 m) (hml : m ≤ len) (hlen : len ≤ cap)
    (hb : ∀ a, p = some a → ∃ cs t' fz, A.heap[a.block]? = some (.cells cs t' fz) ∧ fz ≠ (2, 0) ∧ (fz = (1, 0) → Try.prog.cellsOf 3 = Try.prog.cellsOf t')) : AOp Try.prog ρ o A (.value (.slice p m cap)) A := by
  have := aop_slice (k := .i64) (l := 0) (h := m) (P := Try.prog) (A := A) (e := 3) ho hx rfl rfl (.inl ⟨rfl, rfl⟩) (by rw [Option.map_some, hh]) (Nat.zero_le _) (by omega) hlen hb
  rwa [slice0] at this
theorem add_lst {I : Asn} {F : Foot} {A : World} (h : I F A) : ((lstV 3 (.slice none 0 0) []).sep I) F A := ⟨fun _ => False, F, .inl ⟨rfl, rfl, fun _ h => h⟩, h, fun _ h => h.elim, fun b => by simp⟩
theorem nil_or_last (l : List Int) : l = [] ∨ ∃ a z, l = a ++ [z] := by
  by_cases h : l = []
  · exact .inl h
  · exact .inr ⟨l.dropLast, l.getLast h, (List.dropLast_concat_getLast h).symm⟩
theorem quo10 {z : Int} (h : 0 ≤ z ∧ z < 1000) : intV .quo .i64 z 10 = some (.int .i64 (k10 z)) := by
  have e : IntKind.i64.wrap (z.tdiv 10) = k10 z := by
    have : z.tdiv 10 = z / 10 := Int.tdiv_eq_ediv_of_nonneg h.1
    unfold k10
    exact wrap_id (by omega) (by omega)
  simp only [intV]
  rw [e]; rfl
theorem intV_mul {m n z : Int} (h : z = m * n) (h1 : -9223372036854775808 ≤ z) (h2 : z < 9223372036854775808) : intV .mul .i64 m n = some (.int .i64 z) := by
  subst h; simp only [intV, wrap_id h1 h2]
def rr (y : Int) : Int := (y.tmod 20 + 20).tmod 20
def key (y : Int) (i : Nat) : Int := rr y * 10 + i
theorem tm20 (y : Int) : -20 < y.tmod 20 ∧ y.tmod 20 < 20 := ⟨Int.lt_tmod_of_pos y (by decide), Int.tmod_lt_of_pos y (by decide)⟩
theorem rr_range (y : Int) : 0 ≤ rr y ∧ rr y < 20 := ⟨Int.tmod_nonneg 20 (by have := tm20 y; omega), Int.tmod_lt_of_pos _ (by decide)⟩
theorem key_range (y : Int) {i : Nat} (h : i < 5) : 0 ≤ key y i ∧ key y i < 1000 := by
  have := rr_range y
  unfold key; omega
theorem hole_hole {x : Int} {w m a b : List Int} (h : Hole x w m a b) : ∃ u, m[a.length]? = some u := by
  obtain ⟨_, _, _, u, rfl⟩ := h
  exact ⟨u, by simp⟩
section
variable {P : Program} {sT xT e : TypeId} {J : Asn} {F : Foot} {A : World}
/-- One is laid behind a list of one's own. -/
theorem grow1 (T : AppTy P sT xT e) {v : Value} {acc : List Int} (hJ : Owns J) (h : ((lstV e v acc).sep J) F A) (hlen : acc.length < 16777216) (x : Int) :
    ∃ v' A2 F2, (∀ (o : Oper) (c : Call) (ρ : Operand → Value), o.op = .call c → c.callee = .builtin .append → c.argTypes = #[sT, xT] → c.args.toList.map ρ = [v, .slice (some ⟨A.heap.size, 0, none⟩) 1 1] → AOp P ρ o (A.alloc (.cells #[.int .i64 x] e (0, 0))) (.value v') A2) ∧
      ((lstV e v' (acc ++ [x])).sep J) F2 A2 ∧ Step F A F2 A2 := by
  obtain ⟨F1, h1, S1⟩ := Asn.newO (Owns.sep Owns.lstV hJ) h (.cells #[.int .i64 x] e (0, 0))
  obtain ⟨v', A2, F2, ap, h2, S2⟩ := lstV_grow (c2 := 1) (p := some ⟨A.heap.size, 0, none⟩) (l := [x]) T (Owns.sep Owns.blk hJ) (Asn.swap h1) (fun i y hy => by
    refine ⟨_, rfl, ?_⟩
    rw [cell_add (a := ⟨A.heap.size, 0, none⟩) (Asn.at h1) rfl]
    match i with
    | 0 => cases hy; rfl
    | i + 1 => simp at hy) rfl (by simp only [List.length_cons, List.length_nil]; omega)
  obtain ⟨F3, h3, S3⟩ := Asn.drop (Asn.swap h2)
  exact ⟨v', A2, F3, ap, h3, S1.trans (S2.trans S3)⟩
theorem growG1 (T : AppTy P sT xT e) {v : Value} {acc : List Value} (hJ : Owns J) (h : ((lstG e v acc).sep J) F A) (hlen : acc.length < 16777216) {x : Value} (hx : isOne x = true) :
    ∃ v' A2 F2, (∀ (o : Oper) (c : Call) (ρ : Operand → Value), o.op = .call c → c.callee = .builtin .append → c.argTypes = #[sT, xT] → c.args.toList.map ρ = [v, .slice (some ⟨A.heap.size, 0, none⟩) 1 1] → AOp P ρ o (A.alloc (.cells #[x] e (0, 0))) (.value v') A2) ∧
      ((lstG e v' (acc ++ [x])).sep J) F2 A2 ∧ Step F A F2 A2 := by
  obtain ⟨F1, h1, S1⟩ := Asn.newO (Owns.sep Owns.lstG hJ) h (.cells #[x] e (0, 0))
  obtain ⟨v', A2, F2, ap, h2, S2⟩ := lstG_grow (c2 := 1) (p := some ⟨A.heap.size, 0, none⟩) (l := [x]) T (Owns.sep Owns.blk hJ) (Asn.swap h1) (fun i y hy => by
    refine ⟨_, rfl, ?_⟩
    rw [cell_add (a := ⟨A.heap.size, 0, none⟩) (Asn.at h1) rfl]
    match i with
    | 0 => cases hy; rfl
    | i + 1 => simp at hy) (fun y hy => by simp at hy; subst hy; exact hx) rfl (by simp only [List.length_cons, List.length_nil]; omega)
  obtain ⟨F3, h3, S3⟩ := Asn.drop (Asn.swap h2)
  exact ⟨v', A2, F3, ap, h3, S1.trans (S2.trans S3)⟩
end
end Go.Proofs.Ytipomlcnmaldkaa
