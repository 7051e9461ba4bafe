/-
  Uk.
-/
import Derived.Test.YthkoolfmealabaaGreatN29
import Derived.Test.YthkoolfmealabaaGreatN21
import Derived.Test.YthkoolfmealabaaGreatN16
namespace Go.Proofs.YthkoolfmealabaaGreat
set_option maxHeartbeats 4000000
open Go.Abs
variable {nO : Nat}
set_option maxRecDepth 100000
attribute [local irreducible] GP ruP nxP acS gst cdP loP invS ent1 ent2 enP caA resV lgP agN
theorem wf_atP {m : List Sp} {k : Nat} (h : WF (-1) m) (hk : k < m.length) : 0 <= (m.getD k eP.d).1 /\ (m.getD k eP.d).1 < (m.getD k eP.d).2 /\ (m.getD k eP.d).2 <= 65536 := by
 rw [getD_at hk]
 have := wf_mem h _ (List.getElem_mem hk)
 omega
theorem allE_tP {m : List Sp} {k : Nat} (h : k < m.length) : (allE (m.take (k + 1))).length = (allE (m.take k)).length + ((m.getD k eP.d).2 - (m.getD k eP.d).1).toNat := allE_take h
abbrev eOne : Int -> List SV := fun x => [.o (.v (.int .i64 x))]
theorem allE_he {m : List Sp} {k j : Nat} (h : k < m.length) (hj : j < ((m.getD k eP.d).2 - (m.getD k eP.d).1).toNat) : ((allE m).map eOne)[(allE (m.take k)).length + j]? = some [SV.o (.v (.int .i64 ((m.getD k eP.d).1 + (j : Int))))] := by
 rw [List.getElem?_map]
 have e : (allE m)[(allE (m.take k)).length + j]? = some ((m.getD k eP.d).1 + (j : Int)) := allE_at h hj
 rw [e]; rfl
theorem allIt_ctr {q qm cm : Nat} {m : List Sp} {tm : TypeId} {mm : Md} (hw : WF (-1) m) (y : Value) (Inv : Nat -> As) (Stop : As) (hT : Takes Tryz.prog nO y ((allE m).map eOne) Inv Stop) :
  Ctr Tryz.prog nO 95 [.o (.v y), .o (.p 1 q 0 0 0)] [.as (Inv 0), .blk 1 q [.s 2 qm 2 0 m.length cm m.isEmpty] 52 .own, vc eP 2 qm m tm mm m.isEmpty] Bool (fun _ => True) (fun _ => .o (.v undef)) (fun b => [.as (cond b (Inv ((allE m).map eOne).length) Stop), .blk 1 q [.s 2 qm 2 0 m.length cm m.isEmpty] 52 .own, vc eP 2 qm m tm mm m.isEmpty]) := by
 refine fs good 100 (fun B => ?_)
 have hml := wf_short hw
 refine go good (fun _ => (o1 (rfl : q = _))) fun _ => ?_
 refine gh (ge_re (l := [.as (Inv 0)]) (l' := [.as (Inv (allE (m.take 0)).length)]) rfl) [0] [] 100 fun _ _ => ?_
 refine lp good ((Nat)) [0, 7, 8] (fun r => [(9, .o (.v (.int .i64 (r : Int))))]) [1, 2] (fun r => [.as (Inv (allE (m.take r)).length)]) 120 (fun r => r <= m.length) (fun r => m.length - r) (0) (Nat.zero_le _) [0] (fun k hx ag102 => ?_)
 have hkm := hx
 refine g0 good fun _ => ?_
 refine cdD good ((k : Int) < (m.length : Int)) (fun h1 => ?_) (fun h1 => ?_)
 ·have hft := wf_atP hw (k := k) (by omega)
  have hak := allE_tP (m := m) (k := k) (by omega)
  refine go good (fun q104 => (oc (nz k) (by omega : (k : Int) < (m.length : Int)) (zfe (show 0 < m.length by omega) : m.isEmpty = false) (rfl : qm = _) (by omega : k < m.length) (rfl : (q104 120) = (q104 120)) (o1 (rfl : [C1.v (.int .i64 ((m.getD k eP.d).1)), .v (.int .i64 ((m.getD k eP.d).2))].all C1.one = true)))) (fun q104 => ?_)
  refine go good (fun _ => (o3 (by decide : (0 : Int) <= 0) (by decide : (0 : Int) < 2) (rfl : (q104 120) = (q104 120)))) fun _ => ?_
  refine sv 5 (v := .o (.v (.int .i64 ((m.getD k eP.d).1)))) (v' := .o (.v (.int .i64 ((m.getD k eP.d).1 + (((0 : Nat)) : Int))))) (congrArg (Value.int .i64) (by omega)) ?_
  refine gh (ge_re (l := [.as (Inv (allE (m.take k)).length)]) (l' := [.as (Inv ((allE (m.take k)).length + 0))]) rfl) [1] [] 121 fun _ _ => ?_
  refine lp good ((Nat)) [0, 4, 7, 8, 9] (fun r => [(5, .o (.v (.int .i64 ((m.getD k eP.d).1 + ((r : Nat) : Int)))))]) [1, 2, 3] (fun r => [.as (Inv ((allE (m.take k)).length + r))]) 141 (fun r => (r : Int) <= (m.getD k eP.d).2 - (m.getD k eP.d).1) (fun r => ((m.getD k eP.d).2 - (m.getD k eP.d).1).toNat - r) (0) (by omega) [0] (fun j hx ag106 => ?_)
  have hjm := hx
  refine go good (fun _ => (o3 (by decide : (0 : Int) <= 1) (by decide : (1 : Int) < 2) (rfl : (q104 120) = (q104 120)))) fun _ => ?_
  refine cdD good ((m.getD k eP.d).1 + ((j : Nat) : Int) < (m.getD k eP.d).2) (fun h2 => ?_) (fun h2 => ?_)
  ·refine g0 good fun _ => ?_
   refine cly good (hT ((allE (m.take k)).length + j) _ (allE_he (by omega) (by omega)) ) [0] [] 141 (fun b _ => ?_)
   refine g0 good fun _ => ?_
   refine cd good (!b) (fun h3 => ?_) (fun h3 => ?_)
   ·have hb : b = false := by cases b; rfl; cases h3
    refine gh (ge_re (l := [.as (cond b (Inv ((allE (m.take k)).length + j + 1)) Stop)]) (l' := [.as (cond false (Inv ((allE m).map eOne).length) Stop)]) (by rw [hb]; rfl)) [0] [] 141 fun _ _ => ?_
    exact rt trivial (false) trivial [0, 2, 3]
   ·have hb : b = true := by cases b; cases h3; rfl
    refine gh (ge_re (l := [.as (cond b (Inv ((allE (m.take k)).length + j + 1)) Stop)]) (l' := [.as (Inv ((allE (m.take k)).length + (j + 1)))]) (by rw [hb]; rfl)) [0] [] 141 fun _ _ => ?_
    refine go good (fun _ => (o2 (by omega : -9223372036854775808 <= ((m.getD k eP.d).1 + ((j : Nat) : Int)) + 1) (by omega : ((m.getD k eP.d).1 + ((j : Nat) : Int)) + 1 < 9223372036854775808))) fun _ => ?_
    refine sv 5 (v := .o (.v (.int .i64 (((m.getD k eP.d).1 + ((j : Nat) : Int)) + 1)))) (v' := .o (.v (.int .i64 ((m.getD k eP.d).1 + ((j + 1 : Nat) : Int))))) (congrArg (Value.int .i64) (by omega)) ?_
    exact ag106 _ _ (j + 1) (by omega) (by omega) [0, 1, 2, 3] (by kernel_rfl) (by kernel_rfl)
  ·have hje : j = ((m.getD k eP.d).2 - (m.getD k eP.d).1).toNat := by omega
   refine gh (ge_re (l := [.as (Inv ((allE (m.take k)).length + j))]) (l' := [.as (Inv (allE (m.take (k + 1))).length)]) (by rw [hak, hje])) [0] [] 141 fun _ _ => ?_
   refine go good (fun _ => (o2 (by omega : -9223372036854775808 <= (k : Int) + 1) (by omega : (k : Int) + 1 < 9223372036854775808))) fun _ => ?_
   exact ag102 _ _ (k + 1) (by first | omega | (simp only; omega)) (by omega) [0, 2, 3] (by kernel_rfl) (by kernel_rfl)
 ·have hke : k = m.length := by omega
  refine gh (ge_re (l := [.as (Inv (allE (m.take k)).length)]) (l' := [.as (cond true (Inv ((allE m).map eOne).length) Stop)]) (by rw [hke, List.take_length, List.length_map]; rfl)) [0] [] 120 fun _ _ => ?_
  exact rt trivial (true) trivial [0, 1, 2]
theorem mall_ctr {qm cm : Nat} {m : List Sp}  : Ctr Tryz.prog nO 79 [.a [.s 1 qm 2 0 m.length cm m.isEmpty]] [] ((Nat)) (fun _ => True) (fun r => .o (.v (.func (.func 95) #[] #[.pointer (some ⟨r, 0, none⟩)]))) (fun r => [.blk 2 r [.s 1 qm 2 0 m.length cm m.isEmpty] 52 .own]) := by
 refine fs good 100 (fun B => ?_)
 refine go good (fun q101 => (o1 (rfl : [C1.s 1 qm 2 0 m.length cm m.isEmpty].all C1.one = true))) (fun q101 => ?_)
 refine g0 good fun _ => ?_
 exact rt trivial ((q101 100)) trivial [0]
theorem sel_lt {m : List Sp} {k : Int} {j : Nat} (h : j < m.length) (hk : k < (m.getD j eP.d).2 - (m.getD j eP.d).1) : sel (m.drop j) k = (m.getD j eP.d).1 + k := by
 rw [sel_drop, dif_pos h]
 rw [getD_at h] at hk ⊢
 rw [if_pos hk]
theorem sel_ge {m : List Sp} {k : Int} {j : Nat} (h : j < m.length) (hk : ¬ k < (m.getD j eP.d).2 - (m.getD j eP.d).1) : sel (m.drop j) k = sel (m.drop (j + 1)) (k - ((m.getD j eP.d).2 - (m.getD j eP.d).1)) := by
 rw [sel_drop, dif_pos h]
 rw [getD_at h] at hk ⊢
 rw [if_neg hk]
theorem msel_ctr {qm cm : Nat} {m : List Sp} {tm : TypeId} {mm : Md} {k : Int} (hw : WF (-1) m) (hk0 : 0 <= k) (hk : k < 9223372036854775808) : Ctr Tryz.prog nO 80 [.a [.s 1 qm 2 0 m.length cm m.isEmpty], .o (.v (.int .i64 k))] [vc eP 1 qm m tm mm m.isEmpty] (Unit) (fun _ => True) (fun r => .o (.v (.int .i64 (sel0 m k)))) (fun r => [vc eP 1 qm m tm mm m.isEmpty]) := by
 refine fs good 100 (fun B => ?_)
 have hml := wf_short hw
 refine go good (fun q101 => (o1 (rfl : [C1.s 1 qm 2 0 m.length cm m.isEmpty].all C1.one = true))) (fun q101 => ?_)
 refine g0 good fun _ => ?_
 refine cdF good (b := decide (k < 0)) (decide_eq_false (by omega)) ?_
 refine go good (fun _ => (o1 (rfl : (q101 100) = (q101 100)))) fun _ => ?_
 refine lp good ((Nat) × (Int)) [11, 12] (fun r => [(1, .o (.v (.int .i64 r.2))), (13, .o (.v (.int .i64 (r.1 : Int))))]) [0, 1] (fun _ => []) 121 (fun r => r.1 <= m.length /\ 0 <= r.2 /\ r.2 <= k /\ sel (m.drop r.1) r.2 = sel m k) (fun r => m.length - r.1) (⟨0, k⟩) ⟨Nat.zero_le _, hk0, Int.le_refl _, rfl⟩ [] (fun ⟨j, r⟩ hx ag104 => ?_)
 try dsimp only at hx
 obtain ⟨hj, hr, hrk, hs⟩ := hx
 refine g0 good fun _ => ?_
 refine cdD good ((j : Int) < (m.length : Int)) (fun h2 => ?_) (fun h2 => ?_)
 ·have hft := wf_atP hw (k := j) (by omega)
  refine go good (fun q106 => (oc (nz j) (by omega : (j : Int) < (m.length : Int)) (zfe (show 0 < m.length by omega) : m.isEmpty = false) (rfl : qm = _) (by omega : j < m.length) (rfl : (q106 121) = (q106 121)) (o1 (rfl : [C1.v (.int .i64 ((m.getD j eP.d).1)), .v (.int .i64 ((m.getD j eP.d).2))].all C1.one = true)))) (fun q106 => ?_)
  refine go good (fun _ => (oc (by decide : (0 : Int) <= 1) (by decide : (1 : Int) < 2) (rfl : (q106 121) = (q106 121)) (by decide : (0 : Int) <= 0) (by decide : (0 : Int) < 2) (rfl : (q106 121) = (q106 121)) (o2 (by omega : -9223372036854775808 <= ((m.getD j eP.d).2) - ((m.getD j eP.d).1)) (by omega : ((m.getD j eP.d).2) - ((m.getD j eP.d).1) < 9223372036854775808)))) fun _ => ?_
  refine g0 good fun _ => ?_
  refine cdD good (r < ((m.getD j eP.d).2) - ((m.getD j eP.d).1)) (fun h3 => ?_) (fun h3 => ?_)
  ·refine go good (fun _ => (o5 (by decide : (0 : Int) <= 0) (by decide : (0 : Int) < 2) (rfl : (q106 121) = (q106 121)) (by omega : -9223372036854775808 <= ((m.getD j eP.d).1) + r) (by omega : ((m.getD j eP.d).1) + r < 9223372036854775808))) fun _ => ?_
   exact rtv trivial (()) trivial [2] (.o (.v (.int .i64 (((m.getD j eP.d).1) + r)))) (congrArg (Value.int .i64) (by unfold sel0; rw [if_neg (by omega), <- hs, sel_lt (by omega) h3]))
  ·refine go good (fun _ => (o2 (by omega : -9223372036854775808 <= r - (((m.getD j eP.d).2) - ((m.getD j eP.d).1))) (by omega : r - (((m.getD j eP.d).2) - ((m.getD j eP.d).1)) < 9223372036854775808))) fun _ => ?_
   refine go good (fun _ => (o2 (by omega : -9223372036854775808 <= (j : Int) + 1) (by omega : (j : Int) + 1 < 9223372036854775808))) fun _ => ?_
   exact ag104 _ _ (⟨j + 1, r - ((m.getD j eP.d).2 - (m.getD j eP.d).1)⟩) (by first | omega | (simp only; omega)) (by dsimp only; exact ⟨by omega, by omega, by omega, by rw [<- hs, sel_ge (by omega) h3]⟩) [1, 2] (by kernel_rfl) (by kernel_rfl)
 ·refine g0 good fun _ => ?_
  exact rtv trivial (()) trivial [1] (.o (.v (.int .i64 (-1)))) (congrArg (Value.int .i64) (by unfold sel0; rw [if_neg (by omega), <- hs, show j = m.length by omega, List.drop_length]; rfl))
theorem mruns_ctr {qm cm : Nat} {m : List Sp} {tm : TypeId} {mm : Md} (hw : WF (-1) m) : Ctr Tryz.prog nO 81 [.a [.s 1 qm 2 0 m.length cm m.isEmpty]] [vc eP 1 qm m tm mm m.isEmpty] ((Nat)) (fun _ => True) (fun r => .o (.s 2 r 2 0 m.length m.length m.isEmpty)) (fun r => [vc eP 2 r m 114 (mdOf m) m.isEmpty, vc eP 1 qm m tm mm m.isEmpty]) := by
 refine fs good 100 (fun B => ?_)
 have hml := wf_short hw
 refine go good (fun q101 => (o1 (rfl : [C1.s 1 qm 2 0 m.length cm m.isEmpty].all C1.one = true))) (fun q101 => ?_)
 refine go good (fun _ => (o1 (rfl : (q101 100) = (q101 100)))) fun _ => ?_
 refine cl good (clonep_ctr (q := qm) (c := cm) (z := m.isEmpty) (xs := m) (t := tm) (m := mm) (fun h => List.length_eq_zero_iff.2 (List.isEmpty_iff.1 h)) (by omega)) [1] [(2, 101)] 102 (fun q2103 _ => ?_)
 refine g0 good fun _ => ?_
 exact rt trivial (q2103) trivial [0, 1]
theorem runs_up {xs : List Int} {i : Nat} (h : 0 < i) (e : xs.getD i eI.d = xs.getD ((i : Int) - 1).toNat eI.d + 1) : (runsTo xs i).set ((((runsTo xs i).length : Nat) : Int) - 1).toNat (((runsTo xs i).getD ((((runsTo xs i).length : Nat) : Int) - 1).toNat eP.d).1, ((runsTo xs i).getD ((((runsTo xs i).length : Nat) : Int) - 1).toNat eP.d).2 + 1) = runsTo xs (i + 1) := by
 have h1 : ((i : Int) - 1).toNat = i - 1 := by omega
 have h2 : ((((runsTo xs i).length : Nat) : Int) - 1).toNat = (runsTo xs i).length - 1 := by have := runsTo_pos xs i h; omega
 rw [h1] at e
 rw [h2, runsTo_succ, if_pos ⟨h, e⟩]; rfl
theorem runs_new {xs : List Int} {i : Nat} (e : ¬ (0 < i /\ xs.getD i eI.d = xs.getD ((i : Int) - 1).toNat eI.d + 1)) : runsTo xs (i + 1) = runsTo xs i ++ [(xs.getD i eI.d, xs.getD i eI.d + 1)] := by
 rw [runsTo_succ]
 refine if_neg fun h => e ⟨h.1, ?_⟩
 have h1 : ((i : Int) - 1).toNat = i - 1 := by omega
 rw [h1]; exact h.2
theorem runs_lst {xs : List Int} {i : Nat} (h : 0 < i) : 0 < (runsTo xs i).length /\ ((runsTo xs i).getD ((((runsTo xs i).length : Nat) : Int) - 1).toNat eP.d).2 = xs.getD (i - 1) eI.d + 1 := by
 have h3 := runsTo_pos xs i h
 have h2 : ((((runsTo xs i).length : Nat) : Int) - 1).toNat = (runsTo xs i).length - 1 := by omega
 rw [h2]
 exact ⟨h3, runsTo_last xs i h⟩
theorem sruns_ctr {qx cx : Nat} {zx : Bool} {xs : List Int} {tx : TypeId} {mx : Md} (hzx : zx = true -> xs.length = 0) (hlx : xs.length < 1000000) (hb : ∀ j, xs.getD j eI.d <= 65536 /\ 0 <= xs.getD j eI.d) : Ctr Tryz.prog nO 82 [.o (.s 1 qx 1 0 xs.length cx zx)] [vc eI 1 qx xs tx mx zx] ((Nat)) (fun _ => True) (fun r => .o (.s 2 r 2 0 ((runsTo xs xs.length).length) ((runsTo xs xs.length).length) ((runsTo xs xs.length).isEmpty))) (fun r => [vc eP 2 r (runsTo xs xs.length) 114 .grown ((runsTo xs xs.length).isEmpty), vc eI 1 qx xs tx mx zx]) := by
 refine fs good 100 (fun B => ?_)
 refine g0 good fun _ => ?_
 refine g0 good fun _ => ?_
 refine g0 good fun _ => ?_
 refine gh (nil_vec 100 2 eP.f eP.d 114 .grown) [] [] 101 fun _ _ => ?_
 refine sv 3 (v := .o (.v (.slice none 0 0))) (v' := .o (.s 100 0 2 0 ((runsTo xs 0).length) ((runsTo xs 0).length) ((runsTo xs 0).isEmpty))) rfl ?_
 refine lp good ((Nat) × (Nat)) [0] (fun r => [(4, .o (.v (.int .i64 (r.1 : Int)))), (3, .o (.s 100 r.2 2 0 ((runsTo xs r.1).length) ((runsTo xs r.1).length) ((runsTo xs r.1).isEmpty)))]) [1] (fun r => [vc eP 100 r.2 (runsTo xs r.1) 114 .grown ((runsTo xs r.1).isEmpty)]) 121 (fun r => r.1 <= xs.length) (fun r => xs.length - r.1) (⟨0, 0⟩) (Nat.zero_le _) [0] (fun ⟨i, pq⟩ hx ag104 => ?_)
 try dsimp only at hx
 have hi := hx
 have hrl := runsTo_len xs i
 have hb1 := hb i
 have hb2 := hb ((i : Int) - 1).toNat
 have hb3 := hb (i - 1)
 refine g0 good fun _ => ?_
 refine cdD good ((i : Int) < (xs.length : Int)) (fun h1 => ?_) (fun h1 => ?_)
 ·refine go good (fun _ => (o6 (fun (he : (decide ((i : Int) > 0)) = true) => have he : (i : Int) > 0 := (by simpa using he); (o3 (nz i) (by omega : (i : Int) < (xs.length : Int)) (zf hzx (show 0 < xs.length by omega) : zx = false))) (fun (he : (decide ((i : Int) > 0)) = true) => have he : (i : Int) > 0 := (by simpa using he); (o2 (rfl : qx = _) (by omega : i < xs.length))) (fun (he : (decide ((i : Int) > 0)) = true) => have he : (i : Int) > 0 := (by simpa using he); (o2 (by omega : -9223372036854775808 <= (i : Int) - 1) (by omega : (i : Int) - 1 < 9223372036854775808))) (fun (he : (decide ((i : Int) > 0)) = true) => have he : (i : Int) > 0 := (by simpa using he); (o3 (by omega : (0 : Int) <= (i : Int) - 1) (by omega : (i : Int) - 1 < (xs.length : Int)) (zf hzx (show 0 < xs.length by omega) : zx = false))) (fun (he : (decide ((i : Int) > 0)) = true) => have he : (i : Int) > 0 := (by simpa using he); (o2 (rfl : qx = _) (by omega : (((i : Int) - 1).toNat) < xs.length))) (fun (he : (decide ((i : Int) > 0)) = true) => have he : (i : Int) > 0 := (by simpa using he); (o2 (by omega : -9223372036854775808 <= (xs.getD (((i : Int) - 1).toNat) eI.d) + 1) (by omega : (xs.getD (((i : Int) - 1).toNat) eI.d) + 1 < 9223372036854775808))))) fun _ => ?_
  refine cd good (and (decide ((i : Int) > 0)) ((xs.getD i eI.d) == (xs.getD (((i : Int) - 1).toNat) eI.d) + 1)) (fun h2 => ?_) (fun h2 => ?_)
  ·have h2 : ((i : Int) > 0) /\ (((xs.getD i eI.d) == (xs.getD (((i : Int) - 1).toNat) eI.d) + 1) = true) := by simpa using h2
   have h2b := eq_of_beq h2.2
   obtain ⟨hp1, hp2⟩ := runs_lst (xs := xs) (i := i) (by omega)
   refine go good (fun _ => (oc (by omega : -9223372036854775808 <= (((runsTo xs i).length : Nat) : Int) - 1) (by omega : (((runsTo xs i).length : Nat) : Int) - 1 < 9223372036854775808) (by omega : (0 : Int) <= (((runsTo xs i).length : Nat) : Int) - 1) (by omega : (((runsTo xs i).length : Nat) : Int) - 1 < (((runsTo xs i).length : Nat) : Int)) (zfe (show 0 < (runsTo xs i).length by omega) : (runsTo xs i).isEmpty = false) (by decide : (0 : Int) <= 1) (oc (by decide : (1 : Int) < 2) (rfl : pq = _) (by omega : (((((runsTo xs i).length : Nat) : Int) - 1).toNat) < (runsTo xs i).length) (by omega : -9223372036854775808 <= (((runsTo xs i).getD (((((runsTo xs i).length : Nat) : Int) - 1).toNat) eP.d).2) + 1) (by omega : (((runsTo xs i).getD (((((runsTo xs i).length : Nat) : Int) - 1).toNat) eP.d).2) + 1 < 9223372036854775808) (by omega : (0 : Int) <= (((runsTo xs i).length : Nat) : Int) - 1) (o4 (by omega : (((runsTo xs i).length : Nat) : Int) - 1 < (((runsTo xs i).length : Nat) : Int)) (zfe (show 0 < (runsTo xs i).length by omega) : (runsTo xs i).isEmpty = false) (by decide : (0 : Int) <= 1) (by decide : (1 : Int) < 2))))) fun _ => ?_
   refine vst good eP (runsTo xs i) (((runsTo xs i).getD ((((runsTo xs i).length : Nat) : Int) - 1).toNat eP.d).1, ((runsTo xs i).getD ((((runsTo xs i).length : Nat) : Int) - 1).toNat eP.d).2 + 1) ((runsTo xs i).set (((((runsTo xs i).length : Nat) : Int) - 1).toNat) (((runsTo xs i).getD ((((runsTo xs i).length : Nat) : Int) - 1).toNat eP.d).1, ((runsTo xs i).getD ((((runsTo xs i).length : Nat) : Int) - 1).toNat eP.d).2 + 1)) 100 100 pq (((((runsTo xs i).length : Nat) : Int) - 1).toNat) 1 114 .grown ((runsTo xs i).isEmpty) [.v (.int .i64 ((((runsTo xs i).getD (((((runsTo xs i).length : Nat) : Int) - 1).toNat) eP.d).2) + 1))] [0] (by omega) (zfe (show 0 < (runsTo xs i).length by omega)) rfl (Nat.le_of_ble_eq_true rfl) rfl ?_
   refine gh (ge_re (l := [vc eP 100 pq ((runsTo xs i).set (((((runsTo xs i).length : Nat) : Int) - 1).toNat) (((runsTo xs i).getD ((((runsTo xs i).length : Nat) : Int) - 1).toNat eP.d).1, ((runsTo xs i).getD ((((runsTo xs i).length : Nat) : Int) - 1).toNat eP.d).2 + 1)) 114 .grown ((runsTo xs i).isEmpty)]) (l' := [vc eP 100 pq (runsTo xs (i + 1)) 114 .grown ((runsTo xs (i + 1)).isEmpty)]) (by rw [<- runs_up (by omega) h2b, <- emp_put])) [0] [] 121 fun _ _ => ?_
   refine sv 3 (v := .o (.s 100 pq 2 0 ((runsTo xs i).length) ((runsTo xs i).length) ((runsTo xs i).isEmpty))) (v' := .o (.s 100 pq 2 0 ((runsTo xs (i + 1)).length) ((runsTo xs (i + 1)).length) ((runsTo xs (i + 1)).isEmpty))) (by rw [<- runs_up (by omega) h2b, List.length_set, <- emp_put]) ?_
   refine go good (fun _ => (o2 (by omega : -9223372036854775808 <= (i : Int) + 1) (by omega : (i : Int) + 1 < 9223372036854775808))) fun _ => ?_
   exact ag104 _ _ (⟨i + 1, pq⟩) (by first | omega | (simp only; omega)) (by dsimp only; exact (by omega)) [0, 1] (by kernel_rfl) (by kernel_rfl)
  ·have h2 : ¬ (((i : Int) > 0) /\ (((xs.getD i eI.d) == (xs.getD (((i : Int) - 1).toNat) eI.d) + 1) = true)) := by simpa using h2
   have h2 : ¬ (0 < i /\ xs.getD i eI.d = xs.getD ((i : Int) - 1).toNat eI.d + 1) := fun h => h2 ⟨by omega, by rw [h.2]; exact beq_self_eq_true _⟩
   refine go good (fun q109 => (oc (nz i) (by omega : (i : Int) < (xs.length : Int)) (zf hzx (show 0 < xs.length by omega) : zx = false) (rfl : qx = _) (by omega : i < xs.length) (nz i) (oc (by omega : (i : Int) < (xs.length : Int)) (zf hzx (show 0 < xs.length by omega) : zx = false) (rfl : qx = _) (by omega : i < xs.length) (by omega : -9223372036854775808 <= (xs.getD i eI.d) + 1) (by omega : (xs.getD i eI.d) + 1 < 9223372036854775808) (o3 (rfl : [C1.v (.int .i64 (xs.getD i eI.d))].all C1.one = true) (rfl : [C1.v (.int .i64 ((xs.getD i eI.d) + 1))].all C1.one = true) (rfl : [C1.v (.int .i64 (xs.getD i eI.d)), .v (.int .i64 ((xs.getD i eI.d) + 1))].all C1.one = true))))) (fun q109 => ?_)
   refine apd good eP (runsTo xs i) [(xs.getD i eI.d, xs.getD i eI.d + 1)] (runsTo xs (i + 1)) 100 pq .grown ((runsTo xs i).isEmpty) ((runsTo xs (i + 1)).isEmpty) (.blk 121 (q109 121) [.v (.int .i64 (xs.getD i eI.d)), .v (.int .i64 ((xs.getD i eI.d) + 1))] 114 .own) (q109 121) 0 1 1 false 122 [1, 0] 123 114 (fun h _ => ne_of h) (by simp only [List.length_cons, List.length_nil]; omega) (src_one rfl) (by rw [runs_new h2]; simp) (runs_new h2) (fun q110 => ?_)
   refine g0 good fun _ => ?_
   refine go good (fun _ => (o2 (by omega : -9223372036854775808 <= (i : Int) + 1) (by omega : (i : Int) + 1 < 9223372036854775808))) fun _ => ?_
   exact ag104 _ _ (⟨i + 1, q110⟩) (by first | omega | (simp only; omega)) (by dsimp only; exact (by omega)) [0, 2] (by kernel_rfl) (by kernel_rfl)
 ·have hie : i = xs.length := by omega
  refine g0 good fun _ => ?_
  refine gh (ge_re (l := [vc eP 100 pq (runsTo xs i) 114 .grown ((runsTo xs i).isEmpty)]) (l' := [vc eP 100 pq (runsTo xs xs.length) 114 .grown ((runsTo xs xs.length).isEmpty)]) (by rw [hie])) [0] [] 121 fun _ _ => ?_
  exact rtv trivial (pq) trivial [0, 1] (.o (.s 100 pq 2 0 ((runsTo xs i).length) ((runsTo xs i).length) ((runsTo xs i).isEmpty))) (by rw [hie]; rfl)
end Go.Proofs.YthkoolfmealabaaGreat
namespace Go.Proofs.YthkoolfmealabaaGreat
set_option maxHeartbeats 4000000
open Go.Abs
variable {nO : Nat}
set_option maxRecDepth 100000
attribute [local irreducible] GP ruP nxP acS gst cdP loP invS ent1 ent2 enP caA resV lgP agN
theorem same1 {m : List Sp} (hw : WF (-1) m) : or ((((allE m).length : Nat) : Int) != (((allE m).length : Nat) : Int)) (count m != (((allE m).length : Nat) : Int)) = false := by
 rw [count_all hw]; simp
theorem same2 {m : List Sp} {i : Nat} (hw : WF (-1) m) (hi : i < (allE m).length) : or (or (or ((allE m).getD i 0 != (allE m).getD i 0) (sel0 m (i : Int) != (allE m).getD i 0)) (rank m ((allE m).getD i 0) != (i : Int))) (!(has m ((allE m).getD i 0))) = false := by
 rw [sel0_all hw hi, (at_all hw hi).1, (at_all hw hi).2]; simp
theorem msame_ctr {qm cm : Nat} {m : List Sp} {tm : TypeId} {mm : Md} {qx cx : Nat} {zx : Bool} {tx : TypeId} {mx : Md} (hw : WF (-1) m) (hzx : zx = true -> (allE m).length = 0) : Ctr Tryz.prog nO 60 [.a [.s 1 qm 2 0 m.length cm m.isEmpty], .o (.s 3 qx 1 0 ((allE m).length) cx zx)] [vc eP 1 qm m tm mm m.isEmpty, vc eI 3 qx (allE m) tx mx zx] (Unit) (fun _ => True) (fun r => .o (.v (.bool true))) (fun r => [vc eP 1 qm m tm mm m.isEmpty, vc eI 3 qx (allE m) tx mx zx]) := by
 refine fs good 100 (fun B => ?_)
 have hal := all_len hw
 have hml := wf_short hw
 refine go good (fun q101 => (o2 (rfl : [C1.s 1 qm 2 0 m.length cm m.isEmpty].all C1.one = true) (rfl : [C1.s 3 qx 1 0 ((allE m).length) cx zx].all C1.one = true))) (fun q101 => ?_)
 refine g0 good (fun q102 => ?_)
 refine go good (fun _ => (o1 (rfl : (q101 100) = (q101 100)))) fun _ => ?_
 refine cl good (mall_ctr (qm := qm) (cm := cm) (m := m)) [] [(2, 104)] 105 (fun qa104 _ => ?_)
 refine g0 good fun _ => ?_
 refine g0 good fun _ => ?_
 refine cdF good rfl ?_
 refine g0 good fun _ => ?_
 refine gh (nil_vec 300 1 eI.f eI.d 3 .grown) [] [] 105 fun _ _ => ?_
 refine gh (ge_re (l := [.blk 103 (q102 103) [.v (.slice none 0 0)] 64 .own]) (l' := [.blk 103 (q102 103) [.s 300 0 1 0 (((allE m).take 0).length) (((allE m).take 0).length) (((allE m).take 0).isEmpty)] 64 .own]) (by rfl)) [2] [] 105 fun _ _ => ?_
 refine rg good (J := [.blk 104 qa104 [.s 1 qm 2 0 m.length cm m.isEmpty] 52 .own, vc eP 1 qm m tm mm m.isEmpty]) (allE m) eOne eI.d ((Nat)) Unit (fun k r => [.blk 103 (q102 103) [.s 300 r 1 0 (((allE m).take k).length) (((allE m).take k).length) (((allE m).take k).isEmpty)] 64 .own, vc eI 300 r ((allE m).take k) 3 .grown (((allE m).take k).isEmpty), .blk 102 (q101 102) [.v (.bool false)] 4 .own, .blk 101 (q101 101) [.s 3 qx 1 0 ((allE m).length) cx zx] 104 .own, .blk 100 (q101 100) [.s 1 qm 2 0 m.length cm m.isEmpty] 52 .own, vc eI 3 qx (allE m) tx mx zx]) (fun _ _ => True) (fun _ => .ret) (fun _ => False) (fun _ => []) (0) trivial [2, 6] 125 1 (hands_of [.o (.p 1 qa104 0 0 0)] ⟨rfl, rfl, rfl⟩ rfl (fun y Inv Stop _ hT => allIt_ctr hw y Inv Stop hT)) (fun _ => .inl rfl) (fun B l k x => ?_) (fun B l k qg hk hx => ?_) (fun qg r0 hx => ?_) (fun _ r0 hy => ?_)
 ·refine g0 good fun _ => ?_
  exact rgE
 ·have htk : ((allE m).take k).length = k := by rw [List.length_take]; omega
  refine go good (fun q108 => (o2 (rfl : (q102 103) = (q102 103)) (rfl : [C1.v (.int .i64 ((allE m).getD k eI.d))].all C1.one = true))) (fun q108 => ?_)
  refine apd good eI ((allE m).take k) [((allE m).getD k eI.d)] ((allE m).take (k + 1)) 300 qg .grown (((allE m).take k).isEmpty) (((allE m).take (k + 1)).isEmpty) (.blk 125 (q108 125) [.v (.int .i64 ((allE m).getD k eI.d))] 3 .own) (q108 125) 0 1 1 false 126 [2, 0] 127 3 (fun h _ => ne_of h) (by simp only [List.length_cons, List.length_nil]; omega) (src_one rfl) (by rw [take_snoc (d := eI.d) hk]; simp) (take_snoc hk) (fun q109 => ?_)
  refine go good (fun _ => (o2 (rfl : (q102 103) = (q102 103)) (rfl : [C1.s 126 q109 1 0 (((allE m).take (k + 1)).length) (((allE m).take (k + 1)).length) (((allE m).take (k + 1)).isEmpty)].all C1.one = true))) fun _ => ?_
  refine go good (fun _ => (o2 (rfl : (q102 103) = (q102 103)) (rfl : (q101 101) = (q101 101)))) fun _ => ?_
  refine cdF good (b := decide (((((allE m).take (k + 1)).length : Nat) : Int) > (((allE m).length : Nat) : Int))) (decide_eq_false (by rw [List.length_take]; omega)) ?_
  exact rgN (q109) trivial [2, 0, 3, 4, 5, 6]
 ·have hke : ((allE m).take ((allE m).map eOne).length) = (allE m) := by rw [List.length_map, List.take_length]
  refine gh (ge_re (l := [vc eI 300 qg ((allE m).take (((allE m).map eOne).length)) 3 .grown (((allE m).take (((allE m).map eOne).length)).isEmpty)]) (l' := [vc eI 300 qg (allE m) 3 .grown ((allE m).isEmpty)]) (by rw [hke])) [2] [] 125 fun _ _ => ?_
  refine gh (ge_re (l := [.blk 103 (q102 103) [.s 300 qg 1 0 (((allE m).take (((allE m).map eOne).length)).length) (((allE m).take (((allE m).map eOne).length)).length) (((allE m).take (((allE m).map eOne).length)).isEmpty)] 64 .own]) (l' := [.blk 103 (q102 103) [.s 300 qg 1 0 ((allE m).length) ((allE m).length) ((allE m).isEmpty)] 64 .own]) (by rw [hke])) [2] [] 125 fun _ _ => ?_
  refine go good (fun _ => (o3 (rfl : (q102 103) = (q102 103)) (rfl : (q101 101) = (q101 101)) (fun (he : (!((((allE m).length : Nat) : Int) != (((allE m).length : Nat) : Int))) = true) => have he : ¬ ((((allE m).length : Nat) : Int) ≠ (((allE m).length : Nat) : Int)) := (by simp); (o1 (rfl : (q101 100) = (q101 100)))))) fun _ => ?_
  refine clm good (count_ctr (qa := qm) (ca := cm) (a := m) (ta := tm) (ma := mm) (by assumption)) [8] trivial ?_
  refine go good (fun _ => (o1 (fun (he : (!((((allE m).length : Nat) : Int) != (((allE m).length : Nat) : Int))) = true) => have he : ¬ ((((allE m).length : Nat) : Int) ≠ (((allE m).length : Nat) : Int)) := (by simp); (o1 (rfl : (q101 101) = (q101 101)))))) fun _ => ?_
  refine cdF good (b := or ((((allE m).length : Nat) : Int) != (((allE m).length : Nat) : Int)) (count m != (((allE m).length : Nat) : Int))) (same1 hw) ?_
  refine g0 good fun _ => ?_
  refine lp good ((Nat)) [2, 3, 4, 5] (fun r => [(8, .o (.v (.int .i64 (r : Int))))]) [0, 1, 2, 3, 4, 5, 6, 7, 8] (fun _ => []) 145 (fun r => r <= (allE m).length) (fun r => (allE m).length - r) (0) (Nat.zero_le _) [] (fun i hx ag115 => ?_)
  refine go good (fun _ => (o1 (rfl : (q101 101) = (q101 101)))) fun _ => ?_
  refine cdD good ((i : Int) < (((allE m).length : Nat) : Int)) (fun h4 => ?_) (fun h4 => ?_)
  ·refine go good (fun _ => (oc (rfl : (q102 103) = (q102 103)) (nz i) (by omega : (i : Int) < (((allE m).length : Nat) : Int)) (zfe (show 0 < (allE m).length by omega) : (allE m).isEmpty = false) (rfl : qg = _) (by omega : i < (allE m).length) (oc (rfl : (q101 101) = (q101 101)) (nz i) (by omega : (i : Int) < (((allE m).length : Nat) : Int)) (zf hzx (show 0 < (allE m).length by omega) : zx = false) (rfl : qx = _) (by omega : i < (allE m).length) (o1 (fun (he : (!(((allE m).getD i eI.d) != ((allE m).getD i eI.d))) = true) => have he : ¬ (((allE m).getD i eI.d) ≠ ((allE m).getD i eI.d)) := (by simp); (o1 (rfl : (q101 100) = (q101 100)))))))) fun _ => ?_
   refine clm good (msel_ctr (qm := qm) (cm := cm) (m := m) (tm := tm) (mm := mm) (k := (i : Int)) (by assumption) (by omega) (by omega)) [0] trivial ?_
   refine go good (fun _ => (oc (fun (he : (!(((allE m).getD i eI.d) != ((allE m).getD i eI.d))) = true) => have he : ¬ (((allE m).getD i eI.d) ≠ ((allE m).getD i eI.d)) := (by simp); (o1 (rfl : (q101 101) = (q101 101)))) (fun (he : (!(((allE m).getD i eI.d) != ((allE m).getD i eI.d))) = true) => have he : ¬ (((allE m).getD i eI.d) ≠ ((allE m).getD i eI.d)) := (by simp); (o3 (nz i) (by omega : (i : Int) < (((allE m).length : Nat) : Int)) (zf hzx (show 0 < (allE m).length by omega) : zx = false))) (fun (he : (!(((allE m).getD i eI.d) != ((allE m).getD i eI.d))) = true) => have he : ¬ (((allE m).getD i eI.d) ≠ ((allE m).getD i eI.d)) := (by simp); (o2 (rfl : qx = _) (by omega : i < (allE m).length))) (fun (he : (!(or (((allE m).getD i eI.d) != ((allE m).getD i eI.d)) ((sel0 m (i : Int)) != ((allE m).getD i eI.d)))) = true) => have he : ¬ ((((allE m).getD i eI.d) ≠ ((allE m).getD i eI.d)) ∨ ((sel0 m (i : Int)) ≠ ((allE m).getD i eI.d))) := (by simpa using he); (o1 (rfl : (q101 100) = (q101 100)))) (fun (he : (!(or (((allE m).getD i eI.d) != ((allE m).getD i eI.d)) ((sel0 m (i : Int)) != ((allE m).getD i eI.d)))) = true) => have he : ¬ ((((allE m).getD i eI.d) ≠ ((allE m).getD i eI.d)) ∨ ((sel0 m (i : Int)) ≠ ((allE m).getD i eI.d))) := (by simpa using he); (o1 (rfl : (q101 101) = (q101 101)))) (fun (he : (!(or (((allE m).getD i eI.d) != ((allE m).getD i eI.d)) ((sel0 m (i : Int)) != ((allE m).getD i eI.d)))) = true) => have he : ¬ ((((allE m).getD i eI.d) ≠ ((allE m).getD i eI.d)) ∨ ((sel0 m (i : Int)) ≠ ((allE m).getD i eI.d))) := (by simpa using he); (o3 (nz i) (by omega : (i : Int) < (((allE m).length : Nat) : Int)) (zf hzx (show 0 < (allE m).length by omega) : zx = false))) (o1 (fun (he : (!(or (((allE m).getD i eI.d) != ((allE m).getD i eI.d)) ((sel0 m (i : Int)) != ((allE m).getD i eI.d)))) = true) => have he : ¬ ((((allE m).getD i eI.d) ≠ ((allE m).getD i eI.d)) ∨ ((sel0 m (i : Int)) ≠ ((allE m).getD i eI.d))) := (by simpa using he); (o2 (rfl : qx = _) (by omega : i < (allE m).length)))))) fun _ => ?_
   refine clm good (rank_ctr (qa := qm) (ca := cm) (a := m) (ta := tm) (ma := mm) (i := ((allE m).getD i eI.d)) (by assumption)) [0] trivial ?_
   refine go good (fun _ => (o4 (fun (he : (!(or (or (((allE m).getD i eI.d) != ((allE m).getD i eI.d)) ((sel0 m (i : Int)) != ((allE m).getD i eI.d))) (rank m ((allE m).getD i eI.d) != (i : Int)))) = true) => have he : ¬ (((((allE m).getD i eI.d) ≠ ((allE m).getD i eI.d)) ∨ ((sel0 m (i : Int)) ≠ ((allE m).getD i eI.d))) ∨ ((rank m ((allE m).getD i eI.d) != (i : Int)) = true)) := (by simpa using he); (o1 (rfl : (q101 100) = (q101 100)))) (fun (he : (!(or (or (((allE m).getD i eI.d) != ((allE m).getD i eI.d)) ((sel0 m (i : Int)) != ((allE m).getD i eI.d))) (rank m ((allE m).getD i eI.d) != (i : Int)))) = true) => have he : ¬ (((((allE m).getD i eI.d) ≠ ((allE m).getD i eI.d)) ∨ ((sel0 m (i : Int)) ≠ ((allE m).getD i eI.d))) ∨ ((rank m ((allE m).getD i eI.d) != (i : Int)) = true)) := (by simpa using he); (o1 (rfl : (q101 101) = (q101 101)))) (fun (he : (!(or (or (((allE m).getD i eI.d) != ((allE m).getD i eI.d)) ((sel0 m (i : Int)) != ((allE m).getD i eI.d))) (rank m ((allE m).getD i eI.d) != (i : Int)))) = true) => have he : ¬ (((((allE m).getD i eI.d) ≠ ((allE m).getD i eI.d)) ∨ ((sel0 m (i : Int)) ≠ ((allE m).getD i eI.d))) ∨ ((rank m ((allE m).getD i eI.d) != (i : Int)) = true)) := (by simpa using he); (o3 (nz i) (by omega : (i : Int) < (((allE m).length : Nat) : Int)) (zf hzx (show 0 < (allE m).length by omega) : zx = false))) (fun (he : (!(or (or (((allE m).getD i eI.d) != ((allE m).getD i eI.d)) ((sel0 m (i : Int)) != ((allE m).getD i eI.d))) (rank m ((allE m).getD i eI.d) != (i : Int)))) = true) => have he : ¬ (((((allE m).getD i eI.d) ≠ ((allE m).getD i eI.d)) ∨ ((sel0 m (i : Int)) ≠ ((allE m).getD i eI.d))) ∨ ((rank m ((allE m).getD i eI.d) != (i : Int)) = true)) := (by simpa using he); (o2 (rfl : qx = _) (by omega : i < (allE m).length))))) fun _ => ?_
   refine clm good (has_ctr (qa := qm) (ca := cm) (a := m) (ta := tm) (ma := mm) (i := ((allE m).getD i eI.d)) (by omega)) [0] trivial ?_
   refine g0 good fun _ => ?_
   refine cdF good (b := or (or (or (((allE m).getD i eI.d) != ((allE m).getD i eI.d)) ((sel0 m (i : Int)) != ((allE m).getD i eI.d))) (rank m ((allE m).getD i eI.d) != (i : Int))) (!(has m ((allE m).getD i eI.d)))) (same2 hw (by omega)) ?_
   refine go good (fun _ => (o2 (by omega : -9223372036854775808 <= (i : Int) + 1) (by omega : (i : Int) + 1 < 9223372036854775808))) fun _ => ?_
   exact ag115 _ _ (i + 1) (by first | omega | (simp only; omega)) (by omega) [0, 1, 2, 3, 4, 5, 6, 7, 8] (by kernel_rfl) (by kernel_rfl)
  ·refine go good (fun _ => (o1 (rfl : (q101 100) = (q101 100)))) fun _ => ?_
   refine cl good (mruns_ctr (qm := qm) (cm := cm) (m := m) (tm := tm) (mm := mm) (by assumption)) [0] [(2, 145)] 146 (fun q2123 _ => ?_)
   refine go good (fun _ => (o1 (rfl : (q101 101) = (q101 101)))) fun _ => ?_
   refine cl good (sruns_ctr (qx := qx) (cx := cx) (zx := zx) (xs := (allE m)) (tx := tx) (mx := mx) hzx (by omega) (all_rng hw)) [8] [(1, 3), (2, 146)] 147 (fun q2125 _ => ?_)
   refine gh (ge_re (l := [vc eP 146 q2125 (runsTo (allE m) (allE m).length) 114 .grown ((runsTo (allE m) (allE m).length).isEmpty)]) (l' := [vc eP 146 q2125 m 114 .grown m.isEmpty]) (by rw [runs_all hw])) [0] [] 147 fun _ _ => ?_
   refine sv 86 (v := .o (.s 146 q2125 2 0 ((runsTo (allE m) (allE m).length).length) ((runsTo (allE m) (allE m).length).length) ((runsTo (allE m) (allE m).length).isEmpty))) (v' := .o (.s 146 q2125 2 0 m.length m.length m.isEmpty)) (by rw [runs_all hw]) ?_
   refine g0 good fun _ => ?_
   refine g0 good fun _ => ?_
   refine lp good ((Nat)) [4, 9, 10] (fun r => [(11, .o (.v (.int .i64 (r : Int))))]) [0, 1, 2, 3, 4, 5, 6, 7, 8, 9, 10] (fun _ => []) 167 (fun r => r <= m.length) (fun r => m.length - r) (0) (Nat.zero_le _) [] (fun i hx ag128 => ?_)
   refine g0 good fun _ => ?_
   refine cd good (and (decide ((i : Int) < (m.length : Int))) (decide ((i : Int) < (m.length : Int)))) (fun h6 => ?_) (fun h6 => ?_)
   ·have h6 : ((i : Int) < (m.length : Int)) /\ ((i : Int) < (m.length : Int)) := by simpa using h6
    refine go good (fun _ => (oc (nz i) (by omega : (i : Int) < (m.length : Int)) (zfe (show 0 < m.length by omega) : m.isEmpty = false) (rfl : q2123 = _) (by omega : i < m.length) (nz i) (o4 (by omega : (i : Int) < (m.length : Int)) (zfe (show 0 < m.length by omega) : m.isEmpty = false) (rfl : q2125 = _) (by omega : i < m.length)))) fun _ => ?_
    refine cdF good (b := !(((m.getD i eP.d).1) == ((m.getD i eP.d).1) && ((m.getD i eP.d).2) == ((m.getD i eP.d).2))) (by simp) ?_
    refine go good (fun _ => (o2 (by omega : -9223372036854775808 <= (i : Int) + 1) (by omega : (i : Int) + 1 < 9223372036854775808))) fun _ => ?_
    exact ag128 _ _ (i + 1) (by first | omega | (simp only; omega)) (by omega) [0, 1, 2, 3, 4, 5, 6, 7, 8, 9, 10] (by kernel_rfl) (by kernel_rfl)
   ·have h6 : ¬ (((i : Int) < (m.length : Int)) /\ ((i : Int) < (m.length : Int))) := by simpa using h6
    refine go good (fun _ => (o2 (rfl : (q101 102) = (q101 102)) (rfl : [C1.cb ((m.length : Int) == (m.length : Int))].all C1.one = true))) fun _ => ?_
    refine rtd r0 6 (fun B => ?_)
    exact rtv (o1 (rfl : (q101 102) = (q101 102))) (()) trivial [3, 1] (.o (.cb ((m.length : Int) == (m.length : Int)))) (congrArg Value.bool (by simp))
 ·exact hy.elim
end Go.Proofs.YthkoolfmealabaaGreat
namespace Go.Proofs.YthkoolfmealabaaGreat
open Go.Abs
variable {nO : Nat}
theorem col_at {x : Xr} {c i : Nat} (h : i < x.ws.length) : (x.s.col c)[i]? = some (xv x c i) := by
 show ((x.ws.map Prod.snd).map fun r => r.2.getD c eV.d)[i]? = _
 rw [List.map_map, List.getElem?_map, List.getElem?_eq_getElem h]
 unfold xv
 rw [getD_at h]; rfl
theorem col_len {x : Xr} {c : Nat} : (x.s.col c).length = x.ws.length := by
 show ((x.ws.map Prod.snd).map fun r => r.2.getD c eV.d).length = _
 rw [List.length_map, List.length_map]
theorem cnt_zero {l : List Va} {t : ByteArray} : cntT l t = 0 ↔ ∀ v ∈ l, isT t v = false := by
 unfold cntT
 rw [List.countP_eq_zero]
 exact forall₂_congr fun v _ => by simp
theorem eqV_isT {a v : Va} (hv : v.k = 2) (hn : v.n = 0) (ha : a.k = 2 -> a.n = 0) : eqV a v = isT v.s a := by
 unfold eqV isT
 rw [hv, hn]
 by_cases h : a.k = 2
 ·rw [ha h]; simp [h]
 ·have e : (a.k == 2) = false := beq_eq_false_iff_ne.2 h
  simp [e, h]
theorem unB_cnt {x : Xr} {c i : Nat} (hi : i < x.ws.length) (hok : ∀ j, j < x.ws.length -> (xv x c j).k = 2 -> (xv x c j).n = 0) : unB x c i i = (decide ((xv x c i).k = 2) && decide (cntT ((x.s.col c).take i) (xv x c i).s = 0)) := by
 unfold unB
 by_cases h2 : (xv x c i).k = 2
 ·have e1 : ((xv x c i).k == 2) = true := beq_iff_eq.2 h2
  rw [e1, decide_eq_true h2, Bool.and_true, Bool.true_and]
  rw [Bool.eq_iff_iff, List.all_eq_true, decide_eq_true_eq, cnt_zero]
  constructor
  ·intro h v hv
   obtain ⟨j, hj, e⟩ := List.mem_take_iff_getElem.1 hv
   have hj2 : j < x.ws.length := by omega
   have hg := List.getElem?_eq_getElem (l := x.s.col c) (i := j) (by rw [col_len]; exact hj2)
   rw [col_at hj2] at hg
   have hvv : xv x c j = v := by rw [<- e]; exact Option.some.inj hg
   have h3 := h j (List.mem_range.2 (by omega))
   rw [hvv, eqV_isT h2 (hok i hi h2) (fun h => by rw [<- hvv] at h ⊢; exact hok j hj2 h)] at h3
   simpa using h3
  ·intro h j hj
   have hji := List.mem_range.1 hj
   have hj2 : j < x.ws.length := by omega
   have hm : xv x c j ∈ (x.s.col c).take i := by
    refine List.mem_take_iff_getElem.2 ⟨j, by rw [col_len]; omega, ?_⟩
    have hg := List.getElem?_eq_getElem (l := x.s.col c) (i := j) (by rw [col_len]; exact hj2)
    rw [col_at hj2] at hg
    exact (Option.some.inj hg).symm
   rw [eqV_isT h2 (hok i hi h2) (hok j hj2), h _ hm]; rfl
 ·have e1 : ((xv x c i).k == 2) = false := beq_eq_false_iff_ne.2 h2
  rw [e1, decide_eq_false h2, Bool.and_false, Bool.false_and]
theorem has_cnt {f : ByteArray -> Nat} {ws : List Kv} (h : WsRep f ws) (t : ByteArray) : hasK ws t = decide (0 < f t) := by
 rw [Bool.eq_iff_iff, hasK_iff h.ks, decide_eq_true_eq]
 constructor
 ·rintro ⟨n, hn⟩; exact ((h.mem t n).1 hn).2
 ·intro h2; exact ⟨_, (h.mem t _).2 ⟨rfl, h2⟩⟩
theorem unN_ws {x : Xr} {c : Nat} (hok : ∀ j, j < x.ws.length -> (xv x c j).k = 2 -> (xv x c j).n = 0) {ws : List Kv} (h : WsRep (cntT (x.s.col c)) ws) : unN x c x.ws.length = ws.length := by
 have key : ∀ i, i <= x.ws.length -> ∃ w, WsRep (cntT ((x.s.col c).take i)) w /\ w.length = unN x c i := by
  intro i
  induction i with
  | zero => exact fun _ => ⟨[], WsRep.nil fun t => rfl, rfl⟩
  | succ i ih =>
   intro hi
   obtain ⟨w, h1, h2⟩ := ih (by omega)
   have hi2 : i < x.ws.length := by omega
   have et : (x.s.col c).take (i + 1) = (x.s.col c).take i ++ [xv x c i] := by
    rw [List.take_add_one, col_at hi2]; rfl
   refine ⟨cW w (xv x c i), ?_, ?_⟩
   ·rw [et]; exact h1.cw _ fun t => cntT_app _ _ t
   ·rw [unN_succ, unB_cnt hi2 hok, <- h2]
    unfold cW
    by_cases k2 : (xv x c i).k = 2
    ·rw [if_neg (by omega), if_pos k2, decide_eq_true k2, Bool.true_and]
     unfold addK
     rw [putK_len, has_cnt h1]
     generalize cntT ((x.s.col c).take i) (xv x c i).s = z
     cases z with
     | zero => rfl
     | succ z => simp
    ·rw [decide_eq_false k2, Bool.false_and]
     split <;> simp [k2]
 obtain ⟨w, h1, h2⟩ := key x.ws.length (Nat.le_refl _)
 rw [List.take_of_length_le (by rw [col_len]; exact Nat.le_refl _)] at h1
 rw [<- h2, h1.len h]
end Go.Proofs.YthkoolfmealabaaGreat
namespace Go.Proofs.YthkoolfmealabaaGreat
set_option maxHeartbeats 4000000
open Go.Abs
variable {nO : Nat}
set_option maxRecDepth 100000
attribute [local irreducible] GP ruP nxP acS gst cdP loP invS ent1 ent2 enP caA resV lgP agN
def Xr.cp (x : Xr) (qr : Nat) (ws : List (Nat × Rw)) : Xr := { x with qr := qr, ws := ws }
def Xr.lk (x y : Xr) : Prop := ∃ qr ws, y = x.cp qr ws /\ ws.map Prod.snd = x.ws.map Prod.snd
structure lkP (xs ys : List Xr) : Prop where
 le : ys.length <= xs.length
 lk : ∀ j, j < ys.length -> (xs.getD j dXr).lk (ys.getD j dXr)
theorem lkP.nil {xs : List Xr} : lkP xs [] := ⟨Nat.zero_le _, fun _ h => absurd h (Nat.not_lt_zero _)⟩
theorem lkP.snoc {xs ys : List Xr} {i qr : Nat} {ws : List (Nat × Rw)} (h : lkP xs ys) (e : i = ys.length) (hl : i < xs.length) (hw : ws.map Prod.snd = (xs.getD i dXr).ws.map Prod.snd) : lkP xs (ys ++ [(xs.getD i dXr).cp qr ws]) := by
 subst e
 refine ⟨by rw [List.length_append]; simp; omega, fun j hj => ?_⟩
 by_cases e : j < ys.length
 ·have e2 : (ys ++ [(xs.getD ys.length dXr).cp qr ws]).getD j dXr = ys.getD j dXr := by rw [getD_at hj, getD_at e, List.getElem_append_left e]
  rw [e2]; exact h.lk j e
 ·have : j = ys.length := by rw [List.length_append] at hj; simp at hj; omega
  subst this
  have e2 : (ys ++ [(xs.getD ys.length dXr).cp qr ws]).getD ys.length dXr = (xs.getD ys.length dXr).cp qr ws := by rw [getD_at hj, List.getElem_append_right (Nat.le_refl _)]; simp
  rw [e2]; exact ⟨qr, ws, rfl, hw⟩
theorem w_snoc {w l : List (Nat × Rw)} {k q : Nat} (h : w.map Prod.snd = (l.take k).map Prod.snd) (hk : k < l.length) : (w ++ [(q, ((l.getD k eRw.d).2.1, (l.getD k eRw.d).2.2))]).map Prod.snd = (l.take (k + 1)).map Prod.snd := by
 rw [List.map_append, h, List.take_add_one, List.getElem?_eq_getElem hk, List.map_append, getD_at hk]; rfl
theorem rcopy_ctr {q qS qR qN : Nat} {xs : List Xr} {mS mR mN : Md} (hxp : ∀ i, i < xs.length -> xP (xs.getD i dXr)) (hxl : xs.length < 1000000) : Ctr Tryz.prog nO 26 [.o (.p 1 q 0 0 0)] [.blk 1 q [.s 2 qS 4 0 xs.length xs.length xs.isEmpty, .s 3 qR 1 0 xs.length xs.length xs.isEmpty, .s 4 qN 1 0 xs.length xs.length xs.isEmpty] 66 .own, vc eTb 2 qS xs 31 mS xs.isEmpty, vc eRs 3 qR xs 96 mR xs.isEmpty, vc eI 4 qN (xs.map fun x : Xr => (x.n : Int)) 3 mN xs.isEmpty, .as (bigA xA xs)] ((Nat) × (Nat) × (Nat) × (Nat) × (List Xr)) (fun r => lkP xs r.2.2.2.2 /\ r.2.2.2.2.length = xs.length) (fun r => .o (.p 11 r.1 0 0 0)) (fun r => [.blk 1 q [.s 2 qS 4 0 xs.length xs.length xs.isEmpty, .s 3 qR 1 0 xs.length xs.length xs.isEmpty, .s 4 qN 1 0 xs.length xs.length xs.isEmpty] 66 .own, vc eTb 2 qS xs 31 mS xs.isEmpty, vc eRs 3 qR xs 96 mR xs.isEmpty, vc eI 4 qN (xs.map fun x : Xr => (x.n : Int)) 3 mN xs.isEmpty, .as (bigA xA xs), .blk 11 r.1 [.s 12 r.2.1 4 0 xs.length xs.length xs.isEmpty, .s 13 r.2.2.1 1 0 r.2.2.2.2.length r.2.2.2.2.length r.2.2.2.2.isEmpty, .s 14 r.2.2.2.1 1 0 xs.length xs.length xs.isEmpty] 66 .own, vc eTb 12 r.2.1 xs 31 .grown xs.isEmpty, vc eRs 13 r.2.2.1 r.2.2.2.2 96 .grown r.2.2.2.2.isEmpty, vc eI 14 r.2.2.2.1 (xs.map fun x : Xr => (x.n : Int)) 3 .grown xs.isEmpty, .as (bigA xA r.2.2.2.2)]) := by
 refine fs good 100 (fun B => ?_)
 have hnl : (xs.map fun x : Xr => (x.n : Int)).length = xs.length := List.length_map ..
 refine g0 good fun _ => ?_
 refine go good (fun _ => (o1 (rfl : q = _))) fun _ => ?_
 refine gh (nil_vec 100 4 eTb.f eTb.d 31 .grown) [] [] 101 fun _ _ => ?_
 refine apd good eTb [] xs xs 100 0 .grown true xs.isEmpty (vc eTb 2 qS xs 31 mS xs.isEmpty) qS 0 xs.length xs.length xs.isEmpty 101 [0, 2] 102 31 (fun h => by cases h) (by simp only [List.length_nil]; omega) src_vec (by simp) rfl (fun q103 => ?_)
 refine go good (fun _ => (o1 (rfl : q = _))) fun _ => ?_
 refine gh (nil_vec 102 1 eI.f eI.d 3 .grown) [] [] 103 fun _ _ => ?_
 refine apd good eI [] (xs.map fun x : Xr => (x.n : Int)) (xs.map fun x : Xr => (x.n : Int)) 102 0 .grown true xs.isEmpty (vc eI 4 qN (xs.map fun x : Xr => (x.n : Int)) 3 mN xs.isEmpty) qN 0 xs.length xs.length xs.isEmpty 103 [0, 5] 104 3 (fun h => by cases h) (by simp only [List.length_nil]; omega) src_vec (by simp) rfl (fun q105 => ?_) (hn := hnl.symm)
 refine go good (fun q106 => (o3 (rfl : [C1.s 101 q103 4 0 xs.length xs.length xs.isEmpty].all C1.one = true) (rfl : [C1.s 103 q105 1 0 ((xs.map fun x : Xr => (x.n : Int)).length) ((xs.map fun x : Xr => (x.n : Int)).length) xs.isEmpty].all C1.one = true) (rfl : [C1.s 101 q103 4 0 xs.length xs.length xs.isEmpty, .v (.slice none 0 0), .s 103 q105 1 0 ((xs.map fun x : Xr => (x.n : Int)).length) ((xs.map fun x : Xr => (x.n : Int)).length) xs.isEmpty].all C1.one = true))) (fun q106 => ?_)
 refine g0 good fun _ => ?_
 refine gh (nil_vec 105 1 eRs.f eRs.d 96 .grown) [] [] 106 fun _ _ => ?_
 refine gh (ge_re (l := [.blk 104 (q106 104) [.s 101 q103 4 0 xs.length xs.length xs.isEmpty, .v (.slice none 0 0), .s 103 q105 1 0 ((xs.map fun x : Xr => (x.n : Int)).length) ((xs.map fun x : Xr => (x.n : Int)).length) xs.isEmpty] 66 .own]) (l' := [.blk 104 (q106 104) [.s 101 q103 4 0 xs.length xs.length xs.isEmpty, .s 105 0 1 0 (([] : List Xr).length) (([] : List Xr).length) (([] : List Xr).isEmpty), .s 103 q105 1 0 ((xs.map fun x : Xr => (x.n : Int)).length) ((xs.map fun x : Xr => (x.n : Int)).length) xs.isEmpty] 66 .own]) (by rfl)) [1] [] 106 fun _ _ => ?_
 refine gh (ge_re (l := [.blk 104 (q106 104) [.s 101 q103 4 0 xs.length xs.length xs.isEmpty, .s 105 0 1 0 (([] : List Xr).length) (([] : List Xr).length) (([] : List Xr).isEmpty), .s 103 q105 1 0 ((xs.map fun x : Xr => (x.n : Int)).length) ((xs.map fun x : Xr => (x.n : Int)).length) xs.isEmpty] 66 .own]) (l' := [.blk 104 (q106 104) [.s 101 q103 4 0 xs.length xs.length xs.isEmpty, .s 105 0 1 0 (([] : List Xr).length) (([] : List Xr).length) (([] : List Xr).isEmpty), .s 103 q105 1 0 xs.length xs.length xs.isEmpty] 66 .own]) (by rw [hnl])) [0] [] 106 fun _ _ => ?_
 refine gh (big_nil (I := xA)) [] [] 106 fun _ _ => ?_
 refine lp good ((Nat) × (Nat) × (List Xr)) [0, 3] (fun r => [(4, .o (.v (.int .i64 (r.1 : Int))))]) [3, 4, 5, 6, 7, 8, 9] (fun r => [.blk 104 (q106 104) [.s 101 q103 4 0 xs.length xs.length xs.isEmpty, .s 105 r.2.1 1 0 r.2.2.length r.2.2.length r.2.2.isEmpty, .s 103 q105 1 0 xs.length xs.length xs.isEmpty] 66 .own, vc eRs 105 r.2.1 r.2.2 96 .grown r.2.2.isEmpty, .as (bigA xA r.2.2)]) 126 (fun r => r.1 = r.2.2.length /\ lkP xs r.2.2) (fun r => xs.length - r.1) (⟨0, 0, ([] : List Xr)⟩) ⟨rfl, lkP.nil⟩ [1, 2, 0] (fun ⟨i, qy, ys⟩ hx ag108 => ?_)
 try dsimp only at hx
 obtain ⟨hi, hlk⟩ := hx
 refine go good (fun _ => (o1 (rfl : q = _))) fun _ => ?_
 refine cdD good ((i : Int) < (xs.length : Int)) (fun h1 => ?_) (fun h1 => ?_)
 ·have hxi := hxp i (by omega)
  have hwl := hxi.wl
  refine gh (big_out (I := xA) (l := xs) i dXr (by omega)) [9] [] 126 fun _ _ => ?_
  refine gh (ge_un (l := xL (xs.getD i dXr))) [0] [] 126 fun _ _ => ?_
  refine gh (vec_two (E := eC) (g := 931) (q := (xs.getD i dXr).qa) (xs := (xs.getD i dXr).F.xa) (t := (xs.getD i dXr).ta) (z := (xs.getD i dXr).za)) [0] [] 126 fun _ _ => ?_
  refine gh (vec_two (E := (eD 906)) (g := 932) (q := (xs.getD i dXr).qA) (xs := (xs.getD i dXr).da) (t := (xs.getD i dXr).tA) (z := (xs.getD i dXr).zA)) [2] [] 126 fun _ _ => ?_
  refine gh (ge_dup (I := (bigA (lefA 9) (xs.getD i dXr).da)) (imm_big fun _ => imm_lef)) [4] [] 126 fun _ _ => ?_
  refine g0 good fun _ => ?_
  refine g0 good fun _ => ?_
  refine gh (nil_vec 126 2 eRw.f eRw.d 98 .grown) [] [] 127 fun _ _ => ?_
  refine sv 5 (v := .o (.v (.slice none 0 0))) (v' := .o (.s 126 0 2 0 (([] : List (Nat × Rw)).length) (([] : List (Nat × Rw)).length) (([] : List (Nat × Rw)).isEmpty))) rfl ?_
  refine gh (big_nil (I := valA)) [] [] 127 fun _ _ => ?_
  refine lp good ((Nat) × (Nat) × (List (Nat × Rw))) [0, 3, 4] (fun r => [(6, .o (.v (.int .i64 (r.1 : Int)))), (5, .o (.s 126 r.2.1 2 0 r.2.2.length r.2.2.length r.2.2.isEmpty))]) [2, 3, 4, 5, 6, 7, 8, 9, 10, 11, 12, 13, 14, 15, 16, 17, 18, 19] (fun r => [vc eRw 126 r.2.1 r.2.2 98 .grown r.2.2.isEmpty, .as (bigA valA r.2.2)]) 147 (fun r => r.1 = r.2.2.length /\ r.1 <= (xs.getD i dXr).ws.length /\ r.2.2.map Prod.snd = ((xs.getD i dXr).ws.take r.1).map Prod.snd) (fun r => (xs.getD i dXr).ws.length - r.1) (⟨0, 0, ([] : List (Nat × Rw))⟩) ⟨rfl, Nat.zero_le _, rfl⟩ [1, 0] (fun ⟨k, qw, w⟩ hx ag112 => ?_)
  try dsimp only at hx
  obtain ⟨hk, hkl, hwk⟩ := hx
  refine go good (fun _ => (o6 (rfl : q = _) (nz i) (by omega : (i : Int) < (xs.length : Int)) (zfe (show 0 < xs.length by omega) : xs.isEmpty = false) (rfl : qR = _) (by omega : i < xs.length))) fun _ => ?_
  refine cdD good ((k : Int) < (((xs.getD i dXr).ws.length : Nat) : Int)) (fun h2 => ?_) (fun h2 => ?_)
  ·have hrl := hxi.rl _ (getD_mem (d := eRw.d) (j := k) (by omega))
   have hfx := hxi.fm.xl
   refine gh (big_out (I := valA) (l := (xs.getD i dXr).ws) k eRw.d (by omega)) [9] [] 147 fun _ _ => ?_
   refine gh (ge_op (c := vc eV 921 (((xs.getD i dXr).ws.getD k eRw.d).1) (((xs.getD i dXr).ws.getD k eRw.d).2.2) 38 .grown (((xs.getD i dXr).ws.getD k eRw.d).2.2.isEmpty)) (I := valA ((xs.getD i dXr).ws.getD k eRw.d))) [0] [] 147 fun _ _ => ?_
   refine go good (fun _ => (oc (rfl : q = _) (nz i) (by omega : (i : Int) < (xs.length : Int)) (zfe (show 0 < xs.length by omega) : xs.isEmpty = false) (rfl : qR = _) (by omega : i < xs.length) (oc (nz k) (by omega : (k : Int) < (((xs.getD i dXr).ws.length : Nat) : Int)) (zfe (show 0 < (xs.getD i dXr).ws.length by omega) : (xs.getD i dXr).ws.isEmpty = false) (rfl : (xs.getD i dXr).qr = (xs.getD i dXr).qr) (by omega : k < ((xs.getD i dXr).ws).length) (rfl : q = _) (oc (nz i) (by omega : (i : Int) < (xs.length : Int)) (zfe (show 0 < xs.length by omega) : xs.isEmpty = false) (rfl : qR = _) (by omega : i < xs.length) (nz k) (o4 (by omega : (k : Int) < (((xs.getD i dXr).ws.length : Nat) : Int)) (zfe (show 0 < (xs.getD i dXr).ws.length by omega) : (xs.getD i dXr).ws.isEmpty = false) (rfl : (xs.getD i dXr).qr = (xs.getD i dXr).qr) (by omega : k < ((xs.getD i dXr).ws).length)))))) fun _ => ?_
   refine gh (nil_vec 147 3 eV.f eV.d 38 .grown) [] [] 148 fun _ _ => ?_
   refine apd good eV [] (((xs.getD i dXr).ws.getD k eRw.d).2.2) (((xs.getD i dXr).ws.getD k eRw.d).2.2) 147 0 .grown true (((xs.getD i dXr).ws.getD k eRw.d).2.2.isEmpty) (vc eV 921 (((xs.getD i dXr).ws.getD k eRw.d).1) (((xs.getD i dXr).ws.getD k eRw.d).2.2) 38 .grown (((xs.getD i dXr).ws.getD k eRw.d).2.2.isEmpty)) ((((xs.getD i dXr).ws).getD k eRw.d).1) 0 ((((xs.getD i dXr).ws).getD k eRw.d).2.2.length) ((((xs.getD i dXr).ws).getD k eRw.d).2.2.length) (((xs.getD i dXr).ws).getD k eRw.d).2.2.isEmpty 148 [0, 1] 149 38 (fun h => by cases h) (by simp only [List.length_nil]; omega) src_vec (by simp) rfl (fun q115 => ?_)
   refine go good (fun q116 => (o3 (rfl : [C1.v (.int .i64 ((((xs.getD i dXr).ws).getD k eRw.d).2.1 : Int))].all C1.one = true) (rfl : [C1.s 148 q115 3 0 ((((xs.getD i dXr).ws.getD k eRw.d).2.2).length) ((((xs.getD i dXr).ws.getD k eRw.d).2.2).length) (((xs.getD i dXr).ws.getD k eRw.d).2.2.isEmpty)].all C1.one = true) (rfl : [C1.v (.int .i64 ((((xs.getD i dXr).ws).getD k eRw.d).2.1 : Int)), .s 148 q115 3 0 ((((xs.getD i dXr).ws.getD k eRw.d).2.2).length) ((((xs.getD i dXr).ws.getD k eRw.d).2.2).length) (((xs.getD i dXr).ws.getD k eRw.d).2.2.isEmpty)].all C1.one = true))) (fun q116 => ?_)
   refine apd good eRw w [(q115, ((((xs.getD i dXr).ws.getD k eRw.d).2.1, ((xs.getD i dXr).ws.getD k eRw.d).2.2) : Rw))] (w ++ [(q115, ((((xs.getD i dXr).ws.getD k eRw.d).2.1, ((xs.getD i dXr).ws.getD k eRw.d).2.2) : Rw))]) 126 qw .grown w.isEmpty ((w ++ [(q115, ((((xs.getD i dXr).ws.getD k eRw.d).2.1, ((xs.getD i dXr).ws.getD k eRw.d).2.2) : Rw))]).isEmpty) (.blk 149 (q116 149) [.v (.int .i64 ((((xs.getD i dXr).ws).getD k eRw.d).2.1 : Int)), .s 148 q115 3 0 ((((xs.getD i dXr).ws.getD k eRw.d).2.2).length) ((((xs.getD i dXr).ws.getD k eRw.d).2.2).length) (((xs.getD i dXr).ws.getD k eRw.d).2.2.isEmpty)] 98 .own) (q116 149) 0 1 1 false 150 [4, 0] 151 98 (fun h _ => ne_of h) (by simp only [List.length_cons, List.length_nil]; omega) (src_one rfl) (by simp) rfl (fun q117 => ?_)
   refine gh (ge_sh (c := vc eV 148 q115 (((xs.getD i dXr).ws.getD k eRw.d).2.2) 38 .grown (((xs.getD i dXr).ws.getD k eRw.d).2.2.isEmpty)) (I := valA (q115, ((((xs.getD i dXr).ws.getD k eRw.d).2.1, ((xs.getD i dXr).ws.getD k eRw.d).2.2) : Rw)))) [2] [] 151 fun _ _ => ?_
   refine gh (big_snoc (I := valA) (l := w) (x := (q115, ((((xs.getD i dXr).ws.getD k eRw.d).2.1, ((xs.getD i dXr).ws.getD k eRw.d).2.2) : Rw)))) [0, 5] [] 151 fun _ _ => ?_
   refine gh (ge_sh (c := vc eV 921 (((xs.getD i dXr).ws.getD k eRw.d).1) (((xs.getD i dXr).ws.getD k eRw.d).2.2) 38 .grown (((xs.getD i dXr).ws.getD k eRw.d).2.2.isEmpty)) (I := valA ((xs.getD i dXr).ws.getD k eRw.d))) [3] [] 151 fun _ _ => ?_
   refine gh (big_bk (I := valA) (l := (xs.getD i dXr).ws) k eRw.d (by omega)) [0, 4] [] 151 fun _ _ => ?_
   refine g0 good fun _ => ?_
   refine go good (fun _ => (o2 (by omega : -9223372036854775808 <= (k : Int) + 1) (by omega : (k : Int) + 1 < 9223372036854775808))) fun _ => ?_
   exact ag112 _ _ (⟨k + 1, q117, (w ++ [(q115, ((((xs.getD i dXr).ws.getD k eRw.d).2.1, ((xs.getD i dXr).ws.getD k eRw.d).2.2) : Rw))])⟩) (by first | omega | (simp only; omega)) (by dsimp only; exact ⟨by rw [List.length_append]; simp; omega, by omega, w_snoc hwk (by omega)⟩) [2, 1, 4, 5, 6, 7, 8, 9, 10, 0, 11, 12, 13, 14, 15, 16, 17, 18, 19, 20] (by kernel_rfl) (by kernel_rfl)
  ·have hke : k = (xs.getD i dXr).ws.length := by omega
   have hwm : w.map Prod.snd = (xs.getD i dXr).ws.map Prod.snd := by rw [hwk, hke, List.take_length]
   refine gh (ge_all (l := xL ((xs.getD i dXr).cp qw w))) [6, 4, 2, 0, 1] [] 147 fun _ _ => ?_
   refine gh (big_snoc (I := xA) (l := ys) (x := ((xs.getD i dXr).cp qw w))) [0, 9] [] 147 fun _ _ => ?_
   refine gh (ge_all (l := xL (xs.getD i dXr))) [3, 2, 1, 4, 5] [] 147 fun _ _ => ?_
   refine gh (big_bk (I := xA) (l := xs) i dXr (by omega)) [0, 2] [] 147 fun _ _ => ?_
   refine go good (fun q120 => (o2 (rfl : (q106 104) = (q106 104)) (rfl : [C1.s 126 qw 2 0 w.length w.length w.isEmpty].all C1.one = true))) (fun q120 => ?_)
   refine apd good eRs ys [((xs.getD i dXr).cp qw w)] (ys ++ [((xs.getD i dXr).cp qw w)]) 105 qy .grown ys.isEmpty ((ys ++ [((xs.getD i dXr).cp qw w)]).isEmpty) (.blk 147 (q120 147) [.s 126 qw 2 0 w.length w.length w.isEmpty] 96 .own) (q120 147) 0 1 1 false 148 [4, 0] 149 96 (fun h _ => ne_of h) (by simp only [List.length_cons, List.length_nil]; omega) (src_one rfl) (by simp) rfl (fun q121 => ?_)
   refine go good (fun _ => (o2 (rfl : (q106 104) = (q106 104)) (rfl : [C1.s 148 q121 1 0 ((ys ++ [((xs.getD i dXr).cp qw w)]).length) ((ys ++ [((xs.getD i dXr).cp qw w)]).length) ((ys ++ [((xs.getD i dXr).cp qw w)]).isEmpty)].all C1.one = true))) fun _ => ?_
   refine go good (fun _ => (o2 (by omega : -9223372036854775808 <= (i : Int) + 1) (by omega : (i : Int) + 1 < 9223372036854775808))) fun _ => ?_
   exact ag108 _ _ (⟨i + 1, q121, (ys ++ [((xs.getD i dXr).cp qw w)])⟩) (by first | omega | (simp only; omega)) (by dsimp only; exact ⟨by rw [List.length_append]; simp; omega, hlk.snoc hi (by omega) hwm⟩) [4, 0, 3, 5, 6, 7, 8, 9, 10, 2] (by kernel_rfl) (by kernel_rfl)
 ·have hyl : ys.length = xs.length := by have := hlk.le; omega
  refine g0 good fun _ => ?_
  exact rt trivial (⟨(q106 104), q103, qy, q105, ys⟩) ⟨hlk, hyl⟩ [7, 6, 8, 4, 9, 0, 5, 1, 3, 2]
end Go.Proofs.YthkoolfmealabaaGreat
namespace Go.Proofs.YthkoolfmealabaaGreat
open Go.Abs
theorem Xr.ins_s {x : Xr} {qr q : Nat} {vs : List Va} : (x.ins qr q vs).s = x.s.ins vs := by
 unfold Xr.s Xr.ins Ts.ins
 simp
theorem Xr.del_s {x : Xr} {qr j : Nat} : (x.del qr j).s = x.s.del j := by
 show (⟨(x.ws.eraseIdx j).map Prod.snd, x.n⟩ : Ts) = ⟨(x.ws.map Prod.snd).eraseIdx j, x.n⟩
 rw [List.eraseIdx_eq_take_drop_succ, List.eraseIdx_eq_take_drop_succ, List.map_append, List.map_take, List.map_drop]
theorem Xr.put_s {x : Xr} {j c : Nat} {v : Va} : (x.put j c v).s = x.s.put j c v := by
 have e : (x.ws.map Prod.snd).getD j dR = (x.ws.getD j eRw.d).2 := by
  rw [List.getD_eq_getElem?_getD, List.getElem?_map, List.getD_eq_getElem?_getD]
  cases x.ws[j]? <;> rfl
 show (⟨(x.ws.set j _).map Prod.snd, x.n⟩ : Ts) = ⟨(x.ws.map Prod.snd).set j _, x.n⟩
 rw [List.map_set]
 show (⟨(x.ws.map Prod.snd).set j ((x.ws.getD j eRw.d).2.1, (x.ws.getD j eRw.d).2.2.set c v), x.n⟩ : Ts) = ⟨(x.ws.map Prod.snd).set j (((x.ws.map Prod.snd).getD j dR).1, ((x.ws.map Prod.snd).getD j dR).2.set c v), x.n⟩
 rw [e]
theorem xP.ins {x : Xr} (h : xP x) {qr q : Nat} {vs : List Va} (hl : vs.length = x.F.xa.length) (hn : x.ws.length + 1 < 100000) : xP (x.ins qr q vs) :=
 ⟨h.fm, h.za, h.zA, h.da, by show (x.ws ++ _).length < _; rw [List.length_append]; exact hn, fun w hw => by
  rcases List.mem_append.1 (show w ∈ x.ws ++ [_] from hw) with h2 | h2
  ·exact h.rl w h2
  ·obtain rfl := List.mem_singleton.1 h2; exact hl⟩
theorem xP.del {x : Xr} (h : xP x) {qr j : Nat} : xP (x.del qr j) :=
 ⟨h.fm, h.za, h.zA, h.da, Nat.lt_of_le_of_lt (List.length_eraseIdx_le ..) h.wl, fun w hw => h.rl w (List.mem_of_mem_eraseIdx hw)⟩
theorem xP.put {x : Xr} (h : xP x) {j c : Nat} {v : Va} (hj : j < x.ws.length) : xP (x.put j c v) :=
 ⟨h.fm, h.za, h.zA, h.da, by show (x.ws.set _ _).length < _; rw [List.length_set]; exact h.wl, fun w hw => by
  rcases List.mem_or_eq_of_mem_set (show w ∈ x.ws.set _ _ from hw) with h2 | h2
  ·exact h.rl w h2
  ·subst h2
   show ((x.ws.getD j eRw.d).2.2.set c v).length = _
   rw [List.length_set]; exact h.rl _ (getD_mem hj)⟩
structure Dr where
 qS : Nat
 qR : Nat
 qN : Nat
 mS : Md
 mR : Md
 mN : Md
 xs : List Xr
structure dbP (l : List (Fm × Ts)) (y : Dr) : Prop where
 ls : y.xs.map (fun x => (x.F, x.s)) = l
 ok : ∀ i, i < y.xs.length -> xP (y.xs.getD i dXr)
 mR : y.mR.mine = true
 mN : y.mN.mine = true
 le : y.xs.length < 100000
theorem dbP.put {l : List (Fm × Ts)} {y : Dr} (h : dbP l y) {t : Nat} {x' : Xr} (hx : xP x') (v : Fm × Ts) (e : (x'.F, x'.s) = v) : dbP (l.set t v) { y with xs := y.xs.set t x' } :=
 ⟨by rw [<- h.ls, <- e, List.map_set], fun i hi => by
  have hi2 : i < y.xs.length := by simpa using hi
  show xP ((y.xs.set t x').getD i dXr)
  rw [getD_at (by simpa using hi2), List.getElem_set]
  split
  ·exact hx
  ·have := h.ok i hi2
   rwa [getD_at hi2] at this, h.mR, h.mN, by show (y.xs.set t x').length < _; rw [List.length_set]; exact h.le⟩
theorem dbP.at {l : List (Fm × Ts)} {y : Dr} (h : dbP l y) {t : Nat} {F : Fm} {s : Ts} (e : l[t]? = some (F, s)) : t < y.xs.length /\ (y.xs.getD t dXr).F = F /\ (y.xs.getD t dXr).s = s := by
 rw [<- h.ls, List.getElem?_map, Option.map_eq_some_iff] at e
 obtain ⟨x, hx, e⟩ := e
 obtain ⟨ht, rfl⟩ := List.getElem?_eq_some_iff.1 hx
 rw [getD_at ht]
 simp only [Prod.mk.injEq] at e
 exact ⟨ht, e.1, e.2⟩
theorem lkP.same {xs ys : List Xr} (h : lkP xs ys) (hl : ys.length = xs.length) : ys.map (fun x => (x.F, x.s)) = xs.map (fun x => (x.F, x.s)) := by
 apply List.ext_getElem
 ·rw [List.length_map, List.length_map, hl]
 ·intro j h1 h2
  have hj : j < ys.length := by simpa using h1
  have hj2 : j < xs.length := by omega
  obtain ⟨qr, ws, e, hw⟩ := h.lk j hj
  rw [getD_at hj, getD_at hj2] at e
  rw [getD_at hj2] at hw
  rw [List.getElem_map, List.getElem_map, e]
  show ((xs[j]).F, (⟨ws.map Prod.snd, (xs[j]).n⟩ : Ts)) = ((xs[j]).F, (⟨(xs[j]).ws.map Prod.snd, (xs[j]).n⟩ : Ts))
  rw [hw]
end Go.Proofs.YthkoolfmealabaaGreat
namespace Go.Proofs.YthkoolfmealabaaGreat
open Go.Abs
variable {nO : Nat}
set_option maxRecDepth 100000
attribute [local irreducible] GP ruP nxP acS gst cdP loP invS ent1 ent2 enP caA resV lgP agN
def dbL (q : Nat) (y : Dr) : List Ch := [.blk 1 q [.s 2 y.qS 4 0 y.xs.length y.xs.length y.xs.isEmpty, .s 3 y.qR 1 0 y.xs.length y.xs.length y.xs.isEmpty, .s 4 y.qN 1 0 y.xs.length y.xs.length y.xs.isEmpty] 66 .own, vc eTb 2 y.qS y.xs 31 y.mS y.xs.isEmpty, vc eRs 3 y.qR y.xs 96 y.mR y.xs.isEmpty, vc eI 4 y.qN (y.xs.map fun x : Xr => (x.n : Int)) 3 y.mN y.xs.isEmpty, .as (bigA xA y.xs)]
def dbA (q : Nat) (l : List (Fm × Ts)) : As := boxA (dbP l) (dbL q)
theorem rw_at {x : Xr} {j : Nat} : x.s.rows.getD j dR = (x.ws.getD j eRw.d).2 := by
 show (x.ws.map Prod.snd).getD j dR = _
 rw [List.getD_eq_getElem?_getD, List.getElem?_map, List.getD_eq_getElem?_getD]
 cases x.ws[j]? <;> rfl
theorem ddelN_ctr {q t : Nat} {l : List (Fm × Ts)} {F : Fm} {s : Ts} {id : Int} (e : l[t]? = some (F, s)) (his : s.is id = false) :
  Ctr Tryz.prog nO 29 [.o (.p 1 q 0 0 0), .o (.v (.int .i64 (t : Int))), .o (.v (.int .i64 id))] [.as (dbA q l)] Unit (fun _ => True) (fun _ => .o (.v (.bool false))) (fun _ => [.as (dbA q l)]) :=
 ctr_box (ψ := dbP l) (L := dbL q) (E := []) (R' := Unit) (ψ' := fun _ => dbP l) (L' := fun _ => dbL q) (E' := fun _ => []) [0, 2, 4] [0, 3, 1, 4, 2] (fun y _ => ()) (fun y _ => y)
  (fun y hy => rdelN_ctr (q := q) (qS := y.qS) (qR := y.qR) (qN := y.qN) (xs := y.xs) (mR := y.mR) (t := t) (id := id) (hy.at e).1 (hy.ok t (hy.at e).1) (by rw [(hy.at e).2.2]; exact Ts.none his))
  (fun y => ⟨by kernel_rfl, by kernel_rfl⟩)
  (fun y r hy hr => ⟨trivial, rfl, hy⟩)
  (fun y r => ⟨by kernel_rfl, by kernel_rfl⟩)
theorem ddel_ctr {q t j : Nat} {l : List (Fm × Ts)} {F : Fm} {s : Ts} {id : Int} (e : l[t]? = some (F, s)) (hj : j < s.rows.length) (hp : s.pos id = (j : Int)) :
  Ctr Tryz.prog nO 29 [.o (.p 1 q 0 0 0), .o (.v (.int .i64 (t : Int))), .o (.v (.int .i64 id))] [.as (dbA q l)] Unit (fun _ => True) (fun _ => .o (.v (.bool true))) (fun _ => [.as (dbA q (l.set t (F, s.del j)))]) :=
 ctr_box (ψ := dbP l) (L := dbL q) (E := []) (R' := Unit) (ψ' := fun _ => dbP (l.set t (F, s.del j))) (L' := fun _ => dbL q) (E' := fun _ => []) [0, 1, 2, 3, 4] [0, 1, 2, 3, 4] (fun y _ => ()) (fun y r => { y with xs := y.xs.set t ((y.xs.getD t dXr).del r j) })
  (fun y hy => rdel_ctr (q := q) (qS := y.qS) (qR := y.qR) (qN := y.qN) (xs := y.xs) (mS := y.mS) (mR := y.mR) (mN := y.mN) (t := t) (id := id) (j := j) (hy.at e).1 (hy.ok t (hy.at e).1) (by have h := hj; rw [<- (hy.at e).2.2] at h; simpa [Xr.s] using h) (by rw [(hy.at e).2.2]; exact hp) hy.mR)
  (fun y => ⟨by kernel_rfl, by kernel_rfl⟩)
  (fun y r hy hr => ⟨trivial, rfl, hy.put (hy.ok t (hy.at e).1).del _ (by rw [Xr.del_s, (hy.at e).2.2]; exact congrArg (fun F => (F, s.del j)) (hy.at e).2.1)⟩)
  (fun y r => ⟨by kernel_rfl, by kernel_rfl⟩)
theorem dsetN_ctr {q t : Nat} {l : List (Fm × Ts)} {F : Fm} {s : Ts} {id : Int} {sn : ByteArray} {v : Va}  (e : l[t]? = some (F, s)) (his : s.is id = false) :
  Ctr Tryz.prog nO 30 [.o (.p 1 q 0 0 0), .o (.v (.int .i64 (t : Int))), .o (.v (.int .i64 id)), .o (.v (.string sn)), .a [.v (.int .i64 v.k), .v (.int .i64 v.n), .v (.string v.s)]] [.as (dbA q l)] Unit (fun _ => True) (fun _ => .o (.v (.int .i64 6))) (fun _ => [.as (dbA q l)]) :=
 ctr_box (ψ := dbP l) (L := dbL q) (E := []) (R' := Unit) (ψ' := fun _ => dbP l) (L' := fun _ => dbL q) (E' := fun _ => []) [0, 2, 4] [0, 3, 1, 4, 2] (fun y _ => ()) (fun y r => y)
  (fun y hy => rsetN_ctr (q := q) (qS := y.qS) (qR := y.qR) (qN := y.qN) (xs := y.xs) (mR := y.mR) (t := t) (id := id) (sn := sn) (v := v) (hy.at e).1 (hy.ok t (hy.at e).1) (by rw [(hy.at e).2.2]; exact Ts.none his))
  (fun y => ⟨by kernel_rfl, by kernel_rfl⟩)
  (fun y r hy hr => ⟨trivial, rfl, hy⟩)
  (fun y r => ⟨by kernel_rfl, by kernel_rfl⟩)
theorem dsetC_ctr {q t : Nat} {l : List (Fm × Ts)} {F : Fm} {s : Ts} {id : Int} {sn : ByteArray} {v : Va} {j : Nat} (e : l[t]? = some (F, s)) (hj : j < s.rows.length) (hp : s.pos id = (j : Int)) (hc : idxF F.xa (fun c => strEq c.name sn) = -1) :
  Ctr Tryz.prog nO 30 [.o (.p 1 q 0 0 0), .o (.v (.int .i64 (t : Int))), .o (.v (.int .i64 id)), .o (.v (.string sn)), .a [.v (.int .i64 v.k), .v (.int .i64 v.n), .v (.string v.s)]] [.as (dbA q l)] Unit (fun _ => True) (fun _ => .o (.v (.int .i64 3))) (fun _ => [.as (dbA q l)]) :=
 ctr_box (ψ := dbP l) (L := dbL q) (E := []) (R' := Unit) (ψ' := fun _ => dbP l) (L' := fun _ => dbL q) (E' := fun _ => []) [0, 1, 2, 4] [0, 1, 2, 4, 3] (fun y _ => ()) (fun y r => y)
  (fun y hy => rsetC_ctr (q := q) (qS := y.qS) (qR := y.qR) (qN := y.qN) (xs := y.xs) (mR := y.mR) (t := t) (id := id) (sn := sn) (v := v) (mS := y.mS) (j := j) (hy.at e).1 (hy.ok t (hy.at e).1) (by have h := hj; rw [<- (hy.at e).2.2] at h; simpa [Xr.s] using h) (by rw [(hy.at e).2.2]; exact hp) (by rw [(hy.at e).2.1]; exact hc))
  (fun y => ⟨by kernel_rfl, by kernel_rfl⟩)
  (fun y r hy hr => ⟨trivial, rfl, hy⟩)
  (fun y r => ⟨by kernel_rfl, by kernel_rfl⟩)
theorem dsetT_ctr {q t : Nat} {l : List (Fm × Ts)} {F : Fm} {s : Ts} {id : Int} {sn : ByteArray} {v : Va} {j c : Nat} (e : l[t]? = some (F, s)) (hj : j < s.rows.length) (hp : s.pos id = (j : Int)) (hc : idxF F.xa (fun c => strEq c.name sn) = (c : Int)) (hcx : c < F.xa.length) (hs : v.s.size < 1000000000) (hok : colOk F.xa c v = false) :
  Ctr Tryz.prog nO 30 [.o (.p 1 q 0 0 0), .o (.v (.int .i64 (t : Int))), .o (.v (.int .i64 id)), .o (.v (.string sn)), .a [.v (.int .i64 v.k), .v (.int .i64 v.n), .v (.string v.s)]] [.as (dbA q l)] Unit (fun _ => True) (fun _ => .o (.v (.int .i64 4))) (fun _ => [.as (dbA q l)]) :=
 ctr_box (ψ := dbP l) (L := dbL q) (E := []) (R' := Unit) (ψ' := fun _ => dbP l) (L' := fun _ => dbL q) (E' := fun _ => []) [0, 1, 2, 4] [0, 1, 2, 4, 3] (fun y _ => ()) (fun y r => y)
  (fun y hy => rsetT_ctr (q := q) (qS := y.qS) (qR := y.qR) (qN := y.qN) (xs := y.xs) (mR := y.mR) (t := t) (id := id) (sn := sn) (v := v) (mS := y.mS) (j := j) (c := c) (hy.at e).1 (hy.ok t (hy.at e).1) (by have h := hj; rw [<- (hy.at e).2.2] at h; simpa [Xr.s] using h) (by rw [(hy.at e).2.2]; exact hp) (by rw [(hy.at e).2.1]; exact hc) (by rw [(hy.at e).2.1]; exact hcx) hs (by rw [(hy.at e).2.1]; exact hok))
  (fun y => ⟨by kernel_rfl, by kernel_rfl⟩)
  (fun y r hy hr => ⟨trivial, rfl, hy⟩)
  (fun y r => ⟨by kernel_rfl, by kernel_rfl⟩)
theorem dset_ctr {q t : Nat} {l : List (Fm × Ts)} {F : Fm} {s : Ts} {id : Int} {sn : ByteArray} {v : Va} {j c : Nat} (e : l[t]? = some (F, s)) (hj : j < s.rows.length) (hp : s.pos id = (j : Int)) (hc : idxF F.xa (fun c => strEq c.name sn) = (c : Int)) (hcx : c < F.xa.length) (hs : v.s.size < 1000000000) (hok : colOk F.xa c v = true) :
  Ctr Tryz.prog nO 30 [.o (.p 1 q 0 0 0), .o (.v (.int .i64 (t : Int))), .o (.v (.int .i64 id)), .o (.v (.string sn)), .a [.v (.int .i64 v.k), .v (.int .i64 v.n), .v (.string v.s)]] [.as (dbA q l)] Unit (fun _ => True) (fun _ => .o (.v (.int .i64 0))) (fun _ => [.as (dbA q (l.set t (F, s.put j c v)))]) :=
 ctr_box (ψ := dbP l) (L := dbL q) (E := []) (R' := Unit) (ψ' := fun _ => dbP (l.set t (F, s.put j c v))) (L' := fun _ => dbL q) (E' := fun _ => []) [0, 1, 2, 3, 4] [0, 1, 2, 3, 4] (fun y _ => ()) (fun y r => { y with xs := y.xs.set t ((y.xs.getD t dXr).put j c v) })
  (fun y hy => rset_ctr (q := q) (qS := y.qS) (qR := y.qR) (qN := y.qN) (xs := y.xs) (mR := y.mR) (t := t) (id := id) (sn := sn) (v := v) (mS := y.mS) (mN := y.mN) (j := j) (c := c) (hy.at e).1 (hy.ok t (hy.at e).1) (by have h := hj; rw [<- (hy.at e).2.2] at h; simpa [Xr.s] using h) (by rw [(hy.at e).2.2]; exact hp) (by rw [(hy.at e).2.1]; exact hc) (by rw [(hy.at e).2.1]; exact hcx) hs (by rw [(hy.at e).2.1]; exact hok))
  (fun y => ⟨by kernel_rfl, by kernel_rfl⟩)
  (fun y r hy hr => ⟨trivial, rfl, hy.put ((hy.ok t (hy.at e).1).put (by have h := hj; rw [<- (hy.at e).2.2] at h; simpa [Xr.s] using h)) _ (by rw [Xr.put_s, (hy.at e).2.2]; exact congrArg (fun F => (F, s.put j c v)) (hy.at e).2.1)⟩)
  (fun y r => ⟨by kernel_rfl, by kernel_rfl⟩)
theorem dinsF_ctr {q t : Nat} {l : List (Fm × Ts)} {F : Fm} {s : Ts} {vs : List Va} {qv cv : Nat} {zv : Bool} {tv : TypeId} {mv : Md}  (e : l[t]? = some (F, s)) (hzv : zv = true -> vs.length = 0) (hlv : vs.length < 1000000) (hvl : vs.length ≠ F.xa.length) :
  Ctr Tryz.prog nO 28 [.o (.p 1 q 0 0 0), .o (.v (.int .i64 (t : Int))), .o (.s 6 qv 3 0 vs.length cv zv)] [.as (dbA q l), vc eV 6 qv vs tv mv zv] Unit (fun _ => True) (fun _ => .t [(false, [.v (.int .i64 0)]), (false, [.v (.int .i64 1)])]) (fun _ => [.as (dbA q l), vc eV 6 qv vs tv mv zv]) :=
 ctr_box (ψ := dbP l) (L := dbL q) (E := [vc eV 6 qv vs tv mv zv]) (R' := Unit) (ψ' := fun _ => dbP l) (L' := fun _ => dbL q) (E' := fun _ => [vc eV 6 qv vs tv mv zv]) [0, 1, 2, 3, 4, 5] [0, 1, 2, 3, 4, 5] (fun y _ => ()) (fun y r => y)
  (fun y hy => ctr_map (rinsF_ctr (q := q) (qS := y.qS) (qR := y.qR) (qN := y.qN) (xs := y.xs) (mS := y.mS) (mR := y.mR) (mN := y.mN) (t := t) (vs := vs) (qv := qv) (cv := cv) (zv := zv) (tv := tv) (mv := mv) (hy.at e).1 (hy.ok t (hy.at e).1) hzv hlv (by rw [(hy.at e).2.1]; exact hvl)) id (φ' := fun _ => True) (res' := fun _ => .t [(false, [.v (.int .i64 0)]), (false, [.v (.int .i64 1)])]) (post' := fun _ => dbL q y ++ [vc eV 6 qv vs tv mv zv]) fun r _ => ⟨trivial, rfl, rfl⟩)
  (fun y => ⟨by kernel_rfl, by kernel_rfl⟩)
  (fun y r hy hr => ⟨trivial, rfl, hy⟩)
  (fun y r => ⟨by kernel_rfl, by kernel_rfl⟩)
theorem dinsT_ctr {q t : Nat} {l : List (Fm × Ts)} {F : Fm} {s : Ts} {vs : List Va} {qv cv : Nat} {zv : Bool} {tv : TypeId} {mv : Md} {c : Nat} (e : l[t]? = some (F, s)) (hzv : zv = true -> vs.length = 0) (hlv : vs.length < 1000000) (hvl : vs.length = F.xa.length) (hc1 : c < vs.length) (hc2 : colOk F.xa c (vs.getD c eV.d) = false) (hc3 : ∀ i, i < c -> colOk F.xa i (vs.getD i eV.d) = true) (hsz : ∀ i, i < vs.length -> (vs.getD i eV.d).s.size < 1000000000) :
  Ctr Tryz.prog nO 28 [.o (.p 1 q 0 0 0), .o (.v (.int .i64 (t : Int))), .o (.s 6 qv 3 0 vs.length cv zv)] [.as (dbA q l), vc eV 6 qv vs tv mv zv] Unit (fun _ => True) (fun _ => .t [(false, [.v (.int .i64 0)]), (false, [.v (.int .i64 4)])]) (fun _ => [.as (dbA q l), vc eV 6 qv vs tv mv zv]) :=
 ctr_box (ψ := dbP l) (L := dbL q) (E := [vc eV 6 qv vs tv mv zv]) (R' := Unit) (ψ' := fun _ => dbP l) (L' := fun _ => dbL q) (E' := fun _ => [vc eV 6 qv vs tv mv zv]) [0, 1, 2, 3, 4, 5] [0, 1, 2, 3, 4, 5] (fun y _ => ()) (fun y r => y)
  (fun y hy => ctr_map (rinsT_ctr (q := q) (qS := y.qS) (qR := y.qR) (qN := y.qN) (xs := y.xs) (mS := y.mS) (mR := y.mR) (mN := y.mN) (t := t) (vs := vs) (qv := qv) (cv := cv) (zv := zv) (tv := tv) (mv := mv) (c := c) (hy.at e).1 (hy.ok t (hy.at e).1) hzv hlv (by rw [(hy.at e).2.1]; exact hvl) hc1 (by rw [(hy.at e).2.1]; exact hc2) (by rw [(hy.at e).2.1]; exact hc3) hsz) id (φ' := fun _ => True) (res' := fun _ => .t [(false, [.v (.int .i64 0)]), (false, [.v (.int .i64 4)])]) (post' := fun _ => dbL q y ++ [vc eV 6 qv vs tv mv zv]) fun r _ => ⟨trivial, rfl, rfl⟩)
  (fun y => ⟨by kernel_rfl, by kernel_rfl⟩)
  (fun y r hy hr => ⟨trivial, rfl, hy⟩)
  (fun y r => ⟨by kernel_rfl, by kernel_rfl⟩)
theorem dins_ctr {q t : Nat} {l : List (Fm × Ts)} {F : Fm} {s : Ts} {vs : List Va} {qv cv : Nat} {zv : Bool} {tv : TypeId} {mv : Md}  (e : l[t]? = some (F, s)) (hzv : zv = true -> vs.length = 0) (hlv : vs.length < 1000000) (hvl : vs.length = F.xa.length) (hok : ∀ i, i < vs.length -> colOk F.xa i (vs.getD i eV.d) = true) (hsz : ∀ i, i < vs.length -> (vs.getD i eV.d).s.size < 1000000000) (hn : s.next < 1000000) (hr0 : s.rows.length + 1 < 100000) :
  Ctr Tryz.prog nO 28 [.o (.p 1 q 0 0 0), .o (.v (.int .i64 (t : Int))), .o (.s 6 qv 3 0 vs.length cv zv)] [.as (dbA q l), vc eV 6 qv vs tv mv zv] Unit (fun _ => True) (fun _ => .t [(false, [.v (.int .i64 (s.next : Int))]), (false, [.v (.int .i64 0)])]) (fun _ => [.as (dbA q (l.set t (F, s.ins vs))), vc eV 6 qv vs tv mv zv]) :=
 ctr_box (ψ := dbP l) (L := dbL q) (E := [vc eV 6 qv vs tv mv zv]) (R' := Unit) (ψ' := fun _ => dbP (l.set t (F, s.ins vs))) (L' := fun _ => dbL q) (E' := fun _ => [vc eV 6 qv vs tv mv zv]) [0, 1, 2, 3, 4, 5] [0, 1, 2, 3, 4, 5] (fun y _ => ()) (fun y r => { y with xs := y.xs.set t ((y.xs.getD t dXr).ins r.1 r.2 vs) })
  (fun y hy => ctr_map (rins_ctr (q := q) (qS := y.qS) (qR := y.qR) (qN := y.qN) (xs := y.xs) (mS := y.mS) (mR := y.mR) (mN := y.mN) (t := t) (vs := vs) (qv := qv) (cv := cv) (zv := zv) (tv := tv) (mv := mv) (hy.at e).1 (hy.ok t (hy.at e).1) hzv hlv (by rw [(hy.at e).2.1]; exact hvl) (by rw [(hy.at e).2.1]; exact hok) hsz (by have h := hn; rw [<- (hy.at e).2.2] at h; exact h) hy.mR hy.mN) id (φ' := fun _ => True) (res' := fun _ => .t [(false, [.v (.int .i64 (s.next : Int))]), (false, [.v (.int .i64 0)])]) (post' := fun r => dbL q { y with xs := y.xs.set t ((y.xs.getD t dXr).ins r.1 r.2 vs) } ++ [vc eV 6 qv vs tv mv zv]) fun r _ => ⟨trivial, (by show SV.den (.t [(false, [.v (.int .i64 ((y.xs.getD t dXr).s.next : Int))]), _]) = _; rw [(hy.at e).2.2]), rfl⟩)
  (fun y => ⟨by kernel_rfl, by kernel_rfl⟩)
  (fun y r hy hr => ⟨trivial, rfl, hy.put ((hy.ok t (hy.at e).1).ins (by rw [(hy.at e).2.1]; exact hvl) (by have h := hr0; rw [<- (hy.at e).2.2] at h; simpa [Xr.s] using h)) _ (by rw [Xr.ins_s, (hy.at e).2.2]; exact congrArg (fun F => (F, s.ins vs)) (hy.at e).2.1)⟩)
  (fun y r => ⟨by kernel_rfl, by kernel_rfl⟩)
theorem lkP.ok {xs ys : List Xr} (h : lkP xs ys) (hx : ∀ i, i < xs.length -> xP (xs.getD i dXr)) : ∀ i, i < ys.length -> xP (ys.getD i dXr) := fun i hi => by
 obtain ⟨qr, ws, e, hw⟩ := h.lk i hi
 have h1 := hx i (Nat.lt_of_lt_of_le hi h.le)
 rw [e]
 refine ⟨h1.fm, h1.za, h1.zA, h1.da, ?_, fun w hm => ?_⟩
 ·show ws.length < _
  have := congrArg List.length hw
  rw [List.length_map, List.length_map] at this
  rw [this]; exact h1.wl
 ·have h2 : w.2 ∈ ws.map Prod.snd := List.mem_map_of_mem hm
  rw [hw] at h2
  obtain ⟨w2, h3, h4⟩ := List.mem_map.1 h2
  show w.2.2.length = _
  rw [<- h4]; exact h1.rl w2 h3
theorem lkP.tb {xs ys : List Xr} (h : lkP xs ys) (hl : ys.length = xs.length) : xs.map eTb.f = ys.map eTb.f := by
 apply List.ext_getElem
 ·rw [List.length_map, List.length_map, hl]
 ·intro j h1 h2
  have hj : j < ys.length := by simpa using h2
  have hj2 : j < xs.length := by omega
  obtain ⟨qr, ws, e, hw⟩ := h.lk j hj
  rw [getD_at hj, getD_at hj2] at e
  rw [List.getElem_map, List.getElem_map, e]; rfl
theorem lkP.nx {xs ys : List Xr} (h : lkP xs ys) (hl : ys.length = xs.length) : (xs.map fun x : Xr => (x.n : Int)) = ys.map fun x : Xr => (x.n : Int) := by
 apply List.ext_getElem
 ·rw [List.length_map, List.length_map, hl]
 ·intro j h1 h2
  have hj : j < ys.length := by simpa using h2
  have hj2 : j < xs.length := by omega
  obtain ⟨qr, ws, e, hw⟩ := h.lk j hj
  rw [getD_at hj, getD_at hj2] at e
  rw [List.getElem_map, List.getElem_map, e]; rfl
theorem rcopy2_ctr {q qS qR qN : Nat} {xs : List Xr} {mS mR mN : Md} (hxp : ∀ i, i < xs.length -> xP (xs.getD i dXr)) (hxl : xs.length < 1000000) :
  Ctr Tryz.prog nO 26 [.o (.p 1 q 0 0 0)] [.blk 1 q [.s 2 qS 4 0 xs.length xs.length xs.isEmpty, .s 3 qR 1 0 xs.length xs.length xs.isEmpty, .s 4 qN 1 0 xs.length xs.length xs.isEmpty] 66 .own, vc eTb 2 qS xs 31 mS xs.isEmpty, vc eRs 3 qR xs 96 mR xs.isEmpty, vc eI 4 qN (xs.map fun x : Xr => (x.n : Int)) 3 mN xs.isEmpty, .as (bigA xA xs)] (Nat × Nat × Nat × Nat × List Xr) (fun r => lkP xs r.2.2.2.2 /\ r.2.2.2.2.length = xs.length) (fun r => .o (.p 11 r.1 0 0 0)) (fun r => [.blk 1 q [.s 2 qS 4 0 xs.length xs.length xs.isEmpty, .s 3 qR 1 0 xs.length xs.length xs.isEmpty, .s 4 qN 1 0 xs.length xs.length xs.isEmpty] 66 .own, vc eTb 2 qS xs 31 mS xs.isEmpty, vc eRs 3 qR xs 96 mR xs.isEmpty, vc eI 4 qN (xs.map fun x : Xr => (x.n : Int)) 3 mN xs.isEmpty, .as (bigA xA xs), .blk 11 r.1 [.s 12 r.2.1 4 0 r.2.2.2.2.length r.2.2.2.2.length r.2.2.2.2.isEmpty, .s 13 r.2.2.1 1 0 r.2.2.2.2.length r.2.2.2.2.length r.2.2.2.2.isEmpty, .s 14 r.2.2.2.1 1 0 r.2.2.2.2.length r.2.2.2.2.length r.2.2.2.2.isEmpty] 66 .own, vc eTb 12 r.2.1 r.2.2.2.2 31 .grown r.2.2.2.2.isEmpty, vc eRs 13 r.2.2.1 r.2.2.2.2 96 .grown r.2.2.2.2.isEmpty, vc eI 14 r.2.2.2.1 (r.2.2.2.2.map fun x : Xr => (x.n : Int)) 3 .grown r.2.2.2.2.isEmpty, .as (bigA xA r.2.2.2.2)]) :=
 ctr_post (rcopy_ctr (q := q) (qS := qS) (qR := qR) (qN := qN) (mS := mS) (mR := mR) (mN := mN) hxp hxl) fun r hr => by
  have he : xs.isEmpty = r.2.2.2.2.isEmpty := by rw [Bool.eq_iff_iff, List.isEmpty_iff_length_eq_zero, List.isEmpty_iff_length_eq_zero, hr.2]
  have t1 := (List.cons.inj (vc_re (E := eTb) (g := 12) (q := r.2.1) (t := 31) (m := .grown) (hr.1.tb hr.2) he)).1
  have t2 := (List.cons.inj (vc_re (E := eI) (g := 14) (q := r.2.2.2.1) (t := 3) (m := .grown) (congrArg (List.map eI.f) (hr.1.nx hr.2)) he)).1
  refine ge_re ?_
  simp only [List.map_cons, List.map_nil]
  rw [t1, t2, he, hr.2]
theorem dcopy0_ctr {q : Nat} {l : List (Fm × Ts)} :
  Ctr Tryz.prog nO 26 [.o (.p 1 q 0 0 0)] [.as (dbA q l)] (Nat × Dr) (fun r => dbP l r.2) (fun r => .o (.p 11 r.1 0 0 0)) (fun r => .as (dbA q l) :: dbL r.1 r.2) :=
 ctr_box (ψ := dbP l) (L := dbL q) (E := []) (R' := Nat × Dr) (ψ' := fun _ => dbP l) (L' := fun _ => dbL q) (E' := fun r => dbL r.1 r.2) [0, 1, 2, 3, 4] [0, 1, 2, 3, 4, 5, 6, 7, 8, 9] (fun y r => (r.1, ⟨r.2.1, r.2.2.1, r.2.2.2.1, .grown, .grown, .grown, r.2.2.2.2⟩)) (fun y _ => y)
  (fun y hy => rcopy2_ctr (q := q) (qS := y.qS) (qR := y.qR) (qN := y.qN) (xs := y.xs) (mS := y.mS) (mR := y.mR) (mN := y.mN) hy.ok (by have := hy.le; omega))
  (fun y => ⟨by kernel_rfl, by kernel_rfl⟩)
  (fun y r hy hr => ⟨⟨(hr.1.same hr.2).trans hy.ls, hr.1.ok hy.ok, rfl, rfl, by show r.2.2.2.2.length < _; rw [hr.2]; exact hy.le⟩, rfl, hy⟩)
  (fun y r => ⟨by kernel_rfl, by kernel_rfl⟩)
theorem dcopy_ctr {q : Nat} {l : List (Fm × Ts)} :
  Ctr Tryz.prog nO 26 [.o (.p 1 q 0 0 0)] [.as (dbA q l)] Nat (fun _ => True) (fun r => .o (.p 11 r 0 0 0)) (fun r => [.as (dbA r l), .as (dbA q l)]) :=
 ctr_shut (R' := Nat) (φ' := fun _ => True) (res' := fun r => .o (.p 11 r 0 0 0)) (ψ' := fun _ => dbP l) (L' := fun r => dbL r) (E' := fun _ => [.as (dbA q l)]) [] [1, 2, 3, 4, 5, 0] (fun r => r.1) (fun r => r.2) dcopy0_ctr
  (fun r hr => ⟨trivial, rfl, hr⟩)
  (fun r => ⟨by kernel_rfl, by kernel_rfl⟩)
end Go.Proofs.YthkoolfmealabaaGreat
