/-
  U1.
-/
import Derived.Test.YtagidoadfajpgaaGreatN7
import Derived.Test.YtagidoadfajpgaaGreatN17
import Derived.Test.YtagidoadfajpgaaGreatN18
import Derived.Test.YtagidoadfajpgaaGreatN1
import Derived.ProofKit
import Derived.Sort.Grow
import Derived.Test.YtagidoadfajpgaaGreatN19
namespace Go.Proofs.YtagidoadfajpgaaGreat
set_option maxHeartbeats 4000000
open Go.Abs Go.RowKit Go.Sort Go.Lib
def H1 (m : List Sp) : Array Value := (m.flatMap fun s => [.int .i64 s.1, .int .i64 s.2]).toArray
theorem G3 {m : List Sp} : (H1 m).size = m.length * 2 := by
 unfold H1
 induction m with
 | nil => rfl
 | cons s m ih => simp at ih ⊢; omega
theorem b0E {m : List Sp} {i : Nat} {s : Sp} (h : m[i]? = some s) : (H1 m)[i * 2]? = some (.int .i64 s.1) /\ (H1 m)[i * 2 + 1]? = some (.int .i64 s.2) := by
 induction m generalizing i with
 | nil => simp at h
 | cons u m ih =>
  cases i with
  | zero => cases h; exact ⟨rfl, rfl⟩
  | succ i =>
   have := ih (i := i) (by simpa using h)
   unfold H1 at this ⊢
   simp only [List.flatMap_cons, List.getElem?_toArray] at this ⊢
   rw [show (i + 1) * 2 = i * 2 + 2 by omega, show i * 2 + 2 + 1 = i * 2 + 1 + 2 by omega]
   simpa using this
theorem a7n (x y : Int × Int) (W : World) (hx : 0 <= x.1 /\ x.1 <= 65536) (hy : 0 <= y.1 /\ y.1 <= 65536) : Calls Tryz.prog 145 #[.agg #[.int .i64 x.1, .int .i64 x.2], .agg #[.int .i64 y.1, .int .i64 y.2]] W fun e w' => e = .returned (.int .i64 (x.1 - y.1)) /\ ∃ q os', w' = grow (W.drewN q) os' := by
 go_enter Tryz.func145, Tryz.ntmps145
 go_wp2
 go_ret
 exact ⟨rfl, 0, _, by rw [alloc_eq_grow, alloc_eq_grow, grow_grow]; rfl⟩
variable {nO : Nat}
set_option maxRecDepth 8000
abbrev PtS := { s : Int × Int // 0 <= s.1 /\ s.1 <= 65536 }
instance : Inhabited PtS := ⟨⟨(0, 0), by decide⟩⟩
def b7A (x : PtS) : List Value := [.int .i64 x.1.1, .int .i64 x.1.2]
def cfP (x y : PtS) : Int := x.1.1 - y.1.1
theorem ltP (x y : PtS) : ltOf cfP x y = decide (x.1.1 < y.1.1) := by
 unfold ltOf cfP
 by_cases h : x.1.1 < y.1.1
 ·rw [decide_eq_true h, decide_eq_true (by omega)]
 ·rw [decide_eq_false h, decide_eq_false (by omega)]
theorem b8I : SWO (ltOf cfP) where
 irrefl x := by rw [ltP]; simp
 trans x y z h1 h2 := by rw [ltP] at *; simp at *; omega
 ntrans x y z h1 h2 := by rw [ltP] at *; simp at *; omega
theorem b7o (d : Array PtS) : flatK b7A 2 d = H1 (d.toList.map (·.1)) := by
 apply Array.ext
 ·rw [size_flatK, G3]; simp
 ·intro i h1 h2
  rw [size_flatK] at h1
  have hd : i / 2 < d.size := by omega
  have hs : (d.toList.map (·.1))[i / 2]? = some (d[i / 2]).1 := by simp [hd]
  obtain ⟨e1, e2⟩ := b0E hs
  have hg := get_flatK b7A 2 d i h1
  rw [getElem!_pos _ i (by rw [size_flatK]; exact h1)] at hg
  rw [hg, getElem!_pos d (i / 2) hd]
  have hi : i = i / 2 * 2 + i % 2 := by omega
  rcases (by omega : i % 2 = 0 ∨ i % 2 = 1) with h | h
  ·rw [h]
   have : i / 2 * 2 = i := by omega
   rw [this] at e1
   rw [Array.getElem?_eq_getElem h2] at e1
   injection e1 with e1
   rw [e1]; rfl
  ·rw [h]
   have : i / 2 * 2 + 1 = i := by omega
   rw [this] at e2
   rw [Array.getElem?_eq_getElem h2] at e2
   injection e2 with e2
   rw [e2]; rfl
def b7n : Value := .func (.func 145) #[] #[]
theorem a8l {m : List Sp} (hm : ∀ s ∈ m, 0 <= s.1 /\ s.1 <= 65536) (hl : m.length < 90000) : ∃ m' : List Sp, m'.Perm m /\ m'.Pairwise (fun s u => s.1 <= u.1) /\
  ∀ {nO d cap : Nat} {A : World}, A.heap[d]? = some (.cells (H1 m) 171 (1, 0)) -> 0 < cap -> u9 Tryz.prog nO 144 #[.slice (some ⟨d, 0, none⟩) m.length cap, b7n] A undef (turn A d (.cells (H1 m') 171 (1, 0))) := by
 obtain ⟨d, hd⟩ : ∃ d : Array PtS, d.toList.map (·.1) = m := ⟨(m.attach.map fun s => (⟨s.1, hm s.1 s.2⟩ : PtS)).toArray, by simp [Function.comp_def, List.attach_map_subtype_val]⟩
 have hsz : d.size = m.length := by rw [<- hd]; simp
 obtain ⟨h1, h2⟩ := pdq_sorts (ltOf cfP) b8I d 0 d.size (Lib.bitLen d.size) true true (Nat.zero_le _) (Nat.le_refl _) (Or.inl rfl)
 generalize hd' : pdq (ltOf cfP) d 0 d.size (Lib.bitLen d.size) true true = d' at h1 h2
 obtain ⟨hs', _, hp⟩ := h1
 have hp' : d'.toList.Perm d.toList := by
  have e1 : d'.extract 0 d.size = d' := by rw [<- hs']; simp
  have e2 : d.extract 0 d.size = d := by simp
  rwa [e1, e2] at hp
 have hm' : (d'.toList.map (·.1)).Perm m := by rw [<- hd]; exact hp'.map _
 refine ⟨d'.toList.map (·.1), hm', ?_, fun {nO dd cap A} hA hcap => ?_⟩
 ·rw [List.pairwise_iff_getElem]
  intro i j hi hj hij
  have hi' : i < d'.size := by simpa using hi
  have hj' : j < d'.size := by simpa using hj
  have := h2 i j (Nat.zero_le _) hij (by omega)
  rw [ltP, getElem!_pos d' j hj', getElem!_pos d' i hi'] at this
  simp at this
  simpa using this
 ·have pl : ∀ {m : List Sp} (i : Nat) x, (H1 m)[i]? = some x -> r7 x = true := fun {m} i x hx => by
   have hx' : x ∈ (H1 m).toList := by
    have := Array.mem_of_getElem? hx
    simpa using this
   simp only [H1, List.mem_flatMap] at hx'
   obtain ⟨s, _, hs⟩ := hx'
   simp only [List.mem_cons, List.not_mem_nil, or_false] at hs
   rcases hs with rfl | rfl <;> rfl
  have hlen' : (d'.toList.map (·.1)).length = m.length := hm'.length_eq
  refine a8r (g := b7n) rfl hA (.inr rfl) (by rw [G3, G3, hlen']) (.inl hcap) pl pl fun W blk off cap' cw tw fw hW hfw hcells => ?_
  have hb : blk < W.heap.size := (Array.getElem?_eq_some_iff.1 hW).1
  have hH : HoldsK b7A 2 W blk off d := by
   unfold HoldsK
   rw [b7o, hd]
   exact b2I hW hfw hcells
  have eg : ∀ args w, (callFunc 145 args).run Tryz.prog w = .ok (.enter 145 args) w := enters_of Tryz.func145 (by kernel_rfl) rfl
  have := Go.Proofs.Tryz.slices_SortFunc_eq (α := PtS) 2 (a0I (n := 2) rfl) (p8 (g := true) rfl) b7A (fun _ => rfl) (fun x v hv => by simp [b7A] at hv; rcases hv with rfl | rfl <;> rfl) cfP b8I 145 #[] blk off cap' d W eg (fun _ _ _ _ x y => a7n x.1 y.1 _ x.2 y.2) hH hb (by omega)
  rw [hsz] at this
  refine this.mono ?_
  rintro e W' ⟨rfl, n, os, rfl⟩
  refine ⟨rfl, ?_⟩
  rw [<- hsz, hd']
  unfold sortWorldK putRowK
  rw [b7o]
  refine a4s hb fun cw' tw' fw' h h0 => ?_
  rw [hW] at h; cases h
  rw [G3, hlen'] at h0 ⊢
  have hlt : m.length * 2 - 1 < (H1 m).size := by rw [G3]; omega
  have := hcells (m.length * 2 - 1) _ (Array.getElem?_eq_getElem hlt)
  have := (Array.getElem?_eq_some_iff.1 this).1
  omega
end Go.Proofs.YtagidoadfajpgaaGreat
namespace Go.Proofs.YtagidoadfajpgaaGreat
open Go.Abs
variable {nO : Nat}
set_option maxRecDepth 8000
attribute [local irreducible] GP ruP nxP acS gst cdP loP j6 m9 m8 enP caA n5 lgP agN
theorem b39 (l : List Int) : a9C l = b7 eI.f l := by
 unfold a9C b7
 congr 1
 induction l with
 | nil => rfl
 | cons x l ih => simp [ih, eI, C1.den]
theorem a6p (l : List Sp) : H1 l = b7 eP.f l := rfl
theorem b2m {α : Type} {xs : List α} : 0 < xs.length ∨ n8 xs = .own := by
 cases xs with
 | nil => exact .inr rfl
 | cons x l => exact .inl (Nat.succ_pos _)
theorem b1K {q : Nat} {z : Bool} {xs : List Int} {t : TypeId} {m : Md} (hm : m.mine = true) (hc : 0 < xs.length ∨ m = .own) (hl : xs.length < 1000000) : Ctr Tryz.prog nO 148 [.o (.s 1 q 1 0 xs.length xs.length z)] [vc eI 1 q xs t m z] (Unit) (fun _ => True) (fun r => .o (.v undef)) (fun r => [vc eI 1 q (d7 xs) t m z]) := fun F A h => by
 have h := As.unE h
 cases z with
 | true =>
  obtain ⟨hF, rfl⟩ := h
  subst hF
  obtain ⟨_, A', F', _, S, h2, m⟩ := b6K (nO := nO) Ft.no A rfl
  exact ⟨(), A', F', trivial, S, As.addE ⟨h2, by simp [d7]⟩, m⟩
 | false =>
  obtain ⟨hw, o1, o2, fz, hfz, hb⟩ := h
  have hb' := hb
  rw [<- b39] at hb'
  have S := b1O (P := Tryz.prog) (nO := nO) (cap := xs.length) (Go.Proofs.Tryz.lays189) hb' (a2r hm hfz) (hc.imp id fun e => by subst e; exact hfz) (by omega)
  obtain ⟨g1, g2⟩ := a0t (cs' := b7 eI.f (d7 xs)) (A' := turn A q (.cells (a9C (a3f xs)) t fz)) hm ⟨o1, o2, fz, hfz, hb⟩ (fun k hk => w0 hk) r9 (fun fz' h2 => by
   rw [hb] at h2; cases h2; rw [K8 hb, b39]; rfl)
  refine ⟨(), _, F, trivial, ?_, As.addE ⟨hw, g1⟩, g2⟩
  have e : (⟨q, 0 * 1, none⟩ : Addr) = ⟨q, 0, none⟩ := by rw [Nat.zero_mul]
  have : (SV.o (.s 1 q 1 0 xs.length xs.length false)).den = .slice (some ⟨q, 0, none⟩) xs.length xs.length := by
   show Value.slice (some ⟨q, 0 * 1, none⟩) _ _ = _
   rw [e]
  simp only [List.map_cons, List.map_nil, this]
  exact S
theorem a8m {q : Nat} {z : Bool} {xs : List Sp} (hx : ∀ s ∈ xs, 0 <= s.1 /\ s.1 <= 65536) (hzn : z = false -> 0 < xs.length) (hl : xs.length < 90000) : Ctr Tryz.prog nO 144 [.o (.s 1 q 2 0 xs.length xs.length z), .o (.v (.func (.func 145) #[] #[]))] [vc eP 1 q xs 171 .grown z] ((List Sp)) (fun r => r.Perm xs /\ r.Pairwise fun s u => s.1 <= u.1) (fun r => .o (.v undef)) (fun r => [vc eP 1 q r 171 .grown z]) := fun F A h => by
 have h := As.unE h
 cases z with
 | true =>
  obtain ⟨hF, rfl⟩ := h
  subst hF
  obtain ⟨_, A', F', _, S, h2, m⟩ := b4C (nO := nO) (y := .func (.func 145) #[] #[]) Ft.no A rfl
  exact ⟨[], A', F', ⟨.refl _, .nil⟩, S, As.addE ⟨h2, rfl⟩, m⟩
 | false =>
  obtain ⟨hw, o1, o2, fz, hfz, hb⟩ := h
  cases hfz
  obtain ⟨m', hp, hs, H⟩ := a8l hx hl
  have hb' := hb
  rw [<- a6p] at hb'
  have S := H (nO := nO) (cap := xs.length) hb' (hzn rfl)
  obtain ⟨g1, g2⟩ := a0t (cs' := b7 eP.f m') (A' := turn A q (.cells (H1 m') 171 (1, 0))) rfl ⟨o1, o2, (1, 0), rfl, hb⟩ (fun k hk => w0 hk) r9 (fun fz' h2 => by
   rw [hb] at h2; cases h2; rw [K8 hb, a6p])
  refine ⟨m', _, F, ⟨hp, hs⟩, ?_, As.addE ⟨hw, g1⟩, g2⟩
  have e : (⟨q, 0 * 2, none⟩ : Addr) = ⟨q, 0, none⟩ := by rw [Nat.zero_mul]
  have : (SV.o (.s 1 q 2 0 xs.length xs.length false)).den = .slice (some ⟨q, 0, none⟩) xs.length xs.length := by
   show Value.slice (some ⟨q, 0 * 2, none⟩) _ _ = _
   rw [e]
  simp only [List.map_cons, List.map_nil, this]
  exact S
end Go.Proofs.YtagidoadfajpgaaGreat
namespace Go.Proofs.YtagidoadfajpgaaGreat
set_option maxHeartbeats 4000000
open Go.Abs
variable {nO : Nat}
set_option maxRecDepth 8000
attribute [local irreducible] GP ruP nxP acS gst cdP loP j6 m9 m8 enP caA n5 lgP agN
theorem b6U {qa ca : Nat} {a : List Sp} {ta : TypeId} {ma : Md} {qb cb : Nat} {b : List Sp} {tb : TypeId} {mb : Md} (ha : WF (-1) a) (hb : WF (-1) b) : Ctr Tryz.prog nO 107 [.a [.s 1 qa 2 0 a.length ca a.isEmpty], .a [.s 2 qb 2 0 b.length cb b.isEmpty]] [vc eP 1 qa a ta ma a.isEmpty, vc eP 2 qb b tb mb b.isEmpty] ((Nat) × (List Sp)) (fun r => b7P a b r.2) (fun r => .a [.s 3 r.1 2 0 r.2.length r.2.length r.2.isEmpty]) (fun r => [vc eP 3 r.1 r.2 171 .grown r.2.isEmpty, vc eP 1 qa a ta ma a.isEmpty, vc eP 2 qb b tb mb b.isEmpty]) := by
 refine fs 100 (fun B => ?_)
 have hab : (a ++ b).length = a.length + b.length := List.length_append
 have la := D0 ha
 have lb := D0 hb
 have hx : ∀ s ∈ a ++ b, 0 <= s.1 /\ s.1 <= 65536 := fun s h => by rcases List.mem_append.1 h with h | h; exact a5u ha s h; exact a5u hb s h
 refine g0 fun q101 => g0 fun q102 => cl (@a7k _ (q102 103) 122 .own qa ca a ta ma qb cb b tb mb (by omega)) [0, 4, 5] [(1, 103), (2, 1), (3, 2), (4, 104)] 105 fun q4103 _ => g0 fun _ => g0 fun _ => cl (a8m (q := q4103) (z := (a ++ b).isEmpty) (xs := (a ++ b)) (by assumption) (fun h => K4 h) (by simp only [List.length_append]; omega)) [0] [(1, 104)] 105 (fun L h106 => ?_)
 try dsimp only at h106
 obtain ⟨hp, hs⟩ := h106
 have hlL := hp.length_eq
 rw [hab] at hlL
 refine g0 fun q107 => g0 fun _ => gh (e7 106 2 eP.f eP.d 171 .grown) [] [] 107 fun _ _ => gh (b6 (l := [vc eP 106 0 ([] : List Sp) 171 .grown true, .blk 105 (q107 105) [.v (.slice none 0 0)] 124 .own]) (l' := [vc eP 106 0 ([] : List Sp) 171 .grown (([] : List Sp).isEmpty), .blk 105 (q107 105) [.s 106 0 2 0 (([] : List Sp).length) (([] : List Sp).length) (([] : List Sp).isEmpty)] 124 .own]) rfl) [0, 1] [] 107 fun _ _ => lp ((Nat) × (Nat)) [4, 6, 17, 18] (fun r => [(19, .o (.i (r.1 : Int)))]) [2, 3, 4, 5, 6, 7, 8] (fun r => [.blk 105 (q107 105) [.s 106 r.2 2 0 ((U8 (L.take r.1)).length) ((U8 (L.take r.1)).length) ((U8 (L.take r.1)).isEmpty)] 124 .own, vc eP 106 r.2 (U8 (L.take r.1)) 171 .grown ((U8 (L.take r.1)).isEmpty)]) 127 (fun r => r.1 <= L.length) (fun r => L.length - r.1) (⟨0, 0⟩) (Nat.zero_le _) [1, 0] (fun ⟨i, pm⟩ hx ag109 => ?_)
 try dsimp only at hx
 have hi := hx
 have hal := b6c L i
 refine g0 fun _ => cdD ((i : Int) < (((a ++ b).length : Nat) : Int)) (fun h1 => ?_) (fun h1 => ?_)
 ·refine go (fun q111 => (o4 (nz i) (by omega : (i : Int) < (((a ++ b).length : Nat) : Int)) (zfe (by omega) : (a ++ b).isEmpty = false) (by omega : i < L.length))) fun q111 => go (fun _ => (o4 (by decide : (0 : Int) <= 0) (by decide : (0 : Int) < 2) (by decide : (0 : Int) <= 1) (by decide : (1 : Int) < 2))) fun _ => cl (@Z3 _ (q107 105) pm (U8 (L.take i)) ((L.getD i eP.d).1) ((L.getD i eP.d).2) 124 (by omega)) [1, 2] [(1, 105), (2, 106)] 128 fun p2113 _ => gh (b6 (l := [vc eP 106 p2113 (c8 (U8 (L.take i)) ((L.getD i eP.d).1) ((L.getD i eP.d).2)) 171 .grown ((c8 (U8 (L.take i)) ((L.getD i eP.d).1) ((L.getD i eP.d).2)).isEmpty), .blk 105 (q107 105) [.s 106 p2113 2 0 ((c8 (U8 (L.take i)) ((L.getD i eP.d).1) ((L.getD i eP.d).2)).length) ((c8 (U8 (L.take i)) ((L.getD i eP.d).1) ((L.getD i eP.d).2)).length) ((c8 (U8 (L.take i)) ((L.getD i eP.d).1) ((L.getD i eP.d).2)).isEmpty)] 124 .own]) (l' := [vc eP 106 p2113 (U8 (L.take (i + 1))) 171 .grown ((U8 (L.take (i + 1))).isEmpty), .blk 105 (q107 105) [.s 106 p2113 2 0 ((U8 (L.take (i + 1))).length) ((U8 (L.take (i + 1))).length) ((U8 (L.take (i + 1))).isEmpty)] 124 .own]) (by rw [b6e (by omega)])) [1, 0] [] 128 fun _ _ => go (fun _ => (o2 (by omega : -9223372036854775808 <= (i : Int) + 1) (by omega : (i : Int) + 1 < 9223372036854775808))) fun _ => ag109 _ _ (⟨i + 1, p2113⟩) (by first | omega | (simp only; omega)) (by dsimp only; exact (by omega)) [1, 0, 3, 4, 5, 6, 7, 8, 9] (by kernel_rfl) (by kernel_rfl)
 ·refine g0 fun _ => rt trivial (⟨pm, (U8 (L.take i))⟩) (by have e : i = L.length := (by omega); rw [e, List.take_length]; exact b8k ha hb hp hs) [1, 4, 5]
end Go.Proofs.YtagidoadfajpgaaGreat
namespace Go.Proofs.YtagidoadfajpgaaGreat
set_option maxHeartbeats 4000000
open Go.Abs
variable {nO : Nat}
set_option maxRecDepth 8000
attribute [local irreducible] GP ruP nxP acS gst cdP loP j6 m9 m8 enP caA n5 lgP agN
theorem a7o {q c : Nat} {z : Bool} {xs : List Int} {t : TypeId} {m : Md} (hz : z = true -> xs.length = 0) (hl : xs.length < 1000000) : Ctr Tryz.prog nO 147 [.o (.s 1 q 1 0 xs.length c z)] [vc eI 1 q xs t m z] ((Nat)) (fun _ => True) (fun r => .o (.s 2 r 1 0 xs.length xs.length z)) (fun r => [vc eI 2 r xs 3 (n8 xs) z, vc eI 1 q xs t m z]) := by
 refine fs 100 fun B => g0 fun _ => g0 fun _ => cd (z == true) (fun h1 => ?_) (fun h1 => ?_)
 ·have h1 : z = true := by simpa using h1
  refine g0 fun _ => gh (e7 100 1 eI.f eI.d 3 (n8 ([] : List (Int)))) [] [] 101 fun _ _ => gh (b6 (l := [vc eI 100 0 ([] : List (Int)) 3 (n8 ([] : List (Int))) true]) (l' := [vc eI 100 0 xs 3 (n8 xs) z]) (by rw [h1, (List.length_eq_zero_iff.1 (hz h1) : xs = [])])) [0] [] 101 fun _ _ => rtv trivial (0) trivial [0, 1] (.o (.v (.slice none 0 0))) (by simp [SV.den, C1.den, h1, hz h1])
 ·have h1 : ¬ (z = true) := by simpa using h1
  have h1 : z = false := by simpa using h1
  refine g0 fun q104 => ap0 eI xs 100 (q104 100) (vc eI 1 q xs t m z) q 0 xs.length c z 101 [0, 1] 102 3 (by omega) L0 fun q105 => g0 fun _ => gh (b6 (l := [vc eI 101 q105 xs 3 (n8 xs) false]) (l' := [vc eI 101 q105 xs 3 (n8 xs) z]) (by rw [h1])) [0] [] 102 fun _ _ => rtv trivial (q105) trivial [0, 1] (.o (.s 101 q105 1 0 xs.length xs.length false)) (by rw [h1]; rfl)
theorem b61 {q c : Nat} {z : Bool} {l : List Int} {t : TypeId} {m : Md} (hz : z = true -> l.length = 0) (hl : l.length < 90000) : Ctr Tryz.prog nO 108 [.o (.s 1 q 1 0 l.length c z)] [vc eI 1 q l t m z] ((Nat)) (fun _ => True) (fun r => .a [.s 3 r 2 0 ((ofL (d7 l)).length) ((ofL (d7 l)).length) ((ofL (d7 l)).isEmpty)]) (fun r => [vc eP 3 r (ofL (d7 l)) 171 .grown ((ofL (d7 l)).isEmpty), vc eI 1 q l t m z]) := by
 refine fs 100 (fun B => ?_)
 have hsl := a8o l
 refine g0 fun q101 => g0 fun _ => cl (@a7o _ q c z l t m (by assumption) (by omega)) [1] [(2, 101)] 102 fun q2103 _ => g0 fun _ => g0 fun _ => cl (b1K (q := q2103) (z := z) (xs := l) (t := 3) (m := (n8 l)) R6 b2m (by omega)) [0] [(1, 101)] 102 fun _ _ => g0 fun q107 => g0 fun _ => gh (e7 103 2 eP.f eP.d 171 .grown) [] [] 104 fun _ _ => gh (b6 (l := [vc eP 103 0 ([] : List Sp) 171 .grown true, .blk 102 (q107 102) [.v (.slice none 0 0)] 124 .own]) (l' := [vc eP 103 0 ([] : List Sp) 171 .grown (([] : List Sp).isEmpty), .blk 102 (q107 102) [.s 103 0 2 0 (([] : List Sp).length) (([] : List Sp).length) (([] : List Sp).isEmpty)] 124 .own]) rfl) [0, 1] [] 104 fun _ _ => lp ((Nat) × (Nat)) [2, 3, 10, 11] (fun r => [(12, .o (.i (r.1 : Int)))]) [2, 3, 4] (fun r => [.blk 102 (q107 102) [.s 103 r.2 2 0 ((ofL ((d7 l).take r.1)).length) ((ofL ((d7 l).take r.1)).length) ((ofL ((d7 l).take r.1)).isEmpty)] 124 .own, vc eP 103 r.2 (ofL ((d7 l).take r.1)) 171 .grown ((ofL ((d7 l).take r.1)).isEmpty)]) 124 (fun r => r.1 <= l.length) (fun r => l.length - r.1) (⟨0, 0⟩) (Nat.zero_le _) [1, 0] (fun ⟨i, pm⟩ hx ag109 => ?_)
 try dsimp only at hx
 have hi := hx
 have hal := b62 (d7 l) i
 refine g0 fun _ => cdD ((i : Int) < (l.length : Int)) (fun h1 => ?_) (fun h1 => ?_)
 ·refine go (fun _ => (o4 (nz i) (by omega : (i : Int) < (l.length : Int)) (zf hz (show 0 < l.length by omega) : z = false) (by omega : i < (d7 l).length))) fun _ => g0 fun _ => cd (and (decide (((d7 l).getD i eI.d) ≥ 0)) (decide (((d7 l).getD i eI.d) < 65536))) (fun h2 => ?_) (fun h2 => ?_)
  ·have h2 : (((d7 l).getD i eI.d) ≥ 0) /\ (((d7 l).getD i eI.d) < 65536) := by simpa using h2
   refine go (fun _ => (o2 (by omega : -9223372036854775808 <= ((d7 l).getD i eI.d) + 1) (by omega : ((d7 l).getD i eI.d) + 1 < 9223372036854775808))) fun _ => cl (@Z3 _ (q107 102) pm (ofL ((d7 l).take i)) ((d7 l).getD i eI.d) (((d7 l).getD i eI.d) + 1) 124 (by omega)) [0, 1] [(1, 102), (2, 103)] 124 fun p2114 _ => gh (b6 (l := [vc eP 103 p2114 (c8 (ofL ((d7 l).take i)) ((d7 l).getD i eI.d) (((d7 l).getD i eI.d) + 1)) 171 .grown ((c8 (ofL ((d7 l).take i)) ((d7 l).getD i eI.d) (((d7 l).getD i eI.d) + 1)).isEmpty), .blk 102 (q107 102) [.s 103 p2114 2 0 ((c8 (ofL ((d7 l).take i)) ((d7 l).getD i eI.d) (((d7 l).getD i eI.d) + 1)).length) ((c8 (ofL ((d7 l).take i)) ((d7 l).getD i eI.d) (((d7 l).getD i eI.d) + 1)).length) ((c8 (ofL ((d7 l).take i)) ((d7 l).getD i eI.d) (((d7 l).getD i eI.d) + 1)).isEmpty)] 124 .own]) (l' := [vc eP 103 p2114 (ofL ((d7 l).take (i + 1))) 171 .grown ((ofL ((d7 l).take (i + 1))).isEmpty), .blk 102 (q107 102) [.s 103 p2114 2 0 ((ofL ((d7 l).take (i + 1))).length) ((ofL ((d7 l).take (i + 1))).length) ((ofL ((d7 l).take (i + 1))).isEmpty)] 124 .own]) (by rw [b32 (by omega), if_pos h2])) [1, 0] [] 124 fun _ _ => go (fun _ => (o2 (by omega : -9223372036854775808 <= (i : Int) + 1) (by omega : (i : Int) + 1 < 9223372036854775808))) fun _ => ag109 _ _ (⟨i + 1, p2114⟩) (by first | omega | (simp only; omega)) (by dsimp only; exact (by omega)) [1, 0, 2, 3, 4] (by kernel_rfl) (by kernel_rfl)
  ·have h2 : ¬ ((((d7 l).getD i eI.d) ≥ 0) /\ (((d7 l).getD i eI.d) < 65536)) := by simpa using h2
   refine gh (b6 (l := [vc eP 103 pm (ofL ((d7 l).take i)) 171 .grown ((ofL ((d7 l).take i)).isEmpty), .blk 102 (q107 102) [.s 103 pm 2 0 ((ofL ((d7 l).take i)).length) ((ofL ((d7 l).take i)).length) ((ofL ((d7 l).take i)).isEmpty)] 124 .own]) (l' := [vc eP 103 pm (ofL ((d7 l).take (i + 1))) 171 .grown ((ofL ((d7 l).take (i + 1))).isEmpty), .blk 102 (q107 102) [.s 103 pm 2 0 ((ofL ((d7 l).take (i + 1))).length) ((ofL ((d7 l).take (i + 1))).length) ((ofL ((d7 l).take (i + 1))).isEmpty)] 124 .own]) (by rw [b32 (by omega), if_neg h2])) [1, 0] [] 124 fun _ _ => go (fun _ => (o2 (by omega : -9223372036854775808 <= (i : Int) + 1) (by omega : (i : Int) + 1 < 9223372036854775808))) fun _ => ag109 _ _ (⟨i + 1, pm⟩) (by first | omega | (simp only; omega)) (by dsimp only; exact (by omega)) [1, 0, 2, 3, 4] (by kernel_rfl) (by kernel_rfl)
 ·refine gh (b6 (l := [vc eP 103 pm (ofL ((d7 l).take i)) 171 .grown ((ofL ((d7 l).take i)).isEmpty), .blk 102 (q107 102) [.s 103 pm 2 0 ((ofL ((d7 l).take i)).length) ((ofL ((d7 l).take i)).length) ((ofL ((d7 l).take i)).isEmpty)] 124 .own]) (l' := [vc eP 103 pm (ofL (d7 l)) 171 .grown ((ofL (d7 l)).isEmpty), .blk 102 (q107 102) [.s 103 pm 2 0 ((ofL (d7 l)).length) ((ofL (d7 l)).length) ((ofL (d7 l)).isEmpty)] 124 .own]) (by have e : i = (d7 l).length := (by omega); rw [e, List.take_length])) [1, 0] [] 124 fun _ _ => g0 fun _ => rt trivial (pm) trivial [0, 3]
theorem a9J {q c : Nat} {z : Bool} {xs : List (Int × Int)} {t : TypeId} {m : Md} {y : Value} {p : Int × Int -> Bool} {J : As} (hz : z = true -> xs.length = 0) (hl : xs.length < 1000000) (hy : ∀ k, k < xs.length -> a2X Tryz.prog nO y [.a [.i (xs.getD k eP.d).1, .i (xs.getD k eP.d).2]] [.as J] Unit (fun _ => True) (fun _ => .o (.cb (p (xs.getD k eP.d)))) (fun _ => [.as J])) : K1 nO 167 [.o (.s 1 q 2 0 xs.length c z), .o (.v y)] [vc eP 1 q xs t m z, .as J] (.o (.i (e9 xs p))) := by
 refine fs 100 fun B => g0 fun _ => g0 fun _ => lp ((Nat)) [0, 1, 7] (fun r => [(8, .o (.i (r : Int)))]) [0, 1] (fun _ => []) 120 (fun r => r <= xs.length /\ ∀ j, j < r -> p (xs.getD j eP.d) = false) (fun r => xs.length - r) (0) ⟨Nat.zero_le _, fun j hj => absurd hj (Nat.not_lt_zero j)⟩ [] (fun i hx ag103 => ?_)
 obtain ⟨hi, hn⟩ := hx
 refine g0 fun _ => cdD ((i : Int) < (xs.length : Int)) (fun h1 => ?_) (fun h1 => ?_)
 ·refine g0 fun _ => go (fun _ => (o4 (nz i) (by omega : (i : Int) < (xs.length : Int)) (zf hz (show 0 < xs.length by omega) : z = false) (by omega : i < xs.length))) fun _ => clv (hy i (by omega)) [1] [] 120 fun _ _ => cd (p (xs.getD i eP.d)) (fun h2 => ?_) (fun h2 => ?_)
  ·refine g0 fun _ => rtv trivial (()) trivial [1, 0] (.o (.i (i : Int))) (congrArg (Value.int .i64) (p9 (d := eP.d) (by omega) h2 hn).symm)
  ·refine go (fun _ => (o2 (by omega : -9223372036854775808 <= (i : Int) + 1) (by omega : (i : Int) + 1 < 9223372036854775808))) fun _ => ag103 _ _ (i + 1) (by first | omega | (simp only; omega)) ⟨by omega, fun j hj => by rcases Nat.lt_succ_iff_lt_or_eq.1 hj with h | h; exact hn j h; subst h; exact h2⟩ [1, 0] (by kernel_rfl) (by kernel_rfl)
 ·refine g0 fun _ => rtv trivial (()) trivial [0, 1] (.o (.i (-1))) (congrArg (Value.int .i64) (s8 (d := eP.d) (fun j hj => hn j (by omega))).symm)
theorem b0t {q c : Nat} {z : Bool} {xs : List (Int × Int)} {t : TypeId} {m : Md} {y : Value} {p : Int × Int -> Bool} {J : As} (hz : z = true -> xs.length = 0) (hl : xs.length < 1000000) (hy : ∀ k, k < xs.length -> a2X Tryz.prog nO y [.a [.i (xs.getD k eP.d).1, .i (xs.getD k eP.d).2]] [.as J] Unit (fun _ => True) (fun _ => .o (.cb (p (xs.getD k eP.d)))) (fun _ => [.as J])) : K1 nO 129 [.o (.s 1 q 2 0 xs.length c z), .o (.v y)] [vc eP 1 q xs t m z, .as J] (.o (.cb (xs.any p))) := by
 refine fs 100 fun B => g0 fun _ => g0 fun _ => cl (@a9J _ q c z xs t m y p J (by assumption) (by omega) hy) [0, 1] [] 100 fun _ _ => g0 fun _ => rtv trivial (()) trivial [0, 1] (.o (.cb (decide (e9 xs p ≥ 0)))) (congrArg Value.bool R9)
theorem J1 {qa ca : Nat} {a : List Sp} {ta : TypeId} {ma : Md} {i : Int} (hl : a.length < 1000000) : K1 nO 81 [.a [.s 1 qa 2 0 a.length ca a.isEmpty], .o (.i i)] [vc eP 1 qa a ta ma a.isEmpty] (.o (.cb (has a i))) := by
 refine fs 100 fun B => g0 fun q101 => g0 fun _ => cl (b0t (q := qa) (c := ca) (z := a.isEmpty) (xs := a) (t := ta) (m := ma) (y := .func (.func 130) #[] #[.pointer (some ⟨(q101 101), 0, none⟩)]) (p := fun s => and (decide (i ≥ s.1)) (decide (i < s.2))) (J := (Ch.den (.blk 101 (q101 101) [.i i] 3 .own))) a4P (by omega) (fun k _ => a07 (b3k [.pointer (some ⟨(q101 101), 0, none⟩)] (b2K (a := a.getD k eP.d) (q := (q101 101)) (i := i) (tb := 3))))) [2, 0] [] 102 fun _ _ => g0 fun _ => rt trivial (()) trivial [0]
theorem b2b {qa ca : Nat} {a : List Sp} {ta : TypeId} {ma : Md} {i : Int} (ha : WF (-1) a) : K1 nO 133 [.a [.s 1 qa 2 0 a.length ca a.isEmpty], .o (.i i)] [vc eP 1 qa a ta ma a.isEmpty] (.o (.i (a1k a i))) := by
 refine fs 100 (fun B => ?_)
 have la := D0 ha
 refine g0 fun q101 => g0 fun _ => g0 fun _ => lp ((Nat)) [1, 9, 10] (fun r => [(5, .o (.i (a1k (a.take r) i))), (11, .o (.i (r : Int)))]) [0, 1] (fun _ => []) 121 (fun r => r <= a.length) (fun r => a.length - r) (0) (Nat.zero_le _) [] (fun k hx ag104 => ?_)
 have hb := b6P ha (i := i) hx
 refine g0 fun _ => cdD ((k : Int) < (a.length : Int)) (fun h1 => ?_) (fun h1 => ?_)
 ·have hs := H6 ha (a.getD k eP.d) (by rw [a8 (by omega)]; exact List.getElem_mem _)
  refine go (fun q106 => (o4 (nz k) (by omega : (k : Int) < (a.length : Int)) (zfe (by omega) : a.isEmpty = false) (by omega : k < a.length))) fun q106 => go (fun _ => (o2 (by decide : (0 : Int) <= 0) (by decide : (0 : Int) < 2))) fun _ => cdD (i > (a.getD k eP.d).1) (fun h2 => ?_) (fun h2 => ?_)
  ·refine go (fun _ => (oc (by decide : (0 : Int) <= 1) (by decide : (1 : Int) < 2) (rfl : (IntKind.i64 : IntKind) = .i64) (by decide : (0 : Int) <= 0) (by decide : (0 : Int) < 2) (by omega : -9223372036854775808 <= (if (a.getD k eP.d).2 < i then (a.getD k eP.d).2 else i) - ((a.getD k eP.d).1)) (o3 (by omega : (if (a.getD k eP.d).2 < i then (a.getD k eP.d).2 else i) - ((a.getD k eP.d).1) < 9223372036854775808) (by omega : -9223372036854775808 <= (a1k (a.take k) i) + ((if (a.getD k eP.d).2 < i then (a.getD k eP.d).2 else i) - ((a.getD k eP.d).1))) (by omega : (a1k (a.take k) i) + ((if (a.getD k eP.d).2 < i then (a.getD k eP.d).2 else i) - ((a.getD k eP.d).1)) < 9223372036854775808)))) fun _ => go (fun _ => (o2 (by omega : -9223372036854775808 <= (k : Int) + 1) (by omega : (k : Int) + 1 < 9223372036854775808))) fun _ => sv 5 (v := .o (.i ((a1k (a.take k) i) + ((if (a.getD k eP.d).2 < i then (a.getD k eP.d).2 else i) - ((a.getD k eP.d).1))))) (v' := .o (.i (a1k (a.take (k + 1)) i))) (congrArg (Value.int .i64) (by rw [a4G (by omega), if_pos h2])) <| ag104 _ _ (k + 1) (by first | omega | (simp only; omega)) (by omega) [1, 2] (by kernel_rfl) (by kernel_rfl)
  ·refine go (fun _ => (o2 (by omega : -9223372036854775808 <= (k : Int) + 1) (by omega : (k : Int) + 1 < 9223372036854775808))) fun _ => sv 5 (v := .o (.i (a1k (a.take k) i))) (v' := .o (.i (a1k (a.take (k + 1)) i))) (congrArg (Value.int .i64) (by rw [a4G (by omega), if_neg h2]; omega)) <| ag104 _ _ (k + 1) (by first | omega | (simp only; omega)) (by omega) [1, 2] (by kernel_rfl) (by kernel_rfl)
 ·refine g0 fun _ => rtv trivial (()) trivial [1] (.o (.i (a1k (a.take k) i))) (congrArg (Value.int .i64) (by have e : k = a.length := (by omega); rw [e, List.take_length]))
theorem a30 {qa ca : Nat} {a : List Sp} {ta : TypeId} {ma : Md} (ha : WF (-1) a) : K1 nO 87 [.a [.s 1 qa 2 0 a.length ca a.isEmpty]] [vc eP 1 qa a ta ma a.isEmpty] (.o (.i (a7j a))) := by
 refine fs 100 fun B => g0 fun q101 => g0 fun _ => cl (@b2b _ qa ca a ta ma 65536 (by assumption)) [1] [] 101 fun _ _ => g0 fun _ => rt trivial (()) trivial [0]
end Go.Proofs.YtagidoadfajpgaaGreat
namespace Go.Proofs.YtagidoadfajpgaaGreat
set_option maxHeartbeats 4000000
open Go.Abs
variable {nO : Nat}
set_option maxRecDepth 8000
attribute [local irreducible] GP ruP nxP acS gst cdP loP j6 m9 m8 enP caA n5 lgP agN
theorem b57 {qa ca : Nat} {a : List Sp} {ta : TypeId} {ma : Md} {qb cb : Nat} {b : List Sp} {tb : TypeId} {mb : Md} (ha : WF (-1) a) (hb : WF (-1) b) : Ctr Tryz.prog nO 152 [.a [.s 1 qa 2 0 a.length ca a.isEmpty], .a [.s 2 qb 2 0 b.length cb b.isEmpty]] [vc eP 1 qa a ta ma a.isEmpty, vc eP 2 qb b tb mb b.isEmpty] ((Nat) × (List Sp)) (fun r => b7Q a b r.2) (fun r => .a [.s 3 r.1 2 0 r.2.length r.2.length r.2.isEmpty]) (fun r => [vc eP 3 r.1 r.2 171 .grown r.2.isEmpty, vc eP 1 qa a ta ma a.isEmpty, vc eP 2 qb b tb mb b.isEmpty]) := by
 refine fs 100 (fun B => ?_)
 have la := D0 ha
 have lb := D0 hb
 refine g0 fun q101 => g0 fun q102 => g0 fun _ => gh (e7 104 2 eP.f eP.d 171 .grown) [] [] 105 fun _ _ => gh (b6 (l := [vc eP 104 0 ([] : List Sp) 171 .grown true, .blk 103 (q102 103) [.v (.slice none 0 0)] 124 .own]) (l' := [vc eP 104 0 ([] : List Sp) 171 .grown (([] : List Sp).isEmpty), .blk 103 (q102 103) [.s 104 0 2 0 (([] : List Sp).length) (([] : List Sp).length) (([] : List Sp).isEmpty)] 124 .own]) rfl) [0, 1] [] 105 fun _ _ => lp ((Nat) × (Nat) × (Nat) × (List Sp)) [2, 3, 4, 5] (fun r => [(6, .o (.i (r.1 : Int))), (7, .o (.i (r.2.1 : Int)))]) [2, 3, 4, 5, 6] (fun r => [.blk 103 (q102 103) [.s 104 r.2.2.1 2 0 r.2.2.2.length r.2.2.2.length r.2.2.2.isEmpty] 124 .own, vc eP 104 r.2.2.1 r.2.2.2 171 .grown r.2.2.2.isEmpty]) 125 (fun r => r.1 <= a.length /\ r.2.1 <= b.length /\ r.2.2.2.length <= r.1 + r.2.1 /\ b7N a b = Q0 (a.length + b.length - (r.1 + r.2.1)) (a.drop r.1) (b.drop r.2.1) r.2.2.2) (fun r => a.length + b.length - (r.1 + r.2.1)) (⟨0, 0, 0, []⟩) ⟨Nat.zero_le _, Nat.zero_le _, Nat.le_refl _, rfl⟩ [1, 0] (fun ⟨i, k, pm, M⟩ hx ag104 => ?_)
 try dsimp only at hx
 obtain ⟨hi, hk, hM, hg⟩ := hx
 refine g0 fun _ => cd (and (decide ((i : Int) < (a.length : Int))) (decide ((k : Int) < (b.length : Int)))) (fun h1 => ?_) (fun h1 => ?_)
 ·have h1 : ((i : Int) < (a.length : Int)) /\ ((k : Int) < (b.length : Int)) := by simpa using h1
  have hal := a7v (m := M) (x := (a.getD i eP.d)) (y := (b.getD k eP.d))
  refine go (fun q106 => (oc (nz i) (by omega : (i : Int) < (a.length : Int)) (zfe (by omega) : a.isEmpty = false) (by omega : i < a.length) (nz k) (by omega : (k : Int) < (b.length : Int)) (o2 (zfe (by omega) : b.isEmpty = false) (by omega : k < b.length)))) fun q106 => go (fun _ => (oc (by decide : (0 : Int) <= 0) (by decide : (0 : Int) < 2) (by decide : (0 : Int) <= 0) (by decide : (0 : Int) < 2) (rfl : (IntKind.i64 : IntKind) = .i64) (by decide : (0 : Int) <= 1) (o4 (by decide : (1 : Int) < 2) (by decide : (0 : Int) <= 1) (by decide : (1 : Int) < 2) (rfl : (IntKind.i64 : IntKind) = .i64)))) fun _ => g0 fun _ => cdD ((if (a.getD i eP.d).1 < (b.getD k eP.d).1 then (b.getD k eP.d).1 else (a.getD i eP.d).1) < (if (b.getD k eP.d).2 < (a.getD i eP.d).2 then (b.getD k eP.d).2 else (a.getD i eP.d).2)) (fun h2 => ?_) (fun h2 => ?_)
  ·refine g0 fun _ => cl (@Z3 _ (q102 103) pm M (if (a.getD i eP.d).1 < (b.getD k eP.d).1 then (b.getD k eP.d).1 else (a.getD i eP.d).1) (if (b.getD k eP.d).2 < (a.getD i eP.d).2 then (b.getD k eP.d).2 else (a.getD i eP.d).2) 124 (by omega)) [2, 3] [(1, 103), (2, 104)] 127 fun p2110 _ => gh (b6 (l := [vc eP 104 p2110 (c8 M (if (a.getD i eP.d).1 < (b.getD k eP.d).1 then (b.getD k eP.d).1 else (a.getD i eP.d).1) (if (b.getD k eP.d).2 < (a.getD i eP.d).2 then (b.getD k eP.d).2 else (a.getD i eP.d).2)) 171 .grown ((c8 M (if (a.getD i eP.d).1 < (b.getD k eP.d).1 then (b.getD k eP.d).1 else (a.getD i eP.d).1) (if (b.getD k eP.d).2 < (a.getD i eP.d).2 then (b.getD k eP.d).2 else (a.getD i eP.d).2)).isEmpty), .blk 103 (q102 103) [.s 104 p2110 2 0 ((c8 M (if (a.getD i eP.d).1 < (b.getD k eP.d).1 then (b.getD k eP.d).1 else (a.getD i eP.d).1) (if (b.getD k eP.d).2 < (a.getD i eP.d).2 then (b.getD k eP.d).2 else (a.getD i eP.d).2)).length) ((c8 M (if (a.getD i eP.d).1 < (b.getD k eP.d).1 then (b.getD k eP.d).1 else (a.getD i eP.d).1) (if (b.getD k eP.d).2 < (a.getD i eP.d).2 then (b.getD k eP.d).2 else (a.getD i eP.d).2)).length) ((c8 M (if (a.getD i eP.d).1 < (b.getD k eP.d).1 then (b.getD k eP.d).1 else (a.getD i eP.d).1) (if (b.getD k eP.d).2 < (a.getD i eP.d).2 then (b.getD k eP.d).2 else (a.getD i eP.d).2)).isEmpty)] 124 .own]) (l' := [vc eP 104 p2110 (m7 M (a.getD i eP.d) (b.getD k eP.d)) 171 .grown ((m7 M (a.getD i eP.d) (b.getD k eP.d)).isEmpty), .blk 103 (q102 103) [.s 104 p2110 2 0 ((m7 M (a.getD i eP.d) (b.getD k eP.d)).length) ((m7 M (a.getD i eP.d) (b.getD k eP.d)).length) ((m7 M (a.getD i eP.d) (b.getD k eP.d)).isEmpty)] 124 .own]) (by rw [a4d, if_pos h2])) [1, 0] [] 127 fun _ _ => go (fun _ => (o4 (by decide : (0 : Int) <= 1) (by decide : (1 : Int) < 2) (by decide : (0 : Int) <= 1) (by decide : (1 : Int) < 2))) fun _ => cdD ((a.getD i eP.d).2 < (b.getD k eP.d).2) (fun h3 => ?_) (fun h3 => ?_)
   ·refine go (fun _ => (o2 (by omega : -9223372036854775808 <= (i : Int) + 1) (by omega : (i : Int) + 1 < 9223372036854775808))) fun _ => ag104 _ _ (⟨i + 1, k, p2110, (m7 M (a.getD i eP.d) (b.getD k eP.d))⟩) (by first | omega | (simp only; omega)) (by dsimp only; exact ⟨by omega, by omega, by omega, by rw [hg, a0v (by omega) (by omega), if_pos h3]⟩) [1, 0, 4, 5, 6, 7, 8] (by kernel_rfl) (by kernel_rfl)
   ·refine go (fun _ => (o2 (by omega : -9223372036854775808 <= (k : Int) + 1) (by omega : (k : Int) + 1 < 9223372036854775808))) fun _ => ag104 _ _ (⟨i, k + 1, p2110, (m7 M (a.getD i eP.d) (b.getD k eP.d))⟩) (by first | omega | (simp only; omega)) (by dsimp only; exact ⟨by omega, by omega, by omega, by rw [hg, a0v (by omega) (by omega), if_neg h3]⟩) [1, 0, 4, 5, 6, 7, 8] (by kernel_rfl) (by kernel_rfl)
  ·refine gh (b6 (l := [vc eP 104 pm M 171 .grown M.isEmpty, .blk 103 (q102 103) [.s 104 pm 2 0 M.length M.length M.isEmpty] 124 .own]) (l' := [vc eP 104 pm (m7 M (a.getD i eP.d) (b.getD k eP.d)) 171 .grown ((m7 M (a.getD i eP.d) (b.getD k eP.d)).isEmpty), .blk 103 (q102 103) [.s 104 pm 2 0 ((m7 M (a.getD i eP.d) (b.getD k eP.d)).length) ((m7 M (a.getD i eP.d) (b.getD k eP.d)).length) ((m7 M (a.getD i eP.d) (b.getD k eP.d)).isEmpty)] 124 .own]) (by rw [a4d, if_neg h2])) [3, 2] [] 127 fun _ _ => go (fun _ => (o4 (by decide : (0 : Int) <= 1) (by decide : (1 : Int) < 2) (by decide : (0 : Int) <= 1) (by decide : (1 : Int) < 2))) fun _ => cdD ((a.getD i eP.d).2 < (b.getD k eP.d).2) (fun h3 => ?_) (fun h3 => ?_)
   ·refine go (fun _ => (o2 (by omega : -9223372036854775808 <= (i : Int) + 1) (by omega : (i : Int) + 1 < 9223372036854775808))) fun _ => ag104 _ _ (⟨i + 1, k, pm, (m7 M (a.getD i eP.d) (b.getD k eP.d))⟩) (by first | omega | (simp only; omega)) (by dsimp only; exact ⟨by omega, by omega, by omega, by rw [hg, a0v (by omega) (by omega), if_pos h3]⟩) [1, 0, 4, 5, 6, 7, 8] (by kernel_rfl) (by kernel_rfl)
   ·refine go (fun _ => (o2 (by omega : -9223372036854775808 <= (k : Int) + 1) (by omega : (k : Int) + 1 < 9223372036854775808))) fun _ => ag104 _ _ (⟨i, k + 1, pm, (m7 M (a.getD i eP.d) (b.getD k eP.d))⟩) (by first | omega | (simp only; omega)) (by dsimp only; exact ⟨by omega, by omega, by omega, by rw [hg, a0v (by omega) (by omega), if_neg h3]⟩) [1, 0, 4, 5, 6, 7, 8] (by kernel_rfl) (by kernel_rfl)
 ·have h1 : ¬ (((i : Int) < (a.length : Int)) /\ ((k : Int) < (b.length : Int))) := by simpa using h1
  have hr : b7N a b = M := by rw [hg, b01 (by omega)]
  refine g0 fun _ => rt trivial (⟨pm, M⟩) (hr ▸ b7M ha hb) [1, 5, 6]
theorem b46 {qa ca : Nat} {a : List Sp} {ta : TypeId} {ma : Md} {n : Int} (ha : WF (-1) a) : Ctr Tryz.prog nO 153 [.a [.s 1 qa 2 0 a.length ca a.isEmpty], .o (.i n)] [vc eP 1 qa a ta ma a.isEmpty] ((Nat) × (List Sp)) (fun r => b6g a (if (65536 : Int) < n then 65536 else n) r.2) (fun r => .a [.s 3 r.1 2 0 r.2.length r.2.length r.2.isEmpty]) (fun r => [vc eP 3 r.1 r.2 171 .grown r.2.isEmpty, vc eP 1 qa a ta ma a.isEmpty]) := by
 refine fs 100 (fun B => ?_)
 have la := D0 ha
 refine g0 fun q101 => go (fun _ => (o1 (rfl : (IntKind.i64 : IntKind) = .i64))) fun _ => g0 fun q103 => g0 fun _ => g0 fun _ => gh (e7 103 2 eP.f eP.d 171 .grown) [] [] 104 fun _ _ => gh (b6 (l := [vc eP 103 0 ([] : List Sp) 171 .grown true, .blk 102 (q103 102) [.v (.slice none 0 0)] 124 .own]) (l' := [vc eP 103 0 ([] : List Sp) 171 .grown (([] : List Sp).isEmpty), .blk 102 (q103 102) [.s 103 0 2 0 (([] : List Sp).length) (([] : List Sp).length) (([] : List Sp).isEmpty)] 124 .own]) rfl) [0, 1] [] 104 fun _ _ => lp ((Nat) × (Int) × (Nat) × (List Sp)) [1, 4, 5, 12, 13] (fun r => [(14, .o (.i (r.1 : Int))), (6, .o (.i r.2.1))]) [2, 3, 4] (fun r => [.blk 102 (q103 102) [.s 103 r.2.2.1 2 0 r.2.2.2.length r.2.2.2.length r.2.2.2.isEmpty] 124 .own, vc eP 103 r.2.2.1 r.2.2.2 171 .grown r.2.2.2.isEmpty]) 124 (fun r => r.1 <= a.length /\ r.2.2.2.length <= r.1 /\ Q3 a n = I2 (if (65536 : Int) < n then 65536 else n) (a3C (if (65536 : Int) < n then 65536 else n) (a.drop r.1) r.2.1 r.2.2.2)) (fun r => a.length - r.1) (⟨0, 0, 0, []⟩) ⟨Nat.zero_le _, Nat.le_refl _, rfl⟩ [1, 0] (fun ⟨k, fr, pm, M⟩ hx ag106 => ?_)
 try dsimp only at hx
 obtain ⟨hk, hM, hg⟩ := hx
 refine g0 fun _ => cdD ((k : Int) < (a.length : Int)) (fun h1 => ?_) (fun h1 => ?_)
 ·have hal := b06 (m := M) (f := fr) (t := (a.getD k eP.d).1)
  refine go (fun q108 => (o4 (nz k) (by omega : (k : Int) < (a.length : Int)) (zfe (by omega) : a.isEmpty = false) (by omega : k < a.length))) fun q108 => go (fun _ => (o2 (by decide : (0 : Int) <= 0) (by decide : (0 : Int) < 2))) fun _ => cdD ((a.getD k eP.d).1 ≥ (if 65536 < n then 65536 else n)) (fun h2 => ?_) (fun h2 => ?_)
  ·have hr : Q3 a n = I2 (if (65536 : Int) < n then 65536 else n) (M, fr) := by rw [hg, a2o (by omega), if_pos h2]
   refine g0 fun _ => cdD (fr < (if 65536 < n then 65536 else n)) (fun h4 => ?_) (fun h4 => ?_)
   ·refine g0 fun _ => cl (@Z3 _ (q103 102) pm M fr (if 65536 < n then 65536 else n) 124 (by omega)) [1, 2] [(1, 102), (2, 103)] 125 fun p2112 _ => gh (b6 (l := [vc eP 103 p2112 (c8 M fr (if 65536 < n then 65536 else n)) 171 .grown ((c8 M fr (if 65536 < n then 65536 else n)).isEmpty), .blk 102 (q103 102) [.s 103 p2112 2 0 ((c8 M fr (if 65536 < n then 65536 else n)).length) ((c8 M fr (if 65536 < n then 65536 else n)).length) ((c8 M fr (if 65536 < n then 65536 else n)).isEmpty)] 124 .own]) (l' := [vc eP 103 p2112 (Q3 a n) 171 .grown ((Q3 a n).isEmpty), .blk 102 (q103 102) [.s 103 p2112 2 0 ((Q3 a n).length) ((Q3 a n).length) ((Q3 a n).isEmpty)] 124 .own]) (by rw [hr]; unfold I2; rw [if_pos h4])) [1, 0] [] 125 fun _ _ => g0 fun _ => rt trivial (⟨p2112, (Q3 a n)⟩) (a5X ha) [0, 5]
   ·refine gh (b6 (l := [vc eP 103 pm M 171 .grown M.isEmpty, .blk 102 (q103 102) [.s 103 pm 2 0 M.length M.length M.isEmpty] 124 .own]) (l' := [vc eP 103 pm (Q3 a n) 171 .grown ((Q3 a n).isEmpty), .blk 102 (q103 102) [.s 103 pm 2 0 ((Q3 a n).length) ((Q3 a n).length) ((Q3 a n).isEmpty)] 124 .own]) (by rw [hr]; unfold I2; rw [if_neg h4])) [2, 1] [] 125 fun _ _ => g0 fun _ => rt trivial (⟨pm, (Q3 a n)⟩) (a5X ha) [0, 5]
  ·refine go (fun _ => (o2 (by decide : (0 : Int) <= 0) (by decide : (0 : Int) < 2))) fun _ => cdD (fr < (a.getD k eP.d).1) (fun h3 => ?_) (fun h3 => ?_)
   ·refine go (fun _ => (o2 (by decide : (0 : Int) <= 0) (by decide : (0 : Int) < 2))) fun _ => cl (@Z3 _ (q103 102) pm M fr ((a.getD k eP.d).1) 124 (by omega)) [1, 2] [(1, 102), (2, 103)] 125 fun p2117 _ => gh (b6 (l := [vc eP 103 p2117 (c8 M fr ((a.getD k eP.d).1)) 171 .grown ((c8 M fr ((a.getD k eP.d).1)).isEmpty), .blk 102 (q103 102) [.s 103 p2117 2 0 ((c8 M fr ((a.getD k eP.d).1)).length) ((c8 M fr ((a.getD k eP.d).1)).length) ((c8 M fr ((a.getD k eP.d).1)).isEmpty)] 124 .own]) (l' := [vc eP 103 p2117 (if fr < (a.getD k eP.d).1 then c8 M fr (a.getD k eP.d).1 else M) 171 .grown ((if fr < (a.getD k eP.d).1 then c8 M fr (a.getD k eP.d).1 else M).isEmpty), .blk 102 (q103 102) [.s 103 p2117 2 0 ((if fr < (a.getD k eP.d).1 then c8 M fr (a.getD k eP.d).1 else M).length) ((if fr < (a.getD k eP.d).1 then c8 M fr (a.getD k eP.d).1 else M).length) ((if fr < (a.getD k eP.d).1 then c8 M fr (a.getD k eP.d).1 else M).isEmpty)] 124 .own]) (by rw [if_pos h3])) [1, 0] [] 125 fun _ _ => go (fun _ => (o2 (by decide : (0 : Int) <= 1) (by decide : (1 : Int) < 2))) fun _ => go (fun _ => (o2 (by omega : -9223372036854775808 <= (k : Int) + 1) (by omega : (k : Int) + 1 < 9223372036854775808))) fun _ => ag106 _ _ (⟨k + 1, (a.getD k eP.d).2, p2117, (if fr < (a.getD k eP.d).1 then c8 M fr (a.getD k eP.d).1 else M)⟩) (by first | omega | (simp only; omega)) (by dsimp only; exact ⟨by omega, by split <;> omega, by rw [hg, a2o (by omega), if_neg h2]⟩) [1, 0, 3, 4, 5] (by kernel_rfl) (by kernel_rfl)
   ·refine gh (b6 (l := [vc eP 103 pm M 171 .grown M.isEmpty, .blk 102 (q103 102) [.s 103 pm 2 0 M.length M.length M.isEmpty] 124 .own]) (l' := [vc eP 103 pm (if fr < (a.getD k eP.d).1 then c8 M fr (a.getD k eP.d).1 else M) 171 .grown ((if fr < (a.getD k eP.d).1 then c8 M fr (a.getD k eP.d).1 else M).isEmpty), .blk 102 (q103 102) [.s 103 pm 2 0 ((if fr < (a.getD k eP.d).1 then c8 M fr (a.getD k eP.d).1 else M).length) ((if fr < (a.getD k eP.d).1 then c8 M fr (a.getD k eP.d).1 else M).length) ((if fr < (a.getD k eP.d).1 then c8 M fr (a.getD k eP.d).1 else M).isEmpty)] 124 .own]) (by rw [if_neg h3])) [2, 1] [] 125 fun _ _ => go (fun _ => (o2 (by decide : (0 : Int) <= 1) (by decide : (1 : Int) < 2))) fun _ => go (fun _ => (o2 (by omega : -9223372036854775808 <= (k : Int) + 1) (by omega : (k : Int) + 1 < 9223372036854775808))) fun _ => ag106 _ _ (⟨k + 1, (a.getD k eP.d).2, pm, (if fr < (a.getD k eP.d).1 then c8 M fr (a.getD k eP.d).1 else M)⟩) (by first | omega | (simp only; omega)) (by dsimp only; exact ⟨by omega, by split <;> omega, by rw [hg, a2o (by omega), if_neg h2]⟩) [1, 0, 3, 4, 5] (by kernel_rfl) (by kernel_rfl)
 ·have hr : Q3 a n = I2 (if (65536 : Int) < n then 65536 else n) (M, fr) := by rw [hg, List.drop_eq_nil_of_le (by omega)]; rfl
  refine g0 fun _ => cdD (fr < (if 65536 < n then 65536 else n)) (fun h4 => ?_) (fun h4 => ?_)
  ·refine g0 fun _ => cl (@Z3 _ (q103 102) pm M fr (if 65536 < n then 65536 else n) 124 (by omega)) [0, 1] [(1, 102), (2, 103)] 124 fun p2124 _ => gh (b6 (l := [vc eP 103 p2124 (c8 M fr (if 65536 < n then 65536 else n)) 171 .grown ((c8 M fr (if 65536 < n then 65536 else n)).isEmpty), .blk 102 (q103 102) [.s 103 p2124 2 0 ((c8 M fr (if 65536 < n then 65536 else n)).length) ((c8 M fr (if 65536 < n then 65536 else n)).length) ((c8 M fr (if 65536 < n then 65536 else n)).isEmpty)] 124 .own]) (l' := [vc eP 103 p2124 (Q3 a n) 171 .grown ((Q3 a n).isEmpty), .blk 102 (q103 102) [.s 103 p2124 2 0 ((Q3 a n).length) ((Q3 a n).length) ((Q3 a n).isEmpty)] 124 .own]) (by rw [hr]; unfold I2; rw [if_pos h4])) [1, 0] [] 124 fun _ _ => g0 fun _ => rt trivial (⟨p2124, (Q3 a n)⟩) (a5X ha) [0, 4]
  ·refine gh (b6 (l := [vc eP 103 pm M 171 .grown M.isEmpty, .blk 102 (q103 102) [.s 103 pm 2 0 M.length M.length M.isEmpty] 124 .own]) (l' := [vc eP 103 pm (Q3 a n) 171 .grown ((Q3 a n).isEmpty), .blk 102 (q103 102) [.s 103 pm 2 0 ((Q3 a n).length) ((Q3 a n).length) ((Q3 a n).isEmpty)] 124 .own]) (by rw [hr]; unfold I2; rw [if_neg h4])) [1, 0] [] 124 fun _ _ => g0 fun _ => rt trivial (⟨pm, (Q3 a n)⟩) (a5X ha) [0, 4]
theorem b40 {qa ca : Nat} {a : List Sp} {ta : TypeId} {ma : Md} {qb cb : Nat} {b : List Sp} {tb : TypeId} {mb : Md} (ha : WF (-1) a) (hb : WF (-1) b) : Ctr Tryz.prog nO 111 [.a [.s 1 qa 2 0 a.length ca a.isEmpty], .a [.s 2 qb 2 0 b.length cb b.isEmpty]] [vc eP 1 qa a ta ma a.isEmpty, vc eP 2 qb b tb mb b.isEmpty] ((Nat) × (List Sp)) (fun r => b3H a b r.2) (fun r => .a [.s 3 r.1 2 0 r.2.length r.2.length r.2.isEmpty]) (fun r => [vc eP 3 r.1 r.2 171 .grown r.2.isEmpty, vc eP 1 qa a ta ma a.isEmpty, vc eP 2 qb b tb mb b.isEmpty]) := by
 refine fs 100 fun B => g0 fun q101 => g0 fun _ => cl (@b46 _ qb cb b tb mb 65536 (by assumption)) [4] [(1, 2), (3, 103)] 104 fun ⟨qn, rn⟩ hn => cl (@b57 _ qa ca a ta ma qn rn.length rn 171 .grown (by assumption) hn.1) [5, 0] [(2, 103), (3, 104)] 105 fun ⟨qr, rr⟩ hr => g0 fun _ => rt trivial (⟨qr, rr⟩) (b6T ha hn hr) [0, 1, 3]
end Go.Proofs.YtagidoadfajpgaaGreat
