/-
  Xg.
-/
import Derived.Test.YtagidoadfajpgaaGreatN29
namespace Go.Proofs.YtagidoadfajpgaaGreat
open Go.Abs
variable {nO : Nat}
set_option maxRecDepth 100000
attribute [local irreducible] GP ruP ruN nxP acS gst cdP loP invS ent1 ent2 enP caA resV lgP agN
theorem ctr_focus {P : Program} {f : FuncId} {args : List SV} {R : Type} {φ : R -> Prop} {res : R -> SV} {D I : As} {D' I' : R -> As} {E : List Ch} {E' : R -> List Ch} (h : ∀ F A, D.p F A -> ∃ J : As, (I.star J).p F A /\ ∀ r F' A', ((I' r).star J).p F' A' -> (D' r).p F' A')
  (C : Ctr P nO f args (.as I :: E) R φ res (fun r => .as (I' r) :: E' r)) : Ctr P nO f args (.as D :: E) R φ res (fun r => .as (D' r) :: E' r) := fun F A hF => by
 obtain ⟨F1, F2, hd, he, j⟩ := hF
 obtain ⟨J, h1, h2⟩ := h F1 A hd
 have h3 : ((I.star J).star (hpA E)).p F A := ⟨F1, F2, h1, he, j⟩
 have h4 : ((hpA (.as I :: E)).star (hpA [.as J])).p F A := As.map' (As.assoc' (As.map' (As.assoc h3) fun _ h => As.comm h)) fun _ h => As.addE h
 obtain ⟨r, A', F', hr, hs, hq, hm⟩ := ctr_frame [.as J] C F A (hpA_cat h4)
 have h5 : (((I' r).star (hpA (E' r))).star J).p F' A' := As.map' (hpA_split hq) fun _ h => As.unE h
 have h6 : (((I' r).star J).star (hpA (E' r))).p F' A' := As.assoc' (As.map' (As.assoc h5) fun _ h => As.comm h)
 exact ⟨r, A', F', hr, hs, As.map h6 fun _ h => h2 r _ _ h, hm⟩
theorem big_mono {α : Type} {I I' : α -> As} {A : World} (h : ∀ x F, (I x).p F A -> (I' x).p F A) : ∀ {l : List α} {F : Ft}, (As.all (l.map I)).p F A -> (As.all (l.map I')).p F A
 | [], _, k => k
 | _ :: _, _, k => As.map' (As.map k fun _ k => h _ _ k) fun _ k => big_mono h k
theorem tab_mo {q : Nat} {F : Fm} {s : Ts} {k k' : Nat} {F0 : Ft} {A : World} (h : k <= k') (hp : (tabA q F s k).p F0 A) : (tabA q F s k').p F0 A := by
 obtain ⟨y, hy, h1⟩ := hp
 exact ⟨y, { hy with rep := hy.rep.mono h }, h1⟩
theorem zs_at {ps : List Nat} {l : List (Fm × Ts)} {y : Dd} (hy : ddP ps l y) {j : Nat} {F : Fm} {s : Ts} (e : l[j]? = some (F, s)) : j < y.zs.length /\ y.zs.getD j dZ = (ps.getD j 0, F, s) := by
 have hj : j < y.zs.length := by
  have := (List.getElem?_eq_some_iff.1 e).1
  rwa [<- hy.zs, List.length_map] at this
 refine ⟨hj, ?_⟩
 rw [<- hy.zs, List.getElem?_map, List.getElem?_eq_getElem hj] at e
 have e2 : (y.zs[j]'hj).2 = (F, s) := Option.some.inj e
 have e1 : (y.zs[j]'hj).1 = ps.getD j 0 := by
  rw [<- hy.ps, getD_at (by rw [List.length_map]; exact hj), List.getElem_map]
 rw [getD_at hj, <- e1, <- e2]
theorem dd_at {q k j : Nat} {ps : List Nat} {l : List (Fm × Ts)} {F : Fm} {s : Ts} (e : l[j]? = some (F, s)) {F0 : Ft} {A : World} (hd : (ddA q k ps l).p F0 A) :
  ∃ J : As, ((tabA (ps.getD j 0) F s k).star J).p F0 A /\ ∀ (s' : Ts) (k' : Nat) (F' : Ft) (A' : World), k <= k' -> ((tabA (ps.getD j 0) F s' k').star J).p F' A' -> (ddA q k' ps (l.set j (F, s'))).p F' A' := by
 obtain ⟨y, hy, h⟩ := hd
 obtain ⟨hj, hz⟩ := zs_at hy e
 have h2 : ((bigA (tabI k) y.zs).star (hpA ((ddL q 0 y).take 5))).p F0 A := As.unE (hp_sel (idx := [5, 0, 1, 2, 3, 4]) (by kernel_rfl) h)
 have p := (perm_at dZ (y.zs.getD j dZ) hj).map (tabI k)
 rw [set_self dZ hj] at p
 have h3 : (((tabI k (y.zs.getD j dZ)).star (bigA (tabI k) (y.zs.eraseIdx j))).star (hpA ((ddL q 0 y).take 5))).p F0 A := As.map h2 fun _ h => As.perm p h
 rw [hz] at h3
 refine ⟨(bigA (tabI k) (y.zs.eraseIdx j)).star (hpA ((ddL q 0 y).take 5)), As.assoc h3, fun s' k' F' A' hk h4 => ?_⟩
 have h5 := As.assoc' h4
 have h6 : ((bigA (tabI k') (y.zs.set j (ps.getD j 0, F, s'))).star (hpA ((ddL q 0 y).take 5))).p F' A' := As.map h5 fun _ h => As.perm ((perm_at dZ (ps.getD j 0, F, s') hj).map (tabI k')).symm (As.map' h fun _ h => big_mono (fun _ _ h => tab_mo hk h) h)
 have em : mpL (y.zs.set j (ps.getD j 0, F, s')) = mpL y.zs := by
  unfold mpL
  rw [List.map_set]
  have hz2 : y.zs[j]'hj = (ps.getD j 0, F, s) := (getD_at hj).symm.trans hz
  have e1 : (F.name, ps.getD j 0) = (y.zs.map fun z => (z.2.1.name, z.1)).getD j (⟨#[]⟩, 0) := ((getD_at (by rw [List.length_map]; exact hj)).trans (by rw [List.getElem_map, hz2])).symm
  show (y.zs.map _).set j (F.name, ps.getD j 0) = _
  rw [e1, set_self _ (by rw [List.length_map]; exact hj)]
 have ez : y.zs.set j (ps.getD j 0, F, s) = y.zs := by rw [<- hz, set_self dZ hj]
 refine ⟨{ y with zs := y.zs.set j (ps.getD j 0, F, s') }, ⟨?_, hy.ok, ?_, ?_⟩, ?_⟩
 ·show (y.zs.set j (ps.getD j 0, F, s')).map Prod.fst = ps
  rw [List.map_set]
  refine Eq.trans ?_ ((congrArg (List.map Prod.fst) ez).trans hy.ps)
  rw [List.map_set]
 ·show y.xs.map _ = (y.zs.set j (ps.getD j 0, F, s')).map _
  rw [List.map_set, hy.fm]
  conv => lhs; rw [<- ez]
  rw [List.map_set]
 ·show (y.zs.set j (ps.getD j 0, F, s')).map Prod.snd = _
  rw [List.map_set, hy.zs]
 ·have h7 : (hpA (ddL q k' { y with zs := y.zs.set j (ps.getD j 0, F, s') })).p F' A' := by
   have h8 : (hpA [.as (bigA (tabI k') (y.zs.set j (ps.getD j 0, F, s'))), (ddL q 0 y).getD 0 (.as .emp), (ddL q 0 y).getD 1 (.as .emp), (ddL q 0 y).getD 2 (.as .emp), (ddL q 0 y).getD 3 (.as .emp), .as (mapA y.qm (mpL (y.zs.set j (ps.getD j 0, F, s'))))]).p F' A' := by rw [em]; exact h6
   exact As.unE (hp_sel (idx := [1, 2, 3, 4, 5, 0]) (by kernel_rfl) h8)
  exact h7
theorem dd_ctr {P : Program} {f : FuncId} {args : List SV} {R : Type} {φ : R -> Prop} {res : R -> SV} {q k k' j : Nat} {ps : List Nat} {l : List (Fm × Ts)} {F : Fm} {s s' : Ts} {E : List Ch} {E' : R -> List Ch} (e : l[j]? = some (F, s)) (hk : k <= k')
  (C : Ctr P nO f args (.as (tabA (ps.getD j 0) F s k) :: E) R φ res (fun r => .as (tabA (ps.getD j 0) F s' k') :: E' r)) : Ctr P nO f args (.as (ddA q k ps l) :: E) R φ res (fun r => .as (ddA q k' ps (l.set j (F, s'))) :: E' r) :=
 ctr_focus (fun _ _ h => by
  obtain ⟨J, h1, h2⟩ := dd_at e h
  exact ⟨J, h1, fun _ _ _ h => h2 _ _ _ _ hk h⟩) C
theorem set_same {l : List (Fm × Ts)} {j : Nat} {v : Fm × Ts} (e : l[j]? = some v) : l.set j v = l := by
 obtain ⟨h1, h2⟩ := List.getElem?_eq_some_iff.1 e
 rw [<- h2]; exact List.set_getElem_self h1
theorem dd_see {P : Program} {f : FuncId} {args : List SV} {R : Type} {φ : R -> Prop} {res : R -> SV} {q k j : Nat} {ps : List Nat} {l : List (Fm × Ts)} {F : Fm} {s : Ts} {E : List Ch} {E' : R -> List Ch} (e : l[j]? = some (F, s))
  (C : Ctr P nO f args (.as (tabA (ps.getD j 0) F s k) :: E) R φ res (fun r => .as (tabA (ps.getD j 0) F s k) :: E' r)) : Ctr P nO f args (.as (ddA q k ps l) :: E) R φ res (fun r => .as (ddA q k ps l) :: E' r) := by
 have h := dd_ctr (q := q) e (Nat.le_refl k) C
 rwa [set_same e] at h
theorem dd_mono {q k k' : Nat} {ps : List Nat} {l : List (Fm × Ts)} {E : List Ch} (h : k <= k') : GE (.as (ddA q k ps l) :: E) Unit (fun _ => True) (fun _ => .as (ddA q k' ps l) :: E) := fun _ A hF => by
 obtain ⟨F1, F2, ⟨y, hy, h1⟩, h2, j⟩ := hF
 refine ⟨(), _, trivial, ⟨F1, F2, ⟨y, hy, ?_⟩, h2, j⟩, .refl⟩
 have h3 : ((bigA (tabI k) y.zs).star (hpA ((ddL q 0 y).take 5))).p F1 A := As.unE (hp_sel (idx := [5, 0, 1, 2, 3, 4]) (by kernel_rfl) h1)
 have h4 : (hpA [.as (bigA (tabI k') y.zs), (ddL q 0 y).getD 0 (.as .emp), (ddL q 0 y).getD 1 (.as .emp), (ddL q 0 y).getD 2 (.as .emp), (ddL q 0 y).getD 3 (.as .emp), (ddL q 0 y).getD 4 (.as .emp)]).p F1 A := As.map h3 fun _ k => big_mono (fun _ _ k => tab_mo h k) k
 exact As.unE (hp_sel (idx := [1, 2, 3, 4, 5, 0]) (by kernel_rfl) h4)
theorem ix_l {ps : List Nat} {l : List (Fm × Ts)} {y : Dd} (hy : ddP ps l y) {s : ByteArray} : idxF (y.zs.map fun z => z.2.1) (fun F => strEq F.name s) = idxF (l.map Prod.fst) (fun F => strEq F.name s) := by
 rw [<- hy.fm, lst_F hy]
theorem dtbN_ctr {q k : Nat} {ps : List Nat} {l : List (Fm × Ts)} {s : ByteArray} (hn : idxF (l.map Prod.fst) (fun F => strEq F.name s) = -1) : Ctr Tryz.prog nO 39 [.o (.p 1 q 0 0 0), .o (.t s)] [.as (ddA q k ps l)] Unit (fun _ => True) (fun _ => .o (.v (.pointer none))) (fun _ => [.as (ddA q k ps l)]) :=
 ctr_box (ψ := ddP ps l) (L := ddL q k) (E := []) (R' := Unit) (ψ' := fun _ => ddP ps l) (L' := fun _ => ddL q k) (E' := fun _ => []) [0, 4] [0, 2, 3, 4, 1, 5] (fun y _ => ()) (fun y _ => y)
  (fun y hy => dtabN_ctr (q := q) (qs := y.qs) (qm := y.qm) (zs := y.zs) (s := s) ((ix_l hy).trans hn))
  (fun y => ⟨by kernel_rfl, by kernel_rfl⟩)
  (fun y r hy hr => ⟨trivial, rfl, hy⟩)
  (fun y r => ⟨by kernel_rfl, by kernel_rfl⟩)
theorem dtb_ctr {q k j : Nat} {ps : List Nat} {l : List (Fm × Ts)} {s : ByteArray} (hj : j < l.length) (hn : idxF (l.map Prod.fst) (fun F => strEq F.name s) = (j : Int)) : Ctr Tryz.prog nO 39 [.o (.p 1 q 0 0 0), .o (.t s)] [.as (ddA q k ps l)] Unit (fun _ => True) (fun _ => .o (.p 7 (ps.getD j 0) 0 0 0)) (fun _ => [.as (ddA q k ps l)]) :=
 ctr_box (ψ := ddP ps l) (L := ddL q k) (E := []) (R' := Unit) (ψ' := fun _ => ddP ps l) (L' := fun _ => ddL q k) (E' := fun _ => []) [0, 4] [0, 2, 3, 4, 1, 5] (fun y _ => ()) (fun y _ => y)
  (fun y hy => dtab_ctr (q := q) (qs := y.qs) (qm := y.qm) (zs := y.zs) (s := s) (j := j) ((ix_l hy).trans hn))
  (fun y => ⟨by kernel_rfl, by kernel_rfl⟩)
  (fun y r hy hr => ⟨trivial, by
   obtain ⟨v, hv⟩ : ∃ v, l[j]? = some v := ⟨_, List.getElem?_eq_getElem hj⟩
   show SV.den (.o (.p 7 ((y.zs.getD j dZ).1) 0 0 0)) = _
   rw [(zs_at hy (F := v.1) (s := v.2) hv).2], hy⟩)
  (fun y r => ⟨by kernel_rfl, by kernel_rfl⟩)
end Go.Proofs.YtagidoadfajpgaaGreat
namespace Go.Proofs.YtagidoadfajpgaaGreat
set_option maxHeartbeats 4000000
open Go.Abs
variable {nO : Nat}
set_option maxRecDepth 100000
attribute [local irreducible] GP ruP ruN nxP acS gst cdP loP invS ent1 ent2 enP caA resV lgP agN
structure Opn where
 kind : Int
 tab : ByteArray
 id : Int
 col : ByteArray
 vs : List Va
structure Oq where
 q : Nat
 c : Nat
 z : Bool
 y : Bool
 o : Opn
def dOq : Oq := ⟨0, 0, true, true, ⟨0, ⟨#[]⟩, 0, ⟨#[]⟩, []⟩⟩
def eOq : En Oq := ⟨5, fun x => [.i x.o.kind, .t x.o.tab, .i x.o.id, .t x.o.col, .s 941 x.q 3 0 x.o.vs.length x.c x.z], dOq⟩
def oqA (x : Oq) : As := (vc eV 941 x.q x.o.vs 26 .imm x.y).den
structure oP (x : Oq) : Prop where
 z : x.z = true -> x.o.vs.length = 0
 l : x.o.vs.length < 9223372036854775808
structure oB (x : Oq) : Prop extends oP x where
 yz : x.y = x.z
 sz : ∀ i, i < x.o.vs.length -> (x.o.vs.getD i eV.d).s.size < 1000000000
 vl : x.o.vs.length < 1000000
def cutO (o : Opn) : Opn := ⟨o.kind, cutS o.tab 20, o.id, cutS o.col 20, cutVs o.vs (min 7 o.vs.length)⟩
def okeys (xs : List Oq) : List Opn := xs.map fun x => x.o
def opsN (l : List Opn) (n : Nat) : List Opn := (l.take n).map cutO
theorem opsN_succ {xs : List Oq} {i : Nat} (h : i < xs.length) : (okeys xs).take (i + 1) = (okeys xs).take i ++ [(xs.getD i dOq).o] := by
 rw [List.take_add_one, List.getElem?_eq_getElem (by unfold okeys; rw [List.length_map]; exact h), getD_at h]
 unfold okeys; rw [List.getElem_map]; rfl
theorem okeys_snoc {xs ys : List Oq} {x : Oq} {i : Nat} (h : okeys ys = opsN (okeys xs) i) (hi : i < xs.length) (e : x.o = cutO (xs.getD i dOq).o) : okeys (ys ++ [x]) = opsN (okeys xs) (i + 1) := by
 unfold opsN at h ⊢
 rw [opsN_succ hi, List.map_append, <- h]
 unfold okeys
 rw [List.map_append, List.map_cons, e]; rfl
theorem opsN_end {xs : List Oq} {n i : Nat} (h : ¬ ((i : Int) < (xs.length : Int) /\ (i : Int) < (n : Int))) (hi : i <= xs.length /\ i <= n) : opsN (okeys xs) i = opsN (okeys xs) n := by
 unfold opsN
 congr 1
 by_cases k : i < n
 ·have e : i = xs.length := by omega
  rw [List.take_of_length_le (by unfold okeys; rw [List.length_map]; omega), List.take_of_length_le (by unfold okeys; rw [List.length_map]; omega)]
 ·have e : i = n := by omega
  rw [e]
theorem ops12_ctr {q c : Nat} {z : Bool} {xs : List Oq} {t : TypeId} {m : Md} {n : Nat} (hz : z = true -> xs.length = 0) (hn1 : n < 1000000) (hxo : ∀ i, i < xs.length -> oP (xs.getD i dOq)) : Ctr Tryz.prog nO 23 [.o (.s 1 q 5 0 xs.length c z), .o (.i (n : Int))] [vc eOq 1 q xs t m z, .as (bigA oqA xs)] ((Nat) × (List Oq)) (fun r => okeys r.2 = opsN (okeys xs) n /\ ∀ i, i < r.2.length -> oB (r.2.getD i dOq)) (fun r => .o (.s 2 r.1 5 0 r.2.length r.2.length r.2.isEmpty)) (fun r => [vc eOq 2 r.1 r.2 84 .grown r.2.isEmpty, .as (bigA oqA r.2), vc eOq 1 q xs t m z, .as (bigA oqA xs)]) := by
 refine fs 100 fun B => g0 fun _ => g0 fun _ => g0 fun _ => gh (nil_vec 100 5 eOq.f eOq.d 84 .grown) [] [] 101 fun _ _ => gh (big_nil (I := oqA)) [] [] 101 fun _ _ => sv 5 (v := .o (.v (.slice none 0 0))) (v' := .o (.s 100 0 5 0 (([] : List Oq).length) (([] : List Oq).length) (([] : List Oq).isEmpty))) rfl <| lp3 (Nat) (Nat) (List Oq) [0, 1] (fun r => [(6, .o (.i (r.1 : Int))), (5, .o (.s 100 r.2.1 5 0 r.2.2.length r.2.2.length r.2.2.isEmpty))]) [2, 3] (fun r => [vc eOq 100 r.2.1 r.2.2 84 .grown r.2.2.isEmpty, .as (bigA oqA r.2.2)]) 121 (fun r => (r.1 <= xs.length /\ r.1 <= n) /\ r.2.2.length = r.1 /\ okeys r.2.2 = opsN (okeys xs) r.1 /\ ∀ k, k < r.2.2.length -> oB (r.2.2.getD k dOq)) (fun r => n - r.1) (⟨0, 0, []⟩) ⟨⟨Nat.zero_le _, Nat.zero_le _⟩, rfl, rfl, fun _ h => absurd h (Nat.not_lt_zero _)⟩ [1, 0] (fun i pq ys hx ag104 => ?_)
 try dsimp only at hx
 obtain ⟨hi, hyl, hyk, hyo⟩ := hx
 refine g0 fun _ => cd (and (decide ((i : Int) < (xs.length : Int))) (decide ((i : Int) < (n : Int)))) (fun h1 => ?_) (fun h1 => ?_)
 ·have h1 : ((i : Int) < (xs.length : Int)) /\ ((i : Int) < (n : Int)) := by simpa using h1
  refine go (fun q106 => (o4 (nz i) (by omega : (i : Int) < (xs.length : Int)) (zf hz (show 0 < xs.length by omega) : z = false) (by omega : i < xs.length))) fun q106 => gh (big_out (I := oqA) (l := xs) i dOq (by omega)) [4] [] 122 fun _ _ => gh (ge_op (c := vc eV 941 ((xs.getD i dOq).q) ((xs.getD i dOq).o.vs) 26 .imm ((xs.getD i dOq).y)) (I := oqA (xs.getD i dOq))) [0] [] 122 fun _ _ => g0 fun _ => cl (@cut_ctr _ ((xs.getD i dOq).o.tab) 20) [] [] 122 fun _ _ => g0 fun _ => cl (@cut_ctr _ ((xs.getD i dOq).o.col) 20) [] [] 122 fun _ _ => g0 fun _ => cl (@lvals_ctr _ ((xs.getD i dOq).q) ((xs.getD i dOq).c) ((xs.getD i dOq).z) ((xs.getD i dOq).o.vs) 26 .imm ((xs.getD i dOq).y) 7 (hxo i (by omega)).z (hxo i (by omega)).l (by decide)) [0] [(6, 941), (7, 122)] 123 fun qv _ => g0 fun q113 => apd eOq ys [(⟨qv, (cutVs (xs.getD i dOq).o.vs (min 7 (xs.getD i dOq).o.vs.length)).length, (cutVs (xs.getD i dOq).o.vs (min 7 (xs.getD i dOq).o.vs.length)).isEmpty, (cutVs (xs.getD i dOq).o.vs (min 7 (xs.getD i dOq).o.vs.length)).isEmpty, cutO (xs.getD i dOq).o⟩ : Oq)] (ys ++ [(⟨qv, (cutVs (xs.getD i dOq).o.vs (min 7 (xs.getD i dOq).o.vs.length)).length, (cutVs (xs.getD i dOq).o.vs (min 7 (xs.getD i dOq).o.vs.length)).isEmpty, (cutVs (xs.getD i dOq).o.vs (min 7 (xs.getD i dOq).o.vs.length)).isEmpty, cutO (xs.getD i dOq).o⟩ : Oq)]) 100 pq .grown ys.isEmpty ((ys ++ [(⟨qv, (cutVs (xs.getD i dOq).o.vs (min 7 (xs.getD i dOq).o.vs.length)).length, (cutVs (xs.getD i dOq).o.vs (min 7 (xs.getD i dOq).o.vs.length)).isEmpty, (cutVs (xs.getD i dOq).o.vs (min 7 (xs.getD i dOq).o.vs.length)).isEmpty, cutO (xs.getD i dOq).o⟩ : Oq)]).isEmpty) (.blk 123 (q113 123) [.i ((xs.getD i dOq).o.kind), .t (cutS ((xs.getD i dOq).o.tab) 20), .i ((xs.getD i dOq).o.id), .t (cutS ((xs.getD i dOq).o.col) 20), .s 122 qv 3 0 ((cutVs ((xs.getD i dOq).o.vs) (min 7 ((xs.getD i dOq).o.vs).length)).length) ((cutVs ((xs.getD i dOq).o.vs) (min 7 ((xs.getD i dOq).o.vs).length)).length) ((cutVs ((xs.getD i dOq).o.vs) (min 7 ((xs.getD i dOq).o.vs).length)).isEmpty)] 84 .own) (q113 123) 0 1 1 false 124 [5, 0] 125 84 (fun h _ => ne_of h) (by simp only [List.length_cons, List.length_nil]; omega) (src_one rfl) (by simp) rfl fun q114 => g0 fun _ => gh (ge_sh (c := vc eV 941 ((xs.getD i dOq).q) ((xs.getD i dOq).o.vs) 26 .imm ((xs.getD i dOq).y)) (I := oqA (xs.getD i dOq))) [3] [] 125 fun _ _ => gh (big_bk (I := oqA) (l := xs) i dOq (by omega)) [0, 4] [] 125 fun _ _ => gh (vec_imm (E := eV) (g := 122) (q := qv) (xs := (cutVs ((xs.getD i dOq).o.vs) (min 7 ((xs.getD i dOq).o.vs).length))) (t := 26) (m := .grown) (z := (cutVs ((xs.getD i dOq).o.vs) (min 7 ((xs.getD i dOq).o.vs).length)).isEmpty)) [3] [] 125 fun _ _ => gh (ge_sh (c := vc eV 122 qv (cutVs ((xs.getD i dOq).o.vs) (min 7 ((xs.getD i dOq).o.vs).length)) 26 .imm ((cutVs ((xs.getD i dOq).o.vs) (min 7 ((xs.getD i dOq).o.vs).length)).isEmpty)) (I := oqA (⟨qv, (cutVs (xs.getD i dOq).o.vs (min 7 (xs.getD i dOq).o.vs.length)).length, (cutVs (xs.getD i dOq).o.vs (min 7 (xs.getD i dOq).o.vs.length)).isEmpty, (cutVs (xs.getD i dOq).o.vs (min 7 (xs.getD i dOq).o.vs.length)).isEmpty, cutO (xs.getD i dOq).o⟩ : Oq))) [0] [] 125 fun _ _ => gh (big_snoc (I := oqA) (l := ys) (x := (⟨qv, (cutVs (xs.getD i dOq).o.vs (min 7 (xs.getD i dOq).o.vs.length)).length, (cutVs (xs.getD i dOq).o.vs (min 7 (xs.getD i dOq).o.vs.length)).isEmpty, (cutVs (xs.getD i dOq).o.vs (min 7 (xs.getD i dOq).o.vs.length)).isEmpty, cutO (xs.getD i dOq).o⟩ : Oq))) [0, 5] [] 125 fun _ _ => go (fun _ => (o2 (by omega : -9223372036854775808 <= (i : Int) + 1) (by omega : (i : Int) + 1 < 9223372036854775808))) fun _ => ag104 _ _ (⟨i + 1, q114, ys ++ [(⟨qv, (cutVs (xs.getD i dOq).o.vs (min 7 (xs.getD i dOq).o.vs.length)).length, (cutVs (xs.getD i dOq).o.vs (min 7 (xs.getD i dOq).o.vs.length)).isEmpty, (cutVs (xs.getD i dOq).o.vs (min 7 (xs.getD i dOq).o.vs.length)).isEmpty, cutO (xs.getD i dOq).o⟩ : Oq)]⟩) (by first | omega | (simp only; omega)) (by dsimp only; exact ⟨by omega, (by rw [List.length_append, hyl]; rfl), okeys_snoc hyk (by omega) rfl, snoc_P hyo { z := fun h => List.length_eq_zero_iff.2 (List.isEmpty_iff.1 h), l := (by show (cutVs _ _).length < _; rw [cutVs_len]; omega), yz := rfl, sz := fun j hj => Nat.lt_of_le_of_lt (cutVs_sz hj) (by decide), vl := (by show (cutVs _ _).length < _; rw [cutVs_len]; omega) }⟩) [2, 0, 5, 1] (by kernel_rfl) (by kernel_rfl)
 ·have h1 : ¬ (((i : Int) < (xs.length : Int)) /\ ((i : Int) < (n : Int))) := by simpa using h1
  have hie := h1
  refine g0 fun _ => rt trivial (⟨pq, ys⟩) ⟨(by rw [hyk]; exact opsN_end hie hi), hyo⟩ [0, 1, 2, 3]
end Go.Proofs.YtagidoadfajpgaaGreat
namespace Go.Proofs.YtagidoadfajpgaaGreat
set_option maxHeartbeats 4000000
open Go.Abs
variable {nO : Nat}
set_option maxRecDepth 100000
attribute [local irreducible] GP ruP ruN nxP acS gst cdP loP invS ent1 ent2 enP caA resV lgP agN
def dFT : Fm × Ts := (⟨⟨#[]⟩, ⟨#[]⟩, [], []⟩, ⟨[], 0⟩)
def tix (l : List (Fm × Ts)) (s : ByteArray) : Int := idxF (l.map Prod.fst) (fun F => strEq F.name s)
open Classical in
noncomputable def opT (F : Fm) (s : Ts) (o : Opn) : Ts := if o.kind = 1 then insS F s o.vs else if o.kind = 2 then delS s o.id else if o.vs.length = 1 then setS F s o.id o.col (o.vs.getD 0 eV.d) else s
noncomputable def opL (l : List (Fm × Ts)) (o : Opn) : List (Fm × Ts) := if tix l o.tab = -1 then l else l.set (tix l o.tab).toNat ((l.getD (tix l o.tab).toNat dFT).1, opT (l.getD (tix l o.tab).toNat dFT).1 (l.getD (tix l o.tab).toNat dFT).2 o)
noncomputable def fillL (l : List (Fm × Ts)) (ops : List Opn) : List (Fm × Ts) := ops.foldl opL l
def bnd (l : List (Fm × Ts)) (n : Nat) : Prop := ∀ (j : Nat) (F : Fm) (s : Ts), l[j]? = some (F, s) -> s.next <= n /\ s.rows.length <= n
theorem op_no {l : List (Fm × Ts)} {o : Opn} (h : tix l o.tab = -1) : opL l o = l := if_pos h
theorem op_at {l : List (Fm × Ts)} {o : Opn} {j : Nat} {F : Fm} {s : Ts} (h : tix l o.tab = (j : Int)) (e : l[j]? = some (F, s)) : opL l o = l.set j (F, opT F s o) := by
 have e2 : l.getD j dFT = (F, s) := by rw [List.getD_eq_getElem?_getD, e]; rfl
 unfold opL
 rw [if_neg (by rw [h]; omega), h, Int.toNat_natCast, e2]
theorem tix_cases {l : List (Fm × Ts)} {s : ByteArray} : tix l s = -1 ∨ ∃ j F t, l[j]? = some (F, t) /\ tix l s = ((j : Nat) : Int) := by
 rcases idxF_cases (l := l.map Prod.fst) (p := fun F => strEq F.name s) with h | ⟨j, hj, h⟩
 ·exact .inl h
 ·rw [List.length_map] at hj
  exact .inr ⟨j, _, _, List.getElem?_eq_getElem hj, h⟩
theorem opT_ins {F : Fm} {s : Ts} {o : Opn} (h : o.kind = 1) : opT F s o = insS F s o.vs := if_pos h
theorem opT_del {F : Fm} {s : Ts} {o : Opn} (h : o.kind = 2) : opT F s o = delS s o.id := (if_neg (by omega)).trans (if_pos h)
theorem opT_set {F : Fm} {s : Ts} {o : Opn} (h1 : o.kind ≠ 1) (h2 : o.kind ≠ 2) (h : o.vs.length = 1) : opT F s o = setS F s o.id o.col (o.vs.getD 0 eV.d) := (if_neg h1).trans ((if_neg h2).trans (if_pos h))
theorem opT_no {F : Fm} {s : Ts} {o : Opn} (h1 : o.kind ≠ 1) (h2 : o.kind ≠ 2) (h : o.vs.length ≠ 1) : opT F s o = s := (if_neg h1).trans ((if_neg h2).trans (if_neg h))
theorem opT_le {F : Fm} {s : Ts} {o : Opn} {n : Nat} (h : s.next <= n /\ s.rows.length <= n) : (opT F s o).next <= n + 1 /\ (opT F s o).rows.length <= n + 1 := by
 unfold opT
 split
 ·have := insS_le (F := F) (s := s) (vs := o.vs); omega
 split
 ·have := delS_le (s := s) (id := o.id); omega
 split
 ·have := setS_le (F := F) (s := s) (id := o.id) (sn := o.col) (v := o.vs.getD 0 eV.d); omega
 ·omega
theorem bnd_op {l : List (Fm × Ts)} {n : Nat} {o : Opn} (h : bnd l n) : bnd (opL l o) (n + 1) := by
 intro j F s e
 rcases tix_cases (l := l) (s := o.tab) with k | ⟨i, G, t, e2, k⟩
 ·rw [op_no k] at e
  have := h j F s e; omega
 ·rw [op_at k e2, List.getElem?_set] at e
  split at e
  ·split at e
   ·cases e; exact opT_le (h i _ t e2)
   ·cases e
  ·have := h j F s e; omega
theorem op_fst {l : List (Fm × Ts)} {o : Opn} : (opL l o).map Prod.fst = l.map Prod.fst := by
 rcases tix_cases (l := l) (s := o.tab) with k | ⟨i, G, t, e2, k⟩
 ·rw [op_no k]
 ·rw [op_at k e2, List.map_set]
  obtain ⟨h1, h2⟩ := List.getElem?_eq_some_iff.1 e2
  have e3 : G = (l.map Prod.fst)[i]'(by rw [List.length_map]; exact h1) := by rw [List.getElem_map, h2]
  rw [e3]; exact List.set_getElem_self _
theorem fill_fst {l : List (Fm × Ts)} {ops : List Opn} : (fillL l ops).map Prod.fst = l.map Prod.fst := by
 induction ops generalizing l with
 | nil => rfl
 | cons o ops ih => exact (ih (l := opL l o)).trans op_fst
theorem bnd_fill {l : List (Fm × Ts)} {ops : List Opn} {n : Nat} (h : bnd l n) : bnd (fillL l ops) (n + ops.length) := by
 induction ops generalizing l n with
 | nil => exact h
 | cons o ops ih =>
  have := ih (bnd_op (o := o) h)
  rw [List.length_cons, show n + (ops.length + 1) = n + 1 + ops.length by omega]; exact this
theorem fill_succ {l u : List (Fm × Ts)} {xs : List Oq} {i : Nat} (h : u = fillL l ((okeys xs).take i)) (hi : i < xs.length) : opL u (xs.getD i dOq).o = fillL l ((okeys xs).take (i + 1)) := by
 rw [opsN_succ hi, h]; unfold fillL; rw [List.foldl_append]; rfl
theorem fnd_l {l : List (Fm × Ts)} {y : Dr} (h : dbP l y) {s : ByteArray} : idxF y.xs (fun x => strEq x.F.name s) = tix l s := by
 rw [idx_map, lst_G h]; rfl
theorem fins_ctr {q k : Nat} {ps : List Nat} {l : List (Fm × Ts)} {j : Nat} {F : Fm} {s : Ts} {qv cv : Nat} {zv : Bool} {vs : List Va} {tv : TypeId} {mv : Md} (e : l[j]? = some (F, s)) (hk : k < 70000) (hzv : zv = true -> vs.length = 0) (hlv : vs.length < 1000000) (hn : s.next < 65536) (hsz : ∀ i, i < vs.length -> (vs.getD i eV.d).s.size < 1000000000) : Ctr Tryz.prog nO 60 [.o (.p 1 (ps.getD j 0) 0 0 0), .o (.s 6 qv 3 0 vs.length cv zv)] [.as (ddA q k ps l), vc eV 6 qv vs tv mv zv] (Unit) (fun _ => True) (fun r => .t [(false, [.i (insI F s vs)]), (false, [.i (insE F vs)])]) (fun r => [.as (ddA q (k + 2) ps (l.set j (F, (insS F s vs)))), vc eV 6 qv vs tv mv zv]) :=
 ctr_post (dd_ctr e (Nat.le_succ k) (wins_all hk hzv hlv hn hsz)) fun _ _ => dd_mono (by omega)
theorem fdel_ctr {q k : Nat} {ps : List Nat} {l : List (Fm × Ts)} {j : Nat} {F : Fm} {s : Ts} {id : Int} (e : l[j]? = some (F, s)) (hk : k < 70000) (hn : s.next <= 65536) : Ctr Tryz.prog nO 66 [.o (.p 1 (ps.getD j 0) 0 0 0), .o (.i id)] [.as (ddA q k ps l)] (Unit) (fun _ => True) (fun r => .o (.cb (s.is id))) (fun r => [.as (ddA q (k + 2) ps (l.set j (F, (delS s id))))]) :=
 dd_ctr e (by omega) (wdel_all hk hn)
theorem fset_ctr {q k : Nat} {ps : List Nat} {l : List (Fm × Ts)} {j : Nat} {F : Fm} {s : Ts} {id : Int} {sn : ByteArray} {v : Va} (e : l[j]? = some (F, s)) (hk : k < 70000) (hs : v.s.size < 1000000000) : Ctr Tryz.prog nO 68 [.o (.p 1 (ps.getD j 0) 0 0 0), .o (.i id), .o (.t sn), .a [.i v.k, .i v.n, .t v.s]] [.as (ddA q k ps l)] (Unit) (fun _ => True) (fun r => .o (.i (setE F s id sn v))) (fun r => [.as (ddA q (k + 2) ps (l.set j (F, (setS F s id sn v))))]) :=
 dd_ctr e (by omega) (wset_all hk hs)
theorem fill12_ctr {q k : Nat} {ps : List Nat} {l : List (Fm × Ts)} {w n qo co : Nat} {zo : Bool} {xs : List Oq} {to : TypeId} {mo : Md} (hzo : zo = true -> xs.length = 0) (hB : bnd l n) (hn : n + xs.length < 60000) (hk : k + 2 * xs.length < 70000) (hxo : ∀ i, i < xs.length -> oB (xs.getD i dOq)) : Ctr Tryz.prog nO 22 [.o (.p 1 q 0 0 0), .o (.p 2 w 0 0 0), .o (.s 3 qo 5 0 xs.length co zo)] [.as (ddA q k ps l), .as (dbA w l), vc eOq 3 qo xs to mo zo, .as (bigA oqA xs)] (Unit) (fun _ => True) (fun r => .t []) (fun r => [.as (ddA q (k + 2 * xs.length) ps (fillL l (okeys xs))), .as (dbA w (fillL l (okeys xs))), vc eOq 3 qo xs to mo zo, .as (bigA oqA xs)]) := by
 refine fs 100 fun B => g0 fun _ => lp2 (Nat) (List (Fm × Ts)) [0, 1, 2] (fun r => [(6, .o (.i (r.1 : Int)))]) [2, 3] (fun r => [.as (ddA q (k + 2 * r.1) ps r.2), .as (dbA w r.2)]) 120 (fun r => r.1 <= xs.length /\ r.2 = fillL l ((okeys xs).take r.1) /\ bnd r.2 (n + r.1)) (fun r => xs.length - r.1) (⟨0, l⟩) ⟨Nat.zero_le _, rfl, hB⟩ [0, 1] (fun i u hx ag102 => ?_)
 try dsimp only at hx
 obtain ⟨hi, hu, hub⟩ := hx
 refine g0 fun _ => cdD ((i : Int) < (xs.length : Int)) (fun h1 => ?_) (fun h1 => ?_)
 ·refine gh (big_out (I := oqA) (l := xs) i dOq (by omega)) [3] [] 120 fun _ _ => gh (ge_op (c := vc eV 941 ((xs.getD i dOq).q) ((xs.getD i dOq).o.vs) 26 .imm ((xs.getD i dOq).y)) (I := oqA (xs.getD i dOq))) [0] [] 120 fun _ _ => gh (ge_re (l := [vc eV 941 ((xs.getD i dOq).q) ((xs.getD i dOq).o.vs) 26 .imm ((xs.getD i dOq).y)]) (l' := [vc eV 941 ((xs.getD i dOq).q) ((xs.getD i dOq).o.vs) 26 .imm ((xs.getD i dOq).z)]) (by rw [(hxo i (by omega)).yz])) [0] [] 120 fun _ _ => go (fun q104 => (o4 (nz i) (by omega : (i : Int) < (xs.length : Int)) (zf hzo (show 0 < xs.length by omega) : zo = false) (by omega : i < xs.length))) (fun q104 => ?_)
  rcases tix_cases (l := u) (s := (xs.getD i dOq).o.tab) with hn | ⟨j, F, s, e, hn⟩
  ·refine gh (box_open (φ := dbP u) (L := dbL w)) [4] [(1, 2), (2, 952), (3, 953), (4, 954)] 121 fun y hy => g0 fun _ => cl (dtbN_ctr (q := q) (k := (k + 2 * i)) (ps := ps) (l := u) (s := (xs.getD i dOq).o.tab) hn) [8] [] 121 fun _ _ => g0 fun _ => cl (@r8find_ctr _ y.qS y.xs y.mS ((xs.getD i dOq).o.tab) (by have := hy.le; omega)) [2] [(2, 952)] 121 fun _ _ => g0 fun _ => sv 9 (v := .o (.i (idxF y.xs (fun x => strEq x.F.name ((xs.getD i dOq).o.tab))))) (v' := .o (.i (-1 : Int))) (congrArg (Value.int .i64) ((fnd_l hy).trans hn)) <| gh (box_shut (φ := dbP u) (L := dbL w) y hy) [2, 0, 3, 4, 5] [] 121 fun _ _ => g0 fun _ => cdT rfl <| go (fun _ => (o2 (by omega : -9223372036854775808 <= (i : Int) + 1) (by omega : (i : Int) + 1 < 9223372036854775808))) fun _ => gh (ge_re (l := [vc eV 941 ((xs.getD i dOq).q) ((xs.getD i dOq).o.vs) 26 .imm ((xs.getD i dOq).z)]) (l' := [vc eV 941 ((xs.getD i dOq).q) ((xs.getD i dOq).o.vs) 26 .imm ((xs.getD i dOq).y)]) (by rw [(hxo i (by omega)).yz])) [3] [] 121 fun _ _ => gh (ge_sh (c := vc eV 941 ((xs.getD i dOq).q) ((xs.getD i dOq).o.vs) 26 .imm ((xs.getD i dOq).y)) (I := oqA (xs.getD i dOq))) [0] [] 121 fun _ _ => gh (big_bk (I := oqA) (l := xs) i dOq (by omega)) [0, 4] [] 121 fun _ _ => ?_
   have eo : u = opL u (xs.getD i dOq).o := (op_no hn).symm
   refine gh (ge_re (l := [.as (ddA q (k + 2 * i) ps u)]) (l' := [.as (ddA q (k + 2 * i) ps (opL u (xs.getD i dOq).o))]) (congrArg (fun z => [Ch.den (.as (ddA q (k + 2 * i) ps z))]) eo)) [2] [] 121 fun _ _ => gh (dd_mono (q := q) (k := k + 2 * i) (k' := k + 2 * (i + 1)) (ps := ps) (l := opL u (xs.getD i dOq).o) (E := []) (by omega)) [0] [] 121 fun _ _ => gh (ge_re (l := [.as (dbA w u)]) (l' := [.as (dbA w (opL u (xs.getD i dOq).o))]) (congrArg (fun z => [Ch.den (.as (dbA w z))]) eo)) [2] [] 121 fun _ _ => ag102 _ _ (⟨i + 1, opL u (xs.getD i dOq).o⟩) (by first | omega | (simp only; omega)) (by dsimp only; exact ⟨by omega, fill_succ hu (by omega), bnd_op hub⟩) [1, 0, 4, 2] (by kernel_rfl) (by kernel_rfl)
  ·have hb := hub j F s e
   refine gh (box_open (φ := dbP u) (L := dbL w)) [4] [(1, 2), (2, 952), (3, 953), (4, 954)] 121 fun y hy => g0 fun _ => cl (dtb_ctr (q := q) (k := (k + 2 * i)) (ps := ps) (l := u) (j := j) (s := (xs.getD i dOq).o.tab) (List.getElem?_eq_some_iff.1 e).1 hn) [8] [(7, 121)] 122 fun _ _ => ?_
   refine g0 fun _ => cl (@r8find_ctr _ y.qS y.xs y.mS ((xs.getD i dOq).o.tab) (by have := hy.le; omega)) [2] [(2, 952)] 122 fun _ _ => g0 fun _ => sv 9 (v := .o (.i (idxF y.xs (fun x => strEq x.F.name ((xs.getD i dOq).o.tab))))) (v' := .o (.i (j : Int))) (congrArg (Value.int .i64) ((fnd_l hy).trans hn)) <| gh (box_shut (φ := dbP u) (L := dbL w) y hy) [2, 0, 3, 4, 5] [] 122 fun _ _ => g0 fun _ => cdF (b := decide ((j : Int) < 0)) (by simp) <| g0 fun _ => cdE ((xs.getD i dOq).o.kind) 1 (fun h3 => ?_) (fun h3 => ?_)
   ·refine g0 fun _ => cl (@fins_ctr _ q (k + 2 * i) ps u j F s ((xs.getD i dOq).q) ((xs.getD i dOq).c) ((xs.getD i dOq).z) ((xs.getD i dOq).o.vs) 26 .imm (by assumption) (by omega) (hxo i (by omega)).z (hxo i (by omega)).vl (by omega) (hxo i (by omega)).sz) [1, 3] [(1, 121), (6, 941)] 122 fun _ _ => g0 fun _ => cl (dins_all (q := w) (l := u) (t := j) (F := F) (s := s) (qv := (xs.getD i dOq).q) (cv := (xs.getD i dOq).c) (zv := (xs.getD i dOq).z) (vs := (xs.getD i dOq).o.vs) (tv := 26) (mv := .imm) (by assumption) (hxo i (by omega)).z (hxo i (by omega)).vl (hxo i (by omega)).sz (by omega) (by omega)) [2, 1] [(6, 941)] 122 fun _ _ => go (fun _ => (o2 (by omega : -9223372036854775808 <= (i : Int) + 1) (by omega : (i : Int) + 1 < 9223372036854775808))) fun _ => gh (ge_re (l := [vc eV 941 ((xs.getD i dOq).q) ((xs.getD i dOq).o.vs) 26 .imm ((xs.getD i dOq).z)]) (l' := [vc eV 941 ((xs.getD i dOq).q) ((xs.getD i dOq).o.vs) 26 .imm ((xs.getD i dOq).y)]) (by rw [(hxo i (by omega)).yz])) [1] [] 122 fun _ _ => gh (ge_sh (c := vc eV 941 ((xs.getD i dOq).q) ((xs.getD i dOq).o.vs) 26 .imm ((xs.getD i dOq).y)) (I := oqA (xs.getD i dOq))) [0] [] 122 fun _ _ => gh (big_bk (I := oqA) (l := xs) i dOq (by omega)) [0, 4] [] 122 fun _ _ => ?_
    have eo : (u.set j (F, (insS F s ((xs.getD i dOq).o.vs)))) = opL u (xs.getD i dOq).o := ((op_at hn e).trans (congrArg (fun z => u.set j (F, z)) (opT_ins h3))).symm
    refine gh (ge_re (l := [.as (ddA q ((k + 2 * i) + 2) ps (u.set j (F, (insS F s ((xs.getD i dOq).o.vs)))))]) (l' := [.as (ddA q (k + 2 * i + 2) ps (opL u (xs.getD i dOq).o))]) (congrArg (fun z => [Ch.den (.as (ddA q (k + 2 * i + 2) ps z))]) eo)) [2] [] 122 fun _ _ => gh (dd_mono (q := q) (k := k + 2 * i + 2) (k' := k + 2 * (i + 1)) (ps := ps) (l := opL u (xs.getD i dOq).o) (E := []) (by omega)) [0] [] 122 fun _ _ => gh (ge_re (l := [.as (dbA w (u.set j (F, (insS F s ((xs.getD i dOq).o.vs)))))]) (l' := [.as (dbA w (opL u (xs.getD i dOq).o))]) (congrArg (fun z => [Ch.den (.as (dbA w z))]) eo)) [2] [] 122 fun _ _ => ag102 _ _ (⟨i + 1, opL u (xs.getD i dOq).o⟩) (by first | omega | (simp only; omega)) (by dsimp only; exact ⟨by omega, fill_succ hu (by omega), bnd_op hub⟩) [1, 0, 4, 2] (by kernel_rfl) (by kernel_rfl)
   ·refine g0 fun _ => cdE ((xs.getD i dOq).o.kind) 2 (fun h4 => ?_) (fun h4 => ?_)
    ·refine g0 fun _ => cl (@fdel_ctr _ q (k + 2 * i) ps u j F s ((xs.getD i dOq).o.id) (by assumption) (by omega) (by omega)) [1] [(1, 121)] 122 fun _ _ => g0 fun _ => cl (ddel_all (q := w) (l := u) (t := j) (F := F) (s := s) (id := (xs.getD i dOq).o.id) (by assumption)) [1] [] 122 fun _ _ => go (fun _ => (o2 (by omega : -9223372036854775808 <= (i : Int) + 1) (by omega : (i : Int) + 1 < 9223372036854775808))) fun _ => gh (ge_re (l := [vc eV 941 ((xs.getD i dOq).q) ((xs.getD i dOq).o.vs) 26 .imm ((xs.getD i dOq).z)]) (l' := [vc eV 941 ((xs.getD i dOq).q) ((xs.getD i dOq).o.vs) 26 .imm ((xs.getD i dOq).y)]) (by rw [(hxo i (by omega)).yz])) [3] [] 122 fun _ _ => gh (ge_sh (c := vc eV 941 ((xs.getD i dOq).q) ((xs.getD i dOq).o.vs) 26 .imm ((xs.getD i dOq).y)) (I := oqA (xs.getD i dOq))) [0] [] 122 fun _ _ => gh (big_bk (I := oqA) (l := xs) i dOq (by omega)) [0, 4] [] 122 fun _ _ => ?_
     have eo : (u.set j (F, (delS s ((xs.getD i dOq).o.id)))) = opL u (xs.getD i dOq).o := ((op_at hn e).trans (congrArg (fun z => u.set j (F, z)) (opT_del h4))).symm
     refine gh (ge_re (l := [.as (ddA q ((k + 2 * i) + 2) ps (u.set j (F, (delS s ((xs.getD i dOq).o.id)))))]) (l' := [.as (ddA q (k + 2 * i + 2) ps (opL u (xs.getD i dOq).o))]) (congrArg (fun z => [Ch.den (.as (ddA q (k + 2 * i + 2) ps z))]) eo)) [2] [] 122 fun _ _ => gh (dd_mono (q := q) (k := k + 2 * i + 2) (k' := k + 2 * (i + 1)) (ps := ps) (l := opL u (xs.getD i dOq).o) (E := []) (by omega)) [0] [] 122 fun _ _ => gh (ge_re (l := [.as (dbA w (u.set j (F, (delS s ((xs.getD i dOq).o.id)))))]) (l' := [.as (dbA w (opL u (xs.getD i dOq).o))]) (congrArg (fun z => [Ch.den (.as (dbA w z))]) eo)) [2] [] 122 fun _ _ => ag102 _ _ (⟨i + 1, opL u (xs.getD i dOq).o⟩) (by first | omega | (simp only; omega)) (by dsimp only; exact ⟨by omega, fill_succ hu (by omega), bnd_op hub⟩) [1, 0, 4, 2] (by kernel_rfl) (by kernel_rfl)
    ·refine g0 fun _ => cdE (((xs.getD i dOq).o.vs.length : Nat) : Int) 1 (fun h5 => ?_) (fun h5 => ?_)
     ·refine go (fun _ => (o4 (by omega : (0 : Int) <= 0) (by omega : (0 : Int) < (((xs.getD i dOq).o.vs.length : Nat) : Int)) (zf (hxo i (by omega)).z (show 0 < (xs.getD i dOq).o.vs.length by omega) : (xs.getD i dOq).z = false) (by omega : 0 < ((xs.getD i dOq).o.vs).length))) fun _ => cl (@fset_ctr _ q (k + 2 * i) ps u j F s ((xs.getD i dOq).o.id) ((xs.getD i dOq).o.col) (((xs.getD i dOq).o.vs).getD 0 eV.d) (by assumption) (by omega) ((hxo i (by omega)).sz 0 (by omega))) [1] [(1, 121)] 122 fun _ _ => go (fun _ => (o4 (by omega : (0 : Int) <= 0) (by omega : (0 : Int) < (((xs.getD i dOq).o.vs.length : Nat) : Int)) (zf (hxo i (by omega)).z (show 0 < (xs.getD i dOq).o.vs.length by omega) : (xs.getD i dOq).z = false) (by omega : 0 < ((xs.getD i dOq).o.vs).length))) fun _ => cl (dset_all (q := w) (l := u) (t := j) (F := F) (s := s) (id := (xs.getD i dOq).o.id) (sn := (xs.getD i dOq).o.col) (v := (((xs.getD i dOq).o.vs).getD 0 eV.d)) (by assumption) ((hxo i (by omega)).sz 0 (by omega))) [1] [] 122 fun _ _ => go (fun _ => (o2 (by omega : -9223372036854775808 <= (i : Int) + 1) (by omega : (i : Int) + 1 < 9223372036854775808))) fun _ => gh (ge_re (l := [vc eV 941 ((xs.getD i dOq).q) ((xs.getD i dOq).o.vs) 26 .imm ((xs.getD i dOq).z)]) (l' := [vc eV 941 ((xs.getD i dOq).q) ((xs.getD i dOq).o.vs) 26 .imm ((xs.getD i dOq).y)]) (by rw [(hxo i (by omega)).yz])) [3] [] 122 fun _ _ => gh (ge_sh (c := vc eV 941 ((xs.getD i dOq).q) ((xs.getD i dOq).o.vs) 26 .imm ((xs.getD i dOq).y)) (I := oqA (xs.getD i dOq))) [0] [] 122 fun _ _ => gh (big_bk (I := oqA) (l := xs) i dOq (by omega)) [0, 4] [] 122 fun _ _ => ?_
      have eo : (u.set j (F, (setS F s ((xs.getD i dOq).o.id) ((xs.getD i dOq).o.col) (((xs.getD i dOq).o.vs).getD 0 eV.d)))) = opL u (xs.getD i dOq).o := ((op_at hn e).trans (congrArg (fun z => u.set j (F, z)) (opT_set h3 h4 (by omega)))).symm
      refine gh (ge_re (l := [.as (ddA q ((k + 2 * i) + 2) ps (u.set j (F, (setS F s ((xs.getD i dOq).o.id) ((xs.getD i dOq).o.col) (((xs.getD i dOq).o.vs).getD 0 eV.d)))))]) (l' := [.as (ddA q (k + 2 * i + 2) ps (opL u (xs.getD i dOq).o))]) (congrArg (fun z => [Ch.den (.as (ddA q (k + 2 * i + 2) ps z))]) eo)) [2] [] 122 fun _ _ => gh (dd_mono (q := q) (k := k + 2 * i + 2) (k' := k + 2 * (i + 1)) (ps := ps) (l := opL u (xs.getD i dOq).o) (E := []) (by omega)) [0] [] 122 fun _ _ => gh (ge_re (l := [.as (dbA w (u.set j (F, (setS F s ((xs.getD i dOq).o.id) ((xs.getD i dOq).o.col) (((xs.getD i dOq).o.vs).getD 0 eV.d)))))]) (l' := [.as (dbA w (opL u (xs.getD i dOq).o))]) (congrArg (fun z => [Ch.den (.as (dbA w z))]) eo)) [2] [] 122 fun _ _ => ag102 _ _ (⟨i + 1, opL u (xs.getD i dOq).o⟩) (by first | omega | (simp only; omega)) (by dsimp only; exact ⟨by omega, fill_succ hu (by omega), bnd_op hub⟩) [1, 0, 4, 2] (by kernel_rfl) (by kernel_rfl)
     ·refine go (fun _ => (o2 (by omega : -9223372036854775808 <= (i : Int) + 1) (by omega : (i : Int) + 1 < 9223372036854775808))) fun _ => gh (ge_re (l := [vc eV 941 ((xs.getD i dOq).q) ((xs.getD i dOq).o.vs) 26 .imm ((xs.getD i dOq).z)]) (l' := [vc eV 941 ((xs.getD i dOq).q) ((xs.getD i dOq).o.vs) 26 .imm ((xs.getD i dOq).y)]) (by rw [(hxo i (by omega)).yz])) [3] [] 122 fun _ _ => gh (ge_sh (c := vc eV 941 ((xs.getD i dOq).q) ((xs.getD i dOq).o.vs) 26 .imm ((xs.getD i dOq).y)) (I := oqA (xs.getD i dOq))) [0] [] 122 fun _ _ => gh (big_bk (I := oqA) (l := xs) i dOq (by omega)) [0, 4] [] 122 fun _ _ => ?_
      have eo : u = opL u (xs.getD i dOq).o := (((op_at hn e).trans (congrArg (fun z => u.set j (F, z)) (opT_no h3 h4 (by omega)))).trans (set_same e)).symm
      refine gh (ge_re (l := [.as (ddA q (k + 2 * i) ps u)]) (l' := [.as (ddA q (k + 2 * i) ps (opL u (xs.getD i dOq).o))]) (congrArg (fun z => [Ch.den (.as (ddA q (k + 2 * i) ps z))]) eo)) [2] [] 122 fun _ _ => gh (dd_mono (q := q) (k := k + 2 * i) (k' := k + 2 * (i + 1)) (ps := ps) (l := opL u (xs.getD i dOq).o) (E := []) (by omega)) [0] [] 122 fun _ _ => gh (ge_re (l := [.as (dbA w u)]) (l' := [.as (dbA w (opL u (xs.getD i dOq).o))]) (congrArg (fun z => [Ch.den (.as (dbA w z))]) eo)) [2] [] 122 fun _ _ => ag102 _ _ (⟨i + 1, opL u (xs.getD i dOq).o⟩) (by first | omega | (simp only; omega)) (by dsimp only; exact ⟨by omega, fill_succ hu (by omega), bnd_op hub⟩) [1, 0, 4, 2] (by kernel_rfl) (by kernel_rfl)
 ·have hie : i = xs.length := by omega
  have hue : u = fillL l (okeys xs) := hu.trans (congrArg (fillL l) (List.take_of_length_le (by unfold okeys; rw [List.length_map]; omega)))
  refine gh (ge_re (l := [.as (ddA q (k + 2 * i) ps u)]) (l' := [.as (ddA q (k + 2 * xs.length) ps (fillL l (okeys xs)))]) (by rw [hue, hie])) [0] [] 120 fun _ _ => gh (ge_re (l := [.as (dbA w u)]) (l' := [.as (dbA w (fillL l (okeys xs)))]) (by rw [hue])) [1] [] 120 fun _ _ => rt trivial (()) trivial [1, 0, 2, 3]
end Go.Proofs.YtagidoadfajpgaaGreat
namespace Go.Proofs.YtagidoadfajpgaaGreat
set_option maxHeartbeats 4000000
open Go.Abs
variable {nO : Nat}
set_option maxRecDepth 100000
attribute [local irreducible] GP ruP ruN nxP acS gst cdP loP invS ent1 ent2 enP caA resV lgP agN
def cmpI (a b : Int) : Int := if a < b then -1 else if a > b then 1 else 0
def cmpT (a b : ByteArray) : Int := if strLt a b = true then -1 else if strLt a b = true ∨ strEq a b = true then 0 else 1
def fst0 : List Int -> Int
 | [] => 0
 | x :: l => if x = 0 then fst0 l else x
theorem fst0_at {l : List Int} {i : Nat} (hi : i < l.length) (h : l.getD i 0 ≠ 0) (hz : ∀ j, j < i -> l.getD j 0 = 0) : fst0 l = l.getD i 0 := by
 induction l generalizing i with
 | nil => cases hi
 | cons x l ih =>
  cases i with
  | zero => exact if_neg h
  | succ i =>
   have h0 : x = 0 := hz 0 (by omega)
   exact (if_pos h0).trans (ih (Nat.lt_of_succ_lt_succ hi) h fun j hj => hz (j + 1) (by omega))
theorem fst0_no {l : List Int} (hz : ∀ j, j < l.length -> l.getD j 0 = 0) : fst0 l = 0 := by
 induction l with
 | nil => rfl
 | cons x l ih => exact (if_pos (hz 0 (Nat.zero_lt_succ _))).trans (ih fun j hj => hz (j + 1) (Nat.succ_lt_succ hj))
theorem eqV_cmp {a b : Va} : (fst0 [cmpI a.k b.k, cmpI a.n b.n, cmpT a.s b.s] == 0) = eqV a b := by
 have h1 : ∀ m n : Int, cmpI m n = 0 ↔ m = n := fun m n => by unfold cmpI; split <;> (try split) <;> omega
 have h2 : cmpT a.s b.s = 0 ↔ strEq a.s b.s = true := by
  unfold cmpT
  split
  ·rename_i h
   refine ⟨fun k => by omega, fun k => ?_⟩
   rw [strEq_iff.1 k, show strLt b.s b.s = false from bless_self _] at h; cases h
  split
  ·rename_i h; exact ⟨fun _ => h.resolve_left (by assumption), fun _ => rfl⟩
  ·rename_i h; exact ⟨fun k => by omega, fun k => absurd (.inr k) h⟩
 rw [Bool.eq_iff_iff]
 unfold eqV fst0 fst0 fst0 fst0
 simp only [Bool.and_eq_true, beq_iff_eq]
 constructor
 ·intro h
  split at h
  ·split at h
   ·split at h
    ·exact ⟨⟨(h1 _ _).1 (by assumption), (h1 _ _).1 (by assumption)⟩, h2.1 (by assumption)⟩
    ·contradiction
   ·contradiction
  ·contradiction
 ·intro ⟨⟨h, k⟩, j⟩
  rw [if_pos ((h1 _ _).2 h), if_pos ((h1 _ _).2 k), if_pos (h2.2 j)]
theorem cmpi_ctrn {a : Int}  : Ctr Tryz.prog nO 187 [.o (.i a)] [] (Unit) (fun _ => True) (fun r => .o (.v (.bool false))) (fun r => []) := by
 refine fs 100 fun B => g0 fun _ => g0 fun _ => rtv trivial (()) trivial [] (.o (.cb (a != a))) (congrArg Value.bool (by simp))
theorem cmpi_ctr {a b : Int}  : Ctr Tryz.prog nO 164 [.o (.i a), .o (.i b)] [] (Unit) (fun _ => True) (fun r => .o (.i (cmpI a b))) (fun r => []) := by
 refine fs 100 fun B => g0 fun _ => g0 fun _ => cl (@cmpi_ctrn _ a) [] [] 100 fun _ _ => g0 fun _ => g0 fun _ => cl (@cmpi_ctrn _ b) [] [] 100 fun _ _ => g0 fun _ => g0 fun _ => cdF rfl <| g0 fun _ => cdF rfl <| g0 fun _ => cdD (a < b) (fun h4 => ?_) (fun h4 => ?_)
 ·refine g0 fun _ => rtv trivial (()) trivial [] (.o (.i (-1))) (congrArg (Value.int .i64) (if_pos h4).symm)
 ·refine g0 fun _ => cdD (a > b) (fun h5 => ?_) (fun h5 => ?_)
  ·refine g0 fun _ => rtv trivial (()) trivial [] (.o (.i 1)) (congrArg (Value.int .i64) ((if_neg h4).trans (if_pos h5)).symm)
  ·refine g0 fun _ => rtv trivial (()) trivial [] (.o (.i 0)) (congrArg (Value.int .i64) ((if_neg h4).trans (if_neg h5)).symm)
theorem cmpj_ctrn {a : Int}  : Ctr Tryz.prog nO 188 [.o (.i a)] [] (Unit) (fun _ => True) (fun r => .o (.v (.bool false))) (fun r => []) := by
 refine fs 100 fun B => g0 fun _ => g0 fun _ => rtv trivial (()) trivial [] (.o (.cb (a != a))) (congrArg Value.bool (by simp))
theorem cmpj_ctr {a b : Int}  : Ctr Tryz.prog nO 165 [.o (.i a), .o (.i b)] [] (Unit) (fun _ => True) (fun r => .o (.i (cmpI a b))) (fun r => []) := by
 refine fs 100 fun B => g0 fun _ => g0 fun _ => cl (@cmpj_ctrn _ a) [] [] 100 fun _ _ => g0 fun _ => g0 fun _ => cl (@cmpj_ctrn _ b) [] [] 100 fun _ _ => g0 fun _ => g0 fun _ => cdF rfl <| g0 fun _ => cdF rfl <| g0 fun _ => cdD (a < b) (fun h4 => ?_) (fun h4 => ?_)
 ·refine g0 fun _ => rtv trivial (()) trivial [] (.o (.i (-1))) (congrArg (Value.int .i64) (if_pos h4).symm)
 ·refine g0 fun _ => cdD (a > b) (fun h5 => ?_) (fun h5 => ?_)
  ·refine g0 fun _ => rtv trivial (()) trivial [] (.o (.i 1)) (congrArg (Value.int .i64) ((if_neg h4).trans (if_pos h5)).symm)
  ·refine g0 fun _ => rtv trivial (()) trivial [] (.o (.i 0)) (congrArg (Value.int .i64) ((if_neg h4).trans (if_neg h5)).symm)
theorem cmps_ctrn {a : ByteArray}  : Ctr Tryz.prog nO 189 [.o (.t a)] [] (Unit) (fun _ => True) (fun r => .o (.v (.bool false))) (fun r => []) := by
 refine fs 100 fun B => g0 fun _ => g0 fun _ => rtv trivial (()) trivial [] (.o (.cb (!strEq a a))) (congrArg Value.bool (by rw [strEq_self]; rfl))
theorem cmps_ctr {a b : ByteArray}  : Ctr Tryz.prog nO 166 [.o (.t a), .o (.t b)] [] (Unit) (fun _ => True) (fun r => .o (.i (cmpT a b))) (fun r => []) := by
 refine fs 100 fun B => g0 fun _ => g0 fun _ => cl (@cmps_ctrn _ a) [] [] 100 fun _ _ => g0 fun _ => g0 fun _ => cl (@cmps_ctrn _ b) [] [] 100 fun _ _ => g0 fun _ => g0 fun _ => cdF rfl <| g0 fun _ => cdF rfl <| g0 fun _ => cd (strLt a b) (fun h4 => ?_) (fun h4 => ?_)
 ·have h4 : (strLt a b) = true := by simpa using h4
  refine g0 fun _ => rtv trivial (()) trivial [] (.o (.i (-1))) (congrArg (Value.int .i64) (if_pos h4).symm)
 ·have h4 : ¬ ((strLt a b) = true) := by simpa using h4
  refine g0 fun _ => cd (!(strLt a b || strEq a b)) (fun h5 => ?_) (fun h5 => ?_)
  ·refine g0 fun _ => rtv trivial (()) trivial [] (.o (.i 1)) (congrArg (Value.int .i64) ((if_neg h4).trans (if_neg (by simpa using h5))).symm)
  ·refine g0 fun _ => rtv trivial (()) trivial [] (.o (.i 0)) (congrArg (Value.int .i64) ((if_neg h4).trans (if_pos ((Bool.or_eq_true _ _).mp (by simpa only [Bool.not_eq_false'] using h5)))).symm)
theorem cor_ctr {q c : Nat} {z : Bool} {xs : List Int} {t : TypeId} {m : Md} (hz : z = true -> xs.length = 0) (hl : xs.length < 1000000) : Ctr Tryz.prog nO 163 [.o (.s 1 q 1 0 xs.length c z)] [vc eI 1 q xs t m z] (Unit) (fun _ => True) (fun r => .o (.i (fst0 xs))) (fun r => [vc eI 1 q xs t m z]) := by
 refine fs 100 fun B => g0 fun _ => g0 fun _ => g0 fun _ => lp ((Nat)) [3, 6, 7] (fun r => [(8, .o (.i (r : Int)))]) [0] (fun _ => []) 120 (fun r => r <= xs.length /\ ∀ j, j < r -> xs.getD j 0 = 0) (fun r => xs.length - r) (0) ⟨Nat.zero_le _, fun _ h => absurd h (Nat.not_lt_zero _)⟩ [] (fun i hx ag104 => ?_)
 obtain ⟨hi, hz0⟩ := hx
 refine g0 fun _ => cdD ((i : Int) < (xs.length : Int)) (fun h1 => ?_) (fun h1 => ?_)
 ·refine go (fun _ => (o4 (nz i) (by omega : (i : Int) < (xs.length : Int)) (zf hz (show 0 < xs.length by omega) : z = false) (by omega : i < xs.length))) fun _ => g0 fun _ => cdN (xs.getD i eI.d) 0 (fun h2 => ?_) (fun h2 => ?_)
  ·refine g0 fun _ => rtv trivial (()) trivial [0] (.o (.i (xs.getD i eI.d))) (congrArg (Value.int .i64) (fst0_at (by omega) h2 hz0).symm)
  ·refine go (fun _ => (o2 (by omega : -9223372036854775808 <= (i : Int) + 1) (by omega : (i : Int) + 1 < 9223372036854775808))) fun _ => ag104 _ _ (i + 1) (by first | omega | (simp only; omega)) ⟨by omega, fun j hj => (Nat.lt_succ_iff_lt_or_eq.1 hj).elim (hz0 j) (fun e => e ▸ h2)⟩ [0] (by kernel_rfl) (by kernel_rfl)
 ·have hie : i = xs.length := by omega
  refine g0 fun _ => rtv trivial (()) trivial [0] (.o (.i 0)) (congrArg (Value.int .i64) (fst0_no (hie ▸ hz0)).symm)
theorem or3_ctr {q : Nat} {a b c : Int} {t : TypeId}  : Ctr Tryz.prog nO 163 [.o (.s 1 q 1 0 3 3 false)] [.blk 1 q [.i a, .i b, .i c] t .own] (Unit) (fun _ => True) (fun r => .o (.i (fst0 [a, b, c]))) (fun r => [vc eI 1 q [a, b, c] t .own false]) :=
 ctr_gh (blk_vec (g := 1) (q := q) (cs := [.i a, .i b, .i c]) (t := t) (m := .own) eI [a, b, c]) (fun _ _ => cor_ctr (xs := [a, b, c]) (fun h => nomatch h) (show 3 < 1000000 by decide))
theorem vcmp_ctr {a b : Va}  : Ctr Tryz.prog nO 128 [.a [.i a.k, .i a.n, .t a.s], .a [.i b.k, .i b.n, .t b.s]] [] (Unit) (fun _ => True) (fun r => .o (.i (fst0 [cmpI a.k b.k, cmpI a.n b.n, cmpT a.s b.s]))) (fun r => []) := by
 refine fs 100 fun B => g0 fun q101 => g0 fun _ => cl (@cmpi_ctr _ a.k b.k) [] [] 102 fun _ _ => g0 fun _ => cl (@cmpj_ctr _ a.n b.n) [] [] 102 fun _ _ => g0 fun _ => cl (@cmps_ctr _ a.s b.s) [] [] 102 fun _ _ => g0 fun q108 => cl (or3_ctr (q := (q108 102)) (a := (cmpI a.k b.k)) (b := (cmpI a.n b.n)) (c := (cmpT a.s b.s)) (t := 3)) [0] [(1, 102)] 103 fun _ _ => g0 fun _ => rt trivial (()) trivial []
theorem veq_ctr {a b : Va}  : Ctr Tryz.prog nO 78 [.a [.i a.k, .i a.n, .t a.s], .a [.i b.k, .i b.n, .t b.s]] [] (Unit) (fun _ => True) (fun r => .o (.cb (eqV a b))) (fun r => []) := by
 refine fs 100 fun B => g0 fun q101 => g0 fun _ => cl (@vcmp_ctr _ a b) [] [] 102 fun _ _ => g0 fun _ => rtv trivial (()) trivial [] (.o (.cb ((fst0 [cmpI a.k b.k, cmpI a.n b.n, cmpT a.s b.s]) == 0))) (congrArg Value.bool eqV_cmp)
end Go.Proofs.YtagidoadfajpgaaGreat
namespace Go.Proofs.YtagidoadfajpgaaGreat
set_option maxHeartbeats 4000000
open Go.Abs
variable {nO : Nat}
set_option maxRecDepth 100000
attribute [local irreducible] GP ruP ruN nxP acS gst cdP loP invS ent1 ent2 enP caA resV lgP agN
structure tOk (F : Fm) (s : Ts) : Prop where
 fm : FmOk F
 inc : s.rows.Pairwise fun a b => a.1 < b.1
 lt : ∀ r ∈ s.rows, r.1 < s.next
 rl : ∀ r ∈ s.rows, r.2.length = F.xa.length
 ok : ∀ r ∈ s.rows, ∀ c, c < F.xa.length -> colOk F.xa c (r.2.getD c eV.d) = true
theorem dd_ok {q k : Nat} {ps : List Nat} {l : List (Fm × Ts)} {F0 : Ft} {A : World} (h : (ddA q k ps l).p F0 A) : ∀ (j : Nat) (F : Fm) (s : Ts), l[j]? = some (F, s) -> tOk F s := by
 intro j F s e
 obtain ⟨J, ⟨F1, F2, ⟨y, hy, _⟩, _, _⟩, _⟩ := dd_at e h
 exact ⟨hy.fm, hy.rep.inc, hy.rep.lt, hy.rep.rl, hy.rep.ok⟩
theorem dd_fact {q k : Nat} {ps : List Nat} {l : List (Fm × Ts)} : GE [.as (ddA q k ps l)] Unit (fun _ => ∀ (j : Nat) (F : Fm) (s : Ts), l[j]? = some (F, s) -> tOk F s) (fun _ => [.as (ddA q k ps l)]) := fun F A hF => by
 obtain ⟨F1, F2, h1, h2, j⟩ := hF
 exact ⟨(), F, dd_ok h1, ⟨F1, F2, h1, h2, j⟩, .refl⟩
def idsT (s : Ts) : List Int := s.rows.map fun r => (r.1 : Int)
theorem ids_all {F : Fm} {s : Ts} {m : List Sp} (h : tOk F s) (hw : WF (-1) m) (hm : ∀ i, has m i = s.is i) : allE m = idsT s :=
 all_eq hw (by
  unfold Rises idsT
  rw [List.pairwise_map]
  exact h.inc.imp fun h => by omega) fun i => by
  rw [hm, Ts.is_iff]
  exact List.mem_map
theorem ids_at {s : Ts} {k : Nat} (h : k < (idsT s).length) : k < s.rows.length /\ (idsT s).getD k eI.d = ((s.rows.getD k dR).1 : Int) := by
 have h2 : k < s.rows.length := by unfold idsT at h; rwa [List.length_map] at h
 refine ⟨h2, ?_⟩
 rw [getD_at h, getD_at h2]; exact List.getElem_map ..
def kix (F : Fm) : Int := idxF F.xa (fun c => strEq c.name F.key)
def kro (F : Fm) (s : Ts) (v : Va) : Int := idxF s.rows fun r => eqV (r.2.getD (kix F).toNat eV.d) v
def bkB (F : Fm) (s : Ts) (v : Va) : Bool := !(strEq F.key ⟨#[]⟩) && !(v.k == 0) && decide (0 <= kro F s v)
def bkI (F : Fm) (s : Ts) (v : Va) : Int := if bkB F s v = true then ((s.rows.getD (kro F s v).toNat dR).1 : Int) else 0
theorem bk_no {F : Fm} {s : Ts} {v : Va} (h : bkB F s v = false) : SV.den (.t [(false, [.i 0]), (false, [.v (.bool false)])]) = SV.den (.t [(false, [.i (bkI F s v)]), (false, [.cb (bkB F s v)])]) := by
 unfold bkI; rw [h]; rfl
theorem bk_emp {F : Fm} {s : Ts} {v : Va} (h : strEq F.key ⟨#[]⟩ = true ∨ v.k = 0) : bkB F s v = false := by
 unfold bkB
 rcases h with h | h <;> simp [h]
theorem bk_none {F : Fm} {s : Ts} {v : Va} (h : ∀ i, i < s.rows.length -> eqV ((s.rows.getD i dR).2.getD (kix F).toNat eV.d) v = false) : bkB F s v = false := by
 unfold bkB kro
 rw [idxF_none (d := dR) h]; simp
theorem bk_at {F : Fm} {s : Ts} {v : Va} {i : Nat} (h1 : strEq F.key ⟨#[]⟩ = false) (h2 : v.k ≠ 0) (hi : i < s.rows.length) (h : eqV ((s.rows.getD i dR).2.getD (kix F).toNat eV.d) v = true) (hn : ∀ j, j < i -> eqV ((s.rows.getD j dR).2.getD (kix F).toNat eV.d) v = false) : bkB F s v = true /\ bkI F s v = ((s.rows.getD i dR).1 : Int) := by
 have e : kro F s v = (i : Int) := idxF_some (d := dR) hi h hn
 have hb : bkB F s v = true := by unfold bkB; rw [e, h1]; simp [h2]
 exact ⟨hb, by unfold bkI; rw [if_pos hb, e, Int.toNat_natCast]⟩
theorem FmOk.kc {F : Fm} (h : FmOk F) (hk : strEq F.key ⟨#[]⟩ = false) (hf : (kix F) ≠ -1) : kix F = (((kix F).toNat : Nat) : Int) /\ (kix F).toNat < F.xa.length := by
 rcases idxF_cases (l := F.xa) (p := fun c => strEq c.name F.key) with e | ⟨c, hc, e⟩
 ·exact absurd e hf
 ·unfold kix; rw [e]; exact ⟨rfl, hc⟩
theorem fform_ctr {q k : Nat} {ps : List Nat} {l : List (Fm × Ts)} {j : Nat} {F : Fm} {s : Ts} (e : l[j]? = some (F, s)) : Ctr Tryz.prog nO 74 [.o (.p 1 (ps.getD j 0) 0 0 0)] [.as (ddA q k ps l)] ((Nat) × (Nat) × (List De) × (Bool) × (Bool) × (Md)) (fun r => r.2.2.1.map keyD = F.da /\ (r.2.2.2.1 = true -> F.xa.length = 0) /\ (r.2.2.2.2.1 = true -> r.2.2.1.length = 0)) (fun r => .a [.t F.name, .s 7 r.1 4 0 F.xa.length F.xa.length r.2.2.2.1, .t F.key, .s 8 r.2.1 2 0 r.2.2.1.length r.2.2.1.length r.2.2.2.2.1]) (fun r => [.as (ddA q k ps l), vc eC 7 r.1 F.xa 130 (mdOf F.xa) r.2.2.2.1, vc (eD 906) 8 r.2.1 r.2.2.1 161 r.2.2.2.2.2 r.2.2.2.2.1, .as (bigA (lefA 9) r.2.2.1)]) :=
 dd_see e (wform_ctr )
theorem flive_ctr {q k : Nat} {ps : List Nat} {l : List (Fm × Ts)} {j : Nat} {F : Fm} {s : Ts} (e : l[j]? = some (F, s)) : Ctr Tryz.prog nO 75 [.o (.p 1 (ps.getD j 0) 0 0 0)] [.as (ddA q k ps l)] ((Nat) × (Nat) × (List Sp)) (fun r => WF (-1) r.2.2 /\ ∀ i, has r.2.2 i = s.is i) (fun r => .a [.s 8 r.1 2 0 r.2.2.length r.2.1 r.2.2.isEmpty]) (fun r => [.as (ddA q k ps l), vc eP 8 r.1 r.2.2 171 .imm r.2.2.isEmpty]) :=
 dd_see e (wlive_ctr )
theorem fget_ctr {q k : Nat} {ps : List Nat} {l : List (Fm × Ts)} {j : Nat} {F : Fm} {s : Ts} {i c : Nat} {sn : ByteArray} (e : l[j]? = some (F, s)) (hk : k < 70000) (hj : i < s.rows.length) (hc : idxF F.xa (fun c => strEq c.name sn) = (c : Int)) (hcx : c < F.xa.length) : Ctr Tryz.prog nO 77 [.o (.p 1 (ps.getD j 0) 0 0 0), .o (.i (((s.rows.getD i dR).1 : Nat) : Int)), .o (.t sn)] [.as (ddA q k ps l)] (Unit) (fun _ => True) (fun r => .t [(true, [.i (((s.rows.getD i dR).2.getD c eV.d).k), .i (((s.rows.getD i dR).2.getD c eV.d).n), .t (((s.rows.getD i dR).2.getD c eV.d).s)]), (false, [.v (.bool true)])]) (fun r => [.as (ddA q k ps l)]) :=
 dd_see e (wget_ctr (j := i) (c := c) (sn := sn) hk hj hc hcx)
theorem dbykey_ctr {q k : Nat} {ps : List Nat} {l : List (Fm × Ts)} {j : Nat} {F : Fm} {s : Ts} {na : ByteArray} {v : Va} (e : l[j]? = some (F, s)) (hk : k < 70000) (hx : tix l na = (j : Int)) (hkx : strEq F.key ⟨#[]⟩ = false -> kix F ≠ -1) : Ctr Tryz.prog nO 25 [.o (.p 1 q 0 0 0), .o (.t na), .a [.i v.k, .i v.n, .t v.s]] [.as (ddA q k ps l)] (Unit) (fun _ => True) (fun r => .t [(false, [.i (bkI F s v)]), (false, [.cb (bkB F s v)])]) (fun r => [.as (ddA q k ps l)]) := by
 refine fs 100 fun B => gh (dd_fact (q := q) (k := k) (ps := ps) (l := l)) [0] [] 100 (fun _ hfa => ?_)
 have hok := hfa j F s e
 refine g0 fun q101 => g0 fun _ => cl (dtb_ctr (q := q) (k := k) (ps := ps) (l := l) (j := j) (s := na) (List.getElem?_eq_some_iff.1 e).1 hx) [3] [(7, 103)] 104 fun _ _ => ?_
 refine g0 fun q104 => g0 fun _ => cl (@fform_ctr _ q k ps l j F s (by assumption)) [1] [(1, 103), (7, 105), (8, 106)] 107 fun ⟨qc2106, qd2106, d2106, z1106, z2106, m2106⟩ h106 => g0 fun q107 => g0 fun _ => cd (or (strEq F.key ⟨#[]⟩) (v.k == 0)) (fun h1 => ?_) (fun h1 => ?_)
 ·have h1 : ((strEq F.key ⟨#[]⟩) = true) ∨ (v.k = 0) := by simpa using h1
  refine g0 fun _ => rtv trivial (()) trivial [1] (.t [(false, [.i 0]), (false, [.v (.bool false)])]) (bk_no (bk_emp (h1.imp id (fun h => by simpa using h))))
 ·have h1 : ¬ (((strEq F.key ⟨#[]⟩) = true) ∨ (v.k = 0)) := by simpa using h1
  have h1a : strEq F.key ⟨#[]⟩ = false := by cases hq : strEq F.key ⟨#[]⟩; rfl; exact absurd (.inl hq) h1
  have h1b : v.k ≠ 0 := fun hq => h1 (.inr (by simpa using hq))
  have hkc := hok.fm.kc h1a (hkx h1a)
  refine g0 fun _ => cl (@flive_ctr _ q k ps l j F s (by assumption)) [1] [(1, 103), (8, 108)] 109 (fun ⟨ql111, cL111, lv111⟩ hlv => ?_)
  have hall := ids_all hok hlv.1 hlv.2
  refine cl (@mall_ctr _ ql111 cL111 lv111) [] [(1, 108), (2, 109)] 110 fun qa113 _ => rg (J := [.blk 109 qa113 [.s 108 ql111 2 0 lv111.length cL111 lv111.isEmpty] 124 .own, vc eP 108 ql111 lv111 171 .imm lv111.isEmpty]) (idsT s) eOne eI.d (Unit) Unit (fun kx r => [.as (ddA q k ps l), .blk 107 (q107 107) [.t F.key] 9 .own, vc eC 105 qc2106 F.xa 130 (mdOf F.xa) z1106, vc (eD 906) 106 qd2106 d2106 161 m2106 z2106, .as (bigA (lefA 9) d2106), .blk 104 (q104 104) [.p 103 (ps.getD j 0) 0 0 0] 69 .own, .blk 102 (q101 102) [.v (.bool false)] 4 .own, .blk 101 (q101 101) [.i 0] 3 .own, .blk 100 (q101 100) [.i v.k, .i v.n, .t v.s] 26 .own]) (fun kx r => ∀ i, i < kx -> eqV ((s.rows.getD i dR).2.getD (kix F).toNat eV.d) v = false) (fun _ => .ret) (fun _ => bkB F s v = true) (fun _ => [.as (ddA q k ps l), .blk 107 (q107 107) [.t F.key] 9 .own, vc eC 105 qc2106 F.xa 130 (mdOf F.xa) z1106, vc (eD 906) 106 qd2106 d2106 161 m2106 z2106, .as (bigA (lefA 9) d2106), .blk 104 (q104 104) [.p 103 (ps.getD j 0) 0 0 0] 69 .own, .blk 102 (q101 102) [.v (.bool true)] 4 .own, .blk 101 (q101 101) [.i (bkI F s v)] 3 .own, .blk 100 (q101 100) [.i v.k, .i v.n, .t v.s] 26 .own]) (()) (fun i h => absurd h (Nat.not_lt_zero i)) [0, 2] 130 1 (by rw [<- hall]; exact hands_of [.o (.p 1 qa113 0 0 0)] ⟨rfl, rfl, rfl⟩ rfl (fun y Inv Stop _ hT => allIt_ctr hlv.1 y Inv Stop hT)) (fun _ => .inl rfl) (fun B _ _ x => ?_) (fun B _ kx _ hk hx => ?_) (fun _ r0 hx => ?_) (fun _ r0 hy => ?_)
  ·refine g0 fun _ => rgE
  ·have hik := ids_at hk
   refine sv 10 (v := .o (.i ((idsT s).getD kx eI.d))) (v' := .o (.i (((s.rows.getD kx dR).1 : Nat) : Int))) (congrArg (Value.int .i64) hik.2) <| g0 fun _ => cl (@fget_ctr _ q k ps l j F s kx ((kix F).toNat) F.key (by assumption) (by omega) hik.1 hkc.1 hkc.2) [0] [(1, 103)] 130 fun _ _ => g0 fun q116 => g0 fun _ => cl (@veq_ctr _ ((s.rows.getD kx dR).2.getD ((kix F).toNat) eV.d) v) [] [] 131 fun _ _ => cd (eqV ((s.rows.getD kx dR).2.getD ((kix F).toNat) eV.d) v) (fun h2 => ?_) (fun h2 => ?_)
   ·have h2 : (eqV ((s.rows.getD kx dR).2.getD ((kix F).toNat) eV.d) v) = true := by simpa using h2
    have hbk := bk_at h1a h1b hik.1 (by simpa using h2) hx
    refine g0 fun _ => gh (ge_re (l := [.blk 101 (q101 101) [.i (((s.rows.getD kx dR).1 : Nat) : Int)] 3 .own]) (l' := [.blk 101 (q101 101) [.i (bkI F s v)] 3 .own]) (by rw [hbk.2])) [8] [] 131 fun _ _ => rgS () hbk.1 [2, 3, 4, 5, 6, 7, 8, 0, 9]
   ·have h2 : ¬ ((eqV ((s.rows.getD kx dR).2.getD ((kix F).toNat) eV.d) v) = true) := by simpa using h2
    exact rgN (()) (fun i hi => (Nat.lt_succ_iff_lt_or_eq.1 hi).elim (hx i) (fun e => e ▸ (by simpa using h2))) [1, 2, 3, 4, 5, 6, 7, 8, 9]
  ·have hno : bkB F s v = false := bk_none (by rw [List.length_map] at hx; unfold idsT at hx; rw [List.length_map] at hx; exact hx)
   refine g0 fun _ => rtd r0 0 fun B => rtv trivial (()) trivial [0] (.t [(false, [.i 0]), (false, [.v (.bool false)])]) (bk_no hno)
  ·refine rtd r0 0 fun B => rtv trivial (()) trivial [0] (.t [(false, [.i (bkI F s v)]), (false, [.v (.bool true)])]) (by rw [hy]; rfl)
end Go.Proofs.YtagidoadfajpgaaGreat
namespace Go.Proofs.YtagidoadfajpgaaGreat
set_option maxHeartbeats 4000000
open Go.Abs
variable {nO : Nat}
set_option maxRecDepth 100000
attribute [local irreducible] GP ruP ruN nxP acS gst cdP loP invS ent1 ent2 enP caA resV lgP agN
def FmN (L : List Fm) : Prop := L.length < 9 /\ ∀ i, i < L.length -> FmD (L.take i) (L.getD i dFm) /\ mustF (L.getD i dFm) = L.getD i dFm /\ nI (L.getD i dFm).name L = (i : Int)
section
variable {ps : List Nat} {l : List (Fm × Ts)} {y : Dd} {i : Nat} {F : Fm} {s : Ts}
theorem fst_at (e : l[i]? = some (F, s)) : (l.map Prod.fst).getD i dFm = F /\ i < (l.map Prod.fst).length := by
 obtain ⟨h1, h2⟩ := List.getElem?_eq_some_iff.1 e
 have h3 : i < (l.map Prod.fst).length := by rw [List.length_map]; exact h1
 exact ⟨by rw [getD_at h3, List.getElem_map, h2], h3⟩
theorem FmN.at (h : FmN (l.map Prod.fst)) (e : l[i]? = some (F, s)) : FmD ((l.take i).map Prod.fst) F /\ mustF F = F /\ tix l F.name = (i : Int) := by
 obtain ⟨h1, h2⟩ := fst_at e
 have := h.2 i h2
 rw [h1, <- List.map_take] at this
 exact this
theorem xs_at (hy : ddP ps l y) (e : l[i]? = some (F, s)) : i < y.xs.length /\ (y.xs.getD i dXr).F = F := by
 obtain ⟨h1, h2⟩ := fst_at e
 have h3 : i < y.xs.length := by rw [<- lst_F hy, List.length_map] at h2; exact h2
 exact ⟨h3, by rw [<- getD_F h3, lst_F hy, h1]⟩
theorem xs_len (hy : ddP ps l y) : y.xs.length = l.length := by have := congrArg List.length (lst_F hy); simpa using this
theorem fnd_d (hy : ddP ps l y) {n : ByteArray} : idxF y.xs (fun x => strEq x.F.name n) = tix l n := by
 rw [idx_map, lst_F hy]; rfl
theorem nam_len {xs : List Xr} : ((xs.take xs.length).map fun x => x.F.name).length = xs.length := by
 rw [List.length_map, List.take_length]
theorem nam_at {xs : List Xr} (h : i < xs.length) : ((xs.take xs.length).map fun x => x.F.name).getD i eS.d = (xs.getD i dXr).F.name := by
 rw [List.take_length, getD_at (by rw [List.length_map]; exact h), getD_at h, List.getElem_map]
theorem take_snoc2 (e : l[i]? = some (F, s)) : l.take (i + 1) = l.take i ++ [(F, s)] := by
 rw [List.take_add_one, e]; rfl
theorem dd_snoc {ps2 : List Nat} {qs qm qv r : Nat} {x : Xr} (hy : ddP ps2 (l.take i) y) (e : l[i]? = some (F, s)) (hx : tP x) (hF : x.F = F) : ddP (ps2 ++ [r]) (l.take (i + 1)) ⟨qs, qm, qv, y.xs ++ [x], y.zs ++ [(r, F, s)]⟩ :=
 ⟨by rw [List.map_append, hy.ps]; rfl, snoc_P hy.ok hx, by rw [List.map_append, List.map_append, hy.fm, <- hF]; rfl, by rw [List.map_append, hy.zs, take_snoc2 e]; rfl⟩
end
theorem dcopyP_ctr {q k : Nat} {ps : List Nat} {l : List (Fm × Ts)} {n : Nat} (hk : k < 70000) (hB : bnd l n) (hn : n <= 65536) (hN : FmN (l.map Prod.fst)) : Ctr Tryz.prog nO 24 [.o (.p 1 q 0 0 0)] [.as (ddA q k ps l)] ((Nat) × (List Nat)) (fun r => r.2.length = l.length) (fun r => .o (.p 11 r.1 0 0 0)) (fun r => [.as (ddA r.1 k r.2 l), .as (ddA q k ps l)]) := by
 refine fs 100 fun B => g0 fun _ => g0 fun _ => cdF rfl <| cl (dnew_ctr ) [] [(1, 100), (2, 101), (3, 102)] 103 fun ⟨q104, qs104, qm104⟩ _ => g0 fun _ => gh (big_nil (I := tabI k)) [] [] 103 fun _ _ => gh (box_shut (φ := ddP [] (l.take 0)) (L := ddL q104 k) (⟨qs104, qm104, 0, [], []⟩ : Dd) ⟨rfl, fun i hi => absurd hi (Nat.not_lt_zero i), rfl, rfl⟩) [1, 2, 3, 4, 5, 0] [] 103 fun _ _ => gh (box_open (φ := ddP ps l) (L := ddL q k)) [1] [(2, 961), (3, 962)] 103 (fun y hy => ?_)
 have hxl := xs_len hy
 have hl8 := hN.1
 rw [List.length_map] at hl8
 have hnl := nam_len (xs := y.xs)
 refine g0 fun _ => cl (@snames_ctr _ y.qs y.qv y.xs .grown (by omega)) [1, 2, 3] [(1, 961), (2, 962), (5, 103)] 104 fun q2107 _ => g0 fun _ => lp2 (Nat) (List Nat) [0, 3, 15, 16] (fun r => [(17, .o (.i (r.1 : Int)))]) [0, 1, 2, 3, 4, 5, 6] (fun r => [.as (ddA q104 k r.2 (l.take r.1))]) 124 (fun r => r.1 <= l.length /\ r.2.length = r.1) (fun r => l.length - r.1) (⟨0, []⟩) ⟨Nat.zero_le _, rfl⟩ [7] (fun i ps2 hx ag109 => ?_)
 try dsimp only at hx
 obtain ⟨hi, hpl⟩ := hx
 refine g0 fun _ => cdD ((i : Int) < ((((y.xs.take y.xs.length).map fun x => x.F.name).length : Nat) : Int)) (fun h2 => ?_) (fun h2 => ?_)
 ·obtain ⟨⟨F, s⟩, e⟩ : ∃ v, l[i]? = some v := ⟨_, List.getElem?_eq_getElem (by omega)⟩
  have hX := xs_at hy e
  have hZ := zs_at hy e
  have hFN := hN.at e
  have hb := hB i F s e
  refine go (fun _ => (o4 (nz i) (by omega : (i : Int) < ((((y.xs.take y.xs.length).map fun x => x.F.name).length : Nat) : Int)) (zfe (by omega) : ((y.xs.take y.xs.length).map fun x => x.F.name).isEmpty = false) (by omega : i < ((y.xs.take y.xs.length).map fun x => x.F.name).length))) fun _ => sv 5 (v := .o (.t (((y.xs.take y.xs.length).map fun x => x.F.name).getD i eS.d))) (v' := .o (.t F.name)) (congrArg Value.string ((nam_at hX.1).trans (congrArg Fm.name hX.2))) <| g0 fun _ => cl (@sfind_ctr _ y.qs y.qv y.xs .grown F.name i (by omega) hX.1 ((fnd_d hy).trans hFN.2.2) (hy.ok i hX.1)) [1, 2, 3] [(1, 961), (2, 962), (7, 124), (8, 125)] 126 (fun ⟨qc2113, qd2113, d2113⟩ hd2 => ?_)
  have hdF := hd2.trans (hy.ok i hX.1).da
  have hdl : d2113.length = (y.xs.getD i dXr).da.length := by have := congrArg List.length hd2; rwa [List.length_map, List.length_map] at this
  have hld : d2113.length < 1000000 := by have := (hy.ok i hX.1).dl; omega
  have hzd : (y.xs.getD i dXr).zA = true -> d2113.length = 0 := fun h => by rw [hdl]; exact (hy.ok i hX.1).zA h
  refine g0 fun q114 => gh (box_open (φ := ddP ps2 (l.take i)) (L := ddL q104 k)) [7] [(1, 100), (2, 963), (3, 964)] 127 fun y2 hy2 => g0 fun _ => cl (@sadd_ctr _ y2.qs y2.qv y2.xs ((y.xs.getD i dXr).F.name) ((y.xs.getD i dXr).F.key) qc2113 ((y.xs.getD i dXr).F.xa.length) ((y.xs.getD i dXr).za) ((y.xs.getD i dXr).F.xa) 130 (mdOf (y.xs.getD i dXr).F.xa) qd2113 d2113.length ((y.xs.getD i dXr).zA) d2113 161 (mdOf (y.xs.getD i dXr).da) (hy.ok i hX.1).za (by have := (hy.ok i hX.1).fm.xl; omega) (fun h => hzd h) hld (FmD.ok hdF (by rw [lst_F hy2, hX.2]; exact hFN.1)) hy2.ok) [1, 2, 3, 10, 11, 12] [(1, 963), (5, 124), (6, 125), (2, 964)] 127 fun ⟨qs2116, qc2116, qd2116, d2116⟩ hd3 => gh (big_out (I := tabI k) (l := y.zs) i dZ hZ.1) [16] [] 127 fun _ _ => gh (ge_re (l := [.as (tabI k (y.zs.getD i dZ))]) (l' := [.as (tabA (ps.getD i 0) F s k)]) (by rw [hZ.2]; rfl)) [0] [] 127 fun _ _ => g0 fun _ => lkp y.qm (mpL y.zs) F.name (.o (.p 971 (ps.getD i 0) 0 0 0)) [17] (by rw [getM_idx, show idxF (y.zs.map fun z => z.2.1) (fun G => strEq G.name F.name) = (i : Int) from (ix_l hy).trans hFN.2.2]; show Value.pointer (some ⟨ps.getD i 0, 0, none⟩) = Value.pointer (some ⟨(y.zs.getD i dZ).1, 0, none⟩); rw [hZ.2]) <| cl (wcopy_all (q := (ps.getD i 0)) (F := F) (s := s) (k := k) (by omega) (by omega)) [1] [(1, 971), (11, 127)] 128 fun r119 _ => mpu y2.qm (mpL y2.zs) F.name r119 [11] (getM_no hy2.fm ((fnd_d hy2).trans hFN.1.2.2.1)) <| go (fun _ => (o2 (by omega : -9223372036854775808 <= (i : Int) + 1) (by omega : (i : Int) + 1 < 9223372036854775808))) fun _ => gh (ge_re (l := [.as (tabA (ps.getD i 0) F s k)]) (l' := [.as (tabI k (y.zs.getD i dZ))]) (by rw [hZ.2]; rfl)) [1] [] 128 fun _ _ => gh (big_bk (I := tabI k) (l := y.zs) i dZ hZ.1) [0, 4] [] 128 fun _ _ => gh (big_snoc (I := tabI k) (l := y2.zs) (x := (r119, F, s))) [2, 11] [] 128 fun _ _ => gh (ge_re (l := [.as (mapA y2.qm ((mpL y2.zs) ++ [(F.name, r119)]))]) (l' := [.as (mapA y2.qm (mpL (y2.zs ++ [(r119, F, s)])))]) (by unfold mpL; rw [List.map_append]; rfl)) [2] [] 128 fun _ _ => ?_
  have hxF : ((⟨qc2116, ((y.xs.getD i dXr).F.xa).length, ((y.xs.getD i dXr).za), 130, qd2116, d2116.length, ((y.xs.getD i dXr).zA), 161, d2116, 0, [], ⟨((y.xs.getD i dXr).F.name), ((y.xs.getD i dXr).F.key), (((y.xs.getD i dXr).F.xa).map (mustC ((y.xs.getD i dXr).F.key))), d2113.map keyD⟩, 0⟩ : Xr)).F = F := by rw [<- hFN.2.1, <- hX.2]; exact congrArg (fun z => (⟨_, _, _, z⟩ : Fm)) hdF
  refine gh (box_shut (φ := ddP (ps2 ++ [r119]) (l.take (i + 1))) (L := ddL q104 k) (⟨y2.qs, y2.qm, qs2116, (y2.xs ++ [(⟨qc2116, ((y.xs.getD i dXr).F.xa).length, ((y.xs.getD i dXr).za), 130, qd2116, d2116.length, ((y.xs.getD i dXr).zA), 161, d2116, 0, [], ⟨((y.xs.getD i dXr).F.name), ((y.xs.getD i dXr).F.key), (((y.xs.getD i dXr).F.xa).map (mustC ((y.xs.getD i dXr).F.key))), d2113.map keyD⟩, 0⟩ : Xr)]), (y2.zs ++ [(r119, F, s)])⟩ : Dd) (dd_snoc hy2 e (FmA.tP (FmD.ok hdF (by rw [lst_F hy2, hX.2]; exact hFN.1)) (hy.ok i hX.1).za (fun h => hzd h) hd3) hxF)) [10, 4, 5, 6, 0, 1] [] 128 fun _ _ => ag109 _ _ (⟨i + 1, ps2 ++ [r119]⟩) (by first | omega | (simp only; omega)) (by dsimp only; exact ⟨by omega, by rw [List.length_append, hpl]; rfl⟩) [0, 7, 8, 9, 10, 11, 2, 1] (by kernel_rfl) (by kernel_rfl)
 ·skip
  refine g0 fun _ => ?_
  have hie : i = l.length := by omega
  refine gh (ge_re (l := [.as (ddA q104 k ps2 (l.take i))]) (l' := [.as (ddA q104 k ps2 l)]) (by rw [hie, List.take_length])) [0] [] 124 fun _ _ => gh (box_shut (φ := ddP ps l) (L := ddL q k) y hy) [5, 1, 2, 3, 6, 7] [] 124 fun _ _ => rt trivial (⟨q104, ps2⟩) (hpl.trans hie) [1, 0]
end Go.Proofs.YtagidoadfajpgaaGreat
namespace Go.Proofs.YtagidoadfajpgaaGreat
set_option maxHeartbeats 4000000
open Go.Abs
variable {nO : Nat}
set_option maxRecDepth 100000
attribute [local irreducible] GP ruP ruN nxP acS gst cdP loP invS ent1 ent2 enP caA resV lgP agN
def colAt (L : List Fm) (t n : ByteArray) : Option Cd := if nI t L = -1 then none else if cI n (L.getD (nI t L).toNat dFm).xa = -1 then none else some ((L.getD (nI t L).toNat dFm).xa.getD (cI n (L.getD (nI t L).toNat dFm).xa).toNat eC.d)
def colD (L : List Fm) (t n : ByteArray) : Cd := (colAt L t n).getD eC.d
theorem col_noT {L : List Fm} {t n : ByteArray} (h : nI t L = -1) : colAt L t n = none := if_pos h
theorem col_noC {L : List Fm} {t n : ByteArray} {F : Fm} {j : Nat} (h : nI t L = (j : Int)) (e : L.getD j dFm = F) (hc : cI n F.xa = -1) : colAt L t n = none := by
 unfold colAt
 rw [if_neg (by rw [h]; omega), h, Int.toNat_natCast, e, if_pos hc]
theorem cat_at {L : List Fm} {t n : ByteArray} {F : Fm} {j c : Nat} (h : nI t L = (j : Int)) (e : L.getD j dFm = F) (hc : cI n F.xa = (c : Int)) : colAt L t n = some (F.xa.getD c eC.d) := by
 unfold colAt
 rw [if_neg (by rw [h]; omega), h, Int.toNat_natCast, e, if_neg (by rw [hc]; omega), hc, Int.toNat_natCast]
theorem col_inv {L : List Fm} {t n : ByteArray} {d : Cd} (h : colAt L t n = some d) : ∃ j c : Nat, j < L.length /\ nI t L = (j : Int) /\ c < (L.getD j dFm).xa.length /\ cI n (L.getD j dFm).xa = (c : Int) /\ (L.getD j dFm).xa.getD c eC.d = d := by
 rcases idxF_cases (l := L) (p := fun F => strEq F.name t) with k | ⟨j, hj, k⟩
 ·rw [col_noT k] at h; cases h
 rcases idxF_cases (l := (L.getD j dFm).xa) (p := fun c => strEq c.name n) with m | ⟨c, hc, m⟩
 ·rw [col_noC k rfl m] at h; cases h
 ·rw [cat_at k rfl m] at h
  exact ⟨j, c, hj, k, hc, m, Option.some.inj h⟩
def pth (L : List Fm) : ByteArray -> List ByteArray -> Int × Cd × ByteArray
 | _, [] => (3, eC.d, ⟨#[]⟩)
 | t, n :: p => match colAt L t n with
  | none => (3, eC.d, ⟨#[]⟩)
  | some c => if p.isEmpty then (0, c, t) else if strEq c.to ⟨#[]⟩ then (9, eC.d, ⟨#[]⟩) else pth L c.to p
def pcol (L : List Fm) (t : ByteArray) (p : List ByteArray) : Int × Cd × ByteArray := if p.length = 0 ∨ 4 < p.length then (5, eC.d, ⟨#[]⟩) else pth L t p
section
variable {L : List Fm} {u : ByteArray} {p : List ByteArray} {i : Nat} {c : Cd}
theorem drop_at (h : i < p.length) : p.drop i = p.getD i eS.d :: p.drop (i + 1) := by rw [List.drop_eq_getElem_cons h, getD_at h]
theorem pth_no (h : i < p.length) (e : colAt L u (p.getD i eS.d) = none) : pth L u (p.drop i) = (3, eC.d, ⟨#[]⟩) := by
 rw [drop_at h]; unfold pth; rw [e]
theorem pth_end (h : i + 1 = p.length) (e : colAt L u (p.getD i eS.d) = some c) : pth L u (p.drop i) = (0, c, u) := by
 rw [drop_at (by omega), List.drop_eq_nil_of_le (by omega)]; unfold pth; rw [e]; rfl
theorem pth_ref (h : i + 1 < p.length) (e : colAt L u (p.getD i eS.d) = some c) (k : strEq c.to ⟨#[]⟩ = true) : pth L u (p.drop i) = (9, eC.d, ⟨#[]⟩) := by
 rw [drop_at (by omega), drop_at (i := i + 1) (by omega)]; unfold pth; rw [e]
 show (if strEq c.to ⟨#[]⟩ then _ else _) = _
 rw [if_pos k]
theorem pth_on (h : i + 1 < p.length) (e : colAt L u (p.getD i eS.d) = some c) (k : strEq c.to ⟨#[]⟩ = false) : pth L u (p.drop i) = pth L c.to (p.drop (i + 1)) := by
 conv => lhs; rw [drop_at (show i < p.length by omega)]
 have h2 : (p.drop (i + 1)).isEmpty = false := by rw [drop_at (i := i + 1) (by omega)]; rfl
 unfold pth; rw [e]
 show (if (p.drop (i + 1)).isEmpty then _ else if strEq c.to ⟨#[]⟩ then _ else _) = _
 rw [if_neg (by rw [h2]; decide), if_neg (by rw [k]; decide)]
 cases p.drop (i + 1) <;> rfl
theorem colD_some (h : (colAt L u (p.getD i eS.d)).isSome = true) : colAt L u (p.getD i eS.d) = some (colD L u (p.getD i eS.d)) := by
 unfold colD; cases e : colAt L u (p.getD i eS.d) with
 | none => rw [e] at h; cases h
 | some c => rfl
end
theorem scolm_ctr {q qs : Nat} {xs : List Xr} {mS : Md} {t n : ByteArray} (hl : xs.length < 1000000) (hxt : ∀ i, i < xs.length -> tP (xs.getD i dXr)) : Ctr Tryz.prog nO 82 [.o (.p 1 q 0 0 0), .o (.t t), .o (.t n)] [.blk 1 q [.s 2 qs 4 0 xs.length xs.length xs.isEmpty] 145 .own, vc eTb 2 qs xs 46 mS xs.isEmpty, .as (bigA tI xs)] (Unit) (fun _ => True) (fun r => .t [(true, [.t ((colD (xs.map fun x : Xr => x.F) t n).name), .i ((colD (xs.map fun x : Xr => x.F) t n).kind), .cb ((colD (xs.map fun x : Xr => x.F) t n).must), .t ((colD (xs.map fun x : Xr => x.F) t n).to)]), (false, [.cb ((colAt (xs.map fun x : Xr => x.F) t n).isSome)])]) (fun r => [.blk 1 q [.s 2 qs 4 0 xs.length xs.length xs.isEmpty] 145 .own, vc eTb 2 qs xs 46 mS xs.isEmpty, .as (bigA tI xs)]) := by
 refine fs 100 (fun B => ?_)
 have hix : idxF xs (fun x => strEq x.F.name t) = nI t (xs.map fun x : Xr => x.F) := idx_map
 refine g0 (fun q101 => ?_)
 rcases idxF_cases (l := xs) (p := fun x => strEq x.F.name t) with hn | ⟨j, hj, hn⟩
 ·refine g0 fun _ => cl (@sfindN_ctr _ q qs xs mS t (by omega) hn) [1, 2, 3] [] 101 fun _ _ => g0 fun q104 => gh (nil_vec 102 4 eC.f eC.d 130 .grown) [] [] 103 fun _ _ => g0 fun _ => cl (@scol_ctr _ ⟨#[]⟩ ⟨#[]⟩ 0 0 true ([] : List Cd) 130 .grown 0 0 true ([] : List De) n (fun _ => rfl) (by decide)) [0] [(1, 102)] 103 fun _ _ => g0 fun _ => g0 fun _ => cdT (b := decide (idxF ([] : List Cd) (fun c => strEq c.name n) < 0)) rfl <| g0 fun _ => rtv trivial (()) trivial [2, 3, 4] (.t [(true, [.t ⟨#[]⟩, .i 0, .v (.bool false), .t ⟨#[]⟩]), (false, [.v (.bool false)])]) (by rw [show colD (xs.map fun x : Xr => x.F) t n = eC.d by unfold colD; rw [col_noT (hix.symm.trans hn)]; rfl, col_noT (hix.symm.trans hn)]; rfl)
 ·have hxj := hxt j hj
  have hgF := getD_F hj
  refine g0 fun _ => cl (@sfind_ctr _ q qs xs mS t j (by omega) hj hn hxj) [1, 2, 3] [(7, 101), (8, 102)] 103 fun ⟨qc2111, qd2111, d2111⟩ hd2 => g0 fun q112 => g0 fun _ => cl (@scol_ctr _ ((xs.getD j dXr).F.name) ((xs.getD j dXr).F.key) qc2111 ((xs.getD j dXr).F.xa.length) ((xs.getD j dXr).za) ((xs.getD j dXr).F.xa) 130 (mdOf (xs.getD j dXr).F.xa) qd2111 d2111.length ((xs.getD j dXr).zA) d2111 n hxj.za (by have := hxj.fm.xl; omega)) [4] [(1, 101), (3, 102)] 104 fun _ _ => g0 fun _ => g0 fun _ => cdD (idxF ((xs.getD j dXr).F.xa) (fun c => strEq c.name n) < 0) (fun h1 => ?_) (fun h1 => ?_)
  ·have hc : cI n (xs.getD j dXr).F.xa = -1 := by rcases idxF_cases (l := (xs.getD j dXr).F.xa) (p := fun c => strEq c.name n) with k | ⟨c, _, k⟩; exact k; rw [k] at h1; omega
   refine g0 fun _ => rtv trivial (()) trivial [2, 3, 4] (.t [(true, [.t ⟨#[]⟩, .i 0, .v (.bool false), .t ⟨#[]⟩]), (false, [.v (.bool false)])]) (by rw [show colD (xs.map fun x : Xr => x.F) t n = eC.d by unfold colD; rw [col_noC (hix.symm.trans hn) hgF hc]; rfl, col_noC (hix.symm.trans hn) hgF hc]; rfl)
  ·obtain ⟨c, hcx, hc⟩ : ∃ c : Nat, c < (xs.getD j dXr).F.xa.length /\ idxF (xs.getD j dXr).F.xa (fun c => strEq c.name n) = (c : Int) := by rcases idxF_cases (l := (xs.getD j dXr).F.xa) (p := fun c => strEq c.name n) with k | k; rw [k] at h1; exact absurd (show (-1 : Int) < 0 by decide) h1; exact k
   refine sv 10 (v := .o (.i (idxF ((xs.getD j dXr).F.xa) (fun c => strEq c.name n)))) (v' := .o (.i (c : Int))) (congrArg (Value.int .i64) hc) <| go (fun _ => (o4 (nz c) (by omega : (c : Int) < (((xs.getD j dXr).F.xa.length : Nat) : Int)) (zf hxj.za (show 0 < (xs.getD j dXr).F.xa.length by omega) : (xs.getD j dXr).za = false) (by omega : c < ((xs.getD j dXr).F.xa).length))) fun _ => rtv trivial (()) trivial [2, 3, 4] (.t [(true, [.t ((((xs.getD j dXr).F.xa).getD c eC.d).name), .i ((((xs.getD j dXr).F.xa).getD c eC.d).kind), .cb ((((xs.getD j dXr).F.xa).getD c eC.d).must), .t ((((xs.getD j dXr).F.xa).getD c eC.d).to)]), (false, [.v (.bool true)])]) (by rw [show colD (xs.map fun x : Xr => x.F) t n = (xs.getD j dXr).F.xa.getD c eC.d by unfold colD; rw [cat_at (hix.symm.trans hn) hgF hc]; rfl, cat_at (hix.symm.trans hn) hgF hc]; rfl)
theorem pcol_ctr {q qs : Nat} {xs : List Xr} {mS : Md} {t : ByteArray} {qp cp : Nat} {zp : Bool} {pp : List ByteArray} {tp : TypeId} {mp : Md} (hl : xs.length < 1000000) (hxt : ∀ i, i < xs.length -> tP (xs.getD i dXr)) (hzp : zp = true -> pp.length = 0) (hlp : pp.length < 1000000) : Ctr Tryz.prog nO 80 [.o (.p 1 q 0 0 0), .o (.t t), .o (.s 5 qp 1 0 pp.length cp zp)] [.blk 1 q [.s 2 qs 4 0 xs.length xs.length xs.isEmpty] 145 .own, vc eTb 2 qs xs 46 mS xs.isEmpty, .as (bigA tI xs), vc eS 5 qp pp tp mp zp] (Unit) (fun _ => True) (fun r => .t [(true, [.t ((pcol (xs.map fun x : Xr => x.F) t pp).2.1.name), .i ((pcol (xs.map fun x : Xr => x.F) t pp).2.1.kind), .cb ((pcol (xs.map fun x : Xr => x.F) t pp).2.1.must), .t ((pcol (xs.map fun x : Xr => x.F) t pp).2.1.to)]), (false, [.t ((pcol (xs.map fun x : Xr => x.F) t pp).2.2)]), (false, [.i ((pcol (xs.map fun x : Xr => x.F) t pp).1)])]) (fun r => [.blk 1 q [.s 2 qs 4 0 xs.length xs.length xs.isEmpty] 145 .own, vc eTb 2 qs xs 46 mS xs.isEmpty, .as (bigA tI xs), vc eS 5 qp pp tp mp zp]) := by
 refine fs 100 fun B => g0 fun q101 => g0 fun _ => cd (or ((pp.length : Int) == 0) (decide ((pp.length : Int) > 4))) (fun h1 => ?_) (fun h1 => ?_)
 ·have h1 : ((pp.length : Int) = 0) ∨ ((pp.length : Int) > 4) := by simpa using h1
  have hE : (pcol (xs.map fun x : Xr => x.F) t pp) = (5, eC.d, ⟨#[]⟩) := if_pos (by omega)
  refine g0 fun _ => rtv trivial (()) trivial [1, 2, 3, 4] (.t [(true, [.t ⟨#[]⟩, .i 0, .v (.bool false), .t ⟨#[]⟩]), (false, [.t ⟨#[]⟩]), (false, [.i 5])]) (by rw [hE]; rfl)
 ·have h1 : ¬ (((pp.length : Int) = 0) ∨ ((pp.length : Int) > 4)) := by simpa using h1
  have hP : (pcol (xs.map fun x : Xr => x.F) t pp) = pth (xs.map fun x : Xr => x.F) t pp := if_neg (by omega)
  refine g0 fun _ => lp2 (Nat) (ByteArray) [0, 2, 6, 22, 23] (fun r => [(24, .o (.i (r.1 : Int))), (1, .o (.t r.2))]) [0, 1, 2, 3, 4] (fun _ => []) 121 (fun r => r.1 <= pp.length /\ pth (xs.map fun x : Xr => x.F) t pp = pth (xs.map fun x : Xr => x.F) r.2 (pp.drop r.1) /\ (r.1 < pp.length ∨ pp.length = 0)) (fun r => pp.length - r.1) (⟨0, t⟩) ⟨Nat.zero_le _, rfl, by omega⟩ [] (fun i u hx ag105 => ?_)
  try dsimp only at hx
  obtain ⟨hi, hq, hil⟩ := hx
  refine g0 fun _ => cdD ((i : Int) < (pp.length : Int)) (fun h2 => ?_) (fun h2 => ?_)
  ·refine go (fun _ => (o4 (nz i) (by omega : (i : Int) < (pp.length : Int)) (zf hzp (show 0 < pp.length by omega) : zp = false) (by omega : i < pp.length))) fun _ => g0 fun _ => cl (@scolm_ctr _ q qs xs mS u (pp.getD i eS.d) (by omega) (by assumption)) [1, 2, 3] [] 121 fun _ _ => g0 fun q110 => g0 fun _ => cd (!((colAt (xs.map fun x : Xr => x.F) u (pp.getD i eS.d)).isSome)) (fun h3 => ?_) (fun h3 => ?_)
   ·have hE : (pcol (xs.map fun x : Xr => x.F) t pp) = (3, eC.d, ⟨#[]⟩) := hP.trans (hq.trans (pth_no (by omega) (by cases hz : colAt (xs.map fun x : Xr => x.F) u (pp.getD i eS.d) with | none => rfl | some c => rw [hz] at h3; cases h3)))
    refine g0 fun _ => rtv trivial (()) trivial [1, 2, 3, 5] (.t [(true, [.t ⟨#[]⟩, .i 0, .v (.bool false), .t ⟨#[]⟩]), (false, [.t ⟨#[]⟩]), (false, [.i 3])]) (by rw [hE]; rfl)
   ·have hso := colD_some (L := (xs.map fun x : Xr => x.F)) (u := u) (p := pp) (i := i) (by simpa using h3)
    refine go (fun _ => (o2 (by omega : -9223372036854775808 <= (pp.length : Int) - 1) (by omega : (pp.length : Int) - 1 < 9223372036854775808))) fun _ => cdE (i : Int) ((pp.length : Int) - 1) (fun h4 => ?_) (fun h4 => ?_)
    ·have hE : (pcol (xs.map fun x : Xr => x.F) t pp) = (0, (colD (xs.map fun x : Xr => x.F) u (pp.getD i eS.d)), u) := hP.trans (hq.trans (pth_end (by omega) hso))
     refine g0 fun _ => rtv trivial (()) trivial [1, 2, 3, 5] (.t [(true, [.t ((colD (xs.map fun x : Xr => x.F) u (pp.getD i eS.d)).name), .i ((colD (xs.map fun x : Xr => x.F) u (pp.getD i eS.d)).kind), .cb ((colD (xs.map fun x : Xr => x.F) u (pp.getD i eS.d)).must), .t ((colD (xs.map fun x : Xr => x.F) u (pp.getD i eS.d)).to)]), (false, [.t u]), (false, [.i 0])]) (by rw [hE])
    ·refine g0 fun _ => cd (strEq ((colD (xs.map fun x : Xr => x.F) u (pp.getD i eS.d)).to) ⟨#[]⟩) (fun h5 => ?_) (fun h5 => ?_)
     ·have hE : (pcol (xs.map fun x : Xr => x.F) t pp) = (9, eC.d, ⟨#[]⟩) := hP.trans (hq.trans (pth_ref (by omega) hso h5))
      refine g0 fun _ => rtv trivial (()) trivial [1, 2, 3, 5] (.t [(true, [.t ⟨#[]⟩, .i 0, .v (.bool false), .t ⟨#[]⟩]), (false, [.t ⟨#[]⟩]), (false, [.i 9])]) (by rw [hE]; rfl)
     ·refine g0 fun _ => go (fun _ => (o2 (by omega : -9223372036854775808 <= (i : Int) + 1) (by omega : (i : Int) + 1 < 9223372036854775808))) fun _ => ag105 _ _ (⟨i + 1, (colD (xs.map fun x : Xr => x.F) u (pp.getD i eS.d)).to⟩) (by first | omega | (simp only; omega)) (by dsimp only; exact ⟨by omega, hq.trans (pth_on (by omega) hso h5), by omega⟩) [4, 1, 2, 3, 5] (by kernel_rfl) (by kernel_rfl)
  ·refine g0 fun _ => ?_
   have hE : (pcol (xs.map fun x : Xr => x.F) t pp) = (3, eC.d, ⟨#[]⟩) := by exfalso; omega
   exact rtv trivial (()) trivial [1, 2, 3, 4] (.t [(true, [.t ⟨#[]⟩, .i 0, .v (.bool false), .t ⟨#[]⟩]), (false, [.t ⟨#[]⟩]), (false, [.i 3])]) (by rw [hE]; rfl)
end Go.Proofs.YtagidoadfajpgaaGreat
