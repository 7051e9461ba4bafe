/-
  Uq.
-/
import Derived.Test.YthkoolfmealabaaGreatN21
import Derived.Test.YthkoolfmealabaaGreatN30
import Derived.Test.YthkoolfmealabaaGreatN26
import Derived.Test.YthkoolfmealabaaGreatN22
import Derived.Test.YthkoolfmealabaaGreatN29
namespace Go.Proofs.YthkoolfmealabaaGreat
set_option maxHeartbeats 4000000
open Go.Abs
variable {nO : Nat}
set_option maxRecDepth 100000
attribute [local irreducible] GP ruP ruN nxP acS gst cdP loP invS ent1 ent2 enP caA resV lgP agN
theorem ctr_fact {P : Program} {f : FuncId} {args : List SV} {Y R : Type} {ψ : Y -> Prop} {L : Y -> List Ch} {E : List Ch} {φ : R -> Prop} {res : R -> SV} {post : R -> List Ch} (C : ∀ y, ψ y -> Ctr P nO f args (.as (boxA ψ L) :: E) R φ res post) : Ctr P nO f args (.as (boxA ψ L) :: E) R φ res post := fun F A hF => by
 obtain ⟨F1, F2, ⟨y, hy, h1⟩, h2, j⟩ := hF
 exact C y hy F A ⟨F1, F2, ⟨y, hy, h1⟩, h2, j⟩
theorem ge_drop {a b : Ch} : GE [a, b] Unit (fun _ => True) (fun _ => [a]) := fun F A h => by
 obtain ⟨F3, h5, m⟩ := As.left (hp_sel (idx := [0]) (l := [a, b]) rfl h)
 exact ⟨(), F3, trivial, h5, m⟩
def idsX (x : Xr) (i : Nat) : List Int := (x.ws.take i).map fun w => (w.2.1 : Int)
theorem idsX_len {x : Xr} {i : Nat} (h : i <= x.ws.length) : (idsX x i).length = i := by
 unfold idsX; rw [List.length_map, List.length_take]; omega
theorem idsX_succ {x : Xr} {i : Nat} (h : i < x.ws.length) : idsX x (i + 1) = idsX x i ++ [((x.ws.getD i eRw.d).2.1 : Int)] := by
 unfold idsX
 rw [List.take_add_one, List.getElem?_eq_getElem h, List.map_append, getD_at h]; rfl
theorem idsX_all {x : Xr} : idsX x x.ws.length = x.s.rows.map fun r => (r.1 : Int) := by
 unfold idsX Xr.s
 rw [List.take_length, List.map_map]; rfl
theorem ids_mem {x : Xr} {id : Int} : id ∈ idsX x x.ws.length ↔ x.s.is id = true := by
 rw [idsX_all, List.mem_map, Ts.is_iff]
theorem ids_has {x : Xr} {id : Int} : decide (id ∈ idsX x x.ws.length) = x.s.is id := by
 cases h : x.s.is id with
 | true => exact decide_eq_true (ids_mem.2 h)
 | false => exact decide_eq_false fun e => by rw [ids_mem.1 e] at h; cases h
theorem ids_inc {x : Xr} (h : x.s.rows.Pairwise fun a b => a.1 < b.1) : (idsX x x.ws.length).Pairwise fun a b => a < b := by
 rw [idsX_all, List.pairwise_map]
 exact h.imp fun h => by omega
theorem ids_rng {x : Xr} {n : Nat} (hn : n <= 65536) (h : ∀ r ∈ x.s.rows, r.1 < n) : ∀ y ∈ idsX x x.ws.length, 0 <= y /\ y <= 65535 := fun y hy => by
 rw [idsX_all] at hy
 obtain ⟨r, hr, rfl⟩ := List.mem_map.1 hy
 have := h r hr
 omega
theorem ids_live {x : Xr} {m : List Sp} (hw : WF (-1) m) (hl : ∀ i, has m i = x.s.is i) (h : x.s.rows.Pairwise fun a b => a.1 < b.1) : allE m = idsX x x.ws.length := by
 refine all_eq hw (ids_inc h) fun i => ?_
 rw [hl, ids_mem]
theorem cmpP_self : ∀ l : List ByteArray, cmpP l l = 0
 | [] => rfl
 | a :: l => by
  have h : strLt a a = false := bless_self _
  show (if strLt a a then -1 else if !(strLt a a || strEq a a) then 1 else cmpP l l) = 0
  rw [h, strEq_self, cmpP_self l]; rfl
theorem eqL_map {α β : Type} {p : α -> α -> Bool} {f : α -> β} (hp : ∀ a b, f a = f b -> p a b = true) : ∀ {l m : List α}, l.map f = m.map f -> eqL p l m = true
 | [], [], _ => rfl
 | a :: l, b :: m, h => by
  obtain ⟨h1, h2⟩ := List.cons.inj h
  show and (p a b) (eqL p l m) = true
  rw [hp a b h1, eqL_map hp h2]; rfl
 | [], b :: m, h => nomatch h
 | a :: l, [], h => nomatch h
theorem eqT_same {F : Fm} {d e : List De} (h1 : d.map keyD = F.da) (h2 : e.map keyD = F.da) : eqT ⟨F.name, F.xa, F.key, d⟩ ⟨F.name, F.xa, F.key, e⟩ = true := by
 have hl : d.length = e.length := by have := congrArg List.length (h1.trans h2.symm); rwa [List.length_map, List.length_map] at this
 unfold eqT
 rw [strEq_self, strEq_self, hl, eqL_map (f := id) (fun a b (e : a = b) => by subst e; unfold eqC; rw [strEq_self, strEq_self]; simp) rfl, eqL_map (f := keyD) (fun a b (e : keyD a = keyD b) => by
  obtain ⟨e1, e2⟩ := Prod.mk.inj e
  show and (strEq a.r b.r) (cmpP a.l b.l == 0) = true
  rw [show a.r = b.r from e2, show a.l = b.l from e1, strEq_self, cmpP_self]; rfl) (h1.trans h2.symm)]
 simp
theorem idxF_cases {α : Type} {l : List α} {p : α -> Bool} : idxF l p = -1 ∨ ∃ c : Nat, c < l.length /\ idxF l p = (c : Int) := by
 unfold idxF
 split
 ·rename_i j hj
  obtain ⟨h3, _⟩ := List.findIdx?_eq_some_iff_getElem.1 hj
  exact .inr ⟨j, h3, rfl⟩
 ·exact .inl rfl
theorem colOk_n {xa : List Cd} {c : Nat} {v : Va} (h : colOk xa c v = true) (h2 : v.k = 2) : v.n = 0 := by
 unfold colOk vOk at h
 rw [h2] at h
 simp at h
 exact h.2.1
theorem eqV_self (v : Va) : eqV v v = true := by
 unfold eqV; rw [strEq_self]; simp
theorem wrowI_ctr {q : Nat} {F : Fm} {s : Ts} {k : Nat} {id : Int} {j : Nat} {l : List Va} (hk : k < 70000) (hj : j < s.rows.length) (hid : id = ((s.rows.getD j dR).1 : Int)) (hl : l = (s.rows.getD j dR).2) : Ctr Tryz.prog nO 14 [.o (.p 1 q 0 0 0), .o (.v (.int .i64 id))] [.as (tabA q F s k)] ((Nat)) (fun _ => True) (fun r => .t [(false, [.s 6 r 3 0 l.length l.length l.isEmpty]), (false, [.v (.bool true)])]) (fun r => [.as (tabA q F s k), vc eV 6 r l 38 .grown l.isEmpty]) := by
 subst hid; subst hl; exact wrow_ctr hk hj
theorem wgetI_ctr {q : Nat} {F : Fm} {s : Ts} {k : Nat} {id : Int} {j c : Nat} {sn : ByteArray} {v : Va} (hk : k < 70000) (hj : j < s.rows.length) (hid : id = ((s.rows.getD j dR).1 : Int)) (hc : idxF F.xa (fun c => strEq c.name sn) = (c : Int)) (hcx : c < F.xa.length) (hv : v = (s.rows.getD j dR).2.getD c eV.d) : Ctr Tryz.prog nO 18 [.o (.p 1 q 0 0 0), .o (.v (.int .i64 id)), .o (.v (.string sn))] [.as (tabA q F s k)] (Unit) (fun _ => True) (fun r => .t [(true, [.v (.int .i64 v.k), .v (.int .i64 v.n), .v (.string v.s)]), (false, [.v (.bool true)])]) (fun r => [.as (tabA q F s k)]) := by
 subst hid; subst hv; exact wget_ctr hk hj hc hcx
theorem wrowQ_ctr {q : Nat} {F : Fm} {s : Ts} {k : Nat} {id : Int} (hk : k < 70000) : Ctr Tryz.prog nO 14 [.o (.p 1 q 0 0 0), .o (.v (.int .i64 id))] [.as (tabA q F s k)] ((Value)) (fun _ => True) (fun r => .t [(false, [.v r]), (false, [.cb (s.is id)])]) (fun r => [.as (tabA q F s k)]) := by
 cases h : s.is id with
 | false => exact ctr_map (wrowN_ctr h) (fun _ => .slice none 0 0) (φ' := fun _ => True) (res' := fun r => .t [(false, [.v r]), (false, [.cb false])]) (post' := fun _ => [.as (tabA q F s k)]) fun _ _ => ⟨trivial, rfl, rfl⟩
 | true =>
  obtain ⟨j, hj, _, he⟩ := Ts.find h
  have C := wrow_ctr (nO := nO) (q := q) (F := F) hk hj
  rw [he] at C
  exact ctr_map (ctr_post C fun r _ => ge_drop) (fun r => C1.den (.s 6 r 3 0 ((s.rows.getD j dR).2.length) ((s.rows.getD j dR).2.length) ((s.rows.getD j dR).2.isEmpty))) (φ' := fun _ => True) (res' := fun r => .t [(false, [.v r]), (false, [.cb true])]) (post' := fun _ => [.as (tabA q F s k)]) fun r _ => ⟨trivial, rfl, rfl⟩
theorem wgetQ_ctr {q : Nat} {F : Fm} {s : Ts} {k : Nat} {id : Int} {sn : ByteArray} (hk : k < 70000) : Ctr Tryz.prog nO 18 [.o (.p 1 q 0 0 0), .o (.v (.int .i64 id)), .o (.v (.string sn))] [.as (tabA q F s k)] ((Va)) (fun _ => True) (fun r => .t [(true, [.v (.int .i64 r.k), .v (.int .i64 r.n), .v (.string r.s)]), (false, [.cb (and (s.is id) (decide (idxF F.xa (fun c => strEq c.name sn) ≥ 0)))])]) (fun r => [.as (tabA q F s k)]) := by
 have nv : ∀ b : Bool, b = false -> Ctr Tryz.prog nO 18 [.o (.p 1 q 0 0 0), .o (.v (.int .i64 id)), .o (.v (.string sn))] [.as (tabA q F s k)] Unit (fun _ => True) (fun r => .t [(true, [.v (.int .i64 0), .v (.int .i64 0), .v (.string ⟨#[]⟩)]), (false, [.v (.bool false)])]) (fun r => [.as (tabA q F s k)]) -> Ctr Tryz.prog nO 18 [.o (.p 1 q 0 0 0), .o (.v (.int .i64 id)), .o (.v (.string sn))] [.as (tabA q F s k)] Va (fun _ => True) (fun r => .t [(true, [.v (.int .i64 r.k), .v (.int .i64 r.n), .v (.string r.s)]), (false, [.cb b])]) (fun r => [.as (tabA q F s k)]) := fun b hb C => by
  subst hb
  exact ctr_map C (fun _ => nilV) fun _ _ => ⟨trivial, rfl, rfl⟩
 rcases idxF_cases (l := F.xa) (p := fun c => strEq c.name sn) with hc | ⟨c, hcx, hc⟩
 ·refine nv _ ?_ (wgetC_ctr hc)
  rw [hc, Bool.and_eq_false_iff]; exact .inr (by decide)
 ·cases h : s.is id with
  | false => exact nv _ rfl (wgetR_ctr hc h)
  | true =>
   obtain ⟨j, hj, _, he⟩ := Ts.find h
   have C := wget_ctr (nO := nO) (q := q) (F := F) hk hj hc hcx
   rw [he] at C
   exact ctr_map C (fun _ => (s.rows.getD j dR).2.getD c eV.d) fun _ _ => ⟨trivial, by rw [hc, decide_eq_true (by omega)]; rfl, rfl⟩
theorem rsame_ctr {q qS qR qN : Nat} {xs : List Xr} {mS mR mN : Md} {qt : Nat} {F : Fm} {s : Ts} {k : Nat} {ask : Int} {col : ByteArray} (h0 : 0 < xs.length) (hx : xP (xs.getD 0 dXr)) (hF : (xs.getD 0 dXr).F = F) (hs : (xs.getD 0 dXr).s = s) (hy : ∃ y, tabP F s k y) (hu : ∀ c, c < F.xa.length -> idxF F.xa (fun d => strEq d.name (F.xa.getD c eC.d).name) = (c : Int)) (hk : k < 70000) (hn : s.next <= 65536) : Ctr Tryz.prog nO 31 [.o (.p 7 qt 0 0 0), .o (.p 1 q 0 0 0), .o (.v (.int .i64 ask)), .o (.v (.string col))] [.as (tabA qt F s k), .blk 1 q [.s 2 qS 4 0 xs.length xs.length xs.isEmpty, .s 3 qR 1 0 xs.length xs.length xs.isEmpty, .s 4 qN 1 0 xs.length xs.length xs.isEmpty] 66 .own, vc eTb 2 qS xs 31 mS xs.isEmpty, vc eRs 3 qR xs 96 mR xs.isEmpty, vc eI 4 qN (xs.map fun x : Xr => (x.n : Int)) 3 mN xs.isEmpty, .as (bigA xA xs)] (Unit) (fun _ => True) (fun r => .o (.v (.bool true))) (fun r => [.as (tabA qt F s k), .blk 1 q [.s 2 qS 4 0 xs.length xs.length xs.isEmpty, .s 3 qR 1 0 xs.length xs.length xs.isEmpty, .s 4 qN 1 0 xs.length xs.length xs.isEmpty] 66 .own, vc eTb 2 qS xs 31 mS xs.isEmpty, vc eRs 3 qR xs 96 mR xs.isEmpty, vc eI 4 qN (xs.map fun x : Xr => (x.n : Int)) 3 mN xs.isEmpty, .as (bigA xA xs)]) := by
 refine fs good 100 (fun B => ?_)
 obtain ⟨y, hy⟩ := hy
 have hrep := hy.rep
 have hxP := hx
 have hwl := hx.wl
 have hrl0 := hx.rl
 have hza := hx.za
 have hzA := hx.zA
 have hfl := hx.fm.xl
 have hsl : s.rows.length = (xs.getD 0 dXr).ws.length := by rw [<- hs]; exact List.length_map ..
 have hlen : (xs.getD 0 dXr).F.xa.length = F.xa.length := by rw [hF]
 have hnm : ∀ c, c < F.xa.length -> idxF F.xa (fun d => strEq d.name ((xs.getD 0 dXr).F.xa.getD c eC.d).name) = (c : Int) := by rw [hF]; exact hu
 have hrw : ∀ i, s.rows.getD i dR = ((xs.getD 0 dXr).ws.getD i eRw.d).2 := fun i => by rw [<- hs]; exact rw_at
 have hnl : (xs.map fun x : Xr => (x.n : Int)).length = xs.length := List.length_map ..
 have hnx := nx_at (xs := xs) (t := 0) h0
 have hok0 : ∀ c, c < (xs.getD 0 dXr).F.xa.length -> ∀ j, j < (xs.getD 0 dXr).ws.length -> (xv (xs.getD 0 dXr) c j).k = 2 -> (xv (xs.getD 0 dXr) c j).n = 0 := fun c hc j hj h2 => by
   have h := hrep.ok _ (getD_mem (d := dR) (j := j) (by omega)) c (by omega)
   rw [hrw] at h
   exact colOk_n h h2
 refine gh (big_out (I := xA) (l := xs) 0 dXr h0) [5] [] 100 fun _ _ => ?_
 refine gh (ge_un (l := xL (xs.getD 0 dXr))) [0] [] 100 fun _ _ => ?_
 refine g0 good fun _ => ?_
 refine g0 good fun _ => ?_
 refine go good (fun _ => (o6 (rfl : q = _) (by omega : (0 : Int) <= 0) (by omega : (0 : Int) < (xs.length : Int)) (zfe (by omega) : xs.isEmpty = false) (rfl : qR = _) (by omega : 0 < xs.length))) fun _ => ?_
 refine g0 good fun _ => ?_
 refine gh (nil_vec 100 1 eI.f eI.d 3 .grown) [] [] 101 fun _ _ => ?_
 refine sv 9 (v := .o (.v (.slice none 0 0))) (v' := .o (.s 100 0 1 0 ((idsX (xs.getD 0 dXr) 0).length) ((idsX (xs.getD 0 dXr) 0).length) ((idsX (xs.getD 0 dXr) 0).isEmpty))) rfl ?_
 refine lp good ((Nat) × (Nat)) [0, 1, 2, 3, 10] (fun r => [(11, .o (.v (.int .i64 (r.1 : Int)))), (9, .o (.s 100 r.2 1 0 ((idsX (xs.getD 0 dXr) r.1).length) ((idsX (xs.getD 0 dXr) r.1).length) ((idsX (xs.getD 0 dXr) r.1).isEmpty)))]) [1, 2, 3, 4, 5, 6, 7, 8, 9, 10, 11] (fun r => [vc eI 100 r.2 (idsX (xs.getD 0 dXr) r.1) 3 .grown ((idsX (xs.getD 0 dXr) r.1).isEmpty)]) 121 (fun r => r.1 <= (xs.getD 0 dXr).ws.length) (fun r => (xs.getD 0 dXr).ws.length - r.1) (⟨0, 0⟩) (Nat.zero_le _) [0] (fun ⟨i, qi⟩ hx ag105 => ?_)
 try dsimp only at hx
 have hi := hx
 refine g0 good fun _ => ?_
 refine cdD good ((i : Int) < (((xs.getD 0 dXr).ws.length : Nat) : Int)) (fun h1 => ?_) (fun h1 => ?_)
 ·have hrl := hrl0 _ (getD_mem (d := eRw.d) (j := i) (by omega))
  have hil := idsX_len (x := (xs.getD 0 dXr)) (i := i) (by omega)
  refine go good (fun q107 => (o6 (nz i) (by omega : (i : Int) < (((xs.getD 0 dXr).ws.length : Nat) : Int)) (zfe (by omega) : (xs.getD 0 dXr).ws.isEmpty = false) (rfl : (xs.getD 0 dXr).qr = (xs.getD 0 dXr).qr) (by omega : i < ((xs.getD 0 dXr).ws).length) (rfl : [C1.v (.int .i64 ((((xs.getD 0 dXr).ws).getD i eRw.d).2.1 : Int))].all C1.one = true))) (fun q107 => ?_)
  refine apd good eI (idsX (xs.getD 0 dXr) i) [((((xs.getD 0 dXr).ws).getD i eRw.d).2.1 : Int)] (idsX (xs.getD 0 dXr) (i + 1)) 100 qi .grown ((idsX (xs.getD 0 dXr) i).isEmpty) ((idsX (xs.getD 0 dXr) (i + 1)).isEmpty) (.blk 121 (q107 121) [.v (.int .i64 ((((xs.getD 0 dXr).ws).getD i eRw.d).2.1 : Int))] 3 .own) (q107 121) 0 1 1 false 122 [1, 0] 123 3 (fun h _ => ne_of h) (by simp only [List.length_cons, List.length_nil]; omega) (src_one rfl) (by rw [idsX_succ (by omega)]; simp) (idsX_succ (by omega)) (fun q108 => ?_)
  refine g0 good fun _ => ?_
  refine go good (fun _ => (o5 (nz i) (by omega : (i : Int) < (((xs.getD 0 dXr).ws.length : Nat) : Int)) (zfe (by omega) : (xs.getD 0 dXr).ws.isEmpty = false) (rfl : (xs.getD 0 dXr).qr = (xs.getD 0 dXr).qr) (by omega : i < ((xs.getD 0 dXr).ws).length))) fun _ => ?_
  refine cl good (wrowI_ctr (q := qt) (F := F) (s := s) (k := k) (id := ((((xs.getD 0 dXr).ws).getD i eRw.d).2.1 : Int)) (j := i) (l := ((xs.getD 0 dXr).ws.getD i eRw.d).2.2) (by omega) (by omega) (by rw [hrw]) (by rw [hrw])) [8] [(1, 7), (6, 123)] 124 (fun r111 _ => ?_)
  refine g0 good fun _ => ?_
  refine gh (big_out (I := valA) (l := (xs.getD 0 dXr).ws) i eRw.d (by omega)) [8] [] 124 fun _ _ => ?_
  refine gh (ge_op (c := vc eV 921 (((xs.getD 0 dXr).ws.getD i eRw.d).1) (((xs.getD 0 dXr).ws.getD i eRw.d).2.2) 38 .grown (((xs.getD 0 dXr).ws.getD i eRw.d).2.2.isEmpty)) (I := valA ((xs.getD 0 dXr).ws.getD i eRw.d))) [0] [] 124 fun _ _ => ?_
  refine go good (fun _ => (o5 (nz i) (by omega : (i : Int) < (((xs.getD 0 dXr).ws.length : Nat) : Int)) (zfe (by omega) : (xs.getD 0 dXr).ws.isEmpty = false) (rfl : (xs.getD 0 dXr).qr = (xs.getD 0 dXr).qr) (by omega : i < ((xs.getD 0 dXr).ws).length))) fun _ => ?_
  refine cl good (rrow_ctr (qa := r111) (ca := (((xs.getD 0 dXr).ws.getD i eRw.d).2.2).length) (za := (((xs.getD 0 dXr).ws.getD i eRw.d).2.2).isEmpty) (a := (((xs.getD 0 dXr).ws.getD i eRw.d).2.2)) (ta := 38) (ma := .grown) (qb := (((xs.getD 0 dXr).ws).getD i eRw.d).1) (cb := (((xs.getD 0 dXr).ws).getD i eRw.d).2.2.length) (zb := (((xs.getD 0 dXr).ws).getD i eRw.d).2.2.isEmpty) (b := (((xs.getD 0 dXr).ws).getD i eRw.d).2.2) (tb := 38) (mb := .grown) (fun h => by simpa using h) (by omega) (fun h => by simpa using h) (by omega)) [3, 0] [(1, 123), (2, 921)] 124 fun _ _ => ?_
  refine g0 good fun _ => ?_
  refine cdF good (b := (rowV (((xs.getD 0 dXr).ws.getD i eRw.d).2.2) ((((xs.getD 0 dXr).ws).getD i eRw.d).2.2) != 0)) (by rw [rowV_self]; rfl) ?_
  refine g0 good fun _ => ?_
  refine lp good ((Nat)) [0, 1, 2, 3, 9, 10, 11] (fun r => [(14, .o (.v (.int .i64 (r : Int))))]) [0, 1, 2, 3, 4, 5, 6, 7, 8, 9, 10, 11, 12, 13, 14] (fun _ => []) 144 (fun r => r <= F.xa.length) (fun r => F.xa.length - r) (0) (Nat.zero_le _) [] (fun c hx ag117 => ?_)
  refine go good (fun _ => (o6 (rfl : q = _) (by omega : (0 : Int) <= 0) (by omega : (0 : Int) < (xs.length : Int)) (zfe (by omega) : xs.isEmpty = false) (rfl : qS = _) (by omega : 0 < xs.length))) fun _ => ?_
  refine cdD good ((c : Int) < (((xs.getD 0 dXr).F.xa.length : Nat) : Int)) (fun h3 => ?_) (fun h3 => ?_)
  ·have hcn := hnm c (by omega)
   refine go good (fun _ => (oc (nz i) (by omega : (i : Int) < (((xs.getD 0 dXr).ws.length : Nat) : Int)) (zfe (by omega) : (xs.getD 0 dXr).ws.isEmpty = false) (rfl : (xs.getD 0 dXr).qr = (xs.getD 0 dXr).qr) (by omega : i < ((xs.getD 0 dXr).ws).length) (rfl : q = _) (oc (by omega : (0 : Int) <= 0) (by omega : (0 : Int) < (xs.length : Int)) (zfe (by omega) : xs.isEmpty = false) (rfl : qS = _) (by omega : 0 < xs.length) (nz c) (o4 (by omega : (c : Int) < (((xs.getD 0 dXr).F.xa.length : Nat) : Int)) (zf hza (show 0 < (xs.getD 0 dXr).F.xa.length by omega) : (xs.getD 0 dXr).za = false) (rfl : (xs.getD 0 dXr).qa = (xs.getD 0 dXr).qa) (by omega : c < ((xs.getD 0 dXr).F.xa).length))))) fun _ => ?_
   refine cl good (wgetI_ctr (q := qt) (F := F) (s := s) (k := k) (id := ((((xs.getD 0 dXr).ws).getD i eRw.d).2.1 : Int)) (j := i) (c := c) (sn := (((xs.getD 0 dXr).F.xa).getD c eC.d).name) (v := (((xs.getD 0 dXr).ws.getD i eRw.d).2.2.getD c eV.d)) (by omega) (by omega) (by rw [hrw]) (by assumption) (by omega) (by rw [hrw])) [3] [(1, 7)] 144 fun _ _ => ?_
   refine go good (fun q121 => (o2 (rfl : (q121 144) = (q121 144)) (rfl : [C1.v (.int .i64 ((((xs.getD 0 dXr).ws.getD i eRw.d).2.2.getD c eV.d).k)), .v (.int .i64 ((((xs.getD 0 dXr).ws.getD i eRw.d).2.2.getD c eV.d).n)), .v (.string ((((xs.getD 0 dXr).ws.getD i eRw.d).2.2.getD c eV.d).s))].all C1.one = true))) (fun q121 => ?_)
   refine go good (fun _ => (oc (rfl : (q121 144) = (q121 144)) (nz i) (by omega : (i : Int) < (((xs.getD 0 dXr).ws.length : Nat) : Int)) (zfe (by omega) : (xs.getD 0 dXr).ws.isEmpty = false) (rfl : (xs.getD 0 dXr).qr = (xs.getD 0 dXr).qr) (by omega : i < ((xs.getD 0 dXr).ws).length) (o5 (nz c) (by omega : (c : Int) < (((((xs.getD 0 dXr).ws).getD i eRw.d).2.2.length : Nat) : Int)) (zfe (show 0 < ((xs.getD 0 dXr).ws.getD i eRw.d).2.2.length by omega) : (((xs.getD 0 dXr).ws).getD i eRw.d).2.2.isEmpty = false) (rfl : (((xs.getD 0 dXr).ws).getD i eRw.d).1 = ((((xs.getD 0 dXr).ws).getD i eRw.d).1)) (by omega : c < ((((xs.getD 0 dXr).ws).getD i eRw.d).2.2).length)))) fun _ => ?_
   refine cl good (req_ctr (a := (((xs.getD 0 dXr).ws.getD i eRw.d).2.2.getD c eV.d)) (b := (((((xs.getD 0 dXr).ws).getD i eRw.d).2.2).getD c eV.d))) [] [] 145 fun _ _ => ?_
   refine g0 good fun _ => ?_
   refine cdF good (b := !(eqV (((xs.getD 0 dXr).ws.getD i eRw.d).2.2.getD c eV.d) (((((xs.getD 0 dXr).ws).getD i eRw.d).2.2).getD c eV.d))) (by rw [eqV_self]; rfl) ?_
   refine go good (fun _ => (o2 (by omega : -9223372036854775808 <= (c : Int) + 1) (by omega : (c : Int) + 1 < 9223372036854775808))) fun _ => ?_
   exact ag117 _ _ (c + 1) (by first | omega | (simp only; omega)) (by omega) [2, 3, 4, 1, 5, 6, 7, 8, 9, 10, 11, 12, 13, 14, 15] (by kernel_rfl) (by kernel_rfl)
  ·refine gh (ge_sh (c := vc eV 921 ((((xs.getD 0 dXr).ws).getD i eRw.d).1) ((((xs.getD 0 dXr).ws).getD i eRw.d).2.2) 38 .grown ((((xs.getD 0 dXr).ws).getD i eRw.d).2.2.isEmpty)) (I := valA ((xs.getD 0 dXr).ws.getD i eRw.d))) [1] [] 144 fun _ _ => ?_
   refine gh (big_bk (I := valA) (l := (xs.getD 0 dXr).ws) i eRw.d (by omega)) [0, 2] [] 144 fun _ _ => ?_
   refine go good (fun _ => (o2 (by omega : -9223372036854775808 <= (i : Int) + 1) (by omega : (i : Int) + 1 < 9223372036854775808))) fun _ => ?_
   exact ag105 _ _ (⟨i + 1, q108⟩) (by first | omega | (simp only; omega)) (by dsimp only; exact (by omega)) [3, 5, 6, 7, 8, 0, 9, 2, 10, 11, 12, 13] (by kernel_rfl) (by kernel_rfl)
 ·have hie : i = (xs.getD 0 dXr).ws.length := by omega
  refine gh (ge_re (l := [vc eI 100 qi (idsX (xs.getD 0 dXr) i) 3 .grown ((idsX (xs.getD 0 dXr) i).isEmpty)]) (l' := [vc eI 100 qi (idsX (xs.getD 0 dXr) (xs.getD 0 dXr).ws.length) 3 .grown ((idsX (xs.getD 0 dXr) (xs.getD 0 dXr).ws.length).isEmpty)]) (by rw [hie])) [0] [] 121 fun _ _ => ?_
  refine sv 9 (v := .o (.s 100 qi 1 0 ((idsX (xs.getD 0 dXr) i).length) ((idsX (xs.getD 0 dXr) i).length) ((idsX (xs.getD 0 dXr) i).isEmpty))) (v' := .o (.s 100 qi 1 0 ((idsX (xs.getD 0 dXr) (xs.getD 0 dXr).ws.length).length) ((idsX (xs.getD 0 dXr) (xs.getD 0 dXr).ws.length).length) ((idsX (xs.getD 0 dXr) (xs.getD 0 dXr).ws.length).isEmpty))) (by rw [hie]) ?_
  refine g0 good fun _ => ?_
  refine lp good ((Nat)) [0, 1, 2, 3, 9] (fun r => [(17, .o (.v (.int .i64 (r : Int))))]) [0, 1, 2, 3, 4, 5, 6, 7, 8, 9, 10, 11] (fun _ => []) 141 (fun r => r <= F.xa.length) (fun r => F.xa.length - r) (0) (Nat.zero_le _) [] (fun c hx ag128 => ?_)
  refine go good (fun _ => (o6 (rfl : q = _) (by omega : (0 : Int) <= 0) (by omega : (0 : Int) < (xs.length : Int)) (zfe (by omega) : xs.isEmpty = false) (rfl : qS = _) (by omega : 0 < xs.length))) fun _ => ?_
  refine cdD good ((c : Int) < (((xs.getD 0 dXr).F.xa.length : Nat) : Int)) (fun h5 => ?_) (fun h5 => ?_)
  ·have hcn := hnm c (by omega)
   refine go good (fun _ => (oc (rfl : q = _) (by omega : (0 : Int) <= 0) (by omega : (0 : Int) < (xs.length : Int)) (zfe (by omega) : xs.isEmpty = false) (rfl : qS = _) (by omega : 0 < xs.length) (o5 (nz c) (by omega : (c : Int) < (((xs.getD 0 dXr).F.xa.length : Nat) : Int)) (zf hza (show 0 < (xs.getD 0 dXr).F.xa.length by omega) : (xs.getD 0 dXr).za = false) (rfl : (xs.getD 0 dXr).qa = (xs.getD 0 dXr).qa) (by omega : c < ((xs.getD 0 dXr).F.xa).length)))) fun _ => ?_
   refine cl good (wwords_ctr (q := qt) (F := F) (s := s) (k := k) (sn := (((xs.getD 0 dXr).F.xa).getD c eC.d).name) (c := c) (by omega) (by assumption) (by omega)) [7] [(1, 7)] 141 (fun ws131 hwz => ?_)
   refine g0 good fun _ => ?_
   refine gh (ge_all (l := xL (xs.getD 0 dXr))) [2, 3, 4, 5, 6] [] 141 fun _ _ => ?_
   refine gh (big_bk (I := xA) (l := xs) 0 dXr h0) [0, 3] [] 141 fun _ _ => ?_
   refine cl good (rwords_ctr (q := q) (qS := qS) (qR := qR) (qN := qN) (xs := xs) (mR := mR) (t := 0) (c := c) h0 hxP (by omega)) [3, 5, 0] [] 141 fun _ _ => ?_
   refine gh (big_out (I := xA) (l := xs) 0 dXr h0) [2] [] 141 fun _ _ => ?_
   refine gh (ge_un (l := xL (xs.getD 0 dXr))) [0] [] 141 fun _ _ => ?_
   refine g0 good fun _ => ?_
   refine cdF good (b := ((ws131.length : Int) != ((unN (xs.getD 0 dXr) c (xs.getD 0 dXr).ws.length : Nat) : Int))) (bne_eq_false_iff_eq.2 (congrArg (fun n : Nat => (n : Int)) (unN_ws (hok0 c (by omega)) (by rw [hs]; exact hwz)).symm)) ?_
   refine go good (fun _ => (o2 (by omega : -9223372036854775808 <= (c : Int) + 1) (by omega : (c : Int) + 1 < 9223372036854775808))) fun _ => ?_
   exact ag128 _ _ (c + 1) (by first | omega | (simp only; omega)) (by omega) [9, 0, 1, 2, 3, 4, 5, 8, 6, 10, 7, 11] (by kernel_rfl) (by kernel_rfl)
  ·refine g0 good fun _ => ?_
   refine cl good (wrowQ_ctr (q := qt) (F := F) (s := s) (k := k) (id := ask) (by omega)) [7] [(1, 7)] 141 (fun v22 _ => ?_)
   refine g0 good fun _ => ?_
   refine g0 good fun _ => ?_
   refine cl good (wgetQ_ctr (q := qt) (F := F) (s := s) (k := k) (id := ask) (sn := col) (by omega)) [0] [(1, 7)] 141 (fun v23 _ => ?_)
   refine go good (fun q141 => (o2 (rfl : (q141 141) = (q141 141)) (rfl : [C1.v (.int .i64 v23.k), .v (.int .i64 v23.n), .v (.string v23.s)].all C1.one = true))) (fun q141 => ?_)
   refine g0 good fun _ => ?_
   refine cl good (rsetof_ctr (qx := qi) (cx := (idsX (xs.getD 0 dXr) (xs.getD 0 dXr).ws.length).length) (zx := (idsX (xs.getD 0 dXr) (xs.getD 0 dXr).ws.length).isEmpty) (xs := (idsX (xs.getD 0 dXr) (xs.getD 0 dXr).ws.length)) (tx := 3) (mx := .grown) (fun h => by simpa using h) (by rw [idsX_len (Nat.le_refl _)]; omega) (ids_inc (by rw [hs]; exact hrep.inc)) (ids_rng hn (by rw [hs]; exact hrep.lt))) [2] [(1, 100), (2, 142)] 143 (fun q2143 _ => ?_)
   refine g0 good fun _ => ?_
   refine cl good (rhas_ctr (qx := q2143) (cx := (idsX (xs.getD 0 dXr) (xs.getD 0 dXr).ws.length).length) (zx := (idsX (xs.getD 0 dXr) (xs.getD 0 dXr).ws.length).isEmpty) (xs := (idsX (xs.getD 0 dXr) (xs.getD 0 dXr).ws.length)) (tx := 3) (mx := .grown) (i := ask) (fun h => by simpa using h) (by rw [idsX_len (Nat.le_refl _)]; omega)) [0] [(1, 142)] 143 fun _ _ => ?_
   refine g0 good fun _ => ?_
   refine sv 22 (v := .o (.cb (decide (ask ∈ (idsX (xs.getD 0 dXr) (xs.getD 0 dXr).ws.length))))) (v' := .o (.cb (s.is ask))) (congrArg Value.bool (by rw [ids_has, hs])) ?_
   refine goN 4 good (fun _ => trivial) fun _ => ?_
   refine sv 162 (v := .o (.cb ((s.is ask) == (s.is ask)))) (v' := .o (.v (.bool true))) (congrArg Value.bool (by simp)) ?_
   refine go good (fun _ => (o3 (fun (he : (s.is ask) = true) => have he : (s.is ask) = true := (by simpa using he); (o1 (rfl : q = _))) (fun (he : (s.is ask) = true) => have he : (s.is ask) = true := (by simpa using he); (o3 (by omega : (0 : Int) <= 0) (by omega : (0 : Int) < (xs.length : Int)) (zfe (by omega) : xs.isEmpty = false))) (fun (he : (s.is ask) = true) => have he : (s.is ask) = true := (by simpa using he); (o2 (rfl : qS = _) (by omega : 0 < xs.length))))) fun _ => ?_
   refine clm good (colof_ctr (na := (xs.getD 0 dXr).F.name) (ka := (xs.getD 0 dXr).F.key) (qa := (xs.getD 0 dXr).qa) (ca := (xs.getD 0 dXr).ca) (za := (xs.getD 0 dXr).za) (xa := (xs.getD 0 dXr).F.xa) (ta := (xs.getD 0 dXr).ta) (ma := .imm) (qA := (xs.getD 0 dXr).qA) (cA := (xs.getD 0 dXr).cA) (zA := (xs.getD 0 dXr).zA) (da := (xs.getD 0 dXr).da) (s := col) (by assumption) (by omega)) [4] trivial ?_
   refine gh (ge_re (l := [vc eC 931 ((xs.getD 0 dXr).qa) ((xs.getD 0 dXr).F.xa) (xs.getD 0 dXr).ta .imm ((xs.getD 0 dXr).za)]) (l' := [vc eC 931 ((xs.getD 0 dXr).qa) ((xs.getD 0 dXr).F.xa) (xs.getD 0 dXr).ta .imm ((xs.getD 0 dXr).za)]) rfl) [0] [] 143 fun _ _ => ?_
   refine goN 5 good (fun _ => trivial) fun _ => ?_
   refine sv 178 (v := .o (.cb ((and (s.is ask) (decide (idxF F.xa (fun c => strEq c.name col) ≥ 0))) == (and (s.is ask) (decide (idxF ((xs.getD 0 dXr).F.xa) (fun c => strEq c.name col) ≥ 0)))))) (v' := .o (.v (.bool true))) (congrArg Value.bool (by rw [hF]; simp)) ?_
   refine g0 good fun _ => ?_
   refine cl good (wnext_ctr (q := qt) (F := F) (s := s) (k := k)) [4] [(1, 7)] 143 fun _ _ => ?_
   refine goN 9 good (fun _ => (o6 (rfl : q = _) (by omega : (0 : Int) <= 0) (by omega : (0 : Int) < (xs.length : Int)) (zfe (by omega) : xs.isEmpty = false) (rfl : qN = _) (by omega : 0 < (xs.map fun x : Xr => (x.n : Int)).length))) fun _ => ?_
   refine sv 189 (v := .o (.cb ((s.next : Int) == ((xs.map fun x : Xr => (x.n : Int)).getD 0 eI.d)))) (v' := .o (.v (.bool true))) (congrArg Value.bool (by rw [hnx]; simp [<- hs, Xr.s])) ?_
   refine g0 good fun _ => ?_
   refine cl good (wlive_ctr (q := qt) (F := F) (s := s) (k := k)) [0] [(1, 7), (8, 143)] 144 (fun ⟨ql154, cL154, lv154⟩ hlw => ?_)
   have hall : (idsX (xs.getD 0 dXr) (xs.getD 0 dXr).ws.length) = allE lv154 := (ids_live hlw.1 (fun i => by rw [hlw.2 i, hs]) (by rw [hs]; exact hrep.inc)).symm
   refine g0 good fun _ => ?_
   refine cl good (rsetof_ctr (qx := qi) (cx := (idsX (xs.getD 0 dXr) (xs.getD 0 dXr).ws.length).length) (zx := (idsX (xs.getD 0 dXr) (xs.getD 0 dXr).ws.length).isEmpty) (xs := (idsX (xs.getD 0 dXr) (xs.getD 0 dXr).ws.length)) (tx := 3) (mx := .grown) (fun h => by simpa using h) (by rw [idsX_len (Nat.le_refl _)]; omega) (ids_inc (by rw [hs]; exact hrep.inc)) (ids_rng hn (by rw [hs]; exact hrep.lt))) [4] [(1, 100), (2, 144)] 145 (fun q2156 _ => ?_)
   refine gh (ge_re (l := [vc eI 144 q2156 (idsX (xs.getD 0 dXr) (xs.getD 0 dXr).ws.length) 3 .grown ((idsX (xs.getD 0 dXr) (xs.getD 0 dXr).ws.length).isEmpty)]) (l' := [vc eI 144 q2156 (allE lv154) 3 .grown ((allE lv154).isEmpty)]) (by rw [hall])) [0] [] 145 fun _ _ => ?_
   refine sv 193 (v := .o (.s 144 q2156 1 0 ((idsX (xs.getD 0 dXr) (xs.getD 0 dXr).ws.length).length) ((idsX (xs.getD 0 dXr) (xs.getD 0 dXr).ws.length).length) ((idsX (xs.getD 0 dXr) (xs.getD 0 dXr).ws.length).isEmpty))) (v' := .o (.s 144 q2156 1 0 ((allE lv154).length) ((allE lv154).length) ((allE lv154).isEmpty))) (by rw [hall]) ?_
   refine cl good (msame_ctr (qm := ql154) (cm := cL154) (m := lv154) (tm := 114) (mm := .imm) (qx := q2156) (cx := (allE lv154).length) (zx := (allE lv154).isEmpty) (tx := 3) (mx := .grown) hlw.1 (fun h => by simpa using h)) [3, 0] [(1, 143), (3, 144)] 145 fun _ _ => ?_
   refine g0 good fun _ => ?_
   refine cl good (wform_ctr (q := qt) (F := F) (s := s) (k := k)) [3] [(1, 7), (7, 145), (8, 146)] 147 (fun ⟨qf, qg, df, zf1, zf2, mf⟩ hfr => ?_)
   refine gh (ge_re (l := [vc (eD 906) 932 ((xs.getD 0 dXr).qA) ((xs.getD 0 dXr).da) (xs.getD 0 dXr).tA .imm ((xs.getD 0 dXr).zA)]) (l' := [vc (eD 907) 932 ((xs.getD 0 dXr).qA) ((xs.getD 0 dXr).da) (xs.getD 0 dXr).tA .imm ((xs.getD 0 dXr).zA)]) rfl) [10] [] 147 fun _ _ => ?_
   have hdl0 : df.length = F.da.length := by have h1 := congrArg List.length hfr.1; rwa [List.length_map] at h1
   have hdl1 : df.length < 1000000 := by have := hy.fm.dl; omega
   have hdl2 : (xs.getD 0 dXr).da.length < 1000000 := by have h1 := congrArg List.length hxP.da; rw [List.length_map] at h1; have := hxP.fm.dl; omega
   have heq : eqT ⟨F.name, F.xa, F.key, df⟩ ⟨(xs.getD 0 dXr).F.name, (xs.getD 0 dXr).F.xa, (xs.getD 0 dXr).F.key, (xs.getD 0 dXr).da⟩ = true := by rw [hF]; exact eqT_same hfr.1 (by rw [hxP.da, hF])
   refine go good (fun _ => (o6 (rfl : q = _) (by omega : (0 : Int) <= 0) (by omega : (0 : Int) < (xs.length : Int)) (zfe (by omega) : xs.isEmpty = false) (rfl : qS = _) (by omega : 0 < xs.length))) fun _ => ?_
   refine cl good (eqtab_ctr (na := F.name) (ka := F.key) (qa := qf) (ca := F.xa.length) (za := zf1) (xa := F.xa) (ta := 42) (ma := (mdOf F.xa)) (qA := qg) (cA := df.length) (zA := zf2) (da := df) (tA := 91) (mA := mf) (nb := (xs.getD 0 dXr).F.name) (kb := (xs.getD 0 dXr).F.key) (qb := (xs.getD 0 dXr).qa) (cb := (xs.getD 0 dXr).ca) (zb := (xs.getD 0 dXr).za) (xb := (xs.getD 0 dXr).F.xa) (tb := (xs.getD 0 dXr).ta) (mb := .imm) (qB := (xs.getD 0 dXr).qA) (cB := (xs.getD 0 dXr).cA) (zB := (xs.getD 0 dXr).zA) (db := (xs.getD 0 dXr).da) (tB := (xs.getD 0 dXr).tA) (mB := .imm) hfr.2.1 (by omega) hza (by omega) hfr.2.2 (by omega) hzA (by omega) (fun i hi => by have := hy.fm.dd (keyD (df.getD i dD)) (by rw [<- hfr.1]; exact List.mem_map_of_mem (getD_mem hi)); exact this) (fun i hi => by have := hxP.fm.dd (keyD ((xs.getD 0 dXr).da.getD i dD)) (by rw [<- hxP.da]; exact List.mem_map_of_mem (getD_mem hi)); exact this)) [2, 8, 3, 0, 4, 11] [(1, 145), (3, 146), (2, 931), (4, 932)] 147 fun _ _ => ?_
   refine g0 good fun _ => ?_
   refine gh (ge_re (l := [vc (eD 907) 932 ((xs.getD 0 dXr).qA) ((xs.getD 0 dXr).da) ((xs.getD 0 dXr).tA) .imm ((xs.getD 0 dXr).zA)]) (l' := [vc (eD 906) 932 ((xs.getD 0 dXr).qA) ((xs.getD 0 dXr).da) ((xs.getD 0 dXr).tA) .imm ((xs.getD 0 dXr).zA)]) rfl) [3] [] 147 fun _ _ => ?_
   refine gh (ge_all (l := xL (xs.getD 0 dXr))) [2, 0, 5, 12, 13] [] 147 fun _ _ => ?_
   refine gh (big_bk (I := xA) (l := xs) 0 dXr h0) [0, 10] [] 147 fun _ _ => ?_
   exact rtv trivial (()) trivial [4, 10, 11, 12, 13, 0] (.o (.cb (eqT ⟨F.name, F.xa, F.key, df⟩ ⟨((xs.getD 0 dXr).F.name), ((xs.getD 0 dXr).F.xa), ((xs.getD 0 dXr).F.key), ((xs.getD 0 dXr).da)⟩))) (congrArg Value.bool heq)
end Go.Proofs.YthkoolfmealabaaGreat
namespace Go.Proofs.YthkoolfmealabaaGreat
open Go.Abs
variable {nO : Nat}
set_option maxRecDepth 100000
attribute [local irreducible] GP ruP ruN nxP acS gst cdP loP invS ent1 ent2 enP caA resV lgP agN
theorem ctr_fact2 {P : Program} {f : FuncId} {args : List SV} {Y R : Type} {ψ : Y -> Prop} {L : Y -> List Ch} {c : Ch} {E : List Ch} {φ : R -> Prop} {res : R -> SV} {post : R -> List Ch} (C : ∀ y, ψ y -> Ctr P nO f args (c :: .as (boxA ψ L) :: E) R φ res post) : Ctr P nO f args (c :: .as (boxA ψ L) :: E) R φ res post := fun F A hF => by
 obtain ⟨F1, F2, hc, ⟨G1, G2, ⟨y, hy, h1⟩, h2, j2⟩, j⟩ := hF
 exact C y hy F A ⟨F1, F2, hc, ⟨G1, G2, ⟨y, hy, h1⟩, h2, j2⟩, j⟩
theorem dsame_ctr {q qt : Nat} {F : Fm} {s : Ts} {k : Nat} {l : List (Fm × Ts)} {ask : Int} {col : ByteArray} (e : l[0]? = some (F, s)) (hu : ∀ c, c < F.xa.length -> idxF F.xa (fun d => strEq d.name (F.xa.getD c eC.d).name) = (c : Int)) (hk : k < 70000) (hn : s.next <= 65536) :
  Ctr Tryz.prog nO 31 [.o (.p 7 qt 0 0 0), .o (.p 1 q 0 0 0), .o (.v (.int .i64 ask)), .o (.v (.string col))] [.as (dbA q l), .as (tabA qt F s k)] Unit (fun _ => True) (fun _ => .o (.v (.bool true))) (fun _ => [.as (dbA q l), .as (tabA qt F s k)]) :=
 ctr_fact2 fun yt hyt =>
 ctr_box (ψ := dbP l) (L := dbL q) (E := [.as (tabA qt F s k)]) (R' := Unit) (ψ' := fun _ => dbP l) (L' := fun _ => dbL q) (E' := fun _ => [.as (tabA qt F s k)]) [5, 0, 1, 2, 3, 4] [1, 2, 3, 4, 5, 0] (fun y _ => ()) (fun y _ => y)
  (fun y hy => rsame_ctr (q := q) (qS := y.qS) (qR := y.qR) (qN := y.qN) (xs := y.xs) (mS := y.mS) (mR := y.mR) (mN := y.mN) (qt := qt) (F := F) (s := s) (k := k) (ask := ask) (col := col) (hy.at e).1 (hy.ok 0 (hy.at e).1) (hy.at e).2.1 (hy.at e).2.2 ⟨yt, hyt⟩ hu hk hn)
  (fun y => ⟨by kernel_rfl, by kernel_rfl⟩)
  (fun y r hy hr => ⟨trivial, rfl, hy⟩)
  (fun y r => ⟨by kernel_rfl, by kernel_rfl⟩)
theorem tab_mono {q : Nat} {F : Fm} {s : Ts} {k k' : Nat} {l : List Ch} (h : k <= k') : GE (.as (tabA q F s k) :: l) Unit (fun _ => True) (fun _ => .as (tabA q F s k') :: l) := fun _ A hF => by
 obtain ⟨F1, F2, ⟨y, hy, h1⟩, h2, j⟩ := hF
 exact ⟨(), _, trivial, ⟨F1, F2, ⟨y, { hy with rep := hy.rep.mono h }, h1⟩, h2, j⟩, .refl⟩
def okV (F : Fm) (vs : List Va) : Prop := vs.length = F.xa.length /\ ∀ i, i < vs.length -> colOk F.xa i (vs.getD i eV.d) = true
open Classical in
noncomputable def insS (F : Fm) (s : Ts) (vs : List Va) : Ts := if okV F vs then s.ins vs else s
open Classical in
noncomputable def insI (F : Fm) (s : Ts) (vs : List Va) : Int := if okV F vs then (s.next : Int) else 0
open Classical in
noncomputable def insE (F : Fm) (vs : List Va) : Int := if okV F vs then 0 else if vs.length = F.xa.length then 4 else 1
def delS (s : Ts) (id : Int) : Ts := if s.is id = true then s.del (s.pos id).toNat else s
def setE (F : Fm) (s : Ts) (id : Int) (sn : ByteArray) (v : Va) : Int := if s.is id = true then (if idxF F.xa (fun c => strEq c.name sn) = -1 then 3 else if colOk F.xa (idxF F.xa (fun c => strEq c.name sn)).toNat v = true then 0 else 4) else 6
def setS (F : Fm) (s : Ts) (id : Int) (sn : ByteArray) (v : Va) : Ts := if s.is id = true /\ idxF F.xa (fun c => strEq c.name sn) ≠ -1 /\ colOk F.xa (idxF F.xa (fun c => strEq c.name sn)).toNat v = true then s.put (s.pos id).toNat (idxF F.xa (fun c => strEq c.name sn)).toNat v else s
theorem bad_first {p : Nat -> Bool} : ∀ {n : Nat}, (¬ ∀ i, i < n -> p i = true) -> ∃ c, c < n /\ p c = false /\ ∀ i, i < c -> p i = true
 | 0, h => absurd (fun i hi => absurd hi (Nat.not_lt_zero i)) h
 | n + 1, h => by
  by_cases h2 : ∀ i, i < n -> p i = true
  ·refine ⟨n, Nat.lt_succ_self n, ?_, h2⟩
   cases e : p n with
   | false => rfl
   | true => exact absurd (fun i hi => by rcases Nat.lt_succ_iff_lt_or_eq.1 hi with h3 | h3; exact h2 i h3; subst h3; exact e) h
  ·obtain ⟨c, h3, h4, h5⟩ := bad_first h2
   exact ⟨c, by omega, h4, h5⟩
section
variable {F : Fm} {s : Ts} {vs : List Va}
theorem ins_yes (h : okV F vs) : insS F s vs = s.ins vs /\ insI F s vs = (s.next : Int) /\ insE F vs = 0 := ⟨if_pos h, if_pos h, if_pos h⟩
theorem ins_len (h : vs.length ≠ F.xa.length) : insS F s vs = s /\ insI F s vs = 0 /\ insE F vs = 1 :=
 have n : ¬ okV F vs := fun k => h k.1
 ⟨if_neg n, if_neg n, (if_neg n).trans (if_neg h)⟩
theorem ins_bad (h : vs.length = F.xa.length) (k : ¬ ∀ i, i < vs.length -> colOk F.xa i (vs.getD i eV.d) = true) : insS F s vs = s /\ insI F s vs = 0 /\ insE F vs = 4 :=
 have n : ¬ okV F vs := fun j => k j.2
 ⟨if_neg n, if_neg n, (if_neg n).trans (if_pos h)⟩
end
theorem wins_all {q : Nat} {F : Fm} {s : Ts} {k : Nat} {vs : List Va} {qv cv : Nat} {zv : Bool} {tv : TypeId} {mv : Md} (hk : k < 70000) (hzv : zv = true -> vs.length = 0) (hlv : vs.length < 1000000) (hn : s.next < 65536) (hsz : ∀ i, i < vs.length -> (vs.getD i eV.d).s.size < 1000000000) :
  Ctr Tryz.prog nO 12 [.o (.p 1 q 0 0 0), .o (.s 6 qv 3 0 vs.length cv zv)] [.as (tabA q F s k), vc eV 6 qv vs tv mv zv] Unit (fun _ => True) (fun _ => .t [(false, [.v (.int .i64 (insI F s vs))]), (false, [.v (.int .i64 (insE F vs))])]) (fun _ => [.as (tabA q F (insS F s vs) (k + 1)), vc eV 6 qv vs tv mv zv]) := by
 by_cases hl : vs.length = F.xa.length
 ·by_cases hok : ∀ i, i < vs.length -> colOk F.xa i (vs.getD i eV.d) = true
  ·obtain ⟨e1, e2, e3⟩ := ins_yes (s := s) ⟨hl, hok⟩
   rw [e1, e2, e3]
   exact wins_ctr hk hzv hlv hn hl hok hsz
  ·obtain ⟨e1, e2, e3⟩ := ins_bad (s := s) hl hok
   rw [e1, e2, e3]
   obtain ⟨c, h1, h2, h3⟩ := bad_first hok
   exact ctr_post (winsT_ctr hzv hlv hn hl h1 h2 h3 hsz) fun _ _ => tab_mono (Nat.le_succ k)
 ·obtain ⟨e1, e2, e3⟩ := ins_len (s := s) hl
  rw [e1, e2, e3]
  exact ctr_post (winsF_ctr hn hl) fun _ _ => tab_mono (Nat.le_succ k)
theorem dins_all {q t : Nat} {l : List (Fm × Ts)} {F : Fm} {s : Ts} {vs : List Va} {qv cv : Nat} {zv : Bool} {tv : TypeId} {mv : Md} (e : l[t]? = some (F, s)) (hzv : zv = true -> vs.length = 0) (hlv : vs.length < 1000000) (hsz : ∀ i, i < vs.length -> (vs.getD i eV.d).s.size < 1000000000) (hn : s.next < 1000000) (hr : s.rows.length + 1 < 100000) :
  Ctr Tryz.prog nO 28 [.o (.p 1 q 0 0 0), .o (.v (.int .i64 (t : Int))), .o (.s 6 qv 3 0 vs.length cv zv)] [.as (dbA q l), vc eV 6 qv vs tv mv zv] Unit (fun _ => True) (fun _ => .t [(false, [.v (.int .i64 (insI F s vs))]), (false, [.v (.int .i64 (insE F vs))])]) (fun _ => [.as (dbA q (l.set t (F, insS F s vs))), vc eV 6 qv vs tv mv zv]) := by
 have hs : l.set t (F, s) = l := by
  obtain ⟨h1, h2⟩ := List.getElem?_eq_some_iff.1 e
  rw [<- h2]; exact List.set_getElem_self h1
 by_cases hl : vs.length = F.xa.length
 ·by_cases hok : ∀ i, i < vs.length -> colOk F.xa i (vs.getD i eV.d) = true
  ·obtain ⟨e1, e2, e3⟩ := ins_yes (s := s) ⟨hl, hok⟩
   rw [e1, e2, e3]
   exact dins_ctr e hzv hlv hl hok hsz hn hr
  ·obtain ⟨e1, e2, e3⟩ := ins_bad (s := s) hl hok
   rw [e1, e2, e3, hs]
   obtain ⟨c, h1, h2, h3⟩ := bad_first hok
   exact dinsT_ctr e hzv hlv hl h1 h2 h3 hsz
 ·obtain ⟨e1, e2, e3⟩ := ins_len (s := s) hl
  rw [e1, e2, e3, hs]
  exact dinsF_ctr e hzv hlv hl
theorem wdel_all {q : Nat} {F : Fm} {s : Ts} {k : Nat} {id : Int} (hk : k < 70000) (hn : s.next <= 65536) :
  Ctr Tryz.prog nO 19 [.o (.p 1 q 0 0 0), .o (.v (.int .i64 id))] [.as (tabA q F s k)] Unit (fun _ => True) (fun _ => .o (.cb (s.is id))) (fun _ => [.as (tabA q F (delS s id) (k + 2))]) := by
 unfold delS
 cases h : s.is id with
 | false =>
  rw [if_neg (by decide)]
  exact ctr_post (wdelN_ctr h) fun _ _ => tab_mono (by omega)
 | true =>
  obtain ⟨j, hj, hp, he⟩ := Ts.find h
  have C := wdel_ctr (nO := nO) (q := q) (F := F) hk hn hj
  rw [he] at C
  rw [if_pos rfl, hp]
  exact C
theorem ddel_all {q t : Nat} {l : List (Fm × Ts)} {F : Fm} {s : Ts} {id : Int} (e : l[t]? = some (F, s)) :
  Ctr Tryz.prog nO 29 [.o (.p 1 q 0 0 0), .o (.v (.int .i64 (t : Int))), .o (.v (.int .i64 id))] [.as (dbA q l)] Unit (fun _ => True) (fun _ => .o (.cb (s.is id))) (fun _ => [.as (dbA q (l.set t (F, delS s id)))]) := by
 have hs : l.set t (F, s) = l := by
  obtain ⟨h1, h2⟩ := List.getElem?_eq_some_iff.1 e
  rw [<- h2]; exact List.set_getElem_self h1
 unfold delS
 cases h : s.is id with
 | false =>
  rw [if_neg (by decide), hs]
  exact ddelN_ctr e h
 | true =>
  obtain ⟨j, hj, hp, he⟩ := Ts.find h
  rw [if_pos rfl, hp]
  exact ddel_ctr e hj hp
section
variable {F : Fm} {s : Ts} {id : Int} {sn : ByteArray} {v : Va}
theorem set_no (h : s.is id = false) : setS F s id sn v = s /\ setE F s id sn v = 6 := by
 unfold setS setE
 rw [h]; exact ⟨if_neg fun k => (by cases k.1), if_neg (by decide)⟩
theorem set_col (h : s.is id = true) (hc : idxF F.xa (fun c => strEq c.name sn) = -1) : setS F s id sn v = s /\ setE F s id sn v = 3 := by
 unfold setS setE
 rw [h, hc]; exact ⟨if_neg fun k => k.2.1 rfl, by rw [if_pos rfl, if_pos rfl]⟩
theorem set_bad {c : Nat} (h : s.is id = true) (hc : idxF F.xa (fun c => strEq c.name sn) = (c : Int)) (ho : colOk F.xa c v = false) : setS F s id sn v = s /\ setE F s id sn v = 4 := by
 unfold setS setE
 rw [h, hc, Int.toNat_natCast, ho]; exact ⟨if_neg fun k => (by cases k.2.2), by rw [if_pos rfl, if_neg (by omega), if_neg (by decide)]⟩
theorem set_yes {c j : Nat} (h : s.is id = true) (hp : s.pos id = (j : Int)) (hc : idxF F.xa (fun c => strEq c.name sn) = (c : Int)) (ho : colOk F.xa c v = true) : setS F s id sn v = s.put j c v /\ setE F s id sn v = 0 := by
 unfold setS setE
 rw [h, hc, hp, Int.toNat_natCast, Int.toNat_natCast, ho]; exact ⟨if_pos ⟨rfl, by omega, rfl⟩, by rw [if_pos rfl, if_neg (by omega), if_pos rfl]⟩
end
theorem wset_all {q : Nat} {F : Fm} {s : Ts} {k : Nat} {id : Int} {sn : ByteArray} {v : Va} (hk : k < 70000) (hs : v.s.size < 1000000000) :
  Ctr Tryz.prog nO 20 [.o (.p 1 q 0 0 0), .o (.v (.int .i64 id)), .o (.v (.string sn)), .a [.v (.int .i64 v.k), .v (.int .i64 v.n), .v (.string v.s)]] [.as (tabA q F s k)] Unit (fun _ => True) (fun _ => .o (.v (.int .i64 (setE F s id sn v)))) (fun _ => [.as (tabA q F (setS F s id sn v) (k + 2))]) := by
 cases h : s.is id with
 | false =>
  obtain ⟨e1, e2⟩ := set_no (F := F) (sn := sn) (v := v) h
  rw [e1, e2]
  exact ctr_post (wsetN_ctr h) fun _ _ => tab_mono (by omega)
 | true =>
  obtain ⟨j, hj, hp, he⟩ := Ts.find h
  rcases idxF_cases (l := F.xa) (p := fun c => strEq c.name sn) with hc | ⟨c, hcx, hc⟩
  ·obtain ⟨e1, e2⟩ := set_col (v := v) h hc
   rw [e1, e2]
   have C := wsetC_ctr (nO := nO) (q := q) (k := k) (v := v) hj hc
   rw [he] at C
   exact ctr_post C fun _ _ => tab_mono (by omega)
  ·cases ho : colOk F.xa c v with
   | false =>
    obtain ⟨e1, e2⟩ := set_bad h hc ho
    rw [e1, e2]
    have C := wsetT_ctr (nO := nO) (q := q) (k := k) hj hc hcx hs ho
    rw [he] at C
    exact ctr_post C fun _ _ => tab_mono (by omega)
   | true =>
    obtain ⟨e1, e2⟩ := set_yes h hp hc ho
    rw [e1, e2]
    have C := wset_ctr (nO := nO) (q := q) hk hj hc hcx hs ho
    rw [he] at C
    exact C
theorem dset_all {q t : Nat} {l : List (Fm × Ts)} {F : Fm} {s : Ts} {id : Int} {sn : ByteArray} {v : Va} (e : l[t]? = some (F, s)) (hs : v.s.size < 1000000000) :
  Ctr Tryz.prog nO 30 [.o (.p 1 q 0 0 0), .o (.v (.int .i64 (t : Int))), .o (.v (.int .i64 id)), .o (.v (.string sn)), .a [.v (.int .i64 v.k), .v (.int .i64 v.n), .v (.string v.s)]] [.as (dbA q l)] Unit (fun _ => True) (fun _ => .o (.v (.int .i64 (setE F s id sn v)))) (fun _ => [.as (dbA q (l.set t (F, setS F s id sn v)))]) := by
 have hsl : l.set t (F, s) = l := by
  obtain ⟨h1, h2⟩ := List.getElem?_eq_some_iff.1 e
  rw [<- h2]; exact List.set_getElem_self h1
 cases h : s.is id with
 | false =>
  obtain ⟨e1, e2⟩ := set_no (F := F) (sn := sn) (v := v) h
  rw [e1, e2, hsl]
  exact dsetN_ctr e h
 | true =>
  obtain ⟨j, hj, hp, he⟩ := Ts.find h
  rcases idxF_cases (l := F.xa) (p := fun c => strEq c.name sn) with hc | ⟨c, hcx, hc⟩
  ·obtain ⟨e1, e2⟩ := set_col (v := v) h hc
   rw [e1, e2, hsl]
   exact dsetC_ctr e hj hp hc
  ·cases ho : colOk F.xa c v with
   | false =>
    obtain ⟨e1, e2⟩ := set_bad h hc ho
    rw [e1, e2, hsl]
    exact dsetT_ctr e hj hp hc hcx hs ho
   | true =>
    obtain ⟨e1, e2⟩ := set_yes h hp hc ho
    rw [e1, e2]
    exact dset_ctr e hj hp hc hcx hs ho
theorem vOk_size {v : Va} (h : vOk v = true) : v.s.size < 1000000000 := by
 have hE : strE v.s = true -> v.s.size < 1000000000 := fun e => by
  rw [strEq_iff.1 e]; decide
 unfold vOk at h
 split at h
 ·rw [Bool.and_eq_true] at h; exact hE h.2
 split at h
 ·exact hE h
 split at h
 ·rw [Bool.and_eq_true] at h
  have := (of_decide_eq_true h.2).2
  omega
 ·cases h
theorem wcopy_all {q : Nat} {F : Fm} {s : Ts} {k : Nat} (hk : k < 70000) (hn : s.next <= 65536) :
  Ctr Tryz.prog nO 25 [.o (.p 1 q 0 0 0)] [.as (tabA q F s k)] Nat (fun _ => True) (fun r => .o (.p 11 r 0 0 0)) (fun r => [.as (tabA q F s k), .as (tabA r F s k)]) :=
 ctr_fact fun y hy => wcopy_ctr hk hn fun r hr c hc => vOk_size (by have h := hy.rep.ok r hr c hc; unfold colOk at h; rw [Bool.and_eq_true] at h; exact h.2)
theorem insS_le {F : Fm} {s : Ts} {vs : List Va} : (insS F s vs).next <= s.next + 1 /\ (insS F s vs).rows.length <= s.rows.length + 1 := by
 unfold insS; split
 ·exact ⟨Nat.le_refl _, by show (s.rows ++ [_]).length <= _; simp⟩
 ·exact ⟨by omega, by omega⟩
theorem delS_le {s : Ts} {id : Int} : (delS s id).next <= s.next + 1 /\ (delS s id).rows.length <= s.rows.length + 1 := by
 unfold delS; split
 ·exact ⟨Nat.le_succ _, by show (s.rows.eraseIdx _).length <= _; have := List.length_eraseIdx_le s.rows (s.pos id).toNat; omega⟩
 ·exact ⟨by omega, by omega⟩
theorem setS_le {F : Fm} {s : Ts} {id : Int} {sn : ByteArray} {v : Va} : (setS F s id sn v).next <= s.next + 1 /\ (setS F s id sn v).rows.length <= s.rows.length + 1 := by
 unfold setS; split
 ·exact ⟨Nat.le_succ _, by show (s.rows.set _ _).length <= _; rw [List.length_set]; omega⟩
 ·exact ⟨by omega, by omega⟩
end Go.Proofs.YthkoolfmealabaaGreat
namespace Go.Proofs.YthkoolfmealabaaGreat
set_option maxHeartbeats 4000000
open Go.Abs
variable {nO : Nat}
set_option maxRecDepth 100000
attribute [local irreducible] GP ruP ruN nxP acS gst cdP loP invS ent1 ent2 enP caA resV lgP agN
structure Opv where
 q : Nat
 c : Nat
 z : Bool
 y : Bool
 kind : Int
 id : Int
 col : ByteArray
 vs : List Va
def dOp : Opv := ⟨0, 0, true, true, 0, 0, ⟨#[]⟩, []⟩
def eOp : En Opv := ⟨4, fun x => [.v (.int .i64 x.kind), .v (.int .i64 x.id), .v (.string x.col), .s 941 x.q 3 0 x.vs.length x.c x.z], dOp⟩
def opA (x : Opv) : As := (vc eV 941 x.q x.vs 38 .imm x.y).den
def shopF : Fm := ⟨tShop, tId, shopK, (shopD 0).map keyD⟩
theorem shopF_ok : FmOk shopF := ⟨by decide, by decide, fun i hi => shopK_kind i hi, fun d hd => by
 have e : d = keyD ⟨0, [tCity], tZone⟩ := by
  have h : d ∈ [keyD ⟨0, [tCity], tZone⟩] := hd
  simpa using h
 subst e; decide⟩
theorem shopF_uniq : ∀ c, c < shopF.xa.length -> idxF shopF.xa (fun d => strEq d.name (shopF.xa.getD c eC.d).name) = (c : Int) := by
 have h : ∀ c, c < 4 -> idxF shopF.xa (fun d => strEq d.name (shopF.xa.getD c eC.d).name) = (c : Int) := by decide +kernel
 exact h
def s0 : Ts := ⟨[], 0⟩
def newX (qa ca qA cA ql : Nat) : Xr := ⟨qa, ca, false, 42, qA, cA, false, 91, shopD ql, 0, [], shopF, 0⟩
theorem newX_ok {qa ca qA cA ql : Nat} : xP (newX qa ca qA cA ql) := ⟨shopF_ok, (fun h => nomatch h), (fun h => nomatch h), rfl, (show 0 < 100000 by decide), fun w hw => nomatch hw⟩
theorem dins1 {q : Nat} {F : Fm} {s : Ts} {qv cv : Nat} {zv : Bool} {vs : List Va} {tv : TypeId} {mv : Md} (hzv : zv = true -> vs.length = 0) (hlv : vs.length < 1000000) (hsz : ∀ i, i < vs.length -> (vs.getD i eV.d).s.size < 1000000000) (hn : s.next < 1000000) (hr : s.rows.length + 1 < 100000) : Ctr Tryz.prog nO 28 [.o (.p 1 q 0 0 0), .o (.v (.int .i64 0)), .o (.s 6 qv 3 0 vs.length cv zv)] [.as (dbA q [(F, s)]), vc eV 6 qv vs tv mv zv] (Unit) (fun _ => True) (fun r => .t [(false, [.v (.int .i64 (insI F s vs))]), (false, [.v (.int .i64 (insE F vs))])]) (fun r => [.as (dbA q [(F, (insS F s vs))]), vc eV 6 qv vs tv mv zv]) :=
 dins_all (l := [(F, s)]) (t := 0) (F := F) (s := s) rfl hzv hlv hsz hn hr
theorem ddel1 {q : Nat} {F : Fm} {s : Ts} {id : Int}  : Ctr Tryz.prog nO 29 [.o (.p 1 q 0 0 0), .o (.v (.int .i64 0)), .o (.v (.int .i64 id))] [.as (dbA q [(F, s)])] (Unit) (fun _ => True) (fun r => .o (.cb (s.is id))) (fun r => [.as (dbA q [(F, (delS s id))])]) :=
 ddel_all (l := [(F, s)]) (t := 0) (F := F) (s := s) rfl
theorem dset1 {q : Nat} {F : Fm} {s : Ts} {id : Int} {sn : ByteArray} {v : Va} (hs : v.s.size < 1000000000) : Ctr Tryz.prog nO 30 [.o (.p 1 q 0 0 0), .o (.v (.int .i64 0)), .o (.v (.int .i64 id)), .o (.v (.string sn)), .a [.v (.int .i64 v.k), .v (.int .i64 v.n), .v (.string v.s)]] [.as (dbA q [(F, s)])] (Unit) (fun _ => True) (fun r => .o (.v (.int .i64 (setE F s id sn v)))) (fun r => [.as (dbA q [(F, (setS F s id sn v))])]) :=
 dset_all (l := [(F, s)]) (t := 0) (F := F) (s := s) rfl hs
theorem dcopy1 {q : Nat} {F : Fm} {s : Ts}  : Ctr Tryz.prog nO 26 [.o (.p 1 q 0 0 0)] [.as (dbA q [(F, s)])] ((Nat)) (fun _ => True) (fun r => .o (.p 11 r 0 0 0)) (fun r => [.as (dbA r [(F, s)]), .as (dbA q [(F, s)])]) :=
 dcopy_ctr
theorem dsame1 {qt q : Nat} {F : Fm} {s : Ts} {k : Nat} {ask : Int} {col : ByteArray} (hu : ∀ c, c < F.xa.length -> idxF F.xa (fun d => strEq d.name (F.xa.getD c eC.d).name) = (c : Int)) (hk : k < 70000) (hn : s.next <= 65536) : Ctr Tryz.prog nO 31 [.o (.p 7 qt 0 0 0), .o (.p 1 q 0 0 0), .o (.v (.int .i64 ask)), .o (.v (.string col))] [.as (dbA q [(F, s)]), .as (tabA qt F s k)] (Unit) (fun _ => True) (fun r => .o (.v (.bool true))) (fun r => [.as (dbA q [(F, s)]), .as (tabA qt F s k)]) :=
 dsame_ctr (l := [(F, s)]) rfl hu hk hn
theorem all_law {qo co : Nat} {zo : Bool} {ops : List Opv} {to : TypeId} {mo : Md} {ask : Int} {col : ByteArray} (hzo : zo = true -> ops.length = 0) (hvz : ∀ i, i < ops.length -> (ops.getD i dOp).z = true -> (ops.getD i dOp).vs.length = 0) (hvl : ∀ i, i < ops.length -> (ops.getD i dOp).vs.length < 9223372036854775808) : Ctr Tryz.prog nO 6 [.o (.s 1 qo 4 0 ops.length co zo), .o (.v (.int .i64 ask)), .o (.v (.string col))] [vc eOp 1 qo ops to mo zo, .as (bigA opA ops)] (Unit) (fun _ => True) (fun r => .o (.v (.bool true))) (fun r => [vc eOp 1 qo ops to mo zo, .as (bigA opA ops)]) := by
 refine fs good 100 (fun B => ?_)
 refine g0 good fun _ => ?_
 refine cl good (begun_ctr ) [] [] 100 fun _ _ => ?_
 refine g0 good fun _ => ?_
 refine g0 good fun _ => ?_
 refine cdF good rfl ?_
 refine cl good (shop_ctr ) [] [(1, 100), (2, 101)] 102 (fun ⟨qc107, qd107, ql107⟩ _ => ?_)
 refine cl good (wnew_ctr (na := tShop) (ka := tId) (qa := qc107) (ca := shopK.length) (za := false) (xa := shopK) (ta := 42) (ma := .grown) (qA := qd107) (cA := (shopD ql107).length) (zA := false) (da := (shopD ql107)) (tA := 91) (mA := .imm) (fun h => nomatch h) (show 4 < 1000000 by decide) (fun h => nomatch h) shopF_ok) [0, 1, 2] [(2, 100), (3, 101), (1, 102)] 103 (fun q109 _ => ?_)
 refine gh (ge_re (l := [.as (tabA q109 (⟨tShop, tId, shopK, (shopD ql107).map keyD⟩ : Fm) ⟨[], 0⟩ 0)]) (l' := [.as (tabA q109 shopF s0 0)]) rfl) [0] [] 103 fun _ _ => ?_
 refine g0 good fun _ => ?_
 refine cl good (shop_ctr ) [] [(1, 103), (2, 104)] 105 (fun ⟨qc112, qd112, ql112⟩ _ => ?_)
 refine go good (fun q113 => (o5 (rfl : [C1.v (.string tShop), .s 103 qc112 4 0 shopK.length shopK.length false, .v (.string tId), .s 104 qd112 2 0 ((shopD ql112).length) ((shopD ql112).length) false].all C1.one = true) (rfl : [C1.s 105 (q113 105) 4 0 1 1 false].all C1.one = true) (rfl : [C1.s 106 (q113 106) 1 0 1 1 false].all C1.one = true) (rfl : [C1.s 107 (q113 107) 1 0 1 1 false].all C1.one = true) (rfl : [C1.s 105 (q113 105) 4 0 1 1 false, .s 106 (q113 106) 1 0 1 1 false, .s 107 (q113 107) 1 0 1 1 false].all C1.one = true))) (fun q113 => ?_)
 refine gh (vec_imm (E := eC) (g := 103) (q := qc112) (xs := shopK) (t := 42) (m := .grown) (z := false)) [4] [] 109 fun _ _ => ?_
 refine gh (blk_vec (g := 105) (q := (q113 105)) (cs := [.v (.string tShop), .s 103 qc112 4 0 shopK.length shopK.length false, .v (.string tId), .s 104 qd112 2 0 ((shopD ql112).length) ((shopD ql112).length) false]) (t := 31) (m := .own) eTb [(newX qc112 shopK.length qd112 ((shopD ql112).length) ql112)]) [4] [] 109 fun _ _ => ?_
 refine gh (blk_vec (g := 106) (q := (q113 106)) (cs := [.v (.slice none 0 0)]) (t := 96) (m := .own) eRs [(newX qc112 shopK.length qd112 ((shopD ql112).length) ql112)]) [4] [] 109 fun _ _ => ?_
 refine gh (blk_vec (g := 107) (q := (q113 107)) (cs := [.v (.int .i64 0)]) (t := 3) (m := .own) eI [(0 : Int)]) [4] [] 109 fun _ _ => ?_
 refine gh (nil_vec 109 2 eRw.f eRw.d 98 .grown) [] [] 110 fun _ _ => ?_
 refine gh (big_nil (I := valA)) [] [] 110 fun _ _ => ?_
 refine gh (ge_all (l := xL (newX qc112 shopK.length qd112 ((shopD ql112).length) ql112))) [5, 7, 8, 1, 0] [] 110 fun _ _ => ?_
 refine gh (big_nil (I := xA)) [] [] 110 fun _ _ => ?_
 refine gh (big_snoc (I := xA) (l := []) (x := (newX qc112 shopK.length qd112 ((shopD ql112).length) ql112))) [1, 0] [] 110 fun _ _ => ?_
 refine gh (box_shut (φ := dbP [(shopF, s0)]) (L := dbL (q113 108)) (⟨(q113 105), (q113 106), (q113 107), .own, .own, .own, [(newX qc112 shopK.length qd112 ((shopD ql112).length) ql112)]⟩ : Dr) ⟨rfl, fun i hi => (by obtain rfl : i = 0 := Nat.lt_one_iff.1 hi; exact newX_ok), rfl, rfl, (show 1 < 100000 by decide)⟩) [4, 3, 2, 1, 0] [] 110 fun _ _ => ?_
 refine g0 good fun _ => ?_
 refine cl good (wcopy_all (q := q109) (F := shopF) (s := s0) (k := 0) (by decide) (Nat.zero_le _)) [1] [(1, 102), (11, 110)] 111 (fun r115 _ => ?_)
 refine g0 good fun _ => ?_
 refine cl good (dcopy1 (q := (q113 108)) (F := shopF) (s := s0)) [2] [(1, 108), (11, 111)] 112 (fun r117 _ => ?_)
 refine g0 good fun _ => ?_
 refine g0 good fun _ => ?_
 refine gh (ge_re (l := [.as (tabA q109 shopF s0 0)]) (l' := [.as (tabA q109 shopF s0 (2 * 0))]) rfl) [2] [] 112 fun _ _ => ?_
 refine gh (tab_mono (q := r115) (F := shopF) (s := s0) (k := 0) (k' := 100) (l := []) (by decide)) [3] [] 112 fun _ _ => ?_
 refine lp5 good (Nat) (Ts) (Ts) (Nat) (Nat) [0, 1, 2, 8, 9] (fun r => [(12, .o (.v (.int .i64 (r.1 : Int)))), (10, .o (.p 11 r.2.2.2.1 0 0 0)), (11, .o (.p 12 r.2.2.2.2 0 0 0))]) [4, 5] (fun r => [.as (tabA q109 shopF r.2.1 (2 * r.1)), .as (tabA r.2.2.2.1 shopF r.2.2.1 100), .as (dbA (q113 108) [(shopF, r.2.1)]), .as (dbA r.2.2.2.2 [(shopF, r.2.2.1)])]) 132 (fun r => r.1 <= 40 /\ r.2.1.next <= r.1 /\ r.2.1.rows.length <= r.1 /\ r.2.2.1.next <= 41) (fun r => 40 - r.1) (⟨0, s0, s0, r115, r117⟩) ⟨Nat.zero_le _, Nat.le_refl _, Nat.le_refl _, Nat.zero_le _⟩ [1, 0, 3, 2] (fun i s s3 q3 q4 hx ag120 => ?_)
 try dsimp only at hx
 obtain ⟨hi, hsn, hsr, hs3⟩ := hx
 refine g0 good fun _ => ?_
 refine cd good (and (decide ((i : Int) < (ops.length : Int))) (decide ((i : Int) < 40))) (fun h2 => ?_) (fun h2 => ?_)
 ·have h2 : ((i : Int) < (ops.length : Int)) /\ ((i : Int) < 40) := by simpa using h2
  have hcl := cutVs_len (l := (ops.getD i dOp).vs) (n := min 6 (ops.getD i dOp).vs.length)
  have hcz : (cutVs (ops.getD i dOp).vs (min 6 (ops.getD i dOp).vs.length)).isEmpty = true -> (cutVs (ops.getD i dOp).vs (min 6 (ops.getD i dOp).vs.length)).length = 0 := fun h => by simpa using h
  have hcs : ∀ j, j < (cutVs (ops.getD i dOp).vs (min 6 (ops.getD i dOp).vs.length)).length -> ((cutVs (ops.getD i dOp).vs (min 6 (ops.getD i dOp).vs.length)).getD j eV.d).s.size < 1000000000 := fun j hj => by have := cutVs_sz hj; omega
  have hle := insS_le (F := shopF) (s := s) (vs := (cutVs (ops.getD i dOp).vs (min 6 (ops.getD i dOp).vs.length)))
  have hld := delS_le (s := s) (id := (ops.getD i dOp).id)
  have hlt := setS_le (F := shopF) (s := s) (id := (ops.getD i dOp).id) (sn := cutS (ops.getD i dOp).col 20) (v := (cutVs (ops.getD i dOp).vs (min 6 (ops.getD i dOp).vs.length)).getD 0 eV.d)
  refine go good (fun q122 => (oc (nz i) (by omega : (i : Int) < (ops.length : Int)) (zf hzo (show 0 < ops.length by omega) : zo = false) (rfl : qo = _) (by omega : i < ops.length) (rfl : (q122 132) = (q122 132)) (o1 (rfl : [C1.v (.int .i64 ((ops.getD i dOp).kind)), .v (.int .i64 ((ops.getD i dOp).id)), .v (.string ((ops.getD i dOp).col)), .s 941 ((ops.getD i dOp).q) 3 0 ((ops.getD i dOp).vs.length) ((ops.getD i dOp).c) ((ops.getD i dOp).z)].all C1.one = true)))) (fun q122 => ?_)
  refine gh (big_out (I := opA) (l := ops) i dOp (by omega)) [6] [] 133 fun _ _ => ?_
  refine gh (ge_op (c := vc eV 941 ((ops.getD i dOp).q) ((ops.getD i dOp).vs) 38 .imm ((ops.getD i dOp).y)) (I := opA (ops.getD i dOp))) [0] [] 133 fun _ _ => ?_
  refine go good (fun _ => (o1 (rfl : (q122 132) = (q122 132)))) fun _ => ?_
  refine cl good (lvals_ctr (qv := (ops.getD i dOp).q) (cv := (ops.getD i dOp).c) (zv := (ops.getD i dOp).z) (vs := (ops.getD i dOp).vs) (tv := 38) (mv := .imm) (zc := (ops.getD i dOp).y) (n := 6) (hvz i (by omega)) (hvl i (by omega)) (by decide)) [0] [(6, 941), (7, 133)] 134 (fun qv _ => ?_)
  refine g0 good fun _ => ?_
  refine gh (ge_sh (c := vc eV 941 ((ops.getD i dOp).q) ((ops.getD i dOp).vs) 38 .imm ((ops.getD i dOp).y)) (I := opA (ops.getD i dOp))) [1] [] 134 fun _ _ => ?_
  refine gh (big_bk (I := opA) (l := ops) i dOp (by omega)) [0, 2] [] 134 fun _ _ => ?_
  refine go good (fun _ => (o1 (rfl : (q122 132) = (q122 132)))) fun _ => ?_
  refine cl good (cut_ctr (s := (ops.getD i dOp).col) (n := 20)) [] [] 134 fun _ _ => ?_
  refine g0 good fun _ => ?_
  refine go good (fun _ => (o1 (rfl : (q122 132) = (q122 132)))) fun _ => ?_
  refine g0 good fun _ => ?_
  refine cdE good ((ops.getD i dOp).kind) 0 (fun h3 => ?_) (fun h3 => ?_)
  ·refine g0 good fun _ => ?_
   refine cl good (wins_all (q := q109) (F := shopF) (s := s) (k := (2 * i)) (qv := qv) (cv := (cutVs ((ops.getD i dOp).vs) (min 6 ((ops.getD i dOp).vs).length)).length) (zv := (cutVs ((ops.getD i dOp).vs) (min 6 ((ops.getD i dOp).vs).length)).isEmpty) (vs := (cutVs ((ops.getD i dOp).vs) (min 6 ((ops.getD i dOp).vs).length))) (tv := 38) (mv := .grown) (by omega) hcz (by omega) (by omega) hcs) [3, 1] [(1, 102), (6, 133)] 134 fun _ _ => ?_
   refine g0 good fun _ => ?_
   refine g0 good fun _ => ?_
   refine cl good (dins1 (q := (q113 108)) (F := shopF) (s := s) (qv := qv) (cv := (cutVs ((ops.getD i dOp).vs) (min 6 ((ops.getD i dOp).vs).length)).length) (zv := (cutVs ((ops.getD i dOp).vs) (min 6 ((ops.getD i dOp).vs).length)).isEmpty) (vs := (cutVs ((ops.getD i dOp).vs) (min 6 ((ops.getD i dOp).vs).length))) (tv := 38) (mv := .grown) hcz (by omega) hcs (by omega) (by omega)) [5, 1] [(1, 108), (6, 133)] 134 fun _ _ => ?_
   refine g0 good fun _ => ?_
   refine g0 good fun _ => ?_
   refine cdF good (b := or ((insI shopF s (cutVs ((ops.getD i dOp).vs) (min 6 ((ops.getD i dOp).vs).length))) != (insI shopF s (cutVs ((ops.getD i dOp).vs) (min 6 ((ops.getD i dOp).vs).length)))) ((insE shopF (cutVs ((ops.getD i dOp).vs) (min 6 ((ops.getD i dOp).vs).length))) != (insE shopF (cutVs ((ops.getD i dOp).vs) (min 6 ((ops.getD i dOp).vs).length))))) (by simp) ?_
   refine g0 good fun _ => ?_
   refine cdE good (i : Int) 10 (fun h9 => ?_) (fun h9 => ?_)
   ·refine g0 good fun _ => ?_
    refine cl good (wcopy_all (q := q109) (F := shopF) (s := (insS shopF s (cutVs ((ops.getD i dOp).vs) (min 6 ((ops.getD i dOp).vs).length)))) (k := ((2 * i) + 1)) (by omega) (by omega)) [2] [(1, 102), (11, 134)] 135 (fun r140 _ => ?_)
    refine g0 good fun _ => ?_
    refine cl good (dcopy1 (q := (q113 108)) (F := shopF) (s := (insS shopF s (cutVs ((ops.getD i dOp).vs) (min 6 ((ops.getD i dOp).vs).length))))) [2] [(1, 108), (11, 135)] 136 (fun r142 _ => ?_)
    refine g0 good fun _ => ?_
    refine go good (fun _ => (o2 (by omega : -9223372036854775808 <= (i : Int) + 1) (by omega : (i : Int) + 1 < 9223372036854775808))) fun _ => ?_
    refine gh (tab_mono (q := q109) (F := shopF) (s := (insS shopF s (cutVs ((ops.getD i dOp).vs) (min 6 ((ops.getD i dOp).vs).length)))) (k := ((2 * i) + 1)) (k' := 2 * (i + 1)) (l := []) (by omega)) [2] [] 136 fun _ _ => ?_
    refine gh (tab_mono (q := r140) (F := shopF) (s := (insS shopF s (cutVs ((ops.getD i dOp).vs) (min 6 ((ops.getD i dOp).vs).length)))) (k := ((2 * i) + 1)) (k' := 100) (l := []) (by omega)) [3] [] 136 fun _ _ => ?_
    exact ag120 _ _ (⟨i + 1, (insS shopF s (cutVs ((ops.getD i dOp).vs) (min 6 ((ops.getD i dOp).vs).length))), (insS shopF s (cutVs ((ops.getD i dOp).vs) (min 6 ((ops.getD i dOp).vs).length))), r140, r142⟩) (by first | omega | (simp only; omega)) (by dsimp only; exact ⟨by omega, by omega, by omega, by omega⟩) [1, 0, 3, 2, 9, 5] (by kernel_rfl) (by kernel_rfl)
   ·refine go good (fun _ => (o2 (by omega : -9223372036854775808 <= (i : Int) + 1) (by omega : (i : Int) + 1 < 9223372036854775808))) fun _ => ?_
    refine gh (tab_mono (q := q109) (F := shopF) (s := (insS shopF s (cutVs ((ops.getD i dOp).vs) (min 6 ((ops.getD i dOp).vs).length)))) (k := ((2 * i) + 1)) (k' := 2 * (i + 1)) (l := []) (by omega)) [2] [] 134 fun _ _ => ?_
    exact ag120 _ _ (⟨i + 1, (insS shopF s (cutVs ((ops.getD i dOp).vs) (min 6 ((ops.getD i dOp).vs).length))), s3, q3, q4⟩) (by first | omega | (simp only; omega)) (by dsimp only; exact ⟨by omega, by omega, by omega, by omega⟩) [0, 5, 1, 6, 7, 3] (by kernel_rfl) (by kernel_rfl)
  ·refine g0 good fun _ => ?_
   refine cdE good ((ops.getD i dOp).kind) 1 (fun h5 => ?_) (fun h5 => ?_)
   ·refine go good (fun _ => (o1 (rfl : (q122 132) = (q122 132)))) fun _ => ?_
    refine cl good (wdel_all (q := q109) (F := shopF) (s := s) (k := (2 * i)) (id := (ops.getD i dOp).id) (by omega) (by omega)) [3] [(1, 102)] 134 fun _ _ => ?_
    refine go good (fun _ => (o1 (rfl : (q122 132) = (q122 132)))) fun _ => ?_
    refine cl good (ddel1 (q := (q113 108)) (F := shopF) (s := s) (id := (ops.getD i dOp).id)) [5] [(1, 108)] 134 fun _ _ => ?_
    refine g0 good fun _ => ?_
    refine cdF good (b := !((s.is ((ops.getD i dOp).id)) == (s.is ((ops.getD i dOp).id)))) (by simp) ?_
    refine g0 good fun _ => ?_
    refine cdE good (i : Int) 10 (fun h9 => ?_) (fun h9 => ?_)
    ·refine g0 good fun _ => ?_
     refine cl good (wcopy_all (q := q109) (F := shopF) (s := (delS s ((ops.getD i dOp).id))) (k := ((2 * i) + 2)) (by omega) (by omega)) [1] [(1, 102), (11, 134)] 135 (fun r154 _ => ?_)
     refine g0 good fun _ => ?_
     refine cl good (dcopy1 (q := (q113 108)) (F := shopF) (s := (delS s ((ops.getD i dOp).id)))) [2] [(1, 108), (11, 135)] 136 (fun r156 _ => ?_)
     refine g0 good fun _ => ?_
     refine go good (fun _ => (o2 (by omega : -9223372036854775808 <= (i : Int) + 1) (by omega : (i : Int) + 1 < 9223372036854775808))) fun _ => ?_
     refine gh (tab_mono (q := q109) (F := shopF) (s := (delS s ((ops.getD i dOp).id))) (k := ((2 * i) + 2)) (k' := 2 * (i + 1)) (l := []) (by omega)) [2] [] 136 fun _ _ => ?_
     refine gh (tab_mono (q := r154) (F := shopF) (s := (delS s ((ops.getD i dOp).id))) (k := ((2 * i) + 2)) (k' := 100) (l := []) (by omega)) [3] [] 136 fun _ _ => ?_
     exact ag120 _ _ (⟨i + 1, (delS s ((ops.getD i dOp).id)), (delS s ((ops.getD i dOp).id)), r154, r156⟩) (by first | omega | (simp only; omega)) (by dsimp only; exact ⟨by omega, by omega, by omega, by omega⟩) [1, 0, 3, 2, 9, 4] (by kernel_rfl) (by kernel_rfl)
    ·refine go good (fun _ => (o2 (by omega : -9223372036854775808 <= (i : Int) + 1) (by omega : (i : Int) + 1 < 9223372036854775808))) fun _ => ?_
     refine gh (tab_mono (q := q109) (F := shopF) (s := (delS s ((ops.getD i dOp).id))) (k := ((2 * i) + 2)) (k' := 2 * (i + 1)) (l := []) (by omega)) [1] [] 134 fun _ _ => ?_
     exact ag120 _ _ (⟨i + 1, (delS s ((ops.getD i dOp).id)), s3, q3, q4⟩) (by first | omega | (simp only; omega)) (by dsimp only; exact ⟨by omega, by omega, by omega, by omega⟩) [0, 5, 1, 6, 7, 2] (by kernel_rfl) (by kernel_rfl)
   ·refine g0 good fun _ => ?_
    refine cdE good (((cutVs ((ops.getD i dOp).vs) (min 6 ((ops.getD i dOp).vs).length)).length : Nat) : Int) 0 (fun h7 => ?_) (fun h7 => ?_)
    ·refine go good (fun _ => (o2 (by omega : -9223372036854775808 <= (i : Int) + 1) (by omega : (i : Int) + 1 < 9223372036854775808))) fun _ => ?_
     refine gh (tab_mono (q := q109) (F := shopF) (s := s) (k := (2 * i)) (k' := 2 * (i + 1)) (l := []) (by omega)) [3] [] 134 fun _ _ => ?_
     exact ag120 _ _ (⟨i + 1, s, s3, q3, q4⟩) (by first | omega | (simp only; omega)) (by dsimp only; exact ⟨by omega, by omega, by omega, by omega⟩) [0, 4, 5, 6, 7, 1] (by kernel_rfl) (by kernel_rfl)
    ·refine go good (fun _ => (o6 (rfl : (q122 132) = (q122 132)) (by omega : (0 : Int) <= 0) (by omega : (0 : Int) < (((cutVs ((ops.getD i dOp).vs) (min 6 ((ops.getD i dOp).vs).length)).length : Nat) : Int)) (zfe (by omega) : (cutVs ((ops.getD i dOp).vs) (min 6 ((ops.getD i dOp).vs).length)).isEmpty = false) (rfl : qv = _) (by omega : 0 < (cutVs ((ops.getD i dOp).vs) (min 6 ((ops.getD i dOp).vs).length)).length))) fun _ => ?_
     refine cl good (wset_all (q := q109) (F := shopF) (s := s) (k := (2 * i)) (id := (ops.getD i dOp).id) (sn := (cutS ((ops.getD i dOp).col) 20)) (v := ((cutVs ((ops.getD i dOp).vs) (min 6 ((ops.getD i dOp).vs).length)).getD 0 eV.d)) (by omega) (hcs 0 (by omega))) [3] [(1, 102)] 134 fun _ _ => ?_
     refine go good (fun _ => (o6 (rfl : (q122 132) = (q122 132)) (by omega : (0 : Int) <= 0) (by omega : (0 : Int) < (((cutVs ((ops.getD i dOp).vs) (min 6 ((ops.getD i dOp).vs).length)).length : Nat) : Int)) (zfe (by omega) : (cutVs ((ops.getD i dOp).vs) (min 6 ((ops.getD i dOp).vs).length)).isEmpty = false) (rfl : qv = _) (by omega : 0 < (cutVs ((ops.getD i dOp).vs) (min 6 ((ops.getD i dOp).vs).length)).length))) fun _ => ?_
     refine cl good (dset1 (q := (q113 108)) (F := shopF) (s := s) (id := (ops.getD i dOp).id) (sn := (cutS ((ops.getD i dOp).col) 20)) (v := ((cutVs ((ops.getD i dOp).vs) (min 6 ((ops.getD i dOp).vs).length)).getD 0 eV.d)) (hcs 0 (by omega))) [5] [(1, 108)] 134 fun _ _ => ?_
     refine g0 good fun _ => ?_
     refine cdF good (b := (setE shopF s ((ops.getD i dOp).id) (cutS ((ops.getD i dOp).col) 20) ((cutVs ((ops.getD i dOp).vs) (min 6 ((ops.getD i dOp).vs).length)).getD 0 eV.d) != setE shopF s ((ops.getD i dOp).id) (cutS ((ops.getD i dOp).col) 20) ((cutVs ((ops.getD i dOp).vs) (min 6 ((ops.getD i dOp).vs).length)).getD 0 eV.d))) (by simp) ?_
     refine g0 good fun _ => ?_
     refine cdE good (i : Int) 10 (fun h9 => ?_) (fun h9 => ?_)
     ·refine g0 good fun _ => ?_
      refine cl good (wcopy_all (q := q109) (F := shopF) (s := (setS shopF s ((ops.getD i dOp).id) (cutS ((ops.getD i dOp).col) 20) ((cutVs ((ops.getD i dOp).vs) (min 6 ((ops.getD i dOp).vs).length)).getD 0 eV.d))) (k := ((2 * i) + 2)) (by omega) (by omega)) [1] [(1, 102), (11, 134)] 135 (fun r169 _ => ?_)
      refine g0 good fun _ => ?_
      refine cl good (dcopy1 (q := (q113 108)) (F := shopF) (s := (setS shopF s ((ops.getD i dOp).id) (cutS ((ops.getD i dOp).col) 20) ((cutVs ((ops.getD i dOp).vs) (min 6 ((ops.getD i dOp).vs).length)).getD 0 eV.d)))) [2] [(1, 108), (11, 135)] 136 (fun r171 _ => ?_)
      refine g0 good fun _ => ?_
      refine go good (fun _ => (o2 (by omega : -9223372036854775808 <= (i : Int) + 1) (by omega : (i : Int) + 1 < 9223372036854775808))) fun _ => ?_
      refine gh (tab_mono (q := q109) (F := shopF) (s := (setS shopF s ((ops.getD i dOp).id) (cutS ((ops.getD i dOp).col) 20) ((cutVs ((ops.getD i dOp).vs) (min 6 ((ops.getD i dOp).vs).length)).getD 0 eV.d))) (k := ((2 * i) + 2)) (k' := 2 * (i + 1)) (l := []) (by omega)) [2] [] 136 fun _ _ => ?_
      refine gh (tab_mono (q := r169) (F := shopF) (s := (setS shopF s ((ops.getD i dOp).id) (cutS ((ops.getD i dOp).col) 20) ((cutVs ((ops.getD i dOp).vs) (min 6 ((ops.getD i dOp).vs).length)).getD 0 eV.d))) (k := ((2 * i) + 2)) (k' := 100) (l := []) (by omega)) [3] [] 136 fun _ _ => ?_
      exact ag120 _ _ (⟨i + 1, (setS shopF s ((ops.getD i dOp).id) (cutS ((ops.getD i dOp).col) 20) ((cutVs ((ops.getD i dOp).vs) (min 6 ((ops.getD i dOp).vs).length)).getD 0 eV.d)), (setS shopF s ((ops.getD i dOp).id) (cutS ((ops.getD i dOp).col) 20) ((cutVs ((ops.getD i dOp).vs) (min 6 ((ops.getD i dOp).vs).length)).getD 0 eV.d)), r169, r171⟩) (by first | omega | (simp only; omega)) (by dsimp only; exact ⟨by omega, by omega, by omega, by omega⟩) [1, 0, 3, 2, 9, 4] (by kernel_rfl) (by kernel_rfl)
     ·refine go good (fun _ => (o2 (by omega : -9223372036854775808 <= (i : Int) + 1) (by omega : (i : Int) + 1 < 9223372036854775808))) fun _ => ?_
      refine gh (tab_mono (q := q109) (F := shopF) (s := (setS shopF s ((ops.getD i dOp).id) (cutS ((ops.getD i dOp).col) 20) ((cutVs ((ops.getD i dOp).vs) (min 6 ((ops.getD i dOp).vs).length)).getD 0 eV.d))) (k := ((2 * i) + 2)) (k' := 2 * (i + 1)) (l := []) (by omega)) [1] [] 134 fun _ _ => ?_
      exact ag120 _ _ (⟨i + 1, (setS shopF s ((ops.getD i dOp).id) (cutS ((ops.getD i dOp).col) 20) ((cutVs ((ops.getD i dOp).vs) (min 6 ((ops.getD i dOp).vs).length)).getD 0 eV.d)), s3, q3, q4⟩) (by first | omega | (simp only; omega)) (by dsimp only; exact ⟨by omega, by omega, by omega, by omega⟩) [0, 5, 1, 6, 7, 2] (by kernel_rfl) (by kernel_rfl)
 ·have h2 : ¬ (((i : Int) < (ops.length : Int)) /\ ((i : Int) < 40)) := by simpa using h2
  refine g0 good fun _ => ?_
  refine cl good (cut_ctr (s := col) (n := 20)) [] [] 132 fun _ _ => ?_
  refine cl good (dsame1 (qt := q109) (q := (q113 108)) (F := shopF) (s := s) (k := (2 * i)) (ask := ask) (col := (cutS col 20)) shopF_uniq (by omega) (by omega)) [2, 0] [(7, 102), (1, 108)] 132 fun _ _ => ?_
  refine g0 good fun _ => ?_
  refine cl good (cut_ctr (s := col) (n := 20)) [] [] 132 fun _ _ => ?_
  refine cl good (dsame1 (qt := q3) (q := q4) (F := shopF) (s := s3) (k := 100) (ask := ask) (col := (cutS col 20)) shopF_uniq (by decide) (by omega)) [3, 2] [(7, 11), (1, 12)] 132 fun _ _ => ?_
  refine g0 good fun _ => ?_
  exact rt trivial (()) trivial [4, 5]
end Go.Proofs.YthkoolfmealabaaGreat
