/-
  Ug.
-/
import Derived.Test.YthkoolfmealabaaGreatN28
import Derived.Test.YthkoolfmealabaaGreatN27
namespace Go.Proofs.YthkoolfmealabaaGreat
set_option maxHeartbeats 4000000
open Go.Abs
variable {nO : Nat}
set_option maxRecDepth 100000
attribute [local irreducible] GP ruP nxP acS gst cdP loP invS ent1 ent2 enP caA resV lgP agN
theorem vc_re {α : Type} {E : En α} {g q : Nat} {xs ys : List α} {t : TypeId} {m : Md} {z z' : Bool} (h : xs.map E.f = ys.map E.f) (hz : z = z') : [vc E g q xs t m z].map Ch.den = [vc E g q ys t m z'].map Ch.den := by
 subst hz
 have e : vcells E.f xs = vcells E.f ys := by
  have k : ∀ l : List α, vcells E.f l = vcells (fun c : List C1 => c) (l.map E.f) := fun l => by unfold vcells; rw [List.flatMap_map]
  rw [k, k, h]
 have hn : xs = [] ↔ ys = [] := by rw [<- List.map_eq_nil_iff (f := E.f), h, List.map_eq_nil_iff]
 unfold vc
 simp only [List.map_cons, List.map_nil, List.cons.injEq, and_true]
 cases z with
 | true => show As.pure (xs = []) = As.pure (ys = []); rw [propext hn]
 | false => show As.guard _ (blkA q (vcells E.f xs) t m) = As.guard _ (blkA q (vcells E.f ys) t m); rw [e]
theorem map_put {α β : Type} {f : α -> β} {xs : List α} {t : Nat} {d y : α} (ht : t < xs.length) (h : f y = f (xs.getD t d)) : xs.map f = (xs.set t y).map f := by
 apply List.ext_getElem
 ·simp
 ·intro m h1 h2
  rw [List.getElem_map, List.getElem_map, List.getElem_set]
  split
  ·rename_i e; subst e; rw [h, getD_at ht]
  ·rfl
theorem emp_put {α : Type} {xs : List α} {t : Nat} {y : α} : xs.isEmpty = (xs.set t y).isEmpty := by cases xs <;> cases t <;> rfl
theorem nx_at {xs : List Xr} {t : Nat} (h : t < xs.length) : (xs.map fun x => (x.n : Int)).getD t eI.d = ((xs.getD t dXr).n : Int) := by
 rw [getD_at (by simpa using h), getD_at h, List.getElem_map]
def Xr.ins (x : Xr) (qr q : Nat) (vs : List Va) : Xr := { x with qr := qr, ws := x.ws ++ [(q, (x.n, vs))], n := x.n + 1 }
theorem nx_set {xs : List Xr} {t : Nat} {y : Xr} (h : t < xs.length) (e : y.n = (xs.getD t dXr).n + 1) : (xs.map fun x => (x.n : Int)).set t ((xs.map fun x => (x.n : Int)).getD t eI.d + 1) = (xs.set t y).map fun x => (x.n : Int) := by
 rw [nx_at h, List.map_set, e]; rfl
theorem rinsF_ctr {q qS qR qN : Nat} {xs : List Xr} {mS mR mN : Md} {t qv cv : Nat} {zv : Bool} {vs : List Va} {tv : TypeId} {mv : Md} (ht : t < xs.length) (hx : xP (xs.getD t dXr)) (hzv : zv = true -> vs.length = 0) (hlv : vs.length < 1000000) (hvl : vs.length ≠ (xs.getD t dXr).F.xa.length) : Ctr Tryz.prog nO 28 [.o (.p 1 q 0 0 0), .o (.v (.int .i64 (t : Int))), .o (.s 6 qv 3 0 vs.length cv zv)] [.blk 1 q [.s 2 qS 4 0 xs.length xs.length xs.isEmpty, .s 3 qR 1 0 xs.length xs.length xs.isEmpty, .s 4 qN 1 0 xs.length xs.length xs.isEmpty] 66 .own, vc eTb 2 qS xs 31 mS xs.isEmpty, vc eRs 3 qR xs 96 mR xs.isEmpty, vc eI 4 qN (xs.map fun x : Xr => (x.n : Int)) 3 mN xs.isEmpty, .as (bigA xA xs), vc eV 6 qv vs tv mv zv] (Unit) (fun _ => True) (fun r => .t [(false, [.v (.int .i64 0)]), (false, [.v (.int .i64 1)])]) (fun r => [.blk 1 q [.s 2 qS 4 0 xs.length xs.length xs.isEmpty, .s 3 qR 1 0 xs.length xs.length xs.isEmpty, .s 4 qN 1 0 xs.length xs.length xs.isEmpty] 66 .own, vc eTb 2 qS xs 31 mS xs.isEmpty, vc eRs 3 qR xs 96 mR xs.isEmpty, vc eI 4 qN (xs.map fun x : Xr => (x.n : Int)) 3 mN xs.isEmpty, .as (bigA xA xs), vc eV 6 qv vs tv mv zv]) := by
 refine fs good 100 (fun B => ?_)
 have hwl := hx.wl
 have hnl : (xs.map fun x : Xr => (x.n : Int)).length = xs.length := List.length_map ..
 have hnx := nx_at (xs := xs) (t := t) (by omega)
 have hza := hx.za
 have hfl := hx.fm.xl
 refine gh (big_out (I := xA) (l := xs) t dXr (by omega)) [4] [] 100 fun _ _ => ?_
 refine gh (ge_un (l := xL (xs.getD t dXr))) [0] [] 100 fun _ _ => ?_
 refine g0 good fun _ => ?_
 refine go good (fun _ => (o6 (rfl : q = _) (nz t) (by omega : (t : Int) < (xs.length : Int)) (zfe (by omega) : xs.isEmpty = false) (rfl : qS = _) (by omega : t < xs.length))) fun _ => ?_
 refine cdT good (b := ((vs.length : Int) != (((xs.getD t dXr).F.xa.length : Nat) : Int))) (bne_iff_ne.2 (by omega)) ?_
 refine g0 good fun _ => ?_
 refine gh (ge_all (l := xL (xs.getD t dXr))) [0, 1, 2, 3, 4] [] 100 fun _ _ => ?_
 refine gh (big_bk (I := xA) (l := xs) t dXr (by omega)) [0, 1] [] 100 fun _ _ => ?_
 exact rt trivial (()) trivial [1, 2, 3, 4, 0, 5]
theorem rinsT_ctr {q qS qR qN : Nat} {xs : List Xr} {mS mR mN : Md} {t qv cv : Nat} {zv : Bool} {vs : List Va} {tv : TypeId} {mv : Md} {c : Nat} (ht : t < xs.length) (hx : xP (xs.getD t dXr)) (hzv : zv = true -> vs.length = 0) (hlv : vs.length < 1000000) (hvl : vs.length = (xs.getD t dXr).F.xa.length) (hc1 : c < vs.length) (hc2 : colOk (xs.getD t dXr).F.xa c (vs.getD c eV.d) = false) (hc3 : ∀ i, i < c -> colOk (xs.getD t dXr).F.xa i (vs.getD i eV.d) = true) (hsz : ∀ i, i < vs.length -> (vs.getD i eV.d).s.size < 1000000000) : Ctr Tryz.prog nO 28 [.o (.p 1 q 0 0 0), .o (.v (.int .i64 (t : Int))), .o (.s 6 qv 3 0 vs.length cv zv)] [.blk 1 q [.s 2 qS 4 0 xs.length xs.length xs.isEmpty, .s 3 qR 1 0 xs.length xs.length xs.isEmpty, .s 4 qN 1 0 xs.length xs.length xs.isEmpty] 66 .own, vc eTb 2 qS xs 31 mS xs.isEmpty, vc eRs 3 qR xs 96 mR xs.isEmpty, vc eI 4 qN (xs.map fun x : Xr => (x.n : Int)) 3 mN xs.isEmpty, .as (bigA xA xs), vc eV 6 qv vs tv mv zv] (Unit) (fun _ => True) (fun r => .t [(false, [.v (.int .i64 0)]), (false, [.v (.int .i64 4)])]) (fun r => [.blk 1 q [.s 2 qS 4 0 xs.length xs.length xs.isEmpty, .s 3 qR 1 0 xs.length xs.length xs.isEmpty, .s 4 qN 1 0 xs.length xs.length xs.isEmpty] 66 .own, vc eTb 2 qS xs 31 mS xs.isEmpty, vc eRs 3 qR xs 96 mR xs.isEmpty, vc eI 4 qN (xs.map fun x : Xr => (x.n : Int)) 3 mN xs.isEmpty, .as (bigA xA xs), vc eV 6 qv vs tv mv zv]) := by
 refine fs good 100 (fun B => ?_)
 have hwl := hx.wl
 have hnl : (xs.map fun x : Xr => (x.n : Int)).length = xs.length := List.length_map ..
 have hnx := nx_at (xs := xs) (t := t) (by omega)
 have hza := hx.za
 have hfl := hx.fm.xl
 refine gh (big_out (I := xA) (l := xs) t dXr (by omega)) [4] [] 100 fun _ _ => ?_
 refine gh (ge_un (l := xL (xs.getD t dXr))) [0] [] 100 fun _ _ => ?_
 refine g0 good fun _ => ?_
 refine go good (fun _ => (o6 (rfl : q = _) (nz t) (by omega : (t : Int) < (xs.length : Int)) (zfe (by omega) : xs.isEmpty = false) (rfl : qS = _) (by omega : t < xs.length))) fun _ => ?_
 refine cdF good (b := ((vs.length : Int) != (((xs.getD t dXr).F.xa.length : Nat) : Int))) (bne_eq_false_iff_eq.2 (by omega)) ?_
 refine g0 good fun _ => ?_
 refine lp good ((Nat)) [0, 1, 2] (fun r => [(8, .o (.v (.int .i64 (r : Int))))]) [0, 1, 2, 3, 4, 5, 6, 7, 8, 9, 10] (fun _ => []) 120 (fun r => r <= c) (fun r => vs.length - r) (0) (Nat.zero_le _) [] (fun i hx ag104 => ?_)
 refine g0 good fun _ => ?_
 refine cdT good (b := decide ((i : Int) < (vs.length : Int))) (decide_eq_true (by omega)) ?_
 refine go good (fun _ => (oc (nz i) (by omega : (i : Int) < (vs.length : Int)) (zf hzv (show 0 < vs.length by omega) : zv = false) (rfl : qv = _) (by omega : i < vs.length) (rfl : q = _) (oc (nz t) (by omega : (t : Int) < (xs.length : Int)) (zfe (by omega) : xs.isEmpty = false) (rfl : qS = _) (by omega : t < xs.length) (nz i) (o4 (by omega : (i : Int) < (((xs.getD t dXr).F.xa.length : Nat) : Int)) (zf hza (show 0 < (xs.getD t dXr).F.xa.length by omega) : (xs.getD t dXr).za = false) (rfl : (xs.getD t dXr).qa = (xs.getD t dXr).qa) (by omega : i < ((xs.getD t dXr).F.xa).length))))) fun _ => ?_
 refine cl good (typed_ctr (v := (vs.getD i eV.d)) (c := (((xs.getD t dXr).F.xa).getD i eC.d)) (hsz i (by omega))) [] [] 120 fun _ _ => ?_
 refine g0 good fun _ => ?_
 refine cd good (!(and (vOk (vs.getD i eV.d)) (or ((vs.getD i eV.d).k == 0) ((vs.getD i eV.d).k == (((xs.getD t dXr).F.xa).getD i eC.d).kind)))) (fun h3 => ?_) (fun h3 => ?_)
 ·refine g0 good fun _ => ?_
  refine gh (ge_all (l := xL (xs.getD t dXr))) [0, 1, 2, 3, 4] [] 120 fun _ _ => ?_
  refine gh (big_bk (I := xA) (l := xs) t dXr (by omega)) [0, 1] [] 120 fun _ _ => ?_
  exact rt trivial (()) trivial [1, 2, 3, 4, 0, 5]
 ·refine go good (fun _ => (o2 (by omega : -9223372036854775808 <= (i : Int) + 1) (by omega : (i : Int) + 1 < 9223372036854775808))) fun _ => ?_
  exact ag104 _ _ (i + 1) (by first | omega | (simp only; omega)) ((Nat.lt_or_ge i c).elim (fun h => by omega) (fun h => absurd h3 (by have e : i = c := (by omega); subst e; rw [Bool.and_comm]; unfold colOk at hc2; rw [hc2]; decide))) [0, 1, 2, 3, 4, 5, 6, 7, 8, 9, 10] (by kernel_rfl) (by kernel_rfl)
theorem rins_ctr {q qS qR qN : Nat} {xs : List Xr} {mS mR mN : Md} {t qv cv : Nat} {zv : Bool} {vs : List Va} {tv : TypeId} {mv : Md} (ht : t < xs.length) (hx : xP (xs.getD t dXr)) (hzv : zv = true -> vs.length = 0) (hlv : vs.length < 1000000) (hvl : vs.length = (xs.getD t dXr).F.xa.length) (hok : ∀ i, i < vs.length -> colOk (xs.getD t dXr).F.xa i (vs.getD i eV.d) = true) (hsz : ∀ i, i < vs.length -> (vs.getD i eV.d).s.size < 1000000000) (hn : (xs.getD t dXr).n < 1000000) (hmR : mR.mine = true) (hmN : mN.mine = true) : Ctr Tryz.prog nO 28 [.o (.p 1 q 0 0 0), .o (.v (.int .i64 (t : Int))), .o (.s 6 qv 3 0 vs.length cv zv)] [.blk 1 q [.s 2 qS 4 0 xs.length xs.length xs.isEmpty, .s 3 qR 1 0 xs.length xs.length xs.isEmpty, .s 4 qN 1 0 xs.length xs.length xs.isEmpty] 66 .own, vc eTb 2 qS xs 31 mS xs.isEmpty, vc eRs 3 qR xs 96 mR xs.isEmpty, vc eI 4 qN (xs.map fun x : Xr => (x.n : Int)) 3 mN xs.isEmpty, .as (bigA xA xs), vc eV 6 qv vs tv mv zv] ((Nat) × (Nat)) (fun _ => True) (fun r => .t [(false, [.v (.int .i64 ((xs.getD t dXr).n : Int))]), (false, [.v (.int .i64 0)])]) (fun r => [.blk 1 q [.s 2 qS 4 0 ((xs.set t ((xs.getD t dXr).ins r.1 r.2 vs)).length) ((xs.set t ((xs.getD t dXr).ins r.1 r.2 vs)).length) ((xs.set t ((xs.getD t dXr).ins r.1 r.2 vs)).isEmpty), .s 3 qR 1 0 ((xs.set t ((xs.getD t dXr).ins r.1 r.2 vs)).length) ((xs.set t ((xs.getD t dXr).ins r.1 r.2 vs)).length) ((xs.set t ((xs.getD t dXr).ins r.1 r.2 vs)).isEmpty), .s 4 qN 1 0 ((xs.set t ((xs.getD t dXr).ins r.1 r.2 vs)).length) ((xs.set t ((xs.getD t dXr).ins r.1 r.2 vs)).length) ((xs.set t ((xs.getD t dXr).ins r.1 r.2 vs)).isEmpty)] 66 .own, vc eTb 2 qS (xs.set t ((xs.getD t dXr).ins r.1 r.2 vs)) 31 mS ((xs.set t ((xs.getD t dXr).ins r.1 r.2 vs)).isEmpty), vc eRs 3 qR (xs.set t ((xs.getD t dXr).ins r.1 r.2 vs)) 96 mR ((xs.set t ((xs.getD t dXr).ins r.1 r.2 vs)).isEmpty), vc eI 4 qN ((xs.set t ((xs.getD t dXr).ins r.1 r.2 vs)).map fun x : Xr => (x.n : Int)) 3 mN ((xs.set t ((xs.getD t dXr).ins r.1 r.2 vs)).isEmpty), .as (bigA xA (xs.set t ((xs.getD t dXr).ins r.1 r.2 vs))), vc eV 6 qv vs tv mv zv]) := by
 refine fs good 100 (fun B => ?_)
 have hwl := hx.wl
 have hnl : (xs.map fun x : Xr => (x.n : Int)).length = xs.length := List.length_map ..
 have hnx := nx_at (xs := xs) (t := t) (by omega)
 have hza := hx.za
 have hfl := hx.fm.xl
 refine gh (big_out (I := xA) (l := xs) t dXr (by omega)) [4] [] 100 fun _ _ => ?_
 refine gh (ge_un (l := xL (xs.getD t dXr))) [0] [] 100 fun _ _ => ?_
 refine g0 good fun _ => ?_
 refine go good (fun _ => (o6 (rfl : q = _) (nz t) (by omega : (t : Int) < (xs.length : Int)) (zfe (by omega) : xs.isEmpty = false) (rfl : qS = _) (by omega : t < xs.length))) fun _ => ?_
 refine cdF good (b := ((vs.length : Int) != (((xs.getD t dXr).F.xa.length : Nat) : Int))) (bne_eq_false_iff_eq.2 (by omega)) ?_
 refine g0 good fun _ => ?_
 refine lp good ((Nat)) [0, 1, 2] (fun r => [(8, .o (.v (.int .i64 (r : Int))))]) [0, 1, 2, 3, 4, 5, 6, 7, 8, 9, 10] (fun _ => []) 120 (fun r => r <= vs.length) (fun r => vs.length - r) (0) (Nat.zero_le _) [] (fun i hx ag104 => ?_)
 refine g0 good fun _ => ?_
 refine cdD good ((i : Int) < (vs.length : Int)) (fun h2 => ?_) (fun h2 => ?_)
 ·refine go good (fun _ => (oc (nz i) (by omega : (i : Int) < (vs.length : Int)) (zf hzv (show 0 < vs.length by omega) : zv = false) (rfl : qv = _) (by omega : i < vs.length) (rfl : q = _) (oc (nz t) (by omega : (t : Int) < (xs.length : Int)) (zfe (by omega) : xs.isEmpty = false) (rfl : qS = _) (by omega : t < xs.length) (nz i) (o4 (by omega : (i : Int) < (((xs.getD t dXr).F.xa.length : Nat) : Int)) (zf hza (show 0 < (xs.getD t dXr).F.xa.length by omega) : (xs.getD t dXr).za = false) (rfl : (xs.getD t dXr).qa = (xs.getD t dXr).qa) (by omega : i < ((xs.getD t dXr).F.xa).length))))) fun _ => ?_
  refine cl good (typed_ctr (v := (vs.getD i eV.d)) (c := (((xs.getD t dXr).F.xa).getD i eC.d)) (hsz i (by omega))) [] [] 120 fun _ _ => ?_
  refine g0 good fun _ => ?_
  refine cdF good (b := !(and (vOk (vs.getD i eV.d)) (or ((vs.getD i eV.d).k == 0) ((vs.getD i eV.d).k == (((xs.getD t dXr).F.xa).getD i eC.d).kind)))) (by rw [Bool.and_comm]; have := hok i (by omega); unfold colOk at this; rw [this]; rfl) ?_
  refine go good (fun _ => (o2 (by omega : -9223372036854775808 <= (i : Int) + 1) (by omega : (i : Int) + 1 < 9223372036854775808))) fun _ => ?_
  exact ag104 _ _ (i + 1) (by first | omega | (simp only; omega)) (by omega) [0, 1, 2, 3, 4, 5, 6, 7, 8, 9, 10] (by kernel_rfl) (by kernel_rfl)
 ·refine go good (fun _ => (o6 (rfl : q = _) (nz t) (by omega : (t : Int) < (xs.length : Int)) (zfe (by omega) : xs.isEmpty = false) (rfl : qN = _) (by omega : t < (xs.map fun x : Xr => (x.n : Int)).length))) fun _ => ?_
  refine sv 9 (v := .o (.v (.int .i64 ((xs.map fun x : Xr => (x.n : Int)).getD t eI.d)))) (v' := .o (.v (.int .i64 ((xs.getD t dXr).n : Int)))) (congrArg (fun n => Value.int .i64 n) hnx) ?_
  refine go good (fun _ => (oc (rfl : q = _) (nz t) (by omega : (t : Int) < (xs.length : Int)) (zfe (by omega) : xs.isEmpty = false) (rfl : qN = _) (by omega : t < (xs.map fun x : Xr => (x.n : Int)).length) (o5 (by omega : -9223372036854775808 <= ((xs.map fun x : Xr => (x.n : Int)).getD t eI.d) + 1) (by omega : ((xs.map fun x : Xr => (x.n : Int)).getD t eI.d) + 1 < 9223372036854775808) (nz t) (by omega : (t : Int) < (xs.length : Int)) (zfe (by omega) : xs.isEmpty = false)))) fun _ => ?_
  refine vst good eI (xs.map fun x : Xr => (x.n : Int)) (((xs.map fun x : Xr => (x.n : Int)).getD t eI.d) + 1) ((xs.map fun x : Xr => (x.n : Int)).set t (((xs.map fun x : Xr => (x.n : Int)).getD t eI.d) + 1)) 4 4 qN t 0 3 mN xs.isEmpty [.v (.int .i64 (((xs.map fun x : Xr => (x.n : Int)).getD t eI.d) + 1))] [9] (by omega) (zfe (by omega)) rfl (Nat.le_of_ble_eq_true rfl) rfl ?_ (hm := hmN)
  refine go good (fun _ => (oc (rfl : q = _) (rfl : q = _) (nz t) (by omega : (t : Int) < (xs.length : Int)) (zfe (by omega) : xs.isEmpty = false) (rfl : qR = _) (o1 (by omega : t < xs.length)))) fun _ => ?_
  refine gh (nil_vec 120 3 eV.f eV.d 38 .grown) [] [] 121 fun _ _ => ?_
  refine apd good eV [] vs vs 120 0 .grown true vs.isEmpty (vc eV 6 qv vs tv mv zv) qv 0 vs.length cv zv 121 [0, 11] 122 38 (fun h => by cases h) (by simp only [List.length_cons, List.length_nil]; omega) src_vec (by simp) rfl (fun q113 => ?_)
  refine go good (fun q114 => (o3 (rfl : [C1.v (.int .i64 ((xs.getD t dXr).n : Int))].all C1.one = true) (rfl : [C1.s 121 q113 3 0 vs.length vs.length vs.isEmpty].all C1.one = true) (rfl : [C1.v (.int .i64 ((xs.getD t dXr).n : Int)), .s 121 q113 3 0 vs.length vs.length vs.isEmpty].all C1.one = true))) (fun q114 => ?_)
  refine apd good eRw ((xs.getD t dXr).ws) [(q113, (((xs.getD t dXr).n, vs) : Rw))] ((xs.getD t dXr).ws ++ [(q113, (((xs.getD t dXr).n, vs) : Rw))]) 933 ((xs.getD t dXr).qr) .grown ((xs.getD t dXr).ws.isEmpty) (((xs.getD t dXr).ws ++ [(q113, (((xs.getD t dXr).n, vs) : Rw))]).isEmpty) (.blk 122 (q114 122) [.v (.int .i64 ((xs.getD t dXr).n : Int)), .s 121 q113 3 0 vs.length vs.length vs.isEmpty] 98 .own) (q114 122) 0 1 1 false 123 [7, 0] 124 98 (fun h _ => ne_of h) (by simp only [List.length_cons, List.length_nil]; omega) (src_one rfl) (by simp) rfl (fun q115 => ?_)
  refine gh (ge_sh (c := vc eV 121 q113 vs 38 .grown vs.isEmpty) (I := valA (q113, (((xs.getD t dXr).n, vs) : Rw)))) [2] [] 124 fun _ _ => ?_
  refine gh (big_snoc (I := valA) (l := (xs.getD t dXr).ws) (x := (q113, (((xs.getD t dXr).n, vs) : Rw)))) [0, 8] [] 124 fun _ _ => ?_
  refine go good (fun _ => (o3 (nz t) (by omega : (t : Int) < (xs.length : Int)) (zfe (by omega) : xs.isEmpty = false))) fun _ => ?_
  refine vst good eRs xs ((xs.getD t dXr).ins q115 q113 vs) (xs.set t ((xs.getD t dXr).ins q115 q113 vs)) 3 3 qR t 0 96 mR xs.isEmpty [.s 123 q115 2 0 (((xs.getD t dXr).ws ++ [(q113, (((xs.getD t dXr).n, vs) : Rw))]).length) (((xs.getD t dXr).ws ++ [(q113, (((xs.getD t dXr).n, vs) : Rw))]).length) (((xs.getD t dXr).ws ++ [(q113, (((xs.getD t dXr).n, vs) : Rw))]).isEmpty)] [11] (by omega) (zfe (by omega)) rfl (Nat.le_of_ble_eq_true rfl) rfl ?_ (hm := hmR)
  refine g0 good fun _ => ?_
  refine gh (ge_all (l := xL ((xs.getD t dXr).ins q115 q113 vs))) [6, 7, 8, 2, 1] [] 124 fun _ _ => ?_
  refine gh (big_in (I := xA) (l := xs) t dXr ((xs.getD t dXr).ins q115 q113 vs) (by omega)) [0, 5] [] 124 fun _ _ => ?_
  refine gh (ge_re (l := [vc eTb 2 qS xs 31 mS xs.isEmpty]) (l' := [vc eTb 2 qS (xs.set t ((xs.getD t dXr).ins q115 q113 vs)) 31 mS ((xs.set t ((xs.getD t dXr).ins q115 q113 vs)).isEmpty)]) (vc_re (map_put ht rfl) emp_put)) [6] [] 124 fun _ _ => ?_
  refine gh (ge_re (l := [vc eRs 3 qR (xs.set t ((xs.getD t dXr).ins q115 q113 vs)) 96 mR xs.isEmpty]) (l' := [vc eRs 3 qR (xs.set t ((xs.getD t dXr).ins q115 q113 vs)) 96 mR ((xs.set t ((xs.getD t dXr).ins q115 q113 vs)).isEmpty)]) (vc_re rfl emp_put)) [2] [] 124 fun _ _ => ?_
  refine gh (ge_re (l := [vc eI 4 qN ((xs.map fun x : Xr => (x.n : Int)).set t (((xs.map fun x : Xr => (x.n : Int)).getD t eI.d) + 1)) 3 mN xs.isEmpty]) (l' := [vc eI 4 qN ((xs.set t ((xs.getD t dXr).ins q115 q113 vs)).map fun x : Xr => (x.n : Int)) 3 mN ((xs.set t ((xs.getD t dXr).ins q115 q113 vs)).isEmpty)]) (vc_re (congrArg (List.map eI.f) (nx_set ht rfl)) emp_put)) [5] [] 124 fun _ _ => ?_
  refine gh (ge_re (l := [.blk 1 q [.s 2 qS 4 0 xs.length xs.length xs.isEmpty, .s 3 qR 1 0 xs.length xs.length xs.isEmpty, .s 4 qN 1 0 xs.length xs.length xs.isEmpty] 66 .own]) (l' := [.blk 1 q [.s 2 qS 4 0 ((xs.set t ((xs.getD t dXr).ins q115 q113 vs)).length) ((xs.set t ((xs.getD t dXr).ins q115 q113 vs)).length) ((xs.set t ((xs.getD t dXr).ins q115 q113 vs)).isEmpty), .s 3 qR 1 0 ((xs.set t ((xs.getD t dXr).ins q115 q113 vs)).length) ((xs.set t ((xs.getD t dXr).ins q115 q113 vs)).length) ((xs.set t ((xs.getD t dXr).ins q115 q113 vs)).isEmpty), .s 4 qN 1 0 ((xs.set t ((xs.getD t dXr).ins q115 q113 vs)).length) ((xs.set t ((xs.getD t dXr).ins q115 q113 vs)).length) ((xs.set t ((xs.getD t dXr).ins q115 q113 vs)).isEmpty)] 66 .own]) (by rw [List.length_set, <- emp_put])) [6] [] 124 fun _ _ => ?_
  exact rt trivial (⟨q115, q113⟩) trivial [0, 3, 2, 1, 4, 6]
theorem src_restG {α : Type} {E : En α} {all : List α} {g q i : Nat} {t : TypeId} {m : Md} {z : Bool} (hi : i < all.length) : Go.Abs.Src (vc E g q all t m z) q (ofs all.length (i + 1) 0 * E.w) z (vcells E.f (all.drop (i + 1))) := by
 by_cases h : all.length = i + 1
 ·have e : all.drop (i + 1) = [] := by rw [List.drop_eq_nil_of_le (by omega)]
  rw [e]
  intro F A hF
  cases z with
  | true => exact .inl ⟨rfl, by simp [vcells]⟩
  | false =>
   obtain ⟨hw, _, _, fz, _, hb⟩ := hF
   refine .inr ⟨rfl, _, _, _, hb, ?_, ?_⟩
   ·rw [h]
    simp [ofs, vcells]
   ·simp [vcells]
 ·have : ofs all.length (i + 1) 0 = i + 1 := by unfold ofs; rw [if_neg h]
  rw [this]
  have h2 := src_part (E := E) (xs := all) (g := g) (q := q) (t := t) (m := m) (z := z) (a := i + 1) (n := all.length - (i + 1)) (by omega)
  rwa [List.take_of_length_le (by rw [List.length_drop]; omega)] at h2
theorem era_emp {α : Type} {l : List α} {j : Nat} : (l.eraseIdx j).isEmpty = ((l.take j).isEmpty && (l.drop (j + 1)).isEmpty) := by
 rw [List.eraseIdx_eq_take_drop_succ]
 cases l.take j <;> cases l.drop (j + 1) <;> rfl
theorem getD_mem {α : Type} {l : List α} {j : Nat} {d : α} (h : j < l.length) : l.getD j d ∈ l := by rw [getD_at h]; exact List.getElem_mem _
def Xr.del (x : Xr) (qr j : Nat) : Xr := { x with qr := qr, ws := x.ws.eraseIdx j }
def Xr.put (x : Xr) (j c : Nat) (v : Va) : Xr := { x with ws := x.ws.set j ((x.ws.getD j eRw.d).1, ((x.ws.getD j eRw.d).2.1, (x.ws.getD j eRw.d).2.2.set c v)) }
theorem rdelN_ctr {q qS qR qN : Nat} {xs : List Xr} {mR : Md} {t : Nat} {id : Int} (ht : t < xs.length) (hx : xP (xs.getD t dXr)) (hp : (xs.getD t dXr).s.pos id = -1) : Ctr Tryz.prog nO 29 [.o (.p 1 q 0 0 0), .o (.v (.int .i64 (t : Int))), .o (.v (.int .i64 id))] [.blk 1 q [.s 2 qS 4 0 xs.length xs.length xs.isEmpty, .s 3 qR 1 0 xs.length xs.length xs.isEmpty, .s 4 qN 1 0 xs.length xs.length xs.isEmpty] 66 .own, vc eRs 3 qR xs 96 mR xs.isEmpty, .as (bigA xA xs)] (Unit) (fun _ => True) (fun r => .o (.v (.bool false))) (fun r => [.blk 1 q [.s 2 qS 4 0 xs.length xs.length xs.isEmpty, .s 3 qR 1 0 xs.length xs.length xs.isEmpty, .s 4 qN 1 0 xs.length xs.length xs.isEmpty] 66 .own, vc eRs 3 qR xs 96 mR xs.isEmpty, .as (bigA xA xs)]) := by
 refine fs good 100 (fun B => ?_)
 refine g0 good fun _ => ?_
 refine g0 good fun _ => ?_
 refine cl good (dbat_ctr (q := q) (qS := qS) (qR := qR) (qN := qN) (xs := xs) (mR := mR) (t := t) (id := id) (by omega) (by assumption)) [0, 1, 2] [] 100 fun _ _ => ?_
 refine g0 good fun _ => ?_
 refine sv 7 (v := .o (.v (.int .i64 ((xs.getD t dXr).s.pos id)))) (v' := .o (.v (.int .i64 (-1)))) (congrArg (fun n => Value.int .i64 n) hp) ?_
 refine g0 good fun _ => ?_
 refine cdT good (b := decide ((-1) < 0)) (by decide) ?_
 refine g0 good fun _ => ?_
 exact rt trivial (()) trivial [0, 1, 2]
theorem rdel_ctr {q qS qR qN : Nat} {xs : List Xr} {mS mR mN : Md} {t : Nat} {id : Int} {j : Nat} (ht : t < xs.length) (hx : xP (xs.getD t dXr)) (hj : j < (xs.getD t dXr).ws.length) (hp : (xs.getD t dXr).s.pos id = (j : Int)) (hmR : mR.mine = true) : Ctr Tryz.prog nO 29 [.o (.p 1 q 0 0 0), .o (.v (.int .i64 (t : Int))), .o (.v (.int .i64 id))] [.blk 1 q [.s 2 qS 4 0 xs.length xs.length xs.isEmpty, .s 3 qR 1 0 xs.length xs.length xs.isEmpty, .s 4 qN 1 0 xs.length xs.length xs.isEmpty] 66 .own, vc eTb 2 qS xs 31 mS xs.isEmpty, vc eRs 3 qR xs 96 mR xs.isEmpty, vc eI 4 qN (xs.map fun x : Xr => (x.n : Int)) 3 mN xs.isEmpty, .as (bigA xA xs)] ((Nat)) (fun _ => True) (fun r => .o (.v (.bool true))) (fun r => [.blk 1 q [.s 2 qS 4 0 ((xs.set t ((xs.getD t dXr).del r j)).length) ((xs.set t ((xs.getD t dXr).del r j)).length) ((xs.set t ((xs.getD t dXr).del r j)).isEmpty), .s 3 qR 1 0 ((xs.set t ((xs.getD t dXr).del r j)).length) ((xs.set t ((xs.getD t dXr).del r j)).length) ((xs.set t ((xs.getD t dXr).del r j)).isEmpty), .s 4 qN 1 0 ((xs.set t ((xs.getD t dXr).del r j)).length) ((xs.set t ((xs.getD t dXr).del r j)).length) ((xs.set t ((xs.getD t dXr).del r j)).isEmpty)] 66 .own, vc eTb 2 qS (xs.set t ((xs.getD t dXr).del r j)) 31 mS ((xs.set t ((xs.getD t dXr).del r j)).isEmpty), vc eRs 3 qR (xs.set t ((xs.getD t dXr).del r j)) 96 mR ((xs.set t ((xs.getD t dXr).del r j)).isEmpty), vc eI 4 qN ((xs.set t ((xs.getD t dXr).del r j)).map fun x : Xr => (x.n : Int)) 3 mN ((xs.set t ((xs.getD t dXr).del r j)).isEmpty), .as (bigA xA (xs.set t ((xs.getD t dXr).del r j)))]) := by
 refine fs good 100 (fun B => ?_)
 have hwl := hx.wl
 have hnl : (xs.map fun x : Xr => (x.n : Int)).length = xs.length := List.length_map ..
 have hnx := nx_at (xs := xs) (t := t) (by omega)
 have hza := hx.za
 have hfl := hx.fm.xl
 refine g0 good fun _ => ?_
 refine g0 good fun _ => ?_
 refine cl good (dbat_ctr (q := q) (qS := qS) (qR := qR) (qN := qN) (xs := xs) (mR := mR) (t := t) (id := id) (by omega) (by assumption)) [0, 2, 4] [] 100 fun _ _ => ?_
 refine g0 good fun _ => ?_
 refine sv 7 (v := .o (.v (.int .i64 ((xs.getD t dXr).s.pos id)))) (v' := .o (.v (.int .i64 (j : Int)))) (congrArg (fun n => Value.int .i64 n) hp) ?_
 refine g0 good fun _ => ?_
 refine cdF good (b := decide ((j : Int) < 0)) (decide_eq_false (by omega)) ?_
 refine gh (big_out (I := xA) (l := xs) t dXr (by omega)) [2] [] 100 fun _ _ => ?_
 refine gh (ge_un (l := xL (xs.getD t dXr))) [0] [] 100 fun _ _ => ?_
 refine go good (fun _ => (oc (rfl : q = _) (rfl : q = _) (nz t) (by omega : (t : Int) < (xs.length : Int)) (zfe (by omega) : xs.isEmpty = false) (rfl : qR = _) (o6 (by omega : t < xs.length) (rfl : (xs.getD t dXr).qr = (xs.getD t dXr).qr) (rfl : (xs.getD t dXr).ws.isEmpty = (xs.getD t dXr).ws.isEmpty) (by omega : ((xs.getD t dXr).ws.length) <= ((xs.getD t dXr).ws.length)) (nz j) (by omega : (j : Int) <= (((xs.getD t dXr).ws.length : Nat) : Int))))) fun _ => ?_
 refine gh (nil_vec 100 2 eRw.f eRw.d 98 .grown) [] [] 101 fun _ _ => ?_
 refine apd good eRw [] ((xs.getD t dXr).ws.take j) ((xs.getD t dXr).ws.take j) 100 0 .grown true (((xs.getD t dXr).ws.take j).isEmpty) (vc eRw 933 ((xs.getD t dXr).qr) ((xs.getD t dXr).ws) 98 .grown ((xs.getD t dXr).ws.isEmpty)) ((xs.getD t dXr).qr) 0 j ((xs.getD t dXr).ws.length) (xs.getD t dXr).ws.isEmpty 101 [0, 4] 102 98 (fun h => by cases h) (by rw [List.length_take, List.length_nil]; omega) (src_part (a := 0) (n := j) (by omega)) (by simp) rfl (fun q107 => ?_) (hn := (List.length_take_of_le (Nat.le_of_lt hj)).symm)
 refine go good (fun _ => (oc (rfl : q = _) (nz t) (by omega : (t : Int) < (xs.length : Int)) (zfe (by omega) : xs.isEmpty = false) (rfl : qR = _) (by omega : t < xs.length) (oc (by omega : -9223372036854775808 <= (j : Int) + 1) (by omega : (j : Int) + 1 < 9223372036854775808) (rfl : (xs.getD t dXr).qr = (xs.getD t dXr).qr) (rfl : (xs.getD t dXr).ws.isEmpty = (xs.getD t dXr).ws.isEmpty) (by omega : ((xs.getD t dXr).ws.length) <= ((xs.getD t dXr).ws.length)) (by omega : (0 : Int) <= (j : Int) + 1) (o1 (by omega : (j : Int) + 1 <= (((xs.getD t dXr).ws.length : Nat) : Int)))))) fun _ => ?_
 refine apd good eRw ((xs.getD t dXr).ws.take j) ((xs.getD t dXr).ws.drop (j + 1)) ((xs.getD t dXr).ws.eraseIdx j) 101 q107 .grown (((xs.getD t dXr).ws.take j).isEmpty) (((xs.getD t dXr).ws.eraseIdx j).isEmpty) (vc eRw 933 ((xs.getD t dXr).qr) ((xs.getD t dXr).ws) 98 .grown ((xs.getD t dXr).ws.isEmpty)) ((xs.getD t dXr).qr) (ofs (xs.getD t dXr).ws.length (j + 1) 0 * 2) (((xs.getD t dXr).ws.length) - (j + 1)) (((xs.getD t dXr).ws.length) - (j + 1)) (xs.getD t dXr).ws.isEmpty 102 [0, 1] 103 98 (fun h _ => ne_of h) (by rw [List.length_take, List.length_drop]; omega) (src_restG hj) era_emp (List.eraseIdx_eq_take_drop_succ ..) (fun q109 => ?_) (hn := by rw [List.length_drop])
 refine go good (fun _ => (o3 (nz t) (by omega : (t : Int) < (xs.length : Int)) (zfe (by omega) : xs.isEmpty = false))) fun _ => ?_
 refine vst good eRs xs ((xs.getD t dXr).del q109 j) (xs.set t ((xs.getD t dXr).del q109 j)) 3 3 qR t 0 96 mR xs.isEmpty [.s 102 q109 2 0 (((xs.getD t dXr).ws.eraseIdx j).length) (((xs.getD t dXr).ws.eraseIdx j).length) (((xs.getD t dXr).ws.eraseIdx j).isEmpty)] [8] (by omega) (zfe (by omega)) rfl (Nat.le_of_ble_eq_true rfl) rfl ?_ (hm := hmR)
 refine g0 good fun _ => ?_
 refine gh (big_out (I := valA) (l := (xs.getD t dXr).ws) j eRw.d hj) [6] [] 103 fun _ _ => ?_
 refine gh (ge_all (l := xL ((xs.getD t dXr).del q109 j))) [5, 6, 7, 3, 1] [] 103 fun _ _ => ?_
 refine gh (big_in (I := xA) (l := xs) t dXr ((xs.getD t dXr).del q109 j) (by omega)) [0, 4] [] 103 fun _ _ => ?_
 refine gh (ge_re (l := [vc eTb 2 qS xs 31 mS xs.isEmpty]) (l' := [vc eTb 2 qS (xs.set t ((xs.getD t dXr).del q109 j)) 31 mS ((xs.set t ((xs.getD t dXr).del q109 j)).isEmpty)]) (vc_re (map_put ht rfl) emp_put)) [5] [] 103 fun _ _ => ?_
 refine gh (ge_re (l := [vc eRs 3 qR (xs.set t ((xs.getD t dXr).del q109 j)) 96 mR xs.isEmpty]) (l' := [vc eRs 3 qR (xs.set t ((xs.getD t dXr).del q109 j)) 96 mR ((xs.set t ((xs.getD t dXr).del q109 j)).isEmpty)]) (vc_re rfl emp_put)) [3] [] 103 fun _ _ => ?_
 refine gh (ge_re (l := [vc eI 4 qN (xs.map fun x : Xr => (x.n : Int)) 3 mN xs.isEmpty]) (l' := [vc eI 4 qN ((xs.set t ((xs.getD t dXr).del q109 j)).map fun x : Xr => (x.n : Int)) 3 mN ((xs.set t ((xs.getD t dXr).del q109 j)).isEmpty)]) (vc_re (congrArg (List.map eI.f) (map_put ht rfl)) emp_put)) [6] [] 103 fun _ _ => ?_
 refine gh (ge_re (l := [.blk 1 q [.s 2 qS 4 0 xs.length xs.length xs.isEmpty, .s 3 qR 1 0 xs.length xs.length xs.isEmpty, .s 4 qN 1 0 xs.length xs.length xs.isEmpty] 66 .own]) (l' := [.blk 1 q [.s 2 qS 4 0 ((xs.set t ((xs.getD t dXr).del q109 j)).length) ((xs.set t ((xs.getD t dXr).del q109 j)).length) ((xs.set t ((xs.getD t dXr).del q109 j)).isEmpty), .s 3 qR 1 0 ((xs.set t ((xs.getD t dXr).del q109 j)).length) ((xs.set t ((xs.getD t dXr).del q109 j)).length) ((xs.set t ((xs.getD t dXr).del q109 j)).isEmpty), .s 4 qN 1 0 ((xs.set t ((xs.getD t dXr).del q109 j)).length) ((xs.set t ((xs.getD t dXr).del q109 j)).length) ((xs.set t ((xs.getD t dXr).del q109 j)).isEmpty)] 66 .own]) (by rw [List.length_set, <- emp_put])) [6] [] 103 fun _ _ => ?_
 exact rt trivial (q109) trivial [0, 3, 2, 1, 4]
theorem rsetN_ctr {q qS qR qN : Nat} {xs : List Xr} {mR : Md} {t : Nat} {id : Int} {sn : ByteArray} {v : Va} (ht : t < xs.length) (hx : xP (xs.getD t dXr)) (hp : (xs.getD t dXr).s.pos id = -1) : Ctr Tryz.prog nO 30 [.o (.p 1 q 0 0 0), .o (.v (.int .i64 (t : Int))), .o (.v (.int .i64 id)), .o (.v (.string sn)), .a [.v (.int .i64 v.k), .v (.int .i64 v.n), .v (.string v.s)]] [.blk 1 q [.s 2 qS 4 0 xs.length xs.length xs.isEmpty, .s 3 qR 1 0 xs.length xs.length xs.isEmpty, .s 4 qN 1 0 xs.length xs.length xs.isEmpty] 66 .own, vc eRs 3 qR xs 96 mR xs.isEmpty, .as (bigA xA xs)] (Unit) (fun _ => True) (fun r => .o (.v (.int .i64 6))) (fun r => [.blk 1 q [.s 2 qS 4 0 xs.length xs.length xs.isEmpty, .s 3 qR 1 0 xs.length xs.length xs.isEmpty, .s 4 qN 1 0 xs.length xs.length xs.isEmpty] 66 .own, vc eRs 3 qR xs 96 mR xs.isEmpty, .as (bigA xA xs)]) := by
 refine fs good 100 (fun B => ?_)
 refine go good (fun q101 => (o1 (rfl : [C1.v (.int .i64 v.k), .v (.int .i64 v.n), .v (.string v.s)].all C1.one = true))) (fun q101 => ?_)
 refine g0 good fun _ => ?_
 refine cl good (dbat_ctr (q := q) (qS := qS) (qR := qR) (qN := qN) (xs := xs) (mR := mR) (t := t) (id := id) (by omega) (by assumption)) [1, 2, 3] [] 101 fun _ _ => ?_
 refine g0 good fun _ => ?_
 refine sv 11 (v := .o (.v (.int .i64 ((xs.getD t dXr).s.pos id)))) (v' := .o (.v (.int .i64 (-1)))) (congrArg (fun n => Value.int .i64 n) hp) ?_
 refine g0 good fun _ => ?_
 refine cdT good (b := decide ((-1) < 0)) (by decide) ?_
 refine g0 good fun _ => ?_
 exact rt trivial (()) trivial [0, 1, 2]
theorem rsetC_ctr {q qS qR qN : Nat} {xs : List Xr} {mS mR : Md} {t : Nat} {id : Int} {sn : ByteArray} {v : Va} {j : Nat} (ht : t < xs.length) (hx : xP (xs.getD t dXr)) (hj : j < (xs.getD t dXr).ws.length) (hp : (xs.getD t dXr).s.pos id = (j : Int)) (hc : idxF (xs.getD t dXr).F.xa (fun c => strEq c.name sn) = -1) : Ctr Tryz.prog nO 30 [.o (.p 1 q 0 0 0), .o (.v (.int .i64 (t : Int))), .o (.v (.int .i64 id)), .o (.v (.string sn)), .a [.v (.int .i64 v.k), .v (.int .i64 v.n), .v (.string v.s)]] [.blk 1 q [.s 2 qS 4 0 xs.length xs.length xs.isEmpty, .s 3 qR 1 0 xs.length xs.length xs.isEmpty, .s 4 qN 1 0 xs.length xs.length xs.isEmpty] 66 .own, vc eTb 2 qS xs 31 mS xs.isEmpty, vc eRs 3 qR xs 96 mR xs.isEmpty, .as (bigA xA xs)] (Unit) (fun _ => True) (fun r => .o (.v (.int .i64 3))) (fun r => [.blk 1 q [.s 2 qS 4 0 xs.length xs.length xs.isEmpty, .s 3 qR 1 0 xs.length xs.length xs.isEmpty, .s 4 qN 1 0 xs.length xs.length xs.isEmpty] 66 .own, vc eTb 2 qS xs 31 mS xs.isEmpty, vc eRs 3 qR xs 96 mR xs.isEmpty, .as (bigA xA xs)]) := by
 refine fs good 100 (fun B => ?_)
 have hwl := hx.wl
 have hza := hx.za
 have hfl := hx.fm.xl
 refine go good (fun q101 => (o1 (rfl : [C1.v (.int .i64 v.k), .v (.int .i64 v.n), .v (.string v.s)].all C1.one = true))) (fun q101 => ?_)
 refine g0 good fun _ => ?_
 refine cl good (dbat_ctr (q := q) (qS := qS) (qR := qR) (qN := qN) (xs := xs) (mR := mR) (t := t) (id := id) (by omega) (by assumption)) [1, 3, 4] [] 101 fun _ _ => ?_
 refine g0 good fun _ => ?_
 refine sv 11 (v := .o (.v (.int .i64 ((xs.getD t dXr).s.pos id)))) (v' := .o (.v (.int .i64 (j : Int)))) (congrArg (fun n => Value.int .i64 n) hp) ?_
 refine g0 good fun _ => ?_
 refine cdF good (b := decide ((j : Int) < 0)) (decide_eq_false (by omega)) ?_
 refine gh (big_out (I := xA) (l := xs) t dXr (by omega)) [2] [] 101 fun _ _ => ?_
 refine gh (ge_un (l := xL (xs.getD t dXr))) [0] [] 101 fun _ _ => ?_
 refine go good (fun _ => (o6 (rfl : q = _) (nz t) (by omega : (t : Int) < (xs.length : Int)) (zfe (by omega) : xs.isEmpty = false) (rfl : qS = _) (by omega : t < xs.length))) fun _ => ?_
 refine cl good (colof_ctr (na := (xs.getD t dXr).F.name) (ka := (xs.getD t dXr).F.key) (qa := (xs.getD t dXr).qa) (ca := (xs.getD t dXr).ca) (za := (xs.getD t dXr).za) (xa := (xs.getD t dXr).F.xa) (ta := (xs.getD t dXr).ta) (ma := .imm) (qA := (xs.getD t dXr).qA) (cA := (xs.getD t dXr).cA) (zA := (xs.getD t dXr).zA) (da := (xs.getD t dXr).da) (s := sn) (by assumption) (by omega)) [0] [(1, 931), (3, 932)] 101 fun _ _ => ?_
 refine g0 good fun _ => ?_
 refine sv 12 (v := .o (.v (.int .i64 (idxF ((xs.getD t dXr).F.xa) (fun c => strEq c.name sn))))) (v' := .o (.v (.int .i64 (-1)))) (congrArg (fun n => Value.int .i64 n) hc) ?_
 refine g0 good fun _ => ?_
 refine cdT good (b := decide ((-1) < 0)) (by decide) ?_
 refine g0 good fun _ => ?_
 refine gh (ge_all (l := xL (xs.getD t dXr))) [0, 1, 2, 3, 4] [] 101 fun _ _ => ?_
 refine gh (big_bk (I := xA) (l := xs) t dXr (by omega)) [0, 1] [] 101 fun _ _ => ?_
 exact rt trivial (()) trivial [1, 4, 2, 0]
theorem rsetT_ctr {q qS qR qN : Nat} {xs : List Xr} {mS mR : Md} {t : Nat} {id : Int} {sn : ByteArray} {v : Va} {j c : Nat} (ht : t < xs.length) (hx : xP (xs.getD t dXr)) (hj : j < (xs.getD t dXr).ws.length) (hp : (xs.getD t dXr).s.pos id = (j : Int)) (hc : idxF (xs.getD t dXr).F.xa (fun c => strEq c.name sn) = (c : Int)) (hcx : c < (xs.getD t dXr).F.xa.length) (hs : v.s.size < 1000000000) (hok : colOk (xs.getD t dXr).F.xa c v = false) : Ctr Tryz.prog nO 30 [.o (.p 1 q 0 0 0), .o (.v (.int .i64 (t : Int))), .o (.v (.int .i64 id)), .o (.v (.string sn)), .a [.v (.int .i64 v.k), .v (.int .i64 v.n), .v (.string v.s)]] [.blk 1 q [.s 2 qS 4 0 xs.length xs.length xs.isEmpty, .s 3 qR 1 0 xs.length xs.length xs.isEmpty, .s 4 qN 1 0 xs.length xs.length xs.isEmpty] 66 .own, vc eTb 2 qS xs 31 mS xs.isEmpty, vc eRs 3 qR xs 96 mR xs.isEmpty, .as (bigA xA xs)] (Unit) (fun _ => True) (fun r => .o (.v (.int .i64 4))) (fun r => [.blk 1 q [.s 2 qS 4 0 xs.length xs.length xs.isEmpty, .s 3 qR 1 0 xs.length xs.length xs.isEmpty, .s 4 qN 1 0 xs.length xs.length xs.isEmpty] 66 .own, vc eTb 2 qS xs 31 mS xs.isEmpty, vc eRs 3 qR xs 96 mR xs.isEmpty, .as (bigA xA xs)]) := by
 refine fs good 100 (fun B => ?_)
 have hwl := hx.wl
 have hza := hx.za
 have hfl := hx.fm.xl
 refine go good (fun q101 => (o1 (rfl : [C1.v (.int .i64 v.k), .v (.int .i64 v.n), .v (.string v.s)].all C1.one = true))) (fun q101 => ?_)
 refine g0 good fun _ => ?_
 refine cl good (dbat_ctr (q := q) (qS := qS) (qR := qR) (qN := qN) (xs := xs) (mR := mR) (t := t) (id := id) (by omega) (by assumption)) [1, 3, 4] [] 101 fun _ _ => ?_
 refine g0 good fun _ => ?_
 refine sv 11 (v := .o (.v (.int .i64 ((xs.getD t dXr).s.pos id)))) (v' := .o (.v (.int .i64 (j : Int)))) (congrArg (fun n => Value.int .i64 n) hp) ?_
 refine g0 good fun _ => ?_
 refine cdF good (b := decide ((j : Int) < 0)) (decide_eq_false (by omega)) ?_
 refine gh (big_out (I := xA) (l := xs) t dXr (by omega)) [2] [] 101 fun _ _ => ?_
 refine gh (ge_un (l := xL (xs.getD t dXr))) [0] [] 101 fun _ _ => ?_
 refine go good (fun _ => (o6 (rfl : q = _) (nz t) (by omega : (t : Int) < (xs.length : Int)) (zfe (by omega) : xs.isEmpty = false) (rfl : qS = _) (by omega : t < xs.length))) fun _ => ?_
 refine cl good (colof_ctr (na := (xs.getD t dXr).F.name) (ka := (xs.getD t dXr).F.key) (qa := (xs.getD t dXr).qa) (ca := (xs.getD t dXr).ca) (za := (xs.getD t dXr).za) (xa := (xs.getD t dXr).F.xa) (ta := (xs.getD t dXr).ta) (ma := .imm) (qA := (xs.getD t dXr).qA) (cA := (xs.getD t dXr).cA) (zA := (xs.getD t dXr).zA) (da := (xs.getD t dXr).da) (s := sn) (by assumption) (by omega)) [0] [(1, 931), (3, 932)] 101 fun _ _ => ?_
 refine g0 good fun _ => ?_
 refine sv 12 (v := .o (.v (.int .i64 (idxF ((xs.getD t dXr).F.xa) (fun c => strEq c.name sn))))) (v' := .o (.v (.int .i64 (c : Int)))) (congrArg (fun n => Value.int .i64 n) hc) ?_
 refine g0 good fun _ => ?_
 refine cdF good (b := decide ((c : Int) < 0)) (decide_eq_false (by omega)) ?_
 refine go good (fun _ => (oc (rfl : (q101 100) = (q101 100)) (rfl : q = _) (nz t) (by omega : (t : Int) < (xs.length : Int)) (zfe (by omega) : xs.isEmpty = false) (rfl : qS = _) (o6 (by omega : t < xs.length) (nz c) (by omega : (c : Int) < (((xs.getD t dXr).F.xa.length : Nat) : Int)) (zf hza (show 0 < (xs.getD t dXr).F.xa.length by omega) : (xs.getD t dXr).za = false) (rfl : (xs.getD t dXr).qa = ((xs.getD t dXr).qa)) (by omega : c < ((xs.getD t dXr).F.xa).length)))) fun _ => ?_
 refine cl good (typed_ctr (v := v) (c := (((xs.getD t dXr).F.xa).getD c eC.d)) hs) [] [] 101 fun _ _ => ?_
 refine g0 good fun _ => ?_
 refine cdT good (b := !(and (vOk v) (or (v.k == 0) (v.k == (((xs.getD t dXr).F.xa).getD c eC.d).kind)))) (by rw [Bool.and_comm]; unfold colOk at hok; rw [hok]; rfl) ?_
 refine g0 good fun _ => ?_
 refine gh (ge_all (l := xL (xs.getD t dXr))) [0, 1, 2, 3, 4] [] 101 fun _ _ => ?_
 refine gh (big_bk (I := xA) (l := xs) t dXr (by omega)) [0, 1] [] 101 fun _ _ => ?_
 exact rt trivial (()) trivial [1, 4, 2, 0]
theorem rset_ctr {q qS qR qN : Nat} {xs : List Xr} {mS mR mN : Md} {t : Nat} {id : Int} {sn : ByteArray} {v : Va} {j c : Nat} (ht : t < xs.length) (hx : xP (xs.getD t dXr)) (hj : j < (xs.getD t dXr).ws.length) (hp : (xs.getD t dXr).s.pos id = (j : Int)) (hc : idxF (xs.getD t dXr).F.xa (fun c => strEq c.name sn) = (c : Int)) (hcx : c < (xs.getD t dXr).F.xa.length) (hs : v.s.size < 1000000000) (hok : colOk (xs.getD t dXr).F.xa c v = true) : Ctr Tryz.prog nO 30 [.o (.p 1 q 0 0 0), .o (.v (.int .i64 (t : Int))), .o (.v (.int .i64 id)), .o (.v (.string sn)), .a [.v (.int .i64 v.k), .v (.int .i64 v.n), .v (.string v.s)]] [.blk 1 q [.s 2 qS 4 0 xs.length xs.length xs.isEmpty, .s 3 qR 1 0 xs.length xs.length xs.isEmpty, .s 4 qN 1 0 xs.length xs.length xs.isEmpty] 66 .own, vc eTb 2 qS xs 31 mS xs.isEmpty, vc eRs 3 qR xs 96 mR xs.isEmpty, vc eI 4 qN (xs.map fun x : Xr => (x.n : Int)) 3 mN xs.isEmpty, .as (bigA xA xs)] (Unit) (fun _ => True) (fun r => .o (.v (.int .i64 0))) (fun r => [.blk 1 q [.s 2 qS 4 0 ((xs.set t ((xs.getD t dXr).put j c v)).length) ((xs.set t ((xs.getD t dXr).put j c v)).length) ((xs.set t ((xs.getD t dXr).put j c v)).isEmpty), .s 3 qR 1 0 ((xs.set t ((xs.getD t dXr).put j c v)).length) ((xs.set t ((xs.getD t dXr).put j c v)).length) ((xs.set t ((xs.getD t dXr).put j c v)).isEmpty), .s 4 qN 1 0 ((xs.set t ((xs.getD t dXr).put j c v)).length) ((xs.set t ((xs.getD t dXr).put j c v)).length) ((xs.set t ((xs.getD t dXr).put j c v)).isEmpty)] 66 .own, vc eTb 2 qS (xs.set t ((xs.getD t dXr).put j c v)) 31 mS ((xs.set t ((xs.getD t dXr).put j c v)).isEmpty), vc eRs 3 qR (xs.set t ((xs.getD t dXr).put j c v)) 96 mR ((xs.set t ((xs.getD t dXr).put j c v)).isEmpty), vc eI 4 qN ((xs.set t ((xs.getD t dXr).put j c v)).map fun x : Xr => (x.n : Int)) 3 mN ((xs.set t ((xs.getD t dXr).put j c v)).isEmpty), .as (bigA xA (xs.set t ((xs.getD t dXr).put j c v)))]) := by
 refine fs good 100 (fun B => ?_)
 have hwl := hx.wl
 have hza := hx.za
 have hfl := hx.fm.xl
 have hrl := hx.rl _ (getD_mem (d := eRw.d) hj)
 refine go good (fun q101 => (o1 (rfl : [C1.v (.int .i64 v.k), .v (.int .i64 v.n), .v (.string v.s)].all C1.one = true))) (fun q101 => ?_)
 refine g0 good fun _ => ?_
 refine cl good (dbat_ctr (q := q) (qS := qS) (qR := qR) (qN := qN) (xs := xs) (mR := mR) (t := t) (id := id) (by omega) (by assumption)) [1, 3, 5] [] 101 fun _ _ => ?_
 refine g0 good fun _ => ?_
 refine sv 11 (v := .o (.v (.int .i64 ((xs.getD t dXr).s.pos id)))) (v' := .o (.v (.int .i64 (j : Int)))) (congrArg (fun n => Value.int .i64 n) hp) ?_
 refine g0 good fun _ => ?_
 refine cdF good (b := decide ((j : Int) < 0)) (decide_eq_false (by omega)) ?_
 refine gh (big_out (I := xA) (l := xs) t dXr (by omega)) [2] [] 101 fun _ _ => ?_
 refine gh (ge_un (l := xL (xs.getD t dXr))) [0] [] 101 fun _ _ => ?_
 refine go good (fun _ => (o6 (rfl : q = _) (nz t) (by omega : (t : Int) < (xs.length : Int)) (zfe (by omega) : xs.isEmpty = false) (rfl : qS = _) (by omega : t < xs.length))) fun _ => ?_
 refine cl good (colof_ctr (na := (xs.getD t dXr).F.name) (ka := (xs.getD t dXr).F.key) (qa := (xs.getD t dXr).qa) (ca := (xs.getD t dXr).ca) (za := (xs.getD t dXr).za) (xa := (xs.getD t dXr).F.xa) (ta := (xs.getD t dXr).ta) (ma := .imm) (qA := (xs.getD t dXr).qA) (cA := (xs.getD t dXr).cA) (zA := (xs.getD t dXr).zA) (da := (xs.getD t dXr).da) (s := sn) (by assumption) (by omega)) [0] [(1, 931), (3, 932)] 101 fun _ _ => ?_
 refine g0 good fun _ => ?_
 refine sv 12 (v := .o (.v (.int .i64 (idxF ((xs.getD t dXr).F.xa) (fun c => strEq c.name sn))))) (v' := .o (.v (.int .i64 (c : Int)))) (congrArg (fun n => Value.int .i64 n) hc) ?_
 refine g0 good fun _ => ?_
 refine cdF good (b := decide ((c : Int) < 0)) (decide_eq_false (by omega)) ?_
 refine go good (fun _ => (oc (rfl : (q101 100) = (q101 100)) (rfl : q = _) (nz t) (by omega : (t : Int) < (xs.length : Int)) (zfe (by omega) : xs.isEmpty = false) (rfl : qS = _) (o6 (by omega : t < xs.length) (nz c) (by omega : (c : Int) < (((xs.getD t dXr).F.xa.length : Nat) : Int)) (zf hza (show 0 < (xs.getD t dXr).F.xa.length by omega) : (xs.getD t dXr).za = false) (rfl : (xs.getD t dXr).qa = ((xs.getD t dXr).qa)) (by omega : c < ((xs.getD t dXr).F.xa).length)))) fun _ => ?_
 refine cl good (typed_ctr (v := v) (c := (((xs.getD t dXr).F.xa).getD c eC.d)) hs) [] [] 101 fun _ _ => ?_
 refine g0 good fun _ => ?_
 refine cdF good (b := !(and (vOk v) (or (v.k == 0) (v.k == (((xs.getD t dXr).F.xa).getD c eC.d).kind)))) (by rw [Bool.and_comm]; unfold colOk at hok; rw [hok]; rfl) ?_
 refine gh (big_out (I := valA) (l := (xs.getD t dXr).ws) j eRw.d hj) [4] [] 101 fun _ _ => ?_
 refine gh (ge_op (c := vc eV 921 (((xs.getD t dXr).ws.getD j eRw.d).1) (((xs.getD t dXr).ws.getD j eRw.d).2.2) 38 .grown (((xs.getD t dXr).ws.getD j eRw.d).2.2.isEmpty)) (I := valA ((xs.getD t dXr).ws.getD j eRw.d))) [0] [] 101 fun _ _ => ?_
 refine go good (fun _ => (oc (rfl : q = _) (nz t) (by omega : (t : Int) < (xs.length : Int)) (zfe (by omega) : xs.isEmpty = false) (rfl : qR = _) (by omega : t < xs.length) (oc (nz j) (by omega : (j : Int) < (((xs.getD t dXr).ws.length : Nat) : Int)) (zfe (by omega) : (xs.getD t dXr).ws.isEmpty = false) (rfl : (xs.getD t dXr).qr = (xs.getD t dXr).qr) (by omega : j < ((xs.getD t dXr).ws).length) (rfl : (q101 100) = (q101 100)) (o3 (nz c) (by omega : (c : Int) < (((((xs.getD t dXr).ws).getD j eRw.d).2.2.length : Nat) : Int)) (zfe (show 0 < ((xs.getD t dXr).ws.getD j eRw.d).2.2.length by omega) : (((xs.getD t dXr).ws).getD j eRw.d).2.2.isEmpty = false))))) fun _ => ?_
 refine vst good eV (((xs.getD t dXr).ws.getD j eRw.d).2.2) v ((((xs.getD t dXr).ws.getD j eRw.d).2.2).set c v) 921 921 ((((xs.getD t dXr).ws).getD j eRw.d).1) c 0 38 .grown (((xs.getD t dXr).ws.getD j eRw.d).2.2.isEmpty) [.v (.int .i64 v.k), .v (.int .i64 v.n), .v (.string v.s)] [0] (by omega) (zfe (show 0 < ((xs.getD t dXr).ws.getD j eRw.d).2.2.length by omega)) rfl (Nat.le_of_ble_eq_true rfl) rfl ?_
 refine g0 good fun _ => ?_
 refine gh (ge_re (l := [vc eV 921 (((xs.getD t dXr).ws.getD j eRw.d).1) ((((xs.getD t dXr).ws.getD j eRw.d).2.2).set c v) 38 .grown (((xs.getD t dXr).ws.getD j eRw.d).2.2.isEmpty)]) (l' := [vc eV 921 (((xs.getD t dXr).ws.getD j eRw.d).1) ((((xs.getD t dXr).ws.getD j eRw.d).2.2).set c v) 38 .grown (((((xs.getD t dXr).ws.getD j eRw.d).2.2).set c v).isEmpty)]) (vc_re rfl emp_put)) [0] [] 101 fun _ _ => ?_
 refine gh (ge_sh (c := vc eV 921 (((xs.getD t dXr).ws.getD j eRw.d).1) ((((xs.getD t dXr).ws.getD j eRw.d).2.2).set c v) 38 .grown (((((xs.getD t dXr).ws.getD j eRw.d).2.2).set c v).isEmpty)) (I := valA (((xs.getD t dXr).ws.getD j eRw.d).1, (((xs.getD t dXr).ws.getD j eRw.d).2.1, ((xs.getD t dXr).ws.getD j eRw.d).2.2.set c v)))) [0] [] 101 fun _ _ => ?_
 refine gh (big_in (I := valA) (l := (xs.getD t dXr).ws) j eRw.d (((xs.getD t dXr).ws.getD j eRw.d).1, (((xs.getD t dXr).ws.getD j eRw.d).2.1, ((xs.getD t dXr).ws.getD j eRw.d).2.2.set c v)) hj) [0, 1] [] 101 fun _ _ => ?_
 refine gh (ge_re (l := [vc eRw 933 ((xs.getD t dXr).qr) ((xs.getD t dXr).ws) 98 .grown ((xs.getD t dXr).ws.isEmpty)]) (l' := [vc eRw 933 ((xs.getD t dXr).qr) ((xs.getD t dXr).ws.set j (((xs.getD t dXr).ws.getD j eRw.d).1, (((xs.getD t dXr).ws.getD j eRw.d).2.1, ((xs.getD t dXr).ws.getD j eRw.d).2.2.set c v))) 98 .grown (((xs.getD t dXr).ws.set j (((xs.getD t dXr).ws.getD j eRw.d).1, (((xs.getD t dXr).ws.getD j eRw.d).2.1, ((xs.getD t dXr).ws.getD j eRw.d).2.2.set c v))).isEmpty)]) (vc_re (map_put hj (by show [C1.v _, .s _ _ _ _ _ _ _] = [C1.v _, .s _ _ _ _ _ _ _]; rw [List.length_set, <- emp_put])) emp_put)) [4] [] 101 fun _ _ => ?_
 refine gh (ge_all (l := xL ((xs.getD t dXr).put j c v))) [2, 3, 4, 0, 1] [] 101 fun _ _ => ?_
 refine gh (big_in (I := xA) (l := xs) t dXr ((xs.getD t dXr).put j c v) (by omega)) [0, 1] [] 101 fun _ _ => ?_
 refine gh (ge_re (l := [vc eTb 2 qS xs 31 mS xs.isEmpty]) (l' := [vc eTb 2 qS (xs.set t ((xs.getD t dXr).put j c v)) 31 mS ((xs.set t ((xs.getD t dXr).put j c v)).isEmpty)]) (vc_re (map_put ht rfl) emp_put)) [4] [] 101 fun _ _ => ?_
 refine gh (ge_re (l := [vc eRs 3 qR xs 96 mR xs.isEmpty]) (l' := [vc eRs 3 qR (xs.set t ((xs.getD t dXr).put j c v)) 96 mR ((xs.set t ((xs.getD t dXr).put j c v)).isEmpty)]) (vc_re (map_put ht (by show [C1.s _ _ _ _ _ _ _] = [C1.s _ _ _ _ _ _ _]; unfold Xr.put; rw [List.length_set, <- emp_put])) emp_put)) [3] [] 101 fun _ _ => ?_
 refine gh (ge_re (l := [vc eI 4 qN (xs.map fun x : Xr => (x.n : Int)) 3 mN xs.isEmpty]) (l' := [vc eI 4 qN ((xs.set t ((xs.getD t dXr).put j c v)).map fun x : Xr => (x.n : Int)) 3 mN ((xs.set t ((xs.getD t dXr).put j c v)).isEmpty)]) (vc_re (congrArg (List.map eI.f) (map_put ht rfl)) emp_put)) [5] [] 101 fun _ _ => ?_
 refine gh (ge_re (l := [.blk 1 q [.s 2 qS 4 0 xs.length xs.length xs.isEmpty, .s 3 qR 1 0 xs.length xs.length xs.isEmpty, .s 4 qN 1 0 xs.length xs.length xs.isEmpty] 66 .own]) (l' := [.blk 1 q [.s 2 qS 4 0 ((xs.set t ((xs.getD t dXr).put j c v)).length) ((xs.set t ((xs.getD t dXr).put j c v)).length) ((xs.set t ((xs.getD t dXr).put j c v)).isEmpty), .s 3 qR 1 0 ((xs.set t ((xs.getD t dXr).put j c v)).length) ((xs.set t ((xs.getD t dXr).put j c v)).length) ((xs.set t ((xs.getD t dXr).put j c v)).isEmpty), .s 4 qN 1 0 ((xs.set t ((xs.getD t dXr).put j c v)).length) ((xs.set t ((xs.getD t dXr).put j c v)).length) ((xs.set t ((xs.getD t dXr).put j c v)).isEmpty)] 66 .own]) (by rw [List.length_set, <- emp_put])) [4] [] 101 fun _ _ => ?_
 exact rt trivial (()) trivial [0, 3, 2, 1, 4]
end Go.Proofs.YthkoolfmealabaaGreat
namespace Go.Proofs.YthkoolfmealabaaGreat
set_option maxHeartbeats 4000000
open Go.Abs
variable {nO : Nat}
set_option maxRecDepth 100000
attribute [local irreducible] GP ruP nxP acS gst cdP loP invS ent1 ent2 enP caA resV lgP agN
abbrev xv (x : Xr) (c i : Nat) : Va := (x.ws.getD i eRw.d).2.2.getD c eV.d
def unB (x : Xr) (c i k : Nat) : Bool := and ((List.range k).all fun j => !(eqV (xv x c j) (xv x c i))) ((xv x c i).k == 2)
def unN (x : Xr) (c i : Nat) : Nat := (List.range i).countP fun j => unB x c j j
theorem unB_succ {x : Xr} {c i k : Nat} (h : unB x c i k = true) : unB x c i (k + 1) = !(eqV (xv x c k) (xv x c i)) := by
 unfold unB at h ⊢
 rw [Bool.and_eq_true] at h
 rw [List.range_succ, List.all_append, h.1, h.2]
 simp
theorem unB_no {x : Xr} {c i k : Nat} (h : unB x c i k = false) (hk : k <= i) : unB x c i i = false := by
 unfold unB at h ⊢
 rw [Bool.and_eq_false_iff] at h ⊢
 rcases h with h | h
 ·refine .inl ?_
  rw [List.all_eq_false] at h ⊢
  obtain ⟨j, hj, h2⟩ := h
  exact ⟨j, List.mem_range.2 (by have := List.mem_range.1 hj; omega), h2⟩
 ·exact .inr h
theorem unB_end {x : Xr} {c i k : Nat} (hk : k <= i) (h : ¬ ((k : Int) < (i : Int) /\ unB x c i k = true)) : unB x c i k = unB x c i i := by
 rcases Nat.lt_or_ge k i with e | e
 ·have h2 : unB x c i k = false := by cases e2 : unB x c i k; rfl; exact absurd ⟨by omega, e2⟩ h
  rw [h2, unB_no h2 hk]
 ·have : k = i := by omega
  rw [this]
theorem unN_succ {x : Xr} {c i : Nat} : unN x c (i + 1) = unN x c i + if unB x c i i then 1 else 0 := by
 unfold unN
 rw [List.range_succ, List.countP_append, List.countP_cons, List.countP_nil, Nat.zero_add]
theorem unN_le {x : Xr} {c i : Nat} : unN x c i <= i := by
 unfold unN
 exact Nat.le_trans List.countP_le_length (by rw [List.length_range]; exact Nat.le_refl _)
theorem rwords_ctr {q qS qR qN : Nat} {xs : List Xr} {mR : Md} {t c : Nat} (ht : t < xs.length) (hx : xP (xs.getD t dXr)) (hcx : c < (xs.getD t dXr).F.xa.length) : Ctr Tryz.prog nO 57 [.o (.p 1 q 0 0 0), .o (.v (.int .i64 (t : Int))), .o (.v (.int .i64 (c : Int)))] [.blk 1 q [.s 2 qS 4 0 xs.length xs.length xs.isEmpty, .s 3 qR 1 0 xs.length xs.length xs.isEmpty, .s 4 qN 1 0 xs.length xs.length xs.isEmpty] 66 .own, vc eRs 3 qR xs 96 mR xs.isEmpty, .as (bigA xA xs)] (Unit) (fun _ => True) (fun r => .o (.v (.int .i64 ((unN (xs.getD t dXr) c (xs.getD t dXr).ws.length : Nat) : Int)))) (fun r => [.blk 1 q [.s 2 qS 4 0 xs.length xs.length xs.isEmpty, .s 3 qR 1 0 xs.length xs.length xs.isEmpty, .s 4 qN 1 0 xs.length xs.length xs.isEmpty] 66 .own, vc eRs 3 qR xs 96 mR xs.isEmpty, .as (bigA xA xs)]) := by
 refine fs good 100 (fun B => ?_)
 have hwl := hx.wl
 have hrl0 := hx.rl
 refine gh (big_out (I := xA) (l := xs) t dXr (by omega)) [2] [] 100 fun _ _ => ?_
 refine gh (ge_un (l := xL (xs.getD t dXr))) [0] [] 100 fun _ _ => ?_
 refine g0 good fun _ => ?_
 refine g0 good fun _ => ?_
 refine g0 good fun _ => ?_
 refine lp good ((Nat)) [0, 1, 2] (fun r => [(7, .o (.v (.int .i64 ((unN (xs.getD t dXr) c r : Nat) : Int)))), (8, .o (.v (.int .i64 (r : Int))))]) [0, 1, 2, 3, 4, 5, 6, 7] (fun _ => []) 120 (fun r => r <= (xs.getD t dXr).ws.length) (fun r => (xs.getD t dXr).ws.length - r) (0) (Nat.zero_le _) [] (fun i hx ag104 => ?_)
 refine go good (fun _ => (o6 (rfl : q = _) (nz t) (by omega : (t : Int) < (xs.length : Int)) (zfe (by omega) : xs.isEmpty = false) (rfl : qR = _) (by omega : t < xs.length))) fun _ => ?_
 refine cdD good ((i : Int) < (((xs.getD t dXr).ws.length : Nat) : Int)) (fun h1 => ?_) (fun h1 => ?_)
 ·have hrl := hrl0 _ (getD_mem (d := eRw.d) (j := i) (by omega))
  have hun := unN_le (x := (xs.getD t dXr)) (c := c) (i := i)
  refine gh (big_out (I := valA) (l := (xs.getD t dXr).ws) i eRw.d (by omega)) [4] [] 120 fun _ _ => ?_
  refine gh (ge_op (c := vc eV 921 (((xs.getD t dXr).ws.getD i eRw.d).1) (((xs.getD t dXr).ws.getD i eRw.d).2.2) 38 .grown (((xs.getD t dXr).ws.getD i eRw.d).2.2.isEmpty)) (I := valA ((xs.getD t dXr).ws.getD i eRw.d))) [0] [] 120 fun _ _ => ?_
  refine go good (fun q106 => (oc (rfl : q = _) (nz t) (by omega : (t : Int) < (xs.length : Int)) (zfe (by omega) : xs.isEmpty = false) (rfl : qR = _) (by omega : t < xs.length) (oc (nz i) (by omega : (i : Int) < (((xs.getD t dXr).ws.length : Nat) : Int)) (zfe (by omega) : (xs.getD t dXr).ws.isEmpty = false) (rfl : (xs.getD t dXr).qr = (xs.getD t dXr).qr) (by omega : i < ((xs.getD t dXr).ws).length) (nz c) (o6 (by omega : (c : Int) < (((((xs.getD t dXr).ws).getD i eRw.d).2.2.length : Nat) : Int)) (zfe (show 0 < ((xs.getD t dXr).ws.getD i eRw.d).2.2.length by omega) : (((xs.getD t dXr).ws).getD i eRw.d).2.2.isEmpty = false) (rfl : (((xs.getD t dXr).ws).getD i eRw.d).1 = ((xs.getD t dXr).ws.getD i eRw.d).1) (by omega : c < (((xs.getD t dXr).ws.getD i eRw.d).2.2).length) (rfl : (q106 120) = (q106 120)) (rfl : [C1.v (.int .i64 (((((xs.getD t dXr).ws.getD i eRw.d).2.2).getD c eV.d).k)), .v (.int .i64 (((((xs.getD t dXr).ws.getD i eRw.d).2.2).getD c eV.d).n)), .v (.string (((((xs.getD t dXr).ws.getD i eRw.d).2.2).getD c eV.d).s))].all C1.one = true))))) (fun q106 => ?_)
  refine gh (ge_sh (c := vc eV 921 (((xs.getD t dXr).ws.getD i eRw.d).1) (((xs.getD t dXr).ws.getD i eRw.d).2.2) 38 .grown (((xs.getD t dXr).ws.getD i eRw.d).2.2.isEmpty)) (I := valA ((xs.getD t dXr).ws.getD i eRw.d))) [1] [] 121 fun _ _ => ?_
  refine gh (big_bk (I := valA) (l := (xs.getD t dXr).ws) i eRw.d (by omega)) [0, 2] [] 121 fun _ _ => ?_
  refine go good (fun _ => (o1 (rfl : (q106 120) = (q106 120)))) fun _ => ?_
  refine g0 good fun _ => ?_
  refine sv 10 (v := .o (.cb (((((xs.getD t dXr).ws.getD i eRw.d).2.2).getD c eV.d).k == 2))) (v' := .o (.cb (unB (xs.getD t dXr) c i 0))) (by rfl) ?_
  refine lp good ((Nat)) [0, 1, 2, 7, 8, 9] (fun r => [(10, .o (.cb (unB (xs.getD t dXr) c i r))), (11, .o (.v (.int .i64 (r : Int))))]) [0, 1, 2, 3, 4, 5, 6, 7, 8] (fun _ => []) 141 (fun r => r <= i) (fun r => i - r) (0) (Nat.zero_le _) [] (fun k hx ag109 => ?_)
  refine g0 good fun _ => ?_
  refine cd good (and (decide ((k : Int) < (i : Int))) (unB (xs.getD t dXr) c i k)) (fun h2 => ?_) (fun h2 => ?_)
  ·have h2 : ((k : Int) < (i : Int)) /\ ((unB (xs.getD t dXr) c i k) = true) := by simpa using h2
   have hrk := hrl0 _ (getD_mem (d := eRw.d) (j := k) (by omega))
   refine gh (big_out (I := valA) (l := (xs.getD t dXr).ws) k eRw.d (by omega)) [0] [] 141 fun _ _ => ?_
   refine gh (ge_op (c := vc eV 921 (((xs.getD t dXr).ws.getD k eRw.d).1) (((xs.getD t dXr).ws.getD k eRw.d).2.2) 38 .grown (((xs.getD t dXr).ws.getD k eRw.d).2.2.isEmpty)) (I := valA ((xs.getD t dXr).ws.getD k eRw.d))) [0] [] 141 fun _ _ => ?_
   refine go good (fun _ => (oc (rfl : q = _) (nz t) (by omega : (t : Int) < (xs.length : Int)) (zfe (by omega) : xs.isEmpty = false) (rfl : qR = _) (by omega : t < xs.length) (oc (nz k) (by omega : (k : Int) < (((xs.getD t dXr).ws.length : Nat) : Int)) (zfe (by omega) : (xs.getD t dXr).ws.isEmpty = false) (rfl : (xs.getD t dXr).qr = (xs.getD t dXr).qr) (by omega : k < ((xs.getD t dXr).ws).length) (nz c) (o5 (by omega : (c : Int) < (((((xs.getD t dXr).ws).getD k eRw.d).2.2.length : Nat) : Int)) (zfe (show 0 < ((xs.getD t dXr).ws.getD k eRw.d).2.2.length by omega) : (((xs.getD t dXr).ws).getD k eRw.d).2.2.isEmpty = false) (rfl : (((xs.getD t dXr).ws).getD k eRw.d).1 = ((xs.getD t dXr).ws.getD k eRw.d).1) (by omega : c < (((xs.getD t dXr).ws.getD k eRw.d).2.2).length) (rfl : (q106 120) = (q106 120)))))) fun _ => ?_
   refine cl good (req_ctr (a := ((((xs.getD t dXr).ws.getD k eRw.d).2.2).getD c eV.d)) (b := ((((xs.getD t dXr).ws.getD i eRw.d).2.2).getD c eV.d))) [] [] 141 fun _ _ => ?_
   refine g0 good fun _ => ?_
   refine gh (ge_sh (c := vc eV 921 (((xs.getD t dXr).ws.getD k eRw.d).1) (((xs.getD t dXr).ws.getD k eRw.d).2.2) 38 .grown (((xs.getD t dXr).ws.getD k eRw.d).2.2.isEmpty)) (I := valA ((xs.getD t dXr).ws.getD k eRw.d))) [0] [] 141 fun _ _ => ?_
   refine gh (big_bk (I := valA) (l := (xs.getD t dXr).ws) k eRw.d (by omega)) [0, 1] [] 141 fun _ _ => ?_
   refine sv 10 (v := .o (.cb (!(eqV ((((xs.getD t dXr).ws.getD k eRw.d).2.2).getD c eV.d) ((((xs.getD t dXr).ws.getD i eRw.d).2.2).getD c eV.d))))) (v' := .o (.cb (unB (xs.getD t dXr) c i (k + 1)))) (congrArg Value.bool (unB_succ h2.2).symm) ?_
   refine go good (fun _ => (o2 (by omega : -9223372036854775808 <= (k : Int) + 1) (by omega : (k : Int) + 1 < 9223372036854775808))) fun _ => ?_
   exact ag109 _ _ (k + 1) (by first | omega | (simp only; omega)) (by omega) [0, 1, 2, 3, 4, 5, 6, 7, 8] (by kernel_rfl) (by kernel_rfl)
  ·have h2 : ¬ (((k : Int) < (i : Int)) /\ ((unB (xs.getD t dXr) c i k) = true)) := by simpa using h2
   refine sv 10 (v := .o (.cb (unB (xs.getD t dXr) c i k))) (v' := .o (.cb (unB (xs.getD t dXr) c i i))) (congrArg Value.bool (unB_end hx h2)) ?_
   refine g0 good fun _ => ?_
   refine cd good (unB (xs.getD t dXr) c i i) (fun h3 => ?_) (fun h3 => ?_)
   ·refine go good (fun _ => (o2 (by omega : -9223372036854775808 <= ((unN (xs.getD t dXr) c i : Nat) : Int) + 1) (by omega : ((unN (xs.getD t dXr) c i : Nat) : Int) + 1 < 9223372036854775808))) fun _ => ?_
    refine sv 7 (v := .o (.v (.int .i64 (((unN (xs.getD t dXr) c i : Nat) : Int) + 1)))) (v' := .o (.v (.int .i64 ((unN (xs.getD t dXr) c (i + 1) : Nat) : Int)))) (congrArg (fun n : Nat => Value.int .i64 (n : Int)) (by rw [unN_succ, h3]; rfl)) ?_
    refine go good (fun _ => (o2 (by omega : -9223372036854775808 <= (i : Int) + 1) (by omega : (i : Int) + 1 < 9223372036854775808))) fun _ => ?_
    exact ag104 _ _ (i + 1) (by first | omega | (simp only; omega)) (by omega) [2, 3, 4, 5, 0, 6, 7, 8] (by kernel_rfl) (by kernel_rfl)
   ·refine sv 7 (v := .o (.v (.int .i64 ((unN (xs.getD t dXr) c i : Nat) : Int)))) (v' := .o (.v (.int .i64 ((unN (xs.getD t dXr) c (i + 1) : Nat) : Int)))) (congrArg (fun n : Nat => Value.int .i64 (n : Int)) (by rw [unN_succ, h3]; rfl)) ?_
    refine go good (fun _ => (o2 (by omega : -9223372036854775808 <= (i : Int) + 1) (by omega : (i : Int) + 1 < 9223372036854775808))) fun _ => ?_
    exact ag104 _ _ (i + 1) (by first | omega | (simp only; omega)) (by omega) [2, 3, 4, 5, 0, 6, 7, 8] (by kernel_rfl) (by kernel_rfl)
 ·have hie : i = (xs.getD t dXr).ws.length := by omega
  refine sv 7 (v := .o (.v (.int .i64 ((unN (xs.getD t dXr) c i : Nat) : Int)))) (v' := .o (.v (.int .i64 ((unN (xs.getD t dXr) c (xs.getD t dXr).ws.length : Nat) : Int)))) (congrArg (fun n : Nat => Value.int .i64 (n : Int)) (by rw [hie])) ?_
  refine g0 good fun _ => ?_
  refine gh (ge_all (l := xL (xs.getD t dXr))) [0, 1, 2, 3, 4] [] 120 fun _ _ => ?_
  refine gh (big_bk (I := xA) (l := xs) t dXr (by omega)) [0, 1] [] 120 fun _ _ => ?_
  exact rt trivial (()) trivial [1, 2, 0]
end Go.Proofs.YthkoolfmealabaaGreat
namespace Go.Proofs.YthkoolfmealabaaGreat
set_option maxHeartbeats 4000000
open Go.Abs
variable {nO : Nat}
set_option maxRecDepth 8000
attribute [local irreducible] GP ruP nxP acS gst cdP loP invS ent1 ent2 enP caA resV lgP agN
theorem cut_ctr {s : ByteArray} {n : Nat}  : Ctr Tryz.prog nO 9 [.o (.v (.string s)), .o (.v (.int .i64 (n : Int)))] [] (Unit) (fun _ => True) (fun r => .o (.v (.string (cutS s n)))) (fun r => []) := by
 refine fs good 100 (fun B => ?_)
 refine g0 good fun _ => ?_
 refine g0 good fun _ => ?_
 refine cdD good ((s.size : Int) > (n : Int)) (fun h1 => ?_) (fun h1 => ?_)
 ·refine go good (fun _ => (o2 (nz n) (by omega : (n : Int) <= ((s.size : Nat) : Int)))) fun _ => ?_
  exact rtv trivial (()) trivial [] (.o (.v (.string (s.extract 0 n)))) (congrArg Value.string (by rw [cutS, if_pos (by omega)]))
 ·refine g0 good fun _ => ?_
  exact rtv trivial (()) trivial [] (.o (.v (.string s))) (congrArg Value.string (by rw [cutS, if_neg (by omega)]))
end Go.Proofs.YthkoolfmealabaaGreat
namespace Go.Proofs.YthkoolfmealabaaGreat
set_option maxHeartbeats 4000000
open Go.Abs
variable {nO : Nat}
set_option maxRecDepth 100000
attribute [local irreducible] GP ruP nxP acS gst cdP loP invS ent1 ent2 enP caA resV lgP agN
def cutV (v : Va) : Va := ⟨v.k, v.n, cutS v.s 20⟩
def cutVs (l : List Va) (n : Nat) : List Va := (l.take n).map cutV
theorem cutVs_len {l : List Va} {n : Nat} : (cutVs l n).length = min n l.length := by unfold cutVs; rw [List.length_map, List.length_take]
theorem cutVs_succ {l : List Va} {i : Nat} (h : i < l.length) : cutVs l (i + 1) = cutVs l i ++ [cutV (l.getD i eV.d)] := by
 unfold cutVs
 rw [List.take_add_one, List.getElem?_eq_getElem h, List.map_append, getD_at h]; rfl
theorem cutVs_sz {l : List Va} {n j : Nat} (h : j < (cutVs l n).length) : ((cutVs l n).getD j eV.d).s.size <= 20 := by
 unfold cutVs at h ⊢
 rw [getD_at h, List.getElem_map]
 exact cutS_len
theorem lval_ctr {v : Va}  : Ctr Tryz.prog nO 52 [.a [.v (.int .i64 v.k), .v (.int .i64 v.n), .v (.string v.s)]] [] (Unit) (fun _ => True) (fun r => .a [.v (.int .i64 ((cutV v).k)), .v (.int .i64 ((cutV v).n)), .v (.string ((cutV v).s))]) (fun r => []) := by
 refine fs good 100 (fun B => ?_)
 refine go good (fun q101 => (o1 (rfl : [C1.v (.int .i64 v.k), .v (.int .i64 v.n), .v (.string v.s)].all C1.one = true))) (fun q101 => ?_)
 refine go good (fun _ => (o1 (rfl : (q101 100) = (q101 100)))) fun _ => ?_
 refine cl good (cut_ctr (s := v.s) (n := 20)) [] [] 102 fun _ _ => ?_
 refine go good (fun _ => (o2 (rfl : (q101 100) = (q101 100)) (rfl : [C1.v (.string (cutS v.s 20))].all C1.one = true))) fun _ => ?_
 refine go good (fun _ => (o3 (rfl : (q101 100) = (q101 100)) (rfl : (q101 101) = (q101 101)) (rfl : [C1.v (.int .i64 v.k), .v (.int .i64 v.n), .v (.string (cutS v.s 20))].all C1.one = true))) fun _ => ?_
 exact rt (o1 (rfl : (q101 101) = (q101 101))) (()) trivial []
theorem lvals_ctr {qv cv : Nat} {zv : Bool} {vs : List Va} {tv : TypeId} {mv : Md} {zc : Bool} {n : Nat} (hzv : zv = true -> vs.length = 0) (hlv : vs.length < 9223372036854775808) (hnv : n < 1000000) : Ctr Tryz.prog nO 27 [.o (.s 6 qv 3 0 vs.length cv zv), .o (.v (.int .i64 (n : Int)))] [vc eV 6 qv vs tv mv zc] ((Nat)) (fun _ => True) (fun r => .o (.s 7 r 3 0 ((cutVs vs (min n vs.length)).length) ((cutVs vs (min n vs.length)).length) ((cutVs vs (min n vs.length)).isEmpty))) (fun r => [vc eV 7 r (cutVs vs (min n vs.length)) 38 .grown ((cutVs vs (min n vs.length)).isEmpty), vc eV 6 qv vs tv mv zc]) := by
 refine fs good 100 (fun B => ?_)
 refine g0 good fun _ => ?_
 refine g0 good fun _ => ?_
 refine g0 good fun _ => ?_
 refine gh (nil_vec 100 3 eV.f eV.d 38 .grown) [] [] 101 fun _ _ => ?_
 refine sv 5 (v := .o (.v (.slice none 0 0))) (v' := .o (.s 100 0 3 0 ((cutVs vs 0).length) ((cutVs vs 0).length) ((cutVs vs 0).isEmpty))) rfl ?_
 refine lp good ((Nat) × (Nat)) [0, 1] (fun r => [(6, .o (.v (.int .i64 (r.1 : Int)))), (5, .o (.s 100 r.2 3 0 ((cutVs vs r.1).length) ((cutVs vs r.1).length) ((cutVs vs r.1).isEmpty)))]) [1] (fun r => [vc eV 100 r.2 (cutVs vs r.1) 38 .grown ((cutVs vs r.1).isEmpty)]) 121 (fun r => r.1 <= n /\ r.1 <= vs.length) (fun r => vs.length - r.1) (⟨0, 0⟩) ⟨Nat.zero_le _, Nat.zero_le _⟩ [0] (fun ⟨i, pq⟩ hx ag104 => ?_)
 try dsimp only at hx
 obtain ⟨hi1, hi2⟩ := hx
 refine g0 good fun _ => ?_
 refine cd good (and (decide ((i : Int) < (vs.length : Int))) (decide ((i : Int) < (n : Int)))) (fun h1 => ?_) (fun h1 => ?_)
 ·have h1 : ((i : Int) < (vs.length : Int)) /\ ((i : Int) < (n : Int)) := by simpa using h1
  have hcl := cutVs_len (l := vs) (n := i)
  refine go good (fun _ => (o5 (nz i) (by omega : (i : Int) < (vs.length : Int)) (zf hzv (show 0 < vs.length by omega) : zv = false) (rfl : qv = _) (by omega : i < vs.length))) fun _ => ?_
  refine cl good (lval_ctr (v := (vs.getD i eV.d))) [] [] 121 fun _ _ => ?_
  refine go good (fun q108 => (o1 (rfl : [C1.v (.int .i64 ((cutV (vs.getD i eV.d)).k)), .v (.int .i64 ((cutV (vs.getD i eV.d)).n)), .v (.string ((cutV (vs.getD i eV.d)).s))].all C1.one = true))) (fun q108 => ?_)
  refine apd good eV (cutVs vs i) [(cutV (vs.getD i eV.d))] (cutVs vs (i + 1)) 100 pq .grown ((cutVs vs i).isEmpty) ((cutVs vs (i + 1)).isEmpty) (.blk 121 (q108 121) [.v (.int .i64 ((cutV (vs.getD i eV.d)).k)), .v (.int .i64 ((cutV (vs.getD i eV.d)).n)), .v (.string ((cutV (vs.getD i eV.d)).s))] 38 .own) (q108 121) 0 1 1 false 122 [1, 0] 123 38 (fun h _ => ne_of h) (by rw [cutVs_len]; simp only [List.length_cons, List.length_nil]; omega) (src_one rfl) (by rw [cutVs_succ (show i < vs.length by omega)]; simp) (cutVs_succ (by omega)) (fun q109 => ?_)
  refine g0 good fun _ => ?_
  refine go good (fun _ => (o2 (by omega : -9223372036854775808 <= (i : Int) + 1) (by omega : (i : Int) + 1 < 9223372036854775808))) fun _ => ?_
  exact ag104 _ _ (⟨i + 1, q109⟩) (by first | omega | (simp only; omega)) (by dsimp only; exact ⟨by omega, by omega⟩) [0, 2] (by kernel_rfl) (by kernel_rfl)
 ·have h1 : ¬ (((i : Int) < (vs.length : Int)) /\ ((i : Int) < (n : Int))) := by simpa using h1
  have hie : i = (min n vs.length) := by omega
  refine g0 good fun _ => ?_
  refine gh (ge_re (l := [vc eV 100 pq (cutVs vs i) 38 .grown ((cutVs vs i).isEmpty)]) (l' := [vc eV 100 pq (cutVs vs (min n vs.length)) 38 .grown ((cutVs vs (min n vs.length)).isEmpty)]) (by rw [hie])) [0] [] 121 fun _ _ => ?_
  exact rtv trivial (pq) trivial [0, 1] (.o (.s 100 pq 3 0 ((cutVs vs i).length) ((cutVs vs i).length) ((cutVs vs i).isEmpty))) (by rw [hie]; rfl)
end Go.Proofs.YthkoolfmealabaaGreat
namespace Go.Proofs.YthkoolfmealabaaGreat
set_option maxHeartbeats 4000000
open Go.Abs
variable {nO : Nat}
set_option maxRecDepth 100000
attribute [local irreducible] GP ruP nxP acS gst cdP loP invS ent1 ent2 enP caA resV lgP agN
theorem rhas_ctr {qx cx : Nat} {zx : Bool} {xs : List Int} {tx : TypeId} {mx : Md} {i : Int} (hzx : zx = true -> xs.length = 0) (hlx : xs.length < 1000000) : Ctr Tryz.prog nO 59 [.o (.s 1 qx 1 0 xs.length cx zx), .o (.v (.int .i64 i))] [vc eI 1 qx xs tx mx zx] (Unit) (fun _ => True) (fun r => .o (.cb (decide (i ∈ xs)))) (fun r => [vc eI 1 qx xs tx mx zx]) := by
 refine fs good 100 (fun B => ?_)
 refine g0 good fun _ => ?_
 refine g0 good fun _ => ?_
 refine lp good ((Nat)) [0, 1] (fun r => [(5, .o (.v (.int .i64 (r : Int))))]) [0] (fun _ => []) 120 (fun r => r <= xs.length /\ ∀ j, j < r -> xs.getD j eI.d ≠ i) (fun r => xs.length - r) (0) ⟨Nat.zero_le _, fun j hj => absurd hj (Nat.not_lt_zero j)⟩ [] (fun k hx ag103 => ?_)
 obtain ⟨hk, hn⟩ := hx
 refine g0 good fun _ => ?_
 refine cdD good ((k : Int) < (xs.length : Int)) (fun h1 => ?_) (fun h1 => ?_)
 ·refine go good (fun _ => (o5 (nz k) (by omega : (k : Int) < (xs.length : Int)) (zf hzx (show 0 < xs.length by omega) : zx = false) (rfl : qx = _) (by omega : k < xs.length))) fun _ => ?_
  refine cdE good (xs.getD k eI.d) i (fun h4 => ?_) (fun h4 => ?_)
  ·refine g0 good fun _ => ?_
   exact rtv trivial (()) trivial [0] (.o (.v (.bool true))) (congrArg Value.bool (decide_eq_true (by rw [<- h4, getD_at (by omega)]; exact List.getElem_mem _)).symm)
  ·refine go good (fun _ => (o2 (by omega : -9223372036854775808 <= (k : Int) + 1) (by omega : (k : Int) + 1 < 9223372036854775808))) fun _ => ?_
   exact ag103 _ _ (k + 1) (by first | omega | (simp only; omega)) ⟨by omega, fun j hj => by rcases Nat.lt_succ_iff_lt_or_eq.1 hj with h | h; exact hn j h; subst h; exact h4⟩ [0] (by kernel_rfl) (by kernel_rfl)
 ·refine g0 good fun _ => ?_
  exact rtv trivial (()) trivial [0] (.o (.v (.bool false))) (congrArg Value.bool (decide_eq_false (fun hm => by obtain ⟨j, hj, e⟩ := List.getElem_of_mem hm; exact hn j (by omega) (by rw [getD_at hj]; exact e))).symm)
theorem cp_src {xs : List Int} {g q n : Nat} {t : TypeId} {m : Md} (h : n < xs.length) : Go.Abs.Src (vc eI g q xs t m false) q (ofs xs.length n 0 * 1) false (vcells eI.f []) := by
 rw [ofs_lt h]
 exact src_part (E := eI) (a := n) (n := 0) (by omega)
theorem spl_nil {α : Type} {xs : List α} {k : Nat} : xs = spl xs k [] := by unfold spl; simp
theorem asc_lt {xs : List Int} {i n : Nat} (hinc : xs.Pairwise fun a b => a < b) (hi : i < xs.length) (e : n = i) (hn : (n : Int) > 0) : (xs.take i).getD ((n : Int) - 1).toNat eI.d < xs.getD i eI.d := by
 subst e
 have e2 : ((n : Int) - 1).toNat = n - 1 := by omega
 rw [e2, getD_at (by rw [List.length_take]; omega), getD_at hi, List.getElem_take]
 exact List.pairwise_iff_getElem.1 hinc (n - 1) n (by omega) hi (by omega)
theorem asc_no {xs : List Int} {i n : Nat} (hinc : xs.Pairwise fun a b => a < b) (hi : i < xs.length) (e : n = i) : and (decide ((n : Int) > 0)) (decide ((xs.take i).getD ((n : Int) - 1).toNat eI.d > xs.getD i eI.d)) = false := by
 rw [Bool.and_eq_false_iff]
 by_cases h : (n : Int) > 0
 ·exact .inr (decide_eq_false (by have := asc_lt hinc hi e h; omega))
 ·exact .inl (decide_eq_false h)
theorem asc_ne {xs : List Int} {i n : Nat} (hinc : xs.Pairwise fun a b => a < b) (hi : i < xs.length) (e : n = i) : and (decide ((n : Int) > 0)) ((xs.take i).getD ((n : Int) - 1).toNat eI.d == xs.getD i eI.d) = false := by
 rw [Bool.and_eq_false_iff]
 by_cases h : (n : Int) > 0
 ·exact .inr (beq_eq_false_iff_ne.2 (by have := asc_lt hinc hi e h; omega))
 ·exact .inl (decide_eq_false h)
theorem asc_set {xs : List Int} {i n : Nat} (hi : i < xs.length) (e : n = i) : xs.take (i + 1) = (xs.take i ++ [0]).set n (xs.getD i eI.d) := by
 subst e
 rw [List.set_append_right _ _ (by rw [List.length_take]; omega), List.length_take, Nat.min_eq_left (by omega), Nat.sub_self, List.set_cons_zero, List.take_add_one, List.getElem?_eq_getElem hi, getD_at hi]; rfl
theorem rsetof_ctr {qx cx : Nat} {zx : Bool} {xs : List Int} {tx : TypeId} {mx : Md} (hzx : zx = true -> xs.length = 0) (hlx : xs.length < 1000000) (hinc : xs.Pairwise fun a b => a < b) (hb : ∀ x ∈ xs, 0 <= x /\ x <= 65535) : Ctr Tryz.prog nO 58 [.o (.s 1 qx 1 0 xs.length cx zx)] [vc eI 1 qx xs tx mx zx] ((Nat)) (fun _ => True) (fun r => .o (.s 2 r 1 0 xs.length xs.length xs.isEmpty)) (fun r => [vc eI 2 r xs 3 .grown xs.isEmpty, vc eI 1 qx xs tx mx zx]) := by
 refine fs good 100 (fun B => ?_)
 refine g0 good fun _ => ?_
 refine g0 good fun _ => ?_
 refine g0 good fun _ => ?_
 refine gh (nil_vec 100 1 eI.f eI.d 3 .grown) [] [] 101 fun _ _ => ?_
 refine sv 3 (v := .o (.v (.slice none 0 0))) (v' := .o (.s 100 0 1 0 ((xs.take 0).length) ((xs.take 0).length) ((xs.take 0).isEmpty))) rfl ?_
 refine lp good ((Nat) × (Nat)) [0] (fun r => [(4, .o (.v (.int .i64 (r.1 : Int)))), (3, .o (.s 100 r.2 1 0 ((xs.take r.1).length) ((xs.take r.1).length) ((xs.take r.1).isEmpty)))]) [1] (fun r => [vc eI 100 r.2 (xs.take r.1) 3 .grown ((xs.take r.1).isEmpty)]) 121 (fun r => r.1 <= xs.length) (fun r => xs.length - r.1) (⟨0, 0⟩) (Nat.zero_le _) [0] (fun ⟨i, pq⟩ hx ag104 => ?_)
 try dsimp only at hx
 have hi := hx
 refine g0 good fun _ => ?_
 refine cdD good ((i : Int) < (xs.length : Int)) (fun h1 => ?_) (fun h1 => ?_)
 ·have hil : i < xs.length := by omega
  have hbi := hb _ (getD_mem (d := eI.d) hil)
  have hst : (xs.take i).length = i := by rw [List.length_take]; omega
  have hsp : (xs.take i ++ [0]).length = i + 1 := by rw [List.length_append, hst]; rfl
  have ht1 : (xs.take (i + 1)).length = i + 1 := by rw [List.length_take]; omega
  have htz : (xs.take (i + 1)).isEmpty = false := zfe (by omega)
  refine go good (fun _ => (oc (nz i) (by omega : (i : Int) < (xs.length : Int)) (zf hzx (show 0 < xs.length by omega) : zx = false) (rfl : qx = _) (by omega : i < xs.length) (fun (he : (!(decide ((xs.getD i eI.d) < 0))) = true) => have he : ¬ ((xs.getD i eI.d) < 0) := (by simpa using he); (o3 (nz i) (by omega : (i : Int) < (xs.length : Int)) (zf hzx (show 0 < xs.length by omega) : zx = false))) (o1 (fun (he : (!(decide ((xs.getD i eI.d) < 0))) = true) => have he : ¬ ((xs.getD i eI.d) < 0) := (by simpa using he); (o2 (rfl : qx = _) (by omega : i < xs.length)))))) fun _ => ?_
  refine cdF good (b := or (decide ((xs.getD i eI.d) < 0)) (decide ((xs.getD i eI.d) > 65535))) (by rw [decide_eq_false (by omega), decide_eq_false (by omega)]; rfl) ?_
  refine g0 good fun _ => ?_
  refine sv 5 (v := .o (.v (.int .i64 (((xs.take i).length : Nat) : Int)))) (v' := .o (.v (.int .i64 (i : Int)))) (congrArg (fun n : Nat => Value.int .i64 (n : Int)) hst) ?_
  refine lp good ((Nat)) [0, 3, 4] (fun r => [(5, .o (.v (.int .i64 (r : Int))))]) [0, 1] (fun _ => []) 141 (fun r => r = i) (fun r => r) (i) rfl [] (fun n hx ag108 => ?_)
  have hni := hx
  refine go good (fun _ => (o5 (fun (he : (decide ((n : Int) > 0)) = true) => have he : (n : Int) > 0 := (by simpa using he); (o2 (by omega : -9223372036854775808 <= (n : Int) - 1) (by omega : (n : Int) - 1 < 9223372036854775808))) (fun (he : (decide ((n : Int) > 0)) = true) => have he : (n : Int) > 0 := (by simpa using he); (o3 (by omega : (0 : Int) <= (n : Int) - 1) (by omega : (n : Int) - 1 < (((xs.take i).length : Nat) : Int)) (zfe (show 0 < (xs.take i).length by omega) : (xs.take i).isEmpty = false))) (fun (he : (decide ((n : Int) > 0)) = true) => have he : (n : Int) > 0 := (by simpa using he); (o2 (rfl : pq = _) (by omega : (((n : Int) - 1).toNat) < (xs.take i).length))) (fun (he : (decide ((n : Int) > 0)) = true) => have he : (n : Int) > 0 := (by simpa using he); (o3 (nz i) (by omega : (i : Int) < (xs.length : Int)) (zf hzx (show 0 < xs.length by omega) : zx = false))) (fun (he : (decide ((n : Int) > 0)) = true) => have he : (n : Int) > 0 := (by simpa using he); (o2 (rfl : qx = _) (by omega : i < xs.length))))) fun _ => ?_
  refine cdF good (b := and (decide ((n : Int) > 0)) (decide (((xs.take i).getD (((n : Int) - 1).toNat) eI.d) > (xs.getD i eI.d)))) (asc_no hinc hil hni) ?_
  refine go good (fun _ => (o5 (fun (he : (decide ((n : Int) > 0)) = true) => have he : (n : Int) > 0 := (by simpa using he); (o2 (by omega : -9223372036854775808 <= (n : Int) - 1) (by omega : (n : Int) - 1 < 9223372036854775808))) (fun (he : (decide ((n : Int) > 0)) = true) => have he : (n : Int) > 0 := (by simpa using he); (o3 (by omega : (0 : Int) <= (n : Int) - 1) (by omega : (n : Int) - 1 < (((xs.take i).length : Nat) : Int)) (zfe (show 0 < (xs.take i).length by omega) : (xs.take i).isEmpty = false))) (fun (he : (decide ((n : Int) > 0)) = true) => have he : (n : Int) > 0 := (by simpa using he); (o2 (rfl : pq = _) (by omega : (((n : Int) - 1).toNat) < (xs.take i).length))) (fun (he : (decide ((n : Int) > 0)) = true) => have he : (n : Int) > 0 := (by simpa using he); (o3 (nz i) (by omega : (i : Int) < (xs.length : Int)) (zf hzx (show 0 < xs.length by omega) : zx = false))) (fun (he : (decide ((n : Int) > 0)) = true) => have he : (n : Int) > 0 := (by simpa using he); (o2 (rfl : qx = _) (by omega : i < xs.length))))) fun _ => ?_
  refine cdF good (b := and (decide ((n : Int) > 0)) (((xs.take i).getD (((n : Int) - 1).toNat) eI.d) == (xs.getD i eI.d))) (asc_ne hinc hil hni) ?_
  refine go good (fun q111 => (o1 (rfl : [C1.v (.int .i64 0)].all C1.one = true))) (fun q111 => ?_)
  refine apd good eI (xs.take i) [(0 : Int)] (xs.take i ++ [0]) 100 pq .grown ((xs.take i).isEmpty) false (.blk 141 (q111 141) [.v (.int .i64 0)] 3 .own) (q111 141) 0 1 1 false 142 [1, 0] 143 3 (fun h _ => ne_of h) (by simp only [List.length_cons, List.length_nil]; omega) (src_one rfl) (by simp) rfl (fun q112 => ?_)
  refine g0 good fun _ => ?_
  refine go good (fun _ => (oc (by omega : -9223372036854775808 <= (n : Int) + 1) (by omega : (n : Int) + 1 < 9223372036854775808) (rfl : q112 = _) (rfl : false = _) (by omega : ((xs.take i ++ [0]).length) <= ((xs.take i ++ [0]).length)) (by omega : (0 : Int) <= (n : Int) + 1) (o6 (by omega : (n : Int) + 1 <= (((xs.take i ++ [0]).length : Nat) : Int)) (rfl : q112 = _) (rfl : false = _) (by omega : ((xs.take i ++ [0]).length) <= ((xs.take i ++ [0]).length)) (nz n) (by omega : (n : Int) <= (((xs.take i ++ [0]).length : Nat) : Int))))) fun _ => ?_
  refine cpy good eI (xs.take i ++ [0]) [] (xs.take i ++ [0]) 142 q112 (ofs ((xs.take i ++ [0]).length) (n + 1) 0) (((xs.take i ++ [0]).length) - (n + 1)) (((xs.take i ++ [0]).length) - (n + 1)) 3 .grown [] q112 (ofs ((xs.take i ++ [0]).length) n 0 * 1) (((xs.take i ++ [0]).length) - n) (((xs.take i ++ [0]).length) - n) false [0] (by show 0 = min _ _; omega) (by unfold ofs; simp only [List.length_nil]; split <;> omega) (s1 (cp_src (by omega))) spl_nil ?_
  refine go good (fun _ => (oc (nz i) (by omega : (i : Int) < (xs.length : Int)) (zf hzx (show 0 < xs.length by omega) : zx = false) (rfl : qx = _) (by omega : i < xs.length) (nz n) (o2 (by omega : (n : Int) < (((xs.take i ++ [0]).length : Nat) : Int)) (rfl : false = _)))) fun _ => ?_
  refine vst good eI (xs.take i ++ [0]) (xs.getD i eI.d) (xs.take (i + 1)) 142 142 q112 n 0 3 .grown false [.v (.int .i64 (xs.getD i eI.d))] [0] (by omega) rfl (asc_set hil hni) (Nat.le_of_ble_eq_true rfl) rfl ?_
  refine gh (ge_re (l := [vc eI 142 q112 (xs.take (i + 1)) 3 .grown false]) (l' := [vc eI 142 q112 (xs.take (i + 1)) 3 .grown ((xs.take (i + 1)).isEmpty)]) (vc_re rfl htz.symm)) [0] [] 143 fun _ _ => ?_
  refine sv 3 (v := .o (.s 142 q112 1 0 ((xs.take i ++ [0]).length) ((xs.take i ++ [0]).length) false)) (v' := .o (.s 142 q112 1 0 ((xs.take (i + 1)).length) ((xs.take (i + 1)).length) ((xs.take (i + 1)).isEmpty))) (by rw [hsp, ht1, htz]) ?_
  refine go good (fun _ => (o2 (by omega : -9223372036854775808 <= (i : Int) + 1) (by omega : (i : Int) + 1 < 9223372036854775808))) fun _ => ?_
  exact ag104 _ _ (⟨i + 1, q112⟩) (by first | omega | (simp only; omega)) (by dsimp only; exact (by omega)) [0, 2] (by kernel_rfl) (by kernel_rfl)
 ·have hie : i = xs.length := by omega
  refine g0 good fun _ => ?_
  refine gh (ge_re (l := [vc eI 100 pq (xs.take i) 3 .grown ((xs.take i).isEmpty)]) (l' := [vc eI 100 pq xs 3 .grown xs.isEmpty]) (by rw [hie, List.take_length])) [0] [] 121 fun _ _ => ?_
  exact rtv trivial (pq) trivial [0, 1] (.o (.s 100 pq 1 0 ((xs.take i).length) ((xs.take i).length) ((xs.take i).isEmpty))) (by rw [hie, List.take_length]; rfl)
end Go.Proofs.YthkoolfmealabaaGreat
