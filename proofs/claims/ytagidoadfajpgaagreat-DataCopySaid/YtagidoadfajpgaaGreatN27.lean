/-
  Ug.
-/
import Derived.Test.YtagidoadfajpgaaGreatN26
import Derived.Test.YtagidoadfajpgaaGreatN21
import Derived.Test.YtagidoadfajpgaaGreatN15
namespace Go.Proofs.YtagidoadfajpgaaGreat
set_option maxHeartbeats 4000000
open Go.Abs
variable {nO : Nat}
set_option maxRecDepth 100000
attribute [local irreducible] GP ruP nxP acS gst cdP loP invS ent1 ent2 enP caA resV lgP agN
theorem vc_re {α : Type} {E : En α} {g q : Nat} {xs ys : List α} {t : TypeId} {m : Md} {z z' : Bool} (h : xs.map E.f = ys.map E.f) (hz : z = z') : [vc E g q xs t m z].map Ch.den = [vc E g q ys t m z'].map Ch.den := by
 subst hz
 have e : vcells E.f xs = vcells E.f ys := by
  have k : ∀ l : List α, vcells E.f l = vcells (fun c : List C1 => c) (l.map E.f) := fun l => by unfold vcells; rw [List.flatMap_map]
  rw [k, k, h]
 have hn : xs = [] ↔ ys = [] := by rw [<- List.map_eq_nil_iff (f := E.f), h, List.map_eq_nil_iff]
 unfold vc
 simp only [List.map_cons, List.map_nil, List.cons.injEq, and_true]
 cases z with
 | true => show As.pure (xs = []) = As.pure (ys = []); rw [propext hn]
 | false => show As.guard _ (blkA q (vcells E.f xs) t m) = As.guard _ (blkA q (vcells E.f ys) t m); rw [e]
theorem map_put {α β : Type} {f : α -> β} {xs : List α} {t : Nat} {d y : α} (ht : t < xs.length) (h : f y = f (xs.getD t d)) : xs.map f = (xs.set t y).map f := by
 apply List.ext_getElem
 ·simp
 ·intro m h1 h2
  rw [List.getElem_map, List.getElem_map, List.getElem_set]
  split
  ·rename_i e; subst e; rw [h, getD_at ht]
  ·rfl
theorem emp_put {α : Type} {xs : List α} {t : Nat} {y : α} : xs.isEmpty = (xs.set t y).isEmpty := by cases xs <;> cases t <;> rfl
theorem nx_at {xs : List Xr} {t : Nat} (h : t < xs.length) : (xs.map fun x => (x.n : Int)).getD t eI.d = ((xs.getD t dXr).n : Int) := by
 rw [getD_at (by simpa using h), getD_at h, List.getElem_map]
def Xr.ins (x : Xr) (qr q : Nat) (vs : List Va) : Xr := { x with qr := qr, ws := x.ws ++ [(q, (x.n, vs))], n := x.n + 1 }
theorem nx_set {xs : List Xr} {t : Nat} {y : Xr} (h : t < xs.length) (e : y.n = (xs.getD t dXr).n + 1) : (xs.map fun x => (x.n : Int)).set t ((xs.map fun x => (x.n : Int)).getD t eI.d + 1) = (xs.set t y).map fun x => (x.n : Int) := by
 rw [nx_at h, List.map_set, e]; rfl
theorem rinsF_ctr {q qS qR qN : Nat} {xs : List Xr} {mS mR mN : Md} {t qv cv : Nat} {zv : Bool} {vs : List Va} {tv : TypeId} {mv : Md} (ht : t < xs.length) (hx : xP (xs.getD t dXr)) (hzv : zv = true -> vs.length = 0) (hlv : vs.length < 1000000) (hvl : vs.length ≠ (xs.getD t dXr).F.xa.length) : Ctr Tryz.prog nO 65 [.o (.p 1 q 0 0 0), .o (.i (t : Int)), .o (.s 6 qv 3 0 vs.length cv zv)] [.blk 1 q [.s 2 qS 4 0 xs.length xs.length xs.isEmpty, .s 3 qR 1 0 xs.length xs.length xs.isEmpty, .s 4 qN 1 0 xs.length xs.length xs.isEmpty] 42 .own, vc eTb 2 qS xs 46 mS xs.isEmpty, vc eRs 3 qR xs 55 mR xs.isEmpty, vc eI 4 qN (xs.map fun x : Xr => (x.n : Int)) 3 mN xs.isEmpty, .as (bigA xA xs), vc eV 6 qv vs tv mv zv] (Unit) (fun _ => True) (fun r => .t [(false, [.i 0]), (false, [.i 1])]) (fun r => [.blk 1 q [.s 2 qS 4 0 xs.length xs.length xs.isEmpty, .s 3 qR 1 0 xs.length xs.length xs.isEmpty, .s 4 qN 1 0 xs.length xs.length xs.isEmpty] 42 .own, vc eTb 2 qS xs 46 mS xs.isEmpty, vc eRs 3 qR xs 55 mR xs.isEmpty, vc eI 4 qN (xs.map fun x : Xr => (x.n : Int)) 3 mN xs.isEmpty, .as (bigA xA xs), vc eV 6 qv vs tv mv zv]) := by
 refine fs 100 (fun B => ?_)
 have hwl := hx.wl
 have hnl : (xs.map fun x : Xr => (x.n : Int)).length = xs.length := List.length_map ..
 have hnx := nx_at (xs := xs) (t := t) (by omega)
 have hza := hx.za
 have hfl := hx.fm.xl
 refine gh (big_out (I := xA) (l := xs) t dXr (by omega)) [4] [] 100 fun _ _ => gh (ge_un (l := xL (xs.getD t dXr))) [0] [] 100 fun _ _ => g0 fun _ => go (fun _ => (o4 (nz t) (by omega : (t : Int) < (xs.length : Int)) (zfe (by omega) : xs.isEmpty = false) (by omega : t < xs.length))) fun _ => cdT (b := ((vs.length : Int) != (((xs.getD t dXr).F.xa.length : Nat) : Int))) (bne_iff_ne.2 (by omega)) <| g0 fun _ => gh (ge_all (l := xL (xs.getD t dXr))) [0, 1, 2, 3, 4] [] 100 fun _ _ => gh (big_bk (I := xA) (l := xs) t dXr (by omega)) [0, 1] [] 100 fun _ _ => rt trivial (()) trivial [1, 2, 3, 4, 0, 5]
theorem rinsT_ctr {q qS qR qN : Nat} {xs : List Xr} {mS mR mN : Md} {t qv cv : Nat} {zv : Bool} {vs : List Va} {tv : TypeId} {mv : Md} {c : Nat} (ht : t < xs.length) (hx : xP (xs.getD t dXr)) (hzv : zv = true -> vs.length = 0) (hlv : vs.length < 1000000) (hvl : vs.length = (xs.getD t dXr).F.xa.length) (hc1 : c < vs.length) (hc2 : colOk (xs.getD t dXr).F.xa c (vs.getD c eV.d) = false) (hc3 : ∀ i, i < c -> colOk (xs.getD t dXr).F.xa i (vs.getD i eV.d) = true) (hsz : ∀ i, i < vs.length -> (vs.getD i eV.d).s.size < 1000000000) : Ctr Tryz.prog nO 65 [.o (.p 1 q 0 0 0), .o (.i (t : Int)), .o (.s 6 qv 3 0 vs.length cv zv)] [.blk 1 q [.s 2 qS 4 0 xs.length xs.length xs.isEmpty, .s 3 qR 1 0 xs.length xs.length xs.isEmpty, .s 4 qN 1 0 xs.length xs.length xs.isEmpty] 42 .own, vc eTb 2 qS xs 46 mS xs.isEmpty, vc eRs 3 qR xs 55 mR xs.isEmpty, vc eI 4 qN (xs.map fun x : Xr => (x.n : Int)) 3 mN xs.isEmpty, .as (bigA xA xs), vc eV 6 qv vs tv mv zv] (Unit) (fun _ => True) (fun r => .t [(false, [.i 0]), (false, [.i 4])]) (fun r => [.blk 1 q [.s 2 qS 4 0 xs.length xs.length xs.isEmpty, .s 3 qR 1 0 xs.length xs.length xs.isEmpty, .s 4 qN 1 0 xs.length xs.length xs.isEmpty] 42 .own, vc eTb 2 qS xs 46 mS xs.isEmpty, vc eRs 3 qR xs 55 mR xs.isEmpty, vc eI 4 qN (xs.map fun x : Xr => (x.n : Int)) 3 mN xs.isEmpty, .as (bigA xA xs), vc eV 6 qv vs tv mv zv]) := by
 refine fs 100 (fun B => ?_)
 have hwl := hx.wl
 have hnl : (xs.map fun x : Xr => (x.n : Int)).length = xs.length := List.length_map ..
 have hnx := nx_at (xs := xs) (t := t) (by omega)
 have hza := hx.za
 have hfl := hx.fm.xl
 refine gh (big_out (I := xA) (l := xs) t dXr (by omega)) [4] [] 100 fun _ _ => gh (ge_un (l := xL (xs.getD t dXr))) [0] [] 100 fun _ _ => g0 fun _ => go (fun _ => (o4 (nz t) (by omega : (t : Int) < (xs.length : Int)) (zfe (by omega) : xs.isEmpty = false) (by omega : t < xs.length))) fun _ => cdF (b := ((vs.length : Int) != (((xs.getD t dXr).F.xa.length : Nat) : Int))) (bne_eq_false_iff_eq.2 (by omega)) <| g0 fun _ => lp ((Nat)) [0, 1, 2] (fun r => [(8, .o (.i (r : Int)))]) [0, 1, 2, 3, 4, 5, 6, 7, 8, 9, 10] (fun _ => []) 120 (fun r => r <= c) (fun r => vs.length - r) (0) (Nat.zero_le _) [] fun i hx ag104 => g0 fun _ => cdT (b := decide ((i : Int) < (vs.length : Int))) (decide_eq_true (by omega)) <| go (fun _ => (oc (nz i) (by omega : (i : Int) < (vs.length : Int)) (zf hzv (show 0 < vs.length by omega) : zv = false) (by omega : i < vs.length) (nz t) (by omega : (t : Int) < (xs.length : Int)) (o6 (zfe (by omega) : xs.isEmpty = false) (by omega : t < xs.length) (nz i) (by omega : (i : Int) < (((xs.getD t dXr).F.xa.length : Nat) : Int)) (zf hza (show 0 < (xs.getD t dXr).F.xa.length by omega) : (xs.getD t dXr).za = false) (by omega : i < ((xs.getD t dXr).F.xa).length)))) fun _ => cl (typed_ctr (v := (vs.getD i eV.d)) (c := (((xs.getD t dXr).F.xa).getD i eC.d)) (hsz i (by omega))) [] [] 120 fun _ _ => g0 fun _ => cd (!(and (vOk (vs.getD i eV.d)) (or ((vs.getD i eV.d).k == 0) ((vs.getD i eV.d).k == (((xs.getD t dXr).F.xa).getD i eC.d).kind)))) (fun h3 => ?_) (fun h3 => ?_)
 ·refine g0 fun _ => gh (ge_all (l := xL (xs.getD t dXr))) [0, 1, 2, 3, 4] [] 120 fun _ _ => gh (big_bk (I := xA) (l := xs) t dXr (by omega)) [0, 1] [] 120 fun _ _ => rt trivial (()) trivial [1, 2, 3, 4, 0, 5]
 ·refine go (fun _ => (o2 (by omega : -9223372036854775808 <= (i : Int) + 1) (by omega : (i : Int) + 1 < 9223372036854775808))) fun _ => ag104 _ _ (i + 1) (by first | omega | (simp only; omega)) ((Nat.lt_or_ge i c).elim (fun h => by omega) (fun h => absurd h3 (by have e : i = c := (by omega); subst e; rw [Bool.and_comm]; unfold colOk at hc2; rw [hc2]; decide))) [0, 1, 2, 3, 4, 5, 6, 7, 8, 9, 10] (by kernel_rfl) (by kernel_rfl)
theorem rins_ctr {q qS qR qN : Nat} {xs : List Xr} {mS mR mN : Md} {t qv cv : Nat} {zv : Bool} {vs : List Va} {tv : TypeId} {mv : Md} (ht : t < xs.length) (hx : xP (xs.getD t dXr)) (hzv : zv = true -> vs.length = 0) (hlv : vs.length < 1000000) (hvl : vs.length = (xs.getD t dXr).F.xa.length) (hok : ∀ i, i < vs.length -> colOk (xs.getD t dXr).F.xa i (vs.getD i eV.d) = true) (hsz : ∀ i, i < vs.length -> (vs.getD i eV.d).s.size < 1000000000) (hn : (xs.getD t dXr).n < 1000000) (hmR : mR.mine = true) (hmN : mN.mine = true) : Ctr Tryz.prog nO 65 [.o (.p 1 q 0 0 0), .o (.i (t : Int)), .o (.s 6 qv 3 0 vs.length cv zv)] [.blk 1 q [.s 2 qS 4 0 xs.length xs.length xs.isEmpty, .s 3 qR 1 0 xs.length xs.length xs.isEmpty, .s 4 qN 1 0 xs.length xs.length xs.isEmpty] 42 .own, vc eTb 2 qS xs 46 mS xs.isEmpty, vc eRs 3 qR xs 55 mR xs.isEmpty, vc eI 4 qN (xs.map fun x : Xr => (x.n : Int)) 3 mN xs.isEmpty, .as (bigA xA xs), vc eV 6 qv vs tv mv zv] ((Nat) × (Nat)) (fun _ => True) (fun r => .t [(false, [.i ((xs.getD t dXr).n : Int)]), (false, [.i 0])]) (fun r => [.blk 1 q [.s 2 qS 4 0 ((xs.set t ((xs.getD t dXr).ins r.1 r.2 vs)).length) ((xs.set t ((xs.getD t dXr).ins r.1 r.2 vs)).length) ((xs.set t ((xs.getD t dXr).ins r.1 r.2 vs)).isEmpty), .s 3 qR 1 0 ((xs.set t ((xs.getD t dXr).ins r.1 r.2 vs)).length) ((xs.set t ((xs.getD t dXr).ins r.1 r.2 vs)).length) ((xs.set t ((xs.getD t dXr).ins r.1 r.2 vs)).isEmpty), .s 4 qN 1 0 ((xs.set t ((xs.getD t dXr).ins r.1 r.2 vs)).length) ((xs.set t ((xs.getD t dXr).ins r.1 r.2 vs)).length) ((xs.set t ((xs.getD t dXr).ins r.1 r.2 vs)).isEmpty)] 42 .own, vc eTb 2 qS (xs.set t ((xs.getD t dXr).ins r.1 r.2 vs)) 46 mS ((xs.set t ((xs.getD t dXr).ins r.1 r.2 vs)).isEmpty), vc eRs 3 qR (xs.set t ((xs.getD t dXr).ins r.1 r.2 vs)) 55 mR ((xs.set t ((xs.getD t dXr).ins r.1 r.2 vs)).isEmpty), vc eI 4 qN ((xs.set t ((xs.getD t dXr).ins r.1 r.2 vs)).map fun x : Xr => (x.n : Int)) 3 mN ((xs.set t ((xs.getD t dXr).ins r.1 r.2 vs)).isEmpty), .as (bigA xA (xs.set t ((xs.getD t dXr).ins r.1 r.2 vs))), vc eV 6 qv vs tv mv zv]) := by
 refine fs 100 (fun B => ?_)
 have hwl := hx.wl
 have hnl : (xs.map fun x : Xr => (x.n : Int)).length = xs.length := List.length_map ..
 have hnx := nx_at (xs := xs) (t := t) (by omega)
 have hza := hx.za
 have hfl := hx.fm.xl
 refine gh (big_out (I := xA) (l := xs) t dXr (by omega)) [4] [] 100 fun _ _ => gh (ge_un (l := xL (xs.getD t dXr))) [0] [] 100 fun _ _ => g0 fun _ => go (fun _ => (o4 (nz t) (by omega : (t : Int) < (xs.length : Int)) (zfe (by omega) : xs.isEmpty = false) (by omega : t < xs.length))) fun _ => cdF (b := ((vs.length : Int) != (((xs.getD t dXr).F.xa.length : Nat) : Int))) (bne_eq_false_iff_eq.2 (by omega)) <| g0 fun _ => lp ((Nat)) [0, 1, 2] (fun r => [(8, .o (.i (r : Int)))]) [0, 1, 2, 3, 4, 5, 6, 7, 8, 9, 10] (fun _ => []) 120 (fun r => r <= vs.length) (fun r => vs.length - r) (0) (Nat.zero_le _) [] fun i hx ag104 => g0 fun _ => cdD ((i : Int) < (vs.length : Int)) (fun h2 => ?_) (fun h2 => ?_)
 ·refine go (fun _ => (oc (nz i) (by omega : (i : Int) < (vs.length : Int)) (zf hzv (show 0 < vs.length by omega) : zv = false) (by omega : i < vs.length) (nz t) (by omega : (t : Int) < (xs.length : Int)) (o6 (zfe (by omega) : xs.isEmpty = false) (by omega : t < xs.length) (nz i) (by omega : (i : Int) < (((xs.getD t dXr).F.xa.length : Nat) : Int)) (zf hza (show 0 < (xs.getD t dXr).F.xa.length by omega) : (xs.getD t dXr).za = false) (by omega : i < ((xs.getD t dXr).F.xa).length)))) fun _ => cl (typed_ctr (v := (vs.getD i eV.d)) (c := (((xs.getD t dXr).F.xa).getD i eC.d)) (hsz i (by omega))) [] [] 120 fun _ _ => g0 fun _ => cdF (b := !(and (vOk (vs.getD i eV.d)) (or ((vs.getD i eV.d).k == 0) ((vs.getD i eV.d).k == (((xs.getD t dXr).F.xa).getD i eC.d).kind)))) (by rw [Bool.and_comm]; have := hok i (by omega); unfold colOk at this; rw [this]; rfl) <| go (fun _ => (o2 (by omega : -9223372036854775808 <= (i : Int) + 1) (by omega : (i : Int) + 1 < 9223372036854775808))) fun _ => ag104 _ _ (i + 1) (by first | omega | (simp only; omega)) (by omega) [0, 1, 2, 3, 4, 5, 6, 7, 8, 9, 10] (by kernel_rfl) (by kernel_rfl)
 ·refine go (fun _ => (o4 (nz t) (by omega : (t : Int) < (xs.length : Int)) (zfe (by omega) : xs.isEmpty = false) (by omega : t < (xs.map fun x : Xr => (x.n : Int)).length))) fun _ => sv 9 (v := .o (.i ((xs.map fun x : Xr => (x.n : Int)).getD t eI.d))) (v' := .o (.i ((xs.getD t dXr).n : Int))) (congrArg (fun n => Value.int .i64 n) hnx) <| go (fun _ => (oc (nz t) (by omega : (t : Int) < (xs.length : Int)) (zfe (by omega) : xs.isEmpty = false) (by omega : t < (xs.map fun x : Xr => (x.n : Int)).length) (by omega : -9223372036854775808 <= ((xs.map fun x : Xr => (x.n : Int)).getD t eI.d) + 1) (by omega : ((xs.map fun x : Xr => (x.n : Int)).getD t eI.d) + 1 < 9223372036854775808) (o3 (nz t) (by omega : (t : Int) < (xs.length : Int)) (zfe (by omega) : xs.isEmpty = false)))) fun _ => vst eI (xs.map fun x : Xr => (x.n : Int)) (((xs.map fun x : Xr => (x.n : Int)).getD t eI.d) + 1) ((xs.map fun x : Xr => (x.n : Int)).set t (((xs.map fun x : Xr => (x.n : Int)).getD t eI.d) + 1)) 4 4 qN t 0 3 mN xs.isEmpty [.i (((xs.map fun x : Xr => (x.n : Int)).getD t eI.d) + 1)] [9] (by omega) (zfe (by omega)) rfl (Nat.le_of_ble_eq_true rfl) rfl ?_ (hm := hmN)
  refine go (fun _ => (o4 (nz t) (by omega : (t : Int) < (xs.length : Int)) (zfe (by omega) : xs.isEmpty = false) (by omega : t < xs.length))) fun _ => gh (nil_vec 120 3 eV.f eV.d 26 .grown) [] [] 121 fun _ _ => apd eV [] vs vs 120 0 .grown true vs.isEmpty (vc eV 6 qv vs tv mv zv) qv 0 vs.length cv zv 121 [0, 11] 122 26 (fun h => by cases h) (by simp only [List.length_cons, List.length_nil]; omega) src_vec (by simp) rfl fun q113 => g0 fun q114 => apd eRw ((xs.getD t dXr).ws) [(q113, (((xs.getD t dXr).n, vs) : Rw))] ((xs.getD t dXr).ws ++ [(q113, (((xs.getD t dXr).n, vs) : Rw))]) 933 ((xs.getD t dXr).qr) .grown ((xs.getD t dXr).ws.isEmpty) (((xs.getD t dXr).ws ++ [(q113, (((xs.getD t dXr).n, vs) : Rw))]).isEmpty) (.blk 122 (q114 122) [.i ((xs.getD t dXr).n : Int), .s 121 q113 3 0 vs.length vs.length vs.isEmpty] 58 .own) (q114 122) 0 1 1 false 123 [7, 0] 124 58 (fun h _ => ne_of h) (by simp only [List.length_cons, List.length_nil]; omega) (src_one rfl) (by simp) rfl fun q115 => gh (ge_sh (c := vc eV 121 q113 vs 26 .grown vs.isEmpty) (I := valA (q113, (((xs.getD t dXr).n, vs) : Rw)))) [2] [] 124 fun _ _ => gh (big_snoc (I := valA) (l := (xs.getD t dXr).ws) (x := (q113, (((xs.getD t dXr).n, vs) : Rw)))) [0, 8] [] 124 fun _ _ => go (fun _ => (o3 (nz t) (by omega : (t : Int) < (xs.length : Int)) (zfe (by omega) : xs.isEmpty = false))) fun _ => vst eRs xs ((xs.getD t dXr).ins q115 q113 vs) (xs.set t ((xs.getD t dXr).ins q115 q113 vs)) 3 3 qR t 0 55 mR xs.isEmpty [.s 123 q115 2 0 (((xs.getD t dXr).ws ++ [(q113, (((xs.getD t dXr).n, vs) : Rw))]).length) (((xs.getD t dXr).ws ++ [(q113, (((xs.getD t dXr).n, vs) : Rw))]).length) (((xs.getD t dXr).ws ++ [(q113, (((xs.getD t dXr).n, vs) : Rw))]).isEmpty)] [11] (by omega) (zfe (by omega)) rfl (Nat.le_of_ble_eq_true rfl) rfl ?_ (hm := hmR)
  refine g0 fun _ => gh (ge_all (l := xL ((xs.getD t dXr).ins q115 q113 vs))) [6, 7, 8, 2, 1] [] 124 fun _ _ => gh (big_in (I := xA) (l := xs) t dXr ((xs.getD t dXr).ins q115 q113 vs) (by omega)) [0, 5] [] 124 fun _ _ => gh (ge_re (l := [vc eTb 2 qS xs 46 mS xs.isEmpty]) (l' := [vc eTb 2 qS (xs.set t ((xs.getD t dXr).ins q115 q113 vs)) 46 mS ((xs.set t ((xs.getD t dXr).ins q115 q113 vs)).isEmpty)]) (vc_re (map_put ht rfl) emp_put)) [6] [] 124 fun _ _ => gh (ge_re (l := [vc eRs 3 qR (xs.set t ((xs.getD t dXr).ins q115 q113 vs)) 55 mR xs.isEmpty]) (l' := [vc eRs 3 qR (xs.set t ((xs.getD t dXr).ins q115 q113 vs)) 55 mR ((xs.set t ((xs.getD t dXr).ins q115 q113 vs)).isEmpty)]) (vc_re rfl emp_put)) [2] [] 124 fun _ _ => gh (ge_re (l := [vc eI 4 qN ((xs.map fun x : Xr => (x.n : Int)).set t (((xs.map fun x : Xr => (x.n : Int)).getD t eI.d) + 1)) 3 mN xs.isEmpty]) (l' := [vc eI 4 qN ((xs.set t ((xs.getD t dXr).ins q115 q113 vs)).map fun x : Xr => (x.n : Int)) 3 mN ((xs.set t ((xs.getD t dXr).ins q115 q113 vs)).isEmpty)]) (vc_re (congrArg (List.map eI.f) (nx_set ht rfl)) emp_put)) [5] [] 124 fun _ _ => gh (ge_re (l := [.blk 1 q [.s 2 qS 4 0 xs.length xs.length xs.isEmpty, .s 3 qR 1 0 xs.length xs.length xs.isEmpty, .s 4 qN 1 0 xs.length xs.length xs.isEmpty] 42 .own]) (l' := [.blk 1 q [.s 2 qS 4 0 ((xs.set t ((xs.getD t dXr).ins q115 q113 vs)).length) ((xs.set t ((xs.getD t dXr).ins q115 q113 vs)).length) ((xs.set t ((xs.getD t dXr).ins q115 q113 vs)).isEmpty), .s 3 qR 1 0 ((xs.set t ((xs.getD t dXr).ins q115 q113 vs)).length) ((xs.set t ((xs.getD t dXr).ins q115 q113 vs)).length) ((xs.set t ((xs.getD t dXr).ins q115 q113 vs)).isEmpty), .s 4 qN 1 0 ((xs.set t ((xs.getD t dXr).ins q115 q113 vs)).length) ((xs.set t ((xs.getD t dXr).ins q115 q113 vs)).length) ((xs.set t ((xs.getD t dXr).ins q115 q113 vs)).isEmpty)] 42 .own]) (by rw [List.length_set, <- emp_put])) [6] [] 124 fun _ _ => rt trivial (⟨q115, q113⟩) trivial [0, 3, 2, 1, 4, 6]
theorem src_restG {α : Type} {E : En α} {all : List α} {g q i : Nat} {t : TypeId} {m : Md} {z : Bool} (hi : i < all.length) : Go.Abs.Src (vc E g q all t m z) q (ofs all.length (i + 1) 0 * E.w) z (vcells E.f (all.drop (i + 1))) := by
 by_cases h : all.length = i + 1
 ·have e : all.drop (i + 1) = [] := by rw [List.drop_eq_nil_of_le (by omega)]
  rw [e]
  intro F A hF
  cases z with
  | true => exact .inl ⟨rfl, by simp [vcells]⟩
  | false =>
   obtain ⟨hw, _, _, fz, _, hb⟩ := hF
   refine .inr ⟨rfl, _, _, _, hb, ?_, ?_⟩
   ·rw [h]
    simp [ofs, vcells]
   ·simp [vcells]
 ·have : ofs all.length (i + 1) 0 = i + 1 := by unfold ofs; rw [if_neg h]
  rw [this]
  have h2 := src_part (E := E) (xs := all) (g := g) (q := q) (t := t) (m := m) (z := z) (a := i + 1) (n := all.length - (i + 1)) (by omega)
  rwa [List.take_of_length_le (by rw [List.length_drop]; omega)] at h2
theorem era_emp {α : Type} {l : List α} {j : Nat} : (l.eraseIdx j).isEmpty = ((l.take j).isEmpty && (l.drop (j + 1)).isEmpty) := by
 rw [List.eraseIdx_eq_take_drop_succ]
 cases l.take j <;> cases l.drop (j + 1) <;> rfl
theorem getD_mem {α : Type} {l : List α} {j : Nat} {d : α} (h : j < l.length) : l.getD j d ∈ l := by rw [getD_at h]; exact List.getElem_mem _
def Xr.del (x : Xr) (qr j : Nat) : Xr := { x with qr := qr, ws := x.ws.eraseIdx j }
def Xr.put (x : Xr) (j c : Nat) (v : Va) : Xr := { x with ws := x.ws.set j ((x.ws.getD j eRw.d).1, ((x.ws.getD j eRw.d).2.1, (x.ws.getD j eRw.d).2.2.set c v)) }
theorem rdelN_ctr {q qS qR qN : Nat} {xs : List Xr} {mR : Md} {t : Nat} {id : Int} (ht : t < xs.length) (hx : xP (xs.getD t dXr)) (hp : (xs.getD t dXr).s.pos id = -1) : Ctr Tryz.prog nO 67 [.o (.p 1 q 0 0 0), .o (.i (t : Int)), .o (.i id)] [.blk 1 q [.s 2 qS 4 0 xs.length xs.length xs.isEmpty, .s 3 qR 1 0 xs.length xs.length xs.isEmpty, .s 4 qN 1 0 xs.length xs.length xs.isEmpty] 42 .own, vc eRs 3 qR xs 55 mR xs.isEmpty, .as (bigA xA xs)] (Unit) (fun _ => True) (fun r => .o (.v (.bool false))) (fun r => [.blk 1 q [.s 2 qS 4 0 xs.length xs.length xs.isEmpty, .s 3 qR 1 0 xs.length xs.length xs.isEmpty, .s 4 qN 1 0 xs.length xs.length xs.isEmpty] 42 .own, vc eRs 3 qR xs 55 mR xs.isEmpty, .as (bigA xA xs)]) := by
 refine fs 100 fun B => g0 fun _ => g0 fun _ => cl (@dbat_ctr _ q qS qR qN xs mR t id (by omega) (by assumption)) [0, 1, 2] [] 100 fun _ _ => g0 fun _ => sv 7 (v := .o (.i ((xs.getD t dXr).s.pos id))) (v' := .o (.i (-1))) (congrArg (fun n => Value.int .i64 n) hp) <| g0 fun _ => cdT (b := decide ((-1) < 0)) (by decide) <| g0 fun _ => rt trivial (()) trivial [0, 1, 2]
theorem rdel_ctr {q qS qR qN : Nat} {xs : List Xr} {mS mR mN : Md} {t : Nat} {id : Int} {j : Nat} (ht : t < xs.length) (hx : xP (xs.getD t dXr)) (hj : j < (xs.getD t dXr).ws.length) (hp : (xs.getD t dXr).s.pos id = (j : Int)) (hmR : mR.mine = true) : Ctr Tryz.prog nO 67 [.o (.p 1 q 0 0 0), .o (.i (t : Int)), .o (.i id)] [.blk 1 q [.s 2 qS 4 0 xs.length xs.length xs.isEmpty, .s 3 qR 1 0 xs.length xs.length xs.isEmpty, .s 4 qN 1 0 xs.length xs.length xs.isEmpty] 42 .own, vc eTb 2 qS xs 46 mS xs.isEmpty, vc eRs 3 qR xs 55 mR xs.isEmpty, vc eI 4 qN (xs.map fun x : Xr => (x.n : Int)) 3 mN xs.isEmpty, .as (bigA xA xs)] ((Nat)) (fun _ => True) (fun r => .o (.v (.bool true))) (fun r => [.blk 1 q [.s 2 qS 4 0 ((xs.set t ((xs.getD t dXr).del r j)).length) ((xs.set t ((xs.getD t dXr).del r j)).length) ((xs.set t ((xs.getD t dXr).del r j)).isEmpty), .s 3 qR 1 0 ((xs.set t ((xs.getD t dXr).del r j)).length) ((xs.set t ((xs.getD t dXr).del r j)).length) ((xs.set t ((xs.getD t dXr).del r j)).isEmpty), .s 4 qN 1 0 ((xs.set t ((xs.getD t dXr).del r j)).length) ((xs.set t ((xs.getD t dXr).del r j)).length) ((xs.set t ((xs.getD t dXr).del r j)).isEmpty)] 42 .own, vc eTb 2 qS (xs.set t ((xs.getD t dXr).del r j)) 46 mS ((xs.set t ((xs.getD t dXr).del r j)).isEmpty), vc eRs 3 qR (xs.set t ((xs.getD t dXr).del r j)) 55 mR ((xs.set t ((xs.getD t dXr).del r j)).isEmpty), vc eI 4 qN ((xs.set t ((xs.getD t dXr).del r j)).map fun x : Xr => (x.n : Int)) 3 mN ((xs.set t ((xs.getD t dXr).del r j)).isEmpty), .as (bigA xA (xs.set t ((xs.getD t dXr).del r j)))]) := by
 refine fs 100 (fun B => ?_)
 have hwl := hx.wl
 have hnl : (xs.map fun x : Xr => (x.n : Int)).length = xs.length := List.length_map ..
 have hnx := nx_at (xs := xs) (t := t) (by omega)
 have hza := hx.za
 have hfl := hx.fm.xl
 refine g0 fun _ => g0 fun _ => cl (@dbat_ctr _ q qS qR qN xs mR t id (by omega) (by assumption)) [0, 2, 4] [] 100 fun _ _ => g0 fun _ => sv 7 (v := .o (.i ((xs.getD t dXr).s.pos id))) (v' := .o (.i (j : Int))) (congrArg (fun n => Value.int .i64 n) hp) <| g0 fun _ => cdF (b := decide ((j : Int) < 0)) (decide_eq_false (by omega)) <| gh (big_out (I := xA) (l := xs) t dXr (by omega)) [2] [] 100 fun _ _ => gh (ge_un (l := xL (xs.getD t dXr))) [0] [] 100 fun _ _ => go (fun _ => (oc (nz t) (by omega : (t : Int) < (xs.length : Int)) (zfe (by omega) : xs.isEmpty = false) (by omega : t < xs.length) (by omega : ((xs.getD t dXr).ws.length) <= ((xs.getD t dXr).ws.length)) (nz j) (o1 (by omega : (j : Int) <= (((xs.getD t dXr).ws.length : Nat) : Int))))) fun _ => gh (nil_vec 100 2 eRw.f eRw.d 58 .grown) [] [] 101 fun _ _ => apd eRw [] ((xs.getD t dXr).ws.take j) ((xs.getD t dXr).ws.take j) 100 0 .grown true (((xs.getD t dXr).ws.take j).isEmpty) (vc eRw 933 ((xs.getD t dXr).qr) ((xs.getD t dXr).ws) 58 .grown ((xs.getD t dXr).ws.isEmpty)) ((xs.getD t dXr).qr) 0 j ((xs.getD t dXr).ws.length) (xs.getD t dXr).ws.isEmpty 101 [0, 4] 102 58 (fun h => by cases h) (by rw [List.length_take, List.length_nil]; omega) (src_part (a := 0) (n := j) (by omega)) (by simp) rfl (fun q107 => ?_) (hn := (List.length_take_of_le (Nat.le_of_lt hj)).symm)
 refine go (fun _ => (oc (nz t) (by omega : (t : Int) < (xs.length : Int)) (zfe (by omega) : xs.isEmpty = false) (by omega : t < xs.length) (by omega : -9223372036854775808 <= (j : Int) + 1) (by omega : (j : Int) + 1 < 9223372036854775808) (o3 (by omega : ((xs.getD t dXr).ws.length) <= ((xs.getD t dXr).ws.length)) (by omega : (0 : Int) <= (j : Int) + 1) (by omega : (j : Int) + 1 <= (((xs.getD t dXr).ws.length : Nat) : Int))))) fun _ => apd eRw ((xs.getD t dXr).ws.take j) ((xs.getD t dXr).ws.drop (j + 1)) ((xs.getD t dXr).ws.eraseIdx j) 101 q107 .grown (((xs.getD t dXr).ws.take j).isEmpty) (((xs.getD t dXr).ws.eraseIdx j).isEmpty) (vc eRw 933 ((xs.getD t dXr).qr) ((xs.getD t dXr).ws) 58 .grown ((xs.getD t dXr).ws.isEmpty)) ((xs.getD t dXr).qr) (ofs (xs.getD t dXr).ws.length (j + 1) 0 * 2) (((xs.getD t dXr).ws.length) - (j + 1)) (((xs.getD t dXr).ws.length) - (j + 1)) (xs.getD t dXr).ws.isEmpty 102 [0, 1] 103 58 (fun h _ => ne_of h) (by rw [List.length_take, List.length_drop]; omega) (src_restG hj) era_emp (List.eraseIdx_eq_take_drop_succ ..) (fun q109 => ?_) (hn := by rw [List.length_drop])
 refine go (fun _ => (o3 (nz t) (by omega : (t : Int) < (xs.length : Int)) (zfe (by omega) : xs.isEmpty = false))) fun _ => vst eRs xs ((xs.getD t dXr).del q109 j) (xs.set t ((xs.getD t dXr).del q109 j)) 3 3 qR t 0 55 mR xs.isEmpty [.s 102 q109 2 0 (((xs.getD t dXr).ws.eraseIdx j).length) (((xs.getD t dXr).ws.eraseIdx j).length) (((xs.getD t dXr).ws.eraseIdx j).isEmpty)] [8] (by omega) (zfe (by omega)) rfl (Nat.le_of_ble_eq_true rfl) rfl ?_ (hm := hmR)
 refine g0 fun _ => gh (big_out (I := valA) (l := (xs.getD t dXr).ws) j eRw.d hj) [6] [] 103 fun _ _ => gh (ge_all (l := xL ((xs.getD t dXr).del q109 j))) [5, 6, 7, 3, 1] [] 103 fun _ _ => gh (big_in (I := xA) (l := xs) t dXr ((xs.getD t dXr).del q109 j) (by omega)) [0, 4] [] 103 fun _ _ => gh (ge_re (l := [vc eTb 2 qS xs 46 mS xs.isEmpty]) (l' := [vc eTb 2 qS (xs.set t ((xs.getD t dXr).del q109 j)) 46 mS ((xs.set t ((xs.getD t dXr).del q109 j)).isEmpty)]) (vc_re (map_put ht rfl) emp_put)) [5] [] 103 fun _ _ => gh (ge_re (l := [vc eRs 3 qR (xs.set t ((xs.getD t dXr).del q109 j)) 55 mR xs.isEmpty]) (l' := [vc eRs 3 qR (xs.set t ((xs.getD t dXr).del q109 j)) 55 mR ((xs.set t ((xs.getD t dXr).del q109 j)).isEmpty)]) (vc_re rfl emp_put)) [3] [] 103 fun _ _ => gh (ge_re (l := [vc eI 4 qN (xs.map fun x : Xr => (x.n : Int)) 3 mN xs.isEmpty]) (l' := [vc eI 4 qN ((xs.set t ((xs.getD t dXr).del q109 j)).map fun x : Xr => (x.n : Int)) 3 mN ((xs.set t ((xs.getD t dXr).del q109 j)).isEmpty)]) (vc_re (congrArg (List.map eI.f) (map_put ht rfl)) emp_put)) [6] [] 103 fun _ _ => gh (ge_re (l := [.blk 1 q [.s 2 qS 4 0 xs.length xs.length xs.isEmpty, .s 3 qR 1 0 xs.length xs.length xs.isEmpty, .s 4 qN 1 0 xs.length xs.length xs.isEmpty] 42 .own]) (l' := [.blk 1 q [.s 2 qS 4 0 ((xs.set t ((xs.getD t dXr).del q109 j)).length) ((xs.set t ((xs.getD t dXr).del q109 j)).length) ((xs.set t ((xs.getD t dXr).del q109 j)).isEmpty), .s 3 qR 1 0 ((xs.set t ((xs.getD t dXr).del q109 j)).length) ((xs.set t ((xs.getD t dXr).del q109 j)).length) ((xs.set t ((xs.getD t dXr).del q109 j)).isEmpty), .s 4 qN 1 0 ((xs.set t ((xs.getD t dXr).del q109 j)).length) ((xs.set t ((xs.getD t dXr).del q109 j)).length) ((xs.set t ((xs.getD t dXr).del q109 j)).isEmpty)] 42 .own]) (by rw [List.length_set, <- emp_put])) [6] [] 103 fun _ _ => rt trivial (q109) trivial [0, 3, 2, 1, 4]
theorem rsetN_ctr {q qS qR qN : Nat} {xs : List Xr} {mR : Md} {t : Nat} {id : Int} {sn : ByteArray} {v : Va} (ht : t < xs.length) (hx : xP (xs.getD t dXr)) (hp : (xs.getD t dXr).s.pos id = -1) : Ctr Tryz.prog nO 69 [.o (.p 1 q 0 0 0), .o (.i (t : Int)), .o (.i id), .o (.t sn), .a [.i v.k, .i v.n, .t v.s]] [.blk 1 q [.s 2 qS 4 0 xs.length xs.length xs.isEmpty, .s 3 qR 1 0 xs.length xs.length xs.isEmpty, .s 4 qN 1 0 xs.length xs.length xs.isEmpty] 42 .own, vc eRs 3 qR xs 55 mR xs.isEmpty, .as (bigA xA xs)] (Unit) (fun _ => True) (fun r => .o (.i 6)) (fun r => [.blk 1 q [.s 2 qS 4 0 xs.length xs.length xs.isEmpty, .s 3 qR 1 0 xs.length xs.length xs.isEmpty, .s 4 qN 1 0 xs.length xs.length xs.isEmpty] 42 .own, vc eRs 3 qR xs 55 mR xs.isEmpty, .as (bigA xA xs)]) := by
 refine fs 100 fun B => g0 fun q101 => g0 fun _ => cl (@dbat_ctr _ q qS qR qN xs mR t id (by omega) (by assumption)) [1, 2, 3] [] 101 fun _ _ => g0 fun _ => sv 11 (v := .o (.i ((xs.getD t dXr).s.pos id))) (v' := .o (.i (-1))) (congrArg (fun n => Value.int .i64 n) hp) <| g0 fun _ => cdT (b := decide ((-1) < 0)) (by decide) <| g0 fun _ => rt trivial (()) trivial [0, 1, 2]
theorem rsetC_ctr {q qS qR qN : Nat} {xs : List Xr} {mS mR : Md} {t : Nat} {id : Int} {sn : ByteArray} {v : Va} {j : Nat} (ht : t < xs.length) (hx : xP (xs.getD t dXr)) (hj : j < (xs.getD t dXr).ws.length) (hp : (xs.getD t dXr).s.pos id = (j : Int)) (hc : idxF (xs.getD t dXr).F.xa (fun c => strEq c.name sn) = -1) : Ctr Tryz.prog nO 69 [.o (.p 1 q 0 0 0), .o (.i (t : Int)), .o (.i id), .o (.t sn), .a [.i v.k, .i v.n, .t v.s]] [.blk 1 q [.s 2 qS 4 0 xs.length xs.length xs.isEmpty, .s 3 qR 1 0 xs.length xs.length xs.isEmpty, .s 4 qN 1 0 xs.length xs.length xs.isEmpty] 42 .own, vc eTb 2 qS xs 46 mS xs.isEmpty, vc eRs 3 qR xs 55 mR xs.isEmpty, .as (bigA xA xs)] (Unit) (fun _ => True) (fun r => .o (.i 3)) (fun r => [.blk 1 q [.s 2 qS 4 0 xs.length xs.length xs.isEmpty, .s 3 qR 1 0 xs.length xs.length xs.isEmpty, .s 4 qN 1 0 xs.length xs.length xs.isEmpty] 42 .own, vc eTb 2 qS xs 46 mS xs.isEmpty, vc eRs 3 qR xs 55 mR xs.isEmpty, .as (bigA xA xs)]) := by
 refine fs 100 (fun B => ?_)
 have hwl := hx.wl
 have hza := hx.za
 have hfl := hx.fm.xl
 refine g0 fun q101 => g0 fun _ => cl (@dbat_ctr _ q qS qR qN xs mR t id (by omega) (by assumption)) [1, 3, 4] [] 101 fun _ _ => g0 fun _ => sv 11 (v := .o (.i ((xs.getD t dXr).s.pos id))) (v' := .o (.i (j : Int))) (congrArg (fun n => Value.int .i64 n) hp) <| g0 fun _ => cdF (b := decide ((j : Int) < 0)) (decide_eq_false (by omega)) <| gh (big_out (I := xA) (l := xs) t dXr (by omega)) [2] [] 101 fun _ _ => gh (ge_un (l := xL (xs.getD t dXr))) [0] [] 101 fun _ _ => go (fun _ => (o4 (nz t) (by omega : (t : Int) < (xs.length : Int)) (zfe (by omega) : xs.isEmpty = false) (by omega : t < xs.length))) fun _ => cl (@colof_ctr _ ((xs.getD t dXr).F.name) ((xs.getD t dXr).F.key) ((xs.getD t dXr).qa) ((xs.getD t dXr).ca) ((xs.getD t dXr).za) ((xs.getD t dXr).F.xa) ((xs.getD t dXr).ta) .imm ((xs.getD t dXr).qA) ((xs.getD t dXr).cA) ((xs.getD t dXr).zA) ((xs.getD t dXr).da) sn (by assumption) (by omega)) [0] [(1, 931), (3, 932)] 101 fun _ _ => g0 fun _ => sv 12 (v := .o (.i (idxF ((xs.getD t dXr).F.xa) (fun c => strEq c.name sn)))) (v' := .o (.i (-1))) (congrArg (fun n => Value.int .i64 n) hc) <| g0 fun _ => cdT (b := decide ((-1) < 0)) (by decide) <| g0 fun _ => gh (ge_all (l := xL (xs.getD t dXr))) [0, 1, 2, 3, 4] [] 101 fun _ _ => gh (big_bk (I := xA) (l := xs) t dXr (by omega)) [0, 1] [] 101 fun _ _ => rt trivial (()) trivial [1, 4, 2, 0]
theorem rsetT_ctr {q qS qR qN : Nat} {xs : List Xr} {mS mR : Md} {t : Nat} {id : Int} {sn : ByteArray} {v : Va} {j c : Nat} (ht : t < xs.length) (hx : xP (xs.getD t dXr)) (hj : j < (xs.getD t dXr).ws.length) (hp : (xs.getD t dXr).s.pos id = (j : Int)) (hc : idxF (xs.getD t dXr).F.xa (fun c => strEq c.name sn) = (c : Int)) (hcx : c < (xs.getD t dXr).F.xa.length) (hs : v.s.size < 1000000000) (hok : colOk (xs.getD t dXr).F.xa c v = false) : Ctr Tryz.prog nO 69 [.o (.p 1 q 0 0 0), .o (.i (t : Int)), .o (.i id), .o (.t sn), .a [.i v.k, .i v.n, .t v.s]] [.blk 1 q [.s 2 qS 4 0 xs.length xs.length xs.isEmpty, .s 3 qR 1 0 xs.length xs.length xs.isEmpty, .s 4 qN 1 0 xs.length xs.length xs.isEmpty] 42 .own, vc eTb 2 qS xs 46 mS xs.isEmpty, vc eRs 3 qR xs 55 mR xs.isEmpty, .as (bigA xA xs)] (Unit) (fun _ => True) (fun r => .o (.i 4)) (fun r => [.blk 1 q [.s 2 qS 4 0 xs.length xs.length xs.isEmpty, .s 3 qR 1 0 xs.length xs.length xs.isEmpty, .s 4 qN 1 0 xs.length xs.length xs.isEmpty] 42 .own, vc eTb 2 qS xs 46 mS xs.isEmpty, vc eRs 3 qR xs 55 mR xs.isEmpty, .as (bigA xA xs)]) := by
 refine fs 100 (fun B => ?_)
 have hwl := hx.wl
 have hza := hx.za
 have hfl := hx.fm.xl
 refine g0 fun q101 => g0 fun _ => cl (@dbat_ctr _ q qS qR qN xs mR t id (by omega) (by assumption)) [1, 3, 4] [] 101 fun _ _ => g0 fun _ => sv 11 (v := .o (.i ((xs.getD t dXr).s.pos id))) (v' := .o (.i (j : Int))) (congrArg (fun n => Value.int .i64 n) hp) <| g0 fun _ => cdF (b := decide ((j : Int) < 0)) (decide_eq_false (by omega)) <| gh (big_out (I := xA) (l := xs) t dXr (by omega)) [2] [] 101 fun _ _ => gh (ge_un (l := xL (xs.getD t dXr))) [0] [] 101 fun _ _ => go (fun _ => (o4 (nz t) (by omega : (t : Int) < (xs.length : Int)) (zfe (by omega) : xs.isEmpty = false) (by omega : t < xs.length))) fun _ => cl (@colof_ctr _ ((xs.getD t dXr).F.name) ((xs.getD t dXr).F.key) ((xs.getD t dXr).qa) ((xs.getD t dXr).ca) ((xs.getD t dXr).za) ((xs.getD t dXr).F.xa) ((xs.getD t dXr).ta) .imm ((xs.getD t dXr).qA) ((xs.getD t dXr).cA) ((xs.getD t dXr).zA) ((xs.getD t dXr).da) sn (by assumption) (by omega)) [0] [(1, 931), (3, 932)] 101 fun _ _ => g0 fun _ => sv 12 (v := .o (.i (idxF ((xs.getD t dXr).F.xa) (fun c => strEq c.name sn)))) (v' := .o (.i (c : Int))) (congrArg (fun n => Value.int .i64 n) hc) <| g0 fun _ => cdF (b := decide ((c : Int) < 0)) (decide_eq_false (by omega)) <| go (fun _ => (oc (nz t) (by omega : (t : Int) < (xs.length : Int)) (zfe (by omega) : xs.isEmpty = false) (by omega : t < xs.length) (nz c) (by omega : (c : Int) < (((xs.getD t dXr).F.xa.length : Nat) : Int)) (o2 (zf hza (show 0 < (xs.getD t dXr).F.xa.length by omega) : (xs.getD t dXr).za = false) (by omega : c < ((xs.getD t dXr).F.xa).length)))) fun _ => cl (typed_ctr (v := v) (c := (((xs.getD t dXr).F.xa).getD c eC.d)) hs) [] [] 101 fun _ _ => g0 fun _ => cdT (b := !(and (vOk v) (or (v.k == 0) (v.k == (((xs.getD t dXr).F.xa).getD c eC.d).kind)))) (by rw [Bool.and_comm]; unfold colOk at hok; rw [hok]; rfl) <| g0 fun _ => gh (ge_all (l := xL (xs.getD t dXr))) [0, 1, 2, 3, 4] [] 101 fun _ _ => gh (big_bk (I := xA) (l := xs) t dXr (by omega)) [0, 1] [] 101 fun _ _ => rt trivial (()) trivial [1, 4, 2, 0]
theorem rset_ctr {q qS qR qN : Nat} {xs : List Xr} {mS mR mN : Md} {t : Nat} {id : Int} {sn : ByteArray} {v : Va} {j c : Nat} (ht : t < xs.length) (hx : xP (xs.getD t dXr)) (hj : j < (xs.getD t dXr).ws.length) (hp : (xs.getD t dXr).s.pos id = (j : Int)) (hc : idxF (xs.getD t dXr).F.xa (fun c => strEq c.name sn) = (c : Int)) (hcx : c < (xs.getD t dXr).F.xa.length) (hs : v.s.size < 1000000000) (hok : colOk (xs.getD t dXr).F.xa c v = true) : Ctr Tryz.prog nO 69 [.o (.p 1 q 0 0 0), .o (.i (t : Int)), .o (.i id), .o (.t sn), .a [.i v.k, .i v.n, .t v.s]] [.blk 1 q [.s 2 qS 4 0 xs.length xs.length xs.isEmpty, .s 3 qR 1 0 xs.length xs.length xs.isEmpty, .s 4 qN 1 0 xs.length xs.length xs.isEmpty] 42 .own, vc eTb 2 qS xs 46 mS xs.isEmpty, vc eRs 3 qR xs 55 mR xs.isEmpty, vc eI 4 qN (xs.map fun x : Xr => (x.n : Int)) 3 mN xs.isEmpty, .as (bigA xA xs)] (Unit) (fun _ => True) (fun r => .o (.i 0)) (fun r => [.blk 1 q [.s 2 qS 4 0 ((xs.set t ((xs.getD t dXr).put j c v)).length) ((xs.set t ((xs.getD t dXr).put j c v)).length) ((xs.set t ((xs.getD t dXr).put j c v)).isEmpty), .s 3 qR 1 0 ((xs.set t ((xs.getD t dXr).put j c v)).length) ((xs.set t ((xs.getD t dXr).put j c v)).length) ((xs.set t ((xs.getD t dXr).put j c v)).isEmpty), .s 4 qN 1 0 ((xs.set t ((xs.getD t dXr).put j c v)).length) ((xs.set t ((xs.getD t dXr).put j c v)).length) ((xs.set t ((xs.getD t dXr).put j c v)).isEmpty)] 42 .own, vc eTb 2 qS (xs.set t ((xs.getD t dXr).put j c v)) 46 mS ((xs.set t ((xs.getD t dXr).put j c v)).isEmpty), vc eRs 3 qR (xs.set t ((xs.getD t dXr).put j c v)) 55 mR ((xs.set t ((xs.getD t dXr).put j c v)).isEmpty), vc eI 4 qN ((xs.set t ((xs.getD t dXr).put j c v)).map fun x : Xr => (x.n : Int)) 3 mN ((xs.set t ((xs.getD t dXr).put j c v)).isEmpty), .as (bigA xA (xs.set t ((xs.getD t dXr).put j c v)))]) := by
 refine fs 100 (fun B => ?_)
 have hwl := hx.wl
 have hza := hx.za
 have hfl := hx.fm.xl
 have hrl := hx.rl _ (getD_mem (d := eRw.d) hj)
 refine g0 fun q101 => g0 fun _ => cl (@dbat_ctr _ q qS qR qN xs mR t id (by omega) (by assumption)) [1, 3, 5] [] 101 fun _ _ => g0 fun _ => sv 11 (v := .o (.i ((xs.getD t dXr).s.pos id))) (v' := .o (.i (j : Int))) (congrArg (fun n => Value.int .i64 n) hp) <| g0 fun _ => cdF (b := decide ((j : Int) < 0)) (decide_eq_false (by omega)) <| gh (big_out (I := xA) (l := xs) t dXr (by omega)) [2] [] 101 fun _ _ => gh (ge_un (l := xL (xs.getD t dXr))) [0] [] 101 fun _ _ => go (fun _ => (o4 (nz t) (by omega : (t : Int) < (xs.length : Int)) (zfe (by omega) : xs.isEmpty = false) (by omega : t < xs.length))) fun _ => cl (@colof_ctr _ ((xs.getD t dXr).F.name) ((xs.getD t dXr).F.key) ((xs.getD t dXr).qa) ((xs.getD t dXr).ca) ((xs.getD t dXr).za) ((xs.getD t dXr).F.xa) ((xs.getD t dXr).ta) .imm ((xs.getD t dXr).qA) ((xs.getD t dXr).cA) ((xs.getD t dXr).zA) ((xs.getD t dXr).da) sn (by assumption) (by omega)) [0] [(1, 931), (3, 932)] 101 fun _ _ => g0 fun _ => sv 12 (v := .o (.i (idxF ((xs.getD t dXr).F.xa) (fun c => strEq c.name sn)))) (v' := .o (.i (c : Int))) (congrArg (fun n => Value.int .i64 n) hc) <| g0 fun _ => cdF (b := decide ((c : Int) < 0)) (decide_eq_false (by omega)) <| go (fun _ => (oc (nz t) (by omega : (t : Int) < (xs.length : Int)) (zfe (by omega) : xs.isEmpty = false) (by omega : t < xs.length) (nz c) (by omega : (c : Int) < (((xs.getD t dXr).F.xa.length : Nat) : Int)) (o2 (zf hza (show 0 < (xs.getD t dXr).F.xa.length by omega) : (xs.getD t dXr).za = false) (by omega : c < ((xs.getD t dXr).F.xa).length)))) fun _ => cl (typed_ctr (v := v) (c := (((xs.getD t dXr).F.xa).getD c eC.d)) hs) [] [] 101 fun _ _ => g0 fun _ => cdF (b := !(and (vOk v) (or (v.k == 0) (v.k == (((xs.getD t dXr).F.xa).getD c eC.d).kind)))) (by rw [Bool.and_comm]; unfold colOk at hok; rw [hok]; rfl) <| gh (big_out (I := valA) (l := (xs.getD t dXr).ws) j eRw.d hj) [4] [] 101 fun _ _ => gh (ge_op (c := vc eV 921 (((xs.getD t dXr).ws.getD j eRw.d).1) (((xs.getD t dXr).ws.getD j eRw.d).2.2) 26 .grown (((xs.getD t dXr).ws.getD j eRw.d).2.2.isEmpty)) (I := valA ((xs.getD t dXr).ws.getD j eRw.d))) [0] [] 101 fun _ _ => go (fun _ => (oc (nz t) (by omega : (t : Int) < (xs.length : Int)) (zfe (by omega) : xs.isEmpty = false) (by omega : t < xs.length) (nz j) (by omega : (j : Int) < (((xs.getD t dXr).ws.length : Nat) : Int)) (o5 (zfe (by omega) : (xs.getD t dXr).ws.isEmpty = false) (by omega : j < ((xs.getD t dXr).ws).length) (nz c) (by omega : (c : Int) < (((((xs.getD t dXr).ws).getD j eRw.d).2.2.length : Nat) : Int)) (zfe (show 0 < ((xs.getD t dXr).ws.getD j eRw.d).2.2.length by omega) : (((xs.getD t dXr).ws).getD j eRw.d).2.2.isEmpty = false)))) fun _ => vst eV (((xs.getD t dXr).ws.getD j eRw.d).2.2) v ((((xs.getD t dXr).ws.getD j eRw.d).2.2).set c v) 921 921 ((((xs.getD t dXr).ws).getD j eRw.d).1) c 0 26 .grown (((xs.getD t dXr).ws.getD j eRw.d).2.2.isEmpty) [.i v.k, .i v.n, .t v.s] [0] (by omega) (zfe (show 0 < ((xs.getD t dXr).ws.getD j eRw.d).2.2.length by omega)) rfl (Nat.le_of_ble_eq_true rfl) rfl <| g0 fun _ => gh (ge_re (l := [vc eV 921 (((xs.getD t dXr).ws.getD j eRw.d).1) ((((xs.getD t dXr).ws.getD j eRw.d).2.2).set c v) 26 .grown (((xs.getD t dXr).ws.getD j eRw.d).2.2.isEmpty)]) (l' := [vc eV 921 (((xs.getD t dXr).ws.getD j eRw.d).1) ((((xs.getD t dXr).ws.getD j eRw.d).2.2).set c v) 26 .grown (((((xs.getD t dXr).ws.getD j eRw.d).2.2).set c v).isEmpty)]) (vc_re rfl emp_put)) [0] [] 101 fun _ _ => gh (ge_sh (c := vc eV 921 (((xs.getD t dXr).ws.getD j eRw.d).1) ((((xs.getD t dXr).ws.getD j eRw.d).2.2).set c v) 26 .grown (((((xs.getD t dXr).ws.getD j eRw.d).2.2).set c v).isEmpty)) (I := valA (((xs.getD t dXr).ws.getD j eRw.d).1, (((xs.getD t dXr).ws.getD j eRw.d).2.1, ((xs.getD t dXr).ws.getD j eRw.d).2.2.set c v)))) [0] [] 101 fun _ _ => gh (big_in (I := valA) (l := (xs.getD t dXr).ws) j eRw.d (((xs.getD t dXr).ws.getD j eRw.d).1, (((xs.getD t dXr).ws.getD j eRw.d).2.1, ((xs.getD t dXr).ws.getD j eRw.d).2.2.set c v)) hj) [0, 1] [] 101 fun _ _ => gh (ge_re (l := [vc eRw 933 ((xs.getD t dXr).qr) ((xs.getD t dXr).ws) 58 .grown ((xs.getD t dXr).ws.isEmpty)]) (l' := [vc eRw 933 ((xs.getD t dXr).qr) ((xs.getD t dXr).ws.set j (((xs.getD t dXr).ws.getD j eRw.d).1, (((xs.getD t dXr).ws.getD j eRw.d).2.1, ((xs.getD t dXr).ws.getD j eRw.d).2.2.set c v))) 58 .grown (((xs.getD t dXr).ws.set j (((xs.getD t dXr).ws.getD j eRw.d).1, (((xs.getD t dXr).ws.getD j eRw.d).2.1, ((xs.getD t dXr).ws.getD j eRw.d).2.2.set c v))).isEmpty)]) (vc_re (map_put hj (by show [C1.v _, .s _ _ _ _ _ _ _] = [C1.v _, .s _ _ _ _ _ _ _]; rw [List.length_set, <- emp_put])) emp_put)) [4] [] 101 fun _ _ => gh (ge_all (l := xL ((xs.getD t dXr).put j c v))) [2, 3, 4, 0, 1] [] 101 fun _ _ => gh (big_in (I := xA) (l := xs) t dXr ((xs.getD t dXr).put j c v) (by omega)) [0, 1] [] 101 fun _ _ => gh (ge_re (l := [vc eTb 2 qS xs 46 mS xs.isEmpty]) (l' := [vc eTb 2 qS (xs.set t ((xs.getD t dXr).put j c v)) 46 mS ((xs.set t ((xs.getD t dXr).put j c v)).isEmpty)]) (vc_re (map_put ht rfl) emp_put)) [4] [] 101 fun _ _ => gh (ge_re (l := [vc eRs 3 qR xs 55 mR xs.isEmpty]) (l' := [vc eRs 3 qR (xs.set t ((xs.getD t dXr).put j c v)) 55 mR ((xs.set t ((xs.getD t dXr).put j c v)).isEmpty)]) (vc_re (map_put ht (by show [C1.s _ _ _ _ _ _ _] = [C1.s _ _ _ _ _ _ _]; unfold Xr.put; rw [List.length_set, <- emp_put])) emp_put)) [3] [] 101 fun _ _ => gh (ge_re (l := [vc eI 4 qN (xs.map fun x : Xr => (x.n : Int)) 3 mN xs.isEmpty]) (l' := [vc eI 4 qN ((xs.set t ((xs.getD t dXr).put j c v)).map fun x : Xr => (x.n : Int)) 3 mN ((xs.set t ((xs.getD t dXr).put j c v)).isEmpty)]) (vc_re (congrArg (List.map eI.f) (map_put ht rfl)) emp_put)) [5] [] 101 fun _ _ => gh (ge_re (l := [.blk 1 q [.s 2 qS 4 0 xs.length xs.length xs.isEmpty, .s 3 qR 1 0 xs.length xs.length xs.isEmpty, .s 4 qN 1 0 xs.length xs.length xs.isEmpty] 42 .own]) (l' := [.blk 1 q [.s 2 qS 4 0 ((xs.set t ((xs.getD t dXr).put j c v)).length) ((xs.set t ((xs.getD t dXr).put j c v)).length) ((xs.set t ((xs.getD t dXr).put j c v)).isEmpty), .s 3 qR 1 0 ((xs.set t ((xs.getD t dXr).put j c v)).length) ((xs.set t ((xs.getD t dXr).put j c v)).length) ((xs.set t ((xs.getD t dXr).put j c v)).isEmpty), .s 4 qN 1 0 ((xs.set t ((xs.getD t dXr).put j c v)).length) ((xs.set t ((xs.getD t dXr).put j c v)).length) ((xs.set t ((xs.getD t dXr).put j c v)).isEmpty)] 42 .own]) (by rw [List.length_set, <- emp_put])) [4] [] 101 fun _ _ => rt trivial (()) trivial [0, 3, 2, 1, 4]
end Go.Proofs.YtagidoadfajpgaaGreat
namespace Go.Proofs.YtagidoadfajpgaaGreat
open Go.Abs
variable {nO : Nat}
set_option maxRecDepth 100000
attribute [local irreducible] GP ruP nxP acS gst cdP loP invS ent1 ent2 enP caA resV lgP agN
abbrev xv (x : Xr) (c i : Nat) : Va := (x.ws.getD i eRw.d).2.2.getD c eV.d
end Go.Proofs.YtagidoadfajpgaaGreat
namespace Go.Proofs.YtagidoadfajpgaaGreat
set_option maxHeartbeats 4000000
open Go.Abs
variable {nO : Nat}
set_option maxRecDepth 8000
attribute [local irreducible] GP ruP nxP acS gst cdP loP invS ent1 ent2 enP caA resV lgP agN
theorem cut_ctr {s : ByteArray} {n : Nat}  : Ctr Tryz.prog nO 62 [.o (.t s), .o (.i (n : Int))] [] (Unit) (fun _ => True) (fun r => .o (.t (cutS s n))) (fun r => []) := by
 refine fs 100 fun B => g0 fun _ => g0 fun _ => cdD ((s.size : Int) > (n : Int)) (fun h1 => ?_) (fun h1 => ?_)
 ·refine go (fun _ => (o2 (nz n) (by omega : (n : Int) <= ((s.size : Nat) : Int)))) fun _ => rtv trivial (()) trivial [] (.o (.t (s.extract 0 n))) (congrArg Value.string (by rw [cutS, if_pos (by omega)]))
 ·refine g0 fun _ => rtv trivial (()) trivial [] (.o (.t s)) (congrArg Value.string (by rw [cutS, if_neg (by omega)]))
theorem lrow_ctr {id : Int} {s : ByteArray}  : Ctr Tryz.prog nO 150 [.o (.i id), .o (.t s)] [] ((Nat)) (fun _ => True) (fun r => .o (.s 1 r 3 0 ((shopR id s).length) ((shopR id s).length) false)) (fun r => [vc eV 1 r (shopR id s) 26 .own false]) := by
 refine fs 100 fun B => g0 fun _ => g0 fun q102 => gh (blk_vec (g := 100) (q := (q102 100)) (cs := [.i 1, .i id, .t ⟨#[]⟩, .i 2, .i 0, .t s, .i 0, .i 0, .t ⟨#[]⟩, .i 0, .i 0, .t ⟨#[]⟩]) (t := 26) (m := .own) eV (shopR id s)) [0] [] 101 fun _ _ => rt trivial ((q102 100)) trivial [0]
end Go.Proofs.YtagidoadfajpgaaGreat
namespace Go.Proofs.YtagidoadfajpgaaGreat
set_option maxHeartbeats 4000000
open Go.Abs
variable {nO : Nat}
set_option maxRecDepth 100000
attribute [local irreducible] GP ruP nxP acS gst cdP loP invS ent1 ent2 enP caA resV lgP agN
def cutV (v : Va) : Va := ⟨v.k, v.n, cutS v.s 20⟩
def cutVs (l : List Va) (n : Nat) : List Va := (l.take n).map cutV
theorem cutVs_len {l : List Va} {n : Nat} : (cutVs l n).length = min n l.length := by unfold cutVs; rw [List.length_map, List.length_take]
theorem cutVs_succ {l : List Va} {i : Nat} (h : i < l.length) : cutVs l (i + 1) = cutVs l i ++ [cutV (l.getD i eV.d)] := by
 unfold cutVs
 rw [List.take_add_one, List.getElem?_eq_getElem h, List.map_append, getD_at h]; rfl
theorem cutVs_sz {l : List Va} {n j : Nat} (h : j < (cutVs l n).length) : ((cutVs l n).getD j eV.d).s.size <= 20 := by
 unfold cutVs at h ⊢
 rw [getD_at h, List.getElem_map]
 exact cutS_len
theorem lval_ctr {v : Va}  : Ctr Tryz.prog nO 20 [.a [.i v.k, .i v.n, .t v.s]] [] (Unit) (fun _ => True) (fun r => .a [.i ((cutV v).k), .i ((cutV v).n), .t ((cutV v).s)]) (fun r => []) := by
 refine fs 100 fun B => g0 fun q101 => g0 fun _ => cl (@cut_ctr _ v.s 20) [] [] 102 fun _ _ => g0 fun _ => g0 fun _ => rt trivial (()) trivial []
theorem lvals_ctr {qv cv : Nat} {zv : Bool} {vs : List Va} {tv : TypeId} {mv : Md} {zc : Bool} {n : Nat} (hzv : zv = true -> vs.length = 0) (hlv : vs.length < 9223372036854775808) (hnv : n < 1000000) : Ctr Tryz.prog nO 70 [.o (.s 6 qv 3 0 vs.length cv zv), .o (.i (n : Int))] [vc eV 6 qv vs tv mv zc] ((Nat)) (fun _ => True) (fun r => .o (.s 7 r 3 0 ((cutVs vs (min n vs.length)).length) ((cutVs vs (min n vs.length)).length) ((cutVs vs (min n vs.length)).isEmpty))) (fun r => [vc eV 7 r (cutVs vs (min n vs.length)) 26 .grown ((cutVs vs (min n vs.length)).isEmpty), vc eV 6 qv vs tv mv zc]) := by
 refine fs 100 fun B => g0 fun _ => g0 fun _ => g0 fun _ => gh (nil_vec 100 3 eV.f eV.d 26 .grown) [] [] 101 fun _ _ => sv 5 (v := .o (.v (.slice none 0 0))) (v' := .o (.s 100 0 3 0 ((cutVs vs 0).length) ((cutVs vs 0).length) ((cutVs vs 0).isEmpty))) rfl <| lp ((Nat) × (Nat)) [0, 1] (fun r => [(6, .o (.i (r.1 : Int))), (5, .o (.s 100 r.2 3 0 ((cutVs vs r.1).length) ((cutVs vs r.1).length) ((cutVs vs r.1).isEmpty)))]) [1] (fun r => [vc eV 100 r.2 (cutVs vs r.1) 26 .grown ((cutVs vs r.1).isEmpty)]) 121 (fun r => r.1 <= n /\ r.1 <= vs.length) (fun r => vs.length - r.1) (⟨0, 0⟩) ⟨Nat.zero_le _, Nat.zero_le _⟩ [0] (fun ⟨i, pq⟩ hx ag104 => ?_)
 try dsimp only at hx
 obtain ⟨hi1, hi2⟩ := hx
 refine g0 fun _ => cd (and (decide ((i : Int) < (vs.length : Int))) (decide ((i : Int) < (n : Int)))) (fun h1 => ?_) (fun h1 => ?_)
 ·have h1 : ((i : Int) < (vs.length : Int)) /\ ((i : Int) < (n : Int)) := by simpa using h1
  have hcl := cutVs_len (l := vs) (n := i)
  refine go (fun _ => (o4 (nz i) (by omega : (i : Int) < (vs.length : Int)) (zf hzv (show 0 < vs.length by omega) : zv = false) (by omega : i < vs.length))) fun _ => cl (@lval_ctr _ (vs.getD i eV.d)) [] [] 121 fun _ _ => g0 fun q108 => apd eV (cutVs vs i) [(cutV (vs.getD i eV.d))] (cutVs vs (i + 1)) 100 pq .grown ((cutVs vs i).isEmpty) ((cutVs vs (i + 1)).isEmpty) (.blk 121 (q108 121) [.i ((cutV (vs.getD i eV.d)).k), .i ((cutV (vs.getD i eV.d)).n), .t ((cutV (vs.getD i eV.d)).s)] 26 .own) (q108 121) 0 1 1 false 122 [1, 0] 123 26 (fun h _ => ne_of h) (by rw [cutVs_len]; simp only [List.length_cons, List.length_nil]; omega) (src_one rfl) (by rw [cutVs_succ (show i < vs.length by omega)]; simp) (cutVs_succ (by omega)) fun q109 => g0 fun _ => go (fun _ => (o2 (by omega : -9223372036854775808 <= (i : Int) + 1) (by omega : (i : Int) + 1 < 9223372036854775808))) fun _ => ag104 _ _ (⟨i + 1, q109⟩) (by first | omega | (simp only; omega)) (by dsimp only; exact ⟨by omega, by omega⟩) [0, 2] (by kernel_rfl) (by kernel_rfl)
 ·have h1 : ¬ (((i : Int) < (vs.length : Int)) /\ ((i : Int) < (n : Int))) := by simpa using h1
  have hie : i = (min n vs.length) := by omega
  refine g0 fun _ => gh (ge_re (l := [vc eV 100 pq (cutVs vs i) 26 .grown ((cutVs vs i).isEmpty)]) (l' := [vc eV 100 pq (cutVs vs (min n vs.length)) 26 .grown ((cutVs vs (min n vs.length)).isEmpty)]) (by rw [hie])) [0] [] 121 fun _ _ => rtv trivial (pq) trivial [0, 1] (.o (.s 100 pq 3 0 ((cutVs vs i).length) ((cutVs vs i).length) ((cutVs vs i).isEmpty))) (by rw [hie]; rfl)
end Go.Proofs.YtagidoadfajpgaaGreat
namespace Go.Proofs.YtagidoadfajpgaaGreat
open Go.Abs
variable {nO : Nat}
set_option maxRecDepth 100000
attribute [local irreducible] GP ruP nxP acS gst cdP loP invS ent1 ent2 enP caA resV lgP agN
end Go.Proofs.YtagidoadfajpgaaGreat
namespace Go.Proofs.YtagidoadfajpgaaGreat
set_option maxHeartbeats 4000000
open Go.Abs
variable {nO : Nat}
set_option maxRecDepth 100000
attribute [local irreducible] GP ruP nxP acS gst cdP loP invS ent1 ent2 enP caA resV lgP agN
theorem wf_atP {m : List Sp} {k : Nat} (h : WF (-1) m) (hk : k < m.length) : 0 <= (m.getD k eP.d).1 /\ (m.getD k eP.d).1 < (m.getD k eP.d).2 /\ (m.getD k eP.d).2 <= 65536 := by
 rw [getD_at hk]
 have := wf_mem h _ (List.getElem_mem hk)
 omega
theorem allE_tP {m : List Sp} {k : Nat} (h : k < m.length) : (allE (m.take (k + 1))).length = (allE (m.take k)).length + ((m.getD k eP.d).2 - (m.getD k eP.d).1).toNat := allE_take h
abbrev eOne : Int -> List SV := fun x => [.o (.i x)]
theorem allE_he {m : List Sp} {k j : Nat} (h : k < m.length) (hj : j < ((m.getD k eP.d).2 - (m.getD k eP.d).1).toNat) : ((allE m).map eOne)[(allE (m.take k)).length + j]? = some [SV.o (.i ((m.getD k eP.d).1 + (j : Int)))] := by
 rw [List.getElem?_map]
 have e : (allE m)[(allE (m.take k)).length + j]? = some ((m.getD k eP.d).1 + (j : Int)) := allE_at h hj
 rw [e]; rfl
theorem allIt_ctr {q qm cm : Nat} {m : List Sp} {tm : TypeId} {mm : Md} (hw : WF (-1) m) (y : Value) (Inv : Nat -> As) (Stop : As) (hT : Takes Tryz.prog nO y ((allE m).map eOne) Inv Stop) :
  Ctr Tryz.prog nO 127 [.o (.v y), .o (.p 1 q 0 0 0)] [.as (Inv 0), .blk 1 q [.s 2 qm 2 0 m.length cm m.isEmpty] 124 .own, vc eP 2 qm m tm mm m.isEmpty] Bool (fun _ => True) (fun _ => .o (.v undef)) (fun b => [.as (cond b (Inv ((allE m).map eOne).length) Stop), .blk 1 q [.s 2 qm 2 0 m.length cm m.isEmpty] 124 .own, vc eP 2 qm m tm mm m.isEmpty]) := by
 refine fs 100 (fun B => ?_)
 have hml := wf_short hw
 refine g0 fun _ => gh (ge_re (l := [.as (Inv 0)]) (l' := [.as (Inv (allE (m.take 0)).length)]) rfl) [0] [] 100 fun _ _ => lp ((Nat)) [0, 7, 8] (fun r => [(9, .o (.i (r : Int)))]) [1, 2] (fun r => [.as (Inv (allE (m.take r)).length)]) 120 (fun r => r <= m.length) (fun r => m.length - r) (0) (Nat.zero_le _) [0] (fun k hx ag102 => ?_)
 have hkm := hx
 refine g0 fun _ => cdD ((k : Int) < (m.length : Int)) (fun h1 => ?_) (fun h1 => ?_)
 ·have hft := wf_atP hw (k := k) (by omega)
  have hak := allE_tP (m := m) (k := k) (by omega)
  refine go (fun q104 => (o4 (nz k) (by omega : (k : Int) < (m.length : Int)) (zfe (show 0 < m.length by omega) : m.isEmpty = false) (by omega : k < m.length))) fun q104 => go (fun _ => (o2 (by decide : (0 : Int) <= 0) (by decide : (0 : Int) < 2))) fun _ => sv 5 (v := .o (.i ((m.getD k eP.d).1))) (v' := .o (.i ((m.getD k eP.d).1 + (((0 : Nat)) : Int)))) (congrArg (Value.int .i64) (by omega)) <| gh (ge_re (l := [.as (Inv (allE (m.take k)).length)]) (l' := [.as (Inv ((allE (m.take k)).length + 0))]) rfl) [1] [] 121 fun _ _ => lp ((Nat)) [0, 4, 7, 8, 9] (fun r => [(5, .o (.i ((m.getD k eP.d).1 + ((r : Nat) : Int))))]) [1, 2, 3] (fun r => [.as (Inv ((allE (m.take k)).length + r))]) 141 (fun r => (r : Int) <= (m.getD k eP.d).2 - (m.getD k eP.d).1) (fun r => ((m.getD k eP.d).2 - (m.getD k eP.d).1).toNat - r) (0) (by omega) [0] (fun j hx ag106 => ?_)
  have hjm := hx
  refine go (fun _ => (o2 (by decide : (0 : Int) <= 1) (by decide : (1 : Int) < 2))) fun _ => cdD ((m.getD k eP.d).1 + ((j : Nat) : Int) < (m.getD k eP.d).2) (fun h2 => ?_) (fun h2 => ?_)
  ·refine g0 fun _ => cly (hT ((allE (m.take k)).length + j) _ (allE_he (by omega) (by omega)) ) [0] [] 141 fun b _ => g0 fun _ => cd (!b) (fun h3 => ?_) (fun h3 => ?_)
   ·have hb : b = false := by cases b; rfl; cases h3
    refine gh (ge_re (l := [.as (cond b (Inv ((allE (m.take k)).length + j + 1)) Stop)]) (l' := [.as (cond false (Inv ((allE m).map eOne).length) Stop)]) (by rw [hb]; rfl)) [0] [] 141 fun _ _ => rt trivial (false) trivial [0, 2, 3]
   ·have hb : b = true := by cases b; cases h3; rfl
    refine gh (ge_re (l := [.as (cond b (Inv ((allE (m.take k)).length + j + 1)) Stop)]) (l' := [.as (Inv ((allE (m.take k)).length + (j + 1)))]) (by rw [hb]; rfl)) [0] [] 141 fun _ _ => go (fun _ => (o2 (by omega : -9223372036854775808 <= ((m.getD k eP.d).1 + ((j : Nat) : Int)) + 1) (by omega : ((m.getD k eP.d).1 + ((j : Nat) : Int)) + 1 < 9223372036854775808))) fun _ => sv 5 (v := .o (.i (((m.getD k eP.d).1 + ((j : Nat) : Int)) + 1))) (v' := .o (.i ((m.getD k eP.d).1 + ((j + 1 : Nat) : Int)))) (congrArg (Value.int .i64) (by omega)) <| ag106 _ _ (j + 1) (by omega) (by omega) [0, 1, 2, 3] (by kernel_rfl) (by kernel_rfl)
  ·have hje : j = ((m.getD k eP.d).2 - (m.getD k eP.d).1).toNat := by omega
   refine gh (ge_re (l := [.as (Inv ((allE (m.take k)).length + j))]) (l' := [.as (Inv (allE (m.take (k + 1))).length)]) (by rw [hak, hje])) [0] [] 141 fun _ _ => go (fun _ => (o2 (by omega : -9223372036854775808 <= (k : Int) + 1) (by omega : (k : Int) + 1 < 9223372036854775808))) fun _ => ag102 _ _ (k + 1) (by first | omega | (simp only; omega)) (by omega) [0, 2, 3] (by kernel_rfl) (by kernel_rfl)
 ·have hke : k = m.length := by omega
  refine gh (ge_re (l := [.as (Inv (allE (m.take k)).length)]) (l' := [.as (cond true (Inv ((allE m).map eOne).length) Stop)]) (by rw [hke, List.take_length, List.length_map]; rfl)) [0] [] 120 fun _ _ => rt trivial (true) trivial [0, 1, 2]
theorem mall_ctr {qm cm : Nat} {m : List Sp}  : Ctr Tryz.prog nO 76 [.a [.s 1 qm 2 0 m.length cm m.isEmpty]] [] ((Nat)) (fun _ => True) (fun r => .o (.v (.func (.func 127) #[] #[.pointer (some ⟨r, 0, none⟩)]))) (fun r => [.blk 2 r [.s 1 qm 2 0 m.length cm m.isEmpty] 124 .own]) := by
 refine fs 100 fun B => g0 fun q101 => g0 fun _ => rt trivial ((q101 100)) trivial [0]
end Go.Proofs.YtagidoadfajpgaaGreat
namespace Go.Proofs.YtagidoadfajpgaaGreat
open Go.Abs
variable {nO : Nat}
set_option maxRecDepth 100000
attribute [local irreducible] GP ruP nxP acS gst cdP loP invS ent1 ent2 enP caA resV lgP agN
end Go.Proofs.YtagidoadfajpgaaGreat
namespace Go.Proofs.YtagidoadfajpgaaGreat
open Go.Abs
variable {nO : Nat}
theorem col_at {x : Xr} {c i : Nat} (h : i < x.ws.length) : (x.s.col c)[i]? = some (xv x c i) := by
 show ((x.ws.map Prod.snd).map fun r => r.2.getD c eV.d)[i]? = _
 rw [List.map_map, List.getElem?_map, List.getElem?_eq_getElem h]
 unfold xv
 rw [getD_at h]; rfl
theorem col_len {x : Xr} {c : Nat} : (x.s.col c).length = x.ws.length := by
 show ((x.ws.map Prod.snd).map fun r => r.2.getD c eV.d).length = _
 rw [List.length_map, List.length_map]
end Go.Proofs.YtagidoadfajpgaaGreat
namespace Go.Proofs.YtagidoadfajpgaaGreat
set_option maxHeartbeats 4000000
open Go.Abs
variable {nO : Nat}
set_option maxRecDepth 100000
attribute [local irreducible] GP ruP nxP acS gst cdP loP invS ent1 ent2 enP caA resV lgP agN
def Xr.cp (x : Xr) (qr : Nat) (ws : List (Nat × Rw)) : Xr := { x with qr := qr, ws := ws }
def Xr.lk (x y : Xr) : Prop := ∃ qr ws, y = x.cp qr ws /\ ws.map Prod.snd = x.ws.map Prod.snd
structure lkP (xs ys : List Xr) : Prop where
 le : ys.length <= xs.length
 lk : ∀ j, j < ys.length -> (xs.getD j dXr).lk (ys.getD j dXr)
theorem lkP.nil {xs : List Xr} : lkP xs [] := ⟨Nat.zero_le _, fun _ h => absurd h (Nat.not_lt_zero _)⟩
theorem lkP.snoc {xs ys : List Xr} {i qr : Nat} {ws : List (Nat × Rw)} (h : lkP xs ys) (e : i = ys.length) (hl : i < xs.length) (hw : ws.map Prod.snd = (xs.getD i dXr).ws.map Prod.snd) : lkP xs (ys ++ [(xs.getD i dXr).cp qr ws]) := by
 subst e
 refine ⟨by rw [List.length_append]; simp; omega, fun j hj => ?_⟩
 by_cases e : j < ys.length
 ·have e2 : (ys ++ [(xs.getD ys.length dXr).cp qr ws]).getD j dXr = ys.getD j dXr := by rw [getD_at hj, getD_at e, List.getElem_append_left e]
  rw [e2]; exact h.lk j e
 ·have : j = ys.length := by rw [List.length_append] at hj; simp at hj; omega
  subst this
  have e2 : (ys ++ [(xs.getD ys.length dXr).cp qr ws]).getD ys.length dXr = (xs.getD ys.length dXr).cp qr ws := by rw [getD_at hj, List.getElem_append_right (Nat.le_refl _)]; simp
  rw [e2]; exact ⟨qr, ws, rfl, hw⟩
theorem w_snoc {w l : List (Nat × Rw)} {k q : Nat} (h : w.map Prod.snd = (l.take k).map Prod.snd) (hk : k < l.length) : (w ++ [(q, ((l.getD k eRw.d).2.1, (l.getD k eRw.d).2.2))]).map Prod.snd = (l.take (k + 1)).map Prod.snd := by
 rw [List.map_append, h, List.take_add_one, List.getElem?_eq_getElem hk, List.map_append, getD_at hk]; rfl
theorem rcopy_ctr {q qS qR qN : Nat} {xs : List Xr} {mS mR mN : Md} (hxp : ∀ i, i < xs.length -> xP (xs.getD i dXr)) (hxl : xs.length < 1000000) : Ctr Tryz.prog nO 31 [.o (.p 1 q 0 0 0)] [.blk 1 q [.s 2 qS 4 0 xs.length xs.length xs.isEmpty, .s 3 qR 1 0 xs.length xs.length xs.isEmpty, .s 4 qN 1 0 xs.length xs.length xs.isEmpty] 42 .own, vc eTb 2 qS xs 46 mS xs.isEmpty, vc eRs 3 qR xs 55 mR xs.isEmpty, vc eI 4 qN (xs.map fun x : Xr => (x.n : Int)) 3 mN xs.isEmpty, .as (bigA xA xs)] ((Nat) × (Nat) × (Nat) × (Nat) × (List Xr)) (fun r => lkP xs r.2.2.2.2 /\ r.2.2.2.2.length = xs.length) (fun r => .o (.p 11 r.1 0 0 0)) (fun r => [.blk 1 q [.s 2 qS 4 0 xs.length xs.length xs.isEmpty, .s 3 qR 1 0 xs.length xs.length xs.isEmpty, .s 4 qN 1 0 xs.length xs.length xs.isEmpty] 42 .own, vc eTb 2 qS xs 46 mS xs.isEmpty, vc eRs 3 qR xs 55 mR xs.isEmpty, vc eI 4 qN (xs.map fun x : Xr => (x.n : Int)) 3 mN xs.isEmpty, .as (bigA xA xs), .blk 11 r.1 [.s 12 r.2.1 4 0 xs.length xs.length xs.isEmpty, .s 13 r.2.2.1 1 0 r.2.2.2.2.length r.2.2.2.2.length r.2.2.2.2.isEmpty, .s 14 r.2.2.2.1 1 0 xs.length xs.length xs.isEmpty] 42 .own, vc eTb 12 r.2.1 xs 46 .grown xs.isEmpty, vc eRs 13 r.2.2.1 r.2.2.2.2 55 .grown r.2.2.2.2.isEmpty, vc eI 14 r.2.2.2.1 (xs.map fun x : Xr => (x.n : Int)) 3 .grown xs.isEmpty, .as (bigA xA r.2.2.2.2)]) := by
 refine fs 100 (fun B => ?_)
 have hnl : (xs.map fun x : Xr => (x.n : Int)).length = xs.length := List.length_map ..
 refine g0 fun _ => g0 fun _ => gh (nil_vec 100 4 eTb.f eTb.d 46 .grown) [] [] 101 fun _ _ => apd eTb [] xs xs 100 0 .grown true xs.isEmpty (vc eTb 2 qS xs 46 mS xs.isEmpty) qS 0 xs.length xs.length xs.isEmpty 101 [0, 2] 102 46 (fun h => by cases h) (by simp only [List.length_nil]; omega) src_vec (by simp) rfl fun q103 => g0 fun _ => gh (nil_vec 102 1 eI.f eI.d 3 .grown) [] [] 103 fun _ _ => apd eI [] (xs.map fun x : Xr => (x.n : Int)) (xs.map fun x : Xr => (x.n : Int)) 102 0 .grown true xs.isEmpty (vc eI 4 qN (xs.map fun x : Xr => (x.n : Int)) 3 mN xs.isEmpty) qN 0 xs.length xs.length xs.isEmpty 103 [0, 5] 104 3 (fun h => by cases h) (by simp only [List.length_nil]; omega) src_vec (by simp) rfl (fun q105 => ?_) (hn := hnl.symm)
 refine g0 fun q106 => g0 fun _ => gh (nil_vec 105 1 eRs.f eRs.d 55 .grown) [] [] 106 fun _ _ => gh (ge_re (l := [.blk 104 (q106 104) [.s 101 q103 4 0 xs.length xs.length xs.isEmpty, .v (.slice none 0 0), .s 103 q105 1 0 ((xs.map fun x : Xr => (x.n : Int)).length) ((xs.map fun x : Xr => (x.n : Int)).length) xs.isEmpty] 42 .own]) (l' := [.blk 104 (q106 104) [.s 101 q103 4 0 xs.length xs.length xs.isEmpty, .s 105 0 1 0 (([] : List Xr).length) (([] : List Xr).length) (([] : List Xr).isEmpty), .s 103 q105 1 0 ((xs.map fun x : Xr => (x.n : Int)).length) ((xs.map fun x : Xr => (x.n : Int)).length) xs.isEmpty] 42 .own]) (by rfl)) [1] [] 106 fun _ _ => gh (ge_re (l := [.blk 104 (q106 104) [.s 101 q103 4 0 xs.length xs.length xs.isEmpty, .s 105 0 1 0 (([] : List Xr).length) (([] : List Xr).length) (([] : List Xr).isEmpty), .s 103 q105 1 0 ((xs.map fun x : Xr => (x.n : Int)).length) ((xs.map fun x : Xr => (x.n : Int)).length) xs.isEmpty] 42 .own]) (l' := [.blk 104 (q106 104) [.s 101 q103 4 0 xs.length xs.length xs.isEmpty, .s 105 0 1 0 (([] : List Xr).length) (([] : List Xr).length) (([] : List Xr).isEmpty), .s 103 q105 1 0 xs.length xs.length xs.isEmpty] 42 .own]) (by rw [hnl])) [0] [] 106 fun _ _ => gh (big_nil (I := xA)) [] [] 106 fun _ _ => lp ((Nat) × (Nat) × (List Xr)) [0, 3] (fun r => [(4, .o (.i (r.1 : Int)))]) [3, 4, 5, 6, 7, 8, 9] (fun r => [.blk 104 (q106 104) [.s 101 q103 4 0 xs.length xs.length xs.isEmpty, .s 105 r.2.1 1 0 r.2.2.length r.2.2.length r.2.2.isEmpty, .s 103 q105 1 0 xs.length xs.length xs.isEmpty] 42 .own, vc eRs 105 r.2.1 r.2.2 55 .grown r.2.2.isEmpty, .as (bigA xA r.2.2)]) 126 (fun r => r.1 = r.2.2.length /\ lkP xs r.2.2) (fun r => xs.length - r.1) (⟨0, 0, ([] : List Xr)⟩) ⟨rfl, lkP.nil⟩ [1, 2, 0] (fun ⟨i, qy, ys⟩ hx ag108 => ?_)
 try dsimp only at hx
 obtain ⟨hi, hlk⟩ := hx
 refine g0 fun _ => cdD ((i : Int) < (xs.length : Int)) (fun h1 => ?_) (fun h1 => ?_)
 ·have hxi := hxp i (by omega)
  have hwl := hxi.wl
  refine gh (big_out (I := xA) (l := xs) i dXr (by omega)) [9] [] 126 fun _ _ => gh (ge_un (l := xL (xs.getD i dXr))) [0] [] 126 fun _ _ => gh (vec_two (E := eC) (g := 931) (q := (xs.getD i dXr).qa) (xs := (xs.getD i dXr).F.xa) (t := (xs.getD i dXr).ta) (z := (xs.getD i dXr).za)) [0] [] 126 fun _ _ => gh (vec_two (E := (eD 906)) (g := 932) (q := (xs.getD i dXr).qA) (xs := (xs.getD i dXr).da) (t := (xs.getD i dXr).tA) (z := (xs.getD i dXr).zA)) [2] [] 126 fun _ _ => gh (ge_dup (I := (bigA (lefA 9) (xs.getD i dXr).da)) (imm_big fun _ => imm_lef)) [4] [] 126 fun _ _ => g0 fun _ => g0 fun _ => gh (nil_vec 126 2 eRw.f eRw.d 58 .grown) [] [] 127 fun _ _ => sv 5 (v := .o (.v (.slice none 0 0))) (v' := .o (.s 126 0 2 0 (([] : List (Nat × Rw)).length) (([] : List (Nat × Rw)).length) (([] : List (Nat × Rw)).isEmpty))) rfl <| gh (big_nil (I := valA)) [] [] 127 fun _ _ => lp ((Nat) × (Nat) × (List (Nat × Rw))) [0, 3, 4] (fun r => [(6, .o (.i (r.1 : Int))), (5, .o (.s 126 r.2.1 2 0 r.2.2.length r.2.2.length r.2.2.isEmpty))]) [2, 3, 4, 5, 6, 7, 8, 9, 10, 11, 12, 13, 14, 15, 16, 17, 18, 19] (fun r => [vc eRw 126 r.2.1 r.2.2 58 .grown r.2.2.isEmpty, .as (bigA valA r.2.2)]) 147 (fun r => r.1 = r.2.2.length /\ r.1 <= (xs.getD i dXr).ws.length /\ r.2.2.map Prod.snd = ((xs.getD i dXr).ws.take r.1).map Prod.snd) (fun r => (xs.getD i dXr).ws.length - r.1) (⟨0, 0, ([] : List (Nat × Rw))⟩) ⟨rfl, Nat.zero_le _, rfl⟩ [1, 0] (fun ⟨k, qw, w⟩ hx ag112 => ?_)
  try dsimp only at hx
  obtain ⟨hk, hkl, hwk⟩ := hx
  refine go (fun _ => (o4 (nz i) (by omega : (i : Int) < (xs.length : Int)) (zfe (show 0 < xs.length by omega) : xs.isEmpty = false) (by omega : i < xs.length))) fun _ => cdD ((k : Int) < (((xs.getD i dXr).ws.length : Nat) : Int)) (fun h2 => ?_) (fun h2 => ?_)
  ·have hrl := hxi.rl _ (getD_mem (d := eRw.d) (j := k) (by omega))
   have hfx := hxi.fm.xl
   refine gh (big_out (I := valA) (l := (xs.getD i dXr).ws) k eRw.d (by omega)) [9] [] 147 fun _ _ => gh (ge_op (c := vc eV 921 (((xs.getD i dXr).ws.getD k eRw.d).1) (((xs.getD i dXr).ws.getD k eRw.d).2.2) 26 .grown (((xs.getD i dXr).ws.getD k eRw.d).2.2.isEmpty)) (I := valA ((xs.getD i dXr).ws.getD k eRw.d))) [0] [] 147 fun _ _ => go (fun _ => (oc (nz i) (by omega : (i : Int) < (xs.length : Int)) (zfe (show 0 < xs.length by omega) : xs.isEmpty = false) (by omega : i < xs.length) (nz k) (by omega : (k : Int) < (((xs.getD i dXr).ws.length : Nat) : Int)) (oc (zfe (show 0 < (xs.getD i dXr).ws.length by omega) : (xs.getD i dXr).ws.isEmpty = false) (by omega : k < ((xs.getD i dXr).ws).length) (nz i) (by omega : (i : Int) < (xs.length : Int)) (zfe (show 0 < xs.length by omega) : xs.isEmpty = false) (by omega : i < xs.length) (o4 (nz k) (by omega : (k : Int) < (((xs.getD i dXr).ws.length : Nat) : Int)) (zfe (show 0 < (xs.getD i dXr).ws.length by omega) : (xs.getD i dXr).ws.isEmpty = false) (by omega : k < ((xs.getD i dXr).ws).length))))) fun _ => gh (nil_vec 147 3 eV.f eV.d 26 .grown) [] [] 148 fun _ _ => apd eV [] (((xs.getD i dXr).ws.getD k eRw.d).2.2) (((xs.getD i dXr).ws.getD k eRw.d).2.2) 147 0 .grown true (((xs.getD i dXr).ws.getD k eRw.d).2.2.isEmpty) (vc eV 921 (((xs.getD i dXr).ws.getD k eRw.d).1) (((xs.getD i dXr).ws.getD k eRw.d).2.2) 26 .grown (((xs.getD i dXr).ws.getD k eRw.d).2.2.isEmpty)) ((((xs.getD i dXr).ws).getD k eRw.d).1) 0 ((((xs.getD i dXr).ws).getD k eRw.d).2.2.length) ((((xs.getD i dXr).ws).getD k eRw.d).2.2.length) (((xs.getD i dXr).ws).getD k eRw.d).2.2.isEmpty 148 [0, 1] 149 26 (fun h => by cases h) (by simp only [List.length_nil]; omega) src_vec (by simp) rfl fun q115 => g0 fun q116 => apd eRw w [(q115, ((((xs.getD i dXr).ws.getD k eRw.d).2.1, ((xs.getD i dXr).ws.getD k eRw.d).2.2) : Rw))] (w ++ [(q115, ((((xs.getD i dXr).ws.getD k eRw.d).2.1, ((xs.getD i dXr).ws.getD k eRw.d).2.2) : Rw))]) 126 qw .grown w.isEmpty ((w ++ [(q115, ((((xs.getD i dXr).ws.getD k eRw.d).2.1, ((xs.getD i dXr).ws.getD k eRw.d).2.2) : Rw))]).isEmpty) (.blk 149 (q116 149) [.i ((((xs.getD i dXr).ws).getD k eRw.d).2.1 : Int), .s 148 q115 3 0 ((((xs.getD i dXr).ws.getD k eRw.d).2.2).length) ((((xs.getD i dXr).ws.getD k eRw.d).2.2).length) (((xs.getD i dXr).ws.getD k eRw.d).2.2.isEmpty)] 58 .own) (q116 149) 0 1 1 false 150 [4, 0] 151 58 (fun h _ => ne_of h) (by simp only [List.length_cons, List.length_nil]; omega) (src_one rfl) (by simp) rfl fun q117 => gh (ge_sh (c := vc eV 148 q115 (((xs.getD i dXr).ws.getD k eRw.d).2.2) 26 .grown (((xs.getD i dXr).ws.getD k eRw.d).2.2.isEmpty)) (I := valA (q115, ((((xs.getD i dXr).ws.getD k eRw.d).2.1, ((xs.getD i dXr).ws.getD k eRw.d).2.2) : Rw)))) [2] [] 151 fun _ _ => gh (big_snoc (I := valA) (l := w) (x := (q115, ((((xs.getD i dXr).ws.getD k eRw.d).2.1, ((xs.getD i dXr).ws.getD k eRw.d).2.2) : Rw)))) [0, 5] [] 151 fun _ _ => gh (ge_sh (c := vc eV 921 (((xs.getD i dXr).ws.getD k eRw.d).1) (((xs.getD i dXr).ws.getD k eRw.d).2.2) 26 .grown (((xs.getD i dXr).ws.getD k eRw.d).2.2.isEmpty)) (I := valA ((xs.getD i dXr).ws.getD k eRw.d))) [3] [] 151 fun _ _ => gh (big_bk (I := valA) (l := (xs.getD i dXr).ws) k eRw.d (by omega)) [0, 4] [] 151 fun _ _ => g0 fun _ => go (fun _ => (o2 (by omega : -9223372036854775808 <= (k : Int) + 1) (by omega : (k : Int) + 1 < 9223372036854775808))) fun _ => ag112 _ _ (⟨k + 1, q117, (w ++ [(q115, ((((xs.getD i dXr).ws.getD k eRw.d).2.1, ((xs.getD i dXr).ws.getD k eRw.d).2.2) : Rw))])⟩) (by first | omega | (simp only; omega)) (by dsimp only; exact ⟨by rw [List.length_append]; simp; omega, by omega, w_snoc hwk (by omega)⟩) [2, 1, 4, 5, 6, 7, 8, 9, 10, 0, 11, 12, 13, 14, 15, 16, 17, 18, 19, 20] (by kernel_rfl) (by kernel_rfl)
  ·have hke : k = (xs.getD i dXr).ws.length := by omega
   have hwm : w.map Prod.snd = (xs.getD i dXr).ws.map Prod.snd := by rw [hwk, hke, List.take_length]
   refine gh (ge_all (l := xL ((xs.getD i dXr).cp qw w))) [6, 4, 2, 0, 1] [] 147 fun _ _ => gh (big_snoc (I := xA) (l := ys) (x := ((xs.getD i dXr).cp qw w))) [0, 9] [] 147 fun _ _ => gh (ge_all (l := xL (xs.getD i dXr))) [3, 2, 1, 4, 5] [] 147 fun _ _ => gh (big_bk (I := xA) (l := xs) i dXr (by omega)) [0, 2] [] 147 fun _ _ => g0 fun q120 => apd eRs ys [((xs.getD i dXr).cp qw w)] (ys ++ [((xs.getD i dXr).cp qw w)]) 105 qy .grown ys.isEmpty ((ys ++ [((xs.getD i dXr).cp qw w)]).isEmpty) (.blk 147 (q120 147) [.s 126 qw 2 0 w.length w.length w.isEmpty] 55 .own) (q120 147) 0 1 1 false 148 [4, 0] 149 55 (fun h _ => ne_of h) (by simp only [List.length_cons, List.length_nil]; omega) (src_one rfl) (by simp) rfl fun q121 => g0 fun _ => go (fun _ => (o2 (by omega : -9223372036854775808 <= (i : Int) + 1) (by omega : (i : Int) + 1 < 9223372036854775808))) fun _ => ag108 _ _ (⟨i + 1, q121, (ys ++ [((xs.getD i dXr).cp qw w)])⟩) (by first | omega | (simp only; omega)) (by dsimp only; exact ⟨by rw [List.length_append]; simp; omega, hlk.snoc hi (by omega) hwm⟩) [4, 0, 3, 5, 6, 7, 8, 9, 10, 2] (by kernel_rfl) (by kernel_rfl)
 ·have hyl : ys.length = xs.length := by have := hlk.le; omega
  refine g0 fun _ => rt trivial (⟨(q106 104), q103, qy, q105, ys⟩) ⟨hlk, hyl⟩ [7, 6, 8, 4, 9, 0, 5, 1, 3, 2]
end Go.Proofs.YtagidoadfajpgaaGreat
namespace Go.Proofs.YtagidoadfajpgaaGreat
open Go.Abs
theorem Xr.ins_s {x : Xr} {qr q : Nat} {vs : List Va} : (x.ins qr q vs).s = x.s.ins vs := by
 unfold Xr.s Xr.ins Ts.ins
 simp
theorem Xr.del_s {x : Xr} {qr j : Nat} : (x.del qr j).s = x.s.del j := by
 show (⟨(x.ws.eraseIdx j).map Prod.snd, x.n⟩ : Ts) = ⟨(x.ws.map Prod.snd).eraseIdx j, x.n⟩
 rw [List.eraseIdx_eq_take_drop_succ, List.eraseIdx_eq_take_drop_succ, List.map_append, List.map_take, List.map_drop]
theorem Xr.put_s {x : Xr} {j c : Nat} {v : Va} : (x.put j c v).s = x.s.put j c v := by
 have e : (x.ws.map Prod.snd).getD j dR = (x.ws.getD j eRw.d).2 := by
  rw [List.getD_eq_getElem?_getD, List.getElem?_map, List.getD_eq_getElem?_getD]
  cases x.ws[j]? <;> rfl
 show (⟨(x.ws.set j _).map Prod.snd, x.n⟩ : Ts) = ⟨(x.ws.map Prod.snd).set j _, x.n⟩
 rw [List.map_set]
 show (⟨(x.ws.map Prod.snd).set j ((x.ws.getD j eRw.d).2.1, (x.ws.getD j eRw.d).2.2.set c v), x.n⟩ : Ts) = ⟨(x.ws.map Prod.snd).set j (((x.ws.map Prod.snd).getD j dR).1, ((x.ws.map Prod.snd).getD j dR).2.set c v), x.n⟩
 rw [e]
theorem xP.ins {x : Xr} (h : xP x) {qr q : Nat} {vs : List Va} (hl : vs.length = x.F.xa.length) (hn : x.ws.length + 1 < 100000) : xP (x.ins qr q vs) :=
 ⟨h.fm, h.za, h.zA, h.da, by show (x.ws ++ _).length < _; rw [List.length_append]; exact hn, fun w hw => by
  rcases List.mem_append.1 (show w ∈ x.ws ++ [_] from hw) with h2 | h2
  ·exact h.rl w h2
  ·obtain rfl := List.mem_singleton.1 h2; exact hl⟩
theorem xP.del {x : Xr} (h : xP x) {qr j : Nat} : xP (x.del qr j) :=
 ⟨h.fm, h.za, h.zA, h.da, Nat.lt_of_le_of_lt (List.length_eraseIdx_le ..) h.wl, fun w hw => h.rl w (List.mem_of_mem_eraseIdx hw)⟩
theorem xP.put {x : Xr} (h : xP x) {j c : Nat} {v : Va} (hj : j < x.ws.length) : xP (x.put j c v) :=
 ⟨h.fm, h.za, h.zA, h.da, by show (x.ws.set _ _).length < _; rw [List.length_set]; exact h.wl, fun w hw => by
  rcases List.mem_or_eq_of_mem_set (show w ∈ x.ws.set _ _ from hw) with h2 | h2
  ·exact h.rl w h2
  ·subst h2
   show ((x.ws.getD j eRw.d).2.2.set c v).length = _
   rw [List.length_set]; exact h.rl _ (getD_mem hj)⟩
structure Dr where
 qS : Nat
 qR : Nat
 qN : Nat
 mS : Md
 mR : Md
 mN : Md
 xs : List Xr
structure dbP (l : List (Fm × Ts)) (y : Dr) : Prop where
 ls : y.xs.map (fun x => (x.F, x.s)) = l
 ok : ∀ i, i < y.xs.length -> xP (y.xs.getD i dXr)
 mR : y.mR.mine = true
 mN : y.mN.mine = true
 le : y.xs.length < 100000
theorem dbP.put {l : List (Fm × Ts)} {y : Dr} (h : dbP l y) {t : Nat} {x' : Xr} (hx : xP x') (v : Fm × Ts) (e : (x'.F, x'.s) = v) : dbP (l.set t v) { y with xs := y.xs.set t x' } :=
 ⟨by rw [<- h.ls, <- e, List.map_set], fun i hi => by
  have hi2 : i < y.xs.length := by simpa using hi
  show xP ((y.xs.set t x').getD i dXr)
  rw [getD_at (by simpa using hi2), List.getElem_set]
  split
  ·exact hx
  ·have := h.ok i hi2
   rwa [getD_at hi2] at this, h.mR, h.mN, by show (y.xs.set t x').length < _; rw [List.length_set]; exact h.le⟩
theorem dbP.at {l : List (Fm × Ts)} {y : Dr} (h : dbP l y) {t : Nat} {F : Fm} {s : Ts} (e : l[t]? = some (F, s)) : t < y.xs.length /\ (y.xs.getD t dXr).F = F /\ (y.xs.getD t dXr).s = s := by
 rw [<- h.ls, List.getElem?_map, Option.map_eq_some_iff] at e
 obtain ⟨x, hx, e⟩ := e
 obtain ⟨ht, rfl⟩ := List.getElem?_eq_some_iff.1 hx
 rw [getD_at ht]
 simp only [Prod.mk.injEq] at e
 exact ⟨ht, e.1, e.2⟩
theorem lkP.same {xs ys : List Xr} (h : lkP xs ys) (hl : ys.length = xs.length) : ys.map (fun x => (x.F, x.s)) = xs.map (fun x => (x.F, x.s)) := by
 apply List.ext_getElem
 ·rw [List.length_map, List.length_map, hl]
 ·intro j h1 h2
  have hj : j < ys.length := by simpa using h1
  have hj2 : j < xs.length := by omega
  obtain ⟨qr, ws, e, hw⟩ := h.lk j hj
  rw [getD_at hj, getD_at hj2] at e
  rw [getD_at hj2] at hw
  rw [List.getElem_map, List.getElem_map, e]
  show ((xs[j]).F, (⟨ws.map Prod.snd, (xs[j]).n⟩ : Ts)) = ((xs[j]).F, (⟨(xs[j]).ws.map Prod.snd, (xs[j]).n⟩ : Ts))
  rw [hw]
end Go.Proofs.YtagidoadfajpgaaGreat
namespace Go.Proofs.YtagidoadfajpgaaGreat
open Go.Abs
variable {nO : Nat}
set_option maxRecDepth 100000
attribute [local irreducible] GP ruP nxP acS gst cdP loP invS ent1 ent2 enP caA resV lgP agN
def dbL (q : Nat) (y : Dr) : List Ch := [.blk 1 q [.s 2 y.qS 4 0 y.xs.length y.xs.length y.xs.isEmpty, .s 3 y.qR 1 0 y.xs.length y.xs.length y.xs.isEmpty, .s 4 y.qN 1 0 y.xs.length y.xs.length y.xs.isEmpty] 42 .own, vc eTb 2 y.qS y.xs 46 y.mS y.xs.isEmpty, vc eRs 3 y.qR y.xs 55 y.mR y.xs.isEmpty, vc eI 4 y.qN (y.xs.map fun x : Xr => (x.n : Int)) 3 y.mN y.xs.isEmpty, .as (bigA xA y.xs)]
def dbA (q : Nat) (l : List (Fm × Ts)) : As := boxA (dbP l) (dbL q)
theorem rw_at {x : Xr} {j : Nat} : x.s.rows.getD j dR = (x.ws.getD j eRw.d).2 := by
 show (x.ws.map Prod.snd).getD j dR = _
 rw [List.getD_eq_getElem?_getD, List.getElem?_map, List.getD_eq_getElem?_getD]
 cases x.ws[j]? <;> rfl
theorem ddelN_ctr {q t : Nat} {l : List (Fm × Ts)} {F : Fm} {s : Ts} {id : Int} (e : l[t]? = some (F, s)) (his : s.is id = false) :
  Ctr Tryz.prog nO 67 [.o (.p 1 q 0 0 0), .o (.i (t : Int)), .o (.i id)] [.as (dbA q l)] Unit (fun _ => True) (fun _ => .o (.v (.bool false))) (fun _ => [.as (dbA q l)]) :=
 ctr_box (ψ := dbP l) (L := dbL q) (E := []) (R' := Unit) (ψ' := fun _ => dbP l) (L' := fun _ => dbL q) (E' := fun _ => []) [0, 2, 4] [0, 3, 1, 4, 2] (fun y _ => ()) (fun y _ => y)
  (fun y hy => rdelN_ctr (q := q) (qS := y.qS) (qR := y.qR) (qN := y.qN) (xs := y.xs) (mR := y.mR) (t := t) (id := id) (hy.at e).1 (hy.ok t (hy.at e).1) (by rw [(hy.at e).2.2]; exact Ts.none his))
  (fun y => ⟨by kernel_rfl, by kernel_rfl⟩)
  (fun y r hy hr => ⟨trivial, rfl, hy⟩)
  (fun y r => ⟨by kernel_rfl, by kernel_rfl⟩)
theorem ddel_ctr {q t j : Nat} {l : List (Fm × Ts)} {F : Fm} {s : Ts} {id : Int} (e : l[t]? = some (F, s)) (hj : j < s.rows.length) (hp : s.pos id = (j : Int)) :
  Ctr Tryz.prog nO 67 [.o (.p 1 q 0 0 0), .o (.i (t : Int)), .o (.i id)] [.as (dbA q l)] Unit (fun _ => True) (fun _ => .o (.v (.bool true))) (fun _ => [.as (dbA q (l.set t (F, s.del j)))]) :=
 ctr_box (ψ := dbP l) (L := dbL q) (E := []) (R' := Unit) (ψ' := fun _ => dbP (l.set t (F, s.del j))) (L' := fun _ => dbL q) (E' := fun _ => []) [0, 1, 2, 3, 4] [0, 1, 2, 3, 4] (fun y _ => ()) (fun y r => { y with xs := y.xs.set t ((y.xs.getD t dXr).del r j) })
  (fun y hy => rdel_ctr (q := q) (qS := y.qS) (qR := y.qR) (qN := y.qN) (xs := y.xs) (mS := y.mS) (mR := y.mR) (mN := y.mN) (t := t) (id := id) (j := j) (hy.at e).1 (hy.ok t (hy.at e).1) (by have h := hj; rw [<- (hy.at e).2.2] at h; simpa [Xr.s] using h) (by rw [(hy.at e).2.2]; exact hp) hy.mR)
  (fun y => ⟨by kernel_rfl, by kernel_rfl⟩)
  (fun y r hy hr => ⟨trivial, rfl, hy.put (hy.ok t (hy.at e).1).del _ (by rw [Xr.del_s, (hy.at e).2.2]; exact congrArg (fun F => (F, s.del j)) (hy.at e).2.1)⟩)
  (fun y r => ⟨by kernel_rfl, by kernel_rfl⟩)
theorem dsetN_ctr {q t : Nat} {l : List (Fm × Ts)} {F : Fm} {s : Ts} {id : Int} {sn : ByteArray} {v : Va}  (e : l[t]? = some (F, s)) (his : s.is id = false) :
  Ctr Tryz.prog nO 69 [.o (.p 1 q 0 0 0), .o (.i (t : Int)), .o (.i id), .o (.t sn), .a [.i v.k, .i v.n, .t v.s]] [.as (dbA q l)] Unit (fun _ => True) (fun _ => .o (.i 6)) (fun _ => [.as (dbA q l)]) :=
 ctr_box (ψ := dbP l) (L := dbL q) (E := []) (R' := Unit) (ψ' := fun _ => dbP l) (L' := fun _ => dbL q) (E' := fun _ => []) [0, 2, 4] [0, 3, 1, 4, 2] (fun y _ => ()) (fun y r => y)
  (fun y hy => rsetN_ctr (q := q) (qS := y.qS) (qR := y.qR) (qN := y.qN) (xs := y.xs) (mR := y.mR) (t := t) (id := id) (sn := sn) (v := v) (hy.at e).1 (hy.ok t (hy.at e).1) (by rw [(hy.at e).2.2]; exact Ts.none his))
  (fun y => ⟨by kernel_rfl, by kernel_rfl⟩)
  (fun y r hy hr => ⟨trivial, rfl, hy⟩)
  (fun y r => ⟨by kernel_rfl, by kernel_rfl⟩)
theorem dsetC_ctr {q t : Nat} {l : List (Fm × Ts)} {F : Fm} {s : Ts} {id : Int} {sn : ByteArray} {v : Va} {j : Nat} (e : l[t]? = some (F, s)) (hj : j < s.rows.length) (hp : s.pos id = (j : Int)) (hc : idxF F.xa (fun c => strEq c.name sn) = -1) :
  Ctr Tryz.prog nO 69 [.o (.p 1 q 0 0 0), .o (.i (t : Int)), .o (.i id), .o (.t sn), .a [.i v.k, .i v.n, .t v.s]] [.as (dbA q l)] Unit (fun _ => True) (fun _ => .o (.i 3)) (fun _ => [.as (dbA q l)]) :=
 ctr_box (ψ := dbP l) (L := dbL q) (E := []) (R' := Unit) (ψ' := fun _ => dbP l) (L' := fun _ => dbL q) (E' := fun _ => []) [0, 1, 2, 4] [0, 1, 2, 4, 3] (fun y _ => ()) (fun y r => y)
  (fun y hy => rsetC_ctr (q := q) (qS := y.qS) (qR := y.qR) (qN := y.qN) (xs := y.xs) (mR := y.mR) (t := t) (id := id) (sn := sn) (v := v) (mS := y.mS) (j := j) (hy.at e).1 (hy.ok t (hy.at e).1) (by have h := hj; rw [<- (hy.at e).2.2] at h; simpa [Xr.s] using h) (by rw [(hy.at e).2.2]; exact hp) (by rw [(hy.at e).2.1]; exact hc))
  (fun y => ⟨by kernel_rfl, by kernel_rfl⟩)
  (fun y r hy hr => ⟨trivial, rfl, hy⟩)
  (fun y r => ⟨by kernel_rfl, by kernel_rfl⟩)
theorem dsetT_ctr {q t : Nat} {l : List (Fm × Ts)} {F : Fm} {s : Ts} {id : Int} {sn : ByteArray} {v : Va} {j c : Nat} (e : l[t]? = some (F, s)) (hj : j < s.rows.length) (hp : s.pos id = (j : Int)) (hc : idxF F.xa (fun c => strEq c.name sn) = (c : Int)) (hcx : c < F.xa.length) (hs : v.s.size < 1000000000) (hok : colOk F.xa c v = false) :
  Ctr Tryz.prog nO 69 [.o (.p 1 q 0 0 0), .o (.i (t : Int)), .o (.i id), .o (.t sn), .a [.i v.k, .i v.n, .t v.s]] [.as (dbA q l)] Unit (fun _ => True) (fun _ => .o (.i 4)) (fun _ => [.as (dbA q l)]) :=
 ctr_box (ψ := dbP l) (L := dbL q) (E := []) (R' := Unit) (ψ' := fun _ => dbP l) (L' := fun _ => dbL q) (E' := fun _ => []) [0, 1, 2, 4] [0, 1, 2, 4, 3] (fun y _ => ()) (fun y r => y)
  (fun y hy => rsetT_ctr (q := q) (qS := y.qS) (qR := y.qR) (qN := y.qN) (xs := y.xs) (mR := y.mR) (t := t) (id := id) (sn := sn) (v := v) (mS := y.mS) (j := j) (c := c) (hy.at e).1 (hy.ok t (hy.at e).1) (by have h := hj; rw [<- (hy.at e).2.2] at h; simpa [Xr.s] using h) (by rw [(hy.at e).2.2]; exact hp) (by rw [(hy.at e).2.1]; exact hc) (by rw [(hy.at e).2.1]; exact hcx) hs (by rw [(hy.at e).2.1]; exact hok))
  (fun y => ⟨by kernel_rfl, by kernel_rfl⟩)
  (fun y r hy hr => ⟨trivial, rfl, hy⟩)
  (fun y r => ⟨by kernel_rfl, by kernel_rfl⟩)
theorem dset_ctr {q t : Nat} {l : List (Fm × Ts)} {F : Fm} {s : Ts} {id : Int} {sn : ByteArray} {v : Va} {j c : Nat} (e : l[t]? = some (F, s)) (hj : j < s.rows.length) (hp : s.pos id = (j : Int)) (hc : idxF F.xa (fun c => strEq c.name sn) = (c : Int)) (hcx : c < F.xa.length) (hs : v.s.size < 1000000000) (hok : colOk F.xa c v = true) :
  Ctr Tryz.prog nO 69 [.o (.p 1 q 0 0 0), .o (.i (t : Int)), .o (.i id), .o (.t sn), .a [.i v.k, .i v.n, .t v.s]] [.as (dbA q l)] Unit (fun _ => True) (fun _ => .o (.i 0)) (fun _ => [.as (dbA q (l.set t (F, s.put j c v)))]) :=
 ctr_box (ψ := dbP l) (L := dbL q) (E := []) (R' := Unit) (ψ' := fun _ => dbP (l.set t (F, s.put j c v))) (L' := fun _ => dbL q) (E' := fun _ => []) [0, 1, 2, 3, 4] [0, 1, 2, 3, 4] (fun y _ => ()) (fun y r => { y with xs := y.xs.set t ((y.xs.getD t dXr).put j c v) })
  (fun y hy => rset_ctr (q := q) (qS := y.qS) (qR := y.qR) (qN := y.qN) (xs := y.xs) (mR := y.mR) (t := t) (id := id) (sn := sn) (v := v) (mS := y.mS) (mN := y.mN) (j := j) (c := c) (hy.at e).1 (hy.ok t (hy.at e).1) (by have h := hj; rw [<- (hy.at e).2.2] at h; simpa [Xr.s] using h) (by rw [(hy.at e).2.2]; exact hp) (by rw [(hy.at e).2.1]; exact hc) (by rw [(hy.at e).2.1]; exact hcx) hs (by rw [(hy.at e).2.1]; exact hok))
  (fun y => ⟨by kernel_rfl, by kernel_rfl⟩)
  (fun y r hy hr => ⟨trivial, rfl, hy.put ((hy.ok t (hy.at e).1).put (by have h := hj; rw [<- (hy.at e).2.2] at h; simpa [Xr.s] using h)) _ (by rw [Xr.put_s, (hy.at e).2.2]; exact congrArg (fun F => (F, s.put j c v)) (hy.at e).2.1)⟩)
  (fun y r => ⟨by kernel_rfl, by kernel_rfl⟩)
theorem dinsF_ctr {q t : Nat} {l : List (Fm × Ts)} {F : Fm} {s : Ts} {vs : List Va} {qv cv : Nat} {zv : Bool} {tv : TypeId} {mv : Md}  (e : l[t]? = some (F, s)) (hzv : zv = true -> vs.length = 0) (hlv : vs.length < 1000000) (hvl : vs.length ≠ F.xa.length) :
  Ctr Tryz.prog nO 65 [.o (.p 1 q 0 0 0), .o (.i (t : Int)), .o (.s 6 qv 3 0 vs.length cv zv)] [.as (dbA q l), vc eV 6 qv vs tv mv zv] Unit (fun _ => True) (fun _ => .t [(false, [.i 0]), (false, [.i 1])]) (fun _ => [.as (dbA q l), vc eV 6 qv vs tv mv zv]) :=
 ctr_box (ψ := dbP l) (L := dbL q) (E := [vc eV 6 qv vs tv mv zv]) (R' := Unit) (ψ' := fun _ => dbP l) (L' := fun _ => dbL q) (E' := fun _ => [vc eV 6 qv vs tv mv zv]) [0, 1, 2, 3, 4, 5] [0, 1, 2, 3, 4, 5] (fun y _ => ()) (fun y r => y)
  (fun y hy => ctr_map (rinsF_ctr (q := q) (qS := y.qS) (qR := y.qR) (qN := y.qN) (xs := y.xs) (mS := y.mS) (mR := y.mR) (mN := y.mN) (t := t) (vs := vs) (qv := qv) (cv := cv) (zv := zv) (tv := tv) (mv := mv) (hy.at e).1 (hy.ok t (hy.at e).1) hzv hlv (by rw [(hy.at e).2.1]; exact hvl)) id (φ' := fun _ => True) (res' := fun _ => .t [(false, [.i 0]), (false, [.i 1])]) (post' := fun _ => dbL q y ++ [vc eV 6 qv vs tv mv zv]) fun r _ => ⟨trivial, rfl, rfl⟩)
  (fun y => ⟨by kernel_rfl, by kernel_rfl⟩)
  (fun y r hy hr => ⟨trivial, rfl, hy⟩)
  (fun y r => ⟨by kernel_rfl, by kernel_rfl⟩)
theorem dinsT_ctr {q t : Nat} {l : List (Fm × Ts)} {F : Fm} {s : Ts} {vs : List Va} {qv cv : Nat} {zv : Bool} {tv : TypeId} {mv : Md} {c : Nat} (e : l[t]? = some (F, s)) (hzv : zv = true -> vs.length = 0) (hlv : vs.length < 1000000) (hvl : vs.length = F.xa.length) (hc1 : c < vs.length) (hc2 : colOk F.xa c (vs.getD c eV.d) = false) (hc3 : ∀ i, i < c -> colOk F.xa i (vs.getD i eV.d) = true) (hsz : ∀ i, i < vs.length -> (vs.getD i eV.d).s.size < 1000000000) :
  Ctr Tryz.prog nO 65 [.o (.p 1 q 0 0 0), .o (.i (t : Int)), .o (.s 6 qv 3 0 vs.length cv zv)] [.as (dbA q l), vc eV 6 qv vs tv mv zv] Unit (fun _ => True) (fun _ => .t [(false, [.i 0]), (false, [.i 4])]) (fun _ => [.as (dbA q l), vc eV 6 qv vs tv mv zv]) :=
 ctr_box (ψ := dbP l) (L := dbL q) (E := [vc eV 6 qv vs tv mv zv]) (R' := Unit) (ψ' := fun _ => dbP l) (L' := fun _ => dbL q) (E' := fun _ => [vc eV 6 qv vs tv mv zv]) [0, 1, 2, 3, 4, 5] [0, 1, 2, 3, 4, 5] (fun y _ => ()) (fun y r => y)
  (fun y hy => ctr_map (rinsT_ctr (q := q) (qS := y.qS) (qR := y.qR) (qN := y.qN) (xs := y.xs) (mS := y.mS) (mR := y.mR) (mN := y.mN) (t := t) (vs := vs) (qv := qv) (cv := cv) (zv := zv) (tv := tv) (mv := mv) (c := c) (hy.at e).1 (hy.ok t (hy.at e).1) hzv hlv (by rw [(hy.at e).2.1]; exact hvl) hc1 (by rw [(hy.at e).2.1]; exact hc2) (by rw [(hy.at e).2.1]; exact hc3) hsz) id (φ' := fun _ => True) (res' := fun _ => .t [(false, [.i 0]), (false, [.i 4])]) (post' := fun _ => dbL q y ++ [vc eV 6 qv vs tv mv zv]) fun r _ => ⟨trivial, rfl, rfl⟩)
  (fun y => ⟨by kernel_rfl, by kernel_rfl⟩)
  (fun y r hy hr => ⟨trivial, rfl, hy⟩)
  (fun y r => ⟨by kernel_rfl, by kernel_rfl⟩)
theorem dins_ctr {q t : Nat} {l : List (Fm × Ts)} {F : Fm} {s : Ts} {vs : List Va} {qv cv : Nat} {zv : Bool} {tv : TypeId} {mv : Md}  (e : l[t]? = some (F, s)) (hzv : zv = true -> vs.length = 0) (hlv : vs.length < 1000000) (hvl : vs.length = F.xa.length) (hok : ∀ i, i < vs.length -> colOk F.xa i (vs.getD i eV.d) = true) (hsz : ∀ i, i < vs.length -> (vs.getD i eV.d).s.size < 1000000000) (hn : s.next < 1000000) (hr0 : s.rows.length + 1 < 100000) :
  Ctr Tryz.prog nO 65 [.o (.p 1 q 0 0 0), .o (.i (t : Int)), .o (.s 6 qv 3 0 vs.length cv zv)] [.as (dbA q l), vc eV 6 qv vs tv mv zv] Unit (fun _ => True) (fun _ => .t [(false, [.i (s.next : Int)]), (false, [.i 0])]) (fun _ => [.as (dbA q (l.set t (F, s.ins vs))), vc eV 6 qv vs tv mv zv]) :=
 ctr_box (ψ := dbP l) (L := dbL q) (E := [vc eV 6 qv vs tv mv zv]) (R' := Unit) (ψ' := fun _ => dbP (l.set t (F, s.ins vs))) (L' := fun _ => dbL q) (E' := fun _ => [vc eV 6 qv vs tv mv zv]) [0, 1, 2, 3, 4, 5] [0, 1, 2, 3, 4, 5] (fun y _ => ()) (fun y r => { y with xs := y.xs.set t ((y.xs.getD t dXr).ins r.1 r.2 vs) })
  (fun y hy => ctr_map (rins_ctr (q := q) (qS := y.qS) (qR := y.qR) (qN := y.qN) (xs := y.xs) (mS := y.mS) (mR := y.mR) (mN := y.mN) (t := t) (vs := vs) (qv := qv) (cv := cv) (zv := zv) (tv := tv) (mv := mv) (hy.at e).1 (hy.ok t (hy.at e).1) hzv hlv (by rw [(hy.at e).2.1]; exact hvl) (by rw [(hy.at e).2.1]; exact hok) hsz (by have h := hn; rw [<- (hy.at e).2.2] at h; exact h) hy.mR hy.mN) id (φ' := fun _ => True) (res' := fun _ => .t [(false, [.i (s.next : Int)]), (false, [.i 0])]) (post' := fun r => dbL q { y with xs := y.xs.set t ((y.xs.getD t dXr).ins r.1 r.2 vs) } ++ [vc eV 6 qv vs tv mv zv]) fun r _ => ⟨trivial, (by show SV.den (.t [(false, [.i ((y.xs.getD t dXr).s.next : Int)]), _]) = _; rw [(hy.at e).2.2]), rfl⟩)
  (fun y => ⟨by kernel_rfl, by kernel_rfl⟩)
  (fun y r hy hr => ⟨trivial, rfl, hy.put ((hy.ok t (hy.at e).1).ins (by rw [(hy.at e).2.1]; exact hvl) (by have h := hr0; rw [<- (hy.at e).2.2] at h; simpa [Xr.s] using h)) _ (by rw [Xr.ins_s, (hy.at e).2.2]; exact congrArg (fun F => (F, s.ins vs)) (hy.at e).2.1)⟩)
  (fun y r => ⟨by kernel_rfl, by kernel_rfl⟩)
theorem lkP.ok {xs ys : List Xr} (h : lkP xs ys) (hx : ∀ i, i < xs.length -> xP (xs.getD i dXr)) : ∀ i, i < ys.length -> xP (ys.getD i dXr) := fun i hi => by
 obtain ⟨qr, ws, e, hw⟩ := h.lk i hi
 have h1 := hx i (Nat.lt_of_lt_of_le hi h.le)
 rw [e]
 refine ⟨h1.fm, h1.za, h1.zA, h1.da, ?_, fun w hm => ?_⟩
 ·show ws.length < _
  have := congrArg List.length hw
  rw [List.length_map, List.length_map] at this
  rw [this]; exact h1.wl
 ·have h2 : w.2 ∈ ws.map Prod.snd := List.mem_map_of_mem hm
  rw [hw] at h2
  obtain ⟨w2, h3, h4⟩ := List.mem_map.1 h2
  show w.2.2.length = _
  rw [<- h4]; exact h1.rl w2 h3
theorem lkP.tb {xs ys : List Xr} (h : lkP xs ys) (hl : ys.length = xs.length) : xs.map eTb.f = ys.map eTb.f := by
 apply List.ext_getElem
 ·rw [List.length_map, List.length_map, hl]
 ·intro j h1 h2
  have hj : j < ys.length := by simpa using h2
  have hj2 : j < xs.length := by omega
  obtain ⟨qr, ws, e, hw⟩ := h.lk j hj
  rw [getD_at hj, getD_at hj2] at e
  rw [List.getElem_map, List.getElem_map, e]; rfl
theorem lkP.nx {xs ys : List Xr} (h : lkP xs ys) (hl : ys.length = xs.length) : (xs.map fun x : Xr => (x.n : Int)) = ys.map fun x : Xr => (x.n : Int) := by
 apply List.ext_getElem
 ·rw [List.length_map, List.length_map, hl]
 ·intro j h1 h2
  have hj : j < ys.length := by simpa using h2
  have hj2 : j < xs.length := by omega
  obtain ⟨qr, ws, e, hw⟩ := h.lk j hj
  rw [getD_at hj, getD_at hj2] at e
  rw [List.getElem_map, List.getElem_map, e]; rfl
theorem rcopy2_ctr {q qS qR qN : Nat} {xs : List Xr} {mS mR mN : Md} (hxp : ∀ i, i < xs.length -> xP (xs.getD i dXr)) (hxl : xs.length < 1000000) :
  Ctr Tryz.prog nO 31 [.o (.p 1 q 0 0 0)] [.blk 1 q [.s 2 qS 4 0 xs.length xs.length xs.isEmpty, .s 3 qR 1 0 xs.length xs.length xs.isEmpty, .s 4 qN 1 0 xs.length xs.length xs.isEmpty] 42 .own, vc eTb 2 qS xs 46 mS xs.isEmpty, vc eRs 3 qR xs 55 mR xs.isEmpty, vc eI 4 qN (xs.map fun x : Xr => (x.n : Int)) 3 mN xs.isEmpty, .as (bigA xA xs)] (Nat × Nat × Nat × Nat × List Xr) (fun r => lkP xs r.2.2.2.2 /\ r.2.2.2.2.length = xs.length) (fun r => .o (.p 11 r.1 0 0 0)) (fun r => [.blk 1 q [.s 2 qS 4 0 xs.length xs.length xs.isEmpty, .s 3 qR 1 0 xs.length xs.length xs.isEmpty, .s 4 qN 1 0 xs.length xs.length xs.isEmpty] 42 .own, vc eTb 2 qS xs 46 mS xs.isEmpty, vc eRs 3 qR xs 55 mR xs.isEmpty, vc eI 4 qN (xs.map fun x : Xr => (x.n : Int)) 3 mN xs.isEmpty, .as (bigA xA xs), .blk 11 r.1 [.s 12 r.2.1 4 0 r.2.2.2.2.length r.2.2.2.2.length r.2.2.2.2.isEmpty, .s 13 r.2.2.1 1 0 r.2.2.2.2.length r.2.2.2.2.length r.2.2.2.2.isEmpty, .s 14 r.2.2.2.1 1 0 r.2.2.2.2.length r.2.2.2.2.length r.2.2.2.2.isEmpty] 42 .own, vc eTb 12 r.2.1 r.2.2.2.2 46 .grown r.2.2.2.2.isEmpty, vc eRs 13 r.2.2.1 r.2.2.2.2 55 .grown r.2.2.2.2.isEmpty, vc eI 14 r.2.2.2.1 (r.2.2.2.2.map fun x : Xr => (x.n : Int)) 3 .grown r.2.2.2.2.isEmpty, .as (bigA xA r.2.2.2.2)]) :=
 ctr_post (rcopy_ctr (q := q) (qS := qS) (qR := qR) (qN := qN) (mS := mS) (mR := mR) (mN := mN) hxp hxl) fun r hr => by
  have he : xs.isEmpty = r.2.2.2.2.isEmpty := by rw [Bool.eq_iff_iff, List.isEmpty_iff_length_eq_zero, List.isEmpty_iff_length_eq_zero, hr.2]
  have t1 := (List.cons.inj (vc_re (E := eTb) (g := 12) (q := r.2.1) (t := 46) (m := .grown) (hr.1.tb hr.2) he)).1
  have t2 := (List.cons.inj (vc_re (E := eI) (g := 14) (q := r.2.2.2.1) (t := 3) (m := .grown) (congrArg (List.map eI.f) (hr.1.nx hr.2)) he)).1
  refine ge_re ?_
  simp only [List.map_cons, List.map_nil]
  rw [t1, t2, he, hr.2]
theorem dcopy0_ctr {q : Nat} {l : List (Fm × Ts)} :
  Ctr Tryz.prog nO 31 [.o (.p 1 q 0 0 0)] [.as (dbA q l)] (Nat × Dr) (fun r => dbP l r.2) (fun r => .o (.p 11 r.1 0 0 0)) (fun r => .as (dbA q l) :: dbL r.1 r.2) :=
 ctr_box (ψ := dbP l) (L := dbL q) (E := []) (R' := Nat × Dr) (ψ' := fun _ => dbP l) (L' := fun _ => dbL q) (E' := fun r => dbL r.1 r.2) [0, 1, 2, 3, 4] [0, 1, 2, 3, 4, 5, 6, 7, 8, 9] (fun y r => (r.1, ⟨r.2.1, r.2.2.1, r.2.2.2.1, .grown, .grown, .grown, r.2.2.2.2⟩)) (fun y _ => y)
  (fun y hy => rcopy2_ctr (q := q) (qS := y.qS) (qR := y.qR) (qN := y.qN) (xs := y.xs) (mS := y.mS) (mR := y.mR) (mN := y.mN) hy.ok (by have := hy.le; omega))
  (fun y => ⟨by kernel_rfl, by kernel_rfl⟩)
  (fun y r hy hr => ⟨⟨(hr.1.same hr.2).trans hy.ls, hr.1.ok hy.ok, rfl, rfl, by show r.2.2.2.2.length < _; rw [hr.2]; exact hy.le⟩, rfl, hy⟩)
  (fun y r => ⟨by kernel_rfl, by kernel_rfl⟩)
theorem dcopy_ctr {q : Nat} {l : List (Fm × Ts)} :
  Ctr Tryz.prog nO 31 [.o (.p 1 q 0 0 0)] [.as (dbA q l)] Nat (fun _ => True) (fun r => .o (.p 11 r 0 0 0)) (fun r => [.as (dbA r l), .as (dbA q l)]) :=
 ctr_shut (R' := Nat) (φ' := fun _ => True) (res' := fun r => .o (.p 11 r 0 0 0)) (ψ' := fun _ => dbP l) (L' := fun r => dbL r) (E' := fun _ => [.as (dbA q l)]) [] [1, 2, 3, 4, 5, 0] (fun r => r.1) (fun r => r.2) dcopy0_ctr
  (fun r hr => ⟨trivial, rfl, hr⟩)
  (fun r => ⟨by kernel_rfl, by kernel_rfl⟩)
end Go.Proofs.YtagidoadfajpgaaGreat
