/-
  Ug.
-/
import Derived.Test.YtagidoadfajpgaaGreatN26
import Derived.Test.YtagidoadfajpgaaGreatN21
import Derived.Test.YtagidoadfajpgaaGreatN15
import Derived.Test.YtagidoadfajpgaaGreatN25
open List (length_cons length_nil ext_getElem length_map map_cons length_take length_drop length_set getElem_mem drop_eq_nil_of_le map_set getElem_set getElem_map eraseIdx_eq_take_drop_succ map_nil take_of_length_le map_eq_nil_iff)
namespace Go.Proofs.YtagidoadfajpgaaGreat
set_option maxHeartbeats 4000000
open Go.Abs
variable {nO : Nat}
set_option maxRecDepth 100000
attribute [local irreducible] GP ruP nxP acS gst cdP loP j6 m9 m8 enP caA n5 lgP agN
theorem a0B {α : Type} {E : En α} {g q : Nat} {xs ys : List α} {t : TypeId} {m : Md} {z z' : Bool} (h : xs.map E.f = ys.map E.f) (hz : z = z') : [vc E g q xs t m z].map Ch.den = [vc E g q ys t m z'].map Ch.den := by
 subst hz
 have e : b7 E.f xs = b7 E.f ys := by
  have k : ∀ l : List α, b7 E.f l = b7 (fun c : List C1 => c) (l.map E.f) := fun l => by unfold b7; rw [List.flatMap_map]
  rw [k, k, h]
 have hn : xs = [] ↔ ys = [] := by rw [<- map_eq_nil_iff (f := E.f), h, map_eq_nil_iff]
 unfold vc
 simp only [map_cons, map_nil, List.cons.injEq, and_true]
 cases z with
 | true => show As.pure (xs = []) = As.pure (ys = []); rw [propext hn]
 | false => show As.guard _ (a7r q (b7 E.f xs) t m) = As.guard _ (a7r q (b7 E.f ys) t m); rw [e]
theorem P6 {α β : Type} {f : α -> β} {xs : List α} {t : Nat} {d y : α} (ht : t < xs.length) (h : f y = f (xs.getD t d)) : xs.map f = (xs.set t y).map f := by
 apply ext_getElem
 ·simp
 ·intro m h1 h2
  rw [getElem_map, getElem_map, getElem_set]
  split
  ·rename_i e; subst e; rw [h, a8 ht]
  ·rfl
theorem r8 {α : Type} {xs : List α} {t : Nat} {y : α} : xs.isEmpty = (xs.set t y).isEmpty := by cases xs <;> cases t <;> rfl
theorem a60 {xs : List Xr} {t : Nat} (h : t < xs.length) : (xs.map fun x => (x.n : Int)).getD t eI.d = ((xs.getD t dXr).n : Int) := by
 rw [a8 (by simpa using h), a8 h, getElem_map]
def Xr.ins (x : Xr) (qr q : Nat) (vs : List Va) : Xr := { x with qr := qr, ws := x.ws ++ [(q, (x.n, vs))], n := x.n + 1 }
theorem b63 {xs : List Xr} {t : Nat} {y : Xr} (h : t < xs.length) (e : y.n = (xs.getD t dXr).n + 1) : (xs.map fun x => (x.n : Int)).set t ((xs.map fun x => (x.n : Int)).getD t eI.d + 1) = (xs.set t y).map fun x => (x.n : Int) := by
 rw [a60 h, map_set, e]; rfl
theorem a8S {q qS qR qN : Nat} {xs : List Xr} {mS mR mN : Md} {t qv cv : Nat} {zv : Bool} {vs : List Va} {tv : TypeId} {mv : Md} (ht : t < xs.length) (hx : xP (xs.getD t dXr)) (hzv : zv = true -> vs.length = 0) (hlv : vs.length < 1000000) (hvl : vs.length ≠ (xs.getD t dXr).F.xa.length) : K1 nO 65 [.o (.p 1 q 0 0 0), .o (.i (t : Int)), .o (.s 6 qv 3 0 vs.length cv zv)] [.blk 1 q [.s 2 qS 4 0 xs.length xs.length xs.isEmpty, .s 3 qR 1 0 xs.length xs.length xs.isEmpty, .s 4 qN 1 0 xs.length xs.length xs.isEmpty] 42 .own, vc eTb 2 qS xs 46 mS xs.isEmpty, vc eRs 3 qR xs 55 mR xs.isEmpty, vc eI 4 qN (xs.map fun x : Xr => (x.n : Int)) 3 mN xs.isEmpty, .as (e6 xA xs), vc eV 6 qv vs tv mv zv] (.t [(false, [.i 0]), (false, [.i 1])]) := by
 refine fs 100 (fun B => ?_)
 have hwl := hx.wl
 have hnl : (xs.map fun x : Xr => (x.n : Int)).length = xs.length := length_map ..
 have hnx := a60 (xs := xs) (t := t) (by omega)
 have hza := hx.za
 have hfl := hx.fm.xl
 refine gh (f8 (I := xA) (l := xs) t dXr (by omega)) [4] [] 100 fun _ _ => gh (O5 (l := xL (xs.getD t dXr))) [0] [] 100 fun _ _ => g0 fun _ => go (fun _ => (o4 (nz t) (by omega : (t : Int) < (xs.length : Int)) (zfe (by omega) : xs.isEmpty = false) (by omega : t < xs.length))) fun _ => cdT (b := ((vs.length : Int) != (((xs.getD t dXr).F.xa.length : Nat) : Int))) (bne_iff_ne.2 (by omega)) <| g0 fun _ => gh (p6 (l := xL (xs.getD t dXr))) [0, 1, 2, 3, 4] [] 100 fun _ _ => gh (j9 (I := xA) (l := xs) t dXr (by omega)) [0, 1] [] 100 fun _ _ => rt trivial (()) trivial [1, 2, 3, 4, 0, 5]
theorem a8R {q qS qR qN : Nat} {xs : List Xr} {mS mR mN : Md} {t qv cv : Nat} {zv : Bool} {vs : List Va} {tv : TypeId} {mv : Md} {c : Nat} (ht : t < xs.length) (hx : xP (xs.getD t dXr)) (hzv : zv = true -> vs.length = 0) (hlv : vs.length < 1000000) (hvl : vs.length = (xs.getD t dXr).F.xa.length) (hc1 : c < vs.length) (hc2 : g9 (xs.getD t dXr).F.xa c (vs.getD c eV.d) = false) (hc3 : ∀ i, i < c -> g9 (xs.getD t dXr).F.xa i (vs.getD i eV.d) = true) (hsz : ∀ i, i < vs.length -> (vs.getD i eV.d).s.size < 1000000000) : K1 nO 65 [.o (.p 1 q 0 0 0), .o (.i (t : Int)), .o (.s 6 qv 3 0 vs.length cv zv)] [.blk 1 q [.s 2 qS 4 0 xs.length xs.length xs.isEmpty, .s 3 qR 1 0 xs.length xs.length xs.isEmpty, .s 4 qN 1 0 xs.length xs.length xs.isEmpty] 42 .own, vc eTb 2 qS xs 46 mS xs.isEmpty, vc eRs 3 qR xs 55 mR xs.isEmpty, vc eI 4 qN (xs.map fun x : Xr => (x.n : Int)) 3 mN xs.isEmpty, .as (e6 xA xs), vc eV 6 qv vs tv mv zv] (.t [(false, [.i 0]), (false, [.i 4])]) := by
 refine fs 100 (fun B => ?_)
 have hwl := hx.wl
 have hnl : (xs.map fun x : Xr => (x.n : Int)).length = xs.length := length_map ..
 have hnx := a60 (xs := xs) (t := t) (by omega)
 have hza := hx.za
 have hfl := hx.fm.xl
 refine gh (f8 (I := xA) (l := xs) t dXr (by omega)) [4] [] 100 fun _ _ => gh (O5 (l := xL (xs.getD t dXr))) [0] [] 100 fun _ _ => g0 fun _ => go (fun _ => (o4 (nz t) (by omega : (t : Int) < (xs.length : Int)) (zfe (by omega) : xs.isEmpty = false) (by omega : t < xs.length))) fun _ => cdF (b := ((vs.length : Int) != (((xs.getD t dXr).F.xa.length : Nat) : Int))) (bne_eq_false_iff_eq.2 (by omega)) <| g0 fun _ => lp ((Nat)) [0, 1, 2] (fun r => [(8, .o (.i (r : Int)))]) [0, 1, 2, 3, 4, 5, 6, 7, 8, 9, 10] (fun _ => []) 120 (fun r => r <= c) (fun r => vs.length - r) (0) (Nat.zero_le _) [] fun i hx ag104 => g0 fun _ => cdT (b := decide ((i : Int) < (vs.length : Int))) (decide_eq_true (by omega)) <| go (fun _ => (oc (nz i) (by omega : (i : Int) < (vs.length : Int)) (zf hzv (show 0 < vs.length by omega) : zv = false) (by omega : i < vs.length) (nz t) (by omega : (t : Int) < (xs.length : Int)) (o6 (zfe (by omega) : xs.isEmpty = false) (by omega : t < xs.length) (nz i) (by omega : (i : Int) < (((xs.getD t dXr).F.xa.length : Nat) : Int)) (zf hza (show 0 < (xs.getD t dXr).F.xa.length by omega) : (xs.getD t dXr).za = false) (by omega : i < ((xs.getD t dXr).F.xa).length)))) fun _ => cl (Q5 (v := (vs.getD i eV.d)) (c := (((xs.getD t dXr).F.xa).getD i eC.d)) (hsz i (by omega))) [] [] 120 fun _ _ => g0 fun _ => cd (!(and (vOk (vs.getD i eV.d)) (or ((vs.getD i eV.d).k == 0) ((vs.getD i eV.d).k == (((xs.getD t dXr).F.xa).getD i eC.d).kind)))) (fun h3 => ?_) (fun h3 => ?_)
 ·refine g0 fun _ => gh (p6 (l := xL (xs.getD t dXr))) [0, 1, 2, 3, 4] [] 120 fun _ _ => gh (j9 (I := xA) (l := xs) t dXr (by omega)) [0, 1] [] 120 fun _ _ => rt trivial (()) trivial [1, 2, 3, 4, 0, 5]
 ·refine go (fun _ => (o2 (by omega : -9223372036854775808 <= (i : Int) + 1) (by omega : (i : Int) + 1 < 9223372036854775808))) fun _ => ag104 _ _ (i + 1) (by first | omega | (simp only; omega)) ((Nat.lt_or_ge i c).elim (fun h => by omega) (fun h => absurd h3 (by have e : i = c := (by omega); subst e; rw [Bool.and_comm]; unfold g9 at hc2; rw [hc2]; decide))) [0, 1, 2, 3, 4, 5, 6, 7, 8, 9, 10] (by kernel_rfl) (by kernel_rfl)
theorem b15 {q qS qR qN : Nat} {xs : List Xr} {mS mR mN : Md} {t qv cv : Nat} {zv : Bool} {vs : List Va} {tv : TypeId} {mv : Md} (ht : t < xs.length) (hx : xP (xs.getD t dXr)) (hzv : zv = true -> vs.length = 0) (hlv : vs.length < 1000000) (hvl : vs.length = (xs.getD t dXr).F.xa.length) (hok : ∀ i, i < vs.length -> g9 (xs.getD t dXr).F.xa i (vs.getD i eV.d) = true) (hsz : ∀ i, i < vs.length -> (vs.getD i eV.d).s.size < 1000000000) (hn : (xs.getD t dXr).n < 1000000) (hmR : mR.mine = true) (hmN : mN.mine = true) : Ctr Tryz.prog nO 65 [.o (.p 1 q 0 0 0), .o (.i (t : Int)), .o (.s 6 qv 3 0 vs.length cv zv)] [.blk 1 q [.s 2 qS 4 0 xs.length xs.length xs.isEmpty, .s 3 qR 1 0 xs.length xs.length xs.isEmpty, .s 4 qN 1 0 xs.length xs.length xs.isEmpty] 42 .own, vc eTb 2 qS xs 46 mS xs.isEmpty, vc eRs 3 qR xs 55 mR xs.isEmpty, vc eI 4 qN (xs.map fun x : Xr => (x.n : Int)) 3 mN xs.isEmpty, .as (e6 xA xs), vc eV 6 qv vs tv mv zv] ((Nat) × (Nat)) (fun _ => True) (fun r => .t [(false, [.i ((xs.getD t dXr).n : Int)]), (false, [.i 0])]) (fun r => [.blk 1 q [.s 2 qS 4 0 ((xs.set t ((xs.getD t dXr).ins r.1 r.2 vs)).length) ((xs.set t ((xs.getD t dXr).ins r.1 r.2 vs)).length) ((xs.set t ((xs.getD t dXr).ins r.1 r.2 vs)).isEmpty), .s 3 qR 1 0 ((xs.set t ((xs.getD t dXr).ins r.1 r.2 vs)).length) ((xs.set t ((xs.getD t dXr).ins r.1 r.2 vs)).length) ((xs.set t ((xs.getD t dXr).ins r.1 r.2 vs)).isEmpty), .s 4 qN 1 0 ((xs.set t ((xs.getD t dXr).ins r.1 r.2 vs)).length) ((xs.set t ((xs.getD t dXr).ins r.1 r.2 vs)).length) ((xs.set t ((xs.getD t dXr).ins r.1 r.2 vs)).isEmpty)] 42 .own, vc eTb 2 qS (xs.set t ((xs.getD t dXr).ins r.1 r.2 vs)) 46 mS ((xs.set t ((xs.getD t dXr).ins r.1 r.2 vs)).isEmpty), vc eRs 3 qR (xs.set t ((xs.getD t dXr).ins r.1 r.2 vs)) 55 mR ((xs.set t ((xs.getD t dXr).ins r.1 r.2 vs)).isEmpty), vc eI 4 qN ((xs.set t ((xs.getD t dXr).ins r.1 r.2 vs)).map fun x : Xr => (x.n : Int)) 3 mN ((xs.set t ((xs.getD t dXr).ins r.1 r.2 vs)).isEmpty), .as (e6 xA (xs.set t ((xs.getD t dXr).ins r.1 r.2 vs))), vc eV 6 qv vs tv mv zv]) := by
 refine fs 100 (fun B => ?_)
 have hwl := hx.wl
 have hnl : (xs.map fun x : Xr => (x.n : Int)).length = xs.length := length_map ..
 have hnx := a60 (xs := xs) (t := t) (by omega)
 have hza := hx.za
 have hfl := hx.fm.xl
 refine gh (f8 (I := xA) (l := xs) t dXr (by omega)) [4] [] 100 fun _ _ => gh (O5 (l := xL (xs.getD t dXr))) [0] [] 100 fun _ _ => g0 fun _ => go (fun _ => (o4 (nz t) (by omega : (t : Int) < (xs.length : Int)) (zfe (by omega) : xs.isEmpty = false) (by omega : t < xs.length))) fun _ => cdF (b := ((vs.length : Int) != (((xs.getD t dXr).F.xa.length : Nat) : Int))) (bne_eq_false_iff_eq.2 (by omega)) <| g0 fun _ => lp ((Nat)) [0, 1, 2] (fun r => [(8, .o (.i (r : Int)))]) [0, 1, 2, 3, 4, 5, 6, 7, 8, 9, 10] (fun _ => []) 120 (fun r => r <= vs.length) (fun r => vs.length - r) (0) (Nat.zero_le _) [] fun i hx ag104 => g0 fun _ => cdD ((i : Int) < (vs.length : Int)) (fun h2 => ?_) (fun h2 => ?_)
 ·refine go (fun _ => (oc (nz i) (by omega : (i : Int) < (vs.length : Int)) (zf hzv (show 0 < vs.length by omega) : zv = false) (by omega : i < vs.length) (nz t) (by omega : (t : Int) < (xs.length : Int)) (o6 (zfe (by omega) : xs.isEmpty = false) (by omega : t < xs.length) (nz i) (by omega : (i : Int) < (((xs.getD t dXr).F.xa.length : Nat) : Int)) (zf hza (show 0 < (xs.getD t dXr).F.xa.length by omega) : (xs.getD t dXr).za = false) (by omega : i < ((xs.getD t dXr).F.xa).length)))) fun _ => cl (Q5 (v := (vs.getD i eV.d)) (c := (((xs.getD t dXr).F.xa).getD i eC.d)) (hsz i (by omega))) [] [] 120 fun _ _ => g0 fun _ => cdF (b := !(and (vOk (vs.getD i eV.d)) (or ((vs.getD i eV.d).k == 0) ((vs.getD i eV.d).k == (((xs.getD t dXr).F.xa).getD i eC.d).kind)))) (by rw [Bool.and_comm]; have := hok i (by omega); unfold g9 at this; rw [this]; rfl) <| go (fun _ => (o2 (by omega : -9223372036854775808 <= (i : Int) + 1) (by omega : (i : Int) + 1 < 9223372036854775808))) fun _ => ag104 _ _ (i + 1) (by first | omega | (simp only; omega)) (by omega) [0, 1, 2, 3, 4, 5, 6, 7, 8, 9, 10] (by kernel_rfl) (by kernel_rfl)
 ·refine go (fun _ => (o4 (nz t) (by omega : (t : Int) < (xs.length : Int)) (zfe (by omega) : xs.isEmpty = false) (by omega : t < (xs.map fun x : Xr => (x.n : Int)).length))) fun _ => sv 9 (v := .o (.i ((xs.map fun x : Xr => (x.n : Int)).getD t eI.d))) (v' := .o (.i ((xs.getD t dXr).n : Int))) (congrArg (fun n => Value.int .i64 n) hnx) <| go (fun _ => (oc (nz t) (by omega : (t : Int) < (xs.length : Int)) (zfe (by omega) : xs.isEmpty = false) (by omega : t < (xs.map fun x : Xr => (x.n : Int)).length) (by omega : -9223372036854775808 <= ((xs.map fun x : Xr => (x.n : Int)).getD t eI.d) + 1) (by omega : ((xs.map fun x : Xr => (x.n : Int)).getD t eI.d) + 1 < 9223372036854775808) (o3 (nz t) (by omega : (t : Int) < (xs.length : Int)) (zfe (by omega) : xs.isEmpty = false)))) fun _ => vst eI (xs.map fun x : Xr => (x.n : Int)) (((xs.map fun x : Xr => (x.n : Int)).getD t eI.d) + 1) ((xs.map fun x : Xr => (x.n : Int)).set t (((xs.map fun x : Xr => (x.n : Int)).getD t eI.d) + 1)) 4 4 qN t 0 3 mN xs.isEmpty [.i (((xs.map fun x : Xr => (x.n : Int)).getD t eI.d) + 1)] [9] (by omega) (zfe (by omega)) rfl (Nat.le_of_ble_eq_true rfl) rfl ?_ (hm := hmN)
  refine go (fun _ => (o4 (nz t) (by omega : (t : Int) < (xs.length : Int)) (zfe (by omega) : xs.isEmpty = false) (by omega : t < xs.length))) fun _ => gh (e7 120 3 eV.f eV.d 26 .grown) [] [] 121 fun _ _ => apd eV [] vs vs 120 0 .grown true vs.isEmpty (vc eV 6 qv vs tv mv zv) qv 0 vs.length cv zv 121 [0, 11] 122 26 (fun h => by cases h) (by simp only [length_cons, length_nil]; omega) L0 (by simp) rfl fun q113 => g0 fun q114 => apd eRw ((xs.getD t dXr).ws) [(q113, (((xs.getD t dXr).n, vs) : Rw))] ((xs.getD t dXr).ws ++ [(q113, (((xs.getD t dXr).n, vs) : Rw))]) 933 ((xs.getD t dXr).qr) .grown ((xs.getD t dXr).ws.isEmpty) (((xs.getD t dXr).ws ++ [(q113, (((xs.getD t dXr).n, vs) : Rw))]).isEmpty) (.blk 122 (q114 122) [.i ((xs.getD t dXr).n : Int), .s 121 q113 3 0 vs.length vs.length vs.isEmpty] 58 .own) (q114 122) 0 1 1 false 123 [7, 0] 124 58 (fun h _ => K4 h) (by simp only [length_cons, length_nil]; omega) (o8 rfl) (by simp) rfl fun q115 => gh (x4 (c := vc eV 121 q113 vs 26 .grown vs.isEmpty) (I := a6I (q113, (((xs.getD t dXr).n, vs) : Rw)))) [2] [] 124 fun _ _ => gh (i6 (I := a6I) (l := (xs.getD t dXr).ws) (x := (q113, (((xs.getD t dXr).n, vs) : Rw)))) [0, 8] [] 124 fun _ _ => go (fun _ => (o3 (nz t) (by omega : (t : Int) < (xs.length : Int)) (zfe (by omega) : xs.isEmpty = false))) fun _ => vst eRs xs ((xs.getD t dXr).ins q115 q113 vs) (xs.set t ((xs.getD t dXr).ins q115 q113 vs)) 3 3 qR t 0 55 mR xs.isEmpty [.s 123 q115 2 0 (((xs.getD t dXr).ws ++ [(q113, (((xs.getD t dXr).n, vs) : Rw))]).length) (((xs.getD t dXr).ws ++ [(q113, (((xs.getD t dXr).n, vs) : Rw))]).length) (((xs.getD t dXr).ws ++ [(q113, (((xs.getD t dXr).n, vs) : Rw))]).isEmpty)] [11] (by omega) (zfe (by omega)) rfl (Nat.le_of_ble_eq_true rfl) rfl ?_ (hm := hmR)
  refine g0 fun _ => gh (p6 (l := xL ((xs.getD t dXr).ins q115 q113 vs))) [6, 7, 8, 2, 1] [] 124 fun _ _ => gh (U5 (I := xA) (l := xs) t dXr ((xs.getD t dXr).ins q115 q113 vs) (by omega)) [0, 5] [] 124 fun _ _ => gh (b6 (l := [vc eTb 2 qS xs 46 mS xs.isEmpty]) (l' := [vc eTb 2 qS (xs.set t ((xs.getD t dXr).ins q115 q113 vs)) 46 mS ((xs.set t ((xs.getD t dXr).ins q115 q113 vs)).isEmpty)]) (a0B (P6 ht rfl) r8)) [6] [] 124 fun _ _ => gh (b6 (l := [vc eRs 3 qR (xs.set t ((xs.getD t dXr).ins q115 q113 vs)) 55 mR xs.isEmpty]) (l' := [vc eRs 3 qR (xs.set t ((xs.getD t dXr).ins q115 q113 vs)) 55 mR ((xs.set t ((xs.getD t dXr).ins q115 q113 vs)).isEmpty)]) (a0B rfl r8)) [2] [] 124 fun _ _ => gh (b6 (l := [vc eI 4 qN ((xs.map fun x : Xr => (x.n : Int)).set t (((xs.map fun x : Xr => (x.n : Int)).getD t eI.d) + 1)) 3 mN xs.isEmpty]) (l' := [vc eI 4 qN ((xs.set t ((xs.getD t dXr).ins q115 q113 vs)).map fun x : Xr => (x.n : Int)) 3 mN ((xs.set t ((xs.getD t dXr).ins q115 q113 vs)).isEmpty)]) (a0B (congrArg (List.map eI.f) (b63 ht rfl)) r8)) [5] [] 124 fun _ _ => gh (b6 (l := [.blk 1 q [.s 2 qS 4 0 xs.length xs.length xs.isEmpty, .s 3 qR 1 0 xs.length xs.length xs.isEmpty, .s 4 qN 1 0 xs.length xs.length xs.isEmpty] 42 .own]) (l' := [.blk 1 q [.s 2 qS 4 0 ((xs.set t ((xs.getD t dXr).ins q115 q113 vs)).length) ((xs.set t ((xs.getD t dXr).ins q115 q113 vs)).length) ((xs.set t ((xs.getD t dXr).ins q115 q113 vs)).isEmpty), .s 3 qR 1 0 ((xs.set t ((xs.getD t dXr).ins q115 q113 vs)).length) ((xs.set t ((xs.getD t dXr).ins q115 q113 vs)).length) ((xs.set t ((xs.getD t dXr).ins q115 q113 vs)).isEmpty), .s 4 qN 1 0 ((xs.set t ((xs.getD t dXr).ins q115 q113 vs)).length) ((xs.set t ((xs.getD t dXr).ins q115 q113 vs)).length) ((xs.set t ((xs.getD t dXr).ins q115 q113 vs)).isEmpty)] 42 .own]) (by rw [length_set, <- r8])) [6] [] 124 fun _ _ => rt trivial (⟨q115, q113⟩) trivial [0, 3, 2, 1, 4, 6]
theorem a8j {α : Type} {E : En α} {all : List α} {g q i : Nat} {t : TypeId} {m : Md} {z : Bool} (hi : i < all.length) : Go.Abs.Src (vc E g q all t m z) q (ofs all.length (i + 1) 0 * E.w) z (b7 E.f (all.drop (i + 1))) := by
 by_cases h : all.length = i + 1
 ·have e : all.drop (i + 1) = [] := by rw [drop_eq_nil_of_le (by omega)]
  rw [e]
  intro F A hF
  cases z with
  | true => exact .inl ⟨rfl, by simp [b7]⟩
  | false =>
   obtain ⟨hw, _, _, fz, _, hb⟩ := hF
   refine .inr ⟨rfl, _, _, _, hb, ?_, ?_⟩
   ·rw [h]
    simp [ofs, b7]
   ·simp [b7]
 ·have : ofs all.length (i + 1) 0 = i + 1 := by unfold ofs; rw [if_neg h]
  rw [this]
  have h2 := a18 (E := E) (xs := all) (g := g) (q := q) (t := t) (m := m) (z := z) (a := i + 1) (n := all.length - (i + 1)) (by omega)
  rwa [take_of_length_le (by rw [length_drop]; omega)] at h2
theorem b5F {α : Type} {l : List α} {j : Nat} : (l.eraseIdx j).isEmpty = ((l.take j).isEmpty && (l.drop (j + 1)).isEmpty) := by
 rw [eraseIdx_eq_take_drop_succ]
 cases l.take j <;> cases l.drop (j + 1) <;> rfl
theorem a0p {α : Type} {l : List α} {j : Nat} {d : α} (h : j < l.length) : l.getD j d ∈ l := by rw [a8 h]; exact getElem_mem _
def Xr.del (x : Xr) (qr j : Nat) : Xr := { x with qr := qr, ws := x.ws.eraseIdx j }
def Xr.put (x : Xr) (j c : Nat) (v : Va) : Xr := { x with ws := x.ws.set j ((x.ws.getD j eRw.d).1, ((x.ws.getD j eRw.d).2.1, (x.ws.getD j eRw.d).2.2.set c v)) }
theorem a8T {q qS qR qN : Nat} {xs : List Xr} {mR : Md} {t : Nat} {id : Int} (ht : t < xs.length) (hx : xP (xs.getD t dXr)) (hp : (xs.getD t dXr).s.pos id = -1) : K1 nO 67 [.o (.p 1 q 0 0 0), .o (.i (t : Int)), .o (.i id)] [.blk 1 q [.s 2 qS 4 0 xs.length xs.length xs.isEmpty, .s 3 qR 1 0 xs.length xs.length xs.isEmpty, .s 4 qN 1 0 xs.length xs.length xs.isEmpty] 42 .own, vc eRs 3 qR xs 55 mR xs.isEmpty, .as (e6 xA xs)] (.o (.v (.bool false))) := by
 refine fs 100 fun B => g0 fun _ => g0 fun _ => cl (@N8 _ q qS qR qN xs mR t id (by omega) (by assumption)) [0, 1, 2] [] 100 fun _ _ => g0 fun _ => sv 7 (v := .o (.i ((xs.getD t dXr).s.pos id))) (v' := .o (.i (-1))) (congrArg (fun n => Value.int .i64 n) hp) <| g0 fun _ => cdT (b := decide ((-1) < 0)) (by decide) <| g0 fun _ => rt trivial (()) trivial [0, 1, 2]
theorem b18 {q qS qR qN : Nat} {xs : List Xr} {mS mR mN : Md} {t : Nat} {id : Int} {j : Nat} (ht : t < xs.length) (hx : xP (xs.getD t dXr)) (hj : j < (xs.getD t dXr).ws.length) (hp : (xs.getD t dXr).s.pos id = (j : Int)) (hmR : mR.mine = true) : Ctr Tryz.prog nO 67 [.o (.p 1 q 0 0 0), .o (.i (t : Int)), .o (.i id)] [.blk 1 q [.s 2 qS 4 0 xs.length xs.length xs.isEmpty, .s 3 qR 1 0 xs.length xs.length xs.isEmpty, .s 4 qN 1 0 xs.length xs.length xs.isEmpty] 42 .own, vc eTb 2 qS xs 46 mS xs.isEmpty, vc eRs 3 qR xs 55 mR xs.isEmpty, vc eI 4 qN (xs.map fun x : Xr => (x.n : Int)) 3 mN xs.isEmpty, .as (e6 xA xs)] ((Nat)) (fun _ => True) (fun r => .o (.v (.bool true))) (fun r => [.blk 1 q [.s 2 qS 4 0 ((xs.set t ((xs.getD t dXr).del r j)).length) ((xs.set t ((xs.getD t dXr).del r j)).length) ((xs.set t ((xs.getD t dXr).del r j)).isEmpty), .s 3 qR 1 0 ((xs.set t ((xs.getD t dXr).del r j)).length) ((xs.set t ((xs.getD t dXr).del r j)).length) ((xs.set t ((xs.getD t dXr).del r j)).isEmpty), .s 4 qN 1 0 ((xs.set t ((xs.getD t dXr).del r j)).length) ((xs.set t ((xs.getD t dXr).del r j)).length) ((xs.set t ((xs.getD t dXr).del r j)).isEmpty)] 42 .own, vc eTb 2 qS (xs.set t ((xs.getD t dXr).del r j)) 46 mS ((xs.set t ((xs.getD t dXr).del r j)).isEmpty), vc eRs 3 qR (xs.set t ((xs.getD t dXr).del r j)) 55 mR ((xs.set t ((xs.getD t dXr).del r j)).isEmpty), vc eI 4 qN ((xs.set t ((xs.getD t dXr).del r j)).map fun x : Xr => (x.n : Int)) 3 mN ((xs.set t ((xs.getD t dXr).del r j)).isEmpty), .as (e6 xA (xs.set t ((xs.getD t dXr).del r j)))]) := by
 refine fs 100 (fun B => ?_)
 have hwl := hx.wl
 have hnl : (xs.map fun x : Xr => (x.n : Int)).length = xs.length := length_map ..
 have hnx := a60 (xs := xs) (t := t) (by omega)
 have hza := hx.za
 have hfl := hx.fm.xl
 refine g0 fun _ => g0 fun _ => cl (@N8 _ q qS qR qN xs mR t id (by omega) (by assumption)) [0, 2, 4] [] 100 fun _ _ => g0 fun _ => sv 7 (v := .o (.i ((xs.getD t dXr).s.pos id))) (v' := .o (.i (j : Int))) (congrArg (fun n => Value.int .i64 n) hp) <| g0 fun _ => cdF (b := decide ((j : Int) < 0)) (decide_eq_false (by omega)) <| gh (f8 (I := xA) (l := xs) t dXr (by omega)) [2] [] 100 fun _ _ => gh (O5 (l := xL (xs.getD t dXr))) [0] [] 100 fun _ _ => go (fun _ => (oc (nz t) (by omega : (t : Int) < (xs.length : Int)) (zfe (by omega) : xs.isEmpty = false) (by omega : t < xs.length) (by omega : ((xs.getD t dXr).ws.length) <= ((xs.getD t dXr).ws.length)) (nz j) (o1 (by omega : (j : Int) <= (((xs.getD t dXr).ws.length : Nat) : Int))))) fun _ => gh (e7 100 2 eRw.f eRw.d 58 .grown) [] [] 101 fun _ _ => apd eRw [] ((xs.getD t dXr).ws.take j) ((xs.getD t dXr).ws.take j) 100 0 .grown true (((xs.getD t dXr).ws.take j).isEmpty) (vc eRw 933 ((xs.getD t dXr).qr) ((xs.getD t dXr).ws) 58 .grown ((xs.getD t dXr).ws.isEmpty)) ((xs.getD t dXr).qr) 0 j ((xs.getD t dXr).ws.length) (xs.getD t dXr).ws.isEmpty 101 [0, 4] 102 58 (fun h => by cases h) (by rw [length_take, length_nil]; omega) (a18 (a := 0) (n := j) (by omega)) (by simp) rfl (fun q107 => ?_) (hn := (List.length_take_of_le (Nat.le_of_lt hj)).symm)
 refine go (fun _ => (oc (nz t) (by omega : (t : Int) < (xs.length : Int)) (zfe (by omega) : xs.isEmpty = false) (by omega : t < xs.length) (by omega : -9223372036854775808 <= (j : Int) + 1) (by omega : (j : Int) + 1 < 9223372036854775808) (o3 (by omega : ((xs.getD t dXr).ws.length) <= ((xs.getD t dXr).ws.length)) (by omega : (0 : Int) <= (j : Int) + 1) (by omega : (j : Int) + 1 <= (((xs.getD t dXr).ws.length : Nat) : Int))))) fun _ => apd eRw ((xs.getD t dXr).ws.take j) ((xs.getD t dXr).ws.drop (j + 1)) ((xs.getD t dXr).ws.eraseIdx j) 101 q107 .grown (((xs.getD t dXr).ws.take j).isEmpty) (((xs.getD t dXr).ws.eraseIdx j).isEmpty) (vc eRw 933 ((xs.getD t dXr).qr) ((xs.getD t dXr).ws) 58 .grown ((xs.getD t dXr).ws.isEmpty)) ((xs.getD t dXr).qr) (ofs (xs.getD t dXr).ws.length (j + 1) 0 * 2) (((xs.getD t dXr).ws.length) - (j + 1)) (((xs.getD t dXr).ws.length) - (j + 1)) (xs.getD t dXr).ws.isEmpty 102 [0, 1] 103 58 (fun h _ => K4 h) (by rw [length_take, length_drop]; omega) (a8j hj) b5F (eraseIdx_eq_take_drop_succ ..) (fun q109 => ?_) (hn := by rw [length_drop])
 refine go (fun _ => (o3 (nz t) (by omega : (t : Int) < (xs.length : Int)) (zfe (by omega) : xs.isEmpty = false))) fun _ => vst eRs xs ((xs.getD t dXr).del q109 j) (xs.set t ((xs.getD t dXr).del q109 j)) 3 3 qR t 0 55 mR xs.isEmpty [.s 102 q109 2 0 (((xs.getD t dXr).ws.eraseIdx j).length) (((xs.getD t dXr).ws.eraseIdx j).length) (((xs.getD t dXr).ws.eraseIdx j).isEmpty)] [8] (by omega) (zfe (by omega)) rfl (Nat.le_of_ble_eq_true rfl) rfl ?_ (hm := hmR)
 refine g0 fun _ => gh (f8 (I := a6I) (l := (xs.getD t dXr).ws) j eRw.d hj) [6] [] 103 fun _ _ => gh (p6 (l := xL ((xs.getD t dXr).del q109 j))) [5, 6, 7, 3, 1] [] 103 fun _ _ => gh (U5 (I := xA) (l := xs) t dXr ((xs.getD t dXr).del q109 j) (by omega)) [0, 4] [] 103 fun _ _ => gh (b6 (l := [vc eTb 2 qS xs 46 mS xs.isEmpty]) (l' := [vc eTb 2 qS (xs.set t ((xs.getD t dXr).del q109 j)) 46 mS ((xs.set t ((xs.getD t dXr).del q109 j)).isEmpty)]) (a0B (P6 ht rfl) r8)) [5] [] 103 fun _ _ => gh (b6 (l := [vc eRs 3 qR (xs.set t ((xs.getD t dXr).del q109 j)) 55 mR xs.isEmpty]) (l' := [vc eRs 3 qR (xs.set t ((xs.getD t dXr).del q109 j)) 55 mR ((xs.set t ((xs.getD t dXr).del q109 j)).isEmpty)]) (a0B rfl r8)) [3] [] 103 fun _ _ => gh (b6 (l := [vc eI 4 qN (xs.map fun x : Xr => (x.n : Int)) 3 mN xs.isEmpty]) (l' := [vc eI 4 qN ((xs.set t ((xs.getD t dXr).del q109 j)).map fun x : Xr => (x.n : Int)) 3 mN ((xs.set t ((xs.getD t dXr).del q109 j)).isEmpty)]) (a0B (congrArg (List.map eI.f) (P6 ht rfl)) r8)) [6] [] 103 fun _ _ => gh (b6 (l := [.blk 1 q [.s 2 qS 4 0 xs.length xs.length xs.isEmpty, .s 3 qR 1 0 xs.length xs.length xs.isEmpty, .s 4 qN 1 0 xs.length xs.length xs.isEmpty] 42 .own]) (l' := [.blk 1 q [.s 2 qS 4 0 ((xs.set t ((xs.getD t dXr).del q109 j)).length) ((xs.set t ((xs.getD t dXr).del q109 j)).length) ((xs.set t ((xs.getD t dXr).del q109 j)).isEmpty), .s 3 qR 1 0 ((xs.set t ((xs.getD t dXr).del q109 j)).length) ((xs.set t ((xs.getD t dXr).del q109 j)).length) ((xs.set t ((xs.getD t dXr).del q109 j)).isEmpty), .s 4 qN 1 0 ((xs.set t ((xs.getD t dXr).del q109 j)).length) ((xs.set t ((xs.getD t dXr).del q109 j)).length) ((xs.set t ((xs.getD t dXr).del q109 j)).isEmpty)] 42 .own]) (by rw [length_set, <- r8])) [6] [] 103 fun _ _ => rt trivial (q109) trivial [0, 3, 2, 1, 4]
theorem a8L {q qS qR qN : Nat} {xs : List Xr} {mR : Md} {t : Nat} {id : Int} {sn : ByteArray} {v : Va} (ht : t < xs.length) (hx : xP (xs.getD t dXr)) (hp : (xs.getD t dXr).s.pos id = -1) : K1 nO 69 [.o (.p 1 q 0 0 0), .o (.i (t : Int)), .o (.i id), .o (.t sn), .a [.i v.k, .i v.n, .t v.s]] [.blk 1 q [.s 2 qS 4 0 xs.length xs.length xs.isEmpty, .s 3 qR 1 0 xs.length xs.length xs.isEmpty, .s 4 qN 1 0 xs.length xs.length xs.isEmpty] 42 .own, vc eRs 3 qR xs 55 mR xs.isEmpty, .as (e6 xA xs)] (.o (.i 6)) := by
 refine fs 100 fun B => g0 fun q101 => g0 fun _ => cl (@N8 _ q qS qR qN xs mR t id (by omega) (by assumption)) [1, 2, 3] [] 101 fun _ _ => g0 fun _ => sv 11 (v := .o (.i ((xs.getD t dXr).s.pos id))) (v' := .o (.i (-1))) (congrArg (fun n => Value.int .i64 n) hp) <| g0 fun _ => cdT (b := decide ((-1) < 0)) (by decide) <| g0 fun _ => rt trivial (()) trivial [0, 1, 2]
theorem a8M {q qS qR qN : Nat} {xs : List Xr} {mS mR : Md} {t : Nat} {id : Int} {sn : ByteArray} {v : Va} {j : Nat} (ht : t < xs.length) (hx : xP (xs.getD t dXr)) (hj : j < (xs.getD t dXr).ws.length) (hp : (xs.getD t dXr).s.pos id = (j : Int)) (hc : e9 (xs.getD t dXr).F.xa (fun c => a7 c.name sn) = -1) : K1 nO 69 [.o (.p 1 q 0 0 0), .o (.i (t : Int)), .o (.i id), .o (.t sn), .a [.i v.k, .i v.n, .t v.s]] [.blk 1 q [.s 2 qS 4 0 xs.length xs.length xs.isEmpty, .s 3 qR 1 0 xs.length xs.length xs.isEmpty, .s 4 qN 1 0 xs.length xs.length xs.isEmpty] 42 .own, vc eTb 2 qS xs 46 mS xs.isEmpty, vc eRs 3 qR xs 55 mR xs.isEmpty, .as (e6 xA xs)] (.o (.i 3)) := by
 refine fs 100 (fun B => ?_)
 have hwl := hx.wl
 have hza := hx.za
 have hfl := hx.fm.xl
 refine g0 fun q101 => g0 fun _ => cl (@N8 _ q qS qR qN xs mR t id (by omega) (by assumption)) [1, 3, 4] [] 101 fun _ _ => g0 fun _ => sv 11 (v := .o (.i ((xs.getD t dXr).s.pos id))) (v' := .o (.i (j : Int))) (congrArg (fun n => Value.int .i64 n) hp) <| g0 fun _ => cdF (b := decide ((j : Int) < 0)) (decide_eq_false (by omega)) <| gh (f8 (I := xA) (l := xs) t dXr (by omega)) [2] [] 101 fun _ _ => gh (O5 (l := xL (xs.getD t dXr))) [0] [] 101 fun _ _ => go (fun _ => (o4 (nz t) (by omega : (t : Int) < (xs.length : Int)) (zfe (by omega) : xs.isEmpty = false) (by omega : t < xs.length))) fun _ => cl (@y9 _ ((xs.getD t dXr).F.name) ((xs.getD t dXr).F.key) ((xs.getD t dXr).qa) ((xs.getD t dXr).ca) ((xs.getD t dXr).za) ((xs.getD t dXr).F.xa) ((xs.getD t dXr).ta) .imm ((xs.getD t dXr).qA) ((xs.getD t dXr).cA) ((xs.getD t dXr).zA) ((xs.getD t dXr).da) sn (by assumption) (by omega)) [0] [(1, 931), (3, 932)] 101 fun _ _ => g0 fun _ => sv 12 (v := .o (.i (e9 ((xs.getD t dXr).F.xa) (fun c => a7 c.name sn)))) (v' := .o (.i (-1))) (congrArg (fun n => Value.int .i64 n) hc) <| g0 fun _ => cdT (b := decide ((-1) < 0)) (by decide) <| g0 fun _ => gh (p6 (l := xL (xs.getD t dXr))) [0, 1, 2, 3, 4] [] 101 fun _ _ => gh (j9 (I := xA) (l := xs) t dXr (by omega)) [0, 1] [] 101 fun _ _ => rt trivial (()) trivial [1, 4, 2, 0]
theorem a8K {q qS qR qN : Nat} {xs : List Xr} {mS mR : Md} {t : Nat} {id : Int} {sn : ByteArray} {v : Va} {j c : Nat} (ht : t < xs.length) (hx : xP (xs.getD t dXr)) (hj : j < (xs.getD t dXr).ws.length) (hp : (xs.getD t dXr).s.pos id = (j : Int)) (hc : e9 (xs.getD t dXr).F.xa (fun c => a7 c.name sn) = (c : Int)) (hcx : c < (xs.getD t dXr).F.xa.length) (hs : v.s.size < 1000000000) (hok : g9 (xs.getD t dXr).F.xa c v = false) : K1 nO 69 [.o (.p 1 q 0 0 0), .o (.i (t : Int)), .o (.i id), .o (.t sn), .a [.i v.k, .i v.n, .t v.s]] [.blk 1 q [.s 2 qS 4 0 xs.length xs.length xs.isEmpty, .s 3 qR 1 0 xs.length xs.length xs.isEmpty, .s 4 qN 1 0 xs.length xs.length xs.isEmpty] 42 .own, vc eTb 2 qS xs 46 mS xs.isEmpty, vc eRs 3 qR xs 55 mR xs.isEmpty, .as (e6 xA xs)] (.o (.i 4)) := by
 refine fs 100 (fun B => ?_)
 have hwl := hx.wl
 have hza := hx.za
 have hfl := hx.fm.xl
 refine g0 fun q101 => g0 fun _ => cl (@N8 _ q qS qR qN xs mR t id (by omega) (by assumption)) [1, 3, 4] [] 101 fun _ _ => g0 fun _ => sv 11 (v := .o (.i ((xs.getD t dXr).s.pos id))) (v' := .o (.i (j : Int))) (congrArg (fun n => Value.int .i64 n) hp) <| g0 fun _ => cdF (b := decide ((j : Int) < 0)) (decide_eq_false (by omega)) <| gh (f8 (I := xA) (l := xs) t dXr (by omega)) [2] [] 101 fun _ _ => gh (O5 (l := xL (xs.getD t dXr))) [0] [] 101 fun _ _ => go (fun _ => (o4 (nz t) (by omega : (t : Int) < (xs.length : Int)) (zfe (by omega) : xs.isEmpty = false) (by omega : t < xs.length))) fun _ => cl (@y9 _ ((xs.getD t dXr).F.name) ((xs.getD t dXr).F.key) ((xs.getD t dXr).qa) ((xs.getD t dXr).ca) ((xs.getD t dXr).za) ((xs.getD t dXr).F.xa) ((xs.getD t dXr).ta) .imm ((xs.getD t dXr).qA) ((xs.getD t dXr).cA) ((xs.getD t dXr).zA) ((xs.getD t dXr).da) sn (by assumption) (by omega)) [0] [(1, 931), (3, 932)] 101 fun _ _ => g0 fun _ => sv 12 (v := .o (.i (e9 ((xs.getD t dXr).F.xa) (fun c => a7 c.name sn)))) (v' := .o (.i (c : Int))) (congrArg (fun n => Value.int .i64 n) hc) <| g0 fun _ => cdF (b := decide ((c : Int) < 0)) (decide_eq_false (by omega)) <| go (fun _ => (oc (nz t) (by omega : (t : Int) < (xs.length : Int)) (zfe (by omega) : xs.isEmpty = false) (by omega : t < xs.length) (nz c) (by omega : (c : Int) < (((xs.getD t dXr).F.xa.length : Nat) : Int)) (o2 (zf hza (show 0 < (xs.getD t dXr).F.xa.length by omega) : (xs.getD t dXr).za = false) (by omega : c < ((xs.getD t dXr).F.xa).length)))) fun _ => cl (Q5 (v := v) (c := (((xs.getD t dXr).F.xa).getD c eC.d)) hs) [] [] 101 fun _ _ => g0 fun _ => cdT (b := !(and (vOk v) (or (v.k == 0) (v.k == (((xs.getD t dXr).F.xa).getD c eC.d).kind)))) (by rw [Bool.and_comm]; unfold g9 at hok; rw [hok]; rfl) <| g0 fun _ => gh (p6 (l := xL (xs.getD t dXr))) [0, 1, 2, 3, 4] [] 101 fun _ _ => gh (j9 (I := xA) (l := xs) t dXr (by omega)) [0, 1] [] 101 fun _ _ => rt trivial (()) trivial [1, 4, 2, 0]
theorem b1X {q qS qR qN : Nat} {xs : List Xr} {mS mR mN : Md} {t : Nat} {id : Int} {sn : ByteArray} {v : Va} {j c : Nat} (ht : t < xs.length) (hx : xP (xs.getD t dXr)) (hj : j < (xs.getD t dXr).ws.length) (hp : (xs.getD t dXr).s.pos id = (j : Int)) (hc : e9 (xs.getD t dXr).F.xa (fun c => a7 c.name sn) = (c : Int)) (hcx : c < (xs.getD t dXr).F.xa.length) (hs : v.s.size < 1000000000) (hok : g9 (xs.getD t dXr).F.xa c v = true) : Ctr Tryz.prog nO 69 [.o (.p 1 q 0 0 0), .o (.i (t : Int)), .o (.i id), .o (.t sn), .a [.i v.k, .i v.n, .t v.s]] [.blk 1 q [.s 2 qS 4 0 xs.length xs.length xs.isEmpty, .s 3 qR 1 0 xs.length xs.length xs.isEmpty, .s 4 qN 1 0 xs.length xs.length xs.isEmpty] 42 .own, vc eTb 2 qS xs 46 mS xs.isEmpty, vc eRs 3 qR xs 55 mR xs.isEmpty, vc eI 4 qN (xs.map fun x : Xr => (x.n : Int)) 3 mN xs.isEmpty, .as (e6 xA xs)] (Unit) (fun _ => True) (fun r => .o (.i 0)) (fun r => [.blk 1 q [.s 2 qS 4 0 ((xs.set t ((xs.getD t dXr).put j c v)).length) ((xs.set t ((xs.getD t dXr).put j c v)).length) ((xs.set t ((xs.getD t dXr).put j c v)).isEmpty), .s 3 qR 1 0 ((xs.set t ((xs.getD t dXr).put j c v)).length) ((xs.set t ((xs.getD t dXr).put j c v)).length) ((xs.set t ((xs.getD t dXr).put j c v)).isEmpty), .s 4 qN 1 0 ((xs.set t ((xs.getD t dXr).put j c v)).length) ((xs.set t ((xs.getD t dXr).put j c v)).length) ((xs.set t ((xs.getD t dXr).put j c v)).isEmpty)] 42 .own, vc eTb 2 qS (xs.set t ((xs.getD t dXr).put j c v)) 46 mS ((xs.set t ((xs.getD t dXr).put j c v)).isEmpty), vc eRs 3 qR (xs.set t ((xs.getD t dXr).put j c v)) 55 mR ((xs.set t ((xs.getD t dXr).put j c v)).isEmpty), vc eI 4 qN ((xs.set t ((xs.getD t dXr).put j c v)).map fun x : Xr => (x.n : Int)) 3 mN ((xs.set t ((xs.getD t dXr).put j c v)).isEmpty), .as (e6 xA (xs.set t ((xs.getD t dXr).put j c v)))]) := by
 refine fs 100 (fun B => ?_)
 have hwl := hx.wl
 have hza := hx.za
 have hfl := hx.fm.xl
 have hrl := hx.rl _ (a0p (d := eRw.d) hj)
 refine g0 fun q101 => g0 fun _ => cl (@N8 _ q qS qR qN xs mR t id (by omega) (by assumption)) [1, 3, 5] [] 101 fun _ _ => g0 fun _ => sv 11 (v := .o (.i ((xs.getD t dXr).s.pos id))) (v' := .o (.i (j : Int))) (congrArg (fun n => Value.int .i64 n) hp) <| g0 fun _ => cdF (b := decide ((j : Int) < 0)) (decide_eq_false (by omega)) <| gh (f8 (I := xA) (l := xs) t dXr (by omega)) [2] [] 101 fun _ _ => gh (O5 (l := xL (xs.getD t dXr))) [0] [] 101 fun _ _ => go (fun _ => (o4 (nz t) (by omega : (t : Int) < (xs.length : Int)) (zfe (by omega) : xs.isEmpty = false) (by omega : t < xs.length))) fun _ => cl (@y9 _ ((xs.getD t dXr).F.name) ((xs.getD t dXr).F.key) ((xs.getD t dXr).qa) ((xs.getD t dXr).ca) ((xs.getD t dXr).za) ((xs.getD t dXr).F.xa) ((xs.getD t dXr).ta) .imm ((xs.getD t dXr).qA) ((xs.getD t dXr).cA) ((xs.getD t dXr).zA) ((xs.getD t dXr).da) sn (by assumption) (by omega)) [0] [(1, 931), (3, 932)] 101 fun _ _ => g0 fun _ => sv 12 (v := .o (.i (e9 ((xs.getD t dXr).F.xa) (fun c => a7 c.name sn)))) (v' := .o (.i (c : Int))) (congrArg (fun n => Value.int .i64 n) hc) <| g0 fun _ => cdF (b := decide ((c : Int) < 0)) (decide_eq_false (by omega)) <| go (fun _ => (oc (nz t) (by omega : (t : Int) < (xs.length : Int)) (zfe (by omega) : xs.isEmpty = false) (by omega : t < xs.length) (nz c) (by omega : (c : Int) < (((xs.getD t dXr).F.xa.length : Nat) : Int)) (o2 (zf hza (show 0 < (xs.getD t dXr).F.xa.length by omega) : (xs.getD t dXr).za = false) (by omega : c < ((xs.getD t dXr).F.xa).length)))) fun _ => cl (Q5 (v := v) (c := (((xs.getD t dXr).F.xa).getD c eC.d)) hs) [] [] 101 fun _ _ => g0 fun _ => cdF (b := !(and (vOk v) (or (v.k == 0) (v.k == (((xs.getD t dXr).F.xa).getD c eC.d).kind)))) (by rw [Bool.and_comm]; unfold g9 at hok; rw [hok]; rfl) <| gh (f8 (I := a6I) (l := (xs.getD t dXr).ws) j eRw.d hj) [4] [] 101 fun _ _ => gh (a1t (c := vc eV 921 (((xs.getD t dXr).ws.getD j eRw.d).1) (((xs.getD t dXr).ws.getD j eRw.d).2.2) 26 .grown (((xs.getD t dXr).ws.getD j eRw.d).2.2.isEmpty)) (I := a6I ((xs.getD t dXr).ws.getD j eRw.d))) [0] [] 101 fun _ _ => go (fun _ => (oc (nz t) (by omega : (t : Int) < (xs.length : Int)) (zfe (by omega) : xs.isEmpty = false) (by omega : t < xs.length) (nz j) (by omega : (j : Int) < (((xs.getD t dXr).ws.length : Nat) : Int)) (o5 (zfe (by omega) : (xs.getD t dXr).ws.isEmpty = false) (by omega : j < ((xs.getD t dXr).ws).length) (nz c) (by omega : (c : Int) < (((((xs.getD t dXr).ws).getD j eRw.d).2.2.length : Nat) : Int)) (zfe (show 0 < ((xs.getD t dXr).ws.getD j eRw.d).2.2.length by omega) : (((xs.getD t dXr).ws).getD j eRw.d).2.2.isEmpty = false)))) fun _ => vst eV (((xs.getD t dXr).ws.getD j eRw.d).2.2) v ((((xs.getD t dXr).ws.getD j eRw.d).2.2).set c v) 921 921 ((((xs.getD t dXr).ws).getD j eRw.d).1) c 0 26 .grown (((xs.getD t dXr).ws.getD j eRw.d).2.2.isEmpty) [.i v.k, .i v.n, .t v.s] [0] (by omega) (zfe (show 0 < ((xs.getD t dXr).ws.getD j eRw.d).2.2.length by omega)) rfl (Nat.le_of_ble_eq_true rfl) rfl <| g0 fun _ => gh (b6 (l := [vc eV 921 (((xs.getD t dXr).ws.getD j eRw.d).1) ((((xs.getD t dXr).ws.getD j eRw.d).2.2).set c v) 26 .grown (((xs.getD t dXr).ws.getD j eRw.d).2.2.isEmpty)]) (l' := [vc eV 921 (((xs.getD t dXr).ws.getD j eRw.d).1) ((((xs.getD t dXr).ws.getD j eRw.d).2.2).set c v) 26 .grown (((((xs.getD t dXr).ws.getD j eRw.d).2.2).set c v).isEmpty)]) (a0B rfl r8)) [0] [] 101 fun _ _ => gh (x4 (c := vc eV 921 (((xs.getD t dXr).ws.getD j eRw.d).1) ((((xs.getD t dXr).ws.getD j eRw.d).2.2).set c v) 26 .grown (((((xs.getD t dXr).ws.getD j eRw.d).2.2).set c v).isEmpty)) (I := a6I (((xs.getD t dXr).ws.getD j eRw.d).1, (((xs.getD t dXr).ws.getD j eRw.d).2.1, ((xs.getD t dXr).ws.getD j eRw.d).2.2.set c v)))) [0] [] 101 fun _ _ => gh (U5 (I := a6I) (l := (xs.getD t dXr).ws) j eRw.d (((xs.getD t dXr).ws.getD j eRw.d).1, (((xs.getD t dXr).ws.getD j eRw.d).2.1, ((xs.getD t dXr).ws.getD j eRw.d).2.2.set c v)) hj) [0, 1] [] 101 fun _ _ => gh (b6 (l := [vc eRw 933 ((xs.getD t dXr).qr) ((xs.getD t dXr).ws) 58 .grown ((xs.getD t dXr).ws.isEmpty)]) (l' := [vc eRw 933 ((xs.getD t dXr).qr) ((xs.getD t dXr).ws.set j (((xs.getD t dXr).ws.getD j eRw.d).1, (((xs.getD t dXr).ws.getD j eRw.d).2.1, ((xs.getD t dXr).ws.getD j eRw.d).2.2.set c v))) 58 .grown (((xs.getD t dXr).ws.set j (((xs.getD t dXr).ws.getD j eRw.d).1, (((xs.getD t dXr).ws.getD j eRw.d).2.1, ((xs.getD t dXr).ws.getD j eRw.d).2.2.set c v))).isEmpty)]) (a0B (P6 hj (by show [C1.v _, .s _ _ _ _ _ _ _] = [C1.v _, .s _ _ _ _ _ _ _]; rw [length_set, <- r8])) r8)) [4] [] 101 fun _ _ => gh (p6 (l := xL ((xs.getD t dXr).put j c v))) [2, 3, 4, 0, 1] [] 101 fun _ _ => gh (U5 (I := xA) (l := xs) t dXr ((xs.getD t dXr).put j c v) (by omega)) [0, 1] [] 101 fun _ _ => gh (b6 (l := [vc eTb 2 qS xs 46 mS xs.isEmpty]) (l' := [vc eTb 2 qS (xs.set t ((xs.getD t dXr).put j c v)) 46 mS ((xs.set t ((xs.getD t dXr).put j c v)).isEmpty)]) (a0B (P6 ht rfl) r8)) [4] [] 101 fun _ _ => gh (b6 (l := [vc eRs 3 qR xs 55 mR xs.isEmpty]) (l' := [vc eRs 3 qR (xs.set t ((xs.getD t dXr).put j c v)) 55 mR ((xs.set t ((xs.getD t dXr).put j c v)).isEmpty)]) (a0B (P6 ht (by show [C1.s _ _ _ _ _ _ _] = [C1.s _ _ _ _ _ _ _]; unfold Xr.put; rw [length_set, <- r8])) r8)) [3] [] 101 fun _ _ => gh (b6 (l := [vc eI 4 qN (xs.map fun x : Xr => (x.n : Int)) 3 mN xs.isEmpty]) (l' := [vc eI 4 qN ((xs.set t ((xs.getD t dXr).put j c v)).map fun x : Xr => (x.n : Int)) 3 mN ((xs.set t ((xs.getD t dXr).put j c v)).isEmpty)]) (a0B (congrArg (List.map eI.f) (P6 ht rfl)) r8)) [5] [] 101 fun _ _ => gh (b6 (l := [.blk 1 q [.s 2 qS 4 0 xs.length xs.length xs.isEmpty, .s 3 qR 1 0 xs.length xs.length xs.isEmpty, .s 4 qN 1 0 xs.length xs.length xs.isEmpty] 42 .own]) (l' := [.blk 1 q [.s 2 qS 4 0 ((xs.set t ((xs.getD t dXr).put j c v)).length) ((xs.set t ((xs.getD t dXr).put j c v)).length) ((xs.set t ((xs.getD t dXr).put j c v)).isEmpty), .s 3 qR 1 0 ((xs.set t ((xs.getD t dXr).put j c v)).length) ((xs.set t ((xs.getD t dXr).put j c v)).length) ((xs.set t ((xs.getD t dXr).put j c v)).isEmpty), .s 4 qN 1 0 ((xs.set t ((xs.getD t dXr).put j c v)).length) ((xs.set t ((xs.getD t dXr).put j c v)).length) ((xs.set t ((xs.getD t dXr).put j c v)).isEmpty)] 42 .own]) (by rw [length_set, <- r8])) [4] [] 101 fun _ _ => rt trivial (()) trivial [0, 3, 2, 1, 4]
end Go.Proofs.YtagidoadfajpgaaGreat
namespace Go.Proofs.YtagidoadfajpgaaGreat
open Go.Abs
variable {nO : Nat}
set_option maxRecDepth 100000
attribute [local irreducible] GP ruP nxP acS gst cdP loP j6 m9 m8 enP caA n5 lgP agN
abbrev xv (x : Xr) (c i : Nat) : Va := (x.ws.getD i eRw.d).2.2.getD c eV.d
end Go.Proofs.YtagidoadfajpgaaGreat
namespace Go.Proofs.YtagidoadfajpgaaGreat
set_option maxHeartbeats 4000000
open Go.Abs
variable {nO : Nat}
set_option maxRecDepth 8000
attribute [local irreducible] GP ruP nxP acS gst cdP loP j6 m9 m8 enP caA n5 lgP agN
theorem a48 {s : ByteArray} {n : Nat}  : K1 nO 62 [.o (.t s), .o (.i (n : Int))] [] (.o (.t (b1j s n))) := by
 refine fs 100 fun B => g0 fun _ => g0 fun _ => cdD ((s.size : Int) > (n : Int)) (fun h1 => ?_) (fun h1 => ?_)
 ·refine go (fun _ => (o2 (nz n) (by omega : (n : Int) <= ((s.size : Nat) : Int)))) fun _ => rtv trivial (()) trivial [] (.o (.t (s.extract 0 n))) (congrArg Value.string (by rw [b1j, if_pos (by omega)]))
 ·refine g0 fun _ => rtv trivial (()) trivial [] (.o (.t s)) (congrArg Value.string (by rw [b1j, if_neg (by omega)]))
theorem a54 {id : Int} {s : ByteArray}  : Ctr Tryz.prog nO 150 [.o (.i id), .o (.t s)] [] ((Nat)) (fun _ => True) (fun r => .o (.s 1 r 3 0 ((I0 id s).length) ((I0 id s).length) false)) (fun r => [vc eV 1 r (I0 id s) 26 .own false]) := by
 refine fs 100 fun B => g0 fun _ => g0 fun q102 => gh (j7 (g := 100) (q := (q102 100)) (cs := [.i 1, .i id, .t ⟨#[]⟩, .i 2, .i 0, .t s, .i 0, .i 0, .t ⟨#[]⟩, .i 0, .i 0, .t ⟨#[]⟩]) (t := 26) (m := .own) eV (I0 id s)) [0] [] 101 fun _ _ => rt trivial ((q102 100)) trivial [0]
end Go.Proofs.YtagidoadfajpgaaGreat
open List (length_cons length_nil map_append length_map length_take getElem?_eq_getElem getElem_map take_add_one)
namespace Go.Proofs.YtagidoadfajpgaaGreat
set_option maxHeartbeats 4000000
open Go.Abs
variable {nO : Nat}
set_option maxRecDepth 100000
attribute [local irreducible] GP ruP nxP acS gst cdP loP j6 m9 m8 enP caA n5 lgP agN
def b3g (v : Va) : Va := ⟨v.k, v.n, b1j v.s 20⟩
def g5 (l : List Va) (n : Nat) : List Va := (l.take n).map b3g
theorem S9 {l : List Va} {n : Nat} : (g5 l n).length = min n l.length := by unfold g5; rw [length_map, length_take]
theorem a1V {l : List Va} {i : Nat} (h : i < l.length) : g5 l (i + 1) = g5 l i ++ [b3g (l.getD i eV.d)] := by
 unfold g5
 rw [take_add_one, getElem?_eq_getElem h, map_append, a8 h]; rfl
theorem b3f {l : List Va} {n j : Nat} (h : j < (g5 l n).length) : ((g5 l n).getD j eV.d).s.size <= 20 := by
 unfold g5 at h ⊢
 rw [a8 h, getElem_map]
 exact b3h
theorem b2o {v : Va}  : K1 nO 20 [.a [.i v.k, .i v.n, .t v.s]] [] (.a [.i ((b3g v).k), .i ((b3g v).n), .t ((b3g v).s)]) := by
 refine fs 100 fun B => g0 fun q101 => g0 fun _ => cl (@a48 _ v.s 20) [] [] 102 fun _ _ => g0 fun _ => g0 fun _ => rt trivial (()) trivial []
theorem a9t {qv cv : Nat} {zv : Bool} {vs : List Va} {tv : TypeId} {mv : Md} {zc : Bool} {n : Nat} (hzv : zv = true -> vs.length = 0) (hlv : vs.length < 9223372036854775808) (hnv : n < 1000000) : Ctr Tryz.prog nO 70 [.o (.s 6 qv 3 0 vs.length cv zv), .o (.i (n : Int))] [vc eV 6 qv vs tv mv zc] ((Nat)) (fun _ => True) (fun r => .o (.s 7 r 3 0 ((g5 vs (min n vs.length)).length) ((g5 vs (min n vs.length)).length) ((g5 vs (min n vs.length)).isEmpty))) (fun r => [vc eV 7 r (g5 vs (min n vs.length)) 26 .grown ((g5 vs (min n vs.length)).isEmpty), vc eV 6 qv vs tv mv zc]) := by
 refine fs 100 fun B => g0 fun _ => g0 fun _ => g0 fun _ => gh (e7 100 3 eV.f eV.d 26 .grown) [] [] 101 fun _ _ => sv 5 (v := .o (.v (.slice none 0 0))) (v' := .o (.s 100 0 3 0 ((g5 vs 0).length) ((g5 vs 0).length) ((g5 vs 0).isEmpty))) rfl <| lp ((Nat) × (Nat)) [0, 1] (fun r => [(6, .o (.i (r.1 : Int))), (5, .o (.s 100 r.2 3 0 ((g5 vs r.1).length) ((g5 vs r.1).length) ((g5 vs r.1).isEmpty)))]) [1] (fun r => [vc eV 100 r.2 (g5 vs r.1) 26 .grown ((g5 vs r.1).isEmpty)]) 121 (fun r => r.1 <= n /\ r.1 <= vs.length) (fun r => vs.length - r.1) (⟨0, 0⟩) ⟨Nat.zero_le _, Nat.zero_le _⟩ [0] (fun ⟨i, pq⟩ hx ag104 => ?_)
 try dsimp only at hx
 obtain ⟨hi1, hi2⟩ := hx
 refine g0 fun _ => cd (and (decide ((i : Int) < (vs.length : Int))) (decide ((i : Int) < (n : Int)))) (fun h1 => ?_) (fun h1 => ?_)
 ·have h1 : ((i : Int) < (vs.length : Int)) /\ ((i : Int) < (n : Int)) := by simpa using h1
  have hcl := S9 (l := vs) (n := i)
  refine go (fun _ => (o4 (nz i) (by omega : (i : Int) < (vs.length : Int)) (zf hzv (show 0 < vs.length by omega) : zv = false) (by omega : i < vs.length))) fun _ => cl (@b2o _ (vs.getD i eV.d)) [] [] 121 fun _ _ => g0 fun q108 => apd eV (g5 vs i) [(b3g (vs.getD i eV.d))] (g5 vs (i + 1)) 100 pq .grown ((g5 vs i).isEmpty) ((g5 vs (i + 1)).isEmpty) (.blk 121 (q108 121) [.i ((b3g (vs.getD i eV.d)).k), .i ((b3g (vs.getD i eV.d)).n), .t ((b3g (vs.getD i eV.d)).s)] 26 .own) (q108 121) 0 1 1 false 122 [1, 0] 123 26 (fun h _ => K4 h) (by rw [S9]; simp only [length_cons, length_nil]; omega) (o8 rfl) (by rw [a1V (show i < vs.length by omega)]; simp) (a1V (by omega)) fun q109 => g0 fun _ => go (fun _ => (o2 (by omega : -9223372036854775808 <= (i : Int) + 1) (by omega : (i : Int) + 1 < 9223372036854775808))) fun _ => ag104 _ _ (⟨i + 1, q109⟩) (by first | omega | (simp only; omega)) (by dsimp only; exact ⟨by omega, by omega⟩) [0, 2] (by kernel_rfl) (by kernel_rfl)
 ·have h1 : ¬ (((i : Int) < (vs.length : Int)) /\ ((i : Int) < (n : Int))) := by simpa using h1
  have hie : i = (min n vs.length) := by omega
  refine g0 fun _ => gh (b6 (l := [vc eV 100 pq (g5 vs i) 26 .grown ((g5 vs i).isEmpty)]) (l' := [vc eV 100 pq (g5 vs (min n vs.length)) 26 .grown ((g5 vs (min n vs.length)).isEmpty)]) (by rw [hie])) [0] [] 121 fun _ _ => rtv trivial (pq) trivial [0, 1] (.o (.s 100 pq 3 0 ((g5 vs i).length) ((g5 vs i).length) ((g5 vs i).isEmpty))) (by rw [hie]; rfl)
end Go.Proofs.YtagidoadfajpgaaGreat
namespace Go.Proofs.YtagidoadfajpgaaGreat
open Go.Abs
variable {nO : Nat}
set_option maxRecDepth 100000
attribute [local irreducible] GP ruP nxP acS gst cdP loP j6 m9 m8 enP caA n5 lgP agN
end Go.Proofs.YtagidoadfajpgaaGreat
namespace Go.Proofs.YtagidoadfajpgaaGreat
set_option maxHeartbeats 4000000
open Go.Abs
variable {nO : Nat}
set_option maxRecDepth 100000
attribute [local irreducible] GP ruP nxP acS gst cdP loP j6 m9 m8 enP caA n5 lgP agN
theorem b6B {m : List Sp} {k : Nat} (h : WF (-1) m) (hk : k < m.length) : 0 <= (m.getD k eP.d).1 /\ (m.getD k eP.d).1 < (m.getD k eP.d).2 /\ (m.getD k eP.d).2 <= 65536 := by
 rw [a8 hk]
 have := H6 h _ (List.getElem_mem hk)
 omega
theorem b58 {m : List Sp} {k : Nat} (h : k < m.length) : (E7 (m.take (k + 1))).length = (E7 (m.take k)).length + ((m.getD k eP.d).2 - (m.getD k eP.d).1).toNat := b04 h
abbrev b6k : Int -> List SV := fun x => [.o (.i x)]
theorem b59 {m : List Sp} {k j : Nat} (h : k < m.length) (hj : j < ((m.getD k eP.d).2 - (m.getD k eP.d).1).toNat) : ((E7 m).map b6k)[(E7 (m.take k)).length + j]? = some [SV.o (.i ((m.getD k eP.d).1 + (j : Int)))] := by
 rw [List.getElem?_map]
 have e : (E7 m)[(E7 (m.take k)).length + j]? = some ((m.getD k eP.d).1 + (j : Int)) := b6a h hj
 rw [e]; rfl
theorem b03 {q qm cm : Nat} {m : List Sp} {tm : TypeId} {mm : Md} (hw : WF (-1) m) (y : Value) (Inv : Nat -> As) (Stop : As) (hT : b3F Tryz.prog nO y ((E7 m).map b6k) Inv Stop) :
  Ctr Tryz.prog nO 127 [.o (.v y), .o (.p 1 q 0 0 0)] [.as (Inv 0), .blk 1 q [.s 2 qm 2 0 m.length cm m.isEmpty] 124 .own, vc eP 2 qm m tm mm m.isEmpty] Bool (fun _ => True) (fun _ => .o (.v undef)) (fun b => [.as (cond b (Inv ((E7 m).map b6k).length) Stop), .blk 1 q [.s 2 qm 2 0 m.length cm m.isEmpty] 124 .own, vc eP 2 qm m tm mm m.isEmpty]) := by
 refine fs 100 (fun B => ?_)
 have hml := D0 hw
 refine g0 fun _ => gh (b6 (l := [.as (Inv 0)]) (l' := [.as (Inv (E7 (m.take 0)).length)]) rfl) [0] [] 100 fun _ _ => lp ((Nat)) [0, 7, 8] (fun r => [(9, .o (.i (r : Int)))]) [1, 2] (fun r => [.as (Inv (E7 (m.take r)).length)]) 120 (fun r => r <= m.length) (fun r => m.length - r) (0) (Nat.zero_le _) [0] (fun k hx ag102 => ?_)
 have hkm := hx
 refine g0 fun _ => cdD ((k : Int) < (m.length : Int)) (fun h1 => ?_) (fun h1 => ?_)
 ·have hft := b6B hw (k := k) (by omega)
  have hak := b58 (m := m) (k := k) (by omega)
  refine go (fun q104 => (o4 (nz k) (by omega : (k : Int) < (m.length : Int)) (zfe (show 0 < m.length by omega) : m.isEmpty = false) (by omega : k < m.length))) fun q104 => go (fun _ => (o2 (by decide : (0 : Int) <= 0) (by decide : (0 : Int) < 2))) fun _ => sv 5 (v := .o (.i ((m.getD k eP.d).1))) (v' := .o (.i ((m.getD k eP.d).1 + (((0 : Nat)) : Int)))) (congrArg (Value.int .i64) (by omega)) <| gh (b6 (l := [.as (Inv (E7 (m.take k)).length)]) (l' := [.as (Inv ((E7 (m.take k)).length + 0))]) rfl) [1] [] 121 fun _ _ => lp ((Nat)) [0, 4, 7, 8, 9] (fun r => [(5, .o (.i ((m.getD k eP.d).1 + ((r : Nat) : Int))))]) [1, 2, 3] (fun r => [.as (Inv ((E7 (m.take k)).length + r))]) 141 (fun r => (r : Int) <= (m.getD k eP.d).2 - (m.getD k eP.d).1) (fun r => ((m.getD k eP.d).2 - (m.getD k eP.d).1).toNat - r) (0) (by omega) [0] (fun j hx ag106 => ?_)
  have hjm := hx
  refine go (fun _ => (o2 (by decide : (0 : Int) <= 1) (by decide : (1 : Int) < 2))) fun _ => cdD ((m.getD k eP.d).1 + ((j : Nat) : Int) < (m.getD k eP.d).2) (fun h2 => ?_) (fun h2 => ?_)
  ·refine g0 fun _ => cly (hT ((E7 (m.take k)).length + j) _ (b59 (by omega) (by omega)) ) [0] [] 141 fun b _ => g0 fun _ => cd (!b) (fun h3 => ?_) (fun h3 => ?_)
   ·have hb : b = false := by cases b; rfl; cases h3
    refine gh (b6 (l := [.as (cond b (Inv ((E7 (m.take k)).length + j + 1)) Stop)]) (l' := [.as (cond false (Inv ((E7 m).map b6k).length) Stop)]) (by rw [hb]; rfl)) [0] [] 141 fun _ _ => rt trivial (false) trivial [0, 2, 3]
   ·have hb : b = true := by cases b; cases h3; rfl
    refine gh (b6 (l := [.as (cond b (Inv ((E7 (m.take k)).length + j + 1)) Stop)]) (l' := [.as (Inv ((E7 (m.take k)).length + (j + 1)))]) (by rw [hb]; rfl)) [0] [] 141 fun _ _ => go (fun _ => (o2 (by omega : -9223372036854775808 <= ((m.getD k eP.d).1 + ((j : Nat) : Int)) + 1) (by omega : ((m.getD k eP.d).1 + ((j : Nat) : Int)) + 1 < 9223372036854775808))) fun _ => sv 5 (v := .o (.i (((m.getD k eP.d).1 + ((j : Nat) : Int)) + 1))) (v' := .o (.i ((m.getD k eP.d).1 + ((j + 1 : Nat) : Int)))) (congrArg (Value.int .i64) (by omega)) <| ag106 _ _ (j + 1) (by omega) (by omega) [0, 1, 2, 3] (by kernel_rfl) (by kernel_rfl)
  ·have hje : j = ((m.getD k eP.d).2 - (m.getD k eP.d).1).toNat := by omega
   refine gh (b6 (l := [.as (Inv ((E7 (m.take k)).length + j))]) (l' := [.as (Inv (E7 (m.take (k + 1))).length)]) (by rw [hak, hje])) [0] [] 141 fun _ _ => go (fun _ => (o2 (by omega : -9223372036854775808 <= (k : Int) + 1) (by omega : (k : Int) + 1 < 9223372036854775808))) fun _ => ag102 _ _ (k + 1) (by first | omega | (simp only; omega)) (by omega) [0, 2, 3] (by kernel_rfl) (by kernel_rfl)
 ·have hke : k = m.length := by omega
  refine gh (b6 (l := [.as (Inv (E7 (m.take k)).length)]) (l' := [.as (cond true (Inv ((E7 m).map b6k).length) Stop)]) (by rw [hke, List.take_length, List.length_map]; rfl)) [0] [] 120 fun _ _ => rt trivial (true) trivial [0, 1, 2]
theorem b2n {qm cm : Nat} {m : List Sp}  : Ctr Tryz.prog nO 76 [.a [.s 1 qm 2 0 m.length cm m.isEmpty]] [] ((Nat)) (fun _ => True) (fun r => .o (.v (.func (.func 127) #[] #[.pointer (some ⟨r, 0, none⟩)]))) (fun r => [.blk 2 r [.s 1 qm 2 0 m.length cm m.isEmpty] 124 .own]) := by
 refine fs 100 fun B => g0 fun q101 => g0 fun _ => rt trivial ((q101 100)) trivial [0]
end Go.Proofs.YtagidoadfajpgaaGreat
namespace Go.Proofs.YtagidoadfajpgaaGreat
open Go.Abs
variable {nO : Nat}
set_option maxRecDepth 100000
attribute [local irreducible] GP ruP nxP acS gst cdP loP j6 m9 m8 enP caA n5 lgP agN
end Go.Proofs.YtagidoadfajpgaaGreat
namespace Go.Proofs.YtagidoadfajpgaaGreat
open Go.Abs
variable {nO : Nat}
theorem col_at {x : Xr} {c i : Nat} (h : i < x.ws.length) : (x.s.col c)[i]? = some (xv x c i) := by
 show ((x.ws.map Prod.snd).map fun r => r.2.getD c eV.d)[i]? = _
 rw [List.map_map, List.getElem?_map, List.getElem?_eq_getElem h]
 unfold xv
 rw [a8 h]; rfl
theorem col_len {x : Xr} {c : Nat} : (x.s.col c).length = x.ws.length := by
 show ((x.ws.map Prod.snd).map fun r => r.2.getD c eV.d).length = _
 rw [List.length_map, List.length_map]
end Go.Proofs.YtagidoadfajpgaaGreat
namespace Go.Proofs.YtagidoadfajpgaaGreat
open Go.Abs
variable {nO : Nat}
set_option maxRecDepth 100000
attribute [local irreducible] GP ruP nxP acS gst cdP loP j6 m9 m8 enP caA n5 lgP agN
def Xr.cp (x : Xr) (qr : Nat) (ws : List (Nat × Rw)) : Xr := { x with qr := qr, ws := ws }
def Xr.lk (x y : Xr) : Prop := ∃ qr ws, y = x.cp qr ws /\ ws.map Prod.snd = x.ws.map Prod.snd
structure lkP (xs ys : List Xr) : Prop where
 le : ys.length <= xs.length
 lk : ∀ j, j < ys.length -> (xs.getD j dXr).lk (ys.getD j dXr)
end Go.Proofs.YtagidoadfajpgaaGreat
open List (length_append getD_eq_getElem?_getD getElem?_map map_append ext_getElem length_map map_drop map_take length_set map_set getElem_set getElem_map eraseIdx_eq_take_drop_succ)
namespace Go.Proofs.YtagidoadfajpgaaGreat
open Go.Abs
theorem Xr.ins_s {x : Xr} {qr q : Nat} {vs : List Va} : (x.ins qr q vs).s = x.s.ins vs := by
 unfold Xr.s Xr.ins Ts.ins
 simp
theorem Xr.del_s {x : Xr} {qr j : Nat} : (x.del qr j).s = x.s.del j := by
 show (⟨(x.ws.eraseIdx j).map Prod.snd, x.n⟩ : Ts) = ⟨(x.ws.map Prod.snd).eraseIdx j, x.n⟩
 rw [eraseIdx_eq_take_drop_succ, eraseIdx_eq_take_drop_succ, map_append, map_take, map_drop]
theorem Xr.put_s {x : Xr} {j c : Nat} {v : Va} : (x.put j c v).s = x.s.put j c v := by
 have e : (x.ws.map Prod.snd).getD j dR = (x.ws.getD j eRw.d).2 := by
  rw [getD_eq_getElem?_getD, getElem?_map, getD_eq_getElem?_getD]
  cases x.ws[j]? <;> rfl
 show (⟨(x.ws.set j _).map Prod.snd, x.n⟩ : Ts) = ⟨(x.ws.map Prod.snd).set j _, x.n⟩
 rw [map_set]
 show (⟨(x.ws.map Prod.snd).set j ((x.ws.getD j eRw.d).2.1, (x.ws.getD j eRw.d).2.2.set c v), x.n⟩ : Ts) = ⟨(x.ws.map Prod.snd).set j (((x.ws.map Prod.snd).getD j dR).1, ((x.ws.map Prod.snd).getD j dR).2.set c v), x.n⟩
 rw [e]
theorem xP.ins {x : Xr} (h : xP x) {qr q : Nat} {vs : List Va} (hl : vs.length = x.F.xa.length) (hn : x.ws.length + 1 < 100000) : xP (x.ins qr q vs) :=
 ⟨h.fm, h.za, h.zA, h.da, by show (x.ws ++ _).length < _; rw [length_append]; exact hn, fun w hw => by
  rcases List.mem_append.1 (show w ∈ x.ws ++ [_] from hw) with h2 | h2
  ·exact h.rl w h2
  ·obtain rfl := List.mem_singleton.1 h2; exact hl⟩
theorem xP.del {x : Xr} (h : xP x) {qr j : Nat} : xP (x.del qr j) :=
 ⟨h.fm, h.za, h.zA, h.da, Nat.lt_of_le_of_lt (List.length_eraseIdx_le ..) h.wl, fun w hw => h.rl w (List.mem_of_mem_eraseIdx hw)⟩
theorem xP.put {x : Xr} (h : xP x) {j c : Nat} {v : Va} (hj : j < x.ws.length) : xP (x.put j c v) :=
 ⟨h.fm, h.za, h.zA, h.da, by show (x.ws.set _ _).length < _; rw [length_set]; exact h.wl, fun w hw => by
  rcases List.mem_or_eq_of_mem_set (show w ∈ x.ws.set _ _ from hw) with h2 | h2
  ·exact h.rl w h2
  ·subst h2
   show ((x.ws.getD j eRw.d).2.2.set c v).length = _
   rw [length_set]; exact h.rl _ (a0p hj)⟩
structure Dr where
 qS : Nat
 qR : Nat
 qN : Nat
 mS : Md
 mR : Md
 mN : Md
 xs : List Xr
structure dbP (l : List (Fm × Ts)) (y : Dr) : Prop where
 ls : y.xs.map (fun x => (x.F, x.s)) = l
 ok : ∀ i, i < y.xs.length -> xP (y.xs.getD i dXr)
 mR : y.mR.mine = true
 mN : y.mN.mine = true
 le : y.xs.length < 100000
theorem dbP.put {l : List (Fm × Ts)} {y : Dr} (h : dbP l y) {t : Nat} {x' : Xr} (hx : xP x') (v : Fm × Ts) (e : (x'.F, x'.s) = v) : dbP (l.set t v) { y with xs := y.xs.set t x' } :=
 ⟨by rw [<- h.ls, <- e, map_set], fun i hi => by
  have hi2 : i < y.xs.length := by simpa using hi
  show xP ((y.xs.set t x').getD i dXr)
  rw [a8 (by simpa using hi2), getElem_set]
  split
  ·exact hx
  ·have := h.ok i hi2
   rwa [a8 hi2] at this, h.mR, h.mN, by show (y.xs.set t x').length < _; rw [length_set]; exact h.le⟩
theorem dbP.at {l : List (Fm × Ts)} {y : Dr} (h : dbP l y) {t : Nat} {F : Fm} {s : Ts} (e : l[t]? = some (F, s)) : t < y.xs.length /\ (y.xs.getD t dXr).F = F /\ (y.xs.getD t dXr).s = s := by
 rw [<- h.ls, getElem?_map, Option.map_eq_some_iff] at e
 obtain ⟨x, hx, e⟩ := e
 obtain ⟨ht, rfl⟩ := List.getElem?_eq_some_iff.1 hx
 rw [a8 ht]
 simp only [Prod.mk.injEq] at e
 exact ⟨ht, e.1, e.2⟩
theorem lkP.same {xs ys : List Xr} (h : lkP xs ys) (hl : ys.length = xs.length) : ys.map (fun x => (x.F, x.s)) = xs.map (fun x => (x.F, x.s)) := by
 apply ext_getElem
 ·rw [length_map, length_map, hl]
 ·intro j h1 h2
  have hj : j < ys.length := by simpa using h1
  have hj2 : j < xs.length := by omega
  obtain ⟨qr, ws, e, hw⟩ := h.lk j hj
  rw [a8 hj, a8 hj2] at e
  rw [a8 hj2] at hw
  rw [getElem_map, getElem_map, e]
  show ((xs[j]).F, (⟨ws.map Prod.snd, (xs[j]).n⟩ : Ts)) = ((xs[j]).F, (⟨(xs[j]).ws.map Prod.snd, (xs[j]).n⟩ : Ts))
  rw [hw]
end Go.Proofs.YtagidoadfajpgaaGreat
open List (getD_eq_getElem?_getD getElem?_map ext_getElem length_map getElem_map)
namespace Go.Proofs.YtagidoadfajpgaaGreat
open Go.Abs
variable {nO : Nat}
set_option maxRecDepth 100000
attribute [local irreducible] GP ruP nxP acS gst cdP loP j6 m9 m8 enP caA n5 lgP agN
def dbL (q : Nat) (y : Dr) : List Ch := [.blk 1 q [.s 2 y.qS 4 0 y.xs.length y.xs.length y.xs.isEmpty, .s 3 y.qR 1 0 y.xs.length y.xs.length y.xs.isEmpty, .s 4 y.qN 1 0 y.xs.length y.xs.length y.xs.isEmpty] 42 .own, vc eTb 2 y.qS y.xs 46 y.mS y.xs.isEmpty, vc eRs 3 y.qR y.xs 55 y.mR y.xs.isEmpty, vc eI 4 y.qN (y.xs.map fun x : Xr => (x.n : Int)) 3 y.mN y.xs.isEmpty, .as (e6 xA y.xs)]
def dbA (q : Nat) (l : List (Fm × Ts)) : As := a7q (dbP l) (dbL q)
theorem b8c {x : Xr} {j : Nat} : x.s.rows.getD j dR = (x.ws.getD j eRw.d).2 := by
 show (x.ws.map Prod.snd).getD j dR = _
 rw [getD_eq_getElem?_getD, getElem?_map, getD_eq_getElem?_getD]
 cases x.ws[j]? <;> rfl
theorem b0n {q t : Nat} {l : List (Fm × Ts)} {F : Fm} {s : Ts} {id : Int} (e : l[t]? = some (F, s)) (his : s.is id = false) :
  Ctr Tryz.prog nO 67 [.o (.p 1 q 0 0 0), .o (.i (t : Int)), .o (.i id)] [.as (dbA q l)] Unit (fun _ => True) (fun _ => .o (.v (.bool false))) (fun _ => [.as (dbA q l)]) :=
 g7 (ψ := dbP l) (L := dbL q) (E := []) (R' := Unit) (ψ' := fun _ => dbP l) (L' := fun _ => dbL q) (E' := fun _ => []) [0, 2, 4] [0, 3, 1, 4, 2] (fun y _ => ()) (fun y _ => y)
  (fun y hy => a8T (q := q) (qS := y.qS) (qR := y.qR) (qN := y.qN) (xs := y.xs) (mR := y.mR) (t := t) (id := id) (hy.at e).1 (hy.ok t (hy.at e).1) (by rw [(hy.at e).2.2]; exact Ts.none his))
  (fun y => ⟨by kernel_rfl, by kernel_rfl⟩)
  (fun y r hy hr => ⟨trivial, rfl, hy⟩)
  (fun y r => ⟨by kernel_rfl, by kernel_rfl⟩)
theorem b3c {q t j : Nat} {l : List (Fm × Ts)} {F : Fm} {s : Ts} {id : Int} (e : l[t]? = some (F, s)) (hj : j < s.rows.length) (hp : s.pos id = (j : Int)) :
  Ctr Tryz.prog nO 67 [.o (.p 1 q 0 0 0), .o (.i (t : Int)), .o (.i id)] [.as (dbA q l)] Unit (fun _ => True) (fun _ => .o (.v (.bool true))) (fun _ => [.as (dbA q (l.set t (F, s.del j)))]) :=
 g7 (ψ := dbP l) (L := dbL q) (E := []) (R' := Unit) (ψ' := fun _ => dbP (l.set t (F, s.del j))) (L' := fun _ => dbL q) (E' := fun _ => []) [0, 1, 2, 3, 4] [0, 1, 2, 3, 4] (fun y _ => ()) (fun y r => { y with xs := y.xs.set t ((y.xs.getD t dXr).del r j) })
  (fun y hy => b18 (q := q) (qS := y.qS) (qR := y.qR) (qN := y.qN) (xs := y.xs) (mS := y.mS) (mR := y.mR) (mN := y.mN) (t := t) (id := id) (j := j) (hy.at e).1 (hy.ok t (hy.at e).1) (by have h := hj; rw [<- (hy.at e).2.2] at h; simpa [Xr.s] using h) (by rw [(hy.at e).2.2]; exact hp) hy.mR)
  (fun y => ⟨by kernel_rfl, by kernel_rfl⟩)
  (fun y r hy hr => ⟨trivial, rfl, hy.put (hy.ok t (hy.at e).1).del _ (by rw [Xr.del_s, (hy.at e).2.2]; exact congrArg (fun F => (F, s.del j)) (hy.at e).2.1)⟩)
  (fun y r => ⟨by kernel_rfl, by kernel_rfl⟩)
theorem b0h {q t : Nat} {l : List (Fm × Ts)} {F : Fm} {s : Ts} {id : Int} {sn : ByteArray} {v : Va}  (e : l[t]? = some (F, s)) (his : s.is id = false) :
  Ctr Tryz.prog nO 69 [.o (.p 1 q 0 0 0), .o (.i (t : Int)), .o (.i id), .o (.t sn), .a [.i v.k, .i v.n, .t v.s]] [.as (dbA q l)] Unit (fun _ => True) (fun _ => .o (.i 6)) (fun _ => [.as (dbA q l)]) :=
 g7 (ψ := dbP l) (L := dbL q) (E := []) (R' := Unit) (ψ' := fun _ => dbP l) (L' := fun _ => dbL q) (E' := fun _ => []) [0, 2, 4] [0, 3, 1, 4, 2] (fun y _ => ()) (fun y r => y)
  (fun y hy => a8L (q := q) (qS := y.qS) (qR := y.qR) (qN := y.qN) (xs := y.xs) (mR := y.mR) (t := t) (id := id) (sn := sn) (v := v) (hy.at e).1 (hy.ok t (hy.at e).1) (by rw [(hy.at e).2.2]; exact Ts.none his))
  (fun y => ⟨by kernel_rfl, by kernel_rfl⟩)
  (fun y r hy hr => ⟨trivial, rfl, hy⟩)
  (fun y r => ⟨by kernel_rfl, by kernel_rfl⟩)
theorem b0i {q t : Nat} {l : List (Fm × Ts)} {F : Fm} {s : Ts} {id : Int} {sn : ByteArray} {v : Va} {j : Nat} (e : l[t]? = some (F, s)) (hj : j < s.rows.length) (hp : s.pos id = (j : Int)) (hc : e9 F.xa (fun c => a7 c.name sn) = -1) :
  Ctr Tryz.prog nO 69 [.o (.p 1 q 0 0 0), .o (.i (t : Int)), .o (.i id), .o (.t sn), .a [.i v.k, .i v.n, .t v.s]] [.as (dbA q l)] Unit (fun _ => True) (fun _ => .o (.i 3)) (fun _ => [.as (dbA q l)]) :=
 g7 (ψ := dbP l) (L := dbL q) (E := []) (R' := Unit) (ψ' := fun _ => dbP l) (L' := fun _ => dbL q) (E' := fun _ => []) [0, 1, 2, 4] [0, 1, 2, 4, 3] (fun y _ => ()) (fun y r => y)
  (fun y hy => a8M (q := q) (qS := y.qS) (qR := y.qR) (qN := y.qN) (xs := y.xs) (mR := y.mR) (t := t) (id := id) (sn := sn) (v := v) (mS := y.mS) (j := j) (hy.at e).1 (hy.ok t (hy.at e).1) (by have h := hj; rw [<- (hy.at e).2.2] at h; simpa [Xr.s] using h) (by rw [(hy.at e).2.2]; exact hp) (by rw [(hy.at e).2.1]; exact hc))
  (fun y => ⟨by kernel_rfl, by kernel_rfl⟩)
  (fun y r hy hr => ⟨trivial, rfl, hy⟩)
  (fun y r => ⟨by kernel_rfl, by kernel_rfl⟩)
theorem b0g {q t : Nat} {l : List (Fm × Ts)} {F : Fm} {s : Ts} {id : Int} {sn : ByteArray} {v : Va} {j c : Nat} (e : l[t]? = some (F, s)) (hj : j < s.rows.length) (hp : s.pos id = (j : Int)) (hc : e9 F.xa (fun c => a7 c.name sn) = (c : Int)) (hcx : c < F.xa.length) (hs : v.s.size < 1000000000) (hok : g9 F.xa c v = false) :
  Ctr Tryz.prog nO 69 [.o (.p 1 q 0 0 0), .o (.i (t : Int)), .o (.i id), .o (.t sn), .a [.i v.k, .i v.n, .t v.s]] [.as (dbA q l)] Unit (fun _ => True) (fun _ => .o (.i 4)) (fun _ => [.as (dbA q l)]) :=
 g7 (ψ := dbP l) (L := dbL q) (E := []) (R' := Unit) (ψ' := fun _ => dbP l) (L' := fun _ => dbL q) (E' := fun _ => []) [0, 1, 2, 4] [0, 1, 2, 4, 3] (fun y _ => ()) (fun y r => y)
  (fun y hy => a8K (q := q) (qS := y.qS) (qR := y.qR) (qN := y.qN) (xs := y.xs) (mR := y.mR) (t := t) (id := id) (sn := sn) (v := v) (mS := y.mS) (j := j) (c := c) (hy.at e).1 (hy.ok t (hy.at e).1) (by have h := hj; rw [<- (hy.at e).2.2] at h; simpa [Xr.s] using h) (by rw [(hy.at e).2.2]; exact hp) (by rw [(hy.at e).2.1]; exact hc) (by rw [(hy.at e).2.1]; exact hcx) hs (by rw [(hy.at e).2.1]; exact hok))
  (fun y => ⟨by kernel_rfl, by kernel_rfl⟩)
  (fun y r hy hr => ⟨trivial, rfl, hy⟩)
  (fun y r => ⟨by kernel_rfl, by kernel_rfl⟩)
theorem b25 {q t : Nat} {l : List (Fm × Ts)} {F : Fm} {s : Ts} {id : Int} {sn : ByteArray} {v : Va} {j c : Nat} (e : l[t]? = some (F, s)) (hj : j < s.rows.length) (hp : s.pos id = (j : Int)) (hc : e9 F.xa (fun c => a7 c.name sn) = (c : Int)) (hcx : c < F.xa.length) (hs : v.s.size < 1000000000) (hok : g9 F.xa c v = true) :
  Ctr Tryz.prog nO 69 [.o (.p 1 q 0 0 0), .o (.i (t : Int)), .o (.i id), .o (.t sn), .a [.i v.k, .i v.n, .t v.s]] [.as (dbA q l)] Unit (fun _ => True) (fun _ => .o (.i 0)) (fun _ => [.as (dbA q (l.set t (F, s.put j c v)))]) :=
 g7 (ψ := dbP l) (L := dbL q) (E := []) (R' := Unit) (ψ' := fun _ => dbP (l.set t (F, s.put j c v))) (L' := fun _ => dbL q) (E' := fun _ => []) [0, 1, 2, 3, 4] [0, 1, 2, 3, 4] (fun y _ => ()) (fun y r => { y with xs := y.xs.set t ((y.xs.getD t dXr).put j c v) })
  (fun y hy => b1X (q := q) (qS := y.qS) (qR := y.qR) (qN := y.qN) (xs := y.xs) (mR := y.mR) (t := t) (id := id) (sn := sn) (v := v) (mS := y.mS) (mN := y.mN) (j := j) (c := c) (hy.at e).1 (hy.ok t (hy.at e).1) (by have h := hj; rw [<- (hy.at e).2.2] at h; simpa [Xr.s] using h) (by rw [(hy.at e).2.2]; exact hp) (by rw [(hy.at e).2.1]; exact hc) (by rw [(hy.at e).2.1]; exact hcx) hs (by rw [(hy.at e).2.1]; exact hok))
  (fun y => ⟨by kernel_rfl, by kernel_rfl⟩)
  (fun y r hy hr => ⟨trivial, rfl, hy.put ((hy.ok t (hy.at e).1).put (by have h := hj; rw [<- (hy.at e).2.2] at h; simpa [Xr.s] using h)) _ (by rw [Xr.put_s, (hy.at e).2.2]; exact congrArg (fun F => (F, s.put j c v)) (hy.at e).2.1)⟩)
  (fun y r => ⟨by kernel_rfl, by kernel_rfl⟩)
theorem b0k {q t : Nat} {l : List (Fm × Ts)} {F : Fm} {s : Ts} {vs : List Va} {qv cv : Nat} {zv : Bool} {tv : TypeId} {mv : Md}  (e : l[t]? = some (F, s)) (hzv : zv = true -> vs.length = 0) (hlv : vs.length < 1000000) (hvl : vs.length ≠ F.xa.length) :
  Ctr Tryz.prog nO 65 [.o (.p 1 q 0 0 0), .o (.i (t : Int)), .o (.s 6 qv 3 0 vs.length cv zv)] [.as (dbA q l), vc eV 6 qv vs tv mv zv] Unit (fun _ => True) (fun _ => .t [(false, [.i 0]), (false, [.i 1])]) (fun _ => [.as (dbA q l), vc eV 6 qv vs tv mv zv]) :=
 g7 (ψ := dbP l) (L := dbL q) (E := [vc eV 6 qv vs tv mv zv]) (R' := Unit) (ψ' := fun _ => dbP l) (L' := fun _ => dbL q) (E' := fun _ => [vc eV 6 qv vs tv mv zv]) [0, 1, 2, 3, 4, 5] [0, 1, 2, 3, 4, 5] (fun y _ => ()) (fun y r => y)
  (fun y hy => J4 (a8S (q := q) (qS := y.qS) (qR := y.qR) (qN := y.qN) (xs := y.xs) (mS := y.mS) (mR := y.mR) (mN := y.mN) (t := t) (vs := vs) (qv := qv) (cv := cv) (zv := zv) (tv := tv) (mv := mv) (hy.at e).1 (hy.ok t (hy.at e).1) hzv hlv (by rw [(hy.at e).2.1]; exact hvl)) id (φ' := fun _ => True) (res' := fun _ => .t [(false, [.i 0]), (false, [.i 1])]) (post' := fun _ => dbL q y ++ [vc eV 6 qv vs tv mv zv]) fun r _ => ⟨trivial, rfl, rfl⟩)
  (fun y => ⟨by kernel_rfl, by kernel_rfl⟩)
  (fun y r hy hr => ⟨trivial, rfl, hy⟩)
  (fun y r => ⟨by kernel_rfl, by kernel_rfl⟩)
theorem b0j {q t : Nat} {l : List (Fm × Ts)} {F : Fm} {s : Ts} {vs : List Va} {qv cv : Nat} {zv : Bool} {tv : TypeId} {mv : Md} {c : Nat} (e : l[t]? = some (F, s)) (hzv : zv = true -> vs.length = 0) (hlv : vs.length < 1000000) (hvl : vs.length = F.xa.length) (hc1 : c < vs.length) (hc2 : g9 F.xa c (vs.getD c eV.d) = false) (hc3 : ∀ i, i < c -> g9 F.xa i (vs.getD i eV.d) = true) (hsz : ∀ i, i < vs.length -> (vs.getD i eV.d).s.size < 1000000000) :
  Ctr Tryz.prog nO 65 [.o (.p 1 q 0 0 0), .o (.i (t : Int)), .o (.s 6 qv 3 0 vs.length cv zv)] [.as (dbA q l), vc eV 6 qv vs tv mv zv] Unit (fun _ => True) (fun _ => .t [(false, [.i 0]), (false, [.i 4])]) (fun _ => [.as (dbA q l), vc eV 6 qv vs tv mv zv]) :=
 g7 (ψ := dbP l) (L := dbL q) (E := [vc eV 6 qv vs tv mv zv]) (R' := Unit) (ψ' := fun _ => dbP l) (L' := fun _ => dbL q) (E' := fun _ => [vc eV 6 qv vs tv mv zv]) [0, 1, 2, 3, 4, 5] [0, 1, 2, 3, 4, 5] (fun y _ => ()) (fun y r => y)
  (fun y hy => J4 (a8R (q := q) (qS := y.qS) (qR := y.qR) (qN := y.qN) (xs := y.xs) (mS := y.mS) (mR := y.mR) (mN := y.mN) (t := t) (vs := vs) (qv := qv) (cv := cv) (zv := zv) (tv := tv) (mv := mv) (c := c) (hy.at e).1 (hy.ok t (hy.at e).1) hzv hlv (by rw [(hy.at e).2.1]; exact hvl) hc1 (by rw [(hy.at e).2.1]; exact hc2) (by rw [(hy.at e).2.1]; exact hc3) hsz) id (φ' := fun _ => True) (res' := fun _ => .t [(false, [.i 0]), (false, [.i 4])]) (post' := fun _ => dbL q y ++ [vc eV 6 qv vs tv mv zv]) fun r _ => ⟨trivial, rfl, rfl⟩)
  (fun y => ⟨by kernel_rfl, by kernel_rfl⟩)
  (fun y r hy hr => ⟨trivial, rfl, hy⟩)
  (fun y r => ⟨by kernel_rfl, by kernel_rfl⟩)
theorem b28 {q t : Nat} {l : List (Fm × Ts)} {F : Fm} {s : Ts} {vs : List Va} {qv cv : Nat} {zv : Bool} {tv : TypeId} {mv : Md}  (e : l[t]? = some (F, s)) (hzv : zv = true -> vs.length = 0) (hlv : vs.length < 1000000) (hvl : vs.length = F.xa.length) (hok : ∀ i, i < vs.length -> g9 F.xa i (vs.getD i eV.d) = true) (hsz : ∀ i, i < vs.length -> (vs.getD i eV.d).s.size < 1000000000) (hn : s.next < 1000000) (hr0 : s.rows.length + 1 < 100000) :
  Ctr Tryz.prog nO 65 [.o (.p 1 q 0 0 0), .o (.i (t : Int)), .o (.s 6 qv 3 0 vs.length cv zv)] [.as (dbA q l), vc eV 6 qv vs tv mv zv] Unit (fun _ => True) (fun _ => .t [(false, [.i (s.next : Int)]), (false, [.i 0])]) (fun _ => [.as (dbA q (l.set t (F, s.ins vs))), vc eV 6 qv vs tv mv zv]) :=
 g7 (ψ := dbP l) (L := dbL q) (E := [vc eV 6 qv vs tv mv zv]) (R' := Unit) (ψ' := fun _ => dbP (l.set t (F, s.ins vs))) (L' := fun _ => dbL q) (E' := fun _ => [vc eV 6 qv vs tv mv zv]) [0, 1, 2, 3, 4, 5] [0, 1, 2, 3, 4, 5] (fun y _ => ()) (fun y r => { y with xs := y.xs.set t ((y.xs.getD t dXr).ins r.1 r.2 vs) })
  (fun y hy => J4 (b15 (q := q) (qS := y.qS) (qR := y.qR) (qN := y.qN) (xs := y.xs) (mS := y.mS) (mR := y.mR) (mN := y.mN) (t := t) (vs := vs) (qv := qv) (cv := cv) (zv := zv) (tv := tv) (mv := mv) (hy.at e).1 (hy.ok t (hy.at e).1) hzv hlv (by rw [(hy.at e).2.1]; exact hvl) (by rw [(hy.at e).2.1]; exact hok) hsz (by have h := hn; rw [<- (hy.at e).2.2] at h; exact h) hy.mR hy.mN) id (φ' := fun _ => True) (res' := fun _ => .t [(false, [.i (s.next : Int)]), (false, [.i 0])]) (post' := fun r => dbL q { y with xs := y.xs.set t ((y.xs.getD t dXr).ins r.1 r.2 vs) } ++ [vc eV 6 qv vs tv mv zv]) fun r _ => ⟨trivial, (by show SV.den (.t [(false, [.i ((y.xs.getD t dXr).s.next : Int)]), _]) = _; rw [(hy.at e).2.2]), rfl⟩)
  (fun y => ⟨by kernel_rfl, by kernel_rfl⟩)
  (fun y r hy hr => ⟨trivial, rfl, hy.put ((hy.ok t (hy.at e).1).ins (by rw [(hy.at e).2.1]; exact hvl) (by have h := hr0; rw [<- (hy.at e).2.2] at h; simpa [Xr.s] using h)) _ (by rw [Xr.ins_s, (hy.at e).2.2]; exact congrArg (fun F => (F, s.ins vs)) (hy.at e).2.1)⟩)
  (fun y r => ⟨by kernel_rfl, by kernel_rfl⟩)
theorem lkP.tb {xs ys : List Xr} (h : lkP xs ys) (hl : ys.length = xs.length) : xs.map eTb.f = ys.map eTb.f := by
 apply ext_getElem
 ·rw [length_map, length_map, hl]
 ·intro j h1 h2
  have hj : j < ys.length := by simpa using h2
  have hj2 : j < xs.length := by omega
  obtain ⟨qr, ws, e, hw⟩ := h.lk j hj
  rw [a8 hj, a8 hj2] at e
  rw [getElem_map, getElem_map, e]; rfl
theorem lkP.nx {xs ys : List Xr} (h : lkP xs ys) (hl : ys.length = xs.length) : (xs.map fun x : Xr => (x.n : Int)) = ys.map fun x : Xr => (x.n : Int) := by
 apply ext_getElem
 ·rw [length_map, length_map, hl]
 ·intro j h1 h2
  have hj : j < ys.length := by simpa using h2
  have hj2 : j < xs.length := by omega
  obtain ⟨qr, ws, e, hw⟩ := h.lk j hj
  rw [a8 hj, a8 hj2] at e
  rw [getElem_map, getElem_map, e]; rfl
end Go.Proofs.YtagidoadfajpgaaGreat
namespace Go.Proofs.YtagidoadfajpgaaGreat
open Go.Abs
variable {nO : Nat}
set_option maxRecDepth 100000
attribute [local irreducible] GP ruP ruN nxP acS gst cdP loP j6 m9 m8 enP caA n5 lgP agN
theorem b3j {P : Program} {f : FuncId} {args : List SV} {Y R : Type} {ψ : Y -> Prop} {L : Y -> List Ch} {E : List Ch} {φ : R -> Prop} {res : R -> SV} {post : R -> List Ch} (C : ∀ y, ψ y -> Ctr P nO f args (.as (a7q ψ L) :: E) R φ res post) : Ctr P nO f args (.as (a7q ψ L) :: E) R φ res post := fun F A hF => by
 obtain ⟨F1, F2, ⟨y, hy, h1⟩, h2, j⟩ := hF
 exact C y hy F A ⟨F1, F2, ⟨y, hy, h1⟩, h2, j⟩
theorem m0 {α : Type} {l : List α} {p : α -> Bool} : e9 l p = -1 ∨ ∃ c : Nat, c < l.length /\ e9 l p = (c : Int) := by
 unfold e9
 split
 ·rename_i j hj
  obtain ⟨h3, _⟩ := List.findIdx?_eq_some_iff_getElem.1 hj
  exact .inr ⟨j, h3, rfl⟩
 ·exact .inl rfl
theorem a7P {q : Nat} {F : Fm} {s : Ts} {k : Nat} {id : Int} {j : Nat} {l : List Va} (hk : k < 70000) (hj : j < s.rows.length) (hid : id = ((s.rows.getD j dR).1 : Int)) (hl : l = (s.rows.getD j dR).2) : Ctr Tryz.prog nO 88 [.o (.p 1 q 0 0 0), .o (.i id)] [.as (r5 q F s k)] ((Nat)) (fun _ => True) (fun r => .t [(false, [.s 6 r 3 0 l.length l.length l.isEmpty]), (false, [.v (.bool true)])]) (fun r => [.as (r5 q F s k), vc eV 6 r l 26 .grown l.isEmpty]) := by
 subst hid; subst hl; exact a5r hk hj
theorem a7R {q : Nat} {F : Fm} {s : Ts} {k : Nat} {id : Int} {j c : Nat} {sn : ByteArray} {v : Va} (hk : k < 70000) (hj : j < s.rows.length) (hid : id = ((s.rows.getD j dR).1 : Int)) (hc : e9 F.xa (fun c => a7 c.name sn) = (c : Int)) (hcx : c < F.xa.length) (hv : v = (s.rows.getD j dR).2.getD c eV.d) : K1 nO 77 [.o (.p 1 q 0 0 0), .o (.i id), .o (.t sn)] [.as (r5 q F s k)] (.t [(true, [.i v.k, .i v.n, .t v.s]), (false, [.v (.bool true)])]) := by
 subst hid; subst hv; exact a5t hk hj hc hcx
end Go.Proofs.YtagidoadfajpgaaGreat
namespace Go.Proofs.YtagidoadfajpgaaGreat
open Go.Abs
variable {nO : Nat}
set_option maxRecDepth 100000
attribute [local irreducible] GP ruP ruN nxP acS gst cdP loP j6 m9 m8 enP caA n5 lgP agN
theorem I6 {q : Nat} {F : Fm} {s : Ts} {k k' : Nat} {l : List Ch} (h : k <= k') : GE (.as (r5 q F s k) :: l) Unit (fun _ => True) (fun _ => .as (r5 q F s k') :: l) := fun _ A hF => by
 obtain ⟨F1, F2, ⟨y, hy, h1⟩, h2, j⟩ := hF
 exact ⟨(), _, trivial, ⟨F1, F2, ⟨y, { hy with rep := hy.rep.mono h }, h1⟩, h2, j⟩, .refl⟩
def okV (F : Fm) (vs : List Va) : Prop := vs.length = F.xa.length /\ ∀ i, i < vs.length -> g9 F.xa i (vs.getD i eV.d) = true
open Classical in
noncomputable def insS (F : Fm) (s : Ts) (vs : List Va) : Ts := if okV F vs then s.ins vs else s
open Classical in
noncomputable def a3J (F : Fm) (s : Ts) (vs : List Va) : Int := if okV F vs then (s.next : Int) else 0
open Classical in
noncomputable def a3K (F : Fm) (vs : List Va) : Int := if okV F vs then 0 else if vs.length = F.xa.length then 4 else 1
def a1l (s : Ts) (id : Int) : Ts := if s.is id = true then s.del (s.pos id).toNat else s
def a2Y (F : Fm) (s : Ts) (id : Int) (sn : ByteArray) (v : Va) : Int := if s.is id = true then (if e9 F.xa (fun c => a7 c.name sn) = -1 then 3 else if g9 F.xa (e9 F.xa (fun c => a7 c.name sn)).toNat v = true then 0 else 4) else 6
def a0g (F : Fm) (s : Ts) (id : Int) (sn : ByteArray) (v : Va) : Ts := if s.is id = true /\ e9 F.xa (fun c => a7 c.name sn) ≠ -1 /\ g9 F.xa (e9 F.xa (fun c => a7 c.name sn)).toNat v = true then s.put (s.pos id).toNat (e9 F.xa (fun c => a7 c.name sn)).toNat v else s
theorem a1d {p : Nat -> Bool} : ∀ {n : Nat}, (¬ ∀ i, i < n -> p i = true) -> ∃ c, c < n /\ p c = false /\ ∀ i, i < c -> p i = true
 | 0, h => absurd (fun i hi => absurd hi (Nat.not_lt_zero i)) h
 | n + 1, h => by
  by_cases h2 : ∀ i, i < n -> p i = true
  ·refine ⟨n, Nat.lt_succ_self n, ?_, h2⟩
   cases e : p n with
   | false => rfl
   | true => exact absurd (fun i hi => by rcases Nat.lt_succ_iff_lt_or_eq.1 hi with h3 | h3; exact h2 i h3; subst h3; exact e) h
  ·obtain ⟨c, h3, h4, h5⟩ := a1d h2
   exact ⟨c, by omega, h4, h5⟩
section
variable {F : Fm} {s : Ts} {vs : List Va}
theorem Y1 (h : okV F vs) : insS F s vs = s.ins vs /\ a3J F s vs = (s.next : Int) /\ a3K F vs = 0 := ⟨if_pos h, if_pos h, if_pos h⟩
theorem a9D (h : vs.length ≠ F.xa.length) : insS F s vs = s /\ a3J F s vs = 0 /\ a3K F vs = 1 :=
 have n : ¬ okV F vs := fun k => h k.1
 ⟨if_neg n, if_neg n, (if_neg n).trans (if_neg h)⟩
theorem a9E (h : vs.length = F.xa.length) (k : ¬ ∀ i, i < vs.length -> g9 F.xa i (vs.getD i eV.d) = true) : insS F s vs = s /\ a3J F s vs = 0 /\ a3K F vs = 4 :=
 have n : ¬ okV F vs := fun j => k j.2
 ⟨if_neg n, if_neg n, (if_neg n).trans (if_pos h)⟩
end
theorem b1q {q : Nat} {F : Fm} {s : Ts} {k : Nat} {vs : List Va} {qv cv : Nat} {zv : Bool} {tv : TypeId} {mv : Md} (hk : k < 70000) (hzv : zv = true -> vs.length = 0) (hlv : vs.length < 1000000) (hn : s.next < 65536) (hsz : ∀ i, i < vs.length -> (vs.getD i eV.d).s.size < 1000000000) :
  Ctr Tryz.prog nO 60 [.o (.p 1 q 0 0 0), .o (.s 6 qv 3 0 vs.length cv zv)] [.as (r5 q F s k), vc eV 6 qv vs tv mv zv] Unit (fun _ => True) (fun _ => .t [(false, [.i (a3J F s vs)]), (false, [.i (a3K F vs)])]) (fun _ => [.as (r5 q F (insS F s vs) (k + 1)), vc eV 6 qv vs tv mv zv]) := by
 by_cases hl : vs.length = F.xa.length
 ·by_cases hok : ∀ i, i < vs.length -> g9 F.xa i (vs.getD i eV.d) = true
  ·obtain ⟨e1, e2, e3⟩ := Y1 (s := s) ⟨hl, hok⟩
   rw [e1, e2, e3]
   exact a14 hk hzv hlv hn hl hok hsz
  ·obtain ⟨e1, e2, e3⟩ := a9E (s := s) hl hok
   rw [e1, e2, e3]
   obtain ⟨c, h1, h2, h3⟩ := a1d hok
   exact E5 (a7Q hzv hlv hn hl h1 h2 h3 hsz) fun _ _ => I6 (Nat.le_succ k)
 ·obtain ⟨e1, e2, e3⟩ := a9D (s := s) hl
  rw [e1, e2, e3]
  exact E5 (a26 hn hl) fun _ _ => I6 (Nat.le_succ k)
theorem a6h {q t : Nat} {l : List (Fm × Ts)} {F : Fm} {s : Ts} {vs : List Va} {qv cv : Nat} {zv : Bool} {tv : TypeId} {mv : Md} (e : l[t]? = some (F, s)) (hzv : zv = true -> vs.length = 0) (hlv : vs.length < 1000000) (hsz : ∀ i, i < vs.length -> (vs.getD i eV.d).s.size < 1000000000) (hn : s.next < 1000000) (hr : s.rows.length + 1 < 100000) :
  Ctr Tryz.prog nO 65 [.o (.p 1 q 0 0 0), .o (.i (t : Int)), .o (.s 6 qv 3 0 vs.length cv zv)] [.as (dbA q l), vc eV 6 qv vs tv mv zv] Unit (fun _ => True) (fun _ => .t [(false, [.i (a3J F s vs)]), (false, [.i (a3K F vs)])]) (fun _ => [.as (dbA q (l.set t (F, insS F s vs))), vc eV 6 qv vs tv mv zv]) := by
 have hs : l.set t (F, s) = l := by
  obtain ⟨h1, h2⟩ := List.getElem?_eq_some_iff.1 e
  rw [<- h2]; exact List.set_getElem_self h1
 by_cases hl : vs.length = F.xa.length
 ·by_cases hok : ∀ i, i < vs.length -> g9 F.xa i (vs.getD i eV.d) = true
  ·obtain ⟨e1, e2, e3⟩ := Y1 (s := s) ⟨hl, hok⟩
   rw [e1, e2, e3]
   exact b28 e hzv hlv hl hok hsz hn hr
  ·obtain ⟨e1, e2, e3⟩ := a9E (s := s) hl hok
   rw [e1, e2, e3, hs]
   obtain ⟨c, h1, h2, h3⟩ := a1d hok
   exact b0j e hzv hlv hl h1 h2 h3 hsz
 ·obtain ⟨e1, e2, e3⟩ := a9D (s := s) hl
  rw [e1, e2, e3, hs]
  exact b0k e hzv hlv hl
theorem a5v {q : Nat} {F : Fm} {s : Ts} {k : Nat} {id : Int} (hk : k < 70000) (hn : s.next <= 65536) :
  Ctr Tryz.prog nO 66 [.o (.p 1 q 0 0 0), .o (.i id)] [.as (r5 q F s k)] Unit (fun _ => True) (fun _ => .o (.cb (s.is id))) (fun _ => [.as (r5 q F (a1l s id) (k + 2))]) := by
 unfold a1l
 cases h : s.is id with
 | false =>
  rw [if_neg (by decide)]
  exact E5 (a7T h) fun _ _ => I6 (by omega)
 | true =>
  obtain ⟨j, hj, hp, he⟩ := Ts.find h
  have C := b1r (nO := nO) (q := q) (F := F) hk hn hj
  rw [he] at C
  rw [if_pos rfl, hp]
  exact C
theorem a6j {q t : Nat} {l : List (Fm × Ts)} {F : Fm} {s : Ts} {id : Int} (e : l[t]? = some (F, s)) :
  Ctr Tryz.prog nO 67 [.o (.p 1 q 0 0 0), .o (.i (t : Int)), .o (.i id)] [.as (dbA q l)] Unit (fun _ => True) (fun _ => .o (.cb (s.is id))) (fun _ => [.as (dbA q (l.set t (F, a1l s id)))]) := by
 have hs : l.set t (F, s) = l := by
  obtain ⟨h1, h2⟩ := List.getElem?_eq_some_iff.1 e
  rw [<- h2]; exact List.set_getElem_self h1
 unfold a1l
 cases h : s.is id with
 | false =>
  rw [if_neg (by decide), hs]
  exact b0n e h
 | true =>
  obtain ⟨j, hj, hp, he⟩ := Ts.find h
  rw [if_pos rfl, hp]
  exact b3c e hj hp
section
variable {F : Fm} {s : Ts} {id : Int} {sn : ByteArray} {v : Va}
theorem b3R (h : s.is id = false) : a0g F s id sn v = s /\ a2Y F s id sn v = 6 := by
 unfold a0g a2Y
 rw [h]; exact ⟨if_neg fun k => (by cases k.1), if_neg (by decide)⟩
theorem a8y (h : s.is id = true) (hc : e9 F.xa (fun c => a7 c.name sn) = -1) : a0g F s id sn v = s /\ a2Y F s id sn v = 3 := by
 unfold a0g a2Y
 rw [h, hc]; exact ⟨if_neg fun k => k.2.1 rfl, by rw [if_pos rfl, if_pos rfl]⟩
theorem a8z {c : Nat} (h : s.is id = true) (hc : e9 F.xa (fun c => a7 c.name sn) = (c : Int)) (ho : g9 F.xa c v = false) : a0g F s id sn v = s /\ a2Y F s id sn v = 4 := by
 unfold a0g a2Y
 rw [h, hc, Int.toNat_natCast, ho]; exact ⟨if_neg fun k => (by cases k.2.2), by rw [if_pos rfl, if_neg (by omega), if_neg (by decide)]⟩
theorem a8w {c j : Nat} (h : s.is id = true) (hp : s.pos id = (j : Int)) (hc : e9 F.xa (fun c => a7 c.name sn) = (c : Int)) (ho : g9 F.xa c v = true) : a0g F s id sn v = s.put j c v /\ a2Y F s id sn v = 0 := by
 unfold a0g a2Y
 rw [h, hc, hp, Int.toNat_natCast, Int.toNat_natCast, ho]; exact ⟨if_pos ⟨rfl, by omega, rfl⟩, by rw [if_pos rfl, if_neg (by omega), if_pos rfl]⟩
end
theorem a5q {q : Nat} {F : Fm} {s : Ts} {k : Nat} {id : Int} {sn : ByteArray} {v : Va} (hk : k < 70000) (hs : v.s.size < 1000000000) :
  Ctr Tryz.prog nO 68 [.o (.p 1 q 0 0 0), .o (.i id), .o (.t sn), .a [.i v.k, .i v.n, .t v.s]] [.as (r5 q F s k)] Unit (fun _ => True) (fun _ => .o (.i (a2Y F s id sn v))) (fun _ => [.as (r5 q F (a0g F s id sn v) (k + 2))]) := by
 cases h : s.is id with
 | false =>
  obtain ⟨e1, e2⟩ := b3R (F := F) (sn := sn) (v := v) h
  rw [e1, e2]
  exact E5 (a7M h) fun _ _ => I6 (by omega)
 | true =>
  obtain ⟨j, hj, hp, he⟩ := Ts.find h
  rcases m0 (l := F.xa) (p := fun c => a7 c.name sn) with hc | ⟨c, hcx, hc⟩
  ·obtain ⟨e1, e2⟩ := a8y (v := v) h hc
   rw [e1, e2]
   have C := a7N (nO := nO) (q := q) (k := k) (v := v) hj hc
   rw [he] at C
   exact E5 C fun _ _ => I6 (by omega)
  ·cases ho : g9 F.xa c v with
   | false =>
    obtain ⟨e1, e2⟩ := a8z h hc ho
    rw [e1, e2]
    have C := a7L (nO := nO) (q := q) (k := k) hj hc hcx hs ho
    rw [he] at C
    exact E5 C fun _ _ => I6 (by omega)
   | true =>
    obtain ⟨e1, e2⟩ := a8w h hp hc ho
    rw [e1, e2]
    have C := b1o (nO := nO) (q := q) hk hj hc hcx hs ho
    rw [he] at C
    exact C
theorem a6f {q t : Nat} {l : List (Fm × Ts)} {F : Fm} {s : Ts} {id : Int} {sn : ByteArray} {v : Va} (e : l[t]? = some (F, s)) (hs : v.s.size < 1000000000) :
  Ctr Tryz.prog nO 69 [.o (.p 1 q 0 0 0), .o (.i (t : Int)), .o (.i id), .o (.t sn), .a [.i v.k, .i v.n, .t v.s]] [.as (dbA q l)] Unit (fun _ => True) (fun _ => .o (.i (a2Y F s id sn v))) (fun _ => [.as (dbA q (l.set t (F, a0g F s id sn v)))]) := by
 have hsl : l.set t (F, s) = l := by
  obtain ⟨h1, h2⟩ := List.getElem?_eq_some_iff.1 e
  rw [<- h2]; exact List.set_getElem_self h1
 cases h : s.is id with
 | false =>
  obtain ⟨e1, e2⟩ := b3R (F := F) (sn := sn) (v := v) h
  rw [e1, e2, hsl]
  exact b0h e h
 | true =>
  obtain ⟨j, hj, hp, he⟩ := Ts.find h
  rcases m0 (l := F.xa) (p := fun c => a7 c.name sn) with hc | ⟨c, hcx, hc⟩
  ·obtain ⟨e1, e2⟩ := a8y (v := v) h hc
   rw [e1, e2, hsl]
   exact b0i e hj hp hc
  ·cases ho : g9 F.xa c v with
   | false =>
    obtain ⟨e1, e2⟩ := a8z h hc ho
    rw [e1, e2, hsl]
    exact b0g e hj hp hc hcx hs ho
   | true =>
    obtain ⟨e1, e2⟩ := a8w h hp hc ho
    rw [e1, e2]
    exact b25 e hj hp hc hcx hs ho
theorem b1y {v : Va} (h : vOk v = true) : v.s.size < 1000000000 := by
 have hE : b1e v.s = true -> v.s.size < 1000000000 := fun e => by
  rw [s5.1 e]; decide
 unfold vOk at h
 split at h
 ·rw [Bool.and_eq_true] at h; exact hE h.2
 split at h
 ·exact hE h
 split at h
 ·rw [Bool.and_eq_true] at h
  have := (of_decide_eq_true h.2).2
  omega
 ·cases h
theorem a3a {q : Nat} {F : Fm} {s : Ts} {k : Nat} (hk : k < 70000) (hn : s.next <= 65536) :
  Ctr Tryz.prog nO 73 [.o (.p 1 q 0 0 0)] [.as (r5 q F s k)] Nat (fun _ => True) (fun r => .o (.p 11 r 0 0 0)) (fun r => [.as (r5 q F s k), .as (r5 r F s k)]) :=
 b3j fun y hy => a7U hk hn fun r hr c hc => b1y (by have h := hy.rep.ok r hr c hc; unfold g9 at h; rw [Bool.and_eq_true] at h; exact h.2)
theorem b5g {F : Fm} {s : Ts} {vs : List Va} : (insS F s vs).next <= s.next + 1 /\ (insS F s vs).rows.length <= s.rows.length + 1 := by
 unfold insS; split
 ·exact ⟨Nat.le_refl _, by show (s.rows ++ [_]).length <= _; simp⟩
 ·exact ⟨by omega, by omega⟩
theorem b5K {s : Ts} {id : Int} : (a1l s id).next <= s.next + 1 /\ (a1l s id).rows.length <= s.rows.length + 1 := by
 unfold a1l; split
 ·exact ⟨Nat.le_succ _, by show (s.rows.eraseIdx _).length <= _; have := List.length_eraseIdx_le s.rows (s.pos id).toNat; omega⟩
 ·exact ⟨by omega, by omega⟩
theorem b4H {F : Fm} {s : Ts} {id : Int} {sn : ByteArray} {v : Va} : (a0g F s id sn v).next <= s.next + 1 /\ (a0g F s id sn v).rows.length <= s.rows.length + 1 := by
 unfold a0g; split
 ·exact ⟨Nat.le_succ _, by show (s.rows.set _ _).length <= _; rw [List.length_set]; omega⟩
 ·exact ⟨by omega, by omega⟩
end Go.Proofs.YtagidoadfajpgaaGreat
namespace Go.Proofs.YtagidoadfajpgaaGreat
open Go.Abs
variable {nO : Nat}
set_option maxRecDepth 100000
attribute [local irreducible] GP ruP ruN nxP acS gst cdP loP j6 m9 m8 enP caA n5 lgP agN
structure Opv where
 q : Nat
 c : Nat
 z : Bool
 y : Bool
 kind : Int
 id : Int
 col : ByteArray
 vs : List Va
def opA (x : Opv) : As := (vc eV 941 x.q x.vs 26 .imm x.y).den
def t8 : Fm := ⟨a6O, tId, F7, (a0f 0).map e8⟩
theorem b1R : FmOk t8 := ⟨by decide, by decide, fun i hi => a6R i hi, fun d hd => by
 have e : d = e8 ⟨0, [a1o], a4w⟩ := by
  have h : d ∈ [e8 ⟨0, [a1o], a4w⟩] := hd
  simpa using h
 subst e; decide⟩
def s0 : Ts := ⟨[], 0⟩
end Go.Proofs.YtagidoadfajpgaaGreat
