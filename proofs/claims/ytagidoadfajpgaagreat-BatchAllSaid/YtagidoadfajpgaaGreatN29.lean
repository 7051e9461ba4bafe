/-
  X9.
-/
import Derived.Test.YtagidoadfajpgaaGreatN28
namespace Go.Proofs.YtagidoadfajpgaaGreat
set_option maxHeartbeats 4000000
open Go.Abs
variable {nO : Nat}
set_option maxRecDepth 100000
attribute [local irreducible] GP ruP ruN nxP acS gst cdP loP j6 m9 m8 enP caA n5 lgP agN
theorem b2G {xa : List Cd} {i : Nat} (hu : ∀ i, i < xa.length -> ∀ j, j < i -> a7 (xa.getD i eC.d).name (xa.getD j eC.d).name = false) (hi : i < xa.length) : e9 xa (fun c => a7 c.name (xa.getD i eC.d).name) = (i : Int) :=
 p9 (d := eC.d) hi (n9 _) fun j hj => by rw [H9]; exact hu i hi j hj
theorem FmA.rfs {xs : List Xr} {na ka : ByteArray} {xa : List Cd} {da : List De} (h : FmA xs na ka xa da) : ∃ rj rc : Nat -> Nat, ∀ i, i < xa.length -> a7 (xa.getD i eC.d).to ⟨#[]⟩ = true ∨ (a7 (xa.getD i eC.d).to ⟨#[]⟩ = false /\ rj i < xs.length /\ e9 xs (fun x => a7 x.F.name (xa.getD i eC.d).to) = (rj i : Int) /\ a7 (xs.getD (rj i) dXr).F.key ⟨#[]⟩ = false /\ rc i < (xs.getD (rj i) dXr).F.xa.length /\ e9 (xs.getD (rj i) dXr).F.xa (fun c => a7 c.name (xs.getD (rj i) dXr).F.key) = (rc i : Int) /\ ((xs.getD (rj i) dXr).F.xa.getD (rc i) eC.d).kind = (xa.getD i eC.d).kind) := by
 have k : ∀ i, ∃ p : Nat × Nat, i < xa.length -> a7 (xa.getD i eC.d).to ⟨#[]⟩ = true ∨ (a7 (xa.getD i eC.d).to ⟨#[]⟩ = false /\ p.1 < xs.length /\ e9 xs (fun x => a7 x.F.name (xa.getD i eC.d).to) = (p.1 : Int) /\ a7 (xs.getD p.1 dXr).F.key ⟨#[]⟩ = false /\ p.2 < (xs.getD p.1 dXr).F.xa.length /\ e9 (xs.getD p.1 dXr).F.xa (fun c => a7 c.name (xs.getD p.1 dXr).F.key) = (p.2 : Int) /\ ((xs.getD p.1 dXr).F.xa.getD p.2 eC.d).kind = (xa.getD i eC.d).kind) := fun i => by
  by_cases hi : i < xa.length
  ·rcases h.rf i hi with h1 | ⟨h1, j, c, h2⟩
   ·exact ⟨(0, 0), fun _ => .inl h1⟩
   ·exact ⟨(j, c), fun _ => .inr ⟨h1, h2⟩⟩
  ·exact ⟨(0, 0), fun h => absurd h hi⟩
 obtain ⟨f, hf⟩ := Classical.axiomOfChoice k
 exact ⟨fun i => (f i).1, fun i => (f i).2, hf⟩
theorem o7 {qs : Nat} {xs : List Xr} {mS : Md} {s : ByteArray} (hl : xs.length < 1000000) : K1 nO 64 [.o (.s 2 qs 4 0 xs.length xs.length xs.isEmpty), .o (.t s)] [vc eTb 2 qs xs 46 mS xs.isEmpty] (.o (.i (e9 xs (fun x => a7 x.F.name s)))) := by
 refine fs 100 fun B => g0 fun _ => g0 fun _ => lp ((Nat)) [0, 1] (fun r => [(5, .o (.i (r : Int)))]) [0] (fun _ => []) 120 (fun r => r <= xs.length /\ ∀ j, j < r -> a7 (xs.getD j dXr).F.name s = false) (fun r => xs.length - r) (0) ⟨Nat.zero_le _, fun j hj => absurd hj (Nat.not_lt_zero j)⟩ [] (fun i hx ag103 => ?_)
 obtain ⟨hi, hn⟩ := hx
 refine g0 fun _ => cdD ((i : Int) < (xs.length : Int)) (fun h1 => ?_) (fun h1 => ?_)
 ·refine go (fun _ => (o4 (nz i) (by omega : (i : Int) < (xs.length : Int)) (zfe (by omega) : xs.isEmpty = false) (by omega : i < xs.length))) fun _ => cd (a7 ((xs.getD i dXr).F.name) s) (fun h2 => ?_) (fun h2 => ?_)
  ·refine g0 fun _ => rtv trivial (()) trivial [0] (.o (.i (i : Int))) (congrArg (Value.int .i64) (p9 (d := dXr) (p := fun x => a7 x.F.name s) (by omega) h2 hn).symm)
  ·refine go (fun _ => (o2 (by omega : -9223372036854775808 <= (i : Int) + 1) (by omega : (i : Int) + 1 < 9223372036854775808))) fun _ => ag103 _ _ (i + 1) (by first | omega | (simp only; omega)) ⟨by omega, fun j hj => by rcases Nat.lt_succ_iff_lt_or_eq.1 hj with h | h; exact hn j h; subst h; exact h2⟩ [0] (by kernel_rfl) (by kernel_rfl)
 ·refine g0 fun _ => rtv trivial (()) trivial [0] (.o (.i (-1))) (congrArg (Value.int .i64) (s8 (d := dXr) (p := fun x => a7 x.F.name s) (fun j hj => hn j (by omega))).symm)
theorem a4H {qs : Nat} {xs : List Xr} {mS : Md} {na ka : ByteArray} {qa ca : Nat} {za : Bool} {xa : List Cd} {ta : TypeId} {ma : Md} {qA cA : Nat} {zA : Bool} {da : List De} {tA : TypeId} {mA : Md} (hza : za = true -> xa.length = 0) (hla : xa.length < 1000000) (hzA : zA = true -> da.length = 0) (hlA : da.length < 1000000) (hA : FmA xs na ka xa da) : K1 nO 136 [.o (.s 2 qs 4 0 xs.length xs.length xs.isEmpty), .a [.t na, .s 5 qa 4 0 xa.length ca za, .t ka, .s 6 qA 2 0 da.length cA zA]] [vc eTb 2 qs xs 46 mS xs.isEmpty, vc eC 5 qa xa ta ma za, vc (eD 906) 6 qA da tA mA zA, .as (e6 (n4 9) da)] (.o (.v (.bool true))) := by
 refine fs 100 (fun B => ?_)
 have hx8 := hA.x8
 have hc6 := hA.c6
 have hd3 := hA.d3
 refine g0 fun q101 => g0 fun _ => cl (@a3s _ na hA.nm) [] [] 101 fun _ _ => g0 fun _ => cl (@o7 _ qs xs mS na (by omega)) [1] [] 101 fun _ _ => g0 fun _ => cdF (b := decide (e9 xs (fun x => a7 x.F.name na) ≥ 0)) (decide_eq_false (by rw [hA.new]; decide)) <| g0 fun _ => lp ((Nat)) [3] (fun r => [(5, .o (.i (r : Int)))]) [0, 1, 2, 3, 4] (fun _ => []) 121 (fun r => r <= xa.length) (fun r => xa.length - r) (0) (Nat.zero_le _) [] fun i hx ag108 => g0 fun _ => cdD ((i : Int) < (xa.length : Int)) (fun h2 => ?_) (fun h2 => ?_)
 ·refine go (fun _ => (o4 (nz i) (by omega : (i : Int) < (xa.length : Int)) (zf hza (show 0 < xa.length by omega) : za = false) (by omega : i < xa.length))) fun _ => cl (@a3s _ ((xa.getD i eC.d).name) (hA.cn i (by omega))) [] [] 121 fun _ _ => go (fun _ => (o4 (nz i) (by omega : (i : Int) < (xa.length : Int)) (zf hza (show 0 < xa.length by omega) : za = false) (by omega : i < xa.length))) fun _ => cl (@y9 _ na ka qa ca za xa ta ma qA cA zA da ((xa.getD i eC.d).name) hza hla) [2] [(1, 5), (3, 6)] 121 fun _ _ => g0 fun _ => cdF (b := (e9 xa (fun c => a7 c.name ((xa.getD i eC.d).name)) != (i : Int))) (bne_eq_false_iff_eq.2 (b2G hA.cu (by omega))) <| go (fun _ => (o2 (by omega : -9223372036854775808 <= (i : Int) + 1) (by omega : (i : Int) + 1 < 9223372036854775808))) fun _ => ag108 _ _ (i + 1) (by first | omega | (simp only; omega)) (by omega) [1, 2, 0, 3, 4] (by kernel_rfl) (by kernel_rfl)
 ·refine g0 fun _ => clm (@y9 _ na ka qa ca za xa ta ma qA cA zA da ka hza hla) [2] trivial <| gh (b6 (l := [vc eC 5 qa xa ta ma za]) (l' := [vc eC 5 qa xa ta ma za]) rfl) [0] [] 121 fun _ _ => g0 fun _ => cdF (b := and (!a7 ka ⟨#[]⟩) (decide (e9 xa (fun c => a7 c.name ka) < 0))) (by rcases hA.key with h | h; rw [h]; rfl; rw [decide_eq_false (by omega), Bool.and_false]) <| g0 fun _ => lp ((Nat)) [3] (fun r => [(6, .o (.i (r : Int)))]) [0, 1, 2, 3, 4] (fun _ => []) 141 (fun r => r <= da.length) (fun r => da.length - r) (0) (Nat.zero_le _) [] fun j hx ag119 => g0 fun _ => cdD ((j : Int) < (da.length : Int)) (fun h5 => ?_) (fun h5 => ?_)
  ·have hd := hA.dp j (by omega)
   have hl1 := hd.l1
   have hl3 := hd.l3
   have hri := hd.ri
   refine go (fun q121 => (o4 (nz j) (by omega : (j : Int) < (da.length : Int)) (zf hzA (show 0 < da.length by omega) : zA = false) (by omega : j < da.length))) fun q121 => goN 5 (fun _ => trivial) fun _ => sv 74 (v := .o (.cb (decide ((((da.getD j dD).l.length : Nat) : Int) < 1)))) (v' := .o (.v (.bool false))) (congrArg Value.bool (decide_eq_false (by omega))) <| goN 6 (fun _ => trivial) fun _ => sv 80 (v := .o (.cb (decide ((((da.getD j dD).l.length : Nat) : Int) > 3)))) (v' := .o (.v (.bool false))) (congrArg Value.bool (decide_eq_false (by omega))) <| g0 fun _ => cl (@y9 _ na ka qa ca za xa ta ma qA cA zA da ((da.getD j dD).r) hza hla) [1] [(1, 5), (3, 6)] 142 fun _ _ => g0 fun _ => cdF (b := decide (e9 xa (fun c => a7 c.name ((da.getD j dD).r)) < 0)) (decide_eq_false (by omega)) <| gh (f8 (I := (n4 9)) (l := da) j dD (by omega)) [5] [] 142 fun _ _ => gh (a1t (c := vc eS 906 ((da.getD j dD).q) ((da.getD j dD).l) 9 .imm false) (I := ((n4 9) (da.getD j dD)))) [0] [] 142 fun _ _ => g0 fun _ => lp ((Nat)) [3, 6, 7] (fun r => [(8, .o (.i (r : Int)))]) [0, 1, 2, 3, 4, 5, 6] (fun _ => []) 162 (fun r => r <= (da.getD j dD).l.length) (fun r => (da.getD j dD).l.length - r) (0) (Nat.zero_le _) [] fun k hx ag128 => g0 fun _ => cdD ((k : Int) < (((da.getD j dD).l.length : Nat) : Int)) (fun h7 => ?_) (fun h7 => ?_)
   ·have hli := hd.li k (by omega)
    refine go (fun _ => (o4 (nz k) (by omega : (k : Int) < (((da.getD j dD).l.length : Nat) : Int)) (rfl : false = _) (by omega : k < ((da.getD j dD).l).length))) fun _ => cl (@y9 _ na ka qa ca za xa ta ma qA cA zA da (((da.getD j dD).l).getD k eS.d) hza hla) [2] [(1, 5), (3, 6)] 162 fun _ _ => goN 2 (fun _ => trivial) fun _ => sv 102 (v := .o (.cb (decide (e9 xa (fun c => a7 c.name (((da.getD j dD).l).getD k eS.d)) < 0)))) (v' := .o (.v (.bool false))) (congrArg Value.bool (decide_eq_false (by omega))) <| go (fun _ => (o4 (nz k) (by omega : (k : Int) < (((da.getD j dD).l.length : Nat) : Int)) (rfl : false = _) (by omega : k < ((da.getD j dD).l).length))) fun _ => cdF (b := a7 (((da.getD j dD).l).getD k eS.d) ((da.getD j dD).r)) (H9.trans (hd.lr k (by omega))) <| g0 fun _ => lp ((Nat)) [3, 6, 7, 8] (fun r => [(9, .o (.i (r : Int)))]) [0, 1, 2, 3, 4, 5, 6] (fun _ => []) 182 (fun r => r <= k) (fun r => k - r) (0) (Nat.zero_le _) [] fun m hx ag135 => g0 fun _ => cdD ((m : Int) < (k : Int)) (fun h9 => ?_) (fun h9 => ?_)
    ·refine go (fun _ => (oc (nz m) (by omega : (m : Int) < (((da.getD j dD).l.length : Nat) : Int)) (rfl : false = _) (by omega : m < ((da.getD j dD).l).length) (nz k) (by omega : (k : Int) < (((da.getD j dD).l.length : Nat) : Int)) (o2 (rfl : false = _) (by omega : k < ((da.getD j dD).l).length)))) fun _ => cdF (b := a7 (((da.getD j dD).l).getD m eS.d) (((da.getD j dD).l).getD k eS.d)) (H9.trans (hd.lu k (by omega) m (by omega))) <| go (fun _ => (o2 (by omega : -9223372036854775808 <= (m : Int) + 1) (by omega : (m : Int) + 1 < 9223372036854775808))) fun _ => ag135 _ _ (m + 1) (by first | omega | (simp only; omega)) (by omega) [0, 1, 2, 3, 4, 5, 6] (by kernel_rfl) (by kernel_rfl)
    ·refine go (fun _ => (o2 (by omega : -9223372036854775808 <= (k : Int) + 1) (by omega : (k : Int) + 1 < 9223372036854775808))) fun _ => ag128 _ _ (k + 1) (by first | omega | (simp only; omega)) (by omega) [1, 2, 0, 3, 4, 5, 6] (by kernel_rfl) (by kernel_rfl)
   ·refine gh (x4 (c := vc eS 906 ((da.getD j dD).q) ((da.getD j dD).l) 9 .imm false) (I := ((n4 9) (da.getD j dD)))) [0] [] 162 fun _ _ => gh (j9 (I := (n4 9)) (l := da) j dD (by omega)) [0, 1] [] 162 fun _ _ => go (fun _ => (o2 (by omega : -9223372036854775808 <= (j : Int) + 1) (by omega : (j : Int) + 1 < 9223372036854775808))) fun _ => ag119 _ _ (j + 1) (by first | omega | (simp only; omega)) (by omega) [1, 3, 4, 5, 0] (by kernel_rfl) (by kernel_rfl)
  ·refine g0 fun _ => rt trivial (()) trivial [1, 0, 3, 4]
theorem a8V {qs : Nat} {xs : List Xr} {mS : Md} {na ka : ByteArray} {qa ca : Nat} {za : Bool} {xa : List Cd} {ta : TypeId} {ma : Md} {qA cA : Nat} {zA : Bool} {da : List De} {tA : TypeId} {mA : Md} (hza : za = true -> xa.length = 0) (hla : xa.length < 1000000) (hzA : zA = true -> da.length = 0) (hlA : da.length < 1000000) (hA : FmA xs na ka xa da) (hxp : ∀ i, i < xs.length -> xP (xs.getD i dXr)) : K1 nO 93 [.o (.s 2 qs 4 0 xs.length xs.length xs.isEmpty), .a [.t na, .s 5 qa 4 0 xa.length ca za, .t ka, .s 6 qA 2 0 da.length cA zA]] [vc eTb 2 qs xs 46 mS xs.isEmpty, .as (e6 xA xs), vc eC 5 qa xa ta ma za, vc (eD 906) 6 qA da tA mA zA, .as (e6 (n4 9) da)] (.o (.i 0)) := by
 refine fs 100 (fun B => ?_)
 have hx8 := hA.x8
 have hc1 := hA.c1
 have hc6 := hA.c6
 have hd3 := hA.d3
 obtain ⟨rj, rc, hr⟩ := hA.rfs
 refine g0 fun q101 => goN 4 (fun _ => trivial) fun _ => sv 11 (v := .o (.cb (decide ((xs.length : Int) ≥ 8)))) (v' := .o (.v (.bool false))) (congrArg Value.bool (decide_eq_false (by omega))) <| goN 6 (fun _ => trivial) fun _ => sv 17 (v := .o (.cb (decide ((xa.length : Int) < 1)))) (v' := .o (.v (.bool false))) (congrArg Value.bool (decide_eq_false (by omega))) <| goN 6 (fun _ => trivial) fun _ => sv 23 (v := .o (.cb (decide ((xa.length : Int) > 6)))) (v' := .o (.v (.bool false))) (congrArg Value.bool (decide_eq_false (by omega))) <| g0 fun _ => cdF (b := decide ((da.length : Int) > 3)) (decide_eq_false (by omega)) <| g0 fun _ => cl (@a4H _ qs xs mS na ka qa ca za xa ta ma qA cA zA da tA mA hza hla hzA hlA hA) [1, 3, 4, 5] [] 101 fun _ _ => g0 fun _ => cdF rfl <| g0 fun _ => lp ((Nat)) [0, 3] (fun r => [(5, .o (.i (r : Int)))]) [0, 1, 2, 3, 4, 5] (fun _ => []) 121 (fun r => r <= xa.length) (fun r => xa.length - r) (0) (Nat.zero_le _) [] fun i hx ag110 => g0 fun _ => cdD ((i : Int) < (xa.length : Int)) (fun h3 => ?_) (fun h3 => ?_)
 ·refine go (fun _ => (o6 (nz i) (by omega : (i : Int) < (xa.length : Int)) (zf hza (show 0 < xa.length by omega) : za = false) (by omega : i < xa.length) (fun (he : ((xa.getD i eC.d).kind != 1) = true) => have he : (xa.getD i eC.d).kind ≠ 1 := (by simpa using he); (o3 (nz i) (by omega : (i : Int) < (xa.length : Int)) (zf hza (show 0 < xa.length by omega) : za = false))) (fun (he : ((xa.getD i eC.d).kind != 1) = true) => have he : (xa.getD i eC.d).kind ≠ 1 := (by simpa using he); (o1 (by omega : i < xa.length))))) fun _ => cdF (b := and ((xa.getD i eC.d).kind != 1) ((xa.getD i eC.d).kind != 2)) (by rcases hA.kd i (by omega) with h | h <;> rw [h] <;> rfl) <| go (fun _ => (o2 (by omega : -9223372036854775808 <= (i : Int) + 1) (by omega : (i : Int) + 1 < 9223372036854775808))) fun _ => ag110 _ _ (i + 1) (by first | omega | (simp only; omega)) (by omega) [0, 1, 2, 3, 4, 5] (by kernel_rfl) (by kernel_rfl)
 ·refine g0 fun _ => lp ((Nat)) [0, 3] (fun r => [(6, .o (.i (r : Int)))]) [0, 1, 2, 3, 4, 5] (fun _ => []) 141 (fun r => r <= xa.length) (fun r => xa.length - r) (0) (Nat.zero_le _) [] fun i hx ag115 => g0 fun _ => cdD ((i : Int) < (xa.length : Int)) (fun h5 => ?_) (fun h5 => ?_)
  ·refine go (fun _ => (o4 (nz i) (by omega : (i : Int) < (xa.length : Int)) (zf hza (show 0 < xa.length by omega) : za = false) (by omega : i < xa.length))) fun _ => cd (a7 ((xa.getD i eC.d).to) ⟨#[]⟩) (fun h6 => ?_) (fun h6 => ?_)
   ·refine go (fun _ => (o2 (by omega : -9223372036854775808 <= (i : Int) + 1) (by omega : (i : Int) + 1 < 9223372036854775808))) fun _ => ag115 _ _ (i + 1) (by first | omega | (simp only; omega)) (by omega) [0, 1, 2, 3, 4, 5] (by kernel_rfl) (by kernel_rfl)
   ·have hrf := (hr i (by omega)).resolve_left (by rw [h6]; decide)
    have hj := hrf.2.1
    have hrc := hrf.2.2.2.2.1
    have hfl := (hxp _ hj).fm.xl
    refine go (fun _ => (o4 (nz i) (by omega : (i : Int) < (xa.length : Int)) (zf hza (show 0 < xa.length by omega) : za = false) (by omega : i < xa.length))) fun _ => cl (@o7 _ qs xs mS ((xa.getD i eC.d).to) (by omega)) [0] [] 141 fun _ _ => sv 77 (v := .o (.i (e9 xs (fun x => a7 x.F.name ((xa.getD i eC.d).to))))) (v' := .o (.i (((rj i) : Nat) : Int))) (congrArg (fun n => Value.int .i64 n) hrf.2.2.1) <| g0 fun _ => g0 fun _ => cdF (b := decide ((((rj i) : Nat) : Int) < 0)) (decide_eq_false (by omega)) <| go (fun _ => (o4 (nz (rj i)) (by omega : (((rj i) : Nat) : Int) < (xs.length : Int)) (zfe (by omega) : xs.isEmpty = false) (by omega : (rj i) < xs.length))) fun _ => cdF (b := a7 ((xs.getD (rj i) dXr).F.key) ⟨#[]⟩) hrf.2.2.2.1 <| gh (f8 (I := xA) (l := xs) (rj i) dXr hj) [5] [] 141 fun _ _ => gh (O5 (l := xL (xs.getD (rj i) dXr))) [0] [] 141 fun _ _ => go (fun _ => (oc (nz (rj i)) (by omega : (((rj i) : Nat) : Int) < (xs.length : Int)) (zfe (by omega) : xs.isEmpty = false) (by omega : (rj i) < xs.length) (nz (rj i)) (by omega : (((rj i) : Nat) : Int) < (xs.length : Int)) (o6 (zfe (by omega) : xs.isEmpty = false) (by omega : (rj i) < xs.length) (nz (rj i)) (by omega : (((rj i) : Nat) : Int) < (xs.length : Int)) (zfe (by omega) : xs.isEmpty = false) (by omega : (rj i) < xs.length)))) fun _ => cl (@y9 _ ((xs.getD (rj i) dXr).F.name) ((xs.getD (rj i) dXr).F.key) ((xs.getD (rj i) dXr).qa) ((xs.getD (rj i) dXr).ca) ((xs.getD (rj i) dXr).za) ((xs.getD (rj i) dXr).F.xa) ((xs.getD (rj i) dXr).ta) .imm ((xs.getD (rj i) dXr).qA) ((xs.getD (rj i) dXr).cA) ((xs.getD (rj i) dXr).zA) ((xs.getD (rj i) dXr).da) ((xs.getD (rj i) dXr).F.key) (hxp _ hj).za (by omega)) [0] [(1, 931), (3, 932)] 141 fun _ _ => sv 100 (v := .o (.i (e9 ((xs.getD (rj i) dXr).F.xa) (fun c => a7 c.name ((xs.getD (rj i) dXr).F.key))))) (v' := .o (.i (((rc i) : Nat) : Int))) (congrArg (fun n => Value.int .i64 n) hrf.2.2.2.2.2.1) <| go (fun _ => (oc (nz (rc i)) (by omega : (((rc i) : Nat) : Int) < (((xs.getD (rj i) dXr).F.xa.length : Nat) : Int)) (zf (hxp _ hj).za (show 0 < (xs.getD (rj i) dXr).F.xa.length by omega) : (xs.getD (rj i) dXr).za = false) (by omega : (rc i) < ((xs.getD (rj i) dXr).F.xa).length) (nz i) (by omega : (i : Int) < (xa.length : Int)) (o2 (zf hza (show 0 < xa.length by omega) : za = false) (by omega : i < xa.length)))) fun _ => cdF (b := ((((xs.getD (rj i) dXr).F.xa).getD (rc i) eC.d).kind != (xa.getD i eC.d).kind)) (bne_eq_false_iff_eq.2 hrf.2.2.2.2.2.2) <| gh (p6 (l := xL (xs.getD (rj i) dXr))) [0, 1, 2, 3, 4] [] 141 fun _ _ => gh (j9 (I := xA) (l := xs) (rj i) dXr hj) [0, 1] [] 141 fun _ _ => go (fun _ => (o2 (by omega : -9223372036854775808 <= (i : Int) + 1) (by omega : (i : Int) + 1 < 9223372036854775808))) fun _ => ag115 _ _ (i + 1) (by first | omega | (simp only; omega)) (by omega) [1, 2, 3, 4, 5, 0] (by kernel_rfl) (by kernel_rfl)
  ·refine g0 fun _ => rt trivial (()) trivial [0, 5, 1, 2, 3]
end Go.Proofs.YtagidoadfajpgaaGreat
open List (length_cons length_nil map_append length_map)
namespace Go.Proofs.YtagidoadfajpgaaGreat
set_option maxHeartbeats 4000000
open Go.Abs
variable {nO : Nat}
set_option maxRecDepth 100000
attribute [local irreducible] GP ruP ruN nxP acS gst cdP loP j6 m9 m8 enP caA n5 lgP agN
theorem b0r {q qS qR qN : Nat} {xs : List Xr} {na ka : ByteArray} {qa ca : Nat} {za : Bool} {xa : List Cd} {ta : TypeId} {ma : Md} {qA cA : Nat} {zA : Bool} {da : List De} {tA : TypeId} (hza : za = true -> xa.length = 0) (hla : xa.length < 1000000) (hzA : zA = true -> da.length = 0) (hlA : da.length < 1000000) (hA : FmA xs na ka xa da) (hxp : ∀ i, i < xs.length -> xP (xs.getD i dXr)) : Ctr Tryz.prog nO 36 [.o (.p 1 q 0 0 0), .a [.t na, .s 5 qa 4 0 xa.length ca za, .t ka, .s 6 qA 2 0 da.length cA zA]] [.blk 1 q [.s 2 qS 4 0 xs.length xs.length xs.isEmpty, .s 3 qR 1 0 xs.length xs.length xs.isEmpty, .s 4 qN 1 0 xs.length xs.length xs.isEmpty] 42 .own, vc eTb 2 qS xs 46 .grown xs.isEmpty, vc eRs 3 qR xs 55 .grown xs.isEmpty, vc eI 4 qN (xs.map fun x : Xr => (x.n : Int)) 3 .grown xs.isEmpty, .as (e6 xA xs), vc eC 5 qa xa ta ma za, vc (eD 906) 6 qA da tA .imm zA, .as (e6 (n4 9) da)] ((Nat) × (Nat) × (Nat) × (Nat)) (fun _ => True) (fun r => .o (.i 0)) (fun r => [.blk 1 q [.s 2 r.1 4 0 ((xs ++ [(⟨r.2.2.2, (xa.map (b5 ka)).length, (xa.map (b5 ka)).isEmpty, 130, qA, cA, zA, tA, da, 0, [], ⟨na, ka, (xa.map (b5 ka)), da.map e8⟩, 0⟩ : Xr)]).length) ((xs ++ [(⟨r.2.2.2, (xa.map (b5 ka)).length, (xa.map (b5 ka)).isEmpty, 130, qA, cA, zA, tA, da, 0, [], ⟨na, ka, (xa.map (b5 ka)), da.map e8⟩, 0⟩ : Xr)]).length) ((xs ++ [(⟨r.2.2.2, (xa.map (b5 ka)).length, (xa.map (b5 ka)).isEmpty, 130, qA, cA, zA, tA, da, 0, [], ⟨na, ka, (xa.map (b5 ka)), da.map e8⟩, 0⟩ : Xr)]).isEmpty), .s 3 r.2.1 1 0 ((xs ++ [(⟨r.2.2.2, (xa.map (b5 ka)).length, (xa.map (b5 ka)).isEmpty, 130, qA, cA, zA, tA, da, 0, [], ⟨na, ka, (xa.map (b5 ka)), da.map e8⟩, 0⟩ : Xr)]).length) ((xs ++ [(⟨r.2.2.2, (xa.map (b5 ka)).length, (xa.map (b5 ka)).isEmpty, 130, qA, cA, zA, tA, da, 0, [], ⟨na, ka, (xa.map (b5 ka)), da.map e8⟩, 0⟩ : Xr)]).length) ((xs ++ [(⟨r.2.2.2, (xa.map (b5 ka)).length, (xa.map (b5 ka)).isEmpty, 130, qA, cA, zA, tA, da, 0, [], ⟨na, ka, (xa.map (b5 ka)), da.map e8⟩, 0⟩ : Xr)]).isEmpty), .s 4 r.2.2.1 1 0 ((xs ++ [(⟨r.2.2.2, (xa.map (b5 ka)).length, (xa.map (b5 ka)).isEmpty, 130, qA, cA, zA, tA, da, 0, [], ⟨na, ka, (xa.map (b5 ka)), da.map e8⟩, 0⟩ : Xr)]).length) ((xs ++ [(⟨r.2.2.2, (xa.map (b5 ka)).length, (xa.map (b5 ka)).isEmpty, 130, qA, cA, zA, tA, da, 0, [], ⟨na, ka, (xa.map (b5 ka)), da.map e8⟩, 0⟩ : Xr)]).length) ((xs ++ [(⟨r.2.2.2, (xa.map (b5 ka)).length, (xa.map (b5 ka)).isEmpty, 130, qA, cA, zA, tA, da, 0, [], ⟨na, ka, (xa.map (b5 ka)), da.map e8⟩, 0⟩ : Xr)]).isEmpty)] 42 .own, vc eTb 2 r.1 (xs ++ [(⟨r.2.2.2, (xa.map (b5 ka)).length, (xa.map (b5 ka)).isEmpty, 130, qA, cA, zA, tA, da, 0, [], ⟨na, ka, (xa.map (b5 ka)), da.map e8⟩, 0⟩ : Xr)]) 46 .grown ((xs ++ [(⟨r.2.2.2, (xa.map (b5 ka)).length, (xa.map (b5 ka)).isEmpty, 130, qA, cA, zA, tA, da, 0, [], ⟨na, ka, (xa.map (b5 ka)), da.map e8⟩, 0⟩ : Xr)]).isEmpty), vc eRs 3 r.2.1 (xs ++ [(⟨r.2.2.2, (xa.map (b5 ka)).length, (xa.map (b5 ka)).isEmpty, 130, qA, cA, zA, tA, da, 0, [], ⟨na, ka, (xa.map (b5 ka)), da.map e8⟩, 0⟩ : Xr)]) 55 .grown ((xs ++ [(⟨r.2.2.2, (xa.map (b5 ka)).length, (xa.map (b5 ka)).isEmpty, 130, qA, cA, zA, tA, da, 0, [], ⟨na, ka, (xa.map (b5 ka)), da.map e8⟩, 0⟩ : Xr)]).isEmpty), vc eI 4 r.2.2.1 ((xs ++ [(⟨r.2.2.2, (xa.map (b5 ka)).length, (xa.map (b5 ka)).isEmpty, 130, qA, cA, zA, tA, da, 0, [], ⟨na, ka, (xa.map (b5 ka)), da.map e8⟩, 0⟩ : Xr)]).map fun x : Xr => (x.n : Int)) 3 .grown ((xs ++ [(⟨r.2.2.2, (xa.map (b5 ka)).length, (xa.map (b5 ka)).isEmpty, 130, qA, cA, zA, tA, da, 0, [], ⟨na, ka, (xa.map (b5 ka)), da.map e8⟩, 0⟩ : Xr)]).isEmpty), .as (e6 xA (xs ++ [(⟨r.2.2.2, (xa.map (b5 ka)).length, (xa.map (b5 ka)).isEmpty, 130, qA, cA, zA, tA, da, 0, [], ⟨na, ka, (xa.map (b5 ka)), da.map e8⟩, 0⟩ : Xr)])), vc eC 5 qa xa ta ma za, vc (eD 906) 6 qA da tA .imm zA, .as (e6 (n4 9) da)]) := by
 refine fs 100 (fun B => ?_)
 have hx8 := hA.x8
 have hnl : (xs.map fun x : Xr => (x.n : Int)).length = xs.length := length_map ..
 refine g0 fun q101 => g0 fun _ => cl (@a8V _ qS xs .grown na ka qa ca za xa ta ma qA cA zA da tA .imm hza hla hzA hlA hA hxp) [2, 5, 6, 7, 8] [] 101 fun _ _ => g0 fun _ => g0 fun _ => cdF (b := ((0 : Int) != 0)) rfl <| g0 fun _ => cl (@a3Q _ na ka qa ca za xa ta ma qA cA zA da hza hla) [2] [(1, 5), (3, 6), (5, 101)] 102 fun q2107 _ => g0 fun q108 => apd eTb xs [(⟨q2107, (xa.map (b5 ka)).length, (xa.map (b5 ka)).isEmpty, 130, qA, cA, zA, tA, da, 0, [], ⟨na, ka, (xa.map (b5 ka)), da.map e8⟩, 0⟩ : Xr)] (xs ++ [(⟨q2107, (xa.map (b5 ka)).length, (xa.map (b5 ka)).isEmpty, 130, qA, cA, zA, tA, da, 0, [], ⟨na, ka, (xa.map (b5 ka)), da.map e8⟩, 0⟩ : Xr)]) 2 qS .grown xs.isEmpty ((xs ++ [(⟨q2107, (xa.map (b5 ka)).length, (xa.map (b5 ka)).isEmpty, 130, qA, cA, zA, tA, da, 0, [], ⟨na, ka, (xa.map (b5 ka)), da.map e8⟩, 0⟩ : Xr)]).isEmpty) (.blk 102 (q108 102) [.t na, .s 101 q2107 4 0 ((xa.map (b5 ka)).length) ((xa.map (b5 ka)).length) ((xa.map (b5 ka)).isEmpty), .t ka, .s 6 qA 2 0 da.length cA zA] 46 .own) (q108 102) 0 1 1 false 103 [3, 0] 104 46 (fun h _ => K4 h) (by simp only [length_cons, length_nil]; omega) (o8 rfl) (by simp) rfl fun q109 => g0 fun _ => gh (b6 (l := [.blk 1 q [.s 103 q109 4 0 ((xs ++ [(⟨q2107, (xa.map (b5 ka)).length, (xa.map (b5 ka)).isEmpty, 130, qA, cA, zA, tA, da, 0, [], ⟨na, ka, (xa.map (b5 ka)), da.map e8⟩, 0⟩ : Xr)]).length) ((xs ++ [(⟨q2107, (xa.map (b5 ka)).length, (xa.map (b5 ka)).isEmpty, 130, qA, cA, zA, tA, da, 0, [], ⟨na, ka, (xa.map (b5 ka)), da.map e8⟩, 0⟩ : Xr)]).length) ((xs ++ [(⟨q2107, (xa.map (b5 ka)).length, (xa.map (b5 ka)).isEmpty, 130, qA, cA, zA, tA, da, 0, [], ⟨na, ka, (xa.map (b5 ka)), da.map e8⟩, 0⟩ : Xr)]).isEmpty), .s 3 qR 1 0 xs.length xs.length xs.isEmpty, .s 4 qN 1 0 xs.length xs.length xs.isEmpty] 42 .own]) (l' := [.blk 1 q [.s 103 q109 4 0 ((xs ++ [(⟨q2107, (xa.map (b5 ka)).length, (xa.map (b5 ka)).isEmpty, 130, qA, cA, zA, tA, da, 0, [], ⟨na, ka, (xa.map (b5 ka)), da.map e8⟩, 0⟩ : Xr)]).length) ((xs ++ [(⟨q2107, (xa.map (b5 ka)).length, (xa.map (b5 ka)).isEmpty, 130, qA, cA, zA, tA, da, 0, [], ⟨na, ka, (xa.map (b5 ka)), da.map e8⟩, 0⟩ : Xr)]).length) ((xs ++ [(⟨q2107, (xa.map (b5 ka)).length, (xa.map (b5 ka)).isEmpty, 130, qA, cA, zA, tA, da, 0, [], ⟨na, ka, (xa.map (b5 ka)), da.map e8⟩, 0⟩ : Xr)]).isEmpty), .s 3 qR 1 0 xs.length xs.length xs.isEmpty, .s 4 qN 1 0 ((xs.map fun x : Xr => (x.n : Int)).length) ((xs.map fun x : Xr => (x.n : Int)).length) xs.isEmpty] 42 .own]) (by rw [hnl])) [8] [] 104 fun _ _ => g0 fun q111 => apd eRs xs [(⟨q2107, (xa.map (b5 ka)).length, (xa.map (b5 ka)).isEmpty, 130, qA, cA, zA, tA, da, 0, [], ⟨na, ka, (xa.map (b5 ka)), da.map e8⟩, 0⟩ : Xr)] (xs ++ [(⟨q2107, (xa.map (b5 ka)).length, (xa.map (b5 ka)).isEmpty, 130, qA, cA, zA, tA, da, 0, [], ⟨na, ka, (xa.map (b5 ka)), da.map e8⟩, 0⟩ : Xr)]) 3 qR .grown xs.isEmpty ((xs ++ [(⟨q2107, (xa.map (b5 ka)).length, (xa.map (b5 ka)).isEmpty, 130, qA, cA, zA, tA, da, 0, [], ⟨na, ka, (xa.map (b5 ka)), da.map e8⟩, 0⟩ : Xr)]).isEmpty) (.blk 104 (q111 104) [.v (.slice none 0 0)] 55 .own) (q111 104) 0 1 1 false 105 [10, 0] 106 55 (fun h _ => K4 h) (by simp only [length_cons, length_nil]; omega) (o8 rfl) (by simp) rfl fun q112 => g0 fun q113 => apd eI (xs.map fun x : Xr => (x.n : Int)) [(0 : Int)] ((xs ++ [(⟨q2107, (xa.map (b5 ka)).length, (xa.map (b5 ka)).isEmpty, 130, qA, cA, zA, tA, da, 0, [], ⟨na, ka, (xa.map (b5 ka)), da.map e8⟩, 0⟩ : Xr)]).map fun x : Xr => (x.n : Int)) 4 qN .grown xs.isEmpty ((xs ++ [(⟨q2107, (xa.map (b5 ka)).length, (xa.map (b5 ka)).isEmpty, 130, qA, cA, zA, tA, da, 0, [], ⟨na, ka, (xa.map (b5 ka)), da.map e8⟩, 0⟩ : Xr)]).isEmpty) (.blk 106 (q113 106) [.i 0] 3 .own) (q113 106) 0 1 1 false 107 [12, 0] 108 3 (fun h _ => K4 (by rw [List.isEmpty_map]; exact h)) (by rw [length_map]; simp only [length_cons, length_nil]; omega) (o8 rfl) (by simp) (by rw [map_append]; rfl) fun q114 => g0 fun _ => g0 fun _ => gh (k7 (E := eC) (g := 101) (q := q2107) (xs := (xa.map (b5 ka))) (t := 130) (m := .grown) (z := (xa.map (b5 ka)).isEmpty)) [7] [] 108 fun _ _ => gh (a4q (E := (eD 906)) (g := 6) (q := qA) (xs := da) (t := tA) (z := zA)) [10] [] 108 fun _ _ => gh (b7l (I := (e6 (n4 9) da)) (b5l fun _ => b5k)) [12] [] 108 fun _ _ => gh (e7 108 2 eRw.f eRw.d 58 .grown) [] [] 109 fun _ _ => gh (p5 (I := a6I)) [] [] 109 fun _ _ => gh (p6 (l := xL (⟨q2107, (xa.map (b5 ka)).length, (xa.map (b5 ka)).isEmpty, 130, qA, cA, zA, tA, da, 0, [], ⟨na, ka, (xa.map (b5 ka)), da.map e8⟩, 0⟩ : Xr))) [6, 4, 2, 1, 0] [] 109 fun _ _ => gh (i6 (I := xA) (l := xs) (x := (⟨q2107, (xa.map (b5 ka)).length, (xa.map (b5 ka)).isEmpty, 130, qA, cA, zA, tA, da, 0, [], ⟨na, ka, (xa.map (b5 ka)), da.map e8⟩, 0⟩ : Xr))) [0, 11] [] 109 fun _ _ => gh (b6 (l := [.blk 1 q [.s 103 q109 4 0 ((xs ++ [(⟨q2107, (xa.map (b5 ka)).length, (xa.map (b5 ka)).isEmpty, 130, qA, cA, zA, tA, da, 0, [], ⟨na, ka, (xa.map (b5 ka)), da.map e8⟩, 0⟩ : Xr)]).length) ((xs ++ [(⟨q2107, (xa.map (b5 ka)).length, (xa.map (b5 ka)).isEmpty, 130, qA, cA, zA, tA, da, 0, [], ⟨na, ka, (xa.map (b5 ka)), da.map e8⟩, 0⟩ : Xr)]).length) ((xs ++ [(⟨q2107, (xa.map (b5 ka)).length, (xa.map (b5 ka)).isEmpty, 130, qA, cA, zA, tA, da, 0, [], ⟨na, ka, (xa.map (b5 ka)), da.map e8⟩, 0⟩ : Xr)]).isEmpty), .s 105 q112 1 0 ((xs ++ [(⟨q2107, (xa.map (b5 ka)).length, (xa.map (b5 ka)).isEmpty, 130, qA, cA, zA, tA, da, 0, [], ⟨na, ka, (xa.map (b5 ka)), da.map e8⟩, 0⟩ : Xr)]).length) ((xs ++ [(⟨q2107, (xa.map (b5 ka)).length, (xa.map (b5 ka)).isEmpty, 130, qA, cA, zA, tA, da, 0, [], ⟨na, ka, (xa.map (b5 ka)), da.map e8⟩, 0⟩ : Xr)]).length) ((xs ++ [(⟨q2107, (xa.map (b5 ka)).length, (xa.map (b5 ka)).isEmpty, 130, qA, cA, zA, tA, da, 0, [], ⟨na, ka, (xa.map (b5 ka)), da.map e8⟩, 0⟩ : Xr)]).isEmpty), .s 107 q114 1 0 (((xs ++ [(⟨q2107, (xa.map (b5 ka)).length, (xa.map (b5 ka)).isEmpty, 130, qA, cA, zA, tA, da, 0, [], ⟨na, ka, (xa.map (b5 ka)), da.map e8⟩, 0⟩ : Xr)]).map fun x : Xr => (x.n : Int)).length) (((xs ++ [(⟨q2107, (xa.map (b5 ka)).length, (xa.map (b5 ka)).isEmpty, 130, qA, cA, zA, tA, da, 0, [], ⟨na, ka, (xa.map (b5 ka)), da.map e8⟩, 0⟩ : Xr)]).map fun x : Xr => (x.n : Int)).length) ((xs ++ [(⟨q2107, (xa.map (b5 ka)).length, (xa.map (b5 ka)).isEmpty, 130, qA, cA, zA, tA, da, 0, [], ⟨na, ka, (xa.map (b5 ka)), da.map e8⟩, 0⟩ : Xr)]).isEmpty)] 42 .own]) (l' := [.blk 1 q [.s 103 q109 4 0 ((xs ++ [(⟨q2107, (xa.map (b5 ka)).length, (xa.map (b5 ka)).isEmpty, 130, qA, cA, zA, tA, da, 0, [], ⟨na, ka, (xa.map (b5 ka)), da.map e8⟩, 0⟩ : Xr)]).length) ((xs ++ [(⟨q2107, (xa.map (b5 ka)).length, (xa.map (b5 ka)).isEmpty, 130, qA, cA, zA, tA, da, 0, [], ⟨na, ka, (xa.map (b5 ka)), da.map e8⟩, 0⟩ : Xr)]).length) ((xs ++ [(⟨q2107, (xa.map (b5 ka)).length, (xa.map (b5 ka)).isEmpty, 130, qA, cA, zA, tA, da, 0, [], ⟨na, ka, (xa.map (b5 ka)), da.map e8⟩, 0⟩ : Xr)]).isEmpty), .s 105 q112 1 0 ((xs ++ [(⟨q2107, (xa.map (b5 ka)).length, (xa.map (b5 ka)).isEmpty, 130, qA, cA, zA, tA, da, 0, [], ⟨na, ka, (xa.map (b5 ka)), da.map e8⟩, 0⟩ : Xr)]).length) ((xs ++ [(⟨q2107, (xa.map (b5 ka)).length, (xa.map (b5 ka)).isEmpty, 130, qA, cA, zA, tA, da, 0, [], ⟨na, ka, (xa.map (b5 ka)), da.map e8⟩, 0⟩ : Xr)]).length) ((xs ++ [(⟨q2107, (xa.map (b5 ka)).length, (xa.map (b5 ka)).isEmpty, 130, qA, cA, zA, tA, da, 0, [], ⟨na, ka, (xa.map (b5 ka)), da.map e8⟩, 0⟩ : Xr)]).isEmpty), .s 107 q114 1 0 ((xs ++ [(⟨q2107, (xa.map (b5 ka)).length, (xa.map (b5 ka)).isEmpty, 130, qA, cA, zA, tA, da, 0, [], ⟨na, ka, (xa.map (b5 ka)), da.map e8⟩, 0⟩ : Xr)]).length) ((xs ++ [(⟨q2107, (xa.map (b5 ka)).length, (xa.map (b5 ka)).isEmpty, 130, qA, cA, zA, tA, da, 0, [], ⟨na, ka, (xa.map (b5 ka)), da.map e8⟩, 0⟩ : Xr)]).length) ((xs ++ [(⟨q2107, (xa.map (b5 ka)).length, (xa.map (b5 ka)).isEmpty, 130, qA, cA, zA, tA, da, 0, [], ⟨na, ka, (xa.map (b5 ka)), da.map e8⟩, 0⟩ : Xr)]).isEmpty)] 42 .own]) (by rw [show ((xs ++ [(⟨q2107, (xa.map (b5 ka)).length, (xa.map (b5 ka)).isEmpty, 130, qA, cA, zA, tA, da, 0, [], ⟨na, ka, (xa.map (b5 ka)), da.map e8⟩, 0⟩ : Xr)]).map fun x : Xr => (x.n : Int)).length = (xs ++ [(⟨q2107, (xa.map (b5 ka)).length, (xa.map (b5 ka)).isEmpty, 130, qA, cA, zA, tA, da, 0, [], ⟨na, ka, (xa.map (b5 ka)), da.map e8⟩, 0⟩ : Xr)]).length from length_map ..])) [7] [] 109 fun _ _ => rt trivial (⟨q109, q112, q114, q2107⟩) trivial [0, 8, 6, 4, 1, 10, 3, 2]
end Go.Proofs.YtagidoadfajpgaaGreat
open List (length_append getElem?_append_left getElem?_append_right getD_eq_getElem?_getD map_append length_map getElem_mem findIdx?_eq_none_iff)
namespace Go.Proofs.YtagidoadfajpgaaGreat
set_option maxHeartbeats 4000000
open Go.Abs
variable {nO : Nat}
set_option maxRecDepth 100000
attribute [local irreducible] GP ruP ruN nxP acS gst cdP loP j6 m9 m8 enP caA n5 lgP agN
theorem Y2 {xs : List Xr} {s : ByteArray} : e9 xs (fun x => a7 x.F.name s) = e9 (xs.map fun x => x.F) (fun F => a7 F.name s) := by
 unfold e9
 rw [List.findIdx?_map]; rfl
theorem b2F {xs : List Xr} {x : Xr} {s : ByteArray} (h : e9 xs (fun x => a7 x.F.name s) = -1) (e : x.F.name = s) : e9 (xs ++ [x]) (fun x => a7 x.F.name s) = ((xs.length : Nat) : Int) := by
 refine p9 (d := dXr) (by simp) ?_ fun j hj => ?_
 ·rw [getD_eq_getElem?_getD, getElem?_append_right (Nat.le_refl _), Nat.sub_self]
  show a7 x.F.name s = true
  rw [e, n9]
 ·rw [getD_eq_getElem?_getD, getElem?_append_left hj, <- getD_eq_getElem?_getD, a8 hj]
  unfold e9 at h
  split at h
  ·rename_i i _
   exact absurd h (by have := Int.natCast_nonneg i; omega)
  ·rename_i hn
   rw [findIdx?_eq_none_iff] at hn
   exact hn _ (getElem_mem hj)
theorem b2N {xs : List Xr} {x : Xr} : (xs ++ [x]).getD xs.length dXr = x := by
 rw [getD_eq_getElem?_getD, getElem?_append_right (Nat.le_refl _), Nat.sub_self]; rfl
theorem a9P {xs : List Xr} {zs : List (Nat × Fm × Ts)} {s : ByteArray} (hz : xs.map (fun x => x.F) = zs.map fun z => z.2.1) (h : e9 xs (fun x => a7 x.F.name s) = -1) : a7B (mpL zs) s = none := by
 rw [a0o, <- hz, <- Y2, h]; rfl
theorem a8c {k qt : Nat} {F : Fm} {zs : List (Nat × Fm × Ts)} : GE [.as (r5 qt F ⟨[], 0⟩ 0), .as (e6 (a0D k) zs)] Unit (fun _ => True) (fun _ => [.as (e6 (a0D k) (zs ++ [(qt, F, ⟨[], 0⟩)]))]) :=
 b7k (I6 (Nat.zero_le k)) (i6 (I := a0D k) (l := zs) (x := (qt, F, ⟨[], 0⟩)))
theorem b0o {q qs qm qv : Nat} {xs : List Xr} {zs : List (Nat × Fm × Ts)} {k : Nat} {na ka : ByteArray} {qa ca : Nat} {za : Bool} {xa : List Cd} {ta : TypeId} {ma : Md} {qA cA : Nat} {zA : Bool} {da : List De} {tA : TypeId} {mA : Md} (hza : za = true -> xa.length = 0) (hla : xa.length < 1000000) (hzA : zA = true -> da.length = 0) (hlA : da.length < 1000000) (hA : FmA xs na ka xa da) (hxt : ∀ i, i < xs.length -> tP (xs.getD i dXr)) (hxz : xs.map (fun x => x.F) = zs.map fun z => z.2.1) : Ctr Tryz.prog nO 35 [.o (.p 1 q 0 0 0), .a [.t na, .s 5 qa 4 0 xa.length ca za, .t ka, .s 6 qA 2 0 da.length cA zA]] [.blk 1 q [.p 2 qs 0 0 0, .v (.map (some qm))] 115 .own, .blk 2 qs [.s 3 qv 4 0 xs.length xs.length xs.isEmpty] 145 .own, vc eTb 3 qv xs 46 .grown xs.isEmpty, .as (e6 tI xs), .as (W8 qm (mpL zs)), .as (e6 (a0D k) zs), vc eC 5 qa xa ta ma za, vc (eD 906) 6 qA da tA mA zA, .as (e6 (n4 9) da)] ((Nat) × (Nat) × (Nat) × (List De) × (Nat)) (fun r => r.2.2.2.1.map e8 = da.map e8) (fun r => .o (.i 0)) (fun r => [.blk 1 q [.p 2 qs 0 0 0, .v (.map (some qm))] 115 .own, .blk 2 qs [.s 3 r.1 4 0 ((xs ++ [(⟨r.2.1, xa.length, za, 130, r.2.2.1, r.2.2.2.1.length, zA, 161, r.2.2.2.1, 0, [], ⟨na, ka, (xa.map (b5 ka)), da.map e8⟩, 0⟩ : Xr)]).length) ((xs ++ [(⟨r.2.1, xa.length, za, 130, r.2.2.1, r.2.2.2.1.length, zA, 161, r.2.2.2.1, 0, [], ⟨na, ka, (xa.map (b5 ka)), da.map e8⟩, 0⟩ : Xr)]).length) ((xs ++ [(⟨r.2.1, xa.length, za, 130, r.2.2.1, r.2.2.2.1.length, zA, 161, r.2.2.2.1, 0, [], ⟨na, ka, (xa.map (b5 ka)), da.map e8⟩, 0⟩ : Xr)]).isEmpty)] 145 .own, vc eTb 3 r.1 (xs ++ [(⟨r.2.1, xa.length, za, 130, r.2.2.1, r.2.2.2.1.length, zA, 161, r.2.2.2.1, 0, [], ⟨na, ka, (xa.map (b5 ka)), da.map e8⟩, 0⟩ : Xr)]) 46 .grown ((xs ++ [(⟨r.2.1, xa.length, za, 130, r.2.2.1, r.2.2.2.1.length, zA, 161, r.2.2.2.1, 0, [], ⟨na, ka, (xa.map (b5 ka)), da.map e8⟩, 0⟩ : Xr)]).isEmpty), .as (e6 tI (xs ++ [(⟨r.2.1, xa.length, za, 130, r.2.2.1, r.2.2.2.1.length, zA, 161, r.2.2.2.1, 0, [], ⟨na, ka, (xa.map (b5 ka)), da.map e8⟩, 0⟩ : Xr)])), .as (W8 qm (mpL (zs ++ [(r.2.2.2.2, (⟨na, ka, (xa.map (b5 ka)), da.map e8⟩ : Fm), ⟨[], 0⟩)]))), .as (e6 (a0D k) (zs ++ [(r.2.2.2.2, (⟨na, ka, (xa.map (b5 ka)), da.map e8⟩ : Fm), ⟨[], 0⟩)])), vc eC 5 qa xa ta ma za, vc (eD 906) 6 qA da tA mA zA, .as (e6 (n4 9) da)]) := by
 refine fs 100 (fun B => ?_)
 have hx8 := hA.x8
 refine g0 fun q101 => g0 fun _ => cdF rfl <| g0 fun _ => cl (@a5K _ qs qv xs na ka qa ca za xa ta ma qA cA zA da tA mA hza hla hzA hlA hA hxt) [2, 3, 4, 7, 8, 9] [(1, 2), (2, 3)] 101 (fun ⟨qs2104, qc2104, qd2104, d2104⟩ hd2 => ?_)
 have hXJ : (xs ++ [(⟨qc2104, xa.length, za, 130, qd2104, d2104.length, zA, 161, d2104, 0, [], ⟨na, ka, (xa.map (b5 ka)), da.map e8⟩, 0⟩ : Xr)]).getD xs.length dXr = (⟨qc2104, xa.length, za, 130, qd2104, d2104.length, zA, 161, d2104, 0, [], ⟨na, ka, (xa.map (b5 ka)), da.map e8⟩, 0⟩ : Xr) := b2N
 have hpj : tP ((xs ++ [(⟨qc2104, xa.length, za, 130, qd2104, d2104.length, zA, 161, d2104, 0, [], ⟨na, ka, (xa.map (b5 ka)), da.map e8⟩, 0⟩ : Xr)]).getD xs.length dXr) := by rw [hXJ]; exact hA.tP hza hzA hd2
 have hlx : (xs ++ [(⟨qc2104, xa.length, za, 130, qd2104, d2104.length, zA, 161, d2104, 0, [], ⟨na, ka, (xa.map (b5 ka)), da.map e8⟩, 0⟩ : Xr)]).length = xs.length + 1 := by rw [length_append]; rfl
 refine g0 fun _ => g0 fun _ => cdF (b := ((0 : Int) != 0)) rfl <| g0 fun _ => cl (@Q9 _ qs qs2104 (xs ++ [(⟨qc2104, xa.length, za, 130, qd2104, d2104.length, zA, 161, d2104, 0, [], ⟨na, ka, (xa.map (b5 ka)), da.map e8⟩, 0⟩ : Xr)]) .grown na xs.length (by omega) (by omega) (b2F hA.new rfl) hpj) [0, 1, 2] [(1, 2), (2, 3), (7, 101), (8, 102)] 103 fun ⟨qc2108, qd2108, d2108⟩ hd3 => g0 fun q109 => g0 fun _ => cl (a5s (na := ((xs ++ [(⟨qc2104, xa.length, za, 130, qd2104, d2104.length, zA, 161, d2104, 0, [], ⟨na, ka, (xa.map (b5 ka)), da.map e8⟩, 0⟩ : Xr)]).getD xs.length dXr).F.name) (ka := ((xs ++ [(⟨qc2104, xa.length, za, 130, qd2104, d2104.length, zA, 161, d2104, 0, [], ⟨na, ka, (xa.map (b5 ka)), da.map e8⟩, 0⟩ : Xr)]).getD xs.length dXr).F.key) (qa := qc2108) (ca := ((xs ++ [(⟨qc2104, xa.length, za, 130, qd2104, d2104.length, zA, 161, d2104, 0, [], ⟨na, ka, (xa.map (b5 ka)), da.map e8⟩, 0⟩ : Xr)]).getD xs.length dXr).F.xa.length) (za := ((xs ++ [(⟨qc2104, xa.length, za, 130, qd2104, d2104.length, zA, 161, d2104, 0, [], ⟨na, ka, (xa.map (b5 ka)), da.map e8⟩, 0⟩ : Xr)]).getD xs.length dXr).za) (xa := ((xs ++ [(⟨qc2104, xa.length, za, 130, qd2104, d2104.length, zA, 161, d2104, 0, [], ⟨na, ka, (xa.map (b5 ka)), da.map e8⟩, 0⟩ : Xr)]).getD xs.length dXr).F.xa) (ta := 130) (ma := (n8 ((xs ++ [(⟨qc2104, xa.length, za, 130, qd2104, d2104.length, zA, 161, d2104, 0, [], ⟨na, ka, (xa.map (b5 ka)), da.map e8⟩, 0⟩ : Xr)]).getD xs.length dXr).F.xa)) (qA := qd2108) (cA := d2108.length) (zA := ((xs ++ [(⟨qc2104, xa.length, za, 130, qd2104, d2104.length, zA, 161, d2104, 0, [], ⟨na, ka, (xa.map (b5 ka)), da.map e8⟩, 0⟩ : Xr)]).getD xs.length dXr).zA) (da := d2108) (tA := 161) (mA := (n8 ((xs ++ [(⟨qc2104, xa.length, za, 130, qd2104, d2104.length, zA, 161, d2104, 0, [], ⟨na, ka, (xa.map (b5 ka)), da.map e8⟩, 0⟩ : Xr)]).getD xs.length dXr).da)) hpj.za (by have := hpj.fm.xl; omega) (fun h => by have h1 := congrArg List.length hd3; rw [length_map, length_map] at h1; rw [h1]; exact hpj.zA h) (by rw [hd3, hpj.da]; exact hpj.fm)) [4, 5, 6] [(2, 101), (3, 102), (1, 104)] 105 fun qt _ => mpu qm (mpL zs) na qt [10] (a9P hxz hA.new) <| g0 fun _ => gh (b6 (l := [.as (r5 qt (⟨(((xs ++ [(⟨qc2104, xa.length, za, 130, qd2104, d2104.length, zA, 161, d2104, 0, [], ⟨na, ka, (xa.map (b5 ka)), da.map e8⟩, 0⟩ : Xr)]).getD xs.length dXr).F.name), (((xs ++ [(⟨qc2104, xa.length, za, 130, qd2104, d2104.length, zA, 161, d2104, 0, [], ⟨na, ka, (xa.map (b5 ka)), da.map e8⟩, 0⟩ : Xr)]).getD xs.length dXr).F.key), (((xs ++ [(⟨qc2104, xa.length, za, 130, qd2104, d2104.length, zA, 161, d2104, 0, [], ⟨na, ka, (xa.map (b5 ka)), da.map e8⟩, 0⟩ : Xr)]).getD xs.length dXr).F.xa), d2108.map e8⟩ : Fm) ⟨[], 0⟩ 0)]) (l' := [.as (r5 qt (⟨na, ka, (xa.map (b5 ka)), da.map e8⟩ : Fm) ⟨[], 0⟩ 0)]) (by rw [hd3, hXJ, hd2])) [1] [] 105 fun _ _ => gh (a8c (k := k) (qt := qt) (F := (⟨na, ka, (xa.map (b5 ka)), da.map e8⟩ : Fm)) (zs := zs)) [0, 11] [] 105 fun _ _ => gh (b6 (l := [.as (W8 qm ((mpL zs) ++ [(na, qt)]))]) (l' := [.as (W8 qm (mpL (zs ++ [(qt, (⟨na, ka, (xa.map (b5 ka)), da.map e8⟩ : Fm), ⟨[], 0⟩)])))]) (by unfold mpL; rw [map_append]; rfl)) [1] [] 105 fun _ _ => rt trivial (⟨qs2104, qc2104, qd2104, d2104, qt⟩) hd2 [10, 3, 4, 5, 0, 1, 6, 7, 8]
end Go.Proofs.YtagidoadfajpgaaGreat
namespace Go.Proofs.YtagidoadfajpgaaGreat
open Go.Abs
def dFm : Fm := ⟨⟨#[]⟩, ⟨#[]⟩, [], []⟩
abbrev nI (s : ByteArray) (l : List Fm) : Int := e9 l (fun F => a7 F.name s)
abbrev cI (s : ByteArray) (xa : List Cd) : Int := e9 xa (fun c => a7 c.name s)
abbrev DpD (xa : List Cd) (d : List ByteArray × ByteArray) : Prop :=
 0 < d.1.length /\ d.1.length <= 3 /\ (∀ i, i < d.1.length -> 0 <= cI (d.1.getD i eS.d) xa) /\ (∀ i, i < d.1.length -> ∀ j, j < i -> a7 (d.1.getD i eS.d) (d.1.getD j eS.d) = false) /\ (∀ i, i < d.1.length -> a7 d.2 (d.1.getD i eS.d) = false) /\ 0 <= cI d.2 xa
abbrev FmD (l : List Fm) (F : Fm) : Prop :=
 l.length < 8 /\ nmB F.name = true /\ nI F.name l = -1 /\ 0 < F.xa.length /\ F.xa.length <= 6 /\ F.da.length <= 3 /\ (∀ i, i < F.xa.length -> nmB (F.xa.getD i eC.d).name = true) /\
 (∀ i, i < F.xa.length -> ∀ j, j < i -> a7 (F.xa.getD i eC.d).name (F.xa.getD j eC.d).name = false) /\ (a7 F.key ⟨#[]⟩ = true ∨ 0 <= cI F.key F.xa) /\ (∀ i, i < F.xa.length -> (F.xa.getD i eC.d).kind = 1 ∨ (F.xa.getD i eC.d).kind = 2) /\
 (∀ i, i < F.da.length -> DpD F.xa (F.da.getD i ([], ⟨#[]⟩))) /\
 (∀ i, i < F.xa.length -> a7 (F.xa.getD i eC.d).to ⟨#[]⟩ = true ∨ (a7 (F.xa.getD i eC.d).to ⟨#[]⟩ = false /\ 0 <= nI (F.xa.getD i eC.d).to l /\ a7 (l.getD (nI (F.xa.getD i eC.d).to l).toNat dFm).key ⟨#[]⟩ = false /\ 0 <= cI (l.getD (nI (F.xa.getD i eC.d).to l).toNat dFm).key (l.getD (nI (F.xa.getD i eC.d).to l).toNat dFm).xa /\
  ((l.getD (nI (F.xa.getD i eC.d).to l).toNat dFm).xa.getD (cI (l.getD (nI (F.xa.getD i eC.d).to l).toNat dFm).key (l.getD (nI (F.xa.getD i eC.d).to l).toNat dFm).xa).toNat eC.d).kind = (F.xa.getD i eC.d).kind))
theorem a9L {α : Type} {l : List α} {p : α -> Bool} (h : 0 <= e9 l p) : (e9 l p).toNat < l.length /\ e9 l p = (((e9 l p).toNat : Nat) : Int) := by
 rcases m0 (l := l) (p := p) with e | ⟨c, hc, e⟩
 ·rw [e] at h; exact absurd h (by decide)
 ·rw [e]; exact ⟨hc, rfl⟩
theorem a3P {xs : List Xr} {j : Nat} (h : j < xs.length) : (xs.map fun x => x.F).getD j dFm = (xs.getD j dXr).F := by
 rw [a8 (by rw [List.length_map]; exact h), a8 h, List.getElem_map]
theorem FmD.ok {xs : List Xr} {F : Fm} {da : List De} (hd : da.map e8 = F.da) (h : FmD (xs.map fun x => x.F) F) : FmA xs F.name F.key F.xa da := by
 obtain ⟨h1, h2, h3, h4, h5, h6, h7, h8, h9, h10, h11, h12⟩ := h
 rw [List.length_map] at h1
 have hl : da.length = F.da.length := by have := congrArg List.length hd; rwa [List.length_map] at this
 refine ⟨h1, b33 h2, Y2.trans h3, h4, h5, by omega, fun i hi => b33 (h7 i hi), h8, h9, h10, fun i hi => ?_, fun i hi => ?_⟩
 ·have k := h11 i (by omega)
  have e : F.da.getD i ([], ⟨#[]⟩) = e8 (da.getD i dD) := by
   rw [<- hd, a8 (by rw [List.length_map]; exact hi), a8 hi, List.getElem_map]
  rw [e] at k
  obtain ⟨k1, k2, k3, k4, k5, k6⟩ := k
  exact ⟨k1, k2, k3, k4, k5, k6⟩
 ·rcases h12 i hi with k | ⟨k1, k2, k3, k4, k5⟩
  ·exact .inl k
  ·obtain ⟨m1, m2⟩ := a9L k2
   rw [List.length_map] at m1
   rw [a3P m1] at k3 k4 k5
   obtain ⟨n1, n2⟩ := a9L k4
   exact .inr ⟨k1, _, _, m1, Y2.trans m2, k3, n1, n2, k5⟩
end Go.Proofs.YtagidoadfajpgaaGreat
namespace Go.Proofs.YtagidoadfajpgaaGreat
set_option maxHeartbeats 4000000
open Go.Abs
variable {nO : Nat}
set_option maxRecDepth 100000
attribute [local irreducible] GP ruP ruN nxP acS gst cdP loP j6 m9 m8 enP caA n5 lgP agN
def b4W : List Cd := [⟨⟨#[105, 100]⟩, 1, false, ⟨#[]⟩⟩, ⟨⟨#[110, 97, 109, 101]⟩, 2, false, ⟨#[]⟩⟩]
def a3t : Fm := ⟨⟨#[108, 97, 110, 100]⟩, ⟨#[105, 100]⟩, b4W, []⟩
def b4V : List Cd := [⟨⟨#[105, 100]⟩, 1, false, ⟨#[]⟩⟩, ⟨⟨#[99, 105, 116, 121]⟩, 2, true, ⟨#[]⟩⟩, ⟨⟨#[122, 111, 110, 101]⟩, 2, false, ⟨#[]⟩⟩, ⟨⟨#[108, 97, 110, 100]⟩, 1, false, ⟨#[108, 97, 110, 100]⟩⟩]
def a4F : Fm := ⟨⟨#[115, 104, 111, 112]⟩, ⟨#[105, 100]⟩, b4V, [([⟨#[99, 105, 116, 121]⟩], ⟨#[122, 111, 110, 101]⟩)]⟩
def b4U : List Cd := [⟨⟨#[100]⟩, 2, false, ⟨#[]⟩⟩, ⟨⟨#[109, 111, 110, 116, 104]⟩, 1, true, ⟨#[]⟩⟩, ⟨⟨#[121, 101, 97, 114]⟩, 1, false, ⟨#[]⟩⟩]
def a6W : Fm := ⟨⟨#[100, 97, 121]⟩, ⟨#[100]⟩, b4U, [([⟨#[109, 111, 110, 116, 104]⟩], ⟨#[121, 101, 97, 114]⟩)]⟩
def b4T : List Cd := [⟨⟨#[115, 104, 111, 112]⟩, 1, false, ⟨#[115, 104, 111, 112]⟩⟩, ⟨⟨#[100, 97, 121]⟩, 2, false, ⟨#[100, 97, 121]⟩⟩, ⟨⟨#[110]⟩, 1, false, ⟨#[]⟩⟩, ⟨⟨#[116, 97, 103]⟩, 2, false, ⟨#[]⟩⟩]
def a8U : Fm := ⟨⟨#[115, 97, 108, 101]⟩, ⟨#[]⟩, b4T, []⟩
def a1L : List Fm := [a3t, a4F, a6W, a8U]
def a0h (F : Fm) : Fm := ⟨F.name, F.key, F.xa.map (b5 F.key), F.da⟩
def I8 : List Fm := a1L.map a0h
set_option synthInstance.maxHeartbeats 1000000 in
set_option synthInstance.maxSize 5000 in
theorem b1H : ∀ i, i < 4 -> FmD (I8.take i) (a1L.getD i dFm) := by decide +kernel
theorem b6O {xs : List Xr} (h : xs.map (fun x => x.F) = a1L) (hz : xs.map (fun x => (x.za, x.zA, x.da.map e8)) = a1L.map fun F => (false, F.da.isEmpty, F.da)) : ∀ i, i < xs.length -> tP (xs.getD i dXr) := fun i hi => by
 have hl : xs.length = 4 := by have := congrArg List.length h; rwa [List.length_map] at this
 have e1 : (xs.getD i dXr).F = a1L.getD i dFm := by rw [<- a3P hi, h]
 have e2 : ((xs.getD i dXr).za, (xs.getD i dXr).zA, (xs.getD i dXr).da.map e8) = (false, (a1L.getD i dFm).da.isEmpty, (a1L.getD i dFm).da) := by
  have h3 := congrArg (fun l : List (Bool × Bool × List (List ByteArray × ByteArray)) => l.getD i (true, true, [])) hz
  rw [a8 (by rw [List.length_map]; exact hi), List.getElem_map, a8 (by rw [List.length_map]; show i < 4; omega), List.getElem_map] at h3
  rw [a8 hi, a8 (show i < a1L.length by show i < 4; omega)]; exact h3
 obtain ⟨a1, a2⟩ := Prod.mk.inj e2
 obtain ⟨a2, a3⟩ := Prod.mk.inj a2
 have hf : ∀ i, i < 4 -> (a1L.getD i dFm).xa.length < 100000 /\ (a1L.getD i dFm).da.length < 100000 /\ (∀ k, k < (a1L.getD i dFm).xa.length -> ((a1L.getD i dFm).xa.getD k eC.d).kind = 1 ∨ ((a1L.getD i dFm).xa.getD k eC.d).kind = 2) /\ (∀ k, k < (a1L.getD i dFm).da.length -> ((a1L.getD i dFm).da.getD k ([], ⟨#[]⟩)).1.length < 1000000) := by decide +kernel
 obtain ⟨f1, f2, f3, f4⟩ := hf i (by omega)
 refine ⟨?_, (fun h => by rw [a1] at h; cases h), fun h => ?_, (by rw [a3, e1])⟩
 ·rw [e1]
  exact ⟨f1, f2, f3, fun d hd => by
   obtain ⟨k, hk, rfl⟩ := List.getElem_of_mem hd
   have := f4 k hk
   rwa [a8 hk] at this⟩
 ·rw [a2] at h
  have := congrArg List.length a3
  rw [List.length_map, List.isEmpty_iff.1 h] at this
  exact this
theorem a8i   : Ctr Tryz.prog nO 63 [] [] ((Nat) × (List Xr)) (fun r => r.2.map (fun x => x.F) = a1L /\ ∀ i, i < r.2.length -> tP (r.2.getD i dXr)) (fun r => .o (.s 1 r.1 4 0 r.2.length r.2.length false)) (fun r => [vc eTb 1 r.1 r.2 46 .own false, .as (e6 tI r.2)]) := by
 refine fs 100 fun B => g0 fun _ => g0 fun q102 => gh (p5 (I := tI)) [] [] 109 fun _ _ => gh (j7 (g := 100) (q := (q102 100)) (cs := [.t ⟨#[105, 100]⟩, .i 1, .v (.bool false), .t ⟨#[]⟩, .t ⟨#[110, 97, 109, 101]⟩, .i 2, .v (.bool false), .t ⟨#[]⟩]) (t := 130) (m := .own) eC b4W) [9] [] 109 fun _ _ => gh (k7 (E := eC) (g := 100) (q := (q102 100)) (xs := b4W) (t := 130) (m := .own) (z := false)) [0] [] 109 fun _ _ => gh (e7 109 2 (eD 906).f (eD 906).d 161 .imm) [] [] 110 fun _ _ => gh (p5 (I := (n4 9))) [] [] 110 fun _ _ => gh (p6 (l := tL (⟨(q102 100), 2, false, 130, 0, 0, true, 161, ([] : List De), 0, [], a3t, 0⟩ : Xr))) [2, 1, 0] [] 110 fun _ _ => gh (i6 (I := tI) (l := ([] : List Xr)) (x := (⟨(q102 100), 2, false, 130, 0, 0, true, 161, ([] : List De), 0, [], a3t, 0⟩ : Xr))) [0, 1] [] 110 fun _ _ => gh (j7 (g := 101) (q := (q102 101)) (cs := [.t ⟨#[105, 100]⟩, .i 1, .v (.bool false), .t ⟨#[]⟩, .t ⟨#[99, 105, 116, 121]⟩, .i 2, .v (.bool true), .t ⟨#[]⟩, .t ⟨#[122, 111, 110, 101]⟩, .i 2, .v (.bool false), .t ⟨#[]⟩, .t ⟨#[108, 97, 110, 100]⟩, .i 1, .v (.bool false), .t ⟨#[108, 97, 110, 100]⟩]) (t := 130) (m := .own) eC b4V) [8] [] 110 fun _ _ => gh (k7 (E := eC) (g := 101) (q := (q102 101)) (xs := b4V) (t := 130) (m := .own) (z := false)) [0] [] 110 fun _ _ => gh (j7 (g := 103) (q := (q102 103)) (cs := [.s 102 (q102 102) 1 0 1 1 false, .t ⟨#[122, 111, 110, 101]⟩]) (t := 161) (m := .own) (eD 906) [(⟨(q102 102), [⟨#[99, 105, 116, 121]⟩], ⟨#[122, 111, 110, 101]⟩⟩ : De)]) [7] [] 110 fun _ _ => gh (k7 (E := (eD 906)) (g := 103) (q := (q102 103)) (xs := [(⟨(q102 102), [⟨#[99, 105, 116, 121]⟩], ⟨#[122, 111, 110, 101]⟩⟩ : De)]) (t := 161) (m := .own) (z := false)) [0] [] 110 fun _ _ => gh (j7 (g := 102) (q := (q102 102)) (cs := [.t ⟨#[99, 105, 116, 121]⟩]) (t := 9) (m := .own) eS [⟨#[99, 105, 116, 121]⟩]) [8] [] 110 fun _ _ => gh (k7 (E := eS) (g := 102) (q := (q102 102)) (xs := [⟨#[99, 105, 116, 121]⟩]) (t := 9) (m := .own) (z := false)) [0] [] 110 fun _ _ => gh (x4 (c := vc eS 102 (q102 102) [⟨#[99, 105, 116, 121]⟩] 9 .imm false) (I := ((n4 9) (⟨(q102 102), [⟨#[99, 105, 116, 121]⟩], ⟨#[122, 111, 110, 101]⟩⟩ : De)))) [0] [] 110 fun _ _ => gh (p5 (I := (n4 9))) [] [] 110 fun _ _ => gh (i6 (I := (n4 9)) (l := []) (x := (⟨(q102 102), [⟨#[99, 105, 116, 121]⟩], ⟨#[122, 111, 110, 101]⟩⟩ : De))) [1, 0] [] 110 fun _ _ => gh (p6 (l := tL (⟨(q102 101), 4, false, 130, (q102 103), 1, false, 161, [(⟨(q102 102), [⟨#[99, 105, 116, 121]⟩], ⟨#[122, 111, 110, 101]⟩⟩ : De)], 0, [], a4F, 0⟩ : Xr))) [2, 1, 0] [] 110 fun _ _ => gh (i6 (I := tI) (l := [(⟨(q102 100), 2, false, 130, 0, 0, true, 161, ([] : List De), 0, [], a3t, 0⟩ : Xr)]) (x := (⟨(q102 101), 4, false, 130, (q102 103), 1, false, 161, [(⟨(q102 102), [⟨#[99, 105, 116, 121]⟩], ⟨#[122, 111, 110, 101]⟩⟩ : De)], 0, [], a4F, 0⟩ : Xr))) [0, 1] [] 110 fun _ _ => gh (j7 (g := 104) (q := (q102 104)) (cs := [.t ⟨#[100]⟩, .i 2, .v (.bool false), .t ⟨#[]⟩, .t ⟨#[109, 111, 110, 116, 104]⟩, .i 1, .v (.bool true), .t ⟨#[]⟩, .t ⟨#[121, 101, 97, 114]⟩, .i 1, .v (.bool false), .t ⟨#[]⟩]) (t := 130) (m := .own) eC b4U) [5] [] 110 fun _ _ => gh (k7 (E := eC) (g := 104) (q := (q102 104)) (xs := b4U) (t := 130) (m := .own) (z := false)) [0] [] 110 fun _ _ => gh (j7 (g := 106) (q := (q102 106)) (cs := [.s 105 (q102 105) 1 0 1 1 false, .t ⟨#[121, 101, 97, 114]⟩]) (t := 161) (m := .own) (eD 906) [(⟨(q102 105), [⟨#[109, 111, 110, 116, 104]⟩], ⟨#[121, 101, 97, 114]⟩⟩ : De)]) [4] [] 110 fun _ _ => gh (k7 (E := (eD 906)) (g := 106) (q := (q102 106)) (xs := [(⟨(q102 105), [⟨#[109, 111, 110, 116, 104]⟩], ⟨#[121, 101, 97, 114]⟩⟩ : De)]) (t := 161) (m := .own) (z := false)) [0] [] 110 fun _ _ => gh (j7 (g := 105) (q := (q102 105)) (cs := [.t ⟨#[109, 111, 110, 116, 104]⟩]) (t := 9) (m := .own) eS [⟨#[109, 111, 110, 116, 104]⟩]) [5] [] 110 fun _ _ => gh (k7 (E := eS) (g := 105) (q := (q102 105)) (xs := [⟨#[109, 111, 110, 116, 104]⟩]) (t := 9) (m := .own) (z := false)) [0] [] 110 fun _ _ => gh (x4 (c := vc eS 105 (q102 105) [⟨#[109, 111, 110, 116, 104]⟩] 9 .imm false) (I := ((n4 9) (⟨(q102 105), [⟨#[109, 111, 110, 116, 104]⟩], ⟨#[121, 101, 97, 114]⟩⟩ : De)))) [0] [] 110 fun _ _ => gh (p5 (I := (n4 9))) [] [] 110 fun _ _ => gh (i6 (I := (n4 9)) (l := []) (x := (⟨(q102 105), [⟨#[109, 111, 110, 116, 104]⟩], ⟨#[121, 101, 97, 114]⟩⟩ : De))) [1, 0] [] 110 fun _ _ => gh (p6 (l := tL (⟨(q102 104), 3, false, 130, (q102 106), 1, false, 161, [(⟨(q102 105), [⟨#[109, 111, 110, 116, 104]⟩], ⟨#[121, 101, 97, 114]⟩⟩ : De)], 0, [], a6W, 0⟩ : Xr))) [2, 1, 0] [] 110 fun _ _ => gh (i6 (I := tI) (l := [(⟨(q102 100), 2, false, 130, 0, 0, true, 161, ([] : List De), 0, [], a3t, 0⟩ : Xr), (⟨(q102 101), 4, false, 130, (q102 103), 1, false, 161, [(⟨(q102 102), [⟨#[99, 105, 116, 121]⟩], ⟨#[122, 111, 110, 101]⟩⟩ : De)], 0, [], a4F, 0⟩ : Xr)]) (x := (⟨(q102 104), 3, false, 130, (q102 106), 1, false, 161, [(⟨(q102 105), [⟨#[109, 111, 110, 116, 104]⟩], ⟨#[121, 101, 97, 114]⟩⟩ : De)], 0, [], a6W, 0⟩ : Xr))) [0, 1] [] 110 fun _ _ => gh (j7 (g := 107) (q := (q102 107)) (cs := [.t ⟨#[115, 104, 111, 112]⟩, .i 1, .v (.bool false), .t ⟨#[115, 104, 111, 112]⟩, .t ⟨#[100, 97, 121]⟩, .i 2, .v (.bool false), .t ⟨#[100, 97, 121]⟩, .t ⟨#[110]⟩, .i 1, .v (.bool false), .t ⟨#[]⟩, .t ⟨#[116, 97, 103]⟩, .i 2, .v (.bool false), .t ⟨#[]⟩]) (t := 130) (m := .own) eC b4T) [2] [] 110 fun _ _ => gh (k7 (E := eC) (g := 107) (q := (q102 107)) (xs := b4T) (t := 130) (m := .own) (z := false)) [0] [] 110 fun _ _ => gh (e7 110 2 (eD 906).f (eD 906).d 161 .imm) [] [] 111 fun _ _ => gh (p5 (I := (n4 9))) [] [] 111 fun _ _ => gh (p6 (l := tL (⟨(q102 107), 4, false, 130, 0, 0, true, 161, ([] : List De), 0, [], a8U, 0⟩ : Xr))) [2, 1, 0] [] 111 fun _ _ => gh (i6 (I := tI) (l := [(⟨(q102 100), 2, false, 130, 0, 0, true, 161, ([] : List De), 0, [], a3t, 0⟩ : Xr), (⟨(q102 101), 4, false, 130, (q102 103), 1, false, 161, [(⟨(q102 102), [⟨#[99, 105, 116, 121]⟩], ⟨#[122, 111, 110, 101]⟩⟩ : De)], 0, [], a4F, 0⟩ : Xr), (⟨(q102 104), 3, false, 130, (q102 106), 1, false, 161, [(⟨(q102 105), [⟨#[109, 111, 110, 116, 104]⟩], ⟨#[121, 101, 97, 114]⟩⟩ : De)], 0, [], a6W, 0⟩ : Xr)]) (x := (⟨(q102 107), 4, false, 130, 0, 0, true, 161, ([] : List De), 0, [], a8U, 0⟩ : Xr))) [0, 1] [] 111 fun _ _ => gh (j7 (g := 108) (q := (q102 108)) (cs := [.t ⟨#[108, 97, 110, 100]⟩, .s 100 (q102 100) 4 0 2 2 false, .t ⟨#[105, 100]⟩, .v (.slice none 0 0), .t ⟨#[115, 104, 111, 112]⟩, .s 101 (q102 101) 4 0 4 4 false, .t ⟨#[105, 100]⟩, .s 103 (q102 103) 2 0 1 1 false, .t ⟨#[100, 97, 121]⟩, .s 104 (q102 104) 4 0 3 3 false, .t ⟨#[100]⟩, .s 106 (q102 106) 2 0 1 1 false, .t ⟨#[115, 97, 108, 101]⟩, .s 107 (q102 107) 4 0 4 4 false, .t ⟨#[]⟩, .v (.slice none 0 0)]) (t := 46) (m := .own) eTb [(⟨(q102 100), 2, false, 130, 0, 0, true, 161, ([] : List De), 0, [], a3t, 0⟩ : Xr), (⟨(q102 101), 4, false, 130, (q102 103), 1, false, 161, [(⟨(q102 102), [⟨#[99, 105, 116, 121]⟩], ⟨#[122, 111, 110, 101]⟩⟩ : De)], 0, [], a4F, 0⟩ : Xr), (⟨(q102 104), 3, false, 130, (q102 106), 1, false, 161, [(⟨(q102 105), [⟨#[109, 111, 110, 116, 104]⟩], ⟨#[121, 101, 97, 114]⟩⟩ : De)], 0, [], a6W, 0⟩ : Xr), (⟨(q102 107), 4, false, 130, 0, 0, true, 161, ([] : List De), 0, [], a8U, 0⟩ : Xr)]) [1] [] 111 fun _ _ => rt trivial (⟨(q102 108), [(⟨(q102 100), 2, false, 130, 0, 0, true, 161, ([] : List De), 0, [], a3t, 0⟩ : Xr), (⟨(q102 101), 4, false, 130, (q102 103), 1, false, 161, [(⟨(q102 102), [⟨#[99, 105, 116, 121]⟩], ⟨#[122, 111, 110, 101]⟩⟩ : De)], 0, [], a4F, 0⟩ : Xr), (⟨(q102 104), 3, false, 130, (q102 106), 1, false, 161, [(⟨(q102 105), [⟨#[109, 111, 110, 116, 104]⟩], ⟨#[121, 101, 97, 114]⟩⟩ : De)], 0, [], a6W, 0⟩ : Xr), (⟨(q102 107), 4, false, 130, 0, 0, true, 161, ([] : List De), 0, [], a8U, 0⟩ : Xr)]⟩) ⟨rfl, b6O rfl rfl⟩ [0, 1]
end Go.Proofs.YtagidoadfajpgaaGreat
open List (length_append length_cons length_nil getElem?_append_left getElem?_append_right getD_eq_getElem?_getD map_append length_map map_map)
namespace Go.Proofs.YtagidoadfajpgaaGreat
open Go.Abs
variable {nO : Nat}
set_option maxRecDepth 100000
attribute [local irreducible] GP ruP ruN nxP acS gst cdP loP j6 m9 m8 enP caA n5 lgP agN
structure Dd where
 qs : Nat
 qm : Nat
 qv : Nat
 xs : List Xr
 zs : List (Nat × Fm × Ts)
structure ddP (ps : List Nat) (l : List (Fm × Ts)) (y : Dd) : Prop where
 ps : y.zs.map Prod.fst = ps
 ok : ∀ i, i < y.xs.length -> tP (y.xs.getD i dXr)
 fm : y.xs.map (fun x => x.F) = y.zs.map fun z => z.2.1
 zs : y.zs.map Prod.snd = l
def ddL (q k : Nat) (y : Dd) : List Ch := [.blk 1 q [.p 2 y.qs 0 0 0, .v (.map (some y.qm))] 115 .own, .blk 2 y.qs [.s 3 y.qv 4 0 y.xs.length y.xs.length y.xs.isEmpty] 145 .own, vc eTb 3 y.qv y.xs 46 .grown y.xs.isEmpty, .as (e6 tI y.xs), .as (W8 y.qm (mpL y.zs)), .as (e6 (a0D k) y.zs)]
def ddA (q k : Nat) (ps : List Nat) (l : List (Fm × Ts)) : As := a7q (ddP ps l) (ddL q k)
def dgA (q : Nat) (l : List (Fm × Ts)) : As := a7q (fun y => dbP l y /\ y.mS = .grown /\ y.mR = .grown /\ y.mN = .grown) (dbL q)
def t0 (F : Fm) : Fm × Ts := (F, ⟨[], 0⟩)
theorem b5R {P : Program} {f : FuncId} {args : List SV} {pre pre' : List Ch} {R : Type} {φ : R -> Prop} {res : R -> SV} {post : R -> List Ch} (C : Ctr P nO f args pre R φ res post) (h : pre' = pre) : Ctr P nO f args pre' R φ res post := h ▸ C
theorem a0M {ps : List Nat} {l : List (Fm × Ts)} {y : Dd} (h : ddP ps l y) : y.xs.map (fun x => x.F) = l.map Prod.fst := by
 rw [h.fm, <- h.zs, map_map]; rfl
theorem b2p {l : List (Fm × Ts)} {y : Dr} (h : dbP l y) : y.xs.map (fun x => x.F) = l.map Prod.fst := by
 rw [<- h.ls, map_map]; rfl
theorem a5z {α : Type} {Q : α -> Prop} {xs : List α} {x d : α} (h : ∀ i, i < xs.length -> Q (xs.getD i d)) (hx : Q x) : ∀ i, i < (xs ++ [x]).length -> Q ((xs ++ [x]).getD i d) := fun i hi => by
 rw [length_append] at hi
 rw [getD_eq_getElem?_getD]
 by_cases k : i < xs.length
 ·rw [getElem?_append_left k, <- getD_eq_getElem?_getD]; exact h i k
 ·have e : i = xs.length := by simp only [length_cons, length_nil] at hi; omega
  rw [e, getElem?_append_right (Nat.le_refl _), Nat.sub_self]; exact hx
section
variable {F : Fm} {da : List De} {l : List (Fm × Ts)}
theorem b0p {ps : List Nat} {q k qa ca qA cA : Nat} {za zA : Bool} {ta tA : TypeId} {ma mA : Md} (hza : za = true -> F.xa.length = 0) (hla : F.xa.length < 1000000) (hzA : zA = true -> da.length = 0) (hlA : da.length < 1000000) (hd : da.map e8 = F.da) (hF : FmD (l.map Prod.fst) F) :
  Ctr Tryz.prog nO 35 [.o (.p 1 q 0 0 0), .a [.t F.name, .s 5 qa 4 0 F.xa.length ca za, .t F.key, .s 6 qA 2 0 da.length cA zA]] [.as (ddA q k ps l), vc eC 5 qa F.xa ta ma za, vc (eD 906) 6 qA da tA mA zA, .as (e6 (n4 9) da)] Nat (fun _ => True) (fun _ => .o (.i 0)) (fun r => [.as (ddA q k (ps ++ [r]) (l ++ [t0 (a0h F)])), vc eC 5 qa F.xa ta ma za, vc (eD 906) 6 qA da tA mA zA, .as (e6 (n4 9) da)]) :=
 g7 (ψ := ddP ps l) (L := ddL q k) (E := [vc eC 5 qa F.xa ta ma za, vc (eD 906) 6 qA da tA mA zA, .as (e6 (n4 9) da)]) (R' := Nat) (ψ' := fun r => ddP (ps ++ [r]) (l ++ [t0 (a0h F)])) (L' := fun _ => ddL q k) (E' := fun _ => [vc eC 5 qa F.xa ta ma za, vc (eD 906) 6 qA da tA mA zA, .as (e6 (n4 9) da)]) [0, 1, 2, 3, 4, 5, 6, 7, 8] [0, 1, 2, 3, 4, 5, 6, 7, 8] (fun y r => r.2.2.2.2) (fun y r => ⟨y.qs, y.qm, r.1, y.xs ++ [⟨r.2.1, F.xa.length, za, 130, r.2.2.1, r.2.2.2.1.length, zA, 161, r.2.2.2.1, 0, [], ⟨F.name, F.key, F.xa.map (b5 F.key), da.map e8⟩, 0⟩], y.zs ++ [(r.2.2.2.2, ⟨F.name, F.key, F.xa.map (b5 F.key), da.map e8⟩, ⟨[], 0⟩)]⟩)
  (fun y hy => b0o (q := q) (qs := y.qs) (qm := y.qm) (qv := y.qv) (xs := y.xs) (zs := y.zs) (k := k) (na := F.name) (ka := F.key) (qa := qa) (ca := ca) (za := za) (xa := F.xa) (ta := ta) (ma := ma) (qA := qA) (cA := cA) (zA := zA) (da := da) (tA := tA) (mA := mA) hza hla hzA hlA (FmD.ok hd (by rw [a0M hy]; exact hF)) hy.ok hy.fm)
  (fun y => ⟨by kernel_rfl, by kernel_rfl⟩)
  (fun y r hy hr => ⟨trivial, rfl, ⟨by rw [map_append, hy.ps]; rfl, a5z hy.ok (FmA.tP (FmD.ok hd (by rw [a0M hy]; exact hF)) hza hzA hr), by rw [map_append, map_append, hy.fm]; rfl, by rw [map_append, hy.zs, hd]; rfl⟩⟩)
  (fun y r => ⟨by kernel_rfl, by kernel_rfl⟩)
theorem b0l {q qa ca qA cA : Nat} {za zA : Bool} {ta tA : TypeId} {ma : Md} (hza : za = true -> F.xa.length = 0) (hla : F.xa.length < 1000000) (hzA : zA = true -> da.length = 0) (hlA : da.length < 1000000) (hd : da.map e8 = F.da) (hF : FmD (l.map Prod.fst) F) :
  Ctr Tryz.prog nO 36 [.o (.p 1 q 0 0 0), .a [.t F.name, .s 5 qa 4 0 F.xa.length ca za, .t F.key, .s 6 qA 2 0 da.length cA zA]] [.as (dgA q l), vc eC 5 qa F.xa ta ma za, vc (eD 906) 6 qA da tA .imm zA, .as (e6 (n4 9) da)] Unit (fun _ => True) (fun _ => .o (.i 0)) (fun _ => [.as (dgA q (l ++ [t0 (a0h F)])), vc eC 5 qa F.xa ta ma za, vc (eD 906) 6 qA da tA .imm zA, .as (e6 (n4 9) da)]) :=
 g7 (ψ := fun y => dbP l y /\ y.mS = .grown /\ y.mR = .grown /\ y.mN = .grown) (L := dbL q) (E := [vc eC 5 qa F.xa ta ma za, vc (eD 906) 6 qA da tA .imm zA, .as (e6 (n4 9) da)]) (R' := Unit) (ψ' := fun _ => fun y => dbP (l ++ [t0 (a0h F)]) y /\ y.mS = .grown /\ y.mR = .grown /\ y.mN = .grown) (L' := fun _ => dbL q) (E' := fun _ => [vc eC 5 qa F.xa ta ma za, vc (eD 906) 6 qA da tA .imm zA, .as (e6 (n4 9) da)]) [0, 1, 2, 3, 4, 5, 6, 7] [0, 1, 2, 3, 4, 5, 6, 7] (fun y _ => ()) (fun y r => ⟨r.1, r.2.1, r.2.2.1, .grown, .grown, .grown, y.xs ++ [⟨r.2.2.2, (F.xa.map (b5 F.key)).length, (F.xa.map (b5 F.key)).isEmpty, 130, qA, cA, zA, tA, da, 0, [], ⟨F.name, F.key, F.xa.map (b5 F.key), da.map e8⟩, 0⟩]⟩)
  (fun y hy => b5R (b0r (q := q) (qS := y.qS) (qR := y.qR) (qN := y.qN) (xs := y.xs) (na := F.name) (ka := F.key) (qa := qa) (ca := ca) (za := za) (xa := F.xa) (ta := ta) (ma := ma) (qA := qA) (cA := cA) (zA := zA) (da := da) (tA := tA) hza hla hzA hlA (FmD.ok hd (by rw [b2p hy.1]; exact hF)) hy.1.ok) (pre' := dbL q y ++ [vc eC 5 qa F.xa ta ma za, vc (eD 906) 6 qA da tA .imm zA, .as (e6 (n4 9) da)]) (by unfold dbL; rw [hy.2.1, hy.2.2.1, hy.2.2.2]; rfl))
  (fun y => ⟨by kernel_rfl, by kernel_rfl⟩)
  (fun y r hy hr => ⟨trivial, rfl, ⟨⟨by rw [map_append, hy.1.ls, hd]; rfl, a5z hy.1.ok (by
    have h := FmA.tP (qc := 0) (qd := 0) (t := 0) (t' := 0) (c := 0) (c' := 0) (FmD.ok hd (by rw [b2p hy.1]; exact hF)) hza hzA (rfl : da.map e8 = _)
    exact ⟨h.fm, (fun h => by show (F.xa.map (b5 F.key)).length = 0; simpa using h), h.zA, h.da, (show 0 < 100000 by decide), fun w hw => nomatch hw⟩), rfl, rfl, by
     have h := hF.1
     rw [<- b2p hy.1, length_map] at h
     show (y.xs ++ [_]).length < 100000
     rw [length_append, List.length_singleton]; omega⟩, rfl, rfl, rfl⟩⟩)
  (fun y r => ⟨by kernel_rfl, by kernel_rfl⟩)
end
end Go.Proofs.YtagidoadfajpgaaGreat
namespace Go.Proofs.YtagidoadfajpgaaGreat
set_option maxHeartbeats 4000000
open Go.Abs
variable {nO : Nat}
set_option maxRecDepth 100000
attribute [local irreducible] GP ruP ruN nxP acS gst cdP loP j6 m9 m8 enP caA n5 lgP agN
def sL (i : Nat) : List (Fm × Ts) := (I8.take i).map t0
theorem b8b {i : Nat} : (sL i).map Prod.fst = I8.take i := by
 unfold sL; rw [List.map_map]; exact List.map_id _
theorem b3S {i : Nat} {F : Fm} (h : i < 4) (e : F = a1L.getD i dFm) : FmD ((sL i).map Prod.fst) F := by
 rw [b8b, e]; exact b1H i h
theorem a8D {i : Nat} {F : Fm} (h : i < 4) (e : F = a1L.getD i dFm) : sL i ++ [t0 (a0h F)] = sL (i + 1) := by
 have e2 : a0h F = I8.getD i dFm := by
  rw [e, a8 (show i < a1L.length from h), a8 (show i < I8.length from h)]
  unfold I8; rw [List.getElem_map]
 unfold sL
 rw [List.take_add_one, List.getElem?_eq_getElem (show i < I8.length from h), List.map_append, e2, a8 (show i < I8.length from h)]; rfl
theorem b8v {q : Nat} {l : List (Fm × Ts)} : GE [.as (dgA q l)] Unit (fun _ => True) (fun _ => [.as (dbA q l)]) := fun _ A hF => by
 obtain ⟨F1, F2, ⟨y, hy, h1⟩, h2, j⟩ := hF
 exact ⟨(), _, trivial, ⟨F1, F2, ⟨y, hy.1, h1⟩, h2, j⟩, .refl⟩
theorem V7   : Ctr Tryz.prog nO 21 [] [] ((Nat) × (Nat) × (List Nat)) (fun r => r.2.2.length = 4) (fun r => .t [(false, [.p 1 r.1 0 0 0]), (false, [.p 2 r.2.1 0 0 0])]) (fun r => [.as (ddA r.1 0 r.2.2 (sL 4)), .as (dbA r.2.1 (sL 4))]) := by
 refine fs 100 fun B => g0 fun _ => cl (a6g ) [] [(1, 100), (2, 101), (3, 102)] 103 fun ⟨q103, qs103, qm103⟩ _ => g0 fun q104 => cl (a8i ) [] [(1, 104)] 105 (fun ⟨q106, xs106⟩ hs9 => ?_)
 dsimp only at hs9
 have hl9 : xs106.length = 4 := by have := congrArg List.length hs9.1; rwa [List.length_map] at this
 refine g0 fun _ => g0 fun _ => gh (p5 (I := a0D 0)) [] [] 105 fun _ _ => gh (d5 (φ := ddP [] (sL 0)) (L := ddL q103 0) (⟨qs103, qm103, 0, [], []⟩ : Dd) ⟨rfl, fun i hi => absurd hi (Nat.not_lt_zero i), rfl, rfl⟩) [4, 5, 6, 7, 8, 0] [] 105 fun _ _ => gh (b6 (l := [.blk 103 (q104 103) [.v (.slice none 0 0), .v (.slice none 0 0), .v (.slice none 0 0)] 42 .own]) (l' := [.blk 103 (q104 103) [.s 105 0 4 0 (([] : List Xr).length) (([] : List Xr).length) (([] : List Xr).isEmpty), .s 106 0 1 0 (([] : List Xr).length) (([] : List Xr).length) (([] : List Xr).isEmpty), .s 107 0 1 0 (([] : List Xr).length) (([] : List Xr).length) (([] : List Xr).isEmpty)] 42 .own]) (by rfl)) [3] [] 105 fun _ _ => gh (e7 105 4 eTb.f eTb.d 46 .grown) [] [] 106 fun _ _ => gh (e7 106 1 eRs.f eRs.d 55 .grown) [] [] 107 fun _ _ => gh (e7 107 1 eI.f eI.d 2 .grown) [] [] 108 fun _ _ => gh (p5 (I := xA)) [] [] 108 fun _ _ => gh (d5 (φ := fun y => dbP (sL 0) y /\ y.mS = .grown /\ y.mR = .grown /\ y.mN = .grown) (L := dbL (q104 103)) (⟨0, 0, 0, .grown, .grown, .grown, []⟩ : Dr) ⟨⟨rfl, fun i hi => absurd hi (Nat.not_lt_zero i), rfl, rfl, (show 0 < 100000 by decide)⟩, rfl, rfl, rfl⟩) [4, 3, 2, 1, 0] [] 108 fun _ _ => lp2 (Nat) (List Nat) [2, 3, 4] (fun r => [(5, .o (.i (r.1 : Int)))]) [2, 3] (fun r => [.as (ddA q103 0 r.2 (sL r.1)), .as (dgA (q104 103) (sL r.1))]) 128 (fun r => r.1 <= 4 /\ r.2.length = r.1) (fun r => 4 - r.1) (⟨0, []⟩) ⟨Nat.zero_le _, rfl⟩ [1, 0] (fun i ps hx ag109 => ?_)
 try dsimp only at hx
 obtain ⟨hi, hpl⟩ := hx
 refine g0 fun _ => cdD ((i : Int) < (xs106.length : Int)) (fun h1 => ?_) (fun h1 => ?_)
 ·have hp9 := hs9.2 i (by omega)
  have hF9 : (xs106.getD i dXr).F = a1L.getD i dFm := by rw [<- a3P (by omega), hs9.1]
  refine gh (f8 (I := tI) (l := xs106) i dXr (by omega)) [3] [] 128 fun _ _ => gh (O5 (l := tL (xs106.getD i dXr))) [0] [] 128 fun _ _ => go (fun _ => (o4 (nz i) (by omega : (i : Int) < (xs106.length : Int)) (rfl : false = _) (by omega : i < xs106.length))) fun _ => cl (b0p (F := (xs106.getD i dXr).F) (ps := ps) (l := (sL i)) (q := q103) (k := 0) (qa := (xs106.getD i dXr).qa) (ca := (xs106.getD i dXr).ca) (za := (xs106.getD i dXr).za) (ta := (xs106.getD i dXr).ta) (ma := .imm) (qA := (xs106.getD i dXr).qA) (cA := (xs106.getD i dXr).cA) (zA := (xs106.getD i dXr).zA) (da := (xs106.getD i dXr).da) (tA := (xs106.getD i dXr).tA) (mA := .imm) hp9.za (by have := hp9.fm.xl; omega) hp9.zA (by have := hp9.dl; omega) hp9.da (b3S (by omega) hF9)) [4, 0, 1, 2] [(1, 100), (5, 931), (6, 932)] 128 fun qt112 _ => go (fun _ => (o4 (nz i) (by omega : (i : Int) < (xs106.length : Int)) (rfl : false = _) (by omega : i < xs106.length))) fun _ => cl (b0l (F := (xs106.getD i dXr).F) (l := (sL i)) (q := (q104 103)) (qa := (xs106.getD i dXr).qa) (ca := (xs106.getD i dXr).ca) (za := (xs106.getD i dXr).za) (ta := ((xs106.getD i dXr).ta)) (ma := .imm) (qA := (xs106.getD i dXr).qA) (cA := (xs106.getD i dXr).cA) (zA := (xs106.getD i dXr).zA) (da := (xs106.getD i dXr).da) (tA := ((xs106.getD i dXr).tA)) hp9.za (by have := hp9.fm.xl; omega) hp9.zA (by have := hp9.dl; omega) hp9.da (b3S (by omega) hF9)) [5, 1, 2, 3] [(1, 103), (5, 931), (6, 932)] 128 fun _ _ => gh (p6 (l := tL (xs106.getD i dXr))) [1, 2, 3] [] 128 fun _ _ => gh (j9 (I := tI) (l := xs106) i dXr (by omega)) [0, 3] [] 128 fun _ _ => go (fun _ => (o2 (by omega : -9223372036854775808 <= (i : Int) + 1) (by omega : (i : Int) + 1 < 9223372036854775808))) fun _ => gh (b6 (l := [.as (ddA q103 0 (ps ++ [qt112]) ((sL i) ++ [t0 (a0h ((xs106.getD i dXr).F))]))]) (l' := [.as (ddA q103 0 (ps ++ [qt112]) (sL (i + 1)))]) (by rw [a8D (by omega) hF9])) [2] [] 128 fun _ _ => gh (b6 (l := [.as (dgA (q104 103) ((sL i) ++ [t0 (a0h ((xs106.getD i dXr).F))]))]) (l' := [.as (dgA (q104 103) (sL (i + 1)))]) (by rw [a8D (by omega) hF9])) [2] [] 128 fun _ _ => ag109 _ _ (⟨i + 1, (ps ++ [qt112])⟩) (by first | omega | (simp only; omega)) (by dsimp only; exact ⟨by omega, by rw [List.length_append, hpl]; rfl⟩) [1, 0, 3, 2] (by kernel_rfl) (by kernel_rfl)
 ·have hie : i = 4 := by omega
  refine g0 fun _ => gh (b6 (l := [.as (ddA q103 0 ps (sL i))]) (l' := [.as (ddA q103 0 ps (sL 4))]) (by rw [hie])) [0] [] 128 fun _ _ => gh (b6 (l := [.as (dgA (q104 103) (sL i))]) (l' := [.as (dgA (q104 103) (sL 4))]) (by rw [hie])) [1] [] 128 fun _ _ => gh (b8v (q := (q104 103)) (l := sL 4)) [0] [] 128 fun _ _ => rt trivial (⟨q103, (q104 103), ps⟩) (hpl.trans hie) [1, 0]
end Go.Proofs.YtagidoadfajpgaaGreat
open List (getElem?_map length_map getElem?_eq_getElem set_getElem_self map_set getElem_map)
namespace Go.Proofs.YtagidoadfajpgaaGreat
open Go.Abs
variable {nO : Nat}
set_option maxRecDepth 100000
attribute [local irreducible] GP ruP ruN nxP acS gst cdP loP j6 m9 m8 enP caA n5 lgP agN
theorem b0s {P : Program} {f : FuncId} {args : List SV} {R : Type} {φ : R -> Prop} {res : R -> SV} {D I : As} {D' I' : R -> As} {E : List Ch} {E' : R -> List Ch} (h : ∀ F A, D.p F A -> ∃ J : As, (I.star J).p F A /\ ∀ r F' A', ((I' r).star J).p F' A' -> (D' r).p F' A')
  (C : Ctr P nO f args (.as I :: E) R φ res (fun r => .as (I' r) :: E' r)) : Ctr P nO f args (.as D :: E) R φ res (fun r => .as (D' r) :: E' r) := fun F A hF => by
 obtain ⟨F1, F2, hd, he, j⟩ := hF
 obtain ⟨J, h1, h2⟩ := h F1 A hd
 have h3 : ((I.star J).star (hpA E)).p F A := ⟨F1, F2, h1, he, j⟩
 have h4 : ((hpA (.as I :: E)).star (hpA [.as J])).p F A := As.map' (As.assoc' (As.map' (As.assoc h3) fun _ h => As.comm h)) fun _ h => As.addE h
 obtain ⟨r, A', F', hr, hs, hq, hm⟩ := L9 [.as J] C F A (a4S h4)
 have h5 : (((I' r).star (hpA (E' r))).star J).p F' A' := As.map' (a0R hq) fun _ h => As.unE h
 have h6 : (((I' r).star J).star (hpA (E' r))).p F' A' := As.assoc' (As.map' (As.assoc h5) fun _ h => As.comm h)
 exact ⟨r, A', F', hr, hs, As.map h6 fun _ h => h2 r _ _ h, hm⟩
theorem a2Q {α : Type} {I I' : α -> As} {A : World} (h : ∀ x F, (I x).p F A -> (I' x).p F A) : ∀ {l : List α} {F : Ft}, (As.all (l.map I)).p F A -> (As.all (l.map I')).p F A
 | [], _, k => k
 | _ :: _, _, k => As.map' (As.map k fun _ k => h _ _ k) fun _ k => a2Q h k
theorem b3O {q : Nat} {F : Fm} {s : Ts} {k k' : Nat} {F0 : Ft} {A : World} (h : k <= k') (hp : (r5 q F s k).p F0 A) : (r5 q F s k').p F0 A := by
 obtain ⟨y, hy, h1⟩ := hp
 exact ⟨y, { hy with rep := hy.rep.mono h }, h1⟩
theorem b4n {ps : List Nat} {l : List (Fm × Ts)} {y : Dd} (hy : ddP ps l y) {j : Nat} {F : Fm} {s : Ts} (e : l[j]? = some (F, s)) : j < y.zs.length /\ y.zs.getD j dZ = (ps.getD j 0, F, s) := by
 have hj : j < y.zs.length := by
  have := (List.getElem?_eq_some_iff.1 e).1
  rwa [<- hy.zs, length_map] at this
 refine ⟨hj, ?_⟩
 rw [<- hy.zs, getElem?_map, getElem?_eq_getElem hj] at e
 have e2 : (y.zs[j]'hj).2 = (F, s) := Option.some.inj e
 have e1 : (y.zs[j]'hj).1 = ps.getD j 0 := by
  rw [<- hy.ps, a8 (by rw [length_map]; exact hj), getElem_map]
 rw [a8 hj, <- e1, <- e2]
theorem b7B {q k j : Nat} {ps : List Nat} {l : List (Fm × Ts)} {F : Fm} {s : Ts} (e : l[j]? = some (F, s)) {F0 : Ft} {A : World} (hd : (ddA q k ps l).p F0 A) :
  ∃ J : As, ((r5 (ps.getD j 0) F s k).star J).p F0 A /\ ∀ (s' : Ts) (k' : Nat) (F' : Ft) (A' : World), k <= k' -> ((r5 (ps.getD j 0) F s' k').star J).p F' A' -> (ddA q k' ps (l.set j (F, s'))).p F' A' := by
 obtain ⟨y, hy, h⟩ := hd
 obtain ⟨hj, hz⟩ := b4n hy e
 have h2 : ((e6 (a0D k) y.zs).star (hpA ((ddL q 0 y).take 5))).p F0 A := As.unE (y8 (idx := [5, 0, 1, 2, 3, 4]) (by kernel_rfl) h)
 have p := (a2k dZ (y.zs.getD j dZ) hj).map (a0D k)
 rw [G8 dZ hj] at p
 have h3 : (((a0D k (y.zs.getD j dZ)).star (e6 (a0D k) (y.zs.eraseIdx j))).star (hpA ((ddL q 0 y).take 5))).p F0 A := As.map h2 fun _ h => As.perm p h
 rw [hz] at h3
 refine ⟨(e6 (a0D k) (y.zs.eraseIdx j)).star (hpA ((ddL q 0 y).take 5)), As.assoc h3, fun s' k' F' A' hk h4 => ?_⟩
 have h5 := As.assoc' h4
 have h6 : ((e6 (a0D k') (y.zs.set j (ps.getD j 0, F, s'))).star (hpA ((ddL q 0 y).take 5))).p F' A' := As.map h5 fun _ h => As.perm ((a2k dZ (ps.getD j 0, F, s') hj).map (a0D k')).symm (As.map' h fun _ h => a2Q (fun _ _ h => b3O hk h) h)
 have em : mpL (y.zs.set j (ps.getD j 0, F, s')) = mpL y.zs := by
  unfold mpL
  rw [map_set]
  have hz2 : y.zs[j]'hj = (ps.getD j 0, F, s) := (a8 hj).symm.trans hz
  have e1 : (F.name, ps.getD j 0) = (y.zs.map fun z => (z.2.1.name, z.1)).getD j (⟨#[]⟩, 0) := ((a8 (by rw [length_map]; exact hj)).trans (by rw [getElem_map, hz2])).symm
  show (y.zs.map _).set j (F.name, ps.getD j 0) = _
  rw [e1, G8 _ (by rw [length_map]; exact hj)]
 have ez : y.zs.set j (ps.getD j 0, F, s) = y.zs := by rw [<- hz, G8 dZ hj]
 refine ⟨{ y with zs := y.zs.set j (ps.getD j 0, F, s') }, ⟨?_, hy.ok, ?_, ?_⟩, ?_⟩
 ·show (y.zs.set j (ps.getD j 0, F, s')).map Prod.fst = ps
  rw [map_set]
  refine Eq.trans ?_ ((congrArg (List.map Prod.fst) ez).trans hy.ps)
  rw [map_set]
 ·show y.xs.map _ = (y.zs.set j (ps.getD j 0, F, s')).map _
  rw [map_set, hy.fm]
  conv => lhs; rw [<- ez]
  rw [map_set]
 ·show (y.zs.set j (ps.getD j 0, F, s')).map Prod.snd = _
  rw [map_set, hy.zs]
 ·have h7 : (hpA (ddL q k' { y with zs := y.zs.set j (ps.getD j 0, F, s') })).p F' A' := by
   have h8 : (hpA [.as (e6 (a0D k') (y.zs.set j (ps.getD j 0, F, s'))), (ddL q 0 y).getD 0 (.as .emp), (ddL q 0 y).getD 1 (.as .emp), (ddL q 0 y).getD 2 (.as .emp), (ddL q 0 y).getD 3 (.as .emp), .as (W8 y.qm (mpL (y.zs.set j (ps.getD j 0, F, s'))))]).p F' A' := by rw [em]; exact h6
   exact As.unE (y8 (idx := [1, 2, 3, 4, 5, 0]) (by kernel_rfl) h8)
  exact h7
theorem a6k {P : Program} {f : FuncId} {args : List SV} {R : Type} {φ : R -> Prop} {res : R -> SV} {q k k' j : Nat} {ps : List Nat} {l : List (Fm × Ts)} {F : Fm} {s s' : Ts} {E : List Ch} {E' : R -> List Ch} (e : l[j]? = some (F, s)) (hk : k <= k')
  (C : Ctr P nO f args (.as (r5 (ps.getD j 0) F s k) :: E) R φ res (fun r => .as (r5 (ps.getD j 0) F s' k') :: E' r)) : Ctr P nO f args (.as (ddA q k ps l) :: E) R φ res (fun r => .as (ddA q k' ps (l.set j (F, s'))) :: E' r) :=
 b0s (fun _ _ h => by
  obtain ⟨J, h1, h2⟩ := b7B e h
  exact ⟨J, h1, fun _ _ _ h => h2 _ _ _ _ hk h⟩) C
theorem a5H {l : List (Fm × Ts)} {j : Nat} {v : Fm × Ts} (e : l[j]? = some v) : l.set j v = l := by
 obtain ⟨h1, h2⟩ := List.getElem?_eq_some_iff.1 e
 rw [<- h2]; exact set_getElem_self h1
theorem a3W {P : Program} {f : FuncId} {args : List SV} {R : Type} {φ : R -> Prop} {res : R -> SV} {q k j : Nat} {ps : List Nat} {l : List (Fm × Ts)} {F : Fm} {s : Ts} {E : List Ch} {E' : R -> List Ch} (e : l[j]? = some (F, s))
  (C : Ctr P nO f args (.as (r5 (ps.getD j 0) F s k) :: E) R φ res (fun r => .as (r5 (ps.getD j 0) F s k) :: E' r)) : Ctr P nO f args (.as (ddA q k ps l) :: E) R φ res (fun r => .as (ddA q k ps l) :: E' r) := by
 have h := a6k (q := q) e (Nat.le_refl k) C
 rwa [a5H e] at h
theorem n7 {q k k' : Nat} {ps : List Nat} {l : List (Fm × Ts)} {E : List Ch} (h : k <= k') : GE (.as (ddA q k ps l) :: E) Unit (fun _ => True) (fun _ => .as (ddA q k' ps l) :: E) := fun _ A hF => by
 obtain ⟨F1, F2, ⟨y, hy, h1⟩, h2, j⟩ := hF
 refine ⟨(), _, trivial, ⟨F1, F2, ⟨y, hy, ?_⟩, h2, j⟩, .refl⟩
 have h3 : ((e6 (a0D k) y.zs).star (hpA ((ddL q 0 y).take 5))).p F1 A := As.unE (y8 (idx := [5, 0, 1, 2, 3, 4]) (by kernel_rfl) h1)
 have h4 : (hpA [.as (e6 (a0D k') y.zs), (ddL q 0 y).getD 0 (.as .emp), (ddL q 0 y).getD 1 (.as .emp), (ddL q 0 y).getD 2 (.as .emp), (ddL q 0 y).getD 3 (.as .emp), (ddL q 0 y).getD 4 (.as .emp)]).p F1 A := As.map h3 fun _ k => a2Q (fun _ _ k => b3O h k) k
 exact As.unE (y8 (idx := [1, 2, 3, 4, 5, 0]) (by kernel_rfl) h4)
theorem b8r {ps : List Nat} {l : List (Fm × Ts)} {y : Dd} (hy : ddP ps l y) {s : ByteArray} : e9 (y.zs.map fun z => z.2.1) (fun F => a7 F.name s) = e9 (l.map Prod.fst) (fun F => a7 F.name s) := by
 rw [<- hy.fm, a0M hy]
theorem a2N {q k : Nat} {ps : List Nat} {l : List (Fm × Ts)} {s : ByteArray} (hn : e9 (l.map Prod.fst) (fun F => a7 F.name s) = -1) : K1 nO 39 [.o (.p 1 q 0 0 0), .o (.t s)] [.as (ddA q k ps l)] (.o (.v (.pointer none))) :=
 g7 (ψ := ddP ps l) (L := ddL q k) (E := []) (R' := Unit) (ψ' := fun _ => ddP ps l) (L' := fun _ => ddL q k) (E' := fun _ => []) [0, 4] [0, 2, 3, 4, 1, 5] (fun y _ => ()) (fun y _ => y)
  (fun y hy => b0f (q := q) (qs := y.qs) (qm := y.qm) (zs := y.zs) (s := s) ((b8r hy).trans hn))
  (fun y => ⟨by kernel_rfl, by kernel_rfl⟩)
  (fun y r hy hr => ⟨trivial, rfl, hy⟩)
  (fun y r => ⟨by kernel_rfl, by kernel_rfl⟩)
theorem z8 {q k j : Nat} {ps : List Nat} {l : List (Fm × Ts)} {s : ByteArray} (hj : j < l.length) (hn : e9 (l.map Prod.fst) (fun F => a7 F.name s) = (j : Int)) : K1 nO 39 [.o (.p 1 q 0 0 0), .o (.t s)] [.as (ddA q k ps l)] (.o (.p 7 (ps.getD j 0) 0 0 0)) :=
 g7 (ψ := ddP ps l) (L := ddL q k) (E := []) (R' := Unit) (ψ' := fun _ => ddP ps l) (L' := fun _ => ddL q k) (E' := fun _ => []) [0, 4] [0, 2, 3, 4, 1, 5] (fun y _ => ()) (fun y _ => y)
  (fun y hy => b24 (q := q) (qs := y.qs) (qm := y.qm) (zs := y.zs) (s := s) (j := j) ((b8r hy).trans hn))
  (fun y => ⟨by kernel_rfl, by kernel_rfl⟩)
  (fun y r hy hr => ⟨trivial, by
   obtain ⟨v, hv⟩ : ∃ v, l[j]? = some v := ⟨_, getElem?_eq_getElem hj⟩
   show SV.den (.o (.p 7 ((y.zs.getD j dZ).1) 0 0 0)) = _
   rw [(b4n hy (F := v.1) (s := v.2) hv).2], hy⟩)
  (fun y r => ⟨by kernel_rfl, by kernel_rfl⟩)
end Go.Proofs.YtagidoadfajpgaaGreat
open List (length_append length_cons length_nil map_append length_map map_cons getElem?_eq_getElem getElem_map take_of_length_le take_add_one)
namespace Go.Proofs.YtagidoadfajpgaaGreat
set_option maxHeartbeats 4000000
open Go.Abs
variable {nO : Nat}
set_option maxRecDepth 100000
attribute [local irreducible] GP ruP ruN nxP acS gst cdP loP j6 m9 m8 enP caA n5 lgP agN
structure Opn where
 kind : Int
 tab : ByteArray
 id : Int
 col : ByteArray
 vs : List Va
structure Oq where
 q : Nat
 c : Nat
 z : Bool
 y : Bool
 o : Opn
def dOq : Oq := ⟨0, 0, true, true, ⟨0, ⟨#[]⟩, 0, ⟨#[]⟩, []⟩⟩
def eOq : En Oq := ⟨5, fun x => [.i x.o.kind, .t x.o.tab, .i x.o.id, .t x.o.col, .s 941 x.q 3 0 x.o.vs.length x.c x.z], dOq⟩
def oqA (x : Oq) : As := (vc eV 941 x.q x.o.vs 26 .imm x.y).den
structure oP (x : Oq) : Prop where
 z : x.z = true -> x.o.vs.length = 0
 l : x.o.vs.length < 9223372036854775808
structure oB (x : Oq) : Prop extends oP x where
 yz : x.y = x.z
 sz : ∀ i, i < x.o.vs.length -> (x.o.vs.getD i eV.d).s.size < 1000000000
 vl : x.o.vs.length < 1000000
def b4f (o : Opn) : Opn := ⟨o.kind, b1j o.tab 20, o.id, b1j o.col 20, g5 o.vs (min 7 o.vs.length)⟩
def b8 (xs : List Oq) : List Opn := xs.map fun x => x.o
def b1g (l : List Opn) (n : Nat) : List Opn := (l.take n).map b4f
theorem a3v {xs : List Oq} {i : Nat} (h : i < xs.length) : (b8 xs).take (i + 1) = (b8 xs).take i ++ [(xs.getD i dOq).o] := by
 rw [take_add_one, getElem?_eq_getElem (by unfold b8; rw [length_map]; exact h), a8 h]
 unfold b8; rw [getElem_map]; rfl
theorem a6Z {xs ys : List Oq} {x : Oq} {i : Nat} (h : b8 ys = b1g (b8 xs) i) (hi : i < xs.length) (e : x.o = b4f (xs.getD i dOq).o) : b8 (ys ++ [x]) = b1g (b8 xs) (i + 1) := by
 unfold b1g at h ⊢
 rw [a3v hi, map_append, <- h]
 unfold b8
 rw [map_append, map_cons, e]; rfl
theorem b2e {xs : List Oq} {n i : Nat} (h : ¬ ((i : Int) < (xs.length : Int) /\ (i : Int) < (n : Int))) (hi : i <= xs.length /\ i <= n) : b1g (b8 xs) i = b1g (b8 xs) n := by
 unfold b1g
 congr 1
 by_cases k : i < n
 ·have e : i = xs.length := by omega
  rw [take_of_length_le (by unfold b8; rw [length_map]; omega), take_of_length_le (by unfold b8; rw [length_map]; omega)]
 ·have e : i = n := by omega
  rw [e]
theorem a3w {q c : Nat} {z : Bool} {xs : List Oq} {t : TypeId} {m : Md} {n : Nat} (hz : z = true -> xs.length = 0) (hn1 : n < 1000000) (hxo : ∀ i, i < xs.length -> oP (xs.getD i dOq)) : Ctr Tryz.prog nO 23 [.o (.s 1 q 5 0 xs.length c z), .o (.i (n : Int))] [vc eOq 1 q xs t m z, .as (e6 oqA xs)] ((Nat) × (List Oq)) (fun r => b8 r.2 = b1g (b8 xs) n /\ ∀ i, i < r.2.length -> oB (r.2.getD i dOq)) (fun r => .o (.s 2 r.1 5 0 r.2.length r.2.length r.2.isEmpty)) (fun r => [vc eOq 2 r.1 r.2 84 .grown r.2.isEmpty, .as (e6 oqA r.2), vc eOq 1 q xs t m z, .as (e6 oqA xs)]) := by
 refine fs 100 fun B => g0 fun _ => g0 fun _ => g0 fun _ => gh (e7 100 5 eOq.f eOq.d 84 .grown) [] [] 101 fun _ _ => gh (p5 (I := oqA)) [] [] 101 fun _ _ => sv 5 (v := .o (.v (.slice none 0 0))) (v' := .o (.s 100 0 5 0 (([] : List Oq).length) (([] : List Oq).length) (([] : List Oq).isEmpty))) rfl <| lp3 (Nat) (Nat) (List Oq) [0, 1] (fun r => [(6, .o (.i (r.1 : Int))), (5, .o (.s 100 r.2.1 5 0 r.2.2.length r.2.2.length r.2.2.isEmpty))]) [2, 3] (fun r => [vc eOq 100 r.2.1 r.2.2 84 .grown r.2.2.isEmpty, .as (e6 oqA r.2.2)]) 121 (fun r => (r.1 <= xs.length /\ r.1 <= n) /\ r.2.2.length = r.1 /\ b8 r.2.2 = b1g (b8 xs) r.1 /\ ∀ k, k < r.2.2.length -> oB (r.2.2.getD k dOq)) (fun r => n - r.1) (⟨0, 0, []⟩) ⟨⟨Nat.zero_le _, Nat.zero_le _⟩, rfl, rfl, fun _ h => absurd h (Nat.not_lt_zero _)⟩ [1, 0] (fun i pq ys hx ag104 => ?_)
 try dsimp only at hx
 obtain ⟨hi, hyl, hyk, hyo⟩ := hx
 refine g0 fun _ => cd (and (decide ((i : Int) < (xs.length : Int))) (decide ((i : Int) < (n : Int)))) (fun h1 => ?_) (fun h1 => ?_)
 ·have h1 : ((i : Int) < (xs.length : Int)) /\ ((i : Int) < (n : Int)) := by simpa using h1
  refine go (fun q106 => (o4 (nz i) (by omega : (i : Int) < (xs.length : Int)) (zf hz (show 0 < xs.length by omega) : z = false) (by omega : i < xs.length))) fun q106 => gh (f8 (I := oqA) (l := xs) i dOq (by omega)) [4] [] 122 fun _ _ => gh (a1t (c := vc eV 941 ((xs.getD i dOq).q) ((xs.getD i dOq).o.vs) 26 .imm ((xs.getD i dOq).y)) (I := oqA (xs.getD i dOq))) [0] [] 122 fun _ _ => g0 fun _ => cl (@a48 _ ((xs.getD i dOq).o.tab) 20) [] [] 122 fun _ _ => g0 fun _ => cl (@a48 _ ((xs.getD i dOq).o.col) 20) [] [] 122 fun _ _ => g0 fun _ => cl (@a9t _ ((xs.getD i dOq).q) ((xs.getD i dOq).c) ((xs.getD i dOq).z) ((xs.getD i dOq).o.vs) 26 .imm ((xs.getD i dOq).y) 7 (hxo i (by omega)).z (hxo i (by omega)).l (by decide)) [0] [(6, 941), (7, 122)] 123 fun qv _ => g0 fun q113 => apd eOq ys [(⟨qv, (g5 (xs.getD i dOq).o.vs (min 7 (xs.getD i dOq).o.vs.length)).length, (g5 (xs.getD i dOq).o.vs (min 7 (xs.getD i dOq).o.vs.length)).isEmpty, (g5 (xs.getD i dOq).o.vs (min 7 (xs.getD i dOq).o.vs.length)).isEmpty, b4f (xs.getD i dOq).o⟩ : Oq)] (ys ++ [(⟨qv, (g5 (xs.getD i dOq).o.vs (min 7 (xs.getD i dOq).o.vs.length)).length, (g5 (xs.getD i dOq).o.vs (min 7 (xs.getD i dOq).o.vs.length)).isEmpty, (g5 (xs.getD i dOq).o.vs (min 7 (xs.getD i dOq).o.vs.length)).isEmpty, b4f (xs.getD i dOq).o⟩ : Oq)]) 100 pq .grown ys.isEmpty ((ys ++ [(⟨qv, (g5 (xs.getD i dOq).o.vs (min 7 (xs.getD i dOq).o.vs.length)).length, (g5 (xs.getD i dOq).o.vs (min 7 (xs.getD i dOq).o.vs.length)).isEmpty, (g5 (xs.getD i dOq).o.vs (min 7 (xs.getD i dOq).o.vs.length)).isEmpty, b4f (xs.getD i dOq).o⟩ : Oq)]).isEmpty) (.blk 123 (q113 123) [.i ((xs.getD i dOq).o.kind), .t (b1j ((xs.getD i dOq).o.tab) 20), .i ((xs.getD i dOq).o.id), .t (b1j ((xs.getD i dOq).o.col) 20), .s 122 qv 3 0 ((g5 ((xs.getD i dOq).o.vs) (min 7 ((xs.getD i dOq).o.vs).length)).length) ((g5 ((xs.getD i dOq).o.vs) (min 7 ((xs.getD i dOq).o.vs).length)).length) ((g5 ((xs.getD i dOq).o.vs) (min 7 ((xs.getD i dOq).o.vs).length)).isEmpty)] 84 .own) (q113 123) 0 1 1 false 124 [5, 0] 125 84 (fun h _ => K4 h) (by simp only [length_cons, length_nil]; omega) (o8 rfl) (by simp) rfl fun q114 => g0 fun _ => gh (x4 (c := vc eV 941 ((xs.getD i dOq).q) ((xs.getD i dOq).o.vs) 26 .imm ((xs.getD i dOq).y)) (I := oqA (xs.getD i dOq))) [3] [] 125 fun _ _ => gh (j9 (I := oqA) (l := xs) i dOq (by omega)) [0, 4] [] 125 fun _ _ => gh (k7 (E := eV) (g := 122) (q := qv) (xs := (g5 ((xs.getD i dOq).o.vs) (min 7 ((xs.getD i dOq).o.vs).length))) (t := 26) (m := .grown) (z := (g5 ((xs.getD i dOq).o.vs) (min 7 ((xs.getD i dOq).o.vs).length)).isEmpty)) [3] [] 125 fun _ _ => gh (x4 (c := vc eV 122 qv (g5 ((xs.getD i dOq).o.vs) (min 7 ((xs.getD i dOq).o.vs).length)) 26 .imm ((g5 ((xs.getD i dOq).o.vs) (min 7 ((xs.getD i dOq).o.vs).length)).isEmpty)) (I := oqA (⟨qv, (g5 (xs.getD i dOq).o.vs (min 7 (xs.getD i dOq).o.vs.length)).length, (g5 (xs.getD i dOq).o.vs (min 7 (xs.getD i dOq).o.vs.length)).isEmpty, (g5 (xs.getD i dOq).o.vs (min 7 (xs.getD i dOq).o.vs.length)).isEmpty, b4f (xs.getD i dOq).o⟩ : Oq))) [0] [] 125 fun _ _ => gh (i6 (I := oqA) (l := ys) (x := (⟨qv, (g5 (xs.getD i dOq).o.vs (min 7 (xs.getD i dOq).o.vs.length)).length, (g5 (xs.getD i dOq).o.vs (min 7 (xs.getD i dOq).o.vs.length)).isEmpty, (g5 (xs.getD i dOq).o.vs (min 7 (xs.getD i dOq).o.vs.length)).isEmpty, b4f (xs.getD i dOq).o⟩ : Oq))) [0, 5] [] 125 fun _ _ => go (fun _ => (o2 (by omega : -9223372036854775808 <= (i : Int) + 1) (by omega : (i : Int) + 1 < 9223372036854775808))) fun _ => ag104 _ _ (⟨i + 1, q114, ys ++ [(⟨qv, (g5 (xs.getD i dOq).o.vs (min 7 (xs.getD i dOq).o.vs.length)).length, (g5 (xs.getD i dOq).o.vs (min 7 (xs.getD i dOq).o.vs.length)).isEmpty, (g5 (xs.getD i dOq).o.vs (min 7 (xs.getD i dOq).o.vs.length)).isEmpty, b4f (xs.getD i dOq).o⟩ : Oq)]⟩) (by first | omega | (simp only; omega)) (by dsimp only; exact ⟨by omega, (by rw [length_append, hyl]; rfl), a6Z hyk (by omega) rfl, a5z hyo { z := fun h => List.length_eq_zero_iff.2 (List.isEmpty_iff.1 h), l := (by show (g5 _ _).length < _; rw [S9]; omega), yz := rfl, sz := fun j hj => Nat.lt_of_le_of_lt (b3f hj) (by decide), vl := (by show (g5 _ _).length < _; rw [S9]; omega) }⟩) [2, 0, 5, 1] (by kernel_rfl) (by kernel_rfl)
 ·have h1 : ¬ (((i : Int) < (xs.length : Int)) /\ ((i : Int) < (n : Int))) := by simpa using h1
  have hie := h1
  refine g0 fun _ => rt trivial (⟨pq, ys⟩) ⟨(by rw [hyk]; exact b2e hie hi), hyo⟩ [0, 1, 2, 3]
end Go.Proofs.YtagidoadfajpgaaGreat
