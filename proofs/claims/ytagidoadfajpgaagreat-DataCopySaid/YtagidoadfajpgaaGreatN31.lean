/-
  Xn.
-/
import Derived.Test.YtagidoadfajpgaaGreatN30
namespace Go.Proofs.YtagidoadfajpgaaGreat
set_option maxHeartbeats 4000000
open Go.Abs
variable {nO : Nat}
set_option maxRecDepth 100000
attribute [local irreducible] GP ruP ruN nxP acS gst cdP loP invS ent1 ent2 enP caA resV lgP agN
def getV (l : List (Fm × Ts)) (t : ByteArray) (id : Int) (n : ByteArray) : Va := (((l.getD (tix l t).toNat dFT).2.rows.getD ((l.getD (tix l t).toNat dFT).2.pos id).toNat dR).2.getD (cI n (l.getD (tix l t).toNat dFT).1.xa).toNat eV.d)
def valL (l : List (Fm × Ts)) : ByteArray -> Int -> List ByteArray -> Va × Bool
 | _, _, [] => (nilV, false)
 | t, id, n :: p => if p.isEmpty then (getV l t id n, true) else
  if bkB (l.getD (tix l (colD (l.map Prod.fst) t n).to).toNat dFT).1 (l.getD (tix l (colD (l.map Prod.fst) t n).to).toNat dFT).2 (getV l t id n) then
   valL l (colD (l.map Prod.fst) t n).to (bkI (l.getD (tix l (colD (l.map Prod.fst) t n).to).toNat dFT).1 (l.getD (tix l (colD (l.map Prod.fst) t n).to).toNat dFT).2 (getV l t id n)) p else (nilV, true)
def isL (l : List (Fm × Ts)) (t : ByteArray) (id : Int) : Bool := (l.getD (tix l t).toNat dFT).2.is id
def val12 (l : List (Fm × Ts)) (t : ByteArray) (id : Int) (p : List ByteArray) : Va × Bool := if (pcol (l.map Prod.fst) t p).1 = 0 /\ isL l t id = true then valL l t id p else (nilV, false)
def wE (L : List Fm) (u : ByteArray) (p : List ByteArray) : Prop := (pth L u p).1 = 0
def pE (L : List Fm) (u : ByteArray) (p : List ByteArray) : Prop := (pcol L u p).1 = 0
theorem pE_w {L : List Fm} {u : ByteArray} {p : List ByteArray} (h : pE L u p) : wE L u p /\ 0 < p.length /\ p.length <= 4 := by
 unfold pE pcol at h
 split at h
 ·cases h
 ·exact ⟨h, by omega⟩
def wOk (l : List (Fm × Ts)) (u : ByteArray) (d : Int) (p : List ByteArray) : Prop := wE (l.map Prod.fst) u p /\ ∃ j F s, l[j]? = some (F, s) /\ tix l u = ((j : Nat) : Int) /\ s.is d = true
section
variable {l : List (Fm × Ts)} {t u n : ByteArray} {id d : Int} {p : List ByteArray} {i j : Nat} {F : Fm} {s : Ts}
theorem gd_at (e : l[j]? = some (F, s)) (h : tix l t = (j : Int)) : l.getD (tix l t).toNat dFT = (F, s) := by
 rw [h, Int.toNat_natCast, List.getD_eq_getElem?_getD, e]; rfl
theorem getV_at (e : l[j]? = some (F, s)) (h : tix l t = (j : Int)) {r c : Nat} (hp : s.pos id = (r : Int)) (hc : cI n F.xa = (c : Int)) : getV l t id n = (s.rows.getD r dR).2.getD c eV.d := by
 unfold getV; rw [gd_at e h, hp, hc, Int.toNat_natCast, Int.toNat_natCast]
theorem isL_at (e : l[j]? = some (F, s)) (h : tix l t = (j : Int)) : isL l t id = s.is id := by
 unfold isL; rw [gd_at e h]
theorem valL_end (h : i + 1 = p.length) : valL l u d (p.drop i) = (getV l u d (p.getD i eS.d), true) := by
 rw [drop_at (by omega), List.drop_eq_nil_of_le (by omega)]; rfl
theorem valL_on (h : i + 1 < p.length) (e : l[j]? = some (F, s)) (k : tix l (colD (l.map Prod.fst) u (p.getD i eS.d)).to = (j : Int)) : valL l u d (p.drop i) = if bkB F s (getV l u d (p.getD i eS.d)) then valL l (colD (l.map Prod.fst) u (p.getD i eS.d)).to (bkI F s (getV l u d (p.getD i eS.d))) (p.drop (i + 1)) else (nilV, true) := by
 conv => lhs; rw [drop_at (show i < p.length by omega)]
 have h2 : (p.drop (i + 1)).isEmpty = false := by rw [drop_at (i := i + 1) (by omega)]; rfl
 conv => lhs; unfold valL
 rw [gd_at e k, if_neg (by rw [h2]; decide)]
theorem pth_some {L : List Fm} (hi : i < p.length) (h : (pth L u (p.drop i)).1 = 0) : ∃ c, colAt L u (p.getD i eS.d) = some c := by
 cases e : colAt L u (p.getD i eS.d) with
 | none => rw [pth_no hi e] at h; cases h
 | some c => exact ⟨c, rfl⟩
theorem way_at (hi : i < p.length) (h : wOk l u d (p.drop i)) : ∃ j F s r c, l[j]? = some (F, s) /\ tix l u = ((j : Nat) : Int) /\ (r < s.rows.length /\ s.pos d = ((r : Nat) : Int) /\ ((s.rows.getD r dR).1 : Int) = d) /\ cI (p.getD i eS.d) F.xa = ((c : Nat) : Int) /\ c < F.xa.length /\ colAt (l.map Prod.fst) u (p.getD i eS.d) = some (F.xa.getD c eC.d) /\ getV l u d (p.getD i eS.d) = (s.rows.getD r dR).2.getD c eV.d := by
 obtain ⟨h1, j, F, s, e, hx, his⟩ := h
 obtain ⟨r, hr⟩ := Ts.find his
 obtain ⟨k, hk⟩ := pth_some hi h1
 obtain ⟨j2, c, hj, hj2, hc, hcx, hd⟩ := col_inv hk
 have ej : j = j2 := by have : tix l u = nI u (l.map Prod.fst) := rfl; omega
 subst ej
 have hF := (fst_at e).1
 rw [hF] at hc hcx hd
 exact ⟨j, F, s, r, c, e, hx, hr, hcx, hc, hd ▸ hk, getV_at e hx hr.2.1 hcx⟩
theorem way_on (hi : i + 1 < p.length) (h : wE (l.map Prod.fst) u (p.drop i)) : wE (l.map Prod.fst) (colD (l.map Prod.fst) u (p.getD i eS.d)).to (p.drop (i + 1)) /\ ∃ j F s, l[j]? = some (F, s) /\ tix l (colD (l.map Prod.fst) u (p.getD i eS.d)).to = ((j : Nat) : Int) := by
 obtain ⟨c, hk⟩ := pth_some (by omega) h
 have hc : colD (l.map Prod.fst) u (p.getD i eS.d) = c := by unfold colD; rw [hk]; rfl
 rw [hc]
 have ht : strEq c.to ⟨#[]⟩ = false := by
  cases e : strEq c.to ⟨#[]⟩ with
  | false => rfl
  | true => unfold wE at h; rw [pth_ref hi hk e] at h; cases h
 unfold wE at h ⊢
 rw [pth_on hi hk ht] at h
 refine ⟨h, ?_⟩
 obtain ⟨c2, h2⟩ := pth_some hi h
 obtain ⟨j, _, hj, hj2, _⟩ := col_inv h2
 rw [List.length_map] at hj
 exact ⟨j, _, _, List.getElem?_eq_getElem hj, hj2⟩
theorem bk_is {v : Va} (h : bkB F s v = true) : s.is (bkI F s v) = true := by
 unfold bkI; rw [if_pos h]
 unfold bkB at h
 rw [Bool.and_eq_true] at h
 rcases idxF_cases (l := s.rows) (p := fun r => eqV (r.2.getD (kix F).toNat eV.d) v) with e | ⟨c, hc, e⟩
 ·have := of_decide_eq_true h.2; unfold kro at this; rw [e] at this; cases this
 ·have e2 : kro F s v = (c : Int) := e
  rw [e2, Int.toNat_natCast]
  exact Ts.is_iff.2 ⟨_, row_mem hc, rfl⟩
theorem FmN.key (h : FmN (l.map Prod.fst)) (e : l[j]? = some (F, s)) : strEq F.key ⟨#[]⟩ = false -> kix F ≠ -1 := fun k => by
 have := ((h.at e).1.2.2.2.2.2.2.2.2.1).resolve_left (by rw [k]; decide)
 unfold kix; intro e2
 have h3 : (0 : Int) <= idxF F.xa (fun c => strEq c.name F.key) := this
 rw [e2] at h3; cases h3
theorem v_den {a b : Va × Bool} (h : a = b) : SV.den (.t [(true, [.i a.1.k, .i a.1.n, .t a.1.s]), (false, [.v (.bool a.2)])]) = SV.den (.t [(true, [.i b.1.k, .i b.1.n, .t b.1.s]), (false, [.cb b.2])]) := by
 subst h; rfl
end
theorem dvalue_ctr {q k : Nat} {ps : List Nat} {l : List (Fm × Ts)} {j : Nat} {F : Fm} {s : Ts} {na : ByteArray} {id : Int} {qp cp : Nat} {zp : Bool} {pp : List ByteArray} {mp : Md} (e : l[j]? = some (F, s)) (hk : k < 70000) (hx : tix l na = (j : Int)) (hN : FmN (l.map Prod.fst)) (hzp : zp = true -> pp.length = 0) (hlp : pp.length < 1000000) (hcp : pp.length <= cp) : Ctr Tryz.prog nO 27 [.o (.p 1 q 0 0 0), .o (.t na), .o (.i id), .o (.s 5 qp 1 0 pp.length cp zp)] [.as (ddA q k ps l), vc eS 5 qp pp 9 mp zp] (Unit) (fun _ => True) (fun r => .t [(true, [.i ((val12 l na id pp).1.k), .i ((val12 l na id pp).1.n), .t ((val12 l na id pp).1.s)]), (false, [.cb ((val12 l na id pp).2)])]) (fun r => [.as (ddA q k ps l), vc eS 5 qp pp 9 mp zp]) := by
 refine fs 100 fun B => g0 fun q101 => gh (box_open (φ := ddP ps l) (L := ddL q k)) [1] [(2, 961), (3, 962)] 101 fun y hy => g0 fun _ => cl (@dschema_ctr _ q y.qs y.qm) [0] [(2, 961)] 101 fun _ _ => g0 fun _ => cl (@pcol_ctr _ y.qs y.qv y.xs .grown na qp cp zp pp 9 mp (by have := xs_len hy; have := hN.1; rw [List.length_map] at this; omega) hy.ok (by assumption) (by omega)) [1, 2, 3, 7] [(1, 961), (2, 962)] 101 fun _ _ => ?_
 have hyL := lst_F hy
 refine g0 (fun q106 => ?_)
 by_cases h0 : pE (l.map Prod.fst) na pp
 ·refine sv 12 (v := .o (.i ((pcol (y.xs.map fun x : Xr => x.F) na pp).1))) (v' := .o (.i ((pcol (l.map Prod.fst) na pp).1))) (by rw [hyL]) <| gh (box_shut (φ := ddP ps l) (L := ddL q k) y hy) [5, 1, 2, 3, 6, 7] [] 102 fun _ _ => sv 12 (v := .o (.i ((pcol (l.map Prod.fst) na pp).1))) (v' := .o (.i 0)) (congrArg (Value.int .i64) h0) <| goN 3 (fun _ => trivial) fun _ => sv 32 (v := .o (.cb ((0 : Int) != 0))) (v' := .o (.v (.bool false))) rfl <| g0 fun _ => cl (dtb_ctr (q := q) (k := k) (ps := ps) (l := l) (j := j) (s := na) (List.getElem?_eq_some_iff.1 e).1 hx) [0] [(7, 102)] 103 fun _ _ => ?_
  refine cl (@flive_ctr _ q k ps l j F s (by assumption)) [0] [(1, 102), (8, 103)] 104 fun ⟨ql111, cL111, lv111⟩ hlv => g0 fun _ => cl (@has_ctr _ ql111 cL111 lv111 171 .imm id (Nat.lt_of_le_of_lt (wf_short hlv.1) (by decide))) [1] [(1, 103)] 104 fun _ _ => g0 fun _ => cd (!(has lv111 id)) (fun h1 => ?_) (fun h1 => ?_)
  ·have hno : val12 l na id pp = (nilV, false) := if_neg (fun z => by have z2 := z.2; rw [isL_at e hx, <- hlv.2] at z2; rw [z2] at h1; cases h1)
   refine g0 fun _ => rtv trivial (()) trivial [1, 3] (.t [(true, [.i 0, .i 0, .t ⟨#[]⟩]), (false, [.v (.bool false)])]) (v_den hno.symm)
  ·have his : s.is id = true := by rw [<- hlv.2]; simpa using h1
   have hV : val12 l na id pp = valL l na id pp := if_pos ⟨h0, (isL_at e hx).trans his⟩
   have hpc := pE_w h0
   refine go (fun _ => (o5 (by omega : -9223372036854775808 <= (pp.length : Int) - 1) (by omega : (pp.length : Int) - 1 < 9223372036854775808) (by omega : pp.length <= cp) (by omega : (0 : Int) <= (pp.length : Int) - 1) (by omega : (pp.length : Int) - 1 <= (cp : Int)))) fun _ => sv 46 (v := .o (.s 5 qp 1 0 (((pp.length : Int) - 1).toNat) cp zp)) (v' := .o (.s 5 qp 1 0 (pp.length - 1) cp zp)) (by show Value.slice _ _ _ = Value.slice _ _ _; congr 1; omega) <| sv 47 (v := .o (.i ((((pp.length : Int) - 1).toNat : Nat) : Int))) (v' := .o (.i (((pp.length - 1) : Nat) : Int))) (congrArg (Value.int .i64) (by omega)) <| lp3 (Nat) (ByteArray) (Int) [0, 3, 8, 46, 47] (fun r => [(48, .o (.i (r.1 : Int))), (1, .o (.t r.2.1)), (2, .o (.i r.2.2))]) [0, 1, 2, 3, 4] (fun _ => []) 124 (fun r => r.1 <= pp.length - 1 /\ wOk l r.2.1 r.2.2 (pp.drop r.1) /\ valL l na id pp = valL l r.2.1 r.2.2 (pp.drop r.1)) (fun r => pp.length - r.1) (⟨0, na, id⟩) ⟨Nat.zero_le _, ⟨hpc.1, j, F, s, e, hx, his⟩, rfl⟩ [] (fun i u d hx ag117 => ?_)
   try dsimp only at hx
   obtain ⟨hi, hw, hv⟩ := hx
   refine g0 fun _ => cdD ((i : Int) < (((pp.length - 1) : Nat) : Int)) (fun h2 => ?_) (fun h2 => ?_)
   ·have hway := way_at (show i < pp.length by omega) hw
    obtain ⟨j2, F2, s2, r, c, e2, hx2, hr, hc, hcx, hcol, hgv⟩ := hway
    have hwon := way_on (show i + 1 < pp.length by omega) hw.1
    obtain ⟨hon, j3, F3, s3, e3, hx3⟩ := hwon
    refine go (fun _ => (o4 (nz i) (by omega : (i : Int) < (((pp.length - 1) : Nat) : Int)) (zf hzp (show 0 < pp.length by omega) : zp = false) (by omega : i < pp.length))) fun _ => gh (box_open (φ := ddP ps l) (L := ddL q k)) [1] [(2, 961), (3, 962)] 124 fun y2 hy2 => g0 fun _ => cl (@scolm_ctr _ y2.qs y2.qv y2.xs .grown u (pp.getD i eS.d) (by have := xs_len hy2; have := hN.1; rw [List.length_map] at this; omega) hy2.ok) [1, 2, 3] [(1, 961), (2, 962)] 124 fun _ _ => g0 (fun q122 => ?_)
    have hyL2 := lst_F hy2
    refine gh (ge_re (l := [.blk 124 (q122 124) [.t ((colD (y2.xs.map fun x : Xr => x.F) u (pp.getD i eS.d)).name), .i ((colD (y2.xs.map fun x : Xr => x.F) u (pp.getD i eS.d)).kind), .cb ((colD (y2.xs.map fun x : Xr => x.F) u (pp.getD i eS.d)).must), .t ((colD (y2.xs.map fun x : Xr => x.F) u (pp.getD i eS.d)).to)] 130 .own]) (l' := [.blk 124 (q122 124) [.t ((colD (l.map Prod.fst) u (pp.getD i eS.d)).name), .i ((colD (l.map Prod.fst) u (pp.getD i eS.d)).kind), .cb ((colD (l.map Prod.fst) u (pp.getD i eS.d)).must), .t ((colD (l.map Prod.fst) u (pp.getD i eS.d)).to)] 130 .own]) (by rw [hyL2])) [0] [] 125 fun _ _ => gh (box_shut (φ := ddP ps l) (L := ddL q k) y2 hy2) [4, 1, 2, 3, 5, 6] [] 125 fun _ _ => sv 2 (v := .o (.i d)) (v' := .o (.i (((s2.rows.getD r dR).1 : Nat) : Int))) (congrArg (Value.int .i64) hr.2.2.symm) <| g0 fun _ => cl (dtb_ctr (q := q) (k := k) (ps := ps) (l := l) (j := j2) (s := u) (List.getElem?_eq_some_iff.1 e2).1 hx2) [0] [(7, 125)] 126 fun _ _ => ?_
    refine g0 fun _ => cl (@fget_ctr _ q k ps l j2 F2 s2 r c (pp.getD i eS.d) (by assumption) (by omega) hr.1 hc hcx) [0] [(1, 125)] 126 fun _ _ => g0 fun q127 => g0 fun _ => cl (dbykey_ctr (q := q) (k := k) (ps := ps) (l := l) (j := j3) (F := F3) (s := s3) (na := (colD (l.map Prod.fst) u (pp.getD i eS.d)).to) (v := ((s2.rows.getD r dR).2.getD c eV.d)) (by assumption) (by omega) hx3 (hN.key e3)) [1] [] 127 fun _ _ => g0 fun _ => g0 fun _ => cd (!(bkB F3 s3 ((s2.rows.getD r dR).2.getD c eV.d))) (fun h3 => ?_) (fun h3 => ?_)
    ·have hE : val12 l na id pp = (nilV, true) := hV.trans (hv.trans ((valL_on (by omega) e3 hx3).trans (by rw [hgv]; exact if_neg (fun z => by rw [z] at h3; cases h3))))
     refine g0 fun _ => rtv trivial (()) trivial [0, 5] (.t [(true, [.i 0, .i 0, .t ⟨#[]⟩]), (false, [.v (.bool true)])]) (v_den hE.symm)
    ·have h3b : bkB F3 s3 ((s2.rows.getD r dR).2.getD c eV.d) = true := by simpa using h3
     refine g0 fun _ => go (fun _ => (o2 (by omega : -9223372036854775808 <= (i : Int) + 1) (by omega : (i : Int) + 1 < 9223372036854775808))) fun _ => ag117 _ _ (⟨i + 1, (colD (l.map Prod.fst) u (pp.getD i eS.d)).to, bkI F3 s3 ((s2.rows.getD r dR).2.getD c eV.d)⟩) (by simp only; omega) (by dsimp only; exact ⟨by omega, ⟨hon, j3, F3, s3, e3, hx3, bk_is h3b⟩, hv.trans ((valL_on (by omega) e3 hx3).trans (by rw [hgv, if_pos h3b]))⟩) [3, 0, 4, 5, 6] (by kernel_rfl) (by kernel_rfl)
   ·have hie : i + 1 = pp.length := by omega
    have hway := way_at (show i < pp.length by omega) hw
    obtain ⟨j2, F2, s2, r, c, e2, hx2, hr, hc, hcx, hcol, hgv⟩ := hway
    have hz : ((pp.length : Int) - 1).toNat = i := by omega
    refine sv 2 (v := .o (.i d)) (v' := .o (.i (((s2.rows.getD r dR).1 : Nat) : Int))) (congrArg (Value.int .i64) hr.2.2.symm) ?_
    have hE : val12 l na id pp = (((s2.rows.getD r dR).2.getD c eV.d), true) := hV.trans (hv.trans ((valL_end hie).trans (by rw [hgv])))
    refine g0 fun _ => cl (dtb_ctr (q := q) (k := k) (ps := ps) (l := l) (j := j2) (s := u) (List.getElem?_eq_some_iff.1 e2).1 hx2) [1] [(7, 124)] 125 fun _ _ => ?_
    refine go (fun _ => (o6 (by omega : -9223372036854775808 <= (pp.length : Int) - 1) (by omega : (pp.length : Int) - 1 < 9223372036854775808) (by omega : (0 : Int) <= (pp.length : Int) - 1) (by omega : (pp.length : Int) - 1 < (pp.length : Int)) (zf hzp (show 0 < pp.length by omega) : zp = false) (by omega : (((pp.length : Int) - 1).toNat) < pp.length))) fun _ => cl (@fget_ctr _ q k ps l j2 F2 s2 r c (pp.getD (((pp.length : Int) - 1).toNat) eS.d) (by assumption) (by omega) hr.1 (hz ▸ hc) hcx) [0] [(1, 124)] 125 fun _ _ => g0 fun _ => rtv trivial (()) trivial [0, 3] (.t [(true, [.i (((s2.rows.getD r dR).2.getD c eV.d).k), .i (((s2.rows.getD r dR).2.getD c eV.d).n), .t (((s2.rows.getD r dR).2.getD c eV.d).s)]), (false, [.v (.bool true)])]) (v_den hE.symm)
 ·refine sv 12 (v := .o (.i ((pcol (y.xs.map fun x : Xr => x.F) na pp).1))) (v' := .o (.i ((pcol (l.map Prod.fst) na pp).1))) (by rw [hyL]) <| gh (box_shut (φ := ddP ps l) (L := ddL q k) y hy) [5, 1, 2, 3, 6, 7] [] 102 fun _ _ => goN 3 (fun _ => trivial) fun _ => sv 32 (v := .o (.cb ((pcol (l.map Prod.fst) na pp).1 != 0))) (v' := .o (.v (.bool true))) (congrArg Value.bool (bne_iff_ne.2 h0)) <| g0 fun _ => cdT rfl <| g0 fun _ => rtv trivial (()) trivial [0, 2] (.t [(true, [.i 0, .i 0, .t ⟨#[]⟩]), (false, [.v (.bool false)])]) (v_den (show _ = val12 l na id pp from (if_neg (fun z => h0 z.1)).symm))
end Go.Proofs.YtagidoadfajpgaaGreat
namespace Go.Proofs.YtagidoadfajpgaaGreat
set_option maxHeartbeats 4000000
open Go.Abs
variable {nO : Nat}
set_option maxRecDepth 100000
attribute [local irreducible] GP ruP ruN nxP acS gst cdP loP invS ent1 ent2 enP caA resV lgP agN
theorem fnext_ctr {q k : Nat} {ps : List Nat} {l : List (Fm × Ts)} {j : Nat} {F : Fm} {s : Ts} (e : l[j]? = some (F, s)) : Ctr Tryz.prog nO 40 [.o (.p 1 (ps.getD j 0) 0 0 0)] [.as (ddA q k ps l)] (Unit) (fun _ => True) (fun r => .o (.i (s.next : Int))) (fun r => [.as (ddA q k ps l)]) :=
 dd_see e (wnext_ctr )
theorem frow_ctr {q k : Nat} {ps : List Nat} {l : List (Fm × Ts)} {j : Nat} {F : Fm} {s : Ts} {i : Nat} (e : l[j]? = some (F, s)) (hk : k < 70000) (hj : i < s.rows.length) : Ctr Tryz.prog nO 88 [.o (.p 1 (ps.getD j 0) 0 0 0), .o (.i (((s.rows.getD i dR).1 : Nat) : Int))] [.as (ddA q k ps l)] ((Nat)) (fun _ => True) (fun r => .t [(false, [.s 6 r 3 0 ((s.rows.getD i dR).2.length) ((s.rows.getD i dR).2.length) ((s.rows.getD i dR).2.isEmpty)]), (false, [.v (.bool true)])]) (fun r => [.as (ddA q k ps l), vc eV 6 r ((s.rows.getD i dR).2) 26 .grown ((s.rows.getD i dR).2.isEmpty)]) :=
 dd_see e (wrow_ctr (j := i) hk hj)
theorem rows_at {x : Xr} {s : Ts} {i : Nat} (h : x.s = s) : s.rows.length = x.ws.length /\ (i < x.ws.length -> s.rows.getD i dR = (x.ws.getD i eRw.d).2) := by
 subst h
 exact ⟨List.length_map .., fun _ => rw_at⟩
theorem rows12_ctr {q k : Nat} {ps : List Nat} {l : List (Fm × Ts)} {w t : Nat} {F : Fm} {s : Ts} {na : ByteArray} (e : l[t]? = some (F, s)) (hk : k < 70000) (hx : tix l na = (t : Int)) : Ctr Tryz.prog nO 32 [.o (.p 1 q 0 0 0), .o (.p 2 w 0 0 0), .o (.i (t : Int)), .o (.t na)] [.as (ddA q k ps l), .as (dbA w l)] (Unit) (fun _ => True) (fun r => .o (.v (.bool true))) (fun r => [.as (ddA q k ps l), .as (dbA w l)]) := by
 refine fs 100 fun B => gh (dd_fact (q := q) (k := k) (ps := ps) (l := l)) [0] [] 100 (fun _ hfa => ?_)
 have hok := hfa t F s e
 refine g0 fun _ => g0 fun _ => cl (dtb_ctr (q := q) (k := k) (ps := ps) (l := l) (j := t) (s := na) (List.getElem?_eq_some_iff.1 e).1 hx) [0] [(7, 100)] 101 fun _ _ => ?_
 refine g0 fun _ => gh (box_open (φ := dbP l) (L := dbL w)) [1] [(1, 2), (2, 952), (3, 953), (4, 954)] 101 (fun y hy => ?_)
 have hya := hy.at e
 have hnx := nx_at (xs := y.xs) (t := t) hya.1
 have hnl : (y.xs.map fun x : Xr => (x.n : Int)).length = y.xs.length := List.length_map ..
 have hrl := (rows_at (i := 0) hya.2.2).1
 have hwl := (hy.ok t hya.1).wl
 refine goN 3 (fun _ => trivial) fun _ => g0 fun _ => cl (@flive_ctr _ q k ps l t F s (by assumption)) [5] [(1, 100), (8, 101)] 102 fun ⟨ql107, cL107, lv107⟩ hlv => cl (@count_ctr _ ql107 cL107 lv107 171 .imm hlv.1) [1] [(1, 101)] 102 fun _ _ => goN 11 (fun _ => (o4 (nz t) (by omega : (t : Int) < (y.xs.length : Int)) (zfe (by omega) : y.xs.isEmpty = false) (by omega : t < y.xs.length))) fun _ => sv 32 (v := .o (.cb (count lv107 != (((y.xs.getD t dXr).ws.length : Nat) : Int)))) (v' := .o (.v (.bool false))) (congrArg Value.bool (bne_eq_false_iff_eq.2 (by rw [count_all hlv.1, ids_all hok hlv.1 hlv.2]; unfold idsT; rw [List.length_map, hrl]))) <| g0 fun _ => cl (@fnext_ctr _ q k ps l t F s (by assumption)) [1] [(1, 100)] 102 fun _ _ => go (fun _ => (o4 (nz t) (by omega : (t : Int) < (y.xs.length : Int)) (zfe (by omega) : y.xs.isEmpty = false) (by omega : t < (y.xs.map fun x : Xr => (x.n : Int)).length))) fun _ => cdF (b := ((s.next : Int) != ((y.xs.map fun x : Xr => (x.n : Int)).getD t eI.d))) (bne_eq_false_iff_eq.2 (by rw [hnx, <- hya.2.2]; rfl)) <| g0 fun _ => gh (big_out (I := xA) (l := y.xs) t dXr hya.1) [6] [] 102 fun _ _ => gh (ge_un (l := xL (y.xs.getD t dXr))) [0] [] 102 fun _ _ => lp ((Nat)) [1, 2, 9] (fun r => [(10, .o (.i (r : Int)))]) [0, 1, 2, 3, 4, 5, 6, 7, 8, 9, 10, 11] (fun _ => []) 122 (fun r => r <= (y.xs.getD t dXr).ws.length) (fun r => (y.xs.getD t dXr).ws.length - r) (0) (Nat.zero_le _) [] fun i hx ag115 => go (fun _ => (o4 (nz t) (by omega : (t : Int) < (y.xs.length : Int)) (zfe (by omega) : y.xs.isEmpty = false) (by omega : t < y.xs.length))) fun _ => cdD ((i : Int) < (((y.xs.getD t dXr).ws.length : Nat) : Int)) (fun h2 => ?_) (fun h2 => ?_)
 ·have hrw := rows_at (i := i) hya.2.2
  have he : (s.rows.getD i dR).2 = ((y.xs.getD t dXr).ws.getD i eRw.d).2.2 := congrArg Prod.snd (hrw.2 (by omega))
  have hr9 := (hy.ok t hya.1).rl _ (getD_mem (d := eRw.d) (show i < (y.xs.getD t dXr).ws.length by omega))
  rw [hya.2.1] at hr9
  have hx9 := hok.fm.xl
  have hz3 : ((y.xs.getD t dXr).ws.getD i eRw.d).2.2.length < 1000000 := by omega
  refine go (fun _ => (oc (nz t) (by omega : (t : Int) < (y.xs.length : Int)) (zfe (by omega) : y.xs.isEmpty = false) (by omega : t < y.xs.length) (nz i) (by omega : (i : Int) < (((y.xs.getD t dXr).ws.length : Nat) : Int)) (o2 (zfe (show 0 < (y.xs.getD t dXr).ws.length by omega) : (y.xs.getD t dXr).ws.isEmpty = false) (by omega : i < ((y.xs.getD t dXr).ws).length)))) fun _ => sv 68 (v := .o (.i ((((y.xs.getD t dXr).ws).getD i eRw.d).2.1 : Int))) (v' := .o (.i (((s.rows.getD i dR).1 : Nat) : Int))) (congrArg (fun z : Rw => Value.int .i64 (z.1 : Int)) (hrw.2 (by omega)).symm) <| cl (@frow_ctr _ q k ps l t F s i (by assumption) (by omega) (by omega)) [6] [(1, 100), (6, 122)] 123 fun q2118 _ => g0 fun _ => gh (big_out (I := valA) (l := (y.xs.getD t dXr).ws) i eRw.d (by omega)) [6] [] 123 fun _ _ => gh (ge_op (c := vc eV 921 (((y.xs.getD t dXr).ws.getD i eRw.d).1) (((y.xs.getD t dXr).ws.getD i eRw.d).2.2) 26 .grown (((y.xs.getD t dXr).ws.getD i eRw.d).2.2.isEmpty)) (I := valA ((y.xs.getD t dXr).ws.getD i eRw.d))) [0] [] 123 fun _ _ => goN 3 (fun _ => trivial) fun _ => sv 74 (v := .o (.v (.bool false))) (v' := .o (.v (.bool false))) rfl <| go (fun _ => (oc (nz t) (by omega : (t : Int) < (y.xs.length : Int)) (zfe (by omega) : y.xs.isEmpty = false) (by omega : t < y.xs.length) (nz i) (by omega : (i : Int) < (((y.xs.getD t dXr).ws.length : Nat) : Int)) (o2 (zfe (show 0 < (y.xs.getD t dXr).ws.length by omega) : (y.xs.getD t dXr).ws.isEmpty = false) (by omega : i < ((y.xs.getD t dXr).ws).length)))) fun _ => cl (@rrow_ctr _ q2118 ((s.rows.getD i dR).2.length) ((s.rows.getD i dR).2.isEmpty) ((s.rows.getD i dR).2) 26 .grown ((((y.xs.getD t dXr).ws).getD i eRw.d).1) ((((y.xs.getD t dXr).ws).getD i eRw.d).2.2.length) ((((y.xs.getD t dXr).ws).getD i eRw.d).2.2.isEmpty) ((((y.xs.getD t dXr).ws).getD i eRw.d).2.2) 26 .grown (fun h => by simpa using h) (by rw [he]; exact hz3) (fun h => by simpa using h) hz3) [3, 0] [(1, 122), (2, 921)] 123 fun _ _ => g0 fun _ => cdF (b := (rowV ((s.rows.getD i dR).2) ((((y.xs.getD t dXr).ws).getD i eRw.d).2.2) != 0)) (bne_eq_false_iff_eq.2 (by rw [he]; exact rowV_self _)) <| gh (ge_sh (c := vc eV 921 ((((y.xs.getD t dXr).ws).getD i eRw.d).1) ((((y.xs.getD t dXr).ws).getD i eRw.d).2.2) 26 .grown ((((y.xs.getD t dXr).ws).getD i eRw.d).2.2.isEmpty)) (I := valA ((y.xs.getD t dXr).ws.getD i eRw.d))) [1] [] 123 fun _ _ => gh (big_bk (I := valA) (l := (y.xs.getD t dXr).ws) i eRw.d (by omega)) [0, 2] [] 123 fun _ _ => go (fun _ => (o2 (by omega : -9223372036854775808 <= (i : Int) + 1) (by omega : (i : Int) + 1 < 9223372036854775808))) fun _ => ag115 _ _ (i + 1) (by first | omega | (simp only; omega)) (by omega) [3, 4, 5, 6, 0, 7, 2, 8, 9, 10, 11, 12] (by kernel_rfl) (by kernel_rfl)
 ·refine gh (ge_all (l := xL (y.xs.getD t dXr))) [0, 1, 2, 3, 4] [] 122 fun _ _ => gh (big_bk (I := xA) (l := y.xs) t dXr hya.1) [0, 1] [] 122 fun _ _ => gh (box_shut (φ := dbP l) (L := dbL w) y hy) [3, 4, 5, 6, 0] [] 122 fun _ _ => g0 fun _ => rt trivial (()) trivial [1, 0]
end Go.Proofs.YtagidoadfajpgaaGreat
namespace Go.Proofs.YtagidoadfajpgaaGreat
set_option maxHeartbeats 4000000
open Go.Abs
variable {nO : Nat}
set_option maxRecDepth 100000
attribute [local irreducible] GP ruP ruN nxP acS gst cdP loP invS ent1 ent2 enP caA resV lgP agN
set_option synthInstance.maxHeartbeats 1000000 in
set_option synthInstance.maxSize 5000 in
theorem star_ms : ∀ i, i < 4 -> FmD (starF.take i) (starF.getD i dFm) /\ nI (starF.getD i dFm).name starF = (i : Int) := by decide +kernel
theorem star_id : ∀ i, i < 4 -> mustF (starF.getD i dFm) = starF.getD i dFm
 | 0, _ => by kernel_rfl
 | 1, _ => by kernel_rfl
 | 2, _ => by kernel_rfl
 | 3, _ => by kernel_rfl
theorem star_N : FmN starF := ⟨by decide, fun i hi => ⟨(star_ms i hi).1, star_id i hi, (star_ms i hi).2⟩⟩
def landF : Fm := starF.getD 0 dFm
def shopF2 : Fm := starF.getD 1 dFm
def oneV : Va := ⟨1, 1, ⟨#[]⟩⟩
def hereV : List Va := [oneV, ⟨2, 0, ⟨#[104, 101, 114, 101]⟩⟩]
def shopV : List Va := [oneV, ⟨2, 0, ⟨#[120]⟩⟩, nilV, oneV]
def lA : List (Fm × Ts) := (sL 4).set 0 (landF, ⟨[(0, hereV)], 1⟩)
def lB : List (Fm × Ts) := lA.set 1 (shopF2, ⟨[(0, shopV)], 1⟩)
def okB2 (F : Fm) (vs : List Va) : Bool := vs.length == F.xa.length && (List.range vs.length).all fun i => colOk F.xa i (vs.getD i eV.d)
theorem okB_ok {F : Fm} {vs : List Va} (h : okB2 F vs = true) : okV F vs := by
 unfold okB2 at h
 rw [Bool.and_eq_true, List.all_eq_true] at h
 exact ⟨by simpa using h.1, fun i hi => h.2 i (List.mem_range.2 hi)⟩
theorem lA_eq : (sL 4).set 0 (landF, insS landF ⟨[], 0⟩ hereV) = lA := by
 rw [(ins_yes (s := ⟨[], 0⟩) (okB_ok (F := landF) (vs := hereV) (by decide +kernel))).1]; rfl
theorem lB_eq : lA.set 1 (shopF2, insS shopF2 ⟨[], 0⟩ shopV) = lB := by
 rw [(ins_yes (s := ⟨[], 0⟩) (okB_ok (F := shopF2) (vs := shopV) (by decide +kernel))).1]; rfl
theorem lB_i : insI shopF2 ⟨[], 0⟩ shopV = 0 /\ insE shopF2 shopV = 0 := (ins_yes (s := ⟨[], 0⟩) (okB_ok (F := shopF2) (vs := shopV) (by decide +kernel))).2
theorem lB_N : FmN (lB.map Prod.fst) := star_N
theorem lB_b : bnd lB 1 := by
 intro j F s e
 match j with
 | 0 => cases e; decide
 | 1 => cases e; decide
 | 2 => cases e; decide
 | 3 => cases e; decide
 | j + 4 => exact absurd e (by rw [List.getElem?_eq_none (by show 4 <= j + 4; omega)]; intro h; cases h)
theorem szD {vs : List Va} (h : (vs.all fun v => decide (v.s.size < 1000000000)) = true) : ∀ i, i < vs.length -> (vs.getD i eV.d).s.size < 1000000000 := fun i hi => by
 rw [getD_at hi]
 exact of_decide_eq_true (List.all_eq_true.1 h _ (List.getElem_mem hi))
theorem fins2_ctr {q k : Nat} {ps : List Nat} {l : List (Fm × Ts)} {j : Nat} {F : Fm} {s : Ts} {a b : Va} {qv : Nat} (e : l[j]? = some (F, s)) (hk : k < 70000) (hn : s.next < 65536) (hsz : ∀ i, i < [a, b].length -> ([a, b].getD i eV.d).s.size < 1000000000) : Ctr Tryz.prog nO 60 [.o (.p 1 (ps.getD j 0) 0 0 0), .o (.s 6 qv 3 0 2 2 false)] [.as (ddA q k ps l), .blk 6 qv [.i a.k, .i a.n, .t a.s, .i b.k, .i b.n, .t b.s] 26 .own] (Unit) (fun _ => True) (fun r => .t [(false, [.i (insI F s [a, b])]), (false, [.i (insE F [a, b])])]) (fun r => [.as (ddA q (k + 2) ps (l.set j (F, (insS F s [a, b])))), vc eV 6 qv [a, b] 26 .own false]) :=
 ctr_gh (ge_cons _ (blk_vec (g := 6) (q := qv) (cs := [.i a.k, .i a.n, .t a.s, .i b.k, .i b.n, .t b.s]) (t := 26) (m := .own) eV [a, b])) (fun _ _ => fins_ctr (vs := [a, b]) e hk (fun h => nomatch h) (show 2 < 1000000 by decide) hn hsz)
theorem fins4_ctr {q k : Nat} {ps : List Nat} {l : List (Fm × Ts)} {j : Nat} {F : Fm} {s : Ts} {a b c d : Va} {qv : Nat} (e : l[j]? = some (F, s)) (hk : k < 70000) (hn : s.next < 65536) (hsz : ∀ i, i < [a, b, c, d].length -> ([a, b, c, d].getD i eV.d).s.size < 1000000000) : Ctr Tryz.prog nO 60 [.o (.p 1 (ps.getD j 0) 0 0 0), .o (.s 6 qv 3 0 4 4 false)] [.as (ddA q k ps l), .blk 6 qv [.i a.k, .i a.n, .t a.s, .i b.k, .i b.n, .t b.s, .i c.k, .i c.n, .t c.s, .i d.k, .i d.n, .t d.s] 26 .own] (Unit) (fun _ => True) (fun r => .t [(false, [.i (insI F s [a, b, c, d])]), (false, [.i (insE F [a, b, c, d])])]) (fun r => [.as (ddA q (k + 2) ps (l.set j (F, (insS F s [a, b, c, d])))), vc eV 6 qv [a, b, c, d] 26 .own false]) :=
 ctr_gh (ge_cons _ (blk_vec (g := 6) (q := qv) (cs := [.i a.k, .i a.n, .t a.s, .i b.k, .i b.n, .t b.s, .i c.k, .i c.n, .t c.s, .i d.k, .i d.n, .t d.s]) (t := 26) (m := .own) eV [a, b, c, d])) (fun _ _ => fins_ctr (vs := [a, b, c, d]) e hk (fun h => nomatch h) (show 4 < 1000000 by decide) hn hsz)
theorem Begun11_ctr   : Ctr Tryz.prog nO 61 [] [] (Unit) (fun _ => True) (fun r => .o (.v (.bool true))) (fun r => []) := by
 refine fs 100 fun B => g0 fun _ => cl (begun_ctr ) [] [] 100 fun _ _ => g0 fun _ => rt trivial (()) trivial []
theorem begun12_ctr   : Ctr Tryz.prog nO 18 [] [] (Unit) (fun _ => True) (fun r => .o (.v (.bool true))) (fun r => []) := by
 refine fs 100 fun B => g0 fun _ => cl (star12_ctr ) [] [(1, 100), (2, 101)] 102 fun ⟨q103, w103, ps103⟩ hpl => g0 fun _ => g0 fun _ => cl (dtb_ctr (q := q103) (k := 0) (ps := ps103) (l := (sL 4)) (j := 0) (s := ⟨#[108, 97, 110, 100]⟩) (by decide) (by decide +kernel)) [0] [(1, 100), (7, 102)] 103 fun _ _ => g0 fun _ => cl (dtb_ctr (q := q103) (k := 0) (ps := ps103) (l := (sL 4)) (j := 1) (s := ⟨#[115, 104, 111, 112]⟩) (by decide) (by decide +kernel)) [0] [(1, 100), (7, 103)] 104 fun _ _ => g0 fun _ => cl (dtbN_ctr (q := q103) (k := 0) (ps := ps103) (l := (sL 4)) (s := ⟨#[120]⟩) (by decide +kernel)) [0] [(1, 100)] 104 fun _ _ => goN 3 (fun _ => trivial) fun _ => gh (box_open (φ := ddP ps103 (sL 4)) (L := ddL q103 0)) [0] [(1, 100), (2, 961), (3, 962)] 104 fun y hy => g0 fun _ => cl (@dschema_ctr _ q103 y.qs y.qm) [0] [(1, 100), (2, 961)] 104 fun _ _ => g0 fun _ => cdF rfl <| gh (box_shut (φ := ddP ps103 (sL 4)) (L := ddL q103 0) y hy) [0, 1, 2, 3, 4, 5] [] 104 fun _ _ => g0 fun q115 => g0 fun _ => cl (dtb_ctr (q := q103) (k := 0) (ps := ps103) (l := (sL 4)) (j := 0) (s := ⟨#[108, 97, 110, 100]⟩) (by decide) (by decide +kernel)) [1] [(1, 100), (7, 105)] 106 fun _ _ => g0 fun q118 => cl (fins2_ctr (q := q103) (k := 0) (ps := ps103) (l := (sL 4)) (j := 0) (F := landF) (s := ⟨[], 0⟩) (a := oneV) (b := ⟨2, 0, ⟨#[104, 101, 114, 101]⟩⟩) (qv := (q118 106)) (by kernel_rfl) (by decide) (by decide) (szD (by decide +kernel))) [1, 0] [(1, 105), (6, 106)] 107 fun _ _ => gh (ge_re (l := [.as (ddA q103 (0 + 2) ps103 ((sL 4).set 0 (landF, (insS landF ⟨[], 0⟩ [oneV, ⟨2, 0, ⟨#[104, 101, 114, 101]⟩⟩]))))]) (l' := [.as (ddA q103 2 ps103 lA)]) (congrArg (fun z => [Ch.den (.as (ddA q103 2 ps103 z))]) lA_eq)) [0] [] 107 fun _ _ => g0 fun _ => cl (dtb_ctr (q := q103) (k := 2) (ps := ps103) (l := lA) (j := 1) (s := ⟨#[115, 104, 111, 112]⟩) (by decide) (by decide +kernel)) [0] [(1, 100), (7, 107)] 108 fun _ _ => g0 fun q122 => cl (fins4_ctr (q := q103) (k := 2) (ps := ps103) (l := lA) (j := 1) (F := shopF2) (s := ⟨[], 0⟩) (a := oneV) (b := ⟨2, 0, ⟨#[120]⟩⟩) (c := nilV) (d := oneV) (qv := (q122 108)) (by kernel_rfl) (by decide) (by decide) (szD (by decide +kernel))) [1, 0] [(1, 107), (6, 108)] 109 fun _ _ => gh (ge_re (l := [.as (ddA q103 (2 + 2) ps103 (lA.set 1 (shopF2, (insS shopF2 ⟨[], 0⟩ [oneV, ⟨2, 0, ⟨#[120]⟩⟩, nilV, oneV]))))]) (l' := [.as (ddA q103 4 ps103 lB)]) (congrArg (fun z => [Ch.den (.as (ddA q103 4 ps103 z))]) lB_eq)) [0] [] 109 fun _ _ => g0 fun _ => sv 4 (v := .o (.i (insI shopF2 ⟨[], 0⟩ [oneV, ⟨2, 0, ⟨#[120]⟩⟩, nilV, oneV]))) (v' := .o (.i 0)) (congrArg (Value.int .i64) lB_i.1) <| sv 5 (v := .o (.i (insE shopF2 [oneV, ⟨2, 0, ⟨#[120]⟩⟩, nilV, oneV]))) (v' := .o (.i 0)) (congrArg (Value.int .i64) lB_i.2) <| g0 fun q125 => gh (blk_vec (g := 109) (q := (q125 109)) (cs := [.t ⟨#[108, 97, 110, 100]⟩, .t ⟨#[110, 97, 109, 101]⟩]) (t := 9) (m := .own) eS [⟨#[108, 97, 110, 100]⟩, ⟨#[110, 97, 109, 101]⟩]) [0] [] 110 fun _ _ => cl (dvalue_ctr (q := q103) (k := 4) (ps := ps103) (l := lB) (j := 1) (F := shopF2) (s := ⟨[(0, shopV)], 1⟩) (na := ⟨#[115, 104, 111, 112]⟩) (id := 0) (qp := (q125 109)) (cp := 2) (zp := false) (pp := [⟨#[108, 97, 110, 100]⟩, ⟨#[110, 97, 109, 101]⟩]) (mp := .own) (by kernel_rfl) (by decide) (by decide +kernel) lB_N (fun h => nomatch h) (by decide) (Nat.le_refl _)) [1, 0] [(1, 100), (5, 109)] 110 fun _ _ => g0 fun q127 => g0 fun q128 => gh (blk_vec (g := 111) (q := (q128 111)) (cs := [.t ⟨#[122, 111, 110, 101]⟩]) (t := 9) (m := .own) eS [⟨#[122, 111, 110, 101]⟩]) [0] [] 112 fun _ _ => cl (dvalue_ctr (q := q103) (k := 4) (ps := ps103) (l := lB) (j := 1) (F := shopF2) (s := ⟨[(0, shopV)], 1⟩) (na := ⟨#[115, 104, 111, 112]⟩) (id := 0) (qp := (q128 111)) (cp := 1) (zp := false) (pp := [⟨#[122, 111, 110, 101]⟩]) (mp := .own) (by kernel_rfl) (by decide) (by decide +kernel) lB_N (fun h => nomatch h) (by decide) (Nat.le_refl _)) [2, 0] [(1, 100), (5, 111)] 112 fun _ _ => g0 fun q130 => g0 fun q131 => gh (blk_vec (g := 113) (q := (q131 113)) (cs := [.t ⟨#[122, 111, 110, 101]⟩]) (t := 9) (m := .own) eS [⟨#[122, 111, 110, 101]⟩]) [0] [] 114 fun _ _ => cl (dvalue_ctr (q := q103) (k := 4) (ps := ps103) (l := lB) (j := 1) (F := shopF2) (s := ⟨[(0, shopV)], 1⟩) (na := ⟨#[115, 104, 111, 112]⟩) (id := 9) (qp := (q131 113)) (cp := 1) (zp := false) (pp := [⟨#[122, 111, 110, 101]⟩]) (mp := .own) (by kernel_rfl) (by decide) (by decide +kernel) lB_N (fun h => nomatch h) (by decide) (Nat.le_refl _)) [2, 0] [(1, 100), (5, 113)] 114 fun _ _ => g0 fun q133 => g0 fun _ => cl (dbykey_ctr (q := q103) (k := 4) (ps := ps103) (l := lB) (j := 0) (F := landF) (s := ⟨[(0, hereV)], 1⟩) (na := ⟨#[108, 97, 110, 100]⟩) (v := (⟨1, 1, ⟨#[]⟩⟩ : Va)) (by kernel_rfl) (by decide) (by decide +kernel) (lB_N.key (by kernel_rfl : lB[0]? = some (landF, ⟨[(0, hereV)], 1⟩)))) [1] [(1, 100)] 115 fun _ _ => g0 fun _ => cl (Begun11_ctr ) [] [] 115 fun _ _ => goN 1 (fun _ => trivial) fun _ => goN 4 (fun _ => trivial) fun _ => sv 89 (v := .o (.cb ((0 : Int) == 0))) (v' := .o (.v (.bool true))) (congrArg Value.bool (by decide +kernel)) <| goN 3 (fun _ => trivial) fun _ => sv 92 (v := .o (.cb ((val12 lB ⟨#[115, 104, 111, 112]⟩ 0 [⟨#[108, 97, 110, 100]⟩, ⟨#[110, 97, 109, 101]⟩]).2))) (v' := .o (.v (.bool true))) (congrArg Value.bool (by decide +kernel)) <| goN 5 (fun _ => trivial) fun _ => sv 97 (v := .o (.cb (strEq ((val12 lB ⟨#[115, 104, 111, 112]⟩ 0 [⟨#[108, 97, 110, 100]⟩, ⟨#[110, 97, 109, 101]⟩]).1.s) ⟨#[104, 101, 114, 101]⟩))) (v' := .o (.v (.bool true))) (congrArg Value.bool (by decide +kernel)) <| goN 3 (fun _ => trivial) fun _ => sv 100 (v := .o (.cb ((val12 lB ⟨#[115, 104, 111, 112]⟩ 0 [⟨#[122, 111, 110, 101]⟩]).2))) (v' := .o (.v (.bool true))) (congrArg Value.bool (by decide +kernel)) <| goN 5 (fun _ => trivial) fun _ => sv 105 (v := .o (.cb ((val12 lB ⟨#[115, 104, 111, 112]⟩ 0 [⟨#[122, 111, 110, 101]⟩]).1.k == 0))) (v' := .o (.v (.bool true))) (congrArg Value.bool (by decide +kernel)) <| goN 4 (fun _ => trivial) fun _ => sv 109 (v := .o (.cb (!((val12 lB ⟨#[115, 104, 111, 112]⟩ 9 [⟨#[122, 111, 110, 101]⟩]).2)))) (v' := .o (.v (.bool true))) (congrArg Value.bool (by decide +kernel)) <| goN 4 (fun _ => trivial) fun _ => sv 113 (v := .o (.cb ((bkI landF ⟨[(0, hereV)], 1⟩ (⟨1, 1, ⟨#[]⟩⟩ : Va)) == 0))) (v' := .o (.v (.bool true))) (congrArg Value.bool (by decide +kernel)) <| goN 3 (fun _ => trivial) fun _ => sv 116 (v := .o (.cb (bkB landF ⟨[(0, hereV)], 1⟩ (⟨1, 1, ⟨#[]⟩⟩ : Va)))) (v' := .o (.v (.bool true))) (congrArg Value.bool (by decide +kernel)) <| g0 fun _ => cl (dcopyP_ctr (q := q103) (k := 4) (ps := ps103) (l := lB) (n := 1) (by decide) lB_b (by decide) lB_N) [0] [(1, 100), (11, 115)] 116 fun ⟨q2149, ps2149⟩ h149 => g0 fun _ => rt trivial (()) trivial []
end Go.Proofs.YtagidoadfajpgaaGreat
namespace Go.Proofs.YtagidoadfajpgaaGreat
set_option maxHeartbeats 4000000
open Go.Abs
variable {nO : Nat}
set_option maxRecDepth 100000
attribute [local irreducible] GP ruP ruN nxP acS gst cdP loP invS ent1 ent2 enP caA resV lgP agN
theorem sL_b {n : Nat} : bnd (sL 4) n := by
 intro j F s e
 match j with
 | 0 => cases e; exact ⟨Nat.zero_le _, Nat.zero_le _⟩
 | 1 => cases e; exact ⟨Nat.zero_le _, Nat.zero_le _⟩
 | 2 => cases e; exact ⟨Nat.zero_le _, Nat.zero_le _⟩
 | 3 => cases e; exact ⟨Nat.zero_le _, Nat.zero_le _⟩
 | j + 4 => exact absurd e (by rw [List.getElem?_eq_none (by show 4 <= j + 4; omega)]; intro h; cases h)
theorem ex_eq {α : Type} (a : α) : ∃ b, a = b := ⟨a, rfl⟩
theorem ops_len {xs ys : List Oq} {n : Nat} (h : okeys ys = opsN (okeys xs) n) : ys.length <= n := by
 have e := congrArg List.length h
 unfold okeys opsN at e
 rw [List.length_map, List.length_map, List.length_take] at e
 omega
structure stP (u : List (Fm × Ts)) (n : Nat) : Prop where
 fs : u.map Prod.fst = starF
 b : bnd u n
theorem stP.N {u : List (Fm × Ts)} {n : Nat} (h : stP u n) : FmN (u.map Prod.fst) := by rw [h.fs]; exact star_N
theorem stP.l {u : List (Fm × Ts)} {n : Nat} (h : stP u n) : u.length = 4 := by have := congrArg List.length h.fs; rw [List.length_map] at this; exact this
theorem st0 {n : Nat} : stP (sL 4) n := ⟨sL_F, sL_b⟩
theorem stP.fill {u : List (Fm × Ts)} {n m : Nat} {xs : List Oq} (h : stP u n) (hm : n + xs.length <= m) : stP (fillL u (okeys xs)) m := ⟨fill_fst.trans h.fs, fun j F s e => by
 have := bnd_fill h.b (ops := okeys xs) j F s e
 unfold okeys at this; rw [List.length_map] at this; omega⟩
theorem stP.mo {u : List (Fm × Ts)} {n m : Nat} (h : stP u n) (hm : n <= m) : stP u m := ⟨h.fs, fun j F s e => by have := h.b j F s e; omega⟩
theorem ex_at {u : List (Fm × Ts)} {i : Nat} (h : i < u.length) : ∃ F s, u[i]? = some (F, s) := ⟨_, _, List.getElem?_eq_getElem h⟩
theorem st_at {u v : List (Fm × Ts)} {n m i : Nat} {F : Fm} {s : Ts} (h : stP u n) (k : stP v m) (e : u[i]? = some (F, s)) : ∃ t, v[i]? = some (F, t) := by
 obtain ⟨h1, h2⟩ := fst_at e
 have h3 : i < (v.map Prod.fst).length := by rw [k.fs, <- h.fs]; exact h2
 have h4 : (v.map Prod.fst).getD i dFm = F := by rw [k.fs, <- h.fs]; exact h1
 rw [List.length_map] at h3
 refine ⟨(v[i]'h3).2, ?_⟩
 rw [List.getElem?_eq_getElem h3]
 rw [getD_at (by rw [List.length_map]; exact h3), List.getElem_map] at h4
 rw [<- h4]
theorem dataCopy_law {qa ca : Nat} {za : Bool} {xsa : List Oq} {ta : TypeId} {ma : Md} {qb cb : Nat} {zb : Bool} {xsb : List Oq} {tb : TypeId} {mb : Md} (hza : za = true -> xsa.length = 0) (hxoa : ∀ i, i < xsa.length -> oP (xsa.getD i dOq)) (hzb : zb = true -> xsb.length = 0) (hxob : ∀ i, i < xsb.length -> oP (xsb.getD i dOq)) : Ctr Tryz.prog nO 5 [.o (.s 1 qa 5 0 xsa.length ca za), .o (.s 2 qb 5 0 xsb.length cb zb)] [vc eOq 1 qa xsa ta ma za, .as (bigA oqA xsa), vc eOq 2 qb xsb tb mb zb, .as (bigA oqA xsb)] (Unit) (fun _ => True) (fun r => .o (.v (.bool true))) (fun r => [vc eOq 1 qa xsa ta ma za, .as (bigA oqA xsa), vc eOq 2 qb xsb tb mb zb, .as (bigA oqA xsb)]) := by
 refine fs 100 fun B => g0 fun _ => cl (begun12_ctr ) [] [] 100 fun _ _ => g0 fun _ => g0 fun _ => cdF rfl <| cl (star12_ctr ) [] [(1, 100), (2, 101)] 102 fun ⟨q107, w107, ps107⟩ hpl => g0 fun _ => g0 fun _ => cl (@ops12_ctr _ qa ca za xsa ta ma 20 hza (by decide) hxoa) [2, 3] [(2, 102)] 103 (fun ⟨q2110, ys110⟩ h110 => ?_)
 try dsimp only at h110
 obtain ⟨hka, hoa⟩ := h110
 refine cl (fill12_ctr (q := q107) (k := 0) (ps := ps107) (l := (sL 4)) (w := w107) (n := 0) (qo := q2110) (co := ys110.length) (zo := ys110.isEmpty) (xs := ys110) (to := 84) (mo := .grown) (fun h => by simpa using h) sL_b (by have := ops_len hka; omega) (by have := ops_len hka; omega) hoa) [4, 5, 0, 1] [(1, 100), (2, 101), (3, 102)] 103 fun _ _ => ?_
 have hla := ops_len hka
 have xu := ex_eq (fillL (sL 4) (okeys ys110))
 obtain ⟨u, eu⟩ := xu
 refine gh (dd_mono (q := q107) (k := (0 + 2 * ys110.length)) (k' := 40) (ps := ps107) (l := (fillL (sL 4) (okeys ys110))) (E := []) (by omega)) [0] [] 103 fun _ _ => gh (ge_re (l := [.as (ddA q107 40 ps107 (fillL (sL 4) (okeys ys110)))]) (l' := [.as (ddA q107 40 ps107 u)]) (congrArg (fun z => [Ch.den (.as (ddA q107 40 ps107 z))]) eu)) [0] [] 103 fun _ _ => gh (ge_re (l := [.as (dbA w107 (fillL (sL 4) (okeys ys110)))]) (l' := [.as (dbA w107 u)]) (congrArg (fun z => [Ch.den (.as (dbA w107 z))]) eu)) [1] [] 103 fun _ _ => ?_
 have hu : stP u 20 := eu ▸ (st0.fill (n := 0) (by omega))
 refine g0 fun _ => cl (dcopyP_ctr (q := q107) (k := 40) (ps := ps107) (l := u) (n := 20) (by decide) hu.b (by decide) hu.N) [1] [(1, 100), (11, 103)] 104 fun ⟨q2114, ps2114⟩ h114 => g0 fun _ => cl (dcopy_ctr (q := w107) (l := u)) [2] [(1, 101), (11, 104)] 105 fun r116 _ => g0 fun _ => g0 fun _ => cl (@ops12_ctr _ qb cb zb xsb tb mb 20 hzb (by decide) hxob) [8, 9] [(1, 2), (2, 105)] 106 (fun ⟨q2119, ys119⟩ h119 => ?_)
 try dsimp only at h119
 obtain ⟨hkb, hob⟩ := h119
 refine cl (fill12_ctr (q := q2114) (k := 40) (ps := ps2114) (l := u) (w := r116) (n := 20) (qo := q2119) (co := ys119.length) (zo := ys119.isEmpty) (xs := ys119) (to := 84) (mo := .grown) (fun h => by simpa using h) hu.b (by have := ops_len hkb; omega) (by have := ops_len hkb; omega) hob) [6, 4, 0, 1] [(1, 103), (2, 104), (3, 105)] 106 fun _ _ => ?_
 have hlb := ops_len hkb
 have xv := ex_eq (fillL u (okeys ys119))
 obtain ⟨v, ev⟩ := xv
 refine gh (dd_mono (q := q2114) (k := (40 + 2 * ys119.length)) (k' := 80) (ps := ps2114) (l := (fillL u (okeys ys119))) (E := []) (by omega)) [0] [] 106 fun _ _ => gh (ge_re (l := [.as (ddA q2114 80 ps2114 (fillL u (okeys ys119)))]) (l' := [.as (ddA q2114 80 ps2114 v)]) (congrArg (fun z => [Ch.den (.as (ddA q2114 80 ps2114 z))]) ev)) [0] [] 106 fun _ _ => gh (ge_re (l := [.as (dbA r116 (fillL u (okeys ys119)))]) (l' := [.as (dbA r116 v)]) (congrArg (fun z => [Ch.den (.as (dbA r116 z))]) ev)) [1] [] 106 fun _ _ => ?_
 have hv : stP v 40 := ev ▸ (hu.fill (by omega))
 refine g0 fun _ => lp ((Nat)) [6, 7, 8, 9] (fun r => [(10, .o (.i (r : Int)))]) [0, 1, 2, 3, 4, 5, 6, 7, 8, 9, 10, 11] (fun _ => []) 126 (fun r => r <= u.length) (fun r => u.length - r) (0) (Nat.zero_le _) [] (fun i hx ag123 => ?_)
 have hul := hu.l
 refine gh (box_open (φ := dbP u) (L := dbL w107)) [6] [(1, 101), (2, 952), (3, 953), (4, 954)] 126 (fun y hy => ?_)
 have hyl : y.xs.length = u.length := by have := congrArg List.length hy.ls; rwa [List.length_map] at this
 refine g0 fun _ => cdD ((i : Int) < (y.xs.length : Int)) (fun h2 => ?_) (fun h2 => ?_)
 ·have xe := ex_at (show i < u.length by omega)
  obtain ⟨F, s, e⟩ := xe
  have xe2 := st_at hu hv e
  obtain ⟨s2, e2⟩ := xe2
  have hya := hy.at e
  have hxu := (hu.N.at e).2.2
  have hxv := (hv.N.at e2).2.2
  refine go (fun _ => (o4 (nz i) (by omega : (i : Int) < (y.xs.length : Int)) (zfe (by omega) : y.xs.isEmpty = false) (by omega : i < y.xs.length))) fun _ => sv 11 (v := .o (.t ((y.xs.getD i dXr).F.name))) (v' := .o (.t F.name)) (congrArg (fun z : Fm => Value.string z.name) hya.2.1) <| gh (box_shut (φ := dbP u) (L := dbL w107) y hy) [0, 1, 2, 3, 4] [] 126 fun _ _ => g0 fun _ => cl (@rows12_ctr _ q107 40 ps107 u w107 i F s F.name e (by decide) hxu) [7, 0] [(1, 100), (2, 101)] 126 fun _ _ => g0 fun _ => cl (@rows12_ctr _ q2114 80 ps2114 v r116 i F s2 F.name e2 (by decide) hxv) [3, 2] [(1, 103), (2, 104)] 126 fun _ _ => g0 fun _ => cdF rfl <| go (fun _ => (o2 (by omega : -9223372036854775808 <= (i : Int) + 1) (by omega : (i : Int) + 1 < 9223372036854775808))) fun _ => ag123 _ _ (i + 1) (by first | omega | (simp only; omega)) (by omega) [1, 0, 4, 5, 6, 7, 3, 2, 8, 9, 10, 11] (by kernel_rfl) (by kernel_rfl)
 ·refine gh (box_shut (φ := dbP u) (L := dbL w107) y hy) [0, 1, 2, 3, 4] [] 126 fun _ _ => g0 fun _ => rt trivial (()) trivial [10, 11, 5, 6]
end Go.Proofs.YtagidoadfajpgaaGreat
