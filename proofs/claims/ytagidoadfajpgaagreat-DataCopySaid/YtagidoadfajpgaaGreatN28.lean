/-
  Uq.
-/
import Derived.Test.YtagidoadfajpgaaGreatN21
import Derived.Test.YtagidoadfajpgaaGreatN27
import Derived.Test.YtagidoadfajpgaaGreatN25
import Derived.Test.YtagidoadfajpgaaGreatN26
namespace Go.Proofs.YtagidoadfajpgaaGreat
open Go.Abs
variable {nO : Nat}
set_option maxRecDepth 100000
attribute [local irreducible] GP ruP ruN nxP acS gst cdP loP invS ent1 ent2 enP caA resV lgP agN
theorem ctr_fact {P : Program} {f : FuncId} {args : List SV} {Y R : Type} {ψ : Y -> Prop} {L : Y -> List Ch} {E : List Ch} {φ : R -> Prop} {res : R -> SV} {post : R -> List Ch} (C : ∀ y, ψ y -> Ctr P nO f args (.as (boxA ψ L) :: E) R φ res post) : Ctr P nO f args (.as (boxA ψ L) :: E) R φ res post := fun F A hF => by
 obtain ⟨F1, F2, ⟨y, hy, h1⟩, h2, j⟩ := hF
 exact C y hy F A ⟨F1, F2, ⟨y, hy, h1⟩, h2, j⟩
theorem idxF_cases {α : Type} {l : List α} {p : α -> Bool} : idxF l p = -1 ∨ ∃ c : Nat, c < l.length /\ idxF l p = (c : Int) := by
 unfold idxF
 split
 ·rename_i j hj
  obtain ⟨h3, _⟩ := List.findIdx?_eq_some_iff_getElem.1 hj
  exact .inr ⟨j, h3, rfl⟩
 ·exact .inl rfl
theorem wrowI_ctr {q : Nat} {F : Fm} {s : Ts} {k : Nat} {id : Int} {j : Nat} {l : List Va} (hk : k < 70000) (hj : j < s.rows.length) (hid : id = ((s.rows.getD j dR).1 : Int)) (hl : l = (s.rows.getD j dR).2) : Ctr Tryz.prog nO 88 [.o (.p 1 q 0 0 0), .o (.i id)] [.as (tabA q F s k)] ((Nat)) (fun _ => True) (fun r => .t [(false, [.s 6 r 3 0 l.length l.length l.isEmpty]), (false, [.v (.bool true)])]) (fun r => [.as (tabA q F s k), vc eV 6 r l 26 .grown l.isEmpty]) := by
 subst hid; subst hl; exact wrow_ctr hk hj
theorem wgetI_ctr {q : Nat} {F : Fm} {s : Ts} {k : Nat} {id : Int} {j c : Nat} {sn : ByteArray} {v : Va} (hk : k < 70000) (hj : j < s.rows.length) (hid : id = ((s.rows.getD j dR).1 : Int)) (hc : idxF F.xa (fun c => strEq c.name sn) = (c : Int)) (hcx : c < F.xa.length) (hv : v = (s.rows.getD j dR).2.getD c eV.d) : Ctr Tryz.prog nO 77 [.o (.p 1 q 0 0 0), .o (.i id), .o (.t sn)] [.as (tabA q F s k)] (Unit) (fun _ => True) (fun r => .t [(true, [.i v.k, .i v.n, .t v.s]), (false, [.v (.bool true)])]) (fun r => [.as (tabA q F s k)]) := by
 subst hid; subst hv; exact wget_ctr hk hj hc hcx
end Go.Proofs.YtagidoadfajpgaaGreat
namespace Go.Proofs.YtagidoadfajpgaaGreat
open Go.Abs
variable {nO : Nat}
set_option maxRecDepth 100000
attribute [local irreducible] GP ruP ruN nxP acS gst cdP loP invS ent1 ent2 enP caA resV lgP agN
theorem tab_mono {q : Nat} {F : Fm} {s : Ts} {k k' : Nat} {l : List Ch} (h : k <= k') : GE (.as (tabA q F s k) :: l) Unit (fun _ => True) (fun _ => .as (tabA q F s k') :: l) := fun _ A hF => by
 obtain ⟨F1, F2, ⟨y, hy, h1⟩, h2, j⟩ := hF
 exact ⟨(), _, trivial, ⟨F1, F2, ⟨y, { hy with rep := hy.rep.mono h }, h1⟩, h2, j⟩, .refl⟩
def okV (F : Fm) (vs : List Va) : Prop := vs.length = F.xa.length /\ ∀ i, i < vs.length -> colOk F.xa i (vs.getD i eV.d) = true
open Classical in
noncomputable def insS (F : Fm) (s : Ts) (vs : List Va) : Ts := if okV F vs then s.ins vs else s
open Classical in
noncomputable def insI (F : Fm) (s : Ts) (vs : List Va) : Int := if okV F vs then (s.next : Int) else 0
open Classical in
noncomputable def insE (F : Fm) (vs : List Va) : Int := if okV F vs then 0 else if vs.length = F.xa.length then 4 else 1
def delS (s : Ts) (id : Int) : Ts := if s.is id = true then s.del (s.pos id).toNat else s
def setE (F : Fm) (s : Ts) (id : Int) (sn : ByteArray) (v : Va) : Int := if s.is id = true then (if idxF F.xa (fun c => strEq c.name sn) = -1 then 3 else if colOk F.xa (idxF F.xa (fun c => strEq c.name sn)).toNat v = true then 0 else 4) else 6
def setS (F : Fm) (s : Ts) (id : Int) (sn : ByteArray) (v : Va) : Ts := if s.is id = true /\ idxF F.xa (fun c => strEq c.name sn) ≠ -1 /\ colOk F.xa (idxF F.xa (fun c => strEq c.name sn)).toNat v = true then s.put (s.pos id).toNat (idxF F.xa (fun c => strEq c.name sn)).toNat v else s
theorem bad_first {p : Nat -> Bool} : ∀ {n : Nat}, (¬ ∀ i, i < n -> p i = true) -> ∃ c, c < n /\ p c = false /\ ∀ i, i < c -> p i = true
 | 0, h => absurd (fun i hi => absurd hi (Nat.not_lt_zero i)) h
 | n + 1, h => by
  by_cases h2 : ∀ i, i < n -> p i = true
  ·refine ⟨n, Nat.lt_succ_self n, ?_, h2⟩
   cases e : p n with
   | false => rfl
   | true => exact absurd (fun i hi => by rcases Nat.lt_succ_iff_lt_or_eq.1 hi with h3 | h3; exact h2 i h3; subst h3; exact e) h
  ·obtain ⟨c, h3, h4, h5⟩ := bad_first h2
   exact ⟨c, by omega, h4, h5⟩
section
variable {F : Fm} {s : Ts} {vs : List Va}
theorem ins_yes (h : okV F vs) : insS F s vs = s.ins vs /\ insI F s vs = (s.next : Int) /\ insE F vs = 0 := ⟨if_pos h, if_pos h, if_pos h⟩
theorem ins_len (h : vs.length ≠ F.xa.length) : insS F s vs = s /\ insI F s vs = 0 /\ insE F vs = 1 :=
 have n : ¬ okV F vs := fun k => h k.1
 ⟨if_neg n, if_neg n, (if_neg n).trans (if_neg h)⟩
theorem ins_bad (h : vs.length = F.xa.length) (k : ¬ ∀ i, i < vs.length -> colOk F.xa i (vs.getD i eV.d) = true) : insS F s vs = s /\ insI F s vs = 0 /\ insE F vs = 4 :=
 have n : ¬ okV F vs := fun j => k j.2
 ⟨if_neg n, if_neg n, (if_neg n).trans (if_pos h)⟩
end
theorem wins_all {q : Nat} {F : Fm} {s : Ts} {k : Nat} {vs : List Va} {qv cv : Nat} {zv : Bool} {tv : TypeId} {mv : Md} (hk : k < 70000) (hzv : zv = true -> vs.length = 0) (hlv : vs.length < 1000000) (hn : s.next < 65536) (hsz : ∀ i, i < vs.length -> (vs.getD i eV.d).s.size < 1000000000) :
  Ctr Tryz.prog nO 60 [.o (.p 1 q 0 0 0), .o (.s 6 qv 3 0 vs.length cv zv)] [.as (tabA q F s k), vc eV 6 qv vs tv mv zv] Unit (fun _ => True) (fun _ => .t [(false, [.i (insI F s vs)]), (false, [.i (insE F vs)])]) (fun _ => [.as (tabA q F (insS F s vs) (k + 1)), vc eV 6 qv vs tv mv zv]) := by
 by_cases hl : vs.length = F.xa.length
 ·by_cases hok : ∀ i, i < vs.length -> colOk F.xa i (vs.getD i eV.d) = true
  ·obtain ⟨e1, e2, e3⟩ := ins_yes (s := s) ⟨hl, hok⟩
   rw [e1, e2, e3]
   exact wins_ctr hk hzv hlv hn hl hok hsz
  ·obtain ⟨e1, e2, e3⟩ := ins_bad (s := s) hl hok
   rw [e1, e2, e3]
   obtain ⟨c, h1, h2, h3⟩ := bad_first hok
   exact ctr_post (winsT_ctr hzv hlv hn hl h1 h2 h3 hsz) fun _ _ => tab_mono (Nat.le_succ k)
 ·obtain ⟨e1, e2, e3⟩ := ins_len (s := s) hl
  rw [e1, e2, e3]
  exact ctr_post (winsF_ctr hn hl) fun _ _ => tab_mono (Nat.le_succ k)
theorem dins_all {q t : Nat} {l : List (Fm × Ts)} {F : Fm} {s : Ts} {vs : List Va} {qv cv : Nat} {zv : Bool} {tv : TypeId} {mv : Md} (e : l[t]? = some (F, s)) (hzv : zv = true -> vs.length = 0) (hlv : vs.length < 1000000) (hsz : ∀ i, i < vs.length -> (vs.getD i eV.d).s.size < 1000000000) (hn : s.next < 1000000) (hr : s.rows.length + 1 < 100000) :
  Ctr Tryz.prog nO 65 [.o (.p 1 q 0 0 0), .o (.i (t : Int)), .o (.s 6 qv 3 0 vs.length cv zv)] [.as (dbA q l), vc eV 6 qv vs tv mv zv] Unit (fun _ => True) (fun _ => .t [(false, [.i (insI F s vs)]), (false, [.i (insE F vs)])]) (fun _ => [.as (dbA q (l.set t (F, insS F s vs))), vc eV 6 qv vs tv mv zv]) := by
 have hs : l.set t (F, s) = l := by
  obtain ⟨h1, h2⟩ := List.getElem?_eq_some_iff.1 e
  rw [<- h2]; exact List.set_getElem_self h1
 by_cases hl : vs.length = F.xa.length
 ·by_cases hok : ∀ i, i < vs.length -> colOk F.xa i (vs.getD i eV.d) = true
  ·obtain ⟨e1, e2, e3⟩ := ins_yes (s := s) ⟨hl, hok⟩
   rw [e1, e2, e3]
   exact dins_ctr e hzv hlv hl hok hsz hn hr
  ·obtain ⟨e1, e2, e3⟩ := ins_bad (s := s) hl hok
   rw [e1, e2, e3, hs]
   obtain ⟨c, h1, h2, h3⟩ := bad_first hok
   exact dinsT_ctr e hzv hlv hl h1 h2 h3 hsz
 ·obtain ⟨e1, e2, e3⟩ := ins_len (s := s) hl
  rw [e1, e2, e3, hs]
  exact dinsF_ctr e hzv hlv hl
theorem wdel_all {q : Nat} {F : Fm} {s : Ts} {k : Nat} {id : Int} (hk : k < 70000) (hn : s.next <= 65536) :
  Ctr Tryz.prog nO 66 [.o (.p 1 q 0 0 0), .o (.i id)] [.as (tabA q F s k)] Unit (fun _ => True) (fun _ => .o (.cb (s.is id))) (fun _ => [.as (tabA q F (delS s id) (k + 2))]) := by
 unfold delS
 cases h : s.is id with
 | false =>
  rw [if_neg (by decide)]
  exact ctr_post (wdelN_ctr h) fun _ _ => tab_mono (by omega)
 | true =>
  obtain ⟨j, hj, hp, he⟩ := Ts.find h
  have C := wdel_ctr (nO := nO) (q := q) (F := F) hk hn hj
  rw [he] at C
  rw [if_pos rfl, hp]
  exact C
theorem ddel_all {q t : Nat} {l : List (Fm × Ts)} {F : Fm} {s : Ts} {id : Int} (e : l[t]? = some (F, s)) :
  Ctr Tryz.prog nO 67 [.o (.p 1 q 0 0 0), .o (.i (t : Int)), .o (.i id)] [.as (dbA q l)] Unit (fun _ => True) (fun _ => .o (.cb (s.is id))) (fun _ => [.as (dbA q (l.set t (F, delS s id)))]) := by
 have hs : l.set t (F, s) = l := by
  obtain ⟨h1, h2⟩ := List.getElem?_eq_some_iff.1 e
  rw [<- h2]; exact List.set_getElem_self h1
 unfold delS
 cases h : s.is id with
 | false =>
  rw [if_neg (by decide), hs]
  exact ddelN_ctr e h
 | true =>
  obtain ⟨j, hj, hp, he⟩ := Ts.find h
  rw [if_pos rfl, hp]
  exact ddel_ctr e hj hp
section
variable {F : Fm} {s : Ts} {id : Int} {sn : ByteArray} {v : Va}
theorem set_no (h : s.is id = false) : setS F s id sn v = s /\ setE F s id sn v = 6 := by
 unfold setS setE
 rw [h]; exact ⟨if_neg fun k => (by cases k.1), if_neg (by decide)⟩
theorem set_col (h : s.is id = true) (hc : idxF F.xa (fun c => strEq c.name sn) = -1) : setS F s id sn v = s /\ setE F s id sn v = 3 := by
 unfold setS setE
 rw [h, hc]; exact ⟨if_neg fun k => k.2.1 rfl, by rw [if_pos rfl, if_pos rfl]⟩
theorem set_bad {c : Nat} (h : s.is id = true) (hc : idxF F.xa (fun c => strEq c.name sn) = (c : Int)) (ho : colOk F.xa c v = false) : setS F s id sn v = s /\ setE F s id sn v = 4 := by
 unfold setS setE
 rw [h, hc, Int.toNat_natCast, ho]; exact ⟨if_neg fun k => (by cases k.2.2), by rw [if_pos rfl, if_neg (by omega), if_neg (by decide)]⟩
theorem set_yes {c j : Nat} (h : s.is id = true) (hp : s.pos id = (j : Int)) (hc : idxF F.xa (fun c => strEq c.name sn) = (c : Int)) (ho : colOk F.xa c v = true) : setS F s id sn v = s.put j c v /\ setE F s id sn v = 0 := by
 unfold setS setE
 rw [h, hc, hp, Int.toNat_natCast, Int.toNat_natCast, ho]; exact ⟨if_pos ⟨rfl, by omega, rfl⟩, by rw [if_pos rfl, if_neg (by omega), if_pos rfl]⟩
end
theorem wset_all {q : Nat} {F : Fm} {s : Ts} {k : Nat} {id : Int} {sn : ByteArray} {v : Va} (hk : k < 70000) (hs : v.s.size < 1000000000) :
  Ctr Tryz.prog nO 68 [.o (.p 1 q 0 0 0), .o (.i id), .o (.t sn), .a [.i v.k, .i v.n, .t v.s]] [.as (tabA q F s k)] Unit (fun _ => True) (fun _ => .o (.i (setE F s id sn v))) (fun _ => [.as (tabA q F (setS F s id sn v) (k + 2))]) := by
 cases h : s.is id with
 | false =>
  obtain ⟨e1, e2⟩ := set_no (F := F) (sn := sn) (v := v) h
  rw [e1, e2]
  exact ctr_post (wsetN_ctr h) fun _ _ => tab_mono (by omega)
 | true =>
  obtain ⟨j, hj, hp, he⟩ := Ts.find h
  rcases idxF_cases (l := F.xa) (p := fun c => strEq c.name sn) with hc | ⟨c, hcx, hc⟩
  ·obtain ⟨e1, e2⟩ := set_col (v := v) h hc
   rw [e1, e2]
   have C := wsetC_ctr (nO := nO) (q := q) (k := k) (v := v) hj hc
   rw [he] at C
   exact ctr_post C fun _ _ => tab_mono (by omega)
  ·cases ho : colOk F.xa c v with
   | false =>
    obtain ⟨e1, e2⟩ := set_bad h hc ho
    rw [e1, e2]
    have C := wsetT_ctr (nO := nO) (q := q) (k := k) hj hc hcx hs ho
    rw [he] at C
    exact ctr_post C fun _ _ => tab_mono (by omega)
   | true =>
    obtain ⟨e1, e2⟩ := set_yes h hp hc ho
    rw [e1, e2]
    have C := wset_ctr (nO := nO) (q := q) hk hj hc hcx hs ho
    rw [he] at C
    exact C
theorem dset_all {q t : Nat} {l : List (Fm × Ts)} {F : Fm} {s : Ts} {id : Int} {sn : ByteArray} {v : Va} (e : l[t]? = some (F, s)) (hs : v.s.size < 1000000000) :
  Ctr Tryz.prog nO 69 [.o (.p 1 q 0 0 0), .o (.i (t : Int)), .o (.i id), .o (.t sn), .a [.i v.k, .i v.n, .t v.s]] [.as (dbA q l)] Unit (fun _ => True) (fun _ => .o (.i (setE F s id sn v))) (fun _ => [.as (dbA q (l.set t (F, setS F s id sn v)))]) := by
 have hsl : l.set t (F, s) = l := by
  obtain ⟨h1, h2⟩ := List.getElem?_eq_some_iff.1 e
  rw [<- h2]; exact List.set_getElem_self h1
 cases h : s.is id with
 | false =>
  obtain ⟨e1, e2⟩ := set_no (F := F) (sn := sn) (v := v) h
  rw [e1, e2, hsl]
  exact dsetN_ctr e h
 | true =>
  obtain ⟨j, hj, hp, he⟩ := Ts.find h
  rcases idxF_cases (l := F.xa) (p := fun c => strEq c.name sn) with hc | ⟨c, hcx, hc⟩
  ·obtain ⟨e1, e2⟩ := set_col (v := v) h hc
   rw [e1, e2, hsl]
   exact dsetC_ctr e hj hp hc
  ·cases ho : colOk F.xa c v with
   | false =>
    obtain ⟨e1, e2⟩ := set_bad h hc ho
    rw [e1, e2, hsl]
    exact dsetT_ctr e hj hp hc hcx hs ho
   | true =>
    obtain ⟨e1, e2⟩ := set_yes h hp hc ho
    rw [e1, e2]
    exact dset_ctr e hj hp hc hcx hs ho
theorem vOk_size {v : Va} (h : vOk v = true) : v.s.size < 1000000000 := by
 have hE : strE v.s = true -> v.s.size < 1000000000 := fun e => by
  rw [strEq_iff.1 e]; decide
 unfold vOk at h
 split at h
 ·rw [Bool.and_eq_true] at h; exact hE h.2
 split at h
 ·exact hE h
 split at h
 ·rw [Bool.and_eq_true] at h
  have := (of_decide_eq_true h.2).2
  omega
 ·cases h
theorem wcopy_all {q : Nat} {F : Fm} {s : Ts} {k : Nat} (hk : k < 70000) (hn : s.next <= 65536) :
  Ctr Tryz.prog nO 73 [.o (.p 1 q 0 0 0)] [.as (tabA q F s k)] Nat (fun _ => True) (fun r => .o (.p 11 r 0 0 0)) (fun r => [.as (tabA q F s k), .as (tabA r F s k)]) :=
 ctr_fact fun y hy => wcopy_ctr hk hn fun r hr c hc => vOk_size (by have h := hy.rep.ok r hr c hc; unfold colOk at h; rw [Bool.and_eq_true] at h; exact h.2)
theorem insS_le {F : Fm} {s : Ts} {vs : List Va} : (insS F s vs).next <= s.next + 1 /\ (insS F s vs).rows.length <= s.rows.length + 1 := by
 unfold insS; split
 ·exact ⟨Nat.le_refl _, by show (s.rows ++ [_]).length <= _; simp⟩
 ·exact ⟨by omega, by omega⟩
theorem delS_le {s : Ts} {id : Int} : (delS s id).next <= s.next + 1 /\ (delS s id).rows.length <= s.rows.length + 1 := by
 unfold delS; split
 ·exact ⟨Nat.le_succ _, by show (s.rows.eraseIdx _).length <= _; have := List.length_eraseIdx_le s.rows (s.pos id).toNat; omega⟩
 ·exact ⟨by omega, by omega⟩
theorem setS_le {F : Fm} {s : Ts} {id : Int} {sn : ByteArray} {v : Va} : (setS F s id sn v).next <= s.next + 1 /\ (setS F s id sn v).rows.length <= s.rows.length + 1 := by
 unfold setS; split
 ·exact ⟨Nat.le_succ _, by show (s.rows.set _ _).length <= _; rw [List.length_set]; omega⟩
 ·exact ⟨by omega, by omega⟩
end Go.Proofs.YtagidoadfajpgaaGreat
namespace Go.Proofs.YtagidoadfajpgaaGreat
open Go.Abs
variable {nO : Nat}
set_option maxRecDepth 100000
attribute [local irreducible] GP ruP ruN nxP acS gst cdP loP invS ent1 ent2 enP caA resV lgP agN
structure Opv where
 q : Nat
 c : Nat
 z : Bool
 y : Bool
 kind : Int
 id : Int
 col : ByteArray
 vs : List Va
def opA (x : Opv) : As := (vc eV 941 x.q x.vs 26 .imm x.y).den
def shopF : Fm := ⟨tShop, tId, shopK, (shopD 0).map keyD⟩
theorem shopF_ok : FmOk shopF := ⟨by decide, by decide, fun i hi => shopK_kind i hi, fun d hd => by
 have e : d = keyD ⟨0, [tCity], tZone⟩ := by
  have h : d ∈ [keyD ⟨0, [tCity], tZone⟩] := hd
  simpa using h
 subst e; decide⟩
def s0 : Ts := ⟨[], 0⟩
end Go.Proofs.YtagidoadfajpgaaGreat
namespace Go.Proofs.YtagidoadfajpgaaGreat
set_option maxHeartbeats 4000000
open Go.Abs
variable {nO : Nat}
set_option maxRecDepth 100000
attribute [local irreducible] GP ruP ruN nxP acS gst cdP loP invS ent1 ent2 enP caA resV lgP agN
def b1 : Ts := s0.ins (shopR 7 ⟨#[120]⟩)
def b2 : Ts := b1.ins (shopR 8 ⟨#[121]⟩)
def b3 : Ts := b2.del 0
def zoneV : Va := ⟨2, 0, ⟨#[122]⟩⟩
def b4 : Ts := b3.put 0 2 zoneV
theorem b_del : delS b2 0 = b3 := by kernel_rfl
theorem b_idx : idxF shopF.xa (fun c => strEq c.name ⟨#[122, 111, 110, 101]⟩) = ((2 : Nat) : Int) := by decide +kernel
theorem b_idc : idxF shopF.xa (fun c => strEq c.name ⟨#[99, 105, 116, 121]⟩) = ((1 : Nat) : Int) := by decide +kernel
theorem b_y : tOk ⟨#[121]⟩ = true := by decide +kernel
theorem b_set : setS shopF b3 1 ⟨#[122, 111, 110, 101]⟩ ⟨2, 0, ⟨#[122]⟩⟩ = b4 := by kernel_rfl
theorem b_cnt {m : List Sp} (hw : WF (-1) m) (h : ∀ i, has m i = b4.is i) : count m = 1 := by
 have e : allE m = [1] := all_eq hw (by simp [Rises]) fun i => by
  rw [h, Ts.is_iff]
  constructor
  ·intro hi
   obtain rfl := List.mem_singleton.1 hi
   exact ⟨(1, (shopR 8 ⟨#[121]⟩).set 2 zoneV), List.mem_singleton.2 rfl, rfl⟩
  ·rintro ⟨r, hr, rfl⟩
   obtain rfl : r = (1, (shopR 8 ⟨#[121]⟩).set 2 zoneV) := List.mem_singleton.1 hr
   exact List.mem_singleton.2 rfl
 rw [count_all hw, e]; rfl
theorem b_words {ws : List Kv} (h : WsRep (cntT (b4.col 1)) ws) : ws.length = 1 :=
 (h.len ((WsRep.nil (f := fun _ => 0) fun _ => rfl).cw ⟨2, 0, ⟨#[121]⟩⟩ fun t => cntT_app [] ⟨2, 0, ⟨#[121]⟩⟩ t)).trans (by decide +kernel)
theorem b_x : tOk ⟨#[120]⟩ = true := by decide +kernel
theorem begun_ctr   : Ctr Tryz.prog nO 109 [] [] (Unit) (fun _ => True) (fun r => .o (.v (.bool true))) (fun r => []) := by
 refine fs 100 fun B => g0 fun _ => cl (shop_ctr ) [] [(1, 100), (2, 101)] 102 fun ⟨qc103, qd103, ql103⟩ _ => cl (wnew_ctr (na := tShop) (ka := tId) (qa := qc103) (ca := shopK.length) (za := false) (xa := shopK) (ta := 130) (ma := .grown) (qA := qd103) (cA := (shopD ql103).length) (zA := false) (da := (shopD ql103)) (tA := 161) (mA := .imm) (fun h => nomatch h) (show 4 < 1000000 by decide) (fun h => nomatch h) shopF_ok) [0, 1, 2] [(2, 100), (3, 101), (1, 102)] 103 fun q105 _ => gh (ge_re (l := [.as (tabA q105 (⟨tShop, tId, shopK, (shopD ql103).map keyD⟩ : Fm) ⟨[], 0⟩ 0)]) (l' := [.as (tabA q105 shopF s0 0)]) rfl) [0] [] 103 fun _ _ => g0 fun _ => g0 fun _ => cdF rfl <| g0 fun _ => cl (@lrow_ctr _ 7 ⟨#[120]⟩) [] [(1, 103)] 104 fun q109 _ => cl (wins_ctr (q := q105) (F := shopF) (s := s0) (k := 0) (qv := q109) (cv := (shopR 7 ⟨#[120]⟩).length) (zv := false) (vs := (shopR 7 ⟨#[120]⟩)) (tv := 26) (mv := .own) (by decide) (fun h => nomatch h) (show 4 < 1000000 by decide) (by decide) rfl (shop_ok b_x) (shop_sz (show 1 <= 12 by decide))) [1, 0] [(1, 102), (6, 103)] 104 fun _ _ => gh (ge_re (l := [.as (tabA q105 shopF (s0.ins (shopR 7 ⟨#[120]⟩)) (0 + 1))]) (l' := [.as (tabA q105 shopF b1 1)]) rfl) [0] [] 104 fun _ _ => g0 fun _ => g0 fun _ => cl (@lrow_ctr _ 8 ⟨#[121]⟩) [] [(1, 104)] 105 fun q114 _ => cl (wins_ctr (q := q105) (F := shopF) (s := b1) (k := 1) (qv := q114) (cv := (shopR 8 ⟨#[121]⟩).length) (zv := false) (vs := (shopR 8 ⟨#[121]⟩)) (tv := 26) (mv := .own) (by decide) (fun h => nomatch h) (show 4 < 1000000 by decide) (by decide) rfl (shop_ok b_y) (shop_sz (show 1 <= 12 by decide))) [1, 0] [(1, 102), (6, 104)] 105 fun _ _ => gh (ge_re (l := [.as (tabA q105 shopF (b1.ins (shopR 8 ⟨#[121]⟩)) (1 + 1))]) (l' := [.as (tabA q105 shopF b2 2)]) rfl) [0] [] 105 fun _ _ => g0 fun _ => g0 fun _ => gh (nil_vec 105 3 eV.f eV.d 26 .grown) [] [] 106 fun _ _ => cl (winsF_ctr (q := q105) (F := shopF) (s := b2) (k := 2) (qv := 0) (cv := 0) (zv := true) (vs := ([] : List Va)) (tv := 26) (mv := .grown) (by decide) (by decide)) [1, 0] [(1, 102), (6, 105)] 106 fun _ _ => g0 fun _ => g0 fun _ => cl (wdel_all (q := q105) (F := shopF) (s := b2) (k := 2) (id := (s0.next : Int)) (by decide) (by decide)) [0] [(1, 102)] 106 fun _ _ => gh (ge_re (l := [.as (tabA q105 shopF (delS b2 (s0.next : Int)) (2 + 2))]) (l' := [.as (tabA q105 shopF b3 4)]) (congrArg (fun s => [Ch.den (.as (tabA q105 shopF s 4))]) b_del)) [0] [] 106 fun _ _ => g0 fun _ => g0 fun _ => cl (wset_all (q := q105) (F := shopF) (s := b3) (k := 4) (id := (b1.next : Int)) (sn := ⟨#[122, 111, 110, 101]⟩) (v := (⟨2, 0, ⟨#[122]⟩⟩ : Va)) (by decide) (by decide)) [0] [(1, 102)] 106 fun _ _ => gh (ge_re (l := [.as (tabA q105 shopF (setS shopF b3 (b1.next : Int) ⟨#[122, 111, 110, 101]⟩ (⟨2, 0, ⟨#[122]⟩⟩ : Va)) (4 + 2))]) (l' := [.as (tabA q105 shopF b4 6)]) (congrArg (fun s => [Ch.den (.as (tabA q105 shopF s 6))]) b_set)) [0] [] 106 fun _ _ => g0 fun _ => g0 fun _ => cl (wrowI_ctr (q := q105) (F := shopF) (s := b4) (k := 6) (id := (b1.next : Int)) (j := 0) (l := (b4.rows.getD 0 dR).2) (by decide) (by decide) (by decide) rfl) [0] [(1, 102), (6, 106)] 107 fun r128 _ => g0 fun _ => g0 fun _ => cl (wgetI_ctr (q := q105) (F := shopF) (s := b4) (k := 6) (id := (b1.next : Int)) (j := 0) (c := 2) (sn := ⟨#[122, 111, 110, 101]⟩) (v := zoneV) (by decide) (by decide) (by decide) b_idx (by decide) rfl) [0] [(1, 102)] 107 fun _ _ => g0 fun q132 => g0 fun _ => cl (wcopy_all (q := q105) (F := shopF) (s := b4) (k := 6) (by decide) (by decide)) [1] [(1, 102), (11, 108)] 109 fun r134 _ => g0 fun _ => goN 3 (fun _ => trivial) fun _ => sv 59 (v := .o (.cb ((0 : Int) == 0))) (v' := .o (.v (.bool true))) (congrArg Value.bool (by decide +kernel)) <| goN 4 (fun _ => trivial) fun _ => sv 63 (v := .o (.cb ((0 : Int) == 0))) (v' := .o (.v (.bool true))) (congrArg Value.bool (by decide +kernel)) <| goN 4 (fun _ => trivial) fun _ => sv 67 (v := .o (.cb ((1 : Int) == 1))) (v' := .o (.v (.bool true))) (congrArg Value.bool (by decide +kernel)) <| goN 4 (fun _ => trivial) fun _ => sv 71 (v := .o (.cb ((s0.next : Int) == 0))) (v' := .o (.v (.bool true))) (congrArg Value.bool (by decide +kernel)) <| goN 4 (fun _ => trivial) fun _ => sv 75 (v := .o (.cb ((b1.next : Int) == 1))) (v' := .o (.v (.bool true))) (congrArg Value.bool (by decide +kernel)) <| goN 3 (fun _ => trivial) fun _ => sv 78 (v := .o (.cb (b2.is (s0.next : Int)))) (v' := .o (.v (.bool true))) (congrArg Value.bool (by decide +kernel)) <| goN 4 (fun _ => trivial) fun _ => sv 82 (v := .o (.cb (setE shopF b3 (b1.next : Int) ⟨#[122, 111, 110, 101]⟩ (⟨2, 0, ⟨#[122]⟩⟩ : Va) == 0))) (v' := .o (.v (.bool true))) (congrArg Value.bool (by decide +kernel)) <| goN 3 (fun _ => trivial) fun _ => sv 85 (v := .o (.v (.bool true))) (v' := .o (.v (.bool true))) (congrArg Value.bool (by decide +kernel)) <| goN 5 (fun _ => trivial) fun _ => sv 90 (v := .o (.cb (((((b4.rows.getD 0 dR).2).length : Nat) : Int) == 4))) (v' := .o (.v (.bool true))) (congrArg Value.bool (by decide +kernel)) <| goN 5 (fun _ => trivial) fun _ => sv 95 (v := .o (.cb (strEq zoneV.s ⟨#[122]⟩))) (v' := .o (.v (.bool true))) (congrArg Value.bool (by decide +kernel)) <| goN 3 (fun _ => trivial) fun _ => sv 98 (v := .o (.v (.bool true))) (v' := .o (.v (.bool true))) (congrArg Value.bool (by decide +kernel)) <| g0 fun _ => cl (@wnext_ctr _ q105 shopF b4 6) [0] [(1, 102)] 109 fun _ _ => goN 3 (fun _ => trivial) fun _ => sv 103 (v := .o (.cb ((b4.next : Int) == 2))) (v' := .o (.v (.bool true))) (congrArg Value.bool (by decide +kernel)) <| g0 fun _ => cl (@wlive_ctr _ q105 shopF b4 6) [0] [(1, 102), (8, 109)] 110 fun ⟨ql151, cL151, lv151⟩ hlw => cl (@count_ctr _ ql151 cL151 lv151 171 .imm hlw.1) [1] [(1, 109)] 110 fun _ _ => sv 106 (v := .o (.i (count lv151))) (v' := .o (.i 1)) (congrArg (Value.int .i64) (b_cnt hlw.1 hlw.2)) <| goN 3 (fun _ => trivial) fun _ => sv 109 (v := .o (.cb ((1 : Int) == 1))) (v' := .o (.v (.bool true))) (congrArg Value.bool (by decide +kernel)) <| g0 fun _ => cl (wwords_ctr (q := q105) (F := shopF) (s := b4) (k := 6) (sn := ⟨#[99, 105, 116, 121]⟩) (c := 1) (by decide) b_idc (by decide)) [1] [(1, 102)] 110 fun ws156 hws => sv 111 (v := .o (.i (ws156.length : Int))) (v' := .o (.i 1)) (congrArg (fun n : Nat => Value.int .i64 (n : Int)) (b_words hws)) <| goN 3 (fun _ => trivial) fun _ => sv 114 (v := .o (.cb ((1 : Int) == 1))) (v' := .o (.v (.bool true))) (congrArg Value.bool (by decide +kernel)) <| goN 4 (fun _ => trivial) fun _ => sv 118 (v := .o (.v (.bool true))) (v' := .o (.v (.bool true))) (congrArg Value.bool (by decide +kernel)) <| g0 fun _ => cl (@wnext_ctr _ r134 shopF b4 6) [2] [(1, 108)] 110 fun _ _ => goN 3 (fun _ => trivial) fun _ => sv 123 (v := .o (.cb ((b4.next : Int) == 2))) (v' := .o (.v (.bool true))) (congrArg Value.bool (by decide +kernel)) <| g0 fun _ => cl (@wform_ctr _ q105 shopF b4 6) [1] [(1, 102), (7, 110), (8, 111)] 112 fun ⟨qc2163, qd2163, d2163, z1163, z2163, m2163⟩ h163 => g0 fun _ => rtv trivial (()) trivial [] (.o (.cb (strEq shopF.name ⟨#[115, 104, 111, 112]⟩))) (congrArg Value.bool (by decide +kernel))
end Go.Proofs.YtagidoadfajpgaaGreat
namespace Go.Proofs.YtagidoadfajpgaaGreat
set_option maxHeartbeats 4000000
open Go.Abs
variable {nO : Nat}
set_option maxRecDepth 100000
attribute [local irreducible] GP ruP ruN nxP acS gst cdP loP invS ent1 ent2 enP caA resV lgP agN
theorem copied_ctr {na ka : ByteArray} {qa ca : Nat} {za : Bool} {xa : List Cd} {ta : TypeId} {ma : Md} {qA cA : Nat} {zA : Bool} {da : List De} {tA : TypeId} {mA : Md} (hza : za = true -> xa.length = 0) (hla : xa.length < 1000000) (hzA : zA = true -> da.length = 0) (hlA : da.length < 1000000) (hda : ∀ i, i < da.length -> (da.getD i dD).l.length < 1000000) : Ctr Tryz.prog nO 116 [.a [.t na, .s 1 qa 4 0 xa.length ca za, .t ka, .s 3 qA 2 0 da.length cA zA]] [vc eC 1 qa xa ta ma za, vc (eD 906) 3 qA da tA mA zA, .as (bigA (lefA 9) da)] ((Nat) × (Nat) × (List De)) (fun r => r.2.2.map keyD = da.map keyD) (fun r => .a [.t na, .s 7 r.1 4 0 xa.length xa.length za, .t ka, .s 8 r.2.1 2 0 r.2.2.length r.2.2.length zA]) (fun r => [vc eC 1 qa xa ta ma za, vc (eD 906) 3 qA da tA mA zA, .as (bigA (lefA 9) da), vc eC 7 r.1 xa 130 (mdOf xa) za, vc (eD 906) 8 r.2.1 r.2.2 161 (mdOf da) zA, .as (bigA (lefA 9) r.2.2)]) := by
 refine fs 100 fun B => g0 fun q101 => g0 fun _ => cl (@clonec_ctr _ qa ca za xa ta ma (by assumption) (by omega)) [2] [(2, 102)] 103 fun q2103 _ => g0 fun _ => g0 fun _ => cl (@cloned_ctr _ qA cA zA da tA mA (by assumption) (by omega)) [4] [(1, 3), (2, 103)] 104 fun q2106 _ => g0 fun _ => g0 fun _ => gh (ge_re (l := [vc (eD 906) 103 q2106 da 161 (mdOf da) zA]) (l' := [vc (eD 906) 103 q2106 ([] ++ da.drop 0) 161 (mdOf da) zA]) rfl) [0] [] 104 fun _ _ => gh (big_nil (I := (lefA 9))) [] [] 104 fun _ _ => lp ((Nat) × (List De)) [1, 2, 14] (fun r => [(15, .o (.i (r.1 : Int)))]) [2, 3, 4, 5, 6, 7] (fun r => [vc (eD 906) 103 q2106 (r.2 ++ da.drop r.1) 161 (mdOf da) zA, .as (bigA (lefA 9) r.2)]) 124 (fun r => r.1 <= da.length /\ r.2.length = r.1 /\ r.2.map keyD = (da.take r.1).map keyD) (fun r => da.length - r.1) (⟨0, []⟩) ⟨Nat.zero_le _, rfl, rfl⟩ [1, 0] (fun ⟨i, nw⟩ hx ag109 => ?_)
 try dsimp only at hx
 obtain ⟨hi, hni, hkn⟩ := hx
 refine g0 fun _ => cdD ((i : Int) < (da.length : Int)) (fun h2 => ?_) (fun h2 => ?_)
 ·have hdl := hda i (by omega)
  have hcl : (nw ++ da.drop i).length = da.length := by rw [List.length_append, List.length_drop]; omega
  refine g0 fun _ => go (fun _ => (o4 (nz i) (by omega : (i : Int) < (da.length : Int)) (zf hzA (show 0 < da.length by omega) : zA = false) (by omega : i < (nw ++ da.drop i).length))) fun _ => gh (big_out (I := (lefA 9)) (l := da) i dD (by omega)) [7] [] 124 fun _ _ => gh (ge_op (c := vc eS 906 ((da.getD i dD).q) ((da.getD i dD).l) 9 .imm false) (I := ((lefA 9) (da.getD i dD)))) [0] [] 124 fun _ _ => sv 26 (v := .o (.s 906 (((nw ++ da.drop i).getD i dD).q) 1 0 (((nw ++ da.drop i).getD i dD).l.length) (((nw ++ da.drop i).getD i dD).l.length) false)) (v' := .o (.s 906 ((da.getD i dD).q) 1 0 ((da.getD i dD).l.length) ((da.getD i dD).l.length) false)) (by rw [key_cur (by omega) hni]) <| cl (@clones_ctr _ ((da.getD i dD).q) ((da.getD i dD).l.length) false ((da.getD i dD).l) 9 .imm (fun h => nomatch h) (by omega)) [0] [(1, 906), (2, 124)] 125 fun q2113 _ => gh (ge_sh (c := vc eS 906 ((da.getD i dD).q) ((da.getD i dD).l) 9 .imm false) (I := ((lefA 9) (da.getD i dD)))) [1] [] 125 fun _ _ => gh (big_bk (I := (lefA 9)) (l := da) i dD (by omega)) [0, 2] [] 125 fun _ _ => gh (vec_imm (E := eS) (g := 124) (q := q2113) (xs := ((da.getD i dD).l)) (t := 9) (m := (mdOf ((da.getD i dD).l))) (z := false)) [1] [] 125 fun _ _ => gh (ge_sh (c := vc eS 124 q2113 ((da.getD i dD).l) 9 .imm false) (I := ((lefA 9) (⟨q2113, (da.getD i dD).l, (da.getD i dD).r⟩ : De)))) [0] [] 125 fun _ _ => gh (big_snoc (I := (lefA 9)) (l := nw) (x := (⟨q2113, (da.getD i dD).l, (da.getD i dD).r⟩ : De))) [0, 3] [] 125 fun _ _ => go (fun _ => (o3 (nz i) (by omega : (i : Int) < (da.length : Int)) (zf hzA (show 0 < da.length by omega) : zA = false))) fun _ => vst (eD 906) (nw ++ da.drop i) ⟨q2113, (da.getD i dD).l, ((nw ++ da.drop i).getD i dD).r⟩ ((nw ++ [(⟨q2113, (da.getD i dD).l, (da.getD i dD).r⟩ : De)]) ++ da.drop (i + 1)) 103 103 q2106 i 0 161 (mdOf da) zA [.s 124 q2113 1 0 (((da.getD i dD).l).length) (((da.getD i dD).l).length) false] [2] (by rw [List.length_append, List.length_drop]; omega) (zf hzA (show 0 < da.length by omega)) (by rw [key_cur (by omega) hni, key_set _ (by omega) hni]) (Nat.le_of_ble_eq_true rfl) rfl ?_ (hm := mdOf_mine)
  refine go (fun _ => (o2 (by omega : -9223372036854775808 <= (i : Int) + 1) (by omega : (i : Int) + 1 < 9223372036854775808))) fun _ => ag109 _ _ (⟨i + 1, nw ++ [(⟨q2113, (da.getD i dD).l, (da.getD i dD).r⟩ : De)]⟩) (by first | omega | (simp only; omega)) (by dsimp only; exact ⟨by omega, by rw [List.length_append, hni]; rfl, key_snoc (by omega) hkn⟩) [0, 1, 3, 4, 5, 6, 7, 2] (by kernel_rfl) (by kernel_rfl)
 ·have hie : i = da.length := by omega
  refine g0 fun _ => gh (ge_re (l := [vc (eD 906) 103 q2106 (nw ++ da.drop i) 161 (mdOf da) zA]) (l' := [vc (eD 906) 103 q2106 nw 161 (mdOf da) zA]) (by rw [hie, List.drop_length, List.append_nil])) [0] [] 124 fun _ _ => rtv trivial (⟨q2103, q2106, nw⟩) (by rw [hkn, hie, List.take_length]) [4, 2, 7, 3, 0, 1] (.a [.t na, .s 102 q2103 4 0 xa.length xa.length za, .t ka, .s 103 q2106 2 0 da.length da.length zA]) (by rw [hni, hie]; rfl)
theorem scol1_ctr {a : Cd} {q : Nat} {s : ByteArray} {tb : TypeId}  : Ctr Tryz.prog nO 162 [.a [.t a.name, .i a.kind, .cb a.must, .t a.to], .o (.p 1 q 0 0 0)] [.blk 1 q [.t s] tb .own] (Unit) (fun _ => True) (fun r => .o (.cb (strEq a.name s))) (fun r => [.blk 1 q [.t s] tb .own]) := by
 refine fs 100 fun B => g0 fun q101 => g0 fun _ => rt trivial (()) trivial [1]
theorem scol_ctr {na ka : ByteArray} {qa ca : Nat} {za : Bool} {xa : List Cd} {ta : TypeId} {ma : Md} {qA cA : Nat} {zA : Bool} {da : List De} {s : ByteArray} (hza : za = true -> xa.length = 0) (hla : xa.length < 1000000) : Ctr Tryz.prog nO 121 [.a [.t na, .s 1 qa 4 0 xa.length ca za, .t ka, .s 3 qA 2 0 da.length cA zA], .o (.t s)] [vc eC 1 qa xa ta ma za] (Unit) (fun _ => True) (fun r => .o (.i (idxF xa (fun c => strEq c.name s)))) (fun r => [vc eC 1 qa xa ta ma za]) := by
 refine fs 100 fun B => g0 fun q101 => g0 fun _ => cl (idxfc_ctr (q := qa) (c := ca) (z := za) (xs := xa) (t := ta) (m := ma) (y := .func (.func 162) #[] #[.pointer (some ⟨(q101 101), 0, none⟩)]) (p := fun c => strEq c.name s) (J := (Ch.den (.blk 101 (q101 101) [.t s] 9 .own))) hza hla (fun k _ => ctrV_as (ctrV [.pointer (some ⟨(q101 101), 0, none⟩)] (scol1_ctr (a := xa.getD k eC.d) (q := (q101 101)) (s := s) (tb := 9))))) [2, 0] [] 102 fun _ _ => g0 fun _ => rt trivial (()) trivial [0]
def tL (x : Xr) : List Ch := [vc eC 931 x.qa x.F.xa x.ta .imm x.za, vc (eD 906) 932 x.qA x.da x.tA .imm x.zA, .as (bigA (lefA 9) x.da)]
def tI (x : Xr) : As := hpA (tL x)
structure tP (x : Xr) : Prop where
 fm : FmOk x.F
 za : x.za = true -> x.F.xa.length = 0
 zA : x.zA = true -> x.da.length = 0
 da : x.da.map keyD = x.F.da
theorem tP.dd {x : Xr} (h : tP x) : ∀ i, i < x.da.length -> (x.da.getD i dD).l.length < 1000000 := fun i hi => by
 have := h.fm.dd (keyD (x.da.getD i dD)) (by rw [<- h.da]; exact List.mem_map_of_mem (getD_mem hi))
 exact this
theorem tP.dl {x : Xr} (h : tP x) : x.da.length < 100000 := by
 have h1 := congrArg List.length h.da
 rw [List.length_map] at h1
 have := h.fm.dl
 omega
theorem idxft_ctr {q c : Nat} {z : Bool} {xs : List Xr} {t : TypeId} {m : Md} {y : Value} {p : Xr -> Bool} {J : As} (hz : z = true -> xs.length = 0) (hl : xs.length < 1000000) (hy : ∀ k, k < xs.length -> CtrV Tryz.prog nO y [.a [.t (xs.getD k dXr).F.name, .s 931 (xs.getD k dXr).qa 4 0 (xs.getD k dXr).F.xa.length (xs.getD k dXr).ca (xs.getD k dXr).za, .t (xs.getD k dXr).F.key, .s 932 (xs.getD k dXr).qA 2 0 (xs.getD k dXr).da.length (xs.getD k dXr).cA (xs.getD k dXr).zA]] [.as J] Unit (fun _ => True) (fun _ => .o (.cb (p (xs.getD k dXr)))) (fun _ => [.as J])) : Ctr Tryz.prog nO 114 [.o (.s 1 q 4 0 xs.length c z), .o (.v y)] [vc eTb 1 q xs t m z, .as J] (Unit) (fun _ => True) (fun r => .o (.i (idxF xs p))) (fun r => [vc eTb 1 q xs t m z, .as J]) := by
 refine fs 100 fun B => g0 fun _ => g0 fun _ => lp ((Nat)) [0, 1, 7] (fun r => [(8, .o (.i (r : Int)))]) [0, 1] (fun _ => []) 120 (fun r => r <= xs.length /\ ∀ j, j < r -> p (xs.getD j dXr) = false) (fun r => xs.length - r) (0) ⟨Nat.zero_le _, fun j hj => absurd hj (Nat.not_lt_zero j)⟩ [] (fun i hx ag103 => ?_)
 obtain ⟨hi, hn⟩ := hx
 refine g0 fun _ => cdD ((i : Int) < (xs.length : Int)) (fun h1 => ?_) (fun h1 => ?_)
 ·refine g0 fun _ => go (fun _ => (o4 (nz i) (by omega : (i : Int) < (xs.length : Int)) (zf hz (show 0 < xs.length by omega) : z = false) (by omega : i < xs.length))) fun _ => clv (hy i (by omega)) [1] [] 120 fun _ _ => cd (p (xs.getD i dXr)) (fun h2 => ?_) (fun h2 => ?_)
  ·refine g0 fun _ => rtv trivial (()) trivial [1, 0] (.o (.i (i : Int))) (congrArg (Value.int .i64) (idxF_some (d := dXr) (by omega) h2 hn).symm)
  ·refine go (fun _ => (o2 (by omega : -9223372036854775808 <= (i : Int) + 1) (by omega : (i : Int) + 1 < 9223372036854775808))) fun _ => ag103 _ _ (i + 1) (by first | omega | (simp only; omega)) ⟨by omega, fun j hj => by rcases Nat.lt_succ_iff_lt_or_eq.1 hj with h | h; exact hn j h; subst h; exact h2⟩ [1, 0] (by kernel_rfl) (by kernel_rfl)
 ·refine g0 fun _ => rtv trivial (()) trivial [0, 1] (.o (.i (-1))) (congrArg (Value.int .i64) (idxF_none (d := dXr) (fun j hj => hn j (by omega))).symm)
theorem sfind1_ctr {na ka : ByteArray} {qa ca : Nat} {za : Bool} {xa : List Cd} {qA cA : Nat} {zA : Bool} {da : List De} {q : Nat} {s : ByteArray} {tb : TypeId}  : Ctr Tryz.prog nO 115 [.a [.t na, .s 1 qa 4 0 xa.length ca za, .t ka, .s 3 qA 2 0 da.length cA zA], .o (.p 9 q 0 0 0)] [.blk 9 q [.t s] tb .own] (Unit) (fun _ => True) (fun r => .o (.cb (strEq na s))) (fun r => [.blk 9 q [.t s] tb .own]) := by
 refine fs 100 fun B => g0 fun q101 => g0 fun _ => rt trivial (()) trivial [1]
theorem sfindN_ctr {q qs : Nat} {xs : List Xr} {mS : Md} {s : ByteArray} (hl : xs.length < 1000000) (hn : idxF xs (fun x => strEq x.F.name s) = -1) : Ctr Tryz.prog nO 71 [.o (.p 1 q 0 0 0), .o (.t s)] [.blk 1 q [.s 2 qs 4 0 xs.length xs.length xs.isEmpty] 145 .own, vc eTb 2 qs xs 46 mS xs.isEmpty, .as (bigA tI xs)] (Unit) (fun _ => True) (fun r => .t [(true, [.t ⟨#[]⟩, .v (.slice none 0 0), .t ⟨#[]⟩, .v (.slice none 0 0)]), (false, [.v (.bool false)])]) (fun r => [.blk 1 q [.s 2 qs 4 0 xs.length xs.length xs.isEmpty] 145 .own, vc eTb 2 qs xs 46 mS xs.isEmpty, .as (bigA tI xs)]) := by
 refine fs 100 fun B => g0 fun q101 => g0 fun _ => cdF rfl <| g0 fun _ => cl (idxft_ctr (q := qs) (c := xs.length) (z := xs.isEmpty) (xs := xs) (t := 46) (m := mS) (y := .func (.func 115) #[] #[.pointer (some ⟨(q101 100), 0, none⟩)]) (p := (fun x => strEq x.F.name s)) (J := (Ch.den (.blk 100 (q101 100) [.t s] 9 .own))) (fun h => List.length_eq_zero_iff.2 (List.isEmpty_iff.1 h)) (by omega) (fun k _ => ctrV_as (ctrV [.pointer (some ⟨(q101 100), 0, none⟩)] (sfind1_ctr (na := (xs.getD k dXr).F.name) (ka := (xs.getD k dXr).F.key) (qa := (xs.getD k dXr).qa) (ca := (xs.getD k dXr).ca) (za := (xs.getD k dXr).za) (xa := (xs.getD k dXr).F.xa) (qA := (xs.getD k dXr).qA) (cA := (xs.getD k dXr).cA) (zA := (xs.getD k dXr).zA) (da := (xs.getD k dXr).da) (q := (q101 100)) (s := s) (tb := 9))))) [3, 1] [(1, 2)] 102 fun _ _ => g0 fun _ => sv 6 (v := .o (.i (idxF xs (fun x => strEq x.F.name s)))) (v' := .o (.i (-1))) (congrArg (fun n => Value.int .i64 n) hn) <| g0 fun _ => cdT (b := decide ((-1) < 0)) (by decide) <| g0 fun _ => rt trivial (()) trivial [3, 0, 4]
theorem sfind_ctr {q qs : Nat} {xs : List Xr} {mS : Md} {s : ByteArray} {j : Nat} (hl : xs.length < 1000000) (hj : j < xs.length) (hn : idxF xs (fun x => strEq x.F.name s) = (j : Int)) (hp : tP (xs.getD j dXr)) : Ctr Tryz.prog nO 71 [.o (.p 1 q 0 0 0), .o (.t s)] [.blk 1 q [.s 2 qs 4 0 xs.length xs.length xs.isEmpty] 145 .own, vc eTb 2 qs xs 46 mS xs.isEmpty, .as (bigA tI xs)] ((Nat) × (Nat) × (List De)) (fun r => r.2.2.map keyD = (xs.getD j dXr).da.map keyD) (fun r => .t [(true, [.t ((xs.getD j dXr).F.name), .s 7 r.1 4 0 ((xs.getD j dXr).F.xa.length) ((xs.getD j dXr).F.xa.length) ((xs.getD j dXr).za), .t ((xs.getD j dXr).F.key), .s 8 r.2.1 2 0 r.2.2.length r.2.2.length ((xs.getD j dXr).zA)]), (false, [.v (.bool true)])]) (fun r => [.blk 1 q [.s 2 qs 4 0 xs.length xs.length xs.isEmpty] 145 .own, vc eTb 2 qs xs 46 mS xs.isEmpty, .as (bigA tI xs), vc eC 7 r.1 ((xs.getD j dXr).F.xa) 130 (mdOf (xs.getD j dXr).F.xa) ((xs.getD j dXr).za), vc (eD 906) 8 r.2.1 r.2.2 161 (mdOf (xs.getD j dXr).da) ((xs.getD j dXr).zA), .as (bigA (lefA 9) r.2.2)]) := by
 refine fs 100 fun B => g0 fun q101 => g0 fun _ => cdF rfl <| g0 fun _ => cl (idxft_ctr (q := qs) (c := xs.length) (z := xs.isEmpty) (xs := xs) (t := 46) (m := mS) (y := .func (.func 115) #[] #[.pointer (some ⟨(q101 100), 0, none⟩)]) (p := (fun x => strEq x.F.name s)) (J := (Ch.den (.blk 100 (q101 100) [.t s] 9 .own))) (fun h => List.length_eq_zero_iff.2 (List.isEmpty_iff.1 h)) (by omega) (fun k _ => ctrV_as (ctrV [.pointer (some ⟨(q101 100), 0, none⟩)] (sfind1_ctr (na := (xs.getD k dXr).F.name) (ka := (xs.getD k dXr).F.key) (qa := (xs.getD k dXr).qa) (ca := (xs.getD k dXr).ca) (za := (xs.getD k dXr).za) (xa := (xs.getD k dXr).F.xa) (qA := (xs.getD k dXr).qA) (cA := (xs.getD k dXr).cA) (zA := (xs.getD k dXr).zA) (da := (xs.getD k dXr).da) (q := (q101 100)) (s := s) (tb := 9))))) [3, 1] [(1, 2)] 102 fun _ _ => g0 fun _ => sv 6 (v := .o (.i (idxF xs (fun x => strEq x.F.name s)))) (v' := .o (.i (j : Int))) (congrArg (fun n => Value.int .i64 n) hn) <| g0 fun _ => cdF (b := decide ((j : Int) < 0)) (decide_eq_false (by omega)) <| go (fun _ => (o4 (nz j) (by omega : (j : Int) < (xs.length : Int)) (zfe (by omega) : xs.isEmpty = false) (by omega : j < xs.length))) fun _ => gh (big_out (I := tI) (l := xs) j dXr hj) [4] [] 102 fun _ _ => gh (ge_un (l := tL (xs.getD j dXr))) [0] [] 102 fun _ _ => cl (@copied_ctr _ ((xs.getD j dXr).F.name) ((xs.getD j dXr).F.key) ((xs.getD j dXr).qa) ((xs.getD j dXr).ca) ((xs.getD j dXr).za) ((xs.getD j dXr).F.xa) ((xs.getD j dXr).ta) .imm ((xs.getD j dXr).qA) ((xs.getD j dXr).cA) ((xs.getD j dXr).zA) ((xs.getD j dXr).da) ((xs.getD j dXr).tA) .imm hp.za (by have := hp.fm.xl; omega) hp.zA (by have := hp.dl; omega) hp.dd) [0, 1, 2] [(1, 931), (3, 932), (7, 102), (8, 103)] 104 fun ⟨qc2107, qd2107, d2107⟩ hk2 => g0 fun _ => gh (ge_all (l := tL (xs.getD j dXr))) [0, 1, 2] [] 104 fun _ _ => gh (big_bk (I := tI) (l := xs) j dXr hj) [0, 4] [] 104 fun _ _ => rt trivial (⟨qc2107, qd2107, d2107⟩) hk2 [7, 4, 0, 1, 2, 3]
end Go.Proofs.YtagidoadfajpgaaGreat
namespace Go.Proofs.YtagidoadfajpgaaGreat
set_option maxHeartbeats 4000000
open Go.Abs
variable {nO : Nat}
set_option maxRecDepth 100000
attribute [local irreducible] GP ruP ruN nxP acS gst cdP loP invS ent1 ent2 enP caA resV lgP agN
theorem nam_succ {xs : List Xr} {i : Nat} (h : i < xs.length) : ((xs.take (i + 1)).map fun x => x.F.name) = ((xs.take i).map fun x => x.F.name) ++ [(xs.getD i dXr).F.name] := by
 rw [List.take_add_one, List.getElem?_eq_getElem h, List.map_append, getD_at h]; rfl
theorem snames_ctr {q qs : Nat} {xs : List Xr} {mS : Md} (hl : xs.length < 1000000) : Ctr Tryz.prog nO 38 [.o (.p 1 q 0 0 0)] [.blk 1 q [.s 2 qs 4 0 xs.length xs.length xs.isEmpty] 145 .own, vc eTb 2 qs xs 46 mS xs.isEmpty, .as (bigA tI xs)] ((Nat)) (fun _ => True) (fun r => .o (.s 5 r 1 0 (((xs.take xs.length).map fun x => x.F.name).length) (((xs.take xs.length).map fun x => x.F.name).length) (((xs.take xs.length).map fun x => x.F.name).isEmpty))) (fun r => [.blk 1 q [.s 2 qs 4 0 xs.length xs.length xs.isEmpty] 145 .own, vc eTb 2 qs xs 46 mS xs.isEmpty, .as (bigA tI xs), vc eS 5 r ((xs.take xs.length).map fun x => x.F.name) 9 .grown (((xs.take xs.length).map fun x => x.F.name).isEmpty)]) := by
 refine fs 100 fun B => g0 fun _ => g0 fun _ => cdF rfl <| g0 fun _ => g0 fun _ => gh (nil_vec 100 1 eS.f eS.d 9 .grown) [] [] 101 fun _ _ => sv 3 (v := .o (.v (.slice none 0 0))) (v' := .o (.s 100 0 1 0 (((xs.take 0).map fun x => x.F.name).length) (((xs.take 0).map fun x => x.F.name).length) (((xs.take 0).map fun x => x.F.name).isEmpty))) rfl <| lp ((Nat) × (Nat)) [11, 12] (fun r => [(13, .o (.i (r.1 : Int))), (3, .o (.s 100 r.2 1 0 (((xs.take r.1).map fun x => x.F.name).length) (((xs.take r.1).map fun x => x.F.name).length) (((xs.take r.1).map fun x => x.F.name).isEmpty)))]) [1, 2, 3] (fun r => [vc eS 100 r.2 ((xs.take r.1).map fun x => x.F.name) 9 .grown (((xs.take r.1).map fun x => x.F.name).isEmpty)]) 121 (fun r => r.1 <= xs.length) (fun r => xs.length - r.1) (⟨0, 0⟩) (Nat.zero_le _) [0] (fun ⟨i, pq⟩ hx ag105 => ?_)
 try dsimp only at hx
 have hi := hx
 refine g0 fun _ => cdD ((i : Int) < (xs.length : Int)) (fun h1 => ?_) (fun h1 => ?_)
 ·have hnl : ((xs.take i).map fun x => x.F.name).length = i := by rw [List.length_map, List.length_take]; omega
  refine go (fun q107 => (o4 (nz i) (by omega : (i : Int) < (xs.length : Int)) (zfe (by omega) : xs.isEmpty = false) (by omega : i < xs.length))) fun q107 => g0 fun q108 => apd eS ((xs.take i).map fun x => x.F.name) [(xs.getD i dXr).F.name] ((xs.take (i + 1)).map fun x => x.F.name) 100 pq .grown (((xs.take i).map fun x => x.F.name).isEmpty) (((xs.take (i + 1)).map fun x => x.F.name).isEmpty) (.blk 122 (q108 122) [.t ((xs.getD i dXr).F.name)] 9 .own) (q108 122) 0 1 1 false 123 [2, 0] 124 9 (fun h _ => ne_of h) (by simp only [List.length_cons, List.length_nil]; omega) (src_one rfl) (by rw [nam_succ (by omega)]; simp) (nam_succ (by omega)) fun q109 => g0 fun _ => go (fun _ => (o2 (by omega : -9223372036854775808 <= (i : Int) + 1) (by omega : (i : Int) + 1 < 9223372036854775808))) fun _ => ag105 _ _ (⟨i + 1, q109⟩) (by first | omega | (simp only; omega)) (by dsimp only; exact (by omega)) [0, 3, 4, 5] (by kernel_rfl) (by kernel_rfl)
 ·have hie : i = xs.length := by omega
  refine gh (ge_re (l := [vc eS 100 pq ((xs.take i).map fun x => x.F.name) 9 .grown (((xs.take i).map fun x => x.F.name).isEmpty)]) (l' := [vc eS 100 pq ((xs.take xs.length).map fun x => x.F.name) 9 .grown (((xs.take xs.length).map fun x => x.F.name).isEmpty)]) (by rw [hie])) [0] [] 121 fun _ _ => g0 fun _ => rtv trivial (pq) trivial [1, 2, 3, 0] (.o (.s 100 pq 1 0 (((xs.take i).map fun x => x.F.name).length) (((xs.take i).map fun x => x.F.name).length) (((xs.take i).map fun x => x.F.name).isEmpty))) (by rw [hie]; rfl)
theorem snew_ctr   : Ctr Tryz.prog nO 90 [] [] ((Nat)) (fun _ => True) (fun r => .o (.p 1 r 0 0 0)) (fun r => [.blk 1 r [.s 2 0 4 0 (([] : List Xr).length) (([] : List Xr).length) (([] : List Xr).isEmpty)] 145 .own, vc eTb 2 0 ([] : List Xr) 46 .grown (([] : List Xr).isEmpty), .as (bigA tI ([] : List Xr))]) := by
 refine fs 100 fun B => g0 fun _ => g0 fun q102 => gh (ge_re (l := [.blk 100 (q102 100) [.v (.slice none 0 0)] 145 .own]) (l' := [.blk 100 (q102 100) [.s 2 0 4 0 (([] : List Xr).length) (([] : List Xr).length) (([] : List Xr).isEmpty)] 145 .own]) (by rfl)) [0] [] 101 fun _ _ => gh (nil_vec 2 4 eTb.f eTb.d 46 .grown) [] [] 101 fun _ _ => gh (big_nil (I := tI)) [] [] 101 fun _ _ => rt trivial ((q102 100)) trivial [2, 1, 0]
def mpL (zs : List (Nat × Fm × Ts)) : List (ByteArray × Nat) := zs.map fun z => (z.2.1.name, z.1)
def tabI (k : Nat) (z : Nat × Fm × Ts) : As := tabA z.1 z.2.1 z.2.2 k
def dZ : Nat × Fm × Ts := (0, ⟨⟨#[]⟩, ⟨#[]⟩, [], []⟩, ⟨[], 0⟩)
theorem ba_iff {a b : ByteArray} : (a == b) = true ↔ a = b := by
 cases a with | mk x =>
 cases b with | mk y =>
 have e : ((⟨x⟩ : ByteArray) == ⟨y⟩) = (x == y) := by rfl
 rw [e]
 simp
theorem getM_idx {zs : List (Nat × Fm × Ts)} {s : ByteArray} : getM (mpL zs) s = match idxF (zs.map fun z => z.2.1) (fun F => strEq F.name s) with
  | .ofNat j => some (zs.getD j dZ).1
  | .negSucc _ => none := by
 induction zs with
 | nil => rfl
 | cons z zs ih =>
  show (if s == z.2.1.name then some z.1 else getM (mpL zs) s) = _
  unfold idxF at ih ⊢
  rw [List.map_cons, List.findIdx?_cons]
  by_cases h : strEq z.2.1.name s = true
  ·have e := strEq_iff.1 h
   rw [h]
   subst e
   rw [if_pos (ba_iff.2 rfl)]
   rfl
  ·have hs : (s == z.2.1.name) = false := by
    cases e : (s == z.2.1.name) with
    | false => rfl
    | true => exact absurd (strEq_iff.2 (ba_iff.1 e).symm) h
   rw [hs]
   simp only [Bool.false_eq_true, if_false, Bool.eq_false_iff.2 h]
   rw [ih]
   cases List.findIdx? (fun F => strEq F.name s) (zs.map fun z => z.2.1) <;> rfl
theorem dschema_ctr {q qs qm : Nat}  : Ctr Tryz.prog nO 37 [.o (.p 1 q 0 0 0)] [.blk 1 q [.p 2 qs 0 0 0, .v (.map (some qm))] 115 .own] (Unit) (fun _ => True) (fun r => .o (.p 2 qs 0 0 0)) (fun r => [.blk 1 q [.p 2 qs 0 0 0, .v (.map (some qm))] 115 .own]) := by
 refine fs 100 fun B => g0 fun _ => g0 fun _ => cdF rfl <| g0 fun _ => rt trivial (()) trivial [0]
theorem dtabN_ctr {q qs qm : Nat} {zs : List (Nat × Fm × Ts)} {s : ByteArray} (hn : idxF (zs.map fun z => z.2.1) (fun F => strEq F.name s) = -1) : Ctr Tryz.prog nO 39 [.o (.p 1 q 0 0 0), .o (.t s)] [.blk 1 q [.p 2 qs 0 0 0, .v (.map (some qm))] 115 .own, .as (mapA qm (mpL zs))] (Unit) (fun _ => True) (fun r => .o (.v (.pointer none))) (fun r => [.blk 1 q [.p 2 qs 0 0 0, .v (.map (some qm))] 115 .own, .as (mapA qm (mpL zs))]) := by
 refine fs 100 fun B => g0 fun _ => g0 fun _ => cdF rfl <| g0 fun _ => lkp qm (mpL zs) s (.o (.v (.pointer none))) [1] (by rw [getM_idx, hn]; rfl) <| g0 fun _ => rt trivial (()) trivial [1, 0]
theorem dtab_ctr {q qs qm : Nat} {zs : List (Nat × Fm × Ts)} {s : ByteArray} {j : Nat} (hn : idxF (zs.map fun z => z.2.1) (fun F => strEq F.name s) = (j : Int)) : Ctr Tryz.prog nO 39 [.o (.p 1 q 0 0 0), .o (.t s)] [.blk 1 q [.p 2 qs 0 0 0, .v (.map (some qm))] 115 .own, .as (mapA qm (mpL zs))] (Unit) (fun _ => True) (fun r => .o (.p 7 ((zs.getD j dZ).1) 0 0 0)) (fun r => [.blk 1 q [.p 2 qs 0 0 0, .v (.map (some qm))] 115 .own, .as (mapA qm (mpL zs))]) := by
 refine fs 100 fun B => g0 fun _ => g0 fun _ => cdF rfl <| g0 fun _ => lkp qm (mpL zs) s (.o (.p 7 ((zs.getD j dZ).1) 0 0 0)) [1] (by rw [getM_idx, hn]; rfl) <| g0 fun _ => rt trivial (()) trivial [1, 0]
theorem dnew_ctr   : Ctr Tryz.prog nO 33 [] [] ((Nat) × (Nat) × (Nat)) (fun _ => True) (fun r => .o (.p 1 r.1 0 0 0)) (fun r => [.blk 1 r.1 [.p 2 r.2.1 0 0 0, .v (.map (some r.2.2))] 115 .own, .blk 2 r.2.1 [.s 3 0 4 0 (([] : List Xr).length) (([] : List Xr).length) (([] : List Xr).isEmpty)] 145 .own, vc eTb 3 0 ([] : List Xr) 46 .grown (([] : List Xr).isEmpty), .as (bigA tI ([] : List Xr)), .as (mapA r.2.2 (mpL []))]) := by
 refine fs 100 fun B => g0 fun _ => cl (snew_ctr ) [] [(1, 100), (2, 101)] 102 fun q103 _ => mkm 102 fun q105 => g0 fun q106 => gh (ge_re (l := [.as (mapA q105 [])]) (l' := [.as (mapA q105 (mpL []))]) rfl) [1] [] 103 fun _ _ => rt trivial (⟨(q106 102), q103, q105⟩) trivial [1, 2, 3, 4, 0]
end Go.Proofs.YtagidoadfajpgaaGreat
namespace Go.Proofs.YtagidoadfajpgaaGreat
set_option maxHeartbeats 4000000
open Go.Abs
variable {nO : Nat}
set_option maxRecDepth 100000
attribute [local irreducible] GP ruP ruN nxP acS gst cdP loP invS ent1 ent2 enP caA resV lgP agN
def kws : List ByteArray := [⟨#[116, 97, 98, 108, 101]⟩, ⟨#[107, 101, 121]⟩, ⟨#[102, 100]⟩, ⟨#[105, 110, 116]⟩, ⟨#[116, 101, 120, 116]⟩, ⟨#[109, 117, 115, 116]⟩, ⟨#[116, 111]⟩, ⟨#[108, 111, 97, 100]⟩, ⟨#[105, 110, 115, 101, 114, 116]⟩, ⟨#[100, 101, 108, 101, 116, 101]⟩, ⟨#[117, 112, 100, 97, 116, 101]⟩, ⟨#[115, 117, 109, 109, 97, 114, 121]⟩, ⟨#[111, 110]⟩, ⟨#[98, 121]⟩, ⟨#[107, 101, 101, 112]⟩, ⟨#[100, 114, 111, 112]⟩, ⟨#[102, 114, 111, 109]⟩, ⟨#[119, 104, 101, 114, 101]⟩, ⟨#[97, 110, 100]⟩, ⟨#[105, 115]⟩, ⟨#[110, 111, 116]⟩, ⟨#[110, 117, 108, 108]⟩, ⟨#[114, 111, 108, 108, 117, 112]⟩, ⟨#[99, 117, 98, 101]⟩, ⟨#[115, 104, 111, 119]⟩, ⟨#[104, 97, 118, 105, 110, 103]⟩, ⟨#[111, 114, 100, 101, 114]⟩, ⟨#[100, 101, 115, 99]⟩, ⟨#[108, 105, 109, 105, 116]⟩, ⟨#[117, 115, 105, 110, 103]⟩, ⟨#[98, 97, 115, 101]⟩, ⟨#[99, 111, 117, 110, 116]⟩, ⟨#[115, 117, 109]⟩, ⟨#[109, 105, 110]⟩, ⟨#[109, 97, 120]⟩, ⟨#[97, 118, 103]⟩, ⟨#[100, 105, 115, 116, 105, 110, 99, 116]⟩, ⟨#[114, 111, 119, 115]⟩]
def digB (b : Int) : Bool := and (decide (b ≥ 48)) (decide (b <= 57))
def letB (b : Int) : Bool := or (and (decide (b ≥ 97)) (decide (b <= 122))) (b == 95)
structure NmP (s : ByteArray) : Prop where
 ne : 0 < s.size
 le : s.size <= 12
 dig : digB ((byteAt s 0).toNat : Int) = false
 kw : ∀ i, i < 38 -> strEq s (kws.getD i ⟨#[]⟩) = false
 ch : ∀ i, i < s.size -> or (letB ((byteAt s i).toNat : Int)) (digB ((byteAt s i).toNat : Int)) = true
def nmB (s : ByteArray) : Bool := and (and (decide (0 < s.size)) (decide (s.size <= 12))) (and (!digB ((byteAt s 0).toNat : Int)) (and ((List.range 38).all fun i => !strEq s (kws.getD i ⟨#[]⟩)) ((List.range s.size).all fun i => or (letB ((byteAt s i).toNat : Int)) (digB ((byteAt s i).toNat : Int)))))
theorem nmB_ok {s : ByteArray} (h : nmB s = true) : NmP s := by
 unfold nmB at h
 simp only [Bool.and_eq_true, decide_eq_true_eq, Bool.not_eq_true', List.all_eq_true, List.mem_range] at h
 exact ⟨h.1.1, h.1.2, h.2.1, h.2.2.1, h.2.2.2⟩
theorem NmP.emp {s : ByteArray} (h : NmP s) : strEq s ⟨#[]⟩ = false := by
 cases e : strEq s ⟨#[]⟩ with
 | false => rfl
 | true =>
  have := strEq_iff.1 e
  subst this
  exact absurd h.ne (by decide)
theorem strEq_comm {a b : ByteArray} : strEq a b = strEq b a := by
 cases e : strEq a b with
 | true => rw [strEq_iff.1 e, strEq_self]
 | false =>
  cases f : strEq b a with
  | false => rfl
  | true => rw [strEq_iff.1 f, strEq_self] at e; cases e
theorem vdig_ctr {b : Int}  : Ctr Tryz.prog nO 180 [.o (.v (.int .u8 b))] [] (Unit) (fun _ => True) (fun r => .o (.cb (digB b))) (fun r => []) := by
 refine fs 100 fun B => g0 fun _ => g0 fun _ => rtv trivial (()) trivial [] (.o (.cb (and (decide (b ≥ 48)) (decide (b <= 57))))) rfl
theorem vlet_ctr {b : Int}  : Ctr Tryz.prog nO 182 [.o (.v (.int .u8 b))] [] (Unit) (fun _ => True) (fun r => .o (.cb (letB b))) (fun r => []) := by
 refine fs 100 fun B => g0 fun _ => g0 fun _ => rtv trivial (()) trivial [] (.o (.cb (or (and (decide (b ≥ 97)) (decide (b <= 122))) (b == 95)))) rfl
theorem rdig_ctr {b : Int}  : Ctr Tryz.prog nO 190 [.o (.v (.int .u8 b))] [] (Unit) (fun _ => True) (fun r => .o (.cb (digB b))) (fun r => []) := by
 refine fs 100 fun B => g0 fun _ => g0 fun _ => rtv trivial (()) trivial [] (.o (.cb (and (decide (b ≥ 48)) (decide (b <= 57))))) rfl
theorem rletT {b : Int} (hb : (b == 95) = true) : Ctr Tryz.prog nO 192 [.o (.v (.int .u8 b))] [] (Unit) (fun _ => True) (fun r => .o (.cb (letB b))) (fun r => []) := by
 refine fs 100 fun B => g0 fun _ => goN 3 (fun _ => trivial) fun _ => sv 5 (v := .o (.cb (b == 95))) (v' := .o (.v (.bool true))) (congrArg Value.bool hb) <| g0 fun _ => rtv trivial (()) trivial [] (.o (.v (.bool true))) (congrArg Value.bool (by unfold letB; rw [hb]; simp))
theorem rletF {b : Int} (hb : (b == 95) = false) : Ctr Tryz.prog nO 192 [.o (.v (.int .u8 b))] [] (Unit) (fun _ => True) (fun r => .o (.cb (letB b))) (fun r => []) := by
 refine fs 100 fun B => g0 fun _ => goN 3 (fun _ => trivial) fun _ => sv 5 (v := .o (.cb (b == 95))) (v' := .o (.v (.bool false))) (congrArg Value.bool hb) <| g0 fun _ => rtv trivial (()) trivial [] (.o (.cb (and (decide (b ≥ 97)) (decide (b <= 122))))) (congrArg Value.bool (by unfold letB; rw [hb]; simp))
theorem rlet_ctr {b : Int} : Ctr Tryz.prog nO 192 [.o (.v (.int .u8 b))] [] (Unit) (fun _ => True) (fun r => .o (.cb (letB b))) (fun r => []) := by
 cases h : (b == 95) with
 | true => exact rletT h
 | false => exact rletF h
theorem vkey_ctr {s : ByteArray} (hs : NmP s) : Ctr Tryz.prog nO 181 [.o (.t s)] [] (Unit) (fun _ => True) (fun r => .o (.v (.bool false))) (fun r => []) := by
 refine fs 100 fun B => g0 fun _ => g0 fun _ => g0 fun _ => cdF (b := strEq s ⟨#[116, 97, 98, 108, 101]⟩) (hs.kw 0 (by decide)) <| g0 fun _ => cdF (b := strEq s ⟨#[107, 101, 121]⟩) (hs.kw 1 (by decide)) <| g0 fun _ => cdF (b := strEq s ⟨#[102, 100]⟩) (hs.kw 2 (by decide)) <| g0 fun _ => cdF (b := strEq s ⟨#[105, 110, 116]⟩) (hs.kw 3 (by decide)) <| g0 fun _ => cdF (b := strEq s ⟨#[116, 101, 120, 116]⟩) (hs.kw 4 (by decide)) <| g0 fun _ => cdF (b := strEq s ⟨#[109, 117, 115, 116]⟩) (hs.kw 5 (by decide)) <| g0 fun _ => cdF (b := strEq s ⟨#[116, 111]⟩) (hs.kw 6 (by decide)) <| g0 fun _ => cdF (b := strEq s ⟨#[108, 111, 97, 100]⟩) (hs.kw 7 (by decide)) <| g0 fun _ => cdF (b := strEq s ⟨#[105, 110, 115, 101, 114, 116]⟩) (hs.kw 8 (by decide)) <| g0 fun _ => cdF (b := strEq s ⟨#[100, 101, 108, 101, 116, 101]⟩) (hs.kw 9 (by decide)) <| g0 fun _ => cdF (b := strEq s ⟨#[117, 112, 100, 97, 116, 101]⟩) (hs.kw 10 (by decide)) <| g0 fun _ => cdF (b := strEq s ⟨#[115, 117, 109, 109, 97, 114, 121]⟩) (hs.kw 11 (by decide)) <| g0 fun _ => cdF (b := strEq s ⟨#[111, 110]⟩) (hs.kw 12 (by decide)) <| g0 fun _ => cdF (b := strEq s ⟨#[98, 121]⟩) (hs.kw 13 (by decide)) <| g0 fun _ => cdF (b := strEq s ⟨#[107, 101, 101, 112]⟩) (hs.kw 14 (by decide)) <| g0 fun _ => cdF (b := strEq s ⟨#[100, 114, 111, 112]⟩) (hs.kw 15 (by decide)) <| g0 fun _ => cdF (b := strEq s ⟨#[102, 114, 111, 109]⟩) (hs.kw 16 (by decide)) <| g0 fun _ => cdF (b := strEq s ⟨#[119, 104, 101, 114, 101]⟩) (hs.kw 17 (by decide)) <| g0 fun _ => cdF (b := strEq s ⟨#[97, 110, 100]⟩) (hs.kw 18 (by decide)) <| g0 fun _ => cdF (b := strEq s ⟨#[105, 115]⟩) (hs.kw 19 (by decide)) <| g0 fun _ => cdF (b := strEq s ⟨#[110, 111, 116]⟩) (hs.kw 20 (by decide)) <| g0 fun _ => cdF (b := strEq s ⟨#[110, 117, 108, 108]⟩) (hs.kw 21 (by decide)) <| g0 fun _ => cdF (b := strEq s ⟨#[114, 111, 108, 108, 117, 112]⟩) (hs.kw 22 (by decide)) <| g0 fun _ => cdF (b := strEq s ⟨#[99, 117, 98, 101]⟩) (hs.kw 23 (by decide)) <| g0 fun _ => cdF (b := strEq s ⟨#[115, 104, 111, 119]⟩) (hs.kw 24 (by decide)) <| g0 fun _ => cdF (b := strEq s ⟨#[104, 97, 118, 105, 110, 103]⟩) (hs.kw 25 (by decide)) <| g0 fun _ => cdF (b := strEq s ⟨#[111, 114, 100, 101, 114]⟩) (hs.kw 26 (by decide)) <| g0 fun _ => cdF (b := strEq s ⟨#[100, 101, 115, 99]⟩) (hs.kw 27 (by decide)) <| g0 fun _ => cdF (b := strEq s ⟨#[108, 105, 109, 105, 116]⟩) (hs.kw 28 (by decide)) <| g0 fun _ => cdF (b := strEq s ⟨#[117, 115, 105, 110, 103]⟩) (hs.kw 29 (by decide)) <| g0 fun _ => cdF (b := strEq s ⟨#[98, 97, 115, 101]⟩) (hs.kw 30 (by decide)) <| g0 fun _ => cdF (b := strEq s ⟨#[99, 111, 117, 110, 116]⟩) (hs.kw 31 (by decide)) <| g0 fun _ => cdF (b := strEq s ⟨#[115, 117, 109]⟩) (hs.kw 32 (by decide)) <| g0 fun _ => cdF (b := strEq s ⟨#[109, 105, 110]⟩) (hs.kw 33 (by decide)) <| g0 fun _ => cdF (b := strEq s ⟨#[109, 97, 120]⟩) (hs.kw 34 (by decide)) <| g0 fun _ => cdF (b := strEq s ⟨#[97, 118, 103]⟩) (hs.kw 35 (by decide)) <| g0 fun _ => cdF (b := strEq s ⟨#[100, 105, 115, 116, 105, 110, 99, 116]⟩) (hs.kw 36 (by decide)) <| g0 fun _ => cdF (b := strEq s ⟨#[114, 111, 119, 115]⟩) (hs.kw 37 (by decide)) <| g0 fun _ => rt trivial (()) trivial []
theorem vname_ctr {s : ByteArray} (hs : NmP s) : Ctr Tryz.prog nO 157 [.o (.t s)] [] (Unit) (fun _ => True) (fun r => .o (.v (.bool true))) (fun r => []) := by
 refine fs 100 (fun B => ?_)
 have hne := hs.ne
 have hle := hs.le
 refine g0 fun _ => goN 3 (fun _ => trivial) fun _ => sv 6 (v := .o (.cb (strEq s ⟨#[]⟩))) (v' := .o (.v (.bool false))) (congrArg Value.bool hs.emp) <| goN 5 (fun _ => trivial) fun _ => sv 11 (v := .o (.cb (decide ((s.size : Int) > 12)))) (v' := .o (.v (.bool false))) (congrArg Value.bool (decide_eq_false (by omega))) <| go (fun _ => (o2 (by omega : (0 : Int) <= 0) (by omega : (0 : Int) < ((s.size : Nat) : Int)))) fun _ => cl (@vdig_ctr _ ((byteAt s 0).toNat : Int)) [] [] 100 fun _ _ => goN 2 (fun _ => trivial) fun _ => sv 16 (v := .o (.cb (digB ((byteAt s 0).toNat : Int)))) (v' := .o (.v (.bool false))) (congrArg Value.bool hs.dig) <| g0 fun _ => cl (@vkey_ctr _ s (by assumption)) [] [] 100 fun _ _ => g0 fun _ => cdF rfl <| g0 fun _ => lp ((Nat)) [0, 21] (fun r => [(22, .o (.i (r : Int)))]) [] (fun _ => []) 120 (fun r => r <= s.size) (fun r => s.size - r) (0) (Nat.zero_le _) [] fun i hx ag111 => g0 fun _ => cdD ((i : Int) < (s.size : Int)) (fun h2 => ?_) (fun h2 => ?_)
 ·have hch := hs.ch i (by omega)
  refine g0 fun _ => go (fun _ => (o2 (nz i) (by omega : (i : Int) < ((s.size : Nat) : Int)))) fun _ => cl (@vlet_ctr _ ((byteAt s i).toNat : Int)) [] [] 120 fun _ _ => goN 2 (fun _ => trivial) fun _ => go (fun _ => (o1 (fun (he : (!(letB ((byteAt s i).toNat : Int))) = true) => have he : ¬ ((letB ((byteAt s i).toNat : Int)) = true) := (by simpa using he); (o2 (nz i) (by omega : (i : Int) < ((s.size : Nat) : Int)))))) fun _ => clm (@vdig_ctr _ ((byteAt s i).toNat : Int)) [] trivial <| g0 fun _ => cdF (b := and (!(letB ((byteAt s i).toNat : Int))) (!(digB ((byteAt s i).toNat : Int)))) (by have h := hch; revert h; cases letB ((byteAt s i).toNat : Int) <;> cases digB ((byteAt s i).toNat : Int) <;> decide) <| go (fun _ => (o2 (by omega : -9223372036854775808 <= (i : Int) + 1) (by omega : (i : Int) + 1 < 9223372036854775808))) fun _ => ag111 _ _ (i + 1) (by first | omega | (simp only; omega)) (by omega) [] (by kernel_rfl) (by kernel_rfl)
 ·refine g0 fun _ => rt trivial (()) trivial []
theorem rword_ctr {s : ByteArray} (hs : NmP s) : Ctr Tryz.prog nO 191 [.o (.t s)] [] (Unit) (fun _ => True) (fun r => .o (.v (.bool false))) (fun r => []) := by
 refine fs 100 fun B => g0 fun _ => g0 fun q102 => gh (blk_vec (g := 100) (q := (q102 100)) (cs := [.t ⟨#[116, 97, 98, 108, 101]⟩, .t ⟨#[107, 101, 121]⟩, .t ⟨#[102, 100]⟩, .t ⟨#[105, 110, 116]⟩, .t ⟨#[116, 101, 120, 116]⟩, .t ⟨#[109, 117, 115, 116]⟩, .t ⟨#[116, 111]⟩, .t ⟨#[108, 111, 97, 100]⟩, .t ⟨#[105, 110, 115, 101, 114, 116]⟩, .t ⟨#[100, 101, 108, 101, 116, 101]⟩, .t ⟨#[117, 112, 100, 97, 116, 101]⟩, .t ⟨#[115, 117, 109, 109, 97, 114, 121]⟩, .t ⟨#[111, 110]⟩, .t ⟨#[98, 121]⟩, .t ⟨#[107, 101, 101, 112]⟩, .t ⟨#[100, 114, 111, 112]⟩, .t ⟨#[102, 114, 111, 109]⟩, .t ⟨#[119, 104, 101, 114, 101]⟩, .t ⟨#[97, 110, 100]⟩, .t ⟨#[105, 115]⟩, .t ⟨#[110, 111, 116]⟩, .t ⟨#[110, 117, 108, 108]⟩, .t ⟨#[114, 111, 108, 108, 117, 112]⟩, .t ⟨#[99, 117, 98, 101]⟩, .t ⟨#[115, 104, 111, 119]⟩, .t ⟨#[104, 97, 118, 105, 110, 103]⟩, .t ⟨#[111, 114, 100, 101, 114]⟩, .t ⟨#[100, 101, 115, 99]⟩, .t ⟨#[108, 105, 109, 105, 116]⟩, .t ⟨#[117, 115, 105, 110, 103]⟩, .t ⟨#[98, 97, 115, 101]⟩, .t ⟨#[99, 111, 117, 110, 116]⟩, .t ⟨#[115, 117, 109]⟩, .t ⟨#[109, 105, 110]⟩, .t ⟨#[109, 97, 120]⟩, .t ⟨#[97, 118, 103]⟩, .t ⟨#[100, 105, 115, 116, 105, 110, 99, 116]⟩, .t ⟨#[114, 111, 119, 115]⟩]) (t := 9) (m := .own) eS kws) [0] [] 101 fun _ _ => g0 fun _ => lp ((Nat)) [0, 3] (fun r => [(4, .o (.i (r : Int)))]) [0] (fun _ => []) 121 (fun r => r <= 38) (fun r => 38 - r) (0) (Nat.zero_le _) [] (fun i hx ag104 => ?_)
 have hkl : kws.length = 38 := rfl
 refine g0 fun _ => cdD ((i : Int) < 38) (fun h1 => ?_) (fun h1 => ?_)
 ·refine go (fun _ => (o4 (nz i) (by omega : (i : Int) < 38) (rfl : false = _) (by omega : i < kws.length))) fun _ => cdF (b := strEq (kws.getD i eS.d) s) (strEq_comm.trans (hs.kw i (by omega))) <| go (fun _ => (o2 (by omega : -9223372036854775808 <= (i : Int) + 1) (by omega : (i : Int) + 1 < 9223372036854775808))) fun _ => ag104 _ _ (i + 1) (by first | omega | (simp only; omega)) (by omega) [0] (by kernel_rfl) (by kernel_rfl)
 ·refine g0 fun _ => rt trivial (()) trivial []
theorem rname_ctr {s : ByteArray} (hs : NmP s) : Ctr Tryz.prog nO 168 [.o (.t s)] [] (Unit) (fun _ => True) (fun r => .o (.v (.bool true))) (fun r => []) := by
 refine fs 100 (fun B => ?_)
 have hne := hs.ne
 have hle := hs.le
 refine g0 fun _ => goN 4 (fun _ => trivial) fun _ => sv 7 (v := .o (.cb (decide ((s.size : Int) < 1)))) (v' := .o (.v (.bool false))) (congrArg Value.bool (decide_eq_false (by omega))) <| goN 5 (fun _ => trivial) fun _ => sv 12 (v := .o (.cb (decide ((s.size : Int) > 12)))) (v' := .o (.v (.bool false))) (congrArg Value.bool (decide_eq_false (by omega))) <| go (fun _ => (o2 (by omega : (0 : Int) <= 0) (by omega : (0 : Int) < ((s.size : Nat) : Int)))) fun _ => cl (@rdig_ctr _ ((byteAt s 0).toNat : Int)) [] [] 100 fun _ _ => goN 2 (fun _ => trivial) fun _ => sv 17 (v := .o (.cb (digB ((byteAt s 0).toNat : Int)))) (v' := .o (.v (.bool false))) (congrArg Value.bool hs.dig) <| g0 fun _ => cl (@rword_ctr _ s (by assumption)) [] [] 100 fun _ _ => g0 fun _ => cdF rfl <| g0 fun _ => lp ((Nat)) [0] (fun r => [(3, .o (.i (r : Int)))]) [] (fun _ => []) 120 (fun r => r <= s.size) (fun r => s.size - r) (0) (Nat.zero_le _) [] fun i hx ag111 => g0 fun _ => cdD ((i : Int) < (s.size : Int)) (fun h2 => ?_) (fun h2 => ?_)
 ·have hch := hs.ch i (by omega)
  refine go (fun _ => (o2 (nz i) (by omega : (i : Int) < ((s.size : Nat) : Int)))) fun _ => cl (rlet_ctr (b := ((byteAt s i).toNat : Int))) [] [] 120 fun _ _ => go (fun _ => (o1 (fun (he : (!(letB ((byteAt s i).toNat : Int))) = true) => have he : ¬ ((letB ((byteAt s i).toNat : Int)) = true) := (by simpa using he); (o2 (nz i) (by omega : (i : Int) < ((s.size : Nat) : Int)))))) fun _ => clm (@rdig_ctr _ ((byteAt s i).toNat : Int)) [] trivial <| g0 fun _ => cdF (b := and (!(letB ((byteAt s i).toNat : Int))) (!(digB ((byteAt s i).toNat : Int)))) (by have h := hch; revert h; cases letB ((byteAt s i).toNat : Int) <;> cases digB ((byteAt s i).toNat : Int) <;> decide) <| go (fun _ => (o2 (by omega : -9223372036854775808 <= (i : Int) + 1) (by omega : (i : Int) + 1 < 9223372036854775808))) fun _ => ag111 _ _ (i + 1) (by first | omega | (simp only; omega)) (by omega) [] (by kernel_rfl) (by kernel_rfl)
 ·refine g0 fun _ => rt trivial (()) trivial []
end Go.Proofs.YtagidoadfajpgaaGreat
namespace Go.Proofs.YtagidoadfajpgaaGreat
set_option maxHeartbeats 4000000
open Go.Abs
variable {nO : Nat}
set_option maxRecDepth 100000
attribute [local irreducible] GP ruP ruN nxP acS gst cdP loP invS ent1 ent2 enP caA resV lgP agN
structure DpA (xa : List Cd) (d : De) : Prop where
 l1 : 0 < d.l.length
 l3 : d.l.length <= 3
 li : ∀ i, i < d.l.length -> 0 <= idxF xa (fun c => strEq c.name (d.l.getD i eS.d))
 lu : ∀ i, i < d.l.length -> ∀ j, j < i -> strEq (d.l.getD i eS.d) (d.l.getD j eS.d) = false
 lr : ∀ i, i < d.l.length -> strEq d.r (d.l.getD i eS.d) = false
 ri : 0 <= idxF xa (fun c => strEq c.name d.r)
structure FmA (xs : List Xr) (na ka : ByteArray) (xa : List Cd) (da : List De) : Prop where
 x8 : xs.length < 8
 nm : NmP na
 new : idxF xs (fun x => strEq x.F.name na) = -1
 c1 : 0 < xa.length
 c6 : xa.length <= 6
 d3 : da.length <= 3
 cn : ∀ i, i < xa.length -> NmP (xa.getD i eC.d).name
 cu : ∀ i, i < xa.length -> ∀ j, j < i -> strEq (xa.getD i eC.d).name (xa.getD j eC.d).name = false
 key : strEq ka ⟨#[]⟩ = true ∨ 0 <= idxF xa (fun c => strEq c.name ka)
 kd : ∀ i, i < xa.length -> (xa.getD i eC.d).kind = 1 ∨ (xa.getD i eC.d).kind = 2
 dp : ∀ i, i < da.length -> DpA xa (da.getD i dD)
 rf : ∀ i, i < xa.length -> strEq (xa.getD i eC.d).to ⟨#[]⟩ = true ∨ (strEq (xa.getD i eC.d).to ⟨#[]⟩ = false /\ ∃ j c : Nat, j < xs.length /\ idxF xs (fun x => strEq x.F.name (xa.getD i eC.d).to) = (j : Int) /\ strEq (xs.getD j dXr).F.key ⟨#[]⟩ = false /\ c < (xs.getD j dXr).F.xa.length /\ idxF (xs.getD j dXr).F.xa (fun c => strEq c.name (xs.getD j dXr).F.key) = (c : Int) /\ ((xs.getD j dXr).F.xa.getD c eC.d).kind = (xa.getD i eC.d).kind)
theorem sidx_ctr {q c : Nat} {z : Bool} {n : Nat} {xs : List ByteArray} {t : TypeId} {m : Md} {s : ByteArray} (hz : z = true -> xs.length = 0) (hl : xs.length < 1000000) (hn : n <= xs.length) (hno : ∀ j, j < n -> strEq s (xs.getD j eS.d) = false) : Ctr Tryz.prog nO 218 [.o (.s 1 q 1 0 n c z), .o (.t s)] [vc eS 1 q xs t m z] (Unit) (fun _ => True) (fun r => .o (.i (-1))) (fun r => [vc eS 1 q xs t m z]) := by
 refine fs 100 fun B => g0 fun _ => g0 fun _ => lp ((Nat)) [0, 1, 7] (fun r => [(8, .o (.i (r : Int)))]) [0] (fun _ => []) 120 (fun r => r <= n) (fun r => n - r) (0) (Nat.zero_le _) [] fun i hx ag103 => g0 fun _ => cdD ((i : Int) < (n : Int)) (fun h1 => ?_) (fun h1 => ?_)
 ·refine g0 fun _ => go (fun _ => (o4 (nz i) (by omega : (i : Int) < (n : Int)) (zf hz (show 0 < xs.length by omega) : z = false) (by omega : i < xs.length))) fun _ => cdF (b := strEq s (xs.getD i eS.d)) (hno i (by omega)) <| go (fun _ => (o2 (by omega : -9223372036854775808 <= (i : Int) + 1) (by omega : (i : Int) + 1 < 9223372036854775808))) fun _ => ag103 _ _ (i + 1) (by first | omega | (simp only; omega)) (by omega) [0] (by kernel_rfl) (by kernel_rfl)
 ·refine g0 fun _ => rt trivial (()) trivial [0]
theorem scon_ctr {q c : Nat} {z : Bool} {n : Nat} {xs : List ByteArray} {t : TypeId} {m : Md} {s : ByteArray} (hz : z = true -> xs.length = 0) (hl : xs.length < 1000000) (hn : n <= xs.length) (hno : ∀ j, j < n -> strEq s (xs.getD j eS.d) = false) : Ctr Tryz.prog nO 183 [.o (.s 1 q 1 0 n c z), .o (.t s)] [vc eS 1 q xs t m z] (Unit) (fun _ => True) (fun r => .o (.v (.bool false))) (fun r => [vc eS 1 q xs t m z]) := by
 refine fs 100 fun B => g0 fun _ => g0 fun _ => cl (@sidx_ctr _ q c z n xs t m s hz (by omega) (by omega) hno) [0] [] 100 fun _ _ => g0 fun _ => rtv trivial (()) trivial [0] (.o (.cb (decide ((-1) ≥ 0)))) rfl
theorem stwice_ctr {q c : Nat} {z : Bool} {xs : List ByteArray} {m : Md} (hz : z = true -> xs.length = 0) (hl : xs.length < 1000000) (hcp : xs.length <= c) (hu : ∀ i, i < xs.length -> ∀ j, j < i -> strEq (xs.getD i eS.d) (xs.getD j eS.d) = false) : Ctr Tryz.prog nO 158 [.o (.s 1 q 1 0 xs.length c z)] [vc eS 1 q xs 9 m z] (Unit) (fun _ => True) (fun r => .o (.v (.bool false))) (fun r => [vc eS 1 q xs 9 m z]) := by
 refine fs 100 fun B => g0 fun _ => g0 fun _ => lp ((Nat)) [0, 5, 6] (fun r => [(7, .o (.i (r : Int)))]) [0] (fun _ => []) 120 (fun r => r <= xs.length) (fun r => xs.length - r) (0) (Nat.zero_le _) [] fun i hx ag103 => g0 fun _ => cdD ((i : Int) < (xs.length : Int)) (fun h1 => ?_) (fun h1 => ?_)
 ·refine go (fun _ => (o4 (nz i) (by omega : (i : Int) < (xs.length : Int)) (zf hz (show 0 < xs.length by omega) : z = false) (by omega : i < xs.length))) fun _ => go (fun _ => (o3 (by omega : xs.length <= c) (nz i) (by omega : (i : Int) <= (c : Int)))) fun _ => cl (@scon_ctr _ q c z i xs 9 m (xs.getD i eS.d) hz (by omega) (by omega) (hu i (by omega))) [0] [] 120 fun _ _ => cdF rfl <| go (fun _ => (o2 (by omega : -9223372036854775808 <= (i : Int) + 1) (by omega : (i : Int) + 1 < 9223372036854775808))) fun _ => ag103 _ _ (i + 1) (by first | omega | (simp only; omega)) (by omega) [0] (by kernel_rfl) (by kernel_rfl)
 ·refine g0 fun _ => rt trivial (()) trivial [0]
end Go.Proofs.YtagidoadfajpgaaGreat
namespace Go.Proofs.YtagidoadfajpgaaGreat
set_option maxHeartbeats 4000000
open Go.Abs
variable {nO : Nat}
set_option maxRecDepth 100000
attribute [local irreducible] GP ruP ruN nxP acS gst cdP loP invS ent1 ent2 enP caA resV lgP agN
theorem any_no {α : Type} {l : List α} {p : α -> Bool} {d : α} (h : ∀ i, i < l.length -> p (l.getD i d) = false) : l.any p = false := by
 rw [List.any_eq_false]
 intro x hx
 obtain ⟨i, hi, rfl⟩ := List.getElem_of_mem hx
 have := h i hi
 rw [getD_at hi] at this
 rw [this]; decide
theorem dep1_ctr {na ka : ByteArray} {qa ca : Nat} {za : Bool} {xa : List Cd} {ta : TypeId} {ma : Md} {qA cA : Nat} {zA : Bool} {da : List De} {qb : Nat} {s : ByteArray} (hza : za = true -> xa.length = 0) (hla : xa.length < 1000000) : Ctr Tryz.prog nO 185 [.o (.t s), .o (.p 9 qb 0 0 0)] [.blk 9 qb [.t na, .s 1 qa 4 0 xa.length ca za, .t ka, .s 3 qA 2 0 da.length cA zA] 46 .own, vc eC 1 qa xa ta ma za] (Unit) (fun _ => True) (fun r => .o (.cb (decide (idxF xa (fun c => strEq c.name s) < 0)))) (fun r => [.blk 9 qb [.t na, .s 1 qa 4 0 xa.length ca za, .t ka, .s 3 qA 2 0 da.length cA zA] 46 .own, vc eC 1 qa xa ta ma za]) := by
 refine fs 100 fun B => g0 fun _ => g0 fun _ => cl (@scol_ctr _ na ka qa ca za xa ta ma qA cA zA da s (by assumption) (by omega)) [1] [] 100 fun _ _ => g0 fun _ => rt trivial (()) trivial [1, 0]
theorem idxfs_ctr {q c : Nat} {z : Bool} {xs : List ByteArray} {t : TypeId} {m : Md} {y : Value} {p : ByteArray -> Bool} {J : As} (hz : z = true -> xs.length = 0) (hl : xs.length < 1000000) (hy : ∀ k, k < xs.length -> CtrV Tryz.prog nO y [.o (.t (xs.getD k eS.d))] [.as J] Unit (fun _ => True) (fun _ => .o (.cb (p (xs.getD k eS.d)))) (fun _ => [.as J])) : Ctr Tryz.prog nO 219 [.o (.s 1 q 1 0 xs.length c z), .o (.v y)] [vc eS 1 q xs t m z, .as J] (Unit) (fun _ => True) (fun r => .o (.i (idxF xs p))) (fun r => [vc eS 1 q xs t m z, .as J]) := by
 refine fs 100 fun B => g0 fun _ => g0 fun _ => lp ((Nat)) [0, 1, 7] (fun r => [(8, .o (.i (r : Int)))]) [0, 1] (fun _ => []) 120 (fun r => r <= xs.length /\ ∀ j, j < r -> p (xs.getD j eS.d) = false) (fun r => xs.length - r) (0) ⟨Nat.zero_le _, fun j hj => absurd hj (Nat.not_lt_zero j)⟩ [] (fun i hx ag103 => ?_)
 obtain ⟨hi, hn⟩ := hx
 refine g0 fun _ => cdD ((i : Int) < (xs.length : Int)) (fun h1 => ?_) (fun h1 => ?_)
 ·refine g0 fun _ => go (fun _ => (o4 (nz i) (by omega : (i : Int) < (xs.length : Int)) (zf hz (show 0 < xs.length by omega) : z = false) (by omega : i < xs.length))) fun _ => clv (hy i (by omega)) [1] [] 120 fun _ _ => cd (p (xs.getD i eS.d)) (fun h2 => ?_) (fun h2 => ?_)
  ·refine g0 fun _ => rtv trivial (()) trivial [1, 0] (.o (.i (i : Int))) (congrArg (Value.int .i64) (idxF_some (d := eS.d) (by omega) h2 hn).symm)
  ·refine go (fun _ => (o2 (by omega : -9223372036854775808 <= (i : Int) + 1) (by omega : (i : Int) + 1 < 9223372036854775808))) fun _ => ag103 _ _ (i + 1) (by first | omega | (simp only; omega)) ⟨by omega, fun j hj => by rcases Nat.lt_succ_iff_lt_or_eq.1 hj with h | h; exact hn j h; subst h; exact h2⟩ [1, 0] (by kernel_rfl) (by kernel_rfl)
 ·refine g0 fun _ => rtv trivial (()) trivial [0, 1] (.o (.i (-1))) (congrArg (Value.int .i64) (idxF_none (d := eS.d) (fun j hj => hn j (by omega))).symm)
theorem conff_ctr {q c : Nat} {z : Bool} {xs : List ByteArray} {t : TypeId} {m : Md} {y : Value} {p : ByteArray -> Bool} {J : As} (hz : z = true -> xs.length = 0) (hl : xs.length < 1000000) (hy : ∀ k, k < xs.length -> CtrV Tryz.prog nO y [.o (.t (xs.getD k eS.d))] [.as J] Unit (fun _ => True) (fun _ => .o (.cb (p (xs.getD k eS.d)))) (fun _ => [.as J])) : Ctr Tryz.prog nO 186 [.o (.s 1 q 1 0 xs.length c z), .o (.v y)] [vc eS 1 q xs t m z, .as J] (Unit) (fun _ => True) (fun r => .o (.cb (xs.any p))) (fun r => [vc eS 1 q xs t m z, .as J]) := by
 refine fs 100 fun B => g0 fun _ => g0 fun _ => cl (@idxfs_ctr _ q c z xs t m y p J (by assumption) (by omega) hy) [0, 1] [] 100 fun _ _ => g0 fun _ => rtv trivial (()) trivial [0, 1] (.o (.cb (decide (idxF xs p ≥ 0)))) (congrArg Value.bool idxF_any)
theorem dep_ctr {na ka : ByteArray} {qa ca : Nat} {za : Bool} {xa : List Cd} {ta : TypeId} {ma : Md} {qA cA : Nat} {zA : Bool} {da : List De} {q5 c5 : Nat} {z5 : Bool} {l : List ByteArray} {m5 : Md} {r : ByteArray} {qq : Nat} (hza : za = true -> xa.length = 0) (hla : xa.length < 1000000) (hz5 : z5 = true -> l.length = 0) (hc5 : l.length <= c5) (hd : DpA xa ⟨qq, l, r⟩) : Ctr Tryz.prog nO 161 [.a [.t na, .s 1 qa 4 0 xa.length ca za, .t ka, .s 3 qA 2 0 da.length cA zA], .a [.s 5 q5 1 0 l.length c5 z5, .t r]] [vc eC 1 qa xa ta ma za, vc eS 5 q5 l 9 m5 z5] (Unit) (fun _ => True) (fun r => .o (.v (.bool true))) (fun r => [vc eC 1 qa xa ta ma za, vc eS 5 q5 l 9 m5 z5]) := by
 refine fs 100 (fun B => ?_)
 have hl1 := hd.l1
 have hl3 := hd.l3
 dsimp only at hl1 hl3
 have hri := hd.ri
 dsimp only at hri
 refine g0 fun q101 => g0 fun _ => goN 5 (fun _ => trivial) fun _ => sv 11 (v := .o (.cb (decide ((l.length : Int) > 0)))) (v' := .o (.v (.bool true))) (congrArg Value.bool (decide_eq_true (by omega))) <| goN 6 (fun _ => trivial) fun _ => sv 17 (v := .o (.cb (decide ((l.length : Int) <= 3)))) (v' := .o (.v (.bool true))) (congrArg Value.bool (decide_eq_true (by omega))) <| g0 fun _ => gh (ge_all (l := [.blk 100 (q101 100) [.t na, .s 1 qa 4 0 xa.length ca za, .t ka, .s 3 qA 2 0 da.length cA zA] 46 .own, vc eC 1 qa xa ta ma za])) [1, 2] [] 102 fun _ _ => cl (conff_ctr (q := q5) (c := c5) (z := z5) (xs := l) (t := 9) (m := m5) (y := .func (.func 185) #[] #[.pointer (some ⟨(q101 100), 0, none⟩)]) (p := (fun s => decide (idxF xa (fun c => strEq c.name s) < 0))) (J := (hpA [.blk 100 (q101 100) [.t na, .s 1 qa 4 0 xa.length ca za, .t ka, .s 3 qA 2 0 da.length cA zA] 46 .own, vc eC 1 qa xa ta ma za])) hz5 (by omega) (fun k _ => ctrV_all (ctrV [.pointer (some ⟨(q101 100), 0, none⟩)] (dep1_ctr (na := na) (ka := ka) (qa := qa) (ca := ca) (za := za) (xa := xa) (ta := ta) (ma := ma) (qA := qA) (cA := cA) (zA := zA) (da := da) (qb := (q101 100)) (s := l.getD k eS.d) hza hla)))) [2, 0] [(1, 5)] 102 fun _ _ => gh (ge_un (l := [.blk 100 (q101 100) [.t na, .s 1 qa 4 0 xa.length ca za, .t ka, .s 3 qA 2 0 da.length cA zA] 46 .own, vc eC 1 qa xa ta ma za])) [1] [] 102 fun _ _ => goN 3 (fun _ => trivial) fun _ => sv 24 (v := .o (.cb (!(l.any (fun s => decide (idxF xa (fun c => strEq c.name s) < 0)))))) (v' := .o (.v (.bool true))) (congrArg Value.bool (by rw [any_no (d := eS.d) (fun i hi => decide_eq_false (by have := hd.li i hi; dsimp only at this; omega))]; rfl)) <| g0 fun _ => cl (@stwice_ctr _ q5 c5 z5 l m5 hz5 (by omega) hc5 hd.lu) [2] [(1, 5)] 102 fun _ _ => goN 3 (fun _ => trivial) fun _ => sv 30 (v := .o (.v (.bool true))) (v' := .o (.v (.bool true))) (congrArg Value.bool rfl) <| g0 fun _ => cl (@dep1_ctr _ na ka qa ca za xa ta ma qA cA zA da (q101 100) r hza hla) [1, 2] [(9, 100)] 102 fun _ _ => goN 3 (fun _ => trivial) fun _ => sv 37 (v := .o (.cb (!(decide (idxF xa (fun c => strEq c.name r) < 0))))) (v' := .o (.v (.bool true))) (congrArg Value.bool (by rw [decide_eq_false (by omega)]; rfl)) <| g0 fun _ => cl (@scon_ctr _ q5 c5 z5 l.length l 9 m5 r hz5 (by omega) (by omega) hd.lr) [2] [(1, 5)] 102 fun _ _ => g0 fun _ => rt trivial (()) trivial [2, 0]
end Go.Proofs.YtagidoadfajpgaaGreat
namespace Go.Proofs.YtagidoadfajpgaaGreat
set_option maxHeartbeats 4000000
open Go.Abs
variable {nO : Nat}
set_option maxRecDepth 100000
attribute [local irreducible] GP ruP ruN nxP acS gst cdP loP invS ent1 ent2 enP caA resV lgP agN
theorem cn_succ {xa : List Cd} {i : Nat} (h : i < xa.length) : ((xa.take (i + 1)).map fun c => c.name) = ((xa.take i).map fun c => c.name) ++ [(xa.getD i eC.d).name] := by
 rw [List.take_add_one, List.getElem?_eq_getElem h, List.map_append, getD_at h]; rfl
theorem cn_at {xa : List Cd} {n i : Nat} (h : i < n) (hn : n <= xa.length) : ((xa.take n).map fun c => c.name).getD i eS.d = (xa.getD i eC.d).name := by
 rw [getD_at (by rw [List.length_map, List.length_take]; omega), getD_at (by omega), List.getElem_map, List.getElem_take]
theorem idxfd_ctr {q c : Nat} {z : Bool} {xs : List De} {t : TypeId} {m : Md} {y : Value} {p : De -> Bool} {J : As} (hz : z = true -> xs.length = 0) (hl : xs.length < 1000000) (hy : ∀ k, k < xs.length -> CtrV Tryz.prog nO y [.a [.s 906 (xs.getD k dD).q 1 0 (xs.getD k dD).l.length (xs.getD k dD).l.length false, .t (xs.getD k dD).r]] [.as J] Unit (fun _ => True) (fun _ => .o (.cb (p (xs.getD k dD)))) (fun _ => [.as J])) : Ctr Tryz.prog nO 184 [.o (.s 1 q 2 0 xs.length c z), .o (.v y)] [vc (eD 906) 1 q xs t m z, .as J] (Unit) (fun _ => True) (fun r => .o (.i (idxF xs p))) (fun r => [vc (eD 906) 1 q xs t m z, .as J]) := by
 refine fs 100 fun B => g0 fun _ => g0 fun _ => lp ((Nat)) [0, 1, 7] (fun r => [(8, .o (.i (r : Int)))]) [0, 1] (fun _ => []) 120 (fun r => r <= xs.length /\ ∀ j, j < r -> p (xs.getD j dD) = false) (fun r => xs.length - r) (0) ⟨Nat.zero_le _, fun j hj => absurd hj (Nat.not_lt_zero j)⟩ [] (fun i hx ag103 => ?_)
 obtain ⟨hi, hn⟩ := hx
 refine g0 fun _ => cdD ((i : Int) < (xs.length : Int)) (fun h1 => ?_) (fun h1 => ?_)
 ·refine g0 fun _ => go (fun _ => (o4 (nz i) (by omega : (i : Int) < (xs.length : Int)) (zf hz (show 0 < xs.length by omega) : z = false) (by omega : i < xs.length))) fun _ => clv (hy i (by omega)) [1] [] 120 fun _ _ => cd (p (xs.getD i dD)) (fun h2 => ?_) (fun h2 => ?_)
  ·refine g0 fun _ => rtv trivial (()) trivial [1, 0] (.o (.i (i : Int))) (congrArg (Value.int .i64) (idxF_some (d := dD) (by omega) h2 hn).symm)
  ·refine go (fun _ => (o2 (by omega : -9223372036854775808 <= (i : Int) + 1) (by omega : (i : Int) + 1 < 9223372036854775808))) fun _ => ag103 _ _ (i + 1) (by first | omega | (simp only; omega)) ⟨by omega, fun j hj => by rcases Nat.lt_succ_iff_lt_or_eq.1 hj with h | h; exact hn j h; subst h; exact h2⟩ [1, 0] (by kernel_rfl) (by kernel_rfl)
 ·refine g0 fun _ => rtv trivial (()) trivial [0, 1] (.o (.i (-1))) (congrArg (Value.int .i64) (idxF_none (d := dD) (fun j hj => hn j (by omega))).symm)
theorem confd_ctr {q c : Nat} {z : Bool} {xs : List De} {t : TypeId} {m : Md} {y : Value} {p : De -> Bool} {J : As} (hz : z = true -> xs.length = 0) (hl : xs.length < 1000000) (hy : ∀ k, k < xs.length -> CtrV Tryz.prog nO y [.a [.s 906 (xs.getD k dD).q 1 0 (xs.getD k dD).l.length (xs.getD k dD).l.length false, .t (xs.getD k dD).r]] [.as J] Unit (fun _ => True) (fun _ => .o (.cb (p (xs.getD k dD)))) (fun _ => [.as J])) : Ctr Tryz.prog nO 159 [.o (.s 1 q 2 0 xs.length c z), .o (.v y)] [vc (eD 906) 1 q xs t m z, .as J] (Unit) (fun _ => True) (fun r => .o (.cb (xs.any p))) (fun r => [vc (eD 906) 1 q xs t m z, .as J]) := by
 refine fs 100 fun B => g0 fun _ => g0 fun _ => cl (@idxfd_ctr _ q c z xs t m y p J (by assumption) (by omega) hy) [0, 1] [] 100 fun _ _ => g0 fun _ => rtv trivial (()) trivial [0, 1] (.o (.cb (decide (idxF xs p ≥ 0)))) (congrArg Value.bool idxF_any)
theorem named1_ctr {na ka : ByteArray} {qa ca : Nat} {za : Bool} {xa : List Cd} {ta : TypeId} {ma : Md} {qA cA : Nat} {zA : Bool} {da : List De} {qb k : Nat} (hza : za = true -> xa.length = 0) (hla : xa.length < 1000000) (hkd : k < da.length) (hd : DpA xa (da.getD k dD)) : Ctr Tryz.prog nO 160 [.a [.s 906 ((da.getD k dD).q) 1 0 ((da.getD k dD).l.length) ((da.getD k dD).l.length) false, .t ((da.getD k dD).r)], .o (.p 9 qb 0 0 0)] [.blk 9 qb [.t na, .s 1 qa 4 0 xa.length ca za, .t ka, .s 3 qA 2 0 da.length cA zA] 46 .own, vc eC 1 qa xa ta ma za, .as (bigA (lefA 9) da)] (Unit) (fun _ => True) (fun r => .o (.v (.bool false))) (fun r => [.blk 9 qb [.t na, .s 1 qa 4 0 xa.length ca za, .t ka, .s 3 qA 2 0 da.length cA zA] 46 .own, vc eC 1 qa xa ta ma za, .as (bigA (lefA 9) da)]) := by
 refine fs 100 fun B => g0 fun q101 => g0 fun _ => gh (big_out (I := (lefA 9)) (l := da) k dD (by omega)) [3] [] 101 fun _ _ => gh (ge_op (c := vc eS 906 ((da.getD k dD).q) ((da.getD k dD).l) 9 .imm false) (I := ((lefA 9) (da.getD k dD)))) [0] [] 101 fun _ _ => cl (@dep_ctr _ na ka qa ca za xa ta ma qA cA zA da ((da.getD k dD).q) ((da.getD k dD).l.length) false ((da.getD k dD).l) .imm ((da.getD k dD).r) ((da.getD k dD).q) (by assumption) (by omega) (fun h => nomatch h) (Nat.le_refl _) hd) [4, 0] [(5, 906)] 101 fun _ _ => g0 fun _ => gh (ge_sh (c := vc eS 906 ((da.getD k dD).q) ((da.getD k dD).l) 9 .imm false) (I := ((lefA 9) (da.getD k dD)))) [1] [] 101 fun _ _ => gh (big_bk (I := (lefA 9)) (l := da) k dD (by omega)) [0, 2] [] 101 fun _ _ => rt trivial (()) trivial [3, 1, 0]
theorem named_ctr {q qs : Nat} {xs : List Xr} {mS : Md} {na ka : ByteArray} {qa ca : Nat} {za : Bool} {xa : List Cd} {ta : TypeId} {ma : Md} {qA cA : Nat} {zA : Bool} {da : List De} {tA : TypeId} {mA : Md} (hza : za = true -> xa.length = 0) (hla : xa.length < 1000000) (hzA : zA = true -> da.length = 0) (hlA : da.length < 1000000) (hA : FmA xs na ka xa da) : Ctr Tryz.prog nO 117 [.o (.p 1 q 0 0 0), .a [.t na, .s 5 qa 4 0 xa.length ca za, .t ka, .s 6 qA 2 0 da.length cA zA]] [.blk 1 q [.s 2 qs 4 0 xs.length xs.length xs.isEmpty] 145 .own, vc eTb 2 qs xs 46 mS xs.isEmpty, .as (bigA tI xs), vc eC 5 qa xa ta ma za, vc (eD 906) 6 qA da tA mA zA, .as (bigA (lefA 9) da)] (Unit) (fun _ => True) (fun r => .o (.v (.bool true))) (fun r => [.blk 1 q [.s 2 qs 4 0 xs.length xs.length xs.isEmpty] 145 .own, vc eTb 2 qs xs 46 mS xs.isEmpty, .as (bigA tI xs), vc eC 5 qa xa ta ma za, vc (eD 906) 6 qA da tA mA zA, .as (bigA (lefA 9) da)]) := by
 refine fs 100 (fun B => ?_)
 have hx8 := hA.x8
 have hc1 := hA.c1
 have hc6 := hA.c6
 refine g0 fun q101 => g0 fun _ => cl (@sfindN_ctr _ q qs xs mS na (by omega) hA.new) [1, 2, 3] [] 101 fun _ _ => g0 fun q104 => g0 fun _ => cl (@vname_ctr _ na hA.nm) [] [] 102 fun _ _ => g0 fun _ => clm (@scol_ctr _ na ka qa ca za xa ta ma qA cA zA da ka hza hla) [5] trivial <| gh (ge_re (l := [vc eC 5 qa xa ta ma za]) (l' := [vc eC 5 qa xa ta ma za]) rfl) [0] [] 102 fun _ _ => g0 fun _ => cdF (b := and (!strEq ka ⟨#[]⟩) (decide (idxF xa (fun c => strEq c.name ka) < 0))) (by rcases hA.key with h | h; rw [h]; rfl; rw [decide_eq_false (by omega), Bool.and_false]) <| g0 fun _ => g0 fun _ => gh (nil_vec 102 1 eS.f eS.d 9 .grown) [] [] 103 fun _ _ => sv 7 (v := .o (.v (.slice none 0 0))) (v' := .o (.s 102 0 1 0 (((xa.take 0).map fun c => c.name).length) (((xa.take 0).map fun c => c.name).length) (((xa.take 0).map fun c => c.name).isEmpty))) rfl <| lp2 (Nat) (Nat) [3, 37, 38] (fun r => [(39, .o (.i (r.1 : Int))), (7, .o (.s 102 r.2 1 0 (((xa.take r.1).map fun c => c.name).length) (((xa.take r.1).map fun c => c.name).length) (((xa.take r.1).map fun c => c.name).isEmpty)))]) [1, 2, 3, 4, 5, 6, 7, 8] (fun r => [vc eS 102 r.2 ((xa.take r.1).map fun c => c.name) 9 .grown (((xa.take r.1).map fun c => c.name).isEmpty)]) 123 (fun r => r.1 <= xa.length) (fun r => xa.length - r.1) (⟨0, 0⟩) (Nat.zero_le _) [0] (fun i pq hx ag111 => ?_)
 try dsimp only at hx
 have hi := hx
 refine g0 fun _ => cdD ((i : Int) < (xa.length : Int)) (fun h2 => ?_) (fun h2 => ?_)
 ·have hcl : ((xa.take i).map fun c => c.name).length = i := by rw [List.length_map, List.length_take]; omega
  refine go (fun q113 => (o4 (nz i) (by omega : (i : Int) < (xa.length : Int)) (zf hza (show 0 < xa.length by omega) : za = false) (by omega : i < xa.length))) fun q113 => g0 fun _ => cl (@vname_ctr _ ((xa.getD i eC.d).name) (hA.cn i (by omega))) [] [] 124 fun _ _ => g0 fun _ => cdF rfl <| g0 fun q117 => apd eS ((xa.take i).map fun c => c.name) [(xa.getD i eC.d).name] ((xa.take (i + 1)).map fun c => c.name) 102 pq .grown (((xa.take i).map fun c => c.name).isEmpty) (((xa.take (i + 1)).map fun c => c.name).isEmpty) (.blk 124 (q117 124) [.t ((xa.getD i eC.d).name)] 9 .own) (q117 124) 0 1 1 false 125 [2, 0] 126 9 (fun h _ => ne_of h) (by simp only [List.length_cons, List.length_nil]; omega) (src_one rfl) (by rw [cn_succ (by omega)]; simp) (cn_succ (by omega)) fun q118 => g0 fun _ => go (fun _ => (o2 (by omega : -9223372036854775808 <= (i : Int) + 1) (by omega : (i : Int) + 1 < 9223372036854775808))) fun _ => ag111 _ _ (⟨i + 1, q118⟩) (by first | omega | (simp only; omega)) (by dsimp only; exact (by omega)) [0, 3, 4, 5, 6, 7, 8, 9, 10] (by kernel_rfl) (by kernel_rfl)
 ·refine g0 fun _ => cl (@stwice_ctr _ pq (((xa.take i).map fun c => c.name).length) (((xa.take i).map fun c => c.name).isEmpty) ((xa.take i).map fun c => c.name) .grown (fun h => by simpa using h) (by rw [List.length_map, List.length_take]; omega) (Nat.le_refl _) (fun a ha b hb => by rw [List.length_map, List.length_take] at ha; rw [cn_at (by omega) hi, cn_at (by omega) hi]; exact hA.cu a (by omega) b hb)) [0] [(1, 102)] 123 fun _ _ => g0 fun _ => gh (ge_all (l := [.blk 100 (q101 100) [.t na, .s 5 qa 4 0 xa.length ca za, .t ka, .s 6 qA 2 0 da.length cA zA] 46 .own, vc eC 5 qa xa ta ma za, .as (bigA (lefA 9) da)])) [6, 1, 8] [] 123 fun _ _ => cl (confd_ctr (q := qA) (c := cA) (z := zA) (xs := da) (t := tA) (m := mA) (y := .func (.func 160) #[] #[.pointer (some ⟨(q101 100), 0, none⟩)]) (p := (fun _ => false)) (J := (hpA [.blk 100 (q101 100) [.t na, .s 5 qa 4 0 xa.length ca za, .t ka, .s 6 qA 2 0 da.length cA zA] 46 .own, vc eC 5 qa xa ta ma za, .as (bigA (lefA 9) da)])) hzA hlA (fun k hk => ctrV_all (ctrV [.pointer (some ⟨(q101 100), 0, none⟩)] (named1_ctr (na := na) (ka := ka) (qa := qa) (ca := ca) (za := za) (xa := xa) (ta := ta) (ma := ma) (qA := qA) (cA := cA) (zA := zA) (da := da) (qb := (q101 100)) (k := k) hza hla hk (hA.dp k hk))))) [6, 0] [(1, 6)] 123 fun _ _ => gh (ge_un (l := [.blk 100 (q101 100) [.t na, .s 5 qa 4 0 xa.length ca za, .t ka, .s 6 qA 2 0 da.length cA zA] 46 .own, vc eC 5 qa xa ta ma za, .as (bigA (lefA 9) da)])) [1] [] 123 fun _ _ => g0 fun _ => rtv trivial (()) trivial [6, 7, 8, 1, 3, 2] (.o (.cb (!(da.any (fun _ => false))))) (congrArg Value.bool (by rw [any_no (d := dD) (fun _ _ => rfl)]; rfl))
end Go.Proofs.YtagidoadfajpgaaGreat
namespace Go.Proofs.YtagidoadfajpgaaGreat
set_option maxHeartbeats 4000000
open Go.Abs
variable {nO : Nat}
set_option maxRecDepth 100000
attribute [local irreducible] GP ruP ruN nxP acS gst cdP loP invS ent1 ent2 enP caA resV lgP agN
theorem sadd1_ctr {a : Cd}  : Ctr Tryz.prog nO 119 [.a [.t a.name, .i a.kind, .cb a.must, .t a.to]] [] (Unit) (fun _ => True) (fun r => .o (.cb (and (a.kind != 1) (a.kind != 2)))) (fun r => []) := by
 refine fs 100 fun B => g0 fun q101 => g0 fun _ => rt trivial (()) trivial []
theorem confc_ctr {q c : Nat} {z : Bool} {xs : List Cd} {t : TypeId} {m : Md} {y : Value} {p : Cd -> Bool} {J : As} (hz : z = true -> xs.length = 0) (hl : xs.length < 1000000) (hy : ∀ k, k < xs.length -> CtrV Tryz.prog nO y [.a [.t (xs.getD k eC.d).name, .i (xs.getD k eC.d).kind, .cb (xs.getD k eC.d).must, .t (xs.getD k eC.d).to]] [.as J] Unit (fun _ => True) (fun _ => .o (.cb (p (xs.getD k eC.d)))) (fun _ => [.as J])) : Ctr Tryz.prog nO 118 [.o (.s 1 q 4 0 xs.length c z), .o (.v y)] [vc eC 1 q xs t m z, .as J] (Unit) (fun _ => True) (fun r => .o (.cb (xs.any p))) (fun r => [vc eC 1 q xs t m z, .as J]) := by
 refine fs 100 fun B => g0 fun _ => g0 fun _ => cl (@idxfc_ctr _ q c z xs t m y p J (by assumption) (by omega) hy) [0, 1] [] 100 fun _ _ => g0 fun _ => rtv trivial (()) trivial [0, 1] (.o (.cb (decide (idxF xs p ≥ 0)))) (congrArg Value.bool idxF_any)
theorem refs_ctr {q qs : Nat} {xs : List Xr} {mS : Md} {na ka : ByteArray} {qa ca : Nat} {za : Bool} {xa : List Cd} {ta : TypeId} {ma : Md} {qA cA : Nat} {zA : Bool} {da : List De} (hza : za = true -> xa.length = 0) (hla : xa.length < 1000000) (hA : FmA xs na ka xa da) (hxt : ∀ i, i < xs.length -> tP (xs.getD i dXr)) : Ctr Tryz.prog nO 120 [.o (.p 1 q 0 0 0), .a [.t na, .s 5 qa 4 0 xa.length ca za, .t ka, .s 6 qA 2 0 da.length cA zA]] [.blk 1 q [.s 2 qs 4 0 xs.length xs.length xs.isEmpty] 145 .own, vc eTb 2 qs xs 46 mS xs.isEmpty, .as (bigA tI xs), vc eC 5 qa xa ta ma za] (Unit) (fun _ => True) (fun r => .o (.i 0)) (fun r => [.blk 1 q [.s 2 qs 4 0 xs.length xs.length xs.isEmpty] 145 .own, vc eTb 2 qs xs 46 mS xs.isEmpty, .as (bigA tI xs), vc eC 5 qa xa ta ma za]) := by
 refine fs 100 (fun B => ?_)
 have hx8 := hA.x8
 have hc6 := hA.c6
 refine g0 fun q101 => g0 fun _ => lp ((Nat)) [0, 10, 11] (fun r => [(12, .o (.i (r : Int)))]) [0, 1, 2, 3, 4] (fun _ => []) 121 (fun r => r <= xa.length) (fun r => xa.length - r) (0) (Nat.zero_le _) [] fun i hx ag103 => g0 fun _ => cdD ((i : Int) < (xa.length : Int)) (fun h1 => ?_) (fun h1 => ?_)
 ·refine go (fun q105 => (o4 (nz i) (by omega : (i : Int) < (xa.length : Int)) (zf hza (show 0 < xa.length by omega) : za = false) (by omega : i < xa.length))) fun q105 => g0 fun _ => cd (strEq ((xa.getD i eC.d).to) ⟨#[]⟩) (fun h2 => ?_) (fun h2 => ?_)
  ·refine go (fun _ => (o2 (by omega : -9223372036854775808 <= (i : Int) + 1) (by omega : (i : Int) + 1 < 9223372036854775808))) fun _ => ag103 _ _ (i + 1) (by first | omega | (simp only; omega)) (by omega) [1, 2, 3, 4, 5] (by kernel_rfl) (by kernel_rfl)
  ·obtain ⟨_, j, c, hj, hn, hk, hc, hcc, hkk⟩ := (hA.rf i (by omega)).resolve_left (by rw [h2]; decide)
   have hfl := (hxt j hj).fm.xl
   refine g0 fun _ => cl (@sfind_ctr _ q qs xs mS ((xa.getD i eC.d).to) j (by omega) hj hn (hxt j hj)) [2, 3, 4] [(7, 122), (8, 123)] 124 fun ⟨qc2109, qd2109, d2109⟩ hd2 => g0 fun q110 => g0 fun _ => cdF rfl <| g0 fun _ => cdF (b := strEq ((xs.getD j dXr).F.key) ⟨#[]⟩) hk <| g0 fun _ => cl (@scol_ctr _ ((xs.getD j dXr).F.name) ((xs.getD j dXr).F.key) qc2109 ((xs.getD j dXr).F.xa.length) ((xs.getD j dXr).za) ((xs.getD j dXr).F.xa) 130 (mdOf (xs.getD j dXr).F.xa) qd2109 d2109.length ((xs.getD j dXr).zA) d2109 ((xs.getD j dXr).F.key) (hxt j hj).za (by omega)) [4] [(1, 122), (3, 123)] 125 fun _ _ => sv 39 (v := .o (.i (idxF ((xs.getD j dXr).F.xa) (fun c => strEq c.name ((xs.getD j dXr).F.key))))) (v' := .o (.i (c : Int))) (congrArg (fun n => Value.int .i64 n) hcc) <| go (fun _ => (o4 (nz c) (by omega : (c : Int) < (((xs.getD j dXr).F.xa.length : Nat) : Int)) (zf (hxt j hj).za (show 0 < (xs.getD j dXr).F.xa.length by omega) : (xs.getD j dXr).za = false) (by omega : c < ((xs.getD j dXr).F.xa).length))) fun _ => cdF (b := ((((xs.getD j dXr).F.xa).getD c eC.d).kind != (xa.getD i eC.d).kind)) (by rw [hkk]; simp) <| go (fun _ => (o2 (by omega : -9223372036854775808 <= (i : Int) + 1) (by omega : (i : Int) + 1 < 9223372036854775808))) fun _ => ag103 _ _ (i + 1) (by first | omega | (simp only; omega)) (by omega) [8, 2, 3, 4, 9] (by kernel_rfl) (by kernel_rfl)
 ·refine g0 fun _ => rt trivial (()) trivial [1, 2, 3, 4]
end Go.Proofs.YtagidoadfajpgaaGreat
