/-
  D4.
-/
import Derived.Test.YtagidoadfajpgaaGreatN13
import Derived.Test.YtagidoadfajpgaaGreatN1
namespace Go.Abs
def spl {α : Type} (xs : List α) (od : Nat) (ys : List α) : List α := xs.take od ++ ys ++ xs.drop (od + ys.length)
theorem spl_len {α : Type} {xs ys : List α} {od : Nat} (h : od + ys.length <= xs.length) : (spl xs od ys).length = xs.length := by
 simp only [spl, List.length_append, List.length_take, List.length_drop]; omega
section
variable {P : Program} {nO : Nat} {ro : Option Nat} {B : Ft × World} {Q : Exit -> Act -> World -> Prop} {p : Pt} {s : St} {α : Type}
theorem ones_v {E : En α} (h1 : ∀ x, (E.f x).all C1.one = true) (ys : List α) : (vcells E.f ys).toList.all isOne = true := by
 unfold vcells
 simp only [List.all_flatMap, List.all_map, List.all_eq_true, Function.comp_apply]
 intro x _ c hc
 exact C1.one_den ((List.all_eq_true.1 (h1 x)) c hc)
theorem spl_run {E : En α} {xs ys : List α} {g q od : Nat} {te : TypeId} {m : Md} {J : List Ch} {F : Ft} {A : World} (hm : m.mine = true) (h1 : ∀ x, (E.f x).all C1.one = true) (hod : od + ys.length <= xs.length) (hF : (hpA (vc E g q xs te m false :: J)).p F A) :
  ∃ A' F', (storeCells ⟨q, od * E.w, none⟩ (vcells E.f ys).toList 0).run P A = .ok () A' /\ (hpA (vc E g q (spl xs od ys) te m false :: J)).p F' A' /\ Mv F A F' A' := by
 obtain ⟨F1, F2, ⟨hw, hb⟩, h2, j0⟩ := hF
 obtain ⟨o1, o2, fz, hfz, hB⟩ := hb
 have hs : xs = xs.take od ++ (xs.drop od).take ys.length ++ xs.drop (od + ys.length) := by
  rw [<- List.drop_drop, List.append_assoc, List.take_append_drop, List.take_append_drop]
 have hB' : A.heap[q]? = some (.cells ((vcells E.f (xs.take od)).toList ++ (vcells E.f ((xs.drop od).take ys.length)).toList ++ (vcells E.f (xs.drop (od + ys.length))).toList).toArray te fz) := by
  rw [hB]
  congr 2
  apply Array.ext'
  conv => lhs; rw [hs]
  simp [vcells_append]
 obtain ⟨A', r, h5, h6, h7⟩ := store_runs (P := P) (new := (vcells E.f ys).toList) (off := od * E.w) (i := 0) (mine_fz hm hfz) (ones_v h1 ys) hB' (by rw [vcells_len hw, List.length_take, Nat.min_eq_left (by omega)]; rfl) (by rw [vcells_len hw, vcells_len hw, List.length_take, List.length_drop, Nat.min_eq_left (by omega)])
 obtain ⟨g1, g2⟩ := blkA_put (cs' := vcells E.f (spl xs od ys)) hm ⟨o1, o2, fz, hfz, hB⟩ h7 h6 (fun fz' hB2 => by
  rw [hB] at hB2; cases hB2
  rw [h5]
  congr 2
  apply Array.ext'
  simp [spl, vcells_append])
 obtain ⟨F', g3, g4⟩ := As.frame (K := (vc E g q (spl xs od ys) te m false).den) j0 h2 ⟨hw, g1⟩ g2
 exact ⟨A', F', r, g3, g4⟩
theorem apr [G : Good P] (E : En α) (xs ys xs' : List α) (g q k : Nat) (te : TypeId) (m : Md) (z : Bool) (J : List Ch) (q2 off n2 c2 : Nat) (z2 : Bool) (idx : List Nat) (e : TypeId) (cc : Nat) (hcc : cc = xs.length) (hlen : k + ys.length <= xs.length) (hs : ∀ F A, (hpA (vc E g q xs te m z :: J)).p F A -> SrcAt A q2 off z2 (vcells E.f ys)) (hxs : xs' = spl xs k ys)
  (next : GP P nO ro B Q (nxP p (ixP p + 1) (lgP p s)) (acS p s (.o (.s g q E.w 0 (k + ys.length) cc z)) idx (vc E g q xs' te m z :: J) s.nx))
  (hw : ∀ x, (E.f x).length = E.w := by intro _; rfl) (h1 : ∀ x, (E.f x).all C1.one = true := by intro _; rfl) (hm : m.mine = true := by rfl) (hn : n2 = ys.length := by rfl)
  (chk : (apA P p s E.w, okB idx s.hp.length, wtA p s, dsOk p s, (selC idx s.hp).map Ch.den) = (some ([.slice (cond z none (some ⟨q, 0, none⟩)) k cc, .slice (cond z2 none (some ⟨q2, off, none⟩)) n2 c2], e, true), true, true, true, (vc E g q xs te m z :: J).map Ch.den) := by kernel_rfl)
  (ed : (enP P p (ixP p + 1) (lgP p s) (acS p s (.o (.s g q E.w 0 (k + ys.length) cc z)) idx (vc E g q xs' te m z :: J) s.nx)).1 = (enP P p (ixP p + 1) (lgP p s) (acS p s (.o (.s g q E.w 0 (k + ys.length) cc z)) idx (vc E g q xs' te m z :: J) s.nx)).2 := by kernel_rfl) : GP P nO ro B Q p s := by
 simp only [Prod.mk.injEq] at chk
 obtain ⟨c1, c2', c3, c4, c5⟩ := chk
 unfold apA at c1
 split at c1
 case h_2 => cases c1
 rename_i o hop
 obtain ⟨id, ops, d, K, i, lg, rfl, ho⟩ := opA_ok hop
 split at c1
 case h_2 => cases c1
 rename_i c hc
 split at c1
 case h_2 => cases c1
 rename_i l t hl ht
 split at c1
 case h_2 => cases c1
 rename_i e' hu
 simp only [Option.some.injEq, Prod.mk.injEq] at c1
 obtain ⟨rfl, rfl, hT⟩ := c1
 have hwt := wtA_ok c3 ho
 obtain ⟨h2, h3⟩ := isApp_ok hc
 subst hxs
 subst hn
 refine act (R := Unit) (φ := fun _ => True) (res := fun _ => .o (.s g q E.w 0 (k + ys.length) cc z)) (post := fun _ => vc E g q (spl xs k ys) te m z :: J) G ho hwt (by rw [h2]; unfold kindOf; simp only [h3]) idx s.nx c2' c5 (fun a hE F A hF => ?_) c4 (fun _ _ => next) (fun _ => ed)
 obtain ⟨ie, zv, T⟩ := appB_ok hT
 have hsrc := hs _ _ hF
 have hsz : (vcells E.f ys).size = ys.length * ie.size := by rw [vcells_size hw, T.size]
 have hnew : (appSrc (zerosOf P c.argTypes) e' ie.size ys.length (.slice (cond z2 none (some ⟨q2, off, none⟩)) ys.length c2)).run P A = .ok (vcells E.f ys) A := by
  rw [T.nz]
  simp only [appSrc, Bool.not_false, if_true]
  exact run_first hsrc hsz
 have hnx : appN (zerosOf P c.argTypes) ie.bytes (.slice (cond z2 none (some ⟨q2, off, none⟩)) ys.length c2) = some ys.length := by rw [T.nz]; rfl
 have hargs : c.args.map a.eval = #[.slice (cond z none (some ⟨q, 0, none⟩)) k cc, .slice (cond z2 none (some ⟨q2, off, none⟩)) ys.length c2] := by
  have := argL_ok hE hl
  apply Array.ext'
  rw [Array.toList_map]; exact this
 have hd : (SV.o (.s g q E.w 0 (k + ys.length) cc z)).den = .slice (cond z none (some ⟨q, 0, none⟩)) (k + ys.length) cc := by
  show Value.slice (cond z none (some ⟨q, 0 * E.w, none⟩)) _ _ = _
  rw [Nat.zero_mul]
 cases z with
 | false =>
  obtain ⟨A', F', r, k1, k2⟩ := spl_run (P := P) hm h1 hlen hF
  refine ⟨(), A', F', ⟨trivial, ?_⟩, k1, k2⟩
  rw [hd]
  refine ⟨_, _, .inr (.inr (.inl ⟨c, _, h2, h3, rfl, ?_⟩)), rfl, rfl⟩
  rw [hargs]
  refine ⟨e', ie, zv, some ⟨q, 0, none⟩, k, cc, _, ys.length, T.at_, rfl, hnx, .inl ⟨by omega, vcells E.f ys, hnew, ?_, rfl⟩⟩
  have ea : (⟨q, 0, none⟩ : Addr).add (k * ie.size) = ⟨q, k * E.w, none⟩ := by rw [Addr.add_mk, T.size, Nat.zero_add]
  simp only [ea]
  exact r
 | true =>
  have hx : xs = [] := by
   obtain ⟨F1, F2, ⟨_, hx⟩, _⟩ := hF
   exact hx
  subst hx
  have hy : ys = [] := by cases ys; rfl; simp at hlen
  subst hy
  refine ⟨(), A, F, ⟨trivial, ?_⟩, by simpa [spl] using hF, .refl⟩
  rw [hd]
  refine ⟨_, _, .inr (.inr (.inl ⟨c, _, h2, h3, rfl, ?_⟩)), rfl, rfl⟩
  rw [hargs]
  refine ⟨e', ie, zv, none, k, cc, _, 0, T.at_, rfl, hnx, .inl ⟨by rw [hcc]; exact hlen, vcells E.f [], hnew, rfl, rfl⟩⟩
def biA (p : Pt) (s : St) (b : Call -> Bool) : Option (List Value × Option TypeId) := match opA p with
 | some o => match o.op with
  | .call c => match b c with
   | true => match argL s.env c.args.toList with
    | some l => some (l, c.argTypes[0]?)
    | none => none
   | false => none
  | _ => none
 | none => none
theorem biA_ok {b : Call -> Bool} {l : List Value} {t : Option TypeId} (h : biA p s b = some (l, t)) : ∃ o c, opA p = some o /\ o.op = .call c /\ b c = true /\ argL s.env c.args.toList = some l /\ c.argTypes[0]? = t := by
 unfold biA at h
 split at h
 case h_2 => cases h
 rename_i o ho
 split at h
 case h_2 => cases h
 rename_i c hc
 split at h
 case h_2 => cases h
 rename_i hb
 split at h
 case h_2 => cases h
 rename_i l' hl
 cases h
 exact ⟨o, c, ho, hc, hb, hl, rfl⟩
def szA (P : Program) (t : Option TypeId) : Option Nat := match t with
 | some t => match P.underlying t with
  | some (.slice e) => (tsz P e).map Prod.fst
  | _ => none
 | none => none
def zrA (P : Program) (t : Option TypeId) : Option (TypeId × Array Value × Bool × Nat) := match t with
 | some t => match P.underlying t with
  | some (.slice e) => match P.info? e with
   | some ie => match ie.zero with
    | some z => some (e, z.cells, Nat.ble ie.bytes 65536 && Nat.beq z.cells.size ie.size, ie.size)
    | none => none
   | none => none
  | _ => none
 | none => none
theorem zrA_ok {t : Option TypeId} {e : TypeId} {cs : Array Value} {n : Nat} (h : zrA P t = some (e, cs, true, n)) : ∃ t' ie z, t = some t' /\ P.underlying t' = some (.slice e) /\ P.info? e = some ie /\ ie.zero = some z /\ z.cells = cs /\ ie.bytes <= 65536 /\ z.cells.size = ie.size /\ ie.size = n := by
 unfold zrA at h
 split at h
 case h_2 => cases h
 rename_i t'
 split at h
 case h_2 => cases h
 rename_i e' hu
 split at h
 case h_2 => cases h
 rename_i ie hi
 split at h
 case h_2 => cases h
 rename_i z hz
 simp only [Option.some.injEq, Prod.mk.injEq, Bool.and_eq_true] at h
 obtain ⟨rfl, h2, ⟨h3, h4⟩, h5⟩ := h
 exact ⟨t', ie, z, rfl, hu, hi, hz, h2, Nat.le_of_ble_eq_true h3, Nat.eq_of_beq_eq_true h4, h5⟩
def isCpy (c : Call) : Bool := match c.callee with
 | .builtin .copy => true
 | _ => false
def isClr (c : Call) : Bool := match c.callee with
 | .builtin .clear => true
 | _ => false
theorem zeroCells_v {E : En α} {z : Array Value} (hz : z = cells1 (E.f E.d)) (hw : ∀ x, (E.f x).length = E.w) (hw0 : 0 < E.w) (n : Nat) : Builtin.zeroCells z n = vcells E.f (List.replicate n E.d) := by
 subst hz
 have hsz : (cells1 (E.f E.d)).size = E.w := by simp [cells1, hw]
 apply Array.ext
 ·rw [vcells_size hw]
  simp [Builtin.zeroCells, hsz]
 ·intro i h1 h2
  rw [vcells_size hw, List.length_replicate] at h2
  have hi : i / E.w < n := (Nat.div_lt_iff_lt_mul hw0).2 h2
  have hm : i % E.w < E.w := Nat.mod_lt _ hw0
  have hx := vcells_extract (en := E.f) hw (d := E.d) (xs := List.replicate n E.d) (i := i / E.w) (k := i % E.w) (n := 1) (by simpa using hi) (by omega)
  have he : i / E.w * E.w + i % E.w = i := Nat.div_add_mod' i E.w
  rw [he] at hx
  have hx0 := congrArg (fun a => a[0]?) hx
  have hlt : i < (vcells E.f (List.replicate n E.d)).size := by rw [vcells_size hw, List.length_replicate]; exact h2
  simp only [Array.getElem?_extract] at hx0
  rw [if_pos (by omega), Nat.add_zero, Array.getElem?_eq_getElem hlt] at hx0
  have hg : (List.replicate n E.d).getD (i / E.w) E.d = E.d := by
   rw [getD_at (by simpa using hi)]; simp
  rw [hg] at hx0
  have hl : i % E.w < (E.f E.d).length := by rw [hw]; exact hm
  have h3 : (Builtin.zeroCells (cells1 (E.f E.d)) n)[i] = (cells1 (E.f E.d))[i % E.w]! := by
   simp only [Builtin.zeroCells, Array.getElem_map, Array.getElem_range, hsz]
  rw [h3, getElem!_pos _ _ (by rw [hsz]; exact hm)]
  have h4 : ((((E.f E.d).drop (i % E.w)).take 1).map C1.den).toArray[0]? = some ((E.f E.d)[i % E.w]'hl).den := by
   rw [List.drop_eq_getElem_cons hl]; rfl
  rw [h4] at hx0
  simp only [Option.some.injEq] at hx0
  rw [hx0]
  simp [cells1]
theorem clr [G : Good P] (E : En α) (xs xs' : List α) (g q od nd cd : Nat) (te : TypeId) (m : Md) (J : List Ch) (idx : List Nat) (hlen : od + nd <= xs.length) (hnd : 0 < nd) (hxs : xs' = spl xs od (List.replicate nd E.d))
  (next : GP P nO ro B Q (nxP p (ixP p + 1) (lgP p s)) (acS p s (.o (.v (.tuple #[]))) idx (vc E g q xs' te m false :: J) s.nx))
  (hw : ∀ x, (E.f x).length = E.w := by intro _; rfl) (h1 : ∀ x, (E.f x).all C1.one = true := by intro _; rfl) (hm : m.mine = true := by rfl) (hw0 : 0 < E.w := by decide)
  (chk : ((biA p s isClr).map Prod.fst, okB idx s.hp.length, wtA p s, dsOk p s, ((biA p s isClr).bind (fun x => zrA P x.2)).map (fun x => x.2.1), ((biA p s isClr).bind (fun x => zrA P x.2)).map (fun x => x.2.2.1), (selC idx s.hp).map Ch.den) = (some [.slice (some ⟨q, od * E.w, none⟩) nd cd], true, true, true, some (cells1 (E.f E.d)), some true, (vc E g q xs te m false :: J).map Ch.den) := by kernel_rfl)
  (ed : (enP P p (ixP p + 1) (lgP p s) (acS p s (.o (.v (.tuple #[]))) idx (vc E g q xs' te m false :: J) s.nx)).1 = (enP P p (ixP p + 1) (lgP p s) (acS p s (.o (.v (.tuple #[]))) idx (vc E g q xs' te m false :: J) s.nx)).2 := by kernel_rfl) : GP P nO ro B Q p s := by
 simp only [Prod.mk.injEq] at chk
 obtain ⟨c1, c2', c3, c4, c6, c7, c5⟩ := chk
 rw [Option.map_eq_some_iff] at c1
 obtain ⟨⟨l, tt⟩, c1, hll⟩ := c1
 have hll : l = _ := hll
 subst hll
 rw [c1] at c6 c7
 obtain ⟨o, c, hop, h2, h3, hl, ht⟩ := biA_ok c1
 rw [Option.map_eq_some_iff] at c6 c7
 obtain ⟨⟨e, cs, b, n⟩, hzr, hcs⟩ := c6
 obtain ⟨x2, hzr2, hb⟩ := c7
 rw [hzr] at hzr2
 cases hzr2
 have hb : b = true := hb
 have hcs : cs = _ := hcs
 subst hb hcs
 obtain ⟨t, ie, zv, htt, hu, hi, hzz, hz, _⟩ := zrA_ok (show zrA P tt = some (e, cells1 (E.f E.d), true, n) from hzr)
 rw [htt] at ht
 obtain ⟨id, ops, d, K, i, lg, rfl, ho⟩ := opA_ok hop
 have hwt := wtA_ok c3 ho
 have hcc : c.callee = .builtin .clear := by
  unfold isClr at h3
  split at h3
  ·assumption
  ·cases h3
 subst hxs
 refine act (R := Unit) (φ := fun _ => True) (res := fun _ => .o (.v (.tuple #[]))) (post := fun _ => vc E g q (spl xs od (List.replicate nd E.d)) te m false :: J) G ho hwt (by rw [h2]; unfold kindOf; simp only [hcc]) idx s.nx c2' c5 (fun a hE F A hF => ?_) c4 (fun _ _ => next) (fun _ => ed)
 obtain ⟨A', F', r, k1, k2⟩ := spl_run (P := P) (ys := List.replicate nd E.d) hm h1 (by simpa using hlen) hF
 refine ⟨(), A', F', ⟨trivial, .value (.tuple #[]), A', .inr (.inl ⟨?_, ?_⟩), rfl, rfl⟩, k1, k2⟩
 ·rw [h2]; exact .inr (.inr (.inl hcc))
 ·have hx := argL_ok hE hl
  rw [<- zeroCells_v hz hw hw0] at r
  obtain ⟨n', rfl⟩ : ∃ n', nd = n' + 1 := ⟨nd - 1, by omega⟩
  unfold execOp; rw [h2]
  simp only [resolve, hcc, map_list hx, Sem.run_bind, Sem.run_pure, Result.andThen, invoke, builtin, Builtin.clear_, ht]
  simp only [List.getElem?_toArray, List.getElem?_cons_zero, Sem.run_bind, run_under hu, Result.andThen, Sem.run_pure, run_zeroT hi hzz, r]
def isApB (c : Call) : Bool := match c.callee with
 | .builtin .append => true
 | _ => false
def inA (P : Program) (o : Oper) : Option Bool := match o.op with
 | .call c => match c.argTypes[1]? with
  | some t => match P.underlying t with
   | some (.int _) => some true
   | _ => none
  | none => none
 | _ => none
theorem apz [G : Good P] (E : En α) (n : Nat) (g' : Nat) (nx : Nat) (e : TypeId) (hn0 : 0 < n) (hn1 : n <= 16777216)
  (next : ∀ q', GP P nO ro B Q (nxP p (ixP p + 1) (lgP p s)) (acS p s (.o (.s g' q' E.w 0 n n false)) [] [vc E g' q' (List.replicate n E.d) e .grown false] nx))
  (hw : ∀ x, (E.f x).length = E.w := by intro _; rfl) (h1 : ∀ x, (E.f x).all C1.one = true := by intro _; rfl) (hw0 : 0 < E.w := by decide)
  (chk : ((biA p s isApB).map Prod.fst, wtA p s, dsOk p s, (opA p).bind (fun o => inA P o), (biA p s isApB).bind (fun x => zrA P x.2)) = (some [.slice none 0 0, .int .i64 (n : Int)], true, true, some true, some (e, cells1 (E.f E.d), true, E.w)) := by kernel_rfl)
  (ed : ∀ q', (enP P p (ixP p + 1) (lgP p s) (acS p s (.o (.s g' q' E.w 0 n n false)) [] [vc E g' q' (List.replicate n E.d) e .grown false] nx)).1 = (enP P p (ixP p + 1) (lgP p s) (acS p s (.o (.s g' q' E.w 0 n n false)) [] [vc E g' q' (List.replicate n E.d) e .grown false] nx)).2 := by intro q'; kernel_rfl) : GP P nO ro B Q p s := by
 simp only [Prod.mk.injEq] at chk
 obtain ⟨c1, c3, c4, c6, c7⟩ := chk
 rw [Option.map_eq_some_iff] at c1
 obtain ⟨⟨l, tt⟩, c1, hll⟩ := c1
 have hll : l = _ := hll
 subst hll
 rw [c1] at c7
 obtain ⟨o, c, hop, h2, h3, hl, ht⟩ := biA_ok c1
 obtain ⟨t0, ie, zv, htt, hu, hi, hzz, hz, hby', hzs', hie⟩ := zrA_ok (show zrA P tt = some (e, cells1 (E.f E.d), true, E.w) from c7)
 obtain ⟨id, ops, d, K, i, lg, rfl, ho⟩ := opA_ok hop
 have hwt := wtA_ok c3 ho
 have hcc : c.callee = .builtin .append := by
  unfold isApB at h3
  split at h3
  ·assumption
  ·cases h3
 rw [hop] at c6
 have ht0 : c.argTypes[0]? = some t0 := ht.trans htt
 obtain ⟨t1, k1, ht1, hu1⟩ : ∃ t1 k1, c.argTypes[1]? = some t1 /\ P.underlying t1 = some (.int k1) := by
  have c6 : inA P o = some true := c6
  unfold inA at c6
  rw [h2] at c6
  simp only at c6
  split at c6
  ·rename_i t1 ht1
   split at c6
   ·rename_i k1 hu1; exact ⟨t1, k1, ht1, hu1⟩
   ·cases c6
  ·cases c6
 have hzr : zerosOf P c.argTypes = true := by simp [zerosOf, ht1, hu1]
 refine act (R := Nat) (φ := fun _ => True) (res := fun q' => .o (.s g' q' E.w 0 n n false)) (pre := []) (post := fun q' => [vc E g' q' (List.replicate n E.d) e .grown false]) G ho hwt (by rw [h2]; unfold kindOf; simp only [hcc]) [] nx (List.isPerm_iff.2 (by rw [List.nil_append, restI, show (List.range s.hp.length).filter (fun i => !([] : List Nat).contains i) = List.range s.hp.length from List.filter_eq_self.2 (fun _ _ => rfl)])) rfl (fun a hE F A hF => ?_) c4 (fun q' _ => next q') ed
 have hargs : c.args.map a.eval = #[.slice none 0 0, .int .i64 (n : Int)] := by
  have := argL_ok hE hl
  apply Array.ext'
  rw [Array.toList_map]; exact this
 have hzc := zeroCells_v hz hw hw0 n
 have hsz : (vcells E.f (List.replicate n E.d)).size = n * ie.size := by rw [vcells_size hw, List.length_replicate, hie]
 have hwr : IntKind.i64.wrap (n : Int) = n := wrap_id (by omega) (by omega)
 have hlt : ∀ b, F.own b ∨ F.imm b -> b < A.heap.size := fun b hb => (hpA []).lt hF hb
 have hF0 : F = Ft.no := hF
 subst hF0
 refine ⟨A.heap.size, A.alloc (.cells (vcells E.f (List.replicate n E.d)) e (1, 0)), blkF A.heap.size, ⟨trivial, ?_⟩, As.addE ⟨hw, fun b => by simp [blkF, Md.mine], fun b => by simp [blkF, Md.mine], (1, 0), rfl, alloc_at⟩, ⟨by simp, fun b hb _ => alloc_lt hb, fun b hb => .inr (by simp only [blkF] at hb; omega), fun b hb => hb.elim⟩⟩
 have hd : (SV.o (.s g' A.heap.size E.w 0 n n false)).den = .slice (some ⟨A.heap.size, 0, none⟩) n n := by
  show Value.slice (cond false none (some ⟨A.heap.size, 0 * E.w, none⟩)) _ _ = _
  rw [Nat.zero_mul]; rfl
 rw [hd]
 refine ⟨_, _, .inr (.inr (.inl ⟨c, _, h2, hcc, rfl, ?_⟩)), rfl, rfl⟩
 rw [hargs]
 refine ⟨e, ie, zv, none, 0, 0, .int .i64 (n : Int), n, ⟨hzz, ⟨t0, ht0, hu⟩, hi, fun t h => by rw [ht1] at h; cases h; exact .inr (.inr ⟨_, hu1⟩)⟩, rfl, ?_, .inr ⟨by omega, Nat.le_refl _, by omega, by omega, hzs', #[], vcells E.f (List.replicate n E.d), ?_, ?_, by simp, by simp, hsz, ones_v h1 _, .inl ⟨by simp, fun a h => by cases h⟩⟩⟩
 ·rw [hzr]
  simp only [appN, hwr]
  have h3 : ((n * ie.bytes : Nat) : Int) <= ((16777216 * 65536 : Nat) : Int) := Int.ofNat_le.2 (Nat.mul_le_mul hn1 hby')
  rw [Int.natCast_mul] at h3
  rw [if_neg (by omega), if_neg (by omega), Int.toNat_natCast]
 ·rfl
 ·rw [hzr]
  simp only [appSrc, Bool.not_true, Bool.false_eq_true, if_false]
  rw [if_neg (by rw [hie]; exact fun h => by rcases Nat.mul_eq_zero.1 h with h | h <;> omega)]
  simp only [Sem.run_bind, run_zeroT hi hzz, Result.andThen, hzc, Sem.run_pure]
end
end Go.Abs
namespace Go.Abs
theorem ge_re {l l' : List Ch} (h : l.map Ch.den = l'.map Ch.den) : GE l Unit (fun _ => True) (fun _ => l') := fun F A hF => ⟨(), F, trivial, by unfold hpA at hF ⊢; rw [<- h]; exact hF, .refl⟩
theorem ge_all {l : List Ch} : GE l Unit (fun _ => True) (fun _ => [.as (hpA l)]) := fun F _ hF => ⟨(), F, trivial, As.addE hF, .refl⟩
theorem ge_un {l : List Ch} : GE [.as (hpA l)] Unit (fun _ => True) (fun _ => l) := fun F _ hF => ⟨(), F, trivial, As.unE hF, .refl⟩
theorem s2 {c cs : Ch} {q off : Nat} {z : Bool} {l : Array Value} (h : Src cs q off z l) : ∀ F A, (hpA [c, cs]).p F A -> SrcAt A q off z l := fun _ _ ⟨_, _, _, h2, _⟩ => h _ _ (As.unE h2)
theorem s1 {c : Ch} {J : List Ch} {q off : Nat} {z : Bool} {l : Array Value} (h : Src c q off z l) : ∀ F A, (hpA (c :: J)).p F A -> SrcAt A q off z l := fun _ _ ⟨_, _, h1, _, _⟩ => h _ _ h1
theorem src_part {α : Type} {E : En α} {xs : List α} {g q : Nat} {t : TypeId} {m : Md} {z : Bool} {a n : Nat} (h : a + n <= xs.length) : Src (vc E g q xs t m z) q (a * E.w) z (vcells E.f ((xs.drop a).take n)) := fun F A hF => by
 cases z with
 | true =>
  obtain ⟨_, rfl⟩ := hF
  exact .inl ⟨rfl, by simp [vcells]⟩
 | false =>
  obtain ⟨hw, _, _, fz, _, hb⟩ := hF
  have hs : (vcells E.f ((xs.drop a).take n)).size = n * E.w := by rw [vcells_size hw, List.length_take, List.length_drop, Nat.min_eq_left (by omega)]
  refine .inr ⟨rfl, _, _, _, hb, ?_, ?_⟩
  ·rw [hs, vcells_size hw, <- Nat.add_mul]; exact Nat.mul_le_mul_right _ h
  ·rw [hs]; exact vcells_part hw h
section
variable {P : Program} {nO : Nat} {ro : Option Nat} {B : Ft × World} {Q : Exit -> Act -> World -> Prop} {p : Pt} {s : St}
def cvA (p : Pt) (s : St) : Option (Value × List Value) := match opA p with
 | some o => match o.op with
  | .call c => match c.callee with
   | .value g => match evX s.env g, argL s.env c.args.toList with
    | some v, some l => some (v.den, l)
    | _, _ => none
   | _ => none
  | _ => none
 | none => none
theorem clv [G : Good P] {y : Value} {args : List SV} {pre : List Ch} {R : Type} {φ : R -> Prop} {res : R -> SV} {post : R -> List Ch} (C : CtrV P nO y args pre R φ res post) (idx : List Nat) (tg : List (Nat × Nat)) (nx : Nat)
  (next : ∀ r, φ r -> GP P nO ro B Q (nxP p (ixP p + 1) (lgP p s)) (acS p s (tgV tg (res r)) idx ((post r).map (tgC tg)) nx))
  (chk : (cvA p s, okB idx s.hp.length, wtA p s, dsOk p s, (selC idx s.hp).map Ch.den) = (some (y, args.map SV.den), true, true, true, pre.map Ch.den) := by kernel_rfl)
  (ed : ∀ r, (enP P p (ixP p + 1) (lgP p s) (acS p s (tgV tg (res r)) idx ((post r).map (tgC tg)) nx)).1 = (enP P p (ixP p + 1) (lgP p s) (acS p s (tgV tg (res r)) idx ((post r).map (tgC tg)) nx)).2 := by intro r; kernel_rfl) : GP P nO ro B Q p s := by
 simp only [Prod.mk.injEq] at chk
 obtain ⟨c1, c3, cw, c4, c5⟩ := chk
 unfold cvA at c1
 split at c1
 case h_2 => cases c1
 rename_i o hoo
 obtain ⟨id, ops, d, K, i, lg, rfl, ho⟩ := opA_ok hoo
 split at c1
 case h_2 => cases c1
 rename_i c hop
 split at c1
 case h_2 => cases c1
 rename_i g hc
 split at c1
 case h_2 => cases c1
 rename_i v l hg hl
 simp only [Option.some.injEq, Prod.mk.injEq] at c1
 obtain ⟨hy, rfl⟩ := c1
 have hw := wtA_ok cw ho
 refine act G (res := fun r => tgV tg (res r)) (post := fun r => (post r).map (tgC tg)) ho hw (by rw [hop]; unfold kindOf; simp only [hc]) idx nx c3 c5 (fun a ha F A hF => ?_) c4 next ed
 obtain ⟨r, A', F', h1, ⟨f, fn, code, first, cap, H, hy2, h2⟩, h3, h4⟩ := C F A hF
 refine ⟨r, A', F', ⟨h1, ?_⟩, by rw [hpA, tgC_map]; exact h3, h4⟩
 rw [tgV_den]
 exact runOp_enter H ((evX_ok ha hg).trans (hy.trans hy2)) (argL_ok ha hl) rfl h2 hop hc
theorem ap0 [G : Good P] {α : Type} (E : En α) (ys : List α) (g q : Nat) (cs : Ch) (q2 off n2 c2 : Nat) (z2 : Bool) (g' : Nat) (idx : List Nat) (nx : Nat) (e : TypeId) (hlen : ys.length <= 16777216) (hs : Src cs q2 off z2 (vcells E.f ys))
  (next : ∀ q', GP P nO ro B Q (nxP p (ixP p + 1) (lgP p s)) (acS p s (.o (.s g' q' E.w 0 ys.length ys.length false)) idx [vc E g' q' ys e (mdOf ys) false, cs] nx))
  (hw : ∀ x, (E.f x).length = E.w := by intro _; rfl) (h1 : ∀ x, (E.f x).all C1.one = true := by intro _; rfl) (hn : n2 = ys.length := by rfl)
  (chk : (apA P p s E.w, okB idx s.hp.length, wtA p s, dsOk p s, (selC idx s.hp).map Ch.den) = (some ([.slice (some ⟨q, 0, none⟩) 0 0, .slice (cond z2 none (some ⟨q2, off, none⟩)) n2 c2], e, true), true, true, true, [Ch.blk g q [] e .own, cs].map Ch.den) := by kernel_rfl)
  (ed : ∀ q', (enP P p (ixP p + 1) (lgP p s) (acS p s (.o (.s g' q' E.w 0 ys.length ys.length false)) idx [vc E g' q' ys e (mdOf ys) false, cs] nx)).1 = (enP P p (ixP p + 1) (lgP p s) (acS p s (.o (.s g' q' E.w 0 ys.length ys.length false)) idx [vc E g' q' ys e (mdOf ys) false, cs] nx)).2 := by intro q'; kernel_rfl) : GP P nO ro B Q p s := by
 simp only [Prod.mk.injEq] at chk
 obtain ⟨c1, c2', c3, c4, c5⟩ := chk
 unfold apA at c1
 split at c1
 case h_2 => cases c1
 rename_i o hop
 obtain ⟨id, ops, d, K, i, lg, rfl, ho⟩ := opA_ok hop
 split at c1
 case h_2 => cases c1
 rename_i c hc
 split at c1
 case h_2 => cases c1
 rename_i l t hl ht
 split at c1
 case h_2 => cases c1
 rename_i e' hu
 simp only [Option.some.injEq, Prod.mk.injEq] at c1
 obtain ⟨rfl, rfl, hT⟩ := c1
 have hwt := wtA_ok c3 ho
 obtain ⟨h2, h3⟩ := isApp_ok hc
 refine act (R := Nat) (φ := fun _ => True) (res := fun q' => .o (.s g' q' E.w 0 ys.length ys.length false)) (post := fun q' => [vc E g' q' ys e' (mdOf ys) false, cs]) G ho hwt (by rw [h2]; unfold kindOf; simp only [h3]) idx nx c2' c5 (fun a hE F A hF => ?_) c4 (fun q' _ => next q') ed
 have hF' : (hpA [.vec g q E.w E.f E.d [] e' .own false, cs]).p F A := by
  obtain ⟨F1, F2, ⟨o1, o2, fz, hfz, hb⟩, k2, j⟩ := hF
  exact ⟨F1, F2, ⟨hw, o1, o2, fz, hfz, by rw [hb]; rfl⟩, k2, j⟩
 obtain ⟨q', A', F', k1, k2, k3⟩ := app0_run hw h1 hT hs hn hlen hF'
 refine ⟨q', A', F', ⟨trivial, ?_⟩, k2, k3⟩
 have hargs : c.args.map a.eval = #[.slice (some ⟨q, 0, none⟩) 0 0, .slice (cond z2 none (some ⟨q2, off, none⟩)) n2 c2] := by
  have := argL_ok hE hl
  apply Array.ext'
  rw [Array.toList_map]; exact this
 have hd : (SV.o (.s g' q' E.w 0 ys.length ys.length false)).den = .slice (some ⟨q', 0, none⟩) ys.length ys.length := by
  show Value.slice (some ⟨q', 0 * E.w, none⟩) _ _ = _
  rw [Nat.zero_mul]
 rw [hd]
 exact ⟨_, _, .inr (.inr (.inl ⟨c, _, h2, h3, rfl, by rw [hargs]; exact k1⟩)), rfl, rfl⟩
theorem ctr_gh {f : FuncId} {args : List SV} {pre : List Ch} {X : Type} {ψ : X -> Prop} {pre' : X -> List Ch} {R : Type} {φ : R -> Prop} {res : R -> SV} {post : R -> List Ch} (E : GE pre X ψ pre') (C : ∀ x, ψ x -> Ctr P nO f args (pre' x) R φ res post) : Ctr P nO f args pre R φ res post := fun F A hF => by
 obtain ⟨x, F1, h1, h2, M⟩ := E F A hF
 obtain ⟨r, A', F', h3, h4, h5, h6⟩ := C x h1 F1 A h2
 exact ⟨r, A', F', h3, h4, h5, M.trans h6⟩
theorem ge_cons {l : List Ch} {R : Type} {φ : R -> Prop} {l' : R -> List Ch} (c : Ch) (E : GE l R φ l') : GE (c :: l) R φ (fun r => c :: l' r) := fun F A hF => by
 have hF : (c.den.star (hpA l)).p F A := hF
 obtain ⟨F1, F2, h1, h2, j⟩ := As.comm hF
 obtain ⟨r, F1', h3, h4, M⟩ := E F1 A h1
 obtain ⟨F', g1, g2⟩ := As.frame (K := hpA (l' r)) j h2 h4 M
 exact ⟨r, F', h3, As.comm g1, g2⟩
theorem ctr_map {f : FuncId} {args : List SV} {pre : List Ch} {R R' : Type} {φ : R -> Prop} {φ' : R' -> Prop} {res : R -> SV} {res' : R' -> SV} {post : R -> List Ch} {post' : R' -> List Ch} (C : Ctr P nO f args pre R φ res post) (g : R -> R') (h : ∀ r, φ r -> φ' (g r) /\ (res r).den = (res' (g r)).den /\ (post r).map Ch.den = (post' (g r)).map Ch.den) : Ctr P nO f args pre R' φ' res' post' := fun F A hF => by
 obtain ⟨r, A', F', h3, h4, h5, h6⟩ := C F A hF
 obtain ⟨k1, k2, k3⟩ := h r h3
 exact ⟨g r, A', F', k1, by rw [<- k2]; exact h4, by unfold hpA at h5 ⊢; rw [<- k3]; exact h5, h6⟩
theorem ctr_frame {f : FuncId} {args : List SV} {pre : List Ch} {R : Type} {φ : R -> Prop} {res : R -> SV} {post : R -> List Ch} (J : List Ch) (C : Ctr P nO f args pre R φ res post) : Ctr P nO f args (pre ++ J) R φ res (fun r => post r ++ J) := fun F A hF => by
 obtain ⟨F1, F2, h1, h2, j⟩ := hp_app.1 hF
 obtain ⟨r, A', F1', h3, h4, h5, h6⟩ := C F1 A h1
 obtain ⟨F', g1, g2⟩ := As.frame (K := hpA (post r)) j h2 h5 h6
 exact ⟨r, A', F', h3, h4, hp_app.2 g1, g2⟩
theorem ctrV_as {y : Value} {args : List SV} {c : Ch} {R : Type} {φ : R -> Prop} {res : R -> SV} (C : CtrV P nO y args [c] R φ res (fun _ => [c])) : CtrV P nO y args [.as c.den] R φ res (fun _ => [.as c.den]) := C
theorem ctrV_all {y : Value} {args : List SV} {l : List Ch} {R : Type} {φ : R -> Prop} {res : R -> SV} (C : CtrV P nO y args l R φ res (fun _ => l)) : CtrV P nO y args [.as (hpA l)] R φ res (fun _ => [.as (hpA l)]) := fun F A h => by
 obtain ⟨r, A', F', h1, h2, h3, h4⟩ := C F A (As.unE h)
 exact ⟨r, A', F', h1, h2, As.addE h3, h4⟩
theorem mdOf_mine {α : Type} {l : List α} : (mdOf l).mine = true := by cases l <;> rfl
theorem cl0 [G : Good P] {f : FuncId} {args : List SV} {pre : List Ch} {R : Type} {φ : R -> Prop} {res : R -> SV} {post : R -> List Ch} (C : Ctr P nO f args pre R φ res post) (idx : List Nat) (nx : Nat)
  (next : ∀ r, φ r -> GP P nO ro B Q (nxP p (ixP p + 1) (lgP p s)) (acS p s (res r) idx (post r) nx))
  (chk : (caA p s, isF P f, okB idx s.hp.length, dsOk p s, (selC idx s.hp).map Ch.den) = (some (f, args.map SV.den), true, true, true, pre.map Ch.den) := by kernel_rfl)
  (ed : ∀ r, (enP P p (ixP p + 1) (lgP p s) (acS p s (res r) idx (post r) nx)).1 = (enP P p (ixP p + 1) (lgP p s) (acS p s (res r) idx (post r) nx)).2 := by intro r; kernel_rfl) : GP P nO ro B Q p s := by
 simp only [Prod.mk.injEq] at chk
 obtain ⟨c1, c2, c3, c4, c5⟩ := chk
 unfold caA at c1
 split at c1
 case h_2 => cases c1
 rename_i id ops d K i lg
 split at c1
 case h_2 => cases c1
 rename_i o ho
 split at c1
 case h_2 => cases c1
 rename_i c hop hw
 split at c1
 case h_2 => cases c1
 rename_i g hc
 split at c1
 case h_2 => cases c1
 rename_i f' first cap l hg hl
 simp only [Option.some.injEq, Prod.mk.injEq] at c1
 obtain ⟨rfl, hx⟩ := c1
 obtain ⟨fn, code, H⟩ := isF_ok c2
 refine act G (res := res) (post := post) ho hw (by rw [hop]; unfold kindOf; simp only [hc]) idx nx c3 c5 (fun a ha F A hF => ?_) c4 next ed
 obtain ⟨r, A', F', h1, h2, h3, h4⟩ := C F A hF
 refine ⟨r, A', F', ⟨h1, ?_⟩, h3, h4⟩
 refine runOp_enter H (evX_ok ha hg) (argL_ok ha hl) ?_ h2 hop hc
 apply Array.ext'
 simpa using hx
theorem ctrV {f : FuncId} {args args' : List SV} {y : Value} {pre : List Ch} {R : Type} {φ : R -> Prop} {res : R -> SV} {post : R -> List Ch} (cap : List Value) (C : Ctr P nO f args' pre R φ res post) (h : (y, args'.map SV.den, isF P f) = (.func (.func f) #[] cap.toArray, args.map SV.den ++ cap, true) := by kernel_rfl) : CtrV P nO y args pre R φ res post := fun F A hF => by
 simp only [Prod.mk.injEq] at h
 obtain ⟨fn, code, H⟩ := isF_ok h.2.2
 obtain ⟨r, A', F', h1, h2, h3⟩ := C F A hF
 refine ⟨r, A', F', h1, ⟨f, fn, code, _, _, H, h.1, ?_⟩, h3⟩
 rw [h.2.1] at h2
 simpa using h2
end
end Go.Abs
namespace Go.Abs
structure Va where
 k : Int
 n : Int
 s : ByteArray
theorem nb {b : Bool} (h : b = false) : ¬ b = true := by simp [h]
def eI : En Int := ⟨1, fun x => [.v (.int .i64 x)], 0⟩
def eP : En (Int × Int) := ⟨2, fun x => [.v (.int .i64 x.1), .v (.int .i64 x.2)], (0, 0)⟩
def eV : En Va := ⟨3, fun x => [.v (.int .i64 x.k), .v (.int .i64 x.n), .v (.string x.s)], ⟨0, 0, ⟨#[]⟩⟩⟩
def eS : En ByteArray := ⟨1, fun x => [.v (.string x)], ⟨#[]⟩⟩
def bOk (b : UInt8) : Prop := ¬ ((b.toNat : Int) < 32 ∨ (b.toNat : Int) > 126 ∨ (b.toNat : Int) = 39)
instance (b : UInt8) : Decidable (bOk b) := by unfold bOk; infer_instance
def tOk (s : ByteArray) : Bool := decide ((∀ j, j < s.size -> bOk (byteAt s j)) /\ s.size <= 12)
def strE (s : ByteArray) : Bool := strEq s ⟨#[]⟩
def vOk (v : Va) : Bool := if v.k = 0 then and (v.n == 0) (strE v.s) else if v.k = 1 then strE v.s else if v.k = 2 then and (v.n == 0) (tOk v.s) else false
def eqV (a b : Va) : Bool := and (and (a.k == b.k) (a.n == b.n)) (strEq a.s b.s)
def cmpV (a b : Va) : Int := if or (or (decide (a.k < b.k)) (and (a.k == b.k) (decide (a.n < b.n)))) (and (and (a.k == b.k) (a.n == b.n)) (strLt a.s b.s)) then -1 else if eqV a b then 0 else 1
def rowV : List Va -> List Va -> Int
 | [], [] => 0
 | [], _ => -1
 | _, [] => 1
 | a :: l, b :: m => if cmpV a b = 0 then rowV l m else cmpV a b
theorem rowV_step {a b : List Va} {i : Nat} (ha : i < a.length) (hb : i < b.length) : rowV (a.drop i) (b.drop i) = if cmpV (a.getD i eV.d) (b.getD i eV.d) = 0 then rowV (a.drop (i + 1)) (b.drop (i + 1)) else cmpV (a.getD i eV.d) (b.getD i eV.d) := by
 rw [List.drop_eq_getElem_cons ha, List.drop_eq_getElem_cons hb, getD_at ha, getD_at hb]; rfl
theorem rowV_end {a b : List Va} : (a = [] ∨ b = []) -> rowV a b = if a.length < b.length then -1 else if a.length > b.length then 1 else 0 := by
 intro h
 cases a <;> cases b <;> simp_all [rowV]
end Go.Abs
namespace Go.Abs
theorem isE_set {α : Type} {l : List α} {i : Nat} {x : α} : (l.set i x).isEmpty = l.isEmpty := by
 cases l
 ·rfl
 ·cases i <;> rfl
theorem isE_snoc {α : Type} {l : List α} {x : α} : (l ++ [x]).isEmpty = false := by cases l <;> rfl
theorem last_cut {m : List Sp} {s : Sp} : (m ++ [s]).length - 1 = m.length := by simp
theorem addSp_in {m : List Sp} {f t : Int} (h : 0 < m.length) (h2 : f <= (m.getD (m.length - 1) ((0, 0) : Int × Int)).2) :
  addSp m f t = m.set (m.length - 1) ((m.getD (m.length - 1) ((0, 0) : Int × Int)).1, if (m.getD (m.length - 1) ((0, 0) : Int × Int)).2 < t then t else (m.getD (m.length - 1) ((0, 0) : Int × Int)).2) := by
 rcases List.eq_nil_or_concat m with rfl | ⟨m, ⟨a, b⟩, rfl⟩
 ·exact absurd h (by simp)
 ·rw [List.concat_eq_append] at *
  rw [last_cut] at h2 ⊢
  have e : (m ++ [(a, b)]).getD m.length ((0, 0) : Int × Int) = (a, b) := by rw [List.getD_eq_getElem?_getD]; simp
  rw [e] at h2 ⊢
  rw [addSp_snoc, if_pos h2]
  simp
theorem addSp_out {m : List Sp} {f t : Int} (h : ¬ (0 < m.length /\ f <= (m.getD (m.length - 1) ((0, 0) : Int × Int)).2)) :
  addSp m f t = if f < t then m ++ [(f, t)] else m := by
 rcases List.eq_nil_or_concat m with rfl | ⟨m, ⟨a, b⟩, rfl⟩
 ·rw [addSp_nil]; rfl
 ·rw [List.concat_eq_append] at *
  rw [last_cut] at h
  have e : (m ++ [(a, b)]).getD m.length ((0, 0) : Int × Int) = (a, b) := by rw [List.getD_eq_getElem?_getD]; simp
  rw [e] at h
  rw [addSp_snoc, if_neg (fun h2 => h ⟨by simp, h2⟩)]
def cS (a b : List Sp) : Nat -> Int
 | 0 => 0
 | 1 => a.length
 | _ => a.length + b.length
def kN (a b : List Sp) : Nat -> Nat
 | 0 => 0
 | 1 => 0 + a.length
 | _ => 0 + a.length + b.length
def cL (a b : List Sp) : Nat -> List Sp
 | 0 => List.replicate (a.length + b.length) eP.d
 | 1 => spl (List.replicate (a.length + b.length) eP.d) 0 a
 | _ => spl (spl (List.replicate (a.length + b.length) eP.d) 0 a) (0 + a.length) b
theorem cL_len (a b : List Sp) (i : Nat) : (cL a b i).length = a.length + b.length := by
 have h1 : (spl (List.replicate (a.length + b.length) eP.d) 0 a).length = a.length + b.length := by rw [spl_len (by simp), List.length_replicate]
 match i with
 | 0 => simp [cL]
 | 1 => exact h1
 | _ + 2 => simp only [cL]; rw [spl_len (by rw [h1]; omega), h1]
theorem cL_two (a b : List Sp) : cL a b 2 = a ++ b := by
 simp [cL, spl]
theorem zN (a b : List Sp) : ((a.length + b.length) == 0) = (a ++ b).isEmpty := by
 cases a <;> cases b <;> simp
theorem addSp_len {m : List Sp} {f t : Int} : (addSp m f t).length <= m.length + 1 := by
 by_cases h : 0 < m.length /\ f <= (m.getD (m.length - 1) ((0, 0) : Int × Int)).2
 ·rw [addSp_in h.1 h.2, List.length_set]; omega
 ·rw [addSp_out h]
  split
  ·simp
  ·omega
theorem ise_len {α : Type} {l : List α} : l.isEmpty = true -> l.length = 0 := by cases l <;> simp
end Go.Abs
namespace Go.Abs
def sortI (l : List Int) : List Int := l.mergeSort fun x y => decide (x <= y)
def IsOr (a b r : List Sp) : Prop := WF (-1) r /\ ∀ i, has r i = (has a i || has b i)
def IsAnd (a b r : List Sp) : Prop := WF (-1) r /\ ∀ i, has r i = (has a i && has b i)
def IsOut (a b r : List Sp) : Prop := WF (-1) r /\ ∀ i, has r i = (has a i && !has b i)
def IsNot (a : List Sp) (n : Int) (r : List Sp) : Prop := WF (-1) r /\ ∀ i, has r i = (inRg i && decide (i < n) && !has a i)
def ofL (l : List Int) : List Sp := l.foldl (fun m i => if 0 <= i /\ i < 65536 then addSp m i (i + 1) else m) []
theorem wf_of (l : List Int) : WF (-1) (ofL l) := by
 have : ∀ (l : List Int) (m : List Sp), WF (-1) m -> WF (-1) (l.foldl (fun m i => if 0 <= i /\ i < 65536 then addSp m i (i + 1) else m) m) := by
  intro l
  induction l with
  | nil => exact fun m h => h
  | cons i l ih =>
   intro m h
   refine ih _ ?_
   show WF (-1) (if 0 <= i /\ i < 65536 then addSp m i (i + 1) else m)
   split
   ·exact wf_add h (by omega) (by omega)
   ·exact h
 exact this l [] .nil
theorem of_len (l : List Int) : (ofL l).length <= l.length := by
 have : ∀ (l : List Int) (m : List Sp), (l.foldl (fun m i => if 0 <= i /\ i < 65536 then addSp m i (i + 1) else m) m).length <= m.length + l.length := by
  intro l
  induction l with
  | nil => exact fun m => Nat.le_refl _
  | cons i l ih =>
   intro m
   refine Nat.le_trans (ih _) ?_
   have : (if 0 <= i /\ i < 65536 then addSp m i (i + 1) else m).length <= m.length + 1 := by
    split
    ·exact add_len
    ·omega
   simp only [List.length_cons]
   omega
 simpa [ofL] using this l []
theorem of_take {L : List Int} {k : Nat} {x : Int} (h : L[k]? = some x) : ofL (L.take (k + 1)) = if 0 <= x /\ x < 65536 then addSp (ofL (L.take k)) x (x + 1) else ofL (L.take k) := by
 obtain ⟨hk, e⟩ := List.getElem?_eq_some_iff.1 h
 unfold ofL
 rw [List.take_succ_eq_append_getElem hk, List.foldl_append, e]
 rfl
theorem of_has {L : List Int} (hs : L.Pairwise (· <= ·)) (i : Int) : has (ofL L) i = true ↔ i ∈ L /\ 0 <= i /\ i < 65536 := by
 have : ∀ (l : List Int) (m : List Sp), WF (-1) m -> l.Pairwise (· <= ·) -> (∀ x ∈ l, 0 <= x -> lstS m <= x) -> (has (l.foldl (fun m i => if 0 <= i /\ i < 65536 then addSp m i (i + 1) else m) m) i = true ↔ has m i = true ∨ (i ∈ l /\ 0 <= i /\ i < 65536)) := by
  intro l
  induction l with
  | nil => exact fun m _ _ _ => by simp
  | cons x l ih =>
   intro m hw hp hl
   obtain ⟨hx, hp'⟩ := List.pairwise_cons.1 hp
   rw [List.foldl_cons]
   by_cases h : 0 <= x /\ x < 65536
   ·rw [if_pos h, ih _ (wf_add hw (by omega) (by omega)) hp' (fun y hy h0 => ?_), has_add hw (hl x List.mem_cons_self h.1)]
    ·simp only [Bool.or_eq_true, Bool.and_eq_true, decide_eq_true_eq, List.mem_cons]
     constructor
     ·rintro ((h1 | h1) | h1)
      ·exact .inl h1
      ·exact .inr ⟨.inl (by omega), by omega⟩
      ·exact .inr ⟨.inr h1.1, h1.2⟩
     ·rintro (h1 | ⟨h1 | h1, h2⟩)
      ·exact .inl (.inl h1)
      ·exact .inl (.inr (by omega))
      ·exact .inr ⟨h1, h2⟩
    ·have := hx y hy
     rcases lst_add (m := m) (f := x) (t := x + 1) with e | e
     ·rw [e]; exact Int.le_trans (hl x List.mem_cons_self h.1) this
     ·rw [e]; exact this
   ·rw [if_neg h, ih _ hw hp' fun y hy h0 => hl y (List.mem_cons_of_mem _ hy) h0]
    simp only [List.mem_cons]
    constructor
    ·rintro (h1 | h1)
     ·exact .inl h1
     ·exact .inr ⟨.inr h1.1, h1.2⟩
    ·rintro (h1 | ⟨h1 | h1, h2⟩)
     ·exact .inl h1
     ·exact absurd (h1 ▸ h2) h
     ·exact .inr ⟨h1, h2⟩
 have := this L [] .nil hs (fun x _ h => by show (-1 : Int) <= x; omega)
 unfold ofL
 rw [this]
 simp [has]
theorem sortI_le (l : List Int) : (sortI l).Pairwise (· <= ·) := by
 have := List.pairwise_mergeSort (le := fun x y : Int => decide (x <= y)) (fun a b c h1 h2 => by simp only [decide_eq_true_eq] at *; omega) (fun a b => by simp only [Bool.or_eq_true, decide_eq_true_eq]; omega) l
 exact this.imp fun h => by simpa using h
theorem sortI_mem {l : List Int} {i : Int} : i ∈ sortI l ↔ i ∈ l := List.mem_mergeSort
theorem ofL_at {L : List Int} {k : Nat} (h : k < L.length) : ofL (L.take (k + 1)) = if L.getD k eI.d ≥ 0 /\ L.getD k eI.d < 65536 then addSp (ofL (L.take k)) (L.getD k eI.d) (L.getD k eI.d + 1) else ofL (L.take k) := of_take (by rw [getD_at h]; exact List.getElem?_eq_getElem h)
theorem ofL_le (L : List Int) (k : Nat) : (ofL (L.take k)).length <= k := Nat.le_trans (of_len _) (by simp; omega)
theorem sortI_len (l : List Int) : (sortI l).length = l.length := List.length_mergeSort _
theorem rank_at {m : List Sp} {k : Nat} {i : Int} (h : k < m.length) : rank (m.take (k + 1)) i = rank (m.take k) i + (if i > (m.getD k eP.d).1 then (if (m.getD k eP.d).2 < i then (m.getD k eP.d).2 else i) - (m.getD k eP.d).1 else 0) := by
 rw [List.take_succ_eq_append_getElem h, getD_at h]
 have : ∀ (a : List Sp) (s : Sp), rank (a ++ [s]) i = rank a i + (if i > s.1 then (if s.2 < i then s.2 else i) - s.1 else 0) := by
  intro a s
  induction a with
  | nil => obtain ⟨x, y⟩ := s; simp only [List.nil_append, rank]; omega
  | cons x a ih => obtain ⟨u, v⟩ := x; simp only [List.cons_append, rank, ih]; omega
 exact this _ _
theorem or_of {a b L : List Sp} (ha : WF (-1) a) (hb : WF (-1) b) (hp : L.Perm (a ++ b)) (hs : L.Pairwise fun s u => s.1 <= u.1) : IsOr a b (addL L) := by
 have h1 : ∀ s ∈ L, -1 < s.1 /\ s.2 <= 65536 := fun s hm => by
  rcases List.mem_append.1 (hp.mem_iff.1 hm) with h | h
  ·have := wf_mem ha s h; omega
  ·have := wf_mem hb s h; omega
 obtain ⟨h2, h3⟩ := addL_is h1 hs
 exact ⟨h2, fun i => by rw [h3, has_perm hp, has_append]⟩
theorem addL_at {L : List Sp} {k : Nat} (h : k < L.length) : addL (L.take (k + 1)) = addSp (addL (L.take k)) (L.getD k eP.d).1 (L.getD k eP.d).2 := addL_take (by rw [getD_at h]; exact List.getElem?_eq_getElem h)
theorem addL_le (L : List Sp) (k : Nat) : (addL (L.take k)).length <= k := Nat.le_trans (addL_len _) (by simp; omega)
end Go.Abs
namespace Go.Abs
theorem rank_b {m : List Sp} {i : Int} (h : WF (-1) m) {k : Nat} (hk : k <= m.length) : 0 <= rank (m.take k) i /\ rank (m.take k) i <= 65536 * (k : Int) := by
 induction k with
 | zero => simp [rank]
 | succ k ih =>
  obtain ⟨h1, h2⟩ := ih (by omega)
  have hs := wf_mem h (m.getD k eP.d) (by rw [getD_at (by omega)]; exact List.getElem_mem _)
  rw [rank_at (by omega)]
  omega
theorem andGo_at {a b M : List Sp} {i k : Nat} (hi : i < a.length) (hk : k < b.length) : andGo (a.length + b.length - (i + k)) (a.drop i) (b.drop k) M =
  if (a.getD i eP.d).2 < (b.getD k eP.d).2 then andGo (a.length + b.length - (i + 1 + k)) (a.drop (i + 1)) (b.drop k) (andAdd M (a.getD i eP.d) (b.getD k eP.d)) else andGo (a.length + b.length - (i + (k + 1))) (a.drop i) (b.drop (k + 1)) (andAdd M (a.getD i eP.d) (b.getD k eP.d)) := by
 have e : a.length + b.length - (i + k) = (a.length + b.length - (i + 1 + k)) + 1 := by omega
 have e2 : a.length + b.length - (i + (k + 1)) = a.length + b.length - (i + 1 + k) := by omega
 rw [e, e2, getD_at hi, getD_at hk]
 have ha := List.drop_eq_getElem_cons hi
 have hb := List.drop_eq_getElem_cons hk
 conv => lhs; rw [ha, hb]
 simp only [andGo]
 rw [<- ha, <- hb]
theorem andGo_end {a b M : List Sp} {n i k : Nat} (h : ¬ (i < a.length /\ k < b.length)) : andGo n (a.drop i) (b.drop k) M = M := by
 by_cases hi : i < a.length
 ·rw [List.drop_eq_nil_of_le (as := b) (by omega), andGo_nil2]
 ·rw [List.drop_eq_nil_of_le (as := a) (by omega), andGo_nil]
theorem andAdd_if {M : List Sp} {x y : Sp} : andAdd M x y = if (if x.1 < y.1 then y.1 else x.1) < (if y.2 < x.2 then y.2 else x.2) then addSp M (if x.1 < y.1 then y.1 else x.1) (if y.2 < x.2 then y.2 else x.2) else M := rfl
theorem notGo_at {n fr : Int} {m acc : List Sp} {k : Nat} (hk : k < m.length) : notGo n (m.drop k) fr acc = if (m.getD k eP.d).1 ≥ n then (acc, fr) else notGo n (m.drop (k + 1)) (m.getD k eP.d).2 (if fr < (m.getD k eP.d).1 then addSp acc fr (m.getD k eP.d).1 else acc) := by
 rw [List.drop_eq_getElem_cons hk, getD_at hk]; rfl
def idxF {α : Type} (l : List α) (p : α -> Bool) : Int := match l.findIdx? p with
 | some i => i
 | none => -1
theorem idxF_some {α : Type} {l : List α} {p : α -> Bool} {d : α} {i : Nat} (hi : i < l.length) (h : p (l.getD i d) = true) (hn : ∀ j, j < i -> p (l.getD j d) = false) : idxF l p = i := by
 have : l.findIdx? p = some i := by
  rw [List.findIdx?_eq_some_iff_getElem]
  refine ⟨hi, by rw [getD_at hi] at h; exact h, fun j hj => ?_⟩
  have := hn j hj
  rw [getD_at (by omega)] at this
  simp [this]
 simp [idxF, this]
theorem idxF_none {α : Type} {l : List α} {p : α -> Bool} {d : α} (hn : ∀ j, j < l.length -> p (l.getD j d) = false) : idxF l p = -1 := by
 have : l.findIdx? p = none := by
  rw [List.findIdx?_eq_none_iff]
  intro x hx
  obtain ⟨k, hk, rfl⟩ := List.getElem_of_mem hx
  have := hn k hk
  rwa [getD_at hk] at this
 simp [idxF, this]
theorem idxF_any {α : Type} {l : List α} {p : α -> Bool} : decide (idxF l p ≥ 0) = l.any p := by
 unfold idxF
 cases h : l.findIdx? p with
 | some i =>
  obtain ⟨hi, hp, _⟩ := List.findIdx?_eq_some_iff_getElem.1 h
  rw [List.any_eq_true.2 ⟨_, List.getElem_mem hi, hp⟩]
  exact decide_eq_true (Int.natCast_nonneg i)
 | none =>
  have := List.findIdx?_eq_none_iff.1 h
  rw [List.any_eq_false.2 fun x hx => by simp [this x hx]]
  rfl
end Go.Abs
namespace Go.Abs
theorem not_of {a : List Sp} {n : Int} (ha : WF (-1) a) : IsNot a (if (65536 : Int) < n then 65536 else n) (notL a n) := by
 obtain ⟨h1, h2⟩ := not_is (n0 := n) ha
 refine ⟨h1, fun i => ?_⟩
 rw [h2]
 unfold inRg
 by_cases h3 : (65536 : Int) < n
 ·simp only [if_pos h3]
  cases decide (0 <= i) <;> cases decide (i < 65536) <;> rfl
 ·simp only [if_neg h3]
  by_cases h4 : i < n
  ·rw [decide_eq_true h4, decide_eq_true (by omega : i < 65536), Bool.and_true, Bool.and_true]
  ·rw [decide_eq_false h4]; cases decide (0 <= i) <;> simp
theorem out_of {a b n r : List Sp} (ha : WF (-1) a) (hn : IsNot b (if (65536 : Int) < 65536 then 65536 else 65536) n) (hr : IsAnd a n r) : IsOut a b r := by
 refine ⟨hr.1, fun i => ?_⟩
 rw [hr.2, hn.2]
 cases h : has a i with
 | false => rfl
 | true =>
  have := has_range ha h
  unfold inRg at this ⊢
  simp only [Bool.and_eq_true, decide_eq_true_eq] at this
  simp [this.1, this.2]
end Go.Abs
