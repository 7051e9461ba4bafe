/-
  tables: columns as things, may, col, Live, Next.
-/
import Derived.Test.YthkoolfmealabaaGreatN29
import Derived.Test.YthkoolfmealabaaGreatN25
import Derived.Test.YthkoolfmealabaaGreatN24
namespace Go.Proofs.YthkoolfmealabaaGreat
open Go.Abs
variable {n₀ : Nat}
set_option maxRecDepth 8000
attribute [local irreducible] GP ruP nxP acS gst cdP loP invS ent1 ent2 enP caA resV lgP agN
/-- A column, as a thing. -/
def colL (x : Nat × Co) (r : Nat × Value) : List Ch := [.blk 911 x.1 [.v (.int .i64 x.2.kind), .s 912 r.1 3 0 x.2.l.length x.2.l.length x.2.l.isEmpty, .v r.2, .v (.int .i64 x.2.nulls)] 111 .own, vc eV 912 r.1 x.2.l 38 .grown x.2.l.isEmpty, .as (dictA r.2 x.2.ws x.2.b)]
def colA (x : Nat × Co) : As := boxA (fun _ : Nat × Value => True) (colL x)
set_option maxHeartbeats 4000000 in
theorem idxfc_ctr {q : Nat} {c : Nat} {z : Bool} {xs : List Cd} {t : TypeId} {m : Md} {y : Value} {p : Cd → Bool} {J : As} (hz : z = true → xs.length = 0) (hl : xs.length < 1000000) (hy : ∀ k, k < xs.length → CtrV Tryz.prog n₀ y [.a [.v (.string (xs.getD k eC.d).name), .v (.int .i64 (xs.getD k eC.d).kind), .cb (xs.getD k eC.d).must, .v (.string (xs.getD k eC.d).to)]] [.as J] Unit (fun _ => True) (fun _ => .o (.cb (p (xs.getD k eC.d)))) (fun _ => [.as J])) : Ctr Tryz.prog n₀ 73 [.o (.s 1 q 4 0 xs.length c z), .o (.v y)] [vc eC 1 q xs t m z, .as J] (Unit) (fun _ => True) (fun r => .o (.v (.int .i64 (idxF xs p)))) (fun r => [vc eC 1 q xs t m z, .as J]) := by
  refine fs good 100 (fun B => ?_)
  refine g0 good (fun _ => ?_)
  refine g0 good (fun _ => ?_)
  refine lp good ((Nat)) [0, 1, 7] (fun r => [(8, .o (.v (.int .i64 (r : Int))))]) [0, 1] (fun _ => []) 120 (fun r => r ≤ xs.length ∧ ∀ j, j < r → p (xs.getD j eC.d) = false) (fun r => xs.length - r) (0) ⟨Nat.zero_le _, fun j hj => absurd hj (Nat.not_lt_zero j)⟩ [] (fun i hx ag103 => ?_)
  obtain ⟨hi, hn⟩ := hx
  refine g0 good (fun _ => ?_)
  refine cdD good ((i : Int) < (xs.length : Int)) (fun h1 => ?_) (fun h1 => ?_)
  · refine g0 good (fun _ => ?_)
    refine go good (fun _ => (o5 (nz i) (by omega : (i : Int) < (xs.length : Int)) (zf hz (show 0 < xs.length by omega) : z = false) (rfl : q = q) (by omega : i < xs.length))) (fun _ => ?_)
    refine clv good (hy i (by omega)) [1] [] 120 (fun _ _ => ?_)
    refine cd good (p (xs.getD i eC.d)) (fun h2 => ?_) (fun h2 => ?_)
    · refine g0 good (fun _ => ?_)
      exact rtv trivial (()) trivial [1, 0] (.o (.v (.int .i64 (i : Int)))) (congrArg (Value.int .i64) (idxF_some (d := eC.d) (by omega) h2 hn).symm)
    · refine go good (fun _ => (o2 (by omega : -9223372036854775808 ≤ (i : Int) + 1) (by omega : (i : Int) + 1 < 9223372036854775808))) (fun _ => ?_)
      exact ag103 _ _ (i + 1) (by first | omega | (simp only; omega)) ⟨by omega, fun j hj => by rcases Nat.lt_succ_iff_lt_or_eq.1 hj with h | h; exact hn j h; subst h; exact h2⟩ [1, 0] (by kernel_rfl) (by kernel_rfl)
  · refine g0 good (fun _ => ?_)
    exact rtv trivial (()) trivial [0, 1] (.o (.v (.int .i64 (-1)))) (congrArg (Value.int .i64) (idxF_none (d := eC.d) (fun j hj => hn j (by omega))).symm)
set_option maxHeartbeats 4000000 in
theorem tcol1_ctr {a : Cd} {q : Nat} {s : ByteArray} {tb : TypeId}  : Ctr Tryz.prog n₀ 74 [.a [.v (.string a.name), .v (.int .i64 a.kind), .cb a.must, .v (.string a.to)], .o (.p 1 q 0 0 0)] [.blk 1 q [.v (.string s)] tb .own] (Unit) (fun _ => True) (fun r => .o (.cb (strEq a.name s))) (fun r => [.blk 1 q [.v (.string s)] tb .own]) := by
  refine fs good 100 (fun B => ?_)
  refine go good (fun q101 => (o1 (rfl : [C1.v (.string a.name), .v (.int .i64 a.kind), .cb a.must, .v (.string a.to)].all C1.one = true))) (fun q101 => ?_)
  refine go good (fun _ => (o2 (rfl : (q101 100) = (q101 100)) (rfl : q = q))) (fun _ => ?_)
  exact rt trivial (()) trivial [1]
set_option maxHeartbeats 4000000 in
theorem tmay_ctr {q : Nat} {na : ByteArray} {ka : ByteArray} {qa : Nat} {ca : Nat} {za : Bool} {xa : List Cd} {ta : TypeId} {ma : Md} {qA : Nat} {cA : Nat} {zA : Bool} {da : List De} {qp : Nat} {zp : Bool} {xs : List (Nat × Co)} {ql : Nat} {cL : Nat} {lv : List Sp} {n : Nat} {i : Nat} {v : Va} (hza : za = true → xa.length = 0) (hla : xa.length < 1000000) (hi : i < xa.length) (hs : v.s.size < 1000000000) : Ctr Tryz.prog n₀ 35 [.o (.p 1 q 0 0 0), .o (.v (.int .i64 (i : Int))), .a [.v (.int .i64 v.k), .v (.int .i64 v.n), .v (.string v.s)]] [.blk 1 q [.v (.string na), .s 2 qa 4 0 xa.length ca za, .v (.string ka), .s 3 qA 2 0 da.length cA zA, .s 4 qp 1 0 xs.length xs.length zp, .s 5 ql 2 0 lv.length cL lv.isEmpty, .v (.int .i64 (n : Int))] 78 .own, vc eC 2 qa xa ta ma za] (Unit) (fun _ => True) (fun r => .o (.cb (colOk xa i v))) (fun r => [.blk 1 q [.v (.string na), .s 2 qa 4 0 xa.length ca za, .v (.string ka), .s 3 qA 2 0 da.length cA zA, .s 4 qp 1 0 xs.length xs.length zp, .s 5 ql 2 0 lv.length cL lv.isEmpty, .v (.int .i64 (n : Int))] 78 .own, vc eC 2 qa xa ta ma za]) := by
  refine fs good 100 (fun B => ?_)
  refine go good (fun q101 => (o1 (rfl : [C1.v (.int .i64 v.k), .v (.int .i64 v.n), .v (.string v.s)].all C1.one = true))) (fun q101 => ?_)
  refine go good (fun _ => (o6 (rfl : (q101 100) = (q101 100)) (fun (he : (!(v.k == 0)) = true) => have he : ¬ (v.k = 0) := (by simpa using he); (o1 (rfl : (q101 100) = (q101 100)))) (fun (he : (!(v.k == 0)) = true) => have he : ¬ (v.k = 0) := (by simpa using he); (o1 (rfl : q = q))) (fun (he : (!(v.k == 0)) = true) => have he : ¬ (v.k = 0) := (by simpa using he); (o3 (nz i) (by omega : (i : Int) < (xa.length : Int)) (zf hza (show 0 < xa.length by omega) : za = false))) (fun (he : (!(v.k == 0)) = true) => have he : ¬ (v.k = 0) := (by simpa using he); (o2 (rfl : qa = qa) (by omega : i < xa.length))) (fun (he : (or (v.k == 0) (v.k == (xa.getD i eC.d).kind)) = true) => have he : (v.k = 0) ∨ (v.k = (xa.getD i eC.d).kind) := (by simpa using he); (o1 (rfl : (q101 100) = (q101 100)))))) (fun _ => ?_)
  refine clm good (may_ctr (v := v) (by assumption)) [] trivial ?_
  refine g0 good (fun _ => ?_)
  exact rt trivial (()) trivial [1, 2]
set_option maxHeartbeats 4000000 in
theorem tcol_ctr {q : Nat} {na : ByteArray} {ka : ByteArray} {qa : Nat} {ca : Nat} {za : Bool} {xa : List Cd} {ta : TypeId} {ma : Md} {qA : Nat} {cA : Nat} {zA : Bool} {da : List De} {qp : Nat} {zp : Bool} {xs : List (Nat × Co)} {ql : Nat} {cL : Nat} {lv : List Sp} {n : Nat} {s : ByteArray} (hza : za = true → xa.length = 0) (hla : xa.length < 1000000) : Ctr Tryz.prog n₀ 46 [.o (.p 1 q 0 0 0), .o (.v (.string s))] [.blk 1 q [.v (.string na), .s 2 qa 4 0 xa.length ca za, .v (.string ka), .s 3 qA 2 0 da.length cA zA, .s 4 qp 1 0 xs.length xs.length zp, .s 5 ql 2 0 lv.length cL lv.isEmpty, .v (.int .i64 (n : Int))] 78 .own, vc eC 2 qa xa ta ma za] (Unit) (fun _ => True) (fun r => .o (.v (.int .i64 (idxF xa (fun c => strEq c.name s))))) (fun r => [.blk 1 q [.v (.string na), .s 2 qa 4 0 xa.length ca za, .v (.string ka), .s 3 qA 2 0 da.length cA zA, .s 4 qp 1 0 xs.length xs.length zp, .s 5 ql 2 0 lv.length cL lv.isEmpty, .v (.int .i64 (n : Int))] 78 .own, vc eC 2 qa xa ta ma za]) := by
  refine fs good 100 (fun B => ?_)
  refine go good (fun q101 => (o1 (rfl : [C1.v (.string s)].all C1.one = true))) (fun q101 => ?_)
  refine g0 good (fun _ => ?_)
  refine cdF good rfl ?_
  refine go good (fun _ => (o1 (rfl : q = q))) (fun _ => ?_)
  refine cl good (idxfc_ctr (q := qa) (c := ca) (z := za) (xs := xa) (t := ta) (m := ma) (y := .func (.func 74) #[] #[.pointer (some ⟨(q101 100), 0, none⟩)]) (p := fun c => strEq c.name s) (J := (Ch.den (.blk 100 (q101 100) [.v (.string s)] 9 .own))) hza hla (fun k _ => ctrV_as (ctrV [.pointer (some ⟨(q101 100), 0, none⟩)] (tcol1_ctr (a := xa.getD k eC.d) (q := (q101 100)) (s := s) (tb := 9))))) [2, 0] [] 101 (fun _ _ => ?_)
  refine g0 good (fun _ => ?_)
  exact rt trivial (()) trivial [2, 0]
set_option maxHeartbeats 4000000 in
theorem tlive_ctr {q : Nat} {na : ByteArray} {ka : ByteArray} {qa : Nat} {ca : Nat} {za : Bool} {xa : List Cd} {qA : Nat} {cA : Nat} {zA : Bool} {da : List De} {qp : Nat} {zp : Bool} {xs : List (Nat × Co)} {ql : Nat} {cL : Nat} {lv : List Sp} {n : Nat}  : Ctr Tryz.prog n₀ 21 [.o (.p 1 q 0 0 0)] [.blk 1 q [.v (.string na), .s 2 qa 4 0 xa.length ca za, .v (.string ka), .s 3 qA 2 0 da.length cA zA, .s 4 qp 1 0 xs.length xs.length zp, .s 5 ql 2 0 lv.length cL lv.isEmpty, .v (.int .i64 (n : Int))] 78 .own] (Unit) (fun _ => True) (fun r => .a [.s 5 ql 2 0 lv.length cL lv.isEmpty]) (fun r => [.blk 1 q [.v (.string na), .s 2 qa 4 0 xa.length ca za, .v (.string ka), .s 3 qA 2 0 da.length cA zA, .s 4 qp 1 0 xs.length xs.length zp, .s 5 ql 2 0 lv.length cL lv.isEmpty, .v (.int .i64 (n : Int))] 78 .own]) := by
  refine fs good 100 (fun B => ?_)
  refine g0 good (fun q101 => ?_)
  refine g0 good (fun _ => ?_)
  refine cdF good rfl ?_
  refine go good (fun _ => (o3 (rfl : q = q) (rfl : (q101 100) = (q101 100)) (rfl : [C1.s 5 ql 2 0 lv.length cL lv.isEmpty].all C1.one = true))) (fun _ => ?_)
  exact rt (o1 (rfl : (q101 100) = (q101 100))) (()) trivial [1]
set_option maxHeartbeats 4000000 in
theorem tnext_ctr {q : Nat} {na : ByteArray} {ka : ByteArray} {qa : Nat} {ca : Nat} {za : Bool} {xa : List Cd} {qA : Nat} {cA : Nat} {zA : Bool} {da : List De} {qp : Nat} {zp : Bool} {xs : List (Nat × Co)} {ql : Nat} {cL : Nat} {lv : List Sp} {n : Nat}  : Ctr Tryz.prog n₀ 23 [.o (.p 1 q 0 0 0)] [.blk 1 q [.v (.string na), .s 2 qa 4 0 xa.length ca za, .v (.string ka), .s 3 qA 2 0 da.length cA zA, .s 4 qp 1 0 xs.length xs.length zp, .s 5 ql 2 0 lv.length cL lv.isEmpty, .v (.int .i64 (n : Int))] 78 .own] (Unit) (fun _ => True) (fun r => .o (.v (.int .i64 (n : Int)))) (fun r => [.blk 1 q [.v (.string na), .s 2 qa 4 0 xa.length ca za, .v (.string ka), .s 3 qA 2 0 da.length cA zA, .s 4 qp 1 0 xs.length xs.length zp, .s 5 ql 2 0 lv.length cL lv.isEmpty, .v (.int .i64 (n : Int))] 78 .own]) := by
  refine fs good 100 (fun B => ?_)
  refine g0 good (fun _ => ?_)
  refine g0 good (fun _ => ?_)
  refine cdF good rfl ?_
  refine go good (fun _ => (o1 (rfl : q = q))) (fun _ => ?_)
  exact rt trivial (()) trivial [0]
end Go.Proofs.YthkoolfmealabaaGreat
/-
  tables: Insert.
-/
namespace Go.Proofs.YthkoolfmealabaaGreat
open Go.Abs
variable {n₀ : Nat}
set_option maxRecDepth 8000
attribute [local irreducible] GP ruP nxP acS gst cdP loP invS ent1 ent2 enP caA resV lgP agN
theorem of1_ctr {q : Nat} {x : Int} {t : TypeId}  : Ctr Tryz.prog n₀ 38 [.o (.s 1 q 1 0 1 1 false)] [.blk 1 q [.v (.int .i64 x)] t .own] ((Nat)) (fun _ => True) (fun r => .a [.s 3 r 2 0 ((ofL (sortI [x])).length) ((ofL (sortI [x])).length) ((ofL (sortI [x])).isEmpty)]) (fun r => [vc eP 3 r (ofL (sortI [x])) 114 .grown ((ofL (sortI [x])).isEmpty), vc eI 1 q [x] t .own false]) :=
  ctr_gh (blk_vec (g := 1) (q := q) (cs := [.v (.int .i64 x)]) (t := t) (m := .own) eI [x]) (fun _ _ => of_ctr (l := [x]) (fun h => nomatch h) (show 1 < 90000 by decide))
set_option maxHeartbeats 4000000 in
theorem tins_ctr {q : Nat} {na : ByteArray} {ka : ByteArray} {qa : Nat} {ca : Nat} {za : Bool} {xa : List Cd} {ta : TypeId} {ma : Md} {qA : Nat} {cA : Nat} {zA : Bool} {da : List De} {qp : Nat} {zp : Bool} {xs : List (Nat × Co)} {ql : Nat} {cL : Nat} {lv : List Sp} {n : Nat} {mp : Md} {mL : Md} {qv : Nat} {cv : Nat} {zv : Bool} {vs : List Va} {tv : TypeId} {mv : Md} (hza : za = true → xa.length = 0) (hla : xa.length < 1000000) (hzv : zv = true → vs.length = 0) (hlv : vs.length < 1000000) (hzp : zp = true → xs.length = 0) (hn : n < 65536) (hvx : vs.length = xs.length) (hax : xa.length = xs.length) (hok : ∀ i, i < vs.length → colOk xa i (vs.getD i eV.d) = true) (hsz : ∀ i, i < vs.length → (vs.getD i eV.d).s.size < 1000000000) (hf : ∀ i, i < xs.length → (xs.getD i dX).2.Fit) (hk : ∀ i, i < xs.length → (xs.getD i dX).2.kind = (xa.getD i eC.d).kind) (hw : WF (-1) lv) : Ctr Tryz.prog n₀ 12 [.o (.p 1 q 0 0 0), .o (.s 6 qv 3 0 vs.length cv zv)] [.blk 1 q [.v (.string na), .s 2 qa 4 0 xa.length ca za, .v (.string ka), .s 3 qA 2 0 da.length cA zA, .s 4 qp 1 0 xs.length xs.length zp, .s 5 ql 2 0 lv.length cL lv.isEmpty, .v (.int .i64 (n : Int))] 78 .own, vc eC 2 qa xa ta ma za, vc eV 6 qv vs tv mv zv, vc eX 4 qp xs 79 mp zp, .as (bigA colA xs), vc eP 5 ql lv 114 mL lv.isEmpty] ((Nat) × (List Sp)) (fun r => IsOr lv (ofL (sortI [(n : Int)])) r.2) (fun r => .t [(false, [.v (.int .i64 (n : Int))]), (false, [.v (.int .i64 0)])]) (fun r => [.blk 1 q [.v (.string na), .s 2 qa 4 0 xa.length ca za, .v (.string ka), .s 3 qA 2 0 da.length cA zA, .s 4 qp 1 0 ((turnX xs (insF xs vs) xs.length).length) ((turnX xs (insF xs vs) xs.length).length) zp, .s 7 r.1 2 0 r.2.length r.2.length r.2.isEmpty, .v (.int .i64 ((n + 1) : Int))] 78 .own, vc eC 2 qa xa ta ma za, vc eV 6 qv vs tv mv zv, vc eX 4 qp (turnX xs (insF xs vs) xs.length) 79 mp zp, .as (bigA colA (turnX xs (insF xs vs) xs.length)), vc eP 7 r.1 r.2 114 .grown r.2.isEmpty]) := by
  refine fs good 100 (fun B => ?_)
  refine g0 good (fun _ => ?_)
  refine g0 good (fun _ => ?_)
  refine cdF good rfl ?_
  refine go good (fun _ => (o1 (rfl : q = q))) (fun _ => ?_)
  refine cdF good (b := decide ((n : Int) ≥ 65536)) (decide_eq_false (by omega)) ?_
  refine go good (fun _ => (o1 (rfl : q = q))) (fun _ => ?_)
  refine cdF good (b := ((vs.length : Int) != (xs.length : Int))) (by rw [hvx]; simp) ?_
  refine g0 good (fun _ => ?_)
  refine lp good ((Nat)) [0, 1, 28, 29] (fun r => [(30, .o (.v (.int .i64 (r : Int))))]) [0, 1, 2, 3, 4, 5] (fun _ => []) 120 (fun r => r ≤ vs.length) (fun r => vs.length - r) (0) (Nat.zero_le _) [] (fun i hx ag106 => ?_)
  refine g0 good (fun _ => ?_)
  refine cdD good ((i : Int) < (vs.length : Int)) (fun h4 => ?_) (fun h4 => ?_)
  · have hsi := hsz i (by omega)
    refine go good (fun q108 => (oc (nz i) (by omega : (i : Int) < (vs.length : Int)) (zf hzv (show 0 < vs.length by omega) : zv = false) (rfl : qv = qv) (by omega : i < vs.length) (rfl : (q108 120) = (q108 120)) (o1 (rfl : [C1.v (.int .i64 ((vs.getD i eV.d).k)), .v (.int .i64 ((vs.getD i eV.d).n)), .v (.string ((vs.getD i eV.d).s))].all C1.one = true)))) (fun q108 => ?_)
    refine go good (fun _ => (o1 (rfl : (q108 120) = (q108 120)))) (fun _ => ?_)
    refine cl good (tmay_ctr (q := q) (na := na) (ka := ka) (qa := qa) (ca := ca) (za := za) (xa := xa) (ta := ta) (ma := ma) (qA := qA) (cA := cA) (zA := zA) (da := da) (qp := qp) (zp := zp) (xs := xs) (ql := ql) (cL := cL) (lv := lv) (n := n) (i := i) (v := (vs.getD i eV.d)) (by assumption) (by omega) (by omega) hsi) [1, 2] [] 121 (fun _ _ => ?_)
    refine g0 good (fun _ => ?_)
    refine cdF good (b := !(colOk xa i (vs.getD i eV.d))) (by rw [hok i (by omega)]; rfl) ?_
    refine go good (fun _ => (o2 (by omega : -9223372036854775808 ≤ (i : Int) + 1) (by omega : (i : Int) + 1 < 9223372036854775808))) (fun _ => ?_)
    exact ag106 _ _ (i + 1) (by first | omega | (simp only; omega)) (by omega) [0, 1, 3, 4, 5, 6] (by kernel_rfl) (by kernel_rfl)
  · refine g0 good (fun _ => ?_)
    refine gh (ge_re (l := [.as (bigA colA xs)]) (l' := [.as (bigA colA (turnX xs (insF xs vs) 0))]) (by rfl)) [4] [] 120 (fun _ _ => ?_)
    refine lp good ((Nat)) [0, 41, 42] (fun r => [(43, .o (.v (.int .i64 (r : Int))))]) [1, 2, 3, 4, 5] (fun r => [.as (bigA colA (turnX xs (insF xs vs) r))]) 140 (fun r => r ≤ vs.length) (fun r => vs.length - r) (0) (Nat.zero_le _) [0] (fun i hx ag114 => ?_)
    refine g0 good (fun _ => ?_)
    refine cdD good ((i : Int) < (vs.length : Int)) (fun h6 => ?_) (fun h6 => ?_)
    · have hsi := hsz i (by omega)
      obtain ⟨f1, f2, f3, f4⟩ := hf i (by omega)
      have htl := turnX_len (xs := xs) (f := insF xs vs) i
      refine go good (fun q116 => (oc (nz i) (by omega : (i : Int) < (vs.length : Int)) (zf hzv (show 0 < vs.length by omega) : zv = false) (rfl : qv = qv) (by omega : i < vs.length) (rfl : (q116 140) = (q116 140)) (o1 (rfl : [C1.v (.int .i64 ((vs.getD i eV.d).k)), .v (.int .i64 ((vs.getD i eV.d).n)), .v (.string ((vs.getD i eV.d).s))].all C1.one = true)))) (fun q116 => ?_)
      refine go good (fun _ => (oc (rfl : q = q) (nz i) (by omega : (i : Int) < (xs.length : Int)) (zf hzp (show 0 < xs.length by omega) : zp = false) (rfl : qp = qp) (by omega : i < xs.length) (o1 (rfl : (q116 140) = (q116 140))))) (fun _ => ?_)
      refine gh (big_out (I := colA) (l := (turnX xs (insF xs vs) i)) i dX (by omega)) [1] [] 141 (fun _ _ => ?_)
      refine gh (ge_re (l := [.as (colA ((turnX xs (insF xs vs) i).getD i dX))]) (l' := [.as (colA (xs.getD i dX))]) (by rw [turnX_at (by omega)])) [0] [] 141 (fun _ _ => ?_)
      refine gh (box_open (φ := fun _ => True) (L := colL (xs.getD i dX))) [0] [] 141 (fun ⟨ql118, xv118⟩ _ => ?_)
      refine cl good (capp_ctr (q := (xs.getD i dX).1) (ql := ql118) (kind := (xs.getD i dX).2.kind) (l := ((xs.getD i dX).2.l)) (x := xv118) (nulls := (xs.getD i dX).2.nulls) (ws := ((xs.getD i dX).2.ws)) (b := ((xs.getD i dX).2.b)) (v := (vs.getD i eV.d)) (by rw [cmay, hk i (by omega)]; exact hok i (by omega)) (by assumption) (by omega) (by omega) (by omega)) [0, 1, 2] [(1, 911), (2, 912)] 141 (fun ⟨ql2119, x2119⟩ _ => ?_)
      refine gh (box_shut (φ := fun _ => True) (L := colL ((xs.getD i dX).1, ((insF xs vs) i))) (ql2119, x2119) trivial) [0, 1, 2] [] 141 (fun _ _ => ?_)
      refine gh (big_in (I := colA) (l := (turnX xs (insF xs vs) i)) i dX ((xs.getD i dX).1, ((insF xs vs) i)) (by omega)) [0, 1] [] 141 (fun _ _ => ?_)
      refine go good (fun _ => (o2 (by omega : -9223372036854775808 ≤ (i : Int) + 1) (by omega : (i : Int) + 1 < 9223372036854775808))) (fun _ => ?_)
      exact ag114 _ _ (i + 1) (by first | omega | (simp only; omega)) (by omega) [0, 2, 3, 4, 5, 6] (by kernel_rfl) (by kernel_rfl)
    · have hie : i = xs.length := by omega
      refine gh (ge_re (l := [.as (bigA colA (turnX xs (insF xs vs) i))]) (l' := [.as (bigA colA (turnX xs (insF xs vs) xs.length))]) (by rw [hie])) [0] [] 140 (fun _ _ => ?_)
      refine go good (fun q121 => (o3 (rfl : q = q) (rfl : q = q) (rfl : [C1.v (.int .i64 (n : Int))].all C1.one = true))) (fun q121 => ?_)
      refine cl good (of1_ctr (q := (q121 140)) (x := (n : Int)) (t := 3)) [0] [(1, 140), (3, 141)] 142 (fun q3122 _ => ?_)
      refine cl good (or_ctr (qa := ql) (ca := cL) (a := lv) (ta := 114) (ma := mL) (qb := q3122) (cb := (ofL (sortI [(n : Int)])).length) (b := (ofL (sortI [(n : Int)]))) (tb := 114) (mb := .grown) (by assumption) (wf_of _)) [7, 0] [(1, 5), (2, 141), (3, 142)] 143 (fun ⟨q9, l9⟩ hor => ?_)
      refine go good (fun _ => (o2 (rfl : q = q) (rfl : [C1.s 142 q9 2 0 l9.length l9.length l9.isEmpty].all C1.one = true))) (fun _ => ?_)
      refine go good (fun _ => (o5 (rfl : q = q) (by omega : -9223372036854775808 ≤ (n : Int) + 1) (by omega : (n : Int) + 1 < 9223372036854775808) (rfl : q = q) (rfl : [C1.v (.int .i64 ((n : Int) + 1))].all C1.one = true))) (fun _ => ?_)
      refine go good (fun _ => (o3 (rfl : q = q) (by omega : -9223372036854775808 ≤ ((n : Int) + 1) - 1) (by omega : ((n : Int) + 1) - 1 < 9223372036854775808))) (fun _ => ?_)
      refine gh (ge_re (l := [vc eX 4 qp xs 79 mp zp]) (l' := [vc eX 4 qp (turnX xs (insF xs vs) xs.length) 79 mp zp]) (eX_re (turnX_fst xs.length).symm)) [8] [] 143 (fun _ _ => ?_)
      refine gh (ge_re (l := [.blk 1 q [.v (.string na), .s 2 qa 4 0 xa.length ca za, .v (.string ka), .s 3 qA 2 0 da.length cA zA, .s 4 qp 1 0 xs.length xs.length zp, .s 142 q9 2 0 l9.length l9.length l9.isEmpty, .v (.int .i64 ((n : Int) + 1))] 78 .own]) (l' := [.blk 1 q [.v (.string na), .s 2 qa 4 0 xa.length ca za, .v (.string ka), .s 3 qA 2 0 da.length cA zA, .s 4 qp 1 0 ((turnX xs (insF xs vs) xs.length).length) ((turnX xs (insF xs vs) xs.length).length) zp, .s 142 q9 2 0 l9.length l9.length l9.isEmpty, .v (.int .i64 ((n : Int) + 1))] 78 .own]) (by rw [turnX_len])) [6] [] 143 (fun _ _ => ?_)
      exact rtv trivial (⟨q9, l9⟩) hor [0, 7, 8, 1, 6, 2] (.t [(false, [.v (.int .i64 (((n : Int) + 1) - 1))]), (false, [.v (.int .i64 0)])]) (congrArg (fun k => SV.den (.t [(false, [.v (.int .i64 k)]), (false, [.v (.int .i64 0)])])) (by omega : (n : Int) + 1 - 1 = n))
end Go.Proofs.YthkoolfmealabaaGreat
/-
  tables: a row that may not be; Row.
-/
namespace Go.Proofs.YthkoolfmealabaaGreat
open Go.Abs
variable {n₀ : Nat}
set_option maxRecDepth 8000
attribute [local irreducible] GP ruP nxP acS gst cdP loP invS ent1 ent2 enP caA resV lgP agN
set_option maxHeartbeats 4000000 in
theorem tinst_ctr {q : Nat} {na : ByteArray} {ka : ByteArray} {qa : Nat} {ca : Nat} {za : Bool} {xa : List Cd} {ta : TypeId} {ma : Md} {qA : Nat} {cA : Nat} {zA : Bool} {da : List De} {qp : Nat} {zp : Bool} {xs : List (Nat × Co)} {ql : Nat} {cL : Nat} {lv : List Sp} {n : Nat} {qv : Nat} {cv : Nat} {zv : Bool} {vs : List Va} {tv : TypeId} {mv : Md} {k : Nat} (hza : za = true → xa.length = 0) (hla : xa.length < 1000000) (hzv : zv = true → vs.length = 0) (hlv : vs.length < 1000000) (hn : n < 65536) (hvx : vs.length = xs.length) (hax : xa.length = xs.length) (hk1 : k < vs.length) (hk2 : colOk xa k (vs.getD k eV.d) = false) (hk3 : ∀ i, i < k → colOk xa i (vs.getD i eV.d) = true) (hsz : ∀ i, i < vs.length → (vs.getD i eV.d).s.size < 1000000000) : Ctr Tryz.prog n₀ 12 [.o (.p 1 q 0 0 0), .o (.s 6 qv 3 0 vs.length cv zv)] [.blk 1 q [.v (.string na), .s 2 qa 4 0 xa.length ca za, .v (.string ka), .s 3 qA 2 0 da.length cA zA, .s 4 qp 1 0 xs.length xs.length zp, .s 5 ql 2 0 lv.length cL lv.isEmpty, .v (.int .i64 (n : Int))] 78 .own, vc eC 2 qa xa ta ma za, vc eV 6 qv vs tv mv zv] (Unit) (fun _ => True) (fun r => .t [(false, [.v (.int .i64 0)]), (false, [.v (.int .i64 4)])]) (fun r => [.blk 1 q [.v (.string na), .s 2 qa 4 0 xa.length ca za, .v (.string ka), .s 3 qA 2 0 da.length cA zA, .s 4 qp 1 0 xs.length xs.length zp, .s 5 ql 2 0 lv.length cL lv.isEmpty, .v (.int .i64 (n : Int))] 78 .own, vc eC 2 qa xa ta ma za, vc eV 6 qv vs tv mv zv]) := by
  refine fs good 100 (fun B => ?_)
  refine g0 good (fun _ => ?_)
  refine g0 good (fun _ => ?_)
  refine cdF good rfl ?_
  refine go good (fun _ => (o1 (rfl : q = q))) (fun _ => ?_)
  refine cdF good (b := decide ((n : Int) ≥ 65536)) (decide_eq_false (by omega)) ?_
  refine go good (fun _ => (o1 (rfl : q = q))) (fun _ => ?_)
  refine cdF good (b := ((vs.length : Int) != (xs.length : Int))) (by rw [hvx]; simp) ?_
  refine g0 good (fun _ => ?_)
  refine lp good ((Nat)) [0, 1, 28, 29] (fun r => [(30, .o (.v (.int .i64 (r : Int))))]) [0, 1, 2] (fun _ => []) 120 (fun r => r ≤ k) (fun r => vs.length - r) (0) (Nat.zero_le _) [] (fun i hx ag106 => ?_)
  refine g0 good (fun _ => ?_)
  refine cdD good ((i : Int) < (vs.length : Int)) (fun h4 => ?_) (fun h4 => ?_)
  · have hsi := hsz i (by omega)
    refine go good (fun q108 => (oc (nz i) (by omega : (i : Int) < (vs.length : Int)) (zf hzv (show 0 < vs.length by omega) : zv = false) (rfl : qv = qv) (by omega : i < vs.length) (rfl : (q108 120) = (q108 120)) (o1 (rfl : [C1.v (.int .i64 ((vs.getD i eV.d).k)), .v (.int .i64 ((vs.getD i eV.d).n)), .v (.string ((vs.getD i eV.d).s))].all C1.one = true)))) (fun q108 => ?_)
    refine go good (fun _ => (o1 (rfl : (q108 120) = (q108 120)))) (fun _ => ?_)
    refine cl good (tmay_ctr (q := q) (na := na) (ka := ka) (qa := qa) (ca := ca) (za := za) (xa := xa) (ta := ta) (ma := ma) (qA := qA) (cA := cA) (zA := zA) (da := da) (qp := qp) (zp := zp) (xs := xs) (ql := ql) (cL := cL) (lv := lv) (n := n) (i := i) (v := (vs.getD i eV.d)) (by assumption) (by omega) (by omega) hsi) [1, 2] [] 121 (fun _ _ => ?_)
    refine g0 good (fun _ => ?_)
    refine cd good (!(colOk xa i (vs.getD i eV.d))) (fun h5 => ?_) (fun h5 => ?_)
    · refine g0 good (fun _ => ?_)
      exact rt trivial (()) trivial [0, 1, 3]
    · have hlt : i < k := by rcases Nat.lt_or_ge i k with h | h; exact h; obtain rfl : i = k := (by omega); rw [hk2] at h5; cases h5
      refine go good (fun _ => (o2 (by omega : -9223372036854775808 ≤ (i : Int) + 1) (by omega : (i : Int) + 1 < 9223372036854775808))) (fun _ => ?_)
      exact ag106 _ _ (i + 1) (by first | omega | (simp only; omega)) hlt [0, 1, 3] (by kernel_rfl) (by kernel_rfl)
  · omega
set_option maxHeartbeats 4000000 in
theorem trow_ctr {q : Nat} {na : ByteArray} {ka : ByteArray} {qa : Nat} {ca : Nat} {za : Bool} {xa : List Cd} {qA : Nat} {cA : Nat} {zA : Bool} {da : List De} {qp : Nat} {zp : Bool} {xs : List (Nat × Co)} {ql : Nat} {cL : Nat} {lv : List Sp} {n : Nat} {mp : Md} {mL : Md} {id : Nat} (hzp : zp = true → xs.length = 0) (hxl : xs.length < 1000000) (hll : lv.length < 1000000) (hhas : has lv (id : Int) = true) (hid : ∀ i, i < xs.length → id < (xs.getD i dX).2.l.length) (hf : ∀ i, i < xs.length → (xs.getD i dX).2.Fit) : Ctr Tryz.prog n₀ 14 [.o (.p 1 q 0 0 0), .o (.v (.int .i64 (id : Int)))] [.blk 1 q [.v (.string na), .s 2 qa 4 0 xa.length ca za, .v (.string ka), .s 3 qA 2 0 da.length cA zA, .s 4 qp 1 0 xs.length xs.length zp, .s 5 ql 2 0 lv.length cL lv.isEmpty, .v (.int .i64 (n : Int))] 78 .own, vc eX 4 qp xs 79 mp zp, .as (bigA colA xs), vc eP 5 ql lv 114 mL lv.isEmpty] ((Nat)) (fun _ => True) (fun r => .t [(false, [.s 6 r 3 0 ((rowX xs id xs.length).length) ((rowX xs id xs.length).length) ((rowX xs id xs.length).isEmpty)]), (false, [.v (.bool true)])]) (fun r => [.blk 1 q [.v (.string na), .s 2 qa 4 0 xa.length ca za, .v (.string ka), .s 3 qA 2 0 da.length cA zA, .s 4 qp 1 0 xs.length xs.length zp, .s 5 ql 2 0 lv.length cL lv.isEmpty, .v (.int .i64 (n : Int))] 78 .own, vc eX 4 qp xs 79 mp zp, .as (bigA colA xs), vc eP 5 ql lv 114 mL lv.isEmpty, vc eV 6 r (rowX xs id xs.length) 38 .grown ((rowX xs id xs.length).isEmpty)]) := by
  refine fs good 100 (fun B => ?_)
  refine g0 good (fun _ => ?_)
  refine go good (fun _ => (o1 (rfl : q = q))) (fun _ => ?_)
  refine cl good (has_ctr (qa := ql) (ca := cL) (a := lv) (ta := 114) (ma := mL) (i := (id : Int)) (by omega)) [3] [(1, 5)] 100 (fun _ _ => ?_)
  refine g0 good (fun _ => ?_)
  refine cdF good (b := !(has lv (id : Int))) (by rw [hhas]; rfl) ?_
  refine g0 good (fun _ => ?_)
  refine go good (fun _ => (o1 (rfl : q = q))) (fun _ => ?_)
  refine gh (nil_vec 100 3 eV.f eV.d 38 .grown) [] [] 101 (fun _ _ => ?_)
  refine sv 6 (v := .o (.v (.slice none 0 0))) (v' := .o (.s 100 0 3 0 ((rowX xs id 0).length) ((rowX xs id 0).length) ((rowX xs id 0).isEmpty))) rfl ?_
  refine lp good ((Nat) × (Nat)) [1, 25, 26] (fun r => [(27, .o (.v (.int .i64 (r.1 : Int)))), (6, .o (.s 100 r.2 3 0 ((rowX xs id r.1).length) ((rowX xs id r.1).length) ((rowX xs id r.1).isEmpty)))]) [1, 2, 3, 4] (fun r => [vc eV 100 r.2 (rowX xs id r.1) 38 .grown ((rowX xs id r.1).isEmpty)]) 121 (fun r => r.1 ≤ xs.length) (fun r => xs.length - r.1) (⟨0, 0⟩) (Nat.zero_le _) [0] (fun ⟨i, pq⟩ hx ag107 => ?_)
  try dsimp only at hx
  have hi := hx
  refine g0 good (fun _ => ?_)
  refine cdD good ((i : Int) < (xs.length : Int)) (fun h2 => ?_) (fun h2 => ?_)
  · obtain ⟨f1, f2, f3, f4⟩ := hf i (by omega)
    have hdi := hid i (by omega)
    have hrl := rowX_len (xs := xs) (id := id) hi
    refine go good (fun _ => (o5 (nz i) (by omega : (i : Int) < (xs.length : Int)) (zf hzp (show 0 < xs.length by omega) : zp = false) (rfl : qp = qp) (by omega : i < xs.length))) (fun _ => ?_)
    refine g0 good (fun _ => ?_)
    refine gh (big_out (I := colA) (l := xs) i dX (by omega)) [4] [] 121 (fun _ _ => ?_)
    refine gh (box_open (φ := fun _ => True) (L := colL (xs.getD i dX))) [0] [] 121 (fun ⟨ql111, xv111⟩ _ => ?_)
    refine cl good (cat_ctr (q := (xs.getD i dX).1) (ql := ql111) (kind := (xs.getD i dX).2.kind) (l := ((xs.getD i dX).2.l)) (x := xv111) (nulls := (xs.getD i dX).2.nulls) (i := id) (by omega) (by omega)) [0, 1] [(1, 911), (2, 912)] 121 (fun _ _ => ?_)
    refine gh (box_shut (φ := fun _ => True) (L := colL (xs.getD i dX)) (ql111, xv111) trivial) [0, 1, 2] [] 121 (fun _ _ => ?_)
    refine gh (big_bk (I := colA) (l := xs) i dX (by omega)) [0, 1] [] 121 (fun _ _ => ?_)
    refine go good (fun q113 => (o2 (rfl : (q113 121) = (q113 121)) (rfl : [C1.v (.int .i64 ((((xs.getD i dX).2.l).getD id eV.d).k)), .v (.int .i64 ((((xs.getD i dX).2.l).getD id eV.d).n)), .v (.string ((((xs.getD i dX).2.l).getD id eV.d).s))].all C1.one = true))) (fun q113 => ?_)
    refine go good (fun q114 => (o2 (rfl : (q113 121) = (q113 121)) (rfl : [C1.v (.int .i64 ((((xs.getD i dX).2.l).getD id eV.d).k)), .v (.int .i64 ((((xs.getD i dX).2.l).getD id eV.d).n)), .v (.string ((((xs.getD i dX).2.l).getD id eV.d).s))].all C1.one = true))) (fun q114 => ?_)
    refine apd good eV (rowX xs id i) [((xs.getD i dX).2.l.getD id eV.d)] (rowX xs id (i + 1)) 100 pq .grown ((rowX xs id i).isEmpty) ((rowX xs id (i + 1)).isEmpty) (.blk 122 (q114 122) [.v (.int .i64 ((((xs.getD i dX).2.l).getD id eV.d).k)), .v (.int .i64 ((((xs.getD i dX).2.l).getD id eV.d).n)), .v (.string ((((xs.getD i dX).2.l).getD id eV.d).s))] 38 .own) (q114 122) 0 1 1 false 123 [3, 0] 124 38 (fun h _ => ne_of h) (by simp only [List.length_cons, List.length_nil]; omega) (src_one rfl) (rowX_emp (by omega)) (rowX_at (by omega)) (fun q115 => ?_)
    refine g0 good (fun _ => ?_)
    refine go good (fun _ => (o2 (by omega : -9223372036854775808 ≤ (i : Int) + 1) (by omega : (i : Int) + 1 < 9223372036854775808))) (fun _ => ?_)
    exact ag107 _ _ (⟨i + 1, q115⟩) (by first | omega | (simp only; omega)) (by dsimp only; exact (by omega)) [0, 4, 5, 6, 3] (by kernel_rfl) (by kernel_rfl)
  · have hie : i = xs.length := by omega
    refine g0 good (fun _ => ?_)
    refine gh (ge_re (l := [vc eV 100 pq (rowX xs id i) 38 .grown ((rowX xs id i).isEmpty)]) (l' := [vc eV 100 pq (rowX xs id xs.length) 38 .grown ((rowX xs id xs.length).isEmpty)]) (by rw [hie])) [0] [] 121 (fun _ _ => ?_)
    exact rtv trivial (pq) trivial [2, 3, 4, 1, 0] (.t [(false, [.s 100 pq 3 0 ((rowX xs id i).length) ((rowX xs id i).length) ((rowX xs id i).isEmpty)]), (false, [.v (.bool true)])]) (by rw [hie]; rfl)
end Go.Proofs.YthkoolfmealabaaGreat
/-
  tables: Form.
-/
namespace Go.Proofs.YthkoolfmealabaaGreat
open Go.Abs
variable {n₀ : Nat}
set_option maxRecDepth 8000
attribute [local irreducible] GP ruP nxP acS gst cdP loP invS ent1 ent2 enP caA resV lgP agN
set_option maxHeartbeats 4000000 in
theorem clonec_ctr {q : Nat} {c : Nat} {z : Bool} {xs : List Cd} {t : TypeId} {m : Md} (hz : z = true → xs.length = 0) (hl : xs.length < 1000000) : Ctr Tryz.prog n₀ 41 [.o (.s 1 q 4 0 xs.length c z)] [vc eC 1 q xs t m z] ((Nat)) (fun _ => True) (fun r => .o (.s 2 r 4 0 xs.length xs.length z)) (fun r => [vc eC 2 r xs 42 (mdOf xs) z, vc eC 1 q xs t m z]) := by
  refine fs good 100 (fun B => ?_)
  refine g0 good (fun _ => ?_)
  refine g0 good (fun _ => ?_)
  refine cd good (z == true) (fun h1 => ?_) (fun h1 => ?_)
  · have h1 : z = true := by simpa using h1
    refine g0 good (fun _ => ?_)
    refine gh (nil_vec 100 4 eC.f eC.d 42 (mdOf ([] : List (Cd)))) [] [] 101 (fun _ _ => ?_)
    refine gh (ge_re (l := [vc eC 100 0 ([] : List (Cd)) 42 (mdOf ([] : List (Cd))) true]) (l' := [vc eC 100 0 xs 42 (mdOf xs) z]) (by rw [h1, (List.length_eq_zero_iff.1 (hz h1) : xs = [])])) [0] [] 101 (fun _ _ => ?_)
    exact rtv trivial (0) trivial [0, 1] (.o (.v (.slice none 0 0))) (by simp [SV.den, C1.den, h1, hz h1])
  · have h1 : ¬ (z = true) := by simpa using h1
    have h1 : z = false := by simpa using h1
    refine g0 good (fun q104 => ?_)
    refine ap0 good eC xs 100 (q104 100) (vc eC 1 q xs t m z) q 0 xs.length c z 101 [0, 1] 102 42 (by omega) src_vec (fun q105 => ?_)
    refine g0 good (fun _ => ?_)
    refine gh (ge_re (l := [vc eC 101 q105 xs 42 (mdOf xs) false]) (l' := [vc eC 101 q105 xs 42 (mdOf xs) z]) (by rw [h1])) [0] [] 102 (fun _ _ => ?_)
    exact rtv trivial (q105) trivial [0, 1] (.o (.s 101 q105 4 0 xs.length xs.length false)) (by rw [h1]; rfl)
set_option maxHeartbeats 4000000 in
theorem cloned_ctr {q : Nat} {c : Nat} {z : Bool} {xs : List De} {t : TypeId} {m : Md} (hz : z = true → xs.length = 0) (hl : xs.length < 1000000) : Ctr Tryz.prog n₀ 42 [.o (.s 1 q 2 0 xs.length c z)] [vc (eD 906) 1 q xs t m z] ((Nat)) (fun _ => True) (fun r => .o (.s 2 r 2 0 xs.length xs.length z)) (fun r => [vc (eD 906) 2 r xs 91 (mdOf xs) z, vc (eD 906) 1 q xs t m z]) := by
  refine fs good 100 (fun B => ?_)
  refine g0 good (fun _ => ?_)
  refine g0 good (fun _ => ?_)
  refine cd good (z == true) (fun h1 => ?_) (fun h1 => ?_)
  · have h1 : z = true := by simpa using h1
    refine g0 good (fun _ => ?_)
    refine gh (nil_vec 100 2 (eD 906).f (eD 906).d 91 (mdOf ([] : List (De)))) [] [] 101 (fun _ _ => ?_)
    refine gh (ge_re (l := [vc (eD 906) 100 0 ([] : List (De)) 91 (mdOf ([] : List (De))) true]) (l' := [vc (eD 906) 100 0 xs 91 (mdOf xs) z]) (by rw [h1, (List.length_eq_zero_iff.1 (hz h1) : xs = [])])) [0] [] 101 (fun _ _ => ?_)
    exact rtv trivial (0) trivial [0, 1] (.o (.v (.slice none 0 0))) (by simp [SV.den, C1.den, h1, hz h1])
  · have h1 : ¬ (z = true) := by simpa using h1
    have h1 : z = false := by simpa using h1
    refine g0 good (fun q104 => ?_)
    refine ap0 good (eD 906) xs 100 (q104 100) (vc (eD 906) 1 q xs t m z) q 0 xs.length c z 101 [0, 1] 102 91 (by omega) src_vec (fun q105 => ?_)
    refine g0 good (fun _ => ?_)
    refine gh (ge_re (l := [vc (eD 906) 101 q105 xs 91 (mdOf xs) false]) (l' := [vc (eD 906) 101 q105 xs 91 (mdOf xs) z]) (by rw [h1])) [0] [] 102 (fun _ _ => ?_)
    exact rtv trivial (q105) trivial [0, 1] (.o (.s 101 q105 2 0 xs.length xs.length false)) (by rw [h1]; rfl)
set_option maxHeartbeats 4000000 in
theorem clones_ctr {q : Nat} {c : Nat} {z : Bool} {xs : List ByteArray} {t : TypeId} {m : Md} (hz : z = true → xs.length = 0) (hl : xs.length < 1000000) : Ctr Tryz.prog n₀ 43 [.o (.s 1 q 1 0 xs.length c z)] [vc eS 1 q xs t m z] ((Nat)) (fun _ => True) (fun r => .o (.s 2 r 1 0 xs.length xs.length z)) (fun r => [vc eS 2 r xs 9 (mdOf xs) z, vc eS 1 q xs t m z]) := by
  refine fs good 100 (fun B => ?_)
  refine g0 good (fun _ => ?_)
  refine g0 good (fun _ => ?_)
  refine cd good (z == true) (fun h1 => ?_) (fun h1 => ?_)
  · have h1 : z = true := by simpa using h1
    refine g0 good (fun _ => ?_)
    refine gh (nil_vec 100 1 eS.f eS.d 9 (mdOf ([] : List (ByteArray)))) [] [] 101 (fun _ _ => ?_)
    refine gh (ge_re (l := [vc eS 100 0 ([] : List (ByteArray)) 9 (mdOf ([] : List (ByteArray))) true]) (l' := [vc eS 100 0 xs 9 (mdOf xs) z]) (by rw [h1, (List.length_eq_zero_iff.1 (hz h1) : xs = [])])) [0] [] 101 (fun _ _ => ?_)
    exact rtv trivial (0) trivial [0, 1] (.o (.v (.slice none 0 0))) (by simp [SV.den, C1.den, h1, hz h1])
  · have h1 : ¬ (z = true) := by simpa using h1
    have h1 : z = false := by simpa using h1
    refine g0 good (fun q104 => ?_)
    refine ap0 good eS xs 100 (q104 100) (vc eS 1 q xs t m z) q 0 xs.length c z 101 [0, 1] 102 9 (by omega) src_vec (fun q105 => ?_)
    refine g0 good (fun _ => ?_)
    refine gh (ge_re (l := [vc eS 101 q105 xs 9 (mdOf xs) false]) (l' := [vc eS 101 q105 xs 9 (mdOf xs) z]) (by rw [h1])) [0] [] 102 (fun _ _ => ?_)
    exact rtv trivial (q105) trivial [0, 1] (.o (.s 101 q105 1 0 xs.length xs.length false)) (by rw [h1]; rfl)
set_option maxHeartbeats 4000000 in
theorem tform_ctr {q : Nat} {na : ByteArray} {ka : ByteArray} {qa : Nat} {ca : Nat} {za : Bool} {xa : List Cd} {ta : TypeId} {ma : Md} {qA : Nat} {cA : Nat} {zA : Bool} {da : List De} {qp : Nat} {zp : Bool} {xs : List (Nat × Co)} {ql : Nat} {cL : Nat} {lv : List Sp} {n : Nat} {tA : TypeId} {mA : Md} (hza : za = true → xa.length = 0) (hla : xa.length < 1000000) (hzA : zA = true → da.length = 0) (hlA : da.length < 1000000) (hda : ∀ i, i < da.length → (da.getD i dD).l.length < 1000000) : Ctr Tryz.prog n₀ 15 [.o (.p 1 q 0 0 0)] [.blk 1 q [.v (.string na), .s 2 qa 4 0 xa.length ca za, .v (.string ka), .s 3 qA 2 0 da.length cA zA, .s 4 qp 1 0 xs.length xs.length zp, .s 5 ql 2 0 lv.length cL lv.isEmpty, .v (.int .i64 (n : Int))] 78 .own, vc eC 2 qa xa ta ma za, vc (eD 906) 3 qA da tA mA zA, .as (bigA (lefA 9) da)] ((Nat) × (Nat) × (List De)) (fun r => r.2.2.map keyD = da.map keyD) (fun r => .a [.v (.string na), .s 7 r.1 4 0 xa.length xa.length za, .v (.string ka), .s 8 r.2.1 2 0 r.2.2.length r.2.2.length zA]) (fun r => [.blk 1 q [.v (.string na), .s 2 qa 4 0 xa.length ca za, .v (.string ka), .s 3 qA 2 0 da.length cA zA, .s 4 qp 1 0 xs.length xs.length zp, .s 5 ql 2 0 lv.length cL lv.isEmpty, .v (.int .i64 (n : Int))] 78 .own, vc eC 2 qa xa ta ma za, vc (eD 906) 3 qA da tA mA zA, .as (bigA (lefA 9) da), vc eC 7 r.1 xa 42 (mdOf xa) za, vc (eD 906) 8 r.2.1 r.2.2 91 (mdOf da) zA, .as (bigA (lefA 9) r.2.2)]) := by
  refine fs good 100 (fun B => ?_)
  refine g0 good (fun q101 => ?_)
  refine g0 good (fun _ => ?_)
  refine cdF good rfl ?_
  refine go good (fun q103 => (o3 (rfl : q = q) (rfl : (q103 101) = (q103 101)) (rfl : [C1.v (.string na), .s 2 qa 4 0 xa.length ca za, .v (.string ka), .s 3 qA 2 0 da.length cA zA].all C1.one = true))) (fun q103 => ?_)
  refine go good (fun _ => (o1 (rfl : (q103 101) = (q103 101)))) (fun _ => ?_)
  refine cl good (clonec_ctr (q := qa) (c := ca) (z := za) (xs := xa) (t := ta) (m := ma) (by assumption) (by omega)) [3] [(1, 2), (2, 102)] 103 (fun q2105 _ => ?_)
  refine go good (fun _ => (o2 (rfl : (q103 101) = (q103 101)) (rfl : [C1.s 102 q2105 4 0 xa.length xa.length za].all C1.one = true))) (fun _ => ?_)
  refine go good (fun _ => (o1 (rfl : (q103 101) = (q103 101)))) (fun _ => ?_)
  refine cl good (cloned_ctr (q := qA) (c := cA) (z := zA) (xs := da) (t := tA) (m := mA) (by assumption) (by omega)) [5] [(1, 3), (2, 103)] 104 (fun q2108 _ => ?_)
  refine go good (fun _ => (o2 (rfl : (q103 101) = (q103 101)) (rfl : [C1.s 103 q2108 2 0 da.length da.length zA].all C1.one = true))) (fun _ => ?_)
  refine go good (fun _ => (o1 (rfl : (q103 101) = (q103 101)))) (fun _ => ?_)
  refine gh (ge_re (l := [vc (eD 906) 103 q2108 da 91 (mdOf da) zA]) (l' := [vc (eD 906) 103 q2108 ([] ++ da.drop 0) 91 (mdOf da) zA]) rfl) [0] [] 104 (fun _ _ => ?_)
  refine gh (big_nil (I := (lefA 9))) [] [] 104 (fun _ _ => ?_)
  refine lp good ((Nat) × (List De)) [2, 3, 22] (fun r => [(23, .o (.v (.int .i64 (r.1 : Int))))]) [2, 3, 4, 5, 6, 7, 8] (fun r => [vc (eD 906) 103 q2108 (r.2 ++ da.drop r.1) 91 (mdOf da) zA, .as (bigA (lefA 9) r.2)]) 124 (fun r => r.1 ≤ da.length ∧ r.2.length = r.1 ∧ r.2.map keyD = (da.take r.1).map keyD) (fun r => da.length - r.1) (⟨0, []⟩) ⟨Nat.zero_le _, rfl, rfl⟩ [1, 0] (fun ⟨i, nw⟩ hx ag111 => ?_)
  try dsimp only at hx
  obtain ⟨hi, hni, hkn⟩ := hx
  refine g0 good (fun _ => ?_)
  refine cdD good ((i : Int) < (da.length : Int)) (fun h2 => ?_) (fun h2 => ?_)
  · have hdl := hda i (by omega)
    have hcl : (nw ++ da.drop i).length = da.length := by rw [List.length_append, List.length_drop]; omega
    refine g0 good (fun _ => ?_)
    refine go good (fun _ => (oc (rfl : (q103 101) = (q103 101)) (rfl : (q103 101) = (q103 101)) (nz i) (by omega : (i : Int) < (da.length : Int)) (zf hzA (show 0 < da.length by omega) : zA = false) (rfl : q2108 = q2108) (o1 (by omega : i < (nw ++ da.drop i).length)))) (fun _ => ?_)
    refine gh (big_out (I := (lefA 9)) (l := da) i dD (by omega)) [8] [] 124 (fun _ _ => ?_)
    refine gh (ge_op (c := vc eS 906 ((da.getD i dD).q) ((da.getD i dD).l) 9 .imm false) (I := ((lefA 9) (da.getD i dD)))) [0] [] 124 (fun _ _ => ?_)
    refine sv 34 (v := .o (.s 906 (((nw ++ da.drop i).getD i dD).q) 1 0 (((nw ++ da.drop i).getD i dD).l.length) (((nw ++ da.drop i).getD i dD).l.length) false)) (v' := .o (.s 906 ((da.getD i dD).q) 1 0 ((da.getD i dD).l.length) ((da.getD i dD).l.length) false)) (by rw [key_cur (by omega) hni]) ?_
    refine cl good (clones_ctr (q := (da.getD i dD).q) (c := (da.getD i dD).l.length) (z := false) (xs := (da.getD i dD).l) (t := 9) (m := .imm) (fun h => nomatch h) (by omega)) [0] [(1, 906), (2, 124)] 125 (fun q2115 _ => ?_)
    refine gh (ge_sh (c := vc eS 906 ((da.getD i dD).q) ((da.getD i dD).l) 9 .imm false) (I := ((lefA 9) (da.getD i dD)))) [1] [] 125 (fun _ _ => ?_)
    refine gh (big_bk (I := (lefA 9)) (l := da) i dD (by omega)) [0, 2] [] 125 (fun _ _ => ?_)
    refine gh (vec_imm (E := eS) (g := 124) (q := q2115) (xs := ((da.getD i dD).l)) (t := 9) (m := (mdOf ((da.getD i dD).l))) (z := false)) [1] [] 125 (fun _ _ => ?_)
    refine gh (ge_sh (c := vc eS 124 q2115 ((da.getD i dD).l) 9 .imm false) (I := ((lefA 9) (⟨q2115, (da.getD i dD).l, (da.getD i dD).r⟩ : De)))) [0] [] 125 (fun _ _ => ?_)
    refine gh (big_snoc (I := (lefA 9)) (l := nw) (x := (⟨q2115, (da.getD i dD).l, (da.getD i dD).r⟩ : De))) [0, 3] [] 125 (fun _ _ => ?_)
    refine go good (fun _ => (o3 (nz i) (by omega : (i : Int) < (da.length : Int)) (zf hzA (show 0 < da.length by omega) : zA = false))) (fun _ => ?_)
    refine vst good (eD 906) (nw ++ da.drop i) ⟨q2115, (da.getD i dD).l, ((nw ++ da.drop i).getD i dD).r⟩ ((nw ++ [(⟨q2115, (da.getD i dD).l, (da.getD i dD).r⟩ : De)]) ++ da.drop (i + 1)) 103 103 q2108 i 0 91 (mdOf da) zA [.s 124 q2115 1 0 (((da.getD i dD).l).length) (((da.getD i dD).l).length) false] [2] (by rw [List.length_append, List.length_drop]; omega) (zf hzA (show 0 < da.length by omega)) (by rw [key_cur (by omega) hni, key_set _ (by omega) hni]) (Nat.le_of_ble_eq_true rfl) rfl ?_ (hm := mdOf_mine)
    refine go good (fun _ => (o2 (by omega : -9223372036854775808 ≤ (i : Int) + 1) (by omega : (i : Int) + 1 < 9223372036854775808))) (fun _ => ?_)
    exact ag111 _ _ (⟨i + 1, nw ++ [(⟨q2115, (da.getD i dD).l, (da.getD i dD).r⟩ : De)]⟩) (by first | omega | (simp only; omega)) (by dsimp only; exact ⟨by omega, by rw [List.length_append, hni]; rfl, key_snoc (by omega) hkn⟩) [0, 1, 3, 4, 5, 6, 7, 8, 2] (by kernel_rfl) (by kernel_rfl)
  · have hie : i = da.length := by omega
    refine go good (fun _ => (o3 (rfl : (q103 101) = (q103 101)) (rfl : (q101 100) = (q101 100)) (rfl : [C1.v (.string na), .s 102 q2105 4 0 xa.length xa.length za, .v (.string ka), .s 103 q2108 2 0 da.length da.length zA].all C1.one = true))) (fun _ => ?_)
    refine gh (ge_re (l := [vc (eD 906) 103 q2108 (nw ++ da.drop i) 91 (mdOf da) zA]) (l' := [vc (eD 906) 103 q2108 nw 91 (mdOf da) zA]) (by rw [hie, List.drop_length, List.append_nil])) [0] [] 124 (fun _ _ => ?_)
    exact rtv (o1 (rfl : (q101 100) = (q101 100))) (⟨q2105, q2108, nw⟩) (by rw [hkn, hie, List.take_length]) [7, 4, 2, 8, 3, 0, 1] (.a [.v (.string na), .s 102 q2105 4 0 xa.length xa.length za, .v (.string ka), .s 103 q2108 2 0 da.length da.length zA]) (by rw [hni, hie]; rfl)
end Go.Proofs.YthkoolfmealabaaGreat
/-
  tables: New.
-/
namespace Go.Proofs.YthkoolfmealabaaGreat
open Go.Abs
variable {n₀ : Nat}
set_option maxRecDepth 8000
attribute [local irreducible] GP ruP nxP acS gst cdP loP invS ent1 ent2 enP caA resV lgP agN
set_option maxHeartbeats 4000000 in
theorem tnew_ctr {na : ByteArray} {ka : ByteArray} {qa : Nat} {ca : Nat} {za : Bool} {xa : List Cd} {ta : TypeId} {ma : Md} {qA : Nat} {cA : Nat} {zA : Bool} {da : List De} (hza : za = true → xa.length = 0) (hla : xa.length < 1000000) (hkd : ∀ i, i < xa.length → (xa.getD i eC.d).kind = 1 ∨ (xa.getD i eC.d).kind = 2) : Ctr Tryz.prog n₀ 10 [.a [.v (.string na), .s 2 qa 4 0 xa.length ca za, .v (.string ka), .s 3 qA 2 0 da.length cA zA]] [vc eC 2 qa xa ta ma za] ((Nat) × (Nat) × (List (Nat × Co))) (fun r => r.2.2.map Prod.snd = xa.map newC) (fun r => .o (.p 1 r.1 0 0 0)) (fun r => [.blk 1 r.1 [.v (.string na), .s 2 qa 4 0 xa.length ca za, .v (.string ka), .s 3 qA 2 0 da.length cA zA, .s 4 r.2.1 1 0 r.2.2.length r.2.2.length r.2.2.isEmpty, .s 5 0 2 0 (([] : List Sp).length) 0 (([] : List Sp).isEmpty), .v (.int .i64 0)] 78 .own, vc eC 2 qa xa ta ma za, vc eX 4 r.2.1 r.2.2 79 .grown r.2.2.isEmpty, .as (bigA colA r.2.2), vc eP 5 0 ([] : List Sp) 114 .grown (([] : List Sp).isEmpty)]) := by
  refine fs good 100 (fun B => ?_)
  refine go good (fun q101 => (o1 (rfl : [C1.v (.string na), .s 2 qa 4 0 xa.length ca za, .v (.string ka), .s 3 qA 2 0 da.length cA zA].all C1.one = true))) (fun q101 => ?_)
  refine go good (fun q102 => (o3 (rfl : (q101 100) = (q101 100)) (rfl : [C1.v (.string na), .s 2 qa 4 0 xa.length ca za, .v (.string ka), .s 3 qA 2 0 da.length cA zA].all C1.one = true) (rfl : [C1.v (.string na), .s 2 qa 4 0 xa.length ca za, .v (.string ka), .s 3 qA 2 0 da.length cA zA, .v (.slice none 0 0), .v (.slice none 0 0), .v (.int .i64 0)].all C1.one = true))) (fun q102 => ?_)
  refine go good (fun _ => (o1 (rfl : (q101 100) = (q101 100)))) (fun _ => ?_)
  refine gh (nil_vec 102 1 eX.f eX.d 79 .grown) [] [] 103 (fun _ _ => ?_)
  refine gh (ge_re (l := [.blk 101 (q102 101) [.v (.string na), .s 2 qa 4 0 xa.length ca za, .v (.string ka), .s 3 qA 2 0 da.length cA zA, .v (.slice none 0 0), .v (.slice none 0 0), .v (.int .i64 0)] 78 .own]) (l' := [.blk 101 (q102 101) [.v (.string na), .s 2 qa 4 0 xa.length ca za, .v (.string ka), .s 3 qA 2 0 da.length cA zA, .s 102 0 1 0 (([] : List (Nat × Co)).length) (([] : List (Nat × Co)).length) (([] : List (Nat × Co)).isEmpty), .v (.slice none 0 0), .v (.int .i64 0)] 78 .own]) rfl) [1] [] 103 (fun _ _ => ?_)
  refine gh (nil_vec 103 2 eP.f eP.d 114 .grown) [] [] 104 (fun _ _ => ?_)
  refine gh (ge_re (l := [.blk 101 (q102 101) [.v (.string na), .s 2 qa 4 0 xa.length ca za, .v (.string ka), .s 3 qA 2 0 da.length cA zA, .s 102 0 1 0 (([] : List (Nat × Co)).length) (([] : List (Nat × Co)).length) (([] : List (Nat × Co)).isEmpty), .v (.slice none 0 0), .v (.int .i64 0)] 78 .own]) (l' := [.blk 101 (q102 101) [.v (.string na), .s 2 qa 4 0 xa.length ca za, .v (.string ka), .s 3 qA 2 0 da.length cA zA, .s 102 0 1 0 (([] : List (Nat × Co)).length) (([] : List (Nat × Co)).length) (([] : List (Nat × Co)).isEmpty), .s 103 0 2 0 (([] : List Sp).length) (([] : List Sp).length) (([] : List Sp).isEmpty), .v (.int .i64 0)] 78 .own]) rfl) [1] [] 104 (fun _ _ => ?_)
  refine gh (big_nil (I := colA)) [] [] 104 (fun _ _ => ?_)
  refine lp good ((Nat) × (Nat) × (List (Nat × Co))) [3, 10, 11] (fun r => [(12, .o (.v (.int .i64 (r.1 : Int))))]) [2, 4, 5] (fun r => [.blk 101 (q102 101) [.v (.string na), .s 2 qa 4 0 xa.length ca za, .v (.string ka), .s 3 qA 2 0 da.length cA zA, .s 102 r.2.1 1 0 r.2.2.length r.2.2.length r.2.2.isEmpty, .s 103 0 2 0 (([] : List Sp).length) (([] : List Sp).length) (([] : List Sp).isEmpty), .v (.int .i64 0)] 78 .own, vc eX 102 r.2.1 r.2.2 79 .grown r.2.2.isEmpty, .as (bigA colA r.2.2)]) 124 (fun r => r.1 ≤ xa.length ∧ r.2.2.map Prod.snd = (xa.take r.1).map newC) (fun r => xa.length - r.1) (⟨0, 0, []⟩) ⟨Nat.zero_le _, rfl⟩ [1, 3, 0] (fun ⟨i, qp, xs⟩ hx ag104 => ?_)
  try dsimp only at hx
  obtain ⟨hi, hkx⟩ := hx
  have hxl : xs.length = i := by have h := congrArg List.length hkx; rw [List.length_map, List.length_map, List.length_take] at h; omega
  refine g0 good (fun _ => ?_)
  refine cdD good ((i : Int) < (xa.length : Int)) (fun h1 => ?_) (fun h1 => ?_)
  · have hki := hkd i (by omega)
    refine go good (fun q106 => (oc (nz i) (by omega : (i : Int) < (xa.length : Int)) (zf hza (show 0 < xa.length by omega) : za = false) (rfl : qa = qa) (by omega : i < xa.length) (rfl : (q106 124) = (q106 124)) (o1 (rfl : [C1.v (.string ((xa.getD i eC.d).name)), .v (.int .i64 ((xa.getD i eC.d).kind)), .cb ((xa.getD i eC.d).must), .v (.string ((xa.getD i eC.d).to))].all C1.one = true)))) (fun q106 => ?_)
    refine go good (fun _ => (o2 (rfl : (q102 101) = (q102 101)) (rfl : (q106 124) = (q106 124)))) (fun _ => ?_)
    refine cl good (cnew_ctr (kind := (xa.getD i eC.d).kind) hki) [] [(1, 125), (2, 126)] 127 (fun q108 _ => ?_)
    refine go good (fun q109 => (o1 (rfl : [C1.p 125 q108 0 0 0].all C1.one = true))) (fun q109 => ?_)
    refine apd good eX xs [(q108, (newC (xa.getD i eC.d)))] (xs ++ [(q108, (newC (xa.getD i eC.d)))]) 102 qp .grown xs.isEmpty false (.blk 127 (q109 127) [.p 125 q108 0 0 0] 79 .own) (q109 127) 0 1 1 false 128 [6, 0] 129 79 (fun h _ => ne_of h) (by simp only [List.length_cons, List.length_nil]; omega) (src_one rfl) (by simp) rfl (fun q110 => ?_)
    refine go good (fun _ => (o2 (rfl : (q102 101) = (q102 101)) (rfl : [C1.s 128 q110 1 0 ((xs ++ [(q108, (newC (xa.getD i eC.d)))]).length) ((xs ++ [(q108, (newC (xa.getD i eC.d)))]).length) false].all C1.one = true))) (fun _ => ?_)
    refine gh (ge_re (l := [.blk 101 (q102 101) [.v (.string na), .s 2 qa 4 0 xa.length ca za, .v (.string ka), .s 3 qA 2 0 da.length cA zA, .s 128 q110 1 0 ((xs ++ [(q108, (newC (xa.getD i eC.d)))]).length) ((xs ++ [(q108, (newC (xa.getD i eC.d)))]).length) false, .s 103 0 2 0 (([] : List Sp).length) (([] : List Sp).length) (([] : List Sp).isEmpty), .v (.int .i64 0)] 78 .own, vc eX 128 q110 (xs ++ [(q108, (newC (xa.getD i eC.d)))]) 79 .grown false]) (l' := [.blk 101 (q102 101) [.v (.string na), .s 2 qa 4 0 xa.length ca za, .v (.string ka), .s 3 qA 2 0 da.length cA zA, .s 128 q110 1 0 ((xs ++ [(q108, (newC (xa.getD i eC.d)))]).length) ((xs ++ [(q108, (newC (xa.getD i eC.d)))]).length) ((xs ++ [(q108, (newC (xa.getD i eC.d)))]).isEmpty), .s 103 0 2 0 (([] : List Sp).length) (([] : List Sp).length) (([] : List Sp).isEmpty), .v (.int .i64 0)] 78 .own, vc eX 128 q110 (xs ++ [(q108, (newC (xa.getD i eC.d)))]) 79 .grown ((xs ++ [(q108, (newC (xa.getD i eC.d)))]).isEmpty)]) (by rw [isE_snoc])) [6, 0] [] 129 (fun _ _ => ?_)
    refine gh (box_shut (φ := fun _ => True) (L := colL (q108, (newC (xa.getD i eC.d)))) (0, .pointer none) trivial) [3, 4, 5] [] 129 (fun _ _ => ?_)
    refine gh (big_snoc (I := colA) (l := xs) (x := (q108, (newC (xa.getD i eC.d))))) [0, 5] [] 129 (fun _ _ => ?_)
    refine go good (fun _ => (o2 (by omega : -9223372036854775808 ≤ (i : Int) + 1) (by omega : (i : Int) + 1 < 9223372036854775808))) (fun _ => ?_)
    exact ag104 _ _ (⟨i + 1, q110, xs ++ [(q108, (newC (xa.getD i eC.d)))]⟩) (by first | omega | (simp only; omega)) (by dsimp only; exact ⟨by omega, newC_snoc (by omega) hkx⟩) [1, 2, 0, 5, 6, 7] (by kernel_rfl) (by kernel_rfl)
  · have hie : i = xa.length := by omega
    refine g0 good (fun _ => ?_)
    exact rt trivial (⟨(q102 101), qp, xs⟩) (by rw [hkx, hie, List.take_length]) [0, 5, 1, 2, 3]
end Go.Proofs.YthkoolfmealabaaGreat
/-
  tables: Cut, row.
-/
namespace Go.Proofs.YthkoolfmealabaaGreat
open Go.Abs
variable {n₀ : Nat}
set_option maxRecDepth 8000
attribute [local irreducible] GP ruP nxP acS gst cdP loP invS ent1 ent2 enP caA resV lgP agN
set_option maxHeartbeats 4000000 in
theorem cut_ctr {s : ByteArray} {n : Nat}  : Ctr Tryz.prog n₀ 9 [.o (.v (.string s)), .o (.v (.int .i64 (n : Int)))] [] (Unit) (fun _ => True) (fun r => .o (.v (.string (cutS s n)))) (fun r => []) := by
  refine fs good 100 (fun B => ?_)
  refine g0 good (fun _ => ?_)
  refine g0 good (fun _ => ?_)
  refine cdD good ((s.size : Int) > (n : Int)) (fun h1 => ?_) (fun h1 => ?_)
  · refine go good (fun _ => (o2 (nz n) (by omega : (n : Int) ≤ ((s.size : Nat) : Int)))) (fun _ => ?_)
    exact rtv trivial (()) trivial [] (.o (.v (.string (s.extract 0 n)))) (congrArg Value.string (by rw [cutS, if_pos (by omega)]))
  · refine g0 good (fun _ => ?_)
    exact rtv trivial (()) trivial [] (.o (.v (.string s))) (congrArg Value.string (by rw [cutS, if_neg (by omega)]))
set_option maxHeartbeats 4000000 in
theorem lrow_ctr {id : Int} {s : ByteArray}  : Ctr Tryz.prog n₀ 8 [.o (.v (.int .i64 id)), .o (.v (.string s))] [] ((Nat)) (fun _ => True) (fun r => .o (.s 1 r 3 0 ((shopR id s).length) ((shopR id s).length) false)) (fun r => [vc eV 1 r (shopR id s) 38 .own false]) := by
  refine fs good 100 (fun B => ?_)
  refine g0 good (fun _ => ?_)
  refine go good (fun q102 => (oc (rfl : [C1.v (.int .i64 1)].all C1.one = true) (rfl : [C1.v (.int .i64 id)].all C1.one = true) (rfl : [C1.v (.int .i64 2)].all C1.one = true) (rfl : [C1.v (.string s)].all C1.one = true) (rfl : [C1.v (.int .i64 1), .v (.int .i64 id), .v (.string ⟨#[]⟩)].all C1.one = true) (rfl : [C1.v (.int .i64 2), .v (.int .i64 0), .v (.string s)].all C1.one = true) (o2 (rfl : [C1.v (.int .i64 0), .v (.int .i64 0), .v (.string ⟨#[]⟩)].all C1.one = true) (rfl : [C1.v (.int .i64 0), .v (.int .i64 0), .v (.string ⟨#[]⟩)].all C1.one = true)))) (fun q102 => ?_)
  refine gh (blk_vec (g := 100) (q := (q102 100)) (cs := [.v (.int .i64 1), .v (.int .i64 id), .v (.string ⟨#[]⟩), .v (.int .i64 2), .v (.int .i64 0), .v (.string s), .v (.int .i64 0), .v (.int .i64 0), .v (.string ⟨#[]⟩), .v (.int .i64 0), .v (.int .i64 0), .v (.string ⟨#[]⟩)]) (t := 38) (m := .own) eV (shopR id s)) [0] [] 101 (fun _ _ => ?_)
  exact rt trivial ((q102 100)) trivial [0]
end Go.Proofs.YthkoolfmealabaaGreat
/-
  tables: Insert, its columns named.
-/
namespace Go.Proofs.YthkoolfmealabaaGreat
open Go.Abs
variable {n₀ : Nat}
set_option maxRecDepth 8000
attribute [local irreducible] GP ruP nxP acS gst cdP loP invS ent1 ent2 enP caA resV lgP agN
theorem tins2_ctr {q : Nat} {na : ByteArray} {ka : ByteArray} {qa : Nat} {ca : Nat} {za : Bool} {xa : List Cd} {ta : TypeId} {ma : Md} {qA : Nat} {cA : Nat} {zA : Bool} {da : List De} {qp : Nat} {zp : Bool} {xs : List (Nat × Co)} {ql : Nat} {cL : Nat} {lv : List Sp} {n : Nat} {mp : Md} {mL : Md} {qv : Nat} {cv : Nat} {zv : Bool} {vs : List Va} {tv : TypeId} {mv : Md} (hza : za = true → xa.length = 0) (hla : xa.length < 1000000) (hzv : zv = true → vs.length = 0) (hlv : vs.length < 1000000) (hzp : zp = true → xs.length = 0) (hn : n < 65536) (hvx : vs.length = xs.length) (hax : xa.length = xs.length) (hok : ∀ i, i < vs.length → colOk xa i (vs.getD i eV.d) = true) (hsz : ∀ i, i < vs.length → (vs.getD i eV.d).s.size < 1000000000) (hf : ∀ i, i < xs.length → (xs.getD i dX).2.Fit) (hk : ∀ i, i < xs.length → (xs.getD i dX).2.kind = (xa.getD i eC.d).kind) (hw : WF (-1) lv) : Ctr Tryz.prog n₀ 12 [.o (.p 1 q 0 0 0), .o (.s 6 qv 3 0 vs.length cv zv)] [.blk 1 q [.v (.string na), .s 2 qa 4 0 xa.length ca za, .v (.string ka), .s 3 qA 2 0 da.length cA zA, .s 4 qp 1 0 xs.length xs.length zp, .s 5 ql 2 0 lv.length cL lv.isEmpty, .v (.int .i64 (n : Int))] 78 .own, vc eC 2 qa xa ta ma za, vc eV 6 qv vs tv mv zv, vc eX 4 qp xs 79 mp zp, .as (bigA colA xs), vc eP 5 ql lv 114 mL lv.isEmpty] ((Nat) × (List Sp) × (List (Nat × Co))) (fun r => IsOr lv (ofL (sortI [(n : Int)])) r.2.1 ∧ r.2.2.length = xs.length ∧ r.2.2.map Prod.fst = xs.map Prod.fst ∧ ∀ i, i < xs.length → (r.2.2.getD i dX).2 = insF xs vs i) (fun r => .t [(false, [.v (.int .i64 (n : Int))]), (false, [.v (.int .i64 0)])]) (fun r => [.blk 1 q [.v (.string na), .s 2 qa 4 0 xa.length ca za, .v (.string ka), .s 3 qA 2 0 da.length cA zA, .s 4 qp 1 0 r.2.2.length r.2.2.length zp, .s 7 r.1 2 0 r.2.1.length r.2.1.length r.2.1.isEmpty, .v (.int .i64 ((n + 1) : Int))] 78 .own, vc eC 2 qa xa ta ma za, vc eV 6 qv vs tv mv zv, vc eX 4 qp r.2.2 79 mp zp, .as (bigA colA r.2.2), vc eP 7 r.1 r.2.1 114 .grown r.2.1.isEmpty]) :=
  ctr_map (tins_ctr (q := q) (na := na) (ka := ka) (qa := qa) (ca := ca) (za := za) (xa := xa) (ta := ta) (ma := ma) (qA := qA) (cA := cA) (zA := zA) (da := da) (qp := qp) (zp := zp) (xs := xs) (ql := ql) (cL := cL) (lv := lv) (n := n) (mp := mp) (mL := mL) (qv := qv) (cv := cv) (zv := zv) (vs := vs) (tv := tv) (mv := mv) hza hla hzv hlv hzp hn hvx hax hok hsz hf hk hw) (fun r => (r.1, r.2, (turnX xs (insF xs vs) xs.length))) (fun _ h => ⟨⟨h, turnX_len _, turnX_fst _, fun i hi => by rw [turnX_get _ _ hi, if_pos hi]⟩, rfl, rfl⟩)
end Go.Proofs.YthkoolfmealabaaGreat
/-
  TableOwn.
-/
namespace Go.Proofs.YthkoolfmealabaaGreat
open Go.Abs
variable {n₀ : Nat}
set_option maxRecDepth 8000
attribute [local irreducible] GP ruP nxP acS gst cdP loP invS ent1 ent2 enP caA resV lgP agN
set_option maxHeartbeats 4000000 in
theorem own_no {id : Int} {city : ByteArray} (hT : tOk (cutS city 12) = false) : Ctr Tryz.prog n₀ 3 [.o (.v (.int .i64 id)), .o (.v (.string city))] [] (Unit) (fun _ => True) (fun r => .o (.v (.bool true))) (fun r => []) := by
  refine fs good 100 (fun B => ?_)
  refine g0 good (fun _ => ?_)
  refine cl good (begun_ctr ) [] [] 100 (fun _ _ => ?_)
  refine g0 good (fun _ => ?_)
  refine g0 good (fun _ => ?_)
  refine cdF good rfl ?_
  refine g0 good (fun _ => ?_)
  refine cl good (cut_ctr (s := city) (n := 12)) [] [] 100 (fun _ _ => ?_)
  refine cl good (lrow_ctr (id := id) (s := (cutS city 12))) [] [(1, 100)] 101 (fun q109 _ => ?_)
  refine g0 good (fun _ => ?_)
  refine cl good (shop_ctr ) [] [(1, 101), (2, 102)] 103 (fun ⟨qc112, qd112, ql112⟩ _ => ?_)
  refine cl good (tnew_ctr (na := tShop) (ka := tId) (qa := qc112) (ca := shopK.length) (za := false) (xa := shopK) (ta := 42) (ma := .grown) (qA := qd112) (cA := (shopD ql112).length) (zA := false) (da := (shopD ql112)) (fun h => nomatch h) (show 4 < 1000000 by decide) shopK_kind) [0] [(2, 101), (3, 102), (1, 103), (4, 104), (5, 105)] 106 (fun ⟨q1, qp, xs⟩ hxs => ?_)
  dsimp only at hxs
  have hx4 := shop_len hxs
  have hrl : (shopR id (cutS city 12)).length = 4 := rfl
  have hkl : shopK.length = 4 := rfl
  refine g0 good (fun _ => ?_)
  refine g0 good (fun _ => ?_)
  refine cl good (tinst_ctr (q := q1) (na := tShop) (ka := tId) (qa := qc112) (ca := shopK.length) (za := false) (xa := shopK) (ta := 42) (ma := .grown) (qA := qd112) (cA := ((shopD ql112).length)) (zA := false) (da := (shopD ql112)) (qp := qp) (zp := xs.isEmpty) (xs := xs) (ql := 0) (cL := 0) (lv := ([] : List Sp)) (n := 0) (qv := q109) (cv := (shopR id (cutS city 12)).length) (zv := false) (vs := (shopR id (cutS city 12))) (tv := 38) (mv := .own) (k := 1) (fun h => nomatch h) (show 4 < 1000000 by decide) (fun h => nomatch h) (show 4 < 1000000 by decide) (show 0 < 65536 by decide) hx4.symm hx4.symm (show 1 < 4 by decide) (shop_no hT) shop_no0 (shop_sz cutS_len)) [0, 1, 7] [(1, 103), (6, 100), (2, 101), (3, 102), (4, 104), (5, 105)] 106 (fun _ _ => ?_)
  refine g0 good (fun _ => ?_)
  refine g0 good (fun _ => ?_)
  refine cdT good (b := ((4 : Int) != 0)) rfl ?_
  refine go good (fun _ => (o2 (fun (he : ((4 : Int) == 4) = true) => have he : (4 : Int) = 4 := rfl; (o3 (by omega : (0 : Int) ≤ 1) (by omega : (1 : Int) < (((shopR id (cutS city 12)).length : Nat) : Int)) (rfl : false = false))) (fun (he : ((4 : Int) == 4) = true) => have he : (4 : Int) = 4 := rfl; (o2 (rfl : q109 = q109) (by omega : 1 < (shopR id (cutS city 12)).length))))) (fun _ => ?_)
  refine clm good (rmay_ctr (v := ((shopR id (cutS city 12)).getD 1 eV.d)) (shop_sz cutS_len 1 (show 1 < 4 by decide))) [] trivial ?_
  refine g0 good (fun _ => ?_)
  exact rtv trivial (()) trivial [] (.o (.cb (and ((4 : Int) == 4) (!(vOk ((shopR id (cutS city 12)).getD 1 eV.d)))))) (congrArg Value.bool (show (!(vOk ⟨2, 0, cutS city 12⟩)) = true by simp [vOk, hT]))
set_option maxHeartbeats 4000000 in
theorem own_ok {id : Int} {city : ByteArray} (hT : tOk (cutS city 12) = true) : Ctr Tryz.prog n₀ 3 [.o (.v (.int .i64 id)), .o (.v (.string city))] [] (Unit) (fun _ => True) (fun r => .o (.v (.bool true))) (fun r => []) := by
  refine fs good 100 (fun B => ?_)
  refine g0 good (fun _ => ?_)
  refine cl good (begun_ctr ) [] [] 100 (fun _ _ => ?_)
  refine g0 good (fun _ => ?_)
  refine g0 good (fun _ => ?_)
  refine cdF good rfl ?_
  refine g0 good (fun _ => ?_)
  refine cl good (cut_ctr (s := city) (n := 12)) [] [] 100 (fun _ _ => ?_)
  refine cl good (lrow_ctr (id := id) (s := (cutS city 12))) [] [(1, 100)] 101 (fun q109 _ => ?_)
  refine g0 good (fun _ => ?_)
  refine cl good (shop_ctr ) [] [(1, 101), (2, 102)] 103 (fun ⟨qc112, qd112, ql112⟩ _ => ?_)
  refine cl good (tnew_ctr (na := tShop) (ka := tId) (qa := qc112) (ca := shopK.length) (za := false) (xa := shopK) (ta := 42) (ma := .grown) (qA := qd112) (cA := (shopD ql112).length) (zA := false) (da := (shopD ql112)) (fun h => nomatch h) (show 4 < 1000000 by decide) shopK_kind) [0] [(2, 101), (3, 102), (1, 103), (4, 104), (5, 105)] 106 (fun ⟨q1, qp, xs⟩ hxs => ?_)
  dsimp only at hxs
  have hx4 := shop_len hxs
  have hrl : (shopR id (cutS city 12)).length = 4 := rfl
  have hkl : shopK.length = 4 := rfl
  refine g0 good (fun _ => ?_)
  refine g0 good (fun _ => ?_)
  refine cl good (tins2_ctr (q := q1) (na := tShop) (ka := tId) (qa := qc112) (ca := shopK.length) (za := false) (xa := shopK) (ta := 42) (ma := .grown) (qA := qd112) (cA := ((shopD ql112).length)) (zA := false) (da := (shopD ql112)) (qp := qp) (zp := xs.isEmpty) (xs := xs) (ql := 0) (cL := 0) (lv := ([] : List Sp)) (n := 0) (mp := .grown) (mL := .grown) (qv := q109) (cv := (shopR id (cutS city 12)).length) (zv := false) (vs := (shopR id (cutS city 12))) (tv := 38) (mv := .own) (fun h => nomatch h) (show 4 < 1000000 by decide) (fun h => nomatch h) (show 4 < 1000000 by decide) ise_len (show 0 < 65536 by decide) hx4.symm hx4.symm (shop_ok hT) (shop_sz cutS_len) (shop_fit hxs) (shop_kind hxs) (wf_of [])) [0, 1, 7, 2, 3, 4] [(1, 103), (6, 100), (2, 101), (3, 102), (4, 104), (5, 105), (7, 106)] 107 (fun ⟨q2, l2, X⟩ h117 => ?_)
  try dsimp only at h117
  obtain ⟨hor, hXl, hXf, hX⟩ := h117
  have hX4 : X.length = 4 := by omega
  have hls := wf_short hor.1
  have hh0 : has l2 ((0 : Nat) : Int) = true := by rw [hor.2]; simp [(of_has (sortI_le _) _).2 ⟨sortI_mem.2 (List.mem_cons_self ..), Int.le_refl _, (show (0 : Int) < 65536 by decide)⟩]
  have hrx := row_new (vs := (shopR id (cutS city 12))) hxs hXl hx4.symm hX
  have hrl4 : (rowX X 0 X.length).length = 4 := by rw [hrx]; rfl
  refine g0 good (fun _ => ?_)
  refine g0 good (fun _ => ?_)
  refine cdF good (b := ((0 : Int) != 0)) rfl ?_
  refine g0 good (fun _ => ?_)
  refine gh (nil_vec 107 3 eV.f eV.d 38 .grown) [] [] 108 (fun _ _ => ?_)
  refine apd good eV [] (shopR id (cutS city 12)) (shopR id (cutS city 12)) 107 0 .grown true ((shopR id (cutS city 12)).isEmpty) (vc eV 100 q109 (shopR id (cutS city 12)) 38 .own false) q109 0 ((shopR id (cutS city 12)).length) ((shopR id (cutS city 12)).length) false 108 [0, 3] 109 38 (fun h => by cases h) (show 0 + 4 ≤ 16777216 by decide) src_vec (by simp) rfl (fun q121 => ?_)
  refine g0 good (fun _ => ?_)
  refine ovS true ?_
  refine go good (fun _ => (oc (by omega : (0 : Int) ≤ 0) (by omega : (0 : Int) < (((shopR id (cutS city 12)).length : Nat) : Int)) (rfl : false = false) (rfl : q109 = q109) (by omega : 0 < (shopR id (cutS city 12)).length) (by omega : (0 : Int) ≤ 0) (o2 (by omega : (0 : Int) < (((shopR id (cutS city 12)).length : Nat) : Int)) (rfl : false = false)))) (fun _ => ?_)
  refine vst good eV (shopR id (cutS city 12)) ⟨1, IntKind.wrap .i64 (id + 1), eStr⟩ ((shopR id (cutS city 12)).set 0 ⟨1, IntKind.wrap .i64 (id + 1), eStr⟩) 100 100 q109 0 1 38 .own false [.v (.int .i64 (IntKind.wrap .i64 ((((shopR id (cutS city 12)).getD 0 eV.d).n) + 1)))] [1] (show 0 < 4 by decide) rfl rfl (Nat.le_of_ble_eq_true rfl) rfl ?_
  refine ovS false ?_
  refine g0 good (fun _ => ?_)
  refine cl good (trow_ctr (q := q1) (na := tShop) (ka := tId) (qa := qc112) (ca := shopK.length) (za := false) (xa := shopK) (qA := qd112) (cA := ((shopD ql112).length)) (zA := false) (da := (shopD ql112)) (qp := qp) (zp := xs.isEmpty) (xs := X) (ql := q2) (cL := l2.length) (lv := l2) (n := ((0 + 1) : Int).toNat) (mp := .grown) (mL := .grown) (id := 0) (fun h => by rw [hXl]; exact ise_len h) (by omega) (by omega) hh0 (X_len hxs hXl hX) (X_fit hxs hXl hX)) [2, 4, 5, 6] [(1, 103), (2, 101), (3, 102), (4, 104), (5, 106), (6, 109)] 110 (fun q2125 _ => ?_)
  refine g0 good (fun _ => ?_)
  refine g0 good (fun _ => ?_)
  refine cdF good (b := ((((rowX X 0 X.length).length : Nat) : Int) != 4)) (by rw [hrl4]; rfl) ?_
  refine go good (fun _ => (o3 (by omega : (0 : Int) ≤ 1) (by omega : (1 : Int) < (((rowX X 0 X.length).length : Nat) : Int)) (zfe (by omega) : (rowX X 0 X.length).isEmpty = false))) (fun _ => ?_)
  refine vst good eV (rowX X 0 X.length) ({ (rowX X 0 X.length).getD 1 eV.d with s := ⟨#[115, 112, 111, 105, 108, 116]⟩ }) ((rowX X 0 X.length).set 1 ({ (rowX X 0 X.length).getD 1 eV.d with s := ⟨#[115, 112, 111, 105, 108, 116]⟩ })) 109 109 q2125 1 2 38 .grown ((rowX X 0 X.length).isEmpty) [.v (.string ⟨#[115, 112, 111, 105, 108, 116]⟩)] [4] (by omega) (zfe (by omega)) rfl (Nat.le_of_ble_eq_true rfl) rfl ?_
  refine g0 good (fun _ => ?_)
  refine cl good (tform_ctr (q := q1) (na := tShop) (ka := tId) (qa := qc112) (ca := shopK.length) (za := false) (xa := shopK) (ta := 42) (ma := .grown) (qA := qd112) (cA := ((shopD ql112).length)) (zA := false) (da := (shopD ql112)) (qp := qp) (zp := xs.isEmpty) (xs := X) (ql := q2) (cL := l2.length) (lv := l2) (n := ((((0 + 1) : Int).toNat) : Int).toNat) (tA := 91) (mA := .imm) (fun h => nomatch h) (show 4 < 1000000 by decide) (fun h => nomatch h) (show 1 < 1000000 by decide) (shop_ds rfl)) [1, 7, 8, 9] [(1, 103), (2, 101), (3, 102), (4, 104), (5, 106), (7, 110), (8, 111)] 112 (fun ⟨qf, qg, d2⟩ hd2 => ?_)
  dsimp only at hd2
  refine go good (fun q131 => (o2 (rfl : (q131 112) = (q131 112)) (rfl : [C1.v (.string tShop), .s 110 qf 4 0 shopK.length shopK.length false, .v (.string tId), .s 111 qg 2 0 d2.length d2.length false].all C1.one = true))) (fun q131 => ?_)
  refine go good (fun _ => (o1 (rfl : (q131 112) = (q131 112)))) (fun _ => ?_)
  refine lp2 good (Nat) (List Cd) [7, 8, 10, 13, 72] (fun r => [(73, .o (.v (.int .i64 (r.1 : Int))))]) [0, 1, 2, 3, 4, 6, 7, 8, 9, 10, 11, 12, 13] (fun r => [vc eC 110 qf r.2 42 (mdOf shopK) false]) 133 (fun r => r.1 ≤ 4 ∧ r.2.length = 4) (fun r => 4 - r.1) (⟨0, shopK⟩) ⟨Nat.zero_le _, rfl⟩ [5] (fun i cs hx ag133 => ?_)
  try dsimp only at hx
  obtain ⟨hi, hcs⟩ := hx
  refine g0 good (fun _ => ?_)
  refine cdD good ((i : Int) < (shopK.length : Int)) (fun h4 => ?_) (fun h4 => ?_)
  · refine g0 good (fun _ => ?_)
    refine go good (fun _ => (o4 (rfl : (q131 112) = (q131 112)) (nz i) (by omega : (i : Int) < (shopK.length : Int)) (rfl : false = false))) (fun _ => ?_)
    refine vst good eC cs ({ cs.getD i eC.d with name := ⟨#[115, 112, 111, 105, 108, 116]⟩ }) (cs.set i { cs.getD i eC.d with name := ⟨#[115, 112, 111, 105, 108, 116]⟩ }) 110 110 qf i 0 42 (mdOf shopK) false [.v (.string ⟨#[115, 112, 111, 105, 108, 116]⟩)] [0] (by omega) rfl rfl (Nat.le_of_ble_eq_true rfl) rfl ?_ (hm := mdOf_mine)
    refine go good (fun _ => (o2 (by omega : -9223372036854775808 ≤ (i : Int) + 1) (by omega : (i : Int) + 1 < 9223372036854775808))) (fun _ => ?_)
    exact ag133 _ _ (⟨i + 1, cs.set i { cs.getD i eC.d with name := ⟨#[115, 112, 111, 105, 108, 116]⟩ }⟩) (by first | omega | (simp only; omega)) (by dsimp only; exact ⟨by omega, by rw [List.length_set]; exact hcs⟩) [0, 1, 2, 3, 4, 5, 6, 7, 8, 9, 10, 11, 12, 13] (by kernel_rfl) (by kernel_rfl)
  · refine g0 good (fun _ => ?_)
    refine cl good (trow_ctr (q := q1) (na := tShop) (ka := tId) (qa := qc112) (ca := shopK.length) (za := false) (xa := shopK) (qA := qd112) (cA := ((shopD ql112).length)) (zA := false) (da := (shopD ql112)) (qp := qp) (zp := xs.isEmpty) (xs := X) (ql := q2) (cL := l2.length) (lv := l2) (n := ((((((0 + 1) : Int).toNat) : Int).toNat) : Int).toNat) (mp := .grown) (mL := .grown) (id := 0) (fun h => by rw [hXl]; exact ise_len h) (by omega) (by omega) hh0 (X_len hxs hXl hX) (X_fit hxs hXl hX)) [2, 9, 10, 11] [(1, 103), (2, 101), (3, 102), (4, 104), (5, 106), (6, 133)] 134 (fun q2139 _ => ?_)
    refine g0 good (fun _ => ?_)
    refine g0 good (fun _ => ?_)
    refine cl good (rrow_ctr (qa := q2139) (ca := (rowX X 0 X.length).length) (za := (rowX X 0 X.length).isEmpty) (a := (rowX X 0 X.length)) (ta := 38) (ma := .grown) (qb := q121) (cb := (shopR id (cutS city 12)).length) (zb := (shopR id (cutS city 12)).isEmpty) (b := (shopR id (cutS city 12))) (tb := 38) (mb := .grown) ise_len (by omega) (fun h => nomatch h) (show 4 < 1000000 by decide)) [4, 14] [(1, 133), (2, 108)] 134 (fun _ _ => ?_)
    refine g0 good (fun _ => ?_)
    have hr0 : rowV (rowX X 0 X.length) (shopR id (cutS city 12)) = 0 := by rw [hrx]; exact rowV_self _
    refine sv 92 (v := .o (.cb (rowV (rowX X 0 X.length) (shopR id (cutS city 12)) == 0))) (v' := .o (.v (.bool true))) (congrArg Value.bool (by rw [hr0]; rfl)) ?_
    refine sv 93 (v := .kk 92 true (rowV (rowX X 0 X.length) (shopR id (cutS city 12)) == 0) false [.p 103 q1 0 0 0]) (v' := .o (.p 103 q1 0 0 0)) (by rw [hr0]; rfl) ?_
    refine cl good (tform_ctr (q := q1) (na := tShop) (ka := tId) (qa := qc112) (ca := shopK.length) (za := false) (xa := shopK) (ta := 42) (ma := .grown) (qA := qd112) (cA := ((shopD ql112).length)) (zA := false) (da := (shopD ql112)) (qp := qp) (zp := xs.isEmpty) (xs := X) (ql := q2) (cL := l2.length) (lv := l2) (n := ((((((((0 + 1) : Int).toNat) : Int).toNat) : Int).toNat) : Int).toNat) (tA := 91) (mA := .imm) (fun h => nomatch h) (show 4 < 1000000 by decide) (fun h => nomatch h) (show 1 < 1000000 by decide) (shop_ds rfl)) [2, 8, 9, 10] [(1, 103), (2, 101), (3, 102), (4, 104), (5, 106), (7, 134), (8, 135)] 136 (fun ⟨qf3, qg3, d3⟩ hd3 => ?_)
    dsimp only at hd3
    have hdl3 : d3.length = 1 := by have h := congrArg List.length hd3; rw [List.length_map, List.length_map] at h; exact h
    refine cl good (shop_ctr ) [] [(1, 136), (2, 137)] 138 (fun ⟨qc146, qd146, ql146⟩ _ => ?_)
    refine cl good (eqtab_ctr (na := tShop) (ka := tId) (qa := qf3) (ca := shopK.length) (za := false) (xa := shopK) (ta := 42) (ma := (mdOf shopK)) (qA := qg3) (cA := d3.length) (zA := false) (da := d3) (tA := 91) (mA := (mdOf (shopD ql112))) (nb := tShop) (kb := tId) (qb := qc146) (cb := shopK.length) (zb := false) (xb := shopK) (tb := 42) (mb := .grown) (qB := qd146) (cB := (shopD ql146).length) (zB := false) (db := (shopD ql146)) (tB := 91) (mB := .imm) (fun h => nomatch h) (show 4 < 1000000 by decide) (fun h => nomatch h) (show 4 < 1000000 by decide) (fun h => nomatch h) (by omega) (fun h => nomatch h) (show 1 < 1000000 by decide) (shop_ds hd3) (shop_ds rfl)) [7, 0, 8, 1, 9, 2] [(1, 134), (3, 135), (2, 136), (4, 137)] 138 (fun _ _ => ?_)
    refine g0 good (fun _ => ?_)
    exact rtv trivial (()) trivial [] (.o (.cb (eqT ⟨tShop, shopK, tId, d3⟩ ⟨tShop, shopK, tId, (shopD ql146)⟩))) (congrArg Value.bool (shop_eq hd3))
end Go.Proofs.YthkoolfmealabaaGreat
