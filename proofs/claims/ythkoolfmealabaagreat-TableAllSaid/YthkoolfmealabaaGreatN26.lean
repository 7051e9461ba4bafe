/-
  TI.
-/
import Derived.Test.YthkoolfmealabaaGreatN25
import Derived.Test.YthkoolfmealabaaGreatN2
import Derived.Test.YthkoolfmealabaaGreatN20
import Derived.Test.YthkoolfmealabaaGreatN21
namespace Go.Proofs.YthkoolfmealabaaGreat
open Go.Abs
variable {nO : Nat}
set_option maxRecDepth 8000
attribute [local irreducible] GP ruP nxP acS gst cdP loP invS ent1 ent2 enP caA resV lgP agN
theorem cell_at {W : World} {b k : Nat} {cw : Array Value} {t : TypeId} {fz : Nat × Nat} {x : Value} (h : W.heap[b]? = some (.cells cw t fz)) (hk : cw[k]? = some x) : W.cell? ⟨b, k, none⟩ = some x := by
 simp [World.cell?, h, hk]
theorem soft_at {W : World} {b k : Nat} {cw : Array Value} {t : TypeId} {fz : Nat × Nat} (h : W.heap[b]? = some (.cells cw t fz)) (hf : ¬ fz.1 < fz.2) : W.frozen? ⟨b, k, none⟩ = false := by
 simp only [World.frozen?, h]
 simp
 omega
theorem ins_list {cs vs : List Value} {a k : Nat} (hv : vs.length = 2) (ha : a <= cs.length) : (cs.take a ++ vs ++ cs.drop a)[k]? = if k < a then cs[k]? else if k < a + 2 then vs[k - a]? else cs[k - 2]? := by
 have h1 : (cs.take a).length = a := by simp; omega
 rw [List.append_assoc, List.getElem?_append, h1]
 split
 ·rw [List.getElem?_take]; rw [if_pos (by assumption)]
 ·rw [List.getElem?_append, hv]
  split
  ·rw [if_pos (by omega)]
  ·rw [if_neg (by omega), List.getElem?_drop]
   congr 1; omega
theorem over_ins1 {cs vs : List Value} {cw : Array Value} {off a : Nat} (hv : vs.length = 2) (ha : a <= cs.length) (hr : off + cs.length + 2 <= cw.size) (hc : ∀ (j : Nat) x, j < a -> cs[j]? = some x -> cw[off + j]? = some x) (k : Nat) (x : Value)
  (hx : (cs.take a ++ vs ++ cs.drop a)[k]? = some x) : (over (over cw (off + (a + 2)) (cs.drop a)) (off + a) vs)[off + k]? = some x := by
 rw [ins_list hv ha] at hx
 rw [over_at _ _ _ _ (by rw [over_size]; omega), over_at _ _ _ _ (by rw [List.length_drop]; omega), List.length_drop]
 split at hx
 ·rw [if_neg (by omega), if_neg (by omega)]; exact hc k x (by assumption) hx
 ·split at hx
  ·rw [if_pos (by omega)]; rw [<- hx]; congr 1; omega
  ·have := (List.getElem?_eq_some_iff.1 hx).1
   rw [if_neg (by omega), if_pos (by omega), List.getElem?_drop, <- hx]; congr 1; omega
theorem over_ins2 {cs vs : List Value} {cw : Array Value} {a : Nat} (hv : vs.length = 2) (ha : a <= cs.length) (hr : cs.length + 2 <= cw.size) (hc : ∀ (j : Nat) x, j < a -> cs[j]? = some x -> cw[j]? = some x) (k : Nat) (x : Value)
  (hx : (cs.take a ++ vs ++ cs.drop a)[k]? = some x) : (over (over cw a vs) (a + 2) (cs.drop a))[k]? = some x := by
 rw [ins_list hv ha] at hx
 rw [over_at _ _ _ _ (by rw [over_size, List.length_drop]; omega), over_at _ _ _ _ (by omega), List.length_drop]
 split at hx
 ·rw [if_neg (by omega), if_neg (by omega)]; exact hc k x (by assumption) hx
 ·split at hx
  ·rw [if_neg (by omega), if_pos (by omega)]; exact hx
  ·have := (List.getElem?_eq_some_iff.1 hx).1
   rw [if_pos (by omega), List.getElem?_drop, <- hx]; congr 1; omega
theorem eK_plain {xs : List Kv} (i : Nat) (x : Value) (h : (vcells eK.f xs)[i]? = some x) : plain x = true /\ x.oneCell' = true := by
 have hm : x ∈ (vcells eK.f xs).toList := by
  have := Array.mem_of_getElem? h
  simpa using this
 simp only [vcells, List.mem_flatMap] at hm
 obtain ⟨y, _, hy⟩ := hm
 simp only [eK, List.map_cons, List.map_nil, C1.den, List.mem_cons, List.not_mem_nil, or_false] at hy
 rcases hy with rfl | rfl <;> exact ⟨rfl, rfl⟩
theorem eK_len (xs : List Kv) : (vcells eK.f xs).toList.length = xs.length * 2 := by
 have := vcells_size (en := eK.f) (w := 2) (fun _ => rfl) xs
 simpa using this
theorem eK_take {xs : List Kv} {i : Nat} (hi : i <= xs.length) : (vcells eK.f (xs.take i)).toList = (vcells eK.f xs).toList.take (i * 2) /\ (vcells eK.f (xs.drop i)).toList = (vcells eK.f xs).toList.drop (i * 2) := by
 have h1 : (vcells eK.f xs).toList = (vcells eK.f (xs.take i)).toList ++ (vcells eK.f (xs.drop i)).toList := by
  rw [<- Array.toList_append, <- vcells_append, List.take_append_drop]
 have h2 : (vcells eK.f (xs.take i)).toList.length = i * 2 := by rw [eK_len, List.length_take, Nat.min_eq_left hi]
 rw [h1]
 exact ⟨by rw [<- h2]; simp, by rw [<- h2]; simp⟩
theorem kinM_ctr {q : Nat} {all : List Kv} {n i : Nat} {v : Kv} {qv : Nat} (hi : i < n) (hn : n <= all.length) (hl : all.length < 1000000) : Ctr Tryz.prog nO 119 [.o (.s 1 q 2 0 n all.length false), .o (.v (.int .i64 (i : Int))), .o (.s 2 qv 2 0 1 1 false)] [vc eK 1 q all 165 .grown false, .blk 2 qv [.v (.string v.1), .v (.int .i64 v.2)] 165 .own] (Nat) (fun _ => True) (fun r => .o (.s 3 r 2 0 (n + 1) (n + 1) false)) (fun r => [vc eK 3 r (insL (all.take n) i v) 165 .grown false]) := fun F A h => by
 obtain ⟨F1, F2, ⟨hw, o1, o2, fz, hfz, hb⟩, hv, j⟩ := h
 cases hfz
 obtain ⟨p1, p2, fzv, hfzv, hbv⟩ := As.unE hv
 cases hfzv
 have hne : q ≠ qv := fun e => by
  subst e
  exact j.oo q ((o1 q).2 ⟨rfl, rfl⟩) ((p1 q).2 ⟨rfl, rfl⟩)
 have hq : q < A.heap.size := (Array.getElem?_eq_some_iff.1 hb).1
 have hcs : (vcells eK.f all).size = all.length * 2 := vcells_size (en := eK.f) (w := 2) (fun _ => rfl) all
 obtain ⟨cs, hcd⟩ : ∃ cs, cs = (vcells eK.f (all.take n)).toList := ⟨_, rfl⟩
 have hcl : cs.length = n * 2 := by rw [hcd, eK_len, List.length_take, Nat.min_eq_left hn]
 have hct : cs = (vcells eK.f all).toList.take (n * 2) := by rw [hcd, (eK_take hn).1]
 have hc1 : ∀ x ∈ cs, x.oneCell' = true := fun x hx => by
  rw [hcd] at hx
  obtain ⟨k, hk⟩ := List.mem_iff_getElem?.1 hx
  exact (eK_plain k x (by simpa using hk)).2
 have hca : ∀ (k : Nat) x, cs[k]? = some x -> (vcells eK.f all)[k]? = some x := fun k x hk => by
  rw [hct, List.getElem?_take] at hk
  split at hk
  ·simpa using hk
  ·cases hk
 have hnl : (vcells eK.f (insL (all.take n) i v)).toList = cs.take (i * 2) ++ [.string v.1, .int .i64 v.2] ++ cs.drop (i * 2) := by
  have hin : i <= (all.take n).length := by rw [List.length_take]; omega
  obtain ⟨e1, e2⟩ := eK_take hin
  rw [hcd, <- e1, <- e2]
  simp [insL, vcells_append]
  rfl
 have hna : ∀ (k : Nat) x, (vcells eK.f (insL (all.take n) i v))[k]? = some x -> (cs.take (i * 2) ++ [.string v.1, .int .i64 v.2] ++ cs.drop (i * 2))[k]? = some x := fun k x hk => by
  rw [<- hnl]; simpa using hk
 have e2 : ∀ o, o + (i + 1) * 2 = o + (i * 2 + 2) := fun o => by omega
 have S := snd_ins (P := Tryz.prog) (nO := nO) (f := 119) (iv := .int .i64 i) rfl (d := q) (qv := qv) (n := n) (cap := all.length) (n' := n + 1) (w := 2) (new := vcells eK.f (insL (all.take n) i v)) hb hbv hne (by omega) (by decide +kernel) (by decide) hcs (fun i x h => (eK_plain i x h).1)
  (fun k x h => by
   have hm := Array.mem_of_getElem? h
   simp [cells1, C1.den] at hm
   rcases hm with rfl | rfl <;> rfl) (fun i x h => (eK_plain i x h).1)
  (fun W blk off cap' vb voff cw cvw tw tvw fw fv hW hfw hWv hfv hvb hin hinv hcap hroom => by
   have hlt : blk < W.heap.size := (Array.getElem?_eq_some_iff.1 hW).1
   have hvsz : voff + 1 < cvw.size := (Array.getElem?_eq_some_iff.1 (hinv 1 _ rfl)).1
   have hvs : ∀ (k : Nat) x, [Value.string v.1, Value.int .i64 v.2][k]? = some x -> W.cell? ⟨vb, voff + k, none⟩ = some x := fun k x hk => cell_at hWv (hinv k x (by simpa [cells1, C1.den] using hk))
   have hcc : ∀ (k : Nat) x, cs[k]? = some x -> W.cell? ⟨blk, off + k, none⟩ = some x := fun k x hk => cell_at hW (hin k x (hca k x hk))
   by_cases hr : n + 1 <= cap'
   ·have hc2 : (n + 1) * 2 <= cap' * 2 := Nat.mul_le_mul_right 2 hr
    refine (kins_shift blk off n cap' i vb voff 1 cs [.string v.1, .int .i64 v.2] W hi hr hvb (by omega) hcl rfl hcc (fun k hk => by rw [cell_at hW (Array.getElem?_eq_getElem (by omega))]; rfl) (fun k _ => soft_at hW hfw) hvs hc1 (by simp [Value.oneCell']) tvw tw cvw.size cw.size (by simp [World.shape?, hWv]) (by simp [World.shape?, hW]) (by omega) (soft_at hWv hfv) (soft_at hWv hfv)).mono ?_
    rintro e W' ⟨rfl, rfl⟩
    refine .inl ⟨hr, rfl, ⟨fun cw2 tw2 fw2 h2 => ?_, fun b hb1 hb2 => ?_, ?_, ?_, ?_, ?_⟩⟩
    ·rw [hW] at h2; cases h2
     refine ⟨_, setCells_heap blk _ _ _ _ _ _ (setCells_heap blk _ _ _ _ _ _ hW), by rw [over_size, over_size], fun k x hk => ?_⟩
     rw [e2]
     exact over_ins1 rfl (by omega) (by rw [hcl]; omega) (fun j x _ hj => hin j x (hca j x hj)) k x (hna k x hk)
    ·rw [setCells_ne hb2, setCells_ne hb2]; rfl
    ·rw [(setCells_rest _ _ _ _).1, (setCells_rest _ _ _ _).1]; exact Nat.le_refl _
    ·rw [(setCells_rest _ _ _ _).2.1, (setCells_rest _ _ _ _).2.1]; rfl
    ·rw [(setCells_rest _ _ _ _).2.2.1, (setCells_rest _ _ _ _).2.2.1]; rfl
    ·rw [(setCells_rest _ _ _ _).2.2.2, (setCells_rest _ _ _ _).2.2.2]; rfl
   ·refine (kins_grow blk off n cap' i vb voff 1 cs [.string v.1, .int .i64 v.2] W hi (by omega) (by omega) (by omega) hcl rfl hcc hvs hc1 (by simp [Value.oneCell'])).mono ?_
    rintro e W' ⟨G, ROW, hG, hRs, hRt, rfl, rfl⟩
    have hat : ((W.alloc (.cells ROW 165)).drew).heap[W.heap.size]? = some (.cells ROW 165 (0, 0)) := heap_alloc_self W _
    refine .inr ⟨G, _, rfl, ⟨setCells_heap _ _ _ _ _ _ _ (setCells_heap _ _ _ _ _ _ _ hat), fun b hb1 => ?_, ?_, ?_, ?_, ?_⟩, hG, by rw [over_size, over_size]; exact hRs, fun k x hk => ?_⟩
    ·rw [setCells_ne (by omega)]
     show ((W.alloc (.cells ROW 165)).drew.setCells W.heap.size (i * 2) _).heap[b]? = _
     rw [setCells_ne (by omega)]; exact heap_alloc_lt W _ hb1
    ·rw [(setCells_rest _ _ _ _).1]
     show _ <= ((W.alloc (.cells ROW 165)).drew.setCells W.heap.size (i * 2) _).heap.size
     rw [(setCells_rest _ _ _ _).1]
     show _ <= (W.heap.push _).size
     simp
    ·rw [(setCells_rest _ _ _ _).2.1]
     show ((W.alloc (.cells ROW 165)).drew.setCells W.heap.size (i * 2) _).os = _
     rw [(setCells_rest _ _ _ _).2.1]; rfl
    ·rw [(setCells_rest _ _ _ _).2.2.1]
     show ((W.alloc (.cells ROW 165)).drew.setCells W.heap.size (i * 2) _).tape = _
     rw [(setCells_rest _ _ _ _).2.2.1]; rfl
    ·rw [(setCells_rest _ _ _ _).2.2.2]
     show ((W.alloc (.cells ROW 165)).drew.setCells W.heap.size (i * 2) _).output = _
     rw [(setCells_rest _ _ _ _).2.2.2]; rfl
    ·rw [show (i + 1) * 2 = i * 2 + 2 by omega]
     exact over_ins2 rfl (by omega) (by rw [hcl, hRs]; omega) (fun j x hj1 hj => hRt j x (by rw [List.getElem?_take, if_pos hj1]; exact hj)) k x (hna k x hk))
 have hd : (SV.o (.s 3 A.heap.size 2 0 (n + 1) (n + 1) false)).den = .slice (some ⟨A.heap.size, 0, none⟩) (n + 1) (n + 1) := by
  show Value.slice (cond false none (some ⟨A.heap.size, 0 * 2, none⟩)) _ _ = _
  rw [Nat.zero_mul]; rfl
 have ha : ([.o (.s 1 q 2 0 n all.length false), .o (.v (.int .i64 (i : Int))), .o (.s 2 qv 2 0 1 1 false)].map SV.den) = [.slice (some ⟨q, 0, none⟩) n all.length, .int .i64 i, .slice (some ⟨qv, 0, none⟩) 1 1] := by
  show [Value.slice (cond false none (some ⟨q, 0 * 2, none⟩)) _ _, _, Value.slice (cond false none (some ⟨qv, 0 * 2, none⟩)) _ _] = _
  rw [Nat.zero_mul]; rfl
 refine ⟨A.heap.size, _, blkF A.heap.size, trivial, by rw [ha, hd]; exact S, As.addE ⟨hw, fun b => by simp [blkF, Md.mine], fun b => by simp [blkF, Md.mine], (1, 0), rfl, by
  have := heap_alloc_self (kill A q 165) (.cells (vcells eK.f (insL (all.take n) i v)) 165 (1, 0))
  rw [kill_size] at this
  exact this⟩, ⟨by simp, fun b hb hno => ?_, fun b hb => .inr (by simp only [blkF] at hb; omega), fun b hb => hb.elim⟩⟩
 rw [heap_alloc_lt _ _ (by simpa using hb)]
 refine kill_ne fun e => hno ((j.own b).2 (.inl ((o1 b).2 ⟨rfl, e⟩)))
theorem kins_ctr {q : Nat} {all : List Kv} {n : Nat} {z : Bool} {i : Nat} {v : Kv} {qv : Nat} (hi : i <= n) (hn : n <= all.length) (hz : z = true ↔ all.length = 0) (hl : all.length < 1000000) : Ctr Tryz.prog nO 119 [.o (.s 1 q 2 0 n all.length z), .o (.v (.int .i64 (i : Int))), .o (.s 2 qv 2 0 1 1 false)] [vc eK 1 q all 165 .grown z, .blk 2 qv [.v (.string v.1), .v (.int .i64 v.2)] 165 .own] ((Nat) × (List Kv)) (fun r => r.2.take (n + 1) = (insL (all.take n) i v) /\ n + 1 <= r.2.length /\ r.2.length <= all.length + 1) (fun r => .o (.s 3 r.1 2 0 (n + 1) r.2.length false)) (fun r => [vc eK 3 r.1 r.2 165 .grown false]) := by
 by_cases h1 : i = n
 ·subst h1
  by_cases h2 : i = all.length
  ·subst h2
   have hlen : (all ++ [v]).length = all.length + 1 := by simp
   intro F A h
   obtain ⟨r, A', F', _, k1, k2, k3⟩ := kinE_ctr (nO := nO) (q := q) (z := z) (v := v) (qv := qv) (fun e => Nat.pos_of_ne_zero fun h0 => by rw [hz.2 h0] at e; cases e) hl F A h
   rw [hlen] at k1
   have hi2 : insL (all.take all.length) all.length v = all ++ [v] := by simp [insL]
   exact ⟨(r, all ++ [v]), A', F', ⟨by rw [hi2, <- hlen, List.take_length], by rw [hlen]; exact Nat.le_refl _, by rw [hlen]; exact Nat.le_refl _⟩, by dsimp only; rw [hlen]; exact k1, k2, k3⟩
  ·have hlt : i < all.length := by omega
   have hz0 : z = false := by
    cases z with
    | false => rfl
    | true => have := hz.1 rfl; omega
   subst hz0
   have hsl : (spl all i [v]).length = all.length := spl_len (by simp only [List.length_cons, List.length_nil]; omega)
   intro F A h
   obtain ⟨r, A', F', _, k1, k2, k3⟩ := kinR_ctr (nO := nO) (q := q) (v := v) (qv := qv) hlt hl F A h
   have hil : (all.take i).length = i := by rw [List.length_take]; omega
   have hi2 : insL (all.take i) i v = all.take i ++ [v] := by
    unfold insL
    rw [List.take_take, Nat.min_self, List.drop_eq_nil_of_le (by omega), List.append_nil]
   exact ⟨(q, spl all i [v]), A', F', ⟨by
    rw [hi2]
    unfold spl
    rw [List.take_append_of_le_length (by simp; omega)]
    exact List.take_of_length_le (by simp; omega), by rw [hsl]; exact hlt, by rw [hsl]; omega⟩, by dsimp only; rw [hsl]; exact k1, k2, k3⟩
 ·have hlt : i < n := by omega
  have hz0 : z = false := by
   cases z with
   | false => rfl
   | true => have := hz.1 rfl; omega
  subst hz0
  have hil : (insL (all.take n) i v).length = n + 1 := by rw [insL_len, List.length_take]; omega
  intro F A h
  obtain ⟨r, A', F', _, k1, k2, k3⟩ := kinM_ctr (nO := nO) (q := q) (v := v) (qv := qv) hlt hn hl F A h
  exact ⟨(r, insL (all.take n) i v), A', F', ⟨by rw [<- hil, List.take_length], by rw [hil]; exact Nat.le_refl _, by rw [hil]; omega⟩, by dsimp only; rw [hil]; exact k1, k2, k3⟩
end Go.Proofs.YthkoolfmealabaaGreat
namespace Go.Proofs.YthkoolfmealabaaGreat
set_option maxHeartbeats 4000000
open Go.Abs
variable {nO : Nat}
set_option maxRecDepth 8000
attribute [local irreducible] GP ruP nxP acS gst cdP loP invS ent1 ent2 enP caA resV lgP agN
theorem omput_ctr {qm : Nat} {tm : TypeId} {q : Nat} {ps all : List Kv} {z : Bool} {k : ByteArray} {v : Int} (hp : all.take ps.length = ps) (hn : ps.length <= all.length) (hz : z = true ↔ all.length = 0) (hl : all.length < 1000000) (hs : KS ps) : Ctr Tryz.prog nO 92 [.o (.p 1 qm 0 0 0), .o (.v (.string k)), .o (.v (.int .i64 v))] [.blk 1 qm [.v (.func (.func 117) #[] #[]), .s 2 q 2 0 ps.length all.length z] tm .own, vc eK 2 q all 165 .grown z] ((Nat) × (List Kv) × (Bool)) (fun r => r.2.1.take (putK ps k v).length = (putK ps k v) /\ (putK ps k v).length <= r.2.1.length /\ (r.2.2 = true ↔ r.2.1.length = 0) /\ r.2.1.length <= all.length + 1) (fun r => .o (.cb (!(hasK ps k)))) (fun r => [.blk 1 qm [.v (.func (.func 117) #[] #[]), .s 3 r.1 2 0 ((putK ps k v).length) r.2.1.length r.2.2] tm .own, vc eK 3 r.1 r.2.1 165 .grown r.2.2]) := by
 refine fs good 100 (fun B => ?_)
 refine g0 good fun _ => ?_
 refine g0 good fun _ => ?_
 refine cl good (find_ctr2 (qm := qm) (tm := tm) (q := q) (ps := ps) (all := all) (z := z) (k := k) (by assumption) (by omega) (by assumption) (by omega) (by assumption)) [0, 1] [] 100 fun _ _ => ?_
 refine g0 good fun _ => ?_
 refine g0 good fun _ => ?_
 refine cd good (hasK ps k) (fun h1 => ?_) (fun h1 => ?_)
 ·obtain ⟨hp1, hk1⟩ := hasK_lt h1
  have hA : (all.getD (posK ps k) eK.d).1 = k := by rw [getD_pre hp hn hp1, hk1]
  have hP : putK ps k v = ps.set (posK ps k) (k, v) := by unfold putK; rw [if_pos h1]
  refine go good (fun _ => (o4 (rfl : qm = _) (nz (posK ps k)) (by omega : ((posK ps k : Nat) : Int) < (ps.length : Int)) (zf hz.1 (show 0 < all.length by omega) : z = false))) fun _ => ?_
  refine vst good eK all ((all.getD (posK ps k) eK.d).1, v) (all.set (posK ps k) ((all.getD (posK ps k) eK.d).1, v)) 2 2 q (posK ps k) 1 165 .grown z [.v (.int .i64 v)] [1] (by omega) (zf hz.1 (show 0 < all.length by omega)) rfl (Nat.le_of_ble_eq_true rfl) rfl ?_
  refine g0 good fun _ => ?_
  refine gh (ge_re (l := [.blk 1 qm [.v (.func (.func 117) #[] #[]), .s 2 q 2 0 ps.length all.length z] tm .own]) (l' := [.blk 1 qm [.v (.func (.func 117) #[] #[]), .s 2 q 2 0 ((putK ps k v).length) ((all.set (posK ps k) ((all.getD (posK ps k) eK.d).1, v)).length) z] tm .own]) (by rw [hP, List.length_set, List.length_set])) [1] [] 100 fun _ _ => ?_
  exact rtv trivial (⟨q, (all.set (posK ps k) ((all.getD (posK ps k) eK.d).1, v)), z⟩) ⟨by dsimp only; rw [hP, hA]; exact set_take hp, by dsimp only; rw [hP, List.length_set, List.length_set]; exact hn, by dsimp only; rw [List.length_set]; exact hz, by dsimp only; rw [List.length_set]; omega⟩ [0, 1] (.o (.v (.bool false))) (by simp [SV.den, C1.den, h1])
 ·have hP : putK ps k v = insL ps (posK ps k) (k, v) := by unfold putK; rw [if_neg (nb h1)]; rfl
  have hPl : (putK ps k v).length = ps.length + 1 := by rw [hP, insL_len]
  have hple := posK_le ps k
  refine go good (fun _ => (o1 (rfl : qm = _))) fun _ => ?_
  refine cdF good rfl ?_
  refine go good (fun q109 => (o4 (rfl : qm = _) (rfl : [C1.v (.string k)].all C1.one = true) (rfl : [C1.v (.int .i64 v)].all C1.one = true) (rfl : [C1.v (.string k), .v (.int .i64 v)].all C1.one = true))) (fun q109 => ?_)
  refine cl good (kins_ctr (q := q) (all := all) (n := ps.length) (z := z) (i := posK ps k) (v := ((k, v) : Kv)) (qv := (q109 100)) (by omega) (by omega) (by assumption) (by omega)) [2, 0] [(1, 2), (2, 100), (3, 101)] 102 (fun ⟨q4, al4⟩ h110 => ?_)
  try dsimp only at h110
  obtain ⟨i1, i2, i3⟩ := h110
  refine go good (fun _ => (o2 (rfl : qm = _) (rfl : [C1.s 101 q4 2 0 (ps.length + 1) al4.length false].all C1.one = true))) fun _ => ?_
  refine g0 good fun _ => ?_
  refine gh (ge_re (l := [.blk 1 qm [.v (.func (.func 117) #[] #[]), .s 101 q4 2 0 (ps.length + 1) al4.length false] tm .own]) (l' := [.blk 1 qm [.v (.func (.func 117) #[] #[]), .s 101 q4 2 0 ((putK ps k v).length) al4.length false] tm .own]) (by rw [hPl])) [1] [] 102 fun _ _ => ?_
  exact rtv trivial (⟨q4, al4, false⟩) ⟨by dsimp only; rw [hPl, i1, hp, hP], by dsimp only; rw [hPl]; exact i2, ⟨fun h => (by cases h), fun h => absurd h (by dsimp only; omega)⟩, i3⟩ [0, 1] (.o (.v (.bool true))) (by simp [SV.den, C1.den, h1])
theorem omdel_ctr {qm : Nat} {tm : TypeId} {q : Nat} {ps all : List Kv} {z : Bool} {k : ByteArray} (hp : all.take ps.length = ps) (hn : ps.length <= all.length) (hz : z = true ↔ all.length = 0) (hl : all.length < 1000000) (hs : KS ps) : Ctr Tryz.prog nO 93 [.o (.p 1 qm 0 0 0), .o (.v (.string k))] [.blk 1 qm [.v (.func (.func 117) #[] #[]), .s 2 q 2 0 ps.length all.length z] tm .own, vc eK 2 q all 165 .grown z] ((List Kv)) (fun r => r.take (delK ps k).length = (delK ps k) /\ (delK ps k).length <= r.length /\ r.length = all.length) (fun r => .o (.cb (hasK ps k))) (fun r => [.blk 1 qm [.v (.func (.func 117) #[] #[]), .s 2 q 2 0 ((delK ps k).length) r.length z] tm .own, vc eK 2 q r 165 .grown z]) := by
 refine fs good 100 (fun B => ?_)
 refine g0 good fun _ => ?_
 refine g0 good fun _ => ?_
 refine cl good (find_ctr2 (qm := qm) (tm := tm) (q := q) (ps := ps) (all := all) (z := z) (k := k) (by assumption) (by omega) (by assumption) (by omega) (by assumption)) [0, 1] [] 100 fun _ _ => ?_
 refine g0 good fun _ => ?_
 refine g0 good fun _ => ?_
 refine cd good (hasK ps k) (fun h1 => ?_) (fun h1 => ?_)
 ·have hp1 := (hasK_lt h1).1
  have hz0 : z = false := zf hz.1 (show 0 < all.length by omega)
  have hD := del_take hp hn h1
  refine gh (ge_re (l := [vc eK 2 q all 165 .grown z, .blk 1 qm [.v (.func (.func 117) #[] #[]), .s 2 q 2 0 ps.length all.length z] tm .own]) (l' := [vc eK 2 q all 165 .grown false, .blk 1 qm [.v (.func (.func 117) #[] #[]), .s 2 q 2 0 ps.length all.length false] tm .own]) (by rw [hz0])) [1, 0] [] 100 fun _ _ => ?_
  refine go good (fun _ => (o3 (rfl : qm = _) (by omega : -9223372036854775808 <= ((posK ps k : Nat) : Int) + 1) (by omega : ((posK ps k : Nat) : Int) + 1 < 9223372036854775808))) fun _ => ?_
  refine cl good (kdel_ctr (q := q) (all := all) (n := ps.length) (i := posK ps k) (by omega) (by omega) (by omega)) [0] [(1, 2)] 100 fun _ _ => ?_
  refine go good (fun _ => (o2 (rfl : qm = _) (rfl : [C1.s 2 q 2 0 (ps.length - 1) all.length false].all C1.one = true))) fun _ => ?_
  refine g0 good fun _ => ?_
  refine gh (ge_re (l := [vc eK 2 q (rmL all eK.d (posK ps k) ps.length) 165 .grown false, .blk 1 qm [.v (.func (.func 117) #[] #[]), .s 2 q 2 0 (ps.length - 1) all.length false] tm .own]) (l' := [vc eK 2 q (rmL all eK.d (posK ps k) ps.length) 165 .grown z, .blk 1 qm [.v (.func (.func 117) #[] #[]), .s 2 q 2 0 ((delK ps k).length) ((rmL all eK.d (posK ps k) ps.length).length) z] tm .own]) (by rw [hz0, hD.2, rmL_len hp1 hn])) [0, 1] [] 100 fun _ _ => ?_
  exact rt trivial ((rmL all eK.d (posK ps k) ps.length)) ⟨hD.1, by rw [hD.2, rmL_len hp1 hn]; omega, rmL_len hp1 hn⟩ [1, 0]
 ·have hD : delK ps k = ps := by unfold delK; rw [if_neg (nb h1)]
  refine g0 good fun _ => ?_
  refine gh (ge_re (l := [vc eK 2 q all 165 .grown z, .blk 1 qm [.v (.func (.func 117) #[] #[]), .s 2 q 2 0 ps.length all.length z] tm .own]) (l' := [vc eK 2 q all 165 .grown z, .blk 1 qm [.v (.func (.func 117) #[] #[]), .s 2 q 2 0 ((delK ps k).length) all.length z] tm .own]) (by rw [hD])) [1, 0] [] 100 fun _ _ => ?_
  exact rt trivial (all) ⟨by rw [hD]; exact hp, by rw [hD]; exact hn, rfl⟩ [1, 0]
end Go.Proofs.YthkoolfmealabaaGreat
namespace Go.Proofs.YthkoolfmealabaaGreat
set_option maxHeartbeats 4000000
open Go.Abs
variable {nO : Nat}
set_option maxRecDepth 8000
attribute [local irreducible] GP ruP nxP acS gst cdP loP invS ent1 ent2 enP caA resV lgP agN
def dictL (ps : List Kv) : Option (Nat × Nat × List Kv × Bool) -> List Ch
 | none => []
 | some (qm, q, all, z) => [.blk 2 qm [.v (.func (.func 117) #[] #[]), .s 3 q 2 0 ps.length all.length z] 168 .own, vc eK 3 q all 165 .grown z]
def dictP (x : Value) (ps : List Kv) (b : Nat) : Option (Nat × Nat × List Kv × Bool) -> Prop
 | none => x = .pointer none /\ ps = []
 | some (qm, _, all, z) => x = .pointer (some ⟨qm, 0, none⟩) /\ all.take ps.length = ps /\ ps.length <= all.length /\ (z = true ↔ all.length = 0) /\ all.length <= b /\ KS ps /\ ∀ y ∈ ps, 0 < y.2 /\ y.2 <= (b : Int)
def dictA (x : Value) (ps : List Kv) (b : Nat) : As := boxA (dictP x ps b) (dictL ps)
theorem words0_ctr {q : Nat} {tb : TypeId} {c0 c1 c3 : C1}  : Ctr Tryz.prog nO 90 [.o (.p 1 q 0 0 2)] [.blk 1 q [c0, c1, .v (.pointer none), c3] tb .own] ((Nat)) (fun _ => True) (fun r => .o (.p 2 r 0 0 0)) (fun r => [.blk 1 q [c0, c1, .p 2 r 0 0 0, c3] tb .own, .blk 2 r [.v (.func (.func 117) #[] #[]), .s 3 0 2 0 (([] : List Kv).length) (([] : List Kv).length) true] 168 .own, vc eK 3 0 ([] : List Kv) 165 .grown true]) := by
 refine fs good 100 (fun B => ?_)
 refine g0 good fun _ => ?_
 refine g0 good fun _ => ?_
 refine cdF good rfl ?_
 refine go good (fun _ => (o1 (rfl : q = _))) fun _ => ?_
 refine cdT good rfl ?_
 refine g0 good fun _ => ?_
 refine cl good (omnew_ctr ) [] [(1, 100), (2, 101)] 102 (fun qm105 _ => ?_)
 refine go good (fun _ => (o2 (rfl : q = _) (rfl : [C1.p 100 qm105 0 0 0].all C1.one = true))) fun _ => ?_
 refine go good (fun _ => (o1 (rfl : q = _))) fun _ => ?_
 exact rt trivial (qm105) trivial [2, 0, 1]
theorem words1_ctr {q : Nat} {tb : TypeId} {c0 c1 c3 : C1} {qm : Nat}  : Ctr Tryz.prog nO 90 [.o (.p 1 q 0 0 2)] [.blk 1 q [c0, c1, .p 2 qm 0 0 0, c3] tb .own] (Unit) (fun _ => True) (fun r => .o (.p 2 qm 0 0 0)) (fun r => [.blk 1 q [c0, c1, .p 2 qm 0 0 0, c3] tb .own]) := by
 refine fs good 100 (fun B => ?_)
 refine g0 good fun _ => ?_
 refine g0 good fun _ => ?_
 refine cdF good rfl ?_
 refine go good (fun _ => (o1 (rfl : q = _))) fun _ => ?_
 refine cdF good rfl ?_
 refine go good (fun _ => (o1 (rfl : q = _))) fun _ => ?_
 exact rt trivial (()) trivial [0]
theorem words_ctr {q : Nat} {tb : TypeId} {c0 c1 c3 : C1} {x : Value} {ps : List Kv} {b : Nat}  : Ctr Tryz.prog nO 90 [.o (.p 1 q 0 0 2)] [.blk 1 q [c0, c1, .v x, c3] tb .own, .as (dictA x ps b)] ((Nat) × (Nat) × (List Kv) × (Bool)) (fun r => r.2.2.1.take ps.length = ps /\ ps.length <= r.2.2.1.length /\ (r.2.2.2 = true ↔ r.2.2.1.length = 0) /\ r.2.2.1.length <= b /\ KS ps /\ ∀ y ∈ ps, 0 < y.2 /\ y.2 <= (b : Int)) (fun r => .o (.p 902 r.1 0 0 0)) (fun r => [.blk 1 q [c0, c1, .p 902 r.1 0 0 0, c3] tb .own, .blk 902 r.1 [.v (.func (.func 117) #[] #[]), .s 903 r.2.1 2 0 ps.length r.2.2.1.length r.2.2.2] 168 .own, vc eK 903 r.2.1 r.2.2.1 165 .grown r.2.2.2]) := by
 refine ctr_gh (ge_cons _ box_open) (fun r hr => ?_)
 match r, hr with
 | none, ⟨h1, h2⟩ =>
  subst h1 h2
  exact ctr_map (words0_ctr (q := q) (tb := tb) (c0 := c0) (c1 := c1) (c3 := c3)) (fun qm => (qm, 0, [], true)) (fun _ _ => ⟨⟨rfl, Nat.le_refl _, ⟨fun _ => rfl, fun _ => rfl⟩, Nat.zero_le _, List.Pairwise.nil, fun _ h => by cases h⟩, rfl, rfl⟩)
 | some (qm, qa, all, z), ⟨h1, h2⟩ =>
  subst h1
  exact ctr_map (ctr_frame (dictL ps (some (qm, qa, all, z))) (words1_ctr (q := q) (tb := tb) (c0 := c0) (c1 := c1) (c3 := c3) (qm := qm))) (fun _ => (qm, qa, all, z)) (fun _ _ => ⟨h2, rfl, rfl⟩)
theorem dadd_ctr {q : Nat} {tb : TypeId} {c0 c1 c3 : C1} {x : Value} {ps : List Kv} {b : Nat} {s : ByteArray} (hb : b < 100000) : Ctr Tryz.prog nO 84 [.o (.p 1 q 0 0 2), .o (.v (.string s))] [.blk 1 q [c0, c1, .v x, c3] tb .own, .as (dictA x ps b)] ((Value)) (fun _ => True) (fun r => .o (.cb (!(hasK ps s)))) (fun r => [.blk 1 q [c0, c1, .v r, c3] tb .own, .as (dictA r (addK ps s) (b + 1))]) := by
 refine fs good 100 (fun B => ?_)
 refine g0 good fun _ => ?_
 refine g0 good fun _ => ?_
 refine cl0 good (words_ctr (q := q) (tb := tb) (c0 := (c0)) (c1 := (c1)) (c3 := (c3)) (x := x) (ps := ps) (b := b)) [0, 1] 100 (fun ⟨qm, qa, all, z⟩ h103 => ?_)
 try dsimp only at h103
 obtain ⟨w1, w2, w3, w4, w5, w6⟩ := h103
 have hg := getK_le w6 s
 refine g0 good fun _ => ?_
 refine g0 good fun _ => ?_
 refine cl good (omget_ctr (qm := qm) (tm := 168) (q := qa) (ps := ps) (all := all) (z := z) (k := s) (by assumption) (by omega) (by assumption) (by omega) (by assumption)) [1, 2] [(1, 902), (2, 903)] 100 fun _ _ => ?_
 refine g0 good fun _ => ?_
 refine go good (fun _ => (o2 (by omega : -9223372036854775808 <= (getK ps s) + 1) (by omega : (getK ps s) + 1 < 9223372036854775808))) fun _ => ?_
 refine cl good (omput_ctr (qm := qm) (tm := 168) (q := qa) (ps := ps) (all := all) (z := z) (k := s) (v := (getK ps s) + 1) (by assumption) (by omega) (by assumption) (by omega) (by assumption)) [0, 1] [(1, 902), (2, 903), (3, 100)] 101 (fun ⟨q3, al3, z3⟩ h109 => ?_)
 try dsimp only at h109
 obtain ⟨p1, p2, p3, p4⟩ := h109
 refine g0 good fun _ => ?_
 refine gh (box_shut (φ := dictP (.pointer (some ⟨qm, 0, none⟩)) (addK ps s) (b + 1)) (L := dictL (addK ps s)) (some (qm, q3, al3, z3)) ⟨rfl, p1, p2, p3, by omega, putK_KS w5, putK_all w6 (by omega) (by omega)⟩) [0, 1] [] 101 fun _ _ => ?_
 exact rt trivial ((.pointer (some ⟨qm, 0, none⟩))) trivial [1, 0]
theorem dtake_ctr {q : Nat} {tb : TypeId} {c0 c1 c3 : C1} {x : Value} {ps : List Kv} {b : Nat} {s : ByteArray} (hb : b < 100000) : Ctr Tryz.prog nO 77 [.o (.p 1 q 0 0 2), .o (.v (.string s))] [.blk 1 q [c0, c1, .v x, c3] tb .own, .as (dictA x ps b)] ((Value)) (fun _ => True) (fun r => .o (.cb (hasK ps s))) (fun r => [.blk 1 q [c0, c1, .v r, c3] tb .own, .as (dictA r (takeK ps s) (b + 1))]) := by
 refine fs good 100 (fun B => ?_)
 refine g0 good fun _ => ?_
 refine g0 good fun _ => ?_
 refine cl0 good (words_ctr (q := q) (tb := tb) (c0 := (c0)) (c1 := (c1)) (c3 := (c3)) (x := x) (ps := ps) (b := b)) [0, 1] 100 (fun ⟨qm, qa, all, z⟩ h103 => ?_)
 try dsimp only at h103
 obtain ⟨w1, w2, w3, w4, w5, w6⟩ := h103
 have hg := getK_le w6 s
 refine g0 good fun _ => ?_
 refine g0 good fun _ => ?_
 refine cl good (omget_ctr (qm := qm) (tm := 168) (q := qa) (ps := ps) (all := all) (z := z) (k := s) (by assumption) (by omega) (by assumption) (by omega) (by assumption)) [1, 2] [(1, 902), (2, 903)] 100 fun _ _ => ?_
 refine g0 good fun _ => ?_
 refine g0 good fun _ => ?_
 refine cdD good (getK ps s > 1) (fun h1 => ?_) (fun h1 => ?_)
 ·have hT : takeK ps s = putK ps s (getK ps s - 1) := by unfold takeK; rw [if_pos h1]
  refine go good (fun _ => (o2 (by omega : -9223372036854775808 <= (getK ps s) - 1) (by omega : (getK ps s) - 1 < 9223372036854775808))) fun _ => ?_
  refine cl good (omput_ctr (qm := qm) (tm := 168) (q := qa) (ps := ps) (all := all) (z := z) (k := s) (v := (getK ps s) - 1) (by assumption) (by omega) (by assumption) (by omega) (by assumption)) [0, 1] [(1, 902), (2, 903), (3, 100)] 101 (fun ⟨q3, al3, z3⟩ h110 => ?_)
  try dsimp only at h110
  obtain ⟨p1, p2, p3, p4⟩ := h110
  refine g0 good fun _ => ?_
  refine gh (ge_re (l := [.blk 902 qm [.v (.func (.func 117) #[] #[]), .s 100 q3 2 0 ((putK ps s ((getK ps s) - 1)).length) al3.length z3] 168 .own]) (l' := [.blk 902 qm [.v (.func (.func 117) #[] #[]), .s 100 q3 2 0 ((takeK ps s).length) al3.length z3] 168 .own]) (by rw [hT])) [0] [] 101 fun _ _ => ?_
  refine gh (box_shut (φ := dictP (.pointer (some ⟨qm, 0, none⟩)) (takeK ps s) (b + 1)) (L := dictL (takeK ps s)) (some (qm, q3, al3, z3)) ⟨rfl, by rw [hT]; exact p1, by rw [hT]; exact p2, p3, by omega, by rw [hT]; exact putK_KS w5, by rw [hT]; exact putK_all w6 (by omega) (by omega)⟩) [0, 1] [] 101 fun _ _ => ?_
  exact rt trivial ((.pointer (some ⟨qm, 0, none⟩))) trivial [1, 0]
 ·refine g0 good fun _ => ?_
  refine cd good (hasK ps s) (fun h2 => ?_) (fun h2 => ?_)
  ·have hT : takeK ps s = delK ps s := by unfold takeK; rw [if_neg h1, if_pos h2]
   refine g0 good fun _ => ?_
   refine cl good (omdel_ctr (qm := qm) (tm := 168) (q := qa) (ps := ps) (all := all) (z := z) (k := s) (by assumption) (by omega) (by assumption) (by omega) (by assumption)) [0, 1] [(1, 902), (2, 903)] 100 (fun al3 h114 => ?_)
   try dsimp only at h114
   obtain ⟨p1, p2, p3⟩ := h114
   refine g0 good fun _ => ?_
   refine gh (ge_re (l := [.blk 902 qm [.v (.func (.func 117) #[] #[]), .s 903 qa 2 0 ((delK ps s).length) al3.length z] 168 .own]) (l' := [.blk 902 qm [.v (.func (.func 117) #[] #[]), .s 903 qa 2 0 ((takeK ps s).length) al3.length z] 168 .own]) (by rw [hT])) [0] [] 100 fun _ _ => ?_
   refine gh (box_shut (φ := dictP (.pointer (some ⟨qm, 0, none⟩)) (takeK ps s) (b + 1)) (L := dictL (takeK ps s)) (some (qm, qa, al3, z)) ⟨rfl, by rw [hT]; exact p1, by rw [hT]; exact p2, by rw [p3]; exact w3, by omega, by rw [hT]; exact delK_KS w5, by rw [hT]; exact delK_all w6⟩) [0, 1] [] 100 fun _ _ => ?_
   exact rt trivial ((.pointer (some ⟨qm, 0, none⟩))) trivial [1, 0]
  ·have hT : takeK ps s = ps := by unfold takeK; rw [if_neg h1, if_neg (nb h2)]
   refine g0 good fun _ => ?_
   refine gh (ge_re (l := [.blk 902 qm [.v (.func (.func 117) #[] #[]), .s 903 qa 2 0 ps.length all.length z] 168 .own]) (l' := [.blk 902 qm [.v (.func (.func 117) #[] #[]), .s 903 qa 2 0 ((takeK ps s).length) all.length z] 168 .own]) (by rw [hT])) [0] [] 100 fun _ _ => ?_
   refine gh (box_shut (φ := dictP (.pointer (some ⟨qm, 0, none⟩)) (takeK ps s) (b + 1)) (L := dictL (takeK ps s)) (some (qm, qa, all, z)) ⟨rfl, by rw [hT]; exact w1, by rw [hT]; exact w2, w3, by omega, by rw [hT]; exact w5, by rw [hT]; exact fun y hy => ⟨(w6 y hy).1, by have := (w6 y hy).2; omega⟩⟩) [0, 1] [] 100 fun _ _ => ?_
   exact rt trivial ((.pointer (some ⟨qm, 0, none⟩))) trivial [1, 0]
theorem dlen_ctr {q : Nat} {tb : TypeId} {c0 c1 c3 : C1} {x : Value} {ps : List Kv} {b : Nat} (hb : b < 100000) : Ctr Tryz.prog nO 78 [.o (.p 1 q 0 0 2)] [.blk 1 q [c0, c1, .v x, c3] tb .own, .as (dictA x ps b)] ((Value)) (fun _ => True) (fun r => .o (.v (.int .i64 (ps.length : Int)))) (fun r => [.blk 1 q [c0, c1, .v r, c3] tb .own, .as (dictA r ps b)]) := by
 refine fs good 100 (fun B => ?_)
 refine g0 good fun _ => ?_
 refine g0 good fun _ => ?_
 refine cl0 good (words_ctr (q := q) (tb := tb) (c0 := (c0)) (c1 := (c1)) (c3 := (c3)) (x := x) (ps := ps) (b := b)) [0, 1] 100 (fun ⟨qm, qa, all, z⟩ h103 => ?_)
 try dsimp only at h103
 obtain ⟨w1, w2, w3, w4, w5, w6⟩ := h103
 refine cl good (omlen_ctr (qm := qm) (tm := 168) (q := qa) (ps := ps) (all := all) (z := z)) [1, 2] [(1, 902), (2, 903)] 100 fun _ _ => ?_
 refine g0 good fun _ => ?_
 refine gh (box_shut (φ := dictP (.pointer (some ⟨qm, 0, none⟩)) ps b) (L := dictL ps) (some (qm, qa, all, z)) ⟨rfl, w1, w2, w3, w4, w5, w6⟩) [0, 1] [] 100 fun _ _ => ?_
 exact rt trivial ((.pointer (some ⟨qm, 0, none⟩))) trivial [1, 0]
end Go.Proofs.YthkoolfmealabaaGreat
namespace Go.Proofs.YthkoolfmealabaaGreat
set_option maxHeartbeats 4000000
open Go.Abs
variable {nO : Nat}
set_option maxRecDepth 8000
attribute [local irreducible] GP ruP nxP acS gst cdP loP invS ent1 ent2 enP caA resV lgP agN
theorem dict_up {x : Value} {ws : List Kv} {b b' : Nat} (h : b <= b') : GE [.as (dictA x ws b)] Unit (fun _ => True) (fun _ => [.as (dictA x ws b')]) := fun F A hF => by
 obtain ⟨r, hr, h2⟩ := As.unE hF
 refine ⟨(), F, trivial, As.addE ⟨r, ?_, h2⟩, .refl⟩
 match r, hr with
 | none, hr => exact hr
 | some (qm, q, all, z), ⟨h1, h2, h3, h4, h5, h6, h7⟩ => exact ⟨h1, h2, h3, h4, by omega, h6, fun y hy => ⟨(h7 y hy).1, by have := (h7 y hy).2; omega⟩⟩
theorem cmay_ctr {q ql : Nat} {kind : Int} {l : List Va} {x : Value} {nulls : Int} {v : Va} (hs : v.s.size < 1000000000) : Ctr Tryz.prog nO 62 [.o (.p 1 q 0 0 0), .a [.v (.int .i64 v.k), .v (.int .i64 v.n), .v (.string v.s)]] [.blk 1 q [.v (.int .i64 kind), .s 2 ql 3 0 l.length l.length l.isEmpty, .v x, .v (.int .i64 nulls)] 111 .own] (Unit) (fun _ => True) (fun r => .o (.cb (cmay kind v))) (fun r => [.blk 1 q [.v (.int .i64 kind), .s 2 ql 3 0 l.length l.length l.isEmpty, .v x, .v (.int .i64 nulls)] 111 .own]) := by
 refine fs good 100 (fun B => ?_)
 refine go good (fun q101 => (o1 (rfl : [C1.v (.int .i64 v.k), .v (.int .i64 v.n), .v (.string v.s)].all C1.one = true))) (fun q101 => ?_)
 refine go good (fun _ => (o4 (rfl : (q101 100) = (q101 100)) (fun (he : (!(v.k == 0)) = true) => have he : ¬ (v.k = 0) := (by simpa using he); (o1 (rfl : (q101 100) = (q101 100)))) (fun (he : (!(v.k == 0)) = true) => have he : ¬ (v.k = 0) := (by simpa using he); (o1 (rfl : q = _))) (fun (he : (or (v.k == 0) (v.k == kind)) = true) => have he : (v.k = 0) ∨ (v.k = kind) := (by simpa using he); (o1 (rfl : (q101 100) = (q101 100)))))) fun _ => ?_
 refine clm good (may_ctr (v := v) (by assumption)) [] trivial ?_
 refine g0 good fun _ => ?_
 exact rt trivial (()) trivial [1]
theorem ccount_ctr {q ql : Nat} {kind : Int} {l : List Va} {x : Value} {nulls : Int} {ws : List Kv} {b : Nat} {v : Va} (hnu : -100000 < nulls /\ nulls < 100000) (hb : b < 90000) : Ctr Tryz.prog nO 63 [.o (.p 1 q 0 0 0), .a [.v (.int .i64 v.k), .v (.int .i64 v.n), .v (.string v.s)]] [.blk 1 q [.v (.int .i64 kind), .s 2 ql 3 0 l.length l.length l.isEmpty, .v x, .v (.int .i64 nulls)] 111 .own, .as (dictA x ws b)] ((Value)) (fun _ => True) (fun r => .o (.v undef)) (fun r => [.blk 1 q [.v (.int .i64 kind), .s 2 ql 3 0 l.length l.length l.isEmpty, .v r, .v (.int .i64 (cN nulls v))] 111 .own, .as (dictA r (cW ws v) (b + 1))]) := by
 refine fs good 100 (fun B => ?_)
 refine go good (fun q101 => (o1 (rfl : [C1.v (.int .i64 v.k), .v (.int .i64 v.n), .v (.string v.s)].all C1.one = true))) (fun q101 => ?_)
 refine go good (fun _ => (o1 (rfl : (q101 100) = (q101 100)))) fun _ => ?_
 refine g0 good fun _ => ?_
 refine cdE good v.k 0 (fun h1 => ?_) (fun h1 => ?_)
 ·refine go good (fun _ => (o5 (rfl : q = _) (by omega : -9223372036854775808 <= nulls + 1) (by omega : nulls + 1 < 9223372036854775808) (rfl : q = _) (rfl : [C1.v (.int .i64 (nulls + 1))].all C1.one = true))) fun _ => ?_
  refine gh (ge_re (l := [.blk 1 q [.v (.int .i64 kind), .s 2 ql 3 0 l.length l.length l.isEmpty, .v x, .v (.int .i64 (nulls + 1))] 111 .own]) (l' := [.blk 1 q [.v (.int .i64 kind), .s 2 ql 3 0 l.length l.length l.isEmpty, .v x, .v (.int .i64 (cN nulls v))] 111 .own]) (by unfold cN; rw [if_pos h1])) [1] [] 101 fun _ _ => ?_
  refine gh (dict_up (x := x) (ws := ws) (b := b) (b' := b + 1) (by omega)) [2] [] 101 fun _ _ => ?_
  refine gh (ge_re (l := [.as (dictA x ws (b + 1))]) (l' := [.as (dictA x (cW ws v) (b + 1))]) (by unfold cW; rw [if_pos h1])) [0] [] 101 fun _ _ => ?_
  exact rt trivial (x) trivial [1, 0]
 ·refine g0 good fun _ => ?_
  refine cdE good v.k 2 (fun h2 => ?_) (fun h2 => ?_)
  ·refine go good (fun _ => (o1 (rfl : (q101 100) = (q101 100)))) fun _ => ?_
   refine cl good (dadd_ctr (q := q) (tb := 111) (c0 := (.v (.int .i64 kind))) (c1 := (.s 2 ql 3 0 l.length l.length l.isEmpty)) (c3 := (.v (.int .i64 nulls))) (x := x) (ps := ws) (b := b) (s := v.s) (by omega)) [1, 2] [] 101 (fun x2107 _ => ?_)
   refine gh (ge_re (l := [.blk 1 q [.v (.int .i64 kind), .s 2 ql 3 0 l.length l.length l.isEmpty, .v x2107, .v (.int .i64 nulls)] 111 .own]) (l' := [.blk 1 q [.v (.int .i64 kind), .s 2 ql 3 0 l.length l.length l.isEmpty, .v x2107, .v (.int .i64 (cN nulls v))] 111 .own]) (by unfold cN; rw [if_neg h1])) [0] [] 101 fun _ _ => ?_
   refine gh (ge_re (l := [.as (dictA x2107 (addK ws v.s) (b + 1))]) (l' := [.as (dictA x2107 (cW ws v) (b + 1))]) (by unfold cW; rw [if_neg h1, if_pos h2])) [1] [] 101 fun _ _ => ?_
   exact rt trivial (x2107) trivial [1, 0]
  ·refine gh (ge_re (l := [.blk 1 q [.v (.int .i64 kind), .s 2 ql 3 0 l.length l.length l.isEmpty, .v x, .v (.int .i64 nulls)] 111 .own]) (l' := [.blk 1 q [.v (.int .i64 kind), .s 2 ql 3 0 l.length l.length l.isEmpty, .v x, .v (.int .i64 (cN nulls v))] 111 .own]) (by unfold cN; rw [if_neg h1])) [1] [] 101 fun _ _ => ?_
   refine gh (dict_up (x := x) (ws := ws) (b := b) (b' := b + 1) (by omega)) [2] [] 101 fun _ _ => ?_
   refine gh (ge_re (l := [.as (dictA x ws (b + 1))]) (l' := [.as (dictA x (cW ws v) (b + 1))]) (by unfold cW; rw [if_neg h1, if_neg h2])) [0] [] 101 fun _ _ => ?_
   exact rt trivial (x) trivial [1, 0]
theorem capp_ctr {q ql : Nat} {kind : Int} {l : List Va} {x : Value} {nulls : Int} {ws : List Kv} {b : Nat} {v : Va} (hm : cmay kind v = true) (hs : v.s.size < 1000000000) (hl : l.length < 100000) (hnu : -100000 < nulls /\ nulls < 100000) (hb : b < 90000) : Ctr Tryz.prog nO 36 [.o (.p 1 q 0 0 0), .a [.v (.int .i64 v.k), .v (.int .i64 v.n), .v (.string v.s)]] [.blk 1 q [.v (.int .i64 kind), .s 2 ql 3 0 l.length l.length l.isEmpty, .v x, .v (.int .i64 nulls)] 111 .own, vc eV 2 ql l 38 .grown l.isEmpty, .as (dictA x ws b)] ((Nat) × (Value)) (fun _ => True) (fun r => .o (.v (.bool true))) (fun r => [.blk 1 q [.v (.int .i64 kind), .s 2 r.1 3 0 ((l ++ [v]).length) ((l ++ [v]).length) ((l ++ [v]).isEmpty), .v r.2, .v (.int .i64 (cN nulls v))] 111 .own, vc eV 2 r.1 (l ++ [v]) 38 .grown ((l ++ [v]).isEmpty), .as (dictA r.2 (cW ws v) (b + 1))]) := by
 refine fs good 100 (fun B => ?_)
 refine go good (fun q101 => (o1 (rfl : [C1.v (.int .i64 v.k), .v (.int .i64 v.n), .v (.string v.s)].all C1.one = true))) (fun q101 => ?_)
 refine go good (fun _ => (o1 (rfl : (q101 100) = (q101 100)))) fun _ => ?_
 refine cl good (cmay_ctr (q := q) (ql := ql) (kind := kind) (l := l) (x := x) (nulls := nulls) (v := v) (by assumption)) [1] [] 101 fun _ _ => ?_
 refine g0 good fun _ => ?_
 refine cdF good (b := !(cmay kind v)) (by rw [hm]; rfl) ?_
 refine go good (fun q105 => (o3 (rfl : q = _) (rfl : (q101 100) = (q101 100)) (rfl : [C1.v (.int .i64 v.k), .v (.int .i64 v.n), .v (.string v.s)].all C1.one = true))) (fun q105 => ?_)
 refine apd good eV l [v] (l ++ [v]) 2 ql .grown l.isEmpty false (.blk 101 (q105 101) [.v (.int .i64 v.k), .v (.int .i64 v.n), .v (.string v.s)] 38 .own) (q105 101) 0 1 1 false 102 [3, 0] 103 38 (fun h _ => ne_of h) (by simp only [List.length_cons, List.length_nil]; omega) (src_one rfl) (by simp) rfl (fun q106 => ?_)
 refine go good (fun _ => (o2 (rfl : q = _) (rfl : [C1.s 102 q106 3 0 ((l ++ [v]).length) ((l ++ [v]).length) false].all C1.one = true))) fun _ => ?_
 refine gh (ge_re (l := [.blk 1 q [.v (.int .i64 kind), .s 102 q106 3 0 ((l ++ [v]).length) ((l ++ [v]).length) false, .v x, .v (.int .i64 nulls)] 111 .own, vc eV 102 q106 (l ++ [v]) 38 .grown false]) (l' := [.blk 1 q [.v (.int .i64 kind), .s 102 q106 3 0 ((l ++ [v]).length) ((l ++ [v]).length) ((l ++ [v]).isEmpty), .v x, .v (.int .i64 nulls)] 111 .own, vc eV 102 q106 (l ++ [v]) 38 .grown ((l ++ [v]).isEmpty)]) (by rw [isE_snoc])) [2, 0] [] 103 fun _ _ => ?_
 refine go good (fun _ => (o1 (rfl : (q101 100) = (q101 100)))) fun _ => ?_
 refine cl good (ccount_ctr (q := q) (ql := q106) (kind := kind) (l := (l ++ [v])) (x := x) (nulls := nulls) (ws := ws) (b := b) (v := v) (by omega) (by omega)) [0, 4] [(2, 102)] 103 (fun x2109 _ => ?_)
 refine g0 good fun _ => ?_
 exact rt trivial (⟨q106, x2109⟩) trivial [0, 2, 1]
theorem cset_ctr {q ql : Nat} {kind : Int} {l : List Va} {x : Value} {nulls : Int} {ws : List Kv} {b i : Nat} {v : Va} (hm : cmay kind v = true) (hi : i < l.length) (hs : v.s.size < 1000000000) (hl : l.length < 100000) (hnu : -99999 < nulls /\ nulls < 99999) (hb : b < 80000) : Ctr Tryz.prog nO 48 [.o (.p 1 q 0 0 0), .o (.v (.int .i64 (i : Int))), .a [.v (.int .i64 v.k), .v (.int .i64 v.n), .v (.string v.s)]] [.blk 1 q [.v (.int .i64 kind), .s 2 ql 3 0 l.length l.length l.isEmpty, .v x, .v (.int .i64 nulls)] 111 .own, vc eV 2 ql l 38 .grown l.isEmpty, .as (dictA x ws b)] ((Value)) (fun _ => True) (fun r => .o (.v (.bool true))) (fun r => [.blk 1 q [.v (.int .i64 kind), .s 2 ql 3 0 ((l.set i v).length) ((l.set i v).length) ((l.set i v).isEmpty), .v r, .v (.int .i64 (cN (uN nulls (l.getD i eV.d)) v))] 111 .own, vc eV 2 ql (l.set i v) 38 .grown ((l.set i v).isEmpty), .as (dictA r (cW (uW ws (l.getD i eV.d)) v) (b + 2))]) := by
 refine fs good 100 (fun B => ?_)
 have hun := uN_b nulls (l.getD i eV.d)
 refine go good (fun q101 => (o1 (rfl : [C1.v (.int .i64 v.k), .v (.int .i64 v.n), .v (.string v.s)].all C1.one = true))) (fun q101 => ?_)
 refine go good (fun _ => (o1 (rfl : (q101 100) = (q101 100)))) fun _ => ?_
 refine cl good (cmay_ctr (q := q) (ql := ql) (kind := kind) (l := l) (x := x) (nulls := nulls) (v := v) (by assumption)) [1] [] 101 fun _ _ => ?_
 refine go good (fun _ => (o1 (fun (he : (!(or (!(cmay kind v)) (decide ((i : Int) < 0)))) = true) => have he : ¬ ((¬ ((cmay kind v) = true)) ∨ ((i : Int) < 0)) := (by simpa using he); (o1 (rfl : q = _))))) fun _ => ?_
 refine cdF good (b := or (or (!(cmay kind v)) (decide ((i : Int) < 0))) (decide ((i : Int) ≥ (l.length : Int)))) (by rw [hm, decide_eq_false (show ¬ (i : Int) < 0 by omega), decide_eq_false (show ¬ (i : Int) ≥ (l.length : Int) by omega)]; rfl) ?_
 refine go good (fun q105 => (oc (rfl : q = _) (nz i) (by omega : (i : Int) < (l.length : Int)) (zfe (show 0 < l.length by omega) : l.isEmpty = false) (rfl : ql = _) (by omega : i < l.length) (o2 (rfl : (q105 101) = (q105 101)) (rfl : [C1.v (.int .i64 ((l.getD i eV.d).k)), .v (.int .i64 ((l.getD i eV.d).n)), .v (.string ((l.getD i eV.d).s))].all C1.one = true)))) (fun q105 => ?_)
 refine go good (fun _ => (o1 (rfl : (q105 101) = (q105 101)))) fun _ => ?_
 refine g0 good fun _ => ?_
 refine cdE good ((l.getD i eV.d).k) 0 (fun h2 => ?_) (fun h2 => ?_)
 ·refine go good (fun _ => (o5 (rfl : q = _) (by omega : -9223372036854775808 <= nulls - 1) (by omega : nulls - 1 < 9223372036854775808) (rfl : q = _) (rfl : [C1.v (.int .i64 (nulls - 1))].all C1.one = true))) fun _ => ?_
  refine gh (ge_re (l := [.blk 1 q [.v (.int .i64 kind), .s 2 ql 3 0 l.length l.length l.isEmpty, .v x, .v (.int .i64 (nulls - 1))] 111 .own]) (l' := [.blk 1 q [.v (.int .i64 kind), .s 2 ql 3 0 l.length l.length l.isEmpty, .v x, .v (.int .i64 (uN nulls (l.getD i eV.d)))] 111 .own]) (by unfold uN; rw [if_pos h2])) [1] [] 102 fun _ _ => ?_
  refine gh (dict_up (x := x) (ws := ws) (b := b) (b' := b + 1) (by omega)) [4] [] 102 fun _ _ => ?_
  refine gh (ge_re (l := [.as (dictA x ws (b + 1))]) (l' := [.as (dictA x (uW ws (l.getD i eV.d)) (b + 1))]) (by unfold uW; rw [if_pos h2])) [0] [] 102 fun _ _ => ?_
  refine go good (fun _ => (o5 (rfl : q = _) (rfl : (q101 100) = (q101 100)) (nz i) (by omega : (i : Int) < (l.length : Int)) (zfe (show 0 < l.length by omega) : l.isEmpty = false))) fun _ => ?_
  refine vst good eV l v (l.set i v) 2 2 ql i 0 38 .grown l.isEmpty [.v (.int .i64 v.k), .v (.int .i64 v.n), .v (.string v.s)] [4] (by omega) (zfe (show 0 < l.length by omega)) rfl (Nat.le_of_ble_eq_true rfl) rfl ?_
  refine gh (ge_re (l := [.blk 1 q [.v (.int .i64 kind), .s 2 ql 3 0 l.length l.length l.isEmpty, .v x, .v (.int .i64 (uN nulls (l.getD i eV.d)))] 111 .own, vc eV 2 ql (l.set i v) 38 .grown l.isEmpty]) (l' := [.blk 1 q [.v (.int .i64 kind), .s 2 ql 3 0 ((l.set i v).length) ((l.set i v).length) ((l.set i v).isEmpty), .v x, .v (.int .i64 (uN nulls (l.getD i eV.d)))] 111 .own, vc eV 2 ql (l.set i v) 38 .grown ((l.set i v).isEmpty)]) (by simp only [List.length_set, isE_set])) [2, 0] [] 102 fun _ _ => ?_
  refine go good (fun _ => (o1 (rfl : (q101 100) = (q101 100)))) fun _ => ?_
  refine cl good (ccount_ctr (q := q) (ql := ql) (kind := kind) (l := (l.set i v)) (x := x) (nulls := (uN nulls (l.getD i eV.d))) (ws := (uW ws (l.getD i eV.d))) (b := (b + 1)) (v := v) (by omega) (by omega)) [0, 2] [] 102 (fun x2111 _ => ?_)
  refine g0 good fun _ => ?_
  exact rt trivial (x2111) trivial [0, 2, 1]
 ·refine g0 good fun _ => ?_
  refine cdE good ((l.getD i eV.d).k) 2 (fun h3 => ?_) (fun h3 => ?_)
  ·refine go good (fun _ => (o1 (rfl : (q105 101) = (q105 101)))) fun _ => ?_
   refine cl good (dtake_ctr (q := q) (tb := 111) (c0 := (.v (.int .i64 kind))) (c1 := (.s 2 ql 3 0 l.length l.length l.isEmpty)) (c3 := (.v (.int .i64 nulls))) (x := x) (ps := ws) (b := b) (s := (l.getD i eV.d).s) (by omega)) [1, 4] [] 102 (fun x2115 _ => ?_)
   refine gh (ge_re (l := [.blk 1 q [.v (.int .i64 kind), .s 2 ql 3 0 l.length l.length l.isEmpty, .v x2115, .v (.int .i64 nulls)] 111 .own]) (l' := [.blk 1 q [.v (.int .i64 kind), .s 2 ql 3 0 l.length l.length l.isEmpty, .v x2115, .v (.int .i64 (uN nulls (l.getD i eV.d)))] 111 .own]) (by unfold uN; rw [if_neg h2])) [0] [] 102 fun _ _ => ?_
   refine gh (ge_re (l := [.as (dictA x2115 (takeK ws ((l.getD i eV.d).s)) (b + 1))]) (l' := [.as (dictA x2115 (uW ws (l.getD i eV.d)) (b + 1))]) (by unfold uW; rw [if_neg h2, if_pos h3])) [1] [] 102 fun _ _ => ?_
   refine go good (fun _ => (o5 (rfl : q = _) (rfl : (q101 100) = (q101 100)) (nz i) (by omega : (i : Int) < (l.length : Int)) (zfe (show 0 < l.length by omega) : l.isEmpty = false))) fun _ => ?_
   refine vst good eV l v (l.set i v) 2 2 ql i 0 38 .grown l.isEmpty [.v (.int .i64 v.k), .v (.int .i64 v.n), .v (.string v.s)] [4] (by omega) (zfe (show 0 < l.length by omega)) rfl (Nat.le_of_ble_eq_true rfl) rfl ?_
   refine gh (ge_re (l := [.blk 1 q [.v (.int .i64 kind), .s 2 ql 3 0 l.length l.length l.isEmpty, .v x2115, .v (.int .i64 (uN nulls (l.getD i eV.d)))] 111 .own, vc eV 2 ql (l.set i v) 38 .grown l.isEmpty]) (l' := [.blk 1 q [.v (.int .i64 kind), .s 2 ql 3 0 ((l.set i v).length) ((l.set i v).length) ((l.set i v).isEmpty), .v x2115, .v (.int .i64 (uN nulls (l.getD i eV.d)))] 111 .own, vc eV 2 ql (l.set i v) 38 .grown ((l.set i v).isEmpty)]) (by simp only [List.length_set, isE_set])) [2, 0] [] 102 fun _ _ => ?_
   refine go good (fun _ => (o1 (rfl : (q101 100) = (q101 100)))) fun _ => ?_
   refine cl good (ccount_ctr (q := q) (ql := ql) (kind := kind) (l := (l.set i v)) (x := x2115) (nulls := (uN nulls (l.getD i eV.d))) (ws := (uW ws (l.getD i eV.d))) (b := (b + 1)) (v := v) (by omega) (by omega)) [0, 2] [] 102 (fun x2118 _ => ?_)
   refine g0 good fun _ => ?_
   exact rt trivial (x2118) trivial [0, 2, 1]
  ·refine gh (ge_re (l := [.blk 1 q [.v (.int .i64 kind), .s 2 ql 3 0 l.length l.length l.isEmpty, .v x, .v (.int .i64 nulls)] 111 .own]) (l' := [.blk 1 q [.v (.int .i64 kind), .s 2 ql 3 0 l.length l.length l.isEmpty, .v x, .v (.int .i64 (uN nulls (l.getD i eV.d)))] 111 .own]) (by unfold uN; rw [if_neg h2])) [1] [] 102 fun _ _ => ?_
   refine gh (dict_up (x := x) (ws := ws) (b := b) (b' := b + 1) (by omega)) [4] [] 102 fun _ _ => ?_
   refine gh (ge_re (l := [.as (dictA x ws (b + 1))]) (l' := [.as (dictA x (uW ws (l.getD i eV.d)) (b + 1))]) (by unfold uW; rw [if_neg h2, if_neg h3])) [0] [] 102 fun _ _ => ?_
   refine go good (fun _ => (o5 (rfl : q = _) (rfl : (q101 100) = (q101 100)) (nz i) (by omega : (i : Int) < (l.length : Int)) (zfe (show 0 < l.length by omega) : l.isEmpty = false))) fun _ => ?_
   refine vst good eV l v (l.set i v) 2 2 ql i 0 38 .grown l.isEmpty [.v (.int .i64 v.k), .v (.int .i64 v.n), .v (.string v.s)] [4] (by omega) (zfe (show 0 < l.length by omega)) rfl (Nat.le_of_ble_eq_true rfl) rfl ?_
   refine gh (ge_re (l := [.blk 1 q [.v (.int .i64 kind), .s 2 ql 3 0 l.length l.length l.isEmpty, .v x, .v (.int .i64 (uN nulls (l.getD i eV.d)))] 111 .own, vc eV 2 ql (l.set i v) 38 .grown l.isEmpty]) (l' := [.blk 1 q [.v (.int .i64 kind), .s 2 ql 3 0 ((l.set i v).length) ((l.set i v).length) ((l.set i v).isEmpty), .v x, .v (.int .i64 (uN nulls (l.getD i eV.d)))] 111 .own, vc eV 2 ql (l.set i v) 38 .grown ((l.set i v).isEmpty)]) (by simp only [List.length_set, isE_set])) [2, 0] [] 102 fun _ _ => ?_
   refine go good (fun _ => (o1 (rfl : (q101 100) = (q101 100)))) fun _ => ?_
   refine cl good (ccount_ctr (q := q) (ql := ql) (kind := kind) (l := (l.set i v)) (x := x) (nulls := (uN nulls (l.getD i eV.d))) (ws := (uW ws (l.getD i eV.d))) (b := (b + 1)) (v := v) (by omega) (by omega)) [0, 2] [] 102 (fun x2122 _ => ?_)
   refine g0 good fun _ => ?_
   exact rt trivial (x2122) trivial [0, 2, 1]
theorem clen_ctr {q ql : Nat} {kind : Int} {l : List Va} {x : Value} {nulls : Int}  : Ctr Tryz.prog nO 51 [.o (.p 1 q 0 0 0)] [.blk 1 q [.v (.int .i64 kind), .s 2 ql 3 0 l.length l.length l.isEmpty, .v x, .v (.int .i64 nulls)] 111 .own] (Unit) (fun _ => True) (fun r => .o (.v (.int .i64 (l.length : Int)))) (fun r => [.blk 1 q [.v (.int .i64 kind), .s 2 ql 3 0 l.length l.length l.isEmpty, .v x, .v (.int .i64 nulls)] 111 .own]) := by
 refine fs good 100 (fun B => ?_)
 refine g0 good fun _ => ?_
 refine g0 good fun _ => ?_
 refine cdF good rfl ?_
 refine go good (fun _ => (o1 (rfl : q = _))) fun _ => ?_
 exact rt trivial (()) trivial [0]
theorem cat_ctr {q ql : Nat} {kind : Int} {l : List Va} {x : Value} {nulls : Int} {i : Nat} (hi : i < l.length) (hl : l.length < 100000) : Ctr Tryz.prog nO 40 [.o (.p 1 q 0 0 0), .o (.v (.int .i64 (i : Int)))] [.blk 1 q [.v (.int .i64 kind), .s 2 ql 3 0 l.length l.length l.isEmpty, .v x, .v (.int .i64 nulls)] 111 .own, vc eV 2 ql l 38 .grown l.isEmpty] (Unit) (fun _ => True) (fun r => .t [(true, [.v (.int .i64 ((l.getD i eV.d).k)), .v (.int .i64 ((l.getD i eV.d).n)), .v (.string ((l.getD i eV.d).s))]), (false, [.v (.bool true)])]) (fun r => [.blk 1 q [.v (.int .i64 kind), .s 2 ql 3 0 l.length l.length l.isEmpty, .v x, .v (.int .i64 nulls)] 111 .own, vc eV 2 ql l 38 .grown l.isEmpty]) := by
 refine fs good 100 (fun B => ?_)
 refine g0 good (fun q101 => ?_)
 refine g0 good fun _ => ?_
 refine clm good (clen_ctr (q := q) (ql := ql) (kind := kind) (l := l) (x := x) (nulls := nulls)) [1] trivial ?_
 refine g0 good fun _ => ?_
 refine cdF good (b := or (decide ((i : Int) < 0)) (decide ((i : Int) ≥ (l.length : Int)))) (by rw [decide_eq_false (show ¬ (i : Int) < 0 by omega), decide_eq_false (show ¬ (i : Int) ≥ (l.length : Int) by omega)]; rfl) ?_
 refine go good (fun _ => (oc (rfl : q = _) (nz i) (by omega : (i : Int) < (l.length : Int)) (zfe (show 0 < l.length by omega) : l.isEmpty = false) (rfl : ql = _) (by omega : i < l.length) (o2 (rfl : (q101 100) = (q101 100)) (rfl : [C1.v (.int .i64 ((l.getD i eV.d).k)), .v (.int .i64 ((l.getD i eV.d).n)), .v (.string ((l.getD i eV.d).s))].all C1.one = true)))) fun _ => ?_
 exact rt (o1 (rfl : (q101 100) = (q101 100))) (()) trivial [0, 2]
theorem cwords_ctr {q ql : Nat} {kind : Int} {l : List Va} {x : Value} {nulls : Int} {ws : List Kv} {b : Nat} (hb : b < 90000) : Ctr Tryz.prog nO 50 [.o (.p 1 q 0 0 0)] [.blk 1 q [.v (.int .i64 kind), .s 2 ql 3 0 l.length l.length l.isEmpty, .v x, .v (.int .i64 nulls)] 111 .own, .as (dictA x ws b)] ((Value)) (fun _ => True) (fun r => .o (.v (.int .i64 (ws.length : Int)))) (fun r => [.blk 1 q [.v (.int .i64 kind), .s 2 ql 3 0 l.length l.length l.isEmpty, .v r, .v (.int .i64 nulls)] 111 .own, .as (dictA r ws b)]) := by
 refine fs good 100 (fun B => ?_)
 refine g0 good fun _ => ?_
 refine g0 good fun _ => ?_
 refine cdF good rfl ?_
 refine g0 good fun _ => ?_
 refine cl good (dlen_ctr (q := q) (tb := 111) (c0 := (.v (.int .i64 kind))) (c1 := (.s 2 ql 3 0 l.length l.length l.isEmpty)) (c3 := (.v (.int .i64 nulls))) (x := x) (ps := ws) (b := b) (by omega)) [0, 1] [] 100 (fun x2104 _ => ?_)
 refine g0 good fun _ => ?_
 exact rt trivial (x2104) trivial [0, 1]
theorem cnew_ctr {kind : Int} (hk : kind = 1 ∨ kind = 2) : Ctr Tryz.prog nO 32 [.o (.v (.int .i64 kind))] [] ((Nat)) (fun _ => True) (fun r => .o (.p 1 r 0 0 0)) (fun r => [.blk 1 r [.v (.int .i64 kind), .s 2 0 3 0 (([] : List Va).length) (([] : List Va).length) (([] : List Va).isEmpty), .v (.pointer none), .v (.int .i64 0)] 111 .own, vc eV 2 0 ([] : List Va) 38 .grown (([] : List Va).isEmpty), .as (dictA (.pointer none) [] 0)]) := by
 refine fs good 100 (fun B => ?_)
 refine g0 good fun _ => ?_
 refine g0 good fun _ => ?_
 refine cdF good (b := and (kind != 1) (kind != 2)) (by rcases hk with rfl | rfl <;> rfl) ?_
 refine go good (fun q103 => (o2 (rfl : [C1.v (.int .i64 kind)].all C1.one = true) (rfl : [C1.v (.int .i64 kind), .v (.slice none 0 0), .v (.pointer none), .v (.int .i64 0)].all C1.one = true))) (fun q103 => ?_)
 refine gh (nil_vec 101 3 eV.f eV.d 38 .grown) [] [] 102 fun _ _ => ?_
 refine gh (box_shut (φ := dictP (.pointer none) [] 0) (L := dictL []) none ⟨rfl, rfl⟩) [] [] 102 fun _ _ => ?_
 exact rt trivial ((q103 100)) trivial [2, 1, 0]
end Go.Proofs.YthkoolfmealabaaGreat
namespace Go.Proofs.YthkoolfmealabaaGreat
set_option maxHeartbeats 4000000
open Go.Abs
variable {nO : Nat}
set_option maxRecDepth 8000
attribute [local irreducible] GP ruP nxP acS gst cdP loP invS ent1 ent2 enP caA resV lgP agN
theorem eqtab_ctr {na ka : ByteArray} {qa ca : Nat} {za : Bool} {xa : List Cd} {ta : TypeId} {ma : Md} {qA cA : Nat} {zA : Bool} {da : List De} {tA : TypeId} {mA : Md} {nb kb : ByteArray} {qb cb : Nat} {zb : Bool} {xb : List Cd} {tb : TypeId} {mb : Md} {qB cB : Nat} {zB : Bool} {db : List De} {tB : TypeId} {mB : Md} (hza : za = true -> xa.length = 0) (hla : xa.length < 1000000) (hzb : zb = true -> xb.length = 0) (hlb : xb.length < 1000000) (hzA : zA = true -> da.length = 0) (hlA : da.length < 1000000) (hzB : zB = true -> db.length = 0) (hlB : db.length < 1000000) (hda : ∀ i, i < da.length -> (da.getD i dD).l.length < 1000000) (hdb : ∀ i, i < db.length -> (db.getD i dD).l.length < 1000000) : Ctr Tryz.prog nO 17 [.a [.v (.string na), .s 1 qa 4 0 xa.length ca za, .v (.string ka), .s 3 qA 2 0 da.length cA zA], .a [.v (.string nb), .s 2 qb 4 0 xb.length cb zb, .v (.string kb), .s 4 qB 2 0 db.length cB zB]] [vc eC 1 qa xa ta ma za, vc eC 2 qb xb tb mb zb, vc (eD 906) 3 qA da tA mA zA, vc (eD 907) 4 qB db tB mB zB, .as (bigA (lefA 9) da), .as (bigA (lefA 9) db)] (Unit) (fun _ => True) (fun r => .o (.cb (eqT ⟨na, xa, ka, da⟩ ⟨nb, xb, kb, db⟩))) (fun r => [vc eC 1 qa xa ta ma za, vc eC 2 qb xb tb mb zb, vc (eD 906) 3 qA da tA mA zA, vc (eD 907) 4 qB db tB mB zB, .as (bigA (lefA 9) da), .as (bigA (lefA 9) db)]) := by
 refine fs good 100 (fun B => ?_)
 refine go good (fun q101 => (o2 (rfl : [C1.v (.string na), .s 1 qa 4 0 xa.length ca za, .v (.string ka), .s 3 qA 2 0 da.length cA zA].all C1.one = true) (rfl : [C1.v (.string nb), .s 2 qb 4 0 xb.length cb zb, .v (.string kb), .s 4 qB 2 0 db.length cB zB].all C1.one = true))) (fun q101 => ?_)
 refine go good (fun _ => (oc (rfl : (q101 100) = (q101 100)) (rfl : (q101 101) = (q101 101)) (fun (he : (!(!strEq na nb)) = true) => have he : ¬ (¬ ((strEq na nb) = true)) := (by simpa using he); (o1 (rfl : (q101 100) = (q101 100)))) (fun (he : (!(!strEq na nb)) = true) => have he : ¬ (¬ ((strEq na nb) = true)) := (by simpa using he); (o1 (rfl : (q101 101) = (q101 101)))) (fun (he : (!(or (!strEq na nb) (!strEq ka kb))) = true) => have he : ¬ ((¬ ((strEq na nb) = true)) ∨ (¬ ((strEq ka kb) = true))) := (by simpa using he); (o1 (rfl : (q101 100) = (q101 100)))) (fun (he : (!(or (!strEq na nb) (!strEq ka kb))) = true) => have he : ¬ ((¬ ((strEq na nb) = true)) ∨ (¬ ((strEq ka kb) = true))) := (by simpa using he); (o1 (rfl : (q101 101) = (q101 101)))) (o2 (fun (he : (!(or (or (!strEq na nb) (!strEq ka kb)) ((xa.length : Int) != (xb.length : Int)))) = true) => have he : ¬ (((¬ ((strEq na nb) = true)) ∨ (¬ ((strEq ka kb) = true))) ∨ ((xa.length : Int) ≠ (xb.length : Int))) := (by simpa using he); (o1 (rfl : (q101 100) = (q101 100)))) (fun (he : (!(or (or (!strEq na nb) (!strEq ka kb)) ((xa.length : Int) != (xb.length : Int)))) = true) => have he : ¬ (((¬ ((strEq na nb) = true)) ∨ (¬ ((strEq ka kb) = true))) ∨ ((xa.length : Int) ≠ (xb.length : Int))) := (by simpa using he); (o1 (rfl : (q101 101) = (q101 101))))))) fun _ => ?_
 refine cd good (or (or (or (!strEq na nb) (!strEq ka kb)) ((xa.length : Int) != (xb.length : Int))) ((da.length : Int) != (db.length : Int))) (fun h1 => ?_) (fun h1 => ?_)
 ·refine g0 good fun _ => ?_
  exact rtv trivial (()) trivial [2, 3, 4, 5, 6, 7] (.o (.v (.bool false))) (congrArg Value.bool (eqT_no h1).symm)
 ·obtain ⟨hlc, hld⟩ := eqT_len h1
  refine g0 good fun _ => ?_
  refine lp good ((Nat)) [2, 3] (fun r => [(5, .o (.v (.int .i64 (r : Int))))]) [0, 1, 2, 3, 4, 5, 6, 7] (fun _ => []) 122 (fun r => r <= xa.length /\ eqL eqC xa xb = eqL eqC (xa.drop r) (xb.drop r)) (fun r => xa.length - r) (0) ⟨Nat.zero_le _, rfl⟩ [] (fun i hx ag105 => ?_)
  obtain ⟨hi, hr⟩ := hx
  refine go good (fun _ => (o1 (rfl : (q101 100) = (q101 100)))) fun _ => ?_
  refine cdD good ((i : Int) < (xa.length : Int)) (fun h2 => ?_) (fun h2 => ?_)
  ·refine go good (fun q107 => (oc (rfl : (q101 100) = (q101 100)) (nz i) (by omega : (i : Int) < (xa.length : Int)) (zf hza (show 0 < xa.length by omega) : za = false) (rfl : qa = _) (by omega : i < xa.length) (oc (rfl : (q101 101) = (q101 101)) (nz i) (by omega : (i : Int) < (xb.length : Int)) (zf hzb (show 0 < xb.length by omega) : zb = false) (rfl : qb = _) (by omega : i < xb.length) (o4 (rfl : (q107 122) = (q107 122)) (rfl : [C1.v (.string ((xa.getD i eC.d).name)), .v (.int .i64 ((xa.getD i eC.d).kind)), .cb ((xa.getD i eC.d).must), .v (.string ((xa.getD i eC.d).to))].all C1.one = true) (rfl : (q107 123) = (q107 123)) (rfl : [C1.v (.string ((xb.getD i eC.d).name)), .v (.int .i64 ((xb.getD i eC.d).kind)), .cb ((xb.getD i eC.d).must), .v (.string ((xb.getD i eC.d).to))].all C1.one = true))))) (fun q107 => ?_)
   refine go good (fun _ => (oc (rfl : (q107 122) = (q107 122)) (rfl : (q107 123) = (q107 123)) (fun (he : (!(!strEq ((xa.getD i eC.d).name) ((xb.getD i eC.d).name))) = true) => have he : ¬ (¬ ((strEq ((xa.getD i eC.d).name) ((xb.getD i eC.d).name)) = true)) := (by simpa using he); (o1 (rfl : (q107 122) = (q107 122)))) (fun (he : (!(!strEq ((xa.getD i eC.d).name) ((xb.getD i eC.d).name))) = true) => have he : ¬ (¬ ((strEq ((xa.getD i eC.d).name) ((xb.getD i eC.d).name)) = true)) := (by simpa using he); (o1 (rfl : (q107 123) = (q107 123)))) (fun (he : (!(or (!strEq ((xa.getD i eC.d).name) ((xb.getD i eC.d).name)) ((xa.getD i eC.d).kind != (xb.getD i eC.d).kind))) = true) => have he : ¬ ((¬ ((strEq ((xa.getD i eC.d).name) ((xb.getD i eC.d).name)) = true)) ∨ ((xa.getD i eC.d).kind ≠ (xb.getD i eC.d).kind)) := (by simpa using he); (o1 (rfl : (q107 122) = (q107 122)))) (fun (he : (!(or (!strEq ((xa.getD i eC.d).name) ((xb.getD i eC.d).name)) ((xa.getD i eC.d).kind != (xb.getD i eC.d).kind))) = true) => have he : ¬ ((¬ ((strEq ((xa.getD i eC.d).name) ((xb.getD i eC.d).name)) = true)) ∨ ((xa.getD i eC.d).kind ≠ (xb.getD i eC.d).kind)) := (by simpa using he); (o1 (rfl : (q107 123) = (q107 123)))) (o2 (fun (he : (!(or (or (!strEq ((xa.getD i eC.d).name) ((xb.getD i eC.d).name)) ((xa.getD i eC.d).kind != (xb.getD i eC.d).kind)) (!(((xa.getD i eC.d).must) == ((xb.getD i eC.d).must))))) = true) => have he : ¬ (((¬ ((strEq ((xa.getD i eC.d).name) ((xb.getD i eC.d).name)) = true)) ∨ ((xa.getD i eC.d).kind ≠ (xb.getD i eC.d).kind)) ∨ (¬ (((xa.getD i eC.d).must) = ((xb.getD i eC.d).must)))) := (by simpa using he); (o1 (rfl : (q107 122) = (q107 122)))) (fun (he : (!(or (or (!strEq ((xa.getD i eC.d).name) ((xb.getD i eC.d).name)) ((xa.getD i eC.d).kind != (xb.getD i eC.d).kind)) (!(((xa.getD i eC.d).must) == ((xb.getD i eC.d).must))))) = true) => have he : ¬ (((¬ ((strEq ((xa.getD i eC.d).name) ((xb.getD i eC.d).name)) = true)) ∨ ((xa.getD i eC.d).kind ≠ (xb.getD i eC.d).kind)) ∨ (¬ (((xa.getD i eC.d).must) = ((xb.getD i eC.d).must)))) := (by simpa using he); (o1 (rfl : (q107 123) = (q107 123))))))) fun _ => ?_
   refine cd good (or (or (or (!strEq ((xa.getD i eC.d).name) ((xb.getD i eC.d).name)) ((xa.getD i eC.d).kind != (xb.getD i eC.d).kind)) (!(((xa.getD i eC.d).must) == ((xb.getD i eC.d).must)))) (!strEq ((xa.getD i eC.d).to) ((xb.getD i eC.d).to))) (fun h3 => ?_) (fun h3 => ?_)
   ·refine g0 good fun _ => ?_
    exact rtv trivial (()) trivial [4, 5, 6, 7, 8, 9] (.o (.v (.bool false))) (congrArg Value.bool (by rw [eqT_go h1, hr, eqL_step eC.d (by omega) (by omega), eqC_is h3]; rfl))
   ·refine go good (fun _ => (o2 (by omega : -9223372036854775808 <= (i : Int) + 1) (by omega : (i : Int) + 1 < 9223372036854775808))) fun _ => ?_
    exact ag105 _ _ (i + 1) (by first | omega | (simp only; omega)) ⟨by omega, by rw [hr, eqL_step eC.d (by omega) (by omega), eqC_is h3]; rfl⟩ [2, 3, 4, 5, 6, 7, 8, 9] (by kernel_rfl) (by kernel_rfl)
  ·have hc : eqL eqC xa xb = true := by rw [hr, eqL_end (by omega) (by omega)]
   refine g0 good fun _ => ?_
   refine lp good ((Nat)) [2, 3] (fun r => [(8, .o (.v (.int .i64 (r : Int))))]) [0, 1, 2, 3, 4, 5, 6, 7] (fun _ => []) 142 (fun r => r <= da.length /\ eqL eqDe da db = eqL eqDe (da.drop r) (db.drop r)) (fun r => da.length - r) (0) ⟨Nat.zero_le _, rfl⟩ [] (fun j hx ag112 => ?_)
   obtain ⟨hj, hs⟩ := hx
   refine go good (fun _ => (o1 (rfl : (q101 100) = (q101 100)))) fun _ => ?_
   refine cdD good ((j : Int) < (da.length : Int)) (fun h4 => ?_) (fun h4 => ?_)
   ·have hl1 := hda j (by omega)
    have hl2 := hdb j (by omega)
    refine gh (big_out (I := (lefA 9)) (l := da) j dD (by omega)) [6] [] 142 fun _ _ => ?_
    refine gh (ge_op (c := vc eS 906 ((da.getD j dD).q) ((da.getD j dD).l) 9 .imm false) (I := ((lefA 9) (da.getD j dD)))) [0] [] 142 fun _ _ => ?_
    refine gh (big_out (I := (lefA 9)) (l := db) j dD (by omega)) [8] [] 142 fun _ _ => ?_
    refine gh (ge_op (c := vc eS 907 ((db.getD j dD).q) ((db.getD j dD).l) 9 .imm false) (I := ((lefA 9) (db.getD j dD)))) [0] [] 142 fun _ _ => ?_
    refine go good (fun _ => (oc (rfl : (q101 100) = (q101 100)) (nz j) (by omega : (j : Int) < (da.length : Int)) (zf hzA (show 0 < da.length by omega) : zA = false) (rfl : qA = _) (by omega : j < da.length) (oc (rfl : (q101 101) = (q101 101)) (nz j) (by omega : (j : Int) < (db.length : Int)) (zf hzB (show 0 < db.length by omega) : zB = false) (rfl : qB = _) (by omega : j < db.length) (o6 (fun (he : (!(!strEq ((da.getD j dD).r) ((db.getD j dD).r))) = true) => have he : ¬ (¬ ((strEq ((da.getD j dD).r) ((db.getD j dD).r)) = true)) := (by simpa using he); (o1 (rfl : (q101 100) = (q101 100)))) (fun (he : (!(!strEq ((da.getD j dD).r) ((db.getD j dD).r))) = true) => have he : ¬ (¬ ((strEq ((da.getD j dD).r) ((db.getD j dD).r)) = true)) := (by simpa using he); (o3 (nz j) (by omega : (j : Int) < (da.length : Int)) (zf hzA (show 0 < da.length by omega) : zA = false))) (fun (he : (!(!strEq ((da.getD j dD).r) ((db.getD j dD).r))) = true) => have he : ¬ (¬ ((strEq ((da.getD j dD).r) ((db.getD j dD).r)) = true)) := (by simpa using he); (o2 (rfl : qA = _) (by omega : j < da.length))) (fun (he : (!(!strEq ((da.getD j dD).r) ((db.getD j dD).r))) = true) => have he : ¬ (¬ ((strEq ((da.getD j dD).r) ((db.getD j dD).r)) = true)) := (by simpa using he); (o1 (rfl : (q101 101) = (q101 101)))) (fun (he : (!(!strEq ((da.getD j dD).r) ((db.getD j dD).r))) = true) => have he : ¬ (¬ ((strEq ((da.getD j dD).r) ((db.getD j dD).r)) = true)) := (by simpa using he); (o3 (nz j) (by omega : (j : Int) < (db.length : Int)) (zf hzB (show 0 < db.length by omega) : zB = false))) (fun (he : (!(!strEq ((da.getD j dD).r) ((db.getD j dD).r))) = true) => have he : ¬ (¬ ((strEq ((da.getD j dD).r) ((db.getD j dD).r)) = true)) := (by simpa using he); (o2 (rfl : qB = _) (by omega : j < db.length))))))) fun _ => ?_
    refine clm good (eqpath_ctr (qa := (da.getD j dD).q) (ca := (da.getD j dD).l.length) (za := false) (a := (da.getD j dD).l) (ta := 9) (ma := .imm) (qb := (db.getD j dD).q) (cb := (db.getD j dD).l.length) (zb := false) (b := (db.getD j dD).l) (tb := 9) (mb := .imm) (fun h => nomatch h) (by omega) (fun h => nomatch h) (by omega)) [2, 0] trivial ?_
    refine g0 good fun _ => ?_
    refine gh (ge_sh (c := vc eS 906 ((da.getD j dD).q) ((da.getD j dD).l) 9 .imm false) (I := ((lefA 9) (da.getD j dD)))) [0] [] 142 fun _ _ => ?_
    refine gh (big_bk (I := (lefA 9)) (l := da) j dD (by omega)) [0, 3] [] 142 fun _ _ => ?_
    refine gh (ge_sh (c := vc eS 907 ((db.getD j dD).q) ((db.getD j dD).l) 9 .imm false) (I := ((lefA 9) (db.getD j dD)))) [1] [] 142 fun _ _ => ?_
    refine gh (big_bk (I := (lefA 9)) (l := db) j dD (by omega)) [0, 2] [] 142 fun _ _ => ?_
    refine cd good (or (!strEq ((da.getD j dD).r) ((db.getD j dD).r)) (!(cmpP ((da.getD j dD).l) ((db.getD j dD).l) == 0))) (fun h5 => ?_) (fun h5 => ?_)
    ·refine g0 good fun _ => ?_
     exact rtv trivial (()) trivial [4, 5, 6, 7, 1, 0] (.o (.v (.bool false))) (congrArg Value.bool (by rw [eqT_go h1, hc, hs, eqL_step dD (by omega) (by omega), eqDe_is h5]; rfl))
    ·refine go good (fun _ => (o2 (by omega : -9223372036854775808 <= (j : Int) + 1) (by omega : (j : Int) + 1 < 9223372036854775808))) fun _ => ?_
     exact ag112 _ _ (j + 1) (by first | omega | (simp only; omega)) ⟨by omega, by rw [hs, eqL_step dD (by omega) (by omega), eqDe_is h5]; rfl⟩ [2, 3, 4, 5, 6, 7, 1, 0] (by kernel_rfl) (by kernel_rfl)
   ·refine g0 good fun _ => ?_
    exact rtv trivial (()) trivial [2, 3, 4, 5, 6, 7] (.o (.v (.bool true))) (congrArg Value.bool (by rw [eqT_go h1, hc, hs, eqL_end (by omega) (by omega)]; rfl))
end Go.Proofs.YthkoolfmealabaaGreat
namespace Go.Proofs.YthkoolfmealabaaGreat
set_option maxHeartbeats 4000000
open Go.Abs
variable {nO : Nat}
set_option maxRecDepth 8000
attribute [local irreducible] GP ruP nxP acS gst cdP loP invS ent1 ent2 enP caA resV lgP agN
theorem form8_ctr {na ka : ByteArray} {qa ca : Nat} {za : Bool} {xa : List Cd} {ta : TypeId} {ma : Md} {qA cA : Nat} {zA : Bool} {da : List De} (hza : za = true -> xa.length = 0) (hla : xa.length < 1000000) : Ctr Tryz.prog nO 33 [.a [.v (.string na), .s 1 qa 4 0 xa.length ca za, .v (.string ka), .s 3 qA 2 0 da.length cA zA]] [vc eC 1 qa xa ta ma za] ((Nat)) (fun _ => True) (fun r => .a [.v (.string na), .s 5 r 4 0 ((xa.map (mustC ka)).length) ((xa.map (mustC ka)).length) ((xa.map (mustC ka)).isEmpty), .v (.string ka), .s 3 qA 2 0 da.length cA zA]) (fun r => [vc eC 5 r (xa.map (mustC ka)) 42 .grown ((xa.map (mustC ka)).isEmpty), vc eC 1 qa xa ta ma za]) := by
 refine fs good 100 (fun B => ?_)
 refine go good (fun q101 => (o1 (rfl : [C1.v (.string na), .s 1 qa 4 0 xa.length ca za, .v (.string ka), .s 3 qA 2 0 da.length cA zA].all C1.one = true))) (fun q101 => ?_)
 refine go good (fun _ => (o1 (rfl : (q101 100) = (q101 100)))) fun _ => ?_
 refine gh (nil_vec 102 4 eC.f eC.d 42 .grown) [] [] 103 fun _ _ => ?_
 refine apd good eC [] xa xa 102 0 .grown true xa.isEmpty (vc eC 1 qa xa ta ma za) qa 0 xa.length ca za 103 [0, 3] 104 42 (fun h => by cases h) (by simp only [List.length_cons, List.length_nil]; omega) src_vec (by simp) rfl (fun q103 => ?_)
 refine go good (fun _ => (o2 (rfl : (q101 100) = (q101 100)) (rfl : [C1.s 103 q103 4 0 xa.length xa.length xa.isEmpty].all C1.one = true))) fun _ => ?_
 refine g0 good fun _ => ?_
 refine gh (ge_re (l := [vc eC 103 q103 xa 42 .grown xa.isEmpty]) (l' := [vc eC 103 q103 (mustN ka xa 0) 42 .grown xa.isEmpty]) rfl) [0] [] 104 fun _ _ => ?_
 refine lp good ((Nat)) [1, 2] (fun r => [(3, .o (.v (.int .i64 (r : Int))))]) [1, 2, 3] (fun r => [vc eC 103 q103 (mustN ka xa r) 42 .grown xa.isEmpty]) 124 (fun r => r <= xa.length) (fun r => xa.length - r) (0) (Nat.zero_le _) [0] (fun i hx ag106 => ?_)
 have hml := mustN_len ka xa i
 refine go good (fun _ => (o1 (rfl : (q101 100) = (q101 100)))) fun _ => ?_
 refine cdD good ((i : Int) < (xa.length : Int)) (fun h1 => ?_) (fun h1 => ?_)
 ·refine go good (fun _ => (oc (rfl : (q101 100) = (q101 100)) (nz i) (by omega : (i : Int) < (xa.length : Int)) (zfe (show 0 < xa.length by omega) : xa.isEmpty = false) (rfl : q103 = _) (by omega : i < (mustN ka xa i).length) (o1 (rfl : (q101 100) = (q101 100))))) fun _ => ?_
  refine cd good (strEq (((mustN ka xa i).getD i eC.d).name) ka) (fun h2 => ?_) (fun h2 => ?_)
  ·refine go good (fun _ => (o4 (rfl : (q101 100) = (q101 100)) (nz i) (by omega : (i : Int) < (xa.length : Int)) (zfe (show 0 < xa.length by omega) : xa.isEmpty = false))) fun _ => ?_
   refine vst good eC (mustN ka xa i) ({ (mustN ka xa i).getD i eC.d with must := true }) (mustN ka xa (i + 1)) 103 103 q103 i 2 42 .grown xa.isEmpty [.v (.bool true)] [0] (by omega) (zfe (show 0 < xa.length by omega)) (by rw [<- mustN_step (by omega)]; unfold mustC; rw [if_pos (by rw [<- mustN_at (key := ka) (by omega)]; exact h2), mustN_at (by omega)]) (Nat.le_of_ble_eq_true rfl) rfl ?_
   refine go good (fun _ => (o2 (by omega : -9223372036854775808 <= (i : Int) + 1) (by omega : (i : Int) + 1 < 9223372036854775808))) fun _ => ?_
   exact ag106 _ _ (i + 1) (by first | omega | (simp only; omega)) (by omega) [0, 1, 2, 3] (by kernel_rfl) (by kernel_rfl)
  ·refine go good (fun _ => (o2 (by omega : -9223372036854775808 <= (i : Int) + 1) (by omega : (i : Int) + 1 < 9223372036854775808))) fun _ => ?_
   refine gh (ge_re (l := [vc eC 103 q103 (mustN ka xa i) 42 .grown xa.isEmpty]) (l' := [vc eC 103 q103 (mustN ka xa (i + 1)) 42 .grown xa.isEmpty]) (by rw [<- mustN_step (by omega)]; unfold mustC; rw [if_neg (by rw [<- mustN_at (key := ka) (by omega)]; exact nb h2), <- mustN_at (key := ka) (l := xa) (by omega), set_self _ (by omega)])) [0] [] 124 fun _ _ => ?_
   exact ag106 _ _ (i + 1) (by first | omega | (simp only; omega)) (by omega) [0, 1, 2, 3] (by kernel_rfl) (by kernel_rfl)
 ·refine gh (ge_re (l := [vc eC 103 q103 (mustN ka xa i) 42 .grown xa.isEmpty]) (l' := [vc eC 103 q103 (xa.map (mustC ka)) 42 .grown ((xa.map (mustC ka)).isEmpty)]) (by have e : i = xa.length := (by omega); rw [e, mustN_all, List.isEmpty_map])) [0] [] 124 fun _ _ => ?_
  refine go good (fun _ => (o3 (rfl : (q101 100) = (q101 100)) (rfl : (q101 101) = (q101 101)) (rfl : [C1.v (.string na), .s 103 q103 4 0 xa.length xa.length xa.isEmpty, .v (.string ka), .s 3 qA 2 0 da.length cA zA].all C1.one = true))) fun _ => ?_
  exact rtv (o1 (rfl : (q101 101) = (q101 101))) (q103) trivial [0, 1] (.a [.v (.string na), .s 103 q103 4 0 xa.length xa.length xa.isEmpty, .v (.string ka), .s 3 qA 2 0 da.length cA zA]) (by rw [List.length_map, List.isEmpty_map]; rfl)
theorem star_ctr   : Ctr Tryz.prog nO 34 [] [] ((Nat) × (Nat) × (Nat) × (Nat) × (Nat) × (Nat) × (Nat) × (Nat) × (Nat)) (fun _ => True) (fun r => .o (.s 1 r.1 4 0 4 4 false)) (fun r => [.blk 1 r.1 [.v (.string ⟨#[108, 97, 110, 100]⟩), .s 9 r.2.2.2.2.2.2.2.2 4 0 2 2 false, .v (.string ⟨#[105, 100]⟩), .v (.slice none 0 0), .v (.string ⟨#[115, 104, 111, 112]⟩), .s 2 r.2.1 4 0 4 4 false, .v (.string ⟨#[105, 100]⟩), .s 3 r.2.2.1 2 0 1 1 false, .v (.string ⟨#[100, 97, 121]⟩), .s 8 r.2.2.2.2.2.2.2.1 4 0 3 3 false, .v (.string ⟨#[100]⟩), .s 6 r.2.2.2.2.2.1 2 0 1 1 false, .v (.string ⟨#[115, 97, 108, 101]⟩), .s 5 r.2.2.2.2.1 4 0 4 4 false, .v (.string ⟨#[]⟩), .v (.slice none 0 0)] 31 .own, .blk 2 r.2.1 [.v (.string ⟨#[105, 100]⟩), .v (.int .i64 1), .v (.bool false), .v (.string ⟨#[]⟩), .v (.string ⟨#[99, 105, 116, 121]⟩), .v (.int .i64 2), .v (.bool true), .v (.string ⟨#[]⟩), .v (.string ⟨#[122, 111, 110, 101]⟩), .v (.int .i64 2), .v (.bool false), .v (.string ⟨#[]⟩), .v (.string ⟨#[108, 97, 110, 100]⟩), .v (.int .i64 1), .v (.bool false), .v (.string ⟨#[108, 97, 110, 100]⟩)] 42 .own, .blk 3 r.2.2.1 [.s 4 r.2.2.2.1 1 0 1 1 false, .v (.string ⟨#[122, 111, 110, 101]⟩)] 91 .own, .blk 4 r.2.2.2.1 [.v (.string ⟨#[99, 105, 116, 121]⟩)] 9 .own]) := by
 refine fs good 100 (fun B => ?_)
 refine g0 good fun _ => ?_
 refine go good (fun q102 => (oc (rfl : [C1.v (.string ⟨#[105, 100]⟩)].all C1.one = true) (rfl : [C1.v (.int .i64 1)].all C1.one = true) (rfl : [C1.v (.string ⟨#[110, 97, 109, 101]⟩)].all C1.one = true) (rfl : [C1.v (.int .i64 2)].all C1.one = true) (rfl : [C1.v (.string ⟨#[105, 100]⟩), .v (.int .i64 1), .v (.bool false), .v (.string ⟨#[]⟩)].all C1.one = true) (rfl : [C1.v (.string ⟨#[110, 97, 109, 101]⟩), .v (.int .i64 2), .v (.bool false), .v (.string ⟨#[]⟩)].all C1.one = true) (oc (rfl : [C1.v (.string ⟨#[108, 97, 110, 100]⟩)].all C1.one = true) (rfl : [C1.s 100 (q102 100) 4 0 2 2 false].all C1.one = true) (rfl : [C1.v (.string ⟨#[105, 100]⟩)].all C1.one = true) (rfl : [C1.v (.string ⟨#[105, 100]⟩)].all C1.one = true) (rfl : [C1.v (.int .i64 1)].all C1.one = true) (rfl : [C1.v (.string ⟨#[99, 105, 116, 121]⟩)].all C1.one = true) (oc (rfl : [C1.v (.int .i64 2)].all C1.one = true) (rfl : [C1.v (.bool true)].all C1.one = true) (rfl : [C1.v (.string ⟨#[122, 111, 110, 101]⟩)].all C1.one = true) (rfl : [C1.v (.int .i64 2)].all C1.one = true) (rfl : [C1.v (.string ⟨#[108, 97, 110, 100]⟩)].all C1.one = true) (rfl : [C1.v (.int .i64 1)].all C1.one = true) (oc (rfl : [C1.v (.string ⟨#[108, 97, 110, 100]⟩)].all C1.one = true) (rfl : [C1.v (.string ⟨#[105, 100]⟩), .v (.int .i64 1), .v (.bool false), .v (.string ⟨#[]⟩)].all C1.one = true) (rfl : [C1.v (.string ⟨#[99, 105, 116, 121]⟩), .v (.int .i64 2), .v (.bool true), .v (.string ⟨#[]⟩)].all C1.one = true) (rfl : [C1.v (.string ⟨#[122, 111, 110, 101]⟩), .v (.int .i64 2), .v (.bool false), .v (.string ⟨#[]⟩)].all C1.one = true) (rfl : [C1.v (.string ⟨#[108, 97, 110, 100]⟩), .v (.int .i64 1), .v (.bool false), .v (.string ⟨#[108, 97, 110, 100]⟩)].all C1.one = true) (rfl : [C1.v (.string ⟨#[99, 105, 116, 121]⟩)].all C1.one = true) (oc (rfl : [C1.s 102 (q102 102) 1 0 1 1 false].all C1.one = true) (rfl : [C1.v (.string ⟨#[122, 111, 110, 101]⟩)].all C1.one = true) (rfl : [C1.s 102 (q102 102) 1 0 1 1 false, .v (.string ⟨#[122, 111, 110, 101]⟩)].all C1.one = true) (rfl : [C1.v (.string ⟨#[115, 104, 111, 112]⟩)].all C1.one = true) (rfl : [C1.s 101 (q102 101) 4 0 4 4 false].all C1.one = true) (rfl : [C1.v (.string ⟨#[105, 100]⟩)].all C1.one = true) (oc (rfl : [C1.s 103 (q102 103) 2 0 1 1 false].all C1.one = true) (rfl : [C1.v (.string ⟨#[100]⟩)].all C1.one = true) (rfl : [C1.v (.int .i64 2)].all C1.one = true) (rfl : [C1.v (.string ⟨#[109, 111, 110, 116, 104]⟩)].all C1.one = true) (rfl : [C1.v (.int .i64 1)].all C1.one = true) (rfl : [C1.v (.bool true)].all C1.one = true) (oc (rfl : [C1.v (.string ⟨#[121, 101, 97, 114]⟩)].all C1.one = true) (rfl : [C1.v (.int .i64 1)].all C1.one = true) (rfl : [C1.v (.string ⟨#[100]⟩), .v (.int .i64 2), .v (.bool false), .v (.string ⟨#[]⟩)].all C1.one = true) (rfl : [C1.v (.string ⟨#[109, 111, 110, 116, 104]⟩), .v (.int .i64 1), .v (.bool true), .v (.string ⟨#[]⟩)].all C1.one = true) (rfl : [C1.v (.string ⟨#[121, 101, 97, 114]⟩), .v (.int .i64 1), .v (.bool false), .v (.string ⟨#[]⟩)].all C1.one = true) (rfl : [C1.v (.string ⟨#[109, 111, 110, 116, 104]⟩)].all C1.one = true) (oc (rfl : [C1.s 105 (q102 105) 1 0 1 1 false].all C1.one = true) (rfl : [C1.v (.string ⟨#[121, 101, 97, 114]⟩)].all C1.one = true) (rfl : [C1.s 105 (q102 105) 1 0 1 1 false, .v (.string ⟨#[121, 101, 97, 114]⟩)].all C1.one = true) (rfl : [C1.v (.string ⟨#[100, 97, 121]⟩)].all C1.one = true) (rfl : [C1.s 104 (q102 104) 4 0 3 3 false].all C1.one = true) (rfl : [C1.v (.string ⟨#[100]⟩)].all C1.one = true) (oc (rfl : [C1.s 106 (q102 106) 2 0 1 1 false].all C1.one = true) (rfl : [C1.v (.string ⟨#[115, 104, 111, 112]⟩)].all C1.one = true) (rfl : [C1.v (.int .i64 1)].all C1.one = true) (rfl : [C1.v (.string ⟨#[115, 104, 111, 112]⟩)].all C1.one = true) (rfl : [C1.v (.string ⟨#[100, 97, 121]⟩)].all C1.one = true) (rfl : [C1.v (.int .i64 2)].all C1.one = true) (oc (rfl : [C1.v (.string ⟨#[100, 97, 121]⟩)].all C1.one = true) (rfl : [C1.v (.string ⟨#[110]⟩)].all C1.one = true) (rfl : [C1.v (.int .i64 1)].all C1.one = true) (rfl : [C1.v (.string ⟨#[116, 97, 103]⟩)].all C1.one = true) (rfl : [C1.v (.int .i64 2)].all C1.one = true) (rfl : [C1.v (.string ⟨#[115, 104, 111, 112]⟩), .v (.int .i64 1), .v (.bool false), .v (.string ⟨#[115, 104, 111, 112]⟩)].all C1.one = true) (oc (rfl : [C1.v (.string ⟨#[100, 97, 121]⟩), .v (.int .i64 2), .v (.bool false), .v (.string ⟨#[100, 97, 121]⟩)].all C1.one = true) (rfl : [C1.v (.string ⟨#[110]⟩), .v (.int .i64 1), .v (.bool false), .v (.string ⟨#[]⟩)].all C1.one = true) (rfl : [C1.v (.string ⟨#[116, 97, 103]⟩), .v (.int .i64 2), .v (.bool false), .v (.string ⟨#[]⟩)].all C1.one = true) (rfl : [C1.v (.string ⟨#[115, 97, 108, 101]⟩)].all C1.one = true) (rfl : [C1.s 107 (q102 107) 4 0 4 4 false].all C1.one = true) (rfl : [C1.v (.string ⟨#[108, 97, 110, 100]⟩), .s 100 (q102 100) 4 0 2 2 false, .v (.string ⟨#[105, 100]⟩), .v (.slice none 0 0)].all C1.one = true) (o3 (rfl : [C1.v (.string ⟨#[115, 104, 111, 112]⟩), .s 101 (q102 101) 4 0 4 4 false, .v (.string ⟨#[105, 100]⟩), .s 103 (q102 103) 2 0 1 1 false].all C1.one = true) (rfl : [C1.v (.string ⟨#[100, 97, 121]⟩), .s 104 (q102 104) 4 0 3 3 false, .v (.string ⟨#[100]⟩), .s 106 (q102 106) 2 0 1 1 false].all C1.one = true) (rfl : [C1.v (.string ⟨#[115, 97, 108, 101]⟩), .s 107 (q102 107) 4 0 4 4 false, .v (.string ⟨#[]⟩), .v (.slice none 0 0)].all C1.one = true)))))))))))))) (fun q102 => ?_)
 exact rt trivial (⟨(q102 108), (q102 101), (q102 103), (q102 102), (q102 107), (q102 106), (q102 105), (q102 104), (q102 100)⟩) trivial [0, 7, 5, 6]
theorem shop_ctr   : Ctr Tryz.prog nO 11 [] [] ((Nat) × (Nat) × (Nat)) (fun _ => True) (fun r => .a [.v (.string tShop), .s 1 r.1 4 0 shopK.length shopK.length false, .v (.string tId), .s 2 r.2.1 2 0 ((shopD r.2.2).length) ((shopD r.2.2).length) false]) (fun r => [vc eC 1 r.1 shopK 42 .grown false, vc (eD 906) 2 r.2.1 (shopD r.2.2) 91 .imm false, .as (bigA (lefA 9) (shopD r.2.2))]) := by
 refine fs good 100 (fun B => ?_)
 refine g0 good (fun q101 => ?_)
 refine cl good (star_ctr ) [] [(1, 101), (9, 102), (2, 103), (3, 104), (8, 105), (6, 106), (5, 107), (4, 108)] 109 (fun ⟨qr103, qc103, qd103, ql103, y1103, y2103, y3103, y4103, y5103⟩ _ => ?_)
 refine go good (fun _ => (o4 (by omega : (0 : Int) <= 1) (by omega : (1 : Int) < 4) (rfl : false = _) (rfl : qr103 = _))) fun _ => ?_
 refine gh (blk_vec (g := 103) (q := qc103) (cs := [.v (.string ⟨#[105, 100]⟩), .v (.int .i64 1), .v (.bool false), .v (.string ⟨#[]⟩), .v (.string ⟨#[99, 105, 116, 121]⟩), .v (.int .i64 2), .v (.bool true), .v (.string ⟨#[]⟩), .v (.string ⟨#[122, 111, 110, 101]⟩), .v (.int .i64 2), .v (.bool false), .v (.string ⟨#[]⟩), .v (.string ⟨#[108, 97, 110, 100]⟩), .v (.int .i64 1), .v (.bool false), .v (.string ⟨#[108, 97, 110, 100]⟩)]) (t := 42) (m := .own) eC shopC) [1] [] 109 fun _ _ => ?_
 refine gh (blk_vec (g := 104) (q := qd103) (cs := [.s 108 ql103 1 0 1 1 false, .v (.string ⟨#[122, 111, 110, 101]⟩)]) (t := 91) (m := .own) (eD 906) (shopD ql103)) [2] [] 109 fun _ _ => ?_
 refine gh (vec_imm (E := (eD 906)) (g := 104) (q := qd103) (xs := (shopD ql103)) (t := 91) (m := .own) (z := false)) [0] [] 109 fun _ _ => ?_
 refine gh (blk_vec (g := 108) (q := ql103) (cs := [.v (.string ⟨#[99, 105, 116, 121]⟩)]) (t := 9) (m := .own) eS [tCity]) [3] [] 109 fun _ _ => ?_
 refine gh (vec_imm (E := eS) (g := 108) (q := ql103) (xs := [tCity]) (t := 9) (m := .own) (z := false)) [0] [] 109 fun _ _ => ?_
 refine gh (ge_sh (c := vc eS 108 ql103 [tCity] 9 .imm false) (I := ((lefA 9) (⟨ql103, [tCity], tZone⟩ : De)))) [0] [] 109 fun _ _ => ?_
 refine gh (big_nil (I := (lefA 9))) [] [] 109 fun _ _ => ?_
 refine gh (big_snoc (I := (lefA 9)) (l := []) (x := (⟨ql103, [tCity], tZone⟩ : De))) [1, 0] [] 109 fun _ _ => ?_
 refine cl good (form8_ctr (na := tShop) (ka := tId) (qa := qc103) (ca := 4) (za := false) (xa := shopC) (ta := 42) (ma := .own) (qA := qd103) (cA := 1) (zA := false) (da := (shopD ql103)) (fun h => nomatch h) (by decide)) [2] [(1, 103), (3, 104), (5, 109)] 110 (fun q2105 _ => ?_)
 refine go good (fun _ => (o2 (rfl : (q101 100) = (q101 100)) (rfl : [C1.v (.string tShop), .s 109 q2105 4 0 ((shopC.map (mustC tId)).length) ((shopC.map (mustC tId)).length) ((shopC.map (mustC tId)).isEmpty), .v (.string tId), .s 104 qd103 2 0 ((shopD ql103).length) 1 false].all C1.one = true))) fun _ => ?_
 refine gh (ge_re (l := [vc eC 109 q2105 (shopC.map (mustC tId)) 42 .grown ((shopC.map (mustC tId)).isEmpty)]) (l' := [vc eC 109 q2105 shopK 42 .grown false]) (by rw [shopK_is]; rfl)) [0] [] 110 fun _ _ => ?_
 exact rtv (o1 (rfl : (q101 100) = (q101 100))) (⟨q2105, qd103, ql103⟩) trivial [0, 3, 2] (.a [.v (.string tShop), .s 109 q2105 4 0 ((shopC.map (mustC tId)).length) ((shopC.map (mustC tId)).length) ((shopC.map (mustC tId)).isEmpty), .v (.string tId), .s 104 qd103 2 0 ((shopD ql103).length) 1 false]) (by rw [shopK_is]; rfl)
end Go.Proofs.YthkoolfmealabaaGreat
