/-
  TI.
-/
import Derived.Test.YtagidoadfajpgaaGreatN24
import Derived.Test.YtagidoadfajpgaaGreatN2
import Derived.Test.YtagidoadfajpgaaGreatN20
import Derived.Test.YtagidoadfajpgaaGreatN21
open List (length_cons length_nil getElem?_take mem_cons not_mem_nil append_assoc map_cons append_nil take_append_drop length_take length_drop mem_flatMap drop_eq_nil_of_le take_take take_length map_nil getElem?_drop take_of_length_le)
namespace Go.Proofs.YtagidoadfajpgaaGreat
open Go.Abs
variable {nO : Nat}
set_option maxRecDepth 8000
attribute [local irreducible] GP ruP nxP acS gst cdP loP j6 m9 m8 enP caA n5 lgP agN
theorem cell_at {W : World} {b k : Nat} {cw : Array Value} {t : TypeId} {fz : Nat × Nat} {x : Value} (h : W.heap[b]? = some (.cells cw t fz)) (hk : cw[k]? = some x) : W.cell? ⟨b, k, none⟩ = some x := by
 simp [World.cell?, h, hk]
theorem a4y {W : World} {b k : Nat} {cw : Array Value} {t : TypeId} {fz : Nat × Nat} (h : W.heap[b]? = some (.cells cw t fz)) (hf : ¬ fz.1 < fz.2) : W.frozen? ⟨b, k, none⟩ = false := by
 simp only [World.frozen?, h]
 simp
 omega
theorem a6b {cs vs : List Value} {a k : Nat} (hv : vs.length = 2) (ha : a <= cs.length) : (cs.take a ++ vs ++ cs.drop a)[k]? = if k < a then cs[k]? else if k < a + 2 then vs[k - a]? else cs[k - 2]? := by
 have h1 : (cs.take a).length = a := by simp; omega
 rw [append_assoc, List.getElem?_append, h1]
 split
 ·rw [getElem?_take]; rw [if_pos (by assumption)]
 ·rw [List.getElem?_append, hv]
  split
  ·rw [if_pos (by omega)]
  ·rw [if_neg (by omega), getElem?_drop]
   congr 1; omega
theorem a82 {cs vs : List Value} {cw : Array Value} {off a : Nat} (hv : vs.length = 2) (ha : a <= cs.length) (hr : off + cs.length + 2 <= cw.size) (hc : ∀ (j : Nat) x, j < a -> cs[j]? = some x -> cw[off + j]? = some x) (k : Nat) (x : Value)
  (hx : (cs.take a ++ vs ++ cs.drop a)[k]? = some x) : (a20 (a20 cw (off + (a + 2)) (cs.drop a)) (off + a) vs)[off + k]? = some x := by
 rw [a6b hv ha] at hx
 rw [W6 _ _ _ _ (by rw [y6]; omega), W6 _ _ _ _ (by rw [length_drop]; omega), length_drop]
 split at hx
 ·rw [if_neg (by omega), if_neg (by omega)]; exact hc k x (by assumption) hx
 ·split at hx
  ·rw [if_pos (by omega)]; rw [<- hx]; congr 1; omega
  ·have := (List.getElem?_eq_some_iff.1 hx).1
   rw [if_neg (by omega), if_pos (by omega), getElem?_drop, <- hx]; congr 1; omega
theorem a81 {cs vs : List Value} {cw : Array Value} {a : Nat} (hv : vs.length = 2) (ha : a <= cs.length) (hr : cs.length + 2 <= cw.size) (hc : ∀ (j : Nat) x, j < a -> cs[j]? = some x -> cw[j]? = some x) (k : Nat) (x : Value)
  (hx : (cs.take a ++ vs ++ cs.drop a)[k]? = some x) : (a20 (a20 cw a vs) (a + 2) (cs.drop a))[k]? = some x := by
 rw [a6b hv ha] at hx
 rw [W6 _ _ _ _ (by rw [y6, length_drop]; omega), W6 _ _ _ _ (by omega), length_drop]
 split at hx
 ·rw [if_neg (by omega), if_neg (by omega)]; exact hc k x (by assumption) hx
 ·split at hx
  ·rw [if_neg (by omega), if_pos (by omega)]; exact hx
  ·have := (List.getElem?_eq_some_iff.1 hx).1
   rw [if_pos (by omega), getElem?_drop, <- hx]; congr 1; omega
theorem a2M {xs : List Kv} (i : Nat) (x : Value) (h : (b7 eK.f xs)[i]? = some x) : r7 x = true /\ x.oneCell' = true := by
 have hm : x ∈ (b7 eK.f xs).toList := by
  have := Array.mem_of_getElem? h
  simpa using this
 simp only [b7, mem_flatMap] at hm
 obtain ⟨y, _, hy⟩ := hm
 simp only [eK, map_cons, map_nil, C1.den, mem_cons, not_mem_nil, or_false] at hy
 rcases hy with rfl | rfl <;> exact ⟨rfl, rfl⟩
theorem b4e (xs : List Kv) : (b7 eK.f xs).toList.length = xs.length * 2 := by
 have := f5 (en := eK.f) (w := 2) (fun _ => rfl) xs
 simpa using this
theorem b0d {xs : List Kv} {i : Nat} (hi : i <= xs.length) : (b7 eK.f (xs.take i)).toList = (b7 eK.f xs).toList.take (i * 2) /\ (b7 eK.f (xs.drop i)).toList = (b7 eK.f xs).toList.drop (i * 2) := by
 have h1 : (b7 eK.f xs).toList = (b7 eK.f (xs.take i)).toList ++ (b7 eK.f (xs.drop i)).toList := by
  rw [<- Array.toList_append, <- k8, take_append_drop]
 have h2 : (b7 eK.f (xs.take i)).toList.length = i * 2 := by rw [b4e, length_take, Nat.min_eq_left hi]
 rw [h1]
 exact ⟨by rw [<- h2]; simp, by rw [<- h2]; simp⟩
theorem b2v {q : Nat} {all : List Kv} {n i : Nat} {v : Kv} {qv : Nat} (hi : i < n) (hn : n <= all.length) (hl : all.length < 1000000) : Ctr Tryz.prog nO 216 [.o (.s 1 q 2 0 n all.length false), .o (.i (i : Int)), .o (.s 2 qv 2 0 1 1 false)] [vc eK 1 q all 240 .grown false, .blk 2 qv [.t v.1, .i v.2] 240 .own] (Nat) (fun _ => True) (fun r => .o (.s 3 r 2 0 (n + 1) (n + 1) false)) (fun r => [vc eK 3 r (a4j (all.take n) i v) 240 .grown false]) := fun F A h => by
 obtain ⟨F1, F2, ⟨hw, o1, o2, fz, hfz, hb⟩, hv, j⟩ := h
 cases hfz
 obtain ⟨p1, p2, fzv, hfzv, hbv⟩ := As.unE hv
 cases hfzv
 have hne : q ≠ qv := fun e => by
  subst e
  exact j.oo q ((o1 q).2 ⟨rfl, rfl⟩) ((p1 q).2 ⟨rfl, rfl⟩)
 have hq : q < A.heap.size := (Array.getElem?_eq_some_iff.1 hb).1
 have hcs : (b7 eK.f all).size = all.length * 2 := f5 (en := eK.f) (w := 2) (fun _ => rfl) all
 obtain ⟨cs, hcd⟩ : ∃ cs, cs = (b7 eK.f (all.take n)).toList := ⟨_, rfl⟩
 have hcl : cs.length = n * 2 := by rw [hcd, b4e, length_take, Nat.min_eq_left hn]
 have hct : cs = (b7 eK.f all).toList.take (n * 2) := by rw [hcd, (b0d hn).1]
 have hc1 : ∀ x ∈ cs, x.oneCell' = true := fun x hx => by
  rw [hcd] at hx
  obtain ⟨k, hk⟩ := List.mem_iff_getElem?.1 hx
  exact (a2M k x (by simpa using hk)).2
 have hca : ∀ (k : Nat) x, cs[k]? = some x -> (b7 eK.f all)[k]? = some x := fun k x hk => by
  rw [hct, getElem?_take] at hk
  split at hk
  ·simpa using hk
  ·cases hk
 have hnl : (b7 eK.f (a4j (all.take n) i v)).toList = cs.take (i * 2) ++ [.string v.1, .int .i64 v.2] ++ cs.drop (i * 2) := by
  have hin : i <= (all.take n).length := by rw [length_take]; omega
  obtain ⟨e1, e2⟩ := b0d hin
  rw [hcd, <- e1, <- e2]
  simp [a4j, k8]
  rfl
 have hna : ∀ (k : Nat) x, (b7 eK.f (a4j (all.take n) i v))[k]? = some x -> (cs.take (i * 2) ++ [.string v.1, .int .i64 v.2] ++ cs.drop (i * 2))[k]? = some x := fun k x hk => by
  rw [<- hnl]; simpa using hk
 have e2 : ∀ o, o + (i + 1) * 2 = o + (i * 2 + 2) := fun o => by omega
 have S := b4E (P := Tryz.prog) (nO := nO) (f := 216) (iv := .int .i64 i) rfl (d := q) (qv := qv) (n := n) (cap := all.length) (n' := n + 1) (w := 2) (new := b7 eK.f (a4j (all.take n) i v)) hb hbv hne (by omega) (by decide +kernel) (by decide) hcs (fun i x h => (a2M i x h).1)
  (fun k x h => by
   have hm := Array.mem_of_getElem? h
   simp [d0, C1.den] at hm
   rcases hm with rfl | rfl <;> rfl) (fun i x h => (a2M i x h).1)
  (fun W blk off cap' vb voff cw cvw tw tvw fw fv hW hfw hWv hfv hvb hin hinv hcap hroom => by
   have hlt : blk < W.heap.size := (Array.getElem?_eq_some_iff.1 hW).1
   have hvsz : voff + 1 < cvw.size := (Array.getElem?_eq_some_iff.1 (hinv 1 _ rfl)).1
   have hvs : ∀ (k : Nat) x, [Value.string v.1, Value.int .i64 v.2][k]? = some x -> W.cell? ⟨vb, voff + k, none⟩ = some x := fun k x hk => cell_at hWv (hinv k x (by simpa [d0, C1.den] using hk))
   have hcc : ∀ (k : Nat) x, cs[k]? = some x -> W.cell? ⟨blk, off + k, none⟩ = some x := fun k x hk => cell_at hW (hin k x (hca k x hk))
   by_cases hr : n + 1 <= cap'
   ·have hc2 : (n + 1) * 2 <= cap' * 2 := Nat.mul_le_mul_right 2 hr
    refine (a67 blk off n cap' i vb voff 1 cs [.string v.1, .int .i64 v.2] W hi hr hvb (by omega) hcl rfl hcc (fun k hk => by rw [cell_at hW (Array.getElem?_eq_getElem (by omega))]; rfl) (fun k _ => a4y hW hfw) hvs hc1 (by simp [Value.oneCell']) tvw tw cvw.size cw.size (by simp [World.shape?, hWv]) (by simp [World.shape?, hW]) (by omega) (a4y hWv hfv) (a4y hWv hfv)).mono ?_
    rintro e W' ⟨rfl, rfl⟩
    refine .inl ⟨hr, rfl, ⟨fun cw2 tw2 fw2 h2 => ?_, fun b hb1 hb2 => ?_, ?_, ?_, ?_, ?_⟩⟩
    ·rw [hW] at h2; cases h2
     refine ⟨_, w7 blk _ _ _ _ _ _ (w7 blk _ _ _ _ _ _ hW), by rw [y6, y6], fun k x hk => ?_⟩
     rw [e2]
     exact a82 rfl (by omega) (by rw [hcl]; omega) (fun j x _ hj => hin j x (hca j x hj)) k x (hna k x hk)
    ·rw [F9 hb2, F9 hb2]; rfl
    ·rw [(d6 _ _ _ _).1, (d6 _ _ _ _).1]; exact Nat.le_refl _
    ·rw [(d6 _ _ _ _).2.1, (d6 _ _ _ _).2.1]; rfl
    ·rw [(d6 _ _ _ _).2.2.1, (d6 _ _ _ _).2.2.1]; rfl
    ·rw [(d6 _ _ _ _).2.2.2, (d6 _ _ _ _).2.2.2]; rfl
   ·refine (a9w blk off n cap' i vb voff 1 cs [.string v.1, .int .i64 v.2] W hi (by omega) (by omega) (by omega) hcl rfl hcc hvs hc1 (by simp [Value.oneCell'])).mono ?_
    rintro e W' ⟨G, ROW, hG, hRs, hRt, rfl, rfl⟩
    have hat : ((W.alloc (.cells ROW 240)).drew).heap[W.heap.size]? = some (.cells ROW 240 (0, 0)) := i8 W _
    refine .inr ⟨G, _, rfl, ⟨w7 _ _ _ _ _ _ _ (w7 _ _ _ _ _ _ _ hat), fun b hb1 => ?_, ?_, ?_, ?_, ?_⟩, hG, by rw [y6, y6]; exact hRs, fun k x hk => ?_⟩
    ·rw [F9 (by omega)]
     show ((W.alloc (.cells ROW 240)).drew.setCells W.heap.size (i * 2) _).heap[b]? = _
     rw [F9 (by omega)]; exact E3 W _ hb1
    ·rw [(d6 _ _ _ _).1]
     show _ <= ((W.alloc (.cells ROW 240)).drew.setCells W.heap.size (i * 2) _).heap.size
     rw [(d6 _ _ _ _).1]
     show _ <= (W.heap.push _).size
     simp
    ·rw [(d6 _ _ _ _).2.1]
     show ((W.alloc (.cells ROW 240)).drew.setCells W.heap.size (i * 2) _).os = _
     rw [(d6 _ _ _ _).2.1]; rfl
    ·rw [(d6 _ _ _ _).2.2.1]
     show ((W.alloc (.cells ROW 240)).drew.setCells W.heap.size (i * 2) _).tape = _
     rw [(d6 _ _ _ _).2.2.1]; rfl
    ·rw [(d6 _ _ _ _).2.2.2]
     show ((W.alloc (.cells ROW 240)).drew.setCells W.heap.size (i * 2) _).output = _
     rw [(d6 _ _ _ _).2.2.2]; rfl
    ·rw [show (i + 1) * 2 = i * 2 + 2 by omega]
     exact a81 rfl (by omega) (by rw [hcl, hRs]; omega) (fun j x hj1 hj => hRt j x (by rw [getElem?_take, if_pos hj1]; exact hj)) k x (hna k x hk))
 have hd : (SV.o (.s 3 A.heap.size 2 0 (n + 1) (n + 1) false)).den = .slice (some ⟨A.heap.size, 0, none⟩) (n + 1) (n + 1) := by
  show Value.slice (cond false none (some ⟨A.heap.size, 0 * 2, none⟩)) _ _ = _
  rw [Nat.zero_mul]; rfl
 have ha : ([.o (.s 1 q 2 0 n all.length false), .o (.i (i : Int)), .o (.s 2 qv 2 0 1 1 false)].map SV.den) = [.slice (some ⟨q, 0, none⟩) n all.length, .int .i64 i, .slice (some ⟨qv, 0, none⟩) 1 1] := by
  show [Value.slice (cond false none (some ⟨q, 0 * 2, none⟩)) _ _, _, Value.slice (cond false none (some ⟨qv, 0 * 2, none⟩)) _ _] = _
  rw [Nat.zero_mul]; rfl
 refine ⟨A.heap.size, _, a7F A.heap.size, trivial, by rw [ha, hd]; exact S, As.addE ⟨hw, fun b => by simp [a7F, Md.mine], fun b => by simp [a7F, Md.mine], (1, 0), rfl, by
  have := i8 (kill A q 240) (.cells (b7 eK.f (a4j (all.take n) i v)) 240 (1, 0))
  rw [a3F] at this
  exact this⟩, ⟨by simp, fun b hb hno => ?_, fun b hb => .inr (by simp only [a7F] at hb; omega), fun b hb => hb.elim⟩⟩
 rw [E3 _ _ (by simpa using hb)]
 refine a4O fun e => hno ((j.own b).2 (.inl ((o1 b).2 ⟨rfl, e⟩)))
theorem b2t {q : Nat} {all : List Kv} {n : Nat} {z : Bool} {i : Nat} {v : Kv} {qv : Nat} (hi : i <= n) (hn : n <= all.length) (hz : z = true ↔ all.length = 0) (hl : all.length < 1000000) : Ctr Tryz.prog nO 216 [.o (.s 1 q 2 0 n all.length z), .o (.i (i : Int)), .o (.s 2 qv 2 0 1 1 false)] [vc eK 1 q all 240 .grown z, .blk 2 qv [.t v.1, .i v.2] 240 .own] ((Nat) × (List Kv)) (fun r => r.2.take (n + 1) = (a4j (all.take n) i v) /\ n + 1 <= r.2.length /\ r.2.length <= all.length + 1) (fun r => .o (.s 3 r.1 2 0 (n + 1) r.2.length false)) (fun r => [vc eK 3 r.1 r.2 240 .grown false]) := by
 by_cases h1 : i = n
 ·subst h1
  by_cases h2 : i = all.length
  ·subst h2
   have hlen : (all ++ [v]).length = all.length + 1 := by simp
   intro F A h
   obtain ⟨r, A', F', _, k1, k2, k3⟩ := b2w (nO := nO) (q := q) (z := z) (v := v) (qv := qv) (fun e => Nat.pos_of_ne_zero fun h0 => by rw [hz.2 h0] at e; cases e) hl F A h
   rw [hlen] at k1
   have hi2 : a4j (all.take all.length) all.length v = all ++ [v] := by simp [a4j]
   exact ⟨(r, all ++ [v]), A', F', ⟨by rw [hi2, <- hlen, take_length], by rw [hlen]; exact Nat.le_refl _, by rw [hlen]; exact Nat.le_refl _⟩, by dsimp only; rw [hlen]; exact k1, k2, k3⟩
  ·have hlt : i < all.length := by omega
   have hz0 : z = false := by
    cases z with
    | false => rfl
    | true => have := hz.1 rfl; omega
   subst hz0
   have hsl : (spl all i [v]).length = all.length := P2 (by simp only [length_cons, length_nil]; omega)
   intro F A h
   obtain ⟨r, A', F', _, k1, k2, k3⟩ := b2u (nO := nO) (q := q) (v := v) (qv := qv) hlt hl F A h
   have hil : (all.take i).length = i := by rw [length_take]; omega
   have hi2 : a4j (all.take i) i v = all.take i ++ [v] := by
    unfold a4j
    rw [take_take, Nat.min_self, drop_eq_nil_of_le (by omega), append_nil]
   exact ⟨(q, spl all i [v]), A', F', ⟨by
    rw [hi2]
    unfold spl
    rw [List.take_append_of_le_length (by simp; omega)]
    exact take_of_length_le (by simp; omega), by rw [hsl]; exact hlt, by rw [hsl]; omega⟩, by dsimp only; rw [hsl]; exact k1, k2, k3⟩
 ·have hlt : i < n := by omega
  have hz0 : z = false := by
   cases z with
   | false => rfl
   | true => have := hz.1 rfl; omega
  subst hz0
  have hil : (a4j (all.take n) i v).length = n + 1 := by rw [a6c, length_take]; omega
  intro F A h
  obtain ⟨r, A', F', _, k1, k2, k3⟩ := b2v (nO := nO) (q := q) (v := v) (qv := qv) hlt hn hl F A h
  exact ⟨(r, a4j (all.take n) i v), A', F', ⟨by rw [<- hil, take_length], by rw [hil]; exact Nat.le_refl _, by rw [hil]; omega⟩, by dsimp only; rw [hil]; exact k1, k2, k3⟩
end Go.Proofs.YtagidoadfajpgaaGreat
namespace Go.Proofs.YtagidoadfajpgaaGreat
set_option maxHeartbeats 4000000
open Go.Abs
variable {nO : Nat}
set_option maxRecDepth 8000
attribute [local irreducible] GP ruP nxP acS gst cdP loP j6 m9 m8 enP caA n5 lgP agN
theorem a3A {qm : Nat} {tm : TypeId} {q : Nat} {ps all : List Kv} {z : Bool} {k : ByteArray} {v : Int} (hp : all.take ps.length = ps) (hn : ps.length <= all.length) (hz : z = true ↔ all.length = 0) (hl : all.length < 1000000) (hs : KS ps) : Ctr Tryz.prog nO 178 [.o (.p 1 qm 0 0 0), .o (.t k), .o (.i v)] [.blk 1 qm [.v (.func (.func 214) #[] #[]), .s 2 q 2 0 ps.length all.length z] tm .own, vc eK 2 q all 240 .grown z] ((Nat) × (List Kv) × (Bool)) (fun r => r.2.1.take (a1q ps k v).length = (a1q ps k v) /\ (a1q ps k v).length <= r.2.1.length /\ (r.2.2 = true ↔ r.2.1.length = 0) /\ r.2.1.length <= all.length + 1) (fun r => .o (.cb (!(a0n ps k)))) (fun r => [.blk 1 qm [.v (.func (.func 214) #[] #[]), .s 3 r.1 2 0 ((a1q ps k v).length) r.2.1.length r.2.2] tm .own, vc eK 3 r.1 r.2.1 240 .grown r.2.2]) := by
 refine fs 100 fun B => g0 fun _ => g0 fun _ => cl (a0X (qm := qm) (tm := tm) (q := q) (ps := ps) (all := all) (z := z) (k := k) (by assumption) (by omega) (by assumption) (by omega) (by assumption)) [0, 1] [] 100 fun _ _ => g0 fun _ => g0 fun _ => cd (a0n ps k) (fun h1 => ?_) (fun h1 => ?_)
 ·obtain ⟨hp1, hk1⟩ := J3 h1
  have hA : (all.getD (r6 ps k) eK.d).1 = k := by rw [a6e hp hn hp1, hk1]
  have hP : a1q ps k v = ps.set (r6 ps k) (k, v) := by unfold a1q; rw [if_pos h1]
  refine go (fun _ => (o3 (nz (r6 ps k)) (by omega : ((r6 ps k : Nat) : Int) < (ps.length : Int)) (zf hz.1 (show 0 < all.length by omega) : z = false))) fun _ => vst eK all ((all.getD (r6 ps k) eK.d).1, v) (all.set (r6 ps k) ((all.getD (r6 ps k) eK.d).1, v)) 2 2 q (r6 ps k) 1 240 .grown z [.i v] [1] (by omega) (zf hz.1 (show 0 < all.length by omega)) rfl (Nat.le_of_ble_eq_true rfl) rfl <| g0 fun _ => gh (b6 (l := [.blk 1 qm [.v (.func (.func 214) #[] #[]), .s 2 q 2 0 ps.length all.length z] tm .own]) (l' := [.blk 1 qm [.v (.func (.func 214) #[] #[]), .s 2 q 2 0 ((a1q ps k v).length) ((all.set (r6 ps k) ((all.getD (r6 ps k) eK.d).1, v)).length) z] tm .own]) (by rw [hP, List.length_set, List.length_set])) [1] [] 100 fun _ _ => rtv trivial (⟨q, (all.set (r6 ps k) ((all.getD (r6 ps k) eK.d).1, v)), z⟩) ⟨by dsimp only; rw [hP, hA]; exact b1S hp, by dsimp only; rw [hP, List.length_set, List.length_set]; exact hn, by dsimp only; rw [List.length_set]; exact hz, by dsimp only; rw [List.length_set]; omega⟩ [0, 1] (.o (.v (.bool false))) (by simp [SV.den, C1.den, h1])
 ·have hP : a1q ps k v = a4j ps (r6 ps k) (k, v) := by unfold a1q; rw [if_neg (nb h1)]; rfl
  have hPl : (a1q ps k v).length = ps.length + 1 := by rw [hP, a6c]
  have hple := a8Z ps k
  refine g0 fun _ => cdF rfl <| g0 fun q109 => cl (b2t (q := q) (all := all) (n := ps.length) (z := z) (i := r6 ps k) (v := ((k, v) : Kv)) (qv := (q109 100)) (by omega) (by omega) (by assumption) (by omega)) [2, 0] [(1, 2), (2, 100), (3, 101)] 102 (fun ⟨q4, al4⟩ h110 => ?_)
  try dsimp only at h110
  obtain ⟨i1, i2, i3⟩ := h110
  refine g0 fun _ => g0 fun _ => gh (b6 (l := [.blk 1 qm [.v (.func (.func 214) #[] #[]), .s 101 q4 2 0 (ps.length + 1) al4.length false] tm .own]) (l' := [.blk 1 qm [.v (.func (.func 214) #[] #[]), .s 101 q4 2 0 ((a1q ps k v).length) al4.length false] tm .own]) (by rw [hPl])) [1] [] 102 fun _ _ => rtv trivial (⟨q4, al4, false⟩) ⟨by dsimp only; rw [hPl, i1, hp, hP], by dsimp only; rw [hPl]; exact i2, ⟨fun h => (by cases h), fun h => absurd h (by dsimp only; omega)⟩, i3⟩ [0, 1] (.o (.v (.bool true))) (by simp [SV.den, C1.den, h1])
theorem a9d {qm : Nat} {tm : TypeId} {q : Nat} {ps all : List Kv} {z : Bool} {k : ByteArray} (hp : all.take ps.length = ps) (hn : ps.length <= all.length) (hz : z = true ↔ all.length = 0) (hl : all.length < 1000000) (hs : KS ps) : Ctr Tryz.prog nO 179 [.o (.p 1 qm 0 0 0), .o (.t k)] [.blk 1 qm [.v (.func (.func 214) #[] #[]), .s 2 q 2 0 ps.length all.length z] tm .own, vc eK 2 q all 240 .grown z] ((List Kv)) (fun r => r.take (a06 ps k).length = (a06 ps k) /\ (a06 ps k).length <= r.length /\ r.length = all.length) (fun r => .o (.cb (a0n ps k))) (fun r => [.blk 1 qm [.v (.func (.func 214) #[] #[]), .s 2 q 2 0 ((a06 ps k).length) r.length z] tm .own, vc eK 2 q r 240 .grown z]) := by
 refine fs 100 fun B => g0 fun _ => g0 fun _ => cl (a0X (qm := qm) (tm := tm) (q := q) (ps := ps) (all := all) (z := z) (k := k) (by assumption) (by omega) (by assumption) (by omega) (by assumption)) [0, 1] [] 100 fun _ _ => g0 fun _ => g0 fun _ => cd (a0n ps k) (fun h1 => ?_) (fun h1 => ?_)
 ·have hp1 := (J3 h1).1
  have hz0 : z = false := zf hz.1 (show 0 < all.length by omega)
  have hD := b29 hp hn h1
  refine gh (b6 (l := [vc eK 2 q all 240 .grown z, .blk 1 qm [.v (.func (.func 214) #[] #[]), .s 2 q 2 0 ps.length all.length z] tm .own]) (l' := [vc eK 2 q all 240 .grown false, .blk 1 qm [.v (.func (.func 214) #[] #[]), .s 2 q 2 0 ps.length all.length false] tm .own]) (by rw [hz0])) [1, 0] [] 100 fun _ _ => go (fun _ => (o2 (by omega : -9223372036854775808 <= ((r6 ps k : Nat) : Int) + 1) (by omega : ((r6 ps k : Nat) : Int) + 1 < 9223372036854775808))) fun _ => cl (@b2y _ q all ps.length (r6 ps k) (by omega) (by omega) (by omega)) [0] [(1, 2)] 100 fun _ _ => g0 fun _ => g0 fun _ => gh (b6 (l := [vc eK 2 q (rmL all eK.d (r6 ps k) ps.length) 240 .grown false, .blk 1 qm [.v (.func (.func 214) #[] #[]), .s 2 q 2 0 (ps.length - 1) all.length false] tm .own]) (l' := [vc eK 2 q (rmL all eK.d (r6 ps k) ps.length) 240 .grown z, .blk 1 qm [.v (.func (.func 214) #[] #[]), .s 2 q 2 0 ((a06 ps k).length) ((rmL all eK.d (r6 ps k) ps.length).length) z] tm .own]) (by rw [hz0, hD.2, a4D hp1 hn])) [0, 1] [] 100 fun _ _ => rt trivial ((rmL all eK.d (r6 ps k) ps.length)) ⟨hD.1, by rw [hD.2, a4D hp1 hn]; omega, a4D hp1 hn⟩ [1, 0]
 ·have hD : a06 ps k = ps := by unfold a06; rw [if_neg (nb h1)]
  refine g0 fun _ => gh (b6 (l := [vc eK 2 q all 240 .grown z, .blk 1 qm [.v (.func (.func 214) #[] #[]), .s 2 q 2 0 ps.length all.length z] tm .own]) (l' := [vc eK 2 q all 240 .grown z, .blk 1 qm [.v (.func (.func 214) #[] #[]), .s 2 q 2 0 ((a06 ps k).length) all.length z] tm .own]) (by rw [hD])) [1, 0] [] 100 fun _ _ => rt trivial (all) ⟨by rw [hD]; exact hp, by rw [hD]; exact hn, rfl⟩ [1, 0]
end Go.Proofs.YtagidoadfajpgaaGreat
namespace Go.Proofs.YtagidoadfajpgaaGreat
set_option maxHeartbeats 4000000
open Go.Abs
variable {nO : Nat}
set_option maxRecDepth 8000
attribute [local irreducible] GP ruP nxP acS gst cdP loP j6 m9 m8 enP caA n5 lgP agN
def a3V (ps : List Kv) : Option (Nat × Nat × List Kv × Bool) -> List Ch
 | none => []
 | some (qm, q, all, z) => [.blk 2 qm [.v (.func (.func 214) #[] #[]), .s 3 q 2 0 ps.length all.length z] 243 .own, vc eK 3 q all 240 .grown z]
def a47 (x : Value) (ps : List Kv) (b : Nat) : Option (Nat × Nat × List Kv × Bool) -> Prop
 | none => x = .pointer none /\ ps = []
 | some (qm, _, all, z) => x = .pointer (some ⟨qm, 0, none⟩) /\ all.take ps.length = ps /\ ps.length <= all.length /\ (z = true ↔ all.length = 0) /\ all.length <= b /\ KS ps /\ ∀ y ∈ ps, 0 < y.2 /\ y.2 <= (b : Int)
def u7 (x : Value) (ps : List Kv) (b : Nat) : As := a7q (a47 x ps b) (a3V ps)
theorem a6H {q : Nat} {tb : TypeId} {c0 c1 c3 : C1}  : Ctr Tryz.prog nO 176 [.o (.p 1 q 0 0 2)] [.blk 1 q [c0, c1, .v (.pointer none), c3] tb .own] ((Nat)) (fun _ => True) (fun r => .o (.p 2 r 0 0 0)) (fun r => [.blk 1 q [c0, c1, .p 2 r 0 0 0, c3] tb .own, .blk 2 r [.v (.func (.func 214) #[] #[]), .s 3 0 2 0 (([] : List Kv).length) (([] : List Kv).length) true] 243 .own, vc eK 3 0 ([] : List Kv) 240 .grown true]) := by
 refine fs 100 fun B => g0 fun _ => g0 fun _ => cdF rfl <| g0 fun _ => cdT rfl <| g0 fun _ => cl (a9b ) [] [(1, 100), (2, 101)] 102 fun qm105 _ => g0 fun _ => g0 fun _ => rt trivial (qm105) trivial [2, 0, 1]
theorem a6G {q : Nat} {tb : TypeId} {c0 c1 c3 : C1} {qm : Nat}  : K1 nO 176 [.o (.p 1 q 0 0 2)] [.blk 1 q [c0, c1, .p 2 qm 0 0 0, c3] tb .own] (.o (.p 2 qm 0 0 0)) := by
 refine fs 100 fun B => g0 fun _ => g0 fun _ => cdF rfl <| g0 fun _ => cdF rfl <| g0 fun _ => rt trivial (()) trivial [0]
theorem a0y {q : Nat} {tb : TypeId} {c0 c1 c3 : C1} {x : Value} {ps : List Kv} {b : Nat}  : Ctr Tryz.prog nO 176 [.o (.p 1 q 0 0 2)] [.blk 1 q [c0, c1, .v x, c3] tb .own, .as (u7 x ps b)] ((Nat) × (Nat) × (List Kv) × (Bool)) (fun r => r.2.2.1.take ps.length = ps /\ ps.length <= r.2.2.1.length /\ (r.2.2.2 = true ↔ r.2.2.1.length = 0) /\ r.2.2.1.length <= b /\ KS ps /\ ∀ y ∈ ps, 0 < y.2 /\ y.2 <= (b : Int)) (fun r => .o (.p 902 r.1 0 0 0)) (fun r => [.blk 1 q [c0, c1, .p 902 r.1 0 0 0, c3] tb .own, .blk 902 r.1 [.v (.func (.func 214) #[] #[]), .s 903 r.2.1 2 0 ps.length r.2.2.1.length r.2.2.2] 243 .own, vc eK 903 r.2.1 r.2.2.1 240 .grown r.2.2.2]) := by
 refine a3X (a0U _ f9) (fun r hr => ?_)
 match r, hr with
 | none, ⟨h1, h2⟩ =>
  subst h1 h2
  exact J4 (a6H (q := q) (tb := tb) (c0 := c0) (c1 := c1) (c3 := c3)) (fun qm => (qm, 0, [], true)) (fun _ _ => ⟨⟨rfl, Nat.le_refl _, ⟨fun _ => rfl, fun _ => rfl⟩, Nat.zero_le _, List.Pairwise.nil, fun _ h => by cases h⟩, rfl, rfl⟩)
 | some (qm, qa, all, z), ⟨h1, h2⟩ =>
  subst h1
  exact J4 (L9 (a3V ps (some (qm, qa, all, z))) (a6G (q := q) (tb := tb) (c0 := c0) (c1 := c1) (c3 := c3) (qm := qm))) (fun _ => (qm, qa, all, z)) (fun _ _ => ⟨h2, rfl, rfl⟩)
theorem b3d {q : Nat} {tb : TypeId} {c0 c1 c3 : C1} {x : Value} {ps : List Kv} {b : Nat} {s : ByteArray} (hb : b < 100000) : Ctr Tryz.prog nO 171 [.o (.p 1 q 0 0 2), .o (.t s)] [.blk 1 q [c0, c1, .v x, c3] tb .own, .as (u7 x ps b)] ((Value)) (fun _ => True) (fun r => .o (.cb (!(a0n ps s)))) (fun r => [.blk 1 q [c0, c1, .v r, c3] tb .own, .as (u7 r (b6f ps s) (b + 1))]) := by
 refine fs 100 fun B => g0 fun _ => g0 fun _ => cl0 (a0y (q := q) (tb := tb) (c0 := (c0)) (c1 := (c1)) (c3 := (c3)) (x := x) (ps := ps) (b := b)) [0, 1] 100 (fun ⟨qm, qa, all, z⟩ h103 => ?_)
 try dsimp only at h103
 obtain ⟨w1, w2, w3, w4, w5, w6⟩ := h103
 have hg := a9Q w6 s
 refine g0 fun _ => g0 fun _ => cl (@a3B _ qm 243 qa ps all z s (by assumption) (by omega) (by assumption) (by omega) (by assumption)) [1, 2] [(1, 902), (2, 903)] 100 fun _ _ => g0 fun _ => go (fun _ => (o2 (by omega : -9223372036854775808 <= (a0T ps s) + 1) (by omega : (a0T ps s) + 1 < 9223372036854775808))) fun _ => cl (@a3A _ qm 243 qa ps all z s ((a0T ps s) + 1) (by assumption) (by omega) (by assumption) (by omega) (by assumption)) [0, 1] [(1, 902), (2, 903), (3, 100)] 101 (fun ⟨q3, al3, z3⟩ h109 => ?_)
 try dsimp only at h109
 obtain ⟨p1, p2, p3, p4⟩ := h109
 refine g0 fun _ => gh (d5 (φ := a47 (.pointer (some ⟨qm, 0, none⟩)) (b6f ps s) (b + 1)) (L := a3V (b6f ps s)) (some (qm, q3, al3, z3)) ⟨rfl, p1, p2, p3, by omega, a2g w5, a5S w6 (by omega) (by omega)⟩) [0, 1] [] 101 fun _ _ => rt trivial ((.pointer (some ⟨qm, 0, none⟩))) trivial [1, 0]
theorem b0e {q : Nat} {tb : TypeId} {c0 c1 c3 : C1} {x : Value} {ps : List Kv} {b : Nat} {s : ByteArray} (hb : b < 100000) : Ctr Tryz.prog nO 154 [.o (.p 1 q 0 0 2), .o (.t s)] [.blk 1 q [c0, c1, .v x, c3] tb .own, .as (u7 x ps b)] ((Value)) (fun _ => True) (fun r => .o (.cb (a0n ps s))) (fun r => [.blk 1 q [c0, c1, .v r, c3] tb .own, .as (u7 r (H8 ps s) (b + 1))]) := by
 refine fs 100 fun B => g0 fun _ => g0 fun _ => cl0 (a0y (q := q) (tb := tb) (c0 := (c0)) (c1 := (c1)) (c3 := (c3)) (x := x) (ps := ps) (b := b)) [0, 1] 100 (fun ⟨qm, qa, all, z⟩ h103 => ?_)
 try dsimp only at h103
 obtain ⟨w1, w2, w3, w4, w5, w6⟩ := h103
 have hg := a9Q w6 s
 refine g0 fun _ => g0 fun _ => cl (@a3B _ qm 243 qa ps all z s (by assumption) (by omega) (by assumption) (by omega) (by assumption)) [1, 2] [(1, 902), (2, 903)] 100 fun _ _ => g0 fun _ => g0 fun _ => cdD (a0T ps s > 1) (fun h1 => ?_) (fun h1 => ?_)
 ·have hT : H8 ps s = a1q ps s (a0T ps s - 1) := by unfold H8; rw [if_pos h1]
  refine go (fun _ => (o2 (by omega : -9223372036854775808 <= (a0T ps s) - 1) (by omega : (a0T ps s) - 1 < 9223372036854775808))) fun _ => cl (@a3A _ qm 243 qa ps all z s ((a0T ps s) - 1) (by assumption) (by omega) (by assumption) (by omega) (by assumption)) [0, 1] [(1, 902), (2, 903), (3, 100)] 101 (fun ⟨q3, al3, z3⟩ h110 => ?_)
  try dsimp only at h110
  obtain ⟨p1, p2, p3, p4⟩ := h110
  refine g0 fun _ => gh (b6 (l := [.blk 902 qm [.v (.func (.func 214) #[] #[]), .s 100 q3 2 0 ((a1q ps s ((a0T ps s) - 1)).length) al3.length z3] 243 .own]) (l' := [.blk 902 qm [.v (.func (.func 214) #[] #[]), .s 100 q3 2 0 ((H8 ps s).length) al3.length z3] 243 .own]) (by rw [hT])) [0] [] 101 fun _ _ => gh (d5 (φ := a47 (.pointer (some ⟨qm, 0, none⟩)) (H8 ps s) (b + 1)) (L := a3V (H8 ps s)) (some (qm, q3, al3, z3)) ⟨rfl, by rw [hT]; exact p1, by rw [hT]; exact p2, p3, by omega, by rw [hT]; exact a2g w5, by rw [hT]; exact a5S w6 (by omega) (by omega)⟩) [0, 1] [] 101 fun _ _ => rt trivial ((.pointer (some ⟨qm, 0, none⟩))) trivial [1, 0]
 ·refine g0 fun _ => cd (a0n ps s) (fun h2 => ?_) (fun h2 => ?_)
  ·have hT : H8 ps s = a06 ps s := by unfold H8; rw [if_neg h1, if_pos h2]
   refine g0 fun _ => cl (@a9d _ qm 243 qa ps all z s (by assumption) (by omega) (by assumption) (by omega) (by assumption)) [0, 1] [(1, 902), (2, 903)] 100 (fun al3 h114 => ?_)
   try dsimp only at h114
   obtain ⟨p1, p2, p3⟩ := h114
   refine g0 fun _ => gh (b6 (l := [.blk 902 qm [.v (.func (.func 214) #[] #[]), .s 903 qa 2 0 ((a06 ps s).length) al3.length z] 243 .own]) (l' := [.blk 902 qm [.v (.func (.func 214) #[] #[]), .s 903 qa 2 0 ((H8 ps s).length) al3.length z] 243 .own]) (by rw [hT])) [0] [] 100 fun _ _ => gh (d5 (φ := a47 (.pointer (some ⟨qm, 0, none⟩)) (H8 ps s) (b + 1)) (L := a3V (H8 ps s)) (some (qm, qa, al3, z)) ⟨rfl, by rw [hT]; exact p1, by rw [hT]; exact p2, by rw [p3]; exact w3, by omega, by rw [hT]; exact b0m w5, by rw [hT]; exact b3b w6⟩) [0, 1] [] 100 fun _ _ => rt trivial ((.pointer (some ⟨qm, 0, none⟩))) trivial [1, 0]
  ·have hT : H8 ps s = ps := by unfold H8; rw [if_neg h1, if_neg (nb h2)]
   refine g0 fun _ => gh (b6 (l := [.blk 902 qm [.v (.func (.func 214) #[] #[]), .s 903 qa 2 0 ps.length all.length z] 243 .own]) (l' := [.blk 902 qm [.v (.func (.func 214) #[] #[]), .s 903 qa 2 0 ((H8 ps s).length) all.length z] 243 .own]) (by rw [hT])) [0] [] 100 fun _ _ => gh (d5 (φ := a47 (.pointer (some ⟨qm, 0, none⟩)) (H8 ps s) (b + 1)) (L := a3V (H8 ps s)) (some (qm, qa, all, z)) ⟨rfl, by rw [hT]; exact w1, by rw [hT]; exact w2, w3, by omega, by rw [hT]; exact w5, by rw [hT]; exact fun y hy => ⟨(w6 y hy).1, by have := (w6 y hy).2; omega⟩⟩) [0, 1] [] 100 fun _ _ => rt trivial ((.pointer (some ⟨qm, 0, none⟩))) trivial [1, 0]
theorem b27 {q : Nat} {tb : TypeId} {c0 c1 c3 : C1} {x : Value} {ps : List Kv} {b : Nat} (hb : b < 100000) : Ctr Tryz.prog nO 193 [.o (.p 1 q 0 0 2)] [.blk 1 q [c0, c1, .v x, c3] tb .own, .as (u7 x ps b)] ((Value)) (fun _ => True) (fun r => .o (.i (ps.length : Int))) (fun r => [.blk 1 q [c0, c1, .v r, c3] tb .own, .as (u7 r ps b)]) := by
 refine fs 100 fun B => g0 fun _ => g0 fun _ => cl0 (a0y (q := q) (tb := tb) (c0 := (c0)) (c1 := (c1)) (c3 := (c3)) (x := x) (ps := ps) (b := b)) [0, 1] 100 (fun ⟨qm, qa, all, z⟩ h103 => ?_)
 try dsimp only at h103
 obtain ⟨w1, w2, w3, w4, w5, w6⟩ := h103
 refine cl (@a9c _ qm 243 qa ps all z) [1, 2] [(1, 902), (2, 903)] 100 fun _ _ => g0 fun _ => gh (d5 (φ := a47 (.pointer (some ⟨qm, 0, none⟩)) ps b) (L := a3V ps) (some (qm, qa, all, z)) ⟨rfl, w1, w2, w3, w4, w5, w6⟩) [0, 1] [] 100 fun _ _ => rt trivial ((.pointer (some ⟨qm, 0, none⟩))) trivial [1, 0]
end Go.Proofs.YtagidoadfajpgaaGreat
namespace Go.Proofs.YtagidoadfajpgaaGreat
set_option maxHeartbeats 4000000
open Go.Abs
variable {nO : Nat}
set_option maxRecDepth 8000
attribute [local irreducible] GP ruP nxP acS gst cdP loP j6 m9 m8 enP caA n5 lgP agN
theorem a2O {x : Value} {ws : List Kv} {b b' : Nat} (h : b <= b') : GE [.as (u7 x ws b)] Unit (fun _ => True) (fun _ => [.as (u7 x ws b')]) := fun F A hF => by
 obtain ⟨r, hr, h2⟩ := As.unE hF
 refine ⟨(), F, trivial, As.addE ⟨r, ?_, h2⟩, .refl⟩
 match r, hr with
 | none, hr => exact hr
 | some (qm, q, all, z), ⟨h1, h2, h3, h4, h5, h6, h7⟩ => exact ⟨h1, h2, h3, h4, by omega, h6, fun y hy => ⟨(h7 y hy).1, by have := (h7 y hy).2; omega⟩⟩
theorem a6n {q ql : Nat} {kind : Int} {l : List Va} {x : Value} {nulls : Int} {v : Va} (hs : v.s.size < 1000000000) : K1 nO 141 [.o (.p 1 q 0 0 0), .a [.i v.k, .i v.n, .t v.s]] [.blk 1 q [.i kind, .s 2 ql 3 0 l.length l.length l.isEmpty, .v x, .i nulls] 186 .own] (.o (.cb (b0D kind v))) := by
 refine fs 100 fun B => g0 fun q101 => g0 fun _ => clm (@a9q _ v (by assumption)) [] trivial <| g0 fun _ => rt trivial (()) trivial [1]
theorem N9 {q ql : Nat} {kind : Int} {l : List Va} {x : Value} {nulls : Int} {ws : List Kv} {b : Nat} {v : Va} (hnu : -100000 < nulls /\ nulls < 100000) (hb : b < 90000) : Ctr Tryz.prog nO 142 [.o (.p 1 q 0 0 0), .a [.i v.k, .i v.n, .t v.s]] [.blk 1 q [.i kind, .s 2 ql 3 0 l.length l.length l.isEmpty, .v x, .i nulls] 186 .own, .as (u7 x ws b)] ((Value)) (fun _ => True) (fun r => .o (.v undef)) (fun r => [.blk 1 q [.i kind, .s 2 ql 3 0 l.length l.length l.isEmpty, .v r, .i (cN nulls v)] 186 .own, .as (u7 r (cW ws v) (b + 1))]) := by
 refine fs 100 fun B => g0 fun q101 => g0 fun _ => g0 fun _ => cdE v.k 0 (fun h1 => ?_) (fun h1 => ?_)
 ·refine go (fun _ => (o2 (by omega : -9223372036854775808 <= nulls + 1) (by omega : nulls + 1 < 9223372036854775808))) fun _ => gh (b6 (l := [.blk 1 q [.i kind, .s 2 ql 3 0 l.length l.length l.isEmpty, .v x, .i (nulls + 1)] 186 .own]) (l' := [.blk 1 q [.i kind, .s 2 ql 3 0 l.length l.length l.isEmpty, .v x, .i (cN nulls v)] 186 .own]) (by unfold cN; rw [if_pos h1])) [1] [] 101 fun _ _ => gh (a2O (x := x) (ws := ws) (b := b) (b' := b + 1) (by omega)) [2] [] 101 fun _ _ => gh (b6 (l := [.as (u7 x ws (b + 1))]) (l' := [.as (u7 x (cW ws v) (b + 1))]) (by unfold cW; rw [if_pos h1])) [0] [] 101 fun _ _ => rt trivial (x) trivial [1, 0]
 ·refine g0 fun _ => cdE v.k 2 (fun h2 => ?_) (fun h2 => ?_)
  ·refine g0 fun _ => cl (@b3d _ q 186 (.i kind) (.s 2 ql 3 0 l.length l.length l.isEmpty) (.i nulls) x ws b v.s (by omega)) [1, 2] [] 101 fun x2107 _ => gh (b6 (l := [.blk 1 q [.i kind, .s 2 ql 3 0 l.length l.length l.isEmpty, .v x2107, .i nulls] 186 .own]) (l' := [.blk 1 q [.i kind, .s 2 ql 3 0 l.length l.length l.isEmpty, .v x2107, .i (cN nulls v)] 186 .own]) (by unfold cN; rw [if_neg h1])) [0] [] 101 fun _ _ => gh (b6 (l := [.as (u7 x2107 (b6f ws v.s) (b + 1))]) (l' := [.as (u7 x2107 (cW ws v) (b + 1))]) (by unfold cW; rw [if_neg h1, if_pos h2])) [1] [] 101 fun _ _ => rt trivial (x2107) trivial [1, 0]
  ·refine gh (b6 (l := [.blk 1 q [.i kind, .s 2 ql 3 0 l.length l.length l.isEmpty, .v x, .i nulls] 186 .own]) (l' := [.blk 1 q [.i kind, .s 2 ql 3 0 l.length l.length l.isEmpty, .v x, .i (cN nulls v)] 186 .own]) (by unfold cN; rw [if_neg h1])) [1] [] 101 fun _ _ => gh (a2O (x := x) (ws := ws) (b := b) (b' := b + 1) (by omega)) [2] [] 101 fun _ _ => gh (b6 (l := [.as (u7 x ws (b + 1))]) (l' := [.as (u7 x (cW ws v) (b + 1))]) (by unfold cW; rw [if_neg h1, if_neg h2])) [0] [] 101 fun _ _ => rt trivial (x) trivial [1, 0]
theorem a6s {q ql : Nat} {kind : Int} {l : List Va} {x : Value} {nulls : Int} {ws : List Kv} {b : Nat} {v : Va} (hm : b0D kind v = true) (hs : v.s.size < 1000000000) (hl : l.length < 100000) (hnu : -100000 < nulls /\ nulls < 100000) (hb : b < 90000) : Ctr Tryz.prog nO 106 [.o (.p 1 q 0 0 0), .a [.i v.k, .i v.n, .t v.s]] [.blk 1 q [.i kind, .s 2 ql 3 0 l.length l.length l.isEmpty, .v x, .i nulls] 186 .own, vc eV 2 ql l 26 .grown l.isEmpty, .as (u7 x ws b)] ((Nat) × (Value)) (fun _ => True) (fun r => .o (.v (.bool true))) (fun r => [.blk 1 q [.i kind, .s 2 r.1 3 0 ((l ++ [v]).length) ((l ++ [v]).length) ((l ++ [v]).isEmpty), .v r.2, .i (cN nulls v)] 186 .own, vc eV 2 r.1 (l ++ [v]) 26 .grown ((l ++ [v]).isEmpty), .as (u7 r.2 (cW ws v) (b + 1))]) := by
 refine fs 100 fun B => g0 fun q101 => g0 fun _ => cl (@a6n _ q ql kind l x nulls v (by assumption)) [1] [] 101 fun _ _ => g0 fun _ => cdF (b := !(b0D kind v)) (by rw [hm]; rfl) <| g0 fun q105 => apd eV l [v] (l ++ [v]) 2 ql .grown l.isEmpty false (.blk 101 (q105 101) [.i v.k, .i v.n, .t v.s] 26 .own) (q105 101) 0 1 1 false 102 [3, 0] 103 26 (fun h _ => K4 h) (by simp only [List.length_cons, List.length_nil]; omega) (o8 rfl) (by simp) rfl fun q106 => g0 fun _ => gh (b6 (l := [.blk 1 q [.i kind, .s 102 q106 3 0 ((l ++ [v]).length) ((l ++ [v]).length) false, .v x, .i nulls] 186 .own, vc eV 102 q106 (l ++ [v]) 26 .grown false]) (l' := [.blk 1 q [.i kind, .s 102 q106 3 0 ((l ++ [v]).length) ((l ++ [v]).length) ((l ++ [v]).isEmpty), .v x, .i nulls] 186 .own, vc eV 102 q106 (l ++ [v]) 26 .grown ((l ++ [v]).isEmpty)]) (by rw [a2x])) [2, 0] [] 103 fun _ _ => g0 fun _ => cl (@N9 _ q q106 kind (l ++ [v]) x nulls ws b v (by omega) (by omega)) [0, 4] [(2, 102)] 103 fun x2109 _ => g0 fun _ => rt trivial (⟨q106, x2109⟩) trivial [0, 2, 1]
theorem a6l {q ql : Nat} {kind : Int} {l : List Va} {x : Value} {nulls : Int} {ws : List Kv} {b i : Nat} {v : Va} (hm : b0D kind v = true) (hi : i < l.length) (hs : v.s.size < 1000000000) (hl : l.length < 100000) (hnu : -99999 < nulls /\ nulls < 99999) (hb : b < 80000) : Ctr Tryz.prog nO 112 [.o (.p 1 q 0 0 0), .o (.i (i : Int)), .a [.i v.k, .i v.n, .t v.s]] [.blk 1 q [.i kind, .s 2 ql 3 0 l.length l.length l.isEmpty, .v x, .i nulls] 186 .own, vc eV 2 ql l 26 .grown l.isEmpty, .as (u7 x ws b)] ((Value)) (fun _ => True) (fun r => .o (.v (.bool true))) (fun r => [.blk 1 q [.i kind, .s 2 ql 3 0 ((l.set i v).length) ((l.set i v).length) ((l.set i v).isEmpty), .v r, .i (cN (uN nulls (l.getD i eV.d)) v)] 186 .own, vc eV 2 ql (l.set i v) 26 .grown ((l.set i v).isEmpty), .as (u7 r (cW (uW ws (l.getD i eV.d)) v) (b + 2))]) := by
 refine fs 100 (fun B => ?_)
 have hun := b8Z nulls (l.getD i eV.d)
 refine g0 fun q101 => g0 fun _ => cl (@a6n _ q ql kind l x nulls v (by assumption)) [1] [] 101 fun _ _ => g0 fun _ => cdF (b := or (or (!(b0D kind v)) (decide ((i : Int) < 0))) (decide ((i : Int) ≥ (l.length : Int)))) (by rw [hm, decide_eq_false (show ¬ (i : Int) < 0 by omega), decide_eq_false (show ¬ (i : Int) ≥ (l.length : Int) by omega)]; rfl) <| go (fun q105 => (o4 (nz i) (by omega : (i : Int) < (l.length : Int)) (zfe (show 0 < l.length by omega) : l.isEmpty = false) (by omega : i < l.length))) fun q105 => g0 fun _ => g0 fun _ => cdE ((l.getD i eV.d).k) 0 (fun h2 => ?_) (fun h2 => ?_)
 ·refine go (fun _ => (o2 (by omega : -9223372036854775808 <= nulls - 1) (by omega : nulls - 1 < 9223372036854775808))) fun _ => gh (b6 (l := [.blk 1 q [.i kind, .s 2 ql 3 0 l.length l.length l.isEmpty, .v x, .i (nulls - 1)] 186 .own]) (l' := [.blk 1 q [.i kind, .s 2 ql 3 0 l.length l.length l.isEmpty, .v x, .i (uN nulls (l.getD i eV.d))] 186 .own]) (by unfold uN; rw [if_pos h2])) [1] [] 102 fun _ _ => gh (a2O (x := x) (ws := ws) (b := b) (b' := b + 1) (by omega)) [4] [] 102 fun _ _ => gh (b6 (l := [.as (u7 x ws (b + 1))]) (l' := [.as (u7 x (uW ws (l.getD i eV.d)) (b + 1))]) (by unfold uW; rw [if_pos h2])) [0] [] 102 fun _ _ => go (fun _ => (o3 (nz i) (by omega : (i : Int) < (l.length : Int)) (zfe (show 0 < l.length by omega) : l.isEmpty = false))) fun _ => vst eV l v (l.set i v) 2 2 ql i 0 26 .grown l.isEmpty [.i v.k, .i v.n, .t v.s] [4] (by omega) (zfe (show 0 < l.length by omega)) rfl (Nat.le_of_ble_eq_true rfl) rfl <| gh (b6 (l := [.blk 1 q [.i kind, .s 2 ql 3 0 l.length l.length l.isEmpty, .v x, .i (uN nulls (l.getD i eV.d))] 186 .own, vc eV 2 ql (l.set i v) 26 .grown l.isEmpty]) (l' := [.blk 1 q [.i kind, .s 2 ql 3 0 ((l.set i v).length) ((l.set i v).length) ((l.set i v).isEmpty), .v x, .i (uN nulls (l.getD i eV.d))] 186 .own, vc eV 2 ql (l.set i v) 26 .grown ((l.set i v).isEmpty)]) (by simp only [List.length_set, a2y])) [2, 0] [] 102 fun _ _ => g0 fun _ => cl (@N9 _ q ql kind (l.set i v) x (uN nulls (l.getD i eV.d)) (uW ws (l.getD i eV.d)) (b + 1) v (by omega) (by omega)) [0, 2] [] 102 fun x2111 _ => g0 fun _ => rt trivial (x2111) trivial [0, 2, 1]
 ·refine g0 fun _ => cdE ((l.getD i eV.d).k) 2 (fun h3 => ?_) (fun h3 => ?_)
  ·refine g0 fun _ => cl (@b0e _ q 186 (.i kind) (.s 2 ql 3 0 l.length l.length l.isEmpty) (.i nulls) x ws b ((l.getD i eV.d).s) (by omega)) [1, 4] [] 102 fun x2115 _ => gh (b6 (l := [.blk 1 q [.i kind, .s 2 ql 3 0 l.length l.length l.isEmpty, .v x2115, .i nulls] 186 .own]) (l' := [.blk 1 q [.i kind, .s 2 ql 3 0 l.length l.length l.isEmpty, .v x2115, .i (uN nulls (l.getD i eV.d))] 186 .own]) (by unfold uN; rw [if_neg h2])) [0] [] 102 fun _ _ => gh (b6 (l := [.as (u7 x2115 (H8 ws ((l.getD i eV.d).s)) (b + 1))]) (l' := [.as (u7 x2115 (uW ws (l.getD i eV.d)) (b + 1))]) (by unfold uW; rw [if_neg h2, if_pos h3])) [1] [] 102 fun _ _ => go (fun _ => (o3 (nz i) (by omega : (i : Int) < (l.length : Int)) (zfe (show 0 < l.length by omega) : l.isEmpty = false))) fun _ => vst eV l v (l.set i v) 2 2 ql i 0 26 .grown l.isEmpty [.i v.k, .i v.n, .t v.s] [4] (by omega) (zfe (show 0 < l.length by omega)) rfl (Nat.le_of_ble_eq_true rfl) rfl <| gh (b6 (l := [.blk 1 q [.i kind, .s 2 ql 3 0 l.length l.length l.isEmpty, .v x2115, .i (uN nulls (l.getD i eV.d))] 186 .own, vc eV 2 ql (l.set i v) 26 .grown l.isEmpty]) (l' := [.blk 1 q [.i kind, .s 2 ql 3 0 ((l.set i v).length) ((l.set i v).length) ((l.set i v).isEmpty), .v x2115, .i (uN nulls (l.getD i eV.d))] 186 .own, vc eV 2 ql (l.set i v) 26 .grown ((l.set i v).isEmpty)]) (by simp only [List.length_set, a2y])) [2, 0] [] 102 fun _ _ => g0 fun _ => cl (@N9 _ q ql kind (l.set i v) x2115 (uN nulls (l.getD i eV.d)) (uW ws (l.getD i eV.d)) (b + 1) v (by omega) (by omega)) [0, 2] [] 102 fun x2118 _ => g0 fun _ => rt trivial (x2118) trivial [0, 2, 1]
  ·refine gh (b6 (l := [.blk 1 q [.i kind, .s 2 ql 3 0 l.length l.length l.isEmpty, .v x, .i nulls] 186 .own]) (l' := [.blk 1 q [.i kind, .s 2 ql 3 0 l.length l.length l.isEmpty, .v x, .i (uN nulls (l.getD i eV.d))] 186 .own]) (by unfold uN; rw [if_neg h2])) [1] [] 102 fun _ _ => gh (a2O (x := x) (ws := ws) (b := b) (b' := b + 1) (by omega)) [4] [] 102 fun _ _ => gh (b6 (l := [.as (u7 x ws (b + 1))]) (l' := [.as (u7 x (uW ws (l.getD i eV.d)) (b + 1))]) (by unfold uW; rw [if_neg h2, if_neg h3])) [0] [] 102 fun _ _ => go (fun _ => (o3 (nz i) (by omega : (i : Int) < (l.length : Int)) (zfe (show 0 < l.length by omega) : l.isEmpty = false))) fun _ => vst eV l v (l.set i v) 2 2 ql i 0 26 .grown l.isEmpty [.i v.k, .i v.n, .t v.s] [4] (by omega) (zfe (show 0 < l.length by omega)) rfl (Nat.le_of_ble_eq_true rfl) rfl <| gh (b6 (l := [.blk 1 q [.i kind, .s 2 ql 3 0 l.length l.length l.isEmpty, .v x, .i (uN nulls (l.getD i eV.d))] 186 .own, vc eV 2 ql (l.set i v) 26 .grown l.isEmpty]) (l' := [.blk 1 q [.i kind, .s 2 ql 3 0 ((l.set i v).length) ((l.set i v).length) ((l.set i v).isEmpty), .v x, .i (uN nulls (l.getD i eV.d))] 186 .own, vc eV 2 ql (l.set i v) 26 .grown ((l.set i v).isEmpty)]) (by simp only [List.length_set, a2y])) [2, 0] [] 102 fun _ _ => g0 fun _ => cl (@N9 _ q ql kind (l.set i v) x (uN nulls (l.getD i eV.d)) (uW ws (l.getD i eV.d)) (b + 1) v (by omega) (by omega)) [0, 2] [] 102 fun x2122 _ => g0 fun _ => rt trivial (x2122) trivial [0, 2, 1]
theorem a6o {q ql : Nat} {kind : Int} {l : List Va} {x : Value} {nulls : Int}  : K1 nO 122 [.o (.p 1 q 0 0 0)] [.blk 1 q [.i kind, .s 2 ql 3 0 l.length l.length l.isEmpty, .v x, .i nulls] 186 .own] (.o (.i (l.length : Int))) := by
 refine fs 100 fun B => g0 fun _ => g0 fun _ => cdF rfl <| g0 fun _ => rt trivial (()) trivial [0]
theorem a5d {q ql : Nat} {kind : Int} {l : List Va} {x : Value} {nulls : Int} {i : Nat} (hi : i < l.length) (hl : l.length < 100000) : K1 nO 123 [.o (.p 1 q 0 0 0), .o (.i (i : Int))] [.blk 1 q [.i kind, .s 2 ql 3 0 l.length l.length l.isEmpty, .v x, .i nulls] 186 .own, vc eV 2 ql l 26 .grown l.isEmpty] (.t [(true, [.i ((l.getD i eV.d).k), .i ((l.getD i eV.d).n), .t ((l.getD i eV.d).s)]), (false, [.v (.bool true)])]) := by
 refine fs 100 fun B => g0 fun q101 => g0 fun _ => clm (@a6o _ q ql kind l x nulls) [1] trivial <| g0 fun _ => cdF (b := or (decide ((i : Int) < 0)) (decide ((i : Int) ≥ (l.length : Int)))) (by rw [decide_eq_false (show ¬ (i : Int) < 0 by omega), decide_eq_false (show ¬ (i : Int) ≥ (l.length : Int) by omega)]; rfl) <| go (fun _ => (o4 (nz i) (by omega : (i : Int) < (l.length : Int)) (zfe (show 0 < l.length by omega) : l.isEmpty = false) (by omega : i < l.length))) fun _ => rt trivial (()) trivial [0, 2]
theorem a7i {q ql : Nat} {kind : Int} {l : List Va} {x : Value} {nulls : Int} {ws : List Kv} {b : Nat} (hb : b < 90000) : Ctr Tryz.prog nO 169 [.o (.p 1 q 0 0 0)] [.blk 1 q [.i kind, .s 2 ql 3 0 l.length l.length l.isEmpty, .v x, .i nulls] 186 .own, .as (u7 x ws b)] ((Value)) (fun _ => True) (fun r => .o (.i (ws.length : Int))) (fun r => [.blk 1 q [.i kind, .s 2 ql 3 0 l.length l.length l.isEmpty, .v r, .i nulls] 186 .own, .as (u7 r ws b)]) := by
 refine fs 100 fun B => g0 fun _ => g0 fun _ => cdF rfl <| g0 fun _ => cl (@b27 _ q 186 (.i kind) (.s 2 ql 3 0 l.length l.length l.isEmpty) (.i nulls) x ws b (by omega)) [0, 1] [] 100 fun x2104 _ => g0 fun _ => rt trivial (x2104) trivial [0, 1]
theorem b3m {kind : Int} (hk : kind = 1 ∨ kind = 2) : Ctr Tryz.prog nO 135 [.o (.i kind)] [] ((Nat)) (fun _ => True) (fun r => .o (.p 1 r 0 0 0)) (fun r => [.blk 1 r [.i kind, .s 2 0 3 0 (([] : List Va).length) (([] : List Va).length) (([] : List Va).isEmpty), .v (.pointer none), .i 0] 186 .own, vc eV 2 0 ([] : List Va) 26 .grown (([] : List Va).isEmpty), .as (u7 (.pointer none) [] 0)]) := by
 refine fs 100 fun B => g0 fun _ => g0 fun _ => cdF (b := and (kind != 1) (kind != 2)) (by rcases hk with rfl | rfl <;> rfl) <| g0 fun q103 => gh (e7 101 3 eV.f eV.d 26 .grown) [] [] 102 fun _ _ => gh (d5 (φ := a47 (.pointer none) [] 0) (L := a3V []) none ⟨rfl, rfl⟩) [] [] 102 fun _ _ => rt trivial ((q103 100)) trivial [2, 1, 0]
end Go.Proofs.YtagidoadfajpgaaGreat
namespace Go.Proofs.YtagidoadfajpgaaGreat
open Go.Abs
variable {nO : Nat}
set_option maxRecDepth 8000
attribute [local irreducible] GP ruP nxP acS gst cdP loP j6 m9 m8 enP caA n5 lgP agN
end Go.Proofs.YtagidoadfajpgaaGreat
namespace Go.Proofs.YtagidoadfajpgaaGreat
set_option maxHeartbeats 4000000
open Go.Abs
variable {nO : Nat}
set_option maxRecDepth 8000
attribute [local irreducible] GP ruP nxP acS gst cdP loP j6 m9 m8 enP caA n5 lgP agN
theorem a3Q {na ka : ByteArray} {qa ca : Nat} {za : Bool} {xa : List Cd} {ta : TypeId} {ma : Md} {qA cA : Nat} {zA : Bool} {da : List De} (hza : za = true -> xa.length = 0) (hla : xa.length < 1000000) : Ctr Tryz.prog nO 94 [.a [.t na, .s 1 qa 4 0 xa.length ca za, .t ka, .s 3 qA 2 0 da.length cA zA]] [vc eC 1 qa xa ta ma za] ((Nat)) (fun _ => True) (fun r => .a [.t na, .s 5 r 4 0 ((xa.map (b5 ka)).length) ((xa.map (b5 ka)).length) ((xa.map (b5 ka)).isEmpty), .t ka, .s 3 qA 2 0 da.length cA zA]) (fun r => [vc eC 5 r (xa.map (b5 ka)) 130 .grown ((xa.map (b5 ka)).isEmpty), vc eC 1 qa xa ta ma za]) := by
 refine fs 100 fun B => g0 fun q101 => g0 fun _ => gh (e7 102 4 eC.f eC.d 130 .grown) [] [] 103 fun _ _ => apd eC [] xa xa 102 0 .grown true xa.isEmpty (vc eC 1 qa xa ta ma za) qa 0 xa.length ca za 103 [0, 3] 104 130 (fun h => by cases h) (by simp only [List.length_cons, List.length_nil]; omega) L0 (by simp) rfl fun q103 => g0 fun _ => g0 fun _ => gh (b6 (l := [vc eC 103 q103 xa 130 .grown xa.isEmpty]) (l' := [vc eC 103 q103 (I9 ka xa 0) 130 .grown xa.isEmpty]) rfl) [0] [] 104 fun _ _ => lp ((Nat)) [1, 2] (fun r => [(3, .o (.i (r : Int)))]) [1, 2, 3] (fun r => [vc eC 103 q103 (I9 ka xa r) 130 .grown xa.isEmpty]) 124 (fun r => r <= xa.length) (fun r => xa.length - r) (0) (Nat.zero_le _) [0] (fun i hx ag106 => ?_)
 have hml := a9n ka xa i
 refine g0 fun _ => cdD ((i : Int) < (xa.length : Int)) (fun h1 => ?_) (fun h1 => ?_)
 ·refine go (fun _ => (o4 (nz i) (by omega : (i : Int) < (xa.length : Int)) (zfe (show 0 < xa.length by omega) : xa.isEmpty = false) (by omega : i < (I9 ka xa i).length))) fun _ => cd (a7 (((I9 ka xa i).getD i eC.d).name) ka) (fun h2 => ?_) (fun h2 => ?_)
  ·refine go (fun _ => (o3 (nz i) (by omega : (i : Int) < (xa.length : Int)) (zfe (show 0 < xa.length by omega) : xa.isEmpty = false))) fun _ => vst eC (I9 ka xa i) ({ (I9 ka xa i).getD i eC.d with must := true }) (I9 ka xa (i + 1)) 103 103 q103 i 2 130 .grown xa.isEmpty [.v (.bool true)] [0] (by omega) (zfe (show 0 < xa.length by omega)) (by rw [<- a1M (by omega)]; unfold b5; rw [if_pos (by rw [<- a0l (key := ka) (by omega)]; exact h2), a0l (by omega)]) (Nat.le_of_ble_eq_true rfl) rfl <| go (fun _ => (o2 (by omega : -9223372036854775808 <= (i : Int) + 1) (by omega : (i : Int) + 1 < 9223372036854775808))) fun _ => ag106 _ _ (i + 1) (by first | omega | (simp only; omega)) (by omega) [0, 1, 2, 3] (by kernel_rfl) (by kernel_rfl)
  ·refine go (fun _ => (o2 (by omega : -9223372036854775808 <= (i : Int) + 1) (by omega : (i : Int) + 1 < 9223372036854775808))) fun _ => gh (b6 (l := [vc eC 103 q103 (I9 ka xa i) 130 .grown xa.isEmpty]) (l' := [vc eC 103 q103 (I9 ka xa (i + 1)) 130 .grown xa.isEmpty]) (by rw [<- a1M (by omega)]; unfold b5; rw [if_neg (by rw [<- a0l (key := ka) (by omega)]; exact nb h2), <- a0l (key := ka) (l := xa) (by omega), G8 _ (by omega)])) [0] [] 124 fun _ _ => ag106 _ _ (i + 1) (by first | omega | (simp only; omega)) (by omega) [0, 1, 2, 3] (by kernel_rfl) (by kernel_rfl)
 ·refine gh (b6 (l := [vc eC 103 q103 (I9 ka xa i) 130 .grown xa.isEmpty]) (l' := [vc eC 103 q103 (xa.map (b5 ka)) 130 .grown ((xa.map (b5 ka)).isEmpty)]) (by have e : i = xa.length := (by omega); rw [e, a9o, List.isEmpty_map])) [0] [] 124 fun _ _ => g0 fun _ => rtv trivial (q103) trivial [0, 1] (.a [.t na, .s 103 q103 4 0 xa.length xa.length xa.isEmpty, .t ka, .s 3 qA 2 0 da.length cA zA]) (by rw [List.length_map, List.isEmpty_map]; rfl)
theorem b1I   : Ctr Tryz.prog nO 63 [] [] ((Nat) × (Nat) × (Nat) × (Nat) × (Nat) × (Nat) × (Nat) × (Nat) × (Nat)) (fun _ => True) (fun r => .o (.s 1 r.1 4 0 4 4 false)) (fun r => [.blk 1 r.1 [.t ⟨#[108, 97, 110, 100]⟩, .s 9 r.2.2.2.2.2.2.2.2 4 0 2 2 false, .t ⟨#[105, 100]⟩, .v (.slice none 0 0), .t ⟨#[115, 104, 111, 112]⟩, .s 2 r.2.1 4 0 4 4 false, .t ⟨#[105, 100]⟩, .s 3 r.2.2.1 2 0 1 1 false, .t ⟨#[100, 97, 121]⟩, .s 8 r.2.2.2.2.2.2.2.1 4 0 3 3 false, .t ⟨#[100]⟩, .s 6 r.2.2.2.2.2.1 2 0 1 1 false, .t ⟨#[115, 97, 108, 101]⟩, .s 5 r.2.2.2.2.1 4 0 4 4 false, .t ⟨#[]⟩, .v (.slice none 0 0)] 46 .own, .blk 2 r.2.1 [.t ⟨#[105, 100]⟩, .i 1, .v (.bool false), .t ⟨#[]⟩, .t ⟨#[99, 105, 116, 121]⟩, .i 2, .v (.bool true), .t ⟨#[]⟩, .t ⟨#[122, 111, 110, 101]⟩, .i 2, .v (.bool false), .t ⟨#[]⟩, .t ⟨#[108, 97, 110, 100]⟩, .i 1, .v (.bool false), .t ⟨#[108, 97, 110, 100]⟩] 130 .own, .blk 3 r.2.2.1 [.s 4 r.2.2.2.1 1 0 1 1 false, .t ⟨#[122, 111, 110, 101]⟩] 161 .own, .blk 4 r.2.2.2.1 [.t ⟨#[99, 105, 116, 121]⟩] 9 .own]) := by
 refine fs 100 fun B => g0 fun _ => g0 fun q102 => rt trivial (⟨(q102 108), (q102 101), (q102 103), (q102 102), (q102 107), (q102 106), (q102 105), (q102 104), (q102 100)⟩) trivial [0, 7, 5, 6]
theorem b1Q   : Ctr Tryz.prog nO 149 [] [] ((Nat) × (Nat) × (Nat)) (fun _ => True) (fun r => .a [.t a6O, .s 1 r.1 4 0 F7.length F7.length false, .t tId, .s 2 r.2.1 2 0 ((a0f r.2.2).length) ((a0f r.2.2).length) false]) (fun r => [vc eC 1 r.1 F7 130 .grown false, vc (eD 906) 2 r.2.1 (a0f r.2.2) 161 .imm false, .as (e6 (n4 9) (a0f r.2.2))]) := by
 refine fs 100 fun B => g0 fun q101 => cl (b1I ) [] [(1, 101), (9, 102), (2, 103), (3, 104), (8, 105), (6, 106), (5, 107), (4, 108)] 109 fun ⟨qr103, qc103, qd103, ql103, y1103, y2103, y3103, y4103, y5103⟩ _ => go (fun _ => (o3 (by omega : (0 : Int) <= 1) (by omega : (1 : Int) < 4) (rfl : false = _))) fun _ => gh (j7 (g := 103) (q := qc103) (cs := [.t ⟨#[105, 100]⟩, .i 1, .v (.bool false), .t ⟨#[]⟩, .t ⟨#[99, 105, 116, 121]⟩, .i 2, .v (.bool true), .t ⟨#[]⟩, .t ⟨#[122, 111, 110, 101]⟩, .i 2, .v (.bool false), .t ⟨#[]⟩, .t ⟨#[108, 97, 110, 100]⟩, .i 1, .v (.bool false), .t ⟨#[108, 97, 110, 100]⟩]) (t := 130) (m := .own) eC a3j) [1] [] 109 fun _ _ => gh (j7 (g := 104) (q := qd103) (cs := [.s 108 ql103 1 0 1 1 false, .t ⟨#[122, 111, 110, 101]⟩]) (t := 161) (m := .own) (eD 906) (a0f ql103)) [2] [] 109 fun _ _ => gh (k7 (E := (eD 906)) (g := 104) (q := qd103) (xs := (a0f ql103)) (t := 161) (m := .own) (z := false)) [0] [] 109 fun _ _ => gh (j7 (g := 108) (q := ql103) (cs := [.t ⟨#[99, 105, 116, 121]⟩]) (t := 9) (m := .own) eS [a1o]) [3] [] 109 fun _ _ => gh (k7 (E := eS) (g := 108) (q := ql103) (xs := [a1o]) (t := 9) (m := .own) (z := false)) [0] [] 109 fun _ _ => gh (x4 (c := vc eS 108 ql103 [a1o] 9 .imm false) (I := ((n4 9) (⟨ql103, [a1o], a4w⟩ : De)))) [0] [] 109 fun _ _ => gh (p5 (I := (n4 9))) [] [] 109 fun _ _ => gh (i6 (I := (n4 9)) (l := []) (x := (⟨ql103, [a1o], a4w⟩ : De))) [1, 0] [] 109 fun _ _ => cl (@a3Q _ a6O tId qc103 4 false a3j 130 .own qd103 1 false (a0f ql103) (fun h => nomatch h) (by decide)) [2] [(1, 103), (3, 104), (5, 109)] 110 fun q2105 _ => g0 fun _ => gh (b6 (l := [vc eC 109 q2105 (a3j.map (b5 tId)) 130 .grown ((a3j.map (b5 tId)).isEmpty)]) (l' := [vc eC 109 q2105 F7 130 .grown false]) (by rw [a5G]; rfl)) [0] [] 110 fun _ _ => rtv trivial (⟨q2105, qd103, ql103⟩) trivial [0, 3, 2] (.a [.t a6O, .s 109 q2105 4 0 ((a3j.map (b5 tId)).length) ((a3j.map (b5 tId)).length) ((a3j.map (b5 tId)).isEmpty), .t tId, .s 104 qd103 2 0 ((a0f ql103).length) 1 false]) (by rw [a5G]; rfl)
end Go.Proofs.YtagidoadfajpgaaGreat
namespace Go.Proofs.YtagidoadfajpgaaGreat
set_option maxHeartbeats 4000000
open Go.Abs
variable {nO : Nat}
set_option maxRecDepth 8000
attribute [local irreducible] GP ruP nxP acS gst cdP loP j6 m9 m8 enP caA n5 lgP agN
def a1Y (x : Nat × Co) (r : Nat × Value) : List Ch := [.blk 911 x.1 [.i x.2.kind, .s 912 r.1 3 0 x.2.l.length x.2.l.length x.2.l.isEmpty, .v r.2, .i x.2.nulls] 186 .own, vc eV 912 r.1 x.2.l 26 .grown x.2.l.isEmpty, .as (u7 r.2 x.2.ws x.2.b)]
def q0 (x : Nat × Co) : As := a7q (fun _ : Nat × Value => True) (a1Y x)
theorem a0Q {q c : Nat} {z : Bool} {xs : List Cd} {t : TypeId} {m : Md} {y : Value} {p : Cd -> Bool} {J : As} (hz : z = true -> xs.length = 0) (hl : xs.length < 1000000) (hy : ∀ k, k < xs.length -> a2X Tryz.prog nO y [.a [.t (xs.getD k eC.d).name, .i (xs.getD k eC.d).kind, .cb (xs.getD k eC.d).must, .t (xs.getD k eC.d).to]] [.as J] Unit (fun _ => True) (fun _ => .o (.cb (p (xs.getD k eC.d)))) (fun _ => [.as J])) : K1 nO 155 [.o (.s 1 q 4 0 xs.length c z), .o (.v y)] [vc eC 1 q xs t m z, .as J] (.o (.i (e9 xs p))) := by
 refine fs 100 fun B => g0 fun _ => g0 fun _ => lp ((Nat)) [0, 1, 7] (fun r => [(8, .o (.i (r : Int)))]) [0, 1] (fun _ => []) 120 (fun r => r <= xs.length /\ ∀ j, j < r -> p (xs.getD j eC.d) = false) (fun r => xs.length - r) (0) ⟨Nat.zero_le _, fun j hj => absurd hj (Nat.not_lt_zero j)⟩ [] (fun i hx ag103 => ?_)
 obtain ⟨hi, hn⟩ := hx
 refine g0 fun _ => cdD ((i : Int) < (xs.length : Int)) (fun h1 => ?_) (fun h1 => ?_)
 ·refine g0 fun _ => go (fun _ => (o4 (nz i) (by omega : (i : Int) < (xs.length : Int)) (zf hz (show 0 < xs.length by omega) : z = false) (by omega : i < xs.length))) fun _ => clv (hy i (by omega)) [1] [] 120 fun _ _ => cd (p (xs.getD i eC.d)) (fun h2 => ?_) (fun h2 => ?_)
  ·refine g0 fun _ => rtv trivial (()) trivial [1, 0] (.o (.i (i : Int))) (congrArg (Value.int .i64) (p9 (d := eC.d) (by omega) h2 hn).symm)
  ·refine go (fun _ => (o2 (by omega : -9223372036854775808 <= (i : Int) + 1) (by omega : (i : Int) + 1 < 9223372036854775808))) fun _ => ag103 _ _ (i + 1) (by first | omega | (simp only; omega)) ⟨by omega, fun j hj => by rcases Nat.lt_succ_iff_lt_or_eq.1 hj with h | h; exact hn j h; subst h; exact h2⟩ [1, 0] (by kernel_rfl) (by kernel_rfl)
 ·refine g0 fun _ => rtv trivial (()) trivial [0, 1] (.o (.i (-1))) (congrArg (Value.int .i64) (s8 (d := eC.d) (fun j hj => hn j (by omega))).symm)
theorem a8b {a : Cd} {q : Nat} {s : ByteArray} {tb : TypeId}  : K1 nO 156 [.a [.t a.name, .i a.kind, .cb a.must, .t a.to], .o (.p 1 q 0 0 0)] [.blk 1 q [.t s] tb .own] (.o (.cb (a7 a.name s))) := by
 refine fs 100 fun B => g0 fun q101 => g0 fun _ => rt trivial (()) trivial [1]
theorem a0j {q : Nat} {na ka : ByteArray} {qa ca : Nat} {za : Bool} {xa : List Cd} {ta : TypeId} {ma : Md} {qA cA : Nat} {zA : Bool} {da : List De} {qp : Nat} {zp : Bool} {xs : List (Nat × Co)} {ql cL : Nat} {lv : List Sp} {n i : Nat} {v : Va} (hza : za = true -> xa.length = 0) (hla : xa.length < 1000000) (hi : i < xa.length) (hs : v.s.size < 1000000000) : K1 nO 105 [.o (.p 1 q 0 0 0), .o (.i (i : Int)), .a [.i v.k, .i v.n, .t v.s]] [.blk 1 q [.t na, .s 2 qa 4 0 xa.length ca za, .t ka, .s 3 qA 2 0 da.length cA zA, .s 4 qp 1 0 xs.length xs.length zp, .s 5 ql 2 0 lv.length cL lv.isEmpty, .i (n : Int)] 148 .own, vc eC 2 qa xa ta ma za] (.o (.cb (g9 xa i v))) := by
 refine fs 100 fun B => g0 fun q101 => go (fun _ => (o2 (fun (he : (!(v.k == 0)) = true) => have he : ¬ (v.k = 0) := (by simpa using he); (o3 (nz i) (by omega : (i : Int) < (xa.length : Int)) (zf hza (show 0 < xa.length by omega) : za = false))) (fun (he : (!(v.k == 0)) = true) => have he : ¬ (v.k = 0) := (by simpa using he); (o1 (by omega : i < xa.length))))) fun _ => clm (@a9q _ v (by assumption)) [] trivial <| g0 fun _ => rt trivial (()) trivial [1, 2]
theorem M9 {q : Nat} {na ka : ByteArray} {qa ca : Nat} {za : Bool} {xa : List Cd} {ta : TypeId} {ma : Md} {qA cA : Nat} {zA : Bool} {da : List De} {qp : Nat} {zp : Bool} {xs : List (Nat × Co)} {ql cL : Nat} {lv : List Sp} {n : Nat} {s : ByteArray} (hza : za = true -> xa.length = 0) (hla : xa.length < 1000000) : K1 nO 113 [.o (.p 1 q 0 0 0), .o (.t s)] [.blk 1 q [.t na, .s 2 qa 4 0 xa.length ca za, .t ka, .s 3 qA 2 0 da.length cA zA, .s 4 qp 1 0 xs.length xs.length zp, .s 5 ql 2 0 lv.length cL lv.isEmpty, .i (n : Int)] 148 .own, vc eC 2 qa xa ta ma za] (.o (.i (e9 xa (fun c => a7 c.name s)))) := by
 refine fs 100 fun B => g0 fun q101 => g0 fun _ => cdF rfl <| g0 fun _ => cl (a0Q (q := qa) (c := ca) (z := za) (xs := xa) (t := ta) (m := ma) (y := .func (.func 156) #[] #[.pointer (some ⟨(q101 100), 0, none⟩)]) (p := fun c => a7 c.name s) (J := (Ch.den (.blk 100 (q101 100) [.t s] 9 .own))) hza hla (fun k _ => a07 (b3k [.pointer (some ⟨(q101 100), 0, none⟩)] (a8b (a := xa.getD k eC.d) (q := (q101 100)) (s := s) (tb := 9))))) [2, 0] [] 101 fun _ _ => g0 fun _ => rt trivial (()) trivial [2, 0]
theorem a72 {q : Nat} {na ka : ByteArray} {qa ca : Nat} {za : Bool} {xa : List Cd} {qA cA : Nat} {zA : Bool} {da : List De} {qp : Nat} {zp : Bool} {xs : List (Nat × Co)} {ql cL : Nat} {lv : List Sp} {n : Nat}  : K1 nO 75 [.o (.p 1 q 0 0 0)] [.blk 1 q [.t na, .s 2 qa 4 0 xa.length ca za, .t ka, .s 3 qA 2 0 da.length cA zA, .s 4 qp 1 0 xs.length xs.length zp, .s 5 ql 2 0 lv.length cL lv.isEmpty, .i (n : Int)] 148 .own] (.a [.s 5 ql 2 0 lv.length cL lv.isEmpty]) := by
 refine fs 100 fun B => g0 fun q101 => g0 fun _ => cdF rfl <| g0 fun _ => rt trivial (()) trivial [1]
theorem a71 {q : Nat} {na ka : ByteArray} {qa ca : Nat} {za : Bool} {xa : List Cd} {qA cA : Nat} {zA : Bool} {da : List De} {qp : Nat} {zp : Bool} {xs : List (Nat × Co)} {ql cL : Nat} {lv : List Sp} {n : Nat}  : K1 nO 40 [.o (.p 1 q 0 0 0)] [.blk 1 q [.t na, .s 2 qa 4 0 xa.length ca za, .t ka, .s 3 qA 2 0 da.length cA zA, .s 4 qp 1 0 xs.length xs.length zp, .s 5 ql 2 0 lv.length cL lv.isEmpty, .i (n : Int)] 148 .own] (.o (.i (n : Int))) := by
 refine fs 100 fun B => g0 fun _ => g0 fun _ => cdF rfl <| g0 fun _ => rt trivial (()) trivial [0]
end Go.Proofs.YtagidoadfajpgaaGreat
namespace Go.Proofs.YtagidoadfajpgaaGreat
set_option maxHeartbeats 4000000
open Go.Abs
variable {nO : Nat}
set_option maxRecDepth 8000
attribute [local irreducible] GP ruP nxP acS gst cdP loP j6 m9 m8 enP caA n5 lgP agN
theorem a9f {q : Nat} {x : Int} {t : TypeId}  : Ctr Tryz.prog nO 108 [.o (.s 1 q 1 0 1 1 false)] [.blk 1 q [.i x] t .own] ((Nat)) (fun _ => True) (fun r => .a [.s 3 r 2 0 ((ofL (d7 [x])).length) ((ofL (d7 [x])).length) ((ofL (d7 [x])).isEmpty)]) (fun r => [vc eP 3 r (ofL (d7 [x])) 171 .grown ((ofL (d7 [x])).isEmpty), vc eI 1 q [x] t .own false]) :=
 a3X (j7 (g := 1) (q := q) (cs := [.i x]) (t := t) (m := .own) eI [x]) (fun _ _ => b61 (l := [x]) (fun h => nomatch h) (show 1 < 90000 by decide))
theorem b1B {q : Nat} {na ka : ByteArray} {qa ca : Nat} {za : Bool} {xa : List Cd} {ta : TypeId} {ma : Md} {qA cA : Nat} {zA : Bool} {da : List De} {qp : Nat} {zp : Bool} {xs : List (Nat × Co)} {ql cL : Nat} {lv : List Sp} {n : Nat} {mp mL : Md} {qv cv : Nat} {zv : Bool} {vs : List Va} {tv : TypeId} {mv : Md} (hza : za = true -> xa.length = 0) (hla : xa.length < 1000000) (hzv : zv = true -> vs.length = 0) (hlv : vs.length < 1000000) (hzp : zp = true -> xs.length = 0) (hn : n < 65536) (hvx : vs.length = xs.length) (hax : xa.length = xs.length) (hok : ∀ i, i < vs.length -> g9 xa i (vs.getD i eV.d) = true) (hsz : ∀ i, i < vs.length -> (vs.getD i eV.d).s.size < 1000000000) (hf : ∀ i, i < xs.length -> (xs.getD i dX).2.Fit) (hk : ∀ i, i < xs.length -> (xs.getD i dX).2.kind = (xa.getD i eC.d).kind) (hw : WF (-1) lv) : Ctr Tryz.prog nO 60 [.o (.p 1 q 0 0 0), .o (.s 6 qv 3 0 vs.length cv zv)] [.blk 1 q [.t na, .s 2 qa 4 0 xa.length ca za, .t ka, .s 3 qA 2 0 da.length cA zA, .s 4 qp 1 0 xs.length xs.length zp, .s 5 ql 2 0 lv.length cL lv.isEmpty, .i (n : Int)] 148 .own, vc eC 2 qa xa ta ma za, vc eV 6 qv vs tv mv zv, vc eX 4 qp xs 156 mp zp, .as (e6 q0 xs), vc eP 5 ql lv 171 mL lv.isEmpty] ((Nat) × (List Sp)) (fun r => b7P lv (ofL (d7 [(n : Int)])) r.2) (fun r => .t [(false, [.i (n : Int)]), (false, [.i 0])]) (fun r => [.blk 1 q [.t na, .s 2 qa 4 0 xa.length ca za, .t ka, .s 3 qA 2 0 da.length cA zA, .s 4 qp 1 0 ((g8 xs (a2A xs vs) xs.length).length) ((g8 xs (a2A xs vs) xs.length).length) zp, .s 7 r.1 2 0 r.2.length r.2.length r.2.isEmpty, .i ((n + 1) : Int)] 148 .own, vc eC 2 qa xa ta ma za, vc eV 6 qv vs tv mv zv, vc eX 4 qp (g8 xs (a2A xs vs) xs.length) 156 mp zp, .as (e6 q0 (g8 xs (a2A xs vs) xs.length)), vc eP 7 r.1 r.2 171 .grown r.2.isEmpty]) := by
 refine fs 100 fun B => g0 fun _ => g0 fun _ => cdF rfl <| g0 fun _ => cdF (b := decide ((n : Int) ≥ 65536)) (decide_eq_false (by omega)) <| g0 fun _ => cdF (b := ((vs.length : Int) != (xs.length : Int))) (by rw [hvx]; simp) <| g0 fun _ => lp ((Nat)) [0, 1, 28, 29] (fun r => [(30, .o (.i (r : Int)))]) [0, 1, 2, 3, 4, 5] (fun _ => []) 120 (fun r => r <= vs.length) (fun r => vs.length - r) (0) (Nat.zero_le _) [] fun i hx ag106 => g0 fun _ => cdD ((i : Int) < (vs.length : Int)) (fun h4 => ?_) (fun h4 => ?_)
 ·have hsi := hsz i (by omega)
  refine go (fun q108 => (o4 (nz i) (by omega : (i : Int) < (vs.length : Int)) (zf hzv (show 0 < vs.length by omega) : zv = false) (by omega : i < vs.length))) fun q108 => g0 fun _ => cl (@a0j _ q na ka qa ca za xa ta ma qA cA zA da qp zp xs ql cL lv n i (vs.getD i eV.d) (by assumption) (by omega) (by omega) hsi) [1, 2] [] 121 fun _ _ => g0 fun _ => cdF (b := !(g9 xa i (vs.getD i eV.d))) (by rw [hok i (by omega)]; rfl) <| go (fun _ => (o2 (by omega : -9223372036854775808 <= (i : Int) + 1) (by omega : (i : Int) + 1 < 9223372036854775808))) fun _ => ag106 _ _ (i + 1) (by first | omega | (simp only; omega)) (by omega) [0, 1, 3, 4, 5, 6] (by kernel_rfl) (by kernel_rfl)
 ·refine g0 fun _ => gh (b6 (l := [.as (e6 q0 xs)]) (l' := [.as (e6 q0 (g8 xs (a2A xs vs) 0))]) (by rfl)) [4] [] 120 fun _ _ => lp ((Nat)) [0, 41, 42] (fun r => [(43, .o (.i (r : Int)))]) [1, 2, 3, 4, 5] (fun r => [.as (e6 q0 (g8 xs (a2A xs vs) r))]) 140 (fun r => r <= vs.length) (fun r => vs.length - r) (0) (Nat.zero_le _) [0] fun i hx ag114 => g0 fun _ => cdD ((i : Int) < (vs.length : Int)) (fun h6 => ?_) (fun h6 => ?_)
  ·have hsi := hsz i (by omega)
   obtain ⟨f1, f2, f3, f4⟩ := hf i (by omega)
   have htl := i7 (xs := xs) (f := a2A xs vs) i
   refine go (fun q116 => (o4 (nz i) (by omega : (i : Int) < (vs.length : Int)) (zf hzv (show 0 < vs.length by omega) : zv = false) (by omega : i < vs.length))) fun q116 => go (fun _ => (o4 (nz i) (by omega : (i : Int) < (xs.length : Int)) (zf hzp (show 0 < xs.length by omega) : zp = false) (by omega : i < xs.length))) fun _ => gh (f8 (I := q0) (l := (g8 xs (a2A xs vs) i)) i dX (by omega)) [1] [] 141 fun _ _ => gh (b6 (l := [.as (q0 ((g8 xs (a2A xs vs) i).getD i dX))]) (l' := [.as (q0 (xs.getD i dX))]) (by rw [a16 (by omega)])) [0] [] 141 fun _ _ => gh (f9 (φ := fun _ => True) (L := a1Y (xs.getD i dX))) [0] [] 141 fun ⟨ql118, xv118⟩ _ => cl (@a6s _ ((xs.getD i dX).1) ql118 ((xs.getD i dX).2.kind) ((xs.getD i dX).2.l) xv118 ((xs.getD i dX).2.nulls) ((xs.getD i dX).2.ws) ((xs.getD i dX).2.b) (vs.getD i eV.d) (by rw [b0D, hk i (by omega)]; exact hok i (by omega)) (by assumption) (by omega) (by omega) (by omega)) [0, 1, 2] [(1, 911), (2, 912)] 141 fun ⟨ql2119, x2119⟩ _ => gh (d5 (φ := fun _ => True) (L := a1Y ((xs.getD i dX).1, ((a2A xs vs) i))) (ql2119, x2119) trivial) [0, 1, 2] [] 141 fun _ _ => gh (U5 (I := q0) (l := (g8 xs (a2A xs vs) i)) i dX ((xs.getD i dX).1, ((a2A xs vs) i)) (by omega)) [0, 1] [] 141 fun _ _ => go (fun _ => (o2 (by omega : -9223372036854775808 <= (i : Int) + 1) (by omega : (i : Int) + 1 < 9223372036854775808))) fun _ => ag114 _ _ (i + 1) (by first | omega | (simp only; omega)) (by omega) [0, 2, 3, 4, 5, 6] (by kernel_rfl) (by kernel_rfl)
  ·have hie : i = xs.length := by omega
   refine gh (b6 (l := [.as (e6 q0 (g8 xs (a2A xs vs) i))]) (l' := [.as (e6 q0 (g8 xs (a2A xs vs) xs.length))]) (by rw [hie])) [0] [] 140 fun _ _ => g0 fun q121 => cl (a9f (q := (q121 140)) (x := (n : Int)) (t := 3)) [0] [(1, 140), (3, 141)] 142 fun q3122 _ => cl (@b6U _ ql cL lv 171 mL q3122 ((ofL (d7 [(n : Int)])).length) (ofL (d7 [(n : Int)])) 171 .grown (by assumption) (b6y _)) [7, 0] [(1, 5), (2, 141), (3, 142)] 143 fun ⟨q9, l9⟩ hor => g0 fun _ => go (fun _ => (o2 (by omega : -9223372036854775808 <= (n : Int) + 1) (by omega : (n : Int) + 1 < 9223372036854775808))) fun _ => go (fun _ => (o2 (by omega : -9223372036854775808 <= ((n : Int) + 1) - 1) (by omega : ((n : Int) + 1) - 1 < 9223372036854775808))) fun _ => gh (b6 (l := [vc eX 4 qp xs 156 mp zp]) (l' := [vc eX 4 qp (g8 xs (a2A xs vs) xs.length) 156 mp zp]) (b23 (Q6 xs.length).symm)) [8] [] 143 fun _ _ => gh (b6 (l := [.blk 1 q [.t na, .s 2 qa 4 0 xa.length ca za, .t ka, .s 3 qA 2 0 da.length cA zA, .s 4 qp 1 0 xs.length xs.length zp, .s 142 q9 2 0 l9.length l9.length l9.isEmpty, .i ((n : Int) + 1)] 148 .own]) (l' := [.blk 1 q [.t na, .s 2 qa 4 0 xa.length ca za, .t ka, .s 3 qA 2 0 da.length cA zA, .s 4 qp 1 0 ((g8 xs (a2A xs vs) xs.length).length) ((g8 xs (a2A xs vs) xs.length).length) zp, .s 142 q9 2 0 l9.length l9.length l9.isEmpty, .i ((n : Int) + 1)] 148 .own]) (by rw [i7])) [6] [] 143 fun _ _ => rtv trivial (⟨q9, l9⟩) hor [0, 7, 8, 1, 6, 2] (.t [(false, [.i (((n : Int) + 1) - 1)]), (false, [.i 0])]) (congrArg (fun k => SV.den (.t [(false, [.i k]), (false, [.i 0])])) (by omega : (n : Int) + 1 - 1 = n))
end Go.Proofs.YtagidoadfajpgaaGreat
namespace Go.Proofs.YtagidoadfajpgaaGreat
set_option maxHeartbeats 4000000
open Go.Abs
variable {nO : Nat}
set_option maxRecDepth 8000
attribute [local irreducible] GP ruP nxP acS gst cdP loP j6 m9 m8 enP caA n5 lgP agN
theorem a73 {q : Nat} {na ka : ByteArray} {qa ca : Nat} {za : Bool} {xa : List Cd} {ta : TypeId} {ma : Md} {qA cA : Nat} {zA : Bool} {da : List De} {qp : Nat} {zp : Bool} {xs : List (Nat × Co)} {ql cL : Nat} {lv : List Sp} {n qv cv : Nat} {zv : Bool} {vs : List Va} {tv : TypeId} {mv : Md} {k : Nat} (hza : za = true -> xa.length = 0) (hla : xa.length < 1000000) (hzv : zv = true -> vs.length = 0) (hlv : vs.length < 1000000) (hn : n < 65536) (hvx : vs.length = xs.length) (hax : xa.length = xs.length) (hk1 : k < vs.length) (hk2 : g9 xa k (vs.getD k eV.d) = false) (hk3 : ∀ i, i < k -> g9 xa i (vs.getD i eV.d) = true) (hsz : ∀ i, i < vs.length -> (vs.getD i eV.d).s.size < 1000000000) : K1 nO 60 [.o (.p 1 q 0 0 0), .o (.s 6 qv 3 0 vs.length cv zv)] [.blk 1 q [.t na, .s 2 qa 4 0 xa.length ca za, .t ka, .s 3 qA 2 0 da.length cA zA, .s 4 qp 1 0 xs.length xs.length zp, .s 5 ql 2 0 lv.length cL lv.isEmpty, .i (n : Int)] 148 .own, vc eC 2 qa xa ta ma za, vc eV 6 qv vs tv mv zv] (.t [(false, [.i 0]), (false, [.i 4])]) := by
 refine fs 100 fun B => g0 fun _ => g0 fun _ => cdF rfl <| g0 fun _ => cdF (b := decide ((n : Int) ≥ 65536)) (decide_eq_false (by omega)) <| g0 fun _ => cdF (b := ((vs.length : Int) != (xs.length : Int))) (by rw [hvx]; simp) <| g0 fun _ => lp ((Nat)) [0, 1, 28, 29] (fun r => [(30, .o (.i (r : Int)))]) [0, 1, 2] (fun _ => []) 120 (fun r => r <= k) (fun r => vs.length - r) (0) (Nat.zero_le _) [] fun i hx ag106 => g0 fun _ => cdD ((i : Int) < (vs.length : Int)) (fun h4 => ?_) (fun h4 => ?_)
 ·have hsi := hsz i (by omega)
  refine go (fun q108 => (o4 (nz i) (by omega : (i : Int) < (vs.length : Int)) (zf hzv (show 0 < vs.length by omega) : zv = false) (by omega : i < vs.length))) fun q108 => g0 fun _ => cl (@a0j _ q na ka qa ca za xa ta ma qA cA zA da qp zp xs ql cL lv n i (vs.getD i eV.d) (by assumption) (by omega) (by omega) hsi) [1, 2] [] 121 fun _ _ => g0 fun _ => cd (!(g9 xa i (vs.getD i eV.d))) (fun h5 => ?_) (fun h5 => ?_)
  ·refine g0 fun _ => rt trivial (()) trivial [0, 1, 3]
  ·have hlt : i < k := by rcases Nat.lt_or_ge i k with h | h; exact h; obtain rfl : i = k := (by omega); rw [hk2] at h5; cases h5
   refine go (fun _ => (o2 (by omega : -9223372036854775808 <= (i : Int) + 1) (by omega : (i : Int) + 1 < 9223372036854775808))) fun _ => ag106 _ _ (i + 1) (by first | omega | (simp only; omega)) hlt [0, 1, 3] (by kernel_rfl) (by kernel_rfl)
 ·omega
theorem b1A {q : Nat} {na ka : ByteArray} {qa ca : Nat} {za : Bool} {xa : List Cd} {qA cA : Nat} {zA : Bool} {da : List De} {qp : Nat} {zp : Bool} {xs : List (Nat × Co)} {ql cL : Nat} {lv : List Sp} {n : Nat} {mp mL : Md} {id : Nat} (hzp : zp = true -> xs.length = 0) (hxl : xs.length < 1000000) (hll : lv.length < 1000000) (hhas : has lv (id : Int) = true) (hid : ∀ i, i < xs.length -> id < (xs.getD i dX).2.l.length) (hf : ∀ i, i < xs.length -> (xs.getD i dX).2.Fit) : Ctr Tryz.prog nO 88 [.o (.p 1 q 0 0 0), .o (.i (id : Int))] [.blk 1 q [.t na, .s 2 qa 4 0 xa.length ca za, .t ka, .s 3 qA 2 0 da.length cA zA, .s 4 qp 1 0 xs.length xs.length zp, .s 5 ql 2 0 lv.length cL lv.isEmpty, .i (n : Int)] 148 .own, vc eX 4 qp xs 156 mp zp, .as (e6 q0 xs), vc eP 5 ql lv 171 mL lv.isEmpty] ((Nat)) (fun _ => True) (fun r => .t [(false, [.s 6 r 3 0 ((N3 xs id xs.length).length) ((N3 xs id xs.length).length) ((N3 xs id xs.length).isEmpty)]), (false, [.v (.bool true)])]) (fun r => [.blk 1 q [.t na, .s 2 qa 4 0 xa.length ca za, .t ka, .s 3 qA 2 0 da.length cA zA, .s 4 qp 1 0 xs.length xs.length zp, .s 5 ql 2 0 lv.length cL lv.isEmpty, .i (n : Int)] 148 .own, vc eX 4 qp xs 156 mp zp, .as (e6 q0 xs), vc eP 5 ql lv 171 mL lv.isEmpty, vc eV 6 r (N3 xs id xs.length) 26 .grown ((N3 xs id xs.length).isEmpty)]) := by
 refine fs 100 fun B => g0 fun _ => g0 fun _ => cl (@J1 _ ql cL lv 171 mL (id : Int) (by omega)) [3] [(1, 5)] 100 fun _ _ => g0 fun _ => cdF (b := !(has lv (id : Int))) (by rw [hhas]; rfl) <| g0 fun _ => g0 fun _ => gh (e7 100 3 eV.f eV.d 26 .grown) [] [] 101 fun _ _ => sv 6 (v := .o (.v (.slice none 0 0))) (v' := .o (.s 100 0 3 0 ((N3 xs id 0).length) ((N3 xs id 0).length) ((N3 xs id 0).isEmpty))) rfl <| lp ((Nat) × (Nat)) [1, 25, 26] (fun r => [(27, .o (.i (r.1 : Int))), (6, .o (.s 100 r.2 3 0 ((N3 xs id r.1).length) ((N3 xs id r.1).length) ((N3 xs id r.1).isEmpty)))]) [1, 2, 3, 4] (fun r => [vc eV 100 r.2 (N3 xs id r.1) 26 .grown ((N3 xs id r.1).isEmpty)]) 121 (fun r => r.1 <= xs.length) (fun r => xs.length - r.1) (⟨0, 0⟩) (Nat.zero_le _) [0] (fun ⟨i, pq⟩ hx ag107 => ?_)
 try dsimp only at hx
 have hi := hx
 refine g0 fun _ => cdD ((i : Int) < (xs.length : Int)) (fun h2 => ?_) (fun h2 => ?_)
 ·obtain ⟨f1, f2, f3, f4⟩ := hf i (by omega)
  have hdi := hid i (by omega)
  have hrl := a5M (xs := xs) (id := id) hi
  refine go (fun _ => (o4 (nz i) (by omega : (i : Int) < (xs.length : Int)) (zf hzp (show 0 < xs.length by omega) : zp = false) (by omega : i < xs.length))) fun _ => g0 fun _ => gh (f8 (I := q0) (l := xs) i dX (by omega)) [4] [] 121 fun _ _ => gh (f9 (φ := fun _ => True) (L := a1Y (xs.getD i dX))) [0] [] 121 fun ⟨ql111, xv111⟩ _ => cl (@a5d _ ((xs.getD i dX).1) ql111 ((xs.getD i dX).2.kind) ((xs.getD i dX).2.l) xv111 ((xs.getD i dX).2.nulls) id (by omega) (by omega)) [0, 1] [(1, 911), (2, 912)] 121 fun _ _ => gh (d5 (φ := fun _ => True) (L := a1Y (xs.getD i dX)) (ql111, xv111) trivial) [0, 1, 2] [] 121 fun _ _ => gh (j9 (I := q0) (l := xs) i dX (by omega)) [0, 1] [] 121 fun _ _ => g0 fun q113 => g0 fun q114 => apd eV (N3 xs id i) [((xs.getD i dX).2.l.getD id eV.d)] (N3 xs id (i + 1)) 100 pq .grown ((N3 xs id i).isEmpty) ((N3 xs id (i + 1)).isEmpty) (.blk 122 (q114 122) [.i ((((xs.getD i dX).2.l).getD id eV.d).k), .i ((((xs.getD i dX).2.l).getD id eV.d).n), .t ((((xs.getD i dX).2.l).getD id eV.d).s)] 26 .own) (q114 122) 0 1 1 false 123 [3, 0] 124 26 (fun h _ => K4 h) (by simp only [List.length_cons, List.length_nil]; omega) (o8 rfl) (b1Z (by omega)) (a8O (by omega)) fun q115 => g0 fun _ => go (fun _ => (o2 (by omega : -9223372036854775808 <= (i : Int) + 1) (by omega : (i : Int) + 1 < 9223372036854775808))) fun _ => ag107 _ _ (⟨i + 1, q115⟩) (by first | omega | (simp only; omega)) (by dsimp only; exact (by omega)) [0, 4, 5, 6, 3] (by kernel_rfl) (by kernel_rfl)
 ·have hie : i = xs.length := by omega
  refine g0 fun _ => gh (b6 (l := [vc eV 100 pq (N3 xs id i) 26 .grown ((N3 xs id i).isEmpty)]) (l' := [vc eV 100 pq (N3 xs id xs.length) 26 .grown ((N3 xs id xs.length).isEmpty)]) (by rw [hie])) [0] [] 121 fun _ _ => rtv trivial (pq) trivial [2, 3, 4, 1, 0] (.t [(false, [.s 100 pq 3 0 ((N3 xs id i).length) ((N3 xs id i).length) ((N3 xs id i).isEmpty)]), (false, [.v (.bool true)])]) (by rw [hie]; rfl)
end Go.Proofs.YtagidoadfajpgaaGreat
namespace Go.Proofs.YtagidoadfajpgaaGreat
set_option maxHeartbeats 4000000
open Go.Abs
variable {nO : Nat}
set_option maxRecDepth 100000
attribute [local irreducible] GP ruP nxP acS gst cdP loP j6 m9 m8 enP caA n5 lgP agN
theorem a35 (k : Int) : b0D k (⟨0, 0, ⟨#[]⟩⟩ : Va) = true := by
 have h : b1e ⟨#[]⟩ = true := by simp [b1e, a7]
 simp [b0D, vOk, h]
theorem a9h : (⟨0, 0, ⟨#[]⟩⟩ : Va).s.size < 1000000000 := by show (0 : Nat) < _; decide
theorem a79 {q : Nat} {na ka : ByteArray} {qa ca : Nat} {za : Bool} {xa : List Cd} {qA cA : Nat} {zA : Bool} {da : List De} {qp : Nat} {zp : Bool} {xs : List (Nat × Co)} {ql cL : Nat} {lv : List Sp} {n : Nat} {mL : Md} {id : Int} (hll : lv.length < 1000000) (hno : has lv id = false) : K1 nO 66 [.o (.p 1 q 0 0 0), .o (.i id)] [.blk 1 q [.t na, .s 2 qa 4 0 xa.length ca za, .t ka, .s 3 qA 2 0 da.length cA zA, .s 4 qp 1 0 xs.length xs.length zp, .s 5 ql 2 0 lv.length cL lv.isEmpty, .i (n : Int)] 148 .own, vc eP 5 ql lv 171 mL lv.isEmpty] (.o (.v (.bool false))) := by
 refine fs 100 fun B => g0 fun _ => g0 fun _ => cl (@J1 _ ql cL lv 171 mL id (by omega)) [1] [(1, 5)] 100 fun _ _ => g0 fun _ => cdT (b := !(has lv id)) (by rw [hno]; rfl) <| g0 fun _ => rt trivial (()) trivial [1, 0]
theorem b1E {q : Nat} {na ka : ByteArray} {qa ca : Nat} {za : Bool} {xa : List Cd} {qA cA : Nat} {zA : Bool} {da : List De} {qp : Nat} {zp : Bool} {xs : List (Nat × Co)} {ql cL : Nat} {lv : List Sp} {n : Nat} {mp mL : Md} {id : Nat} (hzp : zp = true -> xs.length = 0) (hll : lv.length < 1000000) (hxl : xs.length < 1000000) (hhas : has lv (id : Int) = true) (hid : ∀ i, i < xs.length -> id < (xs.getD i dX).2.l.length) (hf : ∀ i, i < xs.length -> (xs.getD i dX).2.Fit) (hw : WF (-1) lv) : Ctr Tryz.prog nO 66 [.o (.p 1 q 0 0 0), .o (.i (id : Int))] [.blk 1 q [.t na, .s 2 qa 4 0 xa.length ca za, .t ka, .s 3 qA 2 0 da.length cA zA, .s 4 qp 1 0 xs.length xs.length zp, .s 5 ql 2 0 lv.length cL lv.isEmpty, .i (n : Int)] 148 .own, vc eX 4 qp xs 156 mp zp, .as (e6 q0 xs), vc eP 5 ql lv 171 mL lv.isEmpty] ((Nat) × (List Sp)) (fun r => b3H lv (ofL (d7 [(id : Int)])) r.2) (fun r => .o (.v (.bool true))) (fun r => [.blk 1 q [.t na, .s 2 qa 4 0 xa.length ca za, .t ka, .s 3 qA 2 0 da.length cA zA, .s 4 qp 1 0 ((g8 xs (a2Z xs id (⟨0, 0, ⟨#[]⟩⟩ : Va)) xs.length).length) ((g8 xs (a2Z xs id (⟨0, 0, ⟨#[]⟩⟩ : Va)) xs.length).length) zp, .s 7 r.1 2 0 r.2.length r.2.length r.2.isEmpty, .i (n : Int)] 148 .own, vc eX 4 qp (g8 xs (a2Z xs id (⟨0, 0, ⟨#[]⟩⟩ : Va)) xs.length) 156 mp zp, .as (e6 q0 (g8 xs (a2Z xs id (⟨0, 0, ⟨#[]⟩⟩ : Va)) xs.length)), vc eP 7 r.1 r.2 171 .grown r.2.isEmpty]) := by
 refine fs 100 fun B => g0 fun _ => g0 fun _ => cl (@J1 _ ql cL lv 171 mL (id : Int) (by omega)) [3] [(1, 5)] 100 fun _ _ => g0 fun _ => cdF (b := !(has lv (id : Int))) (by rw [hhas]; rfl) <| g0 fun q105 => cl (a9f (q := (q105 100)) (x := (id : Int)) (t := 3)) [0] [(1, 100), (3, 101)] 102 fun q3106 _ => cl (@b40 _ ql cL lv 171 mL q3106 ((ofL (d7 [(id : Int)])).length) (ofL (d7 [(id : Int)])) 171 .grown hw (b6y _)) [2, 0] [(1, 5), (2, 101), (3, 102)] 103 fun ⟨q9, l9⟩ hor => g0 fun _ => g0 fun _ => gh (b6 (l := [.as (e6 q0 xs)]) (l' := [.as (e6 q0 (g8 xs (a2Z xs id (⟨0, 0, ⟨#[]⟩⟩ : Va)) 0))]) (by rfl)) [6] [] 103 fun _ _ => lp ((Nat)) [1, 32, 33] (fun r => [(34, .o (.i (r : Int)))]) [1, 2, 3, 4, 5, 6] (fun r => [.as (e6 q0 (g8 xs (a2Z xs id (⟨0, 0, ⟨#[]⟩⟩ : Va)) r))]) 123 (fun r => r <= xs.length) (fun r => xs.length - r) (0) (Nat.zero_le _) [0] fun i hx ag111 => g0 fun _ => cdD ((i : Int) < (xs.length : Int)) (fun h2 => ?_) (fun h2 => ?_)
 ·obtain ⟨f1, f2, f3, f4⟩ := hf i (by omega)
  have hdi := hid i (by omega)
  have htl := i7 (xs := xs) (f := a2Z xs id (⟨0, 0, ⟨#[]⟩⟩ : Va)) i
  refine go (fun _ => (o4 (nz i) (by omega : (i : Int) < (xs.length : Int)) (zf hzp (show 0 < xs.length by omega) : zp = false) (by omega : i < xs.length))) fun _ => g0 fun _ => gh (f8 (I := q0) (l := (g8 xs (a2Z xs id (⟨0, 0, ⟨#[]⟩⟩ : Va)) i)) i dX (by omega)) [0] [] 123 fun _ _ => gh (b6 (l := [.as (q0 ((g8 xs (a2Z xs id (⟨0, 0, ⟨#[]⟩⟩ : Va)) i).getD i dX))]) (l' := [.as (q0 (xs.getD i dX))]) (by rw [a16 (by omega)])) [0] [] 123 fun _ _ => gh (f9 (φ := fun _ => True) (L := a1Y (xs.getD i dX))) [0] [] 123 fun ⟨ql115, xv115⟩ _ => cl (@a6l _ ((xs.getD i dX).1) ql115 ((xs.getD i dX).2.kind) ((xs.getD i dX).2.l) xv115 ((xs.getD i dX).2.nulls) ((xs.getD i dX).2.ws) ((xs.getD i dX).2.b) id (⟨0, 0, ⟨#[]⟩⟩ : Va) (a35 _) hdi a9h (by omega) (by omega) (by omega)) [0, 1, 2] [(1, 911), (2, 912)] 123 fun x2116 _ => gh (d5 (φ := fun _ => True) (L := a1Y ((xs.getD i dX).1, ((a2Z xs id (⟨0, 0, ⟨#[]⟩⟩ : Va)) i))) (ql115, x2116) trivial) [0, 1, 2] [] 123 fun _ _ => gh (U5 (I := q0) (l := (g8 xs (a2Z xs id (⟨0, 0, ⟨#[]⟩⟩ : Va)) i)) i dX ((xs.getD i dX).1, ((a2Z xs id (⟨0, 0, ⟨#[]⟩⟩ : Va)) i)) (by omega)) [0, 1] [] 123 fun _ _ => go (fun _ => (o2 (by omega : -9223372036854775808 <= (i : Int) + 1) (by omega : (i : Int) + 1 < 9223372036854775808))) fun _ => ag111 _ _ (i + 1) (by first | omega | (simp only; omega)) (by omega) [0, 1, 2, 3, 4, 5, 6] (by kernel_rfl) (by kernel_rfl)
 ·have hie : i = xs.length := by omega
  refine gh (b6 (l := [.as (e6 q0 (g8 xs (a2Z xs id (⟨0, 0, ⟨#[]⟩⟩ : Va)) i))]) (l' := [.as (e6 q0 (g8 xs (a2Z xs id (⟨0, 0, ⟨#[]⟩⟩ : Va)) xs.length))]) (by rw [hie])) [0] [] 123 fun _ _ => gh (b6 (l := [vc eX 4 qp xs 156 mp zp]) (l' := [vc eX 4 qp (g8 xs (a2Z xs id (⟨0, 0, ⟨#[]⟩⟩ : Va)) xs.length) 156 mp zp]) (b23 (Q6 xs.length).symm)) [6] [] 123 fun _ _ => gh (b6 (l := [.blk 1 q [.t na, .s 2 qa 4 0 xa.length ca za, .t ka, .s 3 qA 2 0 da.length cA zA, .s 4 qp 1 0 xs.length xs.length zp, .s 102 q9 2 0 l9.length l9.length l9.isEmpty, .i (n : Int)] 148 .own]) (l' := [.blk 1 q [.t na, .s 2 qa 4 0 xa.length ca za, .t ka, .s 3 qA 2 0 da.length cA zA, .s 4 qp 1 0 ((g8 xs (a2Z xs id (⟨0, 0, ⟨#[]⟩⟩ : Va)) xs.length).length) ((g8 xs (a2Z xs id (⟨0, 0, ⟨#[]⟩⟩ : Va)) xs.length).length) zp, .s 102 q9 2 0 l9.length l9.length l9.isEmpty, .i (n : Int)] 148 .own]) (by rw [i7])) [6] [] 123 fun _ _ => g0 fun _ => rt trivial (⟨q9, l9⟩) hor [0, 1, 2, 3]
theorem a6K {q : Nat} {na ka : ByteArray} {qa ca : Nat} {za : Bool} {xa : List Cd} {ta : TypeId} {ma : Md} {qA cA : Nat} {zA : Bool} {da : List De} {qp : Nat} {zp : Bool} {xs : List (Nat × Co)} {ql cL : Nat} {lv : List Sp} {n : Nat} {mp : Md} {s : ByteArray} {j : Nat} (hza : za = true -> xa.length = 0) (hla : xa.length < 1000000) (hzp : zp = true -> xs.length = 0) (hj : e9 xa (fun c => a7 c.name s) = (j : Int)) (hjx : j < xs.length) (hxl : xs.length < 1000000) (hf : ∀ i, i < xs.length -> (xs.getD i dX).2.Fit) : K1 nO 137 [.o (.p 1 q 0 0 0), .o (.t s)] [.blk 1 q [.t na, .s 2 qa 4 0 xa.length ca za, .t ka, .s 3 qA 2 0 da.length cA zA, .s 4 qp 1 0 xs.length xs.length zp, .s 5 ql 2 0 lv.length cL lv.isEmpty, .i (n : Int)] 148 .own, vc eC 2 qa xa ta ma za, vc eX 4 qp xs 156 mp zp, .as (e6 q0 xs)] (.o (.i (((xs.getD j dX).2.ws.length : Nat) : Int))) := by
 refine fs 100 (fun B => ?_)
 obtain ⟨f1, f2, f3, f4⟩ := hf j (by omega)
 refine g0 fun _ => g0 fun _ => cl (@M9 _ q na ka qa ca za xa ta ma qA cA zA da qp zp xs ql cL lv n s (by assumption) (by omega)) [0, 1] [] 100 fun _ _ => g0 fun _ => sv 5 (v := .o (.i (e9 xa (fun c => a7 c.name s)))) (v' := .o (.i (j : Int))) (by rw [hj]) <| g0 fun _ => cdF (b := decide ((j : Int) < 0)) (decide_eq_false (by omega)) <| go (fun _ => (o4 (nz j) (by omega : (j : Int) < (xs.length : Int)) (zf hzp (show 0 < xs.length by omega) : zp = false) (by omega : j < xs.length))) fun _ => gh (f8 (I := q0) (l := xs) j dX (by omega)) [3] [] 100 fun _ _ => gh (f9 (φ := fun _ => True) (L := a1Y (xs.getD j dX))) [0] [] 100 fun ⟨ql107, xv107⟩ _ => cl (@a7i _ ((xs.getD j dX).1) ql107 ((xs.getD j dX).2.kind) ((xs.getD j dX).2.l) xv107 ((xs.getD j dX).2.nulls) ((xs.getD j dX).2.ws) ((xs.getD j dX).2.b) (by omega)) [0, 2] [(1, 911), (2, 912)] 100 fun x2108 _ => gh (d5 (φ := fun _ => True) (L := a1Y (xs.getD j dX)) (ql107, x2108) trivial) [0, 2, 1] [] 100 fun _ _ => gh (j9 (I := q0) (l := xs) j dX (by omega)) [0, 1] [] 100 fun _ _ => g0 fun _ => rt trivial (()) trivial [1, 2, 3, 0]
end Go.Proofs.YtagidoadfajpgaaGreat
