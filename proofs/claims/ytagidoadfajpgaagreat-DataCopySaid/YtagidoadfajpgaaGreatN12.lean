/-
  C6.
-/
import Derived.Test.YtagidoadfajpgaaGreatN11
import Derived.KernelRfl
namespace Go.Abs
section
variable {P : Program} {ρ : Operand -> Option SV} {σ : Operand -> Value} {hp : List Ch} {F : Ft} {A : World} {o : Oper} {v : SV} {ps : List Ob}
theorem set_run (off : Nat) : ∀ (cs a b c : List Value) (k : Nat), a.length = off + k -> b.length = cs.length -> (cs.zipIdx k).foldl (fun (x : Array Value) p => x.setIfInBounds (off + p.2) p.1) (a ++ b ++ c).toArray = (a ++ cs ++ c).toArray
 | [], a, b, c, k, _, hb => by
  have : b = [] := List.eq_nil_of_length_eq_zero (by simpa using hb)
  subst this; rfl
 | v :: cs, a, [], c, k, _, hb => by simp at hb
 | v :: cs, a, w :: b, c, k, ha, hb => by
  have ih := set_run off cs (a ++ [v]) b c (k + 1) (by simp; omega) (by simpa using hb)
  simp only [List.zipIdx_cons, List.foldl_cons]
  have e1 : ((a ++ w :: b ++ c).toArray).setIfInBounds (off + k) v = (a ++ [v] ++ b ++ c).toArray := by
   rw [<- ha]
   simp [List.set_append_right]
  rw [e1, ih]; simp
theorem put_run {l cs : List C1} {off : Nat} (h : off + cs.length <= l.length) : (cells1 cs).zipIdx.foldl (fun (x : Array Value) p => x.setIfInBounds (off + p.2) p.1) (cells1 l) = cells1 (putAt l off cs) := by
 have hs : l = l.take off ++ (l.drop off).take cs.length ++ l.drop (off + cs.length) := by
  rw [<- List.drop_drop, List.append_assoc, List.take_append_drop, List.take_append_drop]
 rw [<- Array.foldl_toList]
 have e : (cells1 cs).zipIdx.toList = (cs.map C1.den).zipIdx 0 := by simp [cells1]
 rw [e]
 have := set_run off (cs.map C1.den) ((l.take off).map C1.den) (((l.drop off).take cs.length).map C1.den) ((l.drop (off + cs.length)).map C1.den) 0 (by simp; omega) (by simp; omega)
 rw [<- List.map_append, <- List.map_append, <- hs] at this
 rw [show cells1 l = (l.map C1.den).toArray from rfl, this]
 simp [cells1, putAt]
theorem cells1_size {l : List C1} : (cells1 l).size = l.length := by simp [cells1]
theorem fill_ok (hρ : RhoOk ρ σ) {place place' : Nat -> Option (Nat × Nat)} (hpl : ∀ i x, place i = some x -> place' i = some x) : ∀ {parts : List (Nat × Operand)} {l l' : List C1} {ps : List Ob}, fillL place l (parts.map fun p => (p.1, ρ p.2)) = some (l', ps) -> AllP ps -> Instr.fill place' (cells1 l) (parts.map fun p => (p.1, σ p.2)) = some (cells1 l')
 | [], l, l', ps, h, _ => by cases h; rfl
 | (i, x) :: parts, l, l', ps, h, hps => by
  simp only [List.map_cons] at h ⊢
  unfold fillL at h
  split at h
  case h_2 => cases h
  rename_i off size v hi hx
  split at h
  case h_2 => cases h
  rename_i cs hc
  split at h
  case h_2 => cases h
  rename_i h1 h2
  split at h
  case h_2 => cases h
  rename_i l2 ps2 h3
  cases h
  obtain ⟨hone, hps⟩ := hps
  have hcell : (σ x).cells = cells1 cs := by rw [hρ _ _ hx]; exact SV.cells_den hc hone
  have hle := Nat.le_of_ble_eq_true h2
  have hsz := Nat.eq_of_beq_eq_true h1
  unfold Instr.fill
  rw [hpl _ _ hi]
  simp only [hcell, cells1_size, hsz]
  rw [if_neg (by simp; omega)]
  have := put_run (l := l) (cs := cs) (off := off) hle
  rw [this]
  exact fill_ok hρ hpl h3 hps
theorem mapM_sizes : ∀ {fs : List Field} (w : World), (places P fs).all Option.isSome = true -> ∃ r : List (Nat × Nat), (fs.mapM (fun f => Go.sizeOf f.type >>= fun s => (Pure.pure (f.offset, s) : Sem (Nat × Nat)))).run P w = .ok r w /\ ∀ (k : Nat) x, (places P fs)[k]? = some (some x) -> r[k]? = some x
 | [], w, _ => ⟨[], by simp [Sem.run_pure], fun k x h => by simp [places] at h⟩
 | f :: fs, w, h => by
  simp only [places, List.map_cons, List.all_cons, Bool.and_eq_true] at h
  obtain ⟨r, h1, h2⟩ := mapM_sizes (fs := fs) w h.2
  cases ht : tsz P f.type with
  | none => rw [ht] at h; simp at h
  | some p =>
   obtain ⟨n, g⟩ := p
   refine ⟨(f.offset, n) :: r, ?_, fun k x hk => ?_⟩
   ·simp only [List.mapM_cons, Sem.run_bind, run_szT (tsz_ok ht), Result.andThen, Sem.run_pure, h1]
   ·cases k with
    | zero => simp only [places, List.map_cons, ht, List.getElem?_cons_zero, Option.some.injEq] at hk; subst hk; rfl
    | succ k => exact h2 k x (by simpa [places] using hk)
theorem evBuild_ok (hρ : RhoOk ρ σ) {t : TypeId} {parts : Array (Nat × Operand)} (ho : o.op = .build t parts) (h : evBuild P ρ t parts = some (v, ps)) (hps : AllP ps) : AOp P σ o A (.value v.den) A := by
 have hzc : ∀ z : Value, cells1 (z.cells.toList.map C1.v) = z.cells := fun z => by
  apply Array.ext'
  simp [cells1, Function.comp_def, C1.den]
 have hpm : (parts.map fun (p : Nat × Operand) => (p.1, σ p.2)).toList = parts.toList.map fun p => (p.1, σ p.2) := by simp
 unfold evBuild at h
 split at h
 ·rename_i fs i hu hi
  split at h
  case h_2 => cases h
  rename_i z hz
  split at h
  case h_2 => cases h
  rename_i l ps' hf
  split at h
  case h_2 => cases h
  rename_i hall
  cases h
  obtain ⟨r, h1, h2⟩ := mapM_sizes (P := P) (fs := fs.toList) A hall
  refine .inr (.inl ⟨by rw [ho]; trivial, ?_⟩)
  unfold execOp; rw [ho]
  have hm : (fs.mapM fun f => Go.sizeOf f.type >>= fun s => (Pure.pure (f.offset, s) : Sem (Nat × Nat))).run P A = .ok r.toArray A := by
   rw [Array.mapM_eq_mapM_toList]
   simp only [map_eq_pure_bind, Sem.run_bind, h1, Result.andThen, Sem.run_pure]
  have := fill_ok (place' := fun k => r.toArray[k]?) hρ (fun k x hk => by
   split at hk
   ·rename_i o2 h3
    subst hk
    have := h2 k x h3
    simpa using this
   ·cases hk) hf hps
  rw [hzc] at this
  simp only [Instr.build, Sem.run_bind, Result.andThen, run_zeroT hi hz, run_under hu]
  rw [hm]
  simp only [hpm, this, Sem.run_pure]
  rfl
 ·rename_i n e i hu hi
  split at h
  case h_2 => cases h
  rename_i z n' g hz ht
  split at h
  case h_2 => cases h
  rename_i l ps' hf
  cases h
  refine .inr (.inl ⟨by rw [ho]; trivial, ?_⟩)
  unfold execOp; rw [ho]
  have := fill_ok (place' := fun k => some (k * n', n')) hρ (fun k x hk => hk) hf hps
  rw [hzc] at this
  simp only [Instr.build, Sem.run_bind, Result.andThen, run_zeroT hi hz, run_under hu, run_szT (tsz_ok ht), hpm, this, Sem.run_pure]
  rfl
 ·cases h
theorem chT_at {l : List Ch} {n q : Nat} {c : Ch} {t : TypeId} {z : Bool} (h : fnd l n = some c) (hc : chT c = some (q, t, z)) (hp : (hpA l).p F A) : z = true ∨ ∃ cs fz, fz ≠ (2, 0) /\ A.heap[q]? = some (.cells cs t fz) := by
 cases c with
 | blk => cases hc; obtain ⟨fz, h1, h2⟩ := blk_at h hp; exact .inr ⟨_, fz, fz_ne h1, h2⟩
 | vec =>
  cases hc
  obtain ⟨h, _⟩ | ⟨_, _, fz, h1, h2⟩ := vec_at h hp
  ·exact .inl h
  ·exact .inr ⟨_, fz, fz_ne h1, h2⟩
 | as => cases hc
theorem run_bnd {v : Value} {k : IntKind} {z : Int} {y : Nat} {code : BoundsCode} {w : World} (hv : v = .int k z) (h0 : 0 <= z) (h : z <= y) : (Instr.sliceBound v y code).run P w = .ok z.toNat w := by
 subst hv
 simp only [Instr.sliceBound, asIntOf, Sem.run_bind, Sem.run_pure, Result.andThen]
 rw [if_pos ⟨h0, h⟩]; rfl
def bndAt (b : Option (IntKind × Int)) (d : Nat) : Int := match b with
 | none => d
 | some (_, z) => z
theorem bnd_ok (hρ : RhoOk ρ σ) {x : Option Operand} {b : Option (IntKind × Int)} (h : bnd ρ x = some b) : x.map σ = b.map fun p => .int p.1 p.2 := by
 unfold bnd at h
 split at h
 ·cases h; rfl
 ·rename_i x
  split at h
  case h_2 => cases h
  rename_i k z hx
  cases h
  simp only [Option.map_some, hρ _ _ hx]; rfl
theorem run_bnds {isS : Bool} {len cap : Nat} {lo hi : Option (IntKind × Int)} (h1 : 0 <= bndAt lo 0) (h2 : bndAt lo 0 <= bndAt hi len) (h3 : bndAt hi len <= cap) (w : World) :
  (Instr.sliceBounds isS len cap (lo.map fun p => .int p.1 p.2) (hi.map fun p => .int p.1 p.2) none).run P w = .ok ((bndAt lo 0).toNat, (bndAt hi len).toNat, cap) w := by
 unfold Instr.sliceBounds
 cases hi with
 | none =>
  simp only [bndAt] at h2 h3 ⊢
  cases lo with
  | none => simp only [Option.map_none, Sem.run_bind, Sem.run_pure, Result.andThen]; rfl
  | some p =>
   simp only [bndAt] at h1 h2 ⊢
   simp only [Option.map_none, Option.map_some, Sem.run_bind, Sem.run_pure, Result.andThen, run_bnd (v := .int p.1 p.2) rfl h1 h2, Option.isSome_none]
   rfl
 | some r =>
  simp only [bndAt] at h2 h3 ⊢
  cases lo with
  | none =>
   simp only [bndAt] at h1 h2 ⊢
   simp only [Option.map_none, Option.map_some, Sem.run_bind, Sem.run_pure, Result.andThen, run_bnd (v := .int r.1 r.2) rfl h2 h3]; rfl
  | some p =>
   simp only [bndAt] at h1 h2 ⊢
   have h4 : p.2 <= (r.2.toNat : Int) := by omega
   simp only [Option.map_some, Sem.run_bind, Sem.run_pure, Result.andThen, run_bnd (v := .int r.1 r.2) rfl (by omega : (0 : Int) <= r.2) h3, run_bnd (v := .int p.1 p.2) rfl h1 h4, Option.isSome_none]
theorem aop_sliceG (hρ : RhoOk ρ σ) {t e : TypeId} {n : Nat} {g : Bool} {x : Operand} {lo hi : Option Operand} {lo' hi' : Option (IntKind × Int)} {b : Option Addr} {len cap : Nat} (ho : o.op = .slice t x lo hi none) (hx : σ x = .slice b len cap) (hu : P.underlying t = some (.slice e)) (h1 : tyOf P e n g = true)
  (hlo : bnd ρ lo = some lo') (hhi : bnd ρ hi = some hi') (k1 : 0 <= bndAt lo' 0) (k2 : bndAt lo' 0 <= bndAt hi' len) (k3 : bndAt hi' len <= cap) (hlen : len <= cap)
  (hb : ∀ a, b = some a -> ∃ cs t' fz, A.heap[a.block]? = some (.cells cs t' fz) /\ fz ≠ (2, 0) /\ (fz = (1, 0) -> P.cellsOf e = P.cellsOf t')) :
  AOp P σ o A (.value (.slice (if cap = (bndAt lo' 0).toNat then b else b.map (·.add ((bndAt lo' 0).toNat * n))) ((bndAt hi' len).toNat - (bndAt lo' 0).toNat) (cap - (bndAt lo' 0).toNat))) A := by
 refine .inr (.inl ⟨?_, ?_⟩)
 ·rw [ho]
  refine ⟨fun a l' c' h' => ?_, fun e' h' => ?_, fun el he a l' c' h' => ?_⟩
  ·rw [hx] at h'; cases h'; exact hlen
  ·rw [hu] at h'; cases h'
  ·rw [hu] at he; cases he; rw [hx] at h'; cases h'; exact hb a rfl
 ·unfold execOp; rw [ho]
  simp only [Instr.sliceAt, Instr.slice, hx, Sem.run_bind, Sem.run_pure, Result.andThen, run_under hu, run_szT h1, bnd_ok hρ hlo, bnd_ok hρ hhi, Option.map_none, run_bnds k1 k2 k3]
theorem aop_sliceS (hρ : RhoOk ρ σ) {t : TypeId} {x : Operand} {lo hi : Option Operand} {lo' hi' : Option (IntKind × Int)} {s : ByteArray} (ho : o.op = .slice t x lo hi none) (hx : σ x = .string s) (hu : P.underlying t = some .string)
  (hlo : bnd ρ lo = some lo') (hhi : bnd ρ hi = some hi') (k1 : 0 <= bndAt lo' 0) (k2 : bndAt lo' 0 <= bndAt hi' s.size) (k3 : bndAt hi' s.size <= s.size) :
  AOp P σ o A (.value (.string (s.extract (bndAt lo' 0).toNat (bndAt hi' s.size).toNat))) A := by
 refine .inr (.inl ⟨?_, ?_⟩)
 ·rw [ho]
  refine ⟨fun a l' c' h' => ?_, fun e' h' => ?_, fun el he a l' c' h' => ?_⟩
  ·rw [hx] at h'; cases h'
  ·rw [hu] at h'; cases h'
  ·rw [hu] at he; cases he
 ·unfold execOp; rw [ho]
  simp only [Instr.sliceAt, Instr.slice, hx, Sem.run_bind, Sem.run_pure, Result.andThen, run_under hu, bnd_ok hρ hlo, bnd_ok hρ hhi, Option.map_none]
  simp [run_bnds k1 k2 k3, Result.andThen]
theorem cond_map {z : Bool} {q a n : Nat} : (cond z none (some (⟨q, a, none⟩ : Addr))).map (·.add n) = cond z none (some ⟨q, a + n, none⟩) := by
 cases z
 ·simp [Addr.add_mk]
 ·rfl
theorem evSlice_ok (hρ : RhoOk ρ σ) (hH : (hpA hp).p F A) {t : TypeId} {x : Operand} {lo hi : Option Operand} (ho : o.op = .slice t x lo hi none) (h : evSlice P ρ hp t x lo hi = some (v, ps)) (hps : AllP ps) : AOp P σ o A (.value v.den) A := by
 unfold evSlice at h
 split at h
 ·rename_i g q w oo n c z e lo' hi' hx hu hlo hhi
  have hx' : σ x = .slice (cond z none (some ⟨q, oo * w, none⟩)) n c := hρ _ _ hx
  split at h
  case h_2 => cases h
  rename_i sz ag ht
  split at h
  case h_2 => cases h
  rename_i c0 hw hf
  obtain rfl := Nat.eq_of_beq_eq_true hw
  split at h
  case h_2 => cases h
  rename_i q' t' z' hc
  split at h
  case h_2 => cases h
  rename_i hce
  have hbk : q = q' -> z = z' -> ∀ a : Addr, cond z none (some (⟨q, oo * sz, none⟩ : Addr)) = some a -> ∃ cs t' fz, A.heap[a.block]? = some (.cells cs t' fz) /\ fz ≠ (2, 0) /\ (fz = (1, 0) -> P.cellsOf e = P.cellsOf t') := fun hq hz a ha => by
   subst hq; subst hz
   cases z with
   | true => cases ha
   | false =>
    cases ha
    obtain h | ⟨cs, fz, hne, hB⟩ := chT_at hf hc hH
    ·cases h
    ·exact ⟨cs, t', fz, hB, hne, fun _ => Nat.eq_of_beq_eq_true hce⟩
  have low : ∀ {l : Int}, 0 <= l -> (l.toNat + oo) * sz = oo * sz + l.toNat * sz := fun {l} _ => by rw [Nat.add_mul, Nat.add_comm]
  split at h
  ·cases h
   obtain ⟨hq, hz, hnc, _⟩ := hps
   have := aop_sliceG hρ (A := A) ho hx' hu (tsz_ok ht) hlo hhi (by simp [bndAt]) (by simp [bndAt]) (by simpa [bndAt] using hnc) hnc (hbk hq hz)
   simpa [bndAt, SV.den, C1.den, cond_map] using this
  ·cases h
   obtain ⟨hq, hz, hnc, h0, h1, _⟩ := hps
   have := aop_sliceG hρ (A := A) ho hx' hu (tsz_ok ht) hlo hhi (by simp [bndAt]) (by simpa [bndAt] using h0) (by simpa [bndAt] using h1) hnc (hbk hq hz)
   simpa [bndAt, SV.den, C1.den, cond_map] using this
  ·rename_i kk l
   cases h
   obtain ⟨hq, hz, hnc, h0, h1, _⟩ := hps
   have := aop_sliceG hρ (A := A) ho hx' hu (tsz_ok ht) hlo hhi (by simpa [bndAt] using h0) (by simpa [bndAt] using h1) (by simpa [bndAt] using hnc) hnc (hbk hq hz)
   simp only [bndAt, Int.toNat_natCast] at this
   show AOp P σ o A (.value (.slice (cond z none (some ⟨q, ofs c l.toNat oo * sz, none⟩)) _ _)) A
   unfold ofs
   by_cases hne : c = l.toNat
   ·rw [if_pos hne]; simpa [hne] using this
   ·rw [if_neg hne]; simpa [hne, cond_map, low h0] using this
  ·rename_i kk l kk' h'
   cases h
   obtain ⟨hq, hz, hnc, h0, h1, h2, _⟩ := hps
   have := aop_sliceG hρ (A := A) ho hx' hu (tsz_ok ht) hlo hhi (by simpa [bndAt] using h0) (by simpa [bndAt] using h1) (by simpa [bndAt] using h2) hnc (hbk hq hz)
   simp only [bndAt] at this
   show AOp P σ o A (.value (.slice (cond z none (some ⟨q, ofs c l.toNat oo * sz, none⟩)) _ _)) A
   unfold ofs
   by_cases hne : c = l.toNat
   ·rw [if_pos hne]; simpa [hne] using this
   ·rw [if_neg hne]; simpa [hne, cond_map, low h0] using this
 ·rename_i s lo' hi' hx hu hlo hhi
  have hx' : σ x = .string s := hρ _ _ hx
  split at h
  ·cases h
  ·cases h
   obtain ⟨h0, h1, _⟩ := hps
   have := aop_sliceS hρ (A := A) ho hx' hu hlo hhi (by simp [bndAt]) (by simpa [bndAt] using h0) (by simpa [bndAt] using h1)
   simpa [bndAt, SV.den, C1.den] using this
  ·cases h
   obtain ⟨h0, h1, _⟩ := hps
   have := aop_sliceS hρ (A := A) ho hx' hu hlo hhi (by simpa [bndAt] using h0) (by simpa [bndAt] using h1) (by simp [bndAt])
   simpa [bndAt, SV.den, C1.den] using this
  ·cases h
   obtain ⟨h0, h1, h2, _⟩ := hps
   have := aop_sliceS hρ (A := A) ho hx' hu hlo hhi (by simpa [bndAt] using h0) (by simpa [bndAt] using h1) (by simpa [bndAt] using h2)
   simpa [bndAt, SV.den, C1.den] using this
 ·cases h
theorem run_bnds3 {isS : Bool} {len cap : Nat} {kl kh km : IntKind} {l h m : Int} (h1 : 0 <= l) (h2 : l <= h) (h3 : h <= m) (h4 : m <= cap) (w : World) :
  (Instr.sliceBounds isS len cap (some (.int kl l)) (some (.int kh h)) (some (.int km m))).run P w = .ok (l.toNat, h.toNat, m.toNat) w := by
 unfold Instr.sliceBounds
 simp only [Sem.run_bind, Sem.run_pure, Result.andThen, Option.isSome_some]
 rw [run_bnd (v := .int km m) rfl (by omega) h4]
 simp only
 rw [run_bnd (v := .int kh h) rfl (by omega) (by omega)]
 simp only
 rw [run_bnd (v := .int kl l) rfl h1 (by omega)]
theorem evSlice3_ok (hρ : RhoOk ρ σ) (hH : (hpA hp).p F A) {t : TypeId} {x lo hi mx : Operand} (ho : o.op = .slice t x (some lo) (some hi) (some mx)) (h : evSlice3 P ρ hp t x lo hi mx = some (v, ps)) (hps : AllP ps) : AOp P σ o A (.value v.den) A := by
 unfold evSlice3 at h
 split at h
 case h_2 => cases h
 rename_i g q w oo n c z e kl l kh hh km m hx hu hlo hhi hmx
 have hx' : σ x = .slice (cond z none (some ⟨q, oo * w, none⟩)) n c := hρ _ _ hx
 split at h
 case h_2 => cases h
 rename_i sz ag ht
 split at h
 case h_2 => cases h
 rename_i c0 hw hf
 obtain rfl := Nat.eq_of_beq_eq_true hw
 split at h
 case h_2 => cases h
 rename_i q' t' z' hc
 split at h
 case h_2 => cases h
 rename_i hce
 cases h
 obtain ⟨hq, hz, hnc, h0, h1, h2, h3, _⟩ := hps
 subst hq; subst hz
 have hbk : ∀ a : Addr, cond z none (some (⟨q, oo * sz, none⟩ : Addr)) = some a -> ∃ cs t' fz, A.heap[a.block]? = some (.cells cs t' fz) /\ fz ≠ (2, 0) /\ (fz = (1, 0) -> P.cellsOf e = P.cellsOf t') := fun a ha => by
  cases z with
  | true => cases ha
  | false =>
   cases ha
   obtain h | ⟨cs, fz, hne, hB⟩ := chT_at hf hc hH
   ·cases h
   ·exact ⟨cs, t', fz, hB, hne, fun _ => Nat.eq_of_beq_eq_true hce⟩
 refine .inr (.inl ⟨?_, ?_⟩)
 ·rw [ho]
  refine ⟨fun a l' c' h' => ?_, fun e' h' => ?_, fun el he a l' c' h' => ?_⟩
  ·rw [hx'] at h'; cases h'; exact hnc
  ·rw [hu] at h'; cases h'
  ·rw [hu] at he; cases he; rw [hx'] at h'
   generalize hb : cond z none (some (⟨q, oo * sz, none⟩ : Addr)) = b at h'
   cases h'
   exact hbk a hb
 ·unfold execOp; rw [ho]
  have e1 : σ lo = .int kl l := hρ _ _ hlo
  have e2 : σ hi = .int kh hh := hρ _ _ hhi
  have e3 : σ mx = .int km m := hρ _ _ hmx
  simp only [Instr.sliceAt, Instr.slice, hx', Option.map_some, e1, e2, e3, Sem.run_bind, Sem.run_pure, Result.andThen, run_under hu, run_szT (tsz_ok ht), run_bnds3 h0 h1 h2 h3]
  show _ = Result.ok (Next.value (.slice (cond z none (some ⟨q, ofs m.toNat l.toNat oo * sz, none⟩)) _ _)) A
  unfold ofs
  by_cases hne : m.toNat = l.toNat
  ·rw [if_pos hne, if_pos hne]
  ·rw [if_neg hne, if_neg hne, cond_map, Nat.add_mul, Nat.add_comm (oo * sz)]
theorem evq_ok {ov : Bool} (hρ : RhoOk ρ σ) (hH : (hpA hp).p F A) (h : evq P ov ρ hp o.op = some (v, ps)) (hps : AllP ps) : AOp P σ o A (.value v.den) A := by
 have mp : ∀ {x : Option SV}, x.map (fun v => (v, ([] : List Ob))) = some (v, ps) -> x = some v := fun {x} h => by
  rw [Option.map_eq_some_iff] at h
  obtain ⟨u, hu, e⟩ := h
  cases e; exact hu
 unfold evq at h
 split at h <;> rename_i ho
 ·exact aop_mv ho (hρ _ _ (mp h))
 ·exact aop_as ho (hρ _ _ (mp h))
 ·exact evPick_ok hρ ho h hps
 ·exact evLoad_ok hρ hH ho h hps
 ·exact evNilCheck_ok hρ ho h
 ·exact evBin_ok hρ ho h hps
 ·exact evNot_ok hρ ho h
 ·exact evConv_ok hρ ho h
 ·exact evFieldAddr_ok hρ ho h
 ·exact evField_ok hρ ho h
 ·exact evIndexAddr_ok hρ ho h hps
 ·exact evIndex_ok hρ ho h hps
 ·exact evFunc_ok hρ ho h
 ·exact evExtract_ok hρ ho h
 ·exact evBuild_ok hρ ho h hps
 ·exact evSlice_ok hρ hH ho h hps
 ·exact evSlice3_ok hρ hH ho h hps
 ·split at h <;> rename_i hc
  ·exact evLenS_ok hρ ho hc h
  ·exact evCap_ok hρ ho hc h
  ·exact evMinMax_ok (mn := true) hρ ho hc h hps
  ·exact evMinMax_ok (mn := false) hρ ho hc h hps
  ·cases h
 ·cases h
end
end Go.Abs
namespace Go.Abs
structure St where
 env : List (Nat × SV)
 hp : List Ch
 sz : Nat
 nx : Nat
 ov : Bool := false
 df : List Nat := []
def mkD (q : Nat) : Deferred := { target := .collected q, args := #[] }
def Sat (B : Ft × World) (s : St) (a : Act) (A : World) : Prop := EnvOk s.env a /\ a.tmps.size = s.sz /\ a.defers = s.df.map mkD /\ ∃ F, (hpA s.hp).p F A /\ Mv B.1 B.2 F A
def putE (s : St) (d : Option Tmp) (v : SV) : Option St := match d with
 | none => some s
 | some d => match Nat.blt d s.sz with
  | true => some { s with env := (d, v) :: rem s.env d }
  | false => none
theorem look_rem : ∀ {l : List (Nat × SV)} {t i : Nat} {v : SV}, look (rem l t) i = some v -> i ≠ t /\ look l i = some v
 | [], t, i, v, h => by cases h
 | (j, u) :: l, t, i, v, h => by
  simp only [rem] at h
  split at h
  ·rename_i e
   obtain ⟨h1, h2⟩ := look_rem h
   have := Nat.eq_of_beq_eq_true e
   refine ⟨h1, ?_⟩
   simp only [look]
   rw [show Nat.beq j i = false from by
    cases hb : Nat.beq j i
    ·rfl
    ·exact absurd (Nat.eq_of_beq_eq_true hb) (by omega)]
   exact h2
  ·rename_i e
   simp only [look] at h ⊢
   split at h
   ·rename_i e2
    cases h
    have := Nat.eq_of_beq_eq_true e2
    subst this
    refine ⟨fun h => ?_, rfl⟩
    subst h
    rw [Nat.beq_refl] at e; cases e
   ·exact look_rem h
theorem EnvOk.put {s : St} {a : Act} {d : Nat} {v : SV} {u : Value} (h : EnvOk s.env a) (hd : d < a.tmps.size) (hu : u = v.den) : EnvOk ((d, v) :: rem s.env d) (a.put (some d) u) := by
 intro i w hi
 have e : (a.put (some d) u).tmps = a.tmps.setIfInBounds d u := rfl
 simp only [look] at hi
 split at hi
 ·rename_i e2
  cases hi
  have := Nat.eq_of_beq_eq_true e2
  subst this
  rw [e, Array.getD_eq_getD_getElem?, Array.getElem?_setIfInBounds_self_of_lt hd]
  exact hu
 ·obtain ⟨hne, hi⟩ := look_rem hi
  rw [e, Array.getD_eq_getD_getElem?, Array.getElem?_setIfInBounds_ne (fun h => hne h.symm), <- Array.getD_eq_getD_getElem?]
  exact h i w hi
theorem putE_ok {B : Ft × World} {s s1 : St} {a : Act} {A A1 : World} {d : Option Tmp} {v : SV} {u : Value} {hp : List Ch} {nx : Nat} (h : Sat B s a A) (hp1 : ∃ F, (hpA hp).p F A1 /\ Mv B.1 B.2 F A1) (hs : putE { s with hp := hp, nx := nx } d v = some s1) (hu : u = v.den) : Sat B s1 (a.put d u) A1 /\ s1.nx = nx /\ s1.hp = hp := by
 obtain ⟨h1, h2, h3, _⟩ := h
 unfold putE at hs
 cases d with
 | none =>
  cases hs
  exact ⟨⟨h1, h2, h3, hp1⟩, rfl, rfl⟩
 | some d =>
  simp only at hs
  split at hs
  case h_2 => cases hs
  rename_i hb
  cases hs
  have hd : d < s.sz := by
   have := Nat.le_of_ble_eq_true (show Nat.ble (d + 1) s.sz = true from hb)
   exact this
  refine ⟨⟨EnvOk.put h1 (by rw [h2]; exact hd) hu, ?_, h3, hp1⟩, rfl, rfl⟩
  show (a.tmps.setIfInBounds d u).size = _
  rw [Array.size_setIfInBounds]; exact h2
inductive Wt where
 | yes | no | may (e : Bool)
def wantS (ops : Array Oper) (env : List (Nat × SV)) (o : Oper) : Option Wt := match o.guard with
 | none => some .yes
 | some (j, b) => match (ops[j]?).bind (·.dst) with
  | none => none
  | some d => match look env d with
   | some (.o (.v (.bool true))) => some (match b with | true => .yes | false => .no)
   | some (.o (.v (.bool false))) => some (match b with | true => .no | false => .yes)
   | some (.o (.v (.tuple _))) => some .no
   | some (.o (.cb e)) => some (.may (sameB b e))
   | some (.kk _ _ e false [c]) => match boolOf c with
    | some x => some (.may (and e (sameB b x)))
    | none => none
   | _ => none
def Wt.ok : Wt -> Bool -> Prop
 | .yes, b => b = true
 | .no, b => b = false
 | .may e, b => b = e
theorem wantS_ok {ops : Array Oper} {s : St} {B : Ft × World} {a : Act} {A : World} {o : Oper} {b : Wt} (hs : Sat B s a A) (h : wantS ops s.env o = some b) : b.ok (Region.wanted o (yielded ops a.tmps)) := by
 unfold wantS at h
 unfold Region.wanted
 split at h
 ·rename_i hg; rw [hg]; cases h; rfl
 ·rename_i j w hg
  rw [hg]
  simp only
  split at h
  ·cases h
  ·rename_i d hd
   have key : ∀ v, look s.env d = some v -> yielded ops a.tmps j = match v.den with | .bool b => some b | _ => none := fun v hv => by
    have := hs.1 d v hv
    unfold yielded
    rw [hd, Option.bind_some]
    rw [Array.getD_eq_getD_getElem?] at this
    cases hx : a.tmps[d]? with
    | none =>
     rw [hx] at this
     simp only [Option.getD_none] at this
     rw [<- this]
     rfl
    | some x =>
     rw [hx] at this
     simp only [Option.getD_some] at this
     rw [<- this]
     cases x <;> rfl
   split at h
   ·rename_i hl
    cases h
    rw [key _ hl]
    cases w <;> rfl
   ·rename_i hl
    cases h
    rw [key _ hl]
    cases w <;> rfl
   ·rename_i hl
    cases h
    rw [key _ hl]
    rfl
   ·rename_i e hl
    cases h
    rw [key _ hl]
    cases w <;> cases e <;> rfl
   ·rename_i e c hl
    split at h
    case h_2 => cases h
    rename_i x hx
    cases h
    rw [key _ hl]
    have hc := boolOf_den hx
    cases e with
    | false => simp only [SV.den, Bool.false_eq_true, if_false]; rfl
    | true =>
     simp only [SV.den, if_true, compV, List.headD, hc]
     cases w <;> cases x <;> rfl
   ·cases h
def evMk (P : Program) (ρ : Operand -> Option SV) (q g : Nat) : Op -> Option (SV × List C1 × TypeId × List Ob)
 | .alloc t => match P.info? t with
  | some i => match i.zero with
   | some z => some (.o (.p g q 0 0 0), z.cells.toList.map C1.v, t, [])
   | none => none
  | none => none
 | .box t x => match ρ x with
  | some v => match v.cells with
   | some l => some (.o (.p g q 0 0 0), l, t, [.q (l.all C1.one) true])
   | none => none
  | none => none
 | .buildSlice t n parts => match P.underlying t with
  | some (.slice e) => match tsz P e, P.info? e with
   | some (sz, _), some i => match i.zero with
    | some z => match Nat.ble (n * sz) 16777216, Nat.beq (n * sz) 0 with
     | true, false => match fillL (fun k => some (k * sz, sz)) ((List.range (n * sz)).map fun k => C1.v (z.cells[k % z.cells.size]!)) (parts.toList.map fun p => (p.1, ρ p.2)) with
      | some (l, ps) => some (.o (.s g q sz 0 n n false), l, e, ps)
      | none => none
     | true, true => match parts.toList with
      | [] => some (.o (.s g q sz 0 n n false), [], e, [])
      | _ => none
     | _, _ => none
    | none => none
   | _, _ => none
  | _ => none
 | .makeSlice t x y => match P.underlying t, ρ x, ρ y with
  | some (.slice e), some (.o (.v (.int .i64 m))), some (.o (.v (.int .i64 n))) => match tsz P e, P.info? e with
   | some (sz, _), some i => match i.zero with
    | some z => match and (and (decide (m = n)) (decide (0 < n))) (and (Nat.ble (i.bytes * n.toNat) 16777216) (and (Nat.ble n.toNat 16777216) (Nat.ble 1 sz))) with
     | true => some (.o (.s g q sz 0 n.toNat n.toNat false), (List.range (n.toNat * sz)).map fun k => C1.v (z.cells[k % z.cells.size]!), e, [])
     | false => none
    | none => none
   | _, _ => none
  | _, _, _ => none
 | _ => none
section
variable {P : Program} {ρ : Operand -> Option SV} {σ : Operand -> Value} {o : Oper}
theorem evMk_ok (hρ : RhoOk ρ σ) {q g : Nat} {v : SV} {l : List C1} {t : TypeId} {ps : List Ob} (h : evMk P ρ q g o.op = some (v, l, t, ps)) (hps : AllP ps) :
  kindOf o.op = .makes /\ newVal v.den q /\ ∀ w : World, w.heap.size = q -> RegOk P w σ o.op /\ (execOp σ o).run P w = .ok (.value v.den) (w.alloc (.cells (cells1 l) t (0, 0))) := by
 have hzc : ∀ z : Value, cells1 (z.cells.toList.map C1.v) = z.cells := fun z => by
  apply Array.ext'
  simp [cells1, Function.comp_def, C1.den]
 have e00 : (⟨q, 0 * 0 + 0, none⟩ : Addr) = ⟨q, 0, none⟩ := rfl
 unfold evMk at h
 split at h
 ·rename_i t' ho
  split at h
  case h_2 => cases h
  rename_i i hi
  split at h
  case h_2 => cases h
  rename_i z hz
  cases h
  refine ⟨by rw [ho]; rfl, .inl rfl, fun w hw => ⟨by rw [ho]; trivial, ?_⟩⟩
  unfold execOp; rw [ho, hzc]
  subst hw
  simp only [Instr.alloc, Sem.run_bind, Result.andThen, run_zeroT hi hz, newVar, newRow]
  rfl
 ·rename_i t' x ho
  split at h
  case h_2 => cases h
  rename_i u hu
  split at h
  case h_2 => cases h
  rename_i l' hl
  cases h
  obtain ⟨hone, _⟩ := hps
  have hx := hρ _ _ hu
  have hc := SV.cells_den hl hone
  refine ⟨by rw [ho]; rfl, .inl rfl, fun w hw => ⟨by rw [ho]; trivial, ?_⟩⟩
  unfold execOp; rw [ho]
  subst hw
  simp only [hx, Instr.box, newVar, newRow, hc]
  rfl
 ·rename_i t' n parts ho
  split at h
  case h_2 => cases h
  rename_i e hu
  split at h
  case h_2 => cases h
  rename_i sz ag i ht hi
  split at h
  case h_2 => cases h
  rename_i z hz
  split at h
  case h_3 => cases h
  ·rename_i h1 h2
   split at h
   case h_2 => cases h
   rename_i l' ps' hf
   cases h
   have h1' := Nat.le_of_ble_eq_true h1
   have h2' : ¬ n * sz = 0 := fun e => by rw [e] at h2; cases h2
   refine ⟨by rw [ho]; rfl, .inr (.inl ⟨n, n, ?_⟩), fun w hw => ⟨by rw [ho]; trivial, ?_⟩⟩
   ·show Value.slice (some ⟨q, 0 * sz, none⟩) n n = _
    rw [Nat.zero_mul]
   unfold execOp; rw [ho]
   subst hw
   have hpm : (parts.map fun (p : Nat × Operand) => (p.1, σ p.2)).toList = parts.toList.map fun p => (p.1, σ p.2) := by simp
   have := fill_ok (place' := fun k => some (k * sz, sz)) hρ (fun k x hk => hk) hf hps
   have hcz : cells1 ((List.range (n * sz)).map fun k => C1.v (z.cells[k % z.cells.size]!)) = (Array.range (n * sz)).map (z.cells[· % z.cells.size]!) := by
    apply Array.ext'
    simp [cells1, Function.comp_def, C1.den]
   rw [hcz] at this
   simp only [Instr.buildSlice, Sem.run_bind, Result.andThen, run_under hu, run_szT (tsz_ok ht)]
   rw [if_neg (by omega), if_neg h2']
   simp only [Sem.run_bind, Sem.run_pure, Result.andThen, run_zeroT hi hz, hpm, this, newRow]
   show _ = Result.ok (Next.value (Value.slice (some ⟨w.heap.size, 0 * sz, none⟩) n n)) _
   rw [Nat.zero_mul]
   rfl
  ·rename_i h1 h2
   split at h
   case h_2 => cases h
   rename_i hp
   cases h
   have h2' : n * sz = 0 := Nat.eq_of_beq_eq_true h2
   refine ⟨by rw [ho]; rfl, .inr (.inl ⟨n, n, ?_⟩), fun w hw => ⟨by rw [ho]; trivial, ?_⟩⟩
   ·show Value.slice (some ⟨q, 0 * sz, none⟩) n n = _
    rw [Nat.zero_mul]
   unfold execOp; rw [ho]
   subst hw
   have hpm : (parts.map fun (p : Nat × Operand) => (p.1, σ p.2)).toList = [] := by simp [hp]
   have hr : (Array.range 0 : Array Nat) = #[] := rfl
   simp only [Instr.buildSlice, Sem.run_bind, Sem.run_pure, Result.andThen, run_under hu, run_szT (tsz_ok ht), h2', hpm]
   rw [if_neg (by decide : ¬ 0 > 2 ^ 24)]
   simp only [if_true, Sem.run_bind, Sem.run_pure, Result.andThen, hr, Array.map_empty, Instr.fill]
   show _ = Result.ok (Next.value (Value.slice (some ⟨w.heap.size, 0 * sz, none⟩) n n)) _
   rw [Nat.zero_mul]
   rfl
 ·rename_i t' x y ho
  split at h
  case h_2 => cases h
  rename_i e m n hu hx hy
  split at h
  case h_2 => cases h
  rename_i sz ag i ht hi
  split at h
  case h_2 => cases h
  rename_i z hz
  split at h
  case h_2 => cases h
  rename_i hc
  cases h
  simp only [Bool.and_eq_true, decide_eq_true_eq] at hc
  obtain ⟨⟨rfl, hm⟩, h1, h3, h4⟩ := hc
  have h1' := Nat.le_of_ble_eq_true h1
  have h3' := Nat.le_of_ble_eq_true h3
  have h4' := Nat.le_of_ble_eq_true h4
  obtain ⟨n, rfl⟩ : ∃ n : Nat, m = n := ⟨m.toNat, by omega⟩
  rw [Int.toNat_natCast] at h1' h3'
  refine ⟨by rw [ho]; rfl, .inr (.inl ⟨n, n, ?_⟩), fun w hw => ⟨by rw [ho]; trivial, ?_⟩⟩
  ·show Value.slice (some ⟨q, 0 * sz, none⟩) (Int.toNat n) (Int.toNat n) = _
   rw [Nat.zero_mul, Int.toNat_natCast]
  have hvx : σ x = .int .i64 n := hρ _ _ hx
  have hvy : σ y = .int .i64 n := hρ _ _ hy
  unfold execOp; rw [ho]
  subst hw
  have hti : (typeInfo t).run P w = .ok i w := by simp [typeInfo, program, Sem.run, Bind.bind, Sem.bind, Pure.pure, hi]
  have hw : IntKind.i64.wrap (n : Int) = n := wrap_id (by omega) (by omega)
  have hr : (askRoom (n * i.bytes)).run P w = .ok () w := by
   unfold askRoom
   split
   ·rfl
   ·rfl
  have hc : (decide ((n : Int) < 0) || decide ((i.bytes : Int) * n > 2 ^ 48) || decide ((n : Int) < 0) || decide ((n : Int) > n)) = false := by
   have h48 : ((i.bytes * n : Nat) : Int) <= 16777216 := Int.ofNat_le.2 h1'
   rw [Int.natCast_mul] at h48
   have h49 : ¬ ((i.bytes : Int) * n > 281474976710656) := by omega
   have h50 : ¬ ((n : Int) < 0) := by omega
   have h51 : ¬ ((n : Int) > n) := by omega
   rw [decide_eq_false h50, decide_eq_false h51, show decide ((i.bytes : Int) * n > 2 ^ 48) = false from decide_eq_false h49]
   rfl
  have hn0 : ¬ n * sz = 0 := fun e => by
   rcases Nat.mul_eq_zero.1 e with h | h
   ·subst h; exact absurd hm (by decide)
   ·omega
  have hcz : cells1 ((List.range ((n : Int).toNat * sz)).map fun k => C1.v (z.cells[k % z.cells.size]!)) = (Array.range (n * sz)).map (z.cells[· % z.cells.size]!) := by
   rw [Int.toNat_natCast]
   apply Array.ext'
   simp [cells1, Function.comp_def, C1.den]
  rw [hcz]
  simp only [Instr.makeSlice, hvx, hvy, asInt, asIntOf, Sem.run_bind, Sem.run_pure, Result.andThen, run_under hu, hti, hw]
  rw [hc]
  simp only [Bool.false_eq_true, if_false, Sem.run_bind, Int.toNat_natCast, hr, Result.andThen, run_szT (tsz_ok ht)]
  rw [if_neg hn0]
  simp only [Sem.run_bind, Sem.run_pure, Result.andThen, run_zeroT hi hz, newRow]
  show _ = Result.ok (Next.value (Value.slice (some ⟨w.heap.size, 0 * sz, none⟩) (Int.toNat n) (Int.toNat n))) _
  rw [Nat.zero_mul, Int.toNat_natCast]
  rfl
 ·cases h
end
end Go.Abs
namespace Go.Abs
section
variable {P : Program} {A : World}
theorem store_runs {q : Nat} {t : TypeId} {fz : Nat × Nat} (hf : fz = (0, 0) ∨ fz = (1, 0)) : ∀ {new a b c : List Value} {off i : Nat} {A : World}, new.all isOne = true -> A.heap[q]? = some (.cells (a ++ b ++ c).toArray t fz) -> a.length = off + i -> b.length = new.length ->
  ∃ A', (storeCells ⟨q, off, none⟩ new i).run P A = .ok () A' /\ A'.heap[q]? = some (.cells (a ++ new ++ c).toArray t fz) /\ A'.heap.size = A.heap.size /\ ∀ k, k ≠ q -> A'.heap[k]? = A.heap[k]?
 | [], a, b, c, off, i, A, _, h, _, hb => by
  have : b = [] := List.eq_nil_of_length_eq_zero (by simpa using hb)
  subst this
  exact ⟨A, rfl, h, rfl, fun _ _ => rfl⟩
 | v :: new, a, [], c, off, i, A, _, h, _, hb => by simp at hb
 | v :: new, a, w :: b, c, off, i, A, ho, h, ha, hb => by
  simp only [List.all_cons, Bool.and_eq_true] at ho
  have e : (⟨q, off, none⟩ : Addr).add i = ⟨q, a.length, none⟩ := by rw [Addr.add_mk, ha]
  have hcell : A.cell? ⟨q, a.length, none⟩ = some w := by
   simp only [World.cell?, h]
   simp
  have hfr : A.frozen? ⟨q, a.length, none⟩ = false := by
   simp only [World.frozen?, h]
   rcases hf with rfl | rfl <;> simp
  have h1 : (A.setCell ⟨q, a.length, none⟩ v).heap[q]? = some (.cells (a ++ [v] ++ b ++ c).toArray t fz) := by
   show (A.heap.modify q _)[q]? = _
   rw [Array.getElem?_modify, if_pos rfl, h]
   simp [List.set_append_right]
  obtain ⟨A', r, h2, h3, h4⟩ := store_runs (new := new) (a := a ++ [v]) (b := b) (c := c) (off := off) (i := i + 1) hf ho.2 h1 (by simp; omega) (by simpa using hb)
  refine ⟨A', ?_, by simpa using h2, h3.trans set_size, fun k hk => (h4 k hk).trans (set_ne hk)⟩
  simp only [storeCells, Sem.run_bind, e, run_store ho.1 hcell hfr, Result.andThen, r]
end
def updH : List Ch -> Nat -> List C1 -> List Ch
 | [], _, _ => []
 | .blk g q cs t m :: l, n, cs' => match Nat.beq g n with
  | true => .blk g q cs' t m :: l
  | false => .blk g q cs t m :: updH l n cs'
 | c :: l, n, cs' => c :: updH l n cs'
theorem fnd_own {m : Md} (hm : m.mine = true) : ∀ {l : List Ch} {n g q : Nat} {cs : List C1} {t : TypeId} {F : Ft} {A : World}, fnd l n = some (.blk g q cs t m) -> (hpA l).p F A -> F.own q
 | [], _, _, _, _, _, _, _, h, _ => by cases h
 | .blk g' q' cs' t' m' :: l, n, g, q, cs, t, F, A, h, ⟨F1, F2, h1, h2, j⟩ => by
  simp only [fnd] at h
  split at h
  ·cases h
   exact (j.own q').2 (.inl ((h1.1 q').2 ⟨hm, rfl⟩))
  ·exact (j.own q).2 (.inr (fnd_own hm h h2))
 | .vec .. :: l, n, g, q, cs, t, F, A, h, ⟨F1, F2, h1, h2, j⟩ => by
  simp only [fnd] at h
  split at h
  ·cases h
  ·exact (j.own q).2 (.inr (fnd_own hm h h2))
 | .as _ :: l, n, g, q, cs, t, F, A, h, ⟨F1, F2, h1, h2, j⟩ => (j.own q).2 (.inr (fnd_own hm (show fnd l n = _ from h) h2))
theorem updH_ok {m : Md} (hm : m.mine = true) {A A' : World} {q : Nat} (hk : ∀ k, k ≠ q -> A'.heap[k]? = A.heap[k]?) : ∀ {l : List Ch} {n g : Nat} {cs cs' : List C1} {t : TypeId} {F : Ft}, fnd l n = some (.blk g q cs t m) -> (∃ fz, m.fz fz /\ A'.heap[q]? = some (.cells (cells1 cs') t fz)) -> (hpA l).p F A -> (hpA (updH l n cs')).p F A'
 | [], _, _, _, _, _, _, h, _, _ => by cases h
 | .blk g' q' c0 t' m' :: l, n, g, cs, cs', t, F, h, hB, ⟨F1, F2, h1, h2, j⟩ => by
  simp only [fnd, updH] at h ⊢
  split at h
  ·rename_i e
   cases h
   try rw [e]
   refine ⟨F1, F2, ⟨h1.1, h1.2.1, hB⟩, As.loc _ h2 fun b hb => hk b ?_, j⟩
   rintro rfl
   have := (h1.1 b).2 ⟨hm, rfl⟩
   exact hb.elim (j.oo b this) (j.oi b this)
  ·rename_i e
   try rw [e]
   have ho := fnd_own hm h h2
   refine ⟨F1, F2, As.loc _ h1 fun b hb => hk b ?_, updH_ok hm hk h hB h2, j⟩
   rintro rfl
   exact hb.elim (fun hb => j.oo b hb ho) (fun hb => j.io b hb ho)
 | .vec (α := α) g' q' w' en d xs t' m' z' :: l, n, g, cs, cs', t, F, h, hB, ⟨F1, F2, h1, h2, j⟩ => by
  simp only [fnd] at h
  split at h
  ·cases h
  ·have ho := fnd_own hm h h2
   refine ⟨F1, F2, As.loc _ h1 fun b hb => hk b ?_, updH_ok hm hk h hB h2, j⟩
   rintro rfl
   exact hb.elim (fun hb => j.oo b hb ho) (fun hb => j.io b hb ho)
 | .as I :: l, n, g, cs, cs', t, F, h, hB, ⟨F1, F2, h1, h2, j⟩ => by
  have ho := fnd_own hm (show fnd l n = _ from h) h2
  refine ⟨F1, F2, As.loc _ h1 fun b hb => hk b ?_, updH_ok hm hk h hB h2, j⟩
  rintro rfl
  exact hb.elim (fun hb => j.oo b hb ho) (fun hb => j.io b hb ho)
def evStore (P : Program) (ρ : Operand -> Option SV) (hp : List Ch) (t : TypeId) (x y : Operand) : Option (List Ch × List Ob) := match ρ x, ρ y, tsz P t with
 | some (.o (.p g q i w k)), some v, some (n, _) => match v.cells, fnd hp g with
  | some l, some (.blk _ q' cs _ m) => match Nat.beq l.length n, Nat.ble (i * w + k + n) cs.length, m.mine with
   | true, true, true => some (updH hp g (putAt cs (i * w + k) l), [.n q q', .q (l.all C1.one) true])
   | _, _, _ => none
  | _, _ => none
 | _, _, _ => none
section
variable {P : Program} {ρ : Operand -> Option SV} {σ : Operand -> Value} {o : Oper} {hp : List Ch} {F : Ft} {A : World}
theorem mine_fz {m : Md} (h : m.mine = true) {fz : Nat × Nat} (k : m.fz fz) : fz = (0, 0) ∨ fz = (1, 0) := by
 cases m
 ·exact .inl k
 ·exact .inr k
 ·cases h
theorem evStore_ok (hρ : RhoOk ρ σ) (hH : (hpA hp).p F A) {t : TypeId} {x y : Operand} (ho : o.op = .store t x y) {hp' : List Ch} {ps : List Ob} (h : evStore P ρ hp t x y = some (hp', ps)) (hps : AllP ps) :
  ∃ A', AOp P σ o A .skip A' /\ (hpA hp').p F A' /\ Mv F A F A' /\ A'.heap.size = A.heap.size := by
 unfold evStore at h
 split at h
 case h_2 => cases h
 rename_i g q i w k v n ag hx hy ht
 split at h
 case h_2 => cases h
 rename_i l g' q' cs t' m hc hf
 split at h
 case h_2 => cases h
 rename_i h1 h2 h3
 cases h
 obtain ⟨rfl, hone, _⟩ := hps
 have h1' := Nat.eq_of_beq_eq_true h1
 have h2' := Nat.le_of_ble_eq_true h2
 obtain ⟨fz, hfz, hB⟩ := blk_at hf hH
 have hs := (fun (m : Nat) => (show cs = cs.take m ++ (cs.drop m).take l.length ++ cs.drop (m + l.length) by
  rw [<- List.drop_drop, List.append_assoc, List.take_append_drop, List.take_append_drop])) (i * w + k)
 have hB' : A.heap[q]? = some (.cells ((cs.take (i * w + k)).map C1.den ++ ((cs.drop (i * w + k)).take l.length).map C1.den ++ (cs.drop (i * w + k + l.length)).map C1.den).toArray t' fz) := by
  rw [<- List.map_append, <- List.map_append, <- hs]; exact hB
 have hone' : (l.map C1.den).all isOne = true := by
  rw [List.all_eq_true] at hone ⊢
  intro u hu
  obtain ⟨c, hc', rfl⟩ := List.mem_map.1 hu
  exact C1.one_den (hone c hc')
 obtain ⟨A', r, h5, h6, h7⟩ := store_runs (P := P) (new := l.map C1.den) (off := i * w + k) (i := 0) (mine_fz h3 hfz) hone' hB' (by simp; omega) (by simp; omega)
 have hne : ∀ b, ¬ F.own b -> b ≠ q := fun b hb e => by subst e; exact hb (fnd_own h3 hf hH)
 refine ⟨A', ?_, updH_ok h3 h7 hf ⟨fz, hfz, ?_⟩ hH, ⟨Nat.le_of_eq h6.symm, fun b _ hn => h7 b (hne b hn), fun b hb => .inl hb, fun b hb => .inr (.inl hb)⟩, h6⟩
 ·refine .inr (.inl ⟨by rw [ho]; trivial, ?_⟩)
  unfold execOp; rw [ho]
  have hx' : σ x = .pointer (some ⟨q, i * w + k, none⟩) := hρ _ _ hx
  have hv : v.den.cells = (l.map C1.den).toArray := SV.cells_den hc hone
  simp only [Instr.storeAt, hx', hρ _ _ hy, Instr.sureAddr, Sem.run_bind, Sem.run_pure, Result.andThen, storeVar, run_szT (tsz_ok ht), hv, List.size_toArray, List.length_map, h1']
  rw [if_neg (by simp)]
  simp only [r]
 ·rw [h5]
  simp [cells1, putAt]
def opTmps (op : Op) : List Nat := op.operands.toList.filterMap fun x => match x with
 | .tmp t => some t
 | _ => none
def hasN : List Nat -> Nat -> Bool
 | [], _ => false
 | i :: l, t => match Nat.beq i t with
  | true => true
  | false => hasN l t
def stripX (env : List (Nat × SV)) (ts : List Nat) : Operand -> Option SV
 | .tmp t => match hasN ts t, look env t with
  | true, some (.kk _ _ _ ag l) => some (mkv ag l)
  | true, some v => some v
  | _, _ => none
 | x => evX env x
def keyS (ops : Array Oper) (o : Oper) : Option (Nat × Bool) := match o.guard with
 | none => none
 | some (j, b) => match (ops[j]?).bind (·.dst) with
  | none => none
  | some d => some (d, b)
def sameK (d : Nat) (kb : Bool) : Option (Nat × Bool) -> Bool
 | none => false
 | some (d', b) => match Nat.beq d d' with
  | true => sameB kb b
  | false => false
def stripP (key : Option (Nat × Bool)) (e : Bool) (env : List (Nat × SV)) : List Nat -> List Ob
 | [] => []
 | t :: ts => match look env t with
  | some (.kk d kb e' _ _) => match sameK d kb key with
   | true => .q e' e :: stripP key e env ts
   | false => .p (e = true -> e' = true) :: stripP key e env ts
  | _ => stripP key e env ts
theorem stripP_at {key : Option (Nat × Bool)} {e : Bool} {env : List (Nat × SV)} : ∀ {ts : List Nat} {t d : Nat} {kb e' ag : Bool} {l : List C1}, AllP (stripP key e env ts) -> hasN ts t = true -> look env t = some (.kk d kb e' ag l) -> e = true -> e' = true
 | [], _, _, _, _, _, _, _, h, _, _ => by cases h
 | i :: ts, t, d, kb, e', ag, l, hp, h, hl, he => by
  simp only [hasN] at h
  split at h
  ·rename_i hb
   obtain rfl := Nat.eq_of_beq_eq_true hb
   simp only [stripP, hl] at hp
   split at hp
   ·rw [hp.1, he]
   ·exact hp.1 he
  ·simp only [stripP] at hp
   split at hp
   ·split at hp
    ·exact stripP_at hp.2 h hl he
    ·exact stripP_at hp.2 h hl he
   ·exact stripP_at hp h hl he
theorem stripX_ok {env : List (Nat × SV)} {a : Act} {ts : List Nat} {key : Option (Nat × Bool)} {e : Bool} (hE : EnvOk env a) (hp : AllP (stripP key e env ts)) (he : e = true) : RhoOk (stripX env ts) a.eval := by
 intro x v hx
 cases x with
 | tmp t =>
  simp only [stripX] at hx
  split at hx
  ·rename_i d kb e' ag l h1 h2
   cases hx
   have := hE t _ h2
   simp only [SV.den, stripP_at hp h1 h2 he, if_true] at this
   show a.tmps.getD t undef = _
   rw [this]
   cases ag <;> rfl
  ·rename_i h1 h2
   cases hx
   exact hE t _ h2
  ·cases hx
 | const y => exact evX_ok hE hx
 | func f => exact evX_ok hE hx
 | global g => exact evX_ok hE hx
def condV (key : Option (Nat × Bool)) (e : Bool) (v : SV) : Option SV := match key, v with
 | some (d, b), .o c => some (.kk d b e false [c])
 | some (d, b), .a l => some (.kk d b e true l)
 | _, _ => none
theorem condV_den {key : Option (Nat × Bool)} {e : Bool} {v v' : SV} (h : condV key e v = some v') : v'.den = if e then v.den else undef := by
 unfold condV at h
 split at h <;> cases h <;> rfl
def rhoOf (ops : Array Oper) (s : St) (o : Oper) : Operand -> Option SV := match wantS ops s.env o with
 | some (.may _) => stripX s.env (opTmps o.op)
 | _ => evX s.env
def stepS (P : Program) (ops : Array Oper) (s : St) (q : Nat -> Nat) (o : Oper) : Option (SV × St × List Ob) := match wantS ops s.env o with
 | none => none
 | some .no => match putE s o.dst (.o (.v undef)) with
  | some s1 => some (.o (.v undef), s1, [])
  | none => none
 | some (.may e) => match kindOf o.op with
  | .quiet => match evq P s.ov (stripX s.env (opTmps o.op)) s.hp o.op with
   | some (v, ps) => match condV (keyS ops o) e v with
    | some v' => match putE s o.dst v' with
     | some s1 => some (v', s1, stripP (keyS ops o) e s.env (opTmps o.op) ++ mayP e ps)
     | none => none
    | none => none
   | none => none
  | _ => none
 | some .yes => match kindOf o.op with
  | .quiet => match evq P s.ov (evX s.env) s.hp o.op with
   | some (v, ps) => match putE s o.dst v with
    | some s1 => some (v, s1, ps)
    | none => none
   | none => none
  | .makes => match evMk P (evX s.env) (q s.nx) s.nx o.op with
   | some (v, l, t, ps) => match putE { s with hp := .blk s.nx (q s.nx) l t .own :: s.hp, nx := s.nx + 1 } o.dst v with
    | some s1 => some (v, s1, ps)
    | none => none
   | none => none
  | .acts => match o.op with
   | .store t x y => match evStore P (evX s.env) s.hp t x y with
    | some (hp', ps) => match putE { s with hp := hp' } o.dst (.o (.v undef)) with
     | some s1 => some (.o (.v undef), s1, ps)
     | none => none
    | none => none
   | _ => none
end
end Go.Abs
namespace Go.Abs
abbrev Lg := Nat -> St × Option Ch
def Lg.snoc (lg : Lg) (i : Nat) (x : St × Option Ch) : Lg := fun j => match Nat.beq j i with
 | true => x
 | false => lg j
def lg0 : Lg := fun _ => (⟨[], [], 0, 0, false, []⟩, none)
def mkOf (P : Program) (s : St) (q : Nat -> Nat) (o : Oper) : Option Ch := match kindOf o.op with
 | .makes => match evMk P (evX s.env) (q s.nx) s.nx o.op with
  | some (_, l, t, _) => some (.blk s.nx (q s.nx) l t .own)
  | none => none
 | _ => none
section
variable (P : Program) (nO : Nat) (ops : Array Oper)
def OpOk (a : Act) (A : World) (v : Value) (a1 : Act) (A1 : World) (s : St) (mk : Option Ch) (o : Oper) : Prop :=
 a1 = a.put o.dst v /\ if Region.wanted o (yielded ops a.tmps) = true then RunOp P (Wd P nO) o a A v A1 /\ (match kindOf o.op with
  | .quiet => A1 = A /\ RhoOk (rhoOf ops s o) a.eval /\ ∃ u ps, evq P s.ov (rhoOf ops s o) s.hp o.op = some (u, ps) /\ AllP ps /\ v = u.den
  | .makes => ∃ l t, wantS ops s.env o = some .yes /\ A1 = A.alloc (.cells (cells1 l) t (0, 0)) /\ newVal v A.heap.size /\ (∀ w : World, w.heap.size = A.heap.size -> RegOk P w a.eval o.op /\ (execOp a.eval o).run P w = .ok (.value v) (w.alloc (.cells (cells1 l) t (0, 0)))) /\ mk = some (.blk s.nx A.heap.size l t .own)
  | .acts => True)
 else A1 = A /\ v = undef
def SeqOk (T : Trace) (lg : Lg) (i : Nat) : Prop := ∀ j o, j < i -> ops[j]? = some o -> OpOk P nO ops (T.as j) (T.ws j) (T.vs j) (T.as (j + 1)) (T.ws (j + 1)) (lg j).1 (lg j).2 o
def runS (q : Nat -> Nat) : Nat -> Nat -> St -> Option (St × List Ob)
 | 0, _, s => some (s, [])
 | k + 1, i, s => match ops[i]? with
  | some o => match stepS P ops s q o with
   | some (_, s1, p1) => match runS q k (i + 1) s1 with
    | some (s2, p2) => some (s2, p1 ++ p2)
    | none => none
   | none => none
  | none => none
def logRun (q : Nat -> Nat) : Nat -> Nat -> St -> Lg -> Lg
 | 0, _, _, lg => lg
 | k + 1, i, s, lg => match ops[i]? with
  | some o => match stepS P ops s q o with
   | some (_, s1, _) => logRun q k (i + 1) s1 (lg.snoc i (s, mkOf P s q o))
   | none => lg
  | none => lg
variable (ro : Option Nat) (id : Nat) (d : Bool) (B : Ft × World) (Q : Exit -> Act -> World -> Prop)
def WR (i : Nat) (lg : Lg) (s : St) : Prop := ∀ T : Trace, SeqOk P nO ops T lg i -> (∀ j, j < i -> Sat B (lg j).1 (T.as j) (T.ws j)) -> Sat B s (T.as i) (T.ws i) -> wpC P nO ro (.region id ops d) Q (T.as 0) (T.ws 0)
end
section
variable {P : Program} {nO : Nat} {ops : Array Oper} {B : Ft × World}
theorem step_ok {s s1 : St} {a : Act} {A : World} {q : Nat -> Nat} {o : Oper} {v : SV} {ps : List Ob} (hs : Sat B s a A) (h : stepS P ops s q o = some (v, s1, ps)) (hps : AllP ps) (hq : q s.nx = A.heap.size) :
  ∃ u A1, OpOk P nO ops a A u (a.put o.dst u) A1 s (mkOf P s q o) o /\ Sat B s1 (a.put o.dst u) A1 /\ ((s1.nx = s.nx /\ A1.heap.size = A.heap.size) ∨ (s1.nx = s.nx + 1 /\ A1.heap.size = A.heap.size + 1)) := by
 have hρ : RhoOk (evX s.env) a.eval := fun x v h => evX_ok hs.1 h
 obtain ⟨F, hF, hM⟩ := hs.2.2.2
 unfold stepS at h
 split at h
 ·cases h
 ·rename_i hw
  split at h
  case h_2 => cases h
  rename_i s2 h2
  cases h
  obtain ⟨h3, h4, _⟩ := putE_ok (A1 := A) (hp := s.hp) (nx := s.nx) (u := undef) hs ⟨F, hF, hM⟩ h2 rfl
  refine ⟨undef, A, ⟨rfl, ?_⟩, h3, .inl ⟨h4, rfl⟩⟩
  have hw' : Region.wanted o (yielded ops a.tmps) = false := wantS_ok hs hw
  rw [if_neg (by rw [hw']; decide)]; exact ⟨rfl, rfl⟩
 ·rename_i e hw
  have hw' : Region.wanted o (yielded ops a.tmps) = e := wantS_ok hs hw
  split at h
  case h_2 => cases h
  rename_i hk
  split at h
  case h_2 => cases h
  rename_i u ps' h1
  split at h
  case h_2 => cases h
  rename_i v' hv
  split at h
  case h_2 => cases h
  rename_i s2 h2
  cases h
  obtain ⟨p1, p2⟩ := AllP.split hps
  have hd := condV_den hv
  obtain ⟨h3, h4, _⟩ := putE_ok (A1 := A) (hp := s.hp) (nx := s.nx) (u := v.den) hs ⟨F, hF, hM⟩ h2 rfl
  refine ⟨v.den, A, ⟨rfl, ?_⟩, h3, .inl ⟨h4, rfl⟩⟩
  cases he : e with
  | false =>
   rw [he] at hw' hd
   rw [if_neg (by rw [hw']; decide)]
   exact ⟨rfl, hd⟩
  | true =>
   rw [he] at hw'
   rw [if_pos hw']
   have hd' : v.den = u.den := by rw [hd, he]; rfl
   have hρ' := stripX_ok hs.1 p1 he
   have hA := evq_ok (A := A) hρ' hF h1 (mayP_ok p2 he)
   rw [<- hd'] at hA
   refine ⟨⟨_, _, hA, rfl, rfl⟩, ?_⟩
   rw [hk]
   have er : rhoOf ops s o = stripX s.env (opTmps o.op) := by unfold rhoOf; rw [hw]
   rw [er]
   exact ⟨rfl, hρ', u, ps', h1, mayP_ok p2 he, hd'⟩
 ·rename_i hw
  have hw' : Region.wanted o (yielded ops a.tmps) = true := wantS_ok hs hw
  have er : rhoOf ops s o = evX s.env := by unfold rhoOf; rw [hw]
  split at h
  ·rename_i hk
   split at h
   case h_2 => cases h
   rename_i u ps' h1
   split at h
   case h_2 => cases h
   rename_i s2 h2
   cases h
   have hA := evq_ok (A := A) hρ hF h1 hps
   obtain ⟨h3, h4, _⟩ := putE_ok (A1 := A) (hp := s.hp) (nx := s.nx) (u := v.den) hs ⟨F, hF, hM⟩ h2 rfl
   refine ⟨v.den, A, ⟨rfl, ?_⟩, h3, .inl ⟨h4, rfl⟩⟩
   rw [if_pos hw']
   refine ⟨⟨_, _, hA, rfl, rfl⟩, ?_⟩
   rw [hk]
   rw [er]
   exact ⟨rfl, hρ, v, ps, h1, hps, rfl⟩
  ·rename_i hk
   split at h
   case h_2 => cases h
   rename_i u l t ps' h1
   split at h
   case h_2 => cases h
   rename_i s2 h2
   cases h
   obtain ⟨_, hn, hrun⟩ := evMk_ok hρ h1 hps
   rw [hq] at hn hrun
   have hlt : ∀ b, F.own b ∨ F.imm b -> b < A.heap.size := fun b hb => (hpA s.hp).lt hF hb
   have hnew : ∃ F', (hpA (.blk s.nx (q s.nx) l t .own :: s.hp)).p F' (A.alloc (.cells (cells1 l) t (0, 0))) /\ Mv F A F' (A.alloc (.cells (cells1 l) t (0, 0))) := by
    refine ⟨Ft.un ⟨fun b => b = A.heap.size, fun _ => False⟩ F, ⟨⟨fun b => b = A.heap.size, fun _ => False⟩, F, ⟨fun b => by rw [hq]; simp [Md.mine], fun b => by simp [Md.mine], (0, 0), rfl, by rw [hq]; exact alloc_at⟩, As.loc _ hF fun b hb => alloc_lt (hlt b hb), ⟨fun _ => Iff.rfl, fun _ => Iff.rfl, fun b h1 h2 => ?_, fun b h1 h2 => ?_, fun b h1 => h1.elim⟩⟩,
     ⟨by simp, fun b hb _ => alloc_lt hb, fun b hb => ?_, fun b hb => ?_⟩⟩
    ·have := hlt b (.inl h2); simp only at h1; omega
    ·have := hlt b (.inr h2); simp only at h1; omega
    ·rcases hb with hb | hb
     ·simp only at hb; exact .inr (by omega)
     ·exact .inl hb
    ·rcases hb with hb | hb
     ·exact hb.elim
     ·exact .inr (.inl hb)
   obtain ⟨F', h5, h6⟩ := hnew
   obtain ⟨h3, h4, _⟩ := putE_ok (A1 := A.alloc (.cells (cells1 l) t (0, 0))) (u := v.den) hs ⟨F', h5, hM.trans h6⟩ h2 rfl
   obtain ⟨hr1, hr2⟩ := hrun A rfl
   refine ⟨v.den, _, ⟨rfl, ?_⟩, h3, .inr ⟨h4, by simp⟩⟩
   rw [if_pos hw']
   refine ⟨⟨_, _, .inr (.inl ⟨hr1, hr2⟩), rfl, rfl⟩, ?_⟩
   rw [hk]
   refine ⟨l, t, hw, rfl, hn, hrun, ?_⟩
   unfold mkOf
   rw [hk]
   rw [<- hq]
   simp only [h1]
  ·rename_i hk
   split at h
   case h_2 => cases h
   rename_i t x y ho
   split at h
   case h_2 => cases h
   rename_i hp' ps' h1
   split at h
   case h_2 => cases h
   rename_i s2 h2
   cases h
   obtain ⟨A', hA, h5, h6, h7⟩ := evStore_ok (A := A) hρ hF ho h1 hps
   obtain ⟨h3, h4, _⟩ := putE_ok (A1 := A') (hp := hp') (nx := s.nx) (u := undef) hs ⟨F, h5, hM.trans h6⟩ h2 rfl
   refine ⟨undef, A', ⟨rfl, ?_⟩, h3, .inl ⟨h4, h7⟩⟩
   rw [if_pos hw']
   refine ⟨⟨_, _, hA, rfl, rfl⟩, ?_⟩
   rw [hk]; trivial
theorem snoc_ne {lg : Lg} {i j : Nat} {x : St × Option Ch} (h : j ≠ i) : lg.snoc i x j = lg j := by
 unfold Lg.snoc
 split
 ·rename_i e; exact absurd (Nat.eq_of_beq_eq_true e) h
 ·rfl
theorem snoc_at {lg : Lg} {i : Nat} {x : St × Option Ch} : lg.snoc i x i = x := by
 unfold Lg.snoc; rw [Nat.beq_refl]
theorem seq_more {T : Trace} {lg : Lg} {i : Nat} {o : Oper} {s s1 : St} {mk : Option Ch} {u : Value} {A1 : World} (ho : ops[i]? = some o) (h1 : SeqOk P nO ops T lg i) (h2 : ∀ j, j < i -> Sat B (lg j).1 (T.as j) (T.ws j)) (h3 : Sat B s (T.as i) (T.ws i))
  (h4 : OpOk P nO ops (T.as i) (T.ws i) u ((T.as i).put o.dst u) A1 s mk o) (h5 : Sat B s1 ((T.as i).put o.dst u) A1) :
  ∃ T' : Trace, T'.as 0 = T.as 0 /\ T'.ws 0 = T.ws 0 /\ SeqOk P nO ops T' (lg.snoc i (s, mk)) (i + 1) /\ (∀ j, j < i + 1 -> Sat B ((lg.snoc i (s, mk)) j).1 (T'.as j) (T'.ws j)) /\ Sat B s1 (T'.as (i + 1)) (T'.ws (i + 1)) /\ T'.ws (i + 1) = A1 := by
 refine ⟨⟨fun j => if j = i + 1 then (T.as i).put o.dst u else T.as j, fun j => if j = i + 1 then A1 else T.ws j, fun j => if j = i then u else T.vs j⟩, by simp, by simp, fun j o' hj ho' => ?_, fun j hj => ?_, by simpa using h5, by simp⟩
 ·by_cases e : j = i
  ·subst e
   rw [ho] at ho'; cases ho'
   rw [snoc_at]
   simpa using h4
  ·have hlt : j < i := by omega
   rw [snoc_ne e]
   have := h1 j o' hlt ho'
   simpa [e, show j ≠ i + 1 by omega] using this
 ·by_cases e : j = i
  ·subst e
   rw [snoc_at]; simpa using h3
  ·rw [snoc_ne e]
   have := h2 j (by omega)
   simpa [show j ≠ i + 1 by omega] using this
theorem run_ok {q : Nat -> Nat} : ∀ {k i : Nat} {lg : Lg} {s s' : St} {ps : List Ob} {T : Trace}, SeqOk P nO ops T lg i -> (∀ j, j < i -> Sat B (lg j).1 (T.as j) (T.ws j)) -> Sat B s (T.as i) (T.ws i) -> runS P ops q k i s = some (s', ps) -> AllP ps -> (∀ m, q (s.nx + m) = (T.ws i).heap.size + m) ->
  ∃ T' : Trace, T'.as 0 = T.as 0 /\ T'.ws 0 = T.ws 0 /\ SeqOk P nO ops T' (logRun P ops q k i s lg) (i + k) /\ (∀ j, j < i + k -> Sat B (logRun P ops q k i s lg j).1 (T'.as j) (T'.ws j)) /\ Sat B s' (T'.as (i + k)) (T'.ws (i + k))
 | 0, i, lg, s, s', ps, T, h1, h2, h3, h, _, _ => by cases h; exact ⟨T, rfl, rfl, h1, h2, h3⟩
 | k + 1, i, lg, s, s', ps, T, h1, h2, h3, h, hps, hq => by
  simp only [runS] at h
  split at h
  case h_2 => cases h
  rename_i o ho
  split at h
  case h_2 => cases h
  rename_i v s1 p1 hst
  split at h
  case h_2 => cases h
  rename_i s2 p2 hr
  cases h
  obtain ⟨hp1, hp2⟩ := AllP.split hps
  obtain ⟨u, A1, h4, h5, h6⟩ := step_ok (nO := nO) h3 hst hp1 (by have := hq 0; simpa using this)
  obtain ⟨T1, e1, e2, g1, g2, g3, g4⟩ := seq_more ho h1 h2 h3 h4 h5
  obtain ⟨T', e3, e4, k1, k2, k3⟩ := run_ok g1 g2 g3 hr hp2 (fun m => by
   rw [g4]
   rcases h6 with ⟨a, b⟩ | ⟨a, b⟩
   ·rw [a, b]; exact hq m
   ·rw [a, b]; have := hq (m + 1); rw [show s.nx + 1 + m = s.nx + (m + 1) by omega, this]; omega)
  have el : logRun P ops q (k + 1) i s lg = logRun P ops q k (i + 1) s1 (lg.snoc i (s, mkOf P s q o)) := by
   simp only [logRun, ho, hst]
  rw [el, show i + (k + 1) = i + 1 + k by omega]
  exact ⟨T', e3.trans e1, e4.trans e2, k1, k2, k3⟩
def pickE (live : List Nat) (env : List (Nat × SV)) : List (Nat × SV) := live.filterMap fun i => match look env i with
 | some v => some (i, v)
 | none => none
end
section
variable {P : Program} {nO : Nat} {ops : Array Oper} {ro : Option Nat} {id : Nat} {d : Bool} {B : Ft × World} {Q : Exit -> Act -> World -> Prop}
def lgAt (lg : Lg) (n : Nat) (s : St) (p : Nat) : St := match Nat.beq p n with
 | true => s
 | false => (lg p).1
def heapless : Op -> Bool
 | .load .. | .slice .. => false
 | _ => true
theorem heapless_ev {op : Op} (h : heapless op = true) (ov : Bool) (ρ : Operand -> Option SV) (hp hp' : List Ch) : evq P ov ρ hp op = evq P ov ρ hp' op := by
 cases op with
 | unOp o _ _ => cases o <;> rfl
 | makeFunc f _ _ => cases f <;> rfl
 | load _ _ => cases h
 | slice _ _ _ _ _ => cases h
 | _ => rfl
def crossQ (P : Program) (ops : Array Oper) (lg : Lg) (s : St) : List (EvR × EvR) := (List.range ops.size).flatMap fun j => match ops[j]? with
 | some o => match wantS ops (lg j).1.env o with
  | some .no => []
  | _ => match kindOf o.op, heapless o.op with
   | .quiet, false => ((effs ops ++ [ops.size]).filter (mayAt ops (masks ops) j)).map fun p => (evq P (lg j).1.ov (rhoOf ops (lg j).1 o) (lgAt lg ops.size s p).hp o.op, evq P (lg j).1.ov (rhoOf ops (lg j).1 o) (lg j).1.hp o.op)
   | _, _ => []
 | none => []
def crossM (ops : Array Oper) (lg : Lg) (s : St) : List (Option Ch × Option Ch) := (List.range ops.size).flatMap fun j => match ops[j]? with
 | some o => match wantS ops (lg j).1.env o, kindOf o.op with
  | some .yes, .makes => ((effs ops ++ [ops.size]).filter fun p => decide (j < p) && mayAt ops (masks ops) j p).map fun p => (fnd (lgAt lg ops.size s p).hp (lg j).1.nx, (lg j).2)
  | _, _ => []
 | none => []
theorem seq_runs {T : Trace} {lg : Lg} (hS : SeqOk P nO ops T lg ops.size) (hs : ∀ j, j < ops.size -> Sat B (lg j).1 (T.as j) (T.ws j)) : ∀ (k i : Nat), i + k = ops.size -> RunOps P (Wd P nO) ops (List.range' i k) (T.as i) (T.ws i) (T.as ops.size) (T.ws ops.size)
 | 0, i, h => by
  obtain rfl : i = ops.size := by omega
  exact ⟨rfl, rfl⟩
 | k + 1, i, h => by
  have hi : i < ops.size := by omega
  have ho := Array.getElem?_eq_getElem hi
  have ih := seq_runs hS hs k (i + 1) (by omega)
  obtain ⟨e, hst⟩ := hS i _ hi ho
  simp only [List.range'_succ, RunOps, ho]
  rw [e] at ih
  split at hst
  ·rename_i hw
   rw [if_pos hw]
   exact ⟨_, _, hst.1, ih⟩
  ·rename_i hw
   rw [if_neg hw]
   obtain ⟨h1, h2⟩ := hst
   rw [h1, h2] at ih
   exact ih
theorem wr_end (G : Good P) {i : Nat} {lg : Lg} {s : St} (hi : i = ops.size) (K : ∀ a A, Sat B s a A -> Q .normal a A) : WR P nO ops ro id false B Q i lg s := by
 subst hi
 intro T h1 h2 h3
 refine ⟨.normal, _, _, code_of G (c := .region id ops false) ⟨rfl, ?_⟩, K _ _ h3⟩
 rw [List.range_eq_range']
 exact seq_runs h1 h2 ops.size 0 (by omega)
theorem mem_fst {α : Type} {l : List (α × α)} (h : l.map Prod.fst = l.map Prod.snd) {x : α × α} (hx : x ∈ l) : x.1 = x.2 := by
 induction l with
 | nil => cases hx
 | cons y l ih =>
  simp only [List.map_cons, List.cons.injEq] at h
  rcases List.mem_cons.1 hx with rfl | hx
  ·exact h.1
  ·exact ih h.2 hx
theorem mem_fst1 {α : Type 1} {l : List (α × α)} (h : l.map Prod.fst = l.map Prod.snd) {x : α × α} (hx : x ∈ l) : x.1 = x.2 := by
 induction l with
 | nil => cases hx
 | cons y l ih =>
  simp only [List.map_cons, List.cons.injEq] at h
  rcases List.mem_cons.1 hx with rfl | hx
  ·exact h.1
  ·exact ih h.2 hx
theorem wr_endD (G : Good P) {i : Nat} {lg : Lg} {s : St} (hi : i = ops.size) (hr : rck ops = true) (hq : (crossQ P ops lg s).map Prod.fst = (crossQ P ops lg s).map Prod.snd) (hm : (crossM ops lg s).map Prod.fst = (crossM ops lg s).map Prod.snd)
  (K : ∀ a A, Sat B s a A -> Q .normal a A) : WR P nO ops ro id true B Q i lg s := by
 subst hi
 intro T h1 h2 h3
 refine ⟨.normal, _, _, code_of G (c := .region id ops true) ⟨rfl, hr, T, rfl, rfl, rfl, rfl, fun j o ho => ?_⟩, K _ _ h3⟩
 have hj : j < ops.size := (Array.getElem?_eq_some_iff.1 ho).1
 have hsat : ∀ p, p ∈ effs ops ++ [ops.size] -> Sat B (lgAt lg ops.size s p) (T.as p) (T.ws p) := fun p hp => by
  unfold lgAt
  split
  ·rename_i e
   rw [Nat.eq_of_beq_eq_true e]; exact h3
  ·rename_i e
   rcases List.mem_append.1 hp with hp | hp
   ·obtain ⟨j', o', ho', _, e'⟩ := mem_actsFrom.1 hp
    have : j' < ops.size := by
     have := (List.getElem?_eq_some_iff.1 ho').1
     simpa using this
    exact h2 p (by omega)
   ·simp only [List.mem_cons, List.not_mem_nil, or_false] at hp
    subst hp
    rw [Nat.beq_refl] at e; cases e
 obtain ⟨e, hst⟩ := h1 j o hj ho
 refine ⟨e, ?_⟩
 split at hst
 ·rename_i hw
  rw [if_pos hw]
  have hno : wantS ops (lg j).1.env o ≠ some .no := fun h => by
   have : Region.wanted o (yielded ops (T.as j).tmps) = false := wantS_ok (h2 j hj) h
   rw [hw] at this; cases this
  obtain ⟨hrun, hst⟩ := hst
  cases hk : kindOf o.op with
  | quiet =>
   rw [hk] at hst
   obtain ⟨h4, hρ, u, ps, h5, h6, h7⟩ := hst
   refine ⟨h4, fun p hp hmay => ?_⟩
   obtain ⟨F, hF, _⟩ := (hsat p hp).2.2.2
   rw [h7]
   refine evq_ok (ov := (lg j).1.ov) hρ hF ?_ h6
   rw [<- h5]
   cases hh : heapless o.op with
   | true => exact heapless_ev hh _ _ _ _
   | false =>
    refine mem_fst hq (x := (evq P (lg j).1.ov (rhoOf ops (lg j).1 o) (lgAt lg ops.size s p).hp o.op, evq P (lg j).1.ov (rhoOf ops (lg j).1 o) (lg j).1.hp o.op)) ?_
    unfold crossQ
    rw [List.mem_flatMap]
    refine ⟨j, List.mem_range.2 hj, ?_⟩
    rw [ho]
    have key : (evq P (lg j).1.ov (rhoOf ops (lg j).1 o) (lgAt lg ops.size s p).hp o.op, evq P (lg j).1.ov (rhoOf ops (lg j).1 o) (lg j).1.hp o.op) ∈ ((effs ops ++ [ops.size]).filter (mayAt ops (masks ops) j)).map fun p => (evq P (lg j).1.ov (rhoOf ops (lg j).1 o) (lgAt lg ops.size s p).hp o.op, evq P (lg j).1.ov (rhoOf ops (lg j).1 o) (lg j).1.hp o.op) := List.mem_map.2 ⟨p, List.mem_filter.2 ⟨hp, hmay⟩, rfl⟩
    simp only [hk, hh]
    generalize wantS ops (lg j).1.env o = wv at hno
    match wv, hno with
    | none, _ => exact key
    | some .yes, _ => exact key
    | some (.may _), _ => exact key
    | some .no, h => exact absurd rfl h
  | makes =>
   rw [hk] at hst
   obtain ⟨l, t, hyes, h4, h5, h6, h7⟩ := hst
   refine ⟨_, h4, rfl, h5, h6, fun p hp hlt hmay => ?_⟩
   have := mem_fst1 hm (x := (fnd (lgAt lg ops.size s p).hp (lg j).1.nx, (lg j).2)) (by
    unfold crossM
    rw [List.mem_flatMap]
    refine ⟨j, List.mem_range.2 hj, ?_⟩
    rw [ho]
    simp only [hyes, hk]
    exact List.mem_map.2 ⟨p, List.mem_filter.2 ⟨hp, by simp [hlt, hmay]⟩, rfl⟩)
   simp only [h7] at this
   obtain ⟨F, hF, _⟩ := (hsat p hp).2.2.2
   obtain ⟨fz, h8, h9⟩ := blk_at this hF
   cases h8
   exact h9
  | acts => exact hrun
 ·rename_i hw
  rw [if_neg hw]
  exact hst
end
end Go.Abs
namespace Go.Abs
section
variable (P : Program) (nO : Nat) (ro : Option Nat) (B : Ft × World)
def W (c : Code) (Q : Exit -> Act -> World -> Prop) (s : St) : Prop := ∀ a A, Sat B s a A -> wpC P nO ro c Q a A
def Ctr (f : FuncId) (args : List SV) (pre : List Ch) (R : Type) (φ : R -> Prop) (res : R -> SV) (post : R -> List Ch) : Prop :=
 ∀ F A, (hpA pre).p F A -> ∃ r A' F', φ r /\ SndCall P nO f (args.map SV.den).toArray A (res r).den A' /\ (hpA (post r)).p F' A' /\ Mv F A F' A'
def RQ (fn : Func) {R : Type} (φ : R -> Prop) (res : R -> SV) (post : R -> List Ch) (e : Exit) (a : Act) (A : World) : Prop :=
 (e = .normal ∨ e = .ret) /\ ∃ v A', Marks P a.defers A A' /\ (results fn a.tmps).run P A' = .ok v A' /\ ∃ r F', φ r /\ v = (res r).den /\ (hpA (post r)).p F' A' /\ Mv B.1 B.2 F' A'
end
def GE (l : List Ch) (R : Type) (φ : R -> Prop) (l' : R -> List Ch) : Prop := ∀ F A, (hpA l).p F A -> ∃ r F', φ r /\ (hpA (l' r)).p F' A /\ Mv F A F' A
theorem getD_at {α : Type} {l : List α} {i : Nat} {d : α} (h : i < l.length) : l.getD i d = l[i] := by simp [List.getD, h]
theorem zfe {α : Type} {xs : List α} (h : 0 < xs.length) : xs.isEmpty = false := by
 cases xs
 ·simp at h
 ·rfl
theorem zf {z : Bool} {n k : Nat} (h : z = true -> n = 0) (hk : k < n) : z = false := by
 cases z
 ·rfl
 ·have := h rfl; omega
def emC : Ch := .as As.emp
def selC (idx : List Nat) (l : List Ch) : List Ch := idx.map fun i => l.getD i emC
def restI (idx : List Nat) (n : Nat) : List Nat := (List.range n).filter fun i => !idx.contains i
def okB (idx : List Nat) (n : Nat) : Bool := (List.range n).isPerm (idx ++ restI idx n)
theorem hp_perm {l l' : List Ch} (p : l.Perm l') {F : Ft} {A : World} (h : (hpA l).p F A) : (hpA l').p F A := As.perm (p.map _) h
theorem hp_app {l l' : List Ch} {F : Ft} {A : World} : (hpA (l ++ l')).p F A ↔ ((hpA l).star (hpA l')).p F A := by
 unfold hpA
 rw [List.map_append]
 exact ⟨As.split, As.cat⟩
theorem hp_sel {idx : List Nat} {l : List Ch} (hi : okB idx l.length = true) {F : Ft} {A : World} (h : (hpA l).p F A) : ((hpA (selC idx l)).star (hpA (selC (restI idx l.length) l))).p F A := by
 have hr : (List.range l.length).map (fun i => l.getD i emC) = l := by
  apply List.ext_getElem
  ·simp
  ·intro i h1 h2
   simp at h1 h2 ⊢
   simp [h2]
 have := (List.isPerm_iff.1 hi).map fun i => l.getD i emC
 rw [hr, List.map_append] at this
 exact hp_app.1 (hp_perm this h)
theorem hp_drop {l l' : List Ch} {F : Ft} {A : World} (h : ((hpA l).star (hpA l')).p F A) : ∃ F', (hpA l).p F' A /\ Mv F A F' A := As.left h
def envOf : List SV -> Nat -> List (Nat × SV)
 | [], _ => []
 | v :: l, i => (i, v) :: envOf l (i + 1)
theorem look_envOf : ∀ {l : List SV} {k i : Nat} {v : SV}, look (envOf l k) i = some v -> ∃ j, i = k + j /\ l[j]? = some v
 | [], _, _, _, h => by cases h
 | u :: l, k, i, v, h => by
  simp only [envOf, look] at h
  split at h
  ·rename_i e
   cases h
   exact ⟨0, (Nat.eq_of_beq_eq_true e).symm, rfl⟩
  ·obtain ⟨j, h1, h2⟩ := look_envOf h
   exact ⟨j + 1, by omega, by simpa using h2⟩
section
variable {P : Program} {nO : Nat} {ro : Option Nat} {B : Ft × World} {Q : Exit -> Act -> World -> Prop} {s : St}
theorem fn_start (G : Good P) {f : FuncId} {fn : Func} {c : Code} (H : IsFn P f fn c) {args : List SV} {pre : List Ch} {R : Type} {φ : R -> Prop} {res : R -> SV} {post : R -> List Ch} (sz nx : Nat) (hsz : args.length + (fn.ntmps - args.length) = sz)
  (k : ∀ B, W P nO none B c (RQ P B fn φ res post) ⟨envOf args 0, pre, sz, nx, false, []⟩) : Ctr P nO f args pre R φ res post := by
 intro F A hF
 suffices h : wpF P nO f (args.map SV.den).toArray (fun v A' => ∃ r F', φ r /\ v = (res r).den /\ (hpA (post r)).p F' A' /\ Mv F A F' A') A by
  obtain ⟨v, A', h1, r, F', h2, rfl, h3, h4⟩ := h
  exact ⟨r, A', F', h2, h1, h3, h4⟩
 have hS : Sat (F, A) ⟨envOf args 0, pre, sz, nx, false, []⟩ ⟨(args.map SV.den).toArray ++ Array.replicate (fn.ntmps - (args.map SV.den).toArray.size) undef, []⟩ A := by
  refine ⟨fun i v hi => ?_, ?_, rfl, F, hF, Mv.refl⟩
  ·obtain ⟨j, rfl, hj⟩ := look_envOf hi
   have hlt : j < (args.map SV.den).toArray.size := by
    have := (List.getElem?_eq_some_iff.1 hj).1
    simpa using this
   simp only [Nat.zero_add]
   rw [Array.getD_eq_getD_getElem?, Array.getElem?_append_left hlt]
   simp [hj]
  ·simp only [Array.size_append, List.size_toArray, List.length_map, Array.size_replicate]
   exact hsz
 obtain ⟨e, a1, A1, h1, ⟨h2, v, A', h3, h4, h5⟩⟩ := k (F, A) _ A hS
 exact ⟨v, A', snd_call G (snd_wd P nO) ⟨fn, c, e, a1, A1, H.at_, H.body, h1, h2, h3, h4⟩, h5⟩
theorem w_reg {id : Nat} {ops : Array Oper} {d : Bool} (h : WR P nO ops ro id d B Q 0 lg0 s) : W P nO ro B (.region id ops d) Q s := fun a A hs =>
 h ⟨fun _ => a, fun _ => A, fun _ => undef⟩ (fun j _ hj => absurd hj (Nat.not_lt_zero j)) (fun j hj => absurd hj (Nat.not_lt_zero j)) hs
theorem w_seq (G : Good P) {x y : Code} (h : W P nO ro B x (thenQ (wpC P nO ro y Q) Q) s) : W P nO ro B (.seq x y) Q s := fun a A hs => cw_seq G (h a A hs)
theorem w_skip (G : Good P) (h : ∀ a A, Sat B s a A -> Q .normal a A) : W P nO ro B .skip Q s := fun a A hs => cw_skip G (h a A hs)
theorem w_ret (G : Good P) (h : ∀ a A, Sat B s a A -> Q .ret a A) : W P nO ro B .ret Q s := fun a A hs => cw_ret G (h a A hs)
theorem w_exit (G : Good P) {id : Nat} (h : ∀ a A, Sat B s a A -> Q (.exit id) a A) : W P nO ro B (.exit id) Q s := fun a A hs => cw_exit G (h a A hs)
theorem w_block (G : Good P) {id : Nat} {x : Code} (h : W P nO ro B x (fun e => Q (inBlk id e)) s) : W P nO ro B (.block id x) Q s := fun a A hs => cw_block G (h a A hs)
theorem w_condB (G : Good P) {c : Operand} {x y : Code} (b : Bool) {v : SV} (hc : evX s.env c = some v) (hv : v.den = .bool b) (h : W P nO ro B (if b then x else y) Q s) : W P nO ro B (.cond c x y) Q s := fun a A hs => cw_cond G b ((evX_ok hs.1 hc).trans hv) (h a A hs)
def EnS (s s' : St) : Prop := ∀ (B : Ft × World) a A, Sat B s a A -> Sat B s' a A
theorem w_ent {c : Code} {s' : St} (e : EnS s s') (h : W P nO ro B c Q s') : W P nO ro B c Q s := fun a A hs => h a A (e B a A hs)
theorem k_ent {s' : St} {R : Act -> World -> Prop} (e : EnS s s') (h : ∀ a A, Sat B s' a A -> R a A) : ∀ a A, Sat B s a A -> R a A := fun a A hs => h a A (e B a A hs)
theorem wr_ent {ops : Array Oper} {id : Nat} {d : Bool} {i : Nat} {lg : Lg} {s' : St} (e : EnS s s') (h : WR P nO ops ro id d B Q i lg s') : WR P nO ops ro id d B Q i lg s := fun T h1 h2 h3 => h T h1 h2 (e B _ _ h3)
theorem ent_set {t : Nat} {v v' : SV} (hv : look s.env t = some v) (h : v.den = v'.den) : EnS s { s with env := (t, v') :: rem s.env t } := fun B a A hs => by
 refine ⟨fun i w hi => ?_, hs.2⟩
 simp only [look] at hi
 split at hi
 ·rename_i e
  cases hi
  rw [<- Nat.eq_of_beq_eq_true e, hs.1 t v hv, h]
 ·exact hs.1 i w (look_rem hi).2
theorem ent_of (idx : List Nat) {s' : St} (hz : s.sz = s'.sz /\ s.df = s'.df) (he : s'.env.map (fun p => (p.1, (look s.env p.1).map SV.den)) = s'.env.map fun p => (p.1, some p.2.den)) (hi : okB idx s.hp.length = true) (hh : (selC idx s.hp).map Ch.den = s'.hp.map Ch.den) : EnS s s' := fun B a A hs => by
 obtain ⟨h1, h2, h3, F, hF, hM⟩ := hs
 obtain ⟨F', h4, h5⟩ := hp_drop (hp_sel hi hF)
 rw [hpA, hh] at h4
 refine ⟨fun i v hv => ?_, h2.trans hz.1, by rw [h3, hz.2], F', h4, hM.trans h5⟩
 have hm : ∀ (l : List (Nat × SV)), l.map (fun p => (p.1, (look s.env p.1).map SV.den)) = l.map (fun p => (p.1, some p.2.den)) -> look l i = some v -> (look s.env i).map SV.den = some v.den := by
  intro l
  induction l with
  | nil => intro _ h; cases h
  | cons p l ih =>
   intro hl hv
   simp only [List.map_cons, List.cons.injEq, Prod.mk.injEq, true_and] at hl
   obtain ⟨j, u⟩ := p
   simp only [look] at hv
   split at hv
   ·rename_i e
    cases hv
    rw [<- Nat.eq_of_beq_eq_true e]; exact hl.1
   ·exact ih hl.2 hv
 have := hm _ he hv
 rw [Option.map_eq_some_iff] at this
 obtain ⟨u, hu, e⟩ := this
 rw [h1 i u hu, e]
def gst (s : St) (idx : List Nat) (l : List Ch) (nx : Nat) : St := { s with hp := l ++ selC (restI idx s.hp.length) s.hp, nx := nx }
theorem sat_frame {R : Type} {A : World} {a : Act} {idx : List Nat} {pre : List Ch} {post : R -> List Ch} {nx : Nat} {X : R -> World -> Prop} (hi : okB idx s.hp.length = true) (hh : (selC idx s.hp).map Ch.den = pre.map Ch.den) (C : ∀ F, (hpA pre).p F A -> ∃ r A' F', X r A' /\ (hpA (post r)).p F' A' /\ Mv F A F' A') (hs : Sat B s a A) :
  ∃ r A', X r A' /\ Sat B (gst s idx (post r) nx) a A' := by
 obtain ⟨h1, h2, h3, F, hF, hM⟩ := hs
 obtain ⟨F1, F2, g1, g2, j⟩ := hp_sel hi hF
 rw [hpA, hh] at g1
 obtain ⟨r, A', F1', hX, h5, h6⟩ := C F1 g1
 obtain ⟨F', g3, g4⟩ := As.frame j g2 h5 h6
 exact ⟨r, A', hX, h1, h2, h3, F', hp_app.2 g3, hM.trans g4⟩
theorem sat_gh {R : Type} {φ : R -> Prop} {pre : List Ch} {post : R -> List Ch} (idx : List Nat) (nx : Nat) (E : GE pre R φ post) (hi : okB idx s.hp.length = true) (hh : (selC idx s.hp).map Ch.den = pre.map Ch.den) {a : Act} {A : World} (hs : Sat B s a A) : ∃ r, φ r /\ Sat B (gst s idx (post r) nx) a A := by
 obtain ⟨h1, h2, h3, F, hF, hM⟩ := hs
 obtain ⟨F1, F2, g1, g2, j⟩ := hp_sel hi hF
 rw [hpA, hh] at g1
 obtain ⟨r, F1', h4, h5, h6⟩ := E F1 A g1
 obtain ⟨F', g3, g4⟩ := As.frame j g2 h5 h6
 exact ⟨r, h4, h1, h2, h3, F', hp_app.2 g3, hM.trans g4⟩
theorem w_gh {c : Code} {R : Type} {φ : R -> Prop} {pre : List Ch} {post : R -> List Ch} (idx : List Nat) (nx : Nat) (E : GE pre R φ post) (hi : okB idx s.hp.length = true) (hh : (selC idx s.hp).map Ch.den = pre.map Ch.den) (h : ∀ r, φ r -> W P nO ro B c Q (gst s idx (post r) nx)) : W P nO ro B c Q s := fun a A hs => by
 obtain ⟨r, h1, h2⟩ := sat_gh idx nx E hi hh hs
 exact h r h1 a A h2
theorem wr_gh {ops : Array Oper} {id : Nat} {d : Bool} {i : Nat} {lg : Lg} {R : Type} {φ : R -> Prop} {pre : List Ch} {post : R -> List Ch} (idx : List Nat) (nx : Nat) (E : GE pre R φ post) (hi : okB idx s.hp.length = true) (hh : (selC idx s.hp).map Ch.den = pre.map Ch.den) (h : ∀ r, φ r -> WR P nO ops ro id d B Q i lg (gst s idx (post r) nx)) : WR P nO ops ro id d B Q i lg s := fun T h1 h2 h3 => by
 obtain ⟨r, h4, h5⟩ := sat_gh idx nx E hi hh h3
 exact h r h4 T h1 h2 h5
theorem k_gh {e : Exit} {R : Type} {φ : R -> Prop} {pre : List Ch} {post : R -> List Ch} (idx : List Nat) (nx : Nat) (E : GE pre R φ post) (hi : okB idx s.hp.length = true) (hh : (selC idx s.hp).map Ch.den = pre.map Ch.den) (h : ∀ r, φ r -> ∀ a A, Sat B (gst s idx (post r) nx) a A -> Q e a A) : ∀ a A, Sat B s a A -> Q e a A := fun a A hs => by
 obtain ⟨r, h1, h2⟩ := sat_gh idx nx E hi hh hs
 exact h r h1 a A h2
theorem w_loop (G : Good P) {x : Code} (X : Type) (inv : X -> St) (φ : X -> Prop) (m : X -> Nat) (x0 : X) (h0 : φ x0) (he : EnS s (inv x0)) (body : ∀ y, φ y -> W P nO ro B x (thenQ (fun a A => ∃ x', m x' < m y /\ φ x' /\ Sat B (inv x') a A) Q) (inv y)) : W P nO ro B (.loop x) Q s := fun a A hs => by
 refine cw_loop G (wpL_ind (fun n a A => ∃ x, n = m x /\ φ x /\ Sat B (inv x) a A) ?_ (m x0) a A ⟨x0, rfl, h0, he B a A hs⟩)
 rintro n a A ⟨x, rfl, hx, hS⟩
 refine (body x hx a A hS).mono fun e a A hq => ?_
 cases e with
 | normal => obtain ⟨x', h1, h2, h3⟩ := hq; exact ⟨m x', h1, x', rfl, h2, h3⟩
 | _ => exact hq
theorem run_var {t : TypeId} {q off n : Nat} {ag : Bool} {cs : Array Value} {tq : TypeId} {fz : Nat × Nat} {l : List C1} {A : World} (ht : tsz P t = some (n, ag)) (h1 : (ag || Nat.beq n 1) = true) (hl : l.length = n)
  (hb : A.heap[q]? = some (.cells cs tq fz)) (hc : cs.extract off (off + n) = cells1 l) (hn : off + n <= cs.size) : (loadVar t ⟨q, off, none⟩).run P A = .ok (mkv ag l).den A := by
 have ht' := tsz_ok ht
 unfold loadVar
 simp only [Sem.run_bind, run_agg ht', Result.andThen]
 cases ag with
 | true =>
  have := run_loadCells (P := P) n ⟨q, off, none⟩ 0 #[] cs tq fz hb rfl (by simpa using hn)
  simp only [Nat.add_zero, Array.empty_append, hc] at this
  simp only [if_true, Sem.run_bind, run_szT ht', Result.andThen, loadCells, this, Sem.run_pure]
  rfl
 | false =>
  simp only [Bool.false_or] at h1
  obtain rfl : n = 1 := Nat.eq_of_beq_eq_true h1
  match l, hl with
  | [c], _ =>
   have := congrArg (fun a => a[0]?) hc
   have e : (cs.extract off (off + 1))[0]? = cs[off]? := by
    rw [Array.getElem?_extract, if_pos (by omega), Nat.add_zero]
   simp only [e] at this
   have hcell : A.cell? ⟨q, off, none⟩ = some c.den := cell_of hb rfl (by simpa [cells1] using this)
   simp [Go.load, Sem.run, hcell, mkv, SV.den]
def resC (P : Program) (s : St) : ResultVar -> Option ((Bool × List C1) × List Ob)
 | .tmp t => match look s.env t with
  | some (.o c) => some ((false, [c]), [])
  | some (.a l) => some ((true, l), [])
  | _ => none
 | .cell a t => match look s.env a, tsz P t with
  | some (.o (.p g q i w k)), some (n, ag) => match fnd s.hp g, Bool.or ag (Nat.beq n 1) with
   | some (.blk _ q' cs _ _), true => match Nat.ble (i * w + k + n) cs.length with
    | true => some ((ag, (cs.drop (i * w + k)).take n), [.n q q'])
    | false => none
   | _, _ => none
  | _, _ => none
def resL (P : Program) (s : St) : List ResultVar -> Option (List (Bool × List C1) × List Ob)
 | [] => some ([], [])
 | r :: l => match resC P s r, resL P s l with
  | some (c, p), some (cs, ps) => some (c :: cs, p ++ ps)
  | _, _ => none
def resS (P : Program) (s : St) (l : List ResultVar) : Option (SV × List Ob) := match resL P s l with
 | some ([(false, l)], ps) => some (.o (l.headD (.v undef)), ps)
 | some ([(true, l)], ps) => some (.a l, ps)
 | some (cs, ps) => match Nat.beq cs.length 1 with
  | true => none
  | false => some (.t cs, ps)
 | none => none
theorem resC_ok {a : Act} {A : World} (hs : Sat B s a A) {r : ResultVar} {c : Bool × List C1} {ps : List Ob} (hr : resC P s r = some (c, ps)) (hps : AllP ps) : (resVar a.tmps r).run P A = .ok (compV c) A := by
 unfold resC at hr
 split at hr
 ·rename_i t
  split at hr
  ·rename_i c' hl
   cases hr
   simp only [resVar, Sem.run_pure, hs.1 t _ hl]; rfl
  ·rename_i l hl
   cases hr
   simp only [resVar, Sem.run_pure, hs.1 t _ hl]; rfl
  ·cases hr
 ·rename_i t' t
  split at hr
  case h_2 => cases hr
  rename_i g q i w k n ag hx ht
  split at hr
  case h_2 => cases hr
  rename_i g' q' cs t2 m hf hb
  split at hr
  case h_2 => cases hr
  rename_i hle
  cases hr
  obtain ⟨rfl, _⟩ := hps
  obtain ⟨F, hF, _⟩ := hs.2.2.2
  obtain ⟨fz, _, hB⟩ := blk_at hf hF
  have hle' := Nat.le_of_ble_eq_true hle
  have hx' : a.tmps.getD t' undef = .pointer (some ⟨q, i * w + k, none⟩) := hs.1 _ _ hx
  simp only [resVar, hx', asAddr, Sem.run_bind, Sem.run_pure, Result.andThen]
  have := run_var (l := (cs.drop (i * w + k)).take n) ht hb (by simp; omega) hB cells1_extract (by simpa [cells1] using hle')
  rw [this]
  cases ag <;> rfl
theorem resL_ok {a : Act} {A : World} (hs : Sat B s a A) : ∀ {l : List ResultVar} {cs : List (Bool × List C1)} {ps : List Ob}, resL P s l = some (cs, ps) -> AllP ps -> (List.mapM (m := Sem) (resVar a.tmps) l).run P A = .ok (cs.map compV) A
 | [], cs, ps, hr, _ => by cases hr; rfl
 | r :: l, cs, ps, hr, hps => by
  simp only [resL] at hr
  split at hr
  case h_2 => cases hr
  rename_i c p cs' ps' h1 h2
  cases hr
  obtain ⟨hp1, hp2⟩ := AllP.split hps
  simp only [List.mapM_cons, Sem.run_bind, resC_ok hs h1 hp1, Result.andThen, resL_ok hs h2 hp2, Sem.run_pure, List.map_cons]
theorem resS_ok {fn : Func} {a : Act} {A : World} (hs : Sat B s a A) {v : SV} {ps : List Ob} (hr : resS P s fn.results.toList = some (v, ps)) (hps : AllP ps) : (results fn a.tmps).run P A = .ok v.den A := by
 rw [results_eq, Array.mapM_eq_mapM_toList]
 unfold resS at hr
 split at hr
 ·rename_i c ps' hl
  cases hr
  simp only [map_eq_pure_bind, Sem.run_bind, resL_ok hs hl hps, Result.andThen, Sem.run_pure]
  rfl
 ·rename_i l ps' hl
  cases hr
  simp only [map_eq_pure_bind, Sem.run_bind, resL_ok hs hl hps, Result.andThen, Sem.run_pure]
  rfl
 ·rename_i cs ps' _ _ hl
  split at hr
  case h_1 => cases hr
  rename_i hb
  cases hr
  simp only [map_eq_pure_bind, Sem.run_bind, resL_ok hs hl hps, Result.andThen, Sem.run_pure]
  rw [dif_neg (fun e => by
   simp only [List.size_toArray, List.length_map] at e
   rw [e] at hb; cases hb)]
  rfl
 ·cases hr
theorem k_ret {fn : Func} {R : Type} {φ : R -> Prop} {res : R -> SV} {post : R -> List Ch} {e : Exit} (r : R) (idx : List Nat) (v : SV) (ps : List Ob) (hv : resS P s fn.results.toList = some (v, ps)) (hps : AllP ps) (hd : v.den = (res r).den) (hφ : φ r) (hi : okB idx s.hp.length = true) (hh : (selC idx s.hp).map Ch.den = (post r).map Ch.den) (he : e = .normal ∨ e = .ret) (hdf : s.df = [] := by rfl) :
  ∀ a A, Sat B s a A -> RQ P B fn φ res post e a A := fun a A hs => by
 have hres := resS_ok hs hv hps
 obtain ⟨h1, h2, h3, F, hF, hM⟩ := hs
 obtain ⟨F', h4, h5⟩ := hp_drop (hp_sel hi hF)
 rw [hpA, hh] at h4
 exact ⟨he, v.den, A, by rw [h3, hdf]; rfl, hres, r, F', hφ, hd, h4, hM.trans h5⟩
def defC (q : Nat) : As where
 p F A := (∀ b, F.own b ↔ b = q) /\ (∀ b, ¬ F.imm b) /\ A.heap[q]? = some (.deferred (some []))
 lt := fun ⟨h1, h2, h⟩ hb => by
  have := (Array.getElem?_eq_some_iff.1 h).1
  rcases hb with hb | hb
  ·rw [(h1 _).1 hb]; exact this
  ·exact (h2 _ hb).elim
 loc := fun ⟨h1, h2, h⟩ hk => ⟨h1, h2, by rw [hk q (.inl ((h1 q).2 rfl))]; exact h⟩
theorem k_retD {fn : Func} {R : Type} {φ : R -> Prop} {res : R -> SV} {post : R -> List Ch} {e : Exit} (q j : Nat) (hdf : s.df = [q]) (hj : okB [j] s.hp.length = true) (hc : (selC [j] s.hp).map Ch.den = [defC q])
  (k : ∀ B a A, Sat B { s with hp := selC (restI [j] s.hp.length) s.hp, df := [] } a A -> RQ P B fn φ res post e a A) : ∀ a A, Sat B s a A -> RQ P B fn φ res post e a A := fun a A hs => by
 obtain ⟨h1, h2, h3, F, hF, hM⟩ := hs
 obtain ⟨F1, F2, g1, g2, jn⟩ := hp_sel hj hF
 rw [hpA, hc] at g1
 have g1 := As.unE g1
 obtain ⟨o1, o2, hB⟩ := g1
 have hk : ∀ b, b ≠ q -> (turn A q (.deferred none)).heap[b]? = A.heap[b]? := fun b hb => turn_ne hb
 have hq : F.own q := (jn.own q).2 (.inl ((o1 q).2 rfl))
 have hM1 : Mv F A F2 (turn A q (.deferred none)) := ⟨Nat.le_of_eq turn_size.symm, fun b _ hn => hk b fun e => hn (e ▸ hq), fun b hb => .inl ((jn.own b).2 (.inr hb)), fun b hb => .inr (.inl ((jn.imm b).2 (.inr hb)))⟩
 have hs' : Sat B { s with hp := selC (restI [j] s.hp.length) s.hp, df := [] } ⟨a.tmps, []⟩ (turn A q (.deferred none)) :=
  ⟨h1, h2, rfl, F2, As.loc _ g2 fun b hb => hk b fun e => by subst e; exact hb.elim (jn.oo b ((o1 b).2 rfl)) (jn.oi b ((o1 b).2 rfl)), hM.trans hM1⟩
 obtain ⟨e1, v, A', e2, e3, e4⟩ := k B _ _ hs'
 have e2' : A' = turn A q (.deferred none) := e2
 subst e2'
 refine ⟨e1, v, _, ?_, e3, e4⟩
 rw [h3, hdf]
 exact ⟨q, turn A q (.deferred none), rfl, by
  unfold Instr.takeDeferred getObj setObj
  simp [Sem.run, Bind.bind, Sem.bind, Pure.pure, hB, turn], rfl⟩
def argL (env : List (Nat × SV)) : List Operand -> Option (List Value)
 | [] => some []
 | x :: l => match evX env x, argL env l with
  | some v, some vs => some (v.den :: vs)
  | _, _ => none
theorem argL_ok {env : List (Nat × SV)} {a : Act} (h : EnvOk env a) : ∀ {l : List Operand} {vs : List Value}, argL env l = some vs -> l.map a.eval = vs
 | [], _, e => by cases e; rfl
 | x :: l, vs, e => by
  simp only [argL] at e
  split at e
  case h_2 => cases e
  rename_i v vs' h1 h2
  cases e
  simp only [List.map_cons, evX_ok h h1, argL_ok h h2]
def aft (s : St) (d : Option Tmp) (v : SV) (idx : List Nat) (l : List Ch) (nx : Nat) : Option St := putE (gst s idx l nx) d v
theorem wr_acts {ops : Array Oper} {id : Nat} {d : Bool} {i : Nat} {lg : Lg} {o : Oper} {R : Type} {φ : R -> Prop} {res : R -> SV} {pre : List Ch} {post : R -> List Ch} (ho : ops[i]? = some o) (hw : wantS ops s.env o = some .yes) (hk : kindOf o.op = .acts) (idx : List Nat) (nx : Nat) (hi : okB idx s.hp.length = true) (hh : (selC idx s.hp).map Ch.den = pre.map Ch.den)
  (run : ∀ a : Act, EnvOk s.env a -> ∀ F A, (hpA pre).p F A -> ∃ r A' F', (φ r /\ RunOp P (Wd P nO) o a A (res r).den A') /\ (hpA (post r)).p F' A' /\ Mv F A F' A')
  (next : ∀ r, φ r -> ∃ s', aft s o.dst (res r) idx (post r) nx = some s' /\ WR P nO ops ro id d B Q (i + 1) (lg.snoc i (s, none)) s') : WR P nO ops ro id d B Q i lg s := fun T h1 h2 h3 => by
 obtain ⟨r, A', ⟨hφ, hrun⟩, hS⟩ := sat_frame (X := fun r A' => φ r /\ RunOp P (Wd P nO) o (T.as i) (T.ws i) (res r).den A') (nx := nx) hi hh (fun F hF => run _ h3.1 F _ hF) h3
 obtain ⟨s', hs', hn⟩ := next r hφ
 obtain ⟨h4, _, _⟩ := putE_ok (s := gst s idx (post r) nx) (hp := (gst s idx (post r) nx).hp) (nx := nx) hS hS.2.2.2 hs' rfl
 obtain ⟨T1, e1, e2, g1, g2, g3, _⟩ := seq_more (s1 := s') ho h1 h2 h3 (u := (res r).den) (A1 := A') (mk := none) ⟨rfl, by rw [if_pos (show Region.wanted o (yielded ops (T.as i).tmps) = true from wantS_ok h3 hw)]; exact ⟨hrun, by rw [hk]; trivial⟩⟩ h4
 rw [<- e1, <- e2]
 exact hn T1 g1 g2 g3
theorem runOp_enter {o : Oper} {a : Act} {A A' : World} {c : Call} {g : Operand} {f : FuncId} {first cap : Array Value} {fn : Func} {code : Code} {v : Value} {l : List Value} {xs : Array Value} (H : IsFn P f fn code) (hg : a.eval g = .func (.func f) first cap) (hl : c.args.toList.map a.eval = l) (hx : first ++ l.toArray ++ cap = xs)
  (h : SndCall P nO f xs A v A') (ho : o.op = .call c) (hc : c.callee = .value g) : RunOp P (Wd P nO) o a A v A' := by
 subst hx
 have e : c.args.map a.eval = l.toArray := by rw [<- hl, <- Array.toList_map]
 rw [<- e] at h
 exact ⟨_, _, .inr (.inr (.inr (.inl ⟨c, g, f, first, cap, fn, code, ho, hc, hg, H.at_, H.body, H.name, rfl, rfl⟩))), h⟩
end
end Go.Abs
