/-
  The kit's contract of slices.SortFunc at pairs, laid at this program (written by the kit's lay-shelf and lay-plain): the table of numbers, its facts.
-/
import Derived.Shelf.SlSortCmp.WholeK
import Derived.Test.YtfkdkfleaiaoiaaProg
import Derived.Test.YtfkdkfleaiaoiaaM7
import Derived.Test.YtfkdkfleaiaoiaaB15
namespace Go.Proofs
open Go.Shelf
def Try.laysSlF06_f38_ren : Go.Shelf.Ren := ⟨fun | 6 => 38 | 15 => 44 | 14 => 47 | 28 => 57 | 29 => 58 | 20 => 59 | 21 => 60 | 22 => 61 | 23 => 62 | 24 => 63 | 25 => 64 | 26 => 65 | 27 => 66 | 46 => 73 | 47 => 68 | 48 => 69 | 49 => 74 | 50 => 75 | 57 => 77 | n => n, fun | 22 => 25 | 24 => 42 | 25 => 58 | 3 => 3 | 39 => 63 | 0 => 0 | 53 => 78 | 55 => 80 | 4 => 4 | 46 => 71 | 45 => 70 | 50 => 75 | 5 => 5 | 9 => 9 | 66 => 86 | 70 => 90 | 76 => 94 | 77 => 95 | n => n, fun | n => n⟩
theorem Try.laysSlF06_f38 : Go.Proofs.SlLaysF0.n6 Try.prog Try.laysSlF06_f38_ren := {
  mixed := by kernel_rfl
  f6 := ⟨Try.f38.name, by decide, Try.func38.trans (congrArg some (by kernel_rfl))⟩
  f14 := ⟨Try.f47.name, by decide, Try.func47.trans (congrArg some (by kernel_rfl))⟩
  f15 := Try.func44.trans (congrArg some (by kernel_rfl))
  f20 := ⟨Try.f59.name, by decide, Try.func59.trans (congrArg some (by kernel_rfl))⟩
  f21 := ⟨Try.f60.name, by decide, Try.func60.trans (congrArg some (by kernel_rfl))⟩
  f22 := ⟨Try.f61.name, by decide, Try.func61.trans (congrArg some (by kernel_rfl))⟩
  f23 := ⟨Try.f62.name, by decide, Try.func62.trans (congrArg some (by kernel_rfl))⟩
  f24 := ⟨Try.f63.name, by decide, Try.func63.trans (congrArg some (by kernel_rfl))⟩
  f25 := ⟨Try.f64.name, by decide, Try.func64.trans (congrArg some (by kernel_rfl))⟩
  f26 := ⟨Try.f65.name, by decide, Try.func65.trans (congrArg some (by kernel_rfl))⟩
  f27 := ⟨Try.f66.name, by decide, Try.func66.trans (congrArg some (by kernel_rfl))⟩
  f28 := Try.func57.trans (congrArg some (by kernel_rfl))
  f29 := Try.func58.trans (congrArg some (by kernel_rfl))
  f46 := ⟨Try.f73.name, by decide, Try.func73.trans (congrArg some (by kernel_rfl))⟩
  f47 := Try.func68.trans (congrArg some (by kernel_rfl))
  f48 := Try.func69.trans (congrArg some (by kernel_rfl))
  f49 := ⟨Try.f74.name, by decide, Try.func74.trans (congrArg some (by kernel_rfl))⟩
  f50 := ⟨Try.f75.name, by decide, Try.func75.trans (congrArg some (by kernel_rfl))⟩
  f57 := ⟨Try.f77.name, by decide, Try.func77.trans (congrArg some (by kernel_rfl))⟩
  t0 := Try.underlying0
  a0 := Try.isAgg0
  z0 := Try.sizeOf0
  v0 := Try.zeroValue0
  t3 := Try.underlying3
  a3 := Try.isAgg3
  z3 := Try.sizeOf3
  v3 := Try.zeroValue3
  t4 := Try.underlying4
  a4 := Try.isAgg4
  z4 := Try.sizeOf4
  v4 := Try.zeroValue4
  t5 := Try.underlying5
  a5 := Try.isAgg5
  z5 := Try.sizeOf5
  v5 := Try.zeroValue5
  t9 := Try.underlying9
  a9 := Try.isAgg9
  z9 := Try.sizeOf9
  v9 := Try.zeroValue9
  t22 := Try.underlying25
  a22 := Try.isAgg25
  z22 := Try.sizeOf25
  v22 := Try.zeroValue25
  t25 := Try.underlying58
  a25 := Try.isAgg58
  z25 := Try.sizeOf58
  v25 := Try.zeroValue58
  t39 := Try.underlying63
  a39 := Try.isAgg63
  z39 := Try.sizeOf63
  v39 := Try.zeroValue63
  t45 := Try.underlying70
  a45 := Try.isAgg70
  z45 := Try.sizeOf70
  v45 := Try.zeroValue70
  t46 := Try.underlying71
  a46 := Try.isAgg71
  z46 := Try.sizeOf71
  v46 := Try.zeroValue71
  t50 := Try.underlying75
  a50 := Try.isAgg75
  z50 := Try.sizeOf75
  v50 := Try.zeroValue75
  t53 := Try.underlying78
  a53 := Try.isAgg78
  z53 := Try.sizeOf78
  v53 := Try.zeroValue78
  t55 := Try.underlying80
  a55 := Try.isAgg80
  z55 := Try.sizeOf80
  v55 := Try.zeroValue80
  t66 := Try.underlying86
  a66 := Try.isAgg86
  z66 := Try.sizeOf86
  v66 := Try.zeroValue86
  t70 := Try.underlying90
  a70 := Try.isAgg90
  z70 := Try.sizeOf90
  v70 := Try.zeroValue90
  t76 := Try.underlying94
  a76 := Try.isAgg94
  z76 := Try.sizeOf94
  v76 := Try.zeroValue94
  t77 := Try.underlying95
  a77 := Try.isAgg95
  z77 := Try.sizeOf95
  v77 := Try.zeroValue95 }
open Go.RowKit Go.Lib Go.Sort in
/-- **slices.SortFunc: WHAT THE ROW HOLDS, TO THE ELEMENT.** (LAID AT THE INSTANCE 'slices.SortFunc[[][2]int,[2]int]': no walk: one application.) -/
theorem Try.slices_SortFunc_eq {α : Type} [Inhabited α] (k : Nat) (aE : ∀ w, (isAgg 42).run Try.prog w = .ok true w) (zE : ∀ w, (Go.sizeOf 42).run Try.prog w = .ok k w) (enc : α → List Value) (hk : ∀ x, (enc x).length = k) (h1 : ∀ x, ∀ v ∈ enc x, v.oneCell' = true) (cf : α → α → Int) (hO : SWO (ltOf cf)) (g : Nat) (cb : Array Value) (blk off cap : Nat) (d : Array α) (w : World) (eg : ∀ args w, (callFunc g args).run Try.prog w = .ok (.enter g args) w) (hcmp : CmpLays Try.prog g cb enc k cf blk off d.size w) (hH : HoldsK enc k w blk off d) (hblk : blk < w.heap.size) (hsz : d.size < 4611686018427387904) :
    Calls Try.prog 38 #[.slice (some ⟨blk, off, none⟩) d.size cap, .func (.func g) #[] cb] w fun e w' =>
      e = .returned (.tuple #[]) ∧ ∃ n os, w' = sortWorldK enc k w blk off n (pdq (ltOf cf) d 0 d.size (Lib.bitLen d.size) true true) os := AnyQ.slices_SortFunc_eq Try.laysSlF06_f38 k aE zE enc hk h1 cf hO g cb blk off cap d w eg hcmp hH hblk hsz
end Go.Proofs
/-
  slices.SortFunc at spans, by where they begin. No condition.
-/
namespace Go.Proofs.Ytfkdkfleaiaoiaa
open Go.Abs Go.RowKit Go.Sort Go.Lib
variable {n₀ : Nat}
set_option maxRecDepth 8000
/-- A span that begins where a number may stand. -/
abbrev Pt := { s : Int × Int // 0 ≤ s.1 ∧ s.1 ≤ 65536 }
instance : Inhabited Pt := ⟨⟨(0, 0), by decide⟩⟩
def encP (x : Pt) : List Value := [.int .i64 x.1.1, .int .i64 x.1.2]
def cfP (x y : Pt) : Int := x.1.1 - y.1.1
theorem ltP (x y : Pt) : ltOf cfP x y = decide (x.1.1 < y.1.1) := by
  unfold ltOf cfP
  by_cases h : x.1.1 < y.1.1
  · rw [decide_eq_true h, decide_eq_true (by omega)]
  · rw [decide_eq_false h, decide_eq_false (by omega)]
theorem swoP : SWO (ltOf cfP) where
  irrefl x := by rw [ltP]; simp
  trans x y z h1 h2 := by rw [ltP] at *; simp at *; omega
  ntrans x y z h1 h2 := by rw [ltP] at *; simp at *; omega
theorem flatP (d : Array Pt) : flatK encP 2 d = cells2 (d.toList.map (·.1)) := by
  apply Array.ext
  · rw [size_flatK, cells2_size]; simp
  · intro i h1 h2
    rw [size_flatK] at h1
    have hd : i / 2 < d.size := by omega
    have hs : (d.toList.map (·.1))[i / 2]? = some (d[i / 2]).1 := by simp [hd]
    obtain ⟨e1, e2⟩ := cells2_at hs
    have hg := get_flatK encP 2 d i h1
    rw [getElem!_pos _ i (by rw [size_flatK]; exact h1)] at hg
    rw [hg, getElem!_pos d (i / 2) hd]
    have hi : i = i / 2 * 2 + i % 2 := by omega
    rcases (by omega : i % 2 = 0 ∨ i % 2 = 1) with h | h
    · rw [h]
      have : i / 2 * 2 = i := by omega
      rw [this] at e1
      rw [Array.getElem?_eq_getElem h2] at e1
      injection e1 with e1
      rw [e1]; rfl
    · rw [h]
      have : i / 2 * 2 + 1 = i := by omega
      rw [this] at e2
      rw [Array.getElem?_eq_getElem h2] at e2
      injection e2 with e2
      rw [e2]; rfl
def fn39 : Value := .func (.func 39) #[] #[]
theorem sortf_snd {m : List Sp} (hm : ∀ s ∈ m, 0 ≤ s.1 ∧ s.1 ≤ 65536) (hl : m.length < 90000) : ∃ m' : List Sp, m'.Perm m ∧ m'.Pairwise (fun s u => s.1 ≤ u.1) ∧
    ∀ {n₀ d cap : Nat} {A : World}, A.heap[d]? = some (.cells (cells2 m) 42 (1, 0)) → 0 < cap → SndCall Try.prog n₀ 38 #[.slice (some ⟨d, 0, none⟩) m.length cap, fn39] A undef (turn A d (.cells (cells2 m') 42 (1, 0))) := by
  obtain ⟨d, hd⟩ : ∃ d : Array Pt, d.toList.map (·.1) = m := ⟨(m.attach.map fun s => (⟨s.1, hm s.1 s.2⟩ : Pt)).toArray, by simp [Function.comp_def, List.attach_map_subtype_val]⟩
  have hsz : d.size = m.length := by rw [← hd]; simp
  obtain ⟨h1, h2⟩ := pdq_sorts (ltOf cfP) swoP d 0 d.size (Lib.bitLen d.size) true true (Nat.zero_le _) (Nat.le_refl _) (Or.inl rfl)
  generalize hd' : pdq (ltOf cfP) d 0 d.size (Lib.bitLen d.size) true true = d' at h1 h2
  obtain ⟨hs', _, hp⟩ := h1
  have hp' : d'.toList.Perm d.toList := by
    have e1 : d'.extract 0 d.size = d' := by rw [← hs']; simp
    have e2 : d.extract 0 d.size = d := by simp
    rwa [e1, e2] at hp
  have hm' : (d'.toList.map (·.1)).Perm m := by rw [← hd]; exact hp'.map _
  refine ⟨d'.toList.map (·.1), hm', ?_, fun {n₀ dd cap A} hA hcap => ?_⟩
  · rw [List.pairwise_iff_getElem]
    intro i j hi hj hij
    have hi' : i < d'.size := by simpa using hi
    have hj' : j < d'.size := by simpa using hj
    have := h2 i j (Nat.zero_le _) hij (by omega)
    rw [ltP, getElem!_pos d' j hj', getElem!_pos d' i hi'] at this
    simp at this
    simpa using this
  · have pl : ∀ {m : List Sp} (i : Nat) x, (cells2 m)[i]? = some x → plain x = true := fun {m} i x hx => by
      have hx' : x ∈ (cells2 m).toList := by
        have := Array.mem_of_getElem? hx
        simpa using this
      simp only [cells2, List.mem_flatMap] at hx'
      obtain ⟨s, _, hs⟩ := hx'
      simp only [List.mem_cons, List.not_mem_nil, or_false] at hs
      rcases hs with rfl | rfl <;> rfl
    have hlen' : (d'.toList.map (·.1)).length = m.length := hm'.length_eq
    refine snd_turn2 (g := fn39) rfl hA (.inr rfl) (by rw [cells2_size, cells2_size, hlen']) (.inl hcap) pl pl fun W blk off cap' cw tw fw hW hfw hcells => ?_
    have hb : blk < W.heap.size := (Array.getElem?_eq_some_iff.1 hW).1
    have hH : HoldsK encP 2 W blk off d := by
      unfold HoldsK
      rw [flatP, hd]
      exact holds_of hW hfw hcells
    have eg : ∀ args w, (callFunc 39 args).run Try.prog w = .ok (.enter 39 args) w := enters_of Try.func39 (by kernel_rfl) rfl
    have := Go.Proofs.Try.slices_SortFunc_eq (α := Pt) 2 (run_agg (n := 2) rfl) (run_szT (g := true) rfl) encP (fun _ => rfl) (fun x v hv => by simp [encP] at hv; rcases hv with rfl | rfl <;> rfl) cfP swoP 39 #[] blk off cap' d W eg (fun _ _ _ _ x y => closure39 x.1 y.1 _ x.2 y.2) hH hb (by omega)
    rw [hsz] at this
    refine this.mono ?_
    rintro e W' ⟨rfl, n, os, rfl⟩
    refine ⟨rfl, ?_⟩
    rw [← hsz, hd']
    unfold sortWorldK putRowK
    rw [flatP]
    refine turned_putV hb fun cw' tw' fw' h h0 => ?_
    rw [hW] at h; cases h
    rw [cells2_size, hlen'] at h0 ⊢
    have hlt : m.length * 2 - 1 < (cells2 m).size := by rw [cells2_size]; omega
    have := hcells (m.length * 2 - 1) _ (Array.getElem?_eq_getElem hlt)
    have := (Array.getElem?_eq_some_iff.1 this).1
    omega
end Go.Proofs.Ytfkdkfleaiaoiaa
