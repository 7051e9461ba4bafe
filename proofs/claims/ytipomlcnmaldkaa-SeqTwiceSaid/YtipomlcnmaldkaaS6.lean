/-
  The calls, as what lies where; and how much is asked for. No condition.
-/
import Derived.Test.YtipomlcnmaldkaaS5
namespace Go.Proofs.Ytipomlcnmaldkaa
open Go.Abs
variable {n₀ : Nat}
set_option maxRecDepth 4000
theorem alloc_sz {A : World} {o : Obj} : (A.alloc o).heap.size = A.heap.size + 1 := by simp
theorem of_do {I : Asn} {F : Foot} {A : World} {v : Value} (hO : Owns I) (h : I F A) (hv : isOne v = true) : ∃ b A' F', SndCall Try.prog n₀ 11 #[v] A (valsV b) A' ∧ ((cel b v).sep I) F' A' ∧ Step F A F' A' := by
  obtain ⟨F1, h1, S1⟩ := Asn.new hO h v 22
  exact ⟨_, _, F1, of_call hv, h1, S1⟩
theorem map_do {φ β : Type} {s f : Value} {K : φ → Asn} {J : β → Asn} {p : φ} {q : β} {F : Foot} {A : World} (hK : Owns (K p)) (hJ : Owns (J q)) (h : ((J q).sep (K p)) F A) (hs : isOne s = true) (hf : isOne f = true) :
    ∃ bs bf A' F', SndCall Try.prog n₀ 10 #[s, f] A (mapV bs bf) A' ∧ mapJ bs bf s f K J (p, q) F' A' ∧ Step F A F' A' := by
  obtain ⟨F1, h1, S1⟩ := Asn.new (Owns.sep hJ hK) h s 26
  obtain ⟨F2, h2, S2⟩ := Asn.new (Owns.sep Owns.cel (Owns.sep hJ hK)) h1 f 29
  rw [alloc_sz] at h2
  exact ⟨_, _, _, F2, map_call hs hf, Asn.perm [cel (A.heap.size + 1) f, cel A.heap.size s, J q, K p] [2, 3, 1, 0] h2 (by decide), S1.trans S2⟩
theorem take_do {β : Type} {s : Value} {J : β → Asn} {q : β} {n : Int} {F : Foot} {A : World} (hJ : Owns (J q)) (h : J q F A) (hs : isOne s = true) :
    ∃ bn bs A' F', SndCall Try.prog n₀ 14 #[s, .int .i64 n] A (takeV bn bs) A' ∧ takeJ bn bs n s J q F' A' ∧ Step F A F' A' := by
  obtain ⟨F1, h1, S1⟩ := Asn.new hJ h s 26
  obtain ⟨F2, h2, S2⟩ := Asn.new (Owns.sep Owns.cel hJ) h1 (.int .i64 n) 3
  rw [alloc_sz] at h2
  exact ⟨_, _, _, F2, take_call hs, h2, S1.trans S2⟩
theorem rd_take {p : Option Addr} {l : List Int} {k : Nat} {F : Foot} {A : World} (h : rd p l F A) : rd p (l.take k) F A :=
  ⟨h.1, fun i x hx => h.2.1 i x (by
    rw [List.getElem?_take] at hx
    split at hx
    · exact hx
    · cases hx), h.2.2⟩
theorem Rd_take {p : Option Addr} {l : List Int} {k : Nat} {A : World} (h : Rd A p l) : Rd A p (l.take k) := fun i x hx => h i x (by
    rw [List.getElem?_take] at hx
    split at hx
    · exact hx
    · cases hx)

/-- What is asked for, and what is taken. -/
theorem fold_lazy : ∀ (l : List Int) (k m : Nat) (acc : List Int), 0 < m → m < 9223372036854775808 → k + l.length < 1000 → acc.length + l.length < 1000 →
    ∃ m', foldY (mapSt askFn (takeSt stL)) l (k, (m, acc)) = some (k + min m l.length, (m', acc ++ l.take m))
  | [], k, m, acc, _, _, _, _ => ⟨m, by simp [foldY]⟩
  | x :: l, k, m, acc, hm, hm2, hk, ha => by
    simp only [List.length_cons] at hk ha
    have h1 : askFn k x = some (x, k + 1) := by unfold askFn; rw [if_pos (by omega)]
    have h2 : stL acc x = some (true, acc ++ [x]) := by unfold stL; rw [if_pos (by omega)]
    have h3 : mapSt askFn (takeSt stL) (k, (m, acc)) x = some (decide (1 < m), (k + 1, (m - 1, acc ++ [x]))) := by
      simp only [mapSt, h1, takeSt, Option.bind_some, h2]
      rw [if_pos ⟨hm, hm2⟩]
      simp
    unfold foldY
    rw [h3]
    by_cases h : 1 < m
    · simp only [h, decide_true]
      obtain ⟨m', hm'⟩ := fold_lazy l (k + 1) (m - 1) (acc ++ [x]) (by omega) (by omega) (by omega) (by simp; omega)
      refine ⟨m', ?_⟩
      rw [hm']
      have e1 : k + 1 + min (m - 1) l.length = k + min m (l.length + 1) := by omega
      have e2 : acc ++ [x] ++ l.take (m - 1) = acc ++ (x :: l).take m := by
        obtain ⟨m0, rfl⟩ : ∃ m0, m = m0 + 1 := ⟨m - 1, by omega⟩
        simp
      rw [e1, e2]; rfl
    · have hm1 : m = 1 := by omega
      subst hm1
      refine ⟨0, ?_⟩
      simp
theorem run_lazy {l : List Int} {n : Int} (hl : l.length ≤ 30) (hn : n < 9223372036854775808) :
    takeRun n (mapRun askFn (fun _ st _ a => (foldY st l a).map fun a' => ((), a'))) (List Int) stL (0, ()) [] = some (((max 0 (min n l.length)).toNat, ()), l.take (max 0 (min n l.length)).toNat) := by
  unfold takeRun
  by_cases h : n < 1
  · rw [if_pos h]
    have : (max 0 (min n (l.length : Int))).toNat = 0 := by omega
    rw [this]; simp
  · rw [if_neg h]
    obtain ⟨m', hm'⟩ := fold_lazy l 0 n.toNat [] (by omega) (by omega) (by omega) (by simp; omega)
    have e : (max 0 (min n (l.length : Int))).toNat = min n.toNat l.length := by omega
    unfold mapRun
    simp only [hm', Option.map_some, e]
    simp [List.take_eq_take_iff]
end Go.Proofs.Ytipomlcnmaldkaa
