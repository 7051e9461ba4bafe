/-
  ABS B14: a list of values of several cells each, as it grows by one.
-/
import Derived.Test.YtfkdkfleaiaoiaaB13
namespace Go.Abs
structure AppTyK (P : Program) (sT xT e : TypeId) (w : Nat) : Prop where
  s : P.underlying sT = some (.slice e)
  x : ∃ e', P.underlying xT = some (.slice e')
  i : ∃ ie z, P.info? e = some ie ∧ ie.zero = some z ∧ z.cells.size = w ∧ ie.size = w ∧ ie.bytes ≤ 2 ^ 16
def lstK (t : TypeId) (v : Value) (n : Nat) (cs : Array Value) : Asn := fun F A => (n = 0 ∧ v = .slice none 0 0 ∧ ∀ b, ¬ F b) ∨ (0 < n ∧ ∃ d, v = .slice (some ⟨d, 0, none⟩) n n ∧ blk d (.cells cs t (1, 0)) F A)
theorem Owns.lstK {t : TypeId} {v : Value} {n : Nat} {cs : Array Value} : Owns (lstK t v n cs) := by
  refine ⟨fun {F A b} h hb => ?_, fun {F A A'} h hk hr => ?_⟩
  · rcases h with ⟨_, _, h⟩ | ⟨_, d, _, h⟩
    · exact (h _ hb).elim
    · exact Owns.blk.lt h hb
  · rcases h with ⟨e, e', h⟩ | ⟨e, d, e', h⟩
    · exact .inl ⟨e, e', h⟩
    · exact .inr ⟨e, d, e', Owns.blk.loc h hk hr⟩
section
variable {P : Program}
theorem lstK_grow1 {sT xT e : TypeId} {w : Nat} (T : AppTyK P sT xT e w) {v : Value} {n : Nat} {cs x : Array Value} {R : Asn} {F : Foot} {A : World} (hR : Owns R) (h : ((lstK e v n cs).sep R) F A) (hcs : cs.size = n * w) (hx : x.size = w) (ho : x.toList.all isOne = true) (hlen : n < 16777216) :
    ∃ v' A2 F2, (∀ (o : Oper) (c : Call) (ρ : Operand → Value), o.op = .call c → c.callee = .builtin .append → c.argTypes = #[sT, xT] → c.args.toList.map ρ = [v, .slice (some ⟨A.heap.size, 0, none⟩) 1 1] → AOp P ρ o (A.alloc (.cells x e (0, 0))) (.value v') A2) ∧
      ((lstK e v' (n + 1) (cs ++ x)).sep R) F2 A2 ∧ Step F A F2 A2 := by
  obtain ⟨e', hxT⟩ := T.x
  obtain ⟨ie, z, hi, hz, hz1, hsz, hby⟩ := T.i
  have hAt : ∀ c : Call, c.argTypes = #[sT, xT] → AppAt P c.argTypes e ie z ∧ zerosOf P c.argTypes = false := fun c ht =>
    ⟨⟨hz, ⟨sT, by rw [ht]; rfl, T.s⟩, hi, fun t h => by rw [ht] at h; cases h; exact .inl ⟨_, hxT⟩⟩, by simp [zerosOf, ht, hxT]⟩
  obtain ⟨F1, h1, S1⟩ := Asn.newO (Owns.sep Owns.lstK hR) h (.cells x e (0, 0))
  generalize hq : A.heap.size = q at h1
  generalize hA1 : A.alloc (.cells x e (0, 0)) = A1 at h1 S1
  have hsrc : ∀ c : Call, c.argTypes = #[sT, xT] → (appSrc (zerosOf P c.argTypes) e ie.size 1 (.slice (some ⟨q, 0, none⟩) 1 1)).run P A1 = .ok x A1 := fun c ht => by
    rw [(hAt c ht).2, hsz]
    have := run_loadCells (P := P) w ⟨q, 0, none⟩ 0 #[] x e (0, 0) (Asn.at h1) rfl (by simp [hx])
    have e1 : x.extract 0 w = x := by rw [← hx]; simp
    simpa [appSrc, Builtin.firstCells, loadCells, e1] using this
  have h2 := Asn.swap h1
  have hsl : (n = 0 ∧ v = .slice none 0 0) ∨ (0 < n ∧ ∃ d, v = .slice (some ⟨d, 0, none⟩) n n) := by
    obtain ⟨_, _, h1, _⟩ := h
    rcases h1 with ⟨a, b, _⟩ | ⟨a, d, b, _⟩
    · exact .inl ⟨a, b⟩
    · exact .inr ⟨a, d, b⟩
  rcases hsl with ⟨rfl, rfl⟩ | ⟨hn, d, rfl⟩
  · obtain rfl : cs = #[] := Array.eq_empty_of_size_eq_zero (by simpa using hcs)
    obtain ⟨F3, h3, S3⟩ := Asn.newO (Owns.sep Owns.lstK (Owns.sep Owns.blk hR)) h2 (.cells x e (1, 0))
    obtain ⟨F4, h4, S4⟩ := Asn.drop (Asn.swap h3)
    obtain ⟨F5, h5, S5⟩ := Asn.drop (Asn.swap h4)
    refine ⟨.slice (some ⟨A1.heap.size, 0, none⟩) 1 1, _, F5, fun o c ρ ho' hc ht ha => .inr (.inr (.inl ⟨c, _, ho', hc, rfl, e, ie, z, none, 0, 0, _, 1, (hAt c ht).1, map_list ha, by rw [(hAt c ht).2]; rfl,
        .inr ⟨by omega, Nat.le_refl _, by decide, hby, by rw [hz1, hsz], #[], x, ?_, hsrc c ht, by simp, by simp, by simp [hsz, hx], ho, .inl ⟨by simp, fun a h => by cases h⟩⟩⟩)), ?_, S1.trans (S3.trans (S4.trans S5))⟩
    · rfl
    · exact Asn.map h5 fun F hb => .inr ⟨Nat.succ_pos _, A1.heap.size, rfl, by simpa using hb⟩
  · have hblk : ((blk d (.cells cs e (1, 0))).sep ((blk q (.cells x e (0, 0))).sep R)) F1 A1 := Asn.map h2 fun F hb => by
      rcases hb with ⟨e1, _⟩ | ⟨_, d', e1, hb⟩
      · omega
      · cases e1; exact hb
    obtain ⟨hk, Sk⟩ := Asn.killed (e := e) (Owns.sep Owns.blk hR) hblk
    obtain ⟨F3, h3, S3⟩ := Asn.newO (Owns.sep Owns.blk (Owns.sep Owns.blk hR)) hk (.cells (cs ++ x) e (1, 0))
    obtain ⟨F4, h4, S4⟩ := Asn.drop (Asn.swap h3)
    obtain ⟨F5, h5, S5⟩ := Asn.drop (Asn.swap h4)
    have hold : (Builtin.firstCells ie.size n (.slice (some ⟨d, 0, none⟩) n n)).run P A1 = .ok cs A1 := by
      have := run_loadCells (P := P) (n * w) ⟨d, 0, none⟩ 0 #[] cs e (1, 0) (Asn.at hblk) rfl (by simp [hcs])
      rw [hsz]
      have e1 : cs.extract 0 (n * w) = cs := by rw [← hcs]; simp
      simpa [Builtin.firstCells, loadCells, e1] using this
    have esz : (kill A1 d e).heap.size = A1.heap.size := kill_size _ _
    rw [esz] at h5
    refine ⟨.slice (some ⟨A1.heap.size, 0, none⟩) (n + 1) (n + 1), _, F5, fun o c ρ ho' hc ht ha => .inr (.inr (.inl ⟨c, _, ho', hc, rfl, e, ie, z, some ⟨d, 0, none⟩, n, n, _, 1, (hAt c ht).1, map_list ha, by rw [(hAt c ht).2]; rfl,
        .inr ⟨by omega, Nat.le_refl _, by omega, hby, by rw [hz1, hsz], cs, x, hold, hsrc c ht, rfl, by simp [hsz, hcs], by simp [hsz, hx], ho, .inr ⟨⟨d, 0, none⟩, cs, rfl, Asn.at hblk, hn, rfl⟩⟩⟩)), ?_, S1.trans (Sk.trans (S3.trans (S4.trans S5)))⟩
    exact Asn.map h5 fun F hb => .inr ⟨Nat.succ_pos _, A1.heap.size, rfl, hb⟩
end
end Go.Abs
