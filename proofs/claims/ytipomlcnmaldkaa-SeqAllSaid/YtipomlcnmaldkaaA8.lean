/-
  ABS 8: the last operations; what an operation of the canonical run is; it is met on the other side.
-/
import Derived.Test.YtipomlcnmaldkaaA7
namespace Go.Abs
section
variable {P : Program} {n₀ : Nat} {ι ι' : Ren} {A A' W W' : World}

theorem RS.len (ts : Array TypeId) (t : TypeId) {xs xs' : Array Value} (h : Vs P ι xs xs') : RS P n₀ ι (VRel P) (Builtin.len_ ts t xs) (Builtin.len_ ts t xs') := by
  unfold Builtin.len_
  cases h0 : ts[0]? with
  | none => exact RS.stuck _
  | some tt =>
    cases h1 : xs[0]? with
    | none => exact RS.stuck _
    | some x =>
      obtain ⟨x', hx, hxx⟩ := h.at h1
      rw [hx]
      simp only
      refine (RS.underlying tt).bind fun ι1 l1 d d' ⟨hd, _⟩ => ?_
      subst hd
      have hv := hxx.mono l1
      cases d' with
      | array n e => exact .pure (.int _ _)
      | pointer e =>
        simp only
        refine (RS.underlying e).bind fun ι2 l2 d d' ⟨hd, _⟩ => ?_
        subst hd
        cases d' with
        | array n e => exact .pure (.int _ _)
        | _ => exact RS.stuck _
      | string => cases hv with
        | string s => exact .pure (.int _ _)
        | _ => exact RS.stuck _
      | slice e => cases hv with
        | slice0 l c => exact .pure (.int _ _)
        | slice hh => exact .pure (.int _ _)
        | _ => exact RS.stuck _
      | map k e => cases hv with
        | map0 => exact .pure (.int _ _)
        | map hm hs =>
          simp only
          refine (RS.getObj hm).bind fun ι2 l2 o o' ⟨_, ho⟩ => ?_
          unfold ObjRel at ho
          split at ho
          · simp only; rw [ho.2.1]; exact .pure (.int _ _)
          · exact RS.stuck _
          · exact RS.stuck _
          · exact ho.elim
        | _ => exact RS.stuck _
      | _ => cases hv <;> first | exact RS.stuck _ | exact .pure (.int _ _)
theorem RS.clear (G : Good P) (ts : Array TypeId) (t : TypeId) {xs xs' : Array Value} (h : Vs P ι xs xs') : RS P n₀ ι (VRel P) (Builtin.clear_ ts t xs) (Builtin.clear_ ts t xs') := by
  unfold Builtin.clear_
  have fin : ∀ {κ : Ren}, RS P n₀ κ (VRel P) (Pure.pure (.tuple #[]) : Sem Value) (Pure.pure (.tuple #[])) := .pure .undef
  cases h0 : ts[0]? with
  | none => exact RS.stuck _
  | some tt =>
    cases h1 : xs[0]? with
    | none => exact RS.stuck _
    | some x =>
      obtain ⟨x', hx, hxx⟩ := h.at h1
      rw [hx]
      simp only
      refine (RS.underlying tt).bind fun ι1 l1 d d' ⟨hd, _⟩ => ?_
      subst hd
      have hv := hxx.mono l1
      have one : ∀ {κ : Ren}, RS P n₀ κ (fun _ _ _ => True) (Pure.pure () : Sem Unit) (Pure.pure ()) := .pure trivial
      cases hv with
      | map0 => exact one.bind fun _ _ _ _ _ => fin
      | slice0 l c => exact one.bind fun _ _ _ _ _ => fin
      | slice hh =>
        rename_i a a' l c c'
        cases l with
        | zero => exact one.bind fun _ _ _ _ _ => fin
        | succ l =>
          cases d' with
          | slice elem =>
            refine (RS.zeroValue G elem).bind fun ι2 l2 z z' ⟨hz, hzz⟩ => ?_
            subst hz
            rcases hh with ⟨ha, _⟩ | ⟨h0, _⟩
            · exact (RS.storeCells (ha.mono l2) 0 (Vs.toList (Vs.map _ _ _ fun i _ => (hzz ι2).cells.bang _))).bind fun _ _ _ _ _ => fin
            · omega
          | _ => exact RS.halt _
      | map hm hs =>
        refine (RS.getObj hm).bind fun ι2 l2 o o' ⟨_, ho⟩ => ?_
        unfold ObjRel at ho
        split at ho
        · rename_i es ck es' ck' _
          obtain ⟨hck, _⟩ := ho
          subst hck
          exact (RS.setObj (q := .map #[] ck') (q' := .map #[] ck') (l2 _ _ hm) hs (show ck' = ck' ∧ EsRel P ι2 #[] #[] from ⟨rfl, rfl, fun i x y h => by simp at h⟩)).bind fun _ _ _ _ _ => fin
        · exact RS.halt _
        · exact RS.halt _
        · exact ho.elim
      | _ => cases d' <;> exact RS.halt _

/-- '==' where one of both is nil. -/
theorem RS.eqNilIn (d : Nat) (t : TypeId) {x x' y y' : Value} (hx : VRel P ι x x') (hy : VRel P ι y y') (h : (isNil x || isNil y) = true) : RS P n₀ ι (fun _ r r' => r' = r) (Op.equalIn (d + 1) t x y) (Op.equalIn (d + 1) t x' y') := by
  simp only [Op.equalIn]
  refine (RS.underlying t).bind fun ι1 l1 u u' ⟨hu, _⟩ => ?_
  subst hu
  cases hx <;> cases hy <;> first
    | (exfalso; revert h; simp only [isNil]; decide)
    | (cases u' <;> first | exact RS.pure rfl | exact RS.halt _)
theorem RS.eqNil (t : TypeId) {x x' y y' : Value} (hx : VRel P ι x x') (hy : VRel P ι y y') (h : (isNil x || isNil y) = true) : RS P n₀ ι (fun _ r r' => r' = r) (Op.equal t x y) (Op.equal t x' y') := by
  have := RS.eqNilIn (P := P) (n₀ := n₀) 9999 t hx hy h
  exact this
/-! Maps whose keys are whole numbers, bools or texts. -/

def easyKey (d : TypeDesc) (k : Value) : Bool := match d, k with
  | .int _, .int _ _ | .string, .string _ | .bool, .bool _ => true
  | _, _ => false
theorem easyKey_eq {d : TypeDesc} {k k' : Value} (h : easyKey d k = true) (r : VRel P ι k k') : k' = k := by
  cases r <;> first | rfl | (cases d <;> simp [easyKey] at h)
theorem checkKey_easy {empty : Bool} {n : Nat} {t : TypeId} {d : TypeDesc} {k : Value} (hd : P.underlying t = some d) (h : easyKey d k = true) (w : World) : (Instr.checkKey empty (n + 1) t k).run P w = .ok () w := by
  unfold Instr.checkKey
  simp only [Sem.run_bind, Go.underlying, Go.program, Sem.run, Result.andThen, hd]
  cases d <;> cases k <;> first | (simp [easyKey] at h; done) | rfl
theorem RS.checkKey {empty empty' : Bool} {n : Nat} {t : TypeId} {d : TypeDesc} {k : Value} (hd : P.underlying t = some d) (h : easyKey d k = true) : RS P n₀ ι (fun _ _ _ => True) (Instr.checkKey empty (n + 1) t k) (Instr.checkKey empty' (n + 1) t k) := by
  intro A W x A' S hr _
  rw [checkKey_easy hd h] at hr
  cases hr
  exact ⟨ι, (), W, checkKey_easy hd h W, S, .refl, trivial⟩
theorem sameNow_rel {d : TypeDesc} {k a a' : Value} (r : VRel P ι a a') : Instr.sameNow d k a' = Instr.sameNow d k a := by
  cases r <;> first | rfl | (cases d <;> cases k <;> rfl)

def Es (P : Program) (ι : Ren) : List MapEntry → List MapEntry → Prop
  | [], [] => True
  | x :: xs, y :: ys => EntryRel P ι x y ∧ Es P ι xs ys
  | _, _ => False
theorem Es.of : ∀ {es es' : List MapEntry}, es.length = es'.length → (∀ (i : Nat) (x y : MapEntry), es[i]? = some x → es'[i]? = some y → EntryRel P ι x y) → Es P ι es es'
  | [], [], _, _ => trivial
  | x :: xs, y :: ys, hl, h => ⟨h 0 x y rfl rfl, Es.of (by simpa using hl) fun i a b ha hb => h (i + 1) a b (by simpa using ha) (by simpa using hb)⟩
  | [], _ :: _, hl, _ => by simp at hl
  | _ :: _, [], hl, _ => by simp at hl
theorem EsRel.list {es es' : Array MapEntry} (h : EsRel P ι es es') : Es P ι es.toList es'.toList := Es.of (by simpa using h.1) fun i x y hx hy => h.2 i x y (by simpa using hx) (by simpa using hy)

def FRelN (P : Program) (ι : Ren) : Option (Nat × Value) → Option (Nat × Value) → Prop
  | none, none => True
  | some (i, v), some (j, v') => j = i ∧ VRel P ι v v'
  | _, _ => False
theorem findNow_rel {d : TypeDesc} {k : Value} : ∀ {es es' : List MapEntry} {i : Nat}, Es P ι es es' →
    match Instr.findNow d k es i, Instr.findNow d k es' i with
    | some r, some r' => FRelN P ι r r'
    | none, none => True
    | _, _ => False
  | [], [], i, _ => trivial
  | x :: xs, y :: ys, i, h => by
    simp only [Instr.findNow]
    rw [sameNow_rel h.1.key]
    cases Instr.sameNow d k x.key with
    | none => trivial
    | some b => cases b with
      | true => exact ⟨rfl, h.1.val⟩
      | false => exact findNow_rel h.2
  | [], _ :: _, _, h => h.elim
  | _ :: _, [], _, h => h.elim
theorem RS.equalEasy {t : TypeId} {d : TypeDesc} {k a a' : Value} (hd : P.underlying t = some d) (hk : easyKey d k = true) (r : VRel P ι a a') : RS P n₀ ι (fun _ b b' => b' = b) (Op.equal t k a) (Op.equal t k a') := by
  unfold Op.equal Op.maxDepth Op.equalIn
  refine (RS.underlying t).bind fun ι1 _ e e' ⟨h1, h2⟩ => ?_
  rw [hd] at h2
  cases h2
  subst h1
  cases e' <;> cases k <;> first | (simp [easyKey] at hk; done) | skip
  · cases r <;> first | exact .pure rfl | exact RS.stuck _
  · rename_i kk j n
    have hint : ∀ (a b : IntKind) (p : Bool), RS P n₀ ι1 (fun _ b b' => b' = b) (if a = b then Pure.pure p else Go.stuck "==: kinds differ" : Sem Bool) (if a = b then Pure.pure p else Go.stuck "==: kinds differ") := by
      intro a b p
      split
      · exact .pure rfl
      · exact RS.stuck _
    rcases n with (_ | n) | n
    · cases r <;> first | exact RS.stuck _ | exact RS.unsupported _ | exact .pure rfl | exact hint _ _ _
    · cases r <;> first | exact RS.stuck _ | exact RS.unsupported _ | exact .pure rfl | exact hint _ _ _
    · cases r <;> first | exact RS.stuck _ | exact RS.unsupported _ | exact .pure rfl | exact hint _ _ _
  · cases r <;> first | exact .pure rfl | exact RS.stuck _
theorem RS.findAsking {t : TypeId} {d : TypeDesc} {k : Value} (hd : P.underlying t = some d) (hk : easyKey d k = true) : ∀ {es es' : List MapEntry} {i : Nat} {ι : Ren}, Es P ι es es' → RS P n₀ ι (FRelN P) (Instr.findAsking t k es i) (Instr.findAsking t k es' i)
  | [], [], i, ι, _ => .pure trivial
  | x :: xs, y :: ys, i, ι, h => by
    simp only [Instr.findAsking]
    refine (RS.equalEasy hd hk h.1.key).bind fun ι1 l1 b b' hb => ?_
    subst hb
    cases b' with
    | true => exact .pure ⟨rfl, h.1.val.mono l1⟩
    | false => 
      have hm : ∀ {es es' : List MapEntry}, Es P ι es es' → Es P ι1 es es' := by
        intro es
        induction es with
        | nil => intro es' h; cases es' <;> exact h
        | cons x xs ih => intro es' h; cases es' with
          | nil => exact h
          | cons y ys => exact ⟨⟨h.1.key.mono l1, h.1.val.mono l1, h.1.born⟩, ih h.2⟩
      exact RS.findAsking hd hk (hm h.2)
  | [], _ :: _, _, _, h => h.elim
  | _ :: _, [], _, _, h => h.elim
theorem RS.findKey {t : TypeId} {d : TypeDesc} {k : Value} (hd : P.underlying t = some d) (hk : easyKey d k = true) {es es' : Array MapEntry} (h : EsRel P ι es es') : RS P n₀ ι (FRelN P) (Instr.findKey t k es.toList) (Instr.findKey t k es'.toList) := by
  unfold Instr.findKey
  refine (RS.underlying t).bind fun ι1 l1 e e' ⟨h1, h2⟩ => ?_
  rw [hd] at h2
  cases h2
  subst h1
  have hL := (h.mono l1).list
  have hf := findNow_rel (d := e') (k := k) (i := 0) hL
  cases h1 : Instr.findNow e' k es.toList 0 with
  | none => cases h2 : Instr.findNow e' k es'.toList 0 with
    | none => exact RS.findAsking hd hk hL
    | some r => rw [h1, h2] at hf; exact hf.elim
  | some r => cases h2 : Instr.findNow e' k es'.toList 0 with
    | none => rw [h1, h2] at hf; exact hf.elim
    | some r' => rw [h1, h2] at hf; exact .pure hf
/-- The key's type is one of the easy ones, and the key fits it. -/
def KeyOk (P : Program) (t : TypeId) (k : Value) : Prop := ∀ kt et, P.underlying t = some (.map kt et) → ∃ d, P.underlying kt = some d ∧ easyKey d k = true
theorem RS.lookup (G : Good P) (t : TypeId) {m m' k k' : Value} (hm : VRel P ι m m') (hk : VRel P ι k k') (ok : Bool) (hok : KeyOk P t k) : RS P n₀ ι (VRel P) (Instr.lookup t m k ok) (Instr.lookup t m' k' ok) := by
  unfold Instr.lookup
  refine (RS.underlying t).bind fun ι1 l1 e e' ⟨h1, h2⟩ => ?_
  subst h1
  cases e' with
  | map kt et =>
    obtain ⟨d, hd, he⟩ := hok _ _ h2
    have := easyKey_eq he hk
    subst this
    have hrest : ∀ (ι2 : Ren), ι1.le ι2 → ∀ (es es' : Array MapEntry), EsRel P ι2 es es' → RS P n₀ ι2 (VRel P)
        (do Instr.checkKey es.isEmpty 10000 kt k'
            let (v, b) ← match ← Instr.findKey kt k' es.toList with
              | some (_, v) => Pure.pure (v, true)
              | none => Pure.pure (← Go.zeroValue et, false)
            Pure.pure (if ok then .tuple #[v, .bool b] else v))
        (do Instr.checkKey es'.isEmpty 10000 kt k'
            let (v, b) ← match ← Instr.findKey kt k' es'.toList with
              | some (_, v) => Pure.pure (v, true)
              | none => Pure.pure (← Go.zeroValue et, false)
            Pure.pure (if ok then .tuple #[v, .bool b] else v)) := by
      intro ι2 l2 es es' hE
      have fin : ∀ (κ : Ren) (v v' : Value) (b : Bool), VRel P κ v v' → RS P n₀ κ (VRel P) (Pure.pure (if ok then .tuple #[v, .bool b] else v)) (Pure.pure (if ok then .tuple #[v', .bool b] else v')) := by
        intro κ v v' b hv
        cases ok with
        | true =>
          refine .pure (.tuple rfl fun i x x' hx hx' => ?_)
          match i with
          | 0 => cases hx; cases hx'; exact hv
          | 1 => cases hx; cases hx'; exact .bool _
          | i + 2 => simp at hx
        | false => exact .pure hv
      refine (RS.checkKey hd he).bind fun ι3 l3 _ _ _ => ?_
      refine (RS.findKey hd he (hE.mono l3)).bind fun ι4 l4 f f' hf => ?_
      cases f with
      | none => cases f' with
        | none => exact (RS.zeroValue G et).bind fun ι5 l5 z z' ⟨hz, hzz⟩ => by subst hz; exact (RS.pure (R := fun _ p p' => p = (z', false) ∧ p' = p) ⟨rfl, rfl⟩).bind fun ι6 l6 p p' ⟨h1, h2⟩ => by subst h1; subst h2; exact fin _ _ _ _ (hzz _)
        | some q => exact hf.elim
      | some q => cases f' with
        | none => exact hf.elim
        | some q' =>
          obtain ⟨q1, q2⟩ := q
          obtain ⟨q1', q2'⟩ := q'
          exact (RS.pure (R := fun _ p p' => p = (q2, true) ∧ p' = (q2', true)) ⟨rfl, rfl⟩).bind fun ι6 l6 p p' ⟨h1, h2⟩ => by subst h1; subst h2; exact fin _ _ _ _ (hf.2.mono l6)
    cases hm with
    | map0 => exact (RS.pure (R := EsRel P) ⟨rfl, fun i x y h => by simp at h⟩).bind fun ι2 l2 es es' hE => hrest _ l2 _ _ hE
    | map hr hs =>
      refine (RS.getObj (l1 _ _ hr)).bind fun ι2 l2 o o' ⟨_, ho⟩ => ?_
      unfold ObjRel at ho
      split at ho
      · exact (RS.pure (R := EsRel P) ho.2).bind fun ι3 l3 es es' hE => hrest _ (l2.trans l3) _ _ hE
      · exact RS.stuck _
      · exact RS.stuck _
      · exact ho.elim
    | _ => exact RS.stuck _
  | _ => exact RS.stuck _
theorem byteArray_eq {a b : ByteArray} (h : (a == b) = true) : a = b := by
  obtain ⟨a⟩ := a; obtain ⟨b⟩ := b
  have h' : (a == b) = true := h
  rw [eq_of_beq h']
theorem byteArray_self (a : ByteArray) : (a == a) = true := by
  obtain ⟨a⟩ := a
  exact beq_self_eq_true a
theorem sameNow_eq {d : TypeDesc} {k a : Value} (h : Instr.sameNow d k a = some true) : a = k := by
  cases d <;> cases k <;> cases a <;> simp [Instr.sameNow] at h <;> first | (simp_all; done) | (rw [byteArray_eq h])
theorem bits_self {d : TypeDesc} {k : Value} (h : easyKey d k = true) (n : Nat) : Instr.sameBits n k k = true := by
  cases d <;> cases k <;> simp [easyKey] at h <;> cases n <;> simp [Instr.sameBits, byteArray_self]
theorem equal_eq {t : TypeId} {d : TypeDesc} {k a : Value} (hd : P.underlying t = some d) (hk : easyKey d k = true) {A A' : World} (h : (Op.equal t k a).run P A = .ok true A') : a = k ∧ A' = A := by
  unfold Op.equal Op.maxDepth Op.equalIn at h
  simp only [Sem.run_bind, Go.underlying, Go.program, Sem.run, Result.andThen, hd] at h
  cases d <;> cases k <;> first | (simp [easyKey] at hk; done) | skip
  · cases a <;> simp [Go.stuck] at h ⊢
    exact ⟨h.1.symm, h.2.symm⟩
  · rename_i kk j n
    have hint : ∀ (a b : IntKind) (p : Bool) (w w' : World), (if a = b then Pure.pure p else Go.stuck "==: kinds differ" : Sem Bool).run P w = .ok true w' → a = b ∧ p = true ∧ w' = w := by
      intro a b p w w' h
      split at h
      · rename_i e
        simp at h
        exact ⟨e, h.1, h.2.symm⟩
      · cases h
    have fin : ∀ {a : Value} {w w' : World}, (match a with
        | .int k' b => (if j = k' then Pure.pure (n == b) else Go.stuck "==: kinds differ" : Sem Bool)
        | _ => Go.stuck "").run P w = .ok true w' → a = .int j n ∧ w' = w := by
      intro a w w' h
      split at h
      · obtain ⟨rfl, h1, rfl⟩ := hint _ _ _ _ _ h
        rw [eq_of_beq h1]; exact ⟨rfl, rfl⟩
      · cases h
    rcases n with (_ | n) | n
    · cases a <;> first | (cases h; done) | exact fin (a := .int _ _) h | (rename_i p; cases p <;> cases h; done)
    · cases a <;> first | (cases h; done) | exact fin (a := .int _ _) h | (rename_i p; cases p <;> cases h; done)
    · cases a <;> first | (cases h; done) | exact fin (a := .int _ _) h | (rename_i p; cases p <;> cases h; done)
  · cases a <;> first | (cases h; done) | skip
    rename_i s s'
    have h' : (Pure.pure (s == s') : Sem Bool).run P A = .ok true A' := h
    simp at h'
    rw [byteArray_eq h'.1]; exact ⟨rfl, h'.2.symm⟩
theorem findNow_at {d : TypeDesc} {k : Value} : ∀ {es : List MapEntry} {i j : Nat} {v : Value}, Instr.findNow d k es i = some (some (j, v)) → i ≤ j ∧ ∃ e, es[j - i]? = some e ∧ Instr.sameNow d k e.key = some true
  | [], _, _, _, h => by simp [Instr.findNow] at h
  | e :: es, i, j, v, h => by
    simp only [Instr.findNow] at h
    split at h
    · rename_i hs
      simp only [Option.some.injEq, Prod.mk.injEq] at h
      obtain ⟨rfl, _⟩ := h
      exact ⟨Nat.le_refl _, e, by simp, hs⟩
    · obtain ⟨h1, e', h2, h3⟩ := findNow_at h
      exact ⟨by omega, e', by rw [show j - i = (j - (i + 1)) + 1 from by omega]; simpa using h2, h3⟩
    · cases h
theorem EsRel.push {es es' : Array MapEntry} (h : EsRel P ι es es') {x y : MapEntry} (hx : EntryRel P ι x y) : EsRel P ι (es.push x) (es'.push y) := by
  refine ⟨by simp [h.1], fun i a b ha hb => ?_⟩
  rw [Array.getElem?_push] at ha hb
  rw [← h.1] at hb
  split at ha
  · rename_i e; rw [if_pos e] at hb; cases ha; cases hb; exact hx
  · rename_i e; rw [if_neg e] at hb; exact h.2 i a b ha hb
theorem EsRel.modify {es es' : Array MapEntry} (h : EsRel P ι es es') {j : Nat} {f g : MapEntry → MapEntry} (hf : ∀ x y, EntryRel P ι x y → EntryRel P ι (f x) (g y)) : EsRel P ι (es.modify j f) (es'.modify j g) := by
  refine ⟨by simp [h.1], fun i a b ha hb => ?_⟩
  rw [Array.getElem?_modify] at ha hb
  split at ha
  · rename_i e
    rw [if_pos e] at hb
    simp only [Option.map_eq_some_iff] at ha hb
    obtain ⟨x, hx, rfl⟩ := ha
    obtain ⟨y, hy, rfl⟩ := hb
    exact hf _ _ (h.2 i x y hx hy)
  · rename_i e
    rw [if_neg e] at hb
    exact h.2 i a b ha hb
theorem EsRel.erase {es es' : Array MapEntry} (h : EsRel P ι es es') (j : Nat) : EsRel P ι (es.eraseIdxIfInBounds j) (es'.eraseIdxIfInBounds j) := by
  by_cases hj : j < es.size
  · have hj' : j < es'.size := h.1 ▸ hj
    rw [Array.eraseIdxIfInBounds_eq, Array.eraseIdxIfInBounds_eq, dif_pos hj, dif_pos hj']
    refine ⟨by simp [h.1], fun i a b ha hb => ?_⟩
    rw [Array.getElem?_eraseIdx] at ha hb
    split at ha
    · rename_i q; rw [if_pos q] at hb; exact h.2 _ a b ha hb
    · rename_i q; rw [if_neg q] at hb; exact h.2 _ a b ha hb
  · have hj' : ¬ j < es'.size := h.1 ▸ hj
    rw [Array.eraseIdxIfInBounds_eq, Array.eraseIdxIfInBounds_eq, dif_neg hj, dif_neg hj']
    exact h
theorem findAsking_at {t : TypeId} {d : TypeDesc} {k : Value} (hd : P.underlying t = some d) (hk : easyKey d k = true) : ∀ {es : List MapEntry} {i j : Nat} {v : Value} {A A' : World}, (Instr.findAsking t k es i).run P A = .ok (some (j, v)) A' → i ≤ j ∧ ∃ e, es[j - i]? = some e ∧ e.key = k
  | [], i, j, v, A, A', h => by simp [Instr.findAsking] at h
  | e :: es, i, j, v, A, A', h => by
    simp only [Instr.findAsking] at h
    rw [Sem.run_bind] at h
    cases h1 : (Op.equal t k e.key).run P A with
    | halt q w => rw [h1] at h; cases h
    | ok b A1 =>
      rw [h1] at h
      cases b with
      | true =>
        have := (equal_eq hd hk h1).1
        simp [Result.andThen] at h
        obtain ⟨⟨rfl, _⟩, _⟩ := h
        exact ⟨Nat.le_refl _, e, by simp, this⟩
      | false =>
        have h' : (Instr.findAsking t k es (i + 1)).run P A1 = .ok (some (j, v)) A' := h
        obtain ⟨q1, e', q2, q3⟩ := findAsking_at hd hk h'
        exact ⟨by omega, e', by rw [show j - i = (j - (i + 1)) + 1 from by omega]; simpa using q2, q3⟩
theorem findKey_at {t : TypeId} {d : TypeDesc} {k : Value} (hd : P.underlying t = some d) (hk : easyKey d k = true) {es : Array MapEntry} {j : Nat} {v : Value} {A A' : World} (h : (Instr.findKey t k es.toList).run P A = .ok (some (j, v)) A') : ∃ e, es[j]? = some e ∧ e.key = k := by
  unfold Instr.findKey at h
  simp only [Sem.run_bind, Go.underlying, Go.program, Sem.run, Result.andThen, hd] at h
  simp only [Sem.run_pure] at h
  split at h
  · rename_i r hr
    simp at h
    obtain ⟨rfl, _⟩ := h
    obtain ⟨_, e, h2, h3⟩ := findNow_at hr
    exact ⟨e, by simpa using h2, sameNow_eq h3⟩
  · obtain ⟨_, e, h2, h3⟩ := findAsking_at hd hk h
    exact ⟨e, by simpa using h2, h3⟩
theorem RS.and_run {α β : Type} {R : Ren → α → β → Prop} {s : Sem α} {s' : Sem β} {Q : α → Prop} (h : RS P n₀ ι R s s') (hq : ∀ A x A', s.run P A = .ok x A' → Q x) : RS P n₀ ι (fun ι r r' => R ι r r' ∧ Q r) s s' := by
  intro A W x A' S hr hf
  obtain ⟨ι1, y, W1, h1, h2, h3, h4⟩ := h A W x A' S hr hf
  exact ⟨ι1, y, W1, h1, h2, h3, h4, hq _ _ _ hr⟩
theorem keyStays {k : Value} {d : TypeDesc} (hk : easyKey d k = true) : Instr.keyThatStays k k = Pure.pure k := by
  unfold Instr.keyThatStays
  rw [if_pos (bits_self hk _)]
theorem RS.mapUpdate (t : TypeId) {m m' k k' v v' : Value} (hm : VRel P ι m m') (hk : VRel P ι k k') (hv : VRel P ι v v') (hok : KeyOk P t k) : RS P n₀ ι (fun _ _ _ => True) (Instr.mapUpdate t m k v) (Instr.mapUpdate t m' k' v') := by
  unfold Instr.mapUpdate
  refine (RS.underlying t).bind fun ι1 l1 e e' ⟨h1, h2⟩ => ?_
  subst h1
  cases e' with
  | map kt et =>
    obtain ⟨d, hd, he⟩ := hok _ _ h2
    have := easyKey_eq he hk
    subst this
    cases hm with
    | map0 => exact RS.never (runtimePanic_never _)
    | map hr hs =>
      refine (RS.getObj (l1 _ _ hr)).bind fun ι2 l2 o o' ⟨_, ho⟩ => ?_
      cases o with
      | map es c =>
        cases o' with
        | map es' c' =>
          obtain ⟨rfl, hE⟩ := ho
          refine (RS.checkKey hd he).bind fun ι3 l3 _ _ _ => ?_
          refine ((RS.findKey hd he (hE.mono l3)).and_run (Q := fun r => ∀ j u, r = some (j, u) → ∃ e, es[j]? = some e ∧ e.key = k') fun A x A' hx j u hju => findKey_at hd he (hju ▸ hx)).bind fun ι4 l4 f f' ⟨hf, hq⟩ => ?_
          have l04 : ι.le ι4 := l1.trans (l2.trans (l3.trans l4))
          have hE4 := hE.mono (l3.trans l4)
          cases f with
          | none => cases f' with
            | none => exact RS.setObj (l04 _ _ hr) hs ⟨rfl, hE4.push ⟨hk.mono l04, hv.mono l04, rfl⟩⟩
            | some q => exact hf.elim
          | some q => cases f' with
            | none => exact hf.elim
            | some q' =>
              obtain ⟨j, u⟩ := q
              obtain ⟨j', u'⟩ := q'
              obtain ⟨hj, hu⟩ := hf
              have hj : j' = j := hj
              subst hj
              obtain ⟨e, he1, he2⟩ := hq _ _ rfl
              obtain ⟨e', he1'⟩ : ∃ e', es'[j']? = some e' := by
                have : j' < es'.size := by rw [← hE.1]; exact (Array.getElem?_eq_some_iff.1 he1).1
                exact ⟨_, Array.getElem?_eq_getElem this⟩
              have hr1 := hE4.2 _ _ _ he1 he1'
              have he2' : e'.key = k' := by
                have q := hr1.key
                rw [he2] at q
                exact easyKey_eq he q
              simp only [he1, he1', Option.map_some, Option.getD_some, he2, he2', keyStays he]
              refine (RS.pure (R := fun _ a b => a = k' ∧ b = k') ⟨rfl, rfl⟩).bind fun ι5 l5 a b ⟨ha, hb⟩ => ?_
              subst ha; subst hb
              exact RS.setObj ((l04.trans l5) _ _ hr) hs ⟨rfl, (hE4.mono l5).modify fun x y hxy => ⟨hk.mono (l04.trans l5), hv.mono (l04.trans l5), hxy.born⟩⟩
        | _ => exact ho.elim
      | _ => exact RS.stuck _
    | _ => exact RS.stuck _
  | _ => exact RS.stuck _
theorem RS.delete (ts : Array TypeId) (t : TypeId) {xs xs' : Array Value} (h : Vs P ι xs xs') (hok : ∀ mt k, ts[0]? = some mt → xs[1]? = some k → KeyOk P mt k) : RS P n₀ ι (VRel P) (Builtin.delete_ ts t xs) (Builtin.delete_ ts t xs') := by
  unfold Builtin.delete_
  have fin : ∀ {κ : Ren}, RS P n₀ κ (VRel P) (Pure.pure (.tuple #[]) : Sem Value) (Pure.pure (.tuple #[])) := .pure .undef
  cases h0 : ts[0]? with
  | none => exact RS.stuck _
  | some mt =>
    cases h1 : xs[0]? with
    | none => exact RS.stuck _
    | some m =>
      obtain ⟨m', h1', hm⟩ := h.at h1
      cases h2 : xs[1]? with
      | none => exact RS.stuck _
      | some k =>
        obtain ⟨k', h2', hk⟩ := h.at h2
        rw [h1', h2']
        simp only
        refine (RS.underlying mt).bind fun ι1 l1 e e' ⟨q1, q2⟩ => ?_
        subst q1
        cases e' with
        | map kt et =>
          obtain ⟨d, hd, he⟩ := hok _ _ h0 h2 _ _ q2
          have := easyKey_eq he hk
          subst this
          cases hm with
          | map0 => exact (RS.checkKey hd he).bind fun _ _ _ _ _ => fin
          | map hr hs =>
            refine (RS.getObj (l1 _ _ hr)).bind fun ι2 l2 o o' ⟨_, ho⟩ => ?_
            cases o with
            | map es c =>
              cases o' with
              | map es' c' =>
                obtain ⟨rfl, hE⟩ := ho
                refine (RS.checkKey hd he).bind fun ι3 l3 _ _ _ => ?_
                refine (RS.findKey hd he (hE.mono l3)).bind fun ι4 l4 f f' hf => ?_
                have l04 : ι.le ι4 := l1.trans (l2.trans (l3.trans l4))
                have hE4 := hE.mono (l3.trans l4)
                cases f with
                | none => cases f' with
                  | none => exact (RS.setObj (q := .map _ _) (q' := .map _ _) (l04 _ _ hr) hs ⟨rfl, hE4⟩).bind fun _ _ _ _ _ => fin
                  | some q => exact hf.elim
                | some q => cases f' with
                  | none => exact hf.elim
                  | some q' =>
                    obtain ⟨j, u⟩ := q
                    obtain ⟨j', u'⟩ := q'
                    obtain ⟨hj, hu⟩ := hf
                    have hj : j' = j := hj
                    subst hj
                    exact (RS.setObj (q := .map _ _) (q' := .map _ _) (l04 _ _ hr) hs ⟨rfl, hE4.erase _⟩).bind fun _ _ _ _ _ => fin
              | _ => exact ho.elim
            | _ => exact RS.stuck _
          | _ => exact RS.stuck _
        | _ => exact RS.stuck _
end
end Go.Abs
