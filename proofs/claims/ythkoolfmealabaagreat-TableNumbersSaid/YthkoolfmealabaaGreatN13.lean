/-
  ABS C3: quiet operations, told from the text of the temporaries and of the heap.
-/
import Derived.Test.YthkoolfmealabaaGreatN12
namespace Go.Abs
/-- What is asked: that something holds; or that two truths are one, as a look shows. -/
inductive Ob where
  | p (φ : Prop)
  | q (a b : Bool)
instance : Coe Prop Ob := ⟨.p⟩
def AllP : List Ob → Prop
  | [] => True
  | .p φ :: l => φ ∧ AllP l
  | .q a b :: l => a = b ∧ AllP l
def obP : List Ob → Prop
  | [] => True
  | .p φ :: l => φ ∧ obP l
  | .q _ _ :: l => obP l
def obQ : List Ob → List (Bool × Bool)
  | [] => []
  | .p _ :: l => obQ l
  | .q a b :: l => (a, b) :: obQ l
theorem ob_all : ∀ {l : List Ob}, obP l → (obQ l).map Prod.fst = (obQ l).map Prod.snd → AllP l
  | [], _, _ => trivial
  | .p _ :: _, h, k => ⟨h.1, ob_all h.2 k⟩
  | .q _ _ :: _, h, k => by
    simp only [obQ, List.map_cons, List.cons.injEq] at k
    exact ⟨k.1, ob_all h k.2⟩
def sameB (b x : Bool) : Bool := match b with
  | true => x
  | false => !x
def noP : List Ob → Bool
  | [] => true
  | .p _ :: _ => false
  | .q _ _ :: l => noP l
def onQ : List Ob → List Ob
  | [] => []
  | .p _ :: l => onQ l
  | .q a b :: l => .q a b :: onQ l
/-- What is asked if e. -/
def mayP (e : Bool) (l : List Ob) : List Ob := match noP l with
  | true => onQ l
  | false => .p (e = true → obP l) :: onQ l
theorem onQ_ok : ∀ {l : List Ob}, AllP (onQ l) → (obQ l).map Prod.fst = (obQ l).map Prod.snd
  | [], _ => rfl
  | .p _ :: l, h => onQ_ok (l := l) h
  | .q a b :: l, h => by
    simp only [obQ, List.map_cons]
    rw [onQ_ok (l := l) h.2]
    have : a = b := h.1
    rw [this]
theorem noP_ok : ∀ {l : List Ob}, noP l = true → obP l
  | [], _ => trivial
  | .p _ :: _, h => by cases h
  | .q _ _ :: l, h => noP_ok (l := l) h
theorem mayP_ok {e : Bool} {l : List Ob} (h : AllP (mayP e l)) (he : e = true) : AllP l := by
  unfold mayP at h
  split at h
  · rename_i hn; exact ob_all (noP_ok hn) (onQ_ok h)
  · exact ob_all (h.1 he) (onQ_ok h.2)
theorem AllP.split : ∀ {l l' : List Ob}, AllP (l ++ l') → AllP l ∧ AllP l'
  | [], _, h => ⟨trivial, h⟩
  | .p _ :: _, _, h => ⟨⟨h.1, (AllP.split h.2).1⟩, (AllP.split h.2).2⟩
  | .q _ _ :: _, _, h => ⟨⟨h.1, (AllP.split h.2).1⟩, (AllP.split h.2).2⟩
abbrev EvR := Option (SV × List Ob)
def strEq (a b : ByteArray) : Bool := a.toList == b.toList
def strLt (a b : ByteArray) : Bool := Op.bytesLess a.toList b.toList
def strV (op : BinOp) (a b : ByteArray) : Option Value := match op with
  | .eql => some (.bool (strEq a b))
  | .neq => some (.bool (!strEq a b))
  | .lss => some (.bool (strLt a b))
  | .leq => some (.bool (strLt a b || strEq a b))
  | .gtr => some (.bool (!(strLt a b || strEq a b)))
  | .geq => some (.bool (!strLt a b))
  | _ => none
def boolV (op : BinOp) (a b : Bool) : Option Value := match op with
  | .eql => some (.bool (a == b))
  | .neq => some (.bool (!(a == b)))
  | _ => none
/-- The truth in a cell. -/
def boolOf : C1 → Option Bool
  | .v (.bool b) => some b
  | .cb b => some b
  | _ => none
def ofR : Value → C1
  | .bool b => .cb b
  | v => .v v
theorem ofR_den (v : Value) : (ofR v).den = v := by cases v <;> rfl
/-- Two whole numbers; ov: a sum may go round. -/
def intE (ov : Bool) (op : BinOp) (k : IntKind) (m n : Int) : Option (Value × List Ob) := match ov, op, k with
  | false, .add, .i64 => some (.int .i64 (m + n), [-9223372036854775808 ≤ m + n, m + n < 9223372036854775808])
  | false, .sub, .i64 => some (.int .i64 (m - n), [-9223372036854775808 ≤ m - n, m - n < 9223372036854775808])
  | false, .mul, .i64 => some (.int .i64 (m * n), [-9223372036854775808 ≤ m * n, m * n < 9223372036854775808])
  | _, _, _ => match intV op k m n with
    | some v => some (v, [])
    | none => none
/-- Is it nil? -/
def nilC : C1 → Option Bool
  | .p .. => some false
  | .s _ _ _ _ _ _ z => some z
  | .v (.pointer none) => some true
  | .v (.slice none _ _) => some true
  | .v .nilFunc => some true
  | .v (.func ..) => some false
  | .v (.map none) => some true
  | .v (.map (some _)) => some false
  | _ => none
/-- What two have to be, so that they can be held against one another as nil or not. -/
def nilTy : TypeDesc → C1 → C1 → Bool
  | .pointer _, .p .., .v (.pointer none) => true
  | .pointer _, .v (.pointer none), .p .. => true
  | .pointer _, .v (.pointer none), .v (.pointer none) => true
  | .slice _, .s .., .v (.slice none _ _) => true
  | .slice _, .v (.slice none _ _), .v (.slice none _ _) => true
  | .map _ _, .v (.map (some _)), .v (.map none) => true
  | .map _ _, .v (.map none), .v (.map none) => true
  | .func _ _ _, .v .nilFunc, .v .nilFunc => true
  | .func _ _ _, .v (.func ..), .v .nilFunc => true
  | _, _, _ => false
def nilR : C1 → Bool → C1
  | .s .., b => .cb b
  | _, b => .v (.bool b)
theorem nilR_den (c : C1) (b : Bool) : (nilR c b).den = .bool b := by cases c <;> rfl
section
variable (P : Program) (ov : Bool) (ρ : Operand → Option SV) (hp : List Ch)
def evLoad (t : TypeId) (x : Operand) : EvR := match ρ x, tsz P t with
  | some (.o (.p g q i w k)), some (n, ag) => match fnd hp g, Bool.or ag (Nat.beq n 1) with
    | some (.blk _ q' cs _ _), true => match Nat.ble (i * w + k + n) cs.length with
      | true => some (mkv ag ((cs.drop (i * w + k)).take n), [q = q'])
      | false => none
    | some (.vec _ q' w' en d xs _ _ _), true => match Nat.beq w w', Nat.ble (k + n) w' with
      | true, true => some (mkv ag (((en (xs.getD i d)).drop k).take n), [q = q', i < xs.length])
      | _, _ => none
    | _, _ => none
  | _, _ => none
def evFieldAddr (s : TypeId) (x : Operand) (k : Nat) : EvR := match ρ x, P.underlying s with
  | some (.o (.p g q i w k0)), some (.struct fs) => match fs[k]? with
    | some f => match tsz P f.type with
      | some (n, _) => match Nat.beq n 0, Nat.beq (P.cellsOf f.type) 0 with
        | false, false => some (.o (.p g q i w (k0 + f.offset)), [])
        | _, _ => none
      | none => none
    | none => none
  | _, _ => none
def evIndexAddr (t : TypeId) (x ix : Operand) : EvR := match ρ x, ρ ix, P.underlying t with
  | some (.o (.s g q w o n _ nl)), some (.o (.v (.int _ z))), some (.slice e) => match tsz P e with
    | some (sz, _) => match Nat.beq sz w with
      | true => some (.o (.p g q (z.toNat + o) w 0), [0 ≤ z, z < n, nl = false])
      | false => none
    | none => none
  | some (.o (.p g q i w k)), some (.o (.v (.int _ z))), some (.array n e) => match tsz P e with
    | some (sz, _) => some (.o (.p g q i w (k + z.toNat * sz)), [0 ≤ z, z < n])
    | none => none
  | _, _, _ => none
def evField (s : TypeId) (x : Operand) (k : Nat) : EvR := match ρ x, P.underlying s with
  | some (.a l), some (.struct fs) => match fs[k]? with
    | some f => match tsz P f.type with
      | some (n, ag) => match Nat.ble (f.offset + n) l.length, Bool.or ag (Nat.beq n 1) with
        | true, true => some (mkv ag ((l.drop f.offset).take n), [])
        | _, _ => none
      | none => none
    | none => none
  | _, _ => none
def byteAt (s : ByteArray) (i : Nat) : UInt8 := s.data.getD i 0
def evIndex (t : TypeId) (x ix : Operand) : EvR := match ρ x, ρ ix, P.underlying t with
  | some (.o (.v (.string s))), some (.o (.v (.int _ z))), some .string => some (.o (.v (.int .u8 (byteAt s z.toNat).toNat)), [0 ≤ z, z < s.size])
  | _, _, _ => none
def evBin (op : BinOp) (t : TypeId) (x y : Operand) : EvR := match ρ x, ρ y with
  | some (.o (.v (.int k m))), some (.o (.v (.int k' n))) => match intE ov op k m n, decide (k = k') with
    | some (v, ps), true => some (.o (ofR v), ps)
    | _, _ => none
  | some (.o (.v (.string a))), some (.o (.v (.string b))) => match strV op a b with
    | some v => some (.o (ofR v), [])
    | none => none
  | some (.o a), some (.o b) => match boolOf a, boolOf b with
    | some a, some b => match P.underlying t, boolV op a b with
      | some .bool, some v => some (.o (ofR v), [])
      | _, _ => none
    | _, _ => match op, P.underlying t, nilC a, nilC b with
      | .eql, some d, some m, some n => match nilTy d a b with
        | true => some (.o (nilR a (m == n)), [])
        | false => none
      | .neq, some d, some m, some n => match nilTy d a b with
        | true => some (.o (nilR a (!(m == n))), [])
        | false => none
      | _, _, _, _ => none
  | some (.a [.v (.int k1 a), .v (.int k2 b)]), some (.a [.v (.int k3 c), .v (.int k4 d)]) => match P.underlying t with
    | some (.array 2 e) => match P.underlying e, tsz P e, P.eqGuardType P.depth t, decide (k1 = k3), decide (k2 = k4) with
      | some (.int _), some (1, false), false, true, true => match op with
        | .eql => some (.o (.cb (a == c && b == d)), [])
        | .neq => some (.o (.cb (!(a == c && b == d))), [])
        | _ => none
      | _, _, _, _, _ => none
    | _ => none
  | _, _ => none
def evLenS (c : Call) : EvR := match c.args.toList.map ρ, c.argTypes[0]? with
  | [some (.o (.s _ _ _ _ n _ _))], some t => match P.underlying t with
    | some (.slice _) => some (.o (.v (.int .i64 n)), [])
    | _ => none
  | [some (.o (.v (.slice _ n _)))], some t => match P.underlying t with
    | some (.slice _) => some (.o (.v (.int .i64 n)), [])
    | _ => none
  | [some (.o (.v (.string s)))], some t => match P.underlying t with
    | some .string => some (.o (.v (.int .i64 s.size)), [])
    | _ => none
  | _, _ => none
/-- How much there is room for in what is nil. -/
def capC : C1 → Option (Nat × Nat)
  | .v (.slice none n c) => some (n, c)
  | .s _ _ _ _ n c true => some (n, c)
  | _ => none
def evCap (c : Call) : EvR := match c.args.toList.map ρ, c.argTypes[0]? with
  | [some (.o x)], some t => match capC x, P.underlying t with
    | some (_, k), some (.slice _) => some (.o (.v (.int .i64 k)), [])
    | _, _ => none
  | _, _ => none
def evMinMax (mn : Bool) (c : Call) : EvR := match c.args.toList.map ρ with
  | [some (.o (.v (.int k m))), some (.o (.v (.int k' n)))] => some (.o (.v (.int k (match mn with | true => if n < m then n else m | false => if m < n then n else m))), [k' = k])
  | _ => none
def ops1 : List (Option SV) → Option (List C1)
  | [] => some []
  | some (.o c) :: l => match ops1 l with
    | some cs => some (c :: cs)
    | none => none
  | _ :: _ => none
def evFunc (f : FuncId) (first cap : Array Operand) : EvR := match ops1 (first.toList.map ρ), ops1 (cap.toList.map ρ) with
  | some l, some l' => some (.o (.v (.func (.func f) (l.map C1.den).toArray (l'.map C1.den).toArray)), [])
  | _, _ => none
def evExtract (x : Operand) (i : Nat) : EvR := match ρ x with
  | some (.t l) => match l[i]? with
    | some (true, cs) => some (.a cs, [])
    | some (false, cs) => some (.o (cs.headD (.v undef)), [])
    | none => none
  | _ => none
/-- Parts put into their places. -/
def putAt (l : List C1) (off : Nat) (cs : List C1) : List C1 := l.take off ++ cs ++ l.drop (off + cs.length)
def fillL (place : Nat → Option (Nat × Nat)) (l : List C1) : List (Nat × Option SV) → Option (List C1 × List Ob)
  | [] => some (l, [])
  | (i, v) :: rest => match place i, v with
    | some (off, size), some v => match v.cells with
      | some cs => match Nat.beq cs.length size, Nat.ble (off + cs.length) l.length with
        | true, true => match fillL place (putAt l off cs) rest with
          | some (l', ps) => some (l', (cs.all C1.one = true) :: ps)
          | none => none
        | _, _ => none
      | none => none
    | _, _ => none
def places (fs : List Field) : List (Option (Nat × Nat)) := fs.map fun f => match tsz P f.type with
  | some (n, _) => some (f.offset, n)
  | none => none
def evBuild (t : TypeId) (parts : Array (Nat × Operand)) : EvR := match P.underlying t, P.info? t with
  | some (.struct fs), some i => match i.zero with
    | some z => match fillL (fun k => match (places P fs.toList)[k]? with | some o => o | none => none) (z.cells.toList.map C1.v) (parts.toList.map fun p => (p.1, ρ p.2)) with
      | some (l, ps) => match (places P fs.toList).all Option.isSome with
        | true => some (.a l, ps)
        | false => none
      | none => none
    | none => none
  | some (.array _ e), some i => match i.zero, tsz P e with
    | some z, some (n, _) => match fillL (fun k => some (k * n, n)) (z.cells.toList.map C1.v) (parts.toList.map fun p => (p.1, ρ p.2)) with
      | some (l, ps) => some (.a l, ps)
      | none => none
    | _, _ => none
  | _, _ => none
/-- A truth that stands behind a condition. -/
def armB (c : Operand) (h e0 : Bool) : SV → Option (Bool × List Ob)
  | .o c => match boolOf c with
    | some b => some (b, [])
    | none => none
  | .kk d kb e false [x] => match boolOf x with
    | some b => match c with
      | .tmp t => match Nat.beq t d, sameB kb h with
        | true, true => some (b, [.q e (sameB h e0)])
        | _, _ => some (b, [.p (sameB h e0 = true → e = true)])
      | _ => some (b, [.p (sameB h e0 = true → e = true)])
    | none => none
  | _ => none
def selB (e : Bool) (x y : SV) (bx b_y : Bool) : Bool := match y with
  | .o (.v (.bool false)) => and e bx
  | _ => match x with
    | .o (.v (.bool true)) => or e b_y
    | _ => cond e bx b_y
theorem selB_eq (e : Bool) (x y : SV) (bx b_y : Bool) (hx : x = .o (.v (.bool true)) → bx = true) (hy : y = .o (.v (.bool false)) → b_y = false) : selB e x y bx b_y = if e then bx else b_y := by
  unfold selB
  split
  · rename_i h; rw [hy rfl]; cases e <;> rfl
  · split
    · rename_i h; rw [hx rfl]; cases e <;> rfl
    · cases e <;> rfl
def evPick (c x y : Operand) : EvR := match ρ c with
  | some (.o (.v (.bool true))) => (ρ x).map fun v => (v, [])
  | some (.o (.v (.bool false))) => (ρ y).map fun v => (v, [])
  | some (.o (.cb e)) => match ρ x, ρ y with
    | some vx, some vy => match armB c true e vx, armB c false e vy with
      | some (bx, p1), some (b_y, p2) => some (.o (.cb (selB e vx vy bx b_y)), p1 ++ p2)
      | _, _ => none
    | _, _ => none
  | _ => none
def evNilCheck (x : Operand) : EvR := match ρ x with
  | some (.o (.p g q i w k)) => some (.o (.p g q i w k), [])
  | _ => none
def evNot (x : Operand) : EvR := match ρ x with
  | some (.o (.v (.bool b))) => some (.o (.v (.bool !b)), [])
  | some (.o (.cb b)) => some (.o (.cb !b), [])
  | _ => none
def evConv (src dst : TypeId) (x : Operand) : EvR := match ρ x, P.underlying dst, P.underlying src with
  | some (.o (.v (.int _ n))), some (.int k), some _ => some (.o (.v (.int k (k.wrap n))), [])
  | _, _, _ => none
/-- A bound that is a whole number. -/
def bnd (x : Option Operand) : Option (Option (IntKind × Int)) := match x with
  | none => some none
  | some x => match ρ x with
    | some (.o (.v (.int k z))) => some (some (k, z))
    | _ => none
def chT : Ch → Option (Nat × TypeId × Bool)
  | .blk _ q _ t _ => some (q, t, false)
  | .vec _ q _ _ _ _ t _ z => some (q, t, z)
  | .as _ => none
/-- Where a slice of a slice begins. -/
def ofs (c l o : Nat) : Nat := if c = l then o else l + o
theorem ofs_lt {c l o : Nat} (h : l < c) : ofs c l o = l + o := if_neg (by omega)
def evSlice (t : TypeId) (x : Operand) (lo hi : Option Operand) : EvR := match ρ x, P.underlying t, bnd ρ lo, bnd ρ hi with
  | some (.o (.s g q w o n c z)), some (.slice e), some lo, some hi => match tsz P e with
    | some (sz, _) => match Nat.beq sz w, fnd hp g with
      | true, some c0 => match chT c0 with
        | some (q', t', z') => match Nat.beq (P.cellsOf e) (P.cellsOf t') with
          | true => match lo, hi with
            | none, none => some (.o (.s g q w o n c z), [q = q', z = z', n ≤ c])
            | none, some (_, h) => some (.o (.s g q w o h.toNat c z), [q = q', z = z', n ≤ c, 0 ≤ h, h ≤ c])
            | some (_, l), none => some (.o (.s g q w (ofs c l.toNat o) (n - l.toNat) (c - l.toNat) z), [q = q', z = z', n ≤ c, 0 ≤ l, l ≤ n])
            | some (_, l), some (_, h) => some (.o (.s g q w (ofs c l.toNat o) (h.toNat - l.toNat) (c - l.toNat) z), [q = q', z = z', n ≤ c, 0 ≤ l, l ≤ h, h ≤ c])
          | false => none
        | none => none
      | _, _ => none
    | none => none
  | some (.o (.v (.string s))), some .string, some lo, some hi => match lo, hi with
    | none, none => none
    | none, some (_, h) => some (.o (.v (.string (s.extract 0 h.toNat))), [0 ≤ h, h ≤ s.size])
    | some (_, l), none => some (.o (.v (.string (s.extract l.toNat s.size))), [0 ≤ l, l ≤ s.size])
    | some (_, l), some (_, h) => some (.o (.v (.string (s.extract l.toNat h.toNat))), [0 ≤ l, l ≤ h, h ≤ s.size])
  | _, _, _, _ => none
/-- A slice with its room told. -/
def evSlice3 (t : TypeId) (x lo hi mx : Operand) : EvR := match ρ x, P.underlying t, ρ lo, ρ hi, ρ mx with
  | some (.o (.s g q w o n c z)), some (.slice e), some (.o (.v (.int _ l))), some (.o (.v (.int _ h))), some (.o (.v (.int _ m))) => match tsz P e with
    | some (sz, _) => match Nat.beq sz w, fnd hp g with
      | true, some c0 => match chT c0 with
        | some (q', t', z') => match Nat.beq (P.cellsOf e) (P.cellsOf t') with
          | true => some (.o (.s g q w (ofs m.toNat l.toNat o) (h.toNat - l.toNat) (m.toNat - l.toNat) z), [q = q', z = z', n ≤ c, 0 ≤ l, l ≤ h, h ≤ m, m ≤ c])
          | false => none
        | none => none
      | _, _ => none
    | none => none
  | _, _, _, _, _ => none
/-- A quiet operation: its value, and what has to hold. -/
def evq (op : Op) : EvR := match op with
  | .move x => (ρ x).map fun v => (v, [])
  | .assign x => (ρ x).map fun v => (v, [])
  | .pick c x y => evPick ρ c x y
  | .load t x => evLoad P ρ hp t x
  | .nilCheck x => evNilCheck ρ x
  | .binOp op t x y _ => evBin P ov ρ op t x y
  | .unOp .not _ x => evNot ρ x
  | .convert src dst x => evConv P ρ src dst x
  | .fieldAddr s x k => evFieldAddr P ρ s x k
  | .field s x k => evField P ρ s x k
  | .indexAddr t x ix => evIndexAddr P ρ t x ix
  | .index t x ix => evIndex P ρ t x ix
  | .makeFunc (.func f) first cap => evFunc ρ f first cap
  | .extract x i => evExtract ρ x i
  | .build t parts => evBuild P ρ t parts
  | .slice t x lo hi none => evSlice P ρ hp t x lo hi
  | .slice t x (some lo) (some hi) (some mx) => evSlice3 P ρ hp t x lo hi mx
  | .call c => match c.callee with
    | .builtin .len => evLenS P ρ c
    | .builtin .cap => evCap P ρ c
    | .builtin .min => evMinMax ρ true c
    | .builtin .max => evMinMax ρ false c
    | _ => none
  | _ => none
end
end Go.Abs
/-
  ABS C4: what is told of quiet operations is so.
-/
namespace Go.Abs
section
variable {P : Program} {ρ : Operand → Option SV} {σ : Operand → Value} {hp : List Ch} {F : Ft} {A : World} {o : Oper} {v : SV} {ps : List Ob}
def RhoOk (ρ : Operand → Option SV) (σ : Operand → Value) : Prop := ∀ x v, ρ x = some v → σ x = v.den
theorem aop_pure {v : Value} (h1 : plain v = true) (h2 : ∀ x ∈ o.op.operands, plain (σ x) = true) (h3 : stillOp o.op = true) (h4 : ∀ w, (execOp σ o).run P w = .ok (.value v) w) : AOp P σ o A (.value v) A := .inl ⟨v, rfl, rfl, h1, h2, h3, h4⟩
theorem cell_of {p : Addr} {cs : Array Value} {t : TypeId} {fz : Nat × Nat} {x : Value} (hb : A.heap[p.block]? = some (.cells cs t fz)) (hs : p.spot = none) (hc : cs[p.off]? = some x) : A.cell? p = some x := by rw [cell_at hb hs]; exact hc
theorem load_at {t : TypeId} {x : Operand} {q off n : Nat} {ag : Bool} {cs : Array Value} {tq : TypeId} {fz : Nat × Nat} {l : List C1} (h : o.op = .load t x) (hx : σ x = .pointer (some ⟨q, off, none⟩)) (ht : tsz P t = some (n, ag)) (h1 : (ag || Nat.beq n 1) = true) (hl : l.length = n)
    (hb : A.heap[q]? = some (.cells cs tq fz)) (hc : cs.extract off (off + n) = cells1 l) (hn : off + n ≤ cs.size) : AOp P σ o A (.value (mkv ag l).den) A := by
  have ht' := tsz_ok ht
  cases ag with
  | true => exact aop_loadT (p := ⟨q, off, none⟩) h hx ht' hb rfl hn hc
  | false =>
    simp only [Bool.false_or] at h1
    obtain rfl : n = 1 := Nat.eq_of_beq_eq_true h1
    have hone : one P t = true := by
      unfold tyOf at ht'
      unfold Go.Abs.one
      simp only [Bool.and_eq_true] at ht' ⊢
      refine ⟨?_, ht'.2⟩
      have := ht'.1
      cases hu : P.underlying t with
      | none => rw [hu] at this; cases this
      | some d => rw [hu] at this; cases d <;> simp_all
    match l, hl with
    | [c], _ =>
      refine aop_load h hx hone (cell_of hb rfl ?_)
      have := congrArg (fun a => a[0]?) hc
      have e : (cs.extract off (off + 1))[0]? = cs[off]? := by
        rw [Array.getElem?_extract, if_pos (by omega), Nat.add_zero]
      simp only [e] at this
      simpa [cells1, mkv, SV.den, List.headD] using this
theorem cells1_extract {l : List C1} {k n : Nat} : (cells1 l).extract k (k + n) = cells1 ((l.drop k).take n) := by
  apply Array.ext'
  simp [cells1, List.map_take, List.map_drop]
theorem evLoad_ok (hρ : RhoOk ρ σ) (hH : (hpA hp).p F A) {t : TypeId} {x : Operand} (ho : o.op = .load t x) (h : evLoad P ρ hp t x = some (v, ps)) (hps : AllP ps) : AOp P σ o A (.value v.den) A := by
  unfold evLoad at h
  split at h
  case h_2 => cases h
  rename_i g q i w k n ag hx ht
  have hx' := hρ _ _ hx
  split at h
  case h_3 => cases h
  · rename_i g' q' cs t' m hf hb
    split at h
    case h_2 => cases h
    rename_i hle
    cases h
    obtain ⟨rfl, _⟩ := hps
    obtain ⟨fz, _, hB⟩ := blk_at hf hH
    have hle' := Nat.le_of_ble_eq_true hle
    exact load_at ho hx' ht hb (by simp; omega) hB cells1_extract (by simpa [cells1] using hle')
  · rename_i α g' q' w' en d xs t' m z hf hb
    split at h
    case h_2 => cases h
    rename_i h1 h2
    cases h
    obtain ⟨rfl, hi, _⟩ := hps
    obtain ⟨_, rfl⟩ | ⟨_, hw, fz, _, hB⟩ := vec_at hf hH
    · simp at hi
    obtain rfl := Nat.eq_of_beq_eq_true h1
    have h2' := Nat.le_of_ble_eq_true h2
    refine load_at ho hx' ht hb (by simp [hw]; omega) hB (vcells_extract hw hi h2') ?_
    rw [vcells_size hw]
    have : (i + 1) * w ≤ xs.length * w := Nat.mul_le_mul_right _ hi
    rw [Nat.succ_mul] at this
    omega
theorem Addr.add_mk {q off n : Nat} : (⟨q, off, none⟩ : Addr).add n = ⟨q, off + n, none⟩ := by
  unfold Addr.add
  split
  · rename_i h; subst h; rfl
  · rfl
theorem evFieldAddr_ok (hρ : RhoOk ρ σ) {s : TypeId} {x : Operand} {k : Nat} (ho : o.op = .fieldAddr s x k) (h : evFieldAddr P ρ s x k = some (v, ps)) : AOp P σ o A (.value v.den) A := by
  unfold evFieldAddr at h
  split at h
  case h_2 => cases h
  rename_i g q i w k0 fs hx hu
  split at h
  case h_2 => cases h
  rename_i f hf
  split at h
  case h_2 => cases h
  rename_i n ag ht
  split at h
  case h_2 => cases h
  rename_i h1 h2
  cases h
  have := aop_fieldAddr (A := A) (p := ⟨q, i * w + k0, none⟩) ho (hρ _ _ hx) hu hf (tsz_ok ht) (by rintro rfl; simp at h1) (by intro e; rw [e] at h2; simp at h2)
  rw [Addr.add_mk] at this
  simpa [SV.den, C1.den, Nat.add_assoc] using this
theorem evIndexAddr_ok (hρ : RhoOk ρ σ) {t : TypeId} {x ix : Operand} (ho : o.op = .indexAddr t x ix) (h : evIndexAddr P ρ t x ix = some (v, ps)) (hps : AllP ps) : AOp P σ o A (.value v.den) A := by
  unfold evIndexAddr at h
  split at h
  · rename_i g q w off n c nl kk z e hx hi hu
    split at h
    case h_2 => cases h
    rename_i sz ag ht
    split at h
    case h_2 => cases h
    rename_i hw
    cases h
    obtain rfl := Nat.eq_of_beq_eq_true hw
    obtain ⟨h0, h1, rfl, _⟩ := hps
    have hz : z = (z.toNat : Int) := by omega
    have hi' := hρ _ _ hi
    simp only [SV.den, C1.den] at hi'
    rw [hz] at hi'
    have := aop_indexT (A := A) (p := ⟨q, off * sz, none⟩) ho (hρ _ _ hx) hi' hu (tsz_ok ht) (by omega)
    rw [Addr.add_mk] at this
    simp only [SV.den, C1.den, Nat.add_zero, Nat.add_mul]
    rw [Nat.add_comm]
    exact this
  · rename_i g q i w k kk z n e hx hi hu
    split at h
    case h_2 => cases h
    rename_i sz ag ht
    cases h
    obtain ⟨h0, h1, _⟩ := hps
    have hz : z = (z.toNat : Int) := by omega
    have hi' := hρ _ _ hi
    simp only [SV.den, C1.den] at hi'
    rw [hz] at hi'
    have := aop_indexA (A := A) (p := ⟨q, i * w + k, none⟩) ho (hρ _ _ hx) hi' hu (tsz_ok ht) (by omega)
    rw [Addr.add_mk] at this
    simpa [SV.den, C1.den, Nat.add_assoc] using this
  · cases h
theorem run_part {t : TypeId} {n : Nat} {ag : Bool} {l : List C1} {off : Nat} (ht : tsz P t = some (n, ag)) (h1 : (ag || Nat.beq n 1) = true) (hl : off + n ≤ l.length) (w : World) : (part t (cells1 l) off).run P w = .ok (mkv ag ((l.drop off).take n)).den w := by
  have ht' := tsz_ok ht
  unfold part
  simp only [Sem.run_bind, run_agg ht', Result.andThen]
  cases ag with
  | true =>
    simp only [if_true, Sem.run_bind, run_szT ht', Result.andThen, Sem.run_pure, cells1_extract]
    rfl
  | false =>
    simp only [Bool.false_or] at h1
    obtain rfl : n = 1 := Nat.eq_of_beq_eq_true h1
    have e : (cells1 l)[off]? = some (l[off]'(by omega)).den := by simp [cells1, List.getElem?_eq_getElem (show off < l.length by omega)]
    rw [if_neg (by simp), e]
    simp only [Sem.run_pure, mkv, SV.den]
    rw [List.drop_eq_getElem_cons (show off < l.length by omega)]
    rfl
theorem evField_ok (hρ : RhoOk ρ σ) {s : TypeId} {x : Operand} {k : Nat} (ho : o.op = .field s x k) (h : evField P ρ s x k = some (v, ps)) : AOp P σ o A (.value v.den) A := by
  unfold evField at h
  split at h
  case h_2 => cases h
  rename_i l fs hx hu
  split at h
  case h_2 => cases h
  rename_i f hf
  split at h
  case h_2 => cases h
  rename_i n ag ht
  split at h
  case h_2 => cases h
  rename_i h1 h2
  cases h
  refine .inr (.inl ⟨by rw [ho]; trivial, ?_⟩)
  unfold execOp; rw [ho]
  have hx' : σ x = .agg (cells1 l) := hρ _ _ hx
  simp only [hx', Instr.field, Sem.run_bind, Result.andThen, run_under hu, hf, asAgg, Sem.run_pure, run_part ht h2 (Nat.le_of_ble_eq_true h1)]
theorem evIndex_ok (hρ : RhoOk ρ σ) {t : TypeId} {x ix : Operand} (ho : o.op = .index t x ix) (h : evIndex P ρ t x ix = some (v, ps)) (hps : AllP ps) : AOp P σ o A (.value v.den) A := by
  unfold evIndex at h
  split at h
  case h_2 => cases h
  rename_i s k z hx hi hu
  cases h
  obtain ⟨h0, h1, _⟩ := hps
  refine .inr (.inl ⟨by rw [ho]; trivial, ?_⟩)
  unfold execOp; rw [ho]
  have hx' : σ x = .string s := hρ _ _ hx
  have hi' : σ ix = .int k z := hρ _ _ hi
  have hlt : z.toNat < s.size := by omega
  have e : s[z.toNat]? = some (byteAt s z.toNat) := by
    rw [getElem?_pos s z.toNat hlt]
    congr 1
    unfold byteAt
    have hlt' : z.toNat < s.data.size := hlt
    rw [Array.getD_eq_getD_getElem?, Array.getElem?_eq_getElem hlt']
    rfl
  simp only [hx', hi', Instr.index, asIntOf, Sem.run_bind, Result.andThen, run_under hu, Sem.run_pure, h0, if_true, e]
  rfl

theorem strV_plain {op : BinOp} {a b : ByteArray} {v : Value} (h : strV op a b = some v) : plain v = true := by
  unfold strV at h; split at h <;> cases h <;> rfl
theorem boolV_plain {op : BinOp} {a b : Bool} {v : Value} (h : boolV op a b = some v) : plain v = true := by
  unfold boolV at h; split at h <;> cases h <;> rfl
theorem aop_str {op : BinOp} {t : TypeId} {x y : Operand} {z : TypeId} {a b : ByteArray} {v : Value} (h : o.op = .binOp op t x y z) (hx : σ x = .string a) (hy : σ y = .string b) (hv : strV op a b = some v) : AOp P σ o A (.value v) A := by
  refine aop_pure (strV_plain hv) ?_ (by rw [h]; rfl) fun w => ?_
  · rw [h]; intro u hu
    simp only [Op.operands, List.mem_toArray, List.mem_cons, List.not_mem_nil, or_false] at hu
    rcases hu with rfl | rfl
    · rw [hx]; rfl
    · rw [hy]; rfl
  · unfold execOp; rw [h]
    simp only [hx, hy]
    unfold strV at hv
    split at hv <;> first | (cases hv; done) | skip
    all_goals (cases hv; simp [eqGuard, binOp, Op.stringOp, strEq, strLt, Bind.bind, Sem.bind, Pure.pure])
theorem aop_boolB {op : BinOp} {t : TypeId} {x y : Operand} {z : TypeId} {a b : Bool} {v : Value} (h : o.op = .binOp op t x y z) (hx : σ x = .bool a) (hy : σ y = .bool b) (hu : P.underlying t = some .bool) (hv : boolV op a b = some v) : AOp P σ o A (.value v) A := by
  refine aop_pure (boolV_plain hv) ?_ (by rw [h]; rfl) fun w => ?_
  · rw [h]; intro u hu
    simp only [Op.operands, List.mem_toArray, List.mem_cons, List.not_mem_nil, or_false] at hu
    rcases hu with rfl | rfl
    · rw [hx]; rfl
    · rw [hy]; rfl
  · unfold execOp; rw [h]
    simp only [hx, hy]
    have he : (Op.equal t (.bool a) (.bool b)).run P w = .ok (a == b) w := by
      unfold Op.equal Op.maxDepth Op.equalIn
      simp only [Sem.run_bind, run_under hu, Result.andThen, Sem.run_pure]
    unfold boolV at hv
    split at hv <;> first | (cases hv; done) | skip
    all_goals (cases hv; simp only [eqGuard, binOp, Sem.run_bind, Sem.run_pure, Result.andThen]; simp [Pure.pure, he])
theorem nil_run {t : TypeId} {d : TypeDesc} {a b : C1} {m n : Bool} (hu : P.underlying t = some d) (hm : nilC a = some m) (hn : nilC b = some n) (ht : nilTy d a b = true) (w : World) : nilPair a.den b.den = true ∧ (Op.equal t a.den b.den).run P w = .ok (m == n) w := by
  unfold nilTy at ht
  unfold Op.equal Op.maxDepth Op.equalIn
  split at ht <;> first | (cases ht; done) | skip
  all_goals first
    | (cases hm; cases hn; simp only [C1.den, nilPair, Option.isNone, Bool.or_true, Bool.true_or, Bool.or_self, true_and, Sem.run_bind, run_under hu, Result.andThen, Sem.run_pure]; done)
    | (cases hm; cases hn; simp only [C1.den, nilPair, Option.isNone, Bool.or_true, Bool.true_or, Bool.or_self, true_and, Sem.run_bind, run_under hu, Result.andThen, Sem.run_pure]; rfl)
    | (cases hm; cases hn; cases m <;> simp [C1.den, nilPair, Sem.run_bind, run_under hu, Result.andThen, Sem.run_pure])
end
end Go.Abs
/-
  ABS C5: what is told of quiet operations is so: the rest.
-/
namespace Go.Abs
section
variable {P : Program} {ρ : Operand → Option SV} {σ : Operand → Value} {hp : List Ch} {F : Ft} {A : World} {o : Oper} {v : SV} {ps : List Ob}
theorem boolOf_den {c : C1} {b : Bool} (h : boolOf c = some b) : c.den = .bool b := by
  unfold boolOf at h
  split at h <;> cases h <;> rfl
section
variable {t e : TypeId} {ki k1 k2 : IntKind} {a b c d : Int} (hu : P.underlying t = some (.array 2 e)) (he : P.underlying e = some (.int ki)) (hs : tsz P e = some (1, false))
include hu he hs
theorem run_pair2 (w : World) : (Op.equal t (.agg #[.int k1 a, .int k2 b]) (.agg #[.int k1 c, .int k2 d])).run P w = .ok (a == c && b == d) w := by
  have hint : ∀ {n : Nat} {k : IntKind} {x y : Int} {w : World}, (Op.equalIn (n + 1) e (.int k x) (.int k y)).run P w = .ok (x == y) w := fun {n k x y w} => by
    unfold Op.equalIn
    simp only [Sem.run_bind, run_under he, Result.andThen, if_true, Sem.run_pure]
  have hp : ∀ (x y : Value) (w : World), (part e #[x, y] 0).run P w = .ok x w ∧ (part e #[x, y] 1).run P w = .ok y w := fun x y w => by
    constructor <;> (unfold part; simp only [Sem.run_bind, run_agg (tsz_ok hs), Result.andThen, Bool.false_eq_true, if_false]; rfl)
  unfold Op.equal Op.maxDepth
  rw [Op.equalIn]
  simp only [Sem.run_bind, run_under hu, run_szT (tsz_ok hs), Result.andThen]
  simp [Std.Legacy.Range.forIn_eq_forIn_range', List.range', Sem.run_bind, Result.andThen, fun x y w => (hp x y w).1, hint]
  by_cases h1 : a = c
  · by_cases h2 : b = d
    · simp [h1, h2, Sem.run_bind, Result.andThen, fun x y w => (hp x y w).2, hint]
    · simp [h1, h2, Sem.run_bind, Result.andThen, fun x y w => (hp x y w).2, hint]
  · simp [h1]
theorem aop_pair2 (hg : P.eqGuardType P.depth t = false) {x y : Operand} {z : TypeId} {op : BinOp} {r : Bool} (ho : o.op = .binOp op t x y z) (hx : σ x = .agg #[.int k1 a, .int k2 b]) (hy : σ y = .agg #[.int k1 c, .int k2 d]) (hr : (op = .eql ∧ r = (a == c && b == d)) ∨ (op = .neq ∧ r = !(a == c && b == d))) : AOp P σ o A (.value (.bool r)) A := by
  refine aop_pure rfl ?_ (by rw [ho]; rfl) fun w => ?_
  · rw [ho]; intro u hu
    simp only [Op.operands, List.mem_toArray, List.mem_cons, List.not_mem_nil, or_false] at hu
    rcases hu with rfl | rfl
    · rw [hx]; rfl
    · rw [hy]; rfl
  · unfold execOp; rw [ho]; simp only [hx, hy]
    have e1 : ∀ op, (eqGuard op t x y (.agg #[.int k1 a, .int k2 b]) (.agg #[.int k1 c, .int k2 d])).run P w = .ok () w := fun op => by
      unfold eqGuard
      cases op <;> simp [program, hg, Sem.run, Bind.bind, Sem.bind, Pure.pure]
    rcases hr with ⟨rfl, rfl⟩ | ⟨rfl, rfl⟩
    · have e2 : (binOp .eql t (.agg #[.int k1 a, .int k2 b]) (.agg #[.int k1 c, .int k2 d])).run P w = .ok (.bool (a == c && b == d)) w := by
        show (do Pure.pure (Value.bool (← Op.equal t _ _)) : Sem Value).run P w = _
        simp only [Sem.run_bind, run_pair2 hu he hs, Result.andThen, Sem.run_pure]
      simp only [Sem.run_bind, e1, e2, Result.andThen, Sem.run_pure]
    · have e2 : (binOp .neq t (.agg #[.int k1 a, .int k2 b]) (.agg #[.int k1 c, .int k2 d])).run P w = .ok (.bool (!(a == c && b == d))) w := by
        show (do Pure.pure (Value.bool (!(← Op.equal t _ _))) : Sem Value).run P w = _
        simp only [Sem.run_bind, run_pair2 hu he hs, Result.andThen, Sem.run_pure]
      simp only [Sem.run_bind, e1, e2, Result.andThen, Sem.run_pure]
end
theorem intE_ok {ov : Bool} {op : BinOp} {k : IntKind} {m n : Int} {u : Value} {ps : List Ob} (h : intE ov op k m n = some (u, ps)) (hps : AllP ps) : intV op k m n = some u := by
  unfold intE at h
  split at h
  · cases h
    exact intV_add rfl hps.1 hps.2.1
  · cases h
    exact intV_sub rfl hps.1 hps.2.1
  · cases h
    simp only [intV, wrap_id hps.1 hps.2.1]
  · split at h
    case h_2 => cases h
    rename_i v hv
    cases h
    exact hv
theorem evBin_ok {ov : Bool} (hρ : RhoOk ρ σ) {op : BinOp} {t z : TypeId} {x y : Operand} (ho : o.op = .binOp op t x y z) (h : evBin P ov ρ op t x y = some (v, ps)) (hps : AllP ps) : AOp P σ o A (.value v.den) A := by
  unfold evBin at h
  split at h
  · rename_i k m k' n hx hy
    split at h
    case h_2 => cases h
    rename_i u ps' hu hk
    cases h
    have hk' := of_decide_eq_true hk
    subst hk'
    rw [show (SV.o (ofR u)).den = u from ofR_den u]
    exact aop_int ho (hρ _ _ hx) (hρ _ _ hy) (intE_ok hu hps)
  · rename_i a b hx hy
    split at h
    case h_2 => cases h
    rename_i u hu
    cases h
    rw [show (SV.o (ofR u)).den = u from ofR_den u]
    exact aop_str ho (hρ _ _ hx) (hρ _ _ hy) hu
  · rename_i a b _ _ hx hy
    split at h
    · rename_i a' b' ha hb
      split at h
      case h_2 => cases h
      rename_i u hu hv
      cases h
      rw [show (SV.o (ofR u)).den = u from ofR_den u]
      exact aop_boolB ho ((hρ _ _ hx).trans (boolOf_den ha)) ((hρ _ _ hy).trans (boolOf_den hb)) hu hv
    · split at h
      · rename_i d m n hu hm hn
        split at h
        case h_2 => cases h
        rename_i ht
        cases h
        obtain ⟨h1, h2⟩ := nil_run hu hm hn ht A
        rw [show (SV.o (nilR a (m == n))).den = .bool (m == n) from nilR_den _ _]
        exact aop_eqNil ho (hρ _ _ hx) (hρ _ _ hy) h1 h2
      · rename_i d m n hu hm hn
        split at h
        case h_2 => cases h
        rename_i ht
        cases h
        obtain ⟨h1, h2⟩ := nil_run hu hm hn ht A
        rw [show (SV.o (nilR a (!(m == n)))).den = .bool (!(m == n)) from nilR_den _ _]
        exact aop_neNil ho (hρ _ _ hx) (hρ _ _ hy) h1 h2
      · cases h
  · rename_i k1 a b2 b k3 c k4 d hx hy
    split at h
    case h_2 => cases h
    rename_i e hu
    split at h
    case h_2 => cases h
    rename_i ki he hs hg h13 h24
    have e13 := of_decide_eq_true h13
    have e24 := of_decide_eq_true h24
    subst e13
    subst e24
    split at h
    · cases h
      exact aop_pair2 hu he hs hg ho (hρ _ _ hx) (hρ _ _ hy) (.inl ⟨rfl, rfl⟩)
    · cases h
      exact aop_pair2 hu he hs hg ho (hρ _ _ hx) (hρ _ _ hy) (.inr ⟨rfl, rfl⟩)
    · cases h
  · cases h
theorem armB_ok {c : Operand} {h e0 : Bool} {v : SV} {b : Bool} {ps : List Ob} (e : armB c h e0 v = some (b, ps)) (hps : AllP ps) (hh : sameB h e0 = true) : v.den = .bool b := by
  unfold armB at e
  split at e
  · split at e
    case h_2 => cases e
    rename_i b' hb
    cases e
    exact boolOf_den hb
  · rename_i d kb e' x
    split at e
    case h_2 => cases e
    rename_i b' hb
    have key : e' = true → (SV.kk d kb e' false [x]).den = .bool b' := fun he => by
      simp only [SV.den, he, if_true, compV, List.headD_cons]
      exact boolOf_den hb
    split at e
    · split at e
      · cases e
        exact key (by rw [hps.1, hh])
      · cases e
        exact key (hps.1 hh)
    · cases e
      exact key (hps.1 hh)
  · cases e
theorem armB_lit {c : Operand} {h e0 : Bool} {b : Bool} {ps : List Ob} {x : Bool} (e : armB c h e0 (.o (.v (.bool x))) = some (b, ps)) : b = x := by
  unfold armB at e
  simp only [boolOf] at e
  cases e; rfl
theorem evPick_ok (hρ : RhoOk ρ σ) {c x y : Operand} (ho : o.op = .pick c x y) (h : evPick ρ c x y = some (v, ps)) (hps : AllP ps) : AOp P σ o A (.value v.den) A := by
  unfold evPick at h
  split at h
  · rename_i hc
    rw [Option.map_eq_some_iff] at h
    obtain ⟨u, hu, e⟩ := h
    cases e
    exact aop_picks ho (hρ _ _ hc) (hρ _ _ hu)
  · rename_i hc
    rw [Option.map_eq_some_iff] at h
    obtain ⟨u, hu, e⟩ := h
    cases e
    exact aop_picks ho (hρ _ _ hc) (hρ _ _ hu)
  · rename_i e hc
    split at h
    case h_2 => cases h
    rename_i vx vy hx hy
    split at h
    case h_2 => cases h
    rename_i bx p1 b_y p2 h1 h2
    cases h
    obtain ⟨q1, q2⟩ := AllP.split hps
    refine aop_picks (b := e) ho (hρ _ _ hc) ?_
    rw [hρ _ _ hx, hρ _ _ hy]
    show _ = Value.bool (selB e vx vy bx b_y)
    rw [selB_eq _ _ _ _ _ (fun e1 => by rw [e1] at h1; exact armB_lit h1) (fun e2 => by rw [e2] at h2; exact armB_lit h2)]
    cases e with
    | true => exact armB_ok h1 q1 rfl
    | false => exact armB_ok h2 q2 rfl
  · cases h
theorem evNilCheck_ok (hρ : RhoOk ρ σ) {x : Operand} (ho : o.op = .nilCheck x) (h : evNilCheck ρ x = some (v, ps)) : AOp P σ o A (.value v.den) A := by
  unfold evNilCheck at h
  split at h
  case h_2 => cases h
  rename_i hx
  cases h
  exact aop_nilCheck ho (hρ _ _ hx)
theorem evNot_ok (hρ : RhoOk ρ σ) {t : TypeId} {x : Operand} (ho : o.op = .unOp .not t x) (h : evNot ρ x = some (v, ps)) : AOp P σ o A (.value v.den) A := by
  unfold evNot at h
  split at h
  · rename_i hx
    cases h
    exact aop_not ho (hρ _ _ hx)
  · rename_i hx
    cases h
    exact aop_not ho (hρ _ _ hx)
  · cases h
theorem evConv_ok (hρ : RhoOk ρ σ) {s d : TypeId} {x : Operand} (ho : o.op = .convert s d x) (h : evConv P ρ s d x = some (v, ps)) : AOp P σ o A (.value v.den) A := by
  unfold evConv at h
  split at h
  case h_2 => cases h
  rename_i k0 n k u0 hx hu hs
  cases h
  have hx' : σ x = .int k0 n := hρ _ _ hx
  refine aop_pure rfl ?_ (by rw [ho]; rfl) fun w => ?_
  · rw [ho]; intro u hu
    simp only [Op.operands, List.mem_toArray, List.mem_cons, List.not_mem_nil, or_false] at hu
    subst hu; rw [hx']; rfl
  · unfold execOp; rw [ho]
    simp only [hx', convert, Sem.run_bind, run_under hs, run_under hu, Result.andThen, Conv.intToInt, Sem.run_pure]
    rfl
theorem evLenS_ok (hρ : RhoOk ρ σ) {c : Call} (ho : o.op = .call c) (hc : c.callee = .builtin .len) (h : evLenS P ρ c = some (v, ps)) : AOp P σ o A (.value v.den) A := by
  have key : ∀ {x : SV}, c.args.toList.map ρ = [some x] → c.args.toList.map σ = [x.den] := fun {x} hm => by
    obtain ⟨y, e, hy⟩ := List.map_eq_singleton_iff.1 hm
    rw [e, List.map_singleton, hρ _ _ hy]
  unfold evLenS at h
  split at h
  · rename_i g q w oo n cc nl t hx ht
    split at h
    case h_2 => cases h
    rename_i e hu
    cases h
    exact aop_len ho hc ht hu (key hx)
  · rename_i b n cc t hx ht
    split at h
    case h_2 => cases h
    rename_i e hu
    cases h
    exact aop_len ho hc ht hu (key hx)
  · rename_i s t hx ht
    split at h
    case h_2 => cases h
    rename_i hu
    cases h
    have hx' := key hx
    refine aop_pure rfl ?_ (by rw [ho]; rfl) fun w => ?_
    · rw [ho]
      intro u hu
      simp only [Op.operands, Call.operands, hc, Array.empty_append] at hu
      have : σ u ∈ c.args.toList.map σ := List.mem_map.2 ⟨u, by simpa using hu, rfl⟩
      rw [hx'] at this
      simp only [List.mem_cons, List.not_mem_nil, or_false] at this
      rw [this]; rfl
    · unfold execOp; rw [ho]
      simp only [resolve, hc, map_list hx', Sem.run_bind, Sem.run_pure, Result.andThen, invoke, builtin, Builtin.len_, ht]
      simp [SV.den, C1.den, run_under hu, Sem.run_bind, Result.andThen, Sem.run_pure, goInt]
  · cases h
theorem capC_den {x : C1} {n k : Nat} (h : capC x = some (n, k)) : x.den = .slice none n k := by
  unfold capC at h
  split at h <;> cases h <;> rfl
theorem evCap_ok (hρ : RhoOk ρ σ) {c : Call} (ho : o.op = .call c) (hc : c.callee = .builtin .cap) (h : evCap P ρ c = some (v, ps)) : AOp P σ o A (.value v.den) A := by
  unfold evCap at h
  split at h
  case h_2 => cases h
  rename_i x t hm ht
  split at h
  case h_2 => cases h
  rename_i n k e hx hu
  cases h
  have hx' : c.args.toList.map σ = [.slice none n k] := by
    obtain ⟨y, e, hy⟩ := List.map_eq_singleton_iff.1 hm
    rw [e, List.map_singleton, hρ _ _ hy, SV.den, capC_den hx]
  refine aop_pure rfl ?_ (by rw [ho]; rfl) fun w => ?_
  · rw [ho]
    intro u hu
    simp only [Op.operands, Call.operands, hc, Array.empty_append] at hu
    have : σ u ∈ c.args.toList.map σ := List.mem_map.2 ⟨u, by simpa using hu, rfl⟩
    rw [hx'] at this
    simp only [List.mem_cons, List.not_mem_nil, or_false] at this
    rw [this]; rfl
  · unfold execOp; rw [ho]
    simp only [resolve, hc, map_list hx', Sem.run_bind, Sem.run_pure, Result.andThen, invoke, builtin, Builtin.cap_, ht]
    simp [SV.den, C1.den, run_under hu, Sem.run_bind, Result.andThen, Sem.run_pure, goInt]
theorem evMinMax_ok (hρ : RhoOk ρ σ) {mn : Bool} {c : Call} (ho : o.op = .call c) (hc : c.callee = .builtin (if mn then .min else .max)) (h : evMinMax ρ mn c = some (v, ps)) (hps : AllP ps) : AOp P σ o A (.value v.den) A := by
  unfold evMinMax at h
  split at h
  case h_2 => cases h
  rename_i k m k' n hx
  cases h
  obtain ⟨rfl, _⟩ := hps
  have hm : c.args.toList.map σ = [.int k' m, .int k' n] := by
    obtain ⟨y, l, e, hy, hl⟩ := List.map_eq_cons_iff.1 hx
    obtain ⟨z, e', hz⟩ := List.map_eq_singleton_iff.1 hl
    rw [e, e', List.map_cons, List.map_singleton, hρ _ _ hy, hρ _ _ hz]
    rfl
  have hp : o.op.operands.toList.all (fun x => plain (σ x)) = true := by
    rw [ho]
    simp only [Op.operands, Call.operands]
    have : ∀ x ∈ c.args.toList, plain (σ x) = true := fun x hx => by
      have : σ x ∈ c.args.toList.map σ := List.mem_map.2 ⟨x, hx, rfl⟩
      rw [hm] at this
      simp only [List.mem_cons, List.not_mem_nil, or_false] at this
      rcases this with e | e <;> (rw [e]; rfl)
    rw [List.all_eq_true]
    intro x hx
    cases mn <;> (simp only [hc, Bool.false_eq_true, if_true, if_false] at hx; exact this x (by simpa using hx))
  cases mn with
  | true => exact aop_min ho hc hm hp
  | false => exact aop_max ho hc hm hp
theorem ops1_map {l : List Operand} {cs : List C1} (hρ : RhoOk ρ σ) (h : ops1 (l.map ρ) = some cs) : l.map σ = cs.map C1.den := by
  induction l generalizing cs with
  | nil => cases h; rfl
  | cons x l ih =>
    simp only [List.map_cons] at h ⊢
    unfold ops1 at h
    split at h
    · rename_i e; cases e
    · rename_i c l' e
      cases hx : ρ x with
      | none => rw [hx] at e; cases e
      | some u =>
        rw [hx] at e
        simp only [List.cons.injEq, Option.some.injEq] at e
        obtain ⟨rfl, rfl⟩ := e
        split at h
        case h_2 => cases h
        rename_i cs' h'
        cases h
        rw [ih h', hρ _ _ hx]; rfl
    · cases h
theorem evFunc_ok (hρ : RhoOk ρ σ) {f : FuncId} {first cap : Array Operand} (ho : o.op = .makeFunc (.func f) first cap) (h : evFunc ρ f first cap = some (v, ps)) : AOp P σ o A (.value v.den) A := by
  unfold evFunc at h
  split at h
  case h_2 => cases h
  rename_i l l' h1 h2
  cases h
  exact aop_func ho (ops1_map hρ h1) (ops1_map hρ h2)
theorem evExtract_ok (hρ : RhoOk ρ σ) {x : Operand} {i : Nat} (ho : o.op = .extract x i) (h : evExtract ρ x i = some (v, ps)) : AOp P σ o A (.value v.den) A := by
  unfold evExtract at h
  split at h
  case h_2 => cases h
  rename_i l hx
  have hx' := hρ _ _ hx
  have key : ∀ c, l[i]? = some c → AOp P σ o A (.value (compV c)) A := fun c hc => by
    refine .inr (.inl ⟨by rw [ho]; trivial, ?_⟩)
    unfold execOp; rw [ho]
    simp only [hx', SV.den, Instr.extract, List.getElem?_toArray, List.getElem?_map, hc, Option.map_some, Sem.run_bind, Sem.run_pure, Result.andThen]
  split at h
  · rename_i cs hc
    cases h
    exact key _ hc
  · rename_i cs hc
    cases h
    exact key _ hc
  · cases h
end
end Go.Abs
/-
  ABS C6: things put together, slices of slices; all quiet operations.
-/
namespace Go.Abs
section
variable {P : Program} {ρ : Operand → Option SV} {σ : Operand → Value} {hp : List Ch} {F : Ft} {A : World} {o : Oper} {v : SV} {ps : List Ob}
theorem set_run (off : Nat) : ∀ (cs a b c : List Value) (k : Nat), a.length = off + k → b.length = cs.length → (cs.zipIdx k).foldl (fun (x : Array Value) p => x.setIfInBounds (off + p.2) p.1) (a ++ b ++ c).toArray = (a ++ cs ++ c).toArray
  | [], a, b, c, k, _, hb => by
    have : b = [] := List.eq_nil_of_length_eq_zero (by simpa using hb)
    subst this; rfl
  | v :: cs, a, [], c, k, _, hb => by simp at hb
  | v :: cs, a, w :: b, c, k, ha, hb => by
    have ih := set_run off cs (a ++ [v]) b c (k + 1) (by simp; omega) (by simpa using hb)
    simp only [List.zipIdx_cons, List.foldl_cons]
    have e1 : ((a ++ w :: b ++ c).toArray).setIfInBounds (off + k) v = (a ++ [v] ++ b ++ c).toArray := by
      rw [← ha]
      simp [List.set_append_right]
    rw [e1, ih]; simp
theorem put_run {l cs : List C1} {off : Nat} (h : off + cs.length ≤ l.length) : (cells1 cs).zipIdx.foldl (fun (x : Array Value) p => x.setIfInBounds (off + p.2) p.1) (cells1 l) = cells1 (putAt l off cs) := by
  have hs : l = l.take off ++ (l.drop off).take cs.length ++ l.drop (off + cs.length) := by
    rw [← List.drop_drop, List.append_assoc, List.take_append_drop, List.take_append_drop]
  rw [← Array.foldl_toList]
  have e : (cells1 cs).zipIdx.toList = (cs.map C1.den).zipIdx 0 := by simp [cells1]
  rw [e]
  have := set_run off (cs.map C1.den) ((l.take off).map C1.den) (((l.drop off).take cs.length).map C1.den) ((l.drop (off + cs.length)).map C1.den) 0 (by simp; omega) (by simp; omega)
  rw [← List.map_append, ← List.map_append, ← hs] at this
  rw [show cells1 l = (l.map C1.den).toArray from rfl, this]
  simp [cells1, putAt]
theorem cells1_size {l : List C1} : (cells1 l).size = l.length := by simp [cells1]
theorem fill_ok (hρ : RhoOk ρ σ) {place place' : Nat → Option (Nat × Nat)} (hpl : ∀ i x, place i = some x → place' i = some x) : ∀ {parts : List (Nat × Operand)} {l l' : List C1} {ps : List Ob}, fillL place l (parts.map fun p => (p.1, ρ p.2)) = some (l', ps) → AllP ps → Instr.fill place' (cells1 l) (parts.map fun p => (p.1, σ p.2)) = some (cells1 l')
  | [], l, l', ps, h, _ => by cases h; rfl
  | (i, x) :: parts, l, l', ps, h, hps => by
    simp only [List.map_cons] at h ⊢
    unfold fillL at h
    split at h
    case h_2 => cases h
    rename_i off size v hi hx
    split at h
    case h_2 => cases h
    rename_i cs hc
    split at h
    case h_2 => cases h
    rename_i h1 h2
    split at h
    case h_2 => cases h
    rename_i l2 ps2 h3
    cases h
    obtain ⟨hone, hps⟩ := hps
    have hcell : (σ x).cells = cells1 cs := by rw [hρ _ _ hx]; exact SV.cells_den hc hone
    have hle := Nat.le_of_ble_eq_true h2
    have hsz := Nat.eq_of_beq_eq_true h1
    unfold Instr.fill
    rw [hpl _ _ hi]
    simp only [hcell, cells1_size, hsz]
    rw [if_neg (by simp; omega)]
    have := put_run (l := l) (cs := cs) (off := off) hle
    rw [this]
    exact fill_ok hρ hpl h3 hps
theorem mapM_sizes : ∀ {fs : List Field} (w : World), (places P fs).all Option.isSome = true → ∃ r : List (Nat × Nat), (fs.mapM (fun f => Go.sizeOf f.type >>= fun s => (Pure.pure (f.offset, s) : Sem (Nat × Nat)))).run P w = .ok r w ∧ ∀ (k : Nat) x, (places P fs)[k]? = some (some x) → r[k]? = some x
  | [], w, _ => ⟨[], by simp [Sem.run_pure], fun k x h => by simp [places] at h⟩
  | f :: fs, w, h => by
    simp only [places, List.map_cons, List.all_cons, Bool.and_eq_true] at h
    obtain ⟨r, h1, h2⟩ := mapM_sizes (fs := fs) w h.2
    cases ht : tsz P f.type with
    | none => rw [ht] at h; simp at h
    | some p =>
      obtain ⟨n, g⟩ := p
      refine ⟨(f.offset, n) :: r, ?_, fun k x hk => ?_⟩
      · simp only [List.mapM_cons, Sem.run_bind, run_szT (tsz_ok ht), Result.andThen, Sem.run_pure, h1]
      · cases k with
        | zero => simp only [places, List.map_cons, ht, List.getElem?_cons_zero, Option.some.injEq] at hk; subst hk; rfl
        | succ k => exact h2 k x (by simpa [places] using hk)
theorem evBuild_ok (hρ : RhoOk ρ σ) {t : TypeId} {parts : Array (Nat × Operand)} (ho : o.op = .build t parts) (h : evBuild P ρ t parts = some (v, ps)) (hps : AllP ps) : AOp P σ o A (.value v.den) A := by
  have hzc : ∀ z : Value, cells1 (z.cells.toList.map C1.v) = z.cells := fun z => by
    apply Array.ext'
    simp [cells1, Function.comp_def, C1.den]
  have hpm : (parts.map fun (p : Nat × Operand) => (p.1, σ p.2)).toList = parts.toList.map fun p => (p.1, σ p.2) := by simp
  unfold evBuild at h
  split at h
  · rename_i fs i hu hi
    split at h
    case h_2 => cases h
    rename_i z hz
    split at h
    case h_2 => cases h
    rename_i l ps' hf
    split at h
    case h_2 => cases h
    rename_i hall
    cases h
    obtain ⟨r, h1, h2⟩ := mapM_sizes (P := P) (fs := fs.toList) A hall
    refine .inr (.inl ⟨by rw [ho]; trivial, ?_⟩)
    unfold execOp; rw [ho]
    have hm : (fs.mapM fun f => Go.sizeOf f.type >>= fun s => (Pure.pure (f.offset, s) : Sem (Nat × Nat))).run P A = .ok r.toArray A := by
      rw [Array.mapM_eq_mapM_toList]
      simp only [map_eq_pure_bind, Sem.run_bind, h1, Result.andThen, Sem.run_pure]
    have := fill_ok (place' := fun k => r.toArray[k]?) hρ (fun k x hk => by
      split at hk
      · rename_i o2 h3
        subst hk
        have := h2 k x h3
        simpa using this
      · cases hk) hf hps
    rw [hzc] at this
    simp only [Instr.build, Sem.run_bind, Result.andThen, run_zeroT hi hz, run_under hu]
    rw [hm]
    simp only [hpm, this, Sem.run_pure]
    rfl
  · rename_i n e i hu hi
    split at h
    case h_2 => cases h
    rename_i z n' g hz ht
    split at h
    case h_2 => cases h
    rename_i l ps' hf
    cases h
    refine .inr (.inl ⟨by rw [ho]; trivial, ?_⟩)
    unfold execOp; rw [ho]
    have := fill_ok (place' := fun k => some (k * n', n')) hρ (fun k x hk => hk) hf hps
    rw [hzc] at this
    simp only [Instr.build, Sem.run_bind, Result.andThen, run_zeroT hi hz, run_under hu, run_szT (tsz_ok ht), hpm, this, Sem.run_pure]
    rfl
  · cases h

theorem chT_at {l : List Ch} {n q : Nat} {c : Ch} {t : TypeId} {z : Bool} (h : fnd l n = some c) (hc : chT c = some (q, t, z)) (hp : (hpA l).p F A) : z = true ∨ ∃ cs fz, fz ≠ (2, 0) ∧ A.heap[q]? = some (.cells cs t fz) := by
  cases c with
  | blk => cases hc; obtain ⟨fz, h1, h2⟩ := blk_at h hp; exact .inr ⟨_, fz, fz_ne h1, h2⟩
  | vec =>
    cases hc
    obtain ⟨h, _⟩ | ⟨_, _, fz, h1, h2⟩ := vec_at h hp
    · exact .inl h
    · exact .inr ⟨_, fz, fz_ne h1, h2⟩
  | as => cases hc
theorem run_bnd {v : Value} {k : IntKind} {z : Int} {y : Nat} {code : BoundsCode} {w : World} (hv : v = .int k z) (h0 : 0 ≤ z) (h : z ≤ y) : (Instr.sliceBound v y code).run P w = .ok z.toNat w := by
  subst hv
  simp only [Instr.sliceBound, asIntOf, Sem.run_bind, Sem.run_pure, Result.andThen]
  rw [if_pos ⟨h0, h⟩]; rfl
/-- What the bounds come to. -/
def bndAt (b : Option (IntKind × Int)) (d : Nat) : Int := match b with
  | none => d
  | some (_, z) => z
theorem bnd_ok (hρ : RhoOk ρ σ) {x : Option Operand} {b : Option (IntKind × Int)} (h : bnd ρ x = some b) : x.map σ = b.map fun p => .int p.1 p.2 := by
  unfold bnd at h
  split at h
  · cases h; rfl
  · rename_i x
    split at h
    case h_2 => cases h
    rename_i k z hx
    cases h
    simp only [Option.map_some, hρ _ _ hx]; rfl
theorem run_bnds {isS : Bool} {len cap : Nat} {lo hi : Option (IntKind × Int)} (h1 : 0 ≤ bndAt lo 0) (h2 : bndAt lo 0 ≤ bndAt hi len) (h3 : bndAt hi len ≤ cap) (w : World) :
    (Instr.sliceBounds isS len cap (lo.map fun p => .int p.1 p.2) (hi.map fun p => .int p.1 p.2) none).run P w = .ok ((bndAt lo 0).toNat, (bndAt hi len).toNat, cap) w := by
  unfold Instr.sliceBounds
  cases hi with
  | none =>
    simp only [bndAt] at h2 h3 ⊢
    cases lo with
    | none => simp only [Option.map_none, Sem.run_bind, Sem.run_pure, Result.andThen]; rfl
    | some p =>
      simp only [bndAt] at h1 h2 ⊢
      simp only [Option.map_none, Option.map_some, Sem.run_bind, Sem.run_pure, Result.andThen, run_bnd (v := .int p.1 p.2) rfl h1 h2, Option.isSome_none]
      rfl
  | some r =>
    simp only [bndAt] at h2 h3 ⊢
    cases lo with
    | none =>
      simp only [bndAt] at h1 h2 ⊢
      simp only [Option.map_none, Option.map_some, Sem.run_bind, Sem.run_pure, Result.andThen, run_bnd (v := .int r.1 r.2) rfl h2 h3]; rfl
    | some p =>
      simp only [bndAt] at h1 h2 ⊢
      have h4 : p.2 ≤ (r.2.toNat : Int) := by omega
      simp only [Option.map_some, Sem.run_bind, Sem.run_pure, Result.andThen, run_bnd (v := .int r.1 r.2) rfl (by omega : (0 : Int) ≤ r.2) h3, run_bnd (v := .int p.1 p.2) rfl h1 h4, Option.isSome_none]
theorem aop_sliceG (hρ : RhoOk ρ σ) {t e : TypeId} {n : Nat} {g : Bool} {x : Operand} {lo hi : Option Operand} {lo' hi' : Option (IntKind × Int)} {b : Option Addr} {len cap : Nat} (ho : o.op = .slice t x lo hi none) (hx : σ x = .slice b len cap) (hu : P.underlying t = some (.slice e)) (h1 : tyOf P e n g = true)
    (hlo : bnd ρ lo = some lo') (hhi : bnd ρ hi = some hi') (k1 : 0 ≤ bndAt lo' 0) (k2 : bndAt lo' 0 ≤ bndAt hi' len) (k3 : bndAt hi' len ≤ cap) (hlen : len ≤ cap)
    (hb : ∀ a, b = some a → ∃ cs t' fz, A.heap[a.block]? = some (.cells cs t' fz) ∧ fz ≠ (2, 0) ∧ (fz = (1, 0) → P.cellsOf e = P.cellsOf t')) :
    AOp P σ o A (.value (.slice (if cap = (bndAt lo' 0).toNat then b else b.map (·.add ((bndAt lo' 0).toNat * n))) ((bndAt hi' len).toNat - (bndAt lo' 0).toNat) (cap - (bndAt lo' 0).toNat))) A := by
  refine .inr (.inl ⟨?_, ?_⟩)
  · rw [ho]
    refine ⟨fun a l' c' h' => ?_, fun e' h' => ?_, fun el he a l' c' h' => ?_⟩
    · rw [hx] at h'; cases h'; exact hlen
    · rw [hu] at h'; cases h'
    · rw [hu] at he; cases he; rw [hx] at h'; cases h'; exact hb a rfl
  · unfold execOp; rw [ho]
    simp only [Instr.sliceAt, Instr.slice, hx, Sem.run_bind, Sem.run_pure, Result.andThen, run_under hu, run_szT h1, bnd_ok hρ hlo, bnd_ok hρ hhi, Option.map_none, run_bnds k1 k2 k3]
theorem aop_sliceS (hρ : RhoOk ρ σ) {t : TypeId} {x : Operand} {lo hi : Option Operand} {lo' hi' : Option (IntKind × Int)} {s : ByteArray} (ho : o.op = .slice t x lo hi none) (hx : σ x = .string s) (hu : P.underlying t = some .string)
    (hlo : bnd ρ lo = some lo') (hhi : bnd ρ hi = some hi') (k1 : 0 ≤ bndAt lo' 0) (k2 : bndAt lo' 0 ≤ bndAt hi' s.size) (k3 : bndAt hi' s.size ≤ s.size) :
    AOp P σ o A (.value (.string (s.extract (bndAt lo' 0).toNat (bndAt hi' s.size).toNat))) A := by
  refine .inr (.inl ⟨?_, ?_⟩)
  · rw [ho]
    refine ⟨fun a l' c' h' => ?_, fun e' h' => ?_, fun el he a l' c' h' => ?_⟩
    · rw [hx] at h'; cases h'
    · rw [hu] at h'; cases h'
    · rw [hu] at he; cases he
  · unfold execOp; rw [ho]
    simp only [Instr.sliceAt, Instr.slice, hx, Sem.run_bind, Sem.run_pure, Result.andThen, run_under hu, bnd_ok hρ hlo, bnd_ok hρ hhi, Option.map_none]
    simp [run_bnds k1 k2 k3, Result.andThen]
theorem cond_map {z : Bool} {q a n : Nat} : (cond z none (some (⟨q, a, none⟩ : Addr))).map (·.add n) = cond z none (some ⟨q, a + n, none⟩) := by
  cases z
  · simp [Addr.add_mk]
  · rfl
theorem evSlice_ok (hρ : RhoOk ρ σ) (hH : (hpA hp).p F A) {t : TypeId} {x : Operand} {lo hi : Option Operand} (ho : o.op = .slice t x lo hi none) (h : evSlice P ρ hp t x lo hi = some (v, ps)) (hps : AllP ps) : AOp P σ o A (.value v.den) A := by
  unfold evSlice at h
  split at h
  · rename_i g q w oo n c z e lo' hi' hx hu hlo hhi
    have hx' : σ x = .slice (cond z none (some ⟨q, oo * w, none⟩)) n c := hρ _ _ hx
    split at h
    case h_2 => cases h
    rename_i sz ag ht
    split at h
    case h_2 => cases h
    rename_i c0 hw hf
    obtain rfl := Nat.eq_of_beq_eq_true hw
    split at h
    case h_2 => cases h
    rename_i q' t' z' hc
    split at h
    case h_2 => cases h
    rename_i hce
    have hbk : q = q' → z = z' → ∀ a : Addr, cond z none (some (⟨q, oo * sz, none⟩ : Addr)) = some a → ∃ cs t' fz, A.heap[a.block]? = some (.cells cs t' fz) ∧ fz ≠ (2, 0) ∧ (fz = (1, 0) → P.cellsOf e = P.cellsOf t') := fun hq hz a ha => by
      subst hq; subst hz
      cases z with
      | true => cases ha
      | false =>
        cases ha
        obtain h | ⟨cs, fz, hne, hB⟩ := chT_at hf hc hH
        · cases h
        · exact ⟨cs, t', fz, hB, hne, fun _ => Nat.eq_of_beq_eq_true hce⟩
    have low : ∀ {l : Int}, 0 ≤ l → (l.toNat + oo) * sz = oo * sz + l.toNat * sz := fun {l} _ => by rw [Nat.add_mul, Nat.add_comm]
    split at h
    · cases h
      obtain ⟨hq, hz, hnc, _⟩ := hps
      have := aop_sliceG hρ (A := A) ho hx' hu (tsz_ok ht) hlo hhi (by simp [bndAt]) (by simp [bndAt]) (by simpa [bndAt] using hnc) hnc (hbk hq hz)
      simpa [bndAt, SV.den, C1.den, cond_map] using this
    · cases h
      obtain ⟨hq, hz, hnc, h0, h1, _⟩ := hps
      have := aop_sliceG hρ (A := A) ho hx' hu (tsz_ok ht) hlo hhi (by simp [bndAt]) (by simpa [bndAt] using h0) (by simpa [bndAt] using h1) hnc (hbk hq hz)
      simpa [bndAt, SV.den, C1.den, cond_map] using this
    · rename_i kk l
      cases h
      obtain ⟨hq, hz, hnc, h0, h1, _⟩ := hps
      have := aop_sliceG hρ (A := A) ho hx' hu (tsz_ok ht) hlo hhi (by simpa [bndAt] using h0) (by simpa [bndAt] using h1) (by simpa [bndAt] using hnc) hnc (hbk hq hz)
      simp only [bndAt, Int.toNat_natCast] at this
      show AOp P σ o A (.value (.slice (cond z none (some ⟨q, ofs c l.toNat oo * sz, none⟩)) _ _)) A
      unfold ofs
      by_cases hne : c = l.toNat
      · rw [if_pos hne]; simpa [hne] using this
      · rw [if_neg hne]; simpa [hne, cond_map, low h0] using this
    · rename_i kk l kk' h'
      cases h
      obtain ⟨hq, hz, hnc, h0, h1, h2, _⟩ := hps
      have := aop_sliceG hρ (A := A) ho hx' hu (tsz_ok ht) hlo hhi (by simpa [bndAt] using h0) (by simpa [bndAt] using h1) (by simpa [bndAt] using h2) hnc (hbk hq hz)
      simp only [bndAt] at this
      show AOp P σ o A (.value (.slice (cond z none (some ⟨q, ofs c l.toNat oo * sz, none⟩)) _ _)) A
      unfold ofs
      by_cases hne : c = l.toNat
      · rw [if_pos hne]; simpa [hne] using this
      · rw [if_neg hne]; simpa [hne, cond_map, low h0] using this
  · rename_i s lo' hi' hx hu hlo hhi
    have hx' : σ x = .string s := hρ _ _ hx
    split at h
    · cases h
    · cases h
      obtain ⟨h0, h1, _⟩ := hps
      have := aop_sliceS hρ (A := A) ho hx' hu hlo hhi (by simp [bndAt]) (by simpa [bndAt] using h0) (by simpa [bndAt] using h1)
      simpa [bndAt, SV.den, C1.den] using this
    · cases h
      obtain ⟨h0, h1, _⟩ := hps
      have := aop_sliceS hρ (A := A) ho hx' hu hlo hhi (by simpa [bndAt] using h0) (by simpa [bndAt] using h1) (by simp [bndAt])
      simpa [bndAt, SV.den, C1.den] using this
    · cases h
      obtain ⟨h0, h1, h2, _⟩ := hps
      have := aop_sliceS hρ (A := A) ho hx' hu hlo hhi (by simpa [bndAt] using h0) (by simpa [bndAt] using h1) (by simpa [bndAt] using h2)
      simpa [bndAt, SV.den, C1.den] using this
  · cases h
theorem run_bnds3 {isS : Bool} {len cap : Nat} {kl kh km : IntKind} {l h m : Int} (h1 : 0 ≤ l) (h2 : l ≤ h) (h3 : h ≤ m) (h4 : m ≤ cap) (w : World) :
    (Instr.sliceBounds isS len cap (some (.int kl l)) (some (.int kh h)) (some (.int km m))).run P w = .ok (l.toNat, h.toNat, m.toNat) w := by
  unfold Instr.sliceBounds
  simp only [Sem.run_bind, Sem.run_pure, Result.andThen, Option.isSome_some]
  rw [run_bnd (v := .int km m) rfl (by omega) h4]
  simp only
  rw [run_bnd (v := .int kh h) rfl (by omega) (by omega)]
  simp only
  rw [run_bnd (v := .int kl l) rfl h1 (by omega)]
theorem evSlice3_ok (hρ : RhoOk ρ σ) (hH : (hpA hp).p F A) {t : TypeId} {x lo hi mx : Operand} (ho : o.op = .slice t x (some lo) (some hi) (some mx)) (h : evSlice3 P ρ hp t x lo hi mx = some (v, ps)) (hps : AllP ps) : AOp P σ o A (.value v.den) A := by
  unfold evSlice3 at h
  split at h
  case h_2 => cases h
  rename_i g q w oo n c z e kl l kh hh km m hx hu hlo hhi hmx
  have hx' : σ x = .slice (cond z none (some ⟨q, oo * w, none⟩)) n c := hρ _ _ hx
  split at h
  case h_2 => cases h
  rename_i sz ag ht
  split at h
  case h_2 => cases h
  rename_i c0 hw hf
  obtain rfl := Nat.eq_of_beq_eq_true hw
  split at h
  case h_2 => cases h
  rename_i q' t' z' hc
  split at h
  case h_2 => cases h
  rename_i hce
  cases h
  obtain ⟨hq, hz, hnc, h0, h1, h2, h3, _⟩ := hps
  subst hq; subst hz
  have hbk : ∀ a : Addr, cond z none (some (⟨q, oo * sz, none⟩ : Addr)) = some a → ∃ cs t' fz, A.heap[a.block]? = some (.cells cs t' fz) ∧ fz ≠ (2, 0) ∧ (fz = (1, 0) → P.cellsOf e = P.cellsOf t') := fun a ha => by
    cases z with
    | true => cases ha
    | false =>
      cases ha
      obtain h | ⟨cs, fz, hne, hB⟩ := chT_at hf hc hH
      · cases h
      · exact ⟨cs, t', fz, hB, hne, fun _ => Nat.eq_of_beq_eq_true hce⟩
  refine .inr (.inl ⟨?_, ?_⟩)
  · rw [ho]
    refine ⟨fun a l' c' h' => ?_, fun e' h' => ?_, fun el he a l' c' h' => ?_⟩
    · rw [hx'] at h'; cases h'; exact hnc
    · rw [hu] at h'; cases h'
    · rw [hu] at he; cases he; rw [hx'] at h'
      generalize hb : cond z none (some (⟨q, oo * sz, none⟩ : Addr)) = b at h'
      cases h'
      exact hbk a hb
  · unfold execOp; rw [ho]
    have e1 : σ lo = .int kl l := hρ _ _ hlo
    have e2 : σ hi = .int kh hh := hρ _ _ hhi
    have e3 : σ mx = .int km m := hρ _ _ hmx
    simp only [Instr.sliceAt, Instr.slice, hx', Option.map_some, e1, e2, e3, Sem.run_bind, Sem.run_pure, Result.andThen, run_under hu, run_szT (tsz_ok ht), run_bnds3 h0 h1 h2 h3]
    show _ = Result.ok (Next.value (.slice (cond z none (some ⟨q, ofs m.toNat l.toNat oo * sz, none⟩)) _ _)) A
    unfold ofs
    by_cases hne : m.toNat = l.toNat
    · rw [if_pos hne, if_pos hne]
    · rw [if_neg hne, if_neg hne, cond_map, Nat.add_mul, Nat.add_comm (oo * sz)]
theorem evq_ok {ov : Bool} (hρ : RhoOk ρ σ) (hH : (hpA hp).p F A) (h : evq P ov ρ hp o.op = some (v, ps)) (hps : AllP ps) : AOp P σ o A (.value v.den) A := by
  have mp : ∀ {x : Option SV}, x.map (fun v => (v, ([] : List Ob))) = some (v, ps) → x = some v := fun {x} h => by
    rw [Option.map_eq_some_iff] at h
    obtain ⟨u, hu, e⟩ := h
    cases e; exact hu
  unfold evq at h
  split at h <;> rename_i ho
  · exact aop_mv ho (hρ _ _ (mp h))
  · exact aop_as ho (hρ _ _ (mp h))
  · exact evPick_ok hρ ho h hps
  · exact evLoad_ok hρ hH ho h hps
  · exact evNilCheck_ok hρ ho h
  · exact evBin_ok hρ ho h hps
  · exact evNot_ok hρ ho h
  · exact evConv_ok hρ ho h
  · exact evFieldAddr_ok hρ ho h
  · exact evField_ok hρ ho h
  · exact evIndexAddr_ok hρ ho h hps
  · exact evIndex_ok hρ ho h hps
  · exact evFunc_ok hρ ho h
  · exact evExtract_ok hρ ho h
  · exact evBuild_ok hρ ho h hps
  · exact evSlice_ok hρ hH ho h hps
  · exact evSlice3_ok hρ hH ho h hps
  · split at h <;> rename_i hc
    · exact evLenS_ok hρ ho hc h
    · exact evCap_ok hρ ho hc h
    · exact evMinMax_ok (mn := true) hρ ho hc h hps
    · exact evMinMax_ok (mn := false) hρ ho hc h hps
    · cases h
  · cases h
end
end Go.Abs
/-
  ABS C7: what is made, what is written: told from the text; one step.
-/
namespace Go.Abs
structure St where
  env : List (Nat × SV)
  hp : List Ch
  sz : Nat
  nx : Nat
  ov : Bool := false
  df : List Nat := []
def mkD (q : Nat) : Deferred := { target := .collected q, args := #[] }
def Sat (B : Ft × World) (s : St) (a : Act) (A : World) : Prop := EnvOk s.env a ∧ a.tmps.size = s.sz ∧ a.defers = s.df.map mkD ∧ ∃ F, (hpA s.hp).p F A ∧ Mv B.1 B.2 F A
def putE (s : St) (d : Option Tmp) (v : SV) : Option St := match d with
  | none => some s
  | some d => match Nat.blt d s.sz with
    | true => some { s with env := (d, v) :: rem s.env d }
    | false => none
theorem look_rem : ∀ {l : List (Nat × SV)} {t i : Nat} {v : SV}, look (rem l t) i = some v → i ≠ t ∧ look l i = some v
  | [], t, i, v, h => by cases h
  | (j, u) :: l, t, i, v, h => by
    simp only [rem] at h
    split at h
    · rename_i e
      obtain ⟨h1, h2⟩ := look_rem h
      have := Nat.eq_of_beq_eq_true e
      refine ⟨h1, ?_⟩
      simp only [look]
      rw [show Nat.beq j i = false from by
        cases hb : Nat.beq j i
        · rfl
        · exact absurd (Nat.eq_of_beq_eq_true hb) (by omega)]
      exact h2
    · rename_i e
      simp only [look] at h ⊢
      split at h
      · rename_i e2
        cases h
        have := Nat.eq_of_beq_eq_true e2
        subst this
        refine ⟨fun h => ?_, rfl⟩
        subst h
        rw [Nat.beq_refl] at e; cases e
      · exact look_rem h
theorem EnvOk.put {s : St} {a : Act} {d : Nat} {v : SV} {u : Value} (h : EnvOk s.env a) (hd : d < a.tmps.size) (hu : u = v.den) : EnvOk ((d, v) :: rem s.env d) (a.put (some d) u) := by
  intro i w hi
  have e : (a.put (some d) u).tmps = a.tmps.setIfInBounds d u := rfl
  simp only [look] at hi
  split at hi
  · rename_i e2
    cases hi
    have := Nat.eq_of_beq_eq_true e2
    subst this
    rw [e, Array.getD_eq_getD_getElem?, Array.getElem?_setIfInBounds_self_of_lt hd]
    exact hu
  · obtain ⟨hne, hi⟩ := look_rem hi
    rw [e, Array.getD_eq_getD_getElem?, Array.getElem?_setIfInBounds_ne (fun h => hne h.symm), ← Array.getD_eq_getD_getElem?]
    exact h i w hi
theorem putE_ok {B : Ft × World} {s s1 : St} {a : Act} {A A1 : World} {d : Option Tmp} {v : SV} {u : Value} {hp : List Ch} {nx : Nat} (h : Sat B s a A) (hp1 : ∃ F, (hpA hp).p F A1 ∧ Mv B.1 B.2 F A1) (hs : putE { s with hp := hp, nx := nx } d v = some s1) (hu : u = v.den) : Sat B s1 (a.put d u) A1 ∧ s1.nx = nx ∧ s1.hp = hp := by
  obtain ⟨h1, h2, h3, _⟩ := h
  unfold putE at hs
  cases d with
  | none =>
    cases hs
    exact ⟨⟨h1, h2, h3, hp1⟩, rfl, rfl⟩
  | some d =>
    simp only at hs
    split at hs
    case h_2 => cases hs
    rename_i hb
    cases hs
    have hd : d < s.sz := by
      have := Nat.le_of_ble_eq_true (show Nat.ble (d + 1) s.sz = true from hb)
      exact this
    refine ⟨⟨EnvOk.put h1 (by rw [h2]; exact hd) hu, ?_, h3, hp1⟩, rfl, rfl⟩
    show (a.tmps.setIfInBounds d u).size = _
    rw [Array.size_setIfInBounds]; exact h2
/-- Whether an operation is wanted: yes, no, or as a truth says. -/
inductive Wt where
  | yes | no | may (e : Bool)
def wantS (ops : Array Oper) (env : List (Nat × SV)) (o : Oper) : Option Wt := match o.guard with
  | none => some .yes
  | some (j, b) => match (ops[j]?).bind (·.dst) with
    | none => none
    | some d => match look env d with
      | some (.o (.v (.bool true))) => some (match b with | true => .yes | false => .no)
      | some (.o (.v (.bool false))) => some (match b with | true => .no | false => .yes)
      | some (.o (.v (.tuple _))) => some .no
      | some (.o (.cb e)) => some (.may (sameB b e))
      | some (.kk _ _ e false [c]) => match boolOf c with
        | some x => some (.may (and e (sameB b x)))
        | none => none
      | _ => none
def Wt.ok : Wt → Bool → Prop
  | .yes, b => b = true
  | .no, b => b = false
  | .may e, b => b = e
theorem wantS_ok {ops : Array Oper} {s : St} {B : Ft × World} {a : Act} {A : World} {o : Oper} {b : Wt} (hs : Sat B s a A) (h : wantS ops s.env o = some b) : b.ok (Region.wanted o (yielded ops a.tmps)) := by
  unfold wantS at h
  unfold Region.wanted
  split at h
  · rename_i hg; rw [hg]; cases h; rfl
  · rename_i j w hg
    rw [hg]
    simp only
    split at h
    · cases h
    · rename_i d hd
      have key : ∀ v, look s.env d = some v → yielded ops a.tmps j = match v.den with | .bool b => some b | _ => none := fun v hv => by
        have := hs.1 d v hv
        unfold yielded
        rw [hd, Option.bind_some]
        rw [Array.getD_eq_getD_getElem?] at this
        cases hx : a.tmps[d]? with
        | none =>
          rw [hx] at this
          simp only [Option.getD_none] at this
          rw [← this]
          rfl
        | some x =>
          rw [hx] at this
          simp only [Option.getD_some] at this
          rw [← this]
          cases x <;> rfl
      split at h
      · rename_i hl
        cases h
        rw [key _ hl]
        cases w <;> rfl
      · rename_i hl
        cases h
        rw [key _ hl]
        cases w <;> rfl
      · rename_i hl
        cases h
        rw [key _ hl]
        rfl
      · rename_i e hl
        cases h
        rw [key _ hl]
        cases w <;> cases e <;> rfl
      · rename_i e c hl
        split at h
        case h_2 => cases h
        rename_i x hx
        cases h
        rw [key _ hl]
        have hc := boolOf_den hx
        cases e with
        | false => simp only [SV.den, Bool.false_eq_true, if_false]; rfl
        | true =>
          simp only [SV.den, if_true, compV, List.headD, hc]
          cases w <;> cases x <;> rfl
      · cases h
/-- What is made: its value, its cells, their type. -/
def evMk (P : Program) (ρ : Operand → Option SV) (q g : Nat) : Op → Option (SV × List C1 × TypeId × List Ob)
  | .alloc t => match P.info? t with
    | some i => match i.zero with
      | some z => some (.o (.p g q 0 0 0), z.cells.toList.map C1.v, t, [])
      | none => none
    | none => none
  | .box t x => match ρ x with
    | some v => match v.cells with
      | some l => some (.o (.p g q 0 0 0), l, t, [l.all C1.one = true])
      | none => none
    | none => none
  | .buildSlice t n parts => match P.underlying t with
    | some (.slice e) => match tsz P e, P.info? e with
      | some (sz, _), some i => match i.zero with
        | some z => match Nat.ble (n * sz) 16777216, Nat.beq (n * sz) 0 with
          | true, false => match fillL (fun k => some (k * sz, sz)) ((List.range (n * sz)).map fun k => C1.v (z.cells[k % z.cells.size]!)) (parts.toList.map fun p => (p.1, ρ p.2)) with
            | some (l, ps) => some (.o (.s g q sz 0 n n false), l, e, ps)
            | none => none
          | true, true => match parts.toList with
            | [] => some (.o (.s g q sz 0 n n false), [], e, [])
            | _ => none
          | _, _ => none
        | none => none
      | _, _ => none
    | _ => none
  | _ => none
section
variable {P : Program} {ρ : Operand → Option SV} {σ : Operand → Value} {o : Oper}
theorem evMk_ok (hρ : RhoOk ρ σ) {q g : Nat} {v : SV} {l : List C1} {t : TypeId} {ps : List Ob} (h : evMk P ρ q g o.op = some (v, l, t, ps)) (hps : AllP ps) :
    kindOf o.op = .makes ∧ newVal v.den q ∧ ∀ w : World, w.heap.size = q → RegOk P w σ o.op ∧ (execOp σ o).run P w = .ok (.value v.den) (w.alloc (.cells (cells1 l) t (0, 0))) := by
  have hzc : ∀ z : Value, cells1 (z.cells.toList.map C1.v) = z.cells := fun z => by
    apply Array.ext'
    simp [cells1, Function.comp_def, C1.den]
  have e00 : (⟨q, 0 * 0 + 0, none⟩ : Addr) = ⟨q, 0, none⟩ := rfl
  unfold evMk at h
  split at h
  · rename_i t' ho
    split at h
    case h_2 => cases h
    rename_i i hi
    split at h
    case h_2 => cases h
    rename_i z hz
    cases h
    refine ⟨by rw [ho]; rfl, .inl rfl, fun w hw => ⟨by rw [ho]; trivial, ?_⟩⟩
    unfold execOp; rw [ho, hzc]
    subst hw
    simp only [Instr.alloc, Sem.run_bind, Result.andThen, run_zeroT hi hz, newVar, newRow]
    rfl
  · rename_i t' x ho
    split at h
    case h_2 => cases h
    rename_i u hu
    split at h
    case h_2 => cases h
    rename_i l' hl
    cases h
    obtain ⟨hone, _⟩ := hps
    have hx := hρ _ _ hu
    have hc := SV.cells_den hl hone
    refine ⟨by rw [ho]; rfl, .inl rfl, fun w hw => ⟨by rw [ho]; trivial, ?_⟩⟩
    unfold execOp; rw [ho]
    subst hw
    simp only [hx, Instr.box, newVar, newRow, hc]
    rfl
  · rename_i t' n parts ho
    split at h
    case h_2 => cases h
    rename_i e hu
    split at h
    case h_2 => cases h
    rename_i sz ag i ht hi
    split at h
    case h_2 => cases h
    rename_i z hz
    split at h
    case h_3 => cases h
    · rename_i h1 h2
      split at h
      case h_2 => cases h
      rename_i l' ps' hf
      cases h
      have h1' := Nat.le_of_ble_eq_true h1
      have h2' : ¬ n * sz = 0 := fun e => by rw [e] at h2; cases h2
      refine ⟨by rw [ho]; rfl, .inr (.inl ⟨n, n, ?_⟩), fun w hw => ⟨by rw [ho]; trivial, ?_⟩⟩
      · show Value.slice (some ⟨q, 0 * sz, none⟩) n n = _
        rw [Nat.zero_mul]
      unfold execOp; rw [ho]
      subst hw
      have hpm : (parts.map fun (p : Nat × Operand) => (p.1, σ p.2)).toList = parts.toList.map fun p => (p.1, σ p.2) := by simp
      have := fill_ok (place' := fun k => some (k * sz, sz)) hρ (fun k x hk => hk) hf hps
      have hcz : cells1 ((List.range (n * sz)).map fun k => C1.v (z.cells[k % z.cells.size]!)) = (Array.range (n * sz)).map (z.cells[· % z.cells.size]!) := by
        apply Array.ext'
        simp [cells1, Function.comp_def, C1.den]
      rw [hcz] at this
      simp only [Instr.buildSlice, Sem.run_bind, Result.andThen, run_under hu, run_szT (tsz_ok ht)]
      rw [if_neg (by omega), if_neg h2']
      simp only [Sem.run_bind, Sem.run_pure, Result.andThen, run_zeroT hi hz, hpm, this, newRow]
      show _ = Result.ok (Next.value (Value.slice (some ⟨w.heap.size, 0 * sz, none⟩) n n)) _
      rw [Nat.zero_mul]
      rfl
    · rename_i h1 h2
      split at h
      case h_2 => cases h
      rename_i hp
      cases h
      have h2' : n * sz = 0 := Nat.eq_of_beq_eq_true h2
      refine ⟨by rw [ho]; rfl, .inr (.inl ⟨n, n, ?_⟩), fun w hw => ⟨by rw [ho]; trivial, ?_⟩⟩
      · show Value.slice (some ⟨q, 0 * sz, none⟩) n n = _
        rw [Nat.zero_mul]
      unfold execOp; rw [ho]
      subst hw
      have hpm : (parts.map fun (p : Nat × Operand) => (p.1, σ p.2)).toList = [] := by simp [hp]
      have hr : (Array.range 0 : Array Nat) = #[] := rfl
      simp only [Instr.buildSlice, Sem.run_bind, Sem.run_pure, Result.andThen, run_under hu, run_szT (tsz_ok ht), h2', hpm]
      rw [if_neg (by decide : ¬ 0 > 2 ^ 24)]
      simp only [if_true, Sem.run_bind, Sem.run_pure, Result.andThen, hr, Array.map_empty, Instr.fill]
      show _ = Result.ok (Next.value (Value.slice (some ⟨w.heap.size, 0 * sz, none⟩) n n)) _
      rw [Nat.zero_mul]
      rfl
  · cases h
end
end Go.Abs
/-
  ABS C8: what is written; one operation; some operations.
-/
namespace Go.Abs
section
variable {P : Program} {A : World}
theorem store_runs {q : Nat} {t : TypeId} {fz : Nat × Nat} (hf : fz = (0, 0) ∨ fz = (1, 0)) : ∀ {new : List Value} {a b c : List Value} {off i : Nat} {A : World}, new.all isOne = true → A.heap[q]? = some (.cells (a ++ b ++ c).toArray t fz) → a.length = off + i → b.length = new.length →
    ∃ A', (storeCells ⟨q, off, none⟩ new i).run P A = .ok () A' ∧ A'.heap[q]? = some (.cells (a ++ new ++ c).toArray t fz) ∧ A'.heap.size = A.heap.size ∧ ∀ k, k ≠ q → A'.heap[k]? = A.heap[k]?
  | [], a, b, c, off, i, A, _, h, _, hb => by
    have : b = [] := List.eq_nil_of_length_eq_zero (by simpa using hb)
    subst this
    exact ⟨A, rfl, h, rfl, fun _ _ => rfl⟩
  | v :: new, a, [], c, off, i, A, _, h, _, hb => by simp at hb
  | v :: new, a, w :: b, c, off, i, A, ho, h, ha, hb => by
    simp only [List.all_cons, Bool.and_eq_true] at ho
    have e : (⟨q, off, none⟩ : Addr).add i = ⟨q, a.length, none⟩ := by rw [Addr.add_mk, ha]
    have hcell : A.cell? ⟨q, a.length, none⟩ = some w := by
      simp only [World.cell?, h]
      simp
    have hfr : A.frozen? ⟨q, a.length, none⟩ = false := by
      simp only [World.frozen?, h]
      rcases hf with rfl | rfl <;> simp
    have h1 : (A.setCell ⟨q, a.length, none⟩ v).heap[q]? = some (.cells (a ++ [v] ++ b ++ c).toArray t fz) := by
      show (A.heap.modify q _)[q]? = _
      rw [Array.getElem?_modify, if_pos rfl, h]
      simp [List.set_append_right]
    obtain ⟨A', r, h2, h3, h4⟩ := store_runs (new := new) (a := a ++ [v]) (b := b) (c := c) (off := off) (i := i + 1) hf ho.2 h1 (by simp; omega) (by simpa using hb)
    refine ⟨A', ?_, by simpa using h2, h3.trans set_size, fun k hk => (h4 k hk).trans (set_ne hk)⟩
    simp only [storeCells, Sem.run_bind, e, run_store ho.1 hcell hfr, Result.andThen, r]
end
/-- A block's text, with other cells. -/
def updH : List Ch → Nat → List C1 → List Ch
  | [], _, _ => []
  | .blk g q cs t m :: l, n, cs' => match Nat.beq g n with
    | true => .blk g q cs' t m :: l
    | false => .blk g q cs t m :: updH l n cs'
  | c :: l, n, cs' => c :: updH l n cs'
theorem fnd_own {m : Md} (hm : m.mine = true) : ∀ {l : List Ch} {n g q : Nat} {cs : List C1} {t : TypeId} {F : Ft} {A : World}, fnd l n = some (.blk g q cs t m) → (hpA l).p F A → F.own q
  | [], _, _, _, _, _, _, _, h, _ => by cases h
  | .blk g' q' cs' t' m' :: l, n, g, q, cs, t, F, A, h, ⟨F1, F2, h1, h2, j⟩ => by
    simp only [fnd] at h
    split at h
    · cases h
      exact (j.own q').2 (.inl ((h1.1 q').2 ⟨hm, rfl⟩))
    · exact (j.own q).2 (.inr (fnd_own hm h h2))
  | .vec .. :: l, n, g, q, cs, t, F, A, h, ⟨F1, F2, h1, h2, j⟩ => by
    simp only [fnd] at h
    split at h
    · cases h
    · exact (j.own q).2 (.inr (fnd_own hm h h2))
  | .as _ :: l, n, g, q, cs, t, F, A, h, ⟨F1, F2, h1, h2, j⟩ => (j.own q).2 (.inr (fnd_own hm (show fnd l n = _ from h) h2))
theorem updH_ok {m : Md} (hm : m.mine = true) {A A' : World} {q : Nat} (hk : ∀ k, k ≠ q → A'.heap[k]? = A.heap[k]?) : ∀ {l : List Ch} {n g : Nat} {cs cs' : List C1} {t : TypeId} {F : Ft}, fnd l n = some (.blk g q cs t m) → (∃ fz, m.fz fz ∧ A'.heap[q]? = some (.cells (cells1 cs') t fz)) → (hpA l).p F A → (hpA (updH l n cs')).p F A'
  | [], _, _, _, _, _, _, h, _, _ => by cases h
  | .blk g' q' c0 t' m' :: l, n, g, cs, cs', t, F, h, hB, ⟨F1, F2, h1, h2, j⟩ => by
    simp only [fnd, updH] at h ⊢
    split at h
    · rename_i e
      cases h
      try rw [e]
      refine ⟨F1, F2, ⟨h1.1, h1.2.1, hB⟩, As.loc _ h2 fun b hb => hk b ?_, j⟩
      rintro rfl
      have := (h1.1 b).2 ⟨hm, rfl⟩
      exact hb.elim (j.oo b this) (j.oi b this)
    · rename_i e
      try rw [e]
      have ho := fnd_own hm h h2
      refine ⟨F1, F2, As.loc _ h1 fun b hb => hk b ?_, updH_ok hm hk h hB h2, j⟩
      rintro rfl
      exact hb.elim (fun hb => j.oo b hb ho) (fun hb => j.io b hb ho)
  | .vec (α := α) g' q' w' en d xs t' m' z' :: l, n, g, cs, cs', t, F, h, hB, ⟨F1, F2, h1, h2, j⟩ => by
    simp only [fnd] at h
    split at h
    · cases h
    · have ho := fnd_own hm h h2
      refine ⟨F1, F2, As.loc _ h1 fun b hb => hk b ?_, updH_ok hm hk h hB h2, j⟩
      rintro rfl
      exact hb.elim (fun hb => j.oo b hb ho) (fun hb => j.io b hb ho)
  | .as I :: l, n, g, cs, cs', t, F, h, hB, ⟨F1, F2, h1, h2, j⟩ => by
    have ho := fnd_own hm (show fnd l n = _ from h) h2
    refine ⟨F1, F2, As.loc _ h1 fun b hb => hk b ?_, updH_ok hm hk h hB h2, j⟩
    rintro rfl
    exact hb.elim (fun hb => j.oo b hb ho) (fun hb => j.io b hb ho)
def evStore (P : Program) (ρ : Operand → Option SV) (hp : List Ch) (t : TypeId) (x y : Operand) : Option (List Ch × List Ob) := match ρ x, ρ y, tsz P t with
  | some (.o (.p g q i w k)), some v, some (n, _) => match v.cells, fnd hp g with
    | some l, some (.blk _ q' cs _ m) => match Nat.beq l.length n, Nat.ble (i * w + k + n) cs.length, m.mine with
      | true, true, true => some (updH hp g (putAt cs (i * w + k) l), [q = q', l.all C1.one = true])
      | _, _, _ => none
    | _, _ => none
  | _, _, _ => none
section
variable {P : Program} {ρ : Operand → Option SV} {σ : Operand → Value} {o : Oper} {hp : List Ch} {F : Ft} {A : World}
theorem mine_fz {m : Md} (h : m.mine = true) {fz : Nat × Nat} (k : m.fz fz) : fz = (0, 0) ∨ fz = (1, 0) := by
  cases m
  · exact .inl k
  · exact .inr k
  · cases h
theorem evStore_ok (hρ : RhoOk ρ σ) (hH : (hpA hp).p F A) {t : TypeId} {x y : Operand} (ho : o.op = .store t x y) {hp' : List Ch} {ps : List Ob} (h : evStore P ρ hp t x y = some (hp', ps)) (hps : AllP ps) :
    ∃ A', AOp P σ o A .skip A' ∧ (hpA hp').p F A' ∧ Mv F A F A' ∧ A'.heap.size = A.heap.size := by
  unfold evStore at h
  split at h
  case h_2 => cases h
  rename_i g q i w k v n ag hx hy ht
  split at h
  case h_2 => cases h
  rename_i l g' q' cs t' m hc hf
  split at h
  case h_2 => cases h
  rename_i h1 h2 h3
  cases h
  obtain ⟨rfl, hone, _⟩ := hps
  have h1' := Nat.eq_of_beq_eq_true h1
  have h2' := Nat.le_of_ble_eq_true h2
  obtain ⟨fz, hfz, hB⟩ := blk_at hf hH
  have hs := (fun (m : Nat) => (show cs = cs.take m ++ (cs.drop m).take l.length ++ cs.drop (m + l.length) by
    rw [← List.drop_drop, List.append_assoc, List.take_append_drop, List.take_append_drop])) (i * w + k)
  have hB' : A.heap[q]? = some (.cells ((cs.take (i * w + k)).map C1.den ++ ((cs.drop (i * w + k)).take l.length).map C1.den ++ (cs.drop (i * w + k + l.length)).map C1.den).toArray t' fz) := by
    rw [← List.map_append, ← List.map_append, ← hs]; exact hB
  have hone' : (l.map C1.den).all isOne = true := by
    rw [List.all_eq_true] at hone ⊢
    intro u hu
    obtain ⟨c, hc', rfl⟩ := List.mem_map.1 hu
    exact C1.one_den (hone c hc')
  obtain ⟨A', r, h5, h6, h7⟩ := store_runs (P := P) (new := l.map C1.den) (off := i * w + k) (i := 0) (mine_fz h3 hfz) hone' hB' (by simp; omega) (by simp; omega)
  have hne : ∀ b, ¬ F.own b → b ≠ q := fun b hb e => by subst e; exact hb (fnd_own h3 hf hH)
  refine ⟨A', ?_, updH_ok h3 h7 hf ⟨fz, hfz, ?_⟩ hH, ⟨Nat.le_of_eq h6.symm, fun b _ hn => h7 b (hne b hn), fun b hb => .inl hb, fun b hb => .inr (.inl hb)⟩, h6⟩
  · refine .inr (.inl ⟨by rw [ho]; trivial, ?_⟩)
    unfold execOp; rw [ho]
    have hx' : σ x = .pointer (some ⟨q, i * w + k, none⟩) := hρ _ _ hx
    have hv : v.den.cells = (l.map C1.den).toArray := SV.cells_den hc hone
    simp only [Instr.storeAt, hx', hρ _ _ hy, Instr.sureAddr, Sem.run_bind, Sem.run_pure, Result.andThen, storeVar, run_szT (tsz_ok ht), hv, List.size_toArray, List.length_map, h1']
    rw [if_neg (by simp)]
    simp only [r]
  · rw [h5]
    simp [cells1, putAt]
/-- The temporaries that an operation looks at. -/
def opTmps (op : Op) : List Nat := op.operands.toList.filterMap fun x => match x with
  | .tmp t => some t
  | _ => none
def hasN : List Nat → Nat → Bool
  | [], _ => false
  | i :: l, t => match Nat.beq i t with
    | true => true
    | false => hasN l t
/-- What stands in them behind a condition that holds. -/
def stripX (env : List (Nat × SV)) (ts : List Nat) : Operand → Option SV
  | .tmp t => match hasN ts t, look env t with
    | true, some (.kk _ _ _ ag l) => some (mkv ag l)
    | true, some v => some v
    | _, _ => none
  | x => evX env x
/-- The temporary that an operation stands behind, and what it has to be. -/
def keyS (ops : Array Oper) (o : Oper) : Option (Nat × Bool) := match o.guard with
  | none => none
  | some (j, b) => match (ops[j]?).bind (·.dst) with
    | none => none
    | some d => some (d, b)
def sameK (d : Nat) (kb : Bool) : Option (Nat × Bool) → Bool
  | none => false
  | some (d', b) => match Nat.beq d d' with
    | true => sameB kb b
    | false => false
def stripP (key : Option (Nat × Bool)) (e : Bool) (env : List (Nat × SV)) : List Nat → List Ob
  | [] => []
  | t :: ts => match look env t with
    | some (.kk d kb e' _ _) => match sameK d kb key with
      | true => .q e' e :: stripP key e env ts
      | false => .p (e = true → e' = true) :: stripP key e env ts
    | _ => stripP key e env ts
theorem stripP_at {key : Option (Nat × Bool)} {e : Bool} {env : List (Nat × SV)} : ∀ {ts : List Nat} {t d : Nat} {kb e' ag : Bool} {l : List C1}, AllP (stripP key e env ts) → hasN ts t = true → look env t = some (.kk d kb e' ag l) → e = true → e' = true
  | [], _, _, _, _, _, _, _, h, _, _ => by cases h
  | i :: ts, t, d, kb, e', ag, l, hp, h, hl, he => by
    simp only [hasN] at h
    split at h
    · rename_i hb
      obtain rfl := Nat.eq_of_beq_eq_true hb
      simp only [stripP, hl] at hp
      split at hp
      · rw [hp.1, he]
      · exact hp.1 he
    · simp only [stripP] at hp
      split at hp
      · split at hp
        · exact stripP_at hp.2 h hl he
        · exact stripP_at hp.2 h hl he
      · exact stripP_at hp h hl he
theorem stripX_ok {env : List (Nat × SV)} {a : Act} {ts : List Nat} {key : Option (Nat × Bool)} {e : Bool} (hE : EnvOk env a) (hp : AllP (stripP key e env ts)) (he : e = true) : RhoOk (stripX env ts) a.eval := by
  intro x v hx
  cases x with
  | tmp t =>
    simp only [stripX] at hx
    split at hx
    · rename_i d kb e' ag l h1 h2
      cases hx
      have := hE t _ h2
      simp only [SV.den, stripP_at hp h1 h2 he, if_true] at this
      show a.tmps.getD t undef = _
      rw [this]
      cases ag <;> rfl
    · rename_i h1 h2
      cases hx
      exact hE t _ h2
    · cases hx
  | const y => exact evX_ok hE hx
  | func f => exact evX_ok hE hx
  | global g => exact evX_ok hE hx
def condV (key : Option (Nat × Bool)) (e : Bool) (v : SV) : Option SV := match key, v with
  | some (d, b), .o c => some (.kk d b e false [c])
  | some (d, b), .a l => some (.kk d b e true l)
  | _, _ => none
theorem condV_den {key : Option (Nat × Bool)} {e : Bool} {v v' : SV} (h : condV key e v = some v') : v'.den = if e then v.den else undef := by
  unfold condV at h
  split at h <;> cases h <;> rfl
/-- What an operation's operands are. -/
def rhoOf (ops : Array Oper) (s : St) (o : Oper) : Operand → Option SV := match wantS ops s.env o with
  | some (.may _) => stripX s.env (opTmps o.op)
  | _ => evX s.env
/-- One operation that calls nothing: its value, and the state behind it. -/
def stepS (P : Program) (ops : Array Oper) (s : St) (q : Nat → Nat) (o : Oper) : Option (SV × St × List Ob) := match wantS ops s.env o with
  | none => none
  | some .no => match putE s o.dst (.o (.v undef)) with
    | some s1 => some (.o (.v undef), s1, [])
    | none => none
  | some (.may e) => match kindOf o.op with
    | .quiet => match evq P s.ov (stripX s.env (opTmps o.op)) s.hp o.op with
      | some (v, ps) => match condV (keyS ops o) e v with
        | some v' => match putE s o.dst v' with
          | some s1 => some (v', s1, stripP (keyS ops o) e s.env (opTmps o.op) ++ mayP e ps)
          | none => none
        | none => none
      | none => none
    | _ => none
  | some .yes => match kindOf o.op with
    | .quiet => match evq P s.ov (evX s.env) s.hp o.op with
      | some (v, ps) => match putE s o.dst v with
        | some s1 => some (v, s1, ps)
        | none => none
      | none => none
    | .makes => match evMk P (evX s.env) (q s.nx) s.nx o.op with
      | some (v, l, t, ps) => match putE { s with hp := .blk s.nx (q s.nx) l t .own :: s.hp, nx := s.nx + 1 } o.dst v with
        | some s1 => some (v, s1, ps)
        | none => none
      | none => none
    | .acts => match o.op with
      | .store t x y => match evStore P (evX s.env) s.hp t x y with
        | some (hp', ps) => match putE { s with hp := hp' } o.dst (.o (.v undef)) with
          | some s1 => some (.o (.v undef), s1, ps)
          | none => none
        | none => none
      | _ => none
end
end Go.Abs
