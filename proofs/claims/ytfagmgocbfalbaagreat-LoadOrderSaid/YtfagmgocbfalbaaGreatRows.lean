/-
  No cell of these rows narrows 'for every input' (looked for: loops, veiled, ifaces, maps, wideKeys, modest, calm, conditions, laid).
  DERIVED. THE GIVEN ROWS OF THIS SEAT. 3 by the template 'for every input the law returns true; each argument reads behind the call as it read before'; 0 by the template 'total and deterministic' (their statements: YtfagmgocbfalbaaGreatTotals.lean).
  GIVEN WITH THE SEED: the statements are not yours to turn. If you find one false, say at which input.
  Laid BY PROGRAM, IN A SANDBOX (cutbox-rows.mjs): the forced cells as the released guide's own fill.sh prints them over the translation 216fafb5ebd0fe7c… (all of the seat's roots in one cut). By AI agents, Wed Nov 11 2026. No macro, syntax, notation, axiom, sorry.
-/
import Derived.Test.YtfagmgocbfalbaaGreatChecked
import GoSem.Claim
import GoSem.ClaimJoined
import GoSem.ClaimMapViews
import Derived.JoinedTies
import Derived.KernelRfl
namespace Go.Proofs.YtfagmgocbfalbaaGreat
/- THE CELL 'sum', in the pinned program and in every row, IS THE sha256 OF THE DUMP (.gsa) THAT YtfagmgocbfalbaaGreatProg.lean LOADS. Nothing in Lean hashes anything: it is a label: what it is worth is what the hold of that sum in a sandbox is worth. -/
noncomputable def Tryz.pinned : Pinned := { name := "ytfagmgocbfalbaagreat", sum := "216fafb5ebd0fe7c765ecfb6c8bc9a49c22f3639af958d1d730f48b8c19e0d85", checked := Tryz.checked }
namespace Rows
def none {H : Type} : Left H := { results := [], args := [] }

/-- 'asterismlaw13.BatchNone': WHATEVER THE INPUT: true; the input reads as it did. -/
def batchNoneSpec : ChangeSpec := { name := "batchNone", fn := fun _ => fun
  | [] => { results := [.lit (.bool true)], args := [] }
  | _ => none }
def batchNoneRow : OpenClaim := { program := "ytfagmgocbfalbaagreat", sum := "216fafb5ebd0fe7c765ecfb6c8bc9a49c22f3639af958d1d730f48b8c19e0d85", func := "asterism/asterismlaw13.BatchNone", spec := "batchNone", inPlace := ["internal/bytealg.abigen_runtime_cmpstring", "slices.overlaps[asterism/omap.pair[string, int]]"], unfollowed := true, recurses := true, apart := false }
def BatchNoneSaid : Prop := batchNoneRow.holds Tryz.pinned (OpenSpec.ofChange batchNoneSpec)

/-- ITS FALSE NEIGHBOUR: 'it returns false'. Refute it at one input. -/
def batchNoneWrong : ChangeSpec := { name := "batchNone", fn := fun _ => fun
  | [] => { results := [.lit (.bool false)], args := [] }
  | _ => none }
def BatchNoneWrongFalsely : Prop := batchNoneRow.holds Tryz.pinned (OpenSpec.ofChange batchNoneWrong)

/-- 'asterismlaw15.LoadOrder': WHATEVER THE INPUT: true; the input reads as it did. -/
def loadOrderSpec : ChangeSpec := { name := "loadOrder", fn := fun _ => fun
  | [d1, d2] => { results := [.lit (.bool true)], args := [d1, d2] }
  | _ => none }
def loadOrderRow : OpenClaim := { program := "ytfagmgocbfalbaagreat", sum := "216fafb5ebd0fe7c765ecfb6c8bc9a49c22f3639af958d1d730f48b8c19e0d85", func := "asterism/asterismlaw15.LoadOrder", spec := "loadOrder", inPlace := ["internal/bytealg.abigen_runtime_cmpstring", "slices.overlaps[asterism/omap.pair[string, int]]"], unfollowed := true, recurses := true, apart := false }
def LoadOrderSaid : Prop := loadOrderRow.holds Tryz.pinned (OpenSpec.ofChange loadOrderSpec)

/-- ITS FALSE NEIGHBOUR: 'it returns false'. Refute it at one input. -/
def loadOrderWrong : ChangeSpec := { name := "loadOrder", fn := fun _ => fun
  | [d1, d2] => { results := [.lit (.bool false)], args := [d1, d2] }
  | _ => none }
def LoadOrderWrongFalsely : Prop := loadOrderRow.holds Tryz.pinned (OpenSpec.ofChange loadOrderWrong)

/-- 'asterismlaw16.IndexNone': WHATEVER THE INPUT: true; the input reads as it did. -/
def indexNoneSpec : ChangeSpec := { name := "indexNone", fn := fun _ => fun
  | [] => { results := [.lit (.bool true)], args := [] }
  | _ => none }
def indexNoneRow : OpenClaim := { program := "ytfagmgocbfalbaagreat", sum := "216fafb5ebd0fe7c765ecfb6c8bc9a49c22f3639af958d1d730f48b8c19e0d85", func := "asterism/asterismlaw16.IndexNone", spec := "indexNone", inPlace := ["slices.overlaps[asterism/omap.pair[asterism/api.Value, []int]]", "slices.overlaps[asterism/omap.pair[asterism/api.Value, asterism/bitmap.Map]]", "internal/bytealg.abigen_runtime_cmpstring", "slices.overlaps[asterism/omap.pair[string, int]]"], unfollowed := true, recurses := true, apart := false }
def IndexNoneSaid : Prop := indexNoneRow.holds Tryz.pinned (OpenSpec.ofChange indexNoneSpec)

/-- ITS FALSE NEIGHBOUR: 'it returns false'. Refute it at one input. -/
def indexNoneWrong : ChangeSpec := { name := "indexNone", fn := fun _ => fun
  | [] => { results := [.lit (.bool false)], args := [] }
  | _ => none }
def IndexNoneWrongFalsely : Prop := indexNoneRow.holds Tryz.pinned (OpenSpec.ofChange indexNoneWrong)

/- THE SECOND FORM. 'bulk': how many values and letters a reading holds, each counted each time it is reached (what is shared counts as often as it is met; a slice's spare places count too). A statement '..UptoSaid' is the law's where the arguments, and the package variables that the reading takes, are together of bulk at most 1048576: NARROWER than '..Said'. Prove '..Said' where nothing that the law and all that it calls make is longer than what came in: it says more and counts as full. Else prove '..UptoSaid'. A law counts once. -/
mutual
def uptoBulk {H : Type} : DataW H → Nat
  | .lit (.string bytes) => bytes.length + 1
  | .lit _ => 1
  | .nil => 1
  | .ptr d => uptoBulk d + 1
  | .slice elems spare => uptoBulkAll elems + uptoBulkAll spare + 1
  | .agg parts => uptoBulkAll parts + 1
  | .iface _ d => uptoBulk d + 1
  | .map entries => uptoBulkEntries entries + 1
  | .held _ => 1
def uptoBulkAll {H : Type} : List (DataW H) → Nat
  | [] => 0
  | d :: r => uptoBulk d + uptoBulkAll r
def uptoBulkEntries {H : Type} : List (Lit × DataW H) → Nat
  | [] => 0
  | x :: r => uptoBulkEntry x + uptoBulkEntries r
def uptoBulkEntry {H : Type} : Lit × DataW H → Nat
  | (.string bytes, d) => bytes.length + uptoBulk d + 1
  | (_, d) => uptoBulk d + 1
 end
def uptoSmall : (H : Type) → List (DataW H) → Bool := fun _ ds => decide (uptoBulkAll ds ≤ 1048576)
def OpenSpec.upto (s : _root_.Go.ChangeSpec) : _root_.Go.OpenSpec := { _root_.Go.OpenSpec.ofChange s with cond := some uptoSmall }

/-- 'asterismlaw13.BatchNone', WHERE WHAT IT READS IS OF BULK AT MOST 1048576: true; the input reads as it did. -/
def batchNoneUptoRow : OpenClaim := { program := "ytfagmgocbfalbaagreat", sum := "216fafb5ebd0fe7c765ecfb6c8bc9a49c22f3639af958d1d730f48b8c19e0d85", func := "asterism/asterismlaw13.BatchNone", spec := "batchNone", inPlace := ["internal/bytealg.abigen_runtime_cmpstring", "slices.overlaps[asterism/omap.pair[string, int]]"], unfollowed := true, recurses := true, apart := false, narrowed := true }
def BatchNoneUptoSaid : Prop := batchNoneUptoRow.holds Tryz.pinned (OpenSpec.upto batchNoneSpec)

/-- 'asterismlaw15.LoadOrder', WHERE WHAT IT READS IS OF BULK AT MOST 1048576: true; the input reads as it did. -/
def loadOrderUptoRow : OpenClaim := { program := "ytfagmgocbfalbaagreat", sum := "216fafb5ebd0fe7c765ecfb6c8bc9a49c22f3639af958d1d730f48b8c19e0d85", func := "asterism/asterismlaw15.LoadOrder", spec := "loadOrder", inPlace := ["internal/bytealg.abigen_runtime_cmpstring", "slices.overlaps[asterism/omap.pair[string, int]]"], unfollowed := true, recurses := true, apart := false, narrowed := true }
def LoadOrderUptoSaid : Prop := loadOrderUptoRow.holds Tryz.pinned (OpenSpec.upto loadOrderSpec)

/-- 'asterismlaw16.IndexNone', WHERE WHAT IT READS IS OF BULK AT MOST 1048576: true; the input reads as it did. -/
def indexNoneUptoRow : OpenClaim := { program := "ytfagmgocbfalbaagreat", sum := "216fafb5ebd0fe7c765ecfb6c8bc9a49c22f3639af958d1d730f48b8c19e0d85", func := "asterism/asterismlaw16.IndexNone", spec := "indexNone", inPlace := ["slices.overlaps[asterism/omap.pair[asterism/api.Value, []int]]", "slices.overlaps[asterism/omap.pair[asterism/api.Value, asterism/bitmap.Map]]", "internal/bytealg.abigen_runtime_cmpstring", "slices.overlaps[asterism/omap.pair[string, int]]"], unfollowed := true, recurses := true, apart := false, narrowed := true }
def IndexNoneUptoSaid : Prop := indexNoneUptoRow.holds Tryz.pinned (OpenSpec.upto indexNoneSpec)

end Rows
end Go.Proofs.YtfagmgocbfalbaaGreat
