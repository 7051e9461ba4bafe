/-
  No cell of these rows narrows 'for every input' (looked for: loops, veiled, ifaces, maps, wideKeys, modest, calm, conditions, laid).
  DERIVED. THE GIVEN ROWS OF THIS SEAT. 15 by the template 'for every input the law returns true; each argument reads behind the call as it read before'; 0 by the template 'total and deterministic' (their statements: YtagidoadfajpgaaGreatTotals.lean).
  GIVEN WITH THE SEED: the statements are not yours to turn. If you find one false, say at which input.
  Laid BY PROGRAM, IN A SANDBOX (cutbox-rows.mjs): the forced cells as the released guide's own fill.sh prints them over the translation fc02d59f863fb017… (all of the seat's roots in one cut). By AI agents, Wed Nov 11 2026. No macro, syntax, notation, axiom, sorry.
-/
import Derived.Test.YtagidoadfajpgaaGreatChecked
import GoSem.Claim
import GoSem.ClaimJoined
import GoSem.ClaimMapViews
import Derived.JoinedTies
import Derived.KernelRfl
namespace Go.Proofs.YtagidoadfajpgaaGreat
/- THE CELL 'sum', in the pinned program and in every row, IS THE sha256 OF THE DUMP (.gsa) THAT YtagidoadfajpgaaGreatProg.lean LOADS. Nothing in Lean hashes anything: it is a label: what it is worth is what the hold of that sum in a sandbox is worth. -/
noncomputable def Tryz.pinned : Pinned := { name := "ytagidoadfajpgaagreat", sum := "fc02d59f863fb0171951f1b8b0dd235500ff5845e652227fb3b41ae8269ede6a", checked := Tryz.checked }
namespace Rows
def none {H : Type} : Left H := { results := [], args := [] }

/-- 'asterismlaw12.DataAll': WHATEVER THE INPUT: true; the input reads as it did. -/
def dataAllSpec : ChangeSpec := { name := "dataAll", fn := fun _ => fun
  | [d1, d2, d3, d4] => { results := [.lit (.bool true)], args := [d1, d2, d3, d4] }
  | _ => none }
def dataAllRow : OpenClaim := { program := "ytagidoadfajpgaagreat", sum := "fc02d59f863fb0171951f1b8b0dd235500ff5845e652227fb3b41ae8269ede6a", func := "asterism/asterismlaw12.DataAll", spec := "dataAll", inPlace := ["internal/bytealg.abigen_runtime_cmpstring", "slices.overlaps[asterism/omap.pair[string, int]]"], unfollowed := true, recurses := true, apart := false }
def DataAllSaid : Prop := dataAllRow.holds Tryz.pinned (OpenSpec.ofChange dataAllSpec)

/-- ITS FALSE NEIGHBOUR: 'it returns false'. Refute it at one input. -/
def dataAllWrong : ChangeSpec := { name := "dataAll", fn := fun _ => fun
  | [d1, d2, d3, d4] => { results := [.lit (.bool false)], args := [d1, d2, d3, d4] }
  | _ => none }
def DataAllWrongFalsely : Prop := dataAllRow.holds Tryz.pinned (OpenSpec.ofChange dataAllWrong)

/-- 'asterismlaw12.DataWays': WHATEVER THE INPUT: true; the input reads as it did. -/
def dataWaysSpec : ChangeSpec := { name := "dataWays", fn := fun _ => fun
  | [d] => { results := [.lit (.bool true)], args := [d] }
  | _ => none }
def dataWaysRow : OpenClaim := { program := "ytagidoadfajpgaagreat", sum := "fc02d59f863fb0171951f1b8b0dd235500ff5845e652227fb3b41ae8269ede6a", func := "asterism/asterismlaw12.DataWays", spec := "dataWays", inPlace := ["internal/bytealg.abigen_runtime_cmpstring", "slices.overlaps[asterism/omap.pair[string, int]]"], unfollowed := true, recurses := true, apart := false }
def DataWaysSaid : Prop := dataWaysRow.holds Tryz.pinned (OpenSpec.ofChange dataWaysSpec)

/-- ITS FALSE NEIGHBOUR: 'it returns false'. Refute it at one input. -/
def dataWaysWrong : ChangeSpec := { name := "dataWays", fn := fun _ => fun
  | [d] => { results := [.lit (.bool false)], args := [d] }
  | _ => none }
def DataWaysWrongFalsely : Prop := dataWaysRow.holds Tryz.pinned (OpenSpec.ofChange dataWaysWrong)

/-- 'asterismlaw12.DataCopy': WHATEVER THE INPUT: true; the input reads as it did. -/
def dataCopySpec : ChangeSpec := { name := "dataCopy", fn := fun _ => fun
  | [d1, d2] => { results := [.lit (.bool true)], args := [d1, d2] }
  | _ => none }
def dataCopyRow : OpenClaim := { program := "ytagidoadfajpgaagreat", sum := "fc02d59f863fb0171951f1b8b0dd235500ff5845e652227fb3b41ae8269ede6a", func := "asterism/asterismlaw12.DataCopy", spec := "dataCopy", inPlace := ["internal/bytealg.abigen_runtime_cmpstring", "slices.overlaps[asterism/omap.pair[string, int]]"], unfollowed := true, recurses := true, apart := false }
def DataCopySaid : Prop := dataCopyRow.holds Tryz.pinned (OpenSpec.ofChange dataCopySpec)

/-- ITS FALSE NEIGHBOUR: 'it returns false'. Refute it at one input. -/
def dataCopyWrong : ChangeSpec := { name := "dataCopy", fn := fun _ => fun
  | [d1, d2] => { results := [.lit (.bool false)], args := [d1, d2] }
  | _ => none }
def DataCopyWrongFalsely : Prop := dataCopyRow.holds Tryz.pinned (OpenSpec.ofChange dataCopyWrong)

/-- 'asterismlaw12.DataAdd': WHATEVER THE INPUT: true; the input reads as it did. -/
def dataAddSpec : ChangeSpec := { name := "dataAdd", fn := fun _ => fun
  | [d] => { results := [.lit (.bool true)], args := [d] }
  | _ => none }
def dataAddRow : OpenClaim := { program := "ytagidoadfajpgaagreat", sum := "fc02d59f863fb0171951f1b8b0dd235500ff5845e652227fb3b41ae8269ede6a", func := "asterism/asterismlaw12.DataAdd", spec := "dataAdd", inPlace := ["internal/bytealg.abigen_runtime_cmpstring", "slices.overlaps[asterism/omap.pair[string, int]]"], unfollowed := true, recurses := true, apart := false }
def DataAddSaid : Prop := dataAddRow.holds Tryz.pinned (OpenSpec.ofChange dataAddSpec)

/-- ITS FALSE NEIGHBOUR: 'it returns false'. Refute it at one input. -/
def dataAddWrong : ChangeSpec := { name := "dataAdd", fn := fun _ => fun
  | [d] => { results := [.lit (.bool false)], args := [d] }
  | _ => none }
def DataAddWrongFalsely : Prop := dataAddRow.holds Tryz.pinned (OpenSpec.ofChange dataAddWrong)

/-- 'asterismlaw13.BatchAll': WHATEVER THE INPUT: true; the input reads as it did. -/
def batchAllSpec : ChangeSpec := { name := "batchAll", fn := fun _ => fun
  | [d1, d2] => { results := [.lit (.bool true)], args := [d1, d2] }
  | _ => none }
def batchAllRow : OpenClaim := { program := "ytagidoadfajpgaagreat", sum := "fc02d59f863fb0171951f1b8b0dd235500ff5845e652227fb3b41ae8269ede6a", func := "asterism/asterismlaw13.BatchAll", spec := "batchAll", inPlace := ["internal/bytealg.abigen_runtime_cmpstring", "slices.overlaps[asterism/omap.pair[string, int]]"], unfollowed := true, recurses := true, apart := false }
def BatchAllSaid : Prop := batchAllRow.holds Tryz.pinned (OpenSpec.ofChange batchAllSpec)

/-- ITS FALSE NEIGHBOUR: 'it returns false'. Refute it at one input. -/
def batchAllWrong : ChangeSpec := { name := "batchAll", fn := fun _ => fun
  | [d1, d2] => { results := [.lit (.bool false)], args := [d1, d2] }
  | _ => none }
def BatchAllWrongFalsely : Prop := batchAllRow.holds Tryz.pinned (OpenSpec.ofChange batchAllWrong)

/-- 'asterismlaw13.BatchMany': WHATEVER THE INPUT: true; the input reads as it did. -/
def batchManySpec : ChangeSpec := { name := "batchMany", fn := fun _ => fun
  | [d] => { results := [.lit (.bool true)], args := [d] }
  | _ => none }
def batchManyRow : OpenClaim := { program := "ytagidoadfajpgaagreat", sum := "fc02d59f863fb0171951f1b8b0dd235500ff5845e652227fb3b41ae8269ede6a", func := "asterism/asterismlaw13.BatchMany", spec := "batchMany", inPlace := ["internal/bytealg.abigen_runtime_cmpstring", "slices.overlaps[asterism/omap.pair[string, int]]"], unfollowed := true, recurses := true, apart := false }
def BatchManySaid : Prop := batchManyRow.holds Tryz.pinned (OpenSpec.ofChange batchManySpec)

/-- ITS FALSE NEIGHBOUR: 'it returns false'. Refute it at one input. -/
def batchManyWrong : ChangeSpec := { name := "batchMany", fn := fun _ => fun
  | [d] => { results := [.lit (.bool false)], args := [d] }
  | _ => none }
def BatchManyWrongFalsely : Prop := batchManyRow.holds Tryz.pinned (OpenSpec.ofChange batchManyWrong)

/-- 'asterismlaw14.CheckAll': WHATEVER THE INPUT: true; the input reads as it did. -/
def checkAllSpec : ChangeSpec := { name := "checkAll", fn := fun _ => fun
  | [d] => { results := [.lit (.bool true)], args := [d] }
  | _ => none }
def checkAllRow : OpenClaim := { program := "ytagidoadfajpgaagreat", sum := "fc02d59f863fb0171951f1b8b0dd235500ff5845e652227fb3b41ae8269ede6a", func := "asterism/asterismlaw14.CheckAll", spec := "checkAll", inPlace := ["internal/bytealg.abigen_runtime_cmpstring", "slices.overlaps[asterism/omap.pair[string, int]]"], unfollowed := true, recurses := true, apart := false }
def CheckAllSaid : Prop := checkAllRow.holds Tryz.pinned (OpenSpec.ofChange checkAllSpec)

/-- ITS FALSE NEIGHBOUR: 'it returns false'. Refute it at one input. -/
def checkAllWrong : ChangeSpec := { name := "checkAll", fn := fun _ => fun
  | [d] => { results := [.lit (.bool false)], args := [d] }
  | _ => none }
def CheckAllWrongFalsely : Prop := checkAllRow.holds Tryz.pinned (OpenSpec.ofChange checkAllWrong)

/-- 'asterismlaw14.CheckKinds': WHATEVER THE INPUT: true; the input reads as it did. -/
def checkKindsSpec : ChangeSpec := { name := "checkKinds", fn := fun _ => fun
  | [d1, d2] => { results := [.lit (.bool true)], args := [d1, d2] }
  | _ => none }
def checkKindsRow : OpenClaim := { program := "ytagidoadfajpgaagreat", sum := "fc02d59f863fb0171951f1b8b0dd235500ff5845e652227fb3b41ae8269ede6a", func := "asterism/asterismlaw14.CheckKinds", spec := "checkKinds", inPlace := ["internal/bytealg.abigen_runtime_cmpstring", "slices.overlaps[asterism/omap.pair[string, int]]"], unfollowed := true, recurses := true, apart := false }
def CheckKindsSaid : Prop := checkKindsRow.holds Tryz.pinned (OpenSpec.ofChange checkKindsSpec)

/-- ITS FALSE NEIGHBOUR: 'it returns false'. Refute it at one input. -/
def checkKindsWrong : ChangeSpec := { name := "checkKinds", fn := fun _ => fun
  | [d1, d2] => { results := [.lit (.bool false)], args := [d1, d2] }
  | _ => none }
def CheckKindsWrongFalsely : Prop := checkKindsRow.holds Tryz.pinned (OpenSpec.ofChange checkKindsWrong)

/-- 'asterismlaw14.CheckLimits': WHATEVER THE INPUT: true; the input reads as it did. -/
def checkLimitsSpec : ChangeSpec := { name := "checkLimits", fn := fun _ => fun
  | [d1, d2] => { results := [.lit (.bool true)], args := [d1, d2] }
  | _ => none }
def checkLimitsRow : OpenClaim := { program := "ytagidoadfajpgaagreat", sum := "fc02d59f863fb0171951f1b8b0dd235500ff5845e652227fb3b41ae8269ede6a", func := "asterism/asterismlaw14.CheckLimits", spec := "checkLimits", inPlace := ["internal/bytealg.abigen_runtime_cmpstring", "slices.overlaps[asterism/omap.pair[string, int]]"], unfollowed := true, recurses := true, apart := false }
def CheckLimitsSaid : Prop := checkLimitsRow.holds Tryz.pinned (OpenSpec.ofChange checkLimitsSpec)

/-- ITS FALSE NEIGHBOUR: 'it returns false'. Refute it at one input. -/
def checkLimitsWrong : ChangeSpec := { name := "checkLimits", fn := fun _ => fun
  | [d1, d2] => { results := [.lit (.bool false)], args := [d1, d2] }
  | _ => none }
def CheckLimitsWrongFalsely : Prop := checkLimitsRow.holds Tryz.pinned (OpenSpec.ofChange checkLimitsWrong)

/-- 'asterismlaw14.CheckDeps': WHATEVER THE INPUT: true; the input reads as it did. -/
def checkDepsSpec : ChangeSpec := { name := "checkDeps", fn := fun _ => fun
  | [d1, d2] => { results := [.lit (.bool true)], args := [d1, d2] }
  | _ => none }
def checkDepsRow : OpenClaim := { program := "ytagidoadfajpgaagreat", sum := "fc02d59f863fb0171951f1b8b0dd235500ff5845e652227fb3b41ae8269ede6a", func := "asterism/asterismlaw14.CheckDeps", spec := "checkDeps", inPlace := ["internal/bytealg.abigen_runtime_cmpstring", "slices.overlaps[asterism/omap.pair[string, int]]"], unfollowed := true, recurses := true, apart := false }
def CheckDepsSaid : Prop := checkDepsRow.holds Tryz.pinned (OpenSpec.ofChange checkDepsSpec)

/-- ITS FALSE NEIGHBOUR: 'it returns false'. Refute it at one input. -/
def checkDepsWrong : ChangeSpec := { name := "checkDeps", fn := fun _ => fun
  | [d1, d2] => { results := [.lit (.bool false)], args := [d1, d2] }
  | _ => none }
def CheckDepsWrongFalsely : Prop := checkDepsRow.holds Tryz.pinned (OpenSpec.ofChange checkDepsWrong)

/-- 'asterismlaw14.CheckKeys': WHATEVER THE INPUT: true; the input reads as it did. -/
def checkKeysSpec : ChangeSpec := { name := "checkKeys", fn := fun _ => fun
  | [d] => { results := [.lit (.bool true)], args := [d] }
  | _ => none }
def checkKeysRow : OpenClaim := { program := "ytagidoadfajpgaagreat", sum := "fc02d59f863fb0171951f1b8b0dd235500ff5845e652227fb3b41ae8269ede6a", func := "asterism/asterismlaw14.CheckKeys", spec := "checkKeys", inPlace := ["internal/bytealg.abigen_runtime_cmpstring", "slices.overlaps[asterism/omap.pair[string, int]]"], unfollowed := true, recurses := true, apart := false }
def CheckKeysSaid : Prop := checkKeysRow.holds Tryz.pinned (OpenSpec.ofChange checkKeysSpec)

/-- ITS FALSE NEIGHBOUR: 'it returns false'. Refute it at one input. -/
def checkKeysWrong : ChangeSpec := { name := "checkKeys", fn := fun _ => fun
  | [d] => { results := [.lit (.bool false)], args := [d] }
  | _ => none }
def CheckKeysWrongFalsely : Prop := checkKeysRow.holds Tryz.pinned (OpenSpec.ofChange checkKeysWrong)

/-- 'asterismlaw15.LoadAll': WHATEVER THE INPUT: true; the input reads as it did. -/
def loadAllSpec : ChangeSpec := { name := "loadAll", fn := fun _ => fun
  | [d] => { results := [.lit (.bool true)], args := [d] }
  | _ => none }
def loadAllRow : OpenClaim := { program := "ytagidoadfajpgaagreat", sum := "fc02d59f863fb0171951f1b8b0dd235500ff5845e652227fb3b41ae8269ede6a", func := "asterism/asterismlaw15.LoadAll", spec := "loadAll", inPlace := ["internal/bytealg.abigen_runtime_cmpstring", "slices.overlaps[asterism/omap.pair[string, int]]"], unfollowed := true, recurses := true, apart := false }
def LoadAllSaid : Prop := loadAllRow.holds Tryz.pinned (OpenSpec.ofChange loadAllSpec)

/-- ITS FALSE NEIGHBOUR: 'it returns false'. Refute it at one input. -/
def loadAllWrong : ChangeSpec := { name := "loadAll", fn := fun _ => fun
  | [d] => { results := [.lit (.bool false)], args := [d] }
  | _ => none }
def LoadAllWrongFalsely : Prop := loadAllRow.holds Tryz.pinned (OpenSpec.ofChange loadAllWrong)

/-- 'asterismlaw15.LoadStays': WHATEVER THE INPUT: true; the input reads as it did. -/
def loadStaysSpec : ChangeSpec := { name := "loadStays", fn := fun _ => fun
  | [d1, d2] => { results := [.lit (.bool true)], args := [d1, d2] }
  | _ => none }
def loadStaysRow : OpenClaim := { program := "ytagidoadfajpgaagreat", sum := "fc02d59f863fb0171951f1b8b0dd235500ff5845e652227fb3b41ae8269ede6a", func := "asterism/asterismlaw15.LoadStays", spec := "loadStays", inPlace := ["internal/bytealg.abigen_runtime_cmpstring", "slices.overlaps[asterism/omap.pair[string, int]]"], unfollowed := true, recurses := true, apart := false }
def LoadStaysSaid : Prop := loadStaysRow.holds Tryz.pinned (OpenSpec.ofChange loadStaysSpec)

/-- ITS FALSE NEIGHBOUR: 'it returns false'. Refute it at one input. -/
def loadStaysWrong : ChangeSpec := { name := "loadStays", fn := fun _ => fun
  | [d1, d2] => { results := [.lit (.bool false)], args := [d1, d2] }
  | _ => none }
def LoadStaysWrongFalsely : Prop := loadStaysRow.holds Tryz.pinned (OpenSpec.ofChange loadStaysWrong)

/-- 'asterismlaw15.LoadParts': WHATEVER THE INPUT: true; the input reads as it did. -/
def loadPartsSpec : ChangeSpec := { name := "loadParts", fn := fun _ => fun
  | [d1, d2, d3] => { results := [.lit (.bool true)], args := [d1, d2, d3] }
  | _ => none }
def loadPartsRow : OpenClaim := { program := "ytagidoadfajpgaagreat", sum := "fc02d59f863fb0171951f1b8b0dd235500ff5845e652227fb3b41ae8269ede6a", func := "asterism/asterismlaw15.LoadParts", spec := "loadParts", inPlace := ["internal/bytealg.abigen_runtime_cmpstring", "slices.overlaps[asterism/omap.pair[string, int]]"], unfollowed := true, recurses := true, apart := false }
def LoadPartsSaid : Prop := loadPartsRow.holds Tryz.pinned (OpenSpec.ofChange loadPartsSpec)

/-- ITS FALSE NEIGHBOUR: 'it returns false'. Refute it at one input. -/
def loadPartsWrong : ChangeSpec := { name := "loadParts", fn := fun _ => fun
  | [d1, d2, d3] => { results := [.lit (.bool false)], args := [d1, d2, d3] }
  | _ => none }
def LoadPartsWrongFalsely : Prop := loadPartsRow.holds Tryz.pinned (OpenSpec.ofChange loadPartsWrong)

/-- 'asterismlaw15.LoadNumbers': WHATEVER THE INPUT: true; the input reads as it did. -/
def loadNumbersSpec : ChangeSpec := { name := "loadNumbers", fn := fun _ => fun
  | [d1, d2] => { results := [.lit (.bool true)], args := [d1, d2] }
  | _ => none }
def loadNumbersRow : OpenClaim := { program := "ytagidoadfajpgaagreat", sum := "fc02d59f863fb0171951f1b8b0dd235500ff5845e652227fb3b41ae8269ede6a", func := "asterism/asterismlaw15.LoadNumbers", spec := "loadNumbers", inPlace := ["internal/bytealg.abigen_runtime_cmpstring", "slices.overlaps[asterism/omap.pair[string, int]]"], unfollowed := true, recurses := true, apart := false }
def LoadNumbersSaid : Prop := loadNumbersRow.holds Tryz.pinned (OpenSpec.ofChange loadNumbersSpec)

/-- ITS FALSE NEIGHBOUR: 'it returns false'. Refute it at one input. -/
def loadNumbersWrong : ChangeSpec := { name := "loadNumbers", fn := fun _ => fun
  | [d1, d2] => { results := [.lit (.bool false)], args := [d1, d2] }
  | _ => none }
def LoadNumbersWrongFalsely : Prop := loadNumbersRow.holds Tryz.pinned (OpenSpec.ofChange loadNumbersWrong)

/- THE SECOND FORM. 'bulk': how many values and letters a reading holds, each counted each time it is reached (what is shared counts as often as it is met; a slice's spare places count too). A statement '..UptoSaid' is the law's where the arguments, and the package variables that the reading takes, are together of bulk at most 1048576: NARROWER than '..Said'. Prove '..Said' where nothing that the law and all that it calls make is longer than what came in: it says more and counts as full. Else prove '..UptoSaid'. A law counts once. -/
mutual
def uptoBulk {H : Type} : DataW H → Nat
  | .lit (.string bytes) => bytes.length + 1
  | .lit _ => 1
  | .nil => 1
  | .ptr d => uptoBulk d + 1
  | .slice elems spare => uptoBulkAll elems + uptoBulkAll spare + 1
  | .agg parts => uptoBulkAll parts + 1
  | .iface _ d => uptoBulk d + 1
  | .map entries => uptoBulkEntries entries + 1
  | .held _ => 1
def uptoBulkAll {H : Type} : List (DataW H) → Nat
  | [] => 0
  | d :: r => uptoBulk d + uptoBulkAll r
def uptoBulkEntries {H : Type} : List (Lit × DataW H) → Nat
  | [] => 0
  | x :: r => uptoBulkEntry x + uptoBulkEntries r
def uptoBulkEntry {H : Type} : Lit × DataW H → Nat
  | (.string bytes, d) => bytes.length + uptoBulk d + 1
  | (_, d) => uptoBulk d + 1
 end
def uptoSmall : (H : Type) → List (DataW H) → Bool := fun _ ds => decide (uptoBulkAll ds ≤ 1048576)
def OpenSpec.upto (s : _root_.Go.ChangeSpec) : _root_.Go.OpenSpec := { _root_.Go.OpenSpec.ofChange s with cond := some uptoSmall }

/-- 'asterismlaw12.DataAll', WHERE WHAT IT READS IS OF BULK AT MOST 1048576: true; the input reads as it did. -/
def dataAllUptoRow : OpenClaim := { program := "ytagidoadfajpgaagreat", sum := "fc02d59f863fb0171951f1b8b0dd235500ff5845e652227fb3b41ae8269ede6a", func := "asterism/asterismlaw12.DataAll", spec := "dataAll", inPlace := ["internal/bytealg.abigen_runtime_cmpstring", "slices.overlaps[asterism/omap.pair[string, int]]"], unfollowed := true, recurses := true, apart := false, narrowed := true }
def DataAllUptoSaid : Prop := dataAllUptoRow.holds Tryz.pinned (OpenSpec.upto dataAllSpec)

/-- 'asterismlaw12.DataWays', WHERE WHAT IT READS IS OF BULK AT MOST 1048576: true; the input reads as it did. -/
def dataWaysUptoRow : OpenClaim := { program := "ytagidoadfajpgaagreat", sum := "fc02d59f863fb0171951f1b8b0dd235500ff5845e652227fb3b41ae8269ede6a", func := "asterism/asterismlaw12.DataWays", spec := "dataWays", inPlace := ["internal/bytealg.abigen_runtime_cmpstring", "slices.overlaps[asterism/omap.pair[string, int]]"], unfollowed := true, recurses := true, apart := false, narrowed := true }
def DataWaysUptoSaid : Prop := dataWaysUptoRow.holds Tryz.pinned (OpenSpec.upto dataWaysSpec)

/-- 'asterismlaw12.DataCopy', WHERE WHAT IT READS IS OF BULK AT MOST 1048576: true; the input reads as it did. -/
def dataCopyUptoRow : OpenClaim := { program := "ytagidoadfajpgaagreat", sum := "fc02d59f863fb0171951f1b8b0dd235500ff5845e652227fb3b41ae8269ede6a", func := "asterism/asterismlaw12.DataCopy", spec := "dataCopy", inPlace := ["internal/bytealg.abigen_runtime_cmpstring", "slices.overlaps[asterism/omap.pair[string, int]]"], unfollowed := true, recurses := true, apart := false, narrowed := true }
def DataCopyUptoSaid : Prop := dataCopyUptoRow.holds Tryz.pinned (OpenSpec.upto dataCopySpec)

/-- 'asterismlaw12.DataAdd', WHERE WHAT IT READS IS OF BULK AT MOST 1048576: true; the input reads as it did. -/
def dataAddUptoRow : OpenClaim := { program := "ytagidoadfajpgaagreat", sum := "fc02d59f863fb0171951f1b8b0dd235500ff5845e652227fb3b41ae8269ede6a", func := "asterism/asterismlaw12.DataAdd", spec := "dataAdd", inPlace := ["internal/bytealg.abigen_runtime_cmpstring", "slices.overlaps[asterism/omap.pair[string, int]]"], unfollowed := true, recurses := true, apart := false, narrowed := true }
def DataAddUptoSaid : Prop := dataAddUptoRow.holds Tryz.pinned (OpenSpec.upto dataAddSpec)

/-- 'asterismlaw13.BatchAll', WHERE WHAT IT READS IS OF BULK AT MOST 1048576: true; the input reads as it did. -/
def batchAllUptoRow : OpenClaim := { program := "ytagidoadfajpgaagreat", sum := "fc02d59f863fb0171951f1b8b0dd235500ff5845e652227fb3b41ae8269ede6a", func := "asterism/asterismlaw13.BatchAll", spec := "batchAll", inPlace := ["internal/bytealg.abigen_runtime_cmpstring", "slices.overlaps[asterism/omap.pair[string, int]]"], unfollowed := true, recurses := true, apart := false, narrowed := true }
def BatchAllUptoSaid : Prop := batchAllUptoRow.holds Tryz.pinned (OpenSpec.upto batchAllSpec)

/-- 'asterismlaw13.BatchMany', WHERE WHAT IT READS IS OF BULK AT MOST 1048576: true; the input reads as it did. -/
def batchManyUptoRow : OpenClaim := { program := "ytagidoadfajpgaagreat", sum := "fc02d59f863fb0171951f1b8b0dd235500ff5845e652227fb3b41ae8269ede6a", func := "asterism/asterismlaw13.BatchMany", spec := "batchMany", inPlace := ["internal/bytealg.abigen_runtime_cmpstring", "slices.overlaps[asterism/omap.pair[string, int]]"], unfollowed := true, recurses := true, apart := false, narrowed := true }
def BatchManyUptoSaid : Prop := batchManyUptoRow.holds Tryz.pinned (OpenSpec.upto batchManySpec)

/-- 'asterismlaw14.CheckAll', WHERE WHAT IT READS IS OF BULK AT MOST 1048576: true; the input reads as it did. -/
def checkAllUptoRow : OpenClaim := { program := "ytagidoadfajpgaagreat", sum := "fc02d59f863fb0171951f1b8b0dd235500ff5845e652227fb3b41ae8269ede6a", func := "asterism/asterismlaw14.CheckAll", spec := "checkAll", inPlace := ["internal/bytealg.abigen_runtime_cmpstring", "slices.overlaps[asterism/omap.pair[string, int]]"], unfollowed := true, recurses := true, apart := false, narrowed := true }
def CheckAllUptoSaid : Prop := checkAllUptoRow.holds Tryz.pinned (OpenSpec.upto checkAllSpec)

/-- 'asterismlaw14.CheckKinds', WHERE WHAT IT READS IS OF BULK AT MOST 1048576: true; the input reads as it did. -/
def checkKindsUptoRow : OpenClaim := { program := "ytagidoadfajpgaagreat", sum := "fc02d59f863fb0171951f1b8b0dd235500ff5845e652227fb3b41ae8269ede6a", func := "asterism/asterismlaw14.CheckKinds", spec := "checkKinds", inPlace := ["internal/bytealg.abigen_runtime_cmpstring", "slices.overlaps[asterism/omap.pair[string, int]]"], unfollowed := true, recurses := true, apart := false, narrowed := true }
def CheckKindsUptoSaid : Prop := checkKindsUptoRow.holds Tryz.pinned (OpenSpec.upto checkKindsSpec)

/-- 'asterismlaw14.CheckLimits', WHERE WHAT IT READS IS OF BULK AT MOST 1048576: true; the input reads as it did. -/
def checkLimitsUptoRow : OpenClaim := { program := "ytagidoadfajpgaagreat", sum := "fc02d59f863fb0171951f1b8b0dd235500ff5845e652227fb3b41ae8269ede6a", func := "asterism/asterismlaw14.CheckLimits", spec := "checkLimits", inPlace := ["internal/bytealg.abigen_runtime_cmpstring", "slices.overlaps[asterism/omap.pair[string, int]]"], unfollowed := true, recurses := true, apart := false, narrowed := true }
def CheckLimitsUptoSaid : Prop := checkLimitsUptoRow.holds Tryz.pinned (OpenSpec.upto checkLimitsSpec)

/-- 'asterismlaw14.CheckDeps', WHERE WHAT IT READS IS OF BULK AT MOST 1048576: true; the input reads as it did. -/
def checkDepsUptoRow : OpenClaim := { program := "ytagidoadfajpgaagreat", sum := "fc02d59f863fb0171951f1b8b0dd235500ff5845e652227fb3b41ae8269ede6a", func := "asterism/asterismlaw14.CheckDeps", spec := "checkDeps", inPlace := ["internal/bytealg.abigen_runtime_cmpstring", "slices.overlaps[asterism/omap.pair[string, int]]"], unfollowed := true, recurses := true, apart := false, narrowed := true }
def CheckDepsUptoSaid : Prop := checkDepsUptoRow.holds Tryz.pinned (OpenSpec.upto checkDepsSpec)

/-- 'asterismlaw14.CheckKeys', WHERE WHAT IT READS IS OF BULK AT MOST 1048576: true; the input reads as it did. -/
def checkKeysUptoRow : OpenClaim := { program := "ytagidoadfajpgaagreat", sum := "fc02d59f863fb0171951f1b8b0dd235500ff5845e652227fb3b41ae8269ede6a", func := "asterism/asterismlaw14.CheckKeys", spec := "checkKeys", inPlace := ["internal/bytealg.abigen_runtime_cmpstring", "slices.overlaps[asterism/omap.pair[string, int]]"], unfollowed := true, recurses := true, apart := false, narrowed := true }
def CheckKeysUptoSaid : Prop := checkKeysUptoRow.holds Tryz.pinned (OpenSpec.upto checkKeysSpec)

/-- 'asterismlaw15.LoadAll', WHERE WHAT IT READS IS OF BULK AT MOST 1048576: true; the input reads as it did. -/
def loadAllUptoRow : OpenClaim := { program := "ytagidoadfajpgaagreat", sum := "fc02d59f863fb0171951f1b8b0dd235500ff5845e652227fb3b41ae8269ede6a", func := "asterism/asterismlaw15.LoadAll", spec := "loadAll", inPlace := ["internal/bytealg.abigen_runtime_cmpstring", "slices.overlaps[asterism/omap.pair[string, int]]"], unfollowed := true, recurses := true, apart := false, narrowed := true }
def LoadAllUptoSaid : Prop := loadAllUptoRow.holds Tryz.pinned (OpenSpec.upto loadAllSpec)

/-- 'asterismlaw15.LoadStays', WHERE WHAT IT READS IS OF BULK AT MOST 1048576: true; the input reads as it did. -/
def loadStaysUptoRow : OpenClaim := { program := "ytagidoadfajpgaagreat", sum := "fc02d59f863fb0171951f1b8b0dd235500ff5845e652227fb3b41ae8269ede6a", func := "asterism/asterismlaw15.LoadStays", spec := "loadStays", inPlace := ["internal/bytealg.abigen_runtime_cmpstring", "slices.overlaps[asterism/omap.pair[string, int]]"], unfollowed := true, recurses := true, apart := false, narrowed := true }
def LoadStaysUptoSaid : Prop := loadStaysUptoRow.holds Tryz.pinned (OpenSpec.upto loadStaysSpec)

/-- 'asterismlaw15.LoadParts', WHERE WHAT IT READS IS OF BULK AT MOST 1048576: true; the input reads as it did. -/
def loadPartsUptoRow : OpenClaim := { program := "ytagidoadfajpgaagreat", sum := "fc02d59f863fb0171951f1b8b0dd235500ff5845e652227fb3b41ae8269ede6a", func := "asterism/asterismlaw15.LoadParts", spec := "loadParts", inPlace := ["internal/bytealg.abigen_runtime_cmpstring", "slices.overlaps[asterism/omap.pair[string, int]]"], unfollowed := true, recurses := true, apart := false, narrowed := true }
def LoadPartsUptoSaid : Prop := loadPartsUptoRow.holds Tryz.pinned (OpenSpec.upto loadPartsSpec)

/-- 'asterismlaw15.LoadNumbers', WHERE WHAT IT READS IS OF BULK AT MOST 1048576: true; the input reads as it did. -/
def loadNumbersUptoRow : OpenClaim := { program := "ytagidoadfajpgaagreat", sum := "fc02d59f863fb0171951f1b8b0dd235500ff5845e652227fb3b41ae8269ede6a", func := "asterism/asterismlaw15.LoadNumbers", spec := "loadNumbers", inPlace := ["internal/bytealg.abigen_runtime_cmpstring", "slices.overlaps[asterism/omap.pair[string, int]]"], unfollowed := true, recurses := true, apart := false, narrowed := true }
def LoadNumbersUptoSaid : Prop := loadNumbersUptoRow.holds Tryz.pinned (OpenSpec.upto loadNumbersSpec)

end Rows
end Go.Proofs.YtagidoadfajpgaaGreat
