/-
  No cell of these rows narrows 'for every input' (looked for: loops, veiled, ifaces, maps, wideKeys, modest, calm, conditions, laid).
  DERIVED. THE GIVEN ROWS OF THIS SEAT. 5 by the template 'for every input the law returns true; each argument reads behind the call as it read before'; 0 by the template 'total and deterministic' (their statements: YtmejmbidpoocoaaGreatTotals.lean).
  GIVEN WITH THE SEED: the statements are not yours to turn. If you find one false, say at which input.
  Laid BY PROGRAM, IN A SANDBOX (cutbox-rows.mjs): the forced cells as the released guide's own fill.sh prints them over the translation 9e30352a5b379428… (all of the seat's roots in one cut). By AI agents, Wed Nov 11 2026. No macro, syntax, notation, axiom, sorry.
-/
import Derived.Test.YtmejmbidpoocoaaGreatChecked
import GoSem.Claim
import GoSem.ClaimJoined
import GoSem.ClaimMapViews
import Derived.JoinedTies
import Derived.KernelRfl
namespace Go.Proofs.YtmejmbidpoocoaaGreat
/- THE CELL 'sum', in the pinned program and in every row, IS THE sha256 OF THE DUMP (.gsa) THAT YtmejmbidpoocoaaGreatProg.lean LOADS. Nothing in Lean hashes anything: it is a label: what it is worth is what the hold of that sum in a sandbox is worth. -/
noncomputable def Tryz.pinned : Pinned := { name := "ytmejmbidpoocoaagreat", sum := "9e30352a5b37942817116e3e19ee357b93d52e8f5455726a84e2d1593aabb81e", checked := Tryz.checked }
namespace Rows
def none {H : Type} : Left H := { results := [], args := [] }

/-- 'asterismlaw12.DataAll': WHATEVER THE INPUT: true; the input reads as it did. -/
def dataAllSpec : ChangeSpec := { name := "dataAll", fn := fun _ => fun
  | [d1, d2, d3, d4] => { results := [.lit (.bool true)], args := [d1, d2, d3, d4] }
  | _ => none }
def dataAllRow : OpenClaim := { program := "ytmejmbidpoocoaagreat", sum := "9e30352a5b37942817116e3e19ee357b93d52e8f5455726a84e2d1593aabb81e", func := "asterism/asterismlaw12.DataAll", spec := "dataAll", inPlace := ["internal/bytealg.abigen_runtime_cmpstring", "slices.overlaps[asterism/omap.pair[string, int]]"], unfollowed := true, recurses := true, apart := false }
def DataAllSaid : Prop := dataAllRow.holds Tryz.pinned (OpenSpec.ofChange dataAllSpec)

/-- ITS FALSE NEIGHBOUR: 'it returns false'. Refute it at one input. -/
def dataAllWrong : ChangeSpec := { name := "dataAll", fn := fun _ => fun
  | [d1, d2, d3, d4] => { results := [.lit (.bool false)], args := [d1, d2, d3, d4] }
  | _ => none }
def DataAllWrongFalsely : Prop := dataAllRow.holds Tryz.pinned (OpenSpec.ofChange dataAllWrong)

/-- 'asterismlaw12.DataWays': WHATEVER THE INPUT: true; the input reads as it did. -/
def dataWaysSpec : ChangeSpec := { name := "dataWays", fn := fun _ => fun
  | [d] => { results := [.lit (.bool true)], args := [d] }
  | _ => none }
def dataWaysRow : OpenClaim := { program := "ytmejmbidpoocoaagreat", sum := "9e30352a5b37942817116e3e19ee357b93d52e8f5455726a84e2d1593aabb81e", func := "asterism/asterismlaw12.DataWays", spec := "dataWays", inPlace := ["internal/bytealg.abigen_runtime_cmpstring", "slices.overlaps[asterism/omap.pair[string, int]]"], unfollowed := true, recurses := true, apart := false }
def DataWaysSaid : Prop := dataWaysRow.holds Tryz.pinned (OpenSpec.ofChange dataWaysSpec)

/-- ITS FALSE NEIGHBOUR: 'it returns false'. Refute it at one input. -/
def dataWaysWrong : ChangeSpec := { name := "dataWays", fn := fun _ => fun
  | [d] => { results := [.lit (.bool false)], args := [d] }
  | _ => none }
def DataWaysWrongFalsely : Prop := dataWaysRow.holds Tryz.pinned (OpenSpec.ofChange dataWaysWrong)

/-- 'asterismlaw12.DataCopy': WHATEVER THE INPUT: true; the input reads as it did. -/
def dataCopySpec : ChangeSpec := { name := "dataCopy", fn := fun _ => fun
  | [d1, d2] => { results := [.lit (.bool true)], args := [d1, d2] }
  | _ => none }
def dataCopyRow : OpenClaim := { program := "ytmejmbidpoocoaagreat", sum := "9e30352a5b37942817116e3e19ee357b93d52e8f5455726a84e2d1593aabb81e", func := "asterism/asterismlaw12.DataCopy", spec := "dataCopy", inPlace := ["internal/bytealg.abigen_runtime_cmpstring", "slices.overlaps[asterism/omap.pair[string, int]]"], unfollowed := true, recurses := true, apart := false }
def DataCopySaid : Prop := dataCopyRow.holds Tryz.pinned (OpenSpec.ofChange dataCopySpec)

/-- ITS FALSE NEIGHBOUR: 'it returns false'. Refute it at one input. -/
def dataCopyWrong : ChangeSpec := { name := "dataCopy", fn := fun _ => fun
  | [d1, d2] => { results := [.lit (.bool false)], args := [d1, d2] }
  | _ => none }
def DataCopyWrongFalsely : Prop := dataCopyRow.holds Tryz.pinned (OpenSpec.ofChange dataCopyWrong)

/-- 'asterismlaw12.DataAdd': WHATEVER THE INPUT: true; the input reads as it did. -/
def dataAddSpec : ChangeSpec := { name := "dataAdd", fn := fun _ => fun
  | [d] => { results := [.lit (.bool true)], args := [d] }
  | _ => none }
def dataAddRow : OpenClaim := { program := "ytmejmbidpoocoaagreat", sum := "9e30352a5b37942817116e3e19ee357b93d52e8f5455726a84e2d1593aabb81e", func := "asterism/asterismlaw12.DataAdd", spec := "dataAdd", inPlace := ["internal/bytealg.abigen_runtime_cmpstring", "slices.overlaps[asterism/omap.pair[string, int]]"], unfollowed := true, recurses := true, apart := false }
def DataAddSaid : Prop := dataAddRow.holds Tryz.pinned (OpenSpec.ofChange dataAddSpec)

/-- ITS FALSE NEIGHBOUR: 'it returns false'. Refute it at one input. -/
def dataAddWrong : ChangeSpec := { name := "dataAdd", fn := fun _ => fun
  | [d] => { results := [.lit (.bool false)], args := [d] }
  | _ => none }
def DataAddWrongFalsely : Prop := dataAddRow.holds Tryz.pinned (OpenSpec.ofChange dataAddWrong)

/-- 'asterismlaw12.DataNone': WHATEVER THE INPUT: true; the input reads as it did. -/
def dataNoneSpec : ChangeSpec := { name := "dataNone", fn := fun _ => fun
  | [] => { results := [.lit (.bool true)], args := [] }
  | _ => none }
def dataNoneRow : OpenClaim := { program := "ytmejmbidpoocoaagreat", sum := "9e30352a5b37942817116e3e19ee357b93d52e8f5455726a84e2d1593aabb81e", func := "asterism/asterismlaw12.DataNone", spec := "dataNone", inPlace := ["internal/bytealg.abigen_runtime_cmpstring", "slices.overlaps[asterism/omap.pair[string, int]]"], unfollowed := true, recurses := true, apart := false }
def DataNoneSaid : Prop := dataNoneRow.holds Tryz.pinned (OpenSpec.ofChange dataNoneSpec)

/-- ITS FALSE NEIGHBOUR: 'it returns false'. Refute it at one input. -/
def dataNoneWrong : ChangeSpec := { name := "dataNone", fn := fun _ => fun
  | [] => { results := [.lit (.bool false)], args := [] }
  | _ => none }
def DataNoneWrongFalsely : Prop := dataNoneRow.holds Tryz.pinned (OpenSpec.ofChange dataNoneWrong)

/- THE SECOND FORM. 'bulk': how many values and letters a reading holds, each counted each time it is reached (what is shared counts as often as it is met; a slice's spare places count too). A statement '..UptoSaid' is the law's where the arguments, and the package variables that the reading takes, are together of bulk at most 1048576: NARROWER than '..Said'. Prove '..Said' where nothing that the law and all that it calls make is longer than what came in: it says more and counts as full. Else prove '..UptoSaid'. A law counts once. -/
mutual
def uptoBulk {H : Type} : DataW H → Nat
  | .lit (.string bytes) => bytes.length + 1
  | .lit _ => 1
  | .nil => 1
  | .ptr d => uptoBulk d + 1
  | .slice elems spare => uptoBulkAll elems + uptoBulkAll spare + 1
  | .agg parts => uptoBulkAll parts + 1
  | .iface _ d => uptoBulk d + 1
  | .map entries => uptoBulkEntries entries + 1
  | .held _ => 1
def uptoBulkAll {H : Type} : List (DataW H) → Nat
  | [] => 0
  | d :: r => uptoBulk d + uptoBulkAll r
def uptoBulkEntries {H : Type} : List (Lit × DataW H) → Nat
  | [] => 0
  | x :: r => uptoBulkEntry x + uptoBulkEntries r
def uptoBulkEntry {H : Type} : Lit × DataW H → Nat
  | (.string bytes, d) => bytes.length + uptoBulk d + 1
  | (_, d) => uptoBulk d + 1
 end
def uptoSmall : (H : Type) → List (DataW H) → Bool := fun _ ds => decide (uptoBulkAll ds ≤ 1048576)
def OpenSpec.upto (s : _root_.Go.ChangeSpec) : _root_.Go.OpenSpec := { _root_.Go.OpenSpec.ofChange s with cond := some uptoSmall }

/-- 'asterismlaw12.DataAll', WHERE WHAT IT READS IS OF BULK AT MOST 1048576: true; the input reads as it did. -/
def dataAllUptoRow : OpenClaim := { program := "ytmejmbidpoocoaagreat", sum := "9e30352a5b37942817116e3e19ee357b93d52e8f5455726a84e2d1593aabb81e", func := "asterism/asterismlaw12.DataAll", spec := "dataAll", inPlace := ["internal/bytealg.abigen_runtime_cmpstring", "slices.overlaps[asterism/omap.pair[string, int]]"], unfollowed := true, recurses := true, apart := false, narrowed := true }
def DataAllUptoSaid : Prop := dataAllUptoRow.holds Tryz.pinned (OpenSpec.upto dataAllSpec)

/-- 'asterismlaw12.DataWays', WHERE WHAT IT READS IS OF BULK AT MOST 1048576: true; the input reads as it did. -/
def dataWaysUptoRow : OpenClaim := { program := "ytmejmbidpoocoaagreat", sum := "9e30352a5b37942817116e3e19ee357b93d52e8f5455726a84e2d1593aabb81e", func := "asterism/asterismlaw12.DataWays", spec := "dataWays", inPlace := ["internal/bytealg.abigen_runtime_cmpstring", "slices.overlaps[asterism/omap.pair[string, int]]"], unfollowed := true, recurses := true, apart := false, narrowed := true }
def DataWaysUptoSaid : Prop := dataWaysUptoRow.holds Tryz.pinned (OpenSpec.upto dataWaysSpec)

/-- 'asterismlaw12.DataCopy', WHERE WHAT IT READS IS OF BULK AT MOST 1048576: true; the input reads as it did. -/
def dataCopyUptoRow : OpenClaim := { program := "ytmejmbidpoocoaagreat", sum := "9e30352a5b37942817116e3e19ee357b93d52e8f5455726a84e2d1593aabb81e", func := "asterism/asterismlaw12.DataCopy", spec := "dataCopy", inPlace := ["internal/bytealg.abigen_runtime_cmpstring", "slices.overlaps[asterism/omap.pair[string, int]]"], unfollowed := true, recurses := true, apart := false, narrowed := true }
def DataCopyUptoSaid : Prop := dataCopyUptoRow.holds Tryz.pinned (OpenSpec.upto dataCopySpec)

/-- 'asterismlaw12.DataAdd', WHERE WHAT IT READS IS OF BULK AT MOST 1048576: true; the input reads as it did. -/
def dataAddUptoRow : OpenClaim := { program := "ytmejmbidpoocoaagreat", sum := "9e30352a5b37942817116e3e19ee357b93d52e8f5455726a84e2d1593aabb81e", func := "asterism/asterismlaw12.DataAdd", spec := "dataAdd", inPlace := ["internal/bytealg.abigen_runtime_cmpstring", "slices.overlaps[asterism/omap.pair[string, int]]"], unfollowed := true, recurses := true, apart := false, narrowed := true }
def DataAddUptoSaid : Prop := dataAddUptoRow.holds Tryz.pinned (OpenSpec.upto dataAddSpec)

/-- 'asterismlaw12.DataNone', WHERE WHAT IT READS IS OF BULK AT MOST 1048576: true; the input reads as it did. -/
def dataNoneUptoRow : OpenClaim := { program := "ytmejmbidpoocoaagreat", sum := "9e30352a5b37942817116e3e19ee357b93d52e8f5455726a84e2d1593aabb81e", func := "asterism/asterismlaw12.DataNone", spec := "dataNone", inPlace := ["internal/bytealg.abigen_runtime_cmpstring", "slices.overlaps[asterism/omap.pair[string, int]]"], unfollowed := true, recurses := true, apart := false, narrowed := true }
def DataNoneUptoSaid : Prop := dataNoneUptoRow.holds Tryz.pinned (OpenSpec.upto dataNoneSpec)

end Rows
end Go.Proofs.YtmejmbidpoocoaaGreat
