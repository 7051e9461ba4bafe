/-
  No cell of these rows narrows 'for every input' (looked for: loops, veiled, ifaces, maps, wideKeys, modest, calm, conditions, laid).
  DERIVED. THE GIVEN ROWS OF THIS SEAT. 6 by the template 'for every input the law returns true; each argument reads behind the call as it read before'; 0 by the template 'total and deterministic' (their statements: YtfkdkfleaiaoiaaTotals.lean).
  GIVEN WITH THE SEED: the statements are not yours to turn. If you find one false, say at which input.
  Laid BY PROGRAM, IN A SANDBOX (cutbox-rows.mjs): the forced cells as the released guide's own fill.sh prints them over the translation 010a426d2d3ab88b… (all of the seat's roots in one cut). By AI agents, Wed Nov 11 2026. No macro, syntax, notation, axiom, sorry.
-/
import Derived.Test.YtfkdkfleaiaoiaaChecked
import GoSem.Claim
import GoSem.ClaimJoined
import GoSem.ClaimMapViews
import Derived.JoinedTies
import Derived.KernelRfl
namespace Go.Proofs.Ytfkdkfleaiaoiaa
/- THE CELL 'sum', in the pinned program and in every row, IS THE sha256 OF THE DUMP (.gsa) THAT YtfkdkfleaiaoiaaProg.lean LOADS. Nothing in Lean hashes anything: it is a label: what it is worth is what the hold of that sum in a sandbox is worth. -/
noncomputable def Try.pinned : Pinned := { name := "ytfkdkfleaiaoiaa", sum := "010a426d2d3ab88b1917f8ea41b2bc438b2ef90409dc7575b53bf51c942bfa09", checked := Try.checked }
namespace Rows
def none {H : Type} : Left H := { results := [], args := [] }

/-- 'asterismlaw7.BitmapAll': WHATEVER THE INPUT: true; the input reads as it did. -/
def bitmapAllSpec : ChangeSpec := { name := "bitmapAll", fn := fun _ => fun
  | [d1, d2, d3] => { results := [.lit (.bool true)], args := [d1, d2, d3] }
  | _ => none }
def bitmapAllRow : OpenClaim := { program := "ytfkdkfleaiaoiaa", sum := "010a426d2d3ab88b1917f8ea41b2bc438b2ef90409dc7575b53bf51c942bfa09", func := "asterism/asterismlaw7.BitmapAll", spec := "bitmapAll", unfollowed := true, recurses := true, apart := false }
def BitmapAllSaid : Prop := bitmapAllRow.holds Try.pinned (OpenSpec.ofChange bitmapAllSpec)

/-- ITS FALSE NEIGHBOUR: 'it returns false'. Refute it at one input. -/
def bitmapAllWrong : ChangeSpec := { name := "bitmapAll", fn := fun _ => fun
  | [d1, d2, d3] => { results := [.lit (.bool false)], args := [d1, d2, d3] }
  | _ => none }
def BitmapAllWrongFalsely : Prop := bitmapAllRow.holds Try.pinned (OpenSpec.ofChange bitmapAllWrong)

/-- 'asterismlaw7.BitmapNot': WHATEVER THE INPUT: true; the input reads as it did. -/
def bitmapNotSpec : ChangeSpec := { name := "bitmapNot", fn := fun _ => fun
  | [d1, d2] => { results := [.lit (.bool true)], args := [d1, d2] }
  | _ => none }
def bitmapNotRow : OpenClaim := { program := "ytfkdkfleaiaoiaa", sum := "010a426d2d3ab88b1917f8ea41b2bc438b2ef90409dc7575b53bf51c942bfa09", func := "asterism/asterismlaw7.BitmapNot", spec := "bitmapNot", unfollowed := true, recurses := true, apart := false }
def BitmapNotSaid : Prop := bitmapNotRow.holds Try.pinned (OpenSpec.ofChange bitmapNotSpec)

/-- ITS FALSE NEIGHBOUR: 'it returns false'. Refute it at one input. -/
def bitmapNotWrong : ChangeSpec := { name := "bitmapNot", fn := fun _ => fun
  | [d1, d2] => { results := [.lit (.bool false)], args := [d1, d2] }
  | _ => none }
def BitmapNotWrongFalsely : Prop := bitmapNotRow.holds Try.pinned (OpenSpec.ofChange bitmapNotWrong)

/-- 'asterismlaw7.BitmapSpan': WHATEVER THE INPUT: true; the input reads as it did. -/
def bitmapSpanSpec : ChangeSpec := { name := "bitmapSpan", fn := fun _ => fun
  | [d1, d2] => { results := [.lit (.bool true)], args := [d1, d2] }
  | _ => none }
def bitmapSpanRow : OpenClaim := { program := "ytfkdkfleaiaoiaa", sum := "010a426d2d3ab88b1917f8ea41b2bc438b2ef90409dc7575b53bf51c942bfa09", func := "asterism/asterismlaw7.BitmapSpan", spec := "bitmapSpan", unfollowed := true, recurses := true, apart := false }
def BitmapSpanSaid : Prop := bitmapSpanRow.holds Try.pinned (OpenSpec.ofChange bitmapSpanSpec)

/-- ITS FALSE NEIGHBOUR: 'it returns false'. Refute it at one input. -/
def bitmapSpanWrong : ChangeSpec := { name := "bitmapSpan", fn := fun _ => fun
  | [d1, d2] => { results := [.lit (.bool false)], args := [d1, d2] }
  | _ => none }
def BitmapSpanWrongFalsely : Prop := bitmapSpanRow.holds Try.pinned (OpenSpec.ofChange bitmapSpanWrong)

/-- 'asterismlaw7.BitmapLaws': WHATEVER THE INPUT: true; the input reads as it did. -/
def bitmapLawsSpec : ChangeSpec := { name := "bitmapLaws", fn := fun _ => fun
  | [d1, d2, d3] => { results := [.lit (.bool true)], args := [d1, d2, d3] }
  | _ => none }
def bitmapLawsRow : OpenClaim := { program := "ytfkdkfleaiaoiaa", sum := "010a426d2d3ab88b1917f8ea41b2bc438b2ef90409dc7575b53bf51c942bfa09", func := "asterism/asterismlaw7.BitmapLaws", spec := "bitmapLaws", unfollowed := true, recurses := true, apart := false }
def BitmapLawsSaid : Prop := bitmapLawsRow.holds Try.pinned (OpenSpec.ofChange bitmapLawsSpec)

/-- ITS FALSE NEIGHBOUR: 'it returns false'. Refute it at one input. -/
def bitmapLawsWrong : ChangeSpec := { name := "bitmapLaws", fn := fun _ => fun
  | [d1, d2, d3] => { results := [.lit (.bool false)], args := [d1, d2, d3] }
  | _ => none }
def BitmapLawsWrongFalsely : Prop := bitmapLawsRow.holds Try.pinned (OpenSpec.ofChange bitmapLawsWrong)

/-- 'asterismlaw7.BitmapRank': WHATEVER THE INPUT: true; the input reads as it did. -/
def bitmapRankSpec : ChangeSpec := { name := "bitmapRank", fn := fun _ => fun
  | [d1, d2, d3] => { results := [.lit (.bool true)], args := [d1, d2, d3] }
  | _ => none }
def bitmapRankRow : OpenClaim := { program := "ytfkdkfleaiaoiaa", sum := "010a426d2d3ab88b1917f8ea41b2bc438b2ef90409dc7575b53bf51c942bfa09", func := "asterism/asterismlaw7.BitmapRank", spec := "bitmapRank", unfollowed := true, recurses := true, apart := false }
def BitmapRankSaid : Prop := bitmapRankRow.holds Try.pinned (OpenSpec.ofChange bitmapRankSpec)

/-- ITS FALSE NEIGHBOUR: 'it returns false'. Refute it at one input. -/
def bitmapRankWrong : ChangeSpec := { name := "bitmapRank", fn := fun _ => fun
  | [d1, d2, d3] => { results := [.lit (.bool false)], args := [d1, d2, d3] }
  | _ => none }
def BitmapRankWrongFalsely : Prop := bitmapRankRow.holds Try.pinned (OpenSpec.ofChange bitmapRankWrong)

/-- 'asterismlaw7.BitmapRuns': WHATEVER THE INPUT: true; the input reads as it did. -/
def bitmapRunsSpec : ChangeSpec := { name := "bitmapRuns", fn := fun _ => fun
  | [d] => { results := [.lit (.bool true)], args := [d] }
  | _ => none }
def bitmapRunsRow : OpenClaim := { program := "ytfkdkfleaiaoiaa", sum := "010a426d2d3ab88b1917f8ea41b2bc438b2ef90409dc7575b53bf51c942bfa09", func := "asterism/asterismlaw7.BitmapRuns", spec := "bitmapRuns", unfollowed := true, recurses := true, apart := false }
def BitmapRunsSaid : Prop := bitmapRunsRow.holds Try.pinned (OpenSpec.ofChange bitmapRunsSpec)

/-- ITS FALSE NEIGHBOUR: 'it returns false'. Refute it at one input. -/
def bitmapRunsWrong : ChangeSpec := { name := "bitmapRuns", fn := fun _ => fun
  | [d] => { results := [.lit (.bool false)], args := [d] }
  | _ => none }
def BitmapRunsWrongFalsely : Prop := bitmapRunsRow.holds Try.pinned (OpenSpec.ofChange bitmapRunsWrong)

/- THE SECOND FORM. 'bulk': how many values and letters a reading holds, each counted each time it is reached (what is shared counts as often as it is met; a slice's spare places count too). A statement '..UptoSaid' is the law's where the arguments, and the package variables that the reading takes, are together of bulk at most 1048576: NARROWER than '..Said'. Prove '..Said' where nothing that the law and all that it calls make is longer than what came in: it says more and counts as full. Else prove '..UptoSaid'. A law counts once. -/
mutual
def uptoBulk {H : Type} : DataW H → Nat
  | .lit (.string bytes) => bytes.length + 1
  | .lit _ => 1
  | .nil => 1
  | .ptr d => uptoBulk d + 1
  | .slice elems spare => uptoBulkAll elems + uptoBulkAll spare + 1
  | .agg parts => uptoBulkAll parts + 1
  | .iface _ d => uptoBulk d + 1
  | .map entries => uptoBulkEntries entries + 1
  | .held _ => 1
def uptoBulkAll {H : Type} : List (DataW H) → Nat
  | [] => 0
  | d :: r => uptoBulk d + uptoBulkAll r
def uptoBulkEntries {H : Type} : List (Lit × DataW H) → Nat
  | [] => 0
  | x :: r => uptoBulkEntry x + uptoBulkEntries r
def uptoBulkEntry {H : Type} : Lit × DataW H → Nat
  | (.string bytes, d) => bytes.length + uptoBulk d + 1
  | (_, d) => uptoBulk d + 1
 end
def uptoSmall : (H : Type) → List (DataW H) → Bool := fun _ ds => decide (uptoBulkAll ds ≤ 1048576)
def OpenSpec.upto (s : _root_.Go.ChangeSpec) : _root_.Go.OpenSpec := { _root_.Go.OpenSpec.ofChange s with cond := some uptoSmall }

/-- 'asterismlaw7.BitmapAll', WHERE WHAT IT READS IS OF BULK AT MOST 1048576: true; the input reads as it did. -/
def bitmapAllUptoRow : OpenClaim := { program := "ytfkdkfleaiaoiaa", sum := "010a426d2d3ab88b1917f8ea41b2bc438b2ef90409dc7575b53bf51c942bfa09", func := "asterism/asterismlaw7.BitmapAll", spec := "bitmapAll", unfollowed := true, recurses := true, apart := false, narrowed := true }
def BitmapAllUptoSaid : Prop := bitmapAllUptoRow.holds Try.pinned (OpenSpec.upto bitmapAllSpec)

/-- 'asterismlaw7.BitmapNot', WHERE WHAT IT READS IS OF BULK AT MOST 1048576: true; the input reads as it did. -/
def bitmapNotUptoRow : OpenClaim := { program := "ytfkdkfleaiaoiaa", sum := "010a426d2d3ab88b1917f8ea41b2bc438b2ef90409dc7575b53bf51c942bfa09", func := "asterism/asterismlaw7.BitmapNot", spec := "bitmapNot", unfollowed := true, recurses := true, apart := false, narrowed := true }
def BitmapNotUptoSaid : Prop := bitmapNotUptoRow.holds Try.pinned (OpenSpec.upto bitmapNotSpec)

/-- 'asterismlaw7.BitmapSpan', WHERE WHAT IT READS IS OF BULK AT MOST 1048576: true; the input reads as it did. -/
def bitmapSpanUptoRow : OpenClaim := { program := "ytfkdkfleaiaoiaa", sum := "010a426d2d3ab88b1917f8ea41b2bc438b2ef90409dc7575b53bf51c942bfa09", func := "asterism/asterismlaw7.BitmapSpan", spec := "bitmapSpan", unfollowed := true, recurses := true, apart := false, narrowed := true }
def BitmapSpanUptoSaid : Prop := bitmapSpanUptoRow.holds Try.pinned (OpenSpec.upto bitmapSpanSpec)

/-- 'asterismlaw7.BitmapLaws', WHERE WHAT IT READS IS OF BULK AT MOST 1048576: true; the input reads as it did. -/
def bitmapLawsUptoRow : OpenClaim := { program := "ytfkdkfleaiaoiaa", sum := "010a426d2d3ab88b1917f8ea41b2bc438b2ef90409dc7575b53bf51c942bfa09", func := "asterism/asterismlaw7.BitmapLaws", spec := "bitmapLaws", unfollowed := true, recurses := true, apart := false, narrowed := true }
def BitmapLawsUptoSaid : Prop := bitmapLawsUptoRow.holds Try.pinned (OpenSpec.upto bitmapLawsSpec)

/-- 'asterismlaw7.BitmapRank', WHERE WHAT IT READS IS OF BULK AT MOST 1048576: true; the input reads as it did. -/
def bitmapRankUptoRow : OpenClaim := { program := "ytfkdkfleaiaoiaa", sum := "010a426d2d3ab88b1917f8ea41b2bc438b2ef90409dc7575b53bf51c942bfa09", func := "asterism/asterismlaw7.BitmapRank", spec := "bitmapRank", unfollowed := true, recurses := true, apart := false, narrowed := true }
def BitmapRankUptoSaid : Prop := bitmapRankUptoRow.holds Try.pinned (OpenSpec.upto bitmapRankSpec)

/-- 'asterismlaw7.BitmapRuns', WHERE WHAT IT READS IS OF BULK AT MOST 1048576: true; the input reads as it did. -/
def bitmapRunsUptoRow : OpenClaim := { program := "ytfkdkfleaiaoiaa", sum := "010a426d2d3ab88b1917f8ea41b2bc438b2ef90409dc7575b53bf51c942bfa09", func := "asterism/asterismlaw7.BitmapRuns", spec := "bitmapRuns", unfollowed := true, recurses := true, apart := false, narrowed := true }
def BitmapRunsUptoSaid : Prop := bitmapRunsUptoRow.holds Try.pinned (OpenSpec.upto bitmapRunsSpec)

end Rows
end Go.Proofs.Ytfkdkfleaiaoiaa
