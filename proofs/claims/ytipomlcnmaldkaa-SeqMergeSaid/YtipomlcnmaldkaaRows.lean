/-
  No cell of these rows narrows 'for every input' (looked for: loops, veiled, ifaces, maps, wideKeys, modest, calm, conditions, laid).
  DERIVED. THE GIVEN ROWS OF THIS SEAT. 5 by the template 'for every input the law returns true; each argument reads behind the call as it read before'; 0 by the template 'total and deterministic' (their statements: YtipomlcnmaldkaaTotals.lean).
  GIVEN WITH THE SEED: the statements are not yours to turn. If you find one false, say at which input.
  Laid BY PROGRAM, IN A SANDBOX (cutbox-rows.mjs): the forced cells as the released guide's own fill.sh prints them over the translation daf0579e0981dc7a… (all of the seat's roots in one cut). By AI agents, Wed Nov 11 2026. No macro, syntax, notation, axiom, sorry.
-/
import Derived.Test.YtipomlcnmaldkaaChecked
import GoSem.Claim
import GoSem.ClaimJoined
import GoSem.ClaimMapViews
import Derived.JoinedTies
import Derived.KernelRfl
namespace Go.Proofs.Ytipomlcnmaldkaa
/- THE CELL 'sum', in the pinned program and in every row, IS THE sha256 OF THE DUMP (.gsa) THAT YtipomlcnmaldkaaProg.lean LOADS. Nothing in Lean hashes anything: it is a label: what it is worth is what the hold of that sum in a sandbox is worth. -/
noncomputable def Try.pinned : Pinned := { name := "ytipomlcnmaldkaa", sum := "daf0579e0981dc7a7f9fbcb608508db8379f24432f94f034ec9cfe8c61ed6218", checked := Try.checked }
namespace Rows
def none {H : Type} : Left H := { results := [], args := [] }

/-- 'asterismlaw3.SeqLazy': WHATEVER THE INPUT: true; the input reads as it did. -/
def seqLazySpec : ChangeSpec := { name := "seqLazy", fn := fun _ => fun
  | [d1, d2] => { results := [.lit (.bool true)], args := [d1, d2] }
  | _ => none }
def seqLazyRow : OpenClaim := { program := "ytipomlcnmaldkaa", sum := "daf0579e0981dc7a7f9fbcb608508db8379f24432f94f034ec9cfe8c61ed6218", func := "asterism/asterismlaw3.SeqLazy", spec := "seqLazy", unfollowed := true, recurses := true, apart := false }
def SeqLazySaid : Prop := seqLazyRow.holds Try.pinned (OpenSpec.ofChange seqLazySpec)

/-- ITS FALSE NEIGHBOUR: 'it returns false'. Refute it at one input. -/
def seqLazyWrong : ChangeSpec := { name := "seqLazy", fn := fun _ => fun
  | [d1, d2] => { results := [.lit (.bool false)], args := [d1, d2] }
  | _ => none }
def SeqLazyWrongFalsely : Prop := seqLazyRow.holds Try.pinned (OpenSpec.ofChange seqLazyWrong)

/-- 'asterismlaw3.SeqMerge': WHATEVER THE INPUT: true; the input reads as it did. -/
def seqMergeSpec : ChangeSpec := { name := "seqMerge", fn := fun _ => fun
  | [d1, d2] => { results := [.lit (.bool true)], args := [d1, d2] }
  | _ => none }
def seqMergeRow : OpenClaim := { program := "ytipomlcnmaldkaa", sum := "daf0579e0981dc7a7f9fbcb608508db8379f24432f94f034ec9cfe8c61ed6218", func := "asterism/asterismlaw3.SeqMerge", spec := "seqMerge", unfollowed := true, recurses := true, apart := false }
def SeqMergeSaid : Prop := seqMergeRow.holds Try.pinned (OpenSpec.ofChange seqMergeSpec)

/-- ITS FALSE NEIGHBOUR: 'it returns false'. Refute it at one input. -/
def seqMergeWrong : ChangeSpec := { name := "seqMerge", fn := fun _ => fun
  | [d1, d2] => { results := [.lit (.bool false)], args := [d1, d2] }
  | _ => none }
def SeqMergeWrongFalsely : Prop := seqMergeRow.holds Try.pinned (OpenSpec.ofChange seqMergeWrong)

/-- 'asterismlaw3.SeqTwice': WHATEVER THE INPUT: true; the input reads as it did. -/
def seqTwiceSpec : ChangeSpec := { name := "seqTwice", fn := fun _ => fun
  | [d1, d2, d3] => { results := [.lit (.bool true)], args := [d1, d2, d3] }
  | _ => none }
def seqTwiceRow : OpenClaim := { program := "ytipomlcnmaldkaa", sum := "daf0579e0981dc7a7f9fbcb608508db8379f24432f94f034ec9cfe8c61ed6218", func := "asterism/asterismlaw3.SeqTwice", spec := "seqTwice", unfollowed := true, recurses := true, apart := false }
def SeqTwiceSaid : Prop := seqTwiceRow.holds Try.pinned (OpenSpec.ofChange seqTwiceSpec)

/-- ITS FALSE NEIGHBOUR: 'it returns false'. Refute it at one input. -/
def seqTwiceWrong : ChangeSpec := { name := "seqTwice", fn := fun _ => fun
  | [d1, d2, d3] => { results := [.lit (.bool false)], args := [d1, d2, d3] }
  | _ => none }
def SeqTwiceWrongFalsely : Prop := seqTwiceRow.holds Try.pinned (OpenSpec.ofChange seqTwiceWrong)

/-- 'asterismlaw3.SeqAll': WHATEVER THE INPUT: true; the input reads as it did. -/
def seqAllSpec : ChangeSpec := { name := "seqAll", fn := fun _ => fun
  | [d1, d2, d3, d4] => { results := [.lit (.bool true)], args := [d1, d2, d3, d4] }
  | _ => none }
def seqAllRow : OpenClaim := { program := "ytipomlcnmaldkaa", sum := "daf0579e0981dc7a7f9fbcb608508db8379f24432f94f034ec9cfe8c61ed6218", func := "asterism/asterismlaw3.SeqAll", spec := "seqAll", unfollowed := true, recurses := true, apart := false }
def SeqAllSaid : Prop := seqAllRow.holds Try.pinned (OpenSpec.ofChange seqAllSpec)

/-- ITS FALSE NEIGHBOUR: 'it returns false'. Refute it at one input. -/
def seqAllWrong : ChangeSpec := { name := "seqAll", fn := fun _ => fun
  | [d1, d2, d3, d4] => { results := [.lit (.bool false)], args := [d1, d2, d3, d4] }
  | _ => none }
def SeqAllWrongFalsely : Prop := seqAllRow.holds Try.pinned (OpenSpec.ofChange seqAllWrong)

/-- 'asterismlaw3.SeqNone': WHATEVER THE INPUT: true; the input reads as it did. -/
def seqNoneSpec : ChangeSpec := { name := "seqNone", fn := fun _ => fun
  | [] => { results := [.lit (.bool true)], args := [] }
  | _ => none }
def seqNoneRow : OpenClaim := { program := "ytipomlcnmaldkaa", sum := "daf0579e0981dc7a7f9fbcb608508db8379f24432f94f034ec9cfe8c61ed6218", func := "asterism/asterismlaw3.SeqNone", spec := "seqNone", unfollowed := true, recurses := true, apart := false }
def SeqNoneSaid : Prop := seqNoneRow.holds Try.pinned (OpenSpec.ofChange seqNoneSpec)

/-- ITS FALSE NEIGHBOUR: 'it returns false'. Refute it at one input. -/
def seqNoneWrong : ChangeSpec := { name := "seqNone", fn := fun _ => fun
  | [] => { results := [.lit (.bool false)], args := [] }
  | _ => none }
def SeqNoneWrongFalsely : Prop := seqNoneRow.holds Try.pinned (OpenSpec.ofChange seqNoneWrong)

/- THE SECOND FORM. 'bulk': how many values and letters a reading holds, each counted each time it is reached (what is shared counts as often as it is met; a slice's spare places count too). A statement '..UptoSaid' is the law's where the arguments, and the package variables that the reading takes, are together of bulk at most 1048576: NARROWER than '..Said'. Prove '..Said' where nothing that the law and all that it calls make is longer than what came in: it says more and counts as full. Else prove '..UptoSaid'. A law counts once. -/
mutual
def uptoBulk {H : Type} : DataW H → Nat
  | .lit (.string bytes) => bytes.length + 1
  | .lit _ => 1
  | .nil => 1
  | .ptr d => uptoBulk d + 1
  | .slice elems spare => uptoBulkAll elems + uptoBulkAll spare + 1
  | .agg parts => uptoBulkAll parts + 1
  | .iface _ d => uptoBulk d + 1
  | .map entries => uptoBulkEntries entries + 1
  | .held _ => 1
def uptoBulkAll {H : Type} : List (DataW H) → Nat
  | [] => 0
  | d :: r => uptoBulk d + uptoBulkAll r
def uptoBulkEntries {H : Type} : List (Lit × DataW H) → Nat
  | [] => 0
  | x :: r => uptoBulkEntry x + uptoBulkEntries r
def uptoBulkEntry {H : Type} : Lit × DataW H → Nat
  | (.string bytes, d) => bytes.length + uptoBulk d + 1
  | (_, d) => uptoBulk d + 1
 end
def uptoSmall : (H : Type) → List (DataW H) → Bool := fun _ ds => decide (uptoBulkAll ds ≤ 1048576)
def OpenSpec.upto (s : _root_.Go.ChangeSpec) : _root_.Go.OpenSpec := { _root_.Go.OpenSpec.ofChange s with cond := some uptoSmall }

/-- 'asterismlaw3.SeqLazy', WHERE WHAT IT READS IS OF BULK AT MOST 1048576: true; the input reads as it did. -/
def seqLazyUptoRow : OpenClaim := { program := "ytipomlcnmaldkaa", sum := "daf0579e0981dc7a7f9fbcb608508db8379f24432f94f034ec9cfe8c61ed6218", func := "asterism/asterismlaw3.SeqLazy", spec := "seqLazy", unfollowed := true, recurses := true, apart := false, narrowed := true }
def SeqLazyUptoSaid : Prop := seqLazyUptoRow.holds Try.pinned (OpenSpec.upto seqLazySpec)

/-- 'asterismlaw3.SeqMerge', WHERE WHAT IT READS IS OF BULK AT MOST 1048576: true; the input reads as it did. -/
def seqMergeUptoRow : OpenClaim := { program := "ytipomlcnmaldkaa", sum := "daf0579e0981dc7a7f9fbcb608508db8379f24432f94f034ec9cfe8c61ed6218", func := "asterism/asterismlaw3.SeqMerge", spec := "seqMerge", unfollowed := true, recurses := true, apart := false, narrowed := true }
def SeqMergeUptoSaid : Prop := seqMergeUptoRow.holds Try.pinned (OpenSpec.upto seqMergeSpec)

/-- 'asterismlaw3.SeqTwice', WHERE WHAT IT READS IS OF BULK AT MOST 1048576: true; the input reads as it did. -/
def seqTwiceUptoRow : OpenClaim := { program := "ytipomlcnmaldkaa", sum := "daf0579e0981dc7a7f9fbcb608508db8379f24432f94f034ec9cfe8c61ed6218", func := "asterism/asterismlaw3.SeqTwice", spec := "seqTwice", unfollowed := true, recurses := true, apart := false, narrowed := true }
def SeqTwiceUptoSaid : Prop := seqTwiceUptoRow.holds Try.pinned (OpenSpec.upto seqTwiceSpec)

/-- 'asterismlaw3.SeqAll', WHERE WHAT IT READS IS OF BULK AT MOST 1048576: true; the input reads as it did. -/
def seqAllUptoRow : OpenClaim := { program := "ytipomlcnmaldkaa", sum := "daf0579e0981dc7a7f9fbcb608508db8379f24432f94f034ec9cfe8c61ed6218", func := "asterism/asterismlaw3.SeqAll", spec := "seqAll", unfollowed := true, recurses := true, apart := false, narrowed := true }
def SeqAllUptoSaid : Prop := seqAllUptoRow.holds Try.pinned (OpenSpec.upto seqAllSpec)

/-- 'asterismlaw3.SeqNone', WHERE WHAT IT READS IS OF BULK AT MOST 1048576: true; the input reads as it did. -/
def seqNoneUptoRow : OpenClaim := { program := "ytipomlcnmaldkaa", sum := "daf0579e0981dc7a7f9fbcb608508db8379f24432f94f034ec9cfe8c61ed6218", func := "asterism/asterismlaw3.SeqNone", spec := "seqNone", unfollowed := true, recurses := true, apart := false, narrowed := true }
def SeqNoneUptoSaid : Prop := seqNoneUptoRow.holds Try.pinned (OpenSpec.upto seqNoneSpec)

end Rows
end Go.Proofs.Ytipomlcnmaldkaa
