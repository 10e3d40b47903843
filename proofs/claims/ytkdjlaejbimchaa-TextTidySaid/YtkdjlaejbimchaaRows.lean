/-
  No cell of these rows narrows 'for every input' (looked for: loops, veiled, ifaces, maps, wideKeys, modest, calm, conditions, laid).
  DERIVED. THE GIVEN ROWS OF THIS SEAT. 5 by the template 'for every input the law returns true; each argument reads behind the call as it read before'; 0 by the template 'total and deterministic' (their statements: YtkdjlaejbimchaaTotals.lean).
  GIVEN WITH THE SEED: the statements are not yours to turn. If you find one false, say at which input.
  Laid BY PROGRAM, IN A SANDBOX (cutbox-rows.mjs): the forced cells as the released guide's own fill.sh prints them over the translation 2e5b9a45a43e9f44… (all of the seat's roots in one cut). By AI agents, Wed Nov 11 2026. No macro, syntax, notation, axiom, sorry.
-/
import Derived.Test.YtkdjlaejbimchaaChecked
import GoSem.Claim
import GoSem.ClaimJoined
import GoSem.ClaimMapViews
import Derived.JoinedTies
import Derived.KernelRfl
namespace Go.Proofs.Ytkdjlaejbimchaa
/- THE CELL 'sum', in the pinned program and in every row, IS THE sha256 OF THE DUMP (.gsa) THAT YtkdjlaejbimchaaProg.lean LOADS. Nothing in Lean hashes anything: it is a label: what it is worth is what the hold of that sum in a sandbox is worth. -/
noncomputable def Try.pinned : Pinned := { name := "ytkdjlaejbimchaa", sum := "2e5b9a45a43e9f44f5aea649b2063fb68ba8a36d92cddff49728d22fe629bbd7", checked := Try.checked }
namespace Rows
def none {H : Type} : Left H := { results := [], args := [] }

/-- 'jamblaw06.TextExtents': WHATEVER THE INPUT: true; the input reads as it did. -/
def textExtentsSpec : ChangeSpec := { name := "textExtents", fn := fun _ => fun
  | [d] => { results := [.lit (.bool true)], args := [d] }
  | _ => none }
def textExtentsRow : OpenClaim := { program := "ytkdjlaejbimchaa", sum := "2e5b9a45a43e9f44f5aea649b2063fb68ba8a36d92cddff49728d22fe629bbd7", func := "jamb/jamblaw06.TextExtents", spec := "textExtents", inPlace := ["math/bits.Add64"], unfollowed := true, recurses := true, apart := false }
def TextExtentsSaid : Prop := textExtentsRow.holds Try.pinned (OpenSpec.ofChange textExtentsSpec)

/-- ITS FALSE NEIGHBOUR: 'it returns false'. Refute it at one input. -/
def textExtentsWrong : ChangeSpec := { name := "textExtents", fn := fun _ => fun
  | [d] => { results := [.lit (.bool false)], args := [d] }
  | _ => none }
def TextExtentsWrongFalsely : Prop := textExtentsRow.holds Try.pinned (OpenSpec.ofChange textExtentsWrong)

/-- 'jamblaw06.TextWhole': WHATEVER THE INPUT: true; the input reads as it did. -/
def textWholeSpec : ChangeSpec := { name := "textWhole", fn := fun _ => fun
  | [d1, d2] => { results := [.lit (.bool true)], args := [d1, d2] }
  | _ => none }
def textWholeRow : OpenClaim := { program := "ytkdjlaejbimchaa", sum := "2e5b9a45a43e9f44f5aea649b2063fb68ba8a36d92cddff49728d22fe629bbd7", func := "jamb/jamblaw06.TextWhole", spec := "textWhole", inPlace := ["math/bits.Add64"], unfollowed := true, recurses := true, apart := false }
def TextWholeSaid : Prop := textWholeRow.holds Try.pinned (OpenSpec.ofChange textWholeSpec)

/-- ITS FALSE NEIGHBOUR: 'it returns false'. Refute it at one input. -/
def textWholeWrong : ChangeSpec := { name := "textWhole", fn := fun _ => fun
  | [d1, d2] => { results := [.lit (.bool false)], args := [d1, d2] }
  | _ => none }
def TextWholeWrongFalsely : Prop := textWholeRow.holds Try.pinned (OpenSpec.ofChange textWholeWrong)

/-- 'jamblaw06.TextTidy': WHATEVER THE INPUT: true; the input reads as it did. -/
def textTidySpec : ChangeSpec := { name := "textTidy", fn := fun _ => fun
  | [d1, d2] => { results := [.lit (.bool true)], args := [d1, d2] }
  | _ => none }
def textTidyRow : OpenClaim := { program := "ytkdjlaejbimchaa", sum := "2e5b9a45a43e9f44f5aea649b2063fb68ba8a36d92cddff49728d22fe629bbd7", func := "jamb/jamblaw06.TextTidy", spec := "textTidy", inPlace := ["math/bits.Add64"], unfollowed := true, recurses := true, apart := false }
def TextTidySaid : Prop := textTidyRow.holds Try.pinned (OpenSpec.ofChange textTidySpec)

/-- ITS FALSE NEIGHBOUR: 'it returns false'. Refute it at one input. -/
def textTidyWrong : ChangeSpec := { name := "textTidy", fn := fun _ => fun
  | [d1, d2] => { results := [.lit (.bool false)], args := [d1, d2] }
  | _ => none }
def TextTidyWrongFalsely : Prop := textTidyRow.holds Try.pinned (OpenSpec.ofChange textTidyWrong)

/-- 'jamblaw06.TextJoined': WHATEVER THE INPUT: true; the input reads as it did. -/
def textJoinedSpec : ChangeSpec := { name := "textJoined", fn := fun _ => fun
  | [d1, d2, d3] => { results := [.lit (.bool true)], args := [d1, d2, d3] }
  | _ => none }
def textJoinedRow : OpenClaim := { program := "ytkdjlaejbimchaa", sum := "2e5b9a45a43e9f44f5aea649b2063fb68ba8a36d92cddff49728d22fe629bbd7", func := "jamb/jamblaw06.TextJoined", spec := "textJoined", inPlace := ["math/bits.Add64"], unfollowed := true, recurses := true, apart := false }
def TextJoinedSaid : Prop := textJoinedRow.holds Try.pinned (OpenSpec.ofChange textJoinedSpec)

/-- ITS FALSE NEIGHBOUR: 'it returns false'. Refute it at one input. -/
def textJoinedWrong : ChangeSpec := { name := "textJoined", fn := fun _ => fun
  | [d1, d2, d3] => { results := [.lit (.bool false)], args := [d1, d2, d3] }
  | _ => none }
def TextJoinedWrongFalsely : Prop := textJoinedRow.holds Try.pinned (OpenSpec.ofChange textJoinedWrong)

/-- 'jamblaw06.TextScaled': WHATEVER THE INPUT: true; the input reads as it did. -/
def textScaledSpec : ChangeSpec := { name := "textScaled", fn := fun _ => fun
  | [d1, d2, d3] => { results := [.lit (.bool true)], args := [d1, d2, d3] }
  | _ => none }
def textScaledRow : OpenClaim := { program := "ytkdjlaejbimchaa", sum := "2e5b9a45a43e9f44f5aea649b2063fb68ba8a36d92cddff49728d22fe629bbd7", func := "jamb/jamblaw06.TextScaled", spec := "textScaled", inPlace := ["math/bits.Add64"], unfollowed := true, recurses := true, apart := false }
def TextScaledSaid : Prop := textScaledRow.holds Try.pinned (OpenSpec.ofChange textScaledSpec)

/-- ITS FALSE NEIGHBOUR: 'it returns false'. Refute it at one input. -/
def textScaledWrong : ChangeSpec := { name := "textScaled", fn := fun _ => fun
  | [d1, d2, d3] => { results := [.lit (.bool false)], args := [d1, d2, d3] }
  | _ => none }
def TextScaledWrongFalsely : Prop := textScaledRow.holds Try.pinned (OpenSpec.ofChange textScaledWrong)

/- THE SECOND FORM. 'bulk': how many values and letters a reading holds, each counted each time it is reached (what is shared counts as often as it is met; a slice's spare places count too). A statement '..UptoSaid' is the law's where the arguments, and the package variables that the reading takes, are together of bulk at most 1048576: NARROWER than '..Said'. Prove '..Said' where nothing that the law and all that it calls make is longer than what came in: it says more and counts as full. Else prove '..UptoSaid'. A law counts once. -/
mutual
def uptoBulk {H : Type} : DataW H → Nat
  | .lit (.string bytes) => bytes.length + 1
  | .lit _ => 1
  | .nil => 1
  | .ptr d => uptoBulk d + 1
  | .slice elems spare => uptoBulkAll elems + uptoBulkAll spare + 1
  | .agg parts => uptoBulkAll parts + 1
  | .iface _ d => uptoBulk d + 1
  | .map entries => uptoBulkEntries entries + 1
  | .held _ => 1
def uptoBulkAll {H : Type} : List (DataW H) → Nat
  | [] => 0
  | d :: r => uptoBulk d + uptoBulkAll r
def uptoBulkEntries {H : Type} : List (Lit × DataW H) → Nat
  | [] => 0
  | x :: r => uptoBulkEntry x + uptoBulkEntries r
def uptoBulkEntry {H : Type} : Lit × DataW H → Nat
  | (.string bytes, d) => bytes.length + uptoBulk d + 1
  | (_, d) => uptoBulk d + 1
 end
def uptoSmall : (H : Type) → List (DataW H) → Bool := fun _ ds => decide (uptoBulkAll ds ≤ 1048576)
def OpenSpec.upto (s : _root_.Go.ChangeSpec) : _root_.Go.OpenSpec := { _root_.Go.OpenSpec.ofChange s with cond := some uptoSmall }

/-- 'jamblaw06.TextExtents', WHERE WHAT IT READS IS OF BULK AT MOST 1048576: true; the input reads as it did. -/
def textExtentsUptoRow : OpenClaim := { program := "ytkdjlaejbimchaa", sum := "2e5b9a45a43e9f44f5aea649b2063fb68ba8a36d92cddff49728d22fe629bbd7", func := "jamb/jamblaw06.TextExtents", spec := "textExtents", inPlace := ["math/bits.Add64"], unfollowed := true, recurses := true, apart := false, narrowed := true }
def TextExtentsUptoSaid : Prop := textExtentsUptoRow.holds Try.pinned (OpenSpec.upto textExtentsSpec)

/-- 'jamblaw06.TextWhole', WHERE WHAT IT READS IS OF BULK AT MOST 1048576: true; the input reads as it did. -/
def textWholeUptoRow : OpenClaim := { program := "ytkdjlaejbimchaa", sum := "2e5b9a45a43e9f44f5aea649b2063fb68ba8a36d92cddff49728d22fe629bbd7", func := "jamb/jamblaw06.TextWhole", spec := "textWhole", inPlace := ["math/bits.Add64"], unfollowed := true, recurses := true, apart := false, narrowed := true }
def TextWholeUptoSaid : Prop := textWholeUptoRow.holds Try.pinned (OpenSpec.upto textWholeSpec)

/-- 'jamblaw06.TextTidy', WHERE WHAT IT READS IS OF BULK AT MOST 1048576: true; the input reads as it did. -/
def textTidyUptoRow : OpenClaim := { program := "ytkdjlaejbimchaa", sum := "2e5b9a45a43e9f44f5aea649b2063fb68ba8a36d92cddff49728d22fe629bbd7", func := "jamb/jamblaw06.TextTidy", spec := "textTidy", inPlace := ["math/bits.Add64"], unfollowed := true, recurses := true, apart := false, narrowed := true }
def TextTidyUptoSaid : Prop := textTidyUptoRow.holds Try.pinned (OpenSpec.upto textTidySpec)

/-- 'jamblaw06.TextJoined', WHERE WHAT IT READS IS OF BULK AT MOST 1048576: true; the input reads as it did. -/
def textJoinedUptoRow : OpenClaim := { program := "ytkdjlaejbimchaa", sum := "2e5b9a45a43e9f44f5aea649b2063fb68ba8a36d92cddff49728d22fe629bbd7", func := "jamb/jamblaw06.TextJoined", spec := "textJoined", inPlace := ["math/bits.Add64"], unfollowed := true, recurses := true, apart := false, narrowed := true }
def TextJoinedUptoSaid : Prop := textJoinedUptoRow.holds Try.pinned (OpenSpec.upto textJoinedSpec)

/-- 'jamblaw06.TextScaled', WHERE WHAT IT READS IS OF BULK AT MOST 1048576: true; the input reads as it did. -/
def textScaledUptoRow : OpenClaim := { program := "ytkdjlaejbimchaa", sum := "2e5b9a45a43e9f44f5aea649b2063fb68ba8a36d92cddff49728d22fe629bbd7", func := "jamb/jamblaw06.TextScaled", spec := "textScaled", inPlace := ["math/bits.Add64"], unfollowed := true, recurses := true, apart := false, narrowed := true }
def TextScaledUptoSaid : Prop := textScaledUptoRow.holds Try.pinned (OpenSpec.upto textScaledSpec)

end Rows
end Go.Proofs.Ytkdjlaejbimchaa
