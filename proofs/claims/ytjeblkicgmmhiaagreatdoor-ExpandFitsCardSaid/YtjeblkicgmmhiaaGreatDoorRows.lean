/-
  NARROWER THAN 'FOR EVERY INPUT', by the rows' own cells (each row's printed sentence says how): TrackSizes: laid · ExpandBreadths: laid · ExpandCounts: loops, laid · ExpandAxes: loops, laid · ExpandFits: loops, laid · ExpandMany: loops, laid.
  DERIVED. THE GIVEN ROWS OF THIS SEAT. 6 by the template 'for every input the law returns true; each argument reads behind the call as it read before'; 0 by the template 'total and deterministic' (their statements: YtjeblkicgmmhiaaGreatDoorTotals.lean).
  GIVEN WITH THE SEED: the statements are not yours to turn. If you find one false, say at which input.
  Laid BY PROGRAM, IN A SANDBOX (cutbox-rows.mjs): the forced cells as the released guide's own fill.sh prints them over the translation 1f648f7cae9be152… (all of the seat's roots in one cut). By AI agents, Wed Nov 11 2026. No macro, syntax, notation, axiom, sorry.
-/
import Derived.Test.YtjeblkicgmmhiaaGreatDoorChecked
import GoSem.PinnedTables
import GoSem.Claim
import GoSem.ClaimJoined
import GoSem.ClaimMapViews
import Derived.JoinedTies
import Derived.KernelRfl
namespace Go.Proofs.YtjeblkicgmmhiaaGreatDoor
/- THE CELL 'sum', in the pinned program and in every row, IS THE sha256 OF THE DUMP (.gsa) THAT YtjeblkicgmmhiaaGreatDoorProg.lean LOADS. Nothing in Lean hashes anything: it is a label: what it is worth is what the hold of that sum in a sandbox is worth. -/
noncomputable def Tryz.pinned : Pinned := { name := "ytjeblkicgmmhiaagreatdoor", sum := "1f648f7cae9be152f17b25a3f85756504d92431ba91bea487040a59c20f1b05d", checked := Tryz.checked }
namespace Rows
def none {H : Type} : Left H := { results := [], args := [] }

/- WHAT THE LISTED PACKAGE-LEVEL VARIABLES READ AS WHEN THE CALL BEGINS. Each datum BY PROGRAM (the guide's laid-datum.mjs) off the statement by which the dump's own 'gosem.cut.vars' lays the variable. In a bare row this is a premise. The card (YtjeblkicgmmhiaaGreatDoorCards.lean) ties it to the program's text. -/
def laid_unicode_utf8_acceptRanges {H : Type} : DataW H := .agg [.agg [.lit (.int .u8 128), .lit (.int .u8 191)], .agg [.lit (.int .u8 160), .lit (.int .u8 191)], .agg [.lit (.int .u8 128), .lit (.int .u8 159)], .agg [.lit (.int .u8 144), .lit (.int .u8 191)], .agg [.lit (.int .u8 128), .lit (.int .u8 143)], .agg [.lit (.int .u8 0), .lit (.int .u8 0)], .agg [.lit (.int .u8 0), .lit (.int .u8 0)], .agg [.lit (.int .u8 0), .lit (.int .u8 0)], .agg [.lit (.int .u8 0), .lit (.int .u8 0)], .agg [.lit (.int .u8 0), .lit (.int .u8 0)], .agg [.lit (.int .u8 0), .lit (.int .u8 0)], .agg [.lit (.int .u8 0), .lit (.int .u8 0)], .agg [.lit (.int .u8 0), .lit (.int .u8 0)], .agg [.lit (.int .u8 0), .lit (.int .u8 0)], .agg [.lit (.int .u8 0), .lit (.int .u8 0)], .agg [.lit (.int .u8 0), .lit (.int .u8 0)]]
/-- One of Go's own tables, pinned by name: the form's constant. -/
def laid_unicode_utf8_first : DataW Unit := Go.Pinned.utf8First

/-- 'parterrelaw06.TrackSizes': WHATEVER THE INPUT: true; the input reads as it did. -/
def trackSizesSpec : ChangeSpec := { name := "trackSizes", fn := fun _ => fun
  | [d1, d2] => { results := [.lit (.bool true)], args := [d1, d2] }
  | _ => none }
def trackSizesRow : OpenClaim := { program := "ytjeblkicgmmhiaagreatdoor", sum := "1f648f7cae9be152f17b25a3f85756504d92431ba91bea487040a59c20f1b05d", func := "parterre/parterrelaw06.TrackSizes", spec := "trackSizes", inPlace := ["internal/bytealg.IndexByteString", "internal/bytealg.IndexString", "internal/abi.NoEscape"], unfollowed := true, recurses := true, named := ["internal/bytealg.MaxLen", "unicode/utf8.first", "unicode/utf8.acceptRanges"], apart := false, laid := [("unicode/utf8.acceptRanges", laid_unicode_utf8_acceptRanges), ("unicode/utf8.first", laid_unicode_utf8_first)] }
def TrackSizesSaid : Prop := trackSizesRow.holds Tryz.pinned (OpenSpec.ofChange trackSizesSpec)

/-- ITS FALSE NEIGHBOUR: 'it returns false'. Refute it at one input. -/
def trackSizesWrong : ChangeSpec := { name := "trackSizes", fn := fun _ => fun
  | [d1, d2] => { results := [.lit (.bool false)], args := [d1, d2] }
  | _ => none }
def TrackSizesWrongFalsely : Prop := trackSizesRow.holds Tryz.pinned (OpenSpec.ofChange trackSizesWrong)

/-- 'parterrelaw15.ExpandBreadths': WHATEVER THE INPUT: true; the input reads as it did. -/
def expandBreadthsSpec : ChangeSpec := { name := "expandBreadths", fn := fun _ => fun
  | [d1, d2] => { results := [.lit (.bool true)], args := [d1, d2] }
  | _ => none }
def expandBreadthsRow : OpenClaim := { program := "ytjeblkicgmmhiaagreatdoor", sum := "1f648f7cae9be152f17b25a3f85756504d92431ba91bea487040a59c20f1b05d", func := "parterre/parterrelaw15.ExpandBreadths", spec := "expandBreadths", inPlace := ["internal/bytealg.IndexByteString", "internal/bytealg.IndexString", "internal/abi.NoEscape"], unfollowed := true, recurses := true, named := ["math/bits.divideError", "math/bits.overflowError", "internal/bytealg.MaxLen", "unicode/utf8.first", "unicode/utf8.acceptRanges"], apart := false, laid := [("unicode/utf8.acceptRanges", laid_unicode_utf8_acceptRanges), ("unicode/utf8.first", laid_unicode_utf8_first)] }
def ExpandBreadthsSaid : Prop := expandBreadthsRow.holds Tryz.pinned (OpenSpec.ofChange expandBreadthsSpec)

/-- ITS FALSE NEIGHBOUR: 'it returns false'. Refute it at one input. -/
def expandBreadthsWrong : ChangeSpec := { name := "expandBreadths", fn := fun _ => fun
  | [d1, d2] => { results := [.lit (.bool false)], args := [d1, d2] }
  | _ => none }
def ExpandBreadthsWrongFalsely : Prop := expandBreadthsRow.holds Tryz.pinned (OpenSpec.ofChange expandBreadthsWrong)

/-- 'parterrelaw15.ExpandCounts': WHATEVER THE INPUT: true; the input reads as it did. -/
def expandCountsSpec : ChangeSpec := { name := "expandCounts", fn := fun _ => fun
  | [d1, d2, d3, d4] => { results := [.lit (.bool true)], args := [d1, d2, d3, d4] }
  | _ => none }
def expandCountsRow : OpenClaim := { program := "ytjeblkicgmmhiaagreatdoor", sum := "1f648f7cae9be152f17b25a3f85756504d92431ba91bea487040a59c20f1b05d", func := "parterre/parterrelaw15.ExpandCounts", spec := "expandCounts", inPlace := ["internal/bytealg.IndexByteString", "internal/bytealg.IndexString", "internal/abi.NoEscape"], unfollowed := true, recurses := true, named := ["internal/bytealg.MaxLen", "unicode/utf8.first", "unicode/utf8.acceptRanges", "math/bits.divideError", "math/bits.overflowError"], loops := true, apart := false, laid := [("unicode/utf8.acceptRanges", laid_unicode_utf8_acceptRanges), ("unicode/utf8.first", laid_unicode_utf8_first)] }
def ExpandCountsSaid : Prop := expandCountsRow.holds Tryz.pinned (OpenSpec.ofChange expandCountsSpec)

/-- ITS FALSE NEIGHBOUR: 'it returns false'. Refute it at one input. -/
def expandCountsWrong : ChangeSpec := { name := "expandCounts", fn := fun _ => fun
  | [d1, d2, d3, d4] => { results := [.lit (.bool false)], args := [d1, d2, d3, d4] }
  | _ => none }
def ExpandCountsWrongFalsely : Prop := expandCountsRow.holds Tryz.pinned (OpenSpec.ofChange expandCountsWrong)

/-- 'parterrelaw15.ExpandAxes': WHATEVER THE INPUT: true; the input reads as it did. -/
def expandAxesSpec : ChangeSpec := { name := "expandAxes", fn := fun _ => fun
  | [d1, d2, d3, d4, d5] => { results := [.lit (.bool true)], args := [d1, d2, d3, d4, d5] }
  | _ => none }
def expandAxesRow : OpenClaim := { program := "ytjeblkicgmmhiaagreatdoor", sum := "1f648f7cae9be152f17b25a3f85756504d92431ba91bea487040a59c20f1b05d", func := "parterre/parterrelaw15.ExpandAxes", spec := "expandAxes", inPlace := ["internal/bytealg.IndexByteString", "internal/bytealg.IndexString", "internal/abi.NoEscape"], unfollowed := true, recurses := true, named := ["internal/bytealg.MaxLen", "unicode/utf8.first", "unicode/utf8.acceptRanges", "math/bits.divideError", "math/bits.overflowError"], loops := true, apart := false, laid := [("unicode/utf8.acceptRanges", laid_unicode_utf8_acceptRanges), ("unicode/utf8.first", laid_unicode_utf8_first)] }
def ExpandAxesSaid : Prop := expandAxesRow.holds Tryz.pinned (OpenSpec.ofChange expandAxesSpec)

/-- ITS FALSE NEIGHBOUR: 'it returns false'. Refute it at one input. -/
def expandAxesWrong : ChangeSpec := { name := "expandAxes", fn := fun _ => fun
  | [d1, d2, d3, d4, d5] => { results := [.lit (.bool false)], args := [d1, d2, d3, d4, d5] }
  | _ => none }
def ExpandAxesWrongFalsely : Prop := expandAxesRow.holds Tryz.pinned (OpenSpec.ofChange expandAxesWrong)

/-- 'parterrelaw15.ExpandFits': WHATEVER THE INPUT: true; the input reads as it did. -/
def expandFitsSpec : ChangeSpec := { name := "expandFits", fn := fun _ => fun
  | [d1, d2, d3] => { results := [.lit (.bool true)], args := [d1, d2, d3] }
  | _ => none }
def expandFitsRow : OpenClaim := { program := "ytjeblkicgmmhiaagreatdoor", sum := "1f648f7cae9be152f17b25a3f85756504d92431ba91bea487040a59c20f1b05d", func := "parterre/parterrelaw15.ExpandFits", spec := "expandFits", inPlace := ["internal/bytealg.IndexByteString", "internal/bytealg.IndexString", "internal/abi.NoEscape"], unfollowed := true, recurses := true, named := ["internal/bytealg.MaxLen", "unicode/utf8.first", "unicode/utf8.acceptRanges", "math/bits.divideError", "math/bits.overflowError"], loops := true, apart := false, laid := [("unicode/utf8.acceptRanges", laid_unicode_utf8_acceptRanges), ("unicode/utf8.first", laid_unicode_utf8_first)] }
def ExpandFitsSaid : Prop := expandFitsRow.holds Tryz.pinned (OpenSpec.ofChange expandFitsSpec)

/-- ITS FALSE NEIGHBOUR: 'it returns false'. Refute it at one input. -/
def expandFitsWrong : ChangeSpec := { name := "expandFits", fn := fun _ => fun
  | [d1, d2, d3] => { results := [.lit (.bool false)], args := [d1, d2, d3] }
  | _ => none }
def ExpandFitsWrongFalsely : Prop := expandFitsRow.holds Tryz.pinned (OpenSpec.ofChange expandFitsWrong)

/-- 'parterrelaw15.ExpandMany': WHATEVER THE INPUT: true; the input reads as it did. -/
def expandManySpec : ChangeSpec := { name := "expandMany", fn := fun _ => fun
  | [d1, d2, d3] => { results := [.lit (.bool true)], args := [d1, d2, d3] }
  | _ => none }
def expandManyRow : OpenClaim := { program := "ytjeblkicgmmhiaagreatdoor", sum := "1f648f7cae9be152f17b25a3f85756504d92431ba91bea487040a59c20f1b05d", func := "parterre/parterrelaw15.ExpandMany", spec := "expandMany", inPlace := ["internal/bytealg.IndexByteString", "internal/bytealg.IndexString", "internal/abi.NoEscape"], unfollowed := true, recurses := true, named := ["internal/bytealg.MaxLen", "unicode/utf8.first", "unicode/utf8.acceptRanges", "math/bits.divideError", "math/bits.overflowError"], loops := true, apart := false, laid := [("unicode/utf8.acceptRanges", laid_unicode_utf8_acceptRanges), ("unicode/utf8.first", laid_unicode_utf8_first)] }
def ExpandManySaid : Prop := expandManyRow.holds Tryz.pinned (OpenSpec.ofChange expandManySpec)

/-- ITS FALSE NEIGHBOUR: 'it returns false'. Refute it at one input. -/
def expandManyWrong : ChangeSpec := { name := "expandMany", fn := fun _ => fun
  | [d1, d2, d3] => { results := [.lit (.bool false)], args := [d1, d2, d3] }
  | _ => none }
def ExpandManyWrongFalsely : Prop := expandManyRow.holds Tryz.pinned (OpenSpec.ofChange expandManyWrong)

/- THE SECOND FORM. 'bulk': how many values and letters a reading holds, each counted each time it is reached (what is shared counts as often as it is met; a slice's spare places count too). A statement '..UptoSaid' is the law's where the arguments, and the package variables that the reading takes, are together of bulk at most 1048576: NARROWER than '..Said'. Prove '..Said' where nothing that the law and all that it calls make is longer than what came in: it says more and counts as full. Else prove '..UptoSaid'. A law counts once. -/
mutual
def uptoBulk {H : Type} : DataW H → Nat
  | .lit (.string bytes) => bytes.length + 1
  | .lit _ => 1
  | .nil => 1
  | .ptr d => uptoBulk d + 1
  | .slice elems spare => uptoBulkAll elems + uptoBulkAll spare + 1
  | .agg parts => uptoBulkAll parts + 1
  | .iface _ d => uptoBulk d + 1
  | .map entries => uptoBulkEntries entries + 1
  | .held _ => 1
def uptoBulkAll {H : Type} : List (DataW H) → Nat
  | [] => 0
  | d :: r => uptoBulk d + uptoBulkAll r
def uptoBulkEntries {H : Type} : List (Lit × DataW H) → Nat
  | [] => 0
  | x :: r => uptoBulkEntry x + uptoBulkEntries r
def uptoBulkEntry {H : Type} : Lit × DataW H → Nat
  | (.string bytes, d) => bytes.length + uptoBulk d + 1
  | (_, d) => uptoBulk d + 1
 end
def uptoSmall : (H : Type) → List (DataW H) → Bool := fun _ ds => decide (uptoBulkAll ds ≤ 1048576)
def OpenSpec.upto (s : _root_.Go.ChangeSpec) : _root_.Go.OpenSpec := { _root_.Go.OpenSpec.ofChange s with cond := some uptoSmall }

/-- 'parterrelaw06.TrackSizes', WHERE WHAT IT READS IS OF BULK AT MOST 1048576: true; the input reads as it did. -/
def trackSizesUptoRow : OpenClaim := { program := "ytjeblkicgmmhiaagreatdoor", sum := "1f648f7cae9be152f17b25a3f85756504d92431ba91bea487040a59c20f1b05d", func := "parterre/parterrelaw06.TrackSizes", spec := "trackSizes", inPlace := ["internal/bytealg.IndexByteString", "internal/bytealg.IndexString", "internal/abi.NoEscape"], unfollowed := true, recurses := true, named := ["internal/bytealg.MaxLen", "unicode/utf8.first", "unicode/utf8.acceptRanges"], apart := false, laid := [("unicode/utf8.acceptRanges", laid_unicode_utf8_acceptRanges), ("unicode/utf8.first", laid_unicode_utf8_first)], narrowed := true }
def TrackSizesUptoSaid : Prop := trackSizesUptoRow.holds Tryz.pinned (OpenSpec.upto trackSizesSpec)

/-- 'parterrelaw15.ExpandBreadths', WHERE WHAT IT READS IS OF BULK AT MOST 1048576: true; the input reads as it did. -/
def expandBreadthsUptoRow : OpenClaim := { program := "ytjeblkicgmmhiaagreatdoor", sum := "1f648f7cae9be152f17b25a3f85756504d92431ba91bea487040a59c20f1b05d", func := "parterre/parterrelaw15.ExpandBreadths", spec := "expandBreadths", inPlace := ["internal/bytealg.IndexByteString", "internal/bytealg.IndexString", "internal/abi.NoEscape"], unfollowed := true, recurses := true, named := ["math/bits.divideError", "math/bits.overflowError", "internal/bytealg.MaxLen", "unicode/utf8.first", "unicode/utf8.acceptRanges"], apart := false, laid := [("unicode/utf8.acceptRanges", laid_unicode_utf8_acceptRanges), ("unicode/utf8.first", laid_unicode_utf8_first)], narrowed := true }
def ExpandBreadthsUptoSaid : Prop := expandBreadthsUptoRow.holds Tryz.pinned (OpenSpec.upto expandBreadthsSpec)

/-- 'parterrelaw15.ExpandCounts', WHERE WHAT IT READS IS OF BULK AT MOST 1048576: true; the input reads as it did. -/
def expandCountsUptoRow : OpenClaim := { program := "ytjeblkicgmmhiaagreatdoor", sum := "1f648f7cae9be152f17b25a3f85756504d92431ba91bea487040a59c20f1b05d", func := "parterre/parterrelaw15.ExpandCounts", spec := "expandCounts", inPlace := ["internal/bytealg.IndexByteString", "internal/bytealg.IndexString", "internal/abi.NoEscape"], unfollowed := true, recurses := true, named := ["internal/bytealg.MaxLen", "unicode/utf8.first", "unicode/utf8.acceptRanges", "math/bits.divideError", "math/bits.overflowError"], loops := true, apart := false, laid := [("unicode/utf8.acceptRanges", laid_unicode_utf8_acceptRanges), ("unicode/utf8.first", laid_unicode_utf8_first)], narrowed := true }
def ExpandCountsUptoSaid : Prop := expandCountsUptoRow.holds Tryz.pinned (OpenSpec.upto expandCountsSpec)

/-- 'parterrelaw15.ExpandAxes', WHERE WHAT IT READS IS OF BULK AT MOST 1048576: true; the input reads as it did. -/
def expandAxesUptoRow : OpenClaim := { program := "ytjeblkicgmmhiaagreatdoor", sum := "1f648f7cae9be152f17b25a3f85756504d92431ba91bea487040a59c20f1b05d", func := "parterre/parterrelaw15.ExpandAxes", spec := "expandAxes", inPlace := ["internal/bytealg.IndexByteString", "internal/bytealg.IndexString", "internal/abi.NoEscape"], unfollowed := true, recurses := true, named := ["internal/bytealg.MaxLen", "unicode/utf8.first", "unicode/utf8.acceptRanges", "math/bits.divideError", "math/bits.overflowError"], loops := true, apart := false, laid := [("unicode/utf8.acceptRanges", laid_unicode_utf8_acceptRanges), ("unicode/utf8.first", laid_unicode_utf8_first)], narrowed := true }
def ExpandAxesUptoSaid : Prop := expandAxesUptoRow.holds Tryz.pinned (OpenSpec.upto expandAxesSpec)

/-- 'parterrelaw15.ExpandFits', WHERE WHAT IT READS IS OF BULK AT MOST 1048576: true; the input reads as it did. -/
def expandFitsUptoRow : OpenClaim := { program := "ytjeblkicgmmhiaagreatdoor", sum := "1f648f7cae9be152f17b25a3f85756504d92431ba91bea487040a59c20f1b05d", func := "parterre/parterrelaw15.ExpandFits", spec := "expandFits", inPlace := ["internal/bytealg.IndexByteString", "internal/bytealg.IndexString", "internal/abi.NoEscape"], unfollowed := true, recurses := true, named := ["internal/bytealg.MaxLen", "unicode/utf8.first", "unicode/utf8.acceptRanges", "math/bits.divideError", "math/bits.overflowError"], loops := true, apart := false, laid := [("unicode/utf8.acceptRanges", laid_unicode_utf8_acceptRanges), ("unicode/utf8.first", laid_unicode_utf8_first)], narrowed := true }
def ExpandFitsUptoSaid : Prop := expandFitsUptoRow.holds Tryz.pinned (OpenSpec.upto expandFitsSpec)

/-- 'parterrelaw15.ExpandMany', WHERE WHAT IT READS IS OF BULK AT MOST 1048576: true; the input reads as it did. -/
def expandManyUptoRow : OpenClaim := { program := "ytjeblkicgmmhiaagreatdoor", sum := "1f648f7cae9be152f17b25a3f85756504d92431ba91bea487040a59c20f1b05d", func := "parterre/parterrelaw15.ExpandMany", spec := "expandMany", inPlace := ["internal/bytealg.IndexByteString", "internal/bytealg.IndexString", "internal/abi.NoEscape"], unfollowed := true, recurses := true, named := ["internal/bytealg.MaxLen", "unicode/utf8.first", "unicode/utf8.acceptRanges", "math/bits.divideError", "math/bits.overflowError"], loops := true, apart := false, laid := [("unicode/utf8.acceptRanges", laid_unicode_utf8_acceptRanges), ("unicode/utf8.first", laid_unicode_utf8_first)], narrowed := true }
def ExpandManyUptoSaid : Prop := expandManyUptoRow.holds Tryz.pinned (OpenSpec.upto expandManySpec)

end Rows
end Go.Proofs.YtjeblkicgmmhiaaGreatDoor
