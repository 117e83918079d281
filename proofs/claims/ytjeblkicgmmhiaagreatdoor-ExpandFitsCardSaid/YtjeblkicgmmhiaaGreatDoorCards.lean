/-
  DERIVED. GIVEN WITH THE SEED: THE CARDS: each row of YtjeblkicgmmhiaaGreatDoorRows.lean that lists a variable, with what it lists TIED to the program's text (the seventh form; the later family's looks); each row that meets fmt, with fmt's text TOLD by the authors' own Lean function (tested against real Go, not proved from fmt's source: count such statements apart). THE CARD IS WHAT COUNTS. Prove the row's statement (the work); the ties are given (YtjeblkicgmmhiaaGreatDoorTie.lean); close each card by the builder's one call (the guide's Derived/Test/ToyasCard.lean, 'card_holds'). Laid BY PROGRAM, IN A SANDBOX (cutbox-door.mjs). By AI agents, Wed Nov 11 2026. No macro, syntax, notation, axiom, sorry.
-/
import Derived.Test.YtjeblkicgmmhiaaGreatDoorRows
import GoSem.ClaimSeven
namespace Go.Proofs.YtjeblkicgmmhiaaGreatDoor
namespace Rows

/-- THE TIED CARD OF 'parterrelaw06.TrackSizes'. -/
def trackSizesCard : Claim7 := { stood := { row := trackSizesRow, standIns := [], harness := (true, "39e353a0f967fb30007b489a537bef839ae185fd2f8b48366dda270927dc5d98"), looks := true }, kinds := [], alts := [], laidByText := true, laidKinds := [.data, .pinned], laidTests := true, laidLooks := .later }
def TrackSizesCardSaid : Prop := Claim7.holds Tryz.pinned (.plain (OpenSpec.ofChange trackSizesSpec)) trackSizesCard

/-- THE TIED CARD OF 'parterrelaw15.ExpandBreadths'. -/
def expandBreadthsCard : Claim7 := { stood := { row := expandBreadthsRow, standIns := [], harness := (true, "39e353a0f967fb30007b489a537bef839ae185fd2f8b48366dda270927dc5d98"), looks := true }, kinds := [], alts := [], laidByText := true, laidKinds := [.data, .pinned], laidTests := true, laidLooks := .later }
def ExpandBreadthsCardSaid : Prop := Claim7.holds Tryz.pinned (.plain (OpenSpec.ofChange expandBreadthsSpec)) expandBreadthsCard

/-- THE TIED CARD OF 'parterrelaw15.ExpandCounts'. -/
def expandCountsCard : Claim7 := { stood := { row := expandCountsRow, standIns := [], harness := (true, "39e353a0f967fb30007b489a537bef839ae185fd2f8b48366dda270927dc5d98"), looks := true }, kinds := [], alts := [], laidByText := true, laidKinds := [.data, .pinned], laidTests := true, laidLooks := .later }
def ExpandCountsCardSaid : Prop := Claim7.holds Tryz.pinned (.plain (OpenSpec.ofChange expandCountsSpec)) expandCountsCard

/-- THE TIED CARD OF 'parterrelaw15.ExpandAxes'. -/
def expandAxesCard : Claim7 := { stood := { row := expandAxesRow, standIns := [], harness := (true, "39e353a0f967fb30007b489a537bef839ae185fd2f8b48366dda270927dc5d98"), looks := true }, kinds := [], alts := [], laidByText := true, laidKinds := [.data, .pinned], laidTests := true, laidLooks := .later }
def ExpandAxesCardSaid : Prop := Claim7.holds Tryz.pinned (.plain (OpenSpec.ofChange expandAxesSpec)) expandAxesCard

/-- THE TIED CARD OF 'parterrelaw15.ExpandFits'. -/
def expandFitsCard : Claim7 := { stood := { row := expandFitsRow, standIns := [], harness := (true, "39e353a0f967fb30007b489a537bef839ae185fd2f8b48366dda270927dc5d98"), looks := true }, kinds := [], alts := [], laidByText := true, laidKinds := [.data, .pinned], laidTests := true, laidLooks := .later }
def ExpandFitsCardSaid : Prop := Claim7.holds Tryz.pinned (.plain (OpenSpec.ofChange expandFitsSpec)) expandFitsCard

/-- THE TIED CARD OF 'parterrelaw15.ExpandMany'. -/
def expandManyCard : Claim7 := { stood := { row := expandManyRow, standIns := [], harness := (true, "39e353a0f967fb30007b489a537bef839ae185fd2f8b48366dda270927dc5d98"), looks := true }, kinds := [], alts := [], laidByText := true, laidKinds := [.data, .pinned], laidTests := true, laidLooks := .later }
def ExpandManyCardSaid : Prop := Claim7.holds Tryz.pinned (.plain (OpenSpec.ofChange expandManySpec)) expandManyCard

/-- THE SECOND FORM's CARD OF 'parterrelaw06.TrackSizes'. -/
def trackSizesUptoCard : Claim7 := { stood := { row := trackSizesUptoRow, standIns := [], harness := (true, "39e353a0f967fb30007b489a537bef839ae185fd2f8b48366dda270927dc5d98"), looks := true }, kinds := [], alts := [], laidByText := true, laidKinds := [.data, .pinned], laidTests := true, laidLooks := .later }
def TrackSizesUptoCardSaid : Prop := Claim7.holds Tryz.pinned (.plain (OpenSpec.upto trackSizesSpec)) trackSizesUptoCard

/-- THE SECOND FORM's CARD OF 'parterrelaw15.ExpandBreadths'. -/
def expandBreadthsUptoCard : Claim7 := { stood := { row := expandBreadthsUptoRow, standIns := [], harness := (true, "39e353a0f967fb30007b489a537bef839ae185fd2f8b48366dda270927dc5d98"), looks := true }, kinds := [], alts := [], laidByText := true, laidKinds := [.data, .pinned], laidTests := true, laidLooks := .later }
def ExpandBreadthsUptoCardSaid : Prop := Claim7.holds Tryz.pinned (.plain (OpenSpec.upto expandBreadthsSpec)) expandBreadthsUptoCard

/-- THE SECOND FORM's CARD OF 'parterrelaw15.ExpandCounts'. -/
def expandCountsUptoCard : Claim7 := { stood := { row := expandCountsUptoRow, standIns := [], harness := (true, "39e353a0f967fb30007b489a537bef839ae185fd2f8b48366dda270927dc5d98"), looks := true }, kinds := [], alts := [], laidByText := true, laidKinds := [.data, .pinned], laidTests := true, laidLooks := .later }
def ExpandCountsUptoCardSaid : Prop := Claim7.holds Tryz.pinned (.plain (OpenSpec.upto expandCountsSpec)) expandCountsUptoCard

/-- THE SECOND FORM's CARD OF 'parterrelaw15.ExpandAxes'. -/
def expandAxesUptoCard : Claim7 := { stood := { row := expandAxesUptoRow, standIns := [], harness := (true, "39e353a0f967fb30007b489a537bef839ae185fd2f8b48366dda270927dc5d98"), looks := true }, kinds := [], alts := [], laidByText := true, laidKinds := [.data, .pinned], laidTests := true, laidLooks := .later }
def ExpandAxesUptoCardSaid : Prop := Claim7.holds Tryz.pinned (.plain (OpenSpec.upto expandAxesSpec)) expandAxesUptoCard

/-- THE SECOND FORM's CARD OF 'parterrelaw15.ExpandFits'. -/
def expandFitsUptoCard : Claim7 := { stood := { row := expandFitsUptoRow, standIns := [], harness := (true, "39e353a0f967fb30007b489a537bef839ae185fd2f8b48366dda270927dc5d98"), looks := true }, kinds := [], alts := [], laidByText := true, laidKinds := [.data, .pinned], laidTests := true, laidLooks := .later }
def ExpandFitsUptoCardSaid : Prop := Claim7.holds Tryz.pinned (.plain (OpenSpec.upto expandFitsSpec)) expandFitsUptoCard

/-- THE SECOND FORM's CARD OF 'parterrelaw15.ExpandMany'. -/
def expandManyUptoCard : Claim7 := { stood := { row := expandManyUptoRow, standIns := [], harness := (true, "39e353a0f967fb30007b489a537bef839ae185fd2f8b48366dda270927dc5d98"), looks := true }, kinds := [], alts := [], laidByText := true, laidKinds := [.data, .pinned], laidTests := true, laidLooks := .later }
def ExpandManyUptoCardSaid : Prop := Claim7.holds Tryz.pinned (.plain (OpenSpec.upto expandManySpec)) expandManyUptoCard
end Rows
end Go.Proofs.YtjeblkicgmmhiaaGreatDoor
