/-
  DERIVED. GIVEN WITH THE SEED: THE CARDS: each row of YtapnjabhcdlhbaaGreatDoorRows.lean that lists a variable, with what it lists TIED to the program's text (the seventh form; the later family's looks); each row that meets fmt, with fmt's text TOLD by the authors' own Lean function (tested against real Go, not proved from fmt's source: count such statements apart). THE CARD IS WHAT COUNTS. Prove the row's statement (the work); the ties are given (YtapnjabhcdlhbaaGreatDoorTie.lean); close each card by the builder's one call (the guide's Derived/Test/ToyasCard.lean, 'card_holds'). Laid BY PROGRAM, IN A SANDBOX (cutbox-door.mjs). By AI agents, Wed Nov 11 2026. No macro, syntax, notation, axiom, sorry.
-/
import Derived.Test.YtapnjabhcdlhbaaGreatDoorRows
import GoSem.ClaimSeven
namespace Go.Proofs.YtapnjabhcdlhbaaGreatDoor
namespace Rows

/-- THE TIED CARD OF 'parterrelaw09.BoxReads'. -/
def boxReadsCard : Claim7 := { stood := { row := boxReadsRow, standIns := [], harness := (true, "2545cf3d79806b5a6e89e868a37c20b48935700de2219c96cd11696fc950b76a"), looks := true }, kinds := [], alts := [], laidByText := true, laidKinds := [.data, .pinned], laidTests := true, laidLooks := .later }
def BoxReadsCardSaid : Prop := Claim7.holds Tryz.pinned (.plain (OpenSpec.ofChange boxReadsSpec)) boxReadsCard

/-- THE TIED CARD OF 'parterrelaw05.ValueBack'. -/
def valueBackCard : Claim7 := { stood := { row := valueBackRow, standIns := [], harness := (true, "2545cf3d79806b5a6e89e868a37c20b48935700de2219c96cd11696fc950b76a"), looks := true }, kinds := [], alts := [], laidByText := true, laidKinds := [.data, .data, .data, .data, .pinned], laidTests := true, laidLooks := .later }
def ValueBackCardSaid : Prop := Claim7.holds Tryz.pinned (.plain (OpenSpec.ofChange valueBackSpec)) valueBackCard

/-- THE TIED CARD OF 'parterrelaw06.TrackSizes'. -/
def trackSizesCard : Claim7 := { stood := { row := trackSizesRow, standIns := [], harness := (true, "2545cf3d79806b5a6e89e868a37c20b48935700de2219c96cd11696fc950b76a"), looks := true }, kinds := [], alts := [], laidByText := true, laidKinds := [.data, .pinned], laidTests := true, laidLooks := .later }
def TrackSizesCardSaid : Prop := Claim7.holds Tryz.pinned (.plain (OpenSpec.ofChange trackSizesSpec)) trackSizesCard

/-- THE TIED CARD OF 'parterrelaw05.ValueTells'. -/
def valueTellsCard : Claim7 := { stood := { row := valueTellsRow, standIns := [], harness := (true, "2545cf3d79806b5a6e89e868a37c20b48935700de2219c96cd11696fc950b76a"), looks := true }, kinds := [], alts := [], laidByText := true, laidKinds := [.data, .data, .data, .data, .pinned], laidTests := true, laidLooks := .later }
def ValueTellsCardSaid : Prop := Claim7.holds Tryz.pinned (.plain (OpenSpec.ofChange valueTellsSpec)) valueTellsCard

/-- THE TIED CARD OF 'parterrelaw09.BoxContent'. -/
def boxContentCard : Claim7 := { stood := { row := boxContentRow, standIns := [], harness := (true, "2545cf3d79806b5a6e89e868a37c20b48935700de2219c96cd11696fc950b76a"), looks := true }, kinds := [], alts := [], laidByText := true, laidKinds := [.data, .data, .data, .data, .pinned], laidTests := true, laidLooks := .later }
def BoxContentCardSaid : Prop := Claim7.holds Tryz.pinned (.plain (OpenSpec.ofChange boxContentSpec)) boxContentCard

/-- THE TIED CARD OF 'parterrelaw09.BoxTells'. -/
def boxTellsCard : Claim7 := { stood := { row := boxTellsRow, standIns := [], harness := (true, "2545cf3d79806b5a6e89e868a37c20b48935700de2219c96cd11696fc950b76a"), looks := true }, kinds := [], alts := [], laidByText := true, laidKinds := [.data, .data, .data, .data, .pinned], laidTests := true, laidLooks := .later }
def BoxTellsCardSaid : Prop := Claim7.holds Tryz.pinned (.plain (OpenSpec.ofChange boxTellsSpec)) boxTellsCard

/-- THE TIED CARD OF 'parterrelaw09.BoxBack'. -/
def boxBackCard : Claim7 := { stood := { row := boxBackRow, standIns := [], harness := (true, "2545cf3d79806b5a6e89e868a37c20b48935700de2219c96cd11696fc950b76a"), looks := true }, kinds := [], alts := [], laidByText := true, laidKinds := [.data, .data, .data, .data, .pinned], laidTests := true, laidLooks := .later }
def BoxBackCardSaid : Prop := Claim7.holds Tryz.pinned (.plain (OpenSpec.ofChange boxBackSpec)) boxBackCard

/-- THE SECOND FORM's CARD OF 'parterrelaw09.BoxReads'. -/
def boxReadsUptoCard : Claim7 := { stood := { row := boxReadsUptoRow, standIns := [], harness := (true, "2545cf3d79806b5a6e89e868a37c20b48935700de2219c96cd11696fc950b76a"), looks := true }, kinds := [], alts := [], laidByText := true, laidKinds := [.data, .pinned], laidTests := true, laidLooks := .later }
def BoxReadsUptoCardSaid : Prop := Claim7.holds Tryz.pinned (.plain (OpenSpec.upto boxReadsSpec)) boxReadsUptoCard

/-- THE SECOND FORM's CARD OF 'parterrelaw05.ValueBack'. -/
def valueBackUptoCard : Claim7 := { stood := { row := valueBackUptoRow, standIns := [], harness := (true, "2545cf3d79806b5a6e89e868a37c20b48935700de2219c96cd11696fc950b76a"), looks := true }, kinds := [], alts := [], laidByText := true, laidKinds := [.data, .data, .data, .data, .pinned], laidTests := true, laidLooks := .later }
def ValueBackUptoCardSaid : Prop := Claim7.holds Tryz.pinned (.plain (OpenSpec.upto valueBackSpec)) valueBackUptoCard

/-- THE SECOND FORM's CARD OF 'parterrelaw06.TrackSizes'. -/
def trackSizesUptoCard : Claim7 := { stood := { row := trackSizesUptoRow, standIns := [], harness := (true, "2545cf3d79806b5a6e89e868a37c20b48935700de2219c96cd11696fc950b76a"), looks := true }, kinds := [], alts := [], laidByText := true, laidKinds := [.data, .pinned], laidTests := true, laidLooks := .later }
def TrackSizesUptoCardSaid : Prop := Claim7.holds Tryz.pinned (.plain (OpenSpec.upto trackSizesSpec)) trackSizesUptoCard

/-- THE SECOND FORM's CARD OF 'parterrelaw05.ValueTells'. -/
def valueTellsUptoCard : Claim7 := { stood := { row := valueTellsUptoRow, standIns := [], harness := (true, "2545cf3d79806b5a6e89e868a37c20b48935700de2219c96cd11696fc950b76a"), looks := true }, kinds := [], alts := [], laidByText := true, laidKinds := [.data, .data, .data, .data, .pinned], laidTests := true, laidLooks := .later }
def ValueTellsUptoCardSaid : Prop := Claim7.holds Tryz.pinned (.plain (OpenSpec.upto valueTellsSpec)) valueTellsUptoCard

/-- THE SECOND FORM's CARD OF 'parterrelaw09.BoxContent'. -/
def boxContentUptoCard : Claim7 := { stood := { row := boxContentUptoRow, standIns := [], harness := (true, "2545cf3d79806b5a6e89e868a37c20b48935700de2219c96cd11696fc950b76a"), looks := true }, kinds := [], alts := [], laidByText := true, laidKinds := [.data, .data, .data, .data, .pinned], laidTests := true, laidLooks := .later }
def BoxContentUptoCardSaid : Prop := Claim7.holds Tryz.pinned (.plain (OpenSpec.upto boxContentSpec)) boxContentUptoCard

/-- THE SECOND FORM's CARD OF 'parterrelaw09.BoxTells'. -/
def boxTellsUptoCard : Claim7 := { stood := { row := boxTellsUptoRow, standIns := [], harness := (true, "2545cf3d79806b5a6e89e868a37c20b48935700de2219c96cd11696fc950b76a"), looks := true }, kinds := [], alts := [], laidByText := true, laidKinds := [.data, .data, .data, .data, .pinned], laidTests := true, laidLooks := .later }
def BoxTellsUptoCardSaid : Prop := Claim7.holds Tryz.pinned (.plain (OpenSpec.upto boxTellsSpec)) boxTellsUptoCard

/-- THE SECOND FORM's CARD OF 'parterrelaw09.BoxBack'. -/
def boxBackUptoCard : Claim7 := { stood := { row := boxBackUptoRow, standIns := [], harness := (true, "2545cf3d79806b5a6e89e868a37c20b48935700de2219c96cd11696fc950b76a"), looks := true }, kinds := [], alts := [], laidByText := true, laidKinds := [.data, .data, .data, .data, .pinned], laidTests := true, laidLooks := .later }
def BoxBackUptoCardSaid : Prop := Claim7.holds Tryz.pinned (.plain (OpenSpec.upto boxBackSpec)) boxBackUptoCard
end Rows
end Go.Proofs.YtapnjabhcdlhbaaGreatDoor
