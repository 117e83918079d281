/-
  DERIVED. GIVEN WITH THE SEED: THE CARDS: each row of YtlhajccbfapieaaGreatDoorRows.lean that lists a variable, with what it lists TIED to the program's text (the seventh form; the later family's looks); each row that meets fmt, with fmt's text TOLD by the authors' own Lean function (tested against real Go, not proved from fmt's source: count such statements apart). THE CARD IS WHAT COUNTS. Prove the row's statement (the work); the ties are given (YtlhajccbfapieaaGreatDoorTie.lean); close each card by the builder's one call (the guide's Derived/Test/ToyasCard.lean, 'card_holds'). Laid BY PROGRAM, IN A SANDBOX (cutbox-door.mjs). By AI agents, Wed Nov 11 2026. No macro, syntax, notation, axiom, sorry.
-/
import Derived.Test.YtlhajccbfapieaaGreatDoorRows
import GoSem.ClaimSeven
namespace Go.Proofs.YtlhajccbfapieaaGreatDoor
namespace Rows

/-- THE TIED CARD OF 'parterrelaw06.TrackTells'. -/
def trackTellsCard : Claim7 := { stood := { row := trackTellsRow, standIns := [], harness := (true, "682761f4b1f6fd9c6766f20eb096fff18b4d101ccbe021f60a2ce3727b917fe8"), looks := true }, kinds := [], alts := [], laidByText := true, laidKinds := [.data, .data, .data, .data, .pinned], laidTests := true, laidLooks := .later }
def TrackTellsCardSaid : Prop := Claim7.holds Tryz.pinned (.plain (OpenSpec.ofChange trackTellsSpec)) trackTellsCard

/-- THE TIED CARD OF 'parterrelaw06.TrackOne'. -/
def trackOneCard : Claim7 := { stood := { row := trackOneRow, standIns := [], harness := (true, "682761f4b1f6fd9c6766f20eb096fff18b4d101ccbe021f60a2ce3727b917fe8"), looks := true }, kinds := [], alts := [], laidByText := true, laidKinds := [.data, .data, .data, .data, .pinned], laidTests := true, laidLooks := .later }
def TrackOneCardSaid : Prop := Claim7.holds Tryz.pinned (.plain (OpenSpec.ofChange trackOneSpec)) trackOneCard

/-- THE TIED CARD OF 'parterrelaw06.TrackBack'. -/
def trackBackCard : Claim7 := { stood := { row := trackBackRow, standIns := [], harness := (true, "682761f4b1f6fd9c6766f20eb096fff18b4d101ccbe021f60a2ce3727b917fe8"), looks := true }, kinds := [], alts := [], laidByText := true, laidKinds := [.data, .data, .data, .data, .pinned], laidTests := true, laidLooks := .later }
def TrackBackCardSaid : Prop := Claim7.holds Tryz.pinned (.plain (OpenSpec.ofChange trackBackSpec)) trackBackCard

/-- THE SECOND FORM's CARD OF 'parterrelaw06.TrackTells'. -/
def trackTellsUptoCard : Claim7 := { stood := { row := trackTellsUptoRow, standIns := [], harness := (true, "682761f4b1f6fd9c6766f20eb096fff18b4d101ccbe021f60a2ce3727b917fe8"), looks := true }, kinds := [], alts := [], laidByText := true, laidKinds := [.data, .data, .data, .data, .pinned], laidTests := true, laidLooks := .later }
def TrackTellsUptoCardSaid : Prop := Claim7.holds Tryz.pinned (.plain (OpenSpec.upto trackTellsSpec)) trackTellsUptoCard

/-- THE SECOND FORM's CARD OF 'parterrelaw06.TrackOne'. -/
def trackOneUptoCard : Claim7 := { stood := { row := trackOneUptoRow, standIns := [], harness := (true, "682761f4b1f6fd9c6766f20eb096fff18b4d101ccbe021f60a2ce3727b917fe8"), looks := true }, kinds := [], alts := [], laidByText := true, laidKinds := [.data, .data, .data, .data, .pinned], laidTests := true, laidLooks := .later }
def TrackOneUptoCardSaid : Prop := Claim7.holds Tryz.pinned (.plain (OpenSpec.upto trackOneSpec)) trackOneUptoCard

/-- THE SECOND FORM's CARD OF 'parterrelaw06.TrackBack'. -/
def trackBackUptoCard : Claim7 := { stood := { row := trackBackUptoRow, standIns := [], harness := (true, "682761f4b1f6fd9c6766f20eb096fff18b4d101ccbe021f60a2ce3727b917fe8"), looks := true }, kinds := [], alts := [], laidByText := true, laidKinds := [.data, .data, .data, .data, .pinned], laidTests := true, laidLooks := .later }
def TrackBackUptoCardSaid : Prop := Claim7.holds Tryz.pinned (.plain (OpenSpec.upto trackBackSpec)) trackBackUptoCard
end Rows
end Go.Proofs.YtlhajccbfapieaaGreatDoor
