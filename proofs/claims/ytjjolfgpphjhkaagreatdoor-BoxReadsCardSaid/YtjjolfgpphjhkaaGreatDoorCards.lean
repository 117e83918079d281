/-
  DERIVED. GIVEN WITH THE SEED: THE CARDS: each row of YtjjolfgpphjhkaaGreatDoorRows.lean that lists a variable, with what it lists TIED to the program's text (the seventh form; the later family's looks); each row that meets fmt, with fmt's text TOLD by the authors' own Lean function (tested against real Go, not proved from fmt's source: count such statements apart). THE CARD IS WHAT COUNTS. Prove the row's statement (the work); the ties are given (YtjjolfgpphjhkaaGreatDoorTie.lean); close each card by the builder's one call (the guide's Derived/Test/ToyasCard.lean, 'card_holds'). Laid BY PROGRAM, IN A SANDBOX (cutbox-door.mjs). By AI agents, Wed Nov 11 2026. No macro, syntax, notation, axiom, sorry.
-/
import Derived.Test.YtjjolfgpphjhkaaGreatDoorRows
import GoSem.ClaimSeven
namespace Go.Proofs.YtjjolfgpphjhkaaGreatDoor
namespace Rows

/-- THE TIED CARD OF 'parterrelaw09.BoxReads'. -/
def boxReadsCard : Claim7 := { stood := { row := boxReadsRow, standIns := [], harness := (true, "5b04166e190284d3a1b6a4a681f3bae3140b7140ada552356b3f85968a8b1d01"), looks := true }, kinds := [], alts := [], laidByText := true, laidKinds := [.data, .pinned], laidTests := true, laidLooks := .later }
def BoxReadsCardSaid : Prop := Claim7.holds Tryz.pinned (.plain (OpenSpec.ofChange boxReadsSpec)) boxReadsCard

/-- THE SECOND FORM's CARD OF 'parterrelaw09.BoxReads'. -/
def boxReadsUptoCard : Claim7 := { stood := { row := boxReadsUptoRow, standIns := [], harness := (true, "5b04166e190284d3a1b6a4a681f3bae3140b7140ada552356b3f85968a8b1d01"), looks := true }, kinds := [], alts := [], laidByText := true, laidKinds := [.data, .pinned], laidTests := true, laidLooks := .later }
def BoxReadsUptoCardSaid : Prop := Claim7.holds Tryz.pinned (.plain (OpenSpec.upto boxReadsSpec)) boxReadsUptoCard
end Rows
end Go.Proofs.YtjjolfgpphjhkaaGreatDoor
