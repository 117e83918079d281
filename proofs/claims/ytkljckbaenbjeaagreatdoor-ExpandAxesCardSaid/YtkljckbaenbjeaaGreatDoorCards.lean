/-
  DERIVED. GIVEN WITH THE SEED: THE CARDS: each row of YtkljckbaenbjeaaGreatDoorRows.lean that lists a variable, with what it lists TIED to the program's text (the seventh form; the later family's looks); each row that meets fmt, with fmt's text TOLD by the authors' own Lean function (tested against real Go, not proved from fmt's source: count such statements apart). THE CARD IS WHAT COUNTS. Prove the row's statement (the work); the ties are given (YtkljckbaenbjeaaGreatDoorTie.lean); close each card by the builder's one call (the guide's Derived/Test/ToyasCard.lean, 'card_holds'). Laid BY PROGRAM, IN A SANDBOX (cutbox-door.mjs). By AI agents, Wed Nov 11 2026. No macro, syntax, notation, axiom, sorry.
-/
import Derived.Test.YtkljckbaenbjeaaGreatDoorRows
import GoSem.ClaimSeven
namespace Go.Proofs.YtkljckbaenbjeaaGreatDoor
namespace Rows

/-- THE TIED CARD OF 'parterrelaw15.ExpandAxes'. -/
def expandAxesCard : Claim7 := { stood := { row := expandAxesRow, standIns := [], harness := (true, "022f7749ea9e212b9e1756c4b24bcc13b1850e6397c136dc86d2bfbb70625bf6"), looks := true }, kinds := [], alts := [], laidByText := true, laidKinds := [.data, .pinned], laidTests := true, laidLooks := .later }
def ExpandAxesCardSaid : Prop := Claim7.holds Tryz.pinned (.plain (OpenSpec.ofChange expandAxesSpec)) expandAxesCard

/-- THE SECOND FORM's CARD OF 'parterrelaw15.ExpandAxes'. -/
def expandAxesUptoCard : Claim7 := { stood := { row := expandAxesUptoRow, standIns := [], harness := (true, "022f7749ea9e212b9e1756c4b24bcc13b1850e6397c136dc86d2bfbb70625bf6"), looks := true }, kinds := [], alts := [], laidByText := true, laidKinds := [.data, .pinned], laidTests := true, laidLooks := .later }
def ExpandAxesUptoCardSaid : Prop := Claim7.holds Tryz.pinned (.plain (OpenSpec.upto expandAxesSpec)) expandAxesUptoCard
end Rows
end Go.Proofs.YtkljckbaenbjeaaGreatDoor
