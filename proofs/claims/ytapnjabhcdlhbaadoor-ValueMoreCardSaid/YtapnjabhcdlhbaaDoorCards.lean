/-
  DERIVED. GIVEN WITH THE SEED: THE CARDS: each row of YtapnjabhcdlhbaaDoorRows.lean that lists a variable, with what it lists TIED to the program's text (the seventh form; the later family's looks); each row that meets fmt, with fmt's text TOLD by the authors' own Lean function (tested against real Go, not proved from fmt's source: count such statements apart). THE CARD IS WHAT COUNTS. Prove the row's statement (the work); the ties are given (YtapnjabhcdlhbaaDoorTie.lean); close each card by the builder's one call (the guide's Derived/Test/ToyasCard.lean, 'card_holds'). Laid BY PROGRAM, IN A SANDBOX (cutbox-door.mjs). By AI agents, Wed Nov 11 2026. No macro, syntax, notation, axiom, sorry.
-/
import Derived.Test.YtapnjabhcdlhbaaDoorRows
import GoSem.ClaimSeven
namespace Go.Proofs.YtapnjabhcdlhbaaDoor
namespace Rows

/-- THE TIED CARD OF 'parterrelaw05.ValueMore'. -/
def valueMoreCard : Claim7 := { stood := { row := valueMoreRow, standIns := [], harness := (true, "c3afedd6e79a6b968ca528052577456a8041f3721d9184579ef2386de16a4bc2"), looks := true }, kinds := [], alts := [], laidByText := true, laidKinds := [.data, .pinned], laidTests := true, laidLooks := .later }
def ValueMoreCardSaid : Prop := Claim7.holds Tryd.pinned (.plain (OpenSpec.ofChange valueMoreSpec)) valueMoreCard

/-- THE SECOND FORM's CARD OF 'parterrelaw05.ValueMore'. -/
def valueMoreUptoCard : Claim7 := { stood := { row := valueMoreUptoRow, standIns := [], harness := (true, "c3afedd6e79a6b968ca528052577456a8041f3721d9184579ef2386de16a4bc2"), looks := true }, kinds := [], alts := [], laidByText := true, laidKinds := [.data, .pinned], laidTests := true, laidLooks := .later }
def ValueMoreUptoCardSaid : Prop := Claim7.holds Tryd.pinned (.plain (OpenSpec.upto valueMoreSpec)) valueMoreUptoCard
end Rows
end Go.Proofs.YtapnjabhcdlhbaaDoor
