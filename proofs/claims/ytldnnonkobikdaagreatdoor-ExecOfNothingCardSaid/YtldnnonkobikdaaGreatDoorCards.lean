/-
  DERIVED. GIVEN WITH THE SEED: THE CARDS: each row of YtldnnonkobikdaaGreatDoorRows.lean that lists a variable, with what it lists TIED to the program's text (the seventh form; the later family's looks); each row that meets fmt, with fmt's text TOLD by the authors' own Lean function (tested against real Go, not proved from fmt's source: count such statements apart). THE CARD IS WHAT COUNTS. Prove the row's statement (the work); the ties are given (YtldnnonkobikdaaGreatDoorTie.lean); close each card by the builder's one call (the guide's Derived/Test/ToyasCard.lean, 'card_holds'). Laid BY PROGRAM, IN A SANDBOX (cutbox-door.mjs). By AI agents, Wed Nov 11 2026. No macro, syntax, notation, axiom, sorry.
-/
import Derived.Test.YtldnnonkobikdaaGreatDoorRows
import GoSem.ClaimSeven
namespace Go.Proofs.YtldnnonkobikdaaGreatDoor
namespace Rows

/-- THE TIED CARD OF 'scrivenerlaw21.ExecOfNothing'. -/
def execOfNothingCard : Claim7 := { stood := { row := execOfNothingRow, standIns := [], harness := (true, "d64b24b9281097713be786138393a3025cf58f61457b78efed08d033b0fc89f7"), looks := true }, kinds := [], alts := [], laidByText := true, laidKinds := [.data, .data, .data, .data, .pinned, .pinned], laidTests := true, laidLooks := .later }
def ExecOfNothingCardSaid : Prop := Claim7.holds Tryz.pinned (.plain (OpenSpec.ofChange execOfNothingSpec)) execOfNothingCard

/-- THE SECOND FORM's CARD OF 'scrivenerlaw21.ExecOfNothing'. -/
def execOfNothingUptoCard : Claim7 := { stood := { row := execOfNothingUptoRow, standIns := [], harness := (true, "d64b24b9281097713be786138393a3025cf58f61457b78efed08d033b0fc89f7"), looks := true }, kinds := [], alts := [], laidByText := true, laidKinds := [.data, .data, .data, .data, .pinned, .pinned], laidTests := true, laidLooks := .later }
def ExecOfNothingUptoCardSaid : Prop := Claim7.holds Tryz.pinned (.plain (OpenSpec.upto execOfNothingSpec)) execOfNothingUptoCard
end Rows
end Go.Proofs.YtldnnonkobikdaaGreatDoor
