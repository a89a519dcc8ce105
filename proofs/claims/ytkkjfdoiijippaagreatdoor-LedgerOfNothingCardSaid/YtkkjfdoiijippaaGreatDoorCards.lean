/-
  DERIVED. GIVEN WITH THE SEED: THE CARDS: each row of YtkkjfdoiijippaaGreatDoorRows.lean that lists a variable, with what it lists TIED to the program's text (the seventh form; the later family's looks); each row that meets fmt, with fmt's text TOLD by the authors' own Lean function (tested against real Go, not proved from fmt's source: count such statements apart). THE CARD IS WHAT COUNTS. Prove the row's statement (the work); the ties are given (YtkkjfdoiijippaaGreatDoorTie.lean); close each card by the builder's one call (the guide's Derived/Test/ToyasCard.lean, 'card_holds'). Laid BY PROGRAM, IN A SANDBOX (cutbox-door.mjs). By AI agents, Wed Nov 11 2026. No macro, syntax, notation, axiom, sorry.
-/
import Derived.Test.YtkkjfdoiijippaaGreatDoorRows
import GoSem.ClaimSeven
namespace Go.Proofs.YtkkjfdoiijippaaGreatDoor
namespace Rows

/-- THE TIED CARD OF 'scrivenerlaw23.LedgerOfNothing'. -/
def ledgerOfNothingCard : Claim7 := { stood := { row := ledgerOfNothingRow, standIns := [], harness := (true, "b014066913da176bd76db29ae9f19b1f094f2769b573f344ad3bb1ecfbc094c5"), looks := true }, kinds := [], alts := [], laidByText := true, laidKinds := [.data, .data, .data, .sentinel, .sentinel], laidTests := true, laidLooks := .later }
def LedgerOfNothingCardSaid : Prop := Claim7.holds Tryz.pinned (.plain (OpenSpec.ofChange ledgerOfNothingSpec)) ledgerOfNothingCard

/-- THE SECOND FORM's CARD OF 'scrivenerlaw23.LedgerOfNothing'. -/
def ledgerOfNothingUptoCard : Claim7 := { stood := { row := ledgerOfNothingUptoRow, standIns := [], harness := (true, "b014066913da176bd76db29ae9f19b1f094f2769b573f344ad3bb1ecfbc094c5"), looks := true }, kinds := [], alts := [], laidByText := true, laidKinds := [.data, .data, .data, .sentinel, .sentinel], laidTests := true, laidLooks := .later }
def LedgerOfNothingUptoCardSaid : Prop := Claim7.holds Tryz.pinned (.plain (OpenSpec.upto ledgerOfNothingSpec)) ledgerOfNothingUptoCard
end Rows
end Go.Proofs.YtkkjfdoiijippaaGreatDoor
