/-
  DERIVED. GIVEN WITH THE SEED: THE CARDS: each row of YtojibgjadakamaaGreatDoorRows.lean that lists a variable, with what it lists TIED to the program's text (the seventh form; the later family's looks); each row that meets fmt, with fmt's text TOLD by the authors' own Lean function (tested against real Go, not proved from fmt's source: count such statements apart). THE CARD IS WHAT COUNTS. Prove the row's statement (the work); the ties are given (YtojibgjadakamaaGreatDoorTie.lean); close each card by the builder's one call (the guide's Derived/Test/ToyasCard.lean, 'card_holds'). Laid BY PROGRAM, IN A SANDBOX (cutbox-door.mjs). By AI agents, Wed Nov 11 2026. No macro, syntax, notation, axiom, sorry.
-/
import Derived.Test.YtojibgjadakamaaGreatDoorRows
import GoSem.ClaimSeven
namespace Go.Proofs.YtojibgjadakamaaGreatDoor
namespace Rows

/-- THE TIED CARD OF 'scrivenerlaw24.VerifyCount'. -/
def verifyCountCard : Claim7 := { stood := { row := verifyCountRow, standIns := [], harness := (true, "b8ea5cf17549d58632cf172cc95e3bfa7403bec719ec66942a234df012eb463b"), looks := true }, kinds := [], alts := [], laidByText := true, laidKinds := [.data, .data, .data, .sentinel, .sentinel], laidTests := true, laidLooks := .later }
def VerifyCountCardSaid : Prop := Claim7.holds Tryz.pinned (.plain (OpenSpec.ofChange verifyCountSpec)) verifyCountCard

/-- THE SECOND FORM's CARD OF 'scrivenerlaw24.VerifyCount'. -/
def verifyCountUptoCard : Claim7 := { stood := { row := verifyCountUptoRow, standIns := [], harness := (true, "b8ea5cf17549d58632cf172cc95e3bfa7403bec719ec66942a234df012eb463b"), looks := true }, kinds := [], alts := [], laidByText := true, laidKinds := [.data, .data, .data, .sentinel, .sentinel], laidTests := true, laidLooks := .later }
def VerifyCountUptoCardSaid : Prop := Claim7.holds Tryz.pinned (.plain (OpenSpec.upto verifyCountSpec)) verifyCountUptoCard
end Rows
end Go.Proofs.YtojibgjadakamaaGreatDoor
