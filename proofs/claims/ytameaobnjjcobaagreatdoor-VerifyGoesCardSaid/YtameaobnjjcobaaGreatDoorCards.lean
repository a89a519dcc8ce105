/-
  DERIVED. GIVEN WITH THE SEED: THE CARDS: each row of YtameaobnjjcobaaGreatDoorRows.lean that lists a variable, with what it lists TIED to the program's text (the seventh form; the later family's looks); each row that meets fmt, with fmt's text TOLD by the authors' own Lean function (tested against real Go, not proved from fmt's source: count such statements apart). THE CARD IS WHAT COUNTS. Prove the row's statement (the work); the ties are given (YtameaobnjjcobaaGreatDoorTie.lean); close each card by the builder's one call (the guide's Derived/Test/ToyasCard.lean, 'card_holds'). Laid BY PROGRAM, IN A SANDBOX (cutbox-door.mjs). By AI agents, Wed Nov 11 2026. No macro, syntax, notation, axiom, sorry.
-/
import Derived.Test.YtameaobnjjcobaaGreatDoorRows
import GoSem.ClaimSeven
namespace Go.Proofs.YtameaobnjjcobaaGreatDoor
namespace Rows

/-- THE TIED CARD OF 'scrivenerlaw24.VerifyGoes'. -/
def verifyGoesCard : Claim7 := { stood := { row := verifyGoesRow, standIns := [], harness := (true, "06d59cec52e9bf59be15a07af21268cfbbb9578d103a1db2a135593ff37063a7"), looks := true }, kinds := [], alts := [], laidByText := true, laidKinds := [.data, .data, .data, .sentinel, .sentinel], laidTests := true, laidLooks := .later }
def VerifyGoesCardSaid : Prop := Claim7.holds Tryz.pinned (.plain (OpenSpec.ofChange verifyGoesSpec)) verifyGoesCard

/-- THE SECOND FORM's CARD OF 'scrivenerlaw24.VerifyGoes'. -/
def verifyGoesUptoCard : Claim7 := { stood := { row := verifyGoesUptoRow, standIns := [], harness := (true, "06d59cec52e9bf59be15a07af21268cfbbb9578d103a1db2a135593ff37063a7"), looks := true }, kinds := [], alts := [], laidByText := true, laidKinds := [.data, .data, .data, .sentinel, .sentinel], laidTests := true, laidLooks := .later }
def VerifyGoesUptoCardSaid : Prop := Claim7.holds Tryz.pinned (.plain (OpenSpec.upto verifyGoesSpec)) verifyGoesUptoCard
end Rows
end Go.Proofs.YtameaobnjjcobaaGreatDoor
