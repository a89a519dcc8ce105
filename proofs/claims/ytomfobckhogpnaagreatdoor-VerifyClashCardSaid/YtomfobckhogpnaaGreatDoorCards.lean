/-
  DERIVED. GIVEN WITH THE SEED: THE CARDS: each row of YtomfobckhogpnaaGreatDoorRows.lean that lists a variable, with what it lists TIED to the program's text (the seventh form; the later family's looks); each row that meets fmt, with fmt's text TOLD by the authors' own Lean function (tested against real Go, not proved from fmt's source: count such statements apart). THE CARD IS WHAT COUNTS. Prove the row's statement (the work); the ties are given (YtomfobckhogpnaaGreatDoorTie.lean); close each card by the builder's one call (the guide's Derived/Test/ToyasCard.lean, 'card_holds'). Laid BY PROGRAM, IN A SANDBOX (cutbox-door.mjs). By AI agents, Wed Nov 11 2026. No macro, syntax, notation, axiom, sorry.
-/
import Derived.Test.YtomfobckhogpnaaGreatDoorRows
import GoSem.ClaimSeven
namespace Go.Proofs.YtomfobckhogpnaaGreatDoor
namespace Rows

/-- THE TIED CARD OF 'scrivenerlaw24.VerifyClash'. -/
def verifyClashCard : Claim7 := { stood := { row := verifyClashRow, standIns := [], harness := (true, "ed4e1c75a291c0b64f6aa10199c02cbf1bcda0e6dcea7ca88f11bdcfa675f17e"), looks := true }, kinds := [], alts := [], laidByText := true, laidKinds := [.data, .data, .data, .sentinel, .sentinel], laidTests := true, laidLooks := .later }
def VerifyClashCardSaid : Prop := Claim7.holds Tryz.pinned (.plain (OpenSpec.ofChange verifyClashSpec)) verifyClashCard

/-- THE SECOND FORM's CARD OF 'scrivenerlaw24.VerifyClash'. -/
def verifyClashUptoCard : Claim7 := { stood := { row := verifyClashUptoRow, standIns := [], harness := (true, "ed4e1c75a291c0b64f6aa10199c02cbf1bcda0e6dcea7ca88f11bdcfa675f17e"), looks := true }, kinds := [], alts := [], laidByText := true, laidKinds := [.data, .data, .data, .sentinel, .sentinel], laidTests := true, laidLooks := .later }
def VerifyClashUptoCardSaid : Prop := Claim7.holds Tryz.pinned (.plain (OpenSpec.upto verifyClashSpec)) verifyClashUptoCard
end Rows
end Go.Proofs.YtomfobckhogpnaaGreatDoor
