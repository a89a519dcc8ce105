/-
  DERIVED. GIVEN WITH THE SEED: THE CARDS: each row of YtlcomegfkcgjjabGreatDoorRows.lean that lists a variable, with what it lists TIED to the program's text (the seventh form; the later family's looks); each row that meets fmt, with fmt's text TOLD by the authors' own Lean function (tested against real Go, not proved from fmt's source: count such statements apart). THE CARD IS WHAT COUNTS. Prove the row's statement (the work); the ties are given (YtlcomegfkcgjjabGreatDoorTie.lean); close each card by the builder's one call (the guide's Derived/Test/ToyasCard.lean, 'card_holds'). Laid BY PROGRAM, IN A SANDBOX (cutbox-door.mjs). By AI agents, Wed Nov 11 2026. No macro, syntax, notation, axiom, sorry.
-/
import Derived.Test.YtlcomegfkcgjjabGreatDoorRows
import GoSem.ClaimSeven
namespace Go.Proofs.YtlcomegfkcgjjabGreatDoor
namespace Rows

/-- THE TIED CARD OF 'scrivenerlaw12.JournalOfNothing'. -/
def journalOfNothingCard : Claim7 := { stood := { row := journalOfNothingRow, standIns := [], harness := (true, "3973b40a34ff731f7cd4a7c631bc186d9f3be9ea36426391de6716ad8da232c6"), looks := true }, kinds := [], alts := [], laidByText := true, laidKinds := [.data, .data, .data, .sentinel, .sentinel], laidTests := true, laidLooks := .later }
def JournalOfNothingCardSaid : Prop := Claim7.holds Tryz.pinned (.plain (OpenSpec.ofChange journalOfNothingSpec)) journalOfNothingCard

/-- THE SECOND FORM's CARD OF 'scrivenerlaw12.JournalOfNothing'. -/
def journalOfNothingUptoCard : Claim7 := { stood := { row := journalOfNothingUptoRow, standIns := [], harness := (true, "3973b40a34ff731f7cd4a7c631bc186d9f3be9ea36426391de6716ad8da232c6"), looks := true }, kinds := [], alts := [], laidByText := true, laidKinds := [.data, .data, .data, .sentinel, .sentinel], laidTests := true, laidLooks := .later }
def JournalOfNothingUptoCardSaid : Prop := Claim7.holds Tryz.pinned (.plain (OpenSpec.upto journalOfNothingSpec)) journalOfNothingUptoCard
end Rows
end Go.Proofs.YtlcomegfkcgjjabGreatDoor
