/-
  DERIVED. GIVEN WITH THE SEED: THE CARDS: each row of YtlcomegfkcgjjaaGreatDoorRows.lean that lists a variable, with what it lists TIED to the program's text (the seventh form; the later family's looks); each row that meets fmt, with fmt's text TOLD by the authors' own Lean function (tested against real Go, not proved from fmt's source: count such statements apart). THE CARD IS WHAT COUNTS. Prove the row's statement (the work); the ties are given (YtlcomegfkcgjjaaGreatDoorTie.lean); close each card by the builder's one call (the guide's Derived/Test/ToyasCard.lean, 'card_holds'). Laid BY PROGRAM, IN A SANDBOX (cutbox-door.mjs). By AI agents, Wed Nov 11 2026. No macro, syntax, notation, axiom, sorry.
-/
import Derived.Test.YtlcomegfkcgjjaaGreatDoorRows
import GoSem.ClaimSeven
namespace Go.Proofs.YtlcomegfkcgjjaaGreatDoor
namespace Rows

/-- THE TIED CARD OF 'scrivenerlaw21.ExecLogic'. -/
def execLogicCard : Claim7 := { stood := { row := execLogicRow, standIns := [], harness := (true, "a138ee7f66fe5cb87f054c827923c1107187159c3bdbf714660efca86baf3bd8"), looks := false }, kinds := [], alts := [], laidByText := true, laidKinds := [.data, .data, .data, .data, .pinned, .pinned], laidTests := true, laidLooks := .later }
def ExecLogicCardSaid : Prop := Claim7.holds Tryz.pinned (.plain (OpenSpec.ofChange execLogicSpec)) execLogicCard

/-- THE SECOND FORM's CARD OF 'scrivenerlaw21.ExecLogic'. -/
def execLogicUptoCard : Claim7 := { stood := { row := execLogicUptoRow, standIns := [], harness := (true, "a138ee7f66fe5cb87f054c827923c1107187159c3bdbf714660efca86baf3bd8"), looks := false }, kinds := [], alts := [], laidByText := true, laidKinds := [.data, .data, .data, .data, .pinned, .pinned], laidTests := true, laidLooks := .later }
def ExecLogicUptoCardSaid : Prop := Claim7.holds Tryz.pinned (.plain (OpenSpec.upto execLogicSpec)) execLogicUptoCard
end Rows
end Go.Proofs.YtlcomegfkcgjjaaGreatDoor
