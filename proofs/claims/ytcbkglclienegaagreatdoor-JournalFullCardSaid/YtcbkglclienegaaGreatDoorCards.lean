/-
  DERIVED. GIVEN WITH THE SEED: THE CARDS: each row of YtcbkglclienegaaGreatDoorRows.lean that lists a variable, with what it lists TIED to the program's text (the seventh form; the later family's looks); each row that meets fmt, with fmt's text TOLD by the authors' own Lean function (tested against real Go, not proved from fmt's source: count such statements apart). THE CARD IS WHAT COUNTS. Prove the row's statement (the work); the ties are given (YtcbkglclienegaaGreatDoorTie.lean); close each card by the builder's one call (the guide's Derived/Test/ToyasCard.lean, 'card_holds'). Laid BY PROGRAM, IN A SANDBOX (cutbox-door.mjs). By AI agents, Wed Nov 11 2026. No macro, syntax, notation, axiom, sorry.
-/
import Derived.Test.YtcbkglclienegaaGreatDoorRows
import GoSem.ClaimSeven
namespace Go.Proofs.YtcbkglclienegaaGreatDoor
namespace Rows

/-- THE TIED CARD OF 'wakemanlaw42.JournalFull'. -/
def journalFullCard : Claim7 := { stood := { row := journalFullRow, standIns := [], harness := (true, "8153b7a9693361c0df44feba32d5e203cb5f9dd7358b8c4f014e0112e4ff1bc1"), looks := true }, kinds := [], alts := [], laidByText := true, laidKinds := [.data, .data, .data, .data, .wider, .sentinel, .sentinel, .listed, .data, .pinned], laidTests := true, laidLooks := .later }
def JournalFullCardSaid : Prop := Claim7.holds Tryz.pinned (.plain (OpenSpec.ofChange journalFullSpec)) journalFullCard

/-- THE SECOND FORM's CARD OF 'wakemanlaw42.JournalFull'. -/
def journalFullUptoCard : Claim7 := { stood := { row := journalFullUptoRow, standIns := [], harness := (true, "8153b7a9693361c0df44feba32d5e203cb5f9dd7358b8c4f014e0112e4ff1bc1"), looks := true }, kinds := [], alts := [], laidByText := true, laidKinds := [.data, .data, .data, .data, .wider, .sentinel, .sentinel, .listed, .data, .pinned], laidTests := true, laidLooks := .later }
def JournalFullUptoCardSaid : Prop := Claim7.holds Tryz.pinned (.plain (OpenSpec.upto journalFullSpec)) journalFullUptoCard
end Rows
end Go.Proofs.YtcbkglclienegaaGreatDoor
