/-
  DERIVED. GIVEN WITH THE SEED: THE CARDS: each row of YtgnblahckpipiaaGreatDoorRows.lean that lists a variable, with what it lists TIED to the program's text (the seventh form; the later family's looks); each row that meets fmt, with fmt's text TOLD by the authors' own Lean function (tested against real Go, not proved from fmt's source: count such statements apart). THE CARD IS WHAT COUNTS. Prove the row's statement (the work); the ties are given (YtgnblahckpipiaaGreatDoorTie.lean); close each card by the builder's one call (the guide's Derived/Test/ToyasCard.lean, 'card_holds'). Laid BY PROGRAM, IN A SANDBOX (cutbox-door.mjs). By AI agents, Wed Nov 11 2026. No macro, syntax, notation, axiom, sorry.
-/
import Derived.Test.YtgnblahckpipiaaGreatDoorRows
import GoSem.ClaimSeven
namespace Go.Proofs.YtgnblahckpipiaaGreatDoor
namespace Rows

/-- THE TIED CARD OF 'wakemanlaw42.JournalNil'. -/
def journalNilCard : Claim7 := { stood := { row := journalNilRow, standIns := [], harness := (true, "3bff3ba9d0dc7078757c5172fc67ccdeb8ccbe66e62503d8e9225a2b940232c4"), looks := true }, kinds := [], alts := [], laidByText := true, laidKinds := [.data, .data, .data, .data, .wider, .sentinel, .sentinel, .listed, .data, .pinned], laidTests := true, laidLooks := .later }
def JournalNilCardSaid : Prop := Claim7.holds Tryz.pinned (.plain (OpenSpec.ofChange journalNilSpec)) journalNilCard

/-- THE SECOND FORM's CARD OF 'wakemanlaw42.JournalNil'. -/
def journalNilUptoCard : Claim7 := { stood := { row := journalNilUptoRow, standIns := [], harness := (true, "3bff3ba9d0dc7078757c5172fc67ccdeb8ccbe66e62503d8e9225a2b940232c4"), looks := true }, kinds := [], alts := [], laidByText := true, laidKinds := [.data, .data, .data, .data, .wider, .sentinel, .sentinel, .listed, .data, .pinned], laidTests := true, laidLooks := .later }
def JournalNilUptoCardSaid : Prop := Claim7.holds Tryz.pinned (.plain (OpenSpec.upto journalNilSpec)) journalNilUptoCard
end Rows
end Go.Proofs.YtgnblahckpipiaaGreatDoor
