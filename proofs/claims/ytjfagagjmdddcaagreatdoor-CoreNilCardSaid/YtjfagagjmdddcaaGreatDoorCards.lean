/-
  DERIVED. GIVEN WITH THE SEED: THE CARDS: each row of YtjfagagjmdddcaaGreatDoorRows.lean that lists a variable, with what it lists TIED to the program's text (the seventh form; the later family's looks); each row that meets fmt, with fmt's text TOLD by the authors' own Lean function (tested against real Go, not proved from fmt's source: count such statements apart). THE CARD IS WHAT COUNTS. Prove the row's statement (the work); the ties are given (YtjfagagjmdddcaaGreatDoorTie.lean); close each card by the builder's one call (the guide's Derived/Test/ToyasCard.lean, 'card_holds'). Laid BY PROGRAM, IN A SANDBOX (cutbox-door.mjs). By AI agents, Wed Nov 11 2026. No macro, syntax, notation, axiom, sorry.
-/
import Derived.Test.YtjfagagjmdddcaaGreatDoorRows
import GoSem.ClaimSeven
namespace Go.Proofs.YtjfagagjmdddcaaGreatDoor
namespace Rows

/-- THE TIED CARD OF 'wakemanlaw39.CoreNil'. -/
def coreNilCard : Claim7 := { stood := { row := coreNilRow, standIns := [], harness := (true, "8585c52f91726107d0b22a47d7a6d7a43627103cab87b19b66975076913d4853"), looks := false }, kinds := [], alts := [], laidByText := true, laidKinds := [.data, .data, .wider, .listed, .data, .pinned], laidTests := true, laidLooks := .later }
def CoreNilCardSaid : Prop := Claim7.holds Tryz.pinned (.plain (OpenSpec.ofChange coreNilSpec)) coreNilCard

/-- THE SECOND FORM's CARD OF 'wakemanlaw39.CoreNil'. -/
def coreNilUptoCard : Claim7 := { stood := { row := coreNilUptoRow, standIns := [], harness := (true, "8585c52f91726107d0b22a47d7a6d7a43627103cab87b19b66975076913d4853"), looks := false }, kinds := [], alts := [], laidByText := true, laidKinds := [.data, .data, .wider, .listed, .data, .pinned], laidTests := true, laidLooks := .later }
def CoreNilUptoCardSaid : Prop := Claim7.holds Tryz.pinned (.plain (OpenSpec.upto coreNilSpec)) coreNilUptoCard
end Rows
end Go.Proofs.YtjfagagjmdddcaaGreatDoor
