/-
  DERIVED. GIVEN WITH THE SEED: THE CARDS: each row of YtofcbcpbglnogaaGreatDoorRows.lean that lists a variable, with what it lists TIED to the program's text (the seventh form; the later family's looks); each row that meets fmt, with fmt's text TOLD by the authors' own Lean function (tested against real Go, not proved from fmt's source: count such statements apart). THE CARD IS WHAT COUNTS. Prove the row's statement (the work); the ties are given (YtofcbcpbglnogaaGreatDoorTie.lean); close each card by the builder's one call (the guide's Derived/Test/ToyasCard.lean, 'card_holds'). Laid BY PROGRAM, IN A SANDBOX (cutbox-door.mjs). By AI agents, Wed Nov 11 2026. No macro, syntax, notation, axiom, sorry.
-/
import Derived.Test.YtofcbcpbglnogaaGreatDoorRows
import GoSem.ClaimSeven
namespace Go.Proofs.YtofcbcpbglnogaaGreatDoor
namespace Rows

/-- THE TIED CARD OF 'wakemanlaw40.PlaySplits'. -/
def playSplitsCard : Claim7 := { stood := { row := playSplitsRow, standIns := [], harness := (true, "5e26c72d65f53c151cdcd91ae8414b30da3d25f1866ee0ccc69158c8a9f8669c"), looks := false }, kinds := [], alts := [], laidByText := true, laidKinds := [.data, .data, .data, .data, .wider, .listed, .data, .widerDeep, .pinned], laidTests := true, laidLooks := .later }
def PlaySplitsCardSaid : Prop := Claim7.holds Tryz.pinned (.plain (OpenSpec.ofChange playSplitsSpec)) playSplitsCard

/-- THE SECOND FORM's CARD OF 'wakemanlaw40.PlaySplits'. -/
def playSplitsUptoCard : Claim7 := { stood := { row := playSplitsUptoRow, standIns := [], harness := (true, "5e26c72d65f53c151cdcd91ae8414b30da3d25f1866ee0ccc69158c8a9f8669c"), looks := false }, kinds := [], alts := [], laidByText := true, laidKinds := [.data, .data, .data, .data, .wider, .listed, .data, .widerDeep, .pinned], laidTests := true, laidLooks := .later }
def PlaySplitsUptoCardSaid : Prop := Claim7.holds Tryz.pinned (.plain (OpenSpec.upto playSplitsSpec)) playSplitsUptoCard
end Rows
end Go.Proofs.YtofcbcpbglnogaaGreatDoor
