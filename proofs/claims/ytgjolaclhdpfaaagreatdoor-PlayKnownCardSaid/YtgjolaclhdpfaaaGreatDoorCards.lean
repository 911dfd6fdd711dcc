/-
  DERIVED. GIVEN WITH THE SEED: THE CARDS: each row of YtgjolaclhdpfaaaGreatDoorRows.lean that lists a variable, with what it lists TIED to the program's text (the seventh form; the later family's looks); each row that meets fmt, with fmt's text TOLD by the authors' own Lean function (tested against real Go, not proved from fmt's source: count such statements apart). THE CARD IS WHAT COUNTS. Prove the row's statement (the work); the ties are given (YtgjolaclhdpfaaaGreatDoorTie.lean); close each card by the builder's one call (the guide's Derived/Test/ToyasCard.lean, 'card_holds'). Laid BY PROGRAM, IN A SANDBOX (cutbox-door.mjs). By AI agents, Wed Nov 11 2026. No macro, syntax, notation, axiom, sorry.
-/
import Derived.Test.YtgjolaclhdpfaaaGreatDoorRows
import GoSem.ClaimSeven
namespace Go.Proofs.YtgjolaclhdpfaaaGreatDoor
namespace Rows

/-- THE TIED CARD OF 'wakemanlaw40.PlaySplits'. -/
def playSplitsCard : Claim7 := { stood := { row := playSplitsRow, standIns := [], harness := (true, "688857a37bd3156a1254a8803d169a6cdcb93d389eaa53cb3d18eca196a222c1"), looks := false }, kinds := [], alts := [], laidByText := true, laidKinds := [.data, .data, .data, .data, .wider, .listed, .data, .widerDeep, .pinned], laidTests := true, laidLooks := .later }
def PlaySplitsCardSaid : Prop := Claim7.holds Tryz.pinned (.plain (OpenSpec.ofChange playSplitsSpec)) playSplitsCard

/-- THE TIED CARD OF 'wakemanlaw40.PlayKnown'. -/
def playKnownCard : Claim7 := { stood := { row := playKnownRow, standIns := [], harness := (true, "688857a37bd3156a1254a8803d169a6cdcb93d389eaa53cb3d18eca196a222c1"), looks := false }, kinds := [], alts := [], laidByText := true, laidKinds := [.data, .data, .data, .data, .wider, .listed, .data, .widerDeep, .pinned], laidTests := true, laidLooks := .later }
def PlayKnownCardSaid : Prop := Claim7.holds Tryz.pinned (.plain (OpenSpec.ofChange playKnownSpec)) playKnownCard

/-- THE SECOND FORM's CARD OF 'wakemanlaw40.PlaySplits'. -/
def playSplitsUptoCard : Claim7 := { stood := { row := playSplitsUptoRow, standIns := [], harness := (true, "688857a37bd3156a1254a8803d169a6cdcb93d389eaa53cb3d18eca196a222c1"), looks := false }, kinds := [], alts := [], laidByText := true, laidKinds := [.data, .data, .data, .data, .wider, .listed, .data, .widerDeep, .pinned], laidTests := true, laidLooks := .later }
def PlaySplitsUptoCardSaid : Prop := Claim7.holds Tryz.pinned (.plain (OpenSpec.upto playSplitsSpec)) playSplitsUptoCard

/-- THE SECOND FORM's CARD OF 'wakemanlaw40.PlayKnown'. -/
def playKnownUptoCard : Claim7 := { stood := { row := playKnownUptoRow, standIns := [], harness := (true, "688857a37bd3156a1254a8803d169a6cdcb93d389eaa53cb3d18eca196a222c1"), looks := false }, kinds := [], alts := [], laidByText := true, laidKinds := [.data, .data, .data, .data, .wider, .listed, .data, .widerDeep, .pinned], laidTests := true, laidLooks := .later }
def PlayKnownUptoCardSaid : Prop := Claim7.holds Tryz.pinned (.plain (OpenSpec.upto playKnownSpec)) playKnownUptoCard
end Rows
end Go.Proofs.YtgjolaclhdpfaaaGreatDoor
