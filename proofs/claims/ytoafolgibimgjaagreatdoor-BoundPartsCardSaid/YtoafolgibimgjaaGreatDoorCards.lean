/-
  DERIVED. GIVEN WITH THE SEED: THE CARDS: each row of YtoafolgibimgjaaGreatDoorRows.lean that lists a variable, with what it lists TIED to the program's text (the seventh form; the later family's looks); each row that meets fmt, with fmt's text TOLD by the authors' own Lean function (tested against real Go, not proved from fmt's source: count such statements apart). THE CARD IS WHAT COUNTS. Prove the row's statement (the work); the ties are given (YtoafolgibimgjaaGreatDoorTie.lean); close each card by the builder's one call (the guide's Derived/Test/ToyasCard.lean, 'card_holds'). Laid BY PROGRAM, IN A SANDBOX (cutbox-door.mjs). By AI agents, Wed Nov 11 2026. No macro, syntax, notation, axiom, sorry.
-/
import Derived.Test.YtoafolgibimgjaaGreatDoorRows
import GoSem.ClaimSeven
namespace Go.Proofs.YtoafolgibimgjaaGreatDoor
namespace Rows

/-- THE TIED CARD OF 'wakemanlaw43.BoundParts'. -/
def boundPartsCard : Claim7 := { stood := { row := boundPartsRow, standIns := [], harness := (true, "b03f4b6dc4a6c82349dff4ec553a16bf7b211a0b26f1a2d4398857ed6583ab97"), looks := false }, kinds := [], alts := [], laidByText := true, laidKinds := [.data, .data, .listed, .data, .pinned], laidTests := true, laidLooks := .later }
def BoundPartsCardSaid : Prop := Claim7.holds Tryz.pinned (.plain (OpenSpec.ofChange boundPartsSpec)) boundPartsCard

/-- THE TIED CARD OF 'wakemanlaw43.BoundLoads'. -/
def boundLoadsCard : Claim7 := { stood := { row := boundLoadsRow, standIns := [], harness := (true, "b03f4b6dc4a6c82349dff4ec553a16bf7b211a0b26f1a2d4398857ed6583ab97"), looks := false }, kinds := [], alts := [], laidByText := true, laidKinds := [.data, .data, .listed, .data, .pinned], laidTests := true, laidLooks := .later }
def BoundLoadsCardSaid : Prop := Claim7.holds Tryz.pinned (.plain (OpenSpec.ofChange boundLoadsSpec)) boundLoadsCard

/-- THE SECOND FORM's CARD OF 'wakemanlaw43.BoundParts'. -/
def boundPartsUptoCard : Claim7 := { stood := { row := boundPartsUptoRow, standIns := [], harness := (true, "b03f4b6dc4a6c82349dff4ec553a16bf7b211a0b26f1a2d4398857ed6583ab97"), looks := false }, kinds := [], alts := [], laidByText := true, laidKinds := [.data, .data, .listed, .data, .pinned], laidTests := true, laidLooks := .later }
def BoundPartsUptoCardSaid : Prop := Claim7.holds Tryz.pinned (.plain (OpenSpec.upto boundPartsSpec)) boundPartsUptoCard

/-- THE SECOND FORM's CARD OF 'wakemanlaw43.BoundLoads'. -/
def boundLoadsUptoCard : Claim7 := { stood := { row := boundLoadsUptoRow, standIns := [], harness := (true, "b03f4b6dc4a6c82349dff4ec553a16bf7b211a0b26f1a2d4398857ed6583ab97"), looks := false }, kinds := [], alts := [], laidByText := true, laidKinds := [.data, .data, .listed, .data, .pinned], laidTests := true, laidLooks := .later }
def BoundLoadsUptoCardSaid : Prop := Claim7.holds Tryz.pinned (.plain (OpenSpec.upto boundLoadsSpec)) boundLoadsUptoCard
end Rows
end Go.Proofs.YtoafolgibimgjaaGreatDoor
