/-
  DERIVED. GIVEN WITH THE SEED: THE CARDS: each row of YtmcmagheiijnhaaGreatDoorRows.lean that lists a variable, with what it lists TIED to the program's text (the seventh form; the later family's looks); each row that meets fmt, with fmt's text TOLD by the authors' own Lean function (tested against real Go, not proved from fmt's source: count such statements apart). THE CARD IS WHAT COUNTS. Prove the row's statement (the work); the ties are given (YtmcmagheiijnhaaGreatDoorTie.lean); close each card by the builder's one call (the guide's Derived/Test/ToyasCard.lean, 'card_holds'). Laid BY PROGRAM, IN A SANDBOX (cutbox-door.mjs). By AI agents, Wed Nov 11 2026. No macro, syntax, notation, axiom, sorry.
-/
import Derived.Test.YtmcmagheiijnhaaGreatDoorRows
import GoSem.ClaimSeven
namespace Go.Proofs.YtmcmagheiijnhaaGreatDoor
namespace Rows

/-- THE TIED CARD OF 'wakemanlaw43.BoundValues'. -/
def boundValuesCard : Claim7 := { stood := { row := boundValuesRow, standIns := [], harness := (true, "a09d63ba2abf818b8ae44f2b78e5e4c3d9326a1b69232e954b6caef90eea3ec7"), looks := false }, kinds := [], alts := [], laidByText := true, laidKinds := [.data, .data, .listed, .data, .pinned], laidTests := true, laidLooks := .later }
def BoundValuesCardSaid : Prop := Claim7.holds Tryz.pinned (.plain (OpenSpec.ofChange boundValuesSpec)) boundValuesCard

/-- THE TIED CARD OF 'wakemanlaw43.BoundHolds'. -/
def boundHoldsCard : Claim7 := { stood := { row := boundHoldsRow, standIns := [], harness := (true, "a09d63ba2abf818b8ae44f2b78e5e4c3d9326a1b69232e954b6caef90eea3ec7"), looks := false }, kinds := [], alts := [], laidByText := true, laidKinds := [.data, .data, .listed, .data, .pinned], laidTests := true, laidLooks := .later }
def BoundHoldsCardSaid : Prop := Claim7.holds Tryz.pinned (.plain (OpenSpec.ofChange boundHoldsSpec)) boundHoldsCard

/-- THE SECOND FORM's CARD OF 'wakemanlaw43.BoundValues'. -/
def boundValuesUptoCard : Claim7 := { stood := { row := boundValuesUptoRow, standIns := [], harness := (true, "a09d63ba2abf818b8ae44f2b78e5e4c3d9326a1b69232e954b6caef90eea3ec7"), looks := false }, kinds := [], alts := [], laidByText := true, laidKinds := [.data, .data, .listed, .data, .pinned], laidTests := true, laidLooks := .later }
def BoundValuesUptoCardSaid : Prop := Claim7.holds Tryz.pinned (.plain (OpenSpec.upto boundValuesSpec)) boundValuesUptoCard

/-- THE SECOND FORM's CARD OF 'wakemanlaw43.BoundHolds'. -/
def boundHoldsUptoCard : Claim7 := { stood := { row := boundHoldsUptoRow, standIns := [], harness := (true, "a09d63ba2abf818b8ae44f2b78e5e4c3d9326a1b69232e954b6caef90eea3ec7"), looks := false }, kinds := [], alts := [], laidByText := true, laidKinds := [.data, .data, .listed, .data, .pinned], laidTests := true, laidLooks := .later }
def BoundHoldsUptoCardSaid : Prop := Claim7.holds Tryz.pinned (.plain (OpenSpec.upto boundHoldsSpec)) boundHoldsUptoCard
end Rows
end Go.Proofs.YtmcmagheiijnhaaGreatDoor
