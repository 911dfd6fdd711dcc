/-
  DERIVED. GIVEN WITH THE SEED: THE CARDS: each row of YtnfneelenjeopaaGreatDoorRows.lean that lists a variable, with what it lists TIED to the program's text (the seventh form; the later family's looks); each row that meets fmt, with fmt's text TOLD by the authors' own Lean function (tested against real Go, not proved from fmt's source: count such statements apart). THE CARD IS WHAT COUNTS. Prove the row's statement (the work); the ties are given (YtnfneelenjeopaaGreatDoorTie.lean); close each card by the builder's one call (the guide's Derived/Test/ToyasCard.lean, 'card_holds'). Laid BY PROGRAM, IN A SANDBOX (cutbox-door.mjs). By AI agents, Wed Nov 11 2026. No macro, syntax, notation, axiom, sorry.
-/
import Derived.Test.YtnfneelenjeopaaGreatDoorRows
import GoSem.ClaimSeven
namespace Go.Proofs.YtnfneelenjeopaaGreatDoor
namespace Rows

/-- THE TIED CARD OF 'wakemanlaw43.BoundKnown'. -/
def boundKnownCard : Claim7 := { stood := { row := boundKnownRow, standIns := [], harness := (true, "beeef29969ca7e7ec3a51ea5e2dfb4501a5c0e1cf4a5afbb03b656b5e45c2d95"), looks := false }, kinds := [], alts := [], laidByText := true, laidKinds := [.data, .data, .wider, .listed, .data, .pinned], laidTests := true, laidLooks := .later }
def BoundKnownCardSaid : Prop := Claim7.holds Tryz.pinned (.plain (OpenSpec.ofChange boundKnownSpec)) boundKnownCard

/-- THE TIED CARD OF 'wakemanlaw44.WitnessNames'. -/
def witnessNamesCard : Claim7 := { stood := { row := witnessNamesRow, standIns := [], harness := (true, "beeef29969ca7e7ec3a51ea5e2dfb4501a5c0e1cf4a5afbb03b656b5e45c2d95"), looks := false }, kinds := [], alts := [], laidByText := true, laidKinds := [.data, .data, .data, .data, .wider, .listed, .data, .pinned], laidTests := true, laidLooks := .later }
def WitnessNamesCardSaid : Prop := Claim7.holds Tryz.pinned (.plain (OpenSpec.ofChange witnessNamesSpec)) witnessNamesCard

/-- THE TIED CARD OF 'wakemanlaw44.WitnessKnown'. -/
def witnessKnownCard : Claim7 := { stood := { row := witnessKnownRow, standIns := [], harness := (true, "beeef29969ca7e7ec3a51ea5e2dfb4501a5c0e1cf4a5afbb03b656b5e45c2d95"), looks := false }, kinds := [], alts := [], laidByText := true, laidKinds := [.data, .data, .data, .data, .wider, .listed, .data, .pinned], laidTests := true, laidLooks := .later }
def WitnessKnownCardSaid : Prop := Claim7.holds Tryz.pinned (.plain (OpenSpec.ofChange witnessKnownSpec)) witnessKnownCard

/-- THE SECOND FORM's CARD OF 'wakemanlaw43.BoundKnown'. -/
def boundKnownUptoCard : Claim7 := { stood := { row := boundKnownUptoRow, standIns := [], harness := (true, "beeef29969ca7e7ec3a51ea5e2dfb4501a5c0e1cf4a5afbb03b656b5e45c2d95"), looks := false }, kinds := [], alts := [], laidByText := true, laidKinds := [.data, .data, .wider, .listed, .data, .pinned], laidTests := true, laidLooks := .later }
def BoundKnownUptoCardSaid : Prop := Claim7.holds Tryz.pinned (.plain (OpenSpec.upto boundKnownSpec)) boundKnownUptoCard

/-- THE SECOND FORM's CARD OF 'wakemanlaw44.WitnessNames'. -/
def witnessNamesUptoCard : Claim7 := { stood := { row := witnessNamesUptoRow, standIns := [], harness := (true, "beeef29969ca7e7ec3a51ea5e2dfb4501a5c0e1cf4a5afbb03b656b5e45c2d95"), looks := false }, kinds := [], alts := [], laidByText := true, laidKinds := [.data, .data, .data, .data, .wider, .listed, .data, .pinned], laidTests := true, laidLooks := .later }
def WitnessNamesUptoCardSaid : Prop := Claim7.holds Tryz.pinned (.plain (OpenSpec.upto witnessNamesSpec)) witnessNamesUptoCard

/-- THE SECOND FORM's CARD OF 'wakemanlaw44.WitnessKnown'. -/
def witnessKnownUptoCard : Claim7 := { stood := { row := witnessKnownUptoRow, standIns := [], harness := (true, "beeef29969ca7e7ec3a51ea5e2dfb4501a5c0e1cf4a5afbb03b656b5e45c2d95"), looks := false }, kinds := [], alts := [], laidByText := true, laidKinds := [.data, .data, .data, .data, .wider, .listed, .data, .pinned], laidTests := true, laidLooks := .later }
def WitnessKnownUptoCardSaid : Prop := Claim7.holds Tryz.pinned (.plain (OpenSpec.upto witnessKnownSpec)) witnessKnownUptoCard
end Rows
end Go.Proofs.YtnfneelenjeopaaGreatDoor
