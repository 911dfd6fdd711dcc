/-
  DERIVED. GIVEN WITH THE SEED: THE CARDS: each row of YthblcnkmhnpgiaaGreatDoorRows.lean that lists a variable, with what it lists TIED to the program's text (the seventh form; the later family's looks); each row that meets fmt, with fmt's text TOLD by the authors' own Lean function (tested against real Go, not proved from fmt's source: count such statements apart). THE CARD IS WHAT COUNTS. Prove the row's statement (the work); the ties are given (YthblcnkmhnpgiaaGreatDoorTie.lean); close each card by the builder's one call (the guide's Derived/Test/ToyasCard.lean, 'card_holds'). Laid BY PROGRAM, IN A SANDBOX (cutbox-door.mjs). By AI agents, Wed Nov 11 2026. No macro, syntax, notation, axiom, sorry.
-/
import Derived.Test.YthblcnkmhnpgiaaGreatDoorRows
import GoSem.ClaimSeven
namespace Go.Proofs.YthblcnkmhnpgiaaGreatDoor
namespace Rows

/-- THE TIED CARD OF 'wakemanlaw44.WitnessNames'. -/
def witnessNamesCard : Claim7 := { stood := { row := witnessNamesRow, standIns := [], harness := (true, "2410436e23b2518dd52b491da9f84dd65dd60c83fed2e0f74b5b1bbeaf8ab205"), looks := false }, kinds := [], alts := [], laidByText := true, laidKinds := [.data, .data, .data, .data, .wider, .listed, .data, .pinned], laidTests := true, laidLooks := .later }
def WitnessNamesCardSaid : Prop := Claim7.holds Tryz.pinned (.plain (OpenSpec.ofChange witnessNamesSpec)) witnessNamesCard

/-- THE TIED CARD OF 'wakemanlaw44.WitnessKnown'. -/
def witnessKnownCard : Claim7 := { stood := { row := witnessKnownRow, standIns := [], harness := (true, "2410436e23b2518dd52b491da9f84dd65dd60c83fed2e0f74b5b1bbeaf8ab205"), looks := false }, kinds := [], alts := [], laidByText := true, laidKinds := [.data, .data, .data, .data, .wider, .listed, .data, .pinned], laidTests := true, laidLooks := .later }
def WitnessKnownCardSaid : Prop := Claim7.holds Tryz.pinned (.plain (OpenSpec.ofChange witnessKnownSpec)) witnessKnownCard

/-- THE SECOND FORM's CARD OF 'wakemanlaw44.WitnessNames'. -/
def witnessNamesUptoCard : Claim7 := { stood := { row := witnessNamesUptoRow, standIns := [], harness := (true, "2410436e23b2518dd52b491da9f84dd65dd60c83fed2e0f74b5b1bbeaf8ab205"), looks := false }, kinds := [], alts := [], laidByText := true, laidKinds := [.data, .data, .data, .data, .wider, .listed, .data, .pinned], laidTests := true, laidLooks := .later }
def WitnessNamesUptoCardSaid : Prop := Claim7.holds Tryz.pinned (.plain (OpenSpec.upto witnessNamesSpec)) witnessNamesUptoCard

/-- THE SECOND FORM's CARD OF 'wakemanlaw44.WitnessKnown'. -/
def witnessKnownUptoCard : Claim7 := { stood := { row := witnessKnownUptoRow, standIns := [], harness := (true, "2410436e23b2518dd52b491da9f84dd65dd60c83fed2e0f74b5b1bbeaf8ab205"), looks := false }, kinds := [], alts := [], laidByText := true, laidKinds := [.data, .data, .data, .data, .wider, .listed, .data, .pinned], laidTests := true, laidLooks := .later }
def WitnessKnownUptoCardSaid : Prop := Claim7.holds Tryz.pinned (.plain (OpenSpec.upto witnessKnownSpec)) witnessKnownUptoCard
end Rows
end Go.Proofs.YthblcnkmhnpgiaaGreatDoor
