/-
  DERIVED. GIVEN WITH THE SEED: THE CARDS: each row of YtnlgajlmjkfecaaGreatDoorRows.lean that lists a variable, with what it lists TIED to the program's text (the seventh form; the later family's looks); each row that meets fmt, with fmt's text TOLD by the authors' own Lean function (tested against real Go, not proved from fmt's source: count such statements apart). THE CARD IS WHAT COUNTS. Prove the row's statement (the work); the ties are given (YtnlgajlmjkfecaaGreatDoorTie.lean); close each card by the builder's one call (the guide's Derived/Test/ToyasCard.lean, 'card_holds'). Laid BY PROGRAM, IN A SANDBOX (cutbox-door.mjs). By AI agents, Wed Nov 11 2026. No macro, syntax, notation, axiom, sorry.
-/
import Derived.Test.YtnlgajlmjkfecaaGreatDoorRows
import GoSem.ClaimSeven
namespace Go.Proofs.YtnlgajlmjkfecaaGreatDoor
namespace Rows

/-- THE TIED CARD OF 'wakemanlaw43.BoundValues'. -/
def boundValuesCard : Claim7 := { stood := { row := boundValuesRow, standIns := [], harness := (true, "569e655534655e8bb13d0b21a8557f6a76b2d1c2e856c640a32d2466c24b80d3"), looks := false }, kinds := [], alts := [], laidByText := true, laidKinds := [.data, .data, .listed, .data, .pinned], laidTests := true, laidLooks := .later }
def BoundValuesCardSaid : Prop := Claim7.holds Tryz.pinned (.plain (OpenSpec.ofChange boundValuesSpec)) boundValuesCard

/-- THE TIED CARD OF 'wakemanlaw43.BoundHolds'. -/
def boundHoldsCard : Claim7 := { stood := { row := boundHoldsRow, standIns := [], harness := (true, "569e655534655e8bb13d0b21a8557f6a76b2d1c2e856c640a32d2466c24b80d3"), looks := false }, kinds := [], alts := [], laidByText := true, laidKinds := [.data, .data, .listed, .data, .pinned], laidTests := true, laidLooks := .later }
def BoundHoldsCardSaid : Prop := Claim7.holds Tryz.pinned (.plain (OpenSpec.ofChange boundHoldsSpec)) boundHoldsCard

/-- THE TIED CARD OF 'wakemanlaw43.BoundParts'. -/
def boundPartsCard : Claim7 := { stood := { row := boundPartsRow, standIns := [], harness := (true, "569e655534655e8bb13d0b21a8557f6a76b2d1c2e856c640a32d2466c24b80d3"), looks := false }, kinds := [], alts := [], laidByText := true, laidKinds := [.data, .data, .listed, .data, .pinned], laidTests := true, laidLooks := .later }
def BoundPartsCardSaid : Prop := Claim7.holds Tryz.pinned (.plain (OpenSpec.ofChange boundPartsSpec)) boundPartsCard

/-- THE TIED CARD OF 'wakemanlaw43.BoundLoads'. -/
def boundLoadsCard : Claim7 := { stood := { row := boundLoadsRow, standIns := [], harness := (true, "569e655534655e8bb13d0b21a8557f6a76b2d1c2e856c640a32d2466c24b80d3"), looks := false }, kinds := [], alts := [], laidByText := true, laidKinds := [.data, .data, .listed, .data, .pinned], laidTests := true, laidLooks := .later }
def BoundLoadsCardSaid : Prop := Claim7.holds Tryz.pinned (.plain (OpenSpec.ofChange boundLoadsSpec)) boundLoadsCard

/-- THE TIED CARD OF 'wakemanlaw43.BoundGrows'. -/
def boundGrowsCard : Claim7 := { stood := { row := boundGrowsRow, standIns := [], harness := (true, "569e655534655e8bb13d0b21a8557f6a76b2d1c2e856c640a32d2466c24b80d3"), looks := false }, kinds := [], alts := [], laidByText := true, laidKinds := [.data, .data, .listed, .data, .pinned], laidTests := true, laidLooks := .later }
def BoundGrowsCardSaid : Prop := Claim7.holds Tryz.pinned (.plain (OpenSpec.ofChange boundGrowsSpec)) boundGrowsCard

/-- THE TIED CARD OF 'wakemanlaw43.BoundLates'. -/
def boundLatesCard : Claim7 := { stood := { row := boundLatesRow, standIns := [], harness := (true, "569e655534655e8bb13d0b21a8557f6a76b2d1c2e856c640a32d2466c24b80d3"), looks := false }, kinds := [], alts := [], laidByText := true, laidKinds := [.data, .data, .listed, .data, .pinned], laidTests := true, laidLooks := .later }
def BoundLatesCardSaid : Prop := Claim7.holds Tryz.pinned (.plain (OpenSpec.ofChange boundLatesSpec)) boundLatesCard

/-- THE SECOND FORM's CARD OF 'wakemanlaw43.BoundValues'. -/
def boundValuesUptoCard : Claim7 := { stood := { row := boundValuesUptoRow, standIns := [], harness := (true, "569e655534655e8bb13d0b21a8557f6a76b2d1c2e856c640a32d2466c24b80d3"), looks := false }, kinds := [], alts := [], laidByText := true, laidKinds := [.data, .data, .listed, .data, .pinned], laidTests := true, laidLooks := .later }
def BoundValuesUptoCardSaid : Prop := Claim7.holds Tryz.pinned (.plain (OpenSpec.upto boundValuesSpec)) boundValuesUptoCard

/-- THE SECOND FORM's CARD OF 'wakemanlaw43.BoundHolds'. -/
def boundHoldsUptoCard : Claim7 := { stood := { row := boundHoldsUptoRow, standIns := [], harness := (true, "569e655534655e8bb13d0b21a8557f6a76b2d1c2e856c640a32d2466c24b80d3"), looks := false }, kinds := [], alts := [], laidByText := true, laidKinds := [.data, .data, .listed, .data, .pinned], laidTests := true, laidLooks := .later }
def BoundHoldsUptoCardSaid : Prop := Claim7.holds Tryz.pinned (.plain (OpenSpec.upto boundHoldsSpec)) boundHoldsUptoCard

/-- THE SECOND FORM's CARD OF 'wakemanlaw43.BoundParts'. -/
def boundPartsUptoCard : Claim7 := { stood := { row := boundPartsUptoRow, standIns := [], harness := (true, "569e655534655e8bb13d0b21a8557f6a76b2d1c2e856c640a32d2466c24b80d3"), looks := false }, kinds := [], alts := [], laidByText := true, laidKinds := [.data, .data, .listed, .data, .pinned], laidTests := true, laidLooks := .later }
def BoundPartsUptoCardSaid : Prop := Claim7.holds Tryz.pinned (.plain (OpenSpec.upto boundPartsSpec)) boundPartsUptoCard

/-- THE SECOND FORM's CARD OF 'wakemanlaw43.BoundLoads'. -/
def boundLoadsUptoCard : Claim7 := { stood := { row := boundLoadsUptoRow, standIns := [], harness := (true, "569e655534655e8bb13d0b21a8557f6a76b2d1c2e856c640a32d2466c24b80d3"), looks := false }, kinds := [], alts := [], laidByText := true, laidKinds := [.data, .data, .listed, .data, .pinned], laidTests := true, laidLooks := .later }
def BoundLoadsUptoCardSaid : Prop := Claim7.holds Tryz.pinned (.plain (OpenSpec.upto boundLoadsSpec)) boundLoadsUptoCard

/-- THE SECOND FORM's CARD OF 'wakemanlaw43.BoundGrows'. -/
def boundGrowsUptoCard : Claim7 := { stood := { row := boundGrowsUptoRow, standIns := [], harness := (true, "569e655534655e8bb13d0b21a8557f6a76b2d1c2e856c640a32d2466c24b80d3"), looks := false }, kinds := [], alts := [], laidByText := true, laidKinds := [.data, .data, .listed, .data, .pinned], laidTests := true, laidLooks := .later }
def BoundGrowsUptoCardSaid : Prop := Claim7.holds Tryz.pinned (.plain (OpenSpec.upto boundGrowsSpec)) boundGrowsUptoCard

/-- THE SECOND FORM's CARD OF 'wakemanlaw43.BoundLates'. -/
def boundLatesUptoCard : Claim7 := { stood := { row := boundLatesUptoRow, standIns := [], harness := (true, "569e655534655e8bb13d0b21a8557f6a76b2d1c2e856c640a32d2466c24b80d3"), looks := false }, kinds := [], alts := [], laidByText := true, laidKinds := [.data, .data, .listed, .data, .pinned], laidTests := true, laidLooks := .later }
def BoundLatesUptoCardSaid : Prop := Claim7.holds Tryz.pinned (.plain (OpenSpec.upto boundLatesSpec)) boundLatesUptoCard
end Rows
end Go.Proofs.YtnlgajlmjkfecaaGreatDoor
