/-
  DERIVED. GIVEN WITH THE SEED: THE CARDS: each row of YtdabjinnlagdgaaGreatDoorRows.lean that lists a variable, with what it lists TIED to the program's text (the seventh form; the later family's looks); each row that meets fmt, with fmt's text TOLD by the authors' own Lean function (tested against real Go, not proved from fmt's source: count such statements apart). THE CARD IS WHAT COUNTS. Prove the row's statement (the work); the ties are given (YtdabjinnlagdgaaGreatDoorTie.lean); close each card by the builder's one call (the guide's Derived/Test/ToyasCard.lean, 'card_holds'). Laid BY PROGRAM, IN A SANDBOX (cutbox-door.mjs). By AI agents, Wed Nov 11 2026. No macro, syntax, notation, axiom, sorry.
-/
import Derived.Test.YtdabjinnlagdgaaGreatDoorRows
import GoSem.ClaimSeven
namespace Go.Proofs.YtdabjinnlagdgaaGreatDoor
namespace Rows

/-- THE TIED CARD OF 'wakemanlaw43.BoundGrows'. -/
def boundGrowsCard : Claim7 := { stood := { row := boundGrowsRow, standIns := [], harness := (true, "241e5d0ff409d84c8a2432ba391a55822fcc1872f1ede8fd66df9bed34b2e2fc"), looks := false }, kinds := [], alts := [], laidByText := true, laidKinds := [.data, .data, .listed, .data, .pinned], laidTests := true, laidLooks := .later }
def BoundGrowsCardSaid : Prop := Claim7.holds Tryz.pinned (.plain (OpenSpec.ofChange boundGrowsSpec)) boundGrowsCard

/-- THE SECOND FORM's CARD OF 'wakemanlaw43.BoundGrows'. -/
def boundGrowsUptoCard : Claim7 := { stood := { row := boundGrowsUptoRow, standIns := [], harness := (true, "241e5d0ff409d84c8a2432ba391a55822fcc1872f1ede8fd66df9bed34b2e2fc"), looks := false }, kinds := [], alts := [], laidByText := true, laidKinds := [.data, .data, .listed, .data, .pinned], laidTests := true, laidLooks := .later }
def BoundGrowsUptoCardSaid : Prop := Claim7.holds Tryz.pinned (.plain (OpenSpec.upto boundGrowsSpec)) boundGrowsUptoCard
end Rows
end Go.Proofs.YtdabjinnlagdgaaGreatDoor
