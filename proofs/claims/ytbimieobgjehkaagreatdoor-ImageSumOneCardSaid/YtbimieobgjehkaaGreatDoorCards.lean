/-
  DERIVED. GIVEN WITH THE SEED: THE CARDS: each row of YtbimieobgjehkaaGreatDoorRows.lean that lists a variable, with what it lists TIED to the program's text (the seventh form; the later family's looks); each row that meets fmt, with fmt's text TOLD by the authors' own Lean function (tested against real Go, not proved from fmt's source: count such statements apart). THE CARD IS WHAT COUNTS. Prove the row's statement (the work); the ties are given (YtbimieobgjehkaaGreatDoorTie.lean); close each card by the builder's one call (the guide's Derived/Test/ToyasCard.lean, 'card_holds'). Laid BY PROGRAM, IN A SANDBOX (cutbox-door.mjs). By AI agents, Wed Nov 11 2026. No macro, syntax, notation, axiom, sorry.
-/
import Derived.Test.YtbimieobgjehkaaGreatDoorRows
import GoSem.ClaimSeven
namespace Go.Proofs.YtbimieobgjehkaaGreatDoor
namespace Rows

/-- THE TIED CARD OF 'wakemanlaw41.ImageSums'. -/
def imageSumsCard : Claim7 := { stood := { row := imageSumsRow, standIns := [], harness := (true, "0d2601a6db694e2857f510b221036de8b374dee3124b90b3a1a325e74856ef00"), looks := true }, kinds := [], alts := [], laidByText := true, laidKinds := [.data, .data, .wider, .listed, .data, .pinned], laidTests := true, laidLooks := .later }
def ImageSumsCardSaid : Prop := Claim7.holds Tryz.pinned (.plain (OpenSpec.ofChange imageSumsSpec)) imageSumsCard

/-- THE TIED CARD OF 'wakemanlaw41.ImageNil'. -/
def imageNilCard : Claim7 := { stood := { row := imageNilRow, standIns := [], harness := (true, "0d2601a6db694e2857f510b221036de8b374dee3124b90b3a1a325e74856ef00"), looks := true }, kinds := [], alts := [], laidByText := true, laidKinds := [.data, .data, .wider, .listed, .data, .pinned], laidTests := true, laidLooks := .later }
def ImageNilCardSaid : Prop := Claim7.holds Tryz.pinned (.plain (OpenSpec.ofChange imageNilSpec)) imageNilCard

/-- THE TIED CARD OF 'wakemanlaw41.ImageSumOne'. -/
def imageSumOneCard : Claim7 := { stood := { row := imageSumOneRow, standIns := [], harness := (true, "0d2601a6db694e2857f510b221036de8b374dee3124b90b3a1a325e74856ef00"), looks := true }, kinds := [], alts := [], laidByText := true, laidKinds := [.data, .data, .wider, .listed, .data, .pinned], laidTests := true, laidLooks := .later }
def ImageSumOneCardSaid : Prop := Claim7.holds Tryz.pinned (.plain (OpenSpec.ofChange imageSumOneSpec)) imageSumOneCard

/-- THE SECOND FORM's CARD OF 'wakemanlaw41.ImageSums'. -/
def imageSumsUptoCard : Claim7 := { stood := { row := imageSumsUptoRow, standIns := [], harness := (true, "0d2601a6db694e2857f510b221036de8b374dee3124b90b3a1a325e74856ef00"), looks := true }, kinds := [], alts := [], laidByText := true, laidKinds := [.data, .data, .wider, .listed, .data, .pinned], laidTests := true, laidLooks := .later }
def ImageSumsUptoCardSaid : Prop := Claim7.holds Tryz.pinned (.plain (OpenSpec.upto imageSumsSpec)) imageSumsUptoCard

/-- THE SECOND FORM's CARD OF 'wakemanlaw41.ImageNil'. -/
def imageNilUptoCard : Claim7 := { stood := { row := imageNilUptoRow, standIns := [], harness := (true, "0d2601a6db694e2857f510b221036de8b374dee3124b90b3a1a325e74856ef00"), looks := true }, kinds := [], alts := [], laidByText := true, laidKinds := [.data, .data, .wider, .listed, .data, .pinned], laidTests := true, laidLooks := .later }
def ImageNilUptoCardSaid : Prop := Claim7.holds Tryz.pinned (.plain (OpenSpec.upto imageNilSpec)) imageNilUptoCard

/-- THE SECOND FORM's CARD OF 'wakemanlaw41.ImageSumOne'. -/
def imageSumOneUptoCard : Claim7 := { stood := { row := imageSumOneUptoRow, standIns := [], harness := (true, "0d2601a6db694e2857f510b221036de8b374dee3124b90b3a1a325e74856ef00"), looks := true }, kinds := [], alts := [], laidByText := true, laidKinds := [.data, .data, .wider, .listed, .data, .pinned], laidTests := true, laidLooks := .later }
def ImageSumOneUptoCardSaid : Prop := Claim7.holds Tryz.pinned (.plain (OpenSpec.upto imageSumOneSpec)) imageSumOneUptoCard
end Rows
end Go.Proofs.YtbimieobgjehkaaGreatDoor
