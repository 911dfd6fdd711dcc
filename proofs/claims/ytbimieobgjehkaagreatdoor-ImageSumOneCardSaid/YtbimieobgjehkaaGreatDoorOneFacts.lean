/- The closed facts that the row of ImageSumOne asks of the program. -/
import Derived.Test.YtbimieobgjehkaaGreatDoorRows
import Derived.JoinedOf
import Derived.SevenTiedAt
import Derived.KernelRfl
set_option linter.all false
namespace Go.Proofs.YtbimieobgjehkaaGreatDoor.ImageSumOneFacts
open Go
theorem fact1 : (Rows.imageSumOneRow.wf (OpenSpec.ofChange Rows.imageSumOneSpec)) = true := by kernel_rfl
theorem fact2 : (laidOutB Tryz.prog) = true := by kernel_rfl
theorem fact3 : (mapsRowed Tryz.prog) = true := by kernel_rfl
theorem fact4 : (Tryz.f5.params.all (Tryz.prog.readableRec ·)) = true := by kernel_rfl
theorem fact5 : (namedTie Tryz.prog Rows.imageSumOneRow.named Rows.imageSumOneSpec.vars) = true := by kernel_rfl
theorem fact6 : ((Rows.imageSumOneRow.stops == [])) = true := by kernel_rfl
theorem fact7 : ((Tryz.prog.stops == [])) = true := by kernel_rfl
theorem fact8 : ((Rows.imageSumOneRow.knobs == [])) = true := by kernel_rfl
theorem fact9 : ((Tryz.prog.stopKnobs == [])) = true := by kernel_rfl
theorem fact10 : ((Rows.imageSumOneRow.inPlace == Tryz.prog.inPlace 5)) = true := by kernel_rfl
theorem fact11 : ((Rows.imageSumOneRow.unfollowed == Tryz.prog.unfollowed 5)) = true := by kernel_rfl
theorem fact12 : ((Rows.imageSumOneRow.recurses == Tryz.prog.recurses 5)) = true := by kernel_rfl
theorem fact13 : ((Rows.imageSumOneRow.named == Tryz.prog.varsNamed 5)) = true := by kernel_rfl
theorem fact14 : ((Rows.imageSumOneRow.maps == (Tryz.f5.params.toList ++ Rows.imageSumOneSpec.plain.varTypes Tryz.prog).any (Tryz.prog.mapsRec ·))) = true := by kernel_rfl
theorem fact15 : ((Rows.imageSumOneRow.ifaces == (Tryz.f5.params.toList ++ Rows.imageSumOneSpec.plain.varTypes Tryz.prog).any (Tryz.prog.ifacesRec ·))) = true := by kernel_rfl
theorem fact16 : ((Rows.imageSumOneRow.mapsOut == Tryz.prog.mapsAmong Tryz.f5.resultTypes.toList)) = true := by kernel_rfl
theorem fact17 : ((Rows.imageSumOneRow.loops == (Tryz.f5.params.toList ++ Rows.imageSumOneSpec.plain.varTypes Tryz.prog).any (Tryz.prog.loopsFrom ·))) = true := by kernel_rfl
theorem fact18 : ((Rows.imageSumOneRow.wideKeys == (Tryz.f5.params.toList ++ Rows.imageSumOneSpec.plain.varTypes Tryz.prog ++ Tryz.f5.resultTypes.toList).any (Tryz.prog.wideKeysFrom ·))) = true := by kernel_rfl
theorem fact19 : (Rows.imageSumOneSpec.vars.all (Tryz.prog.varReadable ·)) = true := by kernel_rfl
theorem fact20 : (Tryz.f5.resultTypes.all (fun t => Tryz.prog.readableRec t && decide (t < Tryz.prog.types.size))) = true := by kernel_rfl
theorem fact21 : ((Rows.imageSumOneRow.ifacesOut == Tryz.f5.resultTypes.toList.any (Tryz.prog.ifacesRec ·))) = true := by kernel_rfl
theorem fact22 : ((Rows.imageSumOneRow.loopsOut == Tryz.f5.resultTypes.toList.any (Tryz.prog.loopsFrom ·))) = true := by kernel_rfl
theorem fact23 : ((Rows.imageSumOneRow.plainKeys == Tryz.prog.plainKeys)) = true := by kernel_rfl
theorem fact24 : (Rows.imageSumOneRow.shortTexts.isNone) = true := by kernel_rfl
theorem fact25 : (Tryz.prog.stopsHeard) = true := by kernel_rfl
theorem fact26 : (Tryz.prog.mayEnter) = true := by kernel_rfl
theorem fact27 : ((Rows.imageSumOneRow.lifted == Tryz.prog.liftsFinal)) = true := by kernel_rfl
theorem fact28 : ((Tryz.prog.make == some Rows.imageSumOneRow.make)) = true := by kernel_rfl
theorem fact29 : ((Rows.imageSumOneRow.kinds == (if Rows.imageSumOneRow.domain.isEmpty then [] else Tryz.f5.params.toList.map fun t => match Tryz.prog.underlying t with | some (.int k) => some k | _ => none))) = true := by kernel_rfl
theorem fact30 : ((Rows.imageSumOneRow.pinned == Rows.imageSumOneRow.pinnedBy)) = true := by kernel_rfl
theorem fact31 : ((Rows.imageSumOneRow.veiled == (Tryz.f5.params.toList ++ Rows.imageSumOneSpec.plain.varTypes Tryz.prog ++ Tryz.f5.resultTypes.toList).any (Tryz.prog.veiledRec ·))) = true := by kernel_rfl
theorem fact32 : (Rows.imageSumOneRow.veiledFits Tryz.prog Tryz.f5.params.toList (Tryz.f5.params.toList ++ Rows.imageSumOneSpec.plain.varTypes Tryz.prog ++ Tryz.f5.resultTypes.toList)) = true := by kernel_rfl
theorem band {a b : Bool} (h : a = true) (k : b = true) : (a && b) = true := by rw [h, k]; rfl
set_option maxRecDepth 100000 in
theorem closed : joinedFacts Tryz.prog 5 Tryz.f5 Rows.imageSumOneSpec Rows.imageSumOneRow = true := (band (band (band (band (band (band (band (band (band (band (band (band (band (band (band (band (band (band (band (band (band (band (band (band (band (band (band (band (band (band (band fact1 fact2) fact3) fact4) fact5) fact6) fact7) fact8) fact9) fact10) fact11) fact12) fact13) fact14) fact15) fact16) fact17) fact18) fact19) fact20) fact21) fact22) fact23) fact24) fact25) fact26) fact27) fact28) fact29) fact30) fact31) fact32)
end Go.Proofs.YtbimieobgjehkaaGreatDoor.ImageSumOneFacts
