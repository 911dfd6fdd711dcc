/- The closed facts that the row of BoundLates asks of the program. -/
import Derived.Test.YtnlgajlmjkfecaaGreatDoorRows
import Derived.JoinedOf
import Derived.SevenTiedAt
import Derived.KernelRfl
set_option linter.all false
namespace Go.Proofs.YtnlgajlmjkfecaaGreatDoor.BoundLatesFacts
open Go
theorem fact1 : (Rows.boundLatesRow.wf (OpenSpec.ofChange Rows.boundLatesSpec)) = true := by kernel_rfl
theorem fact2 : (laidOutB Tryz.prog) = true := by kernel_rfl
theorem fact3 : (mapsRowed Tryz.prog) = true := by kernel_rfl
theorem fact4 : (Tryz.f8.params.all (Tryz.prog.readableRec ·)) = true := by kernel_rfl
theorem fact5 : (namedTie Tryz.prog Rows.boundLatesRow.named Rows.boundLatesSpec.vars) = true := by kernel_rfl
theorem fact6 : ((Rows.boundLatesRow.stops == [])) = true := by kernel_rfl
theorem fact7 : ((Tryz.prog.stops == [])) = true := by kernel_rfl
theorem fact8 : ((Rows.boundLatesRow.knobs == [])) = true := by kernel_rfl
theorem fact9 : ((Tryz.prog.stopKnobs == [])) = true := by kernel_rfl
theorem fact10 : ((Rows.boundLatesRow.inPlace == Tryz.prog.inPlace 8)) = true := by kernel_rfl
theorem fact11 : ((Rows.boundLatesRow.unfollowed == Tryz.prog.unfollowed 8)) = true := by kernel_rfl
theorem fact12 : ((Rows.boundLatesRow.recurses == Tryz.prog.recurses 8)) = true := by kernel_rfl
theorem fact13 : ((Rows.boundLatesRow.named == Tryz.prog.varsNamed 8)) = true := by kernel_rfl
theorem fact14 : ((Rows.boundLatesRow.maps == (Tryz.f8.params.toList ++ Rows.boundLatesSpec.plain.varTypes Tryz.prog).any (Tryz.prog.mapsRec ·))) = true := by kernel_rfl
theorem fact15 : ((Rows.boundLatesRow.ifaces == (Tryz.f8.params.toList ++ Rows.boundLatesSpec.plain.varTypes Tryz.prog).any (Tryz.prog.ifacesRec ·))) = true := by kernel_rfl
theorem fact16 : ((Rows.boundLatesRow.mapsOut == Tryz.prog.mapsAmong Tryz.f8.resultTypes.toList)) = true := by kernel_rfl
theorem fact17 : ((Rows.boundLatesRow.loops == (Tryz.f8.params.toList ++ Rows.boundLatesSpec.plain.varTypes Tryz.prog).any (Tryz.prog.loopsFrom ·))) = true := by kernel_rfl
theorem fact18 : ((Rows.boundLatesRow.wideKeys == (Tryz.f8.params.toList ++ Rows.boundLatesSpec.plain.varTypes Tryz.prog ++ Tryz.f8.resultTypes.toList).any (Tryz.prog.wideKeysFrom ·))) = true := by kernel_rfl
theorem fact19 : (Rows.boundLatesSpec.vars.all (Tryz.prog.varReadable ·)) = true := by kernel_rfl
theorem fact20 : (Tryz.f8.resultTypes.all (fun t => Tryz.prog.readableRec t && decide (t < Tryz.prog.types.size))) = true := by kernel_rfl
theorem fact21 : ((Rows.boundLatesRow.ifacesOut == Tryz.f8.resultTypes.toList.any (Tryz.prog.ifacesRec ·))) = true := by kernel_rfl
theorem fact22 : ((Rows.boundLatesRow.loopsOut == Tryz.f8.resultTypes.toList.any (Tryz.prog.loopsFrom ·))) = true := by kernel_rfl
theorem fact23 : ((Rows.boundLatesRow.plainKeys == Tryz.prog.plainKeys)) = true := by kernel_rfl
theorem fact24 : (Rows.boundLatesRow.shortTexts.isNone) = true := by kernel_rfl
theorem fact25 : (Tryz.prog.stopsHeard) = true := by kernel_rfl
theorem fact26 : (Tryz.prog.mayEnter) = true := by kernel_rfl
theorem fact27 : ((Rows.boundLatesRow.lifted == Tryz.prog.liftsFinal)) = true := by kernel_rfl
theorem fact28 : ((Tryz.prog.make == some Rows.boundLatesRow.make)) = true := by kernel_rfl
theorem fact29 : ((Rows.boundLatesRow.kinds == (if Rows.boundLatesRow.domain.isEmpty then [] else Tryz.f8.params.toList.map fun t => match Tryz.prog.underlying t with | some (.int k) => some k | _ => none))) = true := by kernel_rfl
theorem fact30 : ((Rows.boundLatesRow.pinned == Rows.boundLatesRow.pinnedBy)) = true := by kernel_rfl
theorem fact31 : ((Rows.boundLatesRow.veiled == (Tryz.f8.params.toList ++ Rows.boundLatesSpec.plain.varTypes Tryz.prog ++ Tryz.f8.resultTypes.toList).any (Tryz.prog.veiledRec ·))) = true := by kernel_rfl
theorem fact32 : (Rows.boundLatesRow.veiledFits Tryz.prog Tryz.f8.params.toList (Tryz.f8.params.toList ++ Rows.boundLatesSpec.plain.varTypes Tryz.prog ++ Tryz.f8.resultTypes.toList)) = true := by kernel_rfl
theorem band {a b : Bool} (h : a = true) (k : b = true) : (a && b) = true := by rw [h, k]; rfl
set_option maxRecDepth 100000 in
theorem closed : joinedFacts Tryz.prog 8 Tryz.f8 Rows.boundLatesSpec Rows.boundLatesRow = true := (band (band (band (band (band (band (band (band (band (band (band (band (band (band (band (band (band (band (band (band (band (band (band (band (band (band (band (band (band (band (band fact1 fact2) fact3) fact4) fact5) fact6) fact7) fact8) fact9) fact10) fact11) fact12) fact13) fact14) fact15) fact16) fact17) fact18) fact19) fact20) fact21) fact22) fact23) fact24) fact25) fact26) fact27) fact28) fact29) fact30) fact31) fact32)
end Go.Proofs.YtnlgajlmjkfecaaGreatDoor.BoundLatesFacts
