/- The closed facts of PredsNothing's row, one by one: written by program. -/
import Derived.Test.YtlgnhkloikmhcaaGreatDoorRows
import Derived.JoinedOf
namespace Go.Proofs.YtlgnhkloikmhcaaGreatDoor.predsNothing
set_option linter.all false
set_option linter.deprecated false
theorem and2 {a b : Bool} (h1 : a = true) (h2 : b = true) : (a && b) = true := by rw [h1, h2]; rfl
theorem fact0 : Rows.predsNothingRow.wf (OpenSpec.ofChange Rows.predsNothingSpec) = true := by kernel_rfl
theorem fact1 : laidOutB Tryz.prog = true := by kernel_rfl
theorem fact2 : mapsRowed Tryz.prog = true := by kernel_rfl
theorem fact3 : Tryz.f5.params.all (Tryz.prog.readableRec ·) = true := by kernel_rfl
theorem fact4 : namedTie Tryz.prog Rows.predsNothingRow.named Rows.predsNothingSpec.vars = true := by kernel_rfl
theorem fact5 : (Rows.predsNothingRow.stops == []) = true := by kernel_rfl
theorem fact6 : (Tryz.prog.stops == []) = true := by kernel_rfl
theorem fact7 : (Rows.predsNothingRow.knobs == []) = true := by kernel_rfl
theorem fact8 : (Tryz.prog.stopKnobs == []) = true := by kernel_rfl
theorem fact9 : (Rows.predsNothingRow.inPlace == Tryz.prog.inPlace 5) = true := by kernel_rfl
theorem fact10 : (Rows.predsNothingRow.unfollowed == Tryz.prog.unfollowed 5) = true := by kernel_rfl
theorem fact11 : (Rows.predsNothingRow.recurses == Tryz.prog.recurses 5) = true := by kernel_rfl
theorem fact12 : (Rows.predsNothingRow.named == Tryz.prog.varsNamed 5) = true := by kernel_rfl
theorem fact13 : (Rows.predsNothingRow.maps == (Tryz.f5.params.toList ++ Rows.predsNothingSpec.plain.varTypes Tryz.prog).any (Tryz.prog.mapsRec ·)) = true := by kernel_rfl
theorem fact14 : (Rows.predsNothingRow.ifaces == (Tryz.f5.params.toList ++ Rows.predsNothingSpec.plain.varTypes Tryz.prog).any (Tryz.prog.ifacesRec ·)) = true := by kernel_rfl
theorem fact15 : (Rows.predsNothingRow.mapsOut == Tryz.prog.mapsAmong Tryz.f5.resultTypes.toList) = true := by kernel_rfl
theorem fact16 : (Rows.predsNothingRow.loops == (Tryz.f5.params.toList ++ Rows.predsNothingSpec.plain.varTypes Tryz.prog).any (Tryz.prog.loopsFrom ·)) = true := by kernel_rfl
theorem fact17 : (Rows.predsNothingRow.wideKeys == (Tryz.f5.params.toList ++ Rows.predsNothingSpec.plain.varTypes Tryz.prog ++ Tryz.f5.resultTypes.toList).any (Tryz.prog.wideKeysFrom ·)) = true := by kernel_rfl
theorem fact18 : Rows.predsNothingSpec.vars.all (Tryz.prog.varReadable ·) = true := by kernel_rfl
theorem fact19 : Tryz.f5.resultTypes.all (fun t => Tryz.prog.readableRec t && decide (t < Tryz.prog.types.size)) = true := by kernel_rfl
theorem fact20 : (Rows.predsNothingRow.ifacesOut == Tryz.f5.resultTypes.toList.any (Tryz.prog.ifacesRec ·)) = true := by kernel_rfl
theorem fact21 : (Rows.predsNothingRow.loopsOut == Tryz.f5.resultTypes.toList.any (Tryz.prog.loopsFrom ·)) = true := by kernel_rfl
theorem fact22 : (Rows.predsNothingRow.plainKeys == Tryz.prog.plainKeys) = true := by kernel_rfl
theorem fact23 : Rows.predsNothingRow.shortTexts.isNone = true := by kernel_rfl
theorem fact24 : Tryz.prog.stopsHeard = true := by kernel_rfl
theorem fact25 : Tryz.prog.mayEnter = true := by kernel_rfl
theorem fact26 : (Rows.predsNothingRow.lifted == Tryz.prog.liftsFinal) = true := by kernel_rfl
theorem fact27 : (Tryz.prog.make == some Rows.predsNothingRow.make) = true := by kernel_rfl
theorem fact28 : (Rows.predsNothingRow.kinds == (if Rows.predsNothingRow.domain.isEmpty then [] else Tryz.f5.params.toList.map fun t => match Tryz.prog.underlying t with | some (.int k) => some k | _ => none)) = true := by kernel_rfl
theorem fact29 : (Rows.predsNothingRow.pinned == Rows.predsNothingRow.pinnedBy) = true := by kernel_rfl
theorem fact30 : (Rows.predsNothingRow.veiled == (Tryz.f5.params.toList ++ Rows.predsNothingSpec.plain.varTypes Tryz.prog ++ Tryz.f5.resultTypes.toList).any (Tryz.prog.veiledRec ·)) = true := by kernel_rfl
theorem fact31 : Rows.predsNothingRow.veiledFits Tryz.prog Tryz.f5.params.toList (Tryz.f5.params.toList ++ Rows.predsNothingSpec.plain.varTypes Tryz.prog ++ Tryz.f5.resultTypes.toList) = true := by kernel_rfl
set_option maxRecDepth 100000 in
theorem closed : joinedFacts Tryz.prog 5 Tryz.f5 Rows.predsNothingSpec Rows.predsNothingRow = true := (and2 (and2 (and2 (and2 (and2 (and2 (and2 (and2 (and2 (and2 (and2 (and2 (and2 (and2 (and2 (and2 (and2 (and2 (and2 (and2 (and2 (and2 (and2 (and2 (and2 (and2 (and2 (and2 (and2 (and2 (and2 fact0 fact1) fact2) fact3) fact4) fact5) fact6) fact7) fact8) fact9) fact10) fact11) fact12) fact13) fact14) fact15) fact16) fact17) fact18) fact19) fact20) fact21) fact22) fact23) fact24) fact25) fact26) fact27) fact28) fact29) fact30) fact31)
end Go.Proofs.YtlgnhkloikmhcaaGreatDoor.predsNothing
