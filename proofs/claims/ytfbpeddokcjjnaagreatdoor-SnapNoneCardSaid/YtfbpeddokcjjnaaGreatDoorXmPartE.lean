/- The closed facts of SnapNone's row, one by one: written by program. -/
import Derived.Test.YtfbpeddokcjjnaaGreatDoorXmPartD
import Derived.Test.YtfbpeddokcjjnaaGreatDoorRows
import Derived.JoinedOf
namespace Go.Proofs.YtfbpeddokcjjnaaGreatDoor.snapNone
set_option linter.all false
set_option linter.deprecated false
theorem and2 {a b : Bool} (h1 : a = true) (h2 : b = true) : (a && b) = true := by rw [h1, h2]; rfl
theorem fact0 : Rows.snapNoneRow.wf (OpenSpec.ofChange Rows.snapNoneSpec) = true := by kernel_rfl
theorem fact1 : laidOutB Tryz.prog = true := by kernel_rfl
theorem fact2 : mapsRowed Tryz.prog = true := by kernel_rfl
theorem fact3 : Tryz.f4.params.all (Tryz.prog.readableRec ·) = true := by kernel_rfl
theorem fact4 : namedTie Tryz.prog Rows.snapNoneRow.named Rows.snapNoneSpec.vars = true := by kernel_rfl
theorem fact5 : (Rows.snapNoneRow.stops == []) = true := by kernel_rfl
theorem fact6 : (Tryz.prog.stops == []) = true := by kernel_rfl
theorem fact7 : (Rows.snapNoneRow.knobs == []) = true := by kernel_rfl
theorem fact8 : (Tryz.prog.stopKnobs == []) = true := by kernel_rfl
theorem fact9 : (Rows.snapNoneRow.inPlace == Tryz.prog.inPlace 4) = true := by kernel_rfl
theorem fact10 : (Rows.snapNoneRow.unfollowed == Tryz.prog.unfollowed 4) = true := by kernel_rfl
theorem fact11 : (Rows.snapNoneRow.recurses == Tryz.prog.recurses 4) = true := by kernel_rfl
theorem fact12 : (Rows.snapNoneRow.named == Tryz.prog.varsNamed 4) = true := by kernel_rfl
theorem fact13 : (Rows.snapNoneRow.maps == (Tryz.f4.params.toList ++ Rows.snapNoneSpec.plain.varTypes Tryz.prog).any (Tryz.prog.mapsRec ·)) = true := by kernel_rfl
theorem fact14 : (Rows.snapNoneRow.ifaces == (Tryz.f4.params.toList ++ Rows.snapNoneSpec.plain.varTypes Tryz.prog).any (Tryz.prog.ifacesRec ·)) = true := by kernel_rfl
theorem fact15 : (Rows.snapNoneRow.mapsOut == Tryz.prog.mapsAmong Tryz.f4.resultTypes.toList) = true := by kernel_rfl
theorem fact16 : (Rows.snapNoneRow.loops == (Tryz.f4.params.toList ++ Rows.snapNoneSpec.plain.varTypes Tryz.prog).any (Tryz.prog.loopsFrom ·)) = true := by kernel_rfl
theorem fact17 : (Rows.snapNoneRow.wideKeys == (Tryz.f4.params.toList ++ Rows.snapNoneSpec.plain.varTypes Tryz.prog ++ Tryz.f4.resultTypes.toList).any (Tryz.prog.wideKeysFrom ·)) = true := by kernel_rfl
theorem fact18 : Rows.snapNoneSpec.vars.all (Tryz.prog.varReadable ·) = true := by kernel_rfl
theorem fact19 : Tryz.f4.resultTypes.all (fun t => Tryz.prog.readableRec t && decide (t < Tryz.prog.types.size)) = true := by kernel_rfl
theorem fact20 : (Rows.snapNoneRow.ifacesOut == Tryz.f4.resultTypes.toList.any (Tryz.prog.ifacesRec ·)) = true := by kernel_rfl
theorem fact21 : (Rows.snapNoneRow.loopsOut == Tryz.f4.resultTypes.toList.any (Tryz.prog.loopsFrom ·)) = true := by kernel_rfl
theorem fact22 : (Rows.snapNoneRow.plainKeys == Tryz.prog.plainKeys) = true := by kernel_rfl
theorem fact23 : Rows.snapNoneRow.shortTexts.isNone = true := by kernel_rfl
theorem fact24 : Tryz.prog.stopsHeard = true := by kernel_rfl
theorem fact25 : Tryz.prog.mayEnter = true := by kernel_rfl
theorem fact26 : (Rows.snapNoneRow.lifted == Tryz.prog.liftsFinal) = true := by kernel_rfl
theorem fact27 : (Tryz.prog.make == some Rows.snapNoneRow.make) = true := by kernel_rfl
theorem fact28 : (Rows.snapNoneRow.kinds == (if Rows.snapNoneRow.domain.isEmpty then [] else Tryz.f4.params.toList.map fun t => match Tryz.prog.underlying t with | some (.int k) => some k | _ => none)) = true := by kernel_rfl
theorem fact29 : (Rows.snapNoneRow.pinned == Rows.snapNoneRow.pinnedBy) = true := by kernel_rfl
theorem fact30 : (Rows.snapNoneRow.veiled == (Tryz.f4.params.toList ++ Rows.snapNoneSpec.plain.varTypes Tryz.prog ++ Tryz.f4.resultTypes.toList).any (Tryz.prog.veiledRec ·)) = true := by kernel_rfl
theorem fact31 : Rows.snapNoneRow.veiledFits Tryz.prog Tryz.f4.params.toList (Tryz.f4.params.toList ++ Rows.snapNoneSpec.plain.varTypes Tryz.prog ++ Tryz.f4.resultTypes.toList) = true := by kernel_rfl
set_option maxRecDepth 100000 in
theorem closed : joinedFacts Tryz.prog 4 Tryz.f4 Rows.snapNoneSpec Rows.snapNoneRow = true := (and2 (and2 (and2 (and2 (and2 (and2 (and2 (and2 (and2 (and2 (and2 (and2 (and2 (and2 (and2 (and2 (and2 (and2 (and2 (and2 (and2 (and2 (and2 (and2 (and2 (and2 (and2 (and2 (and2 (and2 (and2 fact0 fact1) fact2) fact3) fact4) fact5) fact6) fact7) fact8) fact9) fact10) fact11) fact12) fact13) fact14) fact15) fact16) fact17) fact18) fact19) fact20) fact21) fact22) fact23) fact24) fact25) fact26) fact27) fact28) fact29) fact30) fact31)
end Go.Proofs.YtfbpeddokcjjnaaGreatDoor.snapNone
