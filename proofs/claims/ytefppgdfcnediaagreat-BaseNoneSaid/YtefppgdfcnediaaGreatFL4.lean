/- Closed facts of the row of BaseNone. -/
import Derived.JoinedOf
import Derived.KernelRfl
import Derived.Test.YtefppgdfcnediaaGreatRows
set_option linter.unusedVariables false
set_option maxRecDepth 100000
namespace Go.Proofs.YtefppgdfcnediaaGreat.F
open Go
theorem baseNone_a0 : (Rows.baseNoneRow.wf (OpenSpec.ofChange Rows.baseNoneSpec)) = true := by kernel_rfl
theorem baseNone_a1 : (Tryz.f4.params.all (Tryz.prog.readableRec ·)) = true := by kernel_rfl
theorem baseNone_a2 : (namedTie Tryz.prog Rows.baseNoneRow.named Rows.baseNoneSpec.vars) = true := by kernel_rfl
theorem baseNone_a3 : (Rows.baseNoneRow.stops == []) = true := by kernel_rfl
theorem baseNone_a4 : (Rows.baseNoneRow.knobs == []) = true := by kernel_rfl
theorem baseNone_b1 : (Rows.baseNoneRow.inPlace == Tryz.prog.inPlace 4) = true := by kernel_rfl
theorem baseNone_b2 : (Rows.baseNoneRow.unfollowed == Tryz.prog.unfollowed 4) = true := by kernel_rfl
theorem baseNone_b3 : (Rows.baseNoneRow.recurses == Tryz.prog.recurses 4) = true := by kernel_rfl
theorem baseNone_b4 : (Rows.baseNoneRow.named == Tryz.prog.varsNamed 4) = true := by kernel_rfl
theorem baseNone_c1 : (Rows.baseNoneRow.maps == (Tryz.f4.params.toList ++ Rows.baseNoneSpec.plain.varTypes Tryz.prog).any (Tryz.prog.mapsRec ·)) = true := by kernel_rfl
theorem baseNone_c2 : (Rows.baseNoneRow.ifaces == (Tryz.f4.params.toList ++ Rows.baseNoneSpec.plain.varTypes Tryz.prog).any (Tryz.prog.ifacesRec ·)) = true := by kernel_rfl
theorem baseNone_c3 : (Rows.baseNoneRow.mapsOut == Tryz.prog.mapsAmong Tryz.f4.resultTypes.toList) = true := by kernel_rfl
theorem baseNone_c4 : (Rows.baseNoneRow.loops == (Tryz.f4.params.toList ++ Rows.baseNoneSpec.plain.varTypes Tryz.prog).any (Tryz.prog.loopsFrom ·)) = true := by kernel_rfl
theorem baseNone_c5 : (Rows.baseNoneRow.wideKeys == (Tryz.f4.params.toList ++ Rows.baseNoneSpec.plain.varTypes Tryz.prog ++ Tryz.f4.resultTypes.toList).any (Tryz.prog.wideKeysFrom ·)) = true := by kernel_rfl
theorem baseNone_d1 : (Rows.baseNoneSpec.vars.all (Tryz.prog.varReadable ·)) = true := by kernel_rfl
theorem baseNone_d2 : (Tryz.f4.resultTypes.all (fun t => Tryz.prog.readableRec t && decide (t < Tryz.prog.types.size))) = true := by kernel_rfl
theorem baseNone_d3 : (Rows.baseNoneRow.ifacesOut == Tryz.f4.resultTypes.toList.any (Tryz.prog.ifacesRec ·)) = true := by kernel_rfl
theorem baseNone_d4 : (Rows.baseNoneRow.loopsOut == Tryz.f4.resultTypes.toList.any (Tryz.prog.loopsFrom ·)) = true := by kernel_rfl
theorem baseNone_e1 : (Rows.baseNoneRow.plainKeys == Tryz.prog.plainKeys) = true := by kernel_rfl
theorem baseNone_e2 : (Rows.baseNoneRow.shortTexts.isNone) = true := by kernel_rfl
theorem baseNone_e3 : (Rows.baseNoneRow.lifted == Tryz.prog.liftsFinal) = true := by kernel_rfl
theorem baseNone_e4 : (Tryz.prog.make == some Rows.baseNoneRow.make) = true := by kernel_rfl
theorem baseNone_e5 : (Rows.baseNoneRow.kinds == (if Rows.baseNoneRow.domain.isEmpty then [] else Tryz.f4.params.toList.map fun t => match Tryz.prog.underlying t with | some (.int k) => some k | _ => none)) = true := by kernel_rfl
theorem baseNone_e6 : (Rows.baseNoneRow.pinned == Rows.baseNoneRow.pinnedBy) = true := by kernel_rfl
theorem baseNone_g1 : (Rows.baseNoneRow.veiled == (Tryz.f4.params.toList ++ Rows.baseNoneSpec.plain.varTypes Tryz.prog ++ Tryz.f4.resultTypes.toList).any (Tryz.prog.veiledRec ·)) = true := by kernel_rfl
theorem baseNone_g2 : (Rows.baseNoneRow.veiledFits Tryz.prog Tryz.f4.params.toList (Tryz.f4.params.toList ++ Rows.baseNoneSpec.plain.varTypes Tryz.prog ++ Tryz.f4.resultTypes.toList)) = true := by kernel_rfl
end Go.Proofs.YtefppgdfcnediaaGreat.F
