/- Closed facts of the row of ServerNone. -/
import Derived.JoinedOf
import Derived.KernelRfl
import Derived.Test.YtefppgdfcnediaaGreatRows
set_option linter.unusedVariables false
set_option maxRecDepth 100000
namespace Go.Proofs.YtefppgdfcnediaaGreat.F
open Go
theorem serverNone_a0 : (Rows.serverNoneRow.wf (OpenSpec.ofChange Rows.serverNoneSpec)) = true := by kernel_rfl
theorem serverNone_a1 : (Tryz.f6.params.all (Tryz.prog.readableRec ·)) = true := by kernel_rfl
theorem serverNone_a2 : (namedTie Tryz.prog Rows.serverNoneRow.named Rows.serverNoneSpec.vars) = true := by kernel_rfl
theorem serverNone_a3 : (Rows.serverNoneRow.stops == []) = true := by kernel_rfl
theorem serverNone_a4 : (Rows.serverNoneRow.knobs == []) = true := by kernel_rfl
theorem serverNone_b1 : (Rows.serverNoneRow.inPlace == Tryz.prog.inPlace 6) = true := by kernel_rfl
theorem serverNone_b2 : (Rows.serverNoneRow.unfollowed == Tryz.prog.unfollowed 6) = true := by kernel_rfl
theorem serverNone_b3 : (Rows.serverNoneRow.recurses == Tryz.prog.recurses 6) = true := by kernel_rfl
theorem serverNone_b4 : (Rows.serverNoneRow.named == Tryz.prog.varsNamed 6) = true := by kernel_rfl
theorem serverNone_c1 : (Rows.serverNoneRow.maps == (Tryz.f6.params.toList ++ Rows.serverNoneSpec.plain.varTypes Tryz.prog).any (Tryz.prog.mapsRec ·)) = true := by kernel_rfl
theorem serverNone_c2 : (Rows.serverNoneRow.ifaces == (Tryz.f6.params.toList ++ Rows.serverNoneSpec.plain.varTypes Tryz.prog).any (Tryz.prog.ifacesRec ·)) = true := by kernel_rfl
theorem serverNone_c3 : (Rows.serverNoneRow.mapsOut == Tryz.prog.mapsAmong Tryz.f6.resultTypes.toList) = true := by kernel_rfl
theorem serverNone_c4 : (Rows.serverNoneRow.loops == (Tryz.f6.params.toList ++ Rows.serverNoneSpec.plain.varTypes Tryz.prog).any (Tryz.prog.loopsFrom ·)) = true := by kernel_rfl
theorem serverNone_c5 : (Rows.serverNoneRow.wideKeys == (Tryz.f6.params.toList ++ Rows.serverNoneSpec.plain.varTypes Tryz.prog ++ Tryz.f6.resultTypes.toList).any (Tryz.prog.wideKeysFrom ·)) = true := by kernel_rfl
theorem serverNone_d1 : (Rows.serverNoneSpec.vars.all (Tryz.prog.varReadable ·)) = true := by kernel_rfl
theorem serverNone_d2 : (Tryz.f6.resultTypes.all (fun t => Tryz.prog.readableRec t && decide (t < Tryz.prog.types.size))) = true := by kernel_rfl
theorem serverNone_d3 : (Rows.serverNoneRow.ifacesOut == Tryz.f6.resultTypes.toList.any (Tryz.prog.ifacesRec ·)) = true := by kernel_rfl
theorem serverNone_d4 : (Rows.serverNoneRow.loopsOut == Tryz.f6.resultTypes.toList.any (Tryz.prog.loopsFrom ·)) = true := by kernel_rfl
theorem serverNone_e1 : (Rows.serverNoneRow.plainKeys == Tryz.prog.plainKeys) = true := by kernel_rfl
theorem serverNone_e2 : (Rows.serverNoneRow.shortTexts.isNone) = true := by kernel_rfl
theorem serverNone_e3 : (Rows.serverNoneRow.lifted == Tryz.prog.liftsFinal) = true := by kernel_rfl
theorem serverNone_e4 : (Tryz.prog.make == some Rows.serverNoneRow.make) = true := by kernel_rfl
theorem serverNone_e5 : (Rows.serverNoneRow.kinds == (if Rows.serverNoneRow.domain.isEmpty then [] else Tryz.f6.params.toList.map fun t => match Tryz.prog.underlying t with | some (.int k) => some k | _ => none)) = true := by kernel_rfl
theorem serverNone_e6 : (Rows.serverNoneRow.pinned == Rows.serverNoneRow.pinnedBy) = true := by kernel_rfl
theorem serverNone_g1 : (Rows.serverNoneRow.veiled == (Tryz.f6.params.toList ++ Rows.serverNoneSpec.plain.varTypes Tryz.prog ++ Tryz.f6.resultTypes.toList).any (Tryz.prog.veiledRec ·)) = true := by kernel_rfl
theorem serverNone_g2 : (Rows.serverNoneRow.veiledFits Tryz.prog Tryz.f6.params.toList (Tryz.f6.params.toList ++ Rows.serverNoneSpec.plain.varTypes Tryz.prog ++ Tryz.f6.resultTypes.toList)) = true := by kernel_rfl
end Go.Proofs.YtefppgdfcnediaaGreat.F
