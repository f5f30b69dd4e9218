/- Closed facts of the row of PendingNone. -/
import Derived.JoinedOf
import Derived.KernelRfl
import Derived.Test.YtefppgdfcnediaaGreatRows
set_option linter.unusedVariables false
set_option maxRecDepth 100000
namespace Go.Proofs.YtefppgdfcnediaaGreat.F
open Go
theorem pendingNone_a0 : (Rows.pendingNoneRow.wf (OpenSpec.ofChange Rows.pendingNoneSpec)) = true := by kernel_rfl
theorem pendingNone_a1 : (Tryz.f3.params.all (Tryz.prog.readableRec ·)) = true := by kernel_rfl
theorem pendingNone_a2 : (namedTie Tryz.prog Rows.pendingNoneRow.named Rows.pendingNoneSpec.vars) = true := by kernel_rfl
theorem pendingNone_a3 : (Rows.pendingNoneRow.stops == []) = true := by kernel_rfl
theorem pendingNone_a4 : (Rows.pendingNoneRow.knobs == []) = true := by kernel_rfl
theorem pendingNone_b1 : (Rows.pendingNoneRow.inPlace == Tryz.prog.inPlace 3) = true := by kernel_rfl
theorem pendingNone_b2 : (Rows.pendingNoneRow.unfollowed == Tryz.prog.unfollowed 3) = true := by kernel_rfl
theorem pendingNone_b3 : (Rows.pendingNoneRow.recurses == Tryz.prog.recurses 3) = true := by kernel_rfl
theorem pendingNone_b4 : (Rows.pendingNoneRow.named == Tryz.prog.varsNamed 3) = true := by kernel_rfl
theorem pendingNone_c1 : (Rows.pendingNoneRow.maps == (Tryz.f3.params.toList ++ Rows.pendingNoneSpec.plain.varTypes Tryz.prog).any (Tryz.prog.mapsRec ·)) = true := by kernel_rfl
theorem pendingNone_c2 : (Rows.pendingNoneRow.ifaces == (Tryz.f3.params.toList ++ Rows.pendingNoneSpec.plain.varTypes Tryz.prog).any (Tryz.prog.ifacesRec ·)) = true := by kernel_rfl
theorem pendingNone_c3 : (Rows.pendingNoneRow.mapsOut == Tryz.prog.mapsAmong Tryz.f3.resultTypes.toList) = true := by kernel_rfl
theorem pendingNone_c4 : (Rows.pendingNoneRow.loops == (Tryz.f3.params.toList ++ Rows.pendingNoneSpec.plain.varTypes Tryz.prog).any (Tryz.prog.loopsFrom ·)) = true := by kernel_rfl
theorem pendingNone_c5 : (Rows.pendingNoneRow.wideKeys == (Tryz.f3.params.toList ++ Rows.pendingNoneSpec.plain.varTypes Tryz.prog ++ Tryz.f3.resultTypes.toList).any (Tryz.prog.wideKeysFrom ·)) = true := by kernel_rfl
theorem pendingNone_d1 : (Rows.pendingNoneSpec.vars.all (Tryz.prog.varReadable ·)) = true := by kernel_rfl
theorem pendingNone_d2 : (Tryz.f3.resultTypes.all (fun t => Tryz.prog.readableRec t && decide (t < Tryz.prog.types.size))) = true := by kernel_rfl
theorem pendingNone_d3 : (Rows.pendingNoneRow.ifacesOut == Tryz.f3.resultTypes.toList.any (Tryz.prog.ifacesRec ·)) = true := by kernel_rfl
theorem pendingNone_d4 : (Rows.pendingNoneRow.loopsOut == Tryz.f3.resultTypes.toList.any (Tryz.prog.loopsFrom ·)) = true := by kernel_rfl
theorem pendingNone_e1 : (Rows.pendingNoneRow.plainKeys == Tryz.prog.plainKeys) = true := by kernel_rfl
theorem pendingNone_e2 : (Rows.pendingNoneRow.shortTexts.isNone) = true := by kernel_rfl
theorem pendingNone_e3 : (Rows.pendingNoneRow.lifted == Tryz.prog.liftsFinal) = true := by kernel_rfl
theorem pendingNone_e4 : (Tryz.prog.make == some Rows.pendingNoneRow.make) = true := by kernel_rfl
theorem pendingNone_e5 : (Rows.pendingNoneRow.kinds == (if Rows.pendingNoneRow.domain.isEmpty then [] else Tryz.f3.params.toList.map fun t => match Tryz.prog.underlying t with | some (.int k) => some k | _ => none)) = true := by kernel_rfl
theorem pendingNone_e6 : (Rows.pendingNoneRow.pinned == Rows.pendingNoneRow.pinnedBy) = true := by kernel_rfl
theorem pendingNone_g1 : (Rows.pendingNoneRow.veiled == (Tryz.f3.params.toList ++ Rows.pendingNoneSpec.plain.varTypes Tryz.prog ++ Tryz.f3.resultTypes.toList).any (Tryz.prog.veiledRec ·)) = true := by kernel_rfl
theorem pendingNone_g2 : (Rows.pendingNoneRow.veiledFits Tryz.prog Tryz.f3.params.toList (Tryz.f3.params.toList ++ Rows.pendingNoneSpec.plain.varTypes Tryz.prog ++ Tryz.f3.resultTypes.toList)) = true := by kernel_rfl
end Go.Proofs.YtefppgdfcnediaaGreat.F
