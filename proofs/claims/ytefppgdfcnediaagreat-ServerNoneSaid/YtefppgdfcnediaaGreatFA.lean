/- Closed facts of the program, part 1. -/
import Derived.JoinedOf
import Derived.KernelRfl
import Derived.Test.YtefppgdfcnediaaGreatRows
set_option linter.unusedVariables false
set_option maxRecDepth 100000
namespace Go.Proofs.YtefppgdfcnediaaGreat.F
open Go
theorem tsize : Tryz.prog.types.size = 677 := by kernel_rfl
theorem laid1 : (List.range 677).all (rowFine Tryz.prog) = true := by kernel_rfl
theorem laid2 : Tryz.prog.globals.all (fun g => decide (g.type < 677)) = true := by kernel_rfl
theorem laid3 : Tryz.prog.funcs.all (fun f => f.params.all fun t => decide (t < 677)) = true := by kernel_rfl
theorem laidOut : laidOutB Tryz.prog = true := by
  unfold laidOutB
  rw [tsize, laid1, laid2, laid3]; rfl
theorem own : ownKnob Tryz.prog.godebug = none := by kernel_rfl
theorem mixed : Tryz.prog.follows .mixedOrders = true := by kernel_rfl
end Go.Proofs.YtefppgdfcnediaaGreat.F
