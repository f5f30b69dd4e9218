/- Closed facts of the program, part 2. -/
import Derived.JoinedOf
import Derived.KernelRfl
import Derived.Test.YtefppgdfcnediaaGreatRows
set_option linter.unusedVariables false
set_option maxRecDepth 100000
namespace Go.Proofs.YtefppgdfcnediaaGreat.F
open Go
theorem rowed : mapsRowed Tryz.prog = true := by kernel_rfl
theorem heard : Tryz.prog.stopsHeard = true := by kernel_rfl
end Go.Proofs.YtefppgdfcnediaaGreat.F
