/- Closed facts of the program, part 3. -/
import Derived.JoinedOf
import Derived.KernelRfl
import Derived.Test.YtefppgdfcnediaaGreatRows
set_option linter.unusedVariables false
set_option maxRecDepth 100000
namespace Go.Proofs.YtefppgdfcnediaaGreat.F
open Go
theorem enter : Tryz.prog.mayEnter = true := by kernel_rfl
theorem nostops : (Tryz.prog.stops == []) = true := by kernel_rfl
theorem noknobs : (Tryz.prog.stopKnobs == []) = true := by kernel_rfl
end Go.Proofs.YtefppgdfcnediaaGreat.F
