/- The closed facts of the row of BaseNone, joined. -/
import Derived.JoinedOf
import Derived.KernelRfl
import Derived.Test.YtefppgdfcnediaaGreatRows
import Derived.Test.YtefppgdfcnediaaGreatFA
import Derived.Test.YtefppgdfcnediaaGreatFB
import Derived.Test.YtefppgdfcnediaaGreatFC
import Derived.Test.YtefppgdfcnediaaGreatFL4
set_option linter.unusedVariables false
set_option maxRecDepth 100000
namespace Go.Proofs.YtefppgdfcnediaaGreat.F
open Go
theorem baseNone_closed : joinedFacts Tryz.prog 4 Tryz.f4 Rows.baseNoneSpec Rows.baseNoneRow = true := by
  unfold joinedFacts
  rw [baseNone_a0, laidOut, rowed, baseNone_a1, baseNone_a2, baseNone_a3, nostops, baseNone_a4, noknobs, baseNone_b1, baseNone_b2, baseNone_b3, baseNone_b4, baseNone_c1, baseNone_c2, baseNone_c3, baseNone_c4, baseNone_c5, baseNone_d1, baseNone_d2, baseNone_d3, baseNone_d4, baseNone_e1, baseNone_e2, heard, enter, baseNone_e3, baseNone_e4, baseNone_e6, baseNone_g1, baseNone_g2]
  simp only [Bool.true_and, Bool.and_true]
  exact baseNone_e5
end Go.Proofs.YtefppgdfcnediaaGreat.F
