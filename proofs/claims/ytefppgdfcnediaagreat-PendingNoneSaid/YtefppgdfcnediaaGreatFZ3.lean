/- The closed facts of the row of PendingNone, joined. -/
import Derived.JoinedOf
import Derived.KernelRfl
import Derived.Test.YtefppgdfcnediaaGreatRows
import Derived.Test.YtefppgdfcnediaaGreatFA
import Derived.Test.YtefppgdfcnediaaGreatFB
import Derived.Test.YtefppgdfcnediaaGreatFC
import Derived.Test.YtefppgdfcnediaaGreatFL3
set_option linter.unusedVariables false
set_option maxRecDepth 100000
namespace Go.Proofs.YtefppgdfcnediaaGreat.F
open Go
theorem pendingNone_closed : joinedFacts Tryz.prog 3 Tryz.f3 Rows.pendingNoneSpec Rows.pendingNoneRow = true := by
  unfold joinedFacts
  rw [pendingNone_a0, laidOut, rowed, pendingNone_a1, pendingNone_a2, pendingNone_a3, nostops, pendingNone_a4, noknobs, pendingNone_b1, pendingNone_b2, pendingNone_b3, pendingNone_b4, pendingNone_c1, pendingNone_c2, pendingNone_c3, pendingNone_c4, pendingNone_c5, pendingNone_d1, pendingNone_d2, pendingNone_d3, pendingNone_d4, pendingNone_e1, pendingNone_e2, heard, enter, pendingNone_e3, pendingNone_e4, pendingNone_e6, pendingNone_g1, pendingNone_g2]
  simp only [Bool.true_and, Bool.and_true]
  exact pendingNone_e5
end Go.Proofs.YtefppgdfcnediaaGreat.F
