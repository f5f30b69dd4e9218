/- The closed facts of the row of ServerNone, joined. -/
import Derived.JoinedOf
import Derived.KernelRfl
import Derived.Test.YtefppgdfcnediaaGreatRows
import Derived.Test.YtefppgdfcnediaaGreatFA
import Derived.Test.YtefppgdfcnediaaGreatFB
import Derived.Test.YtefppgdfcnediaaGreatFC
import Derived.Test.YtefppgdfcnediaaGreatFL6
set_option linter.unusedVariables false
set_option maxRecDepth 100000
namespace Go.Proofs.YtefppgdfcnediaaGreat.F
open Go
theorem serverNone_closed : joinedFacts Tryz.prog 6 Tryz.f6 Rows.serverNoneSpec Rows.serverNoneRow = true := by
  unfold joinedFacts
  rw [serverNone_a0, laidOut, rowed, serverNone_a1, serverNone_a2, serverNone_a3, nostops, serverNone_a4, noknobs, serverNone_b1, serverNone_b2, serverNone_b3, serverNone_b4, serverNone_c1, serverNone_c2, serverNone_c3, serverNone_c4, serverNone_c5, serverNone_d1, serverNone_d2, serverNone_d3, serverNone_d4, serverNone_e1, serverNone_e2, heard, enter, serverNone_e3, serverNone_e4, serverNone_e6, serverNone_g1, serverNone_g2]
  simp only [Bool.true_and, Bool.and_true]
  exact serverNone_e5
end Go.Proofs.YtefppgdfcnediaaGreat.F
