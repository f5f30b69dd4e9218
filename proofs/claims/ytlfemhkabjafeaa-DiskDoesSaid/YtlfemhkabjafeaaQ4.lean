/- DiskDoes: what its function answers. -/
import Derived.Test.YtlfemhkabjafeaaV7
import Derived.Test.YtlfemhkabjafeaaV9
set_option linter.unusedVariables false
namespace Go.Proofs.Ytlfemhkabjafeaa.M
theorem diskDoes_pure {x0 : Int} {x1 : List K31.den} {x2 : List UInt8} (f0 : Kd.i.Fits x0) (f1 : (Kd.list K31).Fits x1) (f2 : Kd.str.Fits x2) : ∃ σ', f4 x0 x1 x2 St.none = some (true, σ') := f4_true (OkT.all f1) St.none
end Go.Proofs.Ytlfemhkabjafeaa.M
