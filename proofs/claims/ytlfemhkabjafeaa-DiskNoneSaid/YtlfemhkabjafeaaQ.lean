/- The laws of the disk: what their functions answer, from what comes in. -/
import Derived.Test.YtlfemhkabjafeaaV8
import Derived.Test.YtlfemhkabjafeaaV9
set_option linter.unusedVariables false
namespace Go.Proofs.Ytlfemhkabjafeaa.M
theorem diskWithin_pure {x0 : Int} {x1 : List K31.den} (f0 : Kd.Fits (.int .u16) x0) (f1 : Kd.Fits (.list K31) x1) : ∃ σ', f3 x0 x1 St.none = some (true, σ') := f3_true (wf_u16 f0) (OkT.all f1) St.none
theorem diskDoes_pure {x0 : Int} {x1 : List K31.den} {x2 : List UInt8} (f0 : Kd.i.Fits x0) (f1 : Kd.Fits (.list K31) x1) (f2 : Kd.str.Fits x2) : ∃ σ', f4 x0 x1 x2 St.none = some (true, σ') := f4_true (OkT.all f1) St.none
theorem diskSafe_pure {x0 : List K31.den} {x1 x2 : List Int} (f0 : Kd.Fits (.list K31) x0) (f1 : Kd.Fits (.list .i) x1) (f2 : Kd.Fits (.list .i) x2) : ∃ σ', f5 x0 x1 x2 St.none = some (true, σ') := f5_true (OkT.all f0) St.none
theorem diskArmed_pure {x0 : Int} {x1 : List K31.den} (f0 : Kd.Fits (.int .u8) x0) (f1 : Kd.Fits (.list K31) x1) : ∃ σ', f6 x0 x1 St.none = some (true, σ') := f6_true (wf_u8 f0) (OkT.all f1) St.none
theorem diskApart_pure {x0 : List K31.den} {x1 : K31.den} {x2 : List UInt8} (f0 : Kd.Fits (.list K31) x0) (f1 : Kd.Fits K31 x1) (f2 : Kd.str.Fits x2) : ∃ σ', f7 x0 x1 x2 St.none = some (true, σ') := f7_true (OkT.all f0) (OkT.of f1) St.none
theorem diskNone_pure {x0 : K31.den} {x1 : Int} (f0 : Kd.Fits K31 x0) (f1 : Kd.i.Fits x1) : ∃ σ', f8 x0 x1 St.none = some (true, σ') := f8_true St.none
end Go.Proofs.Ytlfemhkabjafeaa.M
