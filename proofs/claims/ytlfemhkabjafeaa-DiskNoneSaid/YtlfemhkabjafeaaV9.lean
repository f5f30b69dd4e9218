/- What comes in with a call fits. -/
import Derived.Test.YtlfemhkabjafeaaR1
import Derived.Test.YtlfemhkabjafeaaV2
namespace Go.Proofs.Ytlfemhkabjafeaa.M
theorem OkT.of {a : K31.den} (h : K31.Fits a) : OkT a := by
  obtain ⟨h1, h2, h3, h4, h5, h6, _⟩ := h
  refine ⟨Nat.lt_succ_of_le h2, Nat.lt_succ_of_le h4, wf_i64 h5⟩
theorem OkT.all {l : List K31.den} (h : (Kd.list K31).Fits l) : ∀ a ∈ l, OkT a := fun a ha => OkT.of (h.2 a ha)
end Go.Proofs.Ytlfemhkabjafeaa.M
