/- Own library: the empty tables of a start, and what the readings tell of numbers and texts. -/
import Derived.Test.YtlfemhkabjafeaaR0
import Derived.Test.YtlfemhkabjafeaaP0
set_option linter.unusedVariables false
namespace Go.Proofs.Ytlfemhkabjafeaa.M

/-- The tables at the start. -/
def St.none : St := ⟨[], [], [], [], [], [], [], [], [], [], []⟩

theorem St.none_tabs : ∀ t tab, tabs St.none t = some tab → tab.xs.length = 0 := by
  intro t tab h
  unfold tabs at h
  repeat' split at h
  all_goals first
    | (simp only [Option.some.injEq] at h; subst h; rfl)
    | cases h

theorem wf_i64 {n : Int} (h : (Lit.int .i64 n).wf = true) : -9223372036854775808 ≤ n ∧ n < 9223372036854775808 := by
  simp only [Lit.wf, Bool.and_eq_true, decide_eq_true_eq] at h
  have h1 : IntKind.i64.min = -9223372036854775808 := by decide
  have h2 : IntKind.i64.max = 9223372036854775807 := by decide
  rw [h1, h2] at h
  omega

theorem wf_u16 {n : Int} (h : (Lit.int .u16 n).wf = true) : 0 ≤ n ∧ n < 65536 := by
  simp only [Lit.wf, Bool.and_eq_true, decide_eq_true_eq] at h
  have h1 : IntKind.u16.min = 0 := by decide
  have h2 : IntKind.u16.max = 65535 := by decide
  rw [h1, h2] at h
  omega

theorem wf_u8 {n : Int} (h : (Lit.int .u8 n).wf = true) : 0 ≤ n ∧ n < 256 := by
  simp only [Lit.wf, Bool.and_eq_true, decide_eq_true_eq] at h
  have h1 : IntKind.u8.min = 0 := by decide
  have h2 : IntKind.u8.max = 255 := by decide
  rw [h1, h2] at h
  omega
end Go.Proofs.Ytlfemhkabjafeaa.M
