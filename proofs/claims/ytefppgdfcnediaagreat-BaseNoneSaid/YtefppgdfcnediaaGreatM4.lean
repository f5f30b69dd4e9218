/- The law BaseNone holds for every input: a nil base has nothing. No conditions. -/
import Derived.JoinedOf
import Derived.KernelRfl
import Derived.Test.YtefppgdfcnediaaGreatFZ4
import Derived.Test.YtefppgdfcnediaaGreatRows
import Derived.Test.YtefppgdfcnediaaGreatZ1
import Derived.Test.YtefppgdfcnediaaGreatZ2
import Derived.Test.YtefppgdfcnediaaGreatZ3
import Derived.Test.YtefppgdfcnediaaGreatZ4
set_option linter.unusedVariables false
set_option maxRecDepth 100000
namespace Go.Proofs.YtefppgdfcnediaaGreat.baseNone
open Go.ChangeShapes Go.WideShapes Go.ChangeAt Go.RowKit Go.Proofs.YtefppgdfcnediaaGreat.X Go.Proofs.YtefppgdfcnediaaGreat.F
theorem mixed : P.follows .mixedOrders = true := F.mixed
/-- The executor's run: the kernel carries it out. -/
theorem exec (f0 : Nat → Value) : (fuel 100000).cl 4 [aAgg (extL f0 13 0)] h0 (fun v _ => anB (Nat.beq v.t 1) v.b) = true := by kernel_rfl
theorem run (W : World) {base : Nat} {v0 : Value} (h0 : Value.okWide Tryz.prog W .any base 47 v0) :
    Calls Tryz.prog 4 #[v0] W fun e W' => e = .returned (.bool true) ∧ Below W.heap.size W W' := by
  obtain ⟨f0, k0⟩ := arg_struct (n := 13) Tryz.underlying47 (by kernel_rfl) h0
  exact law_ok (vs := [v0]) mixed (exec f0) (.cons (k0 _) .nil) W

set_option maxRecDepth 100000 in
theorem lifted (os : Os) (started : os.Started) (H : Type) (enc : TypeId × Value → H) :
    ReturnsInHanded {} Tryz.checked os 4 .any (Rows.baseNoneSpec.pre6 enc Tryz.prog Tryz.f4 Rows.baseNoneRow.domain false) (Rows.baseNoneSpec.post enc Tryz.prog Tryz.f4 false true false false) := by
  refine returnsInHanded_of_change_sized (C := Tryz.checked) own started (by kernel_rfl) Tryz.func4
    (ChangeSpec.witness6 (enc := enc) (C := Tryz.checked) false ⟨#[], #[.agg #[.int .i64 0, .int .i64 0, .slice none 0 0, .int .i64 0, .int .i64 0, .int .i64 0, .int .i64 0, .int .i64 0, .slice none 0 0, .slice none 0 0, .slice none 0 0, .slice none 0 0, .slice none 0 0]], []⟩ 8 (by kernel_rfl) (by kernel_rfl) (by kernel_rfl) (by kernel_rfl)) ?_
  intro W base args ds gs before hval0 hW hcnd _ _
  have hval : ∀ (j : Nat) t v, Tryz.f4.params[j]? = some t → args[j]? = some v → Value.okWide Tryz.prog W .any base t v := hval0
  have hW' := hW
  obtain ⟨p, q, hA0, hV, rfl, hfz, hnd⟩ := hW
  have hA : DataW.TrodAll enc Tryz.prog W 0 (fun _ => true) true Tryz.f4.params.toList args.toList ds p := hA0
  rw [Tryz.params4] at hA hval
  obtain ⟨v0, vs0, d0, ds0, p0, q0, hargs, rfl, rfl, h0, r0⟩ := trodAll_cons hA
  obtain ⟨rfl, rfl, rfl⟩ := trodAll_nil r0
  obtain rfl : args = #[v0] := by cases args; simp_all
  obtain ⟨rfl, rfl⟩ := trodVars_none hV
  have lt0 : ∀ x ∈ p0, x.block < W.heap.size := by obtain ⟨m, hm⟩ := h0; exact DataW.trod_lt m _ _ _ hm
  refine (run W (hval 0 47 v0 rfl rfl)).mono fun e W' ⟨he, bel⟩ => ?_
  subst he
  exact ⟨_, rfl, _, _, _, [], _, [], hW', trodAll_mk1 (shut_bool (t := 4) (by kernel_rfl) true), (trodAll_cons_mk (Below.trod laidOut (by kernel_rfl) (of_decide_eq_true (by kernel_rfl)) h0 bel lt0) trodAll_mk0), rfl, bel.frame _, fun h => by cases h⟩

theorem over : Rows.baseNoneRow.holds Tryz.pinned (OpenSpec.ofChange Rows.baseNoneSpec) :=
  OpenClaim.holds_of_wide 4 Tryz.f4 rfl rfl rfl rfl rfl rfl rfl ⟨rfl, rfl, rfl, rfl, rfl⟩ rfl rfl rfl rfl rfl (by kernel_rfl) Tryz.func4 baseNone_closed
    (of_decide_eq_true (by kernel_rfl)) (by unfold Func.isWrapper; first | (rw [if_pos (by decide +kernel)]; kernel_rfl) | (rw [if_neg (by decide +kernel)]; exact ⟨rfl, rfl⟩))
    (fun os started H enc _ => lifted os started H enc)
end Go.Proofs.YtefppgdfcnediaaGreat.baseNone
namespace Go.Proofs.YtefppgdfcnediaaGreat
theorem baseNone_holds : Rows.BaseNoneSaid := baseNone.over
#print axioms baseNone_holds
end Go.Proofs.YtefppgdfcnediaaGreat
