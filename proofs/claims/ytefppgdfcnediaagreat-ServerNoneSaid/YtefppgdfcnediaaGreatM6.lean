/- The law ServerNone holds for every input: a nil server does nothing, and there is none without a disk. No conditions. -/
import Derived.JoinedOf
import Derived.KernelRfl
import Derived.Test.YtefppgdfcnediaaGreatFZ6
import Derived.Test.YtefppgdfcnediaaGreatRows
import Derived.Test.YtefppgdfcnediaaGreatZ1
import Derived.Test.YtefppgdfcnediaaGreatZ2
import Derived.Test.YtefppgdfcnediaaGreatZ3
import Derived.Test.YtefppgdfcnediaaGreatZ4
set_option linter.unusedVariables false
set_option maxRecDepth 100000
namespace Go.Proofs.YtefppgdfcnediaaGreat.serverNone
open Go.ChangeShapes Go.WideShapes Go.ChangeAt Go.RowKit Go.Proofs.YtefppgdfcnediaaGreat.X Go.Proofs.YtefppgdfcnediaaGreat.F
theorem mixed : P.follows .mixedOrders = true := F.mixed
/-- The executor's run: the kernel carries it out. -/
theorem exec : (fuel 100000).cl 6 [aAgg (extL 12 0), aAgg (extL 8 12)] h0 (fun v _ => anB (Nat.beq v.t 1) v.b) = true := by kernel_rfl
theorem run (W : World) {base : Nat} {v0 : Value} (h0 : Value.okWide Tryz.prog W .any base 95 v0) {v1 : Value} (h1 : Value.okWide Tryz.prog W .any base 98 v1) :
    Calls Tryz.prog 6 #[v0, v1] W fun e W' => e = .returned (.bool true) ∧ Below W.heap.size W W' := by
  obtain ⟨f0, k0⟩ := arg_struct (n := 12) Tryz.underlying95 (by kernel_rfl) h0
  obtain ⟨f1, k1⟩ := arg_struct (n := 8) Tryz.underlying98 (by kernel_rfl) h1
  let X : Nat → Value := fun i => if i < 12 then f0 (i - 0) else f1 (i - 12)
  refine law_ok (vs := [v0, v1]) (x := X) mixed exec (.cons (k0 0 _ fun j hj => ?_) (.cons (k1 12 _ fun j hj => ?_) .nil)) W
  · show X (0 + j) = f0 j
    simp only [X]
    rw [if_pos (by omega)]
    congr 1; omega
  · show X (12 + j) = f1 j
    simp only [X]
    rw [if_neg (by omega)]
    congr 1; omega

set_option maxRecDepth 100000 in
theorem lifted (os : Os) (started : os.Started) (H : Type) (enc : TypeId × Value → H) :
    ReturnsInHanded {} Tryz.checked os 6 .any (Rows.serverNoneSpec.pre6 enc Tryz.prog Tryz.f6 Rows.serverNoneRow.domain false) (Rows.serverNoneSpec.post enc Tryz.prog Tryz.f6 false true false false) := by
  refine returnsInHanded_of_change_sized (C := Tryz.checked) own started (by kernel_rfl) Tryz.func6
    (ChangeSpec.witness6 (enc := enc) (C := Tryz.checked) false ⟨#[], #[.agg #[.int .i64 0, .int .i64 0, .int .i64 0, .int .i64 0, .int .i64 0, .int .i64 0, .slice none 0 0, .slice none 0 0, .slice none 0 0, .slice none 0 0, .slice none 0 0, .string ByteArray.empty], .agg #[.int .i64 0, .string ByteArray.empty, .string ByteArray.empty, .int .i64 0, .slice none 0 0, .int .i64 0, .bool false, .int .i64 0]], []⟩ 8 (by kernel_rfl) (by kernel_rfl) (by kernel_rfl) (by kernel_rfl)) ?_
  intro W base args ds gs before hval0 hW hcnd _ _
  have hval : ∀ (j : Nat) t v, Tryz.f6.params[j]? = some t → args[j]? = some v → Value.okWide Tryz.prog W .any base t v := hval0
  have hW' := hW
  obtain ⟨p, q, hA0, hV, rfl, hfz, hnd⟩ := hW
  have hA : DataW.TrodAll enc Tryz.prog W 0 (fun _ => true) true Tryz.f6.params.toList args.toList ds p := hA0
  rw [Tryz.params6] at hA hval
  obtain ⟨v0, vs0, d0, ds0, p0, q0, hargs, rfl, rfl, h0, r0⟩ := trodAll_cons hA
  obtain ⟨v1, vs1, d1, ds1, p1, q1, rfl, rfl, rfl, h1, r1⟩ := trodAll_cons r0
  obtain ⟨rfl, rfl, rfl⟩ := trodAll_nil r1
  obtain rfl : args = #[v0, v1] := by cases args; simp_all
  obtain ⟨rfl, rfl⟩ := trodVars_none hV
  have lt0 : ∀ x ∈ p0, x.block < W.heap.size := by obtain ⟨m, hm⟩ := h0; exact DataW.trod_lt m _ _ _ hm
  have lt1 : ∀ x ∈ p1, x.block < W.heap.size := by obtain ⟨m, hm⟩ := h1; exact DataW.trod_lt m _ _ _ hm
  refine (run W (hval 0 95 v0 rfl rfl) (hval 1 98 v1 rfl rfl)).mono fun e W' ⟨he, bel⟩ => ?_
  subst he
  exact ⟨_, rfl, _, _, _, [], _, [], hW', trodAll_mk1 (shut_bool (t := 4) (by kernel_rfl) true), (trodAll_cons_mk (Below.trod laidOut (by kernel_rfl) (of_decide_eq_true (by kernel_rfl)) h0 bel lt0) (trodAll_cons_mk (Below.trod laidOut (by kernel_rfl) (of_decide_eq_true (by kernel_rfl)) h1 bel lt1) trodAll_mk0)), rfl, bel.frame _, fun h => by cases h⟩

theorem over : Rows.serverNoneRow.holds Tryz.pinned (OpenSpec.ofChange Rows.serverNoneSpec) :=
  OpenClaim.holds_of_wide 6 Tryz.f6 rfl rfl rfl rfl rfl rfl rfl ⟨rfl, rfl, rfl, rfl, rfl⟩ rfl rfl rfl rfl rfl (by kernel_rfl) Tryz.func6 serverNone_closed
    (of_decide_eq_true (by kernel_rfl)) (by unfold Func.isWrapper; first | (rw [if_pos (by decide +kernel)]; kernel_rfl) | (rw [if_neg (by decide +kernel)]; exact ⟨rfl, rfl⟩))
    (fun os started H enc _ => lifted os started H enc)
end Go.Proofs.YtefppgdfcnediaaGreat.serverNone
namespace Go.Proofs.YtefppgdfcnediaaGreat
theorem serverNone_holds : Rows.ServerNoneSaid := serverNone.over
#print axioms serverNone_holds
end Go.Proofs.YtefppgdfcnediaaGreat
