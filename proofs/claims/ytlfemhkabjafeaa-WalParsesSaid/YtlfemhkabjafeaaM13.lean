/- The law WalParses holds for every input: which records any bytes hold. No conditions. -/
import Derived.JoinedOf
import Derived.KernelRfl
import Derived.Test.YtlfemhkabjafeaaRows
import Derived.Test.YtlfemhkabjafeaaZ1
import Derived.Test.YtlfemhkabjafeaaZ2
import Derived.Test.YtlfemhkabjafeaaZ3
import Derived.Test.YtlfemhkabjafeaaZ4
import Derived.Test.YtlfemhkabjafeaaZ5
import Derived.Test.YtlfemhkabjafeaaZ6
set_option linter.unusedVariables false
namespace Go.Proofs.Ytlfemhkabjafeaa.walParses
open Go.ChangeShapes Go.WideShapes Go.ChangeAt Go.RowKit Go.Proofs.Ytlfemhkabjafeaa.M
theorem own : ownKnob Try.prog.godebug = none := by kernel_rfl
theorem laidOut : laidOutB Try.prog = true := by kernel_rfl

theorem run (W : World) (x0 : Kd.den Kd.str) (f0 : Kd.Fits Kd.str x0) (x1 : Kd.den Kd.i) (f1 : Kd.Fits Kd.i x1) {v0 : Value} (h0 : VR (Gh.start W) Kd.str x0 v0) {v1 : Value} (h1 : VR (Gh.start W) Kd.i x1 v1) :
    Calls Try.prog 13 #[v0, v1] W fun e W' => e = .returned (.bool true) ∧ Below W.heap.size W W' := by
  obtain ⟨σ', hp⟩ := walParses_pure f0 f1
  exact law_run (args := [v0, v1]) (f13_ok hp) St.none_tabs ⟨h0, h1, trivial⟩

set_option maxRecDepth 100000 in
theorem lifted (os : Os) (started : os.Started) (H : Type) (enc : TypeId × Value → H) :
    ReturnsInHanded {} Try.checked os 13 .any (Rows.walParsesSpec.pre6 enc Try.prog Try.f13 Rows.walParsesRow.domain false) (Rows.walParsesSpec.post enc Try.prog Try.f13 false true false false) := by
  refine returnsInHanded_of_change_sized (C := Try.checked) own started (by kernel_rfl) Try.func13
    (ChangeSpec.witness6 (enc := enc) (C := Try.checked) false ⟨#[], #[.string ByteArray.empty, .int .i64 0], []⟩ 8 (by kernel_rfl) (by kernel_rfl) (by kernel_rfl) (by kernel_rfl)) ?_
  intro W base args ds gs before hval0 hW hcnd _ _
  have hval : ∀ (j : Nat) t v, Try.f13.params[j]? = some t → args[j]? = some v → Value.okWide Try.prog W .any base t v := hval0
  have hW' := hW
  obtain ⟨p, q, hA0, hV, rfl, hfz, hnd⟩ := hW
  have hA : DataW.TrodAll enc Try.prog W 0 (fun _ => true) true Try.f13.params.toList args.toList ds p := hA0
  rw [Try.params13] at hA hval
  obtain ⟨v0, vs0, d0, ds0, p0, q0, hargs, rfl, rfl, h0, r0⟩ := trodAll_cons hA
  obtain ⟨v1, vs1, d1, ds1, p1, q1, rfl, rfl, rfl, h1, r1⟩ := trodAll_cons r0
  obtain ⟨rfl, rfl, rfl⟩ := trodAll_nil r1
  obtain rfl : args = #[v0, v1] := by cases args; simp_all
  obtain ⟨rfl, rfl⟩ := trodVars_none hV
  have lt0 : ∀ x ∈ p0, x.block < W.heap.size := by obtain ⟨m, hm⟩ := h0; exact DataW.trod_lt m _ _ _ hm
  obtain ⟨x0, y0, z0⟩ := reads_VR (n := 6) (t := 9) (k := Kd.str) (by kernel_rfl) (hval 0 9 v0 rfl rfl) h0
  have lt1 : ∀ x ∈ p1, x.block < W.heap.size := by obtain ⟨m, hm⟩ := h1; exact DataW.trod_lt m _ _ _ hm
  obtain ⟨x1, y1, z1⟩ := reads_VR (n := 6) (t := 3) (k := Kd.i) (by kernel_rfl) (hval 1 3 v1 rfl rfl) h1
  refine (run W x0 z0 x1 z1 y0 y1).mono fun e W' ⟨he, bel⟩ => ?_
  subst he
  exact ⟨_, rfl, _, _, _, [], _, [], hW', trodAll_mk1 (shut_bool (t := 4) (by kernel_rfl) true), (trodAll_cons_mk (Below.trod laidOut (by kernel_rfl) (of_decide_eq_true (by kernel_rfl)) h0 bel lt0) (trodAll_cons_mk (Below.trod laidOut (by kernel_rfl) (of_decide_eq_true (by kernel_rfl)) h1 bel lt1) trodAll_mk0)), rfl, bel.frame _, fun h => by cases h⟩

theorem over : Rows.walParsesRow.holds Try.pinned (OpenSpec.ofChange Rows.walParsesSpec) :=
  OpenClaim.holds_of_wide 13 Try.f13 rfl rfl rfl rfl rfl rfl rfl ⟨rfl, rfl, rfl, rfl, rfl⟩ rfl rfl rfl rfl rfl (by kernel_rfl) Try.func13 (by kernel_rfl)
    (of_decide_eq_true (by kernel_rfl)) (by unfold Func.isWrapper; first | (rw [if_pos (by decide +kernel)]; kernel_rfl) | (rw [if_neg (by decide +kernel)]; exact ⟨rfl, rfl⟩))
    (fun os started H enc _ => lifted os started H enc)
end Go.Proofs.Ytlfemhkabjafeaa.walParses
namespace Go.Proofs.Ytlfemhkabjafeaa
theorem walParses_holds : Rows.WalParsesSaid := walParses.over
#print axioms walParses_holds
end Go.Proofs.Ytlfemhkabjafeaa
