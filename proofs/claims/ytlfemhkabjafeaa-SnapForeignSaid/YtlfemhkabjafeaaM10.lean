/- The law SnapForeign holds for every input: files of such names with other bytes are no states. No conditions. -/
import Derived.JoinedOf
import Derived.KernelRfl
import Derived.Test.YtlfemhkabjafeaaRows
import Derived.Test.YtlfemhkabjafeaaZ1
import Derived.Test.YtlfemhkabjafeaaZ2
import Derived.Test.YtlfemhkabjafeaaZ3
import Derived.Test.YtlfemhkabjafeaaZ4
import Derived.Test.YtlfemhkabjafeaaZ5
import Derived.Test.YtlfemhkabjafeaaZ6
set_option linter.unusedVariables false
namespace Go.Proofs.Ytlfemhkabjafeaa.snapForeign
open Go.ChangeShapes Go.WideShapes Go.ChangeAt Go.RowKit Go.Proofs.Ytlfemhkabjafeaa.M
theorem own : ownKnob Try.prog.godebug = none := by kernel_rfl
theorem laidOut : laidOutB Try.prog = true := by kernel_rfl

theorem run (W : World) (x0 : Kd.den (Kd.list K67)) (f0 : Kd.Fits (Kd.list K67) x0) (x1 : Kd.den Kd.i) (f1 : Kd.Fits Kd.i x1) (x2 : Kd.den Kd.str) (f2 : Kd.Fits Kd.str x2) {v0 : Value} (h0 : VR (Gh.start W) (Kd.list K67) x0 v0) {v1 : Value} (h1 : VR (Gh.start W) Kd.i x1 v1) {v2 : Value} (h2 : VR (Gh.start W) Kd.str x2 v2) :
    Calls Try.prog 10 #[v0, v1, v2] W fun e W' => e = .returned (.bool true) ∧ Below W.heap.size W W' := by
  obtain ⟨σ', hp⟩ := snapForeign_pure f0 f1 f2
  exact law_run (args := [v0, v1, v2]) (f10_ok hp) St.none_tabs ⟨h0, h1, h2, trivial⟩

set_option maxRecDepth 100000 in
theorem lifted (os : Os) (started : os.Started) (H : Type) (enc : TypeId × Value → H) :
    ReturnsInHanded {} Try.checked os 10 .any (Rows.snapForeignSpec.pre6 enc Try.prog Try.f10 Rows.snapForeignRow.domain false) (Rows.snapForeignSpec.post enc Try.prog Try.f10 false true false false) := by
  refine returnsInHanded_of_change_sized (C := Try.checked) own started (by kernel_rfl) Try.func10
    (ChangeSpec.witness6 (enc := enc) (C := Try.checked) false ⟨#[], #[.slice none 0 0, .int .i64 0, .string ByteArray.empty], []⟩ 8 (by kernel_rfl) (by kernel_rfl) (by kernel_rfl) (by kernel_rfl)) ?_
  intro W base args ds gs before hval0 hW hcnd _ _
  have hval : ∀ (j : Nat) t v, Try.f10.params[j]? = some t → args[j]? = some v → Value.okWide Try.prog W .any base t v := hval0
  have hW' := hW
  obtain ⟨p, q, hA0, hV, rfl, hfz, hnd⟩ := hW
  have hA : DataW.TrodAll enc Try.prog W 0 (fun _ => true) true Try.f10.params.toList args.toList ds p := hA0
  rw [Try.params10] at hA hval
  obtain ⟨v0, vs0, d0, ds0, p0, q0, hargs, rfl, rfl, h0, r0⟩ := trodAll_cons hA
  obtain ⟨v1, vs1, d1, ds1, p1, q1, rfl, rfl, rfl, h1, r1⟩ := trodAll_cons r0
  obtain ⟨v2, vs2, d2, ds2, p2, q2, rfl, rfl, rfl, h2, r2⟩ := trodAll_cons r1
  obtain ⟨rfl, rfl, rfl⟩ := trodAll_nil r2
  obtain rfl : args = #[v0, v1, v2] := by cases args; simp_all
  obtain ⟨rfl, rfl⟩ := trodVars_none hV
  have lt0 : ∀ x ∈ p0, x.block < W.heap.size := by obtain ⟨m, hm⟩ := h0; exact DataW.trod_lt m _ _ _ hm
  obtain ⟨x0, y0, z0⟩ := reads_VR (n := 6) (t := 62) (k := (Kd.list K67)) (by kernel_rfl) (hval 0 62 v0 rfl rfl) h0
  have lt1 : ∀ x ∈ p1, x.block < W.heap.size := by obtain ⟨m, hm⟩ := h1; exact DataW.trod_lt m _ _ _ hm
  obtain ⟨x1, y1, z1⟩ := reads_VR (n := 6) (t := 3) (k := Kd.i) (by kernel_rfl) (hval 1 3 v1 rfl rfl) h1
  have lt2 : ∀ x ∈ p2, x.block < W.heap.size := by obtain ⟨m, hm⟩ := h2; exact DataW.trod_lt m _ _ _ hm
  obtain ⟨x2, y2, z2⟩ := reads_VR (n := 6) (t := 9) (k := Kd.str) (by kernel_rfl) (hval 2 9 v2 rfl rfl) h2
  refine (run W x0 z0 x1 z1 x2 z2 y0 y1 y2).mono fun e W' ⟨he, bel⟩ => ?_
  subst he
  exact ⟨_, rfl, _, _, _, [], _, [], hW', trodAll_mk1 (shut_bool (t := 4) (by kernel_rfl) true), (trodAll_cons_mk (Below.trod laidOut (by kernel_rfl) (of_decide_eq_true (by kernel_rfl)) h0 bel lt0) (trodAll_cons_mk (Below.trod laidOut (by kernel_rfl) (of_decide_eq_true (by kernel_rfl)) h1 bel lt1) (trodAll_cons_mk (Below.trod laidOut (by kernel_rfl) (of_decide_eq_true (by kernel_rfl)) h2 bel lt2) trodAll_mk0))), rfl, bel.frame _, fun h => by cases h⟩

theorem over : Rows.snapForeignRow.holds Try.pinned (OpenSpec.ofChange Rows.snapForeignSpec) :=
  OpenClaim.holds_of_wide 10 Try.f10 rfl rfl rfl rfl rfl rfl rfl ⟨rfl, rfl, rfl, rfl, rfl⟩ rfl rfl rfl rfl rfl (by kernel_rfl) Try.func10 (by kernel_rfl)
    (of_decide_eq_true (by kernel_rfl)) (by unfold Func.isWrapper; first | (rw [if_pos (by decide +kernel)]; kernel_rfl) | (rw [if_neg (by decide +kernel)]; exact ⟨rfl, rfl⟩))
    (fun os started H enc _ => lifted os started H enc)
end Go.Proofs.Ytlfemhkabjafeaa.snapForeign
namespace Go.Proofs.Ytlfemhkabjafeaa
theorem snapForeign_holds : Rows.SnapForeignSaid := snapForeign.over
#print axioms snapForeign_holds
end Go.Proofs.Ytlfemhkabjafeaa
