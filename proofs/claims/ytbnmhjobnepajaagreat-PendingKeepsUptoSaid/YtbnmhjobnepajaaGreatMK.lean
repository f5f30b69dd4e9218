/- PendingKeeps: what was answered is there behind any crash. -/
import Derived.Deep.CondSized
import Derived.JoinedCond
import Derived.JoinedOf
import Derived.KernelRfl
import Derived.Test.YtbnmhjobnepajaaGreatZ1
import Derived.Test.YtbnmhjobnepajaaGreatZ2
import Derived.Test.YtbnmhjobnepajaaGreatZ3
import Derived.Test.YtbnmhjobnepajaaGreatZ4
import Derived.Test.YtbnmhjobnepajaaGreatZ5
import Derived.Test.YtbnmhjobnepajaaGreatZ6
set_option linter.unusedVariables false
namespace Go.Proofs.YtbnmhjobnepajaaGreat.pendingKeeps
open Go.ChangeShapes Go.WideShapes Go.ChangeAt Go.RowKit Go.Proofs.YtbnmhjobnepajaaGreat.M
theorem own : ownKnob Tryz.prog.godebug = none := by kernel_rfl
theorem laidOut : laidOutB Tryz.prog = true := by kernel_rfl
theorem run (W : World) (x0 : Kd.den (Kd.list bH)) (f0 : Kd.Fits (Kd.list bH) x0) (m0 : Kd.Sm 1048576 (Kd.list bH) x0) (x1 : Kd.den (Kd.int .u8)) (f1 : Kd.Fits (Kd.int .u8) x1) (m1 : Kd.Sm 1048576 (Kd.int .u8) x1) (x2 : Kd.den (Kd.list .i)) (f2 : Kd.Fits (Kd.list .i) x2) (m2 : Kd.Sm 1048576 (Kd.list .i) x2) {v0 : Value} (h0 : VR (Gh.start W) (Kd.list bH) x0 v0) {v1 : Value} (h1 : VR (Gh.start W) (Kd.int .u8) x1 v1) {v2 : Value} (h2 : VR (Gh.start W) (Kd.list .i) x2 v2) :
    Calls Tryz.prog 7 #[v0, v1, v2] W fun e W' => e = .returned (.bool true) ∧ Below W.heap.size W W' := by
  obtain ⟨σ', hp⟩ := Iz f0 m0 f1 m1 f2 m2
  exact aao (args := [v0, v1, v2]) (x := (x0, x1, x2, ())) vZ hp Yr ⟨bM h0, bM h1, bM h2, trivial⟩ rfl

set_option maxRecDepth 100000 in
theorem contract (H : Type) (enc : TypeId × Value → H) (W : World) (base : Nat) (args : Array Value) (ds gs : List (DataW H)) (before : List MemPlace)
    (hval0 : ∀ (j : Nat) t v, Tryz.f7.params[j]? = some t → args[j]? = some v → Value.okWide Tryz.prog W .any base t v)
    (hW : DataW.Whole enc Tryz.prog Tryz.f7.params.toList Rows.pendingKeepsSpec.vars false W args.toList ds gs before) (hk : Rows.uptoSmall H (ds ++ gs) = true) :
    Calls Tryz.prog 7 args W fun e W' => ∃ v, e = .returned v ∧ Rows.pendingKeepsSpec.post enc Tryz.prog Tryz.f7 false true false false W args v W' := by
  have hval : ∀ (j : Nat) t v, Tryz.f7.params[j]? = some t → args[j]? = some v → Value.okWide Tryz.prog W .any base t v := hval0
  have hW' := hW
  obtain ⟨p, q, hA0, hV, rfl, hfz, hnd⟩ := hW
  have hA : DataW.TrodAll enc Tryz.prog W 0 (fun _ => true) true Tryz.f7.params.toList args.toList ds p := hA0
  rw [Tryz.params7] at hA hval
  obtain ⟨v0, vs0, d0, ds0, p0, q0, hargs, rfl, rfl, h0, r0⟩ := trodAll_cons hA
  obtain ⟨v1, vs1, d1, ds1, p1, q1, rfl, rfl, rfl, h1, r1⟩ := trodAll_cons r0
  obtain ⟨v2, vs2, d2, ds2, p2, q2, rfl, rfl, rfl, h2, r2⟩ := trodAll_cons r1
  obtain ⟨rfl, rfl, rfl⟩ := trodAll_nil r2
  obtain rfl : args = #[v0, v1, v2] := by cases args; simp_all
  obtain ⟨rfl, rfl⟩ := trodVars_none hV
  have hk' : Rows.uptoBulkAll [d0, d1, d2] ≤ 1048576 := of_decide_eq_true hk
  simp only [Rows.uptoBulkAll] at hk'
  have lt0 : ∀ x ∈ p0, x.block < W.heap.size := by obtain ⟨m, hm⟩ := h0; exact DataW.trod_lt m _ _ _ hm
  obtain ⟨x0, y0, z0, s0⟩ := NW (n := 8) (t := 22) (k := (Kd.list bH)) (by kernel_rfl) (hval 0 22 v0 rfl rfl) h0
  have lt1 : ∀ x ∈ p1, x.block < W.heap.size := by obtain ⟨m, hm⟩ := h1; exact DataW.trod_lt m _ _ _ hm
  obtain ⟨x1, y1, z1, s1⟩ := NW (n := 8) (t := 5) (k := (Kd.int .u8)) (by kernel_rfl) (hval 1 5 v1 rfl rfl) h1
  have lt2 : ∀ x ∈ p2, x.block < W.heap.size := by obtain ⟨m, hm⟩ := h2; exact DataW.trod_lt m _ _ _ hm
  obtain ⟨x2, y2, z2, s2⟩ := NW (n := 8) (t := 31) (k := (Kd.list .i)) (by kernel_rfl) (hval 2 31 v2 rfl rfl) h2
  refine (run W x0 z0 (s0 1048576 (by omega)) x1 z1 (s1 1048576 (by omega)) x2 z2 (s2 1048576 (by omega)) y0 y1 y2).mono fun e W' ⟨he, bel⟩ => ?_
  subst he
  exact ⟨_, rfl, _, _, _, [], _, [], hW', trodAll_mk1 (shut_bool (t := 4) (by kernel_rfl) true), (trodAll_cons_mk (Below.trod laidOut (by kernel_rfl) (of_decide_eq_true (by kernel_rfl)) h0 bel lt0) (trodAll_cons_mk (Below.trod laidOut (by kernel_rfl) (of_decide_eq_true (by kernel_rfl)) h1 bel lt1) (trodAll_cons_mk (Below.trod laidOut (by kernel_rfl) (of_decide_eq_true (by kernel_rfl)) h2 bel lt2) trodAll_mk0))), rfl, bel.frame _, fun h => by cases h⟩

set_option maxRecDepth 100000 in
theorem lifted (os : Os) (started : os.Started) (H : Type) (enc : TypeId × Value → H) (F : Stop.Interp) :
    ReturnsInHanded {} Tryz.checked os 7 .any ((Rows.OpenSpec.upto Rows.pendingKeepsSpec).pre6 enc Tryz.prog Tryz.f7 Rows.pendingKeepsUptoRow.domain false) (((Rows.OpenSpec.upto Rows.pendingKeepsSpec).at F).post enc Tryz.prog Tryz.f7 false true false false) := by
  refine returnsInHanded_of_cond_sized (C := Tryz.checked) (s := Rows.OpenSpec.upto Rows.pendingKeepsSpec) (k := Rows.uptoSmall) rfl own started (by kernel_rfl) Tryz.func7
    (OpenSpec.witness (enc := enc) (C := Tryz.checked) (s := Rows.OpenSpec.upto Rows.pendingKeepsSpec) (k := Rows.uptoSmall) rfl false ⟨#[], #[.slice none 0 0, .int .u8 0, .slice none 0 0], []⟩ 8 (by kernel_rfl) (by kernel_rfl) (by kernel_rfl)
      (x := ([.nil, .lit (.int .u8 0), .nil], [], [])) (by kernel_rfl) rfl (by kernel_rfl)) ?_
  intro W base args ds gs before hval hW _ hk _ _
  exact contract H enc W base args ds gs before hval hW hk

theorem over : Rows.pendingKeepsUptoRow.holds Tryz.pinned (Rows.OpenSpec.upto Rows.pendingKeepsSpec) :=
  OpenClaim.holds_of_cond 7 Tryz.f7 rfl rfl rfl rfl rfl rfl rfl ⟨rfl, rfl, rfl, rfl, rfl⟩ rfl rfl rfl rfl rfl (by kernel_rfl) Tryz.func7 (by kernel_rfl)
    (of_decide_eq_true (by kernel_rfl)) (by unfold Func.isWrapper; first | (rw [if_pos (by decide +kernel)]; kernel_rfl) | (rw [if_neg (by decide +kernel)]; exact ⟨rfl, rfl⟩))
    (fun os started H enc _ F => lifted os started H enc F)
end Go.Proofs.YtbnmhjobnepajaaGreat.pendingKeeps
namespace Go.Proofs.YtbnmhjobnepajaaGreat
theorem pendingKeepsUpto_holds : Rows.PendingKeepsUptoSaid := pendingKeeps.over
#print axioms pendingKeepsUpto_holds
end Go.Proofs.YtbnmhjobnepajaaGreat
