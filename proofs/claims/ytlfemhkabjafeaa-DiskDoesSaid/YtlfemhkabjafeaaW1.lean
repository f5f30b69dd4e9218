/- Printed by own program: twins and walks. -/
import Derived.Test.YtlfemhkabjafeaaP0
import Derived.Test.YtlfemhkabjafeaaU20
import Derived.Test.YtlfemhkabjafeaaProg
set_option linter.unusedVariables false
set_option maxRecDepth 100000
namespace Go.Proofs.Ytlfemhkabjafeaa.M
open Go.Proofs (Try.prog Try.func70 Try.f70 Try.func71 Try.f71 Try.func77 Try.f77 Try.func30 Try.f30 Try.func28 Try.f28 Try.func31 Try.f31 Try.func32 Try.f32 Try.func78 Try.f78 Try.func79 Try.f79 Try.func80 Try.f80 Try.func81 Try.f81 Try.func73 Try.f73 Try.func72 Try.f72 Try.func33 Try.f33 Try.func35 Try.f35 Try.func36 Try.f36 Try.func37 Try.f37 Try.func18 Try.f18)

def f70 (p0 : Option Nat) (σ : St) : Option Int :=
  if p0.isNone = true then
  some 1
  else
  p0 >>= fun i6 =>
  (σ.t105[i6]?) >>= fun o7 =>
  if o7.2.2.2.1 = true then
  some 11
  else
  some 0

theorem f70_ok {p0 : Option Nat} {σ : St} {p : Int} (h : f70 p0 σ = some p) : Spec Try.prog 70 [.kv (.ptr 105) p0] (tabs σ) (.kv .i p) (tabs σ) := by
  refine Spec.intro Try.func70 (by kernel_rfl) rfl (by kernel_rfl) (fun a w G0 Ls hE hH hN => ?_)
  have hle : G0.le G0 := Gh.le_refl G0
  unfold f70 at h
  refine wp_seq_k (fun K hK1 => ?_)
  refine wp_region_from ?_
  refine segO 1 [] [(2, .kv .i 0)] (Os := []) trivial hE hH (by kernel_rfl) (fun a hE => ?_)
  refine wpFrom_end (by kernel_rfl) ?_
  refine Exit.then_normal (hK1 _ _ ?_)
  refine wp_seq_k (fun K hK2 => ?_)
  refine wp_block ?_
  refine wp_seq_k (fun K hK3 => ?_)
  refine wp_region_from ?_
  refine segO 3 [] [(3, .kv .bool p0.isNone)] (Os := []) trivial hE hH (by kernel_rfl) (fun a hE => ?_)
  refine wpFrom_end (by kernel_rfl) ?_
  refine Exit.then_normal (hK3 _ _ ?_)
  refine condE (b := p0.isNone) hE (by kernel_rfl) (fun hc => ?_) (fun hc => ?_)
  · replace h := ifT hc h
    refine wp_seq_k (fun K hK4 => ?_)
    refine wp_region_from ?_
    refine segO 1 [] [(2, .kv .i 1)] (Os := []) trivial hE hH (by kernel_rfl) (fun a hE => ?_)
    refine wpFrom_end (by kernel_rfl) ?_
    refine Exit.then_normal (hK4 _ _ ?_)
    refine wp_ret ?_
    refine Exit.in_ret ?_
    refine Exit.then_ret ?_
    cases h
    exact ret1 rfl hE hle hH (by kernel_rfl)
  · replace h := ifF hc h
    refine wp_seq_k (fun K hK5 => ?_)
    refine wp_region_from ?_
    obtain ⟨i6, hi6, h⟩ := bs h
    obtain ⟨o7, ho7, h⟩ := bs h
    refine segO 5 [.pt i6, .ob fs105 o7] [(6, .kv .bool o7.2.2.2.1)] (Os := [_, _]) ⟨hi6, (ob105 (s := σ) ho7), trivial⟩ hE hH (by kernel_rfl) (fun a hE => ?_)
    refine wpFrom_end (by kernel_rfl) ?_
    refine Exit.then_normal (hK5 _ _ ?_)
    refine condE (b := o7.2.2.2.1) hE (by kernel_rfl) (fun hc => ?_) (fun hc => ?_)
    · replace h := ifT hc h
      refine wp_seq_k (fun K hK8 => ?_)
      refine wp_region_from ?_
      refine segO 1 [] [(2, .kv .i 11)] (Os := []) trivial hE hH (by kernel_rfl) (fun a hE => ?_)
      refine wpFrom_end (by kernel_rfl) ?_
      refine Exit.then_normal (hK8 _ _ ?_)
      refine wp_ret ?_
      refine Exit.in_ret ?_
      refine Exit.then_ret ?_
      cases h
      exact ret1 rfl hE hle hH (by kernel_rfl)
    · replace h := ifF hc h
      refine wp_skip ?_
      refine Exit.in_normal ?_
      refine Exit.then_normal (hK2 _ _ ?_)
      refine wp_seq_k (fun K hK9 => ?_)
      refine wp_region_from ?_
      refine segO 1 [] [(2, .kv .i 0)] (Os := []) trivial hE hH (by kernel_rfl) (fun a hE => ?_)
      refine wpFrom_end (by kernel_rfl) ?_
      refine Exit.then_normal (hK9 _ _ ?_)
      refine wp_ret ?_
      cases h
      exact ret1 rfl hE hle hH (by kernel_rfl)

def f71_l0 (p0 : List UInt8) (x4 : Int) : Option (Sum Int Bool) :=
  if (decide (x4 < (p0.length : Int))) = true then
  if (0 : Int) ≤ x4 ∧ x4 < (p0.length : Int) then
  if ((((((decide ((btS p0 x4) < 97)) || (decide ((btS p0 x4) > 122))) && ((decide ((btS p0 x4) < 48)) || (decide ((btS p0 x4) > 57)))) && ((btS p0 x4) != 46)) && ((btS p0 x4) != 45)) && ((btS p0 x4) != 95)) = true then
  some (.inr false)
  else
  f71_l0 p0 (IntKind.wrap .i64 (x4 + 1))
  else none
  else
  some (.inl x4)
  partial_fixpoint

def f71 (p0 : List UInt8) : Option Bool :=
  f71_l0 p0 0 >>= fun rr18 => (match rr18 with
  | .inr yy => some yy
  | .inl z17 =>
  some ((decide ((p0.length : Int) > 0)) && (decide ((p0.length : Int) ≤ 24))))

theorem f71_ok {p0 : List UInt8} {σ : St} {p : Bool} (h : f71 p0 = some p) : Spec Try.prog 71 [.kv .str p0] (tabs σ) (.kv .bool p) (tabs σ) := by
  refine Spec.intro Try.func71 (by kernel_rfl) rfl (by kernel_rfl) (fun a w G0 Ls hE hH hN => ?_)
  have hle : G0.le G0 := Gh.le_refl G0
  unfold f71 at h
  refine wp_seq_k (fun K hK1 => ?_)
  refine wp_region_from ?_
  refine segO 1 [] [(2, .kv .bool false)] (Os := []) trivial hE hH (by kernel_rfl) (fun a hE => ?_)
  refine wpFrom_end (by kernel_rfl) ?_
  refine Exit.then_normal (hK1 _ _ ?_)
  refine wp_seq_k (fun K hK2 => ?_)
  refine wp_seq_k (fun K hK3 => ?_)
  refine wp_region_from ?_
  refine segO 3 [] [(6, .kv .i (p0.length : Int)), (7, .kv .i 0)] (Os := []) trivial hE hH (by kernel_rfl) (fun a hE => ?_)
  refine wpFrom_end (by kernel_rfl) ?_
  refine Exit.then_normal (hK3 _ _ ?_)
  refine wp_block ?_
  obtain ⟨rr18, hrr18, h⟩ := bs h
  refine loop_intro (fun Q5 c hQ hc => ?_)
  have key : ∀ (x4 : Int) (rr : Sum Int Bool), f71_l0 p0 x4 = some rr → ∀ (a : Act) (w : World) (G : Gh), G0.le G → EnvR G 48 a [(0, .kv .str p0), (2, .kv .bool false), (6, .kv .i (p0.length : Int)), (7, .kv .i x4)] → Holds w G (tabs σ) (Ls) → (∀ z17 : Int, rr = .inl z17 → ∀ (a : Act) (w : World) (G : Gh), G0.le G → EnvR G 48 a [(0, .kv .str p0), (2, .kv .bool false), (6, .kv .i (p0.length : Int)), (7, .kv .i z17)] → Holds w G (tabs σ) (Ls) → Q5 (.exit 0) a w) → (∀ yy : Bool, rr = .inr yy → ∀ (a : Act) (w : World), PostB Try.prog Try.f71 G0 (.kv .bool yy) (tabs σ) Ls .ret a w → Q5 .ret a w) → Rnd Try.prog c Q5 a w := by
    refine f71_l0.partial_correctness p0 _ ?_
    intro self ih8 x4 rr h a w G  hle hE hH hx6 hret7
    refine rnd_step' hc ?_
    refine wp_seq_k (fun K hK9 => ?_)
    refine wp_region_from ?_
    refine segO 1 [] [(8, .kv .bool (decide (x4 < (p0.length : Int))))] (Os := []) trivial hE hH (by kernel_rfl) (fun a hE => ?_)
    refine wpFrom_end (by kernel_rfl) ?_
    refine Exit.then_normal (hK9 _ _ ?_)
    refine wp_seq_k (fun K hK10 => ?_)
    refine condE (b := decide (x4 < (p0.length : Int))) hE (by kernel_rfl) (fun hc => ?_) (fun hc => ?_)
    · replace h := ifT hc h
      refine wp_skip ?_
      refine Exit.then_normal (hK10 _ _ ?_)
      refine wp_seq_k (fun K hK11 => ?_)
      refine wp_block ?_
      refine wp_seq_k (fun K hK12 => ?_)
      refine wp_region_from ?_
      refine segO 2 [] [(3, .kv .i x4)] (Os := []) trivial hE hH (by kernel_rfl) (fun a hE => ?_)
      refine wpFrom_end (by kernel_rfl) ?_
      refine Exit.then_normal (hK12 _ _ ?_)
      refine wp_seq_k (fun K hK13 => ?_)
      refine wp_region_from ?_
      obtain ⟨q14, h⟩ := gd h
      refine segO 4 [] [(4, .kv (.int .u8) (btS p0 x4))] (Os := [_]) ⟨q14, trivial⟩ hE hH (by kernel_rfl) (fun a hE => ?_)
      refine wpFrom_end (by kernel_rfl) ?_
      refine Exit.then_normal (hK13 _ _ ?_)
      refine wp_seq_k (fun K hK15 => ?_)
      refine wp_region_from ?_
      refine segO 26 [] [(38, .kv .bool ((((((decide ((btS p0 x4) < 97)) || (decide ((btS p0 x4) > 122))) && ((decide ((btS p0 x4) < 48)) || (decide ((btS p0 x4) > 57)))) && ((btS p0 x4) != 46)) && ((btS p0 x4) != 45)) && ((btS p0 x4) != 95)))] (Os := []) trivial hE hH (by kernel_rfl) (fun a hE => ?_)
      refine wpFrom_end (by kernel_rfl) ?_
      refine Exit.then_normal (hK15 _ _ ?_)
      refine condE (b := (((((decide ((btS p0 x4) < 97)) || (decide ((btS p0 x4) > 122))) && ((decide ((btS p0 x4) < 48)) || (decide ((btS p0 x4) > 57)))) && ((btS p0 x4) != 46)) && ((btS p0 x4) != 45)) && ((btS p0 x4) != 95)) hE (by kernel_rfl) (fun hc => ?_) (fun hc => ?_)
      · replace h := ifT hc h
        refine wp_seq_k (fun K hK16 => ?_)
        refine wp_region_from ?_
        refine segO 1 [] [(2, .kv .bool false)] (Os := []) trivial hE hH (by kernel_rfl) (fun a hE => ?_)
        refine wpFrom_end (by kernel_rfl) ?_
        refine Exit.then_normal (hK16 _ _ ?_)
        refine wp_ret ?_
        refine Exit.in_ret ?_
        refine Exit.then_ret ?_
        refine Exit.then_ret ?_
        cases h
        exact hret7 _ rfl _ _ (ret1 rfl hE hle hH (by kernel_rfl))
      · replace h := ifF hc h
        refine wp_skip ?_
        refine Exit.in_normal ?_
        refine Exit.then_normal (hK11 _ _ ?_)
        refine wp_region_from ?_
        refine segO 2 [] [(7, .kv .i (IntKind.wrap .i64 (x4 + 1)))] (Os := []) trivial hE hH (by kernel_rfl) (fun a hE => ?_)
        refine wpFrom_end (by kernel_rfl) ?_
        refine Exit.then_normal ?_
        exact ih8 _ _ h _ _ _  hle (hE.subC (by kernel_rfl)) hH hx6 hret7
    · replace h := ifF hc h
      refine wp_exit ?_
      refine Exit.then_exit ?_
      refine Exit.then_exit ?_
      cases h
      exact hx6 _ rfl _ _ _  hle (hE.subC (by kernel_rfl)) hH
  refine key _ _ hrr18 _ _ _  hle (hE.subC (by kernel_rfl)) hH ?_ ?_
  · intro z17 hz a w G  hle hE hH
    subst hz
    rw [hQ]
    dsimp only at h
    refine Exit.in_eq ?_
    refine Exit.then_normal (hK2 _ _ ?_)
    refine wp_seq_k (fun K hK19 => ?_)
    refine wp_region_from ?_
    refine segO 9 [] [(2, .kv .bool ((decide ((p0.length : Int) > 0)) && (decide ((p0.length : Int) ≤ 24))))] (Os := []) trivial hE hH (by kernel_rfl) (fun a hE => ?_)
    refine wpFrom_end (by kernel_rfl) ?_
    refine Exit.then_normal (hK19 _ _ ?_)
    refine wp_ret ?_
    cases h
    exact ret1 rfl hE hle hH (by kernel_rfl)
  · intro yy hz a w hp
    subst hz
    dsimp only at h
    cases h
    rw [hQ]
    refine Exit.in_ret ?_
    refine Exit.then_ret ?_
    exact hp

def f77 (p0 : Option Nat) (p1 : List UInt8) (σ : St) : Option ((Option Nat) × Int) :=
  f70 p0 σ >>= fun r4 =>
  if (r4 != 0) = true then
  some (none, r4)
  else
  p0 >>= fun i8 =>
  (σ.t105[i8]?) >>= fun o9 =>
  if (((mapGet .str (.ptr 108) p1 o9.2.1).getD (zeroK (.ptr 108))).isNone) = true then
  some (none, 8)
  else
  some ((mapGet .str (.ptr 108) p1 o9.2.1).getD (zeroK (.ptr 108)), 0)

theorem f77_ok {p0 : Option Nat} {p1 : List UInt8} {σ : St} {p : (Option Nat) × Int} (h : f77 p0 p1 σ = some p) : Spec Try.prog 77 [.kv (.ptr 105) p0, .kv .str p1] (tabs σ) (.tup [⟨(.ptr 108), p.1⟩, ⟨.i, p.2⟩]) (tabs σ) := by
  refine Spec.intro Try.func77 (by kernel_rfl) rfl (by kernel_rfl) (fun a w G0 Ls hE hH hN => ?_)
  have hle : G0.le G0 := Gh.le_refl G0
  unfold f77 at h
  refine wp_seq_k (fun K hK1 => ?_)
  refine wp_region_from ?_
  refine segO 2 [] [(4, .val (.pointer none)), (5, .kv .i 0)] (Os := []) trivial hE hH (by kernel_rfl) (fun a hE => ?_)
  refine wpFrom_end (by kernel_rfl) ?_
  refine Exit.then_normal (hK1 _ _ ?_)
  refine wp_seq_k (fun K hK2 => ?_)
  refine wp_seq_k (fun K hK3 => ?_)
  refine wp_region_from ?_
  refine segO 1 [] [(8, .kv (.ptr 105) p0)] (Os := []) trivial hE hH (by kernel_rfl) (fun a hE => ?_)
  obtain ⟨r4, hr4, h⟩ := bs h
  refine stepCall (d := (some 9)) (f70_ok hr4) hE hH hN (by kernel_rfl) (by kernel_rfl) trivial (fun a w G hl1 hE hH => ?_)
  have hle := Gh.le_trans hle hl1
  refine segO 1 [] [(6, .kv .i r4)] (Os := []) trivial hE hH (by kernel_rfl) (fun a hE => ?_)
  refine wpFrom_end (by kernel_rfl) ?_
  refine Exit.then_normal (hK3 _ _ ?_)
  refine wp_seq_k (fun K hK5 => ?_)
  refine wp_region_from ?_
  refine segO 2 [] [(11, .kv .bool (r4 != 0))] (Os := []) trivial hE hH (by kernel_rfl) (fun a hE => ?_)
  refine wpFrom_end (by kernel_rfl) ?_
  refine Exit.then_normal (hK5 _ _ ?_)
  refine condE (b := r4 != 0) hE (by kernel_rfl) (fun hc => ?_) (fun hc => ?_)
  · replace h := ifT hc h
    refine wp_seq_k (fun K hK6 => ?_)
    refine wp_region_from ?_
    refine segO 3 [] [(4, .val (.pointer none)), (5, .kv .i r4)] (Os := []) trivial hE hH (by kernel_rfl) (fun a hE => ?_)
    refine wpFrom_end (by kernel_rfl) ?_
    refine Exit.then_normal (hK6 _ _ ?_)
    refine wp_ret ?_
    refine Exit.then_ret ?_
    cases h
    exact ret2 rfl hE hle hH (by kernel_rfl)
  · replace h := ifF hc h
    refine wp_skip ?_
    refine Exit.then_normal (hK2 _ _ ?_)
    refine wp_seq_k (fun K hK7 => ?_)
    refine wp_region_from ?_
    obtain ⟨i8, hi8, h⟩ := bs h
    obtain ⟨o9, ho9, h⟩ := bs h
    refine segO 7 [.pt i8, .ob fs105 o9, .ob fs105 o9] [(7, .kv (.ptr 108) ((mapGet .str (.ptr 108) p1 o9.2.1).getD (zeroK (.ptr 108))))] (Os := [_, _, _]) ⟨hi8, (ob105 (s := σ) ho9), (ob105 (s := σ) ho9), trivial⟩ hE hH (by kernel_rfl) (fun a hE => ?_)
    refine wpFrom_end (by kernel_rfl) ?_
    refine Exit.then_normal (hK7 _ _ ?_)
    refine wp_seq_k (fun K hK10 => ?_)
    refine wp_seq_k (fun K hK11 => ?_)
    refine wp_region_from ?_
    refine segO 2 [] [(20, .kv .bool (((mapGet .str (.ptr 108) p1 o9.2.1).getD (zeroK (.ptr 108))).isNone))] (Os := []) trivial hE hH (by kernel_rfl) (fun a hE => ?_)
    refine wpFrom_end (by kernel_rfl) ?_
    refine Exit.then_normal (hK11 _ _ ?_)
    refine condE (b := ((mapGet .str (.ptr 108) p1 o9.2.1).getD (zeroK (.ptr 108))).isNone) hE (by kernel_rfl) (fun hc => ?_) (fun hc => ?_)
    · replace h := ifT hc h
      refine wp_seq_k (fun K hK12 => ?_)
      refine wp_region_from ?_
      refine segO 2 [] [(4, .val (.pointer none)), (5, .kv .i 8)] (Os := []) trivial hE hH (by kernel_rfl) (fun a hE => ?_)
      refine wpFrom_end (by kernel_rfl) ?_
      refine Exit.then_normal (hK12 _ _ ?_)
      refine wp_ret ?_
      refine Exit.then_ret ?_
      cases h
      exact ret2 rfl hE hle hH (by kernel_rfl)
    · replace h := ifF hc h
      refine wp_skip ?_
      refine Exit.then_normal (hK10 _ _ ?_)
      refine wp_seq_k (fun K hK13 => ?_)
      refine wp_region_from ?_
      refine segO 3 [] [(4, .kv (.ptr 108) ((mapGet .str (.ptr 108) p1 o9.2.1).getD (zeroK (.ptr 108)))), (5, .kv .i 0)] (Os := []) trivial hE hH (by kernel_rfl) (fun a hE => ?_)
      refine wpFrom_end (by kernel_rfl) ?_
      refine Exit.then_normal (hK13 _ _ ?_)
      refine wp_ret ?_
      cases h
      exact ret2 rfl hE hle hH (by kernel_rfl)

def f30 (p0 : Option Nat) (p1 : List UInt8) (σ : St) : Option Int :=
  if p0.isNone = true then
  some 0
  else
  p0 >>= fun i5 =>
  (σ.t105[i5]?) >>= fun o6 =>
  if (((mapGet .str (.ptr 108) p1 o6.2.1).getD (zeroK (.ptr 108))).isNone) = true then
  some 0
  else
  p0 >>= fun i9 =>
  (σ.t105[i9]?) >>= fun o10 =>
  ((mapGet .str (.ptr 108) p1 o10.2.1).getD (zeroK (.ptr 108))) >>= fun i11 =>
  (σ.t108[i11]?) >>= fun o12 =>
  some o12.2.1

theorem f30_ok {p0 : Option Nat} {p1 : List UInt8} {σ : St} {p : Int} (h : f30 p0 p1 σ = some p) : Spec Try.prog 30 [.kv (.ptr 105) p0, .kv .str p1] (tabs σ) (.kv .i p) (tabs σ) := by
  refine Spec.intro Try.func30 (by kernel_rfl) rfl (by kernel_rfl) (fun a w G0 Ls hE hH hN => ?_)
  have hle : G0.le G0 := Gh.le_refl G0
  unfold f30 at h
  refine wp_seq_k (fun K hK1 => ?_)
  refine wp_region_from ?_
  refine segO 1 [] [(4, .kv .i 0)] (Os := []) trivial hE hH (by kernel_rfl) (fun a hE => ?_)
  refine wpFrom_end (by kernel_rfl) ?_
  refine Exit.then_normal (hK1 _ _ ?_)
  refine wp_seq_k (fun K hK2 => ?_)
  refine wp_seq_k (fun K hK3 => ?_)
  refine wp_region_from ?_
  refine segO 3 [] [(7, .kv .bool p0.isNone)] (Os := []) trivial hE hH (by kernel_rfl) (fun a hE => ?_)
  by_cases hc : p0.isNone = true
  · replace h := ifT hc h
    have hE := hE.setB 7 (by kernel_rfl) hc
    refine segO 8 [] [(15, .kv .bool true)] (Os := []) trivial hE hH (by kernel_rfl) (fun a hE => ?_)
    refine wpFrom_end (by kernel_rfl) ?_
    refine Exit.then_normal (hK3 _ _ ?_)
    refine condT hE (by kernel_rfl) rfl ?_
    refine wp_seq_k (fun K hK4 => ?_)
    refine wp_region_from ?_
    refine segO 1 [] [(4, .kv .i 0)] (Os := []) trivial hE hH (by kernel_rfl) (fun a hE => ?_)
    refine wpFrom_end (by kernel_rfl) ?_
    refine Exit.then_normal (hK4 _ _ ?_)
    refine wp_ret ?_
    refine Exit.then_ret ?_
    cases h
    exact ret1 rfl hE hle hH (by kernel_rfl)
  · replace h := ifN hc h
    have hE := hE.setB 7 (by kernel_rfl) (bf hc)
    obtain ⟨i5, hi5, h⟩ := bs h
    obtain ⟨o6, ho6, h⟩ := bs h
    refine segO 8 [.pt i5, .ob fs105 o6, .ob fs105 o6] [(15, .kv .bool (((mapGet .str (.ptr 108) p1 o6.2.1).getD (zeroK (.ptr 108))).isNone))] (Os := [_, _, _]) ⟨hi5, (ob105 (s := σ) ho6), (ob105 (s := σ) ho6), trivial⟩ hE hH (by kernel_rfl) (fun a hE => ?_)
    refine wpFrom_end (by kernel_rfl) ?_
    refine Exit.then_normal (hK3 _ _ ?_)
    refine condE (b := ((mapGet .str (.ptr 108) p1 o6.2.1).getD (zeroK (.ptr 108))).isNone) hE (by kernel_rfl) (fun hc => ?_) (fun hc => ?_)
    · replace h := ifT hc h
      refine wp_seq_k (fun K hK7 => ?_)
      refine wp_region_from ?_
      refine segO 1 [] [(4, .kv .i 0)] (Os := []) trivial hE hH (by kernel_rfl) (fun a hE => ?_)
      refine wpFrom_end (by kernel_rfl) ?_
      refine Exit.then_normal (hK7 _ _ ?_)
      refine wp_ret ?_
      refine Exit.then_ret ?_
      cases h
      exact ret1 rfl hE hle hH (by kernel_rfl)
    · replace h := ifF hc h
      refine wp_skip ?_
      refine Exit.then_normal (hK2 _ _ ?_)
      refine wp_seq_k (fun K hK8 => ?_)
      refine wp_region_from ?_
      obtain ⟨i9, hi9, h⟩ := bs h
      obtain ⟨o10, ho10, h⟩ := bs h
      obtain ⟨i11, hi11, h⟩ := bs h
      obtain ⟨o12, ho12, h⟩ := bs h
      refine segO 10 [.pt i9, .ob fs105 o10, .ob fs105 o10, .pt i11, .ob fs108 o12] [(4, .kv .i o12.2.1)] (Os := [_, _, _, _, _]) ⟨hi9, (ob105 (s := σ) ho10), (ob105 (s := σ) ho10), hi11, (ob108 (s := σ) ho12), trivial⟩ hE hH (by kernel_rfl) (fun a hE => ?_)
      refine wpFrom_end (by kernel_rfl) ?_
      refine Exit.then_normal (hK8 _ _ ?_)
      refine wp_ret ?_
      cases h
      exact ret1 rfl hE hle hH (by kernel_rfl)

def f28 (p0 : Option Nat) (p1 : List UInt8) (σ : St) : Option ((List UInt8) × Int) :=
  f77 p0 p1 σ >>= fun r3 =>
  if (r3.2 != 0) = true then
  some ([], r3.2)
  else
  r3.1 >>= fun i8 =>
  (σ.t108[i8]?) >>= fun o9 =>
  some (o9.1, 0)

theorem f28_ok {p0 : Option Nat} {p1 : List UInt8} {σ : St} {p : (List UInt8) × Int} (h : f28 p0 p1 σ = some p) : Spec Try.prog 28 [.kv (.ptr 105) p0, .kv .str p1] (tabs σ) (.tup [⟨.str, p.1⟩, ⟨.i, p.2⟩]) (tabs σ) := by
  refine Spec.intro Try.func28 (by kernel_rfl) rfl (by kernel_rfl) (fun a w G0 Ls hE hH hN => ?_)
  have hle : G0.le G0 := Gh.le_refl G0
  unfold f28 at h
  refine wp_seq_k (fun K hK1 => ?_)
  refine wp_region_from ?_
  refine segO 2 [] [(4, .kv .str []), (5, .kv .i 0)] (Os := []) trivial hE hH (by kernel_rfl) (fun a hE => ?_)
  refine wpFrom_end (by kernel_rfl) ?_
  refine Exit.then_normal (hK1 _ _ ?_)
  refine wp_seq_k (fun K hK2 => ?_)
  refine wp_region_from ?_
  refine segO 2 [] [(9, .kv (.ptr 105) p0), (10, .kv .str p1)] (Os := []) trivial hE hH (by kernel_rfl) (fun a hE => ?_)
  obtain ⟨r3, hr3, h⟩ := bs h
  refine stepCall (d := (some 11)) (f77_ok hr3) hE hH hN (by kernel_rfl) (by kernel_rfl) trivial (fun a w G hl1 hE hH => ?_)
  have hle := Gh.le_trans hle hl1
  refine segO 5 [] [(6, .kv (.ptr 108) r3.1), (7, .kv .i r3.2)] (Os := []) trivial hE hH (by kernel_rfl) (fun a hE => ?_)
  refine wpFrom_end (by kernel_rfl) ?_
  refine Exit.then_normal (hK2 _ _ ?_)
  refine wp_seq_k (fun K hK4 => ?_)
  refine wp_seq_k (fun K hK5 => ?_)
  refine wp_region_from ?_
  refine segO 2 [] [(15, .kv .bool (r3.2 != 0))] (Os := []) trivial hE hH (by kernel_rfl) (fun a hE => ?_)
  refine wpFrom_end (by kernel_rfl) ?_
  refine Exit.then_normal (hK5 _ _ ?_)
  refine condE (b := r3.2 != 0) hE (by kernel_rfl) (fun hc => ?_) (fun hc => ?_)
  · replace h := ifT hc h
    refine wp_seq_k (fun K hK6 => ?_)
    refine wp_region_from ?_
    refine segO 3 [] [(4, .kv .str []), (5, .kv .i r3.2)] (Os := []) trivial hE hH (by kernel_rfl) (fun a hE => ?_)
    refine wpFrom_end (by kernel_rfl) ?_
    refine Exit.then_normal (hK6 _ _ ?_)
    refine wp_ret ?_
    refine Exit.then_ret ?_
    cases h
    exact ret2 rfl hE hle hH (by kernel_rfl)
  · replace h := ifF hc h
    refine wp_skip ?_
    refine Exit.then_normal (hK4 _ _ ?_)
    refine wp_seq_k (fun K hK7 => ?_)
    refine wp_region_from ?_
    obtain ⟨i8, hi8, h⟩ := bs h
    obtain ⟨o9, ho9, h⟩ := bs h
    refine segO 6 [.pt i8, .ob fs108 o9] [(4, .kv .str o9.1), (5, .kv .i 0)] (Os := [_, _]) ⟨hi8, (ob108 (s := σ) ho9), trivial⟩ hE hH (by kernel_rfl) (fun a hE => ?_)
    refine wpFrom_end (by kernel_rfl) ?_
    refine Exit.then_normal (hK7 _ _ ?_)
    refine wp_ret ?_
    cases h
    exact ret2 rfl hE hle hH (by kernel_rfl)

def f31 (p0 : Option Nat) (σ : St) : Option Bool :=
  if (!p0.isNone) = true then
  p0 >>= fun i3 =>
  (σ.t105[i3]?) >>= fun o4 =>
  some o4.2.2.2.1
  else
  some false

theorem f31_ok {p0 : Option Nat} {σ : St} {p : Bool} (h : f31 p0 σ = some p) : Spec Try.prog 31 [.kv (.ptr 105) p0] (tabs σ) (.kv .bool p) (tabs σ) := by
  refine Spec.intro Try.func31 (by kernel_rfl) rfl (by kernel_rfl) (fun a w G0 Ls hE hH hN => ?_)
  have hle : G0.le G0 := Gh.le_refl G0
  unfold f31 at h
  refine wp_seq_k (fun K hK1 => ?_)
  refine wp_region_from ?_
  refine segO 1 [] [(2, .kv .bool false)] (Os := []) trivial hE hH (by kernel_rfl) (fun a hE => ?_)
  refine wpFrom_end (by kernel_rfl) ?_
  refine Exit.then_normal (hK1 _ _ ?_)
  refine wp_seq_k (fun K hK2 => ?_)
  refine wp_region_from ?_
  refine segO 3 [] [(5, .kv .bool (!p0.isNone))] (Os := []) trivial hE hH (by kernel_rfl) (fun a hE => ?_)
  by_cases hc : (!p0.isNone) = true
  · replace h := ifT hc h
    have hE := hE.setB 5 (by kernel_rfl) hc
    obtain ⟨i3, hi3, h⟩ := bs h
    obtain ⟨o4, ho4, h⟩ := bs h
    refine segO 6 [.pt i3, .ob fs105 o4] [(2, .kv .bool o4.2.2.2.1)] (Os := [_, _]) ⟨hi3, (ob105 (s := σ) ho4), trivial⟩ hE hH (by kernel_rfl) (fun a hE => ?_)
    refine wpFrom_end (by kernel_rfl) ?_
    refine Exit.then_normal (hK2 _ _ ?_)
    refine wp_ret ?_
    cases h
    exact ret1 rfl hE hle hH (by kernel_rfl)
  · replace h := ifN hc h
    have hE := hE.setB 5 (by kernel_rfl) (bf hc)
    refine segO 6 [] [(2, .kv .bool false)] (Os := []) trivial hE hH (by kernel_rfl) (fun a hE => ?_)
    refine wpFrom_end (by kernel_rfl) ?_
    refine Exit.then_normal (hK2 _ _ ?_)
    refine wp_ret ?_
    cases h
    exact ret1 rfl hE hle hH (by kernel_rfl)

def f32 (p0 : Option Nat) (p1 : Int) (σ : St) : Option (Int × St) :=
  f70 p0 σ >>= fun r3 =>
  if (r3 != 0) = true then
  some (r3, σ)
  else
  if (decide (p1 < 1)) = true then
  some (2, σ)
  else
  p0 >>= fun i10 =>
  (σ.t105[i10]?) >>= fun o11 =>
  some (0, (σ.set105 i10 (o11.1, o11.2.1, p1, o11.2.2.2.1, ())))

theorem f32_ok {p0 : Option Nat} {p1 : Int} {σ : St} {p : Int × St} (h : f32 p0 p1 σ = some p) : Spec Try.prog 32 [.kv (.ptr 105) p0, .kv .i p1] (tabs σ) (.kv .i p.1) (tabs p.2) := by
  refine Spec.intro Try.func32 (by kernel_rfl) rfl (by kernel_rfl) (fun a w G0 Ls hE hH hN => ?_)
  have hle : G0.le G0 := Gh.le_refl G0
  unfold f32 at h
  refine wp_seq_k (fun K hK1 => ?_)
  refine wp_region_from ?_
  refine segO 1 [] [(4, .kv .i 0)] (Os := []) trivial hE hH (by kernel_rfl) (fun a hE => ?_)
  refine wpFrom_end (by kernel_rfl) ?_
  refine Exit.then_normal (hK1 _ _ ?_)
  refine wp_seq_k (fun K hK2 => ?_)
  refine wp_region_from ?_
  refine segO 1 [] [(6, .kv (.ptr 105) p0)] (Os := []) trivial hE hH (by kernel_rfl) (fun a hE => ?_)
  obtain ⟨r3, hr3, h⟩ := bs h
  refine stepCall (d := (some 7)) (f70_ok hr3) hE hH hN (by kernel_rfl) (by kernel_rfl) trivial (fun a w G hl1 hE hH => ?_)
  have hle := Gh.le_trans hle hl1
  refine segO 1 [] [(5, .kv .i r3)] (Os := []) trivial hE hH (by kernel_rfl) (fun a hE => ?_)
  refine wpFrom_end (by kernel_rfl) ?_
  refine Exit.then_normal (hK2 _ _ ?_)
  refine wp_seq_k (fun K hK4 => ?_)
  refine wp_block ?_
  refine wp_seq_k (fun K hK5 => ?_)
  refine wp_region_from ?_
  refine segO 3 [] [(8, .kv .bool (r3 != 0))] (Os := []) trivial hE hH (by kernel_rfl) (fun a hE => ?_)
  refine wpFrom_end (by kernel_rfl) ?_
  refine Exit.then_normal (hK5 _ _ ?_)
  refine condE (b := r3 != 0) hE (by kernel_rfl) (fun hc => ?_) (fun hc => ?_)
  · replace h := ifT hc h
    refine wp_seq_k (fun K hK6 => ?_)
    refine wp_region_from ?_
    refine segO 2 [] [(4, .kv .i r3)] (Os := []) trivial hE hH (by kernel_rfl) (fun a hE => ?_)
    refine wpFrom_end (by kernel_rfl) ?_
    refine Exit.then_normal (hK6 _ _ ?_)
    refine wp_ret ?_
    refine Exit.in_ret ?_
    refine Exit.then_ret ?_
    cases h
    exact ret1 rfl hE hle hH (by kernel_rfl)
  · replace h := ifF hc h
    refine wp_seq_k (fun K hK7 => ?_)
    refine wp_region_from ?_
    refine segO 3 [] [(12, .kv .bool (decide (p1 < 1)))] (Os := []) trivial hE hH (by kernel_rfl) (fun a hE => ?_)
    refine wpFrom_end (by kernel_rfl) ?_
    refine Exit.then_normal (hK7 _ _ ?_)
    refine condE (b := decide (p1 < 1)) hE (by kernel_rfl) (fun hc => ?_) (fun hc => ?_)
    · replace h := ifT hc h
      refine wp_seq_k (fun K hK8 => ?_)
      refine wp_region_from ?_
      refine segO 1 [] [(4, .kv .i 2)] (Os := []) trivial hE hH (by kernel_rfl) (fun a hE => ?_)
      refine wpFrom_end (by kernel_rfl) ?_
      refine Exit.then_normal (hK8 _ _ ?_)
      refine wp_ret ?_
      refine Exit.in_ret ?_
      refine Exit.then_ret ?_
      cases h
      exact ret1 rfl hE hle hH (by kernel_rfl)
    · replace h := ifF hc h
      refine wp_skip ?_
      refine Exit.in_normal ?_
      refine Exit.then_normal (hK4 _ _ ?_)
      refine wp_seq_k (fun K hK9 => ?_)
      refine wp_region_from ?_
      obtain ⟨i10, hi10, h⟩ := bs h
      refine segO 4 [.pt i10] [(16, .kv .i p1), (18, .fldA 105 i10 2)] (Os := [_]) ⟨hi10, trivial⟩ hE hH (by kernel_rfl) (fun a hE => ?_)
      obtain ⟨o11, ho11, h⟩ := bs h
      refine stepStO (t := 105) (j := i10) (off := 2) .i p1 (x' := (o11.1, o11.2.1, p1, o11.2.2.2.1, ())) hE hH (by kernel_rfl) (ob105 (s := σ) ho11) (by kernel_rfl) (upd105 (s := σ)) (fun w G hl2 hE hH => ?_)
      have hle := Gh.le_trans hle hl2
      refine wpFrom_end (by kernel_rfl) ?_
      refine Exit.then_normal (hK9 _ _ ?_)
      refine wp_seq_k (fun K hK12 => ?_)
      refine wp_region_from ?_
      refine segO 1 [] [(4, .kv .i 0)] (Os := []) trivial hE hH (by kernel_rfl) (fun a hE => ?_)
      refine wpFrom_end (by kernel_rfl) ?_
      refine Exit.then_normal (hK12 _ _ ?_)
      refine wp_ret ?_
      cases h
      exact ret1 rfl hE hle hH (by kernel_rfl)

def f78 (c0 : Nat) (σ : St) : Option (Unit × St) :=
  (σ.t100106[c0]?) >>= fun o1 =>
  o1.1 >>= fun i2 =>
  (σ.t108[i2]?) >>= fun o3 =>
  o1.1 >>= fun i4 =>
  (σ.t108[i4]?) >>= fun o5 =>
  some ((), (σ.set108 i4 (o5.1, (o3.1.length : Int), ())))

theorem f78_ok {c0 : Nat} {σ : St} {p : Unit × St} (h : f78 c0 σ = some p) : Spec Try.prog 78 [.fldA 100106 c0 0] (tabs σ) (.tup []) (tabs p.2) := by
  refine Spec.intro Try.func78 (by kernel_rfl) rfl (by kernel_rfl) (fun a w G0 Ls hE hH hN => ?_)
  have hle : G0.le G0 := Gh.le_refl G0
  unfold f78 at h
  obtain ⟨o1, ho1, h⟩ := bs h
  obtain ⟨i2, hi2, h⟩ := bs h
  obtain ⟨o3, ho3, h⟩ := bs h
  refine region_par 6 [] [(0, 0), (0, 0), (0, 0), (0, 0), (0, 0), (0, 0)] [.kv (.ptr 108) o1.1, .kv (.ptr 108) o1.1, .kv (.ptr 108) (some i2), .fldA 108 i2 0, .kv .str o3.1, .kv .i (o3.1.length : Int)] (fun _ => tabs σ) (fun _ => Ls) (by kernel_rfl) (by kernel_rfl) hE hH
          ⟨⟨⟨⟨⟨⟨trivial,
          anyk (fun k => obR [.ob fs100106 o1] (Os := [_]) ⟨(ob100106 (s := σ) ho1), trivial⟩ (by kernel_rfl) (by kernel_rfl))⟩,
          anyk (fun k => obR [.ob fs100106 o1] (Os := [_]) ⟨(ob100106 (s := σ) ho1), trivial⟩ (by kernel_rfl) (by kernel_rfl))⟩,
          anyk (fun k => obR [.pt i2] (Os := [_]) ⟨hi2, trivial⟩ (by kernel_rfl) (by kernel_rfl))⟩,
          anyk (fun k => obR [] (Os := []) trivial (by kernel_rfl) (by kernel_rfl))⟩,
          anyk (fun k => obR [.ob fs108 o3] (Os := [_]) ⟨(ob108 (s := σ) ho3), trivial⟩ (by kernel_rfl) (by kernel_rfl))⟩,
          anyk (fun k => obR [] (Os := []) trivial (by kernel_rfl) (by kernel_rfl))⟩ (fun a w G hl1 hE hH => ?_)
  have hle := Gh.le_trans hle hl1
  obtain ⟨i4, hi4, h⟩ := bs h
  refine segO 2 [.pt i4] [(8, .fldA 108 i4 1)] (Os := [_]) ⟨hi4, trivial⟩ hE hH (by kernel_rfl) (fun a hE => ?_)
  obtain ⟨o5, ho5, h⟩ := bs h
  refine stepStO (t := 108) (j := i4) (off := 1) .i (o3.1.length : Int) (x' := (o5.1, (o3.1.length : Int), ())) hE hH (by kernel_rfl) (ob108 (s := σ) ho5) (by kernel_rfl) (upd108 (s := σ)) (fun w G hl2 hE hH => ?_)
  have hle := Gh.le_trans hle hl2
  refine wpFrom_end (by kernel_rfl) ?_
  cases h
  exact end0 rfl hE hle hH

def f79 (c0 : Nat) (c1 : Nat) (σ : St) : Option (Unit × St) :=
  (σ.t100106[c0]?) >>= fun o1 =>
  o1.1 >>= fun i2 =>
  (σ.t108[i2]?) >>= fun o3 =>
  (σ.t100003[c1]?) >>= fun o4 =>
  if (0 : Int) ≤ o4.1 ∧ o4.1 ≤ (o3.1.length : Int) then
  o1.1 >>= fun i6 =>
  (σ.t108[i6]?) >>= fun o7 =>
  o1.1 >>= fun i8 =>
  (σ.t108[i8]?) >>= fun o9 =>
  o1.1 >>= fun i10 =>
  ((σ.set108 i8 (o3.1.take (Int.toNat o4.1), o9.2.1, ())).t108[i10]?) >>= fun o11 =>
  some ((), ((σ.set108 i8 (o3.1.take (Int.toNat o4.1), o9.2.1, ())).set108 i10 (o11.1, if o4.1 < o7.2.1 then o4.1 else o7.2.1, ())))
  else none

theorem f79_ok {c0 : Nat} {c1 : Nat} {σ : St} {p : Unit × St} (h : f79 c0 c1 σ = some p) : Spec Try.prog 79 [.fldA 100106 c0 0, .fldA 100003 c1 0] (tabs σ) (.tup []) (tabs p.2) := by
  refine Spec.intro Try.func79 (by kernel_rfl) rfl (by kernel_rfl) (fun a w G0 Ls hE hH hN => ?_)
  have hle : G0.le G0 := Gh.le_refl G0
  unfold f79 at h
  obtain ⟨o1, ho1, h⟩ := bs h
  obtain ⟨i2, hi2, h⟩ := bs h
  obtain ⟨o3, ho3, h⟩ := bs h
  obtain ⟨o4, ho4, h⟩ := bs h
  obtain ⟨q5, h⟩ := gd h
  obtain ⟨i6, hi6, h⟩ := bs h
  obtain ⟨o7, ho7, h⟩ := bs h
  obtain ⟨i8, hi8, h⟩ := bs h
  obtain ⟨o9, ho9, h⟩ := bs h
  refine region_par 17 [16] [(0, 0), (0, 1), (0, 0), (0, 0), (0, 0), (0, 0), (0, 0), (0, 0), (0, 0), (0, 0), (0, 0), (0, 0), (0, 1), (0, 1), (0, 0), (0, 0), (0, 0)] [.kv (.ptr 108) o1.1, .kv (.ptr 108) o1.1, .kv (.ptr 108) o1.1, .kv (.ptr 108) (some i2), .fldA 108 i2 0, .kv .str o3.1, .kv .i o4.1, .kv .str (o3.1.take (Int.toNat o4.1)), .kv (.ptr 108) o1.1, .kv (.ptr 108) (some i6), .fldA 108 i6 1, .kv .i o7.2.1, .kv .i o4.1, .kv .i (if o4.1 < o7.2.1 then o4.1 else o7.2.1), .kv (.ptr 108) (some i8), .fldA 108 i8 0, .undef] (fun k => match k with | 0 => tabs σ | _ => tabs (σ.set108 i8 (o3.1.take (Int.toNat o4.1), o9.2.1, ()))) (fun _ => Ls) (by kernel_rfl) (by kernel_rfl) hE hH
          ⟨⟨⟨⟨⟨⟨⟨⟨⟨⟨⟨⟨⟨⟨⟨⟨⟨trivial,
          one (obR [.ob fs100106 o1] (Os := [_]) ⟨(ob100106 (s := σ) ho1), trivial⟩ (by kernel_rfl) (by kernel_rfl))⟩,
          two (obR [.ob fs100106 o1] (Os := [_]) ⟨(ob100106 (s := σ) ho1), trivial⟩ (by kernel_rfl) (by kernel_rfl)) (obR [.ob fs100106 o1] (Os := [_]) ⟨(ob100106 (s := (σ.set108 i8 (o3.1.take (Int.toNat o4.1), o9.2.1, ()))) ho1), trivial⟩ (by kernel_rfl) (by kernel_rfl))⟩,
          one (obR [.ob fs100106 o1] (Os := [_]) ⟨(ob100106 (s := σ) ho1), trivial⟩ (by kernel_rfl) (by kernel_rfl))⟩,
          anyk (fun k => obR [.pt i2] (Os := [_]) ⟨hi2, trivial⟩ (by kernel_rfl) (by kernel_rfl))⟩,
          anyk (fun k => obR [] (Os := []) trivial (by kernel_rfl) (by kernel_rfl))⟩,
          one (obR [.ob fs108 o3] (Os := [_]) ⟨(ob108 (s := σ) ho3), trivial⟩ (by kernel_rfl) (by kernel_rfl))⟩,
          one (obR [.ob fs100003 o4] (Os := [_]) ⟨(ob100003 (s := σ) ho4), trivial⟩ (by kernel_rfl) (by kernel_rfl))⟩,
          anyk (fun k => obR [] (Os := [_]) ⟨q5, trivial⟩ (by kernel_rfl) (by kernel_rfl))⟩,
          one (obR [.ob fs100106 o1] (Os := [_]) ⟨(ob100106 (s := σ) ho1), trivial⟩ (by kernel_rfl) (by kernel_rfl))⟩,
          anyk (fun k => obR [.pt i6] (Os := [_]) ⟨hi6, trivial⟩ (by kernel_rfl) (by kernel_rfl))⟩,
          anyk (fun k => obR [] (Os := []) trivial (by kernel_rfl) (by kernel_rfl))⟩,
          one (obR [.ob fs108 o7] (Os := [_]) ⟨(ob108 (s := σ) ho7), trivial⟩ (by kernel_rfl) (by kernel_rfl))⟩,
          two (obR [.ob fs100003 o4] (Os := [_]) ⟨(ob100003 (s := σ) ho4), trivial⟩ (by kernel_rfl) (by kernel_rfl)) (obR [.ob fs100003 o4] (Os := [_]) ⟨(ob100003 (s := (σ.set108 i8 (o3.1.take (Int.toNat o4.1), o9.2.1, ()))) ho4), trivial⟩ (by kernel_rfl) (by kernel_rfl))⟩,
          anyk (fun k => obR [] (Os := []) trivial (by kernel_rfl) (by kernel_rfl))⟩,
          anyk (fun k => obR [.pt i8] (Os := [_]) ⟨hi8, trivial⟩ (by kernel_rfl) (by kernel_rfl))⟩,
          anyk (fun k => obR [] (Os := []) trivial (by kernel_rfl) (by kernel_rfl))⟩,
          one (obSt (k := 0) (t := 108) (j := i8) (off := 0) .str (o3.1.take (Int.toNat o4.1)) (x' := (o3.1.take (Int.toNat o4.1), o9.2.1, ())) (by kernel_rfl) (by kernel_rfl) (ob108 (s := σ) ho9) (by kernel_rfl) (upd108 (s := σ)) rfl rfl)⟩ (fun a w G hl1 hE hH => ?_)
  have hle := Gh.le_trans hle hl1
  obtain ⟨i10, hi10, h⟩ := bs h
  refine segO 2 [.pt i10] [(19, .fldA 108 i10 1)] (Os := [_]) ⟨hi10, trivial⟩ hE hH (by kernel_rfl) (fun a hE => ?_)
  obtain ⟨o11, ho11, h⟩ := bs h
  refine stepStO (t := 108) (j := i10) (off := 1) .i (if o4.1 < o7.2.1 then o4.1 else o7.2.1) (x' := (o11.1, if o4.1 < o7.2.1 then o4.1 else o7.2.1, ())) hE hH (by kernel_rfl) (ob108 (s := (σ.set108 i8 (o3.1.take (Int.toNat o4.1), o9.2.1, ()))) ho11) (by kernel_rfl) (upd108 (s := (σ.set108 i8 (o3.1.take (Int.toNat o4.1), o9.2.1, ())))) (fun w G hl2 hE hH => ?_)
  have hle := Gh.le_trans hle hl2
  refine wpFrom_end (by kernel_rfl) ?_
  cases h
  exact end0 rfl hE hle hH

def f80 (c0 : Nat) (c1 : Nat) (c2 : Nat) (c3 : Nat) (σ : St) : Option (Unit × St) :=
  (σ.t100024[c0]?) >>= fun o2 =>
  o2.1 >>= fun i3 =>
  (σ.t105[i3]?) >>= fun o4 =>
  (σ.t100009[c1]?) >>= fun o5 =>
  o2.1 >>= fun i6 =>
  ((σ.set105 i3 (o4.1, mapDel .str (.ptr 108) o5.1 o4.2.1, o4.2.2.1, o4.2.2.2.1, ())).t105[i6]?) >>= fun o7 =>
  ((σ.set105 i3 (o4.1, mapDel .str (.ptr 108) o5.1 o4.2.1, o4.2.2.1, o4.2.2.2.1, ())).t100009[c3]?) >>= fun o8 =>
  ((σ.set105 i3 (o4.1, mapDel .str (.ptr 108) o5.1 o4.2.1, o4.2.2.1, o4.2.2.2.1, ())).t100106[c2]?) >>= fun o9 =>
  some ((), ((σ.set105 i3 (o4.1, mapDel .str (.ptr 108) o5.1 o4.2.1, o4.2.2.1, o4.2.2.2.1, ())).set105 i6 (o7.1, mapSet .str (.ptr 108) o8.1 o9.1 o7.2.1, o7.2.2.1, o7.2.2.2.1, ())))

theorem f80_ok {c0 : Nat} {c1 : Nat} {c2 : Nat} {c3 : Nat} {σ : St} {p : Unit × St} (h : f80 c0 c1 c2 c3 σ = some p) : Spec Try.prog 80 [.fldA 100024 c0 0, .fldA 100009 c1 0, .fldA 100106 c2 0, .fldA 100009 c3 0] (tabs σ) (.tup []) (tabs p.2) := by
  refine Spec.intro Try.func80 (by kernel_rfl) rfl (by kernel_rfl) (fun a w G0 Ls hE hH hN => ?_)
  have hle : G0.le G0 := Gh.le_refl G0
  unfold f80 at h
  refine wp_seq_k (fun K hK1 => ?_)
  obtain ⟨o2, ho2, h⟩ := bs h
  obtain ⟨i3, hi3, h⟩ := bs h
  obtain ⟨o4, ho4, h⟩ := bs h
  obtain ⟨o5, ho5, h⟩ := bs h
  refine region_par 5 [] [(0, 0), (0, 0), (0, 0), (0, 0), (0, 0)] [.kv (.ptr 105) o2.1, .kv (.ptr 105) (some i3), .fldA 105 i3 1, .fm 105 i3 1, .kv .str o5.1] (fun _ => tabs σ) (fun _ => Ls) (by kernel_rfl) (by kernel_rfl) hE hH
          ⟨⟨⟨⟨⟨trivial,
          anyk (fun k => obR [.ob fs100024 o2] (Os := [_]) ⟨(ob100024 (s := σ) ho2), trivial⟩ (by kernel_rfl) (by kernel_rfl))⟩,
          anyk (fun k => obR [.pt i3] (Os := [_]) ⟨hi3, trivial⟩ (by kernel_rfl) (by kernel_rfl))⟩,
          anyk (fun k => obR [] (Os := []) trivial (by kernel_rfl) (by kernel_rfl))⟩,
          anyk (fun k => obR [.ob fs105 o4] (Os := [_]) ⟨(ob105 (s := σ) ho4), trivial⟩ (by kernel_rfl) (by kernel_rfl))⟩,
          anyk (fun k => obR [.ob fs100009 o5] (Os := [_]) ⟨(ob100009 (s := σ) ho5), trivial⟩ (by kernel_rfl) (by kernel_rfl))⟩ (fun a w G hl1 hE hH => ?_)
  have hle := Gh.le_trans hle hl1
  refine stepMDel (d := none) .str (.ptr 108) o5.1 (t := 105) (j := i3) (f := 1) (m := o4.2.1) (x' := (o4.1, mapDel .str (.ptr 108) o5.1 o4.2.1, o4.2.2.1, o4.2.2.2.1, ())) hE hH (by kernel_rfl) (by kernel_rfl) (ob105 (s := σ) ho4) (by kernel_rfl) (by kernel_rfl) (upd105 (s := σ)) (fun a w G hl2 hE hH => ?_)
  have hle := Gh.le_trans hle hl2
  refine wpFrom_end (by kernel_rfl) ?_
  refine Exit.then_normal (hK1 _ _ ?_)
  obtain ⟨i6, hi6, h⟩ := bs h
  obtain ⟨o7, ho7, h⟩ := bs h
  obtain ⟨o8, ho8, h⟩ := bs h
  obtain ⟨o9, ho9, h⟩ := bs h
  refine region_par 6 [] [(0, 0), (0, 0), (0, 0), (0, 0), (0, 0), (0, 0)] [.kv (.ptr 105) o2.1, .kv (.ptr 105) (some i6), .fldA 105 i6 1, .fm 105 i6 1, .kv .str o8.1, .kv (.ptr 108) o9.1] (fun _ => tabs (σ.set105 i3 (o4.1, mapDel .str (.ptr 108) o5.1 o4.2.1, o4.2.2.1, o4.2.2.2.1, ()))) (fun _ => Ls) (by kernel_rfl) (by kernel_rfl) hE hH
          ⟨⟨⟨⟨⟨⟨trivial,
          anyk (fun k => obR [.ob fs100024 o2] (Os := [_]) ⟨(ob100024 (s := (σ.set105 i3 (o4.1, mapDel .str (.ptr 108) o5.1 o4.2.1, o4.2.2.1, o4.2.2.2.1, ()))) ho2), trivial⟩ (by kernel_rfl) (by kernel_rfl))⟩,
          anyk (fun k => obR [.pt i6] (Os := [_]) ⟨hi6, trivial⟩ (by kernel_rfl) (by kernel_rfl))⟩,
          anyk (fun k => obR [] (Os := []) trivial (by kernel_rfl) (by kernel_rfl))⟩,
          anyk (fun k => obR [.ob fs105 o7] (Os := [_]) ⟨(ob105 (s := (σ.set105 i3 (o4.1, mapDel .str (.ptr 108) o5.1 o4.2.1, o4.2.2.1, o4.2.2.2.1, ()))) ho7), trivial⟩ (by kernel_rfl) (by kernel_rfl))⟩,
          anyk (fun k => obR [.ob fs100009 o8] (Os := [_]) ⟨(ob100009 (s := (σ.set105 i3 (o4.1, mapDel .str (.ptr 108) o5.1 o4.2.1, o4.2.2.1, o4.2.2.2.1, ()))) ho8), trivial⟩ (by kernel_rfl) (by kernel_rfl))⟩,
          anyk (fun k => obR [.ob fs100106 o9] (Os := [_]) ⟨(ob100106 (s := (σ.set105 i3 (o4.1, mapDel .str (.ptr 108) o5.1 o4.2.1, o4.2.2.1, o4.2.2.2.1, ()))) ho9), trivial⟩ (by kernel_rfl) (by kernel_rfl))⟩ (fun a w G hl3 hE hH => ?_)
  have hle := Gh.le_trans hle hl3
  refine stepMUp .str (.ptr 108) o8.1 o9.1 (t := 105) (j := i6) (f := 1) (m := o7.2.1) (x' := (o7.1, mapSet .str (.ptr 108) o8.1 o9.1 o7.2.1, o7.2.2.1, o7.2.2.2.1, ())) hE hH (by kernel_rfl) (ob105 (s := (σ.set105 i3 (o4.1, mapDel .str (.ptr 108) o5.1 o4.2.1, o4.2.2.1, o4.2.2.2.1, ()))) ho7) (by kernel_rfl) (by kernel_rfl) (upd105 (s := (σ.set105 i3 (o4.1, mapDel .str (.ptr 108) o5.1 o4.2.1, o4.2.2.1, o4.2.2.2.1, ())))) (fun w G hl4 hE hH => ?_)
  have hle := Gh.le_trans hle hl4
  refine wpFrom_end (by kernel_rfl) ?_
  cases h
  exact end0 rfl hE hle hH

def f81 (c0 : Nat) (c1 : Nat) (σ : St) : Option (Unit × St) :=
  (σ.t100024[c0]?) >>= fun o1 =>
  o1.1 >>= fun i2 =>
  (σ.t105[i2]?) >>= fun o3 =>
  (σ.t100009[c1]?) >>= fun o4 =>
  some ((), (σ.set105 i2 (o3.1, mapDel .str (.ptr 108) o4.1 o3.2.1, o3.2.2.1, o3.2.2.2.1, ())))

theorem f81_ok {c0 : Nat} {c1 : Nat} {σ : St} {p : Unit × St} (h : f81 c0 c1 σ = some p) : Spec Try.prog 81 [.fldA 100024 c0 0, .fldA 100009 c1 0] (tabs σ) (.tup []) (tabs p.2) := by
  refine Spec.intro Try.func81 (by kernel_rfl) rfl (by kernel_rfl) (fun a w G0 Ls hE hH hN => ?_)
  have hle : G0.le G0 := Gh.le_refl G0
  unfold f81 at h
  obtain ⟨o1, ho1, h⟩ := bs h
  obtain ⟨i2, hi2, h⟩ := bs h
  obtain ⟨o3, ho3, h⟩ := bs h
  obtain ⟨o4, ho4, h⟩ := bs h
  refine region_par 5 [] [(0, 0), (0, 0), (0, 0), (0, 0), (0, 0)] [.kv (.ptr 105) o1.1, .kv (.ptr 105) (some i2), .fldA 105 i2 1, .fm 105 i2 1, .kv .str o4.1] (fun _ => tabs σ) (fun _ => Ls) (by kernel_rfl) (by kernel_rfl) hE hH
          ⟨⟨⟨⟨⟨trivial,
          anyk (fun k => obR [.ob fs100024 o1] (Os := [_]) ⟨(ob100024 (s := σ) ho1), trivial⟩ (by kernel_rfl) (by kernel_rfl))⟩,
          anyk (fun k => obR [.pt i2] (Os := [_]) ⟨hi2, trivial⟩ (by kernel_rfl) (by kernel_rfl))⟩,
          anyk (fun k => obR [] (Os := []) trivial (by kernel_rfl) (by kernel_rfl))⟩,
          anyk (fun k => obR [.ob fs105 o3] (Os := [_]) ⟨(ob105 (s := σ) ho3), trivial⟩ (by kernel_rfl) (by kernel_rfl))⟩,
          anyk (fun k => obR [.ob fs100009 o4] (Os := [_]) ⟨(ob100009 (s := σ) ho4), trivial⟩ (by kernel_rfl) (by kernel_rfl))⟩ (fun a w G hl1 hE hH => ?_)
  have hle := Gh.le_trans hle hl1
  refine stepMDel (d := none) .str (.ptr 108) o4.1 (t := 105) (j := i2) (f := 1) (m := o3.2.1) (x' := (o3.1, mapDel .str (.ptr 108) o4.1 o3.2.1, o3.2.2.1, o3.2.2.2.1, ())) hE hH (by kernel_rfl) (by kernel_rfl) (ob105 (s := σ) ho3) (by kernel_rfl) (by kernel_rfl) (upd105 (s := σ)) (fun a w G hl2 hE hH => ?_)
  have hle := Gh.le_trans hle hl2
  refine wpFrom_end (by kernel_rfl) ?_
  cases h
  exact end0 rfl hE hle hH

def f73  (σ : St) : Option (Unit × St) :=
  some ((), σ)

theorem f73_ok  {σ : St} {p : Unit × St} (h : f73 σ = some p) : Spec Try.prog 73 [] (tabs σ) (.tup []) (tabs p.2) := by
  refine Spec.intro Try.func73 (by kernel_rfl) rfl (by kernel_rfl) (fun a w G0 Ls hE hH hN => ?_)
  have hle : G0.le G0 := Gh.le_refl G0
  unfold f73 at h
  refine wp_skip ?_
  cases h
  exact end0 rfl hE hle hH

def f72 (p0 : Option Nat) (p1 : St → Option (Unit × St)) (σ : St) : Option (Int × St) :=
  p0 >>= fun i4 =>
  (σ.t105[i4]?) >>= fun o5 =>
  if (decide (o5.2.2.1 > 0)) = true then
  p0 >>= fun i7 =>
  (σ.t105[i7]?) >>= fun o8 =>
  p0 >>= fun i9 =>
  (σ.t105[i9]?) >>= fun o10 =>
  p0 >>= fun i12 =>
  ((σ.set105 i9 (o10.1, o10.2.1, IntKind.wrap .i64 (o8.2.2.1 - 1), o10.2.2.2.1, ())).t105[i12]?) >>= fun o13 =>
  if (o13.2.2.1 == 0) = true then
  p0 >>= fun i15 =>
  ((σ.set105 i9 (o10.1, o10.2.1, IntKind.wrap .i64 (o8.2.2.1 - 1), o10.2.2.2.1, ())).t105[i15]?) >>= fun o16 =>
  some (11, ((σ.set105 i9 (o10.1, o10.2.1, IntKind.wrap .i64 (o8.2.2.1 - 1), o10.2.2.2.1, ())).set105 i15 (o16.1, o16.2.1, o16.2.2.1, true, ())))
  else
  p1 (σ.set105 i9 (o10.1, o10.2.1, IntKind.wrap .i64 (o8.2.2.1 - 1), o10.2.2.2.1, ())) >>= fun r19 =>
  some (0, r19.2)
  else
  p1 σ >>= fun r22 =>
  some (0, r22.2)

theorem f72_ok {p0 : Option Nat} {p1 : St → Option (Unit × St)} {σ : St} {q1 : Nat} {l1 : List (Nat × Nat)} (hq1 : ∀ {σ : St} {r : Unit × St}, p1 σ = some r → Spec Try.prog q1 (fldEs l1) (tabs σ) (.tup []) (tabs r.2)) {p : Int × St} (h : f72 p0 p1 σ = some p) : Spec Try.prog 72 [.kv (.ptr 105) p0, .clo q1 l1] (tabs σ) (.kv .i p.1) (tabs p.2) := by
  refine Spec.intro Try.func72 (by kernel_rfl) rfl (by kernel_rfl) (fun a w G0 Ls hE hH hN => ?_)
  have hle : G0.le G0 := Gh.le_refl G0
  unfold f72 at h
  refine wp_seq_k (fun K hK1 => ?_)
  refine wp_region_from ?_
  refine segO 1 [] [(4, .kv .i 0)] (Os := []) trivial hE hH (by kernel_rfl) (fun a hE => ?_)
  refine wpFrom_end (by kernel_rfl) ?_
  refine Exit.then_normal (hK1 _ _ ?_)
  refine wp_seq_k (fun K hK2 => ?_)
  refine wp_seq_k (fun K hK3 => ?_)
  refine wp_region_from ?_
  obtain ⟨i4, hi4, h⟩ := bs h
  obtain ⟨o5, ho5, h⟩ := bs h
  refine segO 5 [.pt i4, .ob fs105 o5] [(9, .kv .bool (decide (o5.2.2.1 > 0)))] (Os := [_, _]) ⟨hi4, (ob105 (s := σ) ho5), trivial⟩ hE hH (by kernel_rfl) (fun a hE => ?_)
  refine wpFrom_end (by kernel_rfl) ?_
  refine Exit.then_normal (hK3 _ _ ?_)
  refine condE (b := decide (o5.2.2.1 > 0)) hE (by kernel_rfl) (fun hc => ?_) (fun hc => ?_)
  · replace h := ifT hc h
    refine wp_seq_k (fun K hK6 => ?_)
    refine wp_region_from ?_
    obtain ⟨i7, hi7, h⟩ := bs h
    obtain ⟨o8, ho8, h⟩ := bs h
    obtain ⟨i9, hi9, h⟩ := bs h
    refine segO 7 [.pt i7, .ob fs105 o8, .pt i9] [(14, .kv .i (IntKind.wrap .i64 (o8.2.2.1 - 1))), (16, .fldA 105 i9 2)] (Os := [_, _, _]) ⟨hi7, (ob105 (s := σ) ho8), hi9, trivial⟩ hE hH (by kernel_rfl) (fun a hE => ?_)
    obtain ⟨o10, ho10, h⟩ := bs h
    refine stepStO (t := 105) (j := i9) (off := 2) .i (IntKind.wrap .i64 (o8.2.2.1 - 1)) (x' := (o10.1, o10.2.1, IntKind.wrap .i64 (o8.2.2.1 - 1), o10.2.2.2.1, ())) hE hH (by kernel_rfl) (ob105 (s := σ) ho10) (by kernel_rfl) (upd105 (s := σ)) (fun w G hl1 hE hH => ?_)
    have hle := Gh.le_trans hle hl1
    refine wpFrom_end (by kernel_rfl) ?_
    refine Exit.then_normal (hK6 _ _ ?_)
    refine wp_seq_k (fun K hK11 => ?_)
    refine wp_region_from ?_
    obtain ⟨i12, hi12, h⟩ := bs h
    obtain ⟨o13, ho13, h⟩ := bs h
    refine segO 5 [.pt i12, .ob fs105 o13] [(21, .kv .bool (o13.2.2.1 == 0))] (Os := [_, _]) ⟨hi12, (ob105 (s := (σ.set105 i9 (o10.1, o10.2.1, IntKind.wrap .i64 (o8.2.2.1 - 1), o10.2.2.2.1, ()))) ho13), trivial⟩ hE hH (by kernel_rfl) (fun a hE => ?_)
    refine wpFrom_end (by kernel_rfl) ?_
    refine Exit.then_normal (hK11 _ _ ?_)
    refine condE (b := o13.2.2.1 == 0) hE (by kernel_rfl) (fun hc => ?_) (fun hc => ?_)
    · replace h := ifT hc h
      refine wp_seq_k (fun K hK14 => ?_)
      refine wp_region_from ?_
      obtain ⟨i15, hi15, h⟩ := bs h
      refine segO 3 [.pt i15] [(24, .fldA 105 i15 3)] (Os := [_]) ⟨hi15, trivial⟩ hE hH (by kernel_rfl) (fun a hE => ?_)
      obtain ⟨o16, ho16, h⟩ := bs h
      refine stepStO (t := 105) (j := i15) (off := 3) .bool true (x' := (o16.1, o16.2.1, o16.2.2.1, true, ())) hE hH (by kernel_rfl) (ob105 (s := (σ.set105 i9 (o10.1, o10.2.1, IntKind.wrap .i64 (o8.2.2.1 - 1), o10.2.2.2.1, ()))) ho16) (by kernel_rfl) (upd105 (s := (σ.set105 i9 (o10.1, o10.2.1, IntKind.wrap .i64 (o8.2.2.1 - 1), o10.2.2.2.1, ())))) (fun w G hl2 hE hH => ?_)
      have hle := Gh.le_trans hle hl2
      refine wpFrom_end (by kernel_rfl) ?_
      refine Exit.then_normal (hK14 _ _ ?_)
      refine wp_seq_k (fun K hK17 => ?_)
      refine wp_region_from ?_
      refine segO 1 [] [(4, .kv .i 11)] (Os := []) trivial hE hH (by kernel_rfl) (fun a hE => ?_)
      refine wpFrom_end (by kernel_rfl) ?_
      refine Exit.then_normal (hK17 _ _ ?_)
      refine wp_ret ?_
      refine Exit.then_ret ?_
      cases h
      exact ret1 rfl hE hle hH (by kernel_rfl)
    · replace h := ifF hc h
      refine wp_skip ?_
      refine Exit.then_normal (hK2 _ _ ?_)
      refine wp_seq_k (fun K hK18 => ?_)
      refine wp_region_from ?_
      refine segO 1 [] [(25, .clo q1 l1)] (Os := []) trivial hE hH (by kernel_rfl) (fun a hE => ?_)
      obtain ⟨r19, hr19, h⟩ := bs h
      refine stepCallC (f := q1) (l := l1) (As := []) (R := .tup []) (d := (some 26)) (hq1 hr19) hE hH hN (by kernel_rfl) (by kernel_rfl) trivial (fun a w G hl3 hE hH => ?_)
      have hle := Gh.le_trans hle hl3
      refine wpFrom_end (by kernel_rfl) ?_
      refine Exit.then_normal (hK18 _ _ ?_)
      refine wp_seq_k (fun K hK20 => ?_)
      refine wp_region_from ?_
      refine segO 1 [] [(4, .kv .i 0)] (Os := []) trivial hE hH (by kernel_rfl) (fun a hE => ?_)
      refine wpFrom_end (by kernel_rfl) ?_
      refine Exit.then_normal (hK20 _ _ ?_)
      refine wp_ret ?_
      cases h
      exact ret1 rfl hE hle hH (by kernel_rfl)
  · replace h := ifF hc h
    refine wp_skip ?_
    refine Exit.then_normal (hK2 _ _ ?_)
    refine wp_seq_k (fun K hK21 => ?_)
    refine wp_region_from ?_
    refine segO 1 [] [(25, .clo q1 l1)] (Os := []) trivial hE hH (by kernel_rfl) (fun a hE => ?_)
    obtain ⟨r22, hr22, h⟩ := bs h
    refine stepCallC (f := q1) (l := l1) (As := []) (R := .tup []) (d := (some 26)) (hq1 hr22) hE hH hN (by kernel_rfl) (by kernel_rfl) trivial (fun a w G hl4 hE hH => ?_)
    have hle := Gh.le_trans hle hl4
    refine wpFrom_end (by kernel_rfl) ?_
    refine Exit.then_normal (hK21 _ _ ?_)
    refine wp_seq_k (fun K hK23 => ?_)
    refine wp_region_from ?_
    refine segO 1 [] [(4, .kv .i 0)] (Os := []) trivial hE hH (by kernel_rfl) (fun a hE => ?_)
    refine wpFrom_end (by kernel_rfl) ?_
    refine Exit.then_normal (hK23 _ _ ?_)
    refine wp_ret ?_
    cases h
    exact ret1 rfl hE hle hH (by kernel_rfl)

def f33 (p0 : Option Nat) (p1 : List UInt8) (σ : St) : Option (Int × St) :=
  f77 p0 p1 σ >>= fun r3 =>
  if (r3.2 != 0) = true then
  some (r3.2, ((σ.add100106 (none, ())).set100106 σ.t100106.length (r3.1, ())))
  else
  f72 p0 (f78 σ.t100106.length) ((σ.add100106 (none, ())).set100106 σ.t100106.length (r3.1, ())) >>= fun r8 =>
  some (r8.1, r8.2)

theorem f33_ok {p0 : Option Nat} {p1 : List UInt8} {σ : St} {p : Int × St} (h : f33 p0 p1 σ = some p) : Spec Try.prog 33 [.kv (.ptr 105) p0, .kv .str p1] (tabs σ) (.kv .i p.1) (tabs p.2) := by
  refine Spec.intro Try.func33 (by kernel_rfl) rfl (by kernel_rfl) (fun a w G0 Ls hE hH hN => ?_)
  have hle : G0.le G0 := Gh.le_refl G0
  unfold f33 at h
  refine wp_seq_k (fun K hK1 => ?_)
  refine wp_region_from ?_
  refine segO 1 [] [(4, .kv .i 0)] (Os := []) trivial hE hH (by kernel_rfl) (fun a hE => ?_)
  refine wpFrom_end (by kernel_rfl) ?_
  refine Exit.then_normal (hK1 _ _ ?_)
  refine wp_seq_k (fun K hK2 => ?_)
  refine wp_region_from ?_
  refine segO 2 [] [(8, .kv (.ptr 105) p0), (9, .kv .str p1)] (Os := []) trivial hE hH (by kernel_rfl) (fun a hE => ?_)
  obtain ⟨r3, hr3, h⟩ := bs h
  refine stepCall (d := (some 10)) (f77_ok hr3) hE hH hN (by kernel_rfl) (by kernel_rfl) trivial (fun a w G hl1 hE hH => ?_)
  have hle := Gh.le_trans hle hl1
  refine segO 3 [] [(11, .kv (.ptr 108) r3.1), (12, .kv .i r3.2)] (Os := []) trivial hE hH (by kernel_rfl) (fun a hE => ?_)
  refine stepAlloc1 (e := 106) (d := (some 5)) (.ptr 108) hE hH (by kernel_rfl) (by kernel_rfl) (addT100106 (s := σ) (x := (none, ()))) (fun a w G hl2 hE hH => ?_)
  have hle := Gh.le_trans hle hl2
  refine stepStO (t := 100106) (j := σ.t100106.length) (off := 0) (.ptr 108) r3.1 (x' := (r3.1, ())) hE hH (by kernel_rfl) (ob100106 (s := (σ.add100106 (none, ()))) (got100106 (s := σ) (x := (none, ())))) (by kernel_rfl) (upd100106 (s := (σ.add100106 (none, ())))) (fun w G hl3 hE hH => ?_)
  have hle := Gh.le_trans hle hl3
  refine segO 1 [] [(6, .kv .i r3.2)] (Os := []) trivial hE hH (by kernel_rfl) (fun a hE => ?_)
  refine wpFrom_end (by kernel_rfl) ?_
  refine Exit.then_normal (hK2 _ _ ?_)
  refine wp_seq_k (fun K hK4 => ?_)
  refine wp_seq_k (fun K hK5 => ?_)
  refine wp_region_from ?_
  refine segO 2 [] [(14, .kv .bool (r3.2 != 0))] (Os := []) trivial hE hH (by kernel_rfl) (fun a hE => ?_)
  refine wpFrom_end (by kernel_rfl) ?_
  refine Exit.then_normal (hK5 _ _ ?_)
  refine condE (b := r3.2 != 0) hE (by kernel_rfl) (fun hc => ?_) (fun hc => ?_)
  · replace h := ifT hc h
    refine wp_seq_k (fun K hK6 => ?_)
    refine wp_region_from ?_
    refine segO 2 [] [(4, .kv .i r3.2)] (Os := []) trivial hE hH (by kernel_rfl) (fun a hE => ?_)
    refine wpFrom_end (by kernel_rfl) ?_
    refine Exit.then_normal (hK6 _ _ ?_)
    refine wp_ret ?_
    refine Exit.then_ret ?_
    cases h
    exact ret1 rfl hE hle hH (by kernel_rfl)
  · replace h := ifF hc h
    refine wp_skip ?_
    refine Exit.then_normal (hK4 _ _ ?_)
    refine wp_seq_k (fun K hK7 => ?_)
    refine wp_region_from ?_
    refine segO 1 [] [(16, .kv (.ptr 105) p0)] (Os := []) trivial hE hH (by kernel_rfl) (fun a hE => ?_)
    refine stepMF (f := 78) (l := [(100106, σ.t100106.length)]) (d := (some 17)) hE (by kernel_rfl) (by kernel_rfl) (fun a hE => ?_)
    obtain ⟨r8, hr8, h⟩ := bs h
    refine stepCall (d := (some 18)) (f72_ok (q1 := 78) (l1 := [(100106, σ.t100106.length)]) (hq1 := (fun h => f78_ok h)) hr8) hE hH hN (by kernel_rfl) (by kernel_rfl) trivial (fun a w G hl4 hE hH => ?_)
    have hle := Gh.le_trans hle hl4
    refine segO 1 [] [(4, .kv .i r8.1)] (Os := []) trivial hE hH (by kernel_rfl) (fun a hE => ?_)
    refine wpFrom_end (by kernel_rfl) ?_
    refine Exit.then_normal (hK7 _ _ ?_)
    refine wp_ret ?_
    cases h
    exact ret1 rfl hE hle hH (by kernel_rfl)

def f35 (p0 : Option Nat) (p1 : List UInt8) (p2 : Int) (σ : St) : Option (Int × St) :=
  f77 p0 p1 (σ.add100003 (p2, ())) >>= fun r3 =>
  if (r3.2 != 0) = true then
  some (r3.2, (((σ.add100003 (p2, ())).add100106 (none, ())).set100106 ((σ.add100003 (p2, ())).t100106.length) (r3.1, ())))
  else
  if (decide (p2 < 0)) = true then
  some (3, (((σ.add100003 (p2, ())).add100106 (none, ())).set100106 ((σ.add100003 (p2, ())).t100106.length) (r3.1, ())))
  else
  r3.1 >>= fun i11 =>
  ((((σ.add100003 (p2, ())).add100106 (none, ())).set100106 ((σ.add100003 (p2, ())).t100106.length) (r3.1, ())).t108[i11]?) >>= fun o12 =>
  if (decide (p2 > (o12.1.length : Int))) = true then
  some (3, (((σ.add100003 (p2, ())).add100106 (none, ())).set100106 ((σ.add100003 (p2, ())).t100106.length) (r3.1, ())))
  else
  f72 p0 (f79 ((σ.add100003 (p2, ())).t100106.length) σ.t100003.length) (((σ.add100003 (p2, ())).add100106 (none, ())).set100106 ((σ.add100003 (p2, ())).t100106.length) (r3.1, ())) >>= fun r15 =>
  some (r15.1, r15.2)

theorem f35_ok {p0 : Option Nat} {p1 : List UInt8} {p2 : Int} {σ : St} {p : Int × St} (h : f35 p0 p1 p2 σ = some p) : Spec Try.prog 35 [.kv (.ptr 105) p0, .kv .str p1, .kv .i p2] (tabs σ) (.kv .i p.1) (tabs p.2) := by
  refine Spec.intro Try.func35 (by kernel_rfl) rfl (by kernel_rfl) (fun a w G0 Ls hE hH hN => ?_)
  have hle : G0.le G0 := Gh.le_refl G0
  unfold f35 at h
  refine wp_seq_k (fun K hK1 => ?_)
  refine wp_region_from ?_
  refine stepNew1 (e := 3) (d := (some 5)) .i p2 hE hH (by kernel_rfl) (by kernel_rfl) (addT100003 (s := σ) (x := (p2, ()))) (fun a w G hl1 hE hH => ?_)
  have hle := Gh.le_trans hle hl1
  refine segO 1 [] [(6, .kv .i 0)] (Os := []) trivial hE hH (by kernel_rfl) (fun a hE => ?_)
  refine wpFrom_end (by kernel_rfl) ?_
  refine Exit.then_normal (hK1 _ _ ?_)
  refine wp_seq_k (fun K hK2 => ?_)
  refine wp_region_from ?_
  refine segO 2 [] [(10, .kv (.ptr 105) p0), (11, .kv .str p1)] (Os := []) trivial hE hH (by kernel_rfl) (fun a hE => ?_)
  obtain ⟨r3, hr3, h⟩ := bs h
  refine stepCall (d := (some 12)) (f77_ok hr3) hE hH hN (by kernel_rfl) (by kernel_rfl) trivial (fun a w G hl2 hE hH => ?_)
  have hle := Gh.le_trans hle hl2
  refine segO 3 [] [(13, .kv (.ptr 108) r3.1), (14, .kv .i r3.2)] (Os := []) trivial hE hH (by kernel_rfl) (fun a hE => ?_)
  refine stepAlloc1 (e := 106) (d := (some 7)) (.ptr 108) hE hH (by kernel_rfl) (by kernel_rfl) (addT100106 (s := (σ.add100003 (p2, ()))) (x := (none, ()))) (fun a w G hl3 hE hH => ?_)
  have hle := Gh.le_trans hle hl3
  refine stepStO (t := 100106) (j := ((σ.add100003 (p2, ())).t100106.length)) (off := 0) (.ptr 108) r3.1 (x' := (r3.1, ())) hE hH (by kernel_rfl) (ob100106 (s := ((σ.add100003 (p2, ())).add100106 (none, ()))) (got100106 (s := (σ.add100003 (p2, ()))) (x := (none, ())))) (by kernel_rfl) (upd100106 (s := ((σ.add100003 (p2, ())).add100106 (none, ())))) (fun w G hl4 hE hH => ?_)
  have hle := Gh.le_trans hle hl4
  refine segO 1 [] [(8, .kv .i r3.2)] (Os := []) trivial hE hH (by kernel_rfl) (fun a hE => ?_)
  refine wpFrom_end (by kernel_rfl) ?_
  refine Exit.then_normal (hK2 _ _ ?_)
  refine wp_seq_k (fun K hK4 => ?_)
  refine wp_block ?_
  refine wp_seq_k (fun K hK5 => ?_)
  refine wp_region_from ?_
  refine segO 3 [] [(15, .kv .bool (r3.2 != 0))] (Os := []) trivial hE hH (by kernel_rfl) (fun a hE => ?_)
  refine wpFrom_end (by kernel_rfl) ?_
  refine Exit.then_normal (hK5 _ _ ?_)
  refine condE (b := r3.2 != 0) hE (by kernel_rfl) (fun hc => ?_) (fun hc => ?_)
  · replace h := ifT hc h
    refine wp_seq_k (fun K hK6 => ?_)
    refine wp_region_from ?_
    refine segO 2 [] [(6, .kv .i r3.2)] (Os := []) trivial hE hH (by kernel_rfl) (fun a hE => ?_)
    refine wpFrom_end (by kernel_rfl) ?_
    refine Exit.then_normal (hK6 _ _ ?_)
    refine wp_ret ?_
    refine Exit.in_ret ?_
    refine Exit.then_ret ?_
    cases h
    exact ret1 rfl hE hle hH (by kernel_rfl)
  · replace h := ifF hc h
    refine wp_seq_k (fun K hK7 => ?_)
    by_cases hc : (decide (p2 < 0)) = true
    · replace h := ifT hc h
      have c8 := hc
      refine region_par 9 [] [(0, 0), (0, 0), (0, 0), (0, 0), (0, 0), (0, 0), (0, 0), (0, 0), (0, 0)] [.kv .i p2, .kv .bool (decide (p2 < 0)), .kv .bool true, .undef, .undef, .undef, .undef, .undef, .undef] (fun _ => tabs (((σ.add100003 (p2, ())).add100106 (none, ())).set100106 ((σ.add100003 (p2, ())).t100106.length) (r3.1, ()))) (fun _ => Ls) (by kernel_rfl) (by kernel_rfl) hE hH
              ⟨⟨⟨⟨⟨⟨⟨⟨⟨trivial,
              anyk (fun k => obR [.ob fs100003 (p2, ())] (Os := [_]) ⟨(ob100003 (s := (((σ.add100003 (p2, ())).add100106 (none, ())).set100106 ((σ.add100003 (p2, ())).t100106.length) (r3.1, ()))) (got100003 (s := σ) (x := (p2, ())))), trivial⟩ (by kernel_rfl) (by kernel_rfl))⟩,
              anyk (fun k => obR [] (Os := []) trivial (by kernel_rfl) (by kernel_rfl))⟩,
              anyk (fun k => obRe [] (Os := []) trivial (by kernel_rfl) (by kernel_rfl) (eb2 c8 rfl))⟩,
              anyk (fun k => obR [] (Os := []) trivial (by kernel_rfl) (by kernel_rfl))⟩,
              anyk (fun k => obR [] (Os := []) trivial (by kernel_rfl) (by kernel_rfl))⟩,
              anyk (fun k => obR [] (Os := []) trivial (by kernel_rfl) (by kernel_rfl))⟩,
              anyk (fun k => obR [] (Os := []) trivial (by kernel_rfl) (by kernel_rfl))⟩,
              anyk (fun k => obR [] (Os := []) trivial (by kernel_rfl) (by kernel_rfl))⟩,
              anyk (fun k => obR [] (Os := []) trivial (by kernel_rfl) (by kernel_rfl))⟩ (fun a w G hl5 hE hH => ?_)
      have hle := Gh.le_trans hle hl5
      refine segO 3 [] [(19, .kv .bool true)] (Os := []) trivial hE hH (by kernel_rfl) (fun a hE => ?_)
      refine wpFrom_end (by kernel_rfl) ?_
      refine Exit.then_normal (hK7 _ _ ?_)
      refine condT hE (by kernel_rfl) rfl ?_
      refine wp_seq_k (fun K hK9 => ?_)
      refine wp_region_from ?_
      refine segO 1 [] [(6, .kv .i 3)] (Os := []) trivial hE hH (by kernel_rfl) (fun a hE => ?_)
      refine wpFrom_end (by kernel_rfl) ?_
      refine Exit.then_normal (hK9 _ _ ?_)
      refine wp_ret ?_
      refine Exit.in_ret ?_
      refine Exit.then_ret ?_
      cases h
      exact ret1 rfl hE hle hH (by kernel_rfl)
    · replace h := ifN hc h
      have c10 := hc
      obtain ⟨i11, hi11, h⟩ := bs h
      obtain ⟨o12, ho12, h⟩ := bs h
      refine region_par 9 [] [(0, 0), (0, 0), (0, 0), (0, 0), (0, 0), (0, 0), (0, 0), (0, 0), (0, 0)] [.kv .i p2, .kv .bool (decide (p2 < 0)), .kv .bool false, .kv .i p2, .kv (.ptr 108) r3.1, .kv (.ptr 108) (some i11), .fldA 108 i11 0, .kv .str o12.1, .kv .i (o12.1.length : Int)] (fun _ => tabs (((σ.add100003 (p2, ())).add100106 (none, ())).set100106 ((σ.add100003 (p2, ())).t100106.length) (r3.1, ()))) (fun _ => Ls) (by kernel_rfl) (by kernel_rfl) hE hH
              ⟨⟨⟨⟨⟨⟨⟨⟨⟨trivial,
              anyk (fun k => obR [.ob fs100003 (p2, ())] (Os := [_]) ⟨(ob100003 (s := (((σ.add100003 (p2, ())).add100106 (none, ())).set100106 ((σ.add100003 (p2, ())).t100106.length) (r3.1, ()))) (got100003 (s := σ) (x := (p2, ())))), trivial⟩ (by kernel_rfl) (by kernel_rfl))⟩,
              anyk (fun k => obR [] (Os := []) trivial (by kernel_rfl) (by kernel_rfl))⟩,
              anyk (fun k => obRe [] (Os := []) trivial (by kernel_rfl) (by kernel_rfl) (eb2 (bf c10) rfl))⟩,
              anyk (fun k => obR [.ob fs100003 (p2, ())] (Os := [_]) ⟨(ob100003 (s := (((σ.add100003 (p2, ())).add100106 (none, ())).set100106 ((σ.add100003 (p2, ())).t100106.length) (r3.1, ()))) (got100003 (s := σ) (x := (p2, ())))), trivial⟩ (by kernel_rfl) (by kernel_rfl))⟩,
              anyk (fun k => obR [.ob fs100106 (r3.1, ())] (Os := [_]) ⟨(ob100106 (s := (((σ.add100003 (p2, ())).add100106 (none, ())).set100106 ((σ.add100003 (p2, ())).t100106.length) (r3.1, ()))) (set100106_get (s := ((σ.add100003 (p2, ())).add100106 (none, ()))) (x := (r3.1, ())) (got100106 (s := (σ.add100003 (p2, ()))) (x := (none, ()))))), trivial⟩ (by kernel_rfl) (by kernel_rfl))⟩,
              anyk (fun k => obR [.pt i11] (Os := [_]) ⟨hi11, trivial⟩ (by kernel_rfl) (by kernel_rfl))⟩,
              anyk (fun k => obR [] (Os := []) trivial (by kernel_rfl) (by kernel_rfl))⟩,
              anyk (fun k => obR [.ob fs108 o12] (Os := [_]) ⟨(ob108 (s := (((σ.add100003 (p2, ())).add100106 (none, ())).set100106 ((σ.add100003 (p2, ())).t100106.length) (r3.1, ()))) ho12), trivial⟩ (by kernel_rfl) (by kernel_rfl))⟩,
              anyk (fun k => obR [] (Os := []) trivial (by kernel_rfl) (by kernel_rfl))⟩ (fun a w G hl6 hE hH => ?_)
      have hle := Gh.le_trans hle hl6
      refine segO 3 [] [(19, .kv .bool (decide (p2 > (o12.1.length : Int))))] (Os := []) trivial hE hH (by kernel_rfl) (fun a hE => ?_)
      refine wpFrom_end (by kernel_rfl) ?_
      refine Exit.then_normal (hK7 _ _ ?_)
      refine condE (b := decide (p2 > (o12.1.length : Int))) hE (by kernel_rfl) (fun hc => ?_) (fun hc => ?_)
      · replace h := ifT hc h
        refine wp_seq_k (fun K hK13 => ?_)
        refine wp_region_from ?_
        refine segO 1 [] [(6, .kv .i 3)] (Os := []) trivial hE hH (by kernel_rfl) (fun a hE => ?_)
        refine wpFrom_end (by kernel_rfl) ?_
        refine Exit.then_normal (hK13 _ _ ?_)
        refine wp_ret ?_
        refine Exit.in_ret ?_
        refine Exit.then_ret ?_
        cases h
        exact ret1 rfl hE hle hH (by kernel_rfl)
      · replace h := ifF hc h
        refine wp_skip ?_
        refine Exit.in_normal ?_
        refine Exit.then_normal (hK4 _ _ ?_)
        refine wp_seq_k (fun K hK14 => ?_)
        refine wp_region_from ?_
        refine segO 1 [] [(31, .kv (.ptr 105) p0)] (Os := []) trivial hE hH (by kernel_rfl) (fun a hE => ?_)
        refine stepMF (f := 79) (l := [(100106, (σ.add100003 (p2, ())).t100106.length), (100003, σ.t100003.length)]) (d := (some 32)) hE (by kernel_rfl) (by kernel_rfl) (fun a hE => ?_)
        obtain ⟨r15, hr15, h⟩ := bs h
        refine stepCall (d := (some 33)) (f72_ok (q1 := 79) (l1 := [(100106, (σ.add100003 (p2, ())).t100106.length), (100003, σ.t100003.length)]) (hq1 := (fun h => f79_ok h)) hr15) hE hH hN (by kernel_rfl) (by kernel_rfl) trivial (fun a w G hl7 hE hH => ?_)
        have hle := Gh.le_trans hle hl7
        refine segO 1 [] [(6, .kv .i r15.1)] (Os := []) trivial hE hH (by kernel_rfl) (fun a hE => ?_)
        refine wpFrom_end (by kernel_rfl) ?_
        refine Exit.then_normal (hK14 _ _ ?_)
        refine wp_ret ?_
        cases h
        exact ret1 rfl hE hle hH (by kernel_rfl)

def f36 (p0 : Option Nat) (p1 : List UInt8) (p2 : List UInt8) (σ : St) : Option (Int × St) :=
  f70 p0 (((σ.add100024 (p0, ())).add100009 (p1, ())).add100009 (p2, ())) >>= fun r4 =>
  if (r4 != 0) = true then
  some (r4, (((σ.add100024 (p0, ())).add100009 (p1, ())).add100009 (p2, ())))
  else
  ((((σ.add100024 (p0, ())).add100009 (p1, ())).add100009 (p2, ())).t100009[(σ.add100024 (p0, ())).t100009.length]?) >>= fun o9 =>
  f71 o9.1 >>= fun r10 =>
  if (!r10) = true then
  some (2, (((σ.add100024 (p0, ())).add100009 (p1, ())).add100009 (p2, ())))
  else
  f71 p2 >>= fun r12 =>
  if (!r12) = true then
  some (2, (((σ.add100024 (p0, ())).add100009 (p1, ())).add100009 (p2, ())))
  else
  f77 p0 o9.1 (((σ.add100024 (p0, ())).add100009 (p1, ())).add100009 (p2, ())) >>= fun r15 =>
  if (r15.2 != 0) = true then
  some (r15.2, (((((σ.add100024 (p0, ())).add100009 (p1, ())).add100009 (p2, ())).add100106 (none, ())).set100106 ((((σ.add100024 (p0, ())).add100009 (p1, ())).add100009 (p2, ())).t100106.length) (r15.1, ())))
  else
  r15.1 >>= fun i20 =>
  ((((((σ.add100024 (p0, ())).add100009 (p1, ())).add100009 (p2, ())).add100106 (none, ())).set100106 ((((σ.add100024 (p0, ())).add100009 (p1, ())).add100009 (p2, ())).t100106.length) (r15.1, ())).t108[i20]?) >>= fun o21 =>
  r15.1 >>= fun i22 =>
  ((((((σ.add100024 (p0, ())).add100009 (p1, ())).add100009 (p2, ())).add100106 (none, ())).set100106 ((((σ.add100024 (p0, ())).add100009 (p1, ())).add100009 (p2, ())).t100106.length) (r15.1, ())).t108[i22]?) >>= fun o23 =>
  if (decide (o21.2.1 < (o23.1.length : Int))) = true then
  some (12, (((((σ.add100024 (p0, ())).add100009 (p1, ())).add100009 (p2, ())).add100106 (none, ())).set100106 ((((σ.add100024 (p0, ())).add100009 (p1, ())).add100009 (p2, ())).t100106.length) (r15.1, ())))
  else
  f72 p0 (f80 σ.t100024.length ((σ.add100024 (p0, ())).t100009.length) ((((σ.add100024 (p0, ())).add100009 (p1, ())).add100009 (p2, ())).t100106.length) (((σ.add100024 (p0, ())).add100009 (p1, ())).t100009.length)) (((((σ.add100024 (p0, ())).add100009 (p1, ())).add100009 (p2, ())).add100106 (none, ())).set100106 ((((σ.add100024 (p0, ())).add100009 (p1, ())).add100009 (p2, ())).t100106.length) (r15.1, ())) >>= fun r26 =>
  some (r26.1, r26.2)

theorem f36_ok {p0 : Option Nat} {p1 : List UInt8} {p2 : List UInt8} {σ : St} {p : Int × St} (h : f36 p0 p1 p2 σ = some p) : Spec Try.prog 36 [.kv (.ptr 105) p0, .kv .str p1, .kv .str p2] (tabs σ) (.kv .i p.1) (tabs p.2) := by
  refine Spec.intro Try.func36 (by kernel_rfl) rfl (by kernel_rfl) (fun a w G0 Ls hE hH hN => ?_)
  have hle : G0.le G0 := Gh.le_refl G0
  unfold f36 at h
  refine wp_seq_k (fun K hK1 => ?_)
  refine wp_region_from ?_
  refine stepNew1 (e := 24) (d := (some 3)) (.ptr 105) p0 hE hH (by kernel_rfl) (by kernel_rfl) (addT100024 (s := σ) (x := (p0, ()))) (fun a w G hl1 hE hH => ?_)
  have hle := Gh.le_trans hle hl1
  refine stepNew1 (e := 9) (d := (some 4)) .str p1 hE hH (by kernel_rfl) (by kernel_rfl) (addT100009 (s := (σ.add100024 (p0, ()))) (x := (p1, ()))) (fun a w G hl2 hE hH => ?_)
  have hle := Gh.le_trans hle hl2
  refine stepNew1 (e := 9) (d := (some 5)) .str p2 hE hH (by kernel_rfl) (by kernel_rfl) (addT100009 (s := ((σ.add100024 (p0, ())).add100009 (p1, ()))) (x := (p2, ()))) (fun a w G hl3 hE hH => ?_)
  have hle := Gh.le_trans hle hl3
  refine segO 1 [] [(6, .kv .i 0)] (Os := []) trivial hE hH (by kernel_rfl) (fun a hE => ?_)
  refine wpFrom_end (by kernel_rfl) ?_
  refine Exit.then_normal (hK1 _ _ ?_)
  refine wp_seq_k (fun K hK2 => ?_)
  refine wp_seq_k (fun K hK3 => ?_)
  refine wp_region_from ?_
  refine segO 1 [.ob fs100024 (p0, ())] [(10, .kv (.ptr 105) p0)] (Os := [_]) ⟨(ob100024 (s := (((σ.add100024 (p0, ())).add100009 (p1, ())).add100009 (p2, ()))) (got100024 (s := σ) (x := (p0, ())))), trivial⟩ hE hH (by kernel_rfl) (fun a hE => ?_)
  obtain ⟨r4, hr4, h⟩ := bs h
  refine stepCall (d := (some 11)) (f70_ok hr4) hE hH hN (by kernel_rfl) (by kernel_rfl) trivial (fun a w G hl4 hE hH => ?_)
  have hle := Gh.le_trans hle hl4
  refine segO 1 [] [(7, .kv .i r4)] (Os := []) trivial hE hH (by kernel_rfl) (fun a hE => ?_)
  refine wpFrom_end (by kernel_rfl) ?_
  refine Exit.then_normal (hK3 _ _ ?_)
  refine wp_seq_k (fun K hK5 => ?_)
  refine wp_region_from ?_
  refine segO 2 [] [(13, .kv .bool (r4 != 0))] (Os := []) trivial hE hH (by kernel_rfl) (fun a hE => ?_)
  refine wpFrom_end (by kernel_rfl) ?_
  refine Exit.then_normal (hK5 _ _ ?_)
  refine condE (b := r4 != 0) hE (by kernel_rfl) (fun hc => ?_) (fun hc => ?_)
  · replace h := ifT hc h
    refine wp_seq_k (fun K hK6 => ?_)
    refine wp_region_from ?_
    refine segO 2 [] [(6, .kv .i r4)] (Os := []) trivial hE hH (by kernel_rfl) (fun a hE => ?_)
    refine wpFrom_end (by kernel_rfl) ?_
    refine Exit.then_normal (hK6 _ _ ?_)
    refine wp_ret ?_
    refine Exit.then_ret ?_
    cases h
    exact ret1 rfl hE hle hH (by kernel_rfl)
  · replace h := ifF hc h
    refine wp_skip ?_
    refine Exit.then_normal (hK2 _ _ ?_)
    refine wp_seq_k (fun K hK7 => ?_)
    refine wp_seq_k (fun K hK8 => ?_)
    refine wp_region_from ?_
    obtain ⟨o9, ho9, h⟩ := bs h
    refine segO 1 [.ob fs100009 o9] [(15, .kv .str o9.1)] (Os := [_]) ⟨(ob100009 (s := (((σ.add100024 (p0, ())).add100009 (p1, ())).add100009 (p2, ()))) ho9), trivial⟩ hE hH (by kernel_rfl) (fun a hE => ?_)
    obtain ⟨r10, hr10, h⟩ := bs h
    refine stepCall (d := (some 16)) (f71_ok hr10) hE hH hN (by kernel_rfl) (by kernel_rfl) trivial (fun a w G hl5 hE hH => ?_)
    have hle := Gh.le_trans hle hl5
    refine segO 2 [] [(18, .kv .bool (!r10))] (Os := []) trivial hE hH (by kernel_rfl) (fun a hE => ?_)
    by_cases hc : (!r10) = true
    · replace h := ifT hc h
      have hE := hE.setB 18 (by kernel_rfl) hc
      refine segO 4 [] [(22, .kv .bool true)] (Os := []) trivial hE hH (by kernel_rfl) (fun a hE => ?_)
      refine wpFrom_end (by kernel_rfl) ?_
      refine Exit.then_normal (hK8 _ _ ?_)
      refine condT hE (by kernel_rfl) rfl ?_
      refine wp_seq_k (fun K hK11 => ?_)
      refine wp_region_from ?_
      refine segO 1 [] [(6, .kv .i 2)] (Os := []) trivial hE hH (by kernel_rfl) (fun a hE => ?_)
      refine wpFrom_end (by kernel_rfl) ?_
      refine Exit.then_normal (hK11 _ _ ?_)
      refine wp_ret ?_
      refine Exit.then_ret ?_
      cases h
      exact ret1 rfl hE hle hH (by kernel_rfl)
    · replace h := ifN hc h
      have hE := hE.setB 18 (by kernel_rfl) (bf hc)
      refine segO 1 [.ob fs100009 (p2, ())] [(19, .kv .str p2)] (Os := [_]) ⟨(ob100009 (s := (((σ.add100024 (p0, ())).add100009 (p1, ())).add100009 (p2, ()))) (got100009 (s := ((σ.add100024 (p0, ())).add100009 (p1, ()))) (x := (p2, ())))), trivial⟩ hE hH (by kernel_rfl) (fun a hE => ?_)
      obtain ⟨r12, hr12, h⟩ := bs h
      refine stepCall (d := (some 20)) (f71_ok hr12) hE hH hN (by kernel_rfl) (by kernel_rfl) trivial (fun a w G hl6 hE hH => ?_)
      have hle := Gh.le_trans hle hl6
      refine segO 2 [] [(22, .kv .bool (!r12))] (Os := []) trivial hE hH (by kernel_rfl) (fun a hE => ?_)
      refine wpFrom_end (by kernel_rfl) ?_
      refine Exit.then_normal (hK8 _ _ ?_)
      refine condE (b := !r12) hE (by kernel_rfl) (fun hc => ?_) (fun hc => ?_)
      · replace h := ifT hc h
        refine wp_seq_k (fun K hK13 => ?_)
        refine wp_region_from ?_
        refine segO 1 [] [(6, .kv .i 2)] (Os := []) trivial hE hH (by kernel_rfl) (fun a hE => ?_)
        refine wpFrom_end (by kernel_rfl) ?_
        refine Exit.then_normal (hK13 _ _ ?_)
        refine wp_ret ?_
        refine Exit.then_ret ?_
        cases h
        exact ret1 rfl hE hle hH (by kernel_rfl)
      · replace h := ifF hc h
        refine wp_skip ?_
        refine Exit.then_normal (hK7 _ _ ?_)
        refine wp_seq_k (fun K hK14 => ?_)
        refine wp_region_from ?_
        refine segO 2 [.ob fs100024 (p0, ()), .ob fs100009 o9] [(24, .kv (.ptr 105) p0), (25, .kv .str o9.1)] (Os := [_, _]) ⟨(ob100024 (s := (((σ.add100024 (p0, ())).add100009 (p1, ())).add100009 (p2, ()))) (got100024 (s := σ) (x := (p0, ())))), (ob100009 (s := (((σ.add100024 (p0, ())).add100009 (p1, ())).add100009 (p2, ()))) ho9), trivial⟩ hE hH (by kernel_rfl) (fun a hE => ?_)
        obtain ⟨r15, hr15, h⟩ := bs h
        refine stepCall (d := (some 26)) (f77_ok hr15) hE hH hN (by kernel_rfl) (by kernel_rfl) trivial (fun a w G hl7 hE hH => ?_)
        have hle := Gh.le_trans hle hl7
        refine segO 3 [] [(27, .kv (.ptr 108) r15.1), (28, .kv .i r15.2)] (Os := []) trivial hE hH (by kernel_rfl) (fun a hE => ?_)
        refine stepAlloc1 (e := 106) (d := (some 8)) (.ptr 108) hE hH (by kernel_rfl) (by kernel_rfl) (addT100106 (s := (((σ.add100024 (p0, ())).add100009 (p1, ())).add100009 (p2, ()))) (x := (none, ()))) (fun a w G hl8 hE hH => ?_)
        have hle := Gh.le_trans hle hl8
        refine stepStO (t := 100106) (j := ((((σ.add100024 (p0, ())).add100009 (p1, ())).add100009 (p2, ())).t100106.length)) (off := 0) (.ptr 108) r15.1 (x' := (r15.1, ())) hE hH (by kernel_rfl) (ob100106 (s := ((((σ.add100024 (p0, ())).add100009 (p1, ())).add100009 (p2, ())).add100106 (none, ()))) (got100106 (s := (((σ.add100024 (p0, ())).add100009 (p1, ())).add100009 (p2, ()))) (x := (none, ())))) (by kernel_rfl) (upd100106 (s := ((((σ.add100024 (p0, ())).add100009 (p1, ())).add100009 (p2, ())).add100106 (none, ())))) (fun w G hl9 hE hH => ?_)
        have hle := Gh.le_trans hle hl9
        refine segO 1 [] [(9, .kv .i r15.2)] (Os := []) trivial hE hH (by kernel_rfl) (fun a hE => ?_)
        refine wpFrom_end (by kernel_rfl) ?_
        refine Exit.then_normal (hK14 _ _ ?_)
        refine wp_seq_k (fun K hK16 => ?_)
        refine wp_block ?_
        refine wp_seq_k (fun K hK17 => ?_)
        refine wp_region_from ?_
        refine segO 3 [] [(29, .kv .bool (r15.2 != 0))] (Os := []) trivial hE hH (by kernel_rfl) (fun a hE => ?_)
        refine wpFrom_end (by kernel_rfl) ?_
        refine Exit.then_normal (hK17 _ _ ?_)
        refine condE (b := r15.2 != 0) hE (by kernel_rfl) (fun hc => ?_) (fun hc => ?_)
        · replace h := ifT hc h
          refine wp_seq_k (fun K hK18 => ?_)
          refine wp_region_from ?_
          refine segO 2 [] [(6, .kv .i r15.2)] (Os := []) trivial hE hH (by kernel_rfl) (fun a hE => ?_)
          refine wpFrom_end (by kernel_rfl) ?_
          refine Exit.then_normal (hK18 _ _ ?_)
          refine wp_ret ?_
          refine Exit.in_ret ?_
          refine Exit.then_ret ?_
          cases h
          exact ret1 rfl hE hle hH (by kernel_rfl)
        · replace h := ifF hc h
          refine wp_seq_k (fun K hK19 => ?_)
          obtain ⟨i20, hi20, h⟩ := bs h
          obtain ⟨o21, ho21, h⟩ := bs h
          obtain ⟨i22, hi22, h⟩ := bs h
          obtain ⟨o23, ho23, h⟩ := bs h
          refine region_par 9 [] [(0, 0), (0, 0), (0, 0), (0, 0), (0, 0), (0, 0), (0, 0), (0, 0), (0, 0)] [.kv (.ptr 108) r15.1, .kv (.ptr 108) (some i20), .fldA 108 i20 1, .kv .i o21.2.1, .kv (.ptr 108) r15.1, .kv (.ptr 108) (some i22), .fldA 108 i22 0, .kv .str o23.1, .kv .i (o23.1.length : Int)] (fun _ => tabs (((((σ.add100024 (p0, ())).add100009 (p1, ())).add100009 (p2, ())).add100106 (none, ())).set100106 ((((σ.add100024 (p0, ())).add100009 (p1, ())).add100009 (p2, ())).t100106.length) (r15.1, ()))) (fun _ => Ls) (by kernel_rfl) (by kernel_rfl) hE hH
                  ⟨⟨⟨⟨⟨⟨⟨⟨⟨trivial,
                  anyk (fun k => obR [.ob fs100106 (r15.1, ())] (Os := [_]) ⟨(ob100106 (s := (((((σ.add100024 (p0, ())).add100009 (p1, ())).add100009 (p2, ())).add100106 (none, ())).set100106 ((((σ.add100024 (p0, ())).add100009 (p1, ())).add100009 (p2, ())).t100106.length) (r15.1, ()))) (set100106_get (s := ((((σ.add100024 (p0, ())).add100009 (p1, ())).add100009 (p2, ())).add100106 (none, ()))) (x := (r15.1, ())) (got100106 (s := (((σ.add100024 (p0, ())).add100009 (p1, ())).add100009 (p2, ()))) (x := (none, ()))))), trivial⟩ (by kernel_rfl) (by kernel_rfl))⟩,
                  anyk (fun k => obR [.pt i20] (Os := [_]) ⟨hi20, trivial⟩ (by kernel_rfl) (by kernel_rfl))⟩,
                  anyk (fun k => obR [] (Os := []) trivial (by kernel_rfl) (by kernel_rfl))⟩,
                  anyk (fun k => obR [.ob fs108 o21] (Os := [_]) ⟨(ob108 (s := (((((σ.add100024 (p0, ())).add100009 (p1, ())).add100009 (p2, ())).add100106 (none, ())).set100106 ((((σ.add100024 (p0, ())).add100009 (p1, ())).add100009 (p2, ())).t100106.length) (r15.1, ()))) ho21), trivial⟩ (by kernel_rfl) (by kernel_rfl))⟩,
                  anyk (fun k => obR [.ob fs100106 (r15.1, ())] (Os := [_]) ⟨(ob100106 (s := (((((σ.add100024 (p0, ())).add100009 (p1, ())).add100009 (p2, ())).add100106 (none, ())).set100106 ((((σ.add100024 (p0, ())).add100009 (p1, ())).add100009 (p2, ())).t100106.length) (r15.1, ()))) (set100106_get (s := ((((σ.add100024 (p0, ())).add100009 (p1, ())).add100009 (p2, ())).add100106 (none, ()))) (x := (r15.1, ())) (got100106 (s := (((σ.add100024 (p0, ())).add100009 (p1, ())).add100009 (p2, ()))) (x := (none, ()))))), trivial⟩ (by kernel_rfl) (by kernel_rfl))⟩,
                  anyk (fun k => obR [.pt i22] (Os := [_]) ⟨hi22, trivial⟩ (by kernel_rfl) (by kernel_rfl))⟩,
                  anyk (fun k => obR [] (Os := []) trivial (by kernel_rfl) (by kernel_rfl))⟩,
                  anyk (fun k => obR [.ob fs108 o23] (Os := [_]) ⟨(ob108 (s := (((((σ.add100024 (p0, ())).add100009 (p1, ())).add100009 (p2, ())).add100106 (none, ())).set100106 ((((σ.add100024 (p0, ())).add100009 (p1, ())).add100009 (p2, ())).t100106.length) (r15.1, ()))) ho23), trivial⟩ (by kernel_rfl) (by kernel_rfl))⟩,
                  anyk (fun k => obR [] (Os := []) trivial (by kernel_rfl) (by kernel_rfl))⟩ (fun a w G hl10 hE hH => ?_)
          have hle := Gh.le_trans hle hl10
          refine segO 2 [] [(33, .kv .bool (decide (o21.2.1 < (o23.1.length : Int))))] (Os := []) trivial hE hH (by kernel_rfl) (fun a hE => ?_)
          refine wpFrom_end (by kernel_rfl) ?_
          refine Exit.then_normal (hK19 _ _ ?_)
          refine condE (b := decide (o21.2.1 < (o23.1.length : Int))) hE (by kernel_rfl) (fun hc => ?_) (fun hc => ?_)
          · replace h := ifT hc h
            refine wp_seq_k (fun K hK24 => ?_)
            refine wp_region_from ?_
            refine segO 1 [] [(6, .kv .i 12)] (Os := []) trivial hE hH (by kernel_rfl) (fun a hE => ?_)
            refine wpFrom_end (by kernel_rfl) ?_
            refine Exit.then_normal (hK24 _ _ ?_)
            refine wp_ret ?_
            refine Exit.in_ret ?_
            refine Exit.then_ret ?_
            cases h
            exact ret1 rfl hE hle hH (by kernel_rfl)
          · replace h := ifF hc h
            refine wp_skip ?_
            refine Exit.in_normal ?_
            refine Exit.then_normal (hK16 _ _ ?_)
            refine wp_seq_k (fun K hK25 => ?_)
            refine wp_region_from ?_
            refine segO 1 [.ob fs100024 (p0, ())] [(44, .kv (.ptr 105) p0)] (Os := [_]) ⟨(ob100024 (s := (((((σ.add100024 (p0, ())).add100009 (p1, ())).add100009 (p2, ())).add100106 (none, ())).set100106 ((((σ.add100024 (p0, ())).add100009 (p1, ())).add100009 (p2, ())).t100106.length) (r15.1, ()))) (got100024 (s := σ) (x := (p0, ())))), trivial⟩ hE hH (by kernel_rfl) (fun a hE => ?_)
            refine stepMF (f := 80) (l := [(100024, σ.t100024.length), (100009, (σ.add100024 (p0, ())).t100009.length), (100106, (((σ.add100024 (p0, ())).add100009 (p1, ())).add100009 (p2, ())).t100106.length), (100009, ((σ.add100024 (p0, ())).add100009 (p1, ())).t100009.length)]) (d := (some 45)) hE (by kernel_rfl) (by kernel_rfl) (fun a hE => ?_)
            obtain ⟨r26, hr26, h⟩ := bs h
            refine stepCall (d := (some 46)) (f72_ok (q1 := 80) (l1 := [(100024, σ.t100024.length), (100009, (σ.add100024 (p0, ())).t100009.length), (100106, (((σ.add100024 (p0, ())).add100009 (p1, ())).add100009 (p2, ())).t100106.length), (100009, ((σ.add100024 (p0, ())).add100009 (p1, ())).t100009.length)]) (hq1 := (fun h => f80_ok h)) hr26) hE hH hN (by kernel_rfl) (by kernel_rfl) trivial (fun a w G hl11 hE hH => ?_)
            have hle := Gh.le_trans hle hl11
            refine segO 1 [] [(6, .kv .i r26.1)] (Os := []) trivial hE hH (by kernel_rfl) (fun a hE => ?_)
            refine wpFrom_end (by kernel_rfl) ?_
            refine Exit.then_normal (hK25 _ _ ?_)
            refine wp_ret ?_
            cases h
            exact ret1 rfl hE hle hH (by kernel_rfl)

def f37 (p0 : Option Nat) (p1 : List UInt8) (σ : St) : Option (Int × St) :=
  f77 p0 p1 ((σ.add100024 (p0, ())).add100009 (p1, ())) >>= fun r4 =>
  if (r4.2 != 0) = true then
  some (r4.2, ((σ.add100024 (p0, ())).add100009 (p1, ())))
  else
  f72 p0 (f81 σ.t100024.length ((σ.add100024 (p0, ())).t100009.length)) ((σ.add100024 (p0, ())).add100009 (p1, ())) >>= fun r8 =>
  some (r8.1, r8.2)

theorem f37_ok {p0 : Option Nat} {p1 : List UInt8} {σ : St} {p : Int × St} (h : f37 p0 p1 σ = some p) : Spec Try.prog 37 [.kv (.ptr 105) p0, .kv .str p1] (tabs σ) (.kv .i p.1) (tabs p.2) := by
  refine Spec.intro Try.func37 (by kernel_rfl) rfl (by kernel_rfl) (fun a w G0 Ls hE hH hN => ?_)
  have hle : G0.le G0 := Gh.le_refl G0
  unfold f37 at h
  refine wp_seq_k (fun K hK1 => ?_)
  refine wp_region_from ?_
  refine stepNew1 (e := 24) (d := (some 2)) (.ptr 105) p0 hE hH (by kernel_rfl) (by kernel_rfl) (addT100024 (s := σ) (x := (p0, ()))) (fun a w G hl1 hE hH => ?_)
  have hle := Gh.le_trans hle hl1
  refine stepNew1 (e := 9) (d := (some 3)) .str p1 hE hH (by kernel_rfl) (by kernel_rfl) (addT100009 (s := (σ.add100024 (p0, ()))) (x := (p1, ()))) (fun a w G hl2 hE hH => ?_)
  have hle := Gh.le_trans hle hl2
  refine segO 1 [] [(4, .kv .i 0)] (Os := []) trivial hE hH (by kernel_rfl) (fun a hE => ?_)
  refine wpFrom_end (by kernel_rfl) ?_
  refine Exit.then_normal (hK1 _ _ ?_)
  refine wp_seq_k (fun K hK2 => ?_)
  refine wp_seq_k (fun K hK3 => ?_)
  refine wp_region_from ?_
  refine segO 2 [.ob fs100024 (p0, ()), .ob fs100009 (p1, ())] [(8, .kv (.ptr 105) p0), (9, .kv .str p1)] (Os := [_, _]) ⟨(ob100024 (s := ((σ.add100024 (p0, ())).add100009 (p1, ()))) (got100024 (s := σ) (x := (p0, ())))), (ob100009 (s := ((σ.add100024 (p0, ())).add100009 (p1, ()))) (got100009 (s := (σ.add100024 (p0, ()))) (x := (p1, ())))), trivial⟩ hE hH (by kernel_rfl) (fun a hE => ?_)
  obtain ⟨r4, hr4, h⟩ := bs h
  refine stepCall (d := (some 10)) (f77_ok hr4) hE hH hN (by kernel_rfl) (by kernel_rfl) trivial (fun a w G hl3 hE hH => ?_)
  have hle := Gh.le_trans hle hl3
  refine segO 5 [] [(6, .kv .i r4.2)] (Os := []) trivial hE hH (by kernel_rfl) (fun a hE => ?_)
  refine wpFrom_end (by kernel_rfl) ?_
  refine Exit.then_normal (hK3 _ _ ?_)
  refine wp_seq_k (fun K hK5 => ?_)
  refine wp_region_from ?_
  refine segO 2 [] [(14, .kv .bool (r4.2 != 0))] (Os := []) trivial hE hH (by kernel_rfl) (fun a hE => ?_)
  refine wpFrom_end (by kernel_rfl) ?_
  refine Exit.then_normal (hK5 _ _ ?_)
  refine condE (b := r4.2 != 0) hE (by kernel_rfl) (fun hc => ?_) (fun hc => ?_)
  · replace h := ifT hc h
    refine wp_seq_k (fun K hK6 => ?_)
    refine wp_region_from ?_
    refine segO 2 [] [(4, .kv .i r4.2)] (Os := []) trivial hE hH (by kernel_rfl) (fun a hE => ?_)
    refine wpFrom_end (by kernel_rfl) ?_
    refine Exit.then_normal (hK6 _ _ ?_)
    refine wp_ret ?_
    refine Exit.then_ret ?_
    cases h
    exact ret1 rfl hE hle hH (by kernel_rfl)
  · replace h := ifF hc h
    refine wp_skip ?_
    refine Exit.then_normal (hK2 _ _ ?_)
    refine wp_seq_k (fun K hK7 => ?_)
    refine wp_region_from ?_
    refine segO 1 [.ob fs100024 (p0, ())] [(16, .kv (.ptr 105) p0)] (Os := [_]) ⟨(ob100024 (s := ((σ.add100024 (p0, ())).add100009 (p1, ()))) (got100024 (s := σ) (x := (p0, ())))), trivial⟩ hE hH (by kernel_rfl) (fun a hE => ?_)
    refine stepMF (f := 81) (l := [(100024, σ.t100024.length), (100009, (σ.add100024 (p0, ())).t100009.length)]) (d := (some 17)) hE (by kernel_rfl) (by kernel_rfl) (fun a hE => ?_)
    obtain ⟨r8, hr8, h⟩ := bs h
    refine stepCall (d := (some 18)) (f72_ok (q1 := 81) (l1 := [(100024, σ.t100024.length), (100009, (σ.add100024 (p0, ())).t100009.length)]) (hq1 := (fun h => f81_ok h)) hr8) hE hH hN (by kernel_rfl) (by kernel_rfl) trivial (fun a w G hl4 hE hH => ?_)
    have hle := Gh.le_trans hle hl4
    refine segO 1 [] [(4, .kv .i r8.1)] (Os := []) trivial hE hH (by kernel_rfl) (fun a hE => ?_)
    refine wpFrom_end (by kernel_rfl) ?_
    refine Exit.then_normal (hK7 _ _ ?_)
    refine wp_ret ?_
    cases h
    exact ret1 rfl hE hle hH (by kernel_rfl)

def f18 (p0 : Int) (σ : St) : Option (((Option Nat) × Int) × St) :=
  if ((decide (p0 < 0)) || (decide (p0 > 1048576))) = true then
  some ((none, 2), σ)
  else
  some ((some σ.t105.length, 0), (σ.add105 (p0, [], 0, false, ())))

theorem f18_ok {p0 : Int} {σ : St} {p : ((Option Nat) × Int) × St} (h : f18 p0 σ = some p) : Spec Try.prog 18 [.kv .i p0] (tabs σ) (.tup [⟨(.ptr 105), p.1.1⟩, ⟨.i, p.1.2⟩]) (tabs p.2) := by
  refine Spec.intro Try.func18 (by kernel_rfl) rfl (by kernel_rfl) (fun a w G0 Ls hE hH hN => ?_)
  have hle : G0.le G0 := Gh.le_refl G0
  unfold f18 at h
  refine wp_seq_k (fun K hK1 => ?_)
  refine wp_region_from ?_
  refine segO 2 [] [(2, .val (.pointer none)), (3, .kv .i 0)] (Os := []) trivial hE hH (by kernel_rfl) (fun a hE => ?_)
  refine wpFrom_end (by kernel_rfl) ?_
  refine Exit.then_normal (hK1 _ _ ?_)
  refine wp_seq_k (fun K hK2 => ?_)
  refine wp_seq_k (fun K hK3 => ?_)
  refine wp_region_from ?_
  refine segO 6 [] [(9, .kv .bool ((decide (p0 < 0)) || (decide (p0 > 1048576))))] (Os := []) trivial hE hH (by kernel_rfl) (fun a hE => ?_)
  refine wpFrom_end (by kernel_rfl) ?_
  refine Exit.then_normal (hK3 _ _ ?_)
  refine condE (b := (decide (p0 < 0)) || (decide (p0 > 1048576))) hE (by kernel_rfl) (fun hc => ?_) (fun hc => ?_)
  · replace h := ifT hc h
    refine wp_seq_k (fun K hK4 => ?_)
    refine wp_region_from ?_
    refine segO 2 [] [(2, .val (.pointer none)), (3, .kv .i 2)] (Os := []) trivial hE hH (by kernel_rfl) (fun a hE => ?_)
    refine wpFrom_end (by kernel_rfl) ?_
    refine Exit.then_normal (hK4 _ _ ?_)
    refine wp_ret ?_
    refine Exit.then_ret ?_
    cases h
    exact ret2 rfl hE hle hH (by kernel_rfl)
  · replace h := ifF hc h
    refine wp_skip ?_
    refine Exit.then_normal (hK2 _ _ ?_)
    refine wp_seq_k (fun K hK5 => ?_)
    refine wp_region_from ?_
    refine segO 1 [] [(10, .kv .i p0)] (Os := []) trivial hE hH (by kernel_rfl) (fun a hE => ?_)
    refine stepMakeMap (d := (some 11)) .str (.ptr 108) hE hH (by kernel_rfl) (by kernel_rfl) (fun b6 a w G hl1 hE hH => ?_)
    have hle := Gh.le_trans hle hl1
    refine stepBuildV (d := (some 12)) (.agg #[.int .i64 p0, .map (some b6), .int .i64 0, .bool false]) hE (by kernel_rfl) (by kernel_rfl) (fun a hE => ?_)
    refine stepNewM (t := 105) (f := 1) (fs := fs105) (x := (p0, [], 0, false, ())) (e := 105) (d := (some 13)) (.agg #[.int .i64 p0, .map (some b6), .int .i64 0, .bool false]) hE hH (by kernel_rfl) (by kernel_rfl) (fun w2 G2 hf ⟨es, cl, hh, hm⟩ => ⟨[_], _, rfl, rfl, ⟨[_], _, rfl, ⟨_, _, _, rfl, hf, hh, hm⟩, ⟨[_], _, rfl, rfl, ⟨[_], _, rfl, rfl, rfl⟩⟩⟩⟩) (addT105 (s := σ) (x := (p0, [], 0, false, ()))) (fun a w G hl2 hE hH => ?_)
    have hle := Gh.le_trans hle hl2
    refine segO 2 [] [(2, .fldA 105 σ.t105.length 0), (3, .kv .i 0)] (Os := []) trivial hE hH (by kernel_rfl) (fun a hE => ?_)
    refine wpFrom_end (by kernel_rfl) ?_
    refine Exit.then_normal (hK5 _ _ ?_)
    refine wp_ret ?_
    cases h
    exact ret2 rfl hE hle hH (by kernel_rfl)
end Go.Proofs.Ytlfemhkabjafeaa.M
