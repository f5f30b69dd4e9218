/- Own texts, laid together: T1 T2 Y0 T3 Y1. -/
import Derived.Test.YtlfemhkabjafeaaProg
import Derived.Test.YtlfemhkabjafeaaZ1
import Derived.Test.YtlfemhkabjafeaaZ2
import Derived.Test.YtlfemhkabjafeaaZ3
/- Printed by own program: twins and walks. -/
set_option linter.unusedVariables false
set_option maxRecDepth 100000
namespace Go.Proofs.Ytlfemhkabjafeaa.M
open Go.Proofs (Try.prog Try.func95 Try.f95 Try.func97 Try.f97 Try.func55 Try.f55 Try.func116 Try.f116 Try.func98 Try.f98 Try.func61 Try.f61 Try.func140 Try.f140 Try.func114 Try.f114)

def f95_l0 (p0 : List UInt8) (x4 : Int) : Option (Sum Int Bool) :=
  if (decide (x4 < (p0.length : Int))) = true then
  if (0 : Int) ≤ x4 ∧ x4 < (p0.length : Int) then
  if (decide ((btS p0 x4) < 97)) = true then
  some (.inr false)
  else
  if (0 : Int) ≤ x4 ∧ x4 < (p0.length : Int) then
  if (decide ((btS p0 x4) > 122)) = true then
  some (.inr false)
  else
  f95_l0 p0 (IntKind.wrap .i64 (x4 + 1))
  else none
  else none
  else
  some (.inl x4)
  partial_fixpoint

def f95 (p0 : List UInt8) : Option Bool :=
  f95_l0 p0 0 >>= fun rr19 => (match rr19 with
  | .inr yy => some yy
  | .inl z18 =>
  some ((decide ((p0.length : Int) ≥ 1)) && (decide ((p0.length : Int) ≤ 8))))

theorem f95_ok {p0 : List UInt8} {σ : St} {p : Bool} (h : f95 p0 = some p) : Spec Try.prog 95 [.kv .str p0] (tabs σ) (.kv .bool p) (tabs σ) := by
  refine Spec.intro Try.func95 (by kernel_rfl) rfl (by kernel_rfl) (fun a w G0 Ls hE hH hN => ?_)
  have hle : G0.le G0 := Gh.le_refl G0
  unfold f95 at h
  refine wp_seq_k (fun K hK1 => ?_)
  refine wp_region_from ?_
  refine segO 1 [] [(2, .kv .bool false)] (Os := []) trivial hE hH (by kernel_rfl) (fun a hE => ?_)
  refine wpFrom_end (by kernel_rfl) ?_
  refine Exit.then_normal (hK1 _ _ ?_)
  refine wp_seq_k (fun K hK2 => ?_)
  refine wp_seq_k (fun K hK3 => ?_)
  refine wp_region_from ?_
  refine segO 3 [] [(5, .kv .i (p0.length : Int)), (6, .kv .i 0)] (Os := []) trivial hE hH (by kernel_rfl) (fun a hE => ?_)
  refine wpFrom_end (by kernel_rfl) ?_
  refine Exit.then_normal (hK3 _ _ ?_)
  refine wp_block ?_
  obtain ⟨rr19, hrr19, h⟩ := bs h
  refine loop_intro (fun Q5 c hQ hc => ?_)
  have key : ∀ (x4 : Int) (rr : Sum Int Bool), f95_l0 p0 x4 = some rr → ∀ (a : Act) (w : World) (G : Gh), G0.le G → EnvR G 28 a [(0, .kv .str p0), (2, .kv .bool false), (5, .kv .i (p0.length : Int)), (6, .kv .i x4)] → Holds w G (tabs σ) (Ls) → (∀ z18 : Int, rr = .inl z18 → ∀ (a : Act) (w : World) (G : Gh), G0.le G → EnvR G 28 a [(0, .kv .str p0), (2, .kv .bool false), (5, .kv .i (p0.length : Int)), (6, .kv .i z18)] → Holds w G (tabs σ) (Ls) → Q5 (.exit 0) a w) → (∀ yy : Bool, rr = .inr yy → ∀ (a : Act) (w : World), PostB Try.prog Try.f95 G0 (.kv .bool yy) (tabs σ) Ls .ret a w → Q5 .ret a w) → Rnd Try.prog c Q5 a w := by
    refine f95_l0.partial_correctness p0 _ ?_
    intro self ih8 x4 rr h a w G  hle hE hH hx6 hret7
    refine rnd_step' hc ?_
    refine wp_seq_k (fun K hK9 => ?_)
    refine wp_region_from ?_
    refine segO 1 [] [(7, .kv .bool (decide (x4 < (p0.length : Int))))] (Os := []) trivial hE hH (by kernel_rfl) (fun a hE => ?_)
    refine wpFrom_end (by kernel_rfl) ?_
    refine Exit.then_normal (hK9 _ _ ?_)
    refine wp_seq_k (fun K hK10 => ?_)
    refine condE (b := decide (x4 < (p0.length : Int))) hE (by kernel_rfl) (fun hc => ?_) (fun hc => ?_)
    · replace h := ifT hc h
      refine wp_skip ?_
      refine Exit.then_normal (hK10 _ _ ?_)
      refine wp_seq_k (fun K hK11 => ?_)
      refine wp_block ?_
      refine wp_seq_k (fun K hK12 => ?_)
      refine wp_region_from ?_
      refine segO 2 [] [(3, .kv .i x4)] (Os := []) trivial hE hH (by kernel_rfl) (fun a hE => ?_)
      refine wpFrom_end (by kernel_rfl) ?_
      refine Exit.then_normal (hK12 _ _ ?_)
      refine wp_seq_k (fun K hK13 => ?_)
      refine wp_region_from ?_
      obtain ⟨q14, h⟩ := gd h
      refine segO 5 [] [(13, .kv .bool (decide ((btS p0 x4) < 97)))] (Os := [_]) ⟨q14, trivial⟩ hE hH (by kernel_rfl) (fun a hE => ?_)
      by_cases hc : (decide ((btS p0 x4) < 97)) = true
      · replace h := ifT hc h
        have hE := hE.setB 13 (by kernel_rfl) hc
        refine segO 5 [] [(18, .kv .bool true)] (Os := []) trivial hE hH (by kernel_rfl) (fun a hE => ?_)
        refine wpFrom_end (by kernel_rfl) ?_
        refine Exit.then_normal (hK13 _ _ ?_)
        refine condT hE (by kernel_rfl) rfl ?_
        refine wp_seq_k (fun K hK15 => ?_)
        refine wp_region_from ?_
        refine segO 1 [] [(2, .kv .bool false)] (Os := []) trivial hE hH (by kernel_rfl) (fun a hE => ?_)
        refine wpFrom_end (by kernel_rfl) ?_
        refine Exit.then_normal (hK15 _ _ ?_)
        refine wp_ret ?_
        refine Exit.in_ret ?_
        refine Exit.then_ret ?_
        refine Exit.then_ret ?_
        cases h
        exact hret7 _ rfl _ _ (ret1 rfl hE hle hH (by kernel_rfl))
      · replace h := ifN hc h
        have hE := hE.setB 13 (by kernel_rfl) (bf hc)
        obtain ⟨q16, h⟩ := gd h
        refine segO 5 [] [(18, .kv .bool (decide ((btS p0 x4) > 122)))] (Os := [_]) ⟨q16, trivial⟩ hE hH (by kernel_rfl) (fun a hE => ?_)
        refine wpFrom_end (by kernel_rfl) ?_
        refine Exit.then_normal (hK13 _ _ ?_)
        refine condE (b := decide ((btS p0 x4) > 122)) hE (by kernel_rfl) (fun hc => ?_) (fun hc => ?_)
        · replace h := ifT hc h
          refine wp_seq_k (fun K hK17 => ?_)
          refine wp_region_from ?_
          refine segO 1 [] [(2, .kv .bool false)] (Os := []) trivial hE hH (by kernel_rfl) (fun a hE => ?_)
          refine wpFrom_end (by kernel_rfl) ?_
          refine Exit.then_normal (hK17 _ _ ?_)
          refine wp_ret ?_
          refine Exit.in_ret ?_
          refine Exit.then_ret ?_
          refine Exit.then_ret ?_
          cases h
          exact hret7 _ rfl _ _ (ret1 rfl hE hle hH (by kernel_rfl))
        · replace h := ifF hc h
          refine wp_skip ?_
          refine Exit.in_normal ?_
          refine Exit.then_normal (hK11 _ _ ?_)
          refine wp_region_from ?_
          refine segO 2 [] [(6, .kv .i (IntKind.wrap .i64 (x4 + 1)))] (Os := []) trivial hE hH (by kernel_rfl) (fun a hE => ?_)
          refine wpFrom_end (by kernel_rfl) ?_
          refine Exit.then_normal ?_
          exact ih8 _ _ h _ _ _  hle (hE.subC (by kernel_rfl)) hH hx6 hret7
    · replace h := ifF hc h
      refine wp_exit ?_
      refine Exit.then_exit ?_
      refine Exit.then_exit ?_
      cases h
      exact hx6 _ rfl _ _ _  hle (hE.subC (by kernel_rfl)) hH
  refine key _ _ hrr19 _ _ _  hle (hE.subC (by kernel_rfl)) hH ?_ ?_
  · intro z18 hz a w G  hle hE hH
    subst hz
    rw [hQ]
    dsimp only at h
    refine Exit.in_eq ?_
    refine Exit.then_normal (hK2 _ _ ?_)
    refine wp_seq_k (fun K hK20 => ?_)
    refine wp_region_from ?_
    refine segO 9 [] [(2, .kv .bool ((decide ((p0.length : Int) ≥ 1)) && (decide ((p0.length : Int) ≤ 8))))] (Os := []) trivial hE hH (by kernel_rfl) (fun a hE => ?_)
    refine wpFrom_end (by kernel_rfl) ?_
    refine Exit.then_normal (hK20 _ _ ?_)
    refine wp_ret ?_
    cases h
    exact ret1 rfl hE hle hH (by kernel_rfl)
  · intro yy hz a w hp
    subst hz
    dsimp only at h
    cases h
    rw [hQ]
    refine Exit.in_ret ?_
    refine Exit.then_ret ?_
    exact hp

def f97 (p0 : Option Nat) (σ : St) : Option (Option Nat) :=
  p0 >>= fun i4 =>
  (σ.t128[i4]?) >>= fun o5 =>
  if ((o5.2.2.2.1.length : Int) == 0) = true then
  some none
  else
  (ix o5.2.2.2.1 (IntKind.wrap .i64 ((o5.2.2.2.1.length : Int) - 1))) >>= fun x8 =>
  some x8

theorem f97_ok {p0 : Option Nat} {σ : St} {p : Option Nat} (h : f97 p0 σ = some p) : Spec Try.prog 97 [.kv (.ptr 128) p0] (tabs σ) (.kv (.ptr 130) p) (tabs σ) := by
  refine Spec.intro Try.func97 (by kernel_rfl) rfl (by kernel_rfl) (fun a w G0 Ls hE hH hN => ?_)
  have hle : G0.le G0 := Gh.le_refl G0
  unfold f97 at h
  refine wp_seq_k (fun K hK1 => ?_)
  refine wp_region_from ?_
  refine segO 1 [] [(2, .val (.pointer none))] (Os := []) trivial hE hH (by kernel_rfl) (fun a hE => ?_)
  refine wpFrom_end (by kernel_rfl) ?_
  refine Exit.then_normal (hK1 _ _ ?_)
  refine wp_seq_k (fun K hK2 => ?_)
  refine wp_seq_k (fun K hK3 => ?_)
  refine wp_region_from ?_
  obtain ⟨i4, hi4, h⟩ := bs h
  obtain ⟨o5, ho5, h⟩ := bs h
  refine segO 6 [.pt i4, .ob fs128 o5] [(8, .kv .bool ((o5.2.2.2.1.length : Int) == 0))] (Os := [_, _, _]) ⟨hi4, (ob128 (s := σ) ho5), (hN _ _ _ : holeAt 128 i4 3 (Ls) = none), trivial⟩ hE hH (by kernel_rfl) (fun a hE => ?_)
  refine wpFrom_end (by kernel_rfl) ?_
  refine Exit.then_normal (hK3 _ _ ?_)
  refine condE (b := (o5.2.2.2.1.length : Int) == 0) hE (by kernel_rfl) (fun hc => ?_) (fun hc => ?_)
  · replace h := ifT hc h
    refine wp_seq_k (fun K hK6 => ?_)
    refine wp_region_from ?_
    refine segO 1 [] [(2, .val (.pointer none))] (Os := []) trivial hE hH (by kernel_rfl) (fun a hE => ?_)
    refine wpFrom_end (by kernel_rfl) ?_
    refine Exit.then_normal (hK6 _ _ ?_)
    refine wp_ret ?_
    refine Exit.then_ret ?_
    cases h
    exact ret1 rfl hE hle hH (by kernel_rfl)
  · replace h := ifF hc h
    refine wp_skip ?_
    refine Exit.then_normal (hK2 _ _ ?_)
    refine wp_seq_k (fun K hK7 => ?_)
    refine region_par 10 [] [(0, 0), (0, 0), (0, 0), (0, 0), (0, 0), (0, 0), (0, 0), (0, 0), (0, 0), (0, 0)] [.kv (.ptr 128) p0, .kv (.ptr 128) (some i4), .fldA 128 i4 3, .kv (.list (.ptr 130)) o5.2.2.2.1, .kv (.ptr 128) p0, .kv (.ptr 128) (some i4), .fldA 128 i4 3, .kv (.list (.ptr 130)) o5.2.2.2.1, .kv .i (o5.2.2.2.1.length : Int), .kv .i (IntKind.wrap .i64 ((o5.2.2.2.1.length : Int) - 1))] (fun _ => tabs σ) (fun _ => Ls) (by kernel_rfl) (by kernel_rfl) hE hH
            ⟨⟨⟨⟨⟨⟨⟨⟨⟨⟨trivial,
            anyk (fun k => obR [] (Os := []) trivial (by kernel_rfl) (by kernel_rfl))⟩,
            anyk (fun k => obR [.pt i4] (Os := [_]) ⟨hi4, trivial⟩ (by kernel_rfl) (by kernel_rfl))⟩,
            anyk (fun k => obR [] (Os := []) trivial (by kernel_rfl) (by kernel_rfl))⟩,
            anyk (fun k => obR [.ob fs128 o5] (Os := [_, _]) ⟨(ob128 (s := σ) ho5), (hN _ _ _ : holeAt 128 i4 3 (Ls) = none), trivial⟩ (by kernel_rfl) (by kernel_rfl))⟩,
            anyk (fun k => obR [] (Os := []) trivial (by kernel_rfl) (by kernel_rfl))⟩,
            anyk (fun k => obR [.pt i4] (Os := [_]) ⟨hi4, trivial⟩ (by kernel_rfl) (by kernel_rfl))⟩,
            anyk (fun k => obR [] (Os := []) trivial (by kernel_rfl) (by kernel_rfl))⟩,
            anyk (fun k => obR [.ob fs128 o5] (Os := [_, _]) ⟨(ob128 (s := σ) ho5), (hN _ _ _ : holeAt 128 i4 3 (Ls) = none), trivial⟩ (by kernel_rfl) (by kernel_rfl))⟩,
            anyk (fun k => obR [] (Os := []) trivial (by kernel_rfl) (by kernel_rfl))⟩,
            anyk (fun k => obR [] (Os := []) trivial (by kernel_rfl) (by kernel_rfl))⟩ (fun a w G hl1 hE hH => ?_)
    have hle := Gh.le_trans hle hl1
    obtain ⟨x8, hx8, h⟩ := bs h
    refine segO 3 [.ix (.ptr 130) x8] [(2, .kv (.ptr 130) x8)] (Os := [_]) ⟨(IxAt.of (k := (.ptr 130)) hx8), trivial⟩ hE hH (by kernel_rfl) (fun a hE => ?_)
    refine wpFrom_end (by kernel_rfl) ?_
    refine Exit.then_normal (hK7 _ _ ?_)
    refine wp_ret ?_
    cases h
    exact ret1 rfl hE hle hH (by kernel_rfl)

def f55 (p0 : Option Nat) (σ : St) : Option Int :=
  if p0.isNone = true then
  some 0
  else
  p0 >>= fun i5 =>
  (σ.t128[i5]?) >>= fun o6 =>
  if ((o6.2.2.2.1.length : Int) == 0) = true then
  some 0
  else
  f97 p0 σ >>= fun r9 =>
  r9 >>= fun i11 =>
  (σ.t130[i11]?) >>= fun o12 =>
  some (IntKind.wrap .i64 (o12.1 + (o12.2.1.length : Int)))

theorem f55_ok {p0 : Option Nat} {σ : St} {p : Int} (h : f55 p0 σ = some p) : Spec Try.prog 55 [.kv (.ptr 128) p0] (tabs σ) (.kv .i p) (tabs σ) := by
  refine Spec.intro Try.func55 (by kernel_rfl) rfl (by kernel_rfl) (fun a w G0 Ls hE hH hN => ?_)
  have hle : G0.le G0 := Gh.le_refl G0
  unfold f55 at h
  refine wp_seq_k (fun K hK1 => ?_)
  refine wp_region_from ?_
  refine segO 1 [] [(2, .kv .i 0)] (Os := []) trivial hE hH (by kernel_rfl) (fun a hE => ?_)
  refine wpFrom_end (by kernel_rfl) ?_
  refine Exit.then_normal (hK1 _ _ ?_)
  refine wp_seq_k (fun K hK2 => ?_)
  refine wp_seq_k (fun K hK3 => ?_)
  refine wp_region_from ?_
  refine segO 3 [] [(6, .kv .bool p0.isNone)] (Os := []) trivial hE hH (by kernel_rfl) (fun a hE => ?_)
  by_cases hc : p0.isNone = true
  · replace h := ifT hc h
    have hE := hE.setB 6 (by kernel_rfl) hc
    refine segO 7 [] [(13, .kv .bool true)] (Os := []) trivial hE hH (by kernel_rfl) (fun a hE => ?_)
    refine wpFrom_end (by kernel_rfl) ?_
    refine Exit.then_normal (hK3 _ _ ?_)
    refine condT hE (by kernel_rfl) rfl ?_
    refine wp_seq_k (fun K hK4 => ?_)
    refine wp_region_from ?_
    refine segO 1 [] [(2, .kv .i 0)] (Os := []) trivial hE hH (by kernel_rfl) (fun a hE => ?_)
    refine wpFrom_end (by kernel_rfl) ?_
    refine Exit.then_normal (hK4 _ _ ?_)
    refine wp_ret ?_
    refine Exit.then_ret ?_
    cases h
    exact ret1 rfl hE hle hH (by kernel_rfl)
  · replace h := ifN hc h
    have hE := hE.setB 6 (by kernel_rfl) (bf hc)
    obtain ⟨i5, hi5, h⟩ := bs h
    obtain ⟨o6, ho6, h⟩ := bs h
    refine segO 7 [.pt i5, .ob fs128 o6] [(13, .kv .bool ((o6.2.2.2.1.length : Int) == 0))] (Os := [_, _, _]) ⟨hi5, (ob128 (s := σ) ho6), (hN _ _ _ : holeAt 128 i5 3 (Ls) = none), trivial⟩ hE hH (by kernel_rfl) (fun a hE => ?_)
    refine wpFrom_end (by kernel_rfl) ?_
    refine Exit.then_normal (hK3 _ _ ?_)
    refine condE (b := (o6.2.2.2.1.length : Int) == 0) hE (by kernel_rfl) (fun hc => ?_) (fun hc => ?_)
    · replace h := ifT hc h
      refine wp_seq_k (fun K hK7 => ?_)
      refine wp_region_from ?_
      refine segO 1 [] [(2, .kv .i 0)] (Os := []) trivial hE hH (by kernel_rfl) (fun a hE => ?_)
      refine wpFrom_end (by kernel_rfl) ?_
      refine Exit.then_normal (hK7 _ _ ?_)
      refine wp_ret ?_
      refine Exit.then_ret ?_
      cases h
      exact ret1 rfl hE hle hH (by kernel_rfl)
    · replace h := ifF hc h
      refine wp_skip ?_
      refine Exit.then_normal (hK2 _ _ ?_)
      refine wp_seq_k (fun K hK8 => ?_)
      refine wp_region_from ?_
      refine segO 1 [] [(14, .kv (.ptr 128) p0)] (Os := []) trivial hE hH (by kernel_rfl) (fun a hE => ?_)
      obtain ⟨r9, hr9, h⟩ := bs h
      refine stepCall (d := (some 15)) (f97_ok hr9) hE hH hN (by kernel_rfl) (by kernel_rfl) trivial (fun a w G hl1 hE hH => ?_)
      have hle := Gh.le_trans hle hl1
      refine segO 1 [] [(3, .kv (.ptr 130) r9)] (Os := []) trivial hE hH (by kernel_rfl) (fun a hE => ?_)
      refine wpFrom_end (by kernel_rfl) ?_
      refine Exit.then_normal (hK8 _ _ ?_)
      refine wp_seq_k (fun K hK10 => ?_)
      obtain ⟨i11, hi11, h⟩ := bs h
      obtain ⟨o12, ho12, h⟩ := bs h
      refine region_par 9 [] [(0, 0), (0, 0), (0, 0), (0, 0), (0, 0), (0, 0), (0, 0), (0, 0), (0, 0)] [.kv (.ptr 130) r9, .kv (.ptr 130) (some i11), .fldA 130 i11 0, .kv .i o12.1, .kv (.ptr 130) r9, .kv (.ptr 130) (some i11), .fldA 130 i11 1, .kv (.list .str) o12.2.1, .kv .i (o12.2.1.length : Int)] (fun _ => tabs σ) (fun _ => Ls) (by kernel_rfl) (by kernel_rfl) hE hH
              ⟨⟨⟨⟨⟨⟨⟨⟨⟨trivial,
              anyk (fun k => obR [] (Os := []) trivial (by kernel_rfl) (by kernel_rfl))⟩,
              anyk (fun k => obR [.pt i11] (Os := [_]) ⟨hi11, trivial⟩ (by kernel_rfl) (by kernel_rfl))⟩,
              anyk (fun k => obR [] (Os := []) trivial (by kernel_rfl) (by kernel_rfl))⟩,
              anyk (fun k => obR [.ob fs130 o12] (Os := [_]) ⟨(ob130 (s := σ) ho12), trivial⟩ (by kernel_rfl) (by kernel_rfl))⟩,
              anyk (fun k => obR [] (Os := []) trivial (by kernel_rfl) (by kernel_rfl))⟩,
              anyk (fun k => obR [.pt i11] (Os := [_]) ⟨hi11, trivial⟩ (by kernel_rfl) (by kernel_rfl))⟩,
              anyk (fun k => obR [] (Os := []) trivial (by kernel_rfl) (by kernel_rfl))⟩,
              anyk (fun k => obR [.ob fs130 o12] (Os := [_, _]) ⟨(ob130 (s := σ) ho12), (hN _ _ _ : holeAt 130 i11 1 (Ls) = none), trivial⟩ (by kernel_rfl) (by kernel_rfl))⟩,
              anyk (fun k => obR [] (Os := []) trivial (by kernel_rfl) (by kernel_rfl))⟩ (fun a w G hl2 hE hH => ?_)
      have hle := Gh.le_trans hle hl2
      refine segO 2 [] [(2, .kv .i (IntKind.wrap .i64 (o12.1 + (o12.2.1.length : Int))))] (Os := []) trivial hE hH (by kernel_rfl) (fun a hE => ?_)
      refine wpFrom_end (by kernel_rfl) ?_
      refine Exit.then_normal (hK10 _ _ ?_)
      refine wp_ret ?_
      cases h
      exact ret1 rfl hE hle hH (by kernel_rfl)

def f116 (p0 : Int) : Option (List UInt8) :=
  if (decide (p0 < 10)) = true then
  some (bytesS [IntKind.wrap .u8 (IntKind.wrap .i64 (48 + p0))])
  else
  f116 (IntKind.wrap .i64 (Int.tdiv p0 10)) >>= fun r6 =>
  if r6.length + (bytesS [IntKind.wrap .u8 (IntKind.wrap .i64 (48 + (Int.tmod p0 10)))]).length ≤ 9223372036854775807 then
  some (r6 ++ (bytesS [IntKind.wrap .u8 (IntKind.wrap .i64 (48 + (Int.tmod p0 10)))]))
  else none
  partial_fixpoint

theorem f116_ok {p0 : Int} {σ : St} {p : List UInt8} (h : f116 p0 = some p) : Spec Try.prog 116 [.kv .i p0] (tabs σ) (.kv .str p) (tabs σ) := by
  have key : ∀ (p0 : Int) (p : List UInt8), f116 p0 = some p → ∀ σ : St, Spec Try.prog 116 [.kv .i p0] (tabs σ) (.kv .str p) (tabs σ) := by
    refine f116.partial_correctness _ ?_
    intro self ih p0 p h σ
    refine Spec.intro Try.func116 (by kernel_rfl) rfl (by kernel_rfl) (fun a w G0 Ls hE hH hN => ?_)
    have hle : G0.le G0 := Gh.le_refl G0
    refine wp_seq_k (fun K hK1 => ?_)
    refine wp_region_from ?_
    refine segO 1 [] [(2, .kv .str [])] (Os := []) trivial hE hH (by kernel_rfl) (fun a hE => ?_)
    refine wpFrom_end (by kernel_rfl) ?_
    refine Exit.then_normal (hK1 _ _ ?_)
    refine wp_seq_k (fun K hK2 => ?_)
    refine wp_seq_k (fun K hK3 => ?_)
    refine wp_region_from ?_
    refine segO 2 [] [(4, .kv .bool (decide (p0 < 10)))] (Os := []) trivial hE hH (by kernel_rfl) (fun a hE => ?_)
    refine wpFrom_end (by kernel_rfl) ?_
    refine Exit.then_normal (hK3 _ _ ?_)
    refine condE (b := decide (p0 < 10)) hE (by kernel_rfl) (fun hc => ?_) (fun hc => ?_)
    · replace h := ifT hc h
      refine wp_seq_k (fun K hK4 => ?_)
      refine wp_region_from ?_
      refine segO 3 [] [(7, .kv (.int .u8) (IntKind.wrap .u8 (IntKind.wrap .i64 (48 + p0))))] (Os := []) trivial hE hH (by kernel_rfl) (fun a hE => ?_)
      refine stepBuildS (d := (some 8)) (.int .u8) [IntKind.wrap .u8 (IntKind.wrap .i64 (48 + p0))] hE hH (by kernel_rfl) (by kernel_rfl) (fun a w G hl1 hE hH => ?_)
      have hle := Gh.le_trans hle hl1
      refine segO 2 [] [(2, .kv .str (bytesS [IntKind.wrap .u8 (IntKind.wrap .i64 (48 + p0))]))] (Os := []) trivial hE hH (by kernel_rfl) (fun a hE => ?_)
      refine wpFrom_end (by kernel_rfl) ?_
      refine Exit.then_normal (hK4 _ _ ?_)
      refine wp_ret ?_
      refine Exit.then_ret ?_
      cases h
      exact ret1 rfl hE hle hH (by kernel_rfl)
    · replace h := ifF hc h
      refine wp_skip ?_
      refine Exit.then_normal (hK2 _ _ ?_)
      refine wp_seq_k (fun K hK5 => ?_)
      obtain ⟨r6, hr6, h⟩ := bs h
      refine region_par 9 [2] [(0, 0), (0, 0), (0, 0), (0, 1), (0, 1), (0, 1), (0, 1), (0, 1), (0, 1)] [.kv .i p0, .kv .i (IntKind.wrap .i64 (Int.tdiv p0 10)), .kv .str r6, .kv .i p0, .kv .i (Int.tmod p0 10), .kv .i (IntKind.wrap .i64 (48 + (Int.tmod p0 10))), .kv (.int .u8) (IntKind.wrap .u8 (IntKind.wrap .i64 (48 + (Int.tmod p0 10)))), .pl (.int .u8) [IntKind.wrap .u8 (IntKind.wrap .i64 (48 + (Int.tmod p0 10)))], .kv .str (bytesS [IntKind.wrap .u8 (IntKind.wrap .i64 (48 + (Int.tmod p0 10)))])] (fun _ => tabs σ) (fun _ => Ls) (by kernel_rfl) (by kernel_rfl) hE hH
              ⟨⟨⟨⟨⟨⟨⟨⟨⟨trivial,
              anyk (fun k => obR [] (Os := []) trivial (by kernel_rfl) (by kernel_rfl))⟩,
              anyk (fun k => obR [] (Os := [_]) ⟨(by decide : (10 : Int) ≠ 0), trivial⟩ (by kernel_rfl) (by kernel_rfl))⟩,
              one (obC (k := 0) (d := (some 12)) (ih _ _ hr6 _) rfl hN (by kernel_rfl) (by kernel_rfl) rfl trivial)⟩,
              anyk (fun k => obR [] (Os := []) trivial (by kernel_rfl) (by kernel_rfl))⟩,
              anyk (fun k => obR [] (Os := [_]) ⟨(by decide : (10 : Int) ≠ 0), trivial⟩ (by kernel_rfl) (by kernel_rfl))⟩,
              anyk (fun k => obR [] (Os := []) trivial (by kernel_rfl) (by kernel_rfl))⟩,
              anyk (fun k => obR [] (Os := []) trivial (by kernel_rfl) (by kernel_rfl))⟩,
              anyk (fun k => obBS (d := (some 17)) (.int .u8) [IntKind.wrap .u8 (IntKind.wrap .i64 (48 + (Int.tmod p0 10)))] (by kernel_rfl) (by kernel_rfl) rfl)⟩,
              anyk (fun k => obR [] (Os := []) trivial (by kernel_rfl) (by kernel_rfl))⟩ (fun a w G hl2 hE hH => ?_)
      have hle := Gh.le_trans hle hl2
      obtain ⟨q7, h⟩ := gd h
      refine segO 2 [] [(2, .kv .str (r6 ++ (bytesS [IntKind.wrap .u8 (IntKind.wrap .i64 (48 + (Int.tmod p0 10)))])))] (Os := [_]) ⟨q7, trivial⟩ hE hH (by kernel_rfl) (fun a hE => ?_)
      refine wpFrom_end (by kernel_rfl) ?_
      refine Exit.then_normal (hK5 _ _ ?_)
      refine wp_ret ?_
      cases h
      exact ret1 rfl hE hle hH (by kernel_rfl)
  exact key p0 p h σ

def f98 (p0 : Option Nat) (p1 : Option Nat) (σ : St) : Option (List UInt8) :=
  p0 >>= fun i3 =>
  (σ.t128[i3]?) >>= fun o4 =>
  if o4.2.1.length + [46].length ≤ 9223372036854775807 then
  p1 >>= fun i6 =>
  (σ.t130[i6]?) >>= fun o7 =>
  f116 o7.1 >>= fun r8 =>
  if (o4.2.1 ++ [46]).length + r8.length ≤ 9223372036854775807 then
  some ((o4.2.1 ++ [46]) ++ r8)
  else none
  else none

theorem f98_ok {p0 : Option Nat} {p1 : Option Nat} {σ : St} {p : List UInt8} (h : f98 p0 p1 σ = some p) : Spec Try.prog 98 [.kv (.ptr 128) p0, .kv (.ptr 130) p1] (tabs σ) (.kv .str p) (tabs σ) := by
  refine Spec.intro Try.func98 (by kernel_rfl) rfl (by kernel_rfl) (fun a w G0 Ls hE hH hN => ?_)
  have hle : G0.le G0 := Gh.le_refl G0
  unfold f98 at h
  refine wp_seq_k (fun K hK1 => ?_)
  refine wp_region_from ?_
  refine segO 1 [] [(4, .kv .str [])] (Os := []) trivial hE hH (by kernel_rfl) (fun a hE => ?_)
  refine wpFrom_end (by kernel_rfl) ?_
  refine Exit.then_normal (hK1 _ _ ?_)
  refine wp_seq_k (fun K hK2 => ?_)
  obtain ⟨i3, hi3, h⟩ := bs h
  obtain ⟨o4, ho4, h⟩ := bs h
  obtain ⟨q5, h⟩ := gd h
  obtain ⟨i6, hi6, h⟩ := bs h
  obtain ⟨o7, ho7, h⟩ := bs h
  obtain ⟨r8, hr8, h⟩ := bs h
  refine region_par 10 [9] [(0, 1), (0, 1), (0, 1), (0, 1), (0, 1), (0, 0), (0, 0), (0, 0), (0, 0), (0, 0)] [.kv (.ptr 128) p0, .kv (.ptr 128) (some i3), .fldA 128 i3 1, .kv .str o4.2.1, .kv .str (o4.2.1 ++ [46]), .kv (.ptr 130) p1, .kv (.ptr 130) (some i6), .fldA 130 i6 0, .kv .i o7.1, .kv .str r8] (fun _ => tabs σ) (fun _ => Ls) (by kernel_rfl) (by kernel_rfl) hE hH
          ⟨⟨⟨⟨⟨⟨⟨⟨⟨⟨trivial,
          anyk (fun k => obR [] (Os := []) trivial (by kernel_rfl) (by kernel_rfl))⟩,
          anyk (fun k => obR [.pt i3] (Os := [_]) ⟨hi3, trivial⟩ (by kernel_rfl) (by kernel_rfl))⟩,
          anyk (fun k => obR [] (Os := []) trivial (by kernel_rfl) (by kernel_rfl))⟩,
          anyk (fun k => obR [.ob fs128 o4] (Os := [_]) ⟨(ob128 (s := σ) ho4), trivial⟩ (by kernel_rfl) (by kernel_rfl))⟩,
          anyk (fun k => obR [] (Os := [_]) ⟨q5, trivial⟩ (by kernel_rfl) (by kernel_rfl))⟩,
          anyk (fun k => obR [] (Os := []) trivial (by kernel_rfl) (by kernel_rfl))⟩,
          anyk (fun k => obR [.pt i6] (Os := [_]) ⟨hi6, trivial⟩ (by kernel_rfl) (by kernel_rfl))⟩,
          anyk (fun k => obR [] (Os := []) trivial (by kernel_rfl) (by kernel_rfl))⟩,
          anyk (fun k => obR [.ob fs130 o7] (Os := [_]) ⟨(ob130 (s := σ) ho7), trivial⟩ (by kernel_rfl) (by kernel_rfl))⟩,
          one (obC (k := 0) (d := (some 14)) (f116_ok hr8) rfl hN (by kernel_rfl) (by kernel_rfl) rfl trivial)⟩ (fun a w G hl1 hE hH => ?_)
  have hle := Gh.le_trans hle hl1
  obtain ⟨q9, h⟩ := gd h
  refine segO 2 [] [(4, .kv .str ((o4.2.1 ++ [46]) ++ r8))] (Os := [_]) ⟨q9, trivial⟩ hE hH (by kernel_rfl) (fun a hE => ?_)
  refine wpFrom_end (by kernel_rfl) ?_
  refine Exit.then_normal (hK2 _ _ ?_)
  refine wp_ret ?_
  cases h
  exact ret1 rfl hE hle hH (by kernel_rfl)

def f61 (p0 : Option Nat) (σ : St) : Option (Int × St) :=
  if p0.isNone = true then
  some (1, σ)
  else
  f97 p0 σ >>= fun r7 =>
  if (!r7.isNone) = true then
  p0 >>= fun i10 =>
  (σ.t128[i10]?) >>= fun o11 =>
  f98 p0 r7 σ >>= fun r12 =>
  f33 o11.1 r12 σ >>= fun r13 =>
  if (r13.1 != 0) = true then
  some (r13.1, r13.2)
  else
  f55 p0 r13.2 >>= fun r17 =>
  (r13.2.t128[i10]?) >>= fun o18 =>
  some (0, (r13.2.set128 i10 (o18.1, o18.2.1, o18.2.2.1, o18.2.2.2.1, r17, ())))
  else
  f55 p0 σ >>= fun r21 =>
  p0 >>= fun i22 =>
  (σ.t128[i22]?) >>= fun o23 =>
  some (0, (σ.set128 i22 (o23.1, o23.2.1, o23.2.2.1, o23.2.2.2.1, r21, ())))

theorem f61_ok {p0 : Option Nat} {σ : St} {p : Int × St} (h : f61 p0 σ = some p) : Spec Try.prog 61 [.kv (.ptr 128) p0] (tabs σ) (.kv .i p.1) (tabs p.2) := by
  refine Spec.intro Try.func61 (by kernel_rfl) rfl (by kernel_rfl) (fun a w G0 Ls hE hH hN => ?_)
  have hle : G0.le G0 := Gh.le_refl G0
  unfold f61 at h
  refine wp_seq_k (fun K hK1 => ?_)
  refine wp_region_from ?_
  refine segO 1 [] [(2, .kv .i 0)] (Os := []) trivial hE hH (by kernel_rfl) (fun a hE => ?_)
  refine wpFrom_end (by kernel_rfl) ?_
  refine Exit.then_normal (hK1 _ _ ?_)
  refine wp_seq_k (fun K hK2 => ?_)
  refine wp_seq_k (fun K hK3 => ?_)
  refine wp_region_from ?_
  refine segO 2 [] [(6, .kv .bool p0.isNone)] (Os := []) trivial hE hH (by kernel_rfl) (fun a hE => ?_)
  refine wpFrom_end (by kernel_rfl) ?_
  refine Exit.then_normal (hK3 _ _ ?_)
  refine condE (b := p0.isNone) hE (by kernel_rfl) (fun hc => ?_) (fun hc => ?_)
  · replace h := ifT hc h
    refine wp_seq_k (fun K hK4 => ?_)
    refine wp_region_from ?_
    refine segO 1 [] [(2, .kv .i 1)] (Os := []) trivial hE hH (by kernel_rfl) (fun a hE => ?_)
    refine wpFrom_end (by kernel_rfl) ?_
    refine Exit.then_normal (hK4 _ _ ?_)
    refine wp_ret ?_
    refine Exit.then_ret ?_
    cases h
    exact ret1 rfl hE hle hH (by kernel_rfl)
  · replace h := ifF hc h
    refine wp_skip ?_
    refine Exit.then_normal (hK2 _ _ ?_)
    refine wp_seq_k (fun K hK5 => ?_)
    refine wp_seq_k (fun K hK6 => ?_)
    refine wp_region_from ?_
    refine segO 1 [] [(7, .kv (.ptr 128) p0)] (Os := []) trivial hE hH (by kernel_rfl) (fun a hE => ?_)
    obtain ⟨r7, hr7, h⟩ := bs h
    refine stepCall (d := (some 8)) (f97_ok hr7) hE hH hN (by kernel_rfl) (by kernel_rfl) trivial (fun a w G hl1 hE hH => ?_)
    have hle := Gh.le_trans hle hl1
    refine segO 1 [] [(3, .kv (.ptr 130) r7)] (Os := []) trivial hE hH (by kernel_rfl) (fun a hE => ?_)
    refine wpFrom_end (by kernel_rfl) ?_
    refine Exit.then_normal (hK6 _ _ ?_)
    refine wp_seq_k (fun K hK8 => ?_)
    refine wp_region_from ?_
    refine segO 2 [] [(10, .kv .bool (!r7.isNone))] (Os := []) trivial hE hH (by kernel_rfl) (fun a hE => ?_)
    refine wpFrom_end (by kernel_rfl) ?_
    refine Exit.then_normal (hK8 _ _ ?_)
    refine condE (b := !r7.isNone) hE (by kernel_rfl) (fun hc => ?_) (fun hc => ?_)
    · replace h := ifT hc h
      refine wp_seq_k (fun K hK9 => ?_)
      obtain ⟨i10, hi10, h⟩ := bs h
      obtain ⟨o11, ho11, h⟩ := bs h
      obtain ⟨r12, hr12, h⟩ := bs h
      refine region_par 7 [6] [(0, 1), (0, 1), (0, 1), (0, 1), (0, 0), (0, 0), (0, 0)] [.kv (.ptr 128) p0, .kv (.ptr 128) (some i10), .fldA 128 i10 0, .kv (.ptr 105) o11.1, .kv (.ptr 128) p0, .kv (.ptr 130) r7, .kv .str r12] (fun _ => tabs σ) (fun _ => Ls) (by kernel_rfl) (by kernel_rfl) hE hH
              ⟨⟨⟨⟨⟨⟨⟨trivial,
              anyk (fun k => obR [] (Os := []) trivial (by kernel_rfl) (by kernel_rfl))⟩,
              anyk (fun k => obR [.pt i10] (Os := [_]) ⟨hi10, trivial⟩ (by kernel_rfl) (by kernel_rfl))⟩,
              anyk (fun k => obR [] (Os := []) trivial (by kernel_rfl) (by kernel_rfl))⟩,
              anyk (fun k => obR [.ob fs128 o11] (Os := [_]) ⟨(ob128 (s := σ) ho11), trivial⟩ (by kernel_rfl) (by kernel_rfl))⟩,
              anyk (fun k => obR [] (Os := []) trivial (by kernel_rfl) (by kernel_rfl))⟩,
              anyk (fun k => obR [] (Os := []) trivial (by kernel_rfl) (by kernel_rfl))⟩,
              one (obC (k := 0) (d := (some 17)) (f98_ok hr12) rfl hN (by kernel_rfl) (by kernel_rfl) rfl trivial)⟩ (fun a w G hl2 hE hH => ?_)
      have hle := Gh.le_trans hle hl2
      obtain ⟨r13, hr13, h⟩ := bs h
      refine stepCall (d := (some 18)) (f33_ok hr13) hE hH hN (by kernel_rfl) (by kernel_rfl) trivial (fun a w G hl3 hE hH => ?_)
      have hle := Gh.le_trans hle hl3
      refine segO 1 [] [(4, .kv .i r13.1)] (Os := []) trivial hE hH (by kernel_rfl) (fun a hE => ?_)
      refine wpFrom_end (by kernel_rfl) ?_
      refine Exit.then_normal (hK9 _ _ ?_)
      refine wp_seq_k (fun K hK14 => ?_)
      refine wp_region_from ?_
      refine segO 2 [] [(20, .kv .bool (r13.1 != 0))] (Os := []) trivial hE hH (by kernel_rfl) (fun a hE => ?_)
      refine wpFrom_end (by kernel_rfl) ?_
      refine Exit.then_normal (hK14 _ _ ?_)
      refine condE (b := r13.1 != 0) hE (by kernel_rfl) (fun hc => ?_) (fun hc => ?_)
      · replace h := ifT hc h
        refine wp_seq_k (fun K hK15 => ?_)
        refine wp_region_from ?_
        refine segO 2 [] [(2, .kv .i r13.1)] (Os := []) trivial hE hH (by kernel_rfl) (fun a hE => ?_)
        refine wpFrom_end (by kernel_rfl) ?_
        refine Exit.then_normal (hK15 _ _ ?_)
        refine wp_ret ?_
        refine Exit.then_ret ?_
        cases h
        exact ret1 rfl hE hle hH (by kernel_rfl)
      · replace h := ifF hc h
        refine wp_skip ?_
        refine Exit.then_normal (hK5 _ _ ?_)
        refine wp_seq_k (fun K hK16 => ?_)
        refine wp_region_from ?_
        refine segO 2 [] [(22, .kv (.ptr 128) p0), (23, .kv (.ptr 128) p0)] (Os := []) trivial hE hH (by kernel_rfl) (fun a hE => ?_)
        obtain ⟨r17, hr17, h⟩ := bs h
        refine stepCall (d := (some 24)) (f55_ok hr17) hE hH hN (by kernel_rfl) (by kernel_rfl) trivial (fun a w G hl4 hE hH => ?_)
        have hle := Gh.le_trans hle hl4
        refine segO 2 [.pt i10] [(26, .fldA 128 i10 4)] (Os := [_]) ⟨hi10, trivial⟩ hE hH (by kernel_rfl) (fun a hE => ?_)
        obtain ⟨o18, ho18, h⟩ := bs h
        refine stepStO (t := 128) (j := i10) (off := 4) .i r17 (x' := (o18.1, o18.2.1, o18.2.2.1, o18.2.2.2.1, r17, ())) hE hH (by kernel_rfl) (ob128 (s := r13.2) ho18) (by kernel_rfl) (upd128 (s := r13.2)) (fun w G hl5 hE hH => ?_)
        have hle := Gh.le_trans hle hl5
        refine wpFrom_end (by kernel_rfl) ?_
        refine Exit.then_normal (hK16 _ _ ?_)
        refine wp_seq_k (fun K hK19 => ?_)
        refine wp_region_from ?_
        refine segO 1 [] [(2, .kv .i 0)] (Os := []) trivial hE hH (by kernel_rfl) (fun a hE => ?_)
        refine wpFrom_end (by kernel_rfl) ?_
        refine Exit.then_normal (hK19 _ _ ?_)
        refine wp_ret ?_
        cases h
        exact ret1 rfl hE hle hH (by kernel_rfl)
    · replace h := ifF hc h
      refine wp_skip ?_
      refine Exit.then_normal (hK5 _ _ ?_)
      refine wp_seq_k (fun K hK20 => ?_)
      refine wp_region_from ?_
      refine segO 2 [] [(22, .kv (.ptr 128) p0), (23, .kv (.ptr 128) p0)] (Os := []) trivial hE hH (by kernel_rfl) (fun a hE => ?_)
      obtain ⟨r21, hr21, h⟩ := bs h
      refine stepCall (d := (some 24)) (f55_ok hr21) hE hH hN (by kernel_rfl) (by kernel_rfl) trivial (fun a w G hl6 hE hH => ?_)
      have hle := Gh.le_trans hle hl6
      obtain ⟨i22, hi22, h⟩ := bs h
      refine segO 2 [.pt i22] [(26, .fldA 128 i22 4)] (Os := [_]) ⟨hi22, trivial⟩ hE hH (by kernel_rfl) (fun a hE => ?_)
      obtain ⟨o23, ho23, h⟩ := bs h
      refine stepStO (t := 128) (j := i22) (off := 4) .i r21 (x' := (o23.1, o23.2.1, o23.2.2.1, o23.2.2.2.1, r21, ())) hE hH (by kernel_rfl) (ob128 (s := σ) ho23) (by kernel_rfl) (upd128 (s := σ)) (fun w G hl7 hE hH => ?_)
      have hle := Gh.le_trans hle hl7
      refine wpFrom_end (by kernel_rfl) ?_
      refine Exit.then_normal (hK20 _ _ ?_)
      refine wp_seq_k (fun K hK24 => ?_)
      refine wp_region_from ?_
      refine segO 1 [] [(2, .kv .i 0)] (Os := []) trivial hE hH (by kernel_rfl) (fun a hE => ?_)
      refine wpFrom_end (by kernel_rfl) ?_
      refine Exit.then_normal (hK24 _ _ ?_)
      refine wp_ret ?_
      cases h
      exact ret1 rfl hE hle hH (by kernel_rfl)

def f140_l0 (p0 : List UInt8) (x5 : Int) (x6 : Int) : Option (Sum (Int × Int) Int) :=
  if (decide (x6 < (p0.length : Int))) = true then
  if (0 : Int) ≤ x6 ∧ x6 < (p0.length : Int) then
  if (decide ((btS p0 x6) < 48)) = true then
  some (.inr (-1))
  else
  if (0 : Int) ≤ x6 ∧ x6 < (p0.length : Int) then
  if ((decide ((btS p0 x6) > 57)) || (decide (x5 > 1099511627776))) = true then
  some (.inr (-1))
  else
  if (0 : Int) ≤ x6 ∧ x6 < (p0.length : Int) then
  f140_l0 p0 (IntKind.wrap .i64 ((IntKind.wrap .i64 (x5 * 10)) + (IntKind.wrap .i64 (IntKind.wrap .u8 ((btS p0 x6) - 48))))) (IntKind.wrap .i64 (x6 + 1))
  else none
  else none
  else none
  else
  some (.inl (x5, x6))
  partial_fixpoint

def f140 (p0 : List UInt8) : Option Int :=
  f140_l0 p0 0 0 >>= fun rr23 => (match rr23 with
  | .inr yy => some yy
  | .inl z22 =>
  if (p0 == []) = true then
  some (-1)
  else
  if (0 : Int) ≤ 0 ∧ 0 < (p0.length : Int) then
  if ((((btS p0 0) == 48) && (!(p0 == [48]))) || (decide (z22.1 > 1099511627776))) = true then
  some (-1)
  else
  some z22.1
  else none)

theorem f140_ok {p0 : List UInt8} {σ : St} {p : Int} (h : f140 p0 = some p) : Spec Try.prog 140 [.kv .str p0] (tabs σ) (.kv .i p) (tabs σ) := by
  refine Spec.intro Try.func140 (by kernel_rfl) rfl (by kernel_rfl) (fun a w G0 Ls hE hH hN => ?_)
  have hle : G0.le G0 := Gh.le_refl G0
  unfold f140 at h
  refine wp_seq_k (fun K hK1 => ?_)
  refine wp_region_from ?_
  refine segO 1 [] [(2, .kv .i 0)] (Os := []) trivial hE hH (by kernel_rfl) (fun a hE => ?_)
  refine wpFrom_end (by kernel_rfl) ?_
  refine Exit.then_normal (hK1 _ _ ?_)
  refine wp_seq_k (fun K hK2 => ?_)
  refine wp_region_from ?_
  refine segO 1 [] [(3, .kv .i 0)] (Os := []) trivial hE hH (by kernel_rfl) (fun a hE => ?_)
  refine wpFrom_end (by kernel_rfl) ?_
  refine Exit.then_normal (hK2 _ _ ?_)
  refine wp_seq_k (fun K hK3 => ?_)
  refine wp_seq_k (fun K hK4 => ?_)
  refine wp_region_from ?_
  refine segO 3 [] [(6, .kv .i (p0.length : Int)), (7, .kv .i 0)] (Os := []) trivial hE hH (by kernel_rfl) (fun a hE => ?_)
  refine wpFrom_end (by kernel_rfl) ?_
  refine Exit.then_normal (hK4 _ _ ?_)
  refine wp_block ?_
  obtain ⟨rr23, hrr23, h⟩ := bs h
  refine loop_intro (fun Q7 c hQ hc => ?_)
  have key : ∀ (x5 : Int) (x6 : Int) (rr : Sum (Int × Int) Int), f140_l0 p0 x5 x6 = some rr → ∀ (a : Act) (w : World) (G : Gh), G0.le G → EnvR G 49 a [(0, .kv .str p0), (2, .kv .i 0), (3, .kv .i x5), (6, .kv .i (p0.length : Int)), (7, .kv .i x6)] → Holds w G (tabs σ) (Ls) → (∀ z22 : Int × Int, rr = .inl z22 → ∀ (a : Act) (w : World) (G : Gh), G0.le G → EnvR G 49 a [(0, .kv .str p0), (2, .kv .i 0), (3, .kv .i z22.1), (6, .kv .i (p0.length : Int)), (7, .kv .i z22.2)] → Holds w G (tabs σ) (Ls) → Q7 (.exit 0) a w) → (∀ yy : Int, rr = .inr yy → ∀ (a : Act) (w : World), PostB Try.prog Try.f140 G0 (.kv .i yy) (tabs σ) Ls .ret a w → Q7 .ret a w) → Rnd Try.prog c Q7 a w := by
    refine f140_l0.partial_correctness p0 _ ?_
    intro self ih10 x5 x6 rr h a w G  hle hE hH hx8 hret9
    refine rnd_step' hc ?_
    refine wp_seq_k (fun K hK11 => ?_)
    refine wp_region_from ?_
    refine segO 1 [] [(8, .kv .bool (decide (x6 < (p0.length : Int))))] (Os := []) trivial hE hH (by kernel_rfl) (fun a hE => ?_)
    refine wpFrom_end (by kernel_rfl) ?_
    refine Exit.then_normal (hK11 _ _ ?_)
    refine wp_seq_k (fun K hK12 => ?_)
    refine condE (b := decide (x6 < (p0.length : Int))) hE (by kernel_rfl) (fun hc => ?_) (fun hc => ?_)
    · replace h := ifT hc h
      refine wp_skip ?_
      refine Exit.then_normal (hK12 _ _ ?_)
      refine wp_seq_k (fun K hK13 => ?_)
      refine wp_block ?_
      refine wp_seq_k (fun K hK14 => ?_)
      refine wp_region_from ?_
      refine segO 2 [] [(4, .kv .i x6)] (Os := []) trivial hE hH (by kernel_rfl) (fun a hE => ?_)
      refine wpFrom_end (by kernel_rfl) ?_
      refine Exit.then_normal (hK14 _ _ ?_)
      refine wp_seq_k (fun K hK15 => ?_)
      refine wp_seq_k (fun K hK16 => ?_)
      refine wp_region_from ?_
      obtain ⟨q17, h⟩ := gd h
      refine segO 5 [] [(14, .kv .bool (decide ((btS p0 x6) < 48)))] (Os := [_]) ⟨q17, trivial⟩ hE hH (by kernel_rfl) (fun a hE => ?_)
      by_cases hc : (decide ((btS p0 x6) < 48)) = true
      · replace h := ifT hc h
        have hE := hE.setB 14 (by kernel_rfl) hc
        refine segO 9 [] [(23, .kv .bool true)] (Os := []) trivial hE hH (by kernel_rfl) (fun a hE => ?_)
        refine wpFrom_end (by kernel_rfl) ?_
        refine Exit.then_normal (hK16 _ _ ?_)
        refine condT hE (by kernel_rfl) rfl ?_
        refine wp_seq_k (fun K hK18 => ?_)
        refine wp_region_from ?_
        refine segO 1 [] [(2, .kv .i (-1))] (Os := []) trivial hE hH (by kernel_rfl) (fun a hE => ?_)
        refine wpFrom_end (by kernel_rfl) ?_
        refine Exit.then_normal (hK18 _ _ ?_)
        refine wp_ret ?_
        refine Exit.then_ret ?_
        refine Exit.in_ret ?_
        refine Exit.then_ret ?_
        refine Exit.then_ret ?_
        cases h
        exact hret9 _ rfl _ _ (ret1 rfl hE hle hH (by kernel_rfl))
      · replace h := ifN hc h
        have hE := hE.setB 14 (by kernel_rfl) (bf hc)
        obtain ⟨q19, h⟩ := gd h
        refine segO 9 [] [(23, .kv .bool ((decide ((btS p0 x6) > 57)) || (decide (x5 > 1099511627776))))] (Os := [_]) ⟨q19, trivial⟩ hE hH (by kernel_rfl) (fun a hE => ?_)
        refine wpFrom_end (by kernel_rfl) ?_
        refine Exit.then_normal (hK16 _ _ ?_)
        refine condE (b := (decide ((btS p0 x6) > 57)) || (decide (x5 > 1099511627776))) hE (by kernel_rfl) (fun hc => ?_) (fun hc => ?_)
        · replace h := ifT hc h
          refine wp_seq_k (fun K hK20 => ?_)
          refine wp_region_from ?_
          refine segO 1 [] [(2, .kv .i (-1))] (Os := []) trivial hE hH (by kernel_rfl) (fun a hE => ?_)
          refine wpFrom_end (by kernel_rfl) ?_
          refine Exit.then_normal (hK20 _ _ ?_)
          refine wp_ret ?_
          refine Exit.then_ret ?_
          refine Exit.in_ret ?_
          refine Exit.then_ret ?_
          refine Exit.then_ret ?_
          cases h
          exact hret9 _ rfl _ _ (ret1 rfl hE hle hH (by kernel_rfl))
        · replace h := ifF hc h
          refine wp_skip ?_
          refine Exit.then_normal (hK15 _ _ ?_)
          refine wp_region_from ?_
          obtain ⟨q21, h⟩ := gd h
          refine segO 9 [] [(3, .kv .i (IntKind.wrap .i64 ((IntKind.wrap .i64 (x5 * 10)) + (IntKind.wrap .i64 (IntKind.wrap .u8 ((btS p0 x6) - 48))))))] (Os := [_]) ⟨q21, trivial⟩ hE hH (by kernel_rfl) (fun a hE => ?_)
          refine wpFrom_end (by kernel_rfl) ?_
          refine Exit.in_normal ?_
          refine Exit.then_normal (hK13 _ _ ?_)
          refine wp_region_from ?_
          refine segO 2 [] [(7, .kv .i (IntKind.wrap .i64 (x6 + 1)))] (Os := []) trivial hE hH (by kernel_rfl) (fun a hE => ?_)
          refine wpFrom_end (by kernel_rfl) ?_
          refine Exit.then_normal ?_
          exact ih10 _ _ _ h _ _ _  hle (hE.subC (by kernel_rfl)) hH hx8 hret9
    · replace h := ifF hc h
      refine wp_exit ?_
      refine Exit.then_exit ?_
      refine Exit.then_exit ?_
      cases h
      exact hx8 _ rfl _ _ _  hle (hE.subC (by kernel_rfl)) hH
  refine key _ _ _ hrr23 _ _ _  hle (hE.subC (by kernel_rfl)) hH ?_ ?_
  · intro z22 hz a w G  hle hE hH
    subst hz
    rw [hQ]
    dsimp only at h
    refine Exit.in_eq ?_
    refine Exit.then_normal (hK3 _ _ ?_)
    refine wp_seq_k (fun K hK24 => ?_)
    refine wp_seq_k (fun K hK25 => ?_)
    refine wp_region_from ?_
    refine segO 3 [] [(35, .kv .bool (p0 == []))] (Os := []) trivial hE hH (by kernel_rfl) (fun a hE => ?_)
    by_cases hc : (p0 == []) = true
    · replace h := ifT hc h
      have hE := hE.setB 35 (by kernel_rfl) hc
      refine segO 6 [] [(39, .undef)] (Os := []) trivial hE hH (by kernel_rfl) (fun a hE => ?_)
      refine stepSkip (d := (some 42)) hE (by kernel_rfl) (by kernel_rfl) (fun a hE => ?_)
      refine segO 5 [] [(47, .kv .bool true)] (Os := []) trivial hE hH (by kernel_rfl) (fun a hE => ?_)
      refine wpFrom_end (by kernel_rfl) ?_
      refine Exit.then_normal (hK25 _ _ ?_)
      refine condT hE (by kernel_rfl) rfl ?_
      refine wp_seq_k (fun K hK26 => ?_)
      refine wp_region_from ?_
      refine segO 1 [] [(2, .kv .i (-1))] (Os := []) trivial hE hH (by kernel_rfl) (fun a hE => ?_)
      refine wpFrom_end (by kernel_rfl) ?_
      refine Exit.then_normal (hK26 _ _ ?_)
      refine wp_ret ?_
      refine Exit.then_ret ?_
      cases h
      exact ret1 rfl hE hle hH (by kernel_rfl)
    · replace h := ifN hc h
      have hE := hE.setB 35 (by kernel_rfl) (bf hc)
      obtain ⟨q27, h⟩ := gd h
      refine segO 12 [] [(47, .kv .bool ((((btS p0 0) == 48) && (!(p0 == [48]))) || (decide (z22.1 > 1099511627776))))] (Os := [_]) ⟨q27, trivial⟩ hE hH (by kernel_rfl) (fun a hE => ?_)
      refine wpFrom_end (by kernel_rfl) ?_
      refine Exit.then_normal (hK25 _ _ ?_)
      refine condE (b := (((btS p0 0) == 48) && (!(p0 == [48]))) || (decide (z22.1 > 1099511627776))) hE (by kernel_rfl) (fun hc => ?_) (fun hc => ?_)
      · replace h := ifT hc h
        refine wp_seq_k (fun K hK28 => ?_)
        refine wp_region_from ?_
        refine segO 1 [] [(2, .kv .i (-1))] (Os := []) trivial hE hH (by kernel_rfl) (fun a hE => ?_)
        refine wpFrom_end (by kernel_rfl) ?_
        refine Exit.then_normal (hK28 _ _ ?_)
        refine wp_ret ?_
        refine Exit.then_ret ?_
        cases h
        exact ret1 rfl hE hle hH (by kernel_rfl)
      · replace h := ifF hc h
        refine wp_skip ?_
        refine Exit.then_normal (hK24 _ _ ?_)
        refine wp_seq_k (fun K hK29 => ?_)
        refine wp_region_from ?_
        refine segO 2 [] [(2, .kv .i z22.1)] (Os := []) trivial hE hH (by kernel_rfl) (fun a hE => ?_)
        refine wpFrom_end (by kernel_rfl) ?_
        refine Exit.then_normal (hK29 _ _ ?_)
        refine wp_ret ?_
        cases h
        exact ret1 rfl hE hle hH (by kernel_rfl)
  · intro yy hz a w hp
    subst hz
    dsimp only at h
    cases h
    rw [hQ]
    refine Exit.in_ret ?_
    refine Exit.then_ret ?_
    exact hp

def f114_l0 (p0 : Option Nat) (σ : St) (r7 : List (List UInt8)) (l9 : List Int) (x10 : Int) : Option ((List Int) × Int) :=
  if (decide (x10 < (r7.length : Int))) = true then
  (ix r7 x10) >>= fun x19 =>
  p0 >>= fun i21 =>
  (σ.t128[i21]?) >>= fun o22 =>
  if (decide ((x19.length : Int) > (IntKind.wrap .i64 ((o22.2.1.length : Int) + 1)))) = true then
  if (0 : Int) ≤ (IntKind.wrap .i64 ((o22.2.1.length : Int) + 1)) ∧ (IntKind.wrap .i64 ((o22.2.1.length : Int) + 1)) ≤ (x19.length : Int) then
  if o22.2.1.length + [46].length ≤ 9223372036854775807 then
  if ((x19.take (Int.toNat (IntKind.wrap .i64 ((o22.2.1.length : Int) + 1)))) == (o22.2.1 ++ [46])) = true then
  if (0 : Int) ≤ (IntKind.wrap .i64 ((o22.2.1.length : Int) + 1)) ∧ (IntKind.wrap .i64 ((o22.2.1.length : Int) + 1)) ≤ (x19.length : Int) then
  f140 (x19.drop (Int.toNat (IntKind.wrap .i64 ((o22.2.1.length : Int) + 1)))) >>= fun r29 =>
  if (decide (r29 ≥ 0)) = true then
  if (l9.length + 1) * 8 ≤ 140737488355328 then
  f114_l0 p0 σ r7 (l9 ++ [r29]) (IntKind.wrap .i64 (x10 + 1))
  else none
  else
  f114_l0 p0 σ r7 l9 (IntKind.wrap .i64 (x10 + 1))
  else none
  else
  f114_l0 p0 σ r7 l9 (IntKind.wrap .i64 (x10 + 1))
  else none
  else none
  else
  f114_l0 p0 σ r7 l9 (IntKind.wrap .i64 (x10 + 1))
  else
  some ((l9, x10))
  partial_fixpoint

def f114 (p0 : Option Nat) (σ : St) : Option (List Int) :=
  p0 >>= fun i5 =>
  (σ.t128[i5]?) >>= fun o6 =>
  f21 o6.1 σ >>= fun r7 =>
  f114_l0 p0 σ r7 [] 0 >>= fun z34 =>
  if z34.1.length < 4611686018427387904 then
  some (sortedI z34.1)
  else none

theorem f114_ok {p0 : Option Nat} {σ : St} {p : List Int} (h : f114 p0 σ = some p) : Spec Try.prog 114 [.kv (.ptr 128) p0] (tabs σ) (.kv (.list .i) p) (tabs σ) := by
  refine Spec.intro Try.func114 (by kernel_rfl) rfl (by kernel_rfl) (fun a w G0 Ls hE hH hN => ?_)
  have hle : G0.le G0 := Gh.le_refl G0
  unfold f114 at h
  refine wp_seq_k (fun K hK1 => ?_)
  refine wp_region_from ?_
  refine segO 1 [] [(2, .val (.slice none 0 0))] (Os := []) trivial hE hH (by kernel_rfl) (fun a hE => ?_)
  refine wpFrom_end (by kernel_rfl) ?_
  refine Exit.then_normal (hK1 _ _ ?_)
  refine wp_seq_k (fun K hK2 => ?_)
  refine wp_region_from ?_
  refine segO 1 [] [(3, .val (.slice none 0 0))] (Os := []) trivial hE hH (by kernel_rfl) (fun a hE => ?_)
  refine wpFrom_end (by kernel_rfl) ?_
  refine Exit.then_normal (hK2 _ _ ?_)
  refine wp_seq_k (fun K hK3 => ?_)
  refine wp_seq_k (fun K hK4 => ?_)
  refine wp_region_from ?_
  obtain ⟨i5, hi5, h⟩ := bs h
  obtain ⟨o6, ho6, h⟩ := bs h
  refine segO 4 [.pt i5, .ob fs128 o6] [(11, .kv (.ptr 105) o6.1)] (Os := [_, _]) ⟨hi5, (ob128 (s := σ) ho6), trivial⟩ hE hH (by kernel_rfl) (fun a hE => ?_)
  obtain ⟨r7, hr7, h⟩ := bs h
  refine stepCall (d := (some 12)) (f21_ok hr7) hE hH hN (by kernel_rfl) (by kernel_rfl) trivial (fun a w G hl1 hE hH => ?_)
  have hle := Gh.le_trans hle hl1
  refine segO 2 [] [(13, .kv .i (r7.length : Int)), (14, .kv .i 0)] (Os := []) trivial hE hH (by kernel_rfl) (fun a hE => ?_)
  refine wpFrom_end (by kernel_rfl) ?_
  refine Exit.then_normal (hK4 _ _ ?_)
  refine wp_block ?_
  have hH := hH.nilRaw 3 8 .i
  obtain ⟨z34, hz34, h⟩ := bs h
  refine loop_intro (fun Q11 c hQ hc => ?_)
  have key : ∀ (l9 : List Int) (x10 : Int) (rr : (List Int) × Int), f114_l0 p0 σ r7 l9 x10 = some rr → ∀ (a : Act) (w : World) (G : Gh) (v8 : Value), G0.le G → EnvR G 53 a [(0, .kv (.ptr 128) p0), (2, .val (.slice none 0 0)), (3, .val v8), (12, .kv (.list .str) r7), (13, .kv .i (r7.length : Int)), (14, .kv .i x10)] → Holds w G (tabs σ) (LS.raw v8 3 8 .i l9 :: Ls) → (∀ z35 : (List Int) × Int, rr = z35 → ∀ (a : Act) (w : World) (G : Gh) (v8 : Value), G0.le G → EnvR G 53 a [(0, .kv (.ptr 128) p0), (2, .val (.slice none 0 0)), (3, .val v8), (12, .kv (.list .str) r7), (13, .kv .i (r7.length : Int)), (14, .kv .i z35.2)] → Holds w G (tabs σ) (LS.raw v8 3 8 .i z35.1 :: Ls) → Q11 (.exit 0) a w) → Rnd Try.prog c Q11 a w := by
    refine f114_l0.partial_correctness p0 σ r7 _ ?_
    intro self ih14 l9 x10 rr h a w G v8 hle hE hH hx12
    refine rnd_step' hc ?_
    refine wp_seq_k (fun K hK15 => ?_)
    refine wp_region_from ?_
    refine segO 1 [] [(15, .kv .bool (decide (x10 < (r7.length : Int))))] (Os := []) trivial hE hH (by kernel_rfl) (fun a hE => ?_)
    refine wpFrom_end (by kernel_rfl) ?_
    refine Exit.then_normal (hK15 _ _ ?_)
    refine wp_seq_k (fun K hK16 => ?_)
    refine condE (b := decide (x10 < (r7.length : Int))) hE (by kernel_rfl) (fun hc => ?_) (fun hc => ?_)
    · replace h := ifT hc h
      refine wp_skip ?_
      refine Exit.then_normal (hK16 _ _ ?_)
      refine wp_seq_k (fun K hK17 => ?_)
      refine wp_block ?_
      refine wp_seq_k (fun K hK18 => ?_)
      refine wp_region_from ?_
      obtain ⟨x19, hx19, h⟩ := bs h
      refine segO 3 [.ix .str x19] [(5, .kv .str x19)] (Os := [_]) ⟨(IxAt.of (k := .str) hx19), trivial⟩ hE hH (by kernel_rfl) (fun a hE => ?_)
      refine wpFrom_end (by kernel_rfl) ?_
      refine Exit.then_normal (hK18 _ _ ?_)
      refine wp_seq_k (fun K hK20 => ?_)
      refine wp_region_from ?_
      obtain ⟨i21, hi21, h⟩ := bs h
      obtain ⟨o22, ho22, h⟩ := bs h
      refine segO 7 [.pt i21, .ob fs128 o22] [(6, .kv .i (IntKind.wrap .i64 ((o22.2.1.length : Int) + 1)))] (Os := [_, _]) ⟨hi21, (ob128 (s := σ) ho22), trivial⟩ hE hH (by kernel_rfl) (fun a hE => ?_)
      refine wpFrom_end (by kernel_rfl) ?_
      refine Exit.then_normal (hK20 _ _ ?_)
      refine wp_seq_k (fun K hK23 => ?_)
      by_cases hc : (decide ((x19.length : Int) > (IntKind.wrap .i64 ((o22.2.1.length : Int) + 1)))) = true
      · replace h := ifT hc h
        have c24 := hc
        obtain ⟨q25, h⟩ := gd h
        obtain ⟨q26, h⟩ := gd h
        refine region_par 13 [] [(0, 0), (0, 0), (0, 0), (0, 0), (0, 0), (0, 0), (0, 0), (0, 0), (0, 0), (0, 0), (0, 0), (0, 0), (0, 0)] [.kv .str x19, .kv .i (x19.length : Int), .kv .i (IntKind.wrap .i64 ((o22.2.1.length : Int) + 1)), .kv .bool (decide ((x19.length : Int) > (IntKind.wrap .i64 ((o22.2.1.length : Int) + 1)))), .kv .bool true, .kv .str x19, .kv .i (IntKind.wrap .i64 ((o22.2.1.length : Int) + 1)), .kv .str (x19.take (Int.toNat (IntKind.wrap .i64 ((o22.2.1.length : Int) + 1)))), .kv (.ptr 128) p0, .kv (.ptr 128) (some i21), .fldA 128 i21 1, .kv .str o22.2.1, .kv .str (o22.2.1 ++ [46])] (fun _ => tabs σ) (fun _ => LS.raw v8 3 8 .i l9 :: Ls) (by kernel_rfl) (by kernel_rfl) hE hH
                ⟨⟨⟨⟨⟨⟨⟨⟨⟨⟨⟨⟨⟨trivial,
                anyk (fun k => obR [] (Os := []) trivial (by kernel_rfl) (by kernel_rfl))⟩,
                anyk (fun k => obR [] (Os := []) trivial (by kernel_rfl) (by kernel_rfl))⟩,
                anyk (fun k => obR [] (Os := []) trivial (by kernel_rfl) (by kernel_rfl))⟩,
                anyk (fun k => obR [] (Os := []) trivial (by kernel_rfl) (by kernel_rfl))⟩,
                anyk (fun k => obRe [] (Os := []) trivial (by kernel_rfl) (by kernel_rfl) (eb2 c24 rfl))⟩,
                anyk (fun k => obR [] (Os := []) trivial (by kernel_rfl) (by kernel_rfl))⟩,
                anyk (fun k => obR [] (Os := []) trivial (by kernel_rfl) (by kernel_rfl))⟩,
                anyk (fun k => obR [] (Os := [_]) ⟨q25, trivial⟩ (by kernel_rfl) (by kernel_rfl))⟩,
                anyk (fun k => obR [] (Os := []) trivial (by kernel_rfl) (by kernel_rfl))⟩,
                anyk (fun k => obR [.pt i21] (Os := [_]) ⟨hi21, trivial⟩ (by kernel_rfl) (by kernel_rfl))⟩,
                anyk (fun k => obR [] (Os := []) trivial (by kernel_rfl) (by kernel_rfl))⟩,
                anyk (fun k => obR [.ob fs128 o22] (Os := [_]) ⟨(ob128 (s := σ) ho22), trivial⟩ (by kernel_rfl) (by kernel_rfl))⟩,
                anyk (fun k => obR [] (Os := [_]) ⟨q26, trivial⟩ (by kernel_rfl) (by kernel_rfl))⟩ (fun a w G hl2 hE hH => ?_)
        have hle := Gh.le_trans hle hl2
        refine segO 2 [] [(38, .kv .bool ((x19.take (Int.toNat (IntKind.wrap .i64 ((o22.2.1.length : Int) + 1)))) == (o22.2.1 ++ [46])))] (Os := []) trivial hE hH (by kernel_rfl) (fun a hE => ?_)
        refine wpFrom_end (by kernel_rfl) ?_
        refine Exit.then_normal (hK23 _ _ ?_)
        refine condE (b := (x19.take (Int.toNat (IntKind.wrap .i64 ((o22.2.1.length : Int) + 1)))) == (o22.2.1 ++ [46])) hE (by kernel_rfl) (fun hc => ?_) (fun hc => ?_)
        · replace h := ifT hc h
          refine wp_seq_k (fun K hK27 => ?_)
          refine wp_region_from ?_
          obtain ⟨q28, h⟩ := gd h
          refine segO 3 [] [(41, .kv .str (x19.drop (Int.toNat (IntKind.wrap .i64 ((o22.2.1.length : Int) + 1)))))] (Os := [_]) ⟨q28, trivial⟩ hE hH (by kernel_rfl) (fun a hE => ?_)
          obtain ⟨r29, hr29, h⟩ := bs h
          refine stepCall (d := (some 42)) (f140_ok hr29) hE hH (NoHole.cons (fun _ _ _ => rfl) hN) (by kernel_rfl) (by kernel_rfl) trivial (fun a w G hl3 hE hH => ?_)
          have hle := Gh.le_trans hle hl3
          refine segO 1 [] [(7, .kv .i r29)] (Os := []) trivial hE hH (by kernel_rfl) (fun a hE => ?_)
          refine wpFrom_end (by kernel_rfl) ?_
          refine Exit.then_normal (hK27 _ _ ?_)
          refine wp_seq_k (fun K hK30 => ?_)
          refine wp_region_from ?_
          refine segO 2 [] [(44, .kv .bool (decide (r29 ≥ 0)))] (Os := []) trivial hE hH (by kernel_rfl) (fun a hE => ?_)
          refine wpFrom_end (by kernel_rfl) ?_
          refine Exit.then_normal (hK30 _ _ ?_)
          refine condE (b := decide (r29 ≥ 0)) hE (by kernel_rfl) (fun hc => ?_) (fun hc => ?_)
          · replace h := ifT hc h
            refine wp_region_from ?_
            refine segO 2 [] [(45, .val v8), (46, .kv .i r29)] (Os := []) trivial hE hH (by kernel_rfl) (fun a hE => ?_)
            refine stepBuildS (d := (some 47)) .i [r29] hE hH (by kernel_rfl) (by kernel_rfl) (fun a w G hl4 hE hH => ?_)
            have hle := Gh.le_trans hle hl4
            obtain ⟨q31, h⟩ := gd h
            refine stepAppR (bt := 8) (ys := [r29]) (e' := 3) (d := (some 48)) 0 hE hH (by kernel_rfl) rfl (by kernel_rfl) q31 (fun v32 a w G hl5 hE hH _ _ => ?_)
            have hle := Gh.le_trans hle hl5
            refine segO 1 [] [(3, .val v32)] (Os := []) trivial hE hH (by kernel_rfl) (fun a hE => ?_)
            refine wpFrom_end (by kernel_rfl) ?_
            refine Exit.in_normal ?_
            refine Exit.then_normal (hK17 _ _ ?_)
            refine wp_region_from ?_
            refine segO 2 [] [(14, .kv .i (IntKind.wrap .i64 (x10 + 1)))] (Os := []) trivial hE hH (by kernel_rfl) (fun a hE => ?_)
            refine wpFrom_end (by kernel_rfl) ?_
            refine Exit.then_normal ?_
            exact ih14 _ _ _ h _ _ _ v32 hle (hE.subC (by kernel_rfl)) hH hx12
          · replace h := ifF hc h
            refine wp_skip ?_
            refine Exit.in_normal ?_
            refine Exit.then_normal (hK17 _ _ ?_)
            refine wp_region_from ?_
            refine segO 2 [] [(14, .kv .i (IntKind.wrap .i64 (x10 + 1)))] (Os := []) trivial hE hH (by kernel_rfl) (fun a hE => ?_)
            refine wpFrom_end (by kernel_rfl) ?_
            refine Exit.then_normal ?_
            exact ih14 _ _ _ h _ _ _ v8 hle (hE.subC (by kernel_rfl)) hH hx12
        · replace h := ifF hc h
          refine wp_skip ?_
          refine Exit.in_normal ?_
          refine Exit.then_normal (hK17 _ _ ?_)
          refine wp_region_from ?_
          refine segO 2 [] [(14, .kv .i (IntKind.wrap .i64 (x10 + 1)))] (Os := []) trivial hE hH (by kernel_rfl) (fun a hE => ?_)
          refine wpFrom_end (by kernel_rfl) ?_
          refine Exit.then_normal ?_
          exact ih14 _ _ _ h _ _ _ v8 hle (hE.subC (by kernel_rfl)) hH hx12
      · replace h := ifN hc h
        have c33 := hc
        refine region_par 13 [] [(0, 0), (0, 0), (0, 0), (0, 0), (0, 0), (0, 0), (0, 0), (0, 0), (0, 0), (0, 0), (0, 0), (0, 0), (0, 0)] [.kv .str x19, .kv .i (x19.length : Int), .kv .i (IntKind.wrap .i64 ((o22.2.1.length : Int) + 1)), .kv .bool (decide ((x19.length : Int) > (IntKind.wrap .i64 ((o22.2.1.length : Int) + 1)))), .kv .bool false, .undef, .undef, .undef, .undef, .undef, .undef, .undef, .undef] (fun _ => tabs σ) (fun _ => LS.raw v8 3 8 .i l9 :: Ls) (by kernel_rfl) (by kernel_rfl) hE hH
                ⟨⟨⟨⟨⟨⟨⟨⟨⟨⟨⟨⟨⟨trivial,
                anyk (fun k => obR [] (Os := []) trivial (by kernel_rfl) (by kernel_rfl))⟩,
                anyk (fun k => obR [] (Os := []) trivial (by kernel_rfl) (by kernel_rfl))⟩,
                anyk (fun k => obR [] (Os := []) trivial (by kernel_rfl) (by kernel_rfl))⟩,
                anyk (fun k => obR [] (Os := []) trivial (by kernel_rfl) (by kernel_rfl))⟩,
                anyk (fun k => obRe [] (Os := []) trivial (by kernel_rfl) (by kernel_rfl) (eb2 (bf c33) rfl))⟩,
                anyk (fun k => obR [] (Os := []) trivial (by kernel_rfl) (by kernel_rfl))⟩,
                anyk (fun k => obR [] (Os := []) trivial (by kernel_rfl) (by kernel_rfl))⟩,
                anyk (fun k => obR [] (Os := []) trivial (by kernel_rfl) (by kernel_rfl))⟩,
                anyk (fun k => obR [] (Os := []) trivial (by kernel_rfl) (by kernel_rfl))⟩,
                anyk (fun k => obR [] (Os := []) trivial (by kernel_rfl) (by kernel_rfl))⟩,
                anyk (fun k => obR [] (Os := []) trivial (by kernel_rfl) (by kernel_rfl))⟩,
                anyk (fun k => obR [] (Os := []) trivial (by kernel_rfl) (by kernel_rfl))⟩,
                anyk (fun k => obR [] (Os := []) trivial (by kernel_rfl) (by kernel_rfl))⟩ (fun a w G hl6 hE hH => ?_)
        have hle := Gh.le_trans hle hl6
        refine segO 2 [] [(38, .kv .bool false)] (Os := []) trivial hE hH (by kernel_rfl) (fun a hE => ?_)
        refine wpFrom_end (by kernel_rfl) ?_
        refine Exit.then_normal (hK23 _ _ ?_)
        refine condF hE (by kernel_rfl) rfl ?_
        refine wp_skip ?_
        refine Exit.in_normal ?_
        refine Exit.then_normal (hK17 _ _ ?_)
        refine wp_region_from ?_
        refine segO 2 [] [(14, .kv .i (IntKind.wrap .i64 (x10 + 1)))] (Os := []) trivial hE hH (by kernel_rfl) (fun a hE => ?_)
        refine wpFrom_end (by kernel_rfl) ?_
        refine Exit.then_normal ?_
        exact ih14 _ _ _ h _ _ _ v8 hle (hE.subC (by kernel_rfl)) hH hx12
    · replace h := ifF hc h
      refine wp_exit ?_
      refine Exit.then_exit ?_
      refine Exit.then_exit ?_
      cases h
      exact hx12 _ rfl _ _ _ v8 hle (hE.subC (by kernel_rfl)) hH
  refine key _ _ _ hz34 _ _ _ (.slice none 0 0) hle (hE.subC (by kernel_rfl)) hH ?_
  · intro z35 hz a w G v8 hle hE hH
    subst hz
    rw [hQ]
    refine Exit.in_eq ?_
    refine Exit.then_normal (hK3 _ _ ?_)
    refine wp_seq_k (fun K hK36 => ?_)
    refine wp_region_from ?_
    refine segO 1 [] [(50, .val v8)] (Os := []) trivial hE hH (by kernel_rfl) (fun a hE => ?_)
    obtain ⟨q37, h⟩ := gd h
    refine stepCallV (f := 87) (As := [.val v8]) (R := .tup []) (d := (some 51)) (T' := tabs σ) (Ls' := LS.raw v8 3 8 .i (sortedI z34.1) :: Ls) (by kernel_rfl) (fun args hA => ?_) hE (by kernel_rfl) (by kernel_rfl) trivial (fun a w G hl7 hE hH => ?_)
    · obtain rfl := one_val hA
      exact sort87_calls (j := 0) hH rfl q37
    · have hle := Gh.le_trans hle hl7
      obtain ⟨G, hl8, hv38, hH⟩ := hH.pub0
      have hle := Gh.le_trans hle hl8
      have hE := hE.mono hl8
      have hE := EnvR.more (v := v8) (e := .kv (.list .i) (sortedI z34.1)) hE 3 (by kernel_rfl) hv38
      have hE := EnvR.more (v := v8) (e := .kv (.list .i) (sortedI z34.1)) hE 50 (by kernel_rfl) hv38
      refine wpFrom_end (by kernel_rfl) ?_
      refine Exit.then_normal (hK36 _ _ ?_)
      refine wp_seq_k (fun K hK39 => ?_)
      refine wp_region_from ?_
      refine segO 2 [] [(2, .kv (.list .i) (sortedI z34.1))] (Os := []) trivial hE hH (by kernel_rfl) (fun a hE => ?_)
      refine wpFrom_end (by kernel_rfl) ?_
      refine Exit.then_normal (hK39 _ _ ?_)
      refine wp_ret ?_
      cases h
      exact ret1 rfl hE hle hH (by kernel_rfl)
end Go.Proofs.Ytlfemhkabjafeaa.M

/- Printed by own program: twins and walks. -/
set_option linter.unusedVariables false
set_option maxRecDepth 100000
namespace Go.Proofs.Ytlfemhkabjafeaa.M
open Go.Proofs (Try.prog Try.func113 Try.f113 Try.func94 Try.f94 Try.func49 Try.f49 Try.func115 Try.f115 Try.func96 Try.f96 Try.func53 Try.f53)

def f113_l0 (p0 : List UInt8) (p1 : Int) (x8 : Int) (x9 : Int) : Option (Sum (Int × Int) (Int × Int × Int)) :=
  if (decide ((IntKind.wrap .i64 (p1 + x9)) < (p0.length : Int))) = true then
  if (0 : Int) ≤ (IntKind.wrap .i64 (p1 + x9)) ∧ (IntKind.wrap .i64 (p1 + x9)) < (p0.length : Int) then
  if ((x9 == 9) && (decide ((btS p0 (IntKind.wrap .i64 (p1 + x9))) > 1))) = true then
  some (.inr (0, 0, 6))
  else
  if (0 : Int) ≤ (IntKind.wrap .i64 (7 * x9)) then
  if (decide ((btS p0 (IntKind.wrap .i64 (p1 + x9))) ≥ 128)) = true then
  f113_l0 p0 p1 (IntKind.wrap .u64 ((BitVec.ofInt (IntKind.bits .u64) x8 ||| BitVec.ofInt (IntKind.bits .u64) (IntKind.wrap .u64 ((IntKind.wrap .u64 (IntKind.wrap .u8 ((BitVec.ofInt (IntKind.bits .u8) (btS p0 (IntKind.wrap .i64 (p1 + x9))) &&& BitVec.ofInt (IntKind.bits .u8) 127).toNat))) * 2 ^ (min (Int.toNat (IntKind.wrap .i64 (7 * x9))) (IntKind.bits .u64))))).toNat)) (IntKind.wrap .i64 (x9 + 1))
  else
  if (((btS p0 (IntKind.wrap .i64 (p1 + x9))) == 0) && (decide (x9 > 0))) = true then
  some (.inr (0, 0, 6))
  else
  (if ((IntKind.wrap .u64 ((BitVec.ofInt (IntKind.bits .u64) (IntKind.wrap .u64 ((BitVec.ofInt (IntKind.bits .u64) x8 ||| BitVec.ofInt (IntKind.bits .u64) (IntKind.wrap .u64 ((IntKind.wrap .u64 (IntKind.wrap .u8 ((BitVec.ofInt (IntKind.bits .u8) (btS p0 (IntKind.wrap .i64 (p1 + x9))) &&& BitVec.ofInt (IntKind.bits .u8) 127).toNat))) * 2 ^ (min (Int.toNat (IntKind.wrap .i64 (7 * x9))) (IntKind.bits .u64))))).toNat)) &&& BitVec.ofInt (IntKind.bits .u64) 1).toNat)) == 1) = true then
  some (IntKind.wrap .i64 ((BitVec.ofInt (IntKind.bits .i64) (if IntKind.signed .i64 = true then -1 else IntKind.max .i64) ^^^ BitVec.ofInt (IntKind.bits .i64) (IntKind.wrap .i64 (Int.fdiv (IntKind.wrap .u64 ((BitVec.ofInt (IntKind.bits .u64) x8 ||| BitVec.ofInt (IntKind.bits .u64) (IntKind.wrap .u64 ((IntKind.wrap .u64 (IntKind.wrap .u8 ((BitVec.ofInt (IntKind.bits .u8) (btS p0 (IntKind.wrap .i64 (p1 + x9))) &&& BitVec.ofInt (IntKind.bits .u8) 127).toNat))) * 2 ^ (min (Int.toNat (IntKind.wrap .i64 (7 * x9))) (IntKind.bits .u64))))).toNat)) (2 ^ 1)))).toNat))
  else
  some (IntKind.wrap .i64 (Int.fdiv (IntKind.wrap .u64 ((BitVec.ofInt (IntKind.bits .u64) x8 ||| BitVec.ofInt (IntKind.bits .u64) (IntKind.wrap .u64 ((IntKind.wrap .u64 (IntKind.wrap .u8 ((BitVec.ofInt (IntKind.bits .u8) (btS p0 (IntKind.wrap .i64 (p1 + x9))) &&& BitVec.ofInt (IntKind.bits .u8) 127).toNat))) * 2 ^ (min (Int.toNat (IntKind.wrap .i64 (7 * x9))) (IntKind.bits .u64))))).toNat)) (2 ^ 1))) : Option Int) >>= fun z33 =>
  some (.inr (z33, IntKind.wrap .i64 ((IntKind.wrap .i64 (p1 + x9)) + 1), 0))
  else none
  else none
  else
  some (.inl (x8, x9))
  partial_fixpoint

def f113 (p0 : List UInt8) (p1 : Int) : Option (Int × Int × Int) :=
  if ((decide (p1 < 0)) || (decide (p1 > (p0.length : Int)))) = true then
  some (0, 0, 3)
  else
  f113_l0 p0 p1 0 0 >>= fun rr37 => (match rr37 with
  | .inr yy => some yy
  | .inl z36 =>
  some (0, 0, 5))

theorem f113_ok {p0 : List UInt8} {p1 : Int} {σ : St} {p : Int × Int × Int} (h : f113 p0 p1 = some p) : Spec Try.prog 113 [.kv .str p0, .kv .i p1] (tabs σ) (.tup [⟨.i, p.1⟩, ⟨.i, p.2.1⟩, ⟨.i, p.2.2⟩]) (tabs σ) := by
  refine Spec.intro Try.func113 (by kernel_rfl) rfl (by kernel_rfl) (fun a w G0 Ls hE hH hN => ?_)
  have hle : G0.le G0 := Gh.le_refl G0
  unfold f113 at h
  refine wp_seq_k (fun K hK1 => ?_)
  refine wp_region_from ?_
  refine segO 3 [] [(4, .kv .i 0), (5, .kv .i 0), (6, .kv .i 0)] (Os := []) trivial hE hH (by kernel_rfl) (fun a hE => ?_)
  refine wpFrom_end (by kernel_rfl) ?_
  refine Exit.then_normal (hK1 _ _ ?_)
  refine wp_seq_k (fun K hK2 => ?_)
  refine wp_seq_k (fun K hK3 => ?_)
  refine wp_region_from ?_
  refine segO 8 [] [(18, .kv .bool ((decide (p1 < 0)) || (decide (p1 > (p0.length : Int)))))] (Os := []) trivial hE hH (by kernel_rfl) (fun a hE => ?_)
  refine wpFrom_end (by kernel_rfl) ?_
  refine Exit.then_normal (hK3 _ _ ?_)
  refine condE (b := (decide (p1 < 0)) || (decide (p1 > (p0.length : Int)))) hE (by kernel_rfl) (fun hc => ?_) (fun hc => ?_)
  · replace h := ifT hc h
    refine wp_seq_k (fun K hK4 => ?_)
    refine wp_region_from ?_
    refine segO 3 [] [(4, .kv .i 0), (5, .kv .i 0), (6, .kv .i 3)] (Os := []) trivial hE hH (by kernel_rfl) (fun a hE => ?_)
    refine wpFrom_end (by kernel_rfl) ?_
    refine Exit.then_normal (hK4 _ _ ?_)
    refine wp_ret ?_
    refine Exit.then_ret ?_
    cases h
    exact ret3 rfl hE hle hH (by kernel_rfl)
  · replace h := ifF hc h
    refine wp_skip ?_
    refine Exit.then_normal (hK2 _ _ ?_)
    refine wp_seq_k (fun K hK5 => ?_)
    refine wp_region_from ?_
    refine segO 1 [] [(7, .kv (.int .u64) 0)] (Os := []) trivial hE hH (by kernel_rfl) (fun a hE => ?_)
    refine wpFrom_end (by kernel_rfl) ?_
    refine Exit.then_normal (hK5 _ _ ?_)
    refine wp_seq_k (fun K hK6 => ?_)
    refine wp_seq_k (fun K hK7 => ?_)
    refine wp_region_from ?_
    refine segO 1 [] [(8, .kv .i 0)] (Os := []) trivial hE hH (by kernel_rfl) (fun a hE => ?_)
    refine wpFrom_end (by kernel_rfl) ?_
    refine Exit.then_normal (hK7 _ _ ?_)
    refine wp_block ?_
    obtain ⟨rr37, hrr37, h⟩ := bs h
    refine loop_intro (fun Q10 c hQ hc => ?_)
    have key : ∀ (x8 : Int) (x9 : Int) (rr : Sum (Int × Int) (Int × Int × Int)), f113_l0 p0 p1 x8 x9 = some rr → ∀ (a : Act) (w : World) (G : Gh), G0.le G → EnvR G 67 a [(0, .kv .str p0), (1, .kv .i p1), (4, .kv .i 0), (5, .kv .i 0), (6, .kv .i 0), (7, .kv (.int .u64) x8), (8, .kv .i x9)] → Holds w G (tabs σ) (Ls) → (∀ z36 : Int × Int, rr = .inl z36 → ∀ (a : Act) (w : World) (G : Gh), G0.le G → EnvR G 67 a [(0, .kv .str p0), (1, .kv .i p1), (4, .kv .i 0), (5, .kv .i 0), (6, .kv .i 0), (7, .kv (.int .u64) z36.1), (8, .kv .i z36.2)] → Holds w G (tabs σ) (Ls) → Q10 (.exit 0) a w) → (∀ yy : Int × Int × Int, rr = .inr yy → ∀ (a : Act) (w : World), PostB Try.prog Try.f113 G0 (.tup [⟨.i, yy.1⟩, ⟨.i, yy.2.1⟩, ⟨.i, yy.2.2⟩]) (tabs σ) Ls .ret a w → Q10 .ret a w) → Rnd Try.prog c Q10 a w := by
      refine f113_l0.partial_correctness p0 p1 _ ?_
      intro self ih13 x8 x9 rr h a w G  hle hE hH hx11 hret12
      refine rnd_step' hc ?_
      refine wp_seq_k (fun K hK14 => ?_)
      refine wp_seq_k (fun K hK15 => ?_)
      refine wp_region_from ?_
      refine segO 6 [] [(24, .kv .bool (decide ((IntKind.wrap .i64 (p1 + x9)) < (p0.length : Int))))] (Os := []) trivial hE hH (by kernel_rfl) (fun a hE => ?_)
      refine wpFrom_end (by kernel_rfl) ?_
      refine Exit.then_normal (hK15 _ _ ?_)
      refine condE (b := decide ((IntKind.wrap .i64 (p1 + x9)) < (p0.length : Int))) hE (by kernel_rfl) (fun hc => ?_) (fun hc => ?_)
      · replace h := ifT hc h
        refine wp_skip ?_
        refine Exit.then_normal (hK14 _ _ ?_)
        refine wp_seq_k (fun K hK16 => ?_)
        refine wp_block ?_
        refine wp_seq_k (fun K hK17 => ?_)
        refine wp_region_from ?_
        obtain ⟨q18, h⟩ := gd h
        refine segO 6 [] [(9, .kv (.int .u8) (btS p0 (IntKind.wrap .i64 (p1 + x9))))] (Os := [_]) ⟨q18, trivial⟩ hE hH (by kernel_rfl) (fun a hE => ?_)
        refine wpFrom_end (by kernel_rfl) ?_
        refine Exit.then_normal (hK17 _ _ ?_)
        refine wp_seq_k (fun K hK19 => ?_)
        refine wp_seq_k (fun K hK20 => ?_)
        refine wp_region_from ?_
        refine segO 6 [] [(37, .kv .bool ((x9 == 9) && (decide ((btS p0 (IntKind.wrap .i64 (p1 + x9))) > 1))))] (Os := []) trivial hE hH (by kernel_rfl) (fun a hE => ?_)
        refine wpFrom_end (by kernel_rfl) ?_
        refine Exit.then_normal (hK20 _ _ ?_)
        refine condE (b := (x9 == 9) && (decide ((btS p0 (IntKind.wrap .i64 (p1 + x9))) > 1))) hE (by kernel_rfl) (fun hc => ?_) (fun hc => ?_)
        · replace h := ifT hc h
          refine wp_seq_k (fun K hK21 => ?_)
          refine wp_region_from ?_
          refine segO 3 [] [(4, .kv .i 0), (5, .kv .i 0), (6, .kv .i 6)] (Os := []) trivial hE hH (by kernel_rfl) (fun a hE => ?_)
          refine wpFrom_end (by kernel_rfl) ?_
          refine Exit.then_normal (hK21 _ _ ?_)
          refine wp_ret ?_
          refine Exit.then_ret ?_
          refine Exit.in_ret ?_
          refine Exit.then_ret ?_
          refine Exit.then_ret ?_
          cases h
          exact hret12 _ rfl _ _ (ret3 rfl hE hle hH (by kernel_rfl))
        · replace h := ifF hc h
          refine wp_skip ?_
          refine Exit.then_normal (hK19 _ _ ?_)
          refine wp_seq_k (fun K hK22 => ?_)
          refine wp_region_from ?_
          obtain ⟨q23, h⟩ := gd h
          refine segO 9 [] [(7, .kv (.int .u64) (IntKind.wrap .u64 ((BitVec.ofInt (IntKind.bits .u64) x8 ||| BitVec.ofInt (IntKind.bits .u64) (IntKind.wrap .u64 ((IntKind.wrap .u64 (IntKind.wrap .u8 ((BitVec.ofInt (IntKind.bits .u8) (btS p0 (IntKind.wrap .i64 (p1 + x9))) &&& BitVec.ofInt (IntKind.bits .u8) 127).toNat))) * 2 ^ (min (Int.toNat (IntKind.wrap .i64 (7 * x9))) (IntKind.bits .u64))))).toNat)))] (Os := [_]) ⟨q23, trivial⟩ hE hH (by kernel_rfl) (fun a hE => ?_)
          refine wpFrom_end (by kernel_rfl) ?_
          refine Exit.then_normal (hK22 _ _ ?_)
          refine wp_seq_k (fun K hK24 => ?_)
          refine wp_seq_k (fun K hK25 => ?_)
          refine wp_region_from ?_
          refine segO 2 [] [(47, .kv .bool (decide ((btS p0 (IntKind.wrap .i64 (p1 + x9))) ≥ 128)))] (Os := []) trivial hE hH (by kernel_rfl) (fun a hE => ?_)
          refine wpFrom_end (by kernel_rfl) ?_
          refine Exit.then_normal (hK25 _ _ ?_)
          refine condE (b := decide ((btS p0 (IntKind.wrap .i64 (p1 + x9))) ≥ 128)) hE (by kernel_rfl) (fun hc => ?_) (fun hc => ?_)
          · replace h := ifT hc h
            refine wp_exit ?_
            refine Exit.then_exit ?_
            refine Exit.in_eq ?_
            refine Exit.then_normal (hK16 _ _ ?_)
            refine wp_region_from ?_
            refine segO 3 [] [(8, .kv .i (IntKind.wrap .i64 (x9 + 1)))] (Os := []) trivial hE hH (by kernel_rfl) (fun a hE => ?_)
            refine wpFrom_end (by kernel_rfl) ?_
            refine Exit.then_normal ?_
            exact ih13 _ _ _ h _ _ _  hle (hE.subC (by kernel_rfl)) hH hx11 hret12
          · replace h := ifF hc h
            refine wp_skip ?_
            refine Exit.then_normal (hK24 _ _ ?_)
            refine wp_seq_k (fun K hK26 => ?_)
            refine wp_seq_k (fun K hK27 => ?_)
            refine wp_region_from ?_
            refine segO 6 [] [(53, .kv .bool (((btS p0 (IntKind.wrap .i64 (p1 + x9))) == 0) && (decide (x9 > 0))))] (Os := []) trivial hE hH (by kernel_rfl) (fun a hE => ?_)
            refine wpFrom_end (by kernel_rfl) ?_
            refine Exit.then_normal (hK27 _ _ ?_)
            refine condE (b := ((btS p0 (IntKind.wrap .i64 (p1 + x9))) == 0) && (decide (x9 > 0))) hE (by kernel_rfl) (fun hc => ?_) (fun hc => ?_)
            · replace h := ifT hc h
              refine wp_seq_k (fun K hK28 => ?_)
              refine wp_region_from ?_
              refine segO 3 [] [(4, .kv .i 0), (5, .kv .i 0), (6, .kv .i 6)] (Os := []) trivial hE hH (by kernel_rfl) (fun a hE => ?_)
              refine wpFrom_end (by kernel_rfl) ?_
              refine Exit.then_normal (hK28 _ _ ?_)
              refine wp_ret ?_
              refine Exit.then_ret ?_
              refine Exit.in_ret ?_
              refine Exit.then_ret ?_
              refine Exit.then_ret ?_
              cases h
              exact hret12 _ rfl _ _ (ret3 rfl hE hle hH (by kernel_rfl))
            · replace h := ifF hc h
              refine wp_skip ?_
              refine Exit.then_normal (hK26 _ _ ?_)
              refine wp_seq_k (fun K hK29 => ?_)
              refine wp_region_from ?_
              refine segO 4 [] [(10, .kv .i (IntKind.wrap .i64 (Int.fdiv (IntKind.wrap .u64 ((BitVec.ofInt (IntKind.bits .u64) x8 ||| BitVec.ofInt (IntKind.bits .u64) (IntKind.wrap .u64 ((IntKind.wrap .u64 (IntKind.wrap .u8 ((BitVec.ofInt (IntKind.bits .u8) (btS p0 (IntKind.wrap .i64 (p1 + x9))) &&& BitVec.ofInt (IntKind.bits .u8) 127).toNat))) * 2 ^ (min (Int.toNat (IntKind.wrap .i64 (7 * x9))) (IntKind.bits .u64))))).toNat)) (2 ^ 1))))] (Os := [_]) ⟨(by decide : (0 : Int) ≤ 1), trivial⟩ hE hH (by kernel_rfl) (fun a hE => ?_)
              refine wpFrom_end (by kernel_rfl) ?_
              refine Exit.then_normal (hK29 _ _ ?_)
              refine wp_seq_k (fun K hK30 => ?_)
              refine wp_seq_k (fun K hK31 => ?_)
              refine wp_region_from ?_
              refine segO 3 [] [(59, .kv .bool ((IntKind.wrap .u64 ((BitVec.ofInt (IntKind.bits .u64) (IntKind.wrap .u64 ((BitVec.ofInt (IntKind.bits .u64) x8 ||| BitVec.ofInt (IntKind.bits .u64) (IntKind.wrap .u64 ((IntKind.wrap .u64 (IntKind.wrap .u8 ((BitVec.ofInt (IntKind.bits .u8) (btS p0 (IntKind.wrap .i64 (p1 + x9))) &&& BitVec.ofInt (IntKind.bits .u8) 127).toNat))) * 2 ^ (min (Int.toNat (IntKind.wrap .i64 (7 * x9))) (IntKind.bits .u64))))).toNat)) &&& BitVec.ofInt (IntKind.bits .u64) 1).toNat)) == 1))] (Os := []) trivial hE hH (by kernel_rfl) (fun a hE => ?_)
              refine wpFrom_end (by kernel_rfl) ?_
              refine Exit.then_normal (hK31 _ _ ?_)
              obtain ⟨z33, hz33, h⟩ := bs h
              refine join_intro (I := fun a w => ∃ (G : Gh), G0.le G ∧ EnvR G 67 a [(0, .kv .str p0), (1, .kv .i p1), (4, .kv .i 0), (5, .kv .i 0), (6, .kv .i 0), (7, .kv (.int .u64) (IntKind.wrap .u64 ((BitVec.ofInt (IntKind.bits .u64) x8 ||| BitVec.ofInt (IntKind.bits .u64) (IntKind.wrap .u64 ((IntKind.wrap .u64 (IntKind.wrap .u8 ((BitVec.ofInt (IntKind.bits .u8) (btS p0 (IntKind.wrap .i64 (p1 + x9))) &&& BitVec.ofInt (IntKind.bits .u8) 127).toNat))) * 2 ^ (min (Int.toNat (IntKind.wrap .i64 (7 * x9))) (IntKind.bits .u64))))).toNat))), (8, .kv .i x9), (10, .kv .i z33)] ∧ Holds w G (tabs σ) (Ls)) trivial ?_ ?_
              · intro a w hI
                obtain ⟨G, hle, hE, hH⟩ := hI
                refine Exit.then_normal (hK30 _ _ ?_)
                refine wp_seq_k (fun K hK35 => ?_)
                refine wp_region_from ?_
                refine segO 8 [] [(4, .kv .i z33), (5, .kv .i (IntKind.wrap .i64 ((IntKind.wrap .i64 (p1 + x9)) + 1))), (6, .kv .i 0)] (Os := []) trivial hE hH (by kernel_rfl) (fun a hE => ?_)
                refine wpFrom_end (by kernel_rfl) ?_
                refine Exit.then_normal (hK35 _ _ ?_)
                refine wp_ret ?_
                refine Exit.in_ret ?_
                refine Exit.then_ret ?_
                refine Exit.then_ret ?_
                cases h
                exact hret12 _ rfl _ _ (ret3 rfl hE hle hH (by kernel_rfl))
              · intro KK hKK ho
                have hj34 : ∀ (a : Act) (w : World) (G : Gh), G0.le G → EnvR G 67 a [(0, .kv .str p0), (1, .kv .i p1), (4, .kv .i 0), (5, .kv .i 0), (6, .kv .i 0), (7, .kv (.int .u64) (IntKind.wrap .u64 ((BitVec.ofInt (IntKind.bits .u64) x8 ||| BitVec.ofInt (IntKind.bits .u64) (IntKind.wrap .u64 ((IntKind.wrap .u64 (IntKind.wrap .u8 ((BitVec.ofInt (IntKind.bits .u8) (btS p0 (IntKind.wrap .i64 (p1 + x9))) &&& BitVec.ofInt (IntKind.bits .u8) 127).toNat))) * 2 ^ (min (Int.toNat (IntKind.wrap .i64 (7 * x9))) (IntKind.bits .u64))))).toNat))), (8, .kv .i x9), (10, .kv .i z33)] → Holds w G (tabs σ) (Ls) → KK .normal a w := fun a w G  h1 h2 h3 => hKK a w ⟨G, h1, h2, h3⟩
                replace h := hz33
                refine condE (b := (IntKind.wrap .u64 ((BitVec.ofInt (IntKind.bits .u64) (IntKind.wrap .u64 ((BitVec.ofInt (IntKind.bits .u64) x8 ||| BitVec.ofInt (IntKind.bits .u64) (IntKind.wrap .u64 ((IntKind.wrap .u64 (IntKind.wrap .u8 ((BitVec.ofInt (IntKind.bits .u8) (btS p0 (IntKind.wrap .i64 (p1 + x9))) &&& BitVec.ofInt (IntKind.bits .u8) 127).toNat))) * 2 ^ (min (Int.toNat (IntKind.wrap .i64 (7 * x9))) (IntKind.bits .u64))))).toNat)) &&& BitVec.ofInt (IntKind.bits .u64) 1).toNat)) == 1) hE (by kernel_rfl) (fun hc => ?_) (fun hc => ?_)
                · replace h := ifT hc h
                  refine wp_region_from ?_
                  refine segO 3 [] [(10, .kv .i (IntKind.wrap .i64 ((BitVec.ofInt (IntKind.bits .i64) (if IntKind.signed .i64 = true then -1 else IntKind.max .i64) ^^^ BitVec.ofInt (IntKind.bits .i64) (IntKind.wrap .i64 (Int.fdiv (IntKind.wrap .u64 ((BitVec.ofInt (IntKind.bits .u64) x8 ||| BitVec.ofInt (IntKind.bits .u64) (IntKind.wrap .u64 ((IntKind.wrap .u64 (IntKind.wrap .u8 ((BitVec.ofInt (IntKind.bits .u8) (btS p0 (IntKind.wrap .i64 (p1 + x9))) &&& BitVec.ofInt (IntKind.bits .u8) 127).toNat))) * 2 ^ (min (Int.toNat (IntKind.wrap .i64 (7 * x9))) (IntKind.bits .u64))))).toNat)) (2 ^ 1)))).toNat)))] (Os := []) trivial hE hH (by kernel_rfl) (fun a hE => ?_)
                  refine wpFrom_end (by kernel_rfl) ?_
                  cases h
                  exact hj34 _ _ _  hle (hE.subC (by kernel_rfl)) hH
                · replace h := ifF hc h
                  refine wp_skip ?_
                  cases h
                  exact hj34 _ _ _  hle (hE.subC (by kernel_rfl)) hH
      · replace h := ifF hc h
        refine wp_exit ?_
        refine Exit.then_exit ?_
        refine Exit.then_exit ?_
        cases h
        exact hx11 _ rfl _ _ _  hle (hE.subC (by kernel_rfl)) hH
    refine key _ _ _ hrr37 _ _ _  hle (hE.subC (by kernel_rfl)) hH ?_ ?_
    · intro z36 hz a w G  hle hE hH
      subst hz
      rw [hQ]
      dsimp only at h
      refine Exit.in_eq ?_
      refine Exit.then_normal (hK6 _ _ ?_)
      refine wp_seq_k (fun K hK38 => ?_)
      refine wp_region_from ?_
      refine segO 3 [] [(4, .kv .i 0), (5, .kv .i 0), (6, .kv .i 5)] (Os := []) trivial hE hH (by kernel_rfl) (fun a hE => ?_)
      refine wpFrom_end (by kernel_rfl) ?_
      refine Exit.then_normal (hK38 _ _ ?_)
      refine wp_ret ?_
      cases h
      exact ret3 rfl hE hle hH (by kernel_rfl)
    · intro yy hz a w hp
      subst hz
      dsimp only at h
      cases h
      rw [hQ]
      refine Exit.in_ret ?_
      refine Exit.then_ret ?_
      exact hp

def f94 (p0 : List UInt8) (p1 : Int) (p2 : Int) : Option ((List UInt8) × Int × Bool) :=
  f113 p0 p1 >>= fun r3 =>
  if (((r3.2.2 != 0) || (decide (r3.1 < 0))) || (decide (r3.1 > (IntKind.wrap .i64 ((p0.length : Int) - r3.2.1))))) = true then
  some ([], 0, false)
  else
  if (0 : Int) ≤ r3.2.1 ∧ r3.2.1 ≤ (IntKind.wrap .i64 (r3.2.1 + r3.1)) ∧ (IntKind.wrap .i64 (r3.2.1 + r3.1)) ≤ (p0.length : Int) then
  f108 ((p0.take (Int.toNat (IntKind.wrap .i64 (r3.2.1 + r3.1)))).drop (Int.toNat r3.2.1)) >>= fun r9 =>
  if (r9.2 != 0) = true then
  some ([], 0, false)
  else
  f90 p2 >>= fun r14 =>
  if (decide ((r9.1.length : Int) < (r14.length : Int))) = true then
  some ([], 0, false)
  else
  if (0 : Int) ≤ (r14.length : Int) ∧ (r14.length : Int) ≤ (r9.1.length : Int) then
  if ((!((r9.1.take (Int.toNat (r14.length : Int))) == r14)) || (decide ((IntKind.wrap .i64 ((r9.1.length : Int) - (r14.length : Int))) > 1024))) = true then
  some ([], 0, false)
  else
  if (0 : Int) ≤ (r14.length : Int) ∧ (r14.length : Int) ≤ (r9.1.length : Int) then
  some (r9.1.drop (Int.toNat (r14.length : Int)), IntKind.wrap .i64 (r3.2.1 + r3.1), true)
  else none
  else none
  else none

theorem f94_ok {p0 : List UInt8} {p1 : Int} {p2 : Int} {σ : St} {p : (List UInt8) × Int × Bool} (h : f94 p0 p1 p2 = some p) : Spec Try.prog 94 [.kv .str p0, .kv .i p1, .kv .i p2] (tabs σ) (.tup [⟨.str, p.1⟩, ⟨.i, p.2.1⟩, ⟨.bool, p.2.2⟩]) (tabs σ) := by
  refine Spec.intro Try.func94 (by kernel_rfl) rfl (by kernel_rfl) (fun a w G0 Ls hE hH hN => ?_)
  have hle : G0.le G0 := Gh.le_refl G0
  unfold f94 at h
  refine wp_seq_k (fun K hK1 => ?_)
  refine wp_region_from ?_
  refine segO 3 [] [(6, .kv .str []), (7, .kv .i 0), (8, .kv .bool false)] (Os := []) trivial hE hH (by kernel_rfl) (fun a hE => ?_)
  refine wpFrom_end (by kernel_rfl) ?_
  refine Exit.then_normal (hK1 _ _ ?_)
  refine wp_seq_k (fun K hK2 => ?_)
  refine wp_region_from ?_
  refine segO 2 [] [(15, .kv .str p0), (16, .kv .i p1)] (Os := []) trivial hE hH (by kernel_rfl) (fun a hE => ?_)
  obtain ⟨r3, hr3, h⟩ := bs h
  refine stepCall (d := (some 17)) (f113_ok hr3) hE hH hN (by kernel_rfl) (by kernel_rfl) trivial (fun a w G hl1 hE hH => ?_)
  have hle := Gh.le_trans hle hl1
  refine segO 7 [] [(9, .kv .i r3.1), (10, .kv .i r3.2.1), (11, .kv .i r3.2.2)] (Os := []) trivial hE hH (by kernel_rfl) (fun a hE => ?_)
  refine wpFrom_end (by kernel_rfl) ?_
  refine Exit.then_normal (hK2 _ _ ?_)
  refine wp_seq_k (fun K hK4 => ?_)
  refine wp_seq_k (fun K hK5 => ?_)
  refine wp_region_from ?_
  refine segO 14 [] [(34, .kv .bool (((r3.2.2 != 0) || (decide (r3.1 < 0))) || (decide (r3.1 > (IntKind.wrap .i64 ((p0.length : Int) - r3.2.1))))))] (Os := []) trivial hE hH (by kernel_rfl) (fun a hE => ?_)
  refine wpFrom_end (by kernel_rfl) ?_
  refine Exit.then_normal (hK5 _ _ ?_)
  refine condE (b := ((r3.2.2 != 0) || (decide (r3.1 < 0))) || (decide (r3.1 > (IntKind.wrap .i64 ((p0.length : Int) - r3.2.1))))) hE (by kernel_rfl) (fun hc => ?_) (fun hc => ?_)
  · replace h := ifT hc h
    refine wp_seq_k (fun K hK6 => ?_)
    refine wp_region_from ?_
    refine segO 3 [] [(6, .kv .str []), (7, .kv .i 0), (8, .kv .bool false)] (Os := []) trivial hE hH (by kernel_rfl) (fun a hE => ?_)
    refine wpFrom_end (by kernel_rfl) ?_
    refine Exit.then_normal (hK6 _ _ ?_)
    refine wp_ret ?_
    refine Exit.then_ret ?_
    cases h
    exact ret3 rfl hE hle hH (by kernel_rfl)
  · replace h := ifF hc h
    refine wp_skip ?_
    refine Exit.then_normal (hK4 _ _ ?_)
    refine wp_seq_k (fun K hK7 => ?_)
    refine wp_region_from ?_
    obtain ⟨q8, h⟩ := gd h
    refine segO 6 [] [(41, .kv .str ((p0.take (Int.toNat (IntKind.wrap .i64 (r3.2.1 + r3.1)))).drop (Int.toNat r3.2.1)))] (Os := [_]) ⟨q8, trivial⟩ hE hH (by kernel_rfl) (fun a hE => ?_)
    obtain ⟨r9, hr9, h⟩ := bs h
    refine stepCall (d := (some 42)) (f108_ok hr9) hE hH hN (by kernel_rfl) (by kernel_rfl) trivial (fun a w G hl2 hE hH => ?_)
    have hle := Gh.le_trans hle hl2
    refine segO 5 [] [(11, .kv .i r9.2), (12, .kv .str r9.1)] (Os := []) trivial hE hH (by kernel_rfl) (fun a hE => ?_)
    refine wpFrom_end (by kernel_rfl) ?_
    refine Exit.then_normal (hK7 _ _ ?_)
    refine wp_seq_k (fun K hK10 => ?_)
    refine wp_seq_k (fun K hK11 => ?_)
    refine wp_region_from ?_
    refine segO 2 [] [(46, .kv .bool (r9.2 != 0))] (Os := []) trivial hE hH (by kernel_rfl) (fun a hE => ?_)
    refine wpFrom_end (by kernel_rfl) ?_
    refine Exit.then_normal (hK11 _ _ ?_)
    refine condE (b := r9.2 != 0) hE (by kernel_rfl) (fun hc => ?_) (fun hc => ?_)
    · replace h := ifT hc h
      refine wp_seq_k (fun K hK12 => ?_)
      refine wp_region_from ?_
      refine segO 3 [] [(6, .kv .str []), (7, .kv .i 0), (8, .kv .bool false)] (Os := []) trivial hE hH (by kernel_rfl) (fun a hE => ?_)
      refine wpFrom_end (by kernel_rfl) ?_
      refine Exit.then_normal (hK12 _ _ ?_)
      refine wp_ret ?_
      refine Exit.then_ret ?_
      cases h
      exact ret3 rfl hE hle hH (by kernel_rfl)
    · replace h := ifF hc h
      refine wp_skip ?_
      refine Exit.then_normal (hK10 _ _ ?_)
      refine wp_seq_k (fun K hK13 => ?_)
      refine wp_region_from ?_
      refine segO 1 [] [(47, .kv .i p2)] (Os := []) trivial hE hH (by kernel_rfl) (fun a hE => ?_)
      obtain ⟨r14, hr14, h⟩ := bs h
      refine stepCall (d := (some 48)) (f90_ok hr14) hE hH hN (by kernel_rfl) (by kernel_rfl) trivial (fun a w G hl3 hE hH => ?_)
      have hle := Gh.le_trans hle hl3
      refine segO 1 [] [(13, .kv .str r14)] (Os := []) trivial hE hH (by kernel_rfl) (fun a hE => ?_)
      refine wpFrom_end (by kernel_rfl) ?_
      refine Exit.then_normal (hK13 _ _ ?_)
      refine wp_seq_k (fun K hK15 => ?_)
      refine wp_seq_k (fun K hK16 => ?_)
      refine wp_region_from ?_
      refine segO 6 [] [(54, .kv .bool (decide ((r9.1.length : Int) < (r14.length : Int))))] (Os := []) trivial hE hH (by kernel_rfl) (fun a hE => ?_)
      by_cases hc : (decide ((r9.1.length : Int) < (r14.length : Int))) = true
      · replace h := ifT hc h
        have hE := hE.setB 54 (by kernel_rfl) hc
        refine segO 15 [] [(69, .kv .bool true)] (Os := []) trivial hE hH (by kernel_rfl) (fun a hE => ?_)
        refine wpFrom_end (by kernel_rfl) ?_
        refine Exit.then_normal (hK16 _ _ ?_)
        refine condT hE (by kernel_rfl) rfl ?_
        refine wp_seq_k (fun K hK17 => ?_)
        refine wp_region_from ?_
        refine segO 3 [] [(6, .kv .str []), (7, .kv .i 0), (8, .kv .bool false)] (Os := []) trivial hE hH (by kernel_rfl) (fun a hE => ?_)
        refine wpFrom_end (by kernel_rfl) ?_
        refine Exit.then_normal (hK17 _ _ ?_)
        refine wp_ret ?_
        refine Exit.then_ret ?_
        cases h
        exact ret3 rfl hE hle hH (by kernel_rfl)
      · replace h := ifN hc h
        have hE := hE.setB 54 (by kernel_rfl) (bf hc)
        obtain ⟨q18, h⟩ := gd h
        refine segO 15 [] [(69, .kv .bool ((!((r9.1.take (Int.toNat (r14.length : Int))) == r14)) || (decide ((IntKind.wrap .i64 ((r9.1.length : Int) - (r14.length : Int))) > 1024))))] (Os := [_]) ⟨q18, trivial⟩ hE hH (by kernel_rfl) (fun a hE => ?_)
        refine wpFrom_end (by kernel_rfl) ?_
        refine Exit.then_normal (hK16 _ _ ?_)
        refine condE (b := (!((r9.1.take (Int.toNat (r14.length : Int))) == r14)) || (decide ((IntKind.wrap .i64 ((r9.1.length : Int) - (r14.length : Int))) > 1024))) hE (by kernel_rfl) (fun hc => ?_) (fun hc => ?_)
        · replace h := ifT hc h
          refine wp_seq_k (fun K hK19 => ?_)
          refine wp_region_from ?_
          refine segO 3 [] [(6, .kv .str []), (7, .kv .i 0), (8, .kv .bool false)] (Os := []) trivial hE hH (by kernel_rfl) (fun a hE => ?_)
          refine wpFrom_end (by kernel_rfl) ?_
          refine Exit.then_normal (hK19 _ _ ?_)
          refine wp_ret ?_
          refine Exit.then_ret ?_
          cases h
          exact ret3 rfl hE hle hH (by kernel_rfl)
        · replace h := ifF hc h
          refine wp_skip ?_
          refine Exit.then_normal (hK15 _ _ ?_)
          refine wp_seq_k (fun K hK20 => ?_)
          refine wp_region_from ?_
          obtain ⟨q21, h⟩ := gd h
          refine segO 10 [] [(6, .kv .str (r9.1.drop (Int.toNat (r14.length : Int)))), (7, .kv .i (IntKind.wrap .i64 (r3.2.1 + r3.1))), (8, .kv .bool true)] (Os := [_]) ⟨q21, trivial⟩ hE hH (by kernel_rfl) (fun a hE => ?_)
          refine wpFrom_end (by kernel_rfl) ?_
          refine Exit.then_normal (hK20 _ _ ?_)
          refine wp_ret ?_
          cases h
          exact ret3 rfl hE hle hH (by kernel_rfl)

def f49_l0 (p0 : List UInt8) (p1 : Int) (l7 : List (List UInt8)) (x8 : Int) : Option ((List (List UInt8)) × Int) :=
  if (decide (p1 ≥ 0)) = true then
  f94 p0 x8 (IntKind.wrap .i64 (p1 + (l7.length : Int))) >>= fun r16 =>
  if (!r16.2.2) = true then
  some ((l7, x8))
  else
  if (l7.length + 1) * 16 ≤ 140737488355328 then
  f49_l0 p0 p1 (l7 ++ [r16.1]) r16.2.1
  else none
  else
  some ((l7, x8))
  partial_fixpoint

def f49 (p0 : List UInt8) (p1 : Int) : Option ((List (List UInt8)) × Int) :=
  f49_l0 p0 p1 [] 0 >>= fun z22 =>
  some (z22.1, z22.2)

theorem f49_ok {p0 : List UInt8} {p1 : Int} {σ : St} {p : (List (List UInt8)) × Int} (h : f49 p0 p1 = some p) : Spec Try.prog 49 [.kv .str p0, .kv .i p1] (tabs σ) (.tup [⟨(.list .str), p.1⟩, ⟨.i, p.2⟩]) (tabs σ) := by
  refine Spec.intro Try.func49 (by kernel_rfl) rfl (by kernel_rfl) (fun a w G0 Ls hE hH hN => ?_)
  have hle : G0.le G0 := Gh.le_refl G0
  unfold f49 at h
  refine wp_seq_k (fun K hK1 => ?_)
  refine wp_region_from ?_
  refine segO 2 [] [(4, .val (.slice none 0 0)), (5, .kv .i 0)] (Os := []) trivial hE hH (by kernel_rfl) (fun a hE => ?_)
  refine wpFrom_end (by kernel_rfl) ?_
  refine Exit.then_normal (hK1 _ _ ?_)
  refine wp_scope_in ?_
  refine wp_seq_k (fun K hK2 => ?_)
  refine wp_region_from ?_
  refine segO 1 [] [(6, .val (.slice none 0 0))] (Os := []) trivial hE hH (by kernel_rfl) (fun a hE => ?_)
  refine wpFrom_end (by kernel_rfl) ?_
  refine Exit.then_normal (hK2 _ _ ?_)
  refine wp_seq_k (fun K hK3 => ?_)
  refine wp_region_from ?_
  refine segO 1 [] [(7, .kv .i 0)] (Os := []) trivial hE hH (by kernel_rfl) (fun a hE => ?_)
  refine wpFrom_end (by kernel_rfl) ?_
  refine Exit.then_normal (hK3 _ _ ?_)
  refine wp_seq_k (fun K hK4 => ?_)
  refine wp_label ?_
  refine Exit.then_normal (hK4 _ _ ?_)
  refine wp_seq_k (fun K hK5 => ?_)
  refine wp_block ?_
  have hE := hE.nilTl 6 .str (by kernel_rfl)
  have hH := hH.nilTk 9 16 .str
  obtain ⟨z22, hz22, h⟩ := bs h
  refine loop_intro (fun Q9 c hQ hc => ?_)
  have key : ∀ (l7 : List (List UInt8)) (x8 : Int) (rr : (List (List UInt8)) × Int), f49_l0 p0 p1 l7 x8 = some rr → ∀ (a : Act) (w : World) (G : Gh) (v6 : Value), G0.le G → EnvR G 33 a [(0, .kv .str p0), (1, .kv .i p1), (4, .val (.slice none 0 0)), (5, .kv .i 0), (6, .tl v6 .str l7), (7, .kv .i x8)] → Holds w G (tabs σ) (LS.tk v6 9 16 .str l7 :: Ls) → (∀ z23 : (List (List UInt8)) × Int, rr = z23 → ∀ (a : Act) (w : World) (G : Gh) (v6 : Value), G0.le G → EnvR G 33 a [(0, .kv .str p0), (1, .kv .i p1), (4, .val (.slice none 0 0)), (5, .kv .i 0), (6, .tl v6 .str z23.1), (7, .kv .i z23.2)] → Holds w G (tabs σ) (LS.tk v6 9 16 .str z23.1 :: Ls) → Q9 (.exit 0) a w) → Rnd Try.prog c Q9 a w := by
    refine f49_l0.partial_correctness p0 p1 _ ?_
    intro self ih12 l7 x8 rr h a w G v6 hle hE hH hx10
    refine rnd_step' hc ?_
    refine wp_seq_k (fun K hK13 => ?_)
    refine wp_seq_k (fun K hK14 => ?_)
    refine wp_region_from ?_
    refine segO 2 [] [(12, .kv .bool (decide (p1 ≥ 0)))] (Os := []) trivial hE hH (by kernel_rfl) (fun a hE => ?_)
    refine wpFrom_end (by kernel_rfl) ?_
    refine Exit.then_normal (hK14 _ _ ?_)
    refine condE (b := decide (p1 ≥ 0)) hE (by kernel_rfl) (fun hc => ?_) (fun hc => ?_)
    · replace h := ifT hc h
      refine wp_skip ?_
      refine Exit.then_normal (hK13 _ _ ?_)
      refine wp_block ?_
      refine wp_seq_k (fun K hK15 => ?_)
      refine wp_region_from ?_
      refine segO 6 [] [(14, .kv .str p0), (15, .kv .i x8), (19, .kv .i (IntKind.wrap .i64 (p1 + (l7.length : Int))))] (Os := []) trivial hE hH (by kernel_rfl) (fun a hE => ?_)
      obtain ⟨r16, hr16, h⟩ := bs h
      refine stepCall (d := (some 20)) (f94_ok hr16) hE hH (NoHole.cons (fun _ _ _ => rfl) hN) (by kernel_rfl) (by kernel_rfl) trivial (fun a w G hl1 hE hH => ?_)
      have hle := Gh.le_trans hle hl1
      refine segO 7 [] [(8, .kv .str r16.1), (9, .kv .i r16.2.1), (10, .kv .bool r16.2.2)] (Os := []) trivial hE hH (by kernel_rfl) (fun a hE => ?_)
      refine wpFrom_end (by kernel_rfl) ?_
      refine Exit.then_normal (hK15 _ _ ?_)
      refine wp_seq_k (fun K hK17 => ?_)
      refine wp_seq_k (fun K hK18 => ?_)
      refine wp_region_from ?_
      refine segO 2 [] [(25, .kv .bool (!r16.2.2))] (Os := []) trivial hE hH (by kernel_rfl) (fun a hE => ?_)
      refine wpFrom_end (by kernel_rfl) ?_
      refine Exit.then_normal (hK18 _ _ ?_)
      refine condE (b := !r16.2.2) hE (by kernel_rfl) (fun hc => ?_) (fun hc => ?_)
      · replace h := ifT hc h
        refine wp_exit ?_
        refine Exit.then_exit ?_
        refine Exit.in_ne (by decide) ?_
        refine Exit.then_exit ?_
        cases h
        exact hx10 _ rfl _ _ _ v6 hle (hE.subC (by kernel_rfl)) hH
      · replace h := ifF hc h
        refine wp_skip ?_
        refine Exit.then_normal (hK17 _ _ ?_)
        refine wp_seq_k (fun K hK19 => ?_)
        refine wp_region_from ?_
        refine segO 2 [] [(26, .tl v6 .str l7), (27, .kv .str r16.1)] (Os := []) trivial hE hH (by kernel_rfl) (fun a hE => ?_)
        refine stepBuildS (d := (some 28)) .str [r16.1] hE hH (by kernel_rfl) (by kernel_rfl) (fun a w G hl2 hE hH => ?_)
        have hle := Gh.le_trans hle hl2
        obtain ⟨q20, h⟩ := gd h
        refine stepApp (e := 0) (bt := 16) (ys := [r16.1]) (e' := 9) (d := (some 29)) 0 hE hH (by kernel_rfl) rfl (by kernel_rfl) q20 (fun v21 a w G hl3 hE hH => ?_)
        have hle := Gh.le_trans hle hl3
        refine segO 1 [] [(6, .tl v21 .str (l7 ++ [r16.1]))] (Os := []) trivial hE hH (by kernel_rfl) (fun a hE => ?_)
        refine wpFrom_end (by kernel_rfl) ?_
        refine Exit.then_normal (hK19 _ _ ?_)
        refine wp_region_from ?_
        refine segO 2 [] [(7, .kv .i r16.2.1)] (Os := []) trivial hE hH (by kernel_rfl) (fun a hE => ?_)
        refine wpFrom_end (by kernel_rfl) ?_
        refine Exit.in_normal ?_
        refine Exit.then_normal ?_
        exact ih12 _ _ _ h _ _ _ v21 hle (hE.subC (by kernel_rfl)) hH hx10
    · replace h := ifF hc h
      refine wp_exit ?_
      refine Exit.then_exit ?_
      refine Exit.then_exit ?_
      cases h
      exact hx10 _ rfl _ _ _ v6 hle (hE.subC (by kernel_rfl)) hH
  refine key _ _ _ hz22 _ _ _ (.slice none 0 0) hle (hE.subC (by kernel_rfl)) hH ?_
  · intro z23 hz a w G v6 hle hE hH
    subst hz
    rw [hQ]
    refine Exit.in_eq ?_
    refine Exit.then_normal (hK5 _ _ ?_)
    refine wp_seq_k (fun K hK24 => ?_)
    refine wp_region_from ?_
    refine segO 4 [] [(4, .tl v6 .str z22.1), (5, .kv .i z22.2)] (Os := []) trivial hE hH (by kernel_rfl) (fun a hE => ?_)
    refine wpFrom_end (by kernel_rfl) ?_
    refine Exit.then_normal (hK24 _ _ ?_)
    refine wp_ret ?_
    refine Exit.sc_ret ?_
    have hH := hH.drop (fun _ _ _ => rfl)
    cases h
    exact ret2 rfl hE hle hH (by kernel_rfl)

theorem f49_o {p0 : List UInt8} {p1 : Int} {σ : St} {p : (List (List UInt8)) × Int} (h : f49 p0 p1 = some p) {w : World} {G0 : Gh} {Ls : List LS} (hH : Holds w G0 (tabs σ) Ls) (hN : NoHole Ls) {args : List Value} (hA : All2 (EnR G0) [.kv .str p0, .kv .i p1] args) : Calls Try.prog 49 args.toArray w (PostF G0 (fun v => .val (.tuple #[v, .int .i64 p.2])) (tabs σ) (fun v => LS.tk v 9 16 .str p.1 :: Ls)) := by
  refine introX Try.func49 rfl (by kernel_rfl) hA (fun a hE => ?_)
  have hle : G0.le G0 := Gh.le_refl G0
  unfold f49 at h
  refine wp_seq_k (fun K hK1 => ?_)
  refine wp_region_from ?_
  refine segO 2 [] [(4, .val (.slice none 0 0)), (5, .kv .i 0)] (Os := []) trivial hE hH (by kernel_rfl) (fun a hE => ?_)
  refine wpFrom_end (by kernel_rfl) ?_
  refine Exit.then_normal (hK1 _ _ ?_)
  refine wp_scope_in ?_
  refine wp_seq_k (fun K hK2 => ?_)
  refine wp_region_from ?_
  refine segO 1 [] [(6, .val (.slice none 0 0))] (Os := []) trivial hE hH (by kernel_rfl) (fun a hE => ?_)
  refine wpFrom_end (by kernel_rfl) ?_
  refine Exit.then_normal (hK2 _ _ ?_)
  refine wp_seq_k (fun K hK3 => ?_)
  refine wp_region_from ?_
  refine segO 1 [] [(7, .kv .i 0)] (Os := []) trivial hE hH (by kernel_rfl) (fun a hE => ?_)
  refine wpFrom_end (by kernel_rfl) ?_
  refine Exit.then_normal (hK3 _ _ ?_)
  refine wp_seq_k (fun K hK4 => ?_)
  refine wp_label ?_
  refine Exit.then_normal (hK4 _ _ ?_)
  refine wp_seq_k (fun K hK5 => ?_)
  refine wp_block ?_
  have hE := hE.nilTl 6 .str (by kernel_rfl)
  have hH := hH.nilTk 9 16 .str
  obtain ⟨z22, hz22, h⟩ := bs h
  refine loop_intro (fun Q9 c hQ hc => ?_)
  have key : ∀ (l7 : List (List UInt8)) (x8 : Int) (rr : (List (List UInt8)) × Int), f49_l0 p0 p1 l7 x8 = some rr → ∀ (a : Act) (w : World) (G : Gh) (v6 : Value), G0.le G → EnvR G 33 a [(0, .kv .str p0), (1, .kv .i p1), (4, .val (.slice none 0 0)), (5, .kv .i 0), (6, .tl v6 .str l7), (7, .kv .i x8)] → Holds w G (tabs σ) (LS.tk v6 9 16 .str l7 :: Ls) → (∀ z23 : (List (List UInt8)) × Int, rr = z23 → ∀ (a : Act) (w : World) (G : Gh) (v6 : Value), G0.le G → EnvR G 33 a [(0, .kv .str p0), (1, .kv .i p1), (4, .val (.slice none 0 0)), (5, .kv .i 0), (6, .tl v6 .str z23.1), (7, .kv .i z23.2)] → Holds w G (tabs σ) (LS.tk v6 9 16 .str z23.1 :: Ls) → Q9 (.exit 0) a w) → Rnd Try.prog c Q9 a w := by
    refine f49_l0.partial_correctness p0 p1 _ ?_
    intro self ih12 l7 x8 rr h a w G v6 hle hE hH hx10
    refine rnd_step' hc ?_
    refine wp_seq_k (fun K hK13 => ?_)
    refine wp_seq_k (fun K hK14 => ?_)
    refine wp_region_from ?_
    refine segO 2 [] [(12, .kv .bool (decide (p1 ≥ 0)))] (Os := []) trivial hE hH (by kernel_rfl) (fun a hE => ?_)
    refine wpFrom_end (by kernel_rfl) ?_
    refine Exit.then_normal (hK14 _ _ ?_)
    refine condE (b := decide (p1 ≥ 0)) hE (by kernel_rfl) (fun hc => ?_) (fun hc => ?_)
    · replace h := ifT hc h
      refine wp_skip ?_
      refine Exit.then_normal (hK13 _ _ ?_)
      refine wp_block ?_
      refine wp_seq_k (fun K hK15 => ?_)
      refine wp_region_from ?_
      refine segO 6 [] [(14, .kv .str p0), (15, .kv .i x8), (19, .kv .i (IntKind.wrap .i64 (p1 + (l7.length : Int))))] (Os := []) trivial hE hH (by kernel_rfl) (fun a hE => ?_)
      obtain ⟨r16, hr16, h⟩ := bs h
      refine stepCall (d := (some 20)) (f94_ok hr16) hE hH (NoHole.cons (fun _ _ _ => rfl) hN) (by kernel_rfl) (by kernel_rfl) trivial (fun a w G hl1 hE hH => ?_)
      have hle := Gh.le_trans hle hl1
      refine segO 7 [] [(8, .kv .str r16.1), (9, .kv .i r16.2.1), (10, .kv .bool r16.2.2)] (Os := []) trivial hE hH (by kernel_rfl) (fun a hE => ?_)
      refine wpFrom_end (by kernel_rfl) ?_
      refine Exit.then_normal (hK15 _ _ ?_)
      refine wp_seq_k (fun K hK17 => ?_)
      refine wp_seq_k (fun K hK18 => ?_)
      refine wp_region_from ?_
      refine segO 2 [] [(25, .kv .bool (!r16.2.2))] (Os := []) trivial hE hH (by kernel_rfl) (fun a hE => ?_)
      refine wpFrom_end (by kernel_rfl) ?_
      refine Exit.then_normal (hK18 _ _ ?_)
      refine condE (b := !r16.2.2) hE (by kernel_rfl) (fun hc => ?_) (fun hc => ?_)
      · replace h := ifT hc h
        refine wp_exit ?_
        refine Exit.then_exit ?_
        refine Exit.in_ne (by decide) ?_
        refine Exit.then_exit ?_
        cases h
        exact hx10 _ rfl _ _ _ v6 hle (hE.subC (by kernel_rfl)) hH
      · replace h := ifF hc h
        refine wp_skip ?_
        refine Exit.then_normal (hK17 _ _ ?_)
        refine wp_seq_k (fun K hK19 => ?_)
        refine wp_region_from ?_
        refine segO 2 [] [(26, .tl v6 .str l7), (27, .kv .str r16.1)] (Os := []) trivial hE hH (by kernel_rfl) (fun a hE => ?_)
        refine stepBuildS (d := (some 28)) .str [r16.1] hE hH (by kernel_rfl) (by kernel_rfl) (fun a w G hl2 hE hH => ?_)
        have hle := Gh.le_trans hle hl2
        obtain ⟨q20, h⟩ := gd h
        refine stepApp (e := 0) (bt := 16) (ys := [r16.1]) (e' := 9) (d := (some 29)) 0 hE hH (by kernel_rfl) rfl (by kernel_rfl) q20 (fun v21 a w G hl3 hE hH => ?_)
        have hle := Gh.le_trans hle hl3
        refine segO 1 [] [(6, .tl v21 .str (l7 ++ [r16.1]))] (Os := []) trivial hE hH (by kernel_rfl) (fun a hE => ?_)
        refine wpFrom_end (by kernel_rfl) ?_
        refine Exit.then_normal (hK19 _ _ ?_)
        refine wp_region_from ?_
        refine segO 2 [] [(7, .kv .i r16.2.1)] (Os := []) trivial hE hH (by kernel_rfl) (fun a hE => ?_)
        refine wpFrom_end (by kernel_rfl) ?_
        refine Exit.in_normal ?_
        refine Exit.then_normal ?_
        exact ih12 _ _ _ h _ _ _ v21 hle (hE.subC (by kernel_rfl)) hH hx10
    · replace h := ifF hc h
      refine wp_exit ?_
      refine Exit.then_exit ?_
      refine Exit.then_exit ?_
      cases h
      exact hx10 _ rfl _ _ _ v6 hle (hE.subC (by kernel_rfl)) hH
  refine key _ _ _ hz22 _ _ _ (.slice none 0 0) hle (hE.subC (by kernel_rfl)) hH ?_
  · intro z23 hz a w G v6 hle hE hH
    subst hz
    rw [hQ]
    refine Exit.in_eq ?_
    refine Exit.then_normal (hK5 _ _ ?_)
    refine wp_seq_k (fun K hK24 => ?_)
    refine wp_region_from ?_
    refine segO 4 [] [(4, .tl v6 .str z22.1), (5, .kv .i z22.2)] (Os := []) trivial hE hH (by kernel_rfl) (fun a hE => ?_)
    refine wpFrom_end (by kernel_rfl) ?_
    refine Exit.then_normal (hK24 _ _ ?_)
    refine wp_ret ?_
    refine Exit.sc_ret ?_
    cases h
    exact retXO (K := .str) (xs := z22.1) rfl hE hle hH (by kernel_rfl) (by kernel_rfl)

def f115 (p0 : Option Nat) (p1 : Int) (σ : St) : Option (((Option Nat) × Int × Int) × St) :=
  p0 >>= fun i4 =>
  ((σ.add130 (p1, [], 0, ())).t128[i4]?) >>= fun o5 =>
  f98 p0 (some σ.t130.length) (σ.add130 (p1, [], 0, ())) >>= fun r6 =>
  f28 o5.1 r6 (σ.add130 (p1, [], 0, ())) >>= fun r7 =>
  if (r7.2 != 0) = true then
  some ((none, 0, r7.2), (σ.add130 (p1, [], 0, ())))
  else
  f49 r7.1 p1 >>= fun r12 =>
  some ((some σ.t130.length, IntKind.wrap .i64 ((r7.1.length : Int) - r12.2), 0), (((σ.add130 (p1, [], 0, ())).set130 σ.t130.length (p1, r12.1, 0, ())).set130 σ.t130.length (p1, r12.1, r12.2, ())))

theorem f115_ok {p0 : Option Nat} {p1 : Int} {σ : St} {p : ((Option Nat) × Int × Int) × St} (h : f115 p0 p1 σ = some p) : Spec Try.prog 115 [.kv (.ptr 128) p0, .kv .i p1] (tabs σ) (.tup [⟨(.ptr 130), p.1.1⟩, ⟨.i, p.1.2.1⟩, ⟨.i, p.1.2.2⟩]) (tabs p.2) := by
  refine Spec.intro Try.func115 (by kernel_rfl) rfl (by kernel_rfl) (fun a w G0 Ls hE hH hN => ?_)
  have hle : G0.le G0 := Gh.le_refl G0
  unfold f115 at h
  refine wp_seq_k (fun K hK1 => ?_)
  refine wp_region_from ?_
  refine segO 3 [] [(4, .val (.pointer none)), (5, .kv .i 0), (6, .kv .i 0)] (Os := []) trivial hE hH (by kernel_rfl) (fun a hE => ?_)
  refine wpFrom_end (by kernel_rfl) ?_
  refine Exit.then_normal (hK1 _ _ ?_)
  refine wp_seq_k (fun K hK2 => ?_)
  refine wp_region_from ?_
  refine segO 1 [] [(10, .kv .i p1)] (Os := []) trivial hE hH (by kernel_rfl) (fun a hE => ?_)
  refine stepBuildV (d := (some 11)) (.agg #[.int .i64 p1, .slice none 0 0, .int .i64 0]) hE (by kernel_rfl) (by kernel_rfl) (fun a hE => ?_)
  refine stepNewX (t := 130) (fs := fs130) (x := (p1, [], 0, ())) (e := 130) (d := (some 12)) (.agg #[.int .i64 p1, .slice none 0 0, .int .i64 0]) hE hH hN (by kernel_rfl) (by kernel_rfl) (fun w2 G2 hG hn => ⟨[_], _, rfl, rfl, ⟨[_], _, rfl, (by rw [hn 1]; exact ⟨_, rfl, ownV_nil _ _ _ _ _ _⟩), ⟨[_], _, rfl, rfl, rfl⟩⟩⟩) (addT130 (s := σ) (x := (p1, [], 0, ()))) (fun a w G hl1 hE hH => ?_)
  have hle := Gh.le_trans hle hl1
  refine segO 1 [] [(7, .fldA 130 σ.t130.length 0)] (Os := []) trivial hE hH (by kernel_rfl) (fun a hE => ?_)
  refine wpFrom_end (by kernel_rfl) ?_
  refine Exit.then_normal (hK2 _ _ ?_)
  refine wp_seq_k (fun K hK3 => ?_)
  obtain ⟨i4, hi4, h⟩ := bs h
  obtain ⟨o5, ho5, h⟩ := bs h
  obtain ⟨r6, hr6, h⟩ := bs h
  obtain ⟨r7, hr7, h⟩ := bs h
  refine region_par 12 [6, 7] [(0, 1), (0, 1), (0, 1), (0, 1), (0, 0), (0, 0), (0, 0), (1, 1), (2, 2), (2, 2), (2, 2), (2, 2)] [.kv (.ptr 128) p0, .kv (.ptr 128) (some i4), .fldA 128 i4 0, .kv (.ptr 105) o5.1, .kv (.ptr 128) p0, .fldA 130 σ.t130.length 0, .kv .str r6, .tup [⟨.str, r7.1⟩, ⟨.i, r7.2⟩], .tup [⟨.str, r7.1⟩, ⟨.i, r7.2⟩], .kv .str r7.1, .kv .i r7.2, .kv .str r7.1] (fun _ => tabs (σ.add130 (p1, [], 0, ()))) (fun _ => Ls) (by kernel_rfl) (by kernel_rfl) hE hH
          ⟨⟨⟨⟨⟨⟨⟨⟨⟨⟨⟨⟨trivial,
          anyk (fun k => obR [] (Os := []) trivial (by kernel_rfl) (by kernel_rfl))⟩,
          anyk (fun k => obR [.pt i4] (Os := [_]) ⟨hi4, trivial⟩ (by kernel_rfl) (by kernel_rfl))⟩,
          anyk (fun k => obR [] (Os := []) trivial (by kernel_rfl) (by kernel_rfl))⟩,
          anyk (fun k => obR [.ob fs128 o5] (Os := [_]) ⟨(ob128 (s := (σ.add130 (p1, [], 0, ()))) ho5), trivial⟩ (by kernel_rfl) (by kernel_rfl))⟩,
          anyk (fun k => obR [] (Os := []) trivial (by kernel_rfl) (by kernel_rfl))⟩,
          anyk (fun k => obR [] (Os := []) trivial (by kernel_rfl) (by kernel_rfl))⟩,
          one (obC (k := 0) (d := (some 20)) (f98_ok hr6) rfl hN (by kernel_rfl) (by kernel_rfl) rfl trivial)⟩,
          one (obC (k := 1) (d := (some 21)) (f28_ok hr7) rfl hN (by kernel_rfl) (by kernel_rfl) rfl trivial)⟩,
          anyk (fun k => obR [] (Os := []) trivial (by kernel_rfl) (by kernel_rfl))⟩,
          anyk (fun k => obR [] (Os := []) trivial (by kernel_rfl) (by kernel_rfl))⟩,
          anyk (fun k => obR [] (Os := []) trivial (by kernel_rfl) (by kernel_rfl))⟩,
          anyk (fun k => obR [] (Os := []) trivial (by kernel_rfl) (by kernel_rfl))⟩ (fun a w G hl2 hE hH => ?_)
  have hle := Gh.le_trans hle hl2
  refine segO 1 [] [(9, .kv .i r7.2)] (Os := []) trivial hE hH (by kernel_rfl) (fun a hE => ?_)
  refine wpFrom_end (by kernel_rfl) ?_
  refine Exit.then_normal (hK3 _ _ ?_)
  refine wp_seq_k (fun K hK8 => ?_)
  refine wp_seq_k (fun K hK9 => ?_)
  refine wp_region_from ?_
  refine segO 2 [] [(25, .kv .bool (r7.2 != 0))] (Os := []) trivial hE hH (by kernel_rfl) (fun a hE => ?_)
  refine wpFrom_end (by kernel_rfl) ?_
  refine Exit.then_normal (hK9 _ _ ?_)
  refine condE (b := r7.2 != 0) hE (by kernel_rfl) (fun hc => ?_) (fun hc => ?_)
  · replace h := ifT hc h
    refine wp_seq_k (fun K hK10 => ?_)
    refine wp_region_from ?_
    refine segO 4 [] [(4, .val (.pointer none)), (5, .kv .i 0), (6, .kv .i r7.2)] (Os := []) trivial hE hH (by kernel_rfl) (fun a hE => ?_)
    refine wpFrom_end (by kernel_rfl) ?_
    refine Exit.then_normal (hK10 _ _ ?_)
    refine wp_ret ?_
    refine Exit.then_ret ?_
    cases h
    exact ret3 rfl hE hle hH (by kernel_rfl)
  · replace h := ifF hc h
    refine wp_skip ?_
    refine Exit.then_normal (hK8 _ _ ?_)
    refine wp_seq_k (fun K hK11 => ?_)
    refine wp_region_from ?_
    refine segO 4 [] [(28, .fldA 130 σ.t130.length 0), (29, .fldA 130 σ.t130.length 0), (30, .kv .str r7.1), (31, .kv .i p1)] (Os := []) trivial hE hH (by kernel_rfl) (fun a hE => ?_)
    obtain ⟨r12, hr12, h⟩ := bs h
    refine stepCallF (f := 49) (As := [.kv .str r7.1, .kv .i p1]) (R := fun v => .val (.tuple #[v, .int .i64 r12.2])) (F := fun v => LS.tk v 9 16 .str r12.1 :: Ls) (T' := tabs (σ.add130 (p1, [], 0, ()))) (d := (some 32)) (by kernel_rfl) (fun args hA => f49_o hr12 hH hN hA) hE (by kernel_rfl) (by kernel_rfl) (fun v13 a w G hl3 hE hH => ?_)
    have hle := Gh.le_trans hle hl3
    refine segO 1 [] [(27, .val (.tuple #[v13, .int .i64 r12.2]))] (Os := []) trivial hE hH (by kernel_rfl) (fun a hE => ?_)
    refine stepExtV (v := v13) (e := .tl v13 .str r12.1) (d := (some 33)) hE (by kernel_rfl) (by kernel_rfl) hH.tl0 (fun a hE => ?_)
    refine stepExtV (v := .int .i64 r12.2) (e := .kv .i r12.2) (d := (some 34)) hE (by kernel_rfl) (by kernel_rfl) mkI (fun a hE => ?_)
    refine segO 2 [] [(36, .fldA 130 σ.t130.length 1)] (Os := []) trivial hE hH (by kernel_rfl) (fun a hE => ?_)
    refine stepPutN (t := 130) (j := σ.t130.length) (off := 1) (fs := fs130) (x := (p1, [], 0, ())) (x' := (p1, r12.1, 0, ())) (g := 1) (e := 9) (bt := 16) (q := ⟨.str, []⟩) (ys := r12.1) (v := v13) (L2 := Ls) hE hH hN (by kernel_rfl) (ob130 (s := (σ.add130 (p1, [], 0, ()))) (got130 (s := σ) (x := (p1, [], 0, ())))) (by kernel_rfl) (by kernel_rfl) (upd130 (s := (σ.add130 (p1, [], 0, ())))) (fun w G hl4 hE hH => ?_)
    have hle := Gh.le_trans hle hl4
    refine segO 2 [] [(38, .fldA 130 σ.t130.length 2)] (Os := []) trivial hE hH (by kernel_rfl) (fun a hE => ?_)
    refine stepStO (t := 130) (j := σ.t130.length) (off := 2) .i r12.2 (x' := (p1, r12.1, r12.2, ())) hE hH (by kernel_rfl) (ob130 (s := ((σ.add130 (p1, [], 0, ())).set130 σ.t130.length (p1, r12.1, 0, ()))) (set130_get (s := (σ.add130 (p1, [], 0, ()))) (x := (p1, r12.1, 0, ())) (got130 (s := σ) (x := (p1, [], 0, ()))))) (by kernel_rfl) (upd130 (s := ((σ.add130 (p1, [], 0, ())).set130 σ.t130.length (p1, r12.1, 0, ())))) (fun w G hl5 hE hH => ?_)
    have hle := Gh.le_trans hle hl5
    refine wpFrom_end (by kernel_rfl) ?_
    refine Exit.then_normal (hK11 _ _ ?_)
    refine wp_seq_k (fun K hK14 => ?_)
    refine region_par 9 [] [(0, 0), (0, 0), (0, 0), (0, 0), (0, 0), (0, 0), (0, 0), (0, 0), (0, 0)] [.fldA 130 σ.t130.length 0, .kv .str r7.1, .kv .i (r7.1.length : Int), .fldA 130 σ.t130.length 0, .fldA 130 σ.t130.length 0, .fldA 130 σ.t130.length 2, .kv .i r12.2, .kv .i (IntKind.wrap .i64 ((r7.1.length : Int) - r12.2)), .fldA 130 σ.t130.length 0] (fun _ => tabs (((σ.add130 (p1, [], 0, ())).set130 σ.t130.length (p1, r12.1, 0, ())).set130 σ.t130.length (p1, r12.1, r12.2, ()))) (fun _ => Ls) (by kernel_rfl) (by kernel_rfl) hE hH
            ⟨⟨⟨⟨⟨⟨⟨⟨⟨trivial,
            anyk (fun k => obR [] (Os := []) trivial (by kernel_rfl) (by kernel_rfl))⟩,
            anyk (fun k => obR [] (Os := []) trivial (by kernel_rfl) (by kernel_rfl))⟩,
            anyk (fun k => obR [] (Os := []) trivial (by kernel_rfl) (by kernel_rfl))⟩,
            anyk (fun k => obR [] (Os := []) trivial (by kernel_rfl) (by kernel_rfl))⟩,
            anyk (fun k => obR [] (Os := []) trivial (by kernel_rfl) (by kernel_rfl))⟩,
            anyk (fun k => obR [] (Os := []) trivial (by kernel_rfl) (by kernel_rfl))⟩,
            anyk (fun k => obR [.ob fs130 (p1, r12.1, r12.2, ())] (Os := [_]) ⟨(ob130 (s := (((σ.add130 (p1, [], 0, ())).set130 σ.t130.length (p1, r12.1, 0, ())).set130 σ.t130.length (p1, r12.1, r12.2, ()))) (set130_get (s := ((σ.add130 (p1, [], 0, ())).set130 σ.t130.length (p1, r12.1, 0, ()))) (x := (p1, r12.1, r12.2, ())) (set130_get (s := (σ.add130 (p1, [], 0, ()))) (x := (p1, r12.1, 0, ())) (got130 (s := σ) (x := (p1, [], 0, ())))))), trivial⟩ (by kernel_rfl) (by kernel_rfl))⟩,
            anyk (fun k => obR [] (Os := []) trivial (by kernel_rfl) (by kernel_rfl))⟩,
            anyk (fun k => obR [] (Os := []) trivial (by kernel_rfl) (by kernel_rfl))⟩ (fun a w G hl6 hE hH => ?_)
    have hle := Gh.le_trans hle hl6
    refine segO 2 [] [(5, .kv .i (IntKind.wrap .i64 ((r7.1.length : Int) - r12.2))), (6, .kv .i 0)] (Os := []) trivial hE hH (by kernel_rfl) (fun a hE => ?_)
    refine wpFrom_end (by kernel_rfl) ?_
    refine Exit.then_normal (hK14 _ _ ?_)
    refine wp_ret ?_
    cases h
    exact ret3 rfl hE hle hH (by kernel_rfl)

def f96_l0 (p0 : Option Nat) (r3 : List Int) (x7 : Int) (x8 : Int) (x9 : Int) (σ10 : St) : Option (Sum (Int × Int × Int × St) (Int × St)) :=
  if (decide (x9 < (r3.length : Int))) = true then
  (ix r3 x9) >>= fun x19 =>
  if (decide (x9 > 0)) = true then
  if (decide (x7 > 0)) = true then
  some (.inl (x7, x8, x9, σ10))
  else
  f55 p0 σ10 >>= fun r22 =>
  if (x19 != r22) = true then
  some (.inl (x7, x8, x9, σ10))
  else
  f115 p0 x19 σ10 >>= fun r24 =>
  if (r24.1.2.2 != 0) = true then
  some (.inr (r24.1.2.2, r24.2))
  else
  p0 >>= fun i29 =>
  (r24.2.t128[i29]?) >>= fun o30 =>
  if (o30.2.2.2.1.length + 1) * 8 ≤ 140737488355328 then
  f96_l0 p0 r3 r24.1.2.1 (IntKind.wrap .i64 (x9 + 1)) (IntKind.wrap .i64 (x9 + 1)) (r24.2.set128 i29 (o30.1, o30.2.1, o30.2.2.1, o30.2.2.2.1 ++ [r24.1.1], o30.2.2.2.2.1, ()))
  else none
  else
  f115 p0 x19 σ10 >>= fun r35 =>
  if (r35.1.2.2 != 0) = true then
  some (.inr (r35.1.2.2, r35.2))
  else
  p0 >>= fun i40 =>
  (r35.2.t128[i40]?) >>= fun o41 =>
  if (o41.2.2.2.1.length + 1) * 8 ≤ 140737488355328 then
  f96_l0 p0 r3 r35.1.2.1 (IntKind.wrap .i64 (x9 + 1)) (IntKind.wrap .i64 (x9 + 1)) (r35.2.set128 i40 (o41.1, o41.2.1, o41.2.2.1, o41.2.2.2.1 ++ [r35.1.1], o41.2.2.2.2.1, ()))
  else none
  else
  some (.inl (x7, x8, x9, σ10))
  partial_fixpoint

def f96_l1 (p0 : Option Nat) (r3 : List Int) (z45 : Int × Int × Int × St) (o49 : denFs fs128) (x52 : Int) (σ53 : St) : Option (Sum (Int × St) (Int × St)) :=
  if (decide (x52 ≥ z45.2.1)) = true then
  (ix r3 x52) >>= fun x62 =>
  f98 p0 (some σ53.t130.length) (σ53.add130 (x62, [], 0, ())) >>= fun r63 =>
  f37 o49.1 r63 (σ53.add130 (x62, [], 0, ())) >>= fun r64 =>
  if (r64.1 != 0) = true then
  some (.inr (r64.1, r64.2))
  else
  f96_l1 p0 r3 z45 o49 (IntKind.wrap .i64 (x52 - 1)) r64.2
  else
  some (.inl (x52, σ53))
  partial_fixpoint

def f96 (p0 : Option Nat) (σ : St) : Option (Int × St) :=
  f114 p0 σ >>= fun r3 =>
  f96_l0 p0 r3 0 0 0 σ >>= fun rr46 => (match rr46 with
  | .inr yy => some yy
  | .inl z45 =>
  p0 >>= fun i48 =>
  (z45.2.2.2.t128[i48]?) >>= fun o49 =>
  f96_l1 p0 r3 z45 o49 (IntKind.wrap .i64 ((r3.length : Int) - 1)) z45.2.2.2 >>= fun rr68 => (match rr68 with
  | .inr yy => some yy
  | .inl z67 =>
  if (z45.2.1 == 0) = true then
  some (0, z67.2)
  else
  p0 >>= fun i73 =>
  (z67.2.t128[i73]?) >>= fun o74 =>
  (ix o74.2.2.2.1 (IntKind.wrap .i64 (z45.2.1 - 1))) >>= fun x75 =>
  if (decide (z45.1 > 0)) = true then
  f98 p0 x75 z67.2 >>= fun r79 =>
  x75 >>= fun i80 =>
  (z67.2.t130[i80]?) >>= fun o81 =>
  f35 o74.1 r79 o81.2.2.1 z67.2 >>= fun r82 =>
  if (r82.1 != 0) = true then
  some (r82.1, r82.2)
  else
  f61 p0 r82.2 >>= fun r86 =>
  some (r86.1, r86.2)
  else
  f61 p0 z67.2 >>= fun r88 =>
  some (r88.1, r88.2)))

theorem f96_ok {p0 : Option Nat} {σ : St} {p : Int × St} (h : f96 p0 σ = some p) : Spec Try.prog 96 [.kv (.ptr 128) p0] (tabs σ) (.kv .i p.1) (tabs p.2) := by
  refine Spec.intro Try.func96 (by kernel_rfl) rfl (by kernel_rfl) (fun a w G0 Ls hE hH hN => ?_)
  have hle : G0.le G0 := Gh.le_refl G0
  unfold f96 at h
  refine wp_seq_k (fun K hK1 => ?_)
  refine wp_region_from ?_
  refine segO 1 [] [(2, .kv .i 0)] (Os := []) trivial hE hH (by kernel_rfl) (fun a hE => ?_)
  refine wpFrom_end (by kernel_rfl) ?_
  refine Exit.then_normal (hK1 _ _ ?_)
  refine wp_seq_k (fun K hK2 => ?_)
  refine wp_region_from ?_
  refine segO 1 [] [(16, .kv (.ptr 128) p0)] (Os := []) trivial hE hH (by kernel_rfl) (fun a hE => ?_)
  obtain ⟨r3, hr3, h⟩ := bs h
  refine stepCall (d := (some 17)) (f114_ok hr3) hE hH hN (by kernel_rfl) (by kernel_rfl) trivial (fun a w G hl1 hE hH => ?_)
  have hle := Gh.le_trans hle hl1
  refine segO 1 [] [(3, .kv (.list .i) r3)] (Os := []) trivial hE hH (by kernel_rfl) (fun a hE => ?_)
  refine wpFrom_end (by kernel_rfl) ?_
  refine Exit.then_normal (hK2 _ _ ?_)
  refine wp_seq_k (fun K hK4 => ?_)
  refine wp_region_from ?_
  refine segO 2 [] [(4, .kv .i 0), (5, .kv .i 0)] (Os := []) trivial hE hH (by kernel_rfl) (fun a hE => ?_)
  refine wpFrom_end (by kernel_rfl) ?_
  refine Exit.then_normal (hK4 _ _ ?_)
  refine wp_seq_k (fun K hK5 => ?_)
  refine wp_seq_k (fun K hK6 => ?_)
  refine wp_region_from ?_
  refine segO 3 [] [(18, .kv (.list .i) r3), (19, .kv .i (r3.length : Int)), (20, .kv .i 0)] (Os := []) trivial hE hH (by kernel_rfl) (fun a hE => ?_)
  refine wpFrom_end (by kernel_rfl) ?_
  refine Exit.then_normal (hK6 _ _ ?_)
  refine wp_block ?_
  obtain ⟨rr46, hrr46, h⟩ := bs h
  refine loop_intro (fun Q11 c hQ hc => ?_)
  have key : ∀ (x7 : Int) (x8 : Int) (x9 : Int) (σ10 : St) (rr : Sum (Int × Int × Int × St) (Int × St)), f96_l0 p0 r3 x7 x8 x9 σ10 = some rr → ∀ (a : Act) (w : World) (G : Gh), G0.le G → EnvR G 116 a [(0, .kv (.ptr 128) p0), (2, .kv .i 0), (3, .kv (.list .i) r3), (4, .kv .i x7), (5, .kv .i x8), (18, .kv (.list .i) r3), (19, .kv .i (r3.length : Int)), (20, .kv .i x9)] → Holds w G (tabs σ10) (Ls) → (∀ z45 : Int × Int × Int × St, rr = .inl z45 → ∀ (a : Act) (w : World) (G : Gh), G0.le G → EnvR G 116 a [(0, .kv (.ptr 128) p0), (2, .kv .i 0), (3, .kv (.list .i) r3), (4, .kv .i z45.1), (5, .kv .i z45.2.1), (18, .kv (.list .i) r3), (19, .kv .i (r3.length : Int)), (20, .kv .i z45.2.2.1)] → Holds w G (tabs z45.2.2.2) (Ls) → Q11 (.exit 0) a w) → (∀ yy : Int × St, rr = .inr yy → ∀ (a : Act) (w : World), PostB Try.prog Try.f96 G0 (.kv .i yy.1) (tabs yy.2) Ls .ret a w → Q11 .ret a w) → Rnd Try.prog c Q11 a w := by
    refine f96_l0.partial_correctness p0 r3 _ ?_
    intro self ih14 x7 x8 x9 σ10 rr h a w G  hle hE hH hx12 hret13
    refine rnd_step' hc ?_
    refine wp_seq_k (fun K hK15 => ?_)
    refine wp_region_from ?_
    refine segO 1 [] [(21, .kv .bool (decide (x9 < (r3.length : Int))))] (Os := []) trivial hE hH (by kernel_rfl) (fun a hE => ?_)
    refine wpFrom_end (by kernel_rfl) ?_
    refine Exit.then_normal (hK15 _ _ ?_)
    refine wp_seq_k (fun K hK16 => ?_)
    refine condE (b := decide (x9 < (r3.length : Int))) hE (by kernel_rfl) (fun hc => ?_) (fun hc => ?_)
    · replace h := ifT hc h
      refine wp_skip ?_
      refine Exit.then_normal (hK16 _ _ ?_)
      refine wp_seq_k (fun K hK17 => ?_)
      refine wp_block ?_
      refine wp_seq_k (fun K hK18 => ?_)
      refine wp_region_from ?_
      obtain ⟨x19, hx19, h⟩ := bs h
      refine segO 5 [.ix .i x19] [(6, .kv .i x9), (7, .kv .i x19)] (Os := [_]) ⟨(IxAt.of (k := .i) hx19), trivial⟩ hE hH (by kernel_rfl) (fun a hE => ?_)
      refine wpFrom_end (by kernel_rfl) ?_
      refine Exit.then_normal (hK18 _ _ ?_)
      refine wp_seq_k (fun K hK20 => ?_)
      refine wp_seq_k (fun K hK21 => ?_)
      refine wp_region_from ?_
      refine segO 3 [] [(27, .kv .bool (decide (x9 > 0)))] (Os := []) trivial hE hH (by kernel_rfl) (fun a hE => ?_)
      by_cases hc : (decide (x9 > 0)) = true
      · replace h := ifT hc h
        have hE := hE.setB 27 (by kernel_rfl) hc
        refine segO 3 [] [(30, .kv .bool (decide (x7 > 0)))] (Os := []) trivial hE hH (by kernel_rfl) (fun a hE => ?_)
        by_cases hc : (decide (x7 > 0)) = true
        · replace h := ifT hc h
          have hE := hE.setB 30 (by kernel_rfl) hc
          refine segO 6 [] [(36, .kv .bool true)] (Os := []) trivial hE hH (by kernel_rfl) (fun a hE => ?_)
          refine wpFrom_end (by kernel_rfl) ?_
          refine Exit.then_normal (hK21 _ _ ?_)
          refine condT hE (by kernel_rfl) rfl ?_
          refine wp_exit ?_
          refine Exit.then_exit ?_
          refine Exit.in_ne (by decide) ?_
          refine Exit.then_exit ?_
          refine Exit.then_exit ?_
          cases h
          exact hx12 _ rfl _ _ _  hle (hE.subC (by kernel_rfl)) hH
        · replace h := ifN hc h
          have hE := hE.setB 30 (by kernel_rfl) (bf hc)
          refine segO 2 [] [(31, .kv .i x19), (32, .kv (.ptr 128) p0)] (Os := []) trivial hE hH (by kernel_rfl) (fun a hE => ?_)
          obtain ⟨r22, hr22, h⟩ := bs h
          refine stepCall (d := (some 33)) (f55_ok hr22) hE hH hN (by kernel_rfl) (by kernel_rfl) trivial (fun a w G hl2 hE hH => ?_)
          have hle := Gh.le_trans hle hl2
          refine segO 3 [] [(36, .kv .bool (x19 != r22))] (Os := []) trivial hE hH (by kernel_rfl) (fun a hE => ?_)
          refine wpFrom_end (by kernel_rfl) ?_
          refine Exit.then_normal (hK21 _ _ ?_)
          refine condE (b := x19 != r22) hE (by kernel_rfl) (fun hc => ?_) (fun hc => ?_)
          · replace h := ifT hc h
            refine wp_exit ?_
            refine Exit.then_exit ?_
            refine Exit.in_ne (by decide) ?_
            refine Exit.then_exit ?_
            refine Exit.then_exit ?_
            cases h
            exact hx12 _ rfl _ _ _  hle (hE.subC (by kernel_rfl)) hH
          · replace h := ifF hc h
            refine wp_skip ?_
            refine Exit.then_normal (hK20 _ _ ?_)
            refine wp_seq_k (fun K hK23 => ?_)
            refine wp_region_from ?_
            refine segO 2 [] [(38, .kv (.ptr 128) p0), (39, .kv .i x19)] (Os := []) trivial hE hH (by kernel_rfl) (fun a hE => ?_)
            obtain ⟨r24, hr24, h⟩ := bs h
            refine stepCall (d := (some 40)) (f115_ok hr24) hE hH hN (by kernel_rfl) (by kernel_rfl) trivial (fun a w G hl3 hE hH => ?_)
            have hle := Gh.le_trans hle hl3
            refine segO 7 [] [(8, .kv (.ptr 130) r24.1.1), (9, .kv .i r24.1.2.1), (10, .kv .i r24.1.2.2)] (Os := []) trivial hE hH (by kernel_rfl) (fun a hE => ?_)
            refine wpFrom_end (by kernel_rfl) ?_
            refine Exit.then_normal (hK23 _ _ ?_)
            refine wp_seq_k (fun K hK25 => ?_)
            refine wp_seq_k (fun K hK26 => ?_)
            refine wp_region_from ?_
            refine segO 2 [] [(45, .kv .bool (r24.1.2.2 != 0))] (Os := []) trivial hE hH (by kernel_rfl) (fun a hE => ?_)
            refine wpFrom_end (by kernel_rfl) ?_
            refine Exit.then_normal (hK26 _ _ ?_)
            refine condE (b := r24.1.2.2 != 0) hE (by kernel_rfl) (fun hc => ?_) (fun hc => ?_)
            · replace h := ifT hc h
              refine wp_seq_k (fun K hK27 => ?_)
              refine wp_region_from ?_
              refine segO 2 [] [(2, .kv .i r24.1.2.2)] (Os := []) trivial hE hH (by kernel_rfl) (fun a hE => ?_)
              refine wpFrom_end (by kernel_rfl) ?_
              refine Exit.then_normal (hK27 _ _ ?_)
              refine wp_ret ?_
              refine Exit.then_ret ?_
              refine Exit.in_ret ?_
              refine Exit.then_ret ?_
              refine Exit.then_ret ?_
              cases h
              exact hret13 _ rfl _ _ (ret1 rfl hE hle hH (by kernel_rfl))
            · replace h := ifF hc h
              refine wp_skip ?_
              refine Exit.then_normal (hK25 _ _ ?_)
              refine wp_seq_k (fun K hK28 => ?_)
              refine wp_region_from ?_
              obtain ⟨i29, hi29, h⟩ := bs h
              refine segO 4 [.pt i29] [(47, .kv (.ptr 128) p0), (50, .fldA 128 i29 3)] (Os := [_]) ⟨hi29, trivial⟩ hE hH (by kernel_rfl) (fun a hE => ?_)
              obtain ⟨o30, ho30, h⟩ := bs h
              refine stepTake (t := 128) (j := i29) (off := 3) (fs := fs128) (x := o30) (g := 3) (e := 131) (bt := 8) (q := ⟨(.ptr 130), o30.2.2.2.1⟩) (d := (some 51)) hE hH hN (by kernel_rfl) (ob128 (s := r24.2) ho30) (by kernel_rfl) (by kernel_rfl) (fun v31 a w G hl4 hE hH => ?_)
              have hle := Gh.le_trans hle hl4
              refine segO 1 [] [(52, .kv (.ptr 130) r24.1.1)] (Os := []) trivial hE hH (by kernel_rfl) (fun a hE => ?_)
              refine stepBuildS (d := (some 53)) (.ptr 130) [r24.1.1] hE hH (by kernel_rfl) (by kernel_rfl) (fun a w G hl5 hE hH => ?_)
              have hle := Gh.le_trans hle hl5
              obtain ⟨q32, h⟩ := gd h
              refine stepApp (e := 0) (bt := 8) (ys := [r24.1.1]) (e' := 131) (d := (some 54)) 0 hE hH (by kernel_rfl) rfl (by kernel_rfl) q32 (fun v33 a w G hl6 hE hH => ?_)
              have hle := Gh.le_trans hle hl6
              refine segO 2 [.pt i29] [(56, .fldA 128 i29 3)] (Os := [_]) ⟨hi29, trivial⟩ hE hH (by kernel_rfl) (fun a hE => ?_)
              refine stepPutH (t := 128) (j := i29) (off := 3) (fs := fs128) (x := o30) (x' := (o30.1, o30.2.1, o30.2.2.1, o30.2.2.2.1 ++ [r24.1.1], o30.2.2.2.2.1, ())) (g := 3) (e := 131) (bt := 8) (q := ⟨(.ptr 130), o30.2.2.2.1⟩) (ys := (o30.2.2.2.1 ++ [r24.1.1])) (v := v33) (L2 := Ls) hE hH hN (by kernel_rfl) (ob128 (s := r24.2) ho30) (by kernel_rfl) (by kernel_rfl) (upd128 (s := r24.2)) (fun w G hl7 hE hH => ?_)
              have hle := Gh.le_trans hle hl7
              refine wpFrom_end (by kernel_rfl) ?_
              refine Exit.then_normal (hK28 _ _ ?_)
              refine wp_region_from ?_
              refine segO 5 [] [(4, .kv .i r24.1.2.1), (5, .kv .i (IntKind.wrap .i64 (x9 + 1)))] (Os := []) trivial hE hH (by kernel_rfl) (fun a hE => ?_)
              refine wpFrom_end (by kernel_rfl) ?_
              refine Exit.in_normal ?_
              refine Exit.then_normal (hK17 _ _ ?_)
              refine wp_region_from ?_
              refine segO 2 [] [(20, .kv .i (IntKind.wrap .i64 (x9 + 1)))] (Os := []) trivial hE hH (by kernel_rfl) (fun a hE => ?_)
              refine wpFrom_end (by kernel_rfl) ?_
              refine Exit.then_normal ?_
              exact ih14 _ _ _ _ _ h _ _ _  hle (hE.subC (by kernel_rfl)) hH hx12 hret13
      · replace h := ifN hc h
        have hE := hE.setB 27 (by kernel_rfl) (bf hc)
        refine segO 7 [] [(30, .undef)] (Os := []) trivial hE hH (by kernel_rfl) (fun a hE => ?_)
        refine stepSkip (d := (some 35)) hE (by kernel_rfl) (by kernel_rfl) (fun a hE => ?_)
        refine segO 1 [] [(36, .kv .bool false)] (Os := []) trivial hE hH (by kernel_rfl) (fun a hE => ?_)
        refine wpFrom_end (by kernel_rfl) ?_
        refine Exit.then_normal (hK21 _ _ ?_)
        refine condF hE (by kernel_rfl) rfl ?_
        refine wp_skip ?_
        refine Exit.then_normal (hK20 _ _ ?_)
        refine wp_seq_k (fun K hK34 => ?_)
        refine wp_region_from ?_
        refine segO 2 [] [(38, .kv (.ptr 128) p0), (39, .kv .i x19)] (Os := []) trivial hE hH (by kernel_rfl) (fun a hE => ?_)
        obtain ⟨r35, hr35, h⟩ := bs h
        refine stepCall (d := (some 40)) (f115_ok hr35) hE hH hN (by kernel_rfl) (by kernel_rfl) trivial (fun a w G hl8 hE hH => ?_)
        have hle := Gh.le_trans hle hl8
        refine segO 7 [] [(8, .kv (.ptr 130) r35.1.1), (9, .kv .i r35.1.2.1), (10, .kv .i r35.1.2.2)] (Os := []) trivial hE hH (by kernel_rfl) (fun a hE => ?_)
        refine wpFrom_end (by kernel_rfl) ?_
        refine Exit.then_normal (hK34 _ _ ?_)
        refine wp_seq_k (fun K hK36 => ?_)
        refine wp_seq_k (fun K hK37 => ?_)
        refine wp_region_from ?_
        refine segO 2 [] [(45, .kv .bool (r35.1.2.2 != 0))] (Os := []) trivial hE hH (by kernel_rfl) (fun a hE => ?_)
        refine wpFrom_end (by kernel_rfl) ?_
        refine Exit.then_normal (hK37 _ _ ?_)
        refine condE (b := r35.1.2.2 != 0) hE (by kernel_rfl) (fun hc => ?_) (fun hc => ?_)
        · replace h := ifT hc h
          refine wp_seq_k (fun K hK38 => ?_)
          refine wp_region_from ?_
          refine segO 2 [] [(2, .kv .i r35.1.2.2)] (Os := []) trivial hE hH (by kernel_rfl) (fun a hE => ?_)
          refine wpFrom_end (by kernel_rfl) ?_
          refine Exit.then_normal (hK38 _ _ ?_)
          refine wp_ret ?_
          refine Exit.then_ret ?_
          refine Exit.in_ret ?_
          refine Exit.then_ret ?_
          refine Exit.then_ret ?_
          cases h
          exact hret13 _ rfl _ _ (ret1 rfl hE hle hH (by kernel_rfl))
        · replace h := ifF hc h
          refine wp_skip ?_
          refine Exit.then_normal (hK36 _ _ ?_)
          refine wp_seq_k (fun K hK39 => ?_)
          refine wp_region_from ?_
          obtain ⟨i40, hi40, h⟩ := bs h
          refine segO 4 [.pt i40] [(47, .kv (.ptr 128) p0), (50, .fldA 128 i40 3)] (Os := [_]) ⟨hi40, trivial⟩ hE hH (by kernel_rfl) (fun a hE => ?_)
          obtain ⟨o41, ho41, h⟩ := bs h
          refine stepTake (t := 128) (j := i40) (off := 3) (fs := fs128) (x := o41) (g := 3) (e := 131) (bt := 8) (q := ⟨(.ptr 130), o41.2.2.2.1⟩) (d := (some 51)) hE hH hN (by kernel_rfl) (ob128 (s := r35.2) ho41) (by kernel_rfl) (by kernel_rfl) (fun v42 a w G hl9 hE hH => ?_)
          have hle := Gh.le_trans hle hl9
          refine segO 1 [] [(52, .kv (.ptr 130) r35.1.1)] (Os := []) trivial hE hH (by kernel_rfl) (fun a hE => ?_)
          refine stepBuildS (d := (some 53)) (.ptr 130) [r35.1.1] hE hH (by kernel_rfl) (by kernel_rfl) (fun a w G hl10 hE hH => ?_)
          have hle := Gh.le_trans hle hl10
          obtain ⟨q43, h⟩ := gd h
          refine stepApp (e := 0) (bt := 8) (ys := [r35.1.1]) (e' := 131) (d := (some 54)) 0 hE hH (by kernel_rfl) rfl (by kernel_rfl) q43 (fun v44 a w G hl11 hE hH => ?_)
          have hle := Gh.le_trans hle hl11
          refine segO 2 [.pt i40] [(56, .fldA 128 i40 3)] (Os := [_]) ⟨hi40, trivial⟩ hE hH (by kernel_rfl) (fun a hE => ?_)
          refine stepPutH (t := 128) (j := i40) (off := 3) (fs := fs128) (x := o41) (x' := (o41.1, o41.2.1, o41.2.2.1, o41.2.2.2.1 ++ [r35.1.1], o41.2.2.2.2.1, ())) (g := 3) (e := 131) (bt := 8) (q := ⟨(.ptr 130), o41.2.2.2.1⟩) (ys := (o41.2.2.2.1 ++ [r35.1.1])) (v := v44) (L2 := Ls) hE hH hN (by kernel_rfl) (ob128 (s := r35.2) ho41) (by kernel_rfl) (by kernel_rfl) (upd128 (s := r35.2)) (fun w G hl12 hE hH => ?_)
          have hle := Gh.le_trans hle hl12
          refine wpFrom_end (by kernel_rfl) ?_
          refine Exit.then_normal (hK39 _ _ ?_)
          refine wp_region_from ?_
          refine segO 5 [] [(4, .kv .i r35.1.2.1), (5, .kv .i (IntKind.wrap .i64 (x9 + 1)))] (Os := []) trivial hE hH (by kernel_rfl) (fun a hE => ?_)
          refine wpFrom_end (by kernel_rfl) ?_
          refine Exit.in_normal ?_
          refine Exit.then_normal (hK17 _ _ ?_)
          refine wp_region_from ?_
          refine segO 2 [] [(20, .kv .i (IntKind.wrap .i64 (x9 + 1)))] (Os := []) trivial hE hH (by kernel_rfl) (fun a hE => ?_)
          refine wpFrom_end (by kernel_rfl) ?_
          refine Exit.then_normal ?_
          exact ih14 _ _ _ _ _ h _ _ _  hle (hE.subC (by kernel_rfl)) hH hx12 hret13
    · replace h := ifF hc h
      refine wp_exit ?_
      refine Exit.then_exit ?_
      refine Exit.then_exit ?_
      cases h
      exact hx12 _ rfl _ _ _  hle (hE.subC (by kernel_rfl)) hH
  refine key _ _ _ _ _ hrr46 _ _ _  hle (hE.subC (by kernel_rfl)) hH ?_ ?_
  · intro z45 hz a w G  hle hE hH
    subst hz
    rw [hQ]
    dsimp only at h
    refine Exit.in_eq ?_
    refine Exit.then_normal (hK5 _ _ ?_)
    refine wp_seq_k (fun K hK47 => ?_)
    refine wp_region_from ?_
    obtain ⟨i48, hi48, h⟩ := bs h
    obtain ⟨o49, ho49, h⟩ := bs h
    refine segO 4 [.pt i48, .ob fs128 o49] [(64, .kv (.ptr 105) o49.1)] (Os := [_, _]) ⟨hi48, (ob128 (s := z45.2.2.2) ho49), trivial⟩ hE hH (by kernel_rfl) (fun a hE => ?_)
    refine stepMFB (f := 37) (k := (.ptr 105)) (x := o49.1) (d := (some 65)) hE (by kernel_rfl) (by kernel_rfl) (fun a hE => ?_)
    refine segO 1 [] [(11, .bnd 37 (.ptr 105) o49.1)] (Os := []) trivial hE hH (by kernel_rfl) (fun a hE => ?_)
    refine wpFrom_end (by kernel_rfl) ?_
    refine Exit.then_normal (hK47 _ _ ?_)
    refine wp_seq_k (fun K hK50 => ?_)
    refine wp_seq_k (fun K hK51 => ?_)
    refine wp_region_from ?_
    refine segO 4 [] [(12, .kv .i (IntKind.wrap .i64 ((r3.length : Int) - 1)))] (Os := []) trivial hE hH (by kernel_rfl) (fun a hE => ?_)
    refine wpFrom_end (by kernel_rfl) ?_
    refine Exit.then_normal (hK51 _ _ ?_)
    refine wp_block ?_
    obtain ⟨rr68, hrr68, h⟩ := bs h
    refine loop_intro (fun Q54 c hQ hc => ?_)
    have key : ∀ (x52 : Int) (σ53 : St) (rr : Sum (Int × St) (Int × St)), f96_l1 p0 r3 z45 o49 x52 σ53 = some rr → ∀ (a : Act) (w : World) (G : Gh), G0.le G → EnvR G 116 a [(0, .kv (.ptr 128) p0), (2, .kv .i 0), (3, .kv (.list .i) r3), (4, .kv .i z45.1), (5, .kv .i z45.2.1), (11, .bnd 37 (.ptr 105) o49.1), (12, .kv .i x52)] → Holds w G (tabs σ53) (Ls) → (∀ z67 : Int × St, rr = .inl z67 → ∀ (a : Act) (w : World) (G : Gh), G0.le G → EnvR G 116 a [(0, .kv (.ptr 128) p0), (2, .kv .i 0), (3, .kv (.list .i) r3), (4, .kv .i z45.1), (5, .kv .i z45.2.1), (11, .bnd 37 (.ptr 105) o49.1), (12, .kv .i z67.1)] → Holds w G (tabs z67.2) (Ls) → Q54 (.exit 2) a w) → (∀ yy : Int × St, rr = .inr yy → ∀ (a : Act) (w : World), PostB Try.prog Try.f96 G0 (.kv .i yy.1) (tabs yy.2) Ls .ret a w → Q54 .ret a w) → Rnd Try.prog c Q54 a w := by
      refine f96_l1.partial_correctness p0 r3 z45 o49 _ ?_
      intro self ih57 x52 σ53 rr h a w G  hle hE hH hx55 hret56
      refine rnd_step' hc ?_
      refine wp_seq_k (fun K hK58 => ?_)
      refine wp_seq_k (fun K hK59 => ?_)
      refine wp_region_from ?_
      refine segO 3 [] [(71, .kv .bool (decide (x52 ≥ z45.2.1)))] (Os := []) trivial hE hH (by kernel_rfl) (fun a hE => ?_)
      refine wpFrom_end (by kernel_rfl) ?_
      refine Exit.then_normal (hK59 _ _ ?_)
      refine condE (b := decide (x52 ≥ z45.2.1)) hE (by kernel_rfl) (fun hc => ?_) (fun hc => ?_)
      · replace h := ifT hc h
        refine wp_skip ?_
        refine Exit.then_normal (hK58 _ _ ?_)
        refine wp_seq_k (fun K hK60 => ?_)
        refine wp_block ?_
        refine wp_seq_k (fun K hK61 => ?_)
        refine wp_region_from ?_
        obtain ⟨x62, hx62, h⟩ := bs h
        refine segO 6 [.ix .i x62] [(74, .bnd 37 (.ptr 105) o49.1), (75, .kv (.ptr 128) p0), (79, .kv .i x62)] (Os := [_]) ⟨(IxAt.of (k := .i) hx62), trivial⟩ hE hH (by kernel_rfl) (fun a hE => ?_)
        refine stepBuildV (d := (some 80)) (.agg #[.int .i64 x62, .slice none 0 0, .int .i64 0]) hE (by kernel_rfl) (by kernel_rfl) (fun a hE => ?_)
        refine stepNewX (t := 130) (fs := fs130) (x := (x62, [], 0, ())) (e := 130) (d := (some 81)) (.agg #[.int .i64 x62, .slice none 0 0, .int .i64 0]) hE hH hN (by kernel_rfl) (by kernel_rfl) (fun w2 G2 hG hn => ⟨[_], _, rfl, rfl, ⟨[_], _, rfl, (by rw [hn 1]; exact ⟨_, rfl, ownV_nil _ _ _ _ _ _⟩), ⟨[_], _, rfl, rfl, rfl⟩⟩⟩) (addT130 (s := σ53) (x := (x62, [], 0, ()))) (fun a w G hl13 hE hH => ?_)
        have hle := Gh.le_trans hle hl13
        obtain ⟨r63, hr63, h⟩ := bs h
        refine stepCall (d := (some 82)) (f98_ok hr63) hE hH hN (by kernel_rfl) (by kernel_rfl) trivial (fun a w G hl14 hE hH => ?_)
        have hle := Gh.le_trans hle hl14
        obtain ⟨r64, hr64, h⟩ := bs h
        refine stepCallB (f := 37) (k := (.ptr 105)) (x := o49.1) (As := [.kv .str r63]) (d := (some 83)) (f37_ok hr64) hE hH hN (by kernel_rfl) (by kernel_rfl) (fun a w G hl15 hE hH => ?_)
        have hle := Gh.le_trans hle hl15
        refine segO 1 [] [(13, .kv .i r64.1)] (Os := []) trivial hE hH (by kernel_rfl) (fun a hE => ?_)
        refine wpFrom_end (by kernel_rfl) ?_
        refine Exit.then_normal (hK61 _ _ ?_)
        refine wp_seq_k (fun K hK65 => ?_)
        refine wp_region_from ?_
        refine segO 2 [] [(85, .kv .bool (r64.1 != 0))] (Os := []) trivial hE hH (by kernel_rfl) (fun a hE => ?_)
        refine wpFrom_end (by kernel_rfl) ?_
        refine Exit.then_normal (hK65 _ _ ?_)
        refine condE (b := r64.1 != 0) hE (by kernel_rfl) (fun hc => ?_) (fun hc => ?_)
        · replace h := ifT hc h
          refine wp_seq_k (fun K hK66 => ?_)
          refine wp_region_from ?_
          refine segO 2 [] [(2, .kv .i r64.1)] (Os := []) trivial hE hH (by kernel_rfl) (fun a hE => ?_)
          refine wpFrom_end (by kernel_rfl) ?_
          refine Exit.then_normal (hK66 _ _ ?_)
          refine wp_ret ?_
          refine Exit.in_ret ?_
          refine Exit.then_ret ?_
          refine Exit.then_ret ?_
          cases h
          exact hret56 _ rfl _ _ (ret1 rfl hE hle hH (by kernel_rfl))
        · replace h := ifF hc h
          refine wp_skip ?_
          refine Exit.in_normal ?_
          refine Exit.then_normal (hK60 _ _ ?_)
          refine wp_region_from ?_
          refine segO 3 [] [(12, .kv .i (IntKind.wrap .i64 (x52 - 1)))] (Os := []) trivial hE hH (by kernel_rfl) (fun a hE => ?_)
          refine wpFrom_end (by kernel_rfl) ?_
          refine Exit.then_normal ?_
          exact ih57 _ _ _ h _ _ _  hle (hE.subC (by kernel_rfl)) hH hx55 hret56
      · replace h := ifF hc h
        refine wp_exit ?_
        refine Exit.then_exit ?_
        refine Exit.then_exit ?_
        cases h
        exact hx55 _ rfl _ _ _  hle (hE.subC (by kernel_rfl)) hH
    refine key _ _ _ hrr68 _ _ _  hle (hE.subC (by kernel_rfl)) hH ?_ ?_
    · intro z67 hz a w G  hle hE hH
      subst hz
      rw [hQ]
      dsimp only at h
      refine Exit.in_eq ?_
      refine Exit.then_normal (hK50 _ _ ?_)
      refine wp_seq_k (fun K hK69 => ?_)
      refine wp_seq_k (fun K hK70 => ?_)
      refine wp_region_from ?_
      refine segO 2 [] [(88, .kv .bool (z45.2.1 == 0))] (Os := []) trivial hE hH (by kernel_rfl) (fun a hE => ?_)
      refine wpFrom_end (by kernel_rfl) ?_
      refine Exit.then_normal (hK70 _ _ ?_)
      refine condE (b := z45.2.1 == 0) hE (by kernel_rfl) (fun hc => ?_) (fun hc => ?_)
      · replace h := ifT hc h
        refine wp_seq_k (fun K hK71 => ?_)
        refine wp_region_from ?_
        refine segO 1 [] [(2, .kv .i 0)] (Os := []) trivial hE hH (by kernel_rfl) (fun a hE => ?_)
        refine wpFrom_end (by kernel_rfl) ?_
        refine Exit.then_normal (hK71 _ _ ?_)
        refine wp_ret ?_
        refine Exit.then_ret ?_
        cases h
        exact ret1 rfl hE hle hH (by kernel_rfl)
      · replace h := ifF hc h
        refine wp_skip ?_
        refine Exit.then_normal (hK69 _ _ ?_)
        refine wp_seq_k (fun K hK72 => ?_)
        refine wp_region_from ?_
        obtain ⟨i73, hi73, h⟩ := bs h
        obtain ⟨o74, ho74, h⟩ := bs h
        obtain ⟨x75, hx75, h⟩ := bs h
        refine segO 9 [.pt i73, .ob fs128 o74, .ix (.ptr 130) x75] [(14, .kv (.ptr 130) x75)] (Os := [_, _, _, _]) ⟨hi73, (ob128 (s := z67.2) ho74), (hN _ _ _ : holeAt 128 i73 3 (Ls) = none), (IxAt.of (k := (.ptr 130)) hx75), trivial⟩ hE hH (by kernel_rfl) (fun a hE => ?_)
        refine wpFrom_end (by kernel_rfl) ?_
        refine Exit.then_normal (hK72 _ _ ?_)
        refine wp_seq_k (fun K hK76 => ?_)
        refine wp_seq_k (fun K hK77 => ?_)
        refine wp_region_from ?_
        refine segO 2 [] [(98, .kv .bool (decide (z45.1 > 0)))] (Os := []) trivial hE hH (by kernel_rfl) (fun a hE => ?_)
        refine wpFrom_end (by kernel_rfl) ?_
        refine Exit.then_normal (hK77 _ _ ?_)
        refine condE (b := decide (z45.1 > 0)) hE (by kernel_rfl) (fun hc => ?_) (fun hc => ?_)
        · replace h := ifT hc h
          refine wp_seq_k (fun K hK78 => ?_)
          obtain ⟨r79, hr79, h⟩ := bs h
          obtain ⟨i80, hi80, h⟩ := bs h
          obtain ⟨o81, ho81, h⟩ := bs h
          refine region_par 11 [6] [(0, 1), (0, 1), (0, 1), (0, 1), (0, 0), (0, 0), (0, 0), (0, 1), (0, 1), (0, 1), (0, 1)] [.kv (.ptr 128) p0, .kv (.ptr 128) (some i73), .fldA 128 i73 0, .kv (.ptr 105) o74.1, .kv (.ptr 128) p0, .kv (.ptr 130) x75, .kv .str r79, .kv (.ptr 130) x75, .kv (.ptr 130) (some i80), .fldA 130 i80 2, .kv .i o81.2.2.1] (fun _ => tabs z67.2) (fun _ => Ls) (by kernel_rfl) (by kernel_rfl) hE hH
                  ⟨⟨⟨⟨⟨⟨⟨⟨⟨⟨⟨trivial,
                  anyk (fun k => obR [] (Os := []) trivial (by kernel_rfl) (by kernel_rfl))⟩,
                  anyk (fun k => obR [.pt i73] (Os := [_]) ⟨hi73, trivial⟩ (by kernel_rfl) (by kernel_rfl))⟩,
                  anyk (fun k => obR [] (Os := []) trivial (by kernel_rfl) (by kernel_rfl))⟩,
                  anyk (fun k => obR [.ob fs128 o74] (Os := [_]) ⟨(ob128 (s := z67.2) ho74), trivial⟩ (by kernel_rfl) (by kernel_rfl))⟩,
                  anyk (fun k => obR [] (Os := []) trivial (by kernel_rfl) (by kernel_rfl))⟩,
                  anyk (fun k => obR [] (Os := []) trivial (by kernel_rfl) (by kernel_rfl))⟩,
                  one (obC (k := 0) (d := (some 105)) (f98_ok hr79) rfl hN (by kernel_rfl) (by kernel_rfl) rfl trivial)⟩,
                  anyk (fun k => obR [] (Os := []) trivial (by kernel_rfl) (by kernel_rfl))⟩,
                  anyk (fun k => obR [.pt i80] (Os := [_]) ⟨hi80, trivial⟩ (by kernel_rfl) (by kernel_rfl))⟩,
                  anyk (fun k => obR [] (Os := []) trivial (by kernel_rfl) (by kernel_rfl))⟩,
                  anyk (fun k => obR [.ob fs130 o81] (Os := [_]) ⟨(ob130 (s := z67.2) ho81), trivial⟩ (by kernel_rfl) (by kernel_rfl))⟩ (fun a w G hl16 hE hH => ?_)
          have hle := Gh.le_trans hle hl16
          obtain ⟨r82, hr82, h⟩ := bs h
          refine stepCall (d := (some 110)) (f35_ok hr82) hE hH hN (by kernel_rfl) (by kernel_rfl) trivial (fun a w G hl17 hE hH => ?_)
          have hle := Gh.le_trans hle hl17
          refine segO 1 [] [(15, .kv .i r82.1)] (Os := []) trivial hE hH (by kernel_rfl) (fun a hE => ?_)
          refine wpFrom_end (by kernel_rfl) ?_
          refine Exit.then_normal (hK78 _ _ ?_)
          refine wp_seq_k (fun K hK83 => ?_)
          refine wp_region_from ?_
          refine segO 2 [] [(112, .kv .bool (r82.1 != 0))] (Os := []) trivial hE hH (by kernel_rfl) (fun a hE => ?_)
          refine wpFrom_end (by kernel_rfl) ?_
          refine Exit.then_normal (hK83 _ _ ?_)
          refine condE (b := r82.1 != 0) hE (by kernel_rfl) (fun hc => ?_) (fun hc => ?_)
          · replace h := ifT hc h
            refine wp_seq_k (fun K hK84 => ?_)
            refine wp_region_from ?_
            refine segO 2 [] [(2, .kv .i r82.1)] (Os := []) trivial hE hH (by kernel_rfl) (fun a hE => ?_)
            refine wpFrom_end (by kernel_rfl) ?_
            refine Exit.then_normal (hK84 _ _ ?_)
            refine wp_ret ?_
            refine Exit.then_ret ?_
            cases h
            exact ret1 rfl hE hle hH (by kernel_rfl)
          · replace h := ifF hc h
            refine wp_skip ?_
            refine Exit.then_normal (hK76 _ _ ?_)
            refine wp_seq_k (fun K hK85 => ?_)
            refine wp_region_from ?_
            refine segO 1 [] [(114, .kv (.ptr 128) p0)] (Os := []) trivial hE hH (by kernel_rfl) (fun a hE => ?_)
            obtain ⟨r86, hr86, h⟩ := bs h
            refine stepCall (d := (some 115)) (f61_ok hr86) hE hH hN (by kernel_rfl) (by kernel_rfl) trivial (fun a w G hl18 hE hH => ?_)
            have hle := Gh.le_trans hle hl18
            refine segO 1 [] [(2, .kv .i r86.1)] (Os := []) trivial hE hH (by kernel_rfl) (fun a hE => ?_)
            refine wpFrom_end (by kernel_rfl) ?_
            refine Exit.then_normal (hK85 _ _ ?_)
            refine wp_ret ?_
            cases h
            exact ret1 rfl hE hle hH (by kernel_rfl)
        · replace h := ifF hc h
          refine wp_skip ?_
          refine Exit.then_normal (hK76 _ _ ?_)
          refine wp_seq_k (fun K hK87 => ?_)
          refine wp_region_from ?_
          refine segO 1 [] [(114, .kv (.ptr 128) p0)] (Os := []) trivial hE hH (by kernel_rfl) (fun a hE => ?_)
          obtain ⟨r88, hr88, h⟩ := bs h
          refine stepCall (d := (some 115)) (f61_ok hr88) hE hH hN (by kernel_rfl) (by kernel_rfl) trivial (fun a w G hl19 hE hH => ?_)
          have hle := Gh.le_trans hle hl19
          refine segO 1 [] [(2, .kv .i r88.1)] (Os := []) trivial hE hH (by kernel_rfl) (fun a hE => ?_)
          refine wpFrom_end (by kernel_rfl) ?_
          refine Exit.then_normal (hK87 _ _ ?_)
          refine wp_ret ?_
          cases h
          exact ret1 rfl hE hle hH (by kernel_rfl)
    · intro yy hz a w hp
      subst hz
      dsimp only at h
      cases h
      rw [hQ]
      refine Exit.in_ret ?_
      refine Exit.then_ret ?_
      exact hp
  · intro yy hz a w hp
    subst hz
    dsimp only at h
    cases h
    rw [hQ]
    refine Exit.in_ret ?_
    refine Exit.then_ret ?_
    exact hp

def f53 (p0 : Option Nat) (p1 : List UInt8) (p2 : Int) (σ : St) : Option (((Option Nat) × Int) × St) :=
  if p0.isNone = true then
  some ((none, 1), σ)
  else
  f95 p1 >>= fun r6 =>
  if (((!r6) || (decide (p2 < 64))) || (decide (p2 > 65536))) = true then
  some ((none, 2), σ)
  else
  f31 p0 σ >>= fun r9 =>
  if r9 = true then
  some ((none, 11), σ)
  else
  f96 (some σ.t128.length) (σ.add128 (p0, p1, p2, [], 0, ())) >>= fun r15 =>
  if (r15.1 != 0) = true then
  some ((none, r15.1), r15.2)
  else
  some ((some σ.t128.length, 0), r15.2)

theorem f53_ok {p0 : Option Nat} {p1 : List UInt8} {p2 : Int} {σ : St} {p : ((Option Nat) × Int) × St} (h : f53 p0 p1 p2 σ = some p) : Spec Try.prog 53 [.kv (.ptr 105) p0, .kv .str p1, .kv .i p2] (tabs σ) (.tup [⟨(.ptr 128), p.1.1⟩, ⟨.i, p.1.2⟩]) (tabs p.2) := by
  refine Spec.intro Try.func53 (by kernel_rfl) rfl (by kernel_rfl) (fun a w G0 Ls hE hH hN => ?_)
  have hle : G0.le G0 := Gh.le_refl G0
  unfold f53 at h
  refine wp_seq_k (fun K hK1 => ?_)
  refine wp_region_from ?_
  refine segO 2 [] [(6, .val (.pointer none)), (7, .kv .i 0)] (Os := []) trivial hE hH (by kernel_rfl) (fun a hE => ?_)
  refine wpFrom_end (by kernel_rfl) ?_
  refine Exit.then_normal (hK1 _ _ ?_)
  refine wp_seq_k (fun K hK2 => ?_)
  refine wp_block ?_
  refine wp_seq_k (fun K hK3 => ?_)
  refine wp_region_from ?_
  refine segO 3 [] [(10, .kv .bool p0.isNone)] (Os := []) trivial hE hH (by kernel_rfl) (fun a hE => ?_)
  refine wpFrom_end (by kernel_rfl) ?_
  refine Exit.then_normal (hK3 _ _ ?_)
  refine condE (b := p0.isNone) hE (by kernel_rfl) (fun hc => ?_) (fun hc => ?_)
  · replace h := ifT hc h
    refine wp_seq_k (fun K hK4 => ?_)
    refine wp_region_from ?_
    refine segO 2 [] [(6, .val (.pointer none)), (7, .kv .i 1)] (Os := []) trivial hE hH (by kernel_rfl) (fun a hE => ?_)
    refine wpFrom_end (by kernel_rfl) ?_
    refine Exit.then_normal (hK4 _ _ ?_)
    refine wp_ret ?_
    refine Exit.in_ret ?_
    refine Exit.then_ret ?_
    cases h
    exact ret2 rfl hE hle hH (by kernel_rfl)
  · replace h := ifF hc h
    refine wp_seq_k (fun K hK5 => ?_)
    refine wp_region_from ?_
    refine segO 1 [] [(14, .kv .str p1)] (Os := []) trivial hE hH (by kernel_rfl) (fun a hE => ?_)
    obtain ⟨r6, hr6, h⟩ := bs h
    refine stepCall (d := (some 15)) (f95_ok hr6) hE hH hN (by kernel_rfl) (by kernel_rfl) trivial (fun a w G hl1 hE hH => ?_)
    have hle := Gh.le_trans hle hl1
    refine segO 10 [] [(13, .kv .bool (((!r6) || (decide (p2 < 64))) || (decide (p2 > 65536))))] (Os := []) trivial hE hH (by kernel_rfl) (fun a hE => ?_)
    refine wpFrom_end (by kernel_rfl) ?_
    refine Exit.then_normal (hK5 _ _ ?_)
    refine condE (b := ((!r6) || (decide (p2 < 64))) || (decide (p2 > 65536))) hE (by kernel_rfl) (fun hc => ?_) (fun hc => ?_)
    · replace h := ifT hc h
      refine wp_seq_k (fun K hK7 => ?_)
      refine wp_region_from ?_
      refine segO 2 [] [(6, .val (.pointer none)), (7, .kv .i 2)] (Os := []) trivial hE hH (by kernel_rfl) (fun a hE => ?_)
      refine wpFrom_end (by kernel_rfl) ?_
      refine Exit.then_normal (hK7 _ _ ?_)
      refine wp_ret ?_
      refine Exit.in_ret ?_
      refine Exit.then_ret ?_
      cases h
      exact ret2 rfl hE hle hH (by kernel_rfl)
    · replace h := ifF hc h
      refine wp_seq_k (fun K hK8 => ?_)
      refine wp_region_from ?_
      refine segO 1 [] [(26, .kv (.ptr 105) p0)] (Os := []) trivial hE hH (by kernel_rfl) (fun a hE => ?_)
      obtain ⟨r9, hr9, h⟩ := bs h
      refine stepCall (d := (some 27)) (f31_ok hr9) hE hH hN (by kernel_rfl) (by kernel_rfl) trivial (fun a w G hl2 hE hH => ?_)
      have hle := Gh.le_trans hle hl2
      refine segO 1 [] [(25, .kv .bool r9)] (Os := []) trivial hE hH (by kernel_rfl) (fun a hE => ?_)
      refine wpFrom_end (by kernel_rfl) ?_
      refine Exit.then_normal (hK8 _ _ ?_)
      refine condE (b := r9) hE (by kernel_rfl) (fun hc => ?_) (fun hc => ?_)
      · replace h := ifT hc h
        refine wp_seq_k (fun K hK10 => ?_)
        refine wp_region_from ?_
        refine segO 2 [] [(6, .val (.pointer none)), (7, .kv .i 11)] (Os := []) trivial hE hH (by kernel_rfl) (fun a hE => ?_)
        refine wpFrom_end (by kernel_rfl) ?_
        refine Exit.then_normal (hK10 _ _ ?_)
        refine wp_ret ?_
        refine Exit.in_ret ?_
        refine Exit.then_ret ?_
        cases h
        exact ret2 rfl hE hle hH (by kernel_rfl)
      · replace h := ifF hc h
        refine wp_skip ?_
        refine Exit.in_normal ?_
        refine Exit.then_normal (hK2 _ _ ?_)
        refine wp_seq_k (fun K hK11 => ?_)
        refine wp_region_from ?_
        refine segO 3 [] [(28, .kv (.ptr 105) p0), (29, .kv .str p1), (30, .kv .i p2)] (Os := []) trivial hE hH (by kernel_rfl) (fun a hE => ?_)
        obtain ⟨u12, hE, hu12⟩ := hE.ptr 28 (by kernel_rfl)
        refine stepBuildV (d := (some 31)) (.agg #[.pointer u12, .string ⟨List.toArray p1⟩, .int .i64 p2, .slice none 0 0, .int .i64 0]) hE (by kernel_rfl) (by kernel_rfl) (fun a hE => ?_)
        refine stepNewX (t := 128) (fs := fs128) (x := (p0, p1, p2, [], 0, ())) (e := 128) (d := (some 32)) (.agg #[.pointer u12, .string ⟨List.toArray p1⟩, .int .i64 p2, .slice none 0 0, .int .i64 0]) hE hH hN (by kernel_rfl) (by kernel_rfl) (fun w2 G2 hG hn => ⟨[_], _, rfl, ⟨_, rfl, ptrR_mono hG hu12⟩, ⟨[_], _, rfl, rfl, ⟨[_], _, rfl, rfl, ⟨[_], _, rfl, (by rw [hn 3]; exact ⟨_, rfl, ownV_nil _ _ _ _ _ _⟩), ⟨[_], _, rfl, rfl, rfl⟩⟩⟩⟩⟩) (addT128 (s := σ) (x := (p0, p1, p2, [], 0, ()))) (fun a w G hl3 hE hH => ?_)
        have hle := Gh.le_trans hle hl3
        refine segO 1 [] [(8, .fldA 128 σ.t128.length 0)] (Os := []) trivial hE hH (by kernel_rfl) (fun a hE => ?_)
        refine wpFrom_end (by kernel_rfl) ?_
        refine Exit.then_normal (hK11 _ _ ?_)
        refine wp_seq_k (fun K hK13 => ?_)
        refine wp_seq_k (fun K hK14 => ?_)
        refine wp_region_from ?_
        refine segO 1 [] [(33, .fldA 128 σ.t128.length 0)] (Os := []) trivial hE hH (by kernel_rfl) (fun a hE => ?_)
        obtain ⟨r15, hr15, h⟩ := bs h
        refine stepCall (d := (some 34)) (f96_ok hr15) hE hH hN (by kernel_rfl) (by kernel_rfl) trivial (fun a w G hl4 hE hH => ?_)
        have hle := Gh.le_trans hle hl4
        refine segO 1 [] [(9, .kv .i r15.1)] (Os := []) trivial hE hH (by kernel_rfl) (fun a hE => ?_)
        refine wpFrom_end (by kernel_rfl) ?_
        refine Exit.then_normal (hK14 _ _ ?_)
        refine wp_seq_k (fun K hK16 => ?_)
        refine wp_region_from ?_
        refine segO 2 [] [(36, .kv .bool (r15.1 != 0))] (Os := []) trivial hE hH (by kernel_rfl) (fun a hE => ?_)
        refine wpFrom_end (by kernel_rfl) ?_
        refine Exit.then_normal (hK16 _ _ ?_)
        refine condE (b := r15.1 != 0) hE (by kernel_rfl) (fun hc => ?_) (fun hc => ?_)
        · replace h := ifT hc h
          refine wp_seq_k (fun K hK17 => ?_)
          refine wp_region_from ?_
          refine segO 3 [] [(6, .val (.pointer none)), (7, .kv .i r15.1)] (Os := []) trivial hE hH (by kernel_rfl) (fun a hE => ?_)
          refine wpFrom_end (by kernel_rfl) ?_
          refine Exit.then_normal (hK17 _ _ ?_)
          refine wp_ret ?_
          refine Exit.then_ret ?_
          cases h
          exact ret2 rfl hE hle hH (by kernel_rfl)
        · replace h := ifF hc h
          refine wp_skip ?_
          refine Exit.then_normal (hK13 _ _ ?_)
          refine wp_seq_k (fun K hK18 => ?_)
          refine wp_region_from ?_
          refine segO 3 [] [(6, .fldA 128 σ.t128.length 0), (7, .kv .i 0)] (Os := []) trivial hE hH (by kernel_rfl) (fun a hE => ?_)
          refine wpFrom_end (by kernel_rfl) ?_
          refine Exit.then_normal (hK18 _ _ ?_)
          refine wp_ret ?_
          cases h
          exact ret2 rfl hE hle hH (by kernel_rfl)
end Go.Proofs.Ytlfemhkabjafeaa.M

/- Plain law of numbers' bytes: what is written, and what is read. -/
set_option linter.unusedVariables false
set_option linter.unusedSimpArgs false
namespace Go.Proofs.Ytlfemhkabjafeaa.M

theorem w8 (x : Int) : IntKind.wrap .u8 x = x % 256 := by simp [IntKind.wrap, IntKind.bits, IntKind.signed]
theorem w64 (x : Int) : IntKind.wrap .u64 x = x % 18446744073709551616 := by simp [IntKind.wrap, IntKind.bits, IntKind.signed]

/-! ### Bits -/
theorem or128_fin : ∀ b : Fin 256, ((BitVec.ofNat 8 b.val) ||| (BitVec.ofNat 8 128)).toNat = b.val % 128 + 128 := by decide +kernel
theorem and127_fin : ∀ b : Fin 256, ((BitVec.ofNat 8 b.val) &&& (BitVec.ofNat 8 127)).toNat = b.val % 128 := by decide +kernel

theorem ofInt_nat (w m : Nat) : BitVec.ofInt w (m : Int) = BitVec.ofNat w m := by
  apply BitVec.eq_of_toNat_eq
  simp

theorem or128 (x : Nat) : IntKind.wrap .u8 (((BitVec.ofInt (IntKind.bits .u8) (IntKind.wrap .u8 (x : Int)) ||| BitVec.ofInt (IntKind.bits .u8) 128).toNat : Nat) : Int) = ((x % 128 + 128 : Nat) : Int) := by
  have e1 : IntKind.wrap .u8 (x : Int) = ((x % 256 : Nat) : Int) := by rw [w8]; omega
  have h : (BitVec.ofInt 8 ((x % 256 : Nat) : Int) ||| BitVec.ofInt 8 128).toNat = x % 256 % 128 + 128 := by
    rw [ofInt_nat]; exact or128_fin ⟨x % 256, Nat.mod_lt _ (by decide)⟩
  have h2 : (BitVec.ofInt (IntKind.bits .u8) ((x % 256 : Nat) : Int) ||| BitVec.ofInt (IntKind.bits .u8) 128).toNat = x % 256 % 128 + 128 := h
  rw [e1, h2, w8]
  omega

theorem and127 {c : Nat} (hc : c < 256) : IntKind.wrap .u8 (((BitVec.ofInt (IntKind.bits .u8) (c : Int) &&& BitVec.ofInt (IntKind.bits .u8) 127).toNat : Nat) : Int) = ((c % 128 : Nat) : Int) := by
  have h : (BitVec.ofInt 8 (c : Int) &&& BitVec.ofInt 8 127).toNat = c % 128 := by
    rw [ofInt_nat]; exact and127_fin ⟨c, hc⟩
  have h2 : (BitVec.ofInt (IntKind.bits .u8) (c : Int) &&& BitVec.ofInt (IntKind.bits .u8) 127).toNat = c % 128 := h
  rw [h2, w8]
  omega

/-! ### What is written -/
/-- The bytes of a number, as numbers. -/
def vbI (u : Nat) : List Int := if u < 128 then [(u : Int)] else ((u % 128 + 128 : Nat) : Int) :: vbI (u / 128)
termination_by u
decreasing_by omega

theorem vbI_small {u : Nat} (h : u < 128) : vbI u = [(u : Int)] := by rw [vbI, if_pos h]
theorem vbI_big {u : Nat} (h : ¬ u < 128) : vbI u = ((u % 128 + 128 : Nat) : Int) :: vbI (u / 128) := by rw [vbI, if_neg h]

theorem arrL_set : ∀ {n : Nat} {k : Kd} {x : k.den} {i : Nat} {z : Int}, isArr n k = true → i < n → arrL k (setA k x i z) = (arrL k x).set i z
  | 0, _, _, _, _, _, h => by omega
  | n + 1, k, x, i, z, hk, h => by
    unfold isArr at hk
    split at hk
    · rename_i h0; cases h0
    · rename_i m b h0
      cases h0
      cases i with
      | zero => simp [setA, arrL]
      | succ i =>
        have ih := arrL_set (x := x.2) (i := i) (z := z) hk (by omega)
        simp [setA, arrL, ih]
    · cases hk

theorem arrL_len : ∀ {n : Nat} {k : Kd} {x : k.den}, isArr n k = true → (arrL k x).length = n
  | 0, k, x, hk => by
    cases k <;> simp [isArr] at hk
    rfl
  | n + 1, k, x, hk => by
    unfold isArr at hk
    split at hk
    · rename_i h0; cases h0
    · rename_i m b h0
      cases h0
      have ih := arrL_len (x := x.2) hk
      simp [arrL, ih]
    · cases hk

theorem take_set {α : Type} {l : List α} {n : Nat} (h : n < l.length) (z : α) : (l.set n z).take (n + 1) = l.take n ++ [z] := by
  rw [List.take_set, List.take_succ_eq_append_getElem h]
  rw [List.set_append_right _ _ (by simp; omega)]
  have : n - (l.take n).length = 0 := by simp; omega
  rw [this]
  rfl

theorem f90_walk : ∀ (k x n : Nat) (y : K145.den) (pre : List Int), x < 128 ^ (k + 1) → n + k < 10 → (arrL K145 y).take n = pre →
    ∃ y2 : K145.den, ∃ x2 n2 : Nat, f90_l0 y (x : Int) (n : Int) = some (y2, (x2 : Int), (n2 : Int)) ∧ n2 < 10 ∧ x2 < 128 ∧ pre ++ vbI x = (arrL K145 y2).take n2 ++ [(x2 : Int)]
  | k, x, n, y, pre, hx, hn, hp => by
    rw [f90_l0]
    by_cases c : x < 128
    · exact ⟨y, x, n, by rw [if_neg (by simp; omega)], by omega, c, by rw [vbI_small c, hp]⟩
    · rw [if_pos (by simp; omega), if_pos (by omega)]
      have e1 : Int.fdiv (x : Int) (2 ^ 7) = ((x / 128 : Nat) : Int) := by
        rw [Int.fdiv_eq_ediv_of_nonneg _ (by decide)]; norm_cast
      have hw : IntKind.wrap .i64 ((n : Int) + 1) = ((n + 1 : Nat) : Int) := by rw [wrap_id (by omega) (by omega)]; omega
      have hi : Int.toNat (n : Int) = n := by omega
      rw [e1, hw, or128, hi]
      cases k with
      | zero => simp at hx; omega
      | succ k =>
        have hA : isArr 10 K145 = true := rfl
        obtain ⟨y2, x2, n2, i1, i2, i3, i4⟩ := f90_walk k (x / 128) (n + 1) (setA K145 y n ((x % 128 + 128 : Nat) : Int)) (pre ++ [((x % 128 + 128 : Nat) : Int)]) (by rw [Nat.div_lt_iff_lt_mul (by decide)]; rw [Nat.pow_succ] at hx; exact hx) (by omega) (by
          rw [arrL_set hA (by omega), take_set (by rw [arrL_len hA]; omega), hp])
        refine ⟨y2, x2, n2, i1, i2, i3, ?_⟩
        rw [vbI_big c, ← i4]; simp

/-- A number's bytes. -/
def numV (n : Nat) : List UInt8 := bytesS (vbI (2 * n))

theorem f90_numV {n : Nat} (hn : n < 9223372036854775808) : f90 (n : Int) = some (numV n) := by
  unfold f90
  have c : ¬ ((n : Int) < 0) := by omega
  have e1 : IntKind.wrap .u64 (IntKind.wrap .u64 (n : Int) * 2 ^ 1) = ((2 * n : Nat) : Int) := by
    rw [w64, w64]; omega
  rw [if_neg (by simp), e1]
  simp only [Option.bind_eq_bind, Option.bind_some]
  obtain ⟨y2, x2, n2, h1, h2, h3, h4⟩ := f90_walk 9 (2 * n) 0 (0, 0, 0, 0, 0, 0, 0, 0, 0, 0, ()) [] (by omega) (by omega) rfl
  rw [show (((0 : Nat) : Int)) = (0 : Int) from rfl] at h1
  rw [h1]
  simp only [Option.bind_some]
  have hw : IntKind.wrap .i64 ((n2 : Int) + 1) = ((n2 + 1 : Nat) : Int) := by rw [wrap_id (by omega) (by omega)]; omega
  rw [hw, if_pos (by omega), if_pos (by omega)]
  have hA : isArr 10 K145 = true := rfl
  have hi : Int.toNat (n2 : Int) = n2 := by omega
  have hi2 : Int.toNat ((n2 + 1 : Nat) : Int) = n2 + 1 := by omega
  have hz : IntKind.wrap .u8 (x2 : Int) = (x2 : Int) := by rw [w8]; omega
  rw [hi, hi2, hz, arrL_set hA h2, take_set (by rw [arrL_len hA]; exact h2), ← h4]
  rfl

theorem vbI_len : ∀ (k u : Nat), u < 128 ^ (k + 1) → (vbI u).length ≤ k + 1 := by
  intro k
  induction k with
  | zero => intro u h; rw [vbI_small (by simpa using h)]; simp
  | succ k ih =>
    intro u h
    by_cases c : u < 128
    · rw [vbI_small c]; simp
    · rw [vbI_big c, List.length_cons]
      have := ih (u / 128) (by rw [Nat.div_lt_iff_lt_mul (by decide)]; rw [Nat.pow_succ] at h; exact h)
      omega

theorem numV_len {n : Nat} (h : n < 9223372036854775808) : (numV n).length ≤ 10 := by
  unfold numV bytesS
  rw [List.length_map]
  exact vbI_len 9 (2 * n) (by omega)

theorem vbI_pos (u : Nat) : 0 < (vbI u).length := by
  by_cases c : u < 128
  · rw [vbI_small c]; simp
  · rw [vbI_big c]; simp

/-! ### What is read -/
theorem u8_of {c : Nat} (h : c < 256) : (UInt8.ofNat ((c : Nat) : Int).toNat).toNat = c := by
  have : ((c : Nat) : Int).toNat = c := by omega
  rw [this, UInt8.toNat_ofNat_of_lt' (by show c < 256; exact h)]

theorem or_add {a b i : Nat} (h : a < 2 ^ i) (hs : a + b * 2 ^ i < 2 ^ 64) : (BitVec.ofInt (IntKind.bits .u64) (a : Int) ||| BitVec.ofInt (IntKind.bits .u64) ((b * 2 ^ i : Nat) : Int)).toNat = a + b * 2 ^ i := by
  have e1 : BitVec.ofInt (IntKind.bits .u64) (a : Int) = BitVec.ofNat 64 a := ofInt_nat 64 a
  have e2 : BitVec.ofInt (IntKind.bits .u64) ((b * 2 ^ i : Nat) : Int) = BitVec.ofNat 64 (b * 2 ^ i) := ofInt_nat 64 _
  rw [e1, e2]
  show (BitVec.ofNat 64 a ||| BitVec.ofNat 64 (b * 2 ^ i)).toNat = _
  rw [BitVec.toNat_or, BitVec.toNat_ofNat, BitVec.toNat_ofNat, Nat.mod_eq_of_lt (by omega), Nat.mod_eq_of_lt (by omega)]
  have := Nat.two_pow_add_eq_or_of_lt h b
  rw [Nat.or_comm, Nat.mul_comm b, ← this]; omega

theorem and_one (x : Nat) (hx : x < 2 ^ 64) : (BitVec.ofInt (IntKind.bits .u64) (x : Int) &&& BitVec.ofInt (IntKind.bits .u64) 1).toNat = x % 2 := by
  have e1 : BitVec.ofInt (IntKind.bits .u64) (x : Int) = BitVec.ofNat 64 x := ofInt_nat 64 x
  have e2 : BitVec.ofInt (IntKind.bits .u64) 1 = BitVec.ofNat 64 1 := rfl
  rw [e1, e2]
  show (BitVec.ofNat 64 x &&& BitVec.ofNat 64 1).toNat = _
  rw [BitVec.toNat_and, BitVec.toNat_ofNat, BitVec.toNat_ofNat, Nat.mod_eq_of_lt hx, Nat.mod_eq_of_lt (by decide), Nat.and_one_is_mod]

/-- A place in a text. -/
theorem at_drop {s : List UInt8} {n : Nat} {c : UInt8} {r : List UInt8} (h : s.drop n = c :: r) : n < s.length ∧ btS s (n : Int) = (c.toNat : Int) ∧ s.drop (n + 1) = r := by
  have hl : n < s.length := by
    rcases Nat.lt_or_ge n s.length with h1 | h1
    · exact h1
    · rw [List.drop_of_length_le h1] at h; cases h
  have h2 : s.drop n = s[n] :: s.drop (n + 1) := by simp
  rw [h] at h2
  injection h2 with h3 h4
  exact ⟨hl, by rw [btS_at hl, h3], h4.symm⟩

theorem f113_walk (s : List UInt8) (p : Nat) (hs : s.length < 9223372036854775808) : ∀ (u i acc : Nat) (rest : List UInt8), s.drop (p + i) = bytesS (vbI u) ++ rest → acc < 2 ^ (7 * i) → acc + u * 2 ^ (7 * i) < 2 ^ 63 → (acc + u * 2 ^ (7 * i)) % 2 = 0 → (0 < i → u ≠ 0) →
    f113_l0 s (p : Int) (acc : Int) (i : Int) = some (.inr ((((acc + u * 2 ^ (7 * i)) / 2 : Nat) : Int), ((p + i + (vbI u).length : Nat) : Int), 0)) := by
  intro u
  induction u using Nat.strongRecOn with
  | ind u ih =>
    intro i acc rest hd ha ht hev hu
    have hi : i < 9 := by
      by_cases h0 : i = 0
      · omega
      · have hu1 : 1 ≤ u := by have := hu (by omega); omega
        have h1 : 2 ^ (7 * i) ≤ u * 2 ^ (7 * i) := Nat.le_mul_of_pos_left _ hu1
        have h2 : 2 ^ (7 * i) < 2 ^ 63 := by omega
        have := (Nat.pow_lt_pow_iff_right (a := 2) (by decide)).1 h2
        omega
    rw [f113_l0]
    have hhead : ∃ c : Nat, ∃ r, c < 256 ∧ s.drop (p + i) = (UInt8.ofNat ((c : Nat) : Int).toNat) :: r ∧ (u < 128 → c = u ∧ r = rest) ∧ (¬ u < 128 → c = u % 128 + 128 ∧ r = bytesS (vbI (u / 128)) ++ rest) := by
      by_cases c : u < 128
      · exact ⟨u, rest, by omega, by rw [hd, vbI_small c]; rfl, fun _ => ⟨rfl, rfl⟩, fun h => absurd c h⟩
      · exact ⟨u % 128 + 128, bytesS (vbI (u / 128)) ++ rest, by omega, by rw [hd, vbI_big c]; rfl, fun h => absurd h c, fun _ => ⟨rfl, rfl⟩⟩
    obtain ⟨c, r, hc, hd2, hsm, hbg⟩ := hhead
    obtain ⟨h1, h2, h3⟩ := at_drop hd2
    rw [u8_of hc] at h2
    have hw : IntKind.wrap .i64 ((p : Int) + (i : Int)) = ((p + i : Nat) : Int) := by rw [wrap_id (by omega) (by omega)]; omega
    have hw7 : IntKind.wrap .i64 (7 * (i : Int)) = ((7 * i : Nat) : Int) := by rw [wrap_id (by omega) (by omega)]; omega
    have hw1 : IntKind.wrap .i64 ((i : Int) + 1) = ((i + 1 : Nat) : Int) := by rw [wrap_id (by omega) (by omega)]; omega
    have hmin : min (Int.toNat ((7 * i : Nat) : Int)) (IntKind.bits .u64) = 7 * i := by
      have : Int.toNat ((7 * i : Nat) : Int) = 7 * i := by omega
      rw [this]
      show min (7 * i) 64 = 7 * i
      omega
    rw [hw, hw7, hw1, h2, hmin, and127 hc]
    rw [if_pos (by simp; omega), if_pos (by omega), if_neg (by simp; omega), if_pos (by omega)]
    have hb : c % 128 ≤ u := by
      by_cases cc : u < 128
      · have := (hsm cc).1; omega
      · have := (hbg cc).1; omega
    have hle : (c % 128) * 2 ^ (7 * i) ≤ u * 2 ^ (7 * i) := Nat.mul_le_mul_right _ hb
    have e1 : IntKind.wrap .u64 (IntKind.wrap .u64 ((c % 128 : Nat) : Int) * 2 ^ (7 * i)) = (((c % 128) * 2 ^ (7 * i) : Nat) : Int) := by
      have e : IntKind.wrap .u64 ((c % 128 : Nat) : Int) = ((c % 128 : Nat) : Int) := by rw [w64]; omega
      have e0 : ((c % 128 : Nat) : Int) * 2 ^ (7 * i) = (((c % 128) * 2 ^ (7 * i) : Nat) : Int) := by push_cast; rfl
      rw [e, e0, w64]
      have : (((c % 128) * 2 ^ (7 * i) : Nat) : Int) < 18446744073709551616 := by
        have : (c % 128) * 2 ^ (7 * i) < 2 ^ 63 := by omega
        have h63 : (2 : Nat) ^ 63 < 18446744073709551616 := by decide
        omega
      omega
    have e2 : IntKind.wrap .u64 (((BitVec.ofInt (IntKind.bits .u64) (acc : Int) ||| BitVec.ofInt (IntKind.bits .u64) (((c % 128) * 2 ^ (7 * i) : Nat) : Int)).toNat : Nat) : Int) = ((acc + (c % 128) * 2 ^ (7 * i) : Nat) : Int) := by
      rw [or_add ha (by have : (2 : Nat) ^ 63 < 2 ^ 64 := by decide
                        omega), w64]
      have h63 : (2 : Nat) ^ 63 < 18446744073709551616 := by decide
      omega
    rw [e1, e2]
    by_cases cc : u < 128
    · obtain ⟨rfl, rfl⟩ := hsm cc
      have hm : c % 128 = c := by omega
      rw [if_neg (by simp; omega), if_neg (by simp only [Bool.and_eq_true, beq_iff_eq, decide_eq_true_eq, not_and]; intro h4 h5; exact hu (by omega) (by omega)), hm, vbI_small cc]
      have h63 : (2 : Nat) ^ 63 < 2 ^ 64 := by decide
      rw [and_one _ (by omega), hev]
      have hne : ¬ ((IntKind.wrap .u64 ((0 : Nat) : Int) == 1) = true) := by decide
      rw [if_neg hne]
      simp only [Option.bind_eq_bind, Option.bind_some]
      have e3 : Int.fdiv ((acc + c * 2 ^ (7 * i) : Nat) : Int) (2 ^ 1) = (((acc + c * 2 ^ (7 * i)) / 2 : Nat) : Int) := by
        rw [Int.fdiv_eq_ediv_of_nonneg _ (by decide)]; norm_cast
      have h64 : (2 : Nat) ^ 63 = 9223372036854775808 := by decide
      rw [e3, wrap_id (by omega) (by omega), wrap_id (by omega) (by omega)]
      simp
    · obtain ⟨rfl, rfl⟩ := hbg cc
      rw [if_pos (by simp; omega)]
      have hm : (u % 128 + 128) % 128 = u % 128 := by omega
      rw [hm]
      have hsum : acc + u % 128 * 2 ^ (7 * i) + u / 128 * 2 ^ (7 * (i + 1)) = acc + u * 2 ^ (7 * i) := by
        have e : 2 ^ (7 * (i + 1)) = 128 * 2 ^ (7 * i) := by rw [Nat.mul_add, Nat.pow_add, Nat.mul_comm]
        rw [e, Nat.add_assoc, ← Nat.mul_assoc, ← Nat.add_mul]
        congr 2
        omega
      have hlt : acc + u % 128 * 2 ^ (7 * i) < 2 ^ (7 * (i + 1)) := by
        have e : 2 ^ (7 * (i + 1)) = 128 * 2 ^ (7 * i) := by rw [Nat.mul_add, Nat.pow_add, Nat.mul_comm]
        have h5 : u % 128 * 2 ^ (7 * i) ≤ 127 * 2 ^ (7 * i) := Nat.mul_le_mul_right _ (by omega)
        rw [e]; omega
      have := ih (u / 128) (by omega) (i + 1) (acc + u % 128 * 2 ^ (7 * i)) rest (by rw [← Nat.add_assoc]; exact h3) hlt (by rw [hsum]; exact ht) (by rw [hsum]; exact hev) (fun _ => by omega)
      rw [hsum] at this
      rw [this, vbI_big cc, List.length_cons]
      congr 5
      omega

/-- Nothing whole is there. -/
theorem f113_short (s : List UInt8) (p : Nat) (hs : s.length < 9223372036854775808) : ∀ (t : List UInt8) (i : Nat) (acc : Int), s.drop (p + i) = t → p + i ≤ s.length → (∀ c ∈ t, 128 ≤ c.toNat) → i + t.length ≤ 9 →
    ∃ z, f113_l0 s (p : Int) acc (i : Int) = some (.inl z)
  | [], i, acc, hd, hp, ht, hi => by
    rw [f113_l0]
    have hl : s.length ≤ p + i := by
      have := congrArg List.length hd
      rw [List.length_drop] at this
      simp only [List.length_nil] at this
      omega
    have hw : IntKind.wrap .i64 ((p : Int) + (i : Int)) = ((p + i : Nat) : Int) := by rw [wrap_id (by omega) (by simp at hi; omega)]; omega
    rw [hw, if_neg (by simp; omega)]
    exact ⟨_, rfl⟩
  | c :: r, i, acc, hd, hp, ht, hi => by
    rw [f113_l0]
    obtain ⟨h1, h2, h3⟩ := at_drop hd
    have hc := ht c List.mem_cons_self
    simp only [List.length_cons] at hi
    have hw : IntKind.wrap .i64 ((p : Int) + (i : Int)) = ((p + i : Nat) : Int) := by rw [wrap_id (by omega) (by omega)]; omega
    have hw7 : IntKind.wrap .i64 (7 * (i : Int)) = ((7 * i : Nat) : Int) := by rw [wrap_id (by omega) (by omega)]; omega
    have hw1 : IntKind.wrap .i64 ((i : Int) + 1) = ((i + 1 : Nat) : Int) := by rw [wrap_id (by omega) (by omega)]; omega
    rw [hw, hw7, hw1, h2, if_pos (by simp; omega), if_pos (by omega), if_neg (by simp; omega), if_pos (by omega), if_pos (by simp; omega)]
    exact f113_short s p hs r (i + 1) _ (by rw [← Nat.add_assoc]; exact h3) (by omega) (fun x hx => ht x (List.mem_cons_of_mem _ hx)) (by omega)

/-- All bytes of a number but the last one go on. -/
theorem vbI_split (u : Nat) : ∃ pre l, bytesS (vbI u) = pre ++ [l] ∧ ∀ c ∈ pre, 128 ≤ UInt8.toNat c := by
  induction u using Nat.strongRecOn with
  | ind u ih =>
    by_cases c : u < 128
    · exact ⟨[], _, by rw [vbI_small c]; rfl, by simp⟩
    · obtain ⟨pre, l, h1, h2⟩ := ih (u / 128) (by omega)
      refine ⟨UInt8.ofNat (((u % 128 + 128 : Nat) : Int).toNat) :: pre, l, ?_, ?_⟩
      · rw [vbI_big c]
        show _ :: bytesS (vbI (u / 128)) = _
        rw [h1]; rfl
      · intro x hx
        rcases List.mem_cons.1 hx with rfl | hx
        · rw [u8_of (by omega)]; omega
        · exact h2 x hx

theorem f113_num {s : List UInt8} {p k : Nat} {rest : List UInt8} (hs : s.length < 9223372036854775808) (hk : k < 4611686018427387904) (hp : p ≤ s.length) (hd : s.drop p = numV k ++ rest) :
    f113 s (p : Int) = some ((k : Int), ((p + (numV k).length : Nat) : Int), 0) := by
  unfold f113
  rw [if_neg (by simp; omega)]
  have := f113_walk s p hs (2 * k) 0 0 rest (by simpa [numV] using hd) (by simp) (by simp; omega) (by simp) (by simp)
  rw [show (((0 : Nat) : Int)) = (0 : Int) from rfl] at this
  rw [this]
  simp [numV, bytesS]

theorem f113_torn {s : List UInt8} {p k : Nat} {t : List UInt8} (hs : s.length < 9223372036854775808) (hk : k < 4611686018427387904) (hp : p ≤ s.length) (hd : s.drop p = t) (ht : t <+: numV k) (hn : t.length < (numV k).length) :
    f113 s (p : Int) = some (0, 0, 5) := by
  unfold f113
  rw [if_neg (by simp; omega)]
  obtain ⟨pre, l, h1, h2⟩ := vbI_split (2 * k)
  have h3 : numV k = pre ++ [l] := h1
  have hl := numV_len (n := k) (by omega)
  have h4 : t <+: pre := by
    rw [h3] at ht hn
    rw [List.length_append] at hn
    simp only [List.length_cons, List.length_nil] at hn
    exact List.prefix_of_prefix_length_le ht (List.prefix_append _ _) (by omega)
  obtain ⟨z, hz⟩ := f113_short s p hs t 0 0 (by simpa using hd) (by omega) (fun c hc => h2 c (h4.subset hc)) (by omega)
  rw [show (((0 : Nat) : Int)) = (0 : Int) from rfl] at hz
  rw [hz]
  rfl
end Go.Proofs.Ytlfemhkabjafeaa.M

/- Printed by own program: twins and walks. -/
set_option linter.unusedVariables false
set_option maxRecDepth 100000
namespace Go.Proofs.Ytlfemhkabjafeaa.M
open Go.Proofs (Try.prog Try.func54 Try.f54 Try.func58 Try.f58 Try.func99 Try.f99 Try.func59 Try.f59 Try.func60 Try.f60 Try.func57 Try.f57 Try.func48 Try.f48)

def f54 (p0 : Option Nat) (σ : St) : Option Int :=
  if p0.isNone = true then
  some 0
  else
  p0 >>= fun i5 =>
  (σ.t128[i5]?) >>= fun o6 =>
  if ((o6.2.2.2.1.length : Int) == 0) = true then
  some 0
  else
  (ix o6.2.2.2.1 0) >>= fun x9 =>
  x9 >>= fun i10 =>
  (σ.t130[i10]?) >>= fun o11 =>
  some o11.1

theorem f54_ok {p0 : Option Nat} {σ : St} {p : Int} (h : f54 p0 σ = some p) : Spec Try.prog 54 [.kv (.ptr 128) p0] (tabs σ) (.kv .i p) (tabs σ) := by
  refine Spec.intro Try.func54 (by kernel_rfl) rfl (by kernel_rfl) (fun a w G0 Ls hE hH hN => ?_)
  have hle : G0.le G0 := Gh.le_refl G0
  unfold f54 at h
  refine wp_seq_k (fun K hK1 => ?_)
  refine wp_region_from ?_
  refine segO 1 [] [(2, .kv .i 0)] (Os := []) trivial hE hH (by kernel_rfl) (fun a hE => ?_)
  refine wpFrom_end (by kernel_rfl) ?_
  refine Exit.then_normal (hK1 _ _ ?_)
  refine wp_seq_k (fun K hK2 => ?_)
  refine wp_seq_k (fun K hK3 => ?_)
  refine wp_region_from ?_
  refine segO 3 [] [(5, .kv .bool p0.isNone)] (Os := []) trivial hE hH (by kernel_rfl) (fun a hE => ?_)
  by_cases hc : p0.isNone = true
  · replace h := ifT hc h
    have hE := hE.setB 5 (by kernel_rfl) hc
    refine segO 7 [] [(12, .kv .bool true)] (Os := []) trivial hE hH (by kernel_rfl) (fun a hE => ?_)
    refine wpFrom_end (by kernel_rfl) ?_
    refine Exit.then_normal (hK3 _ _ ?_)
    refine condT hE (by kernel_rfl) rfl ?_
    refine wp_seq_k (fun K hK4 => ?_)
    refine wp_region_from ?_
    refine segO 1 [] [(2, .kv .i 0)] (Os := []) trivial hE hH (by kernel_rfl) (fun a hE => ?_)
    refine wpFrom_end (by kernel_rfl) ?_
    refine Exit.then_normal (hK4 _ _ ?_)
    refine wp_ret ?_
    refine Exit.then_ret ?_
    cases h
    exact ret1 rfl hE hle hH (by kernel_rfl)
  · replace h := ifN hc h
    have hE := hE.setB 5 (by kernel_rfl) (bf hc)
    obtain ⟨i5, hi5, h⟩ := bs h
    obtain ⟨o6, ho6, h⟩ := bs h
    refine segO 7 [.pt i5, .ob fs128 o6] [(12, .kv .bool ((o6.2.2.2.1.length : Int) == 0))] (Os := [_, _, _]) ⟨hi5, (ob128 (s := σ) ho6), (hN _ _ _ : holeAt 128 i5 3 (Ls) = none), trivial⟩ hE hH (by kernel_rfl) (fun a hE => ?_)
    refine wpFrom_end (by kernel_rfl) ?_
    refine Exit.then_normal (hK3 _ _ ?_)
    refine condE (b := (o6.2.2.2.1.length : Int) == 0) hE (by kernel_rfl) (fun hc => ?_) (fun hc => ?_)
    · replace h := ifT hc h
      refine wp_seq_k (fun K hK7 => ?_)
      refine wp_region_from ?_
      refine segO 1 [] [(2, .kv .i 0)] (Os := []) trivial hE hH (by kernel_rfl) (fun a hE => ?_)
      refine wpFrom_end (by kernel_rfl) ?_
      refine Exit.then_normal (hK7 _ _ ?_)
      refine wp_ret ?_
      refine Exit.then_ret ?_
      cases h
      exact ret1 rfl hE hle hH (by kernel_rfl)
    · replace h := ifF hc h
      refine wp_skip ?_
      refine Exit.then_normal (hK2 _ _ ?_)
      refine wp_seq_k (fun K hK8 => ?_)
      refine wp_region_from ?_
      obtain ⟨x9, hx9, h⟩ := bs h
      obtain ⟨i10, hi10, h⟩ := bs h
      obtain ⟨o11, ho11, h⟩ := bs h
      refine segO 10 [.pt i5, .ob fs128 o6, .ix (.ptr 130) x9, .pt i10, .ob fs130 o11] [(2, .kv .i o11.1)] (Os := [_, _, _, _, _, _]) ⟨hi5, (ob128 (s := σ) ho6), (hN _ _ _ : holeAt 128 i5 3 (Ls) = none), (IxAt.of (k := (.ptr 130)) hx9), hi10, (ob130 (s := σ) ho11), trivial⟩ hE hH (by kernel_rfl) (fun a hE => ?_)
      refine wpFrom_end (by kernel_rfl) ?_
      refine Exit.then_normal (hK8 _ _ ?_)
      refine wp_ret ?_
      cases h
      exact ret1 rfl hE hle hH (by kernel_rfl)

def f58_l0 (p0 : Option Nat) (p1 : Int) (σ : St) (x15 : Int) : Option Int :=
  p0 >>= fun i22 =>
  (σ.t128[i22]?) >>= fun o23 =>
  (ix o23.2.2.2.1 x15) >>= fun x24 =>
  x24 >>= fun i25 =>
  (σ.t130[i25]?) >>= fun o26 =>
  if (decide (o26.1 > p1)) = true then
  f58_l0 p0 p1 σ (IntKind.wrap .i64 (x15 - 1))
  else
  some (x15)
  partial_fixpoint

def f58 (p0 : Option Nat) (p1 : Int) (σ : St) : Option ((List UInt8) × Int) :=
  if p0.isNone = true then
  some ([], 1)
  else
  f54 p0 σ >>= fun r6 =>
  if (decide (p1 < r6)) = true then
  some ([], 13)
  else
  f55 p0 σ >>= fun r9 =>
  if (decide (p1 ≥ r9)) = true then
  some ([], 8)
  else
  p0 >>= fun i12 =>
  (σ.t128[i12]?) >>= fun o13 =>
  f58_l0 p0 p1 σ (IntKind.wrap .i64 ((o13.2.2.2.1.length : Int) - 1)) >>= fun z27 =>
  p0 >>= fun i30 =>
  (σ.t128[i30]?) >>= fun o31 =>
  (ix o31.2.2.2.1 z27) >>= fun x32 =>
  x32 >>= fun i33 =>
  (σ.t130[i33]?) >>= fun o34 =>
  (ix o31.2.2.2.1 z27) >>= fun x35 =>
  x35 >>= fun i36 =>
  (σ.t130[i36]?) >>= fun o37 =>
  (ix o34.2.1 (IntKind.wrap .i64 (p1 - o37.1))) >>= fun x38 =>
  some (x38, 0)

theorem f58_ok {p0 : Option Nat} {p1 : Int} {σ : St} {p : (List UInt8) × Int} (h : f58 p0 p1 σ = some p) : Spec Try.prog 58 [.kv (.ptr 128) p0, .kv .i p1] (tabs σ) (.tup [⟨.str, p.1⟩, ⟨.i, p.2⟩]) (tabs σ) := by
  refine Spec.intro Try.func58 (by kernel_rfl) rfl (by kernel_rfl) (fun a w G0 Ls hE hH hN => ?_)
  have hle : G0.le G0 := Gh.le_refl G0
  unfold f58 at h
  refine wp_seq_k (fun K hK1 => ?_)
  refine wp_region_from ?_
  refine segO 2 [] [(4, .kv .str []), (5, .kv .i 0)] (Os := []) trivial hE hH (by kernel_rfl) (fun a hE => ?_)
  refine wpFrom_end (by kernel_rfl) ?_
  refine Exit.then_normal (hK1 _ _ ?_)
  refine wp_seq_k (fun K hK2 => ?_)
  refine wp_block ?_
  refine wp_seq_k (fun K hK3 => ?_)
  refine wp_region_from ?_
  refine segO 3 [] [(7, .kv .bool p0.isNone)] (Os := []) trivial hE hH (by kernel_rfl) (fun a hE => ?_)
  refine wpFrom_end (by kernel_rfl) ?_
  refine Exit.then_normal (hK3 _ _ ?_)
  refine condE (b := p0.isNone) hE (by kernel_rfl) (fun hc => ?_) (fun hc => ?_)
  · replace h := ifT hc h
    refine wp_seq_k (fun K hK4 => ?_)
    refine wp_region_from ?_
    refine segO 2 [] [(4, .kv .str []), (5, .kv .i 1)] (Os := []) trivial hE hH (by kernel_rfl) (fun a hE => ?_)
    refine wpFrom_end (by kernel_rfl) ?_
    refine Exit.then_normal (hK4 _ _ ?_)
    refine wp_ret ?_
    refine Exit.in_ret ?_
    refine Exit.then_ret ?_
    cases h
    exact ret2 rfl hE hle hH (by kernel_rfl)
  · replace h := ifF hc h
    refine wp_seq_k (fun K hK5 => ?_)
    refine wp_region_from ?_
    refine segO 2 [] [(11, .kv .i p1), (12, .kv (.ptr 128) p0)] (Os := []) trivial hE hH (by kernel_rfl) (fun a hE => ?_)
    obtain ⟨r6, hr6, h⟩ := bs h
    refine stepCall (d := (some 13)) (f54_ok hr6) hE hH hN (by kernel_rfl) (by kernel_rfl) trivial (fun a w G hl1 hE hH => ?_)
    have hle := Gh.le_trans hle hl1
    refine segO 2 [] [(10, .kv .bool (decide (p1 < r6)))] (Os := []) trivial hE hH (by kernel_rfl) (fun a hE => ?_)
    refine wpFrom_end (by kernel_rfl) ?_
    refine Exit.then_normal (hK5 _ _ ?_)
    refine condE (b := decide (p1 < r6)) hE (by kernel_rfl) (fun hc => ?_) (fun hc => ?_)
    · replace h := ifT hc h
      refine wp_seq_k (fun K hK7 => ?_)
      refine wp_region_from ?_
      refine segO 2 [] [(4, .kv .str []), (5, .kv .i 13)] (Os := []) trivial hE hH (by kernel_rfl) (fun a hE => ?_)
      refine wpFrom_end (by kernel_rfl) ?_
      refine Exit.then_normal (hK7 _ _ ?_)
      refine wp_ret ?_
      refine Exit.in_ret ?_
      refine Exit.then_ret ?_
      cases h
      exact ret2 rfl hE hle hH (by kernel_rfl)
    · replace h := ifF hc h
      refine wp_seq_k (fun K hK8 => ?_)
      refine wp_region_from ?_
      refine segO 2 [] [(16, .kv .i p1), (17, .kv (.ptr 128) p0)] (Os := []) trivial hE hH (by kernel_rfl) (fun a hE => ?_)
      obtain ⟨r9, hr9, h⟩ := bs h
      refine stepCall (d := (some 18)) (f55_ok hr9) hE hH hN (by kernel_rfl) (by kernel_rfl) trivial (fun a w G hl2 hE hH => ?_)
      have hle := Gh.le_trans hle hl2
      refine segO 2 [] [(15, .kv .bool (decide (p1 ≥ r9)))] (Os := []) trivial hE hH (by kernel_rfl) (fun a hE => ?_)
      refine wpFrom_end (by kernel_rfl) ?_
      refine Exit.then_normal (hK8 _ _ ?_)
      refine condE (b := decide (p1 ≥ r9)) hE (by kernel_rfl) (fun hc => ?_) (fun hc => ?_)
      · replace h := ifT hc h
        refine wp_seq_k (fun K hK10 => ?_)
        refine wp_region_from ?_
        refine segO 2 [] [(4, .kv .str []), (5, .kv .i 8)] (Os := []) trivial hE hH (by kernel_rfl) (fun a hE => ?_)
        refine wpFrom_end (by kernel_rfl) ?_
        refine Exit.then_normal (hK10 _ _ ?_)
        refine wp_ret ?_
        refine Exit.in_ret ?_
        refine Exit.then_ret ?_
        cases h
        exact ret2 rfl hE hle hH (by kernel_rfl)
      · replace h := ifF hc h
        refine wp_skip ?_
        refine Exit.in_normal ?_
        refine Exit.then_normal (hK2 _ _ ?_)
        refine wp_seq_k (fun K hK11 => ?_)
        refine wp_region_from ?_
        obtain ⟨i12, hi12, h⟩ := bs h
        obtain ⟨o13, ho13, h⟩ := bs h
        refine segO 7 [.pt i12, .ob fs128 o13] [(6, .kv .i (IntKind.wrap .i64 ((o13.2.2.2.1.length : Int) - 1)))] (Os := [_, _, _]) ⟨hi12, (ob128 (s := σ) ho13), (hN _ _ _ : holeAt 128 i12 3 (Ls) = none), trivial⟩ hE hH (by kernel_rfl) (fun a hE => ?_)
        refine wpFrom_end (by kernel_rfl) ?_
        refine Exit.then_normal (hK11 _ _ ?_)
        refine wp_seq_k (fun K hK14 => ?_)
        refine wp_block ?_
        obtain ⟨z27, hz27, h⟩ := bs h
        refine loop_intro (fun Q16 c hQ hc => ?_)
        have key : ∀ (x15 : Int) (rr : Int), f58_l0 p0 p1 σ x15 = some rr → ∀ (a : Act) (w : World) (G : Gh), G0.le G → EnvR G 64 a [(0, .kv (.ptr 128) p0), (1, .kv .i p1), (4, .kv .str []), (5, .kv .i 0), (6, .kv .i x15)] → Holds w G (tabs σ) (Ls) → (∀ z28 : Int, rr = z28 → ∀ (a : Act) (w : World) (G : Gh), G0.le G → EnvR G 64 a [(0, .kv (.ptr 128) p0), (1, .kv .i p1), (4, .kv .str []), (5, .kv .i 0), (6, .kv .i z28)] → Holds w G (tabs σ) (Ls) → Q16 (.exit 1) a w) → Rnd Try.prog c Q16 a w := by
          refine f58_l0.partial_correctness p0 p1 σ _ ?_
          intro self ih19 x15 rr h a w G  hle hE hH hx17
          refine rnd_step' hc ?_
          refine wp_seq_k (fun K hK20 => ?_)
          refine wp_seq_k (fun K hK21 => ?_)
          refine wp_region_from ?_
          obtain ⟨i22, hi22, h⟩ := bs h
          obtain ⟨o23, ho23, h⟩ := bs h
          obtain ⟨x24, hx24, h⟩ := bs h
          obtain ⟨i25, hi25, h⟩ := bs h
          obtain ⟨o26, ho26, h⟩ := bs h
          refine segO 12 [.pt i22, .ob fs128 o23, .ix (.ptr 130) x24, .pt i25, .ob fs130 o26] [(37, .kv .bool (decide (o26.1 > p1)))] (Os := [_, _, _, _, _, _]) ⟨hi22, (ob128 (s := σ) ho23), (hN _ _ _ : holeAt 128 i22 3 (Ls) = none), (IxAt.of (k := (.ptr 130)) hx24), hi25, (ob130 (s := σ) ho26), trivial⟩ hE hH (by kernel_rfl) (fun a hE => ?_)
          refine wpFrom_end (by kernel_rfl) ?_
          refine Exit.then_normal (hK21 _ _ ?_)
          refine condE (b := decide (o26.1 > p1)) hE (by kernel_rfl) (fun hc => ?_) (fun hc => ?_)
          · replace h := ifT hc h
            refine wp_skip ?_
            refine Exit.then_normal (hK20 _ _ ?_)
            refine wp_block ?_
            refine wp_region_from ?_
            refine segO 3 [] [(6, .kv .i (IntKind.wrap .i64 (x15 - 1)))] (Os := []) trivial hE hH (by kernel_rfl) (fun a hE => ?_)
            refine wpFrom_end (by kernel_rfl) ?_
            refine Exit.in_normal ?_
            refine Exit.then_normal ?_
            exact ih19 _ _ h _ _ _  hle (hE.subC (by kernel_rfl)) hH hx17
          · replace h := ifF hc h
            refine wp_exit ?_
            refine Exit.then_exit ?_
            refine Exit.then_exit ?_
            cases h
            exact hx17 _ rfl _ _ _  hle (hE.subC (by kernel_rfl)) hH
        refine key _ _ hz27 _ _ _  hle (hE.subC (by kernel_rfl)) hH ?_
        · intro z28 hz a w G  hle hE hH
          subst hz
          rw [hQ]
          refine Exit.in_eq ?_
          refine Exit.then_normal (hK14 _ _ ?_)
          refine wp_seq_k (fun K hK29 => ?_)
          obtain ⟨i30, hi30, h⟩ := bs h
          obtain ⟨o31, ho31, h⟩ := bs h
          obtain ⟨x32, hx32, h⟩ := bs h
          obtain ⟨i33, hi33, h⟩ := bs h
          obtain ⟨o34, ho34, h⟩ := bs h
          obtain ⟨x35, hx35, h⟩ := bs h
          obtain ⟨i36, hi36, h⟩ := bs h
          obtain ⟨o37, ho37, h⟩ := bs h
          refine region_par 22 [] [(0, 0), (0, 0), (0, 0), (0, 0), (0, 0), (0, 0), (0, 0), (0, 0), (0, 0), (0, 0), (0, 0), (0, 0), (0, 0), (0, 0), (0, 0), (0, 0), (0, 0), (0, 0), (0, 0), (0, 0), (0, 0), (0, 0)] [.kv (.ptr 128) p0, .kv (.ptr 128) (some i30), .fldA 128 i30 3, .kv (.list (.ptr 130)) o31.2.2.2.1, .kv .i z27, .elA (.ptr 130) x32 0, .kv (.ptr 130) x32, .kv (.ptr 130) (some i33), .fldA 130 i33 1, .kv (.list .str) o34.2.1, .kv .i p1, .kv (.ptr 128) p0, .kv (.ptr 128) (some i30), .fldA 128 i30 3, .kv (.list (.ptr 130)) o31.2.2.2.1, .kv .i z27, .elA (.ptr 130) x35 0, .kv (.ptr 130) x35, .kv (.ptr 130) (some i36), .fldA 130 i36 0, .kv .i o37.1, .kv .i (IntKind.wrap .i64 (p1 - o37.1))] (fun _ => tabs σ) (fun _ => Ls) (by kernel_rfl) (by kernel_rfl) hE hH
                  ⟨⟨⟨⟨⟨⟨⟨⟨⟨⟨⟨⟨⟨⟨⟨⟨⟨⟨⟨⟨⟨⟨trivial,
                  anyk (fun k => obR [] (Os := []) trivial (by kernel_rfl) (by kernel_rfl))⟩,
                  anyk (fun k => obR [.pt i30] (Os := [_]) ⟨hi30, trivial⟩ (by kernel_rfl) (by kernel_rfl))⟩,
                  anyk (fun k => obR [] (Os := []) trivial (by kernel_rfl) (by kernel_rfl))⟩,
                  anyk (fun k => obR [.ob fs128 o31] (Os := [_, _]) ⟨(ob128 (s := σ) ho31), (hN _ _ _ : holeAt 128 i30 3 (Ls) = none), trivial⟩ (by kernel_rfl) (by kernel_rfl))⟩,
                  anyk (fun k => obR [] (Os := []) trivial (by kernel_rfl) (by kernel_rfl))⟩,
                  anyk (fun k => obR [.ix (.ptr 130) x32] (Os := [_]) ⟨(IxAt.of (k := (.ptr 130)) hx32), trivial⟩ (by kernel_rfl) (by kernel_rfl))⟩,
                  anyk (fun k => obR [] (Os := []) trivial (by kernel_rfl) (by kernel_rfl))⟩,
                  anyk (fun k => obR [.pt i33] (Os := [_]) ⟨hi33, trivial⟩ (by kernel_rfl) (by kernel_rfl))⟩,
                  anyk (fun k => obR [] (Os := []) trivial (by kernel_rfl) (by kernel_rfl))⟩,
                  anyk (fun k => obR [.ob fs130 o34] (Os := [_, _]) ⟨(ob130 (s := σ) ho34), (hN _ _ _ : holeAt 130 i33 1 (Ls) = none), trivial⟩ (by kernel_rfl) (by kernel_rfl))⟩,
                  anyk (fun k => obR [] (Os := []) trivial (by kernel_rfl) (by kernel_rfl))⟩,
                  anyk (fun k => obR [] (Os := []) trivial (by kernel_rfl) (by kernel_rfl))⟩,
                  anyk (fun k => obR [.pt i30] (Os := [_]) ⟨hi30, trivial⟩ (by kernel_rfl) (by kernel_rfl))⟩,
                  anyk (fun k => obR [] (Os := []) trivial (by kernel_rfl) (by kernel_rfl))⟩,
                  anyk (fun k => obR [.ob fs128 o31] (Os := [_, _]) ⟨(ob128 (s := σ) ho31), (hN _ _ _ : holeAt 128 i30 3 (Ls) = none), trivial⟩ (by kernel_rfl) (by kernel_rfl))⟩,
                  anyk (fun k => obR [] (Os := []) trivial (by kernel_rfl) (by kernel_rfl))⟩,
                  anyk (fun k => obR [.ix (.ptr 130) x35] (Os := [_]) ⟨(IxAt.of (k := (.ptr 130)) hx35), trivial⟩ (by kernel_rfl) (by kernel_rfl))⟩,
                  anyk (fun k => obR [] (Os := []) trivial (by kernel_rfl) (by kernel_rfl))⟩,
                  anyk (fun k => obR [.pt i36] (Os := [_]) ⟨hi36, trivial⟩ (by kernel_rfl) (by kernel_rfl))⟩,
                  anyk (fun k => obR [] (Os := []) trivial (by kernel_rfl) (by kernel_rfl))⟩,
                  anyk (fun k => obR [.ob fs130 o37] (Os := [_]) ⟨(ob130 (s := σ) ho37), trivial⟩ (by kernel_rfl) (by kernel_rfl))⟩,
                  anyk (fun k => obR [] (Os := []) trivial (by kernel_rfl) (by kernel_rfl))⟩ (fun a w G hl3 hE hH => ?_)
          have hle := Gh.le_trans hle hl3
          obtain ⟨x38, hx38, h⟩ := bs h
          refine segO 4 [.ix .str x38] [(4, .kv .str x38), (5, .kv .i 0)] (Os := [_]) ⟨(IxAt.of (k := .str) hx38), trivial⟩ hE hH (by kernel_rfl) (fun a hE => ?_)
          refine wpFrom_end (by kernel_rfl) ?_
          refine Exit.then_normal (hK29 _ _ ?_)
          refine wp_ret ?_
          cases h
          exact ret2 rfl hE hle hH (by kernel_rfl)

def f99 (p0 : Int) (p1 : List UInt8) : Option (List UInt8) :=
  f90 p0 >>= fun r3 =>
  if r3.length + p1.length ≤ 9223372036854775807 then
  f89 (r3 ++ p1) >>= fun r5 =>
  f90 (r5.length : Int) >>= fun r7 =>
  if r7.length + r5.length ≤ 9223372036854775807 then
  some (r7 ++ r5)
  else none
  else none

theorem f99_ok {p0 : Int} {p1 : List UInt8} {σ : St} {p : List UInt8} (h : f99 p0 p1 = some p) : Spec Try.prog 99 [.kv .i p0, .kv .str p1] (tabs σ) (.kv .str p) (tabs σ) := by
  refine Spec.intro Try.func99 (by kernel_rfl) rfl (by kernel_rfl) (fun a w G0 Ls hE hH hN => ?_)
  have hle : G0.le G0 := Gh.le_refl G0
  unfold f99 at h
  refine wp_seq_k (fun K hK1 => ?_)
  refine wp_region_from ?_
  refine segO 1 [] [(4, .kv .str [])] (Os := []) trivial hE hH (by kernel_rfl) (fun a hE => ?_)
  refine wpFrom_end (by kernel_rfl) ?_
  refine Exit.then_normal (hK1 _ _ ?_)
  refine wp_seq_k (fun K hK2 => ?_)
  refine wp_region_from ?_
  refine segO 1 [] [(6, .kv .i p0)] (Os := []) trivial hE hH (by kernel_rfl) (fun a hE => ?_)
  obtain ⟨r3, hr3, h⟩ := bs h
  refine stepCall (d := (some 7)) (f90_ok hr3) hE hH hN (by kernel_rfl) (by kernel_rfl) trivial (fun a w G hl1 hE hH => ?_)
  have hle := Gh.le_trans hle hl1
  obtain ⟨q4, h⟩ := gd h
  refine segO 2 [] [(9, .kv .str (r3 ++ p1))] (Os := [_]) ⟨q4, trivial⟩ hE hH (by kernel_rfl) (fun a hE => ?_)
  obtain ⟨r5, hr5, h⟩ := bs h
  refine stepCall (d := (some 10)) (f89_ok hr5) hE hH hN (by kernel_rfl) (by kernel_rfl) trivial (fun a w G hl2 hE hH => ?_)
  have hle := Gh.le_trans hle hl2
  refine segO 1 [] [(5, .kv .str r5)] (Os := []) trivial hE hH (by kernel_rfl) (fun a hE => ?_)
  refine wpFrom_end (by kernel_rfl) ?_
  refine Exit.then_normal (hK2 _ _ ?_)
  refine wp_seq_k (fun K hK6 => ?_)
  refine wp_region_from ?_
  refine segO 2 [] [(12, .kv .i (r5.length : Int))] (Os := []) trivial hE hH (by kernel_rfl) (fun a hE => ?_)
  obtain ⟨r7, hr7, h⟩ := bs h
  refine stepCall (d := (some 13)) (f90_ok hr7) hE hH hN (by kernel_rfl) (by kernel_rfl) trivial (fun a w G hl3 hE hH => ?_)
  have hle := Gh.le_trans hle hl3
  obtain ⟨q8, h⟩ := gd h
  refine segO 3 [] [(4, .kv .str (r7 ++ r5))] (Os := [_]) ⟨q8, trivial⟩ hE hH (by kernel_rfl) (fun a hE => ?_)
  refine wpFrom_end (by kernel_rfl) ?_
  refine Exit.then_normal (hK6 _ _ ?_)
  refine wp_ret ?_
  cases h
  exact ret1 rfl hE hle hH (by kernel_rfl)

def f59 (p0 : Option Nat) (p1 : List UInt8) (σ : St) : Option ((Int × Int) × St) :=
  if p0.isNone = true then
  some ((0, 1), σ)
  else
  if (decide ((p1.length : Int) > 1024)) = true then
  some ((0, 4), σ)
  else
  f55 p0 σ >>= fun r8 =>
  f97 p0 σ >>= fun r10 =>
  if r10.isNone = true then
  f61 p0 σ >>= fun r17 =>
  if (r17.1 != 0) = true then
  some ((0, r17.1), r17.2)
  else
  f99 r8 p1 >>= fun r21 =>
  p0 >>= fun i24 =>
  ((r17.2.add130 (r8, [], 0, ())).t128[i24]?) >>= fun o25 =>
  f98 p0 (some r17.2.t130.length) (r17.2.add130 (r8, [], 0, ())) >>= fun r26 =>
  f24 o25.1 r26 r21 (r17.2.add130 (r8, [], 0, ())) >>= fun r27 =>
  if (r27.1 != 0) = true then
  some ((0, r27.1), r27.2)
  else
  (r27.2.t130[r17.2.t130.length]?) >>= fun o31 =>
  if (o31.2.1.length + 1) * 16 ≤ 140737488355328 then
  (((r27.2.set130 r17.2.t130.length (o31.1, o31.2.1 ++ [p1], o31.2.2.1, ())).set130 r17.2.t130.length (o31.1, (o31.2.1 ++ [p1]), IntKind.wrap .i64 (o31.2.2.1 + (r21.length : Int)), ())).t128[i24]?) >>= fun o38 =>
  if (o38.2.2.2.1.length + 1) * 8 ≤ 140737488355328 then
  some ((r8, 0), (((r27.2.set130 r17.2.t130.length (o31.1, o31.2.1 ++ [p1], o31.2.2.1, ())).set130 r17.2.t130.length (o31.1, (o31.2.1 ++ [p1]), IntKind.wrap .i64 (o31.2.2.1 + (r21.length : Int)), ())).set128 i24 (o38.1, o38.2.1, o38.2.2.1, o38.2.2.2.1 ++ [some r17.2.t130.length], o38.2.2.2.2.1, ())))
  else none
  else none
  else
  r10 >>= fun i44 =>
  (σ.t130[i44]?) >>= fun o45 =>
  p0 >>= fun i46 =>
  (σ.t128[i46]?) >>= fun o47 =>
  if (decide (o45.2.2.1 ≥ o47.2.2.1)) = true then
  f61 p0 σ >>= fun r52 =>
  if (r52.1 != 0) = true then
  some ((0, r52.1), r52.2)
  else
  f99 r8 p1 >>= fun r56 =>
  ((r52.2.add130 (r8, [], 0, ())).t128[i46]?) >>= fun o59 =>
  f98 p0 (some r52.2.t130.length) (r52.2.add130 (r8, [], 0, ())) >>= fun r60 =>
  f24 o59.1 r60 r56 (r52.2.add130 (r8, [], 0, ())) >>= fun r61 =>
  if (r61.1 != 0) = true then
  some ((0, r61.1), r61.2)
  else
  (r61.2.t130[r52.2.t130.length]?) >>= fun o65 =>
  if (o65.2.1.length + 1) * 16 ≤ 140737488355328 then
  (if (decide (o45.2.2.1 ≥ o47.2.2.1)) = true then
  (((r61.2.set130 r52.2.t130.length (o65.1, o65.2.1 ++ [p1], o65.2.2.1, ())).set130 r52.2.t130.length (o65.1, (o65.2.1 ++ [p1]), IntKind.wrap .i64 (o65.2.2.1 + (r56.length : Int)), ())).t128[i46]?) >>= fun o76 =>
  if (o76.2.2.2.1.length + 1) * 8 ≤ 140737488355328 then
  some (((r61.2.set130 r52.2.t130.length (o65.1, o65.2.1 ++ [p1], o65.2.2.1, ())).set130 r52.2.t130.length (o65.1, (o65.2.1 ++ [p1]), IntKind.wrap .i64 (o65.2.2.1 + (r56.length : Int)), ())).set128 i46 (o76.1, o76.2.1, o76.2.2.1, o76.2.2.2.1 ++ [some r52.2.t130.length], o76.2.2.2.2.1, ()))
  else none
  else
  some ((r61.2.set130 r52.2.t130.length (o65.1, o65.2.1 ++ [p1], o65.2.2.1, ())).set130 r52.2.t130.length (o65.1, (o65.2.1 ++ [p1]), IntKind.wrap .i64 (o65.2.2.1 + (r56.length : Int)), ())) : Option St) >>= fun z73 =>
  some ((r8, 0), z73)
  else none
  else
  f99 r8 p1 >>= fun r81 =>
  f98 p0 r10 σ >>= fun r84 =>
  f24 o47.1 r84 r81 σ >>= fun r85 =>
  if (r85.1 != 0) = true then
  some ((0, r85.1), r85.2)
  else
  (r85.2.t130[i44]?) >>= fun o89 =>
  if (o89.2.1.length + 1) * 16 ≤ 140737488355328 then
  (if (decide (o45.2.2.1 ≥ o47.2.2.1)) = true then
  (((r85.2.set130 i44 (o89.1, o89.2.1 ++ [p1], o89.2.2.1, ())).set130 i44 (o89.1, (o89.2.1 ++ [p1]), IntKind.wrap .i64 (o89.2.2.1 + (r81.length : Int)), ())).t128[i46]?) >>= fun o100 =>
  if (o100.2.2.2.1.length + 1) * 8 ≤ 140737488355328 then
  some (((r85.2.set130 i44 (o89.1, o89.2.1 ++ [p1], o89.2.2.1, ())).set130 i44 (o89.1, (o89.2.1 ++ [p1]), IntKind.wrap .i64 (o89.2.2.1 + (r81.length : Int)), ())).set128 i46 (o100.1, o100.2.1, o100.2.2.1, o100.2.2.2.1 ++ [r10], o100.2.2.2.2.1, ()))
  else none
  else
  some ((r85.2.set130 i44 (o89.1, o89.2.1 ++ [p1], o89.2.2.1, ())).set130 i44 (o89.1, (o89.2.1 ++ [p1]), IntKind.wrap .i64 (o89.2.2.1 + (r81.length : Int)), ())) : Option St) >>= fun z97 =>
  some ((r8, 0), z97)
  else none

theorem f59_ok {p0 : Option Nat} {p1 : List UInt8} {σ : St} {p : (Int × Int) × St} (h : f59 p0 p1 σ = some p) : Spec Try.prog 59 [.kv (.ptr 128) p0, .kv .str p1] (tabs σ) (.tup [⟨.i, p.1.1⟩, ⟨.i, p.1.2⟩]) (tabs p.2) := by
  refine Spec.intro Try.func59 (by kernel_rfl) rfl (by kernel_rfl) (fun a w G0 Ls hE hH hN => ?_)
  have hle : G0.le G0 := Gh.le_refl G0
  unfold f59 at h
  refine wp_seq_k (fun K hK1 => ?_)
  refine wp_region_from ?_
  refine segO 2 [] [(4, .kv .i 0), (5, .kv .i 0)] (Os := []) trivial hE hH (by kernel_rfl) (fun a hE => ?_)
  refine wpFrom_end (by kernel_rfl) ?_
  refine Exit.then_normal (hK1 _ _ ?_)
  refine wp_seq_k (fun K hK2 => ?_)
  refine wp_block ?_
  refine wp_seq_k (fun K hK3 => ?_)
  refine wp_region_from ?_
  refine segO 3 [] [(12, .kv .bool p0.isNone)] (Os := []) trivial hE hH (by kernel_rfl) (fun a hE => ?_)
  refine wpFrom_end (by kernel_rfl) ?_
  refine Exit.then_normal (hK3 _ _ ?_)
  refine condE (b := p0.isNone) hE (by kernel_rfl) (fun hc => ?_) (fun hc => ?_)
  · replace h := ifT hc h
    refine wp_seq_k (fun K hK4 => ?_)
    refine wp_region_from ?_
    refine segO 2 [] [(4, .kv .i 0), (5, .kv .i 1)] (Os := []) trivial hE hH (by kernel_rfl) (fun a hE => ?_)
    refine wpFrom_end (by kernel_rfl) ?_
    refine Exit.then_normal (hK4 _ _ ?_)
    refine wp_ret ?_
    refine Exit.in_ret ?_
    refine Exit.then_ret ?_
    cases h
    exact ret2 rfl hE hle hH (by kernel_rfl)
  · replace h := ifF hc h
    refine wp_seq_k (fun K hK5 => ?_)
    refine wp_region_from ?_
    refine segO 4 [] [(15, .kv .bool (decide ((p1.length : Int) > 1024)))] (Os := []) trivial hE hH (by kernel_rfl) (fun a hE => ?_)
    refine wpFrom_end (by kernel_rfl) ?_
    refine Exit.then_normal (hK5 _ _ ?_)
    refine condE (b := decide ((p1.length : Int) > 1024)) hE (by kernel_rfl) (fun hc => ?_) (fun hc => ?_)
    · replace h := ifT hc h
      refine wp_seq_k (fun K hK6 => ?_)
      refine wp_region_from ?_
      refine segO 2 [] [(4, .kv .i 0), (5, .kv .i 4)] (Os := []) trivial hE hH (by kernel_rfl) (fun a hE => ?_)
      refine wpFrom_end (by kernel_rfl) ?_
      refine Exit.then_normal (hK6 _ _ ?_)
      refine wp_ret ?_
      refine Exit.in_ret ?_
      refine Exit.then_ret ?_
      cases h
      exact ret2 rfl hE hle hH (by kernel_rfl)
    · replace h := ifF hc h
      refine wp_skip ?_
      refine Exit.in_normal ?_
      refine Exit.then_normal (hK2 _ _ ?_)
      refine wp_seq_k (fun K hK7 => ?_)
      refine wp_region_from ?_
      refine segO 1 [] [(19, .kv (.ptr 128) p0)] (Os := []) trivial hE hH (by kernel_rfl) (fun a hE => ?_)
      obtain ⟨r8, hr8, h⟩ := bs h
      refine stepCall (d := (some 20)) (f55_ok hr8) hE hH hN (by kernel_rfl) (by kernel_rfl) trivial (fun a w G hl1 hE hH => ?_)
      have hle := Gh.le_trans hle hl1
      refine segO 1 [] [(6, .kv .i r8)] (Os := []) trivial hE hH (by kernel_rfl) (fun a hE => ?_)
      refine wpFrom_end (by kernel_rfl) ?_
      refine Exit.then_normal (hK7 _ _ ?_)
      refine wp_seq_k (fun K hK9 => ?_)
      refine wp_region_from ?_
      refine segO 1 [] [(21, .kv (.ptr 128) p0)] (Os := []) trivial hE hH (by kernel_rfl) (fun a hE => ?_)
      obtain ⟨r10, hr10, h⟩ := bs h
      refine stepCall (d := (some 22)) (f97_ok hr10) hE hH hN (by kernel_rfl) (by kernel_rfl) trivial (fun a w G hl2 hE hH => ?_)
      have hle := Gh.le_trans hle hl2
      refine segO 1 [] [(7, .kv (.ptr 130) r10)] (Os := []) trivial hE hH (by kernel_rfl) (fun a hE => ?_)
      refine wpFrom_end (by kernel_rfl) ?_
      refine Exit.then_normal (hK9 _ _ ?_)
      refine wp_seq_k (fun K hK11 => ?_)
      by_cases hc : r10.isNone = true
      · replace h := ifT hc h
        have c12 := hc
        refine region_par 11 [] [(0, 0), (0, 0), (0, 0), (0, 0), (0, 0), (0, 0), (0, 0), (0, 0), (0, 0), (0, 0), (0, 0)] [.kv (.ptr 130) r10, .kv .bool r10.isNone, .kv .bool true, .undef, .undef, .undef, .undef, .undef, .undef, .undef, .undef] (fun _ => tabs σ) (fun _ => Ls) (by kernel_rfl) (by kernel_rfl) hE hH
                ⟨⟨⟨⟨⟨⟨⟨⟨⟨⟨⟨trivial,
                anyk (fun k => obR [] (Os := []) trivial (by kernel_rfl) (by kernel_rfl))⟩,
                anyk (fun k => obR [] (Os := []) trivial (by kernel_rfl) (by kernel_rfl))⟩,
                anyk (fun k => obRe [] (Os := []) trivial (by kernel_rfl) (by kernel_rfl) (eb2 c12 rfl))⟩,
                anyk (fun k => obR [] (Os := []) trivial (by kernel_rfl) (by kernel_rfl))⟩,
                anyk (fun k => obR [] (Os := []) trivial (by kernel_rfl) (by kernel_rfl))⟩,
                anyk (fun k => obR [] (Os := []) trivial (by kernel_rfl) (by kernel_rfl))⟩,
                anyk (fun k => obR [] (Os := []) trivial (by kernel_rfl) (by kernel_rfl))⟩,
                anyk (fun k => obR [] (Os := []) trivial (by kernel_rfl) (by kernel_rfl))⟩,
                anyk (fun k => obR [] (Os := []) trivial (by kernel_rfl) (by kernel_rfl))⟩,
                anyk (fun k => obR [] (Os := []) trivial (by kernel_rfl) (by kernel_rfl))⟩,
                anyk (fun k => obR [] (Os := []) trivial (by kernel_rfl) (by kernel_rfl))⟩ (fun a w G hl3 hE hH => ?_)
        have hle := Gh.le_trans hle hl3
        refine segO 3 [] [(8, .kv .bool true)] (Os := []) trivial hE hH (by kernel_rfl) (fun a hE => ?_)
        refine wpFrom_end (by kernel_rfl) ?_
        refine Exit.then_normal (hK11 _ _ ?_)
        refine wp_seq_k (fun K hK13 => ?_)
        refine wp_seq_k (fun K hK14 => ?_)
        refine wp_region_from ?_
        refine segO 1 [] [(36, .kv .bool true)] (Os := []) trivial hE hH (by kernel_rfl) (fun a hE => ?_)
        refine wpFrom_end (by kernel_rfl) ?_
        refine Exit.then_normal (hK14 _ _ ?_)
        refine condT hE (by kernel_rfl) rfl ?_
        refine wp_seq_k (fun K hK15 => ?_)
        refine wp_seq_k (fun K hK16 => ?_)
        refine wp_region_from ?_
        refine segO 1 [] [(37, .kv (.ptr 128) p0)] (Os := []) trivial hE hH (by kernel_rfl) (fun a hE => ?_)
        obtain ⟨r17, hr17, h⟩ := bs h
        refine stepCall (d := (some 38)) (f61_ok hr17) hE hH hN (by kernel_rfl) (by kernel_rfl) trivial (fun a w G hl4 hE hH => ?_)
        have hle := Gh.le_trans hle hl4
        refine segO 1 [] [(9, .kv .i r17.1)] (Os := []) trivial hE hH (by kernel_rfl) (fun a hE => ?_)
        refine wpFrom_end (by kernel_rfl) ?_
        refine Exit.then_normal (hK16 _ _ ?_)
        refine wp_seq_k (fun K hK18 => ?_)
        refine wp_region_from ?_
        refine segO 2 [] [(40, .kv .bool (r17.1 != 0))] (Os := []) trivial hE hH (by kernel_rfl) (fun a hE => ?_)
        refine wpFrom_end (by kernel_rfl) ?_
        refine Exit.then_normal (hK18 _ _ ?_)
        refine condE (b := r17.1 != 0) hE (by kernel_rfl) (fun hc => ?_) (fun hc => ?_)
        · replace h := ifT hc h
          refine wp_seq_k (fun K hK19 => ?_)
          refine wp_region_from ?_
          refine segO 3 [] [(4, .kv .i 0), (5, .kv .i r17.1)] (Os := []) trivial hE hH (by kernel_rfl) (fun a hE => ?_)
          refine wpFrom_end (by kernel_rfl) ?_
          refine Exit.then_normal (hK19 _ _ ?_)
          refine wp_ret ?_
          refine Exit.then_ret ?_
          refine Exit.then_ret ?_
          cases h
          exact ret2 rfl hE hle hH (by kernel_rfl)
        · replace h := ifF hc h
          refine wp_skip ?_
          refine Exit.then_normal (hK15 _ _ ?_)
          refine wp_region_from ?_
          refine segO 1 [] [(42, .kv .i r8)] (Os := []) trivial hE hH (by kernel_rfl) (fun a hE => ?_)
          refine stepBuildV (d := (some 43)) (.agg #[.int .i64 r8, .slice none 0 0, .int .i64 0]) hE (by kernel_rfl) (by kernel_rfl) (fun a hE => ?_)
          refine stepNewX (t := 130) (fs := fs130) (x := (r8, [], 0, ())) (e := 130) (d := (some 44)) (.agg #[.int .i64 r8, .slice none 0 0, .int .i64 0]) hE hH hN (by kernel_rfl) (by kernel_rfl) (fun w2 G2 hG hn => ⟨[_], _, rfl, rfl, ⟨[_], _, rfl, (by rw [hn 1]; exact ⟨_, rfl, ownV_nil _ _ _ _ _ _⟩), ⟨[_], _, rfl, rfl, rfl⟩⟩⟩) (addT130 (s := r17.2) (x := (r8, [], 0, ()))) (fun a w G hl5 hE hH => ?_)
          have hle := Gh.le_trans hle hl5
          refine segO 1 [] [(7, .fldA 130 r17.2.t130.length 0)] (Os := []) trivial hE hH (by kernel_rfl) (fun a hE => ?_)
          refine wpFrom_end (by kernel_rfl) ?_
          refine Exit.then_normal (hK13 _ _ ?_)
          refine wp_seq_k (fun K hK20 => ?_)
          refine wp_region_from ?_
          refine segO 2 [] [(45, .kv .i r8), (46, .kv .str p1)] (Os := []) trivial hE hH (by kernel_rfl) (fun a hE => ?_)
          obtain ⟨r21, hr21, h⟩ := bs h
          refine stepCall (d := (some 47)) (f99_ok hr21) hE hH hN (by kernel_rfl) (by kernel_rfl) trivial (fun a w G hl6 hE hH => ?_)
          have hle := Gh.le_trans hle hl6
          refine segO 1 [] [(10, .kv .str r21)] (Os := []) trivial hE hH (by kernel_rfl) (fun a hE => ?_)
          refine wpFrom_end (by kernel_rfl) ?_
          refine Exit.then_normal (hK20 _ _ ?_)
          refine wp_seq_k (fun K hK22 => ?_)
          refine wp_seq_k (fun K hK23 => ?_)
          obtain ⟨i24, hi24, h⟩ := bs h
          obtain ⟨o25, ho25, h⟩ := bs h
          obtain ⟨r26, hr26, h⟩ := bs h
          refine region_par 8 [6] [(0, 1), (0, 1), (0, 1), (0, 1), (0, 0), (0, 0), (0, 0), (0, 1)] [.kv (.ptr 128) p0, .kv (.ptr 128) (some i24), .fldA 128 i24 0, .kv (.ptr 105) o25.1, .kv (.ptr 128) p0, .fldA 130 r17.2.t130.length 0, .kv .str r26, .kv .str r21] (fun _ => tabs (r17.2.add130 (r8, [], 0, ()))) (fun _ => Ls) (by kernel_rfl) (by kernel_rfl) hE hH
                  ⟨⟨⟨⟨⟨⟨⟨⟨trivial,
                  anyk (fun k => obR [] (Os := []) trivial (by kernel_rfl) (by kernel_rfl))⟩,
                  anyk (fun k => obR [.pt i24] (Os := [_]) ⟨hi24, trivial⟩ (by kernel_rfl) (by kernel_rfl))⟩,
                  anyk (fun k => obR [] (Os := []) trivial (by kernel_rfl) (by kernel_rfl))⟩,
                  anyk (fun k => obR [.ob fs128 o25] (Os := [_]) ⟨(ob128 (s := (r17.2.add130 (r8, [], 0, ()))) ho25), trivial⟩ (by kernel_rfl) (by kernel_rfl))⟩,
                  anyk (fun k => obR [] (Os := []) trivial (by kernel_rfl) (by kernel_rfl))⟩,
                  anyk (fun k => obR [] (Os := []) trivial (by kernel_rfl) (by kernel_rfl))⟩,
                  one (obC (k := 0) (d := (some 54)) (f98_ok hr26) rfl hN (by kernel_rfl) (by kernel_rfl) rfl trivial)⟩,
                  anyk (fun k => obR [] (Os := []) trivial (by kernel_rfl) (by kernel_rfl))⟩ (fun a w G hl7 hE hH => ?_)
          have hle := Gh.le_trans hle hl7
          obtain ⟨r27, hr27, h⟩ := bs h
          refine stepCall (d := (some 56)) (f24_ok hr27) hE hH hN (by kernel_rfl) (by kernel_rfl) trivial (fun a w G hl8 hE hH => ?_)
          have hle := Gh.le_trans hle hl8
          refine segO 1 [] [(11, .kv .i r27.1)] (Os := []) trivial hE hH (by kernel_rfl) (fun a hE => ?_)
          refine wpFrom_end (by kernel_rfl) ?_
          refine Exit.then_normal (hK23 _ _ ?_)
          refine wp_seq_k (fun K hK28 => ?_)
          refine wp_region_from ?_
          refine segO 2 [] [(58, .kv .bool (r27.1 != 0))] (Os := []) trivial hE hH (by kernel_rfl) (fun a hE => ?_)
          refine wpFrom_end (by kernel_rfl) ?_
          refine Exit.then_normal (hK28 _ _ ?_)
          refine condE (b := r27.1 != 0) hE (by kernel_rfl) (fun hc => ?_) (fun hc => ?_)
          · replace h := ifT hc h
            refine wp_seq_k (fun K hK29 => ?_)
            refine wp_region_from ?_
            refine segO 3 [] [(4, .kv .i 0), (5, .kv .i r27.1)] (Os := []) trivial hE hH (by kernel_rfl) (fun a hE => ?_)
            refine wpFrom_end (by kernel_rfl) ?_
            refine Exit.then_normal (hK29 _ _ ?_)
            refine wp_ret ?_
            refine Exit.then_ret ?_
            cases h
            exact ret2 rfl hE hle hH (by kernel_rfl)
          · replace h := ifF hc h
            refine wp_skip ?_
            refine Exit.then_normal (hK22 _ _ ?_)
            refine wp_seq_k (fun K hK30 => ?_)
            refine wp_region_from ?_
            refine segO 4 [] [(60, .fldA 130 r17.2.t130.length 0), (63, .fldA 130 r17.2.t130.length 1)] (Os := []) trivial hE hH (by kernel_rfl) (fun a hE => ?_)
            obtain ⟨o31, ho31, h⟩ := bs h
            refine stepTake (t := 130) (j := r17.2.t130.length) (off := 1) (fs := fs130) (x := o31) (g := 1) (e := 9) (bt := 16) (q := ⟨.str, o31.2.1⟩) (d := (some 64)) hE hH hN (by kernel_rfl) (ob130 (s := r27.2) ho31) (by kernel_rfl) (by kernel_rfl) (fun v32 a w G hl9 hE hH => ?_)
            have hle := Gh.le_trans hle hl9
            refine segO 1 [] [(65, .kv .str p1)] (Os := []) trivial hE hH (by kernel_rfl) (fun a hE => ?_)
            refine stepBuildS (d := (some 66)) .str [p1] hE hH (by kernel_rfl) (by kernel_rfl) (fun a w G hl10 hE hH => ?_)
            have hle := Gh.le_trans hle hl10
            obtain ⟨q33, h⟩ := gd h
            refine stepApp (e := 0) (bt := 16) (ys := [p1]) (e' := 9) (d := (some 67)) 0 hE hH (by kernel_rfl) rfl (by kernel_rfl) q33 (fun v34 a w G hl11 hE hH => ?_)
            have hle := Gh.le_trans hle hl11
            refine segO 2 [] [(69, .fldA 130 r17.2.t130.length 1)] (Os := []) trivial hE hH (by kernel_rfl) (fun a hE => ?_)
            refine stepPutH (t := 130) (j := r17.2.t130.length) (off := 1) (fs := fs130) (x := o31) (x' := (o31.1, o31.2.1 ++ [p1], o31.2.2.1, ())) (g := 1) (e := 9) (bt := 16) (q := ⟨.str, o31.2.1⟩) (ys := (o31.2.1 ++ [p1])) (v := v34) (L2 := Ls) hE hH hN (by kernel_rfl) (ob130 (s := r27.2) ho31) (by kernel_rfl) (by kernel_rfl) (upd130 (s := r27.2)) (fun w G hl12 hE hH => ?_)
            have hle := Gh.le_trans hle hl12
            refine wpFrom_end (by kernel_rfl) ?_
            refine Exit.then_normal (hK30 _ _ ?_)
            refine wp_seq_k (fun K hK35 => ?_)
            refine wp_region_from ?_
            refine segO 9 [.ob fs130 (o31.1, o31.2.1 ++ [p1], o31.2.2.1, ())] [(76, .kv .i (IntKind.wrap .i64 (o31.2.2.1 + (r21.length : Int)))), (78, .fldA 130 r17.2.t130.length 2)] (Os := [_]) ⟨(ob130 (s := (r27.2.set130 r17.2.t130.length (o31.1, o31.2.1 ++ [p1], o31.2.2.1, ()))) (set130_get (s := r27.2) (x := (o31.1, o31.2.1 ++ [p1], o31.2.2.1, ())) ho31)), trivial⟩ hE hH (by kernel_rfl) (fun a hE => ?_)
            refine stepStO (t := 130) (j := r17.2.t130.length) (off := 2) .i (IntKind.wrap .i64 (o31.2.2.1 + (r21.length : Int))) (x' := (o31.1, (o31.2.1 ++ [p1]), IntKind.wrap .i64 (o31.2.2.1 + (r21.length : Int)), ())) hE hH (by kernel_rfl) (ob130 (s := (r27.2.set130 r17.2.t130.length (o31.1, o31.2.1 ++ [p1], o31.2.2.1, ()))) (set130_get (s := r27.2) (x := (o31.1, o31.2.1 ++ [p1], o31.2.2.1, ())) ho31)) (by kernel_rfl) (upd130 (s := (r27.2.set130 r17.2.t130.length (o31.1, o31.2.1 ++ [p1], o31.2.2.1, ())))) (fun w G hl13 hE hH => ?_)
            have hle := Gh.le_trans hle hl13
            refine wpFrom_end (by kernel_rfl) ?_
            refine Exit.then_normal (hK35 _ _ ?_)
            refine wp_seq_k (fun K hK36 => ?_)
            refine wp_seq_k (fun K hK37 => ?_)
            refine wp_region_from ?_
            refine segO 1 [] [(79, .kv .bool true)] (Os := []) trivial hE hH (by kernel_rfl) (fun a hE => ?_)
            refine wpFrom_end (by kernel_rfl) ?_
            refine Exit.then_normal (hK37 _ _ ?_)
            refine condT hE (by kernel_rfl) rfl ?_
            refine wp_region_from ?_
            refine segO 4 [.pt i24] [(80, .kv (.ptr 128) p0), (83, .fldA 128 i24 3)] (Os := [_]) ⟨hi24, trivial⟩ hE hH (by kernel_rfl) (fun a hE => ?_)
            obtain ⟨o38, ho38, h⟩ := bs h
            refine stepTake (t := 128) (j := i24) (off := 3) (fs := fs128) (x := o38) (g := 3) (e := 131) (bt := 8) (q := ⟨(.ptr 130), o38.2.2.2.1⟩) (d := (some 84)) hE hH hN (by kernel_rfl) (ob128 (s := ((r27.2.set130 r17.2.t130.length (o31.1, o31.2.1 ++ [p1], o31.2.2.1, ())).set130 r17.2.t130.length (o31.1, (o31.2.1 ++ [p1]), IntKind.wrap .i64 (o31.2.2.1 + (r21.length : Int)), ()))) ho38) (by kernel_rfl) (by kernel_rfl) (fun v39 a w G hl14 hE hH => ?_)
            have hle := Gh.le_trans hle hl14
            refine segO 1 [] [(85, .fldA 130 r17.2.t130.length 0)] (Os := []) trivial hE hH (by kernel_rfl) (fun a hE => ?_)
            refine stepBuildS (d := (some 86)) (.ptr 130) [some r17.2.t130.length] hE hH (by kernel_rfl) (by kernel_rfl) (fun a w G hl15 hE hH => ?_)
            have hle := Gh.le_trans hle hl15
            obtain ⟨q40, h⟩ := gd h
            refine stepApp (e := 0) (bt := 8) (ys := [some r17.2.t130.length]) (e' := 131) (d := (some 87)) 0 hE hH (by kernel_rfl) rfl (by kernel_rfl) q40 (fun v41 a w G hl16 hE hH => ?_)
            have hle := Gh.le_trans hle hl16
            refine segO 2 [.pt i24] [(89, .fldA 128 i24 3)] (Os := [_]) ⟨hi24, trivial⟩ hE hH (by kernel_rfl) (fun a hE => ?_)
            refine stepPutH (t := 128) (j := i24) (off := 3) (fs := fs128) (x := o38) (x' := (o38.1, o38.2.1, o38.2.2.1, o38.2.2.2.1 ++ [some r17.2.t130.length], o38.2.2.2.2.1, ())) (g := 3) (e := 131) (bt := 8) (q := ⟨(.ptr 130), o38.2.2.2.1⟩) (ys := (o38.2.2.2.1 ++ [some r17.2.t130.length])) (v := v41) (L2 := Ls) hE hH hN (by kernel_rfl) (ob128 (s := ((r27.2.set130 r17.2.t130.length (o31.1, o31.2.1 ++ [p1], o31.2.2.1, ())).set130 r17.2.t130.length (o31.1, (o31.2.1 ++ [p1]), IntKind.wrap .i64 (o31.2.2.1 + (r21.length : Int)), ()))) ho38) (by kernel_rfl) (by kernel_rfl) (upd128 (s := ((r27.2.set130 r17.2.t130.length (o31.1, o31.2.1 ++ [p1], o31.2.2.1, ())).set130 r17.2.t130.length (o31.1, (o31.2.1 ++ [p1]), IntKind.wrap .i64 (o31.2.2.1 + (r21.length : Int)), ())))) (fun w G hl17 hE hH => ?_)
            have hle := Gh.le_trans hle hl17
            refine wpFrom_end (by kernel_rfl) ?_
            refine Exit.then_normal (hK36 _ _ ?_)
            refine wp_seq_k (fun K hK42 => ?_)
            refine wp_region_from ?_
            refine segO 3 [] [(4, .kv .i r8), (5, .kv .i 0)] (Os := []) trivial hE hH (by kernel_rfl) (fun a hE => ?_)
            refine wpFrom_end (by kernel_rfl) ?_
            refine Exit.then_normal (hK42 _ _ ?_)
            refine wp_ret ?_
            cases h
            exact ret2 rfl hE hle hH (by kernel_rfl)
      · replace h := ifN hc h
        have c43 := hc
        obtain ⟨i44, hi44, h⟩ := bs h
        obtain ⟨o45, ho45, h⟩ := bs h
        obtain ⟨i46, hi46, h⟩ := bs h
        obtain ⟨o47, ho47, h⟩ := bs h
        refine region_par 11 [] [(0, 0), (0, 0), (0, 0), (0, 0), (0, 0), (0, 0), (0, 0), (0, 0), (0, 0), (0, 0), (0, 0)] [.kv (.ptr 130) r10, .kv .bool r10.isNone, .kv .bool false, .kv (.ptr 130) r10, .kv (.ptr 130) (some i44), .fldA 130 i44 2, .kv .i o45.2.2.1, .kv (.ptr 128) p0, .kv (.ptr 128) (some i46), .fldA 128 i46 2, .kv .i o47.2.2.1] (fun _ => tabs σ) (fun _ => Ls) (by kernel_rfl) (by kernel_rfl) hE hH
                ⟨⟨⟨⟨⟨⟨⟨⟨⟨⟨⟨trivial,
                anyk (fun k => obR [] (Os := []) trivial (by kernel_rfl) (by kernel_rfl))⟩,
                anyk (fun k => obR [] (Os := []) trivial (by kernel_rfl) (by kernel_rfl))⟩,
                anyk (fun k => obRe [] (Os := []) trivial (by kernel_rfl) (by kernel_rfl) (eb2 (bf c43) rfl))⟩,
                anyk (fun k => obR [] (Os := []) trivial (by kernel_rfl) (by kernel_rfl))⟩,
                anyk (fun k => obR [.pt i44] (Os := [_]) ⟨hi44, trivial⟩ (by kernel_rfl) (by kernel_rfl))⟩,
                anyk (fun k => obR [] (Os := []) trivial (by kernel_rfl) (by kernel_rfl))⟩,
                anyk (fun k => obR [.ob fs130 o45] (Os := [_]) ⟨(ob130 (s := σ) ho45), trivial⟩ (by kernel_rfl) (by kernel_rfl))⟩,
                anyk (fun k => obR [] (Os := []) trivial (by kernel_rfl) (by kernel_rfl))⟩,
                anyk (fun k => obR [.pt i46] (Os := [_]) ⟨hi46, trivial⟩ (by kernel_rfl) (by kernel_rfl))⟩,
                anyk (fun k => obR [] (Os := []) trivial (by kernel_rfl) (by kernel_rfl))⟩,
                anyk (fun k => obR [.ob fs128 o47] (Os := [_]) ⟨(ob128 (s := σ) ho47), trivial⟩ (by kernel_rfl) (by kernel_rfl))⟩ (fun a w G hl18 hE hH => ?_)
        have hle := Gh.le_trans hle hl18
        refine segO 3 [] [(8, .kv .bool (decide (o45.2.2.1 ≥ o47.2.2.1)))] (Os := []) trivial hE hH (by kernel_rfl) (fun a hE => ?_)
        refine wpFrom_end (by kernel_rfl) ?_
        refine Exit.then_normal (hK11 _ _ ?_)
        refine wp_seq_k (fun K hK48 => ?_)
        refine wp_seq_k (fun K hK49 => ?_)
        refine wp_region_from ?_
        refine segO 1 [] [(36, .kv .bool (decide (o45.2.2.1 ≥ o47.2.2.1)))] (Os := []) trivial hE hH (by kernel_rfl) (fun a hE => ?_)
        refine wpFrom_end (by kernel_rfl) ?_
        refine Exit.then_normal (hK49 _ _ ?_)
        refine condE (b := decide (o45.2.2.1 ≥ o47.2.2.1)) hE (by kernel_rfl) (fun hc => ?_) (fun hc => ?_)
        · replace h := ifT hc h
          refine wp_seq_k (fun K hK50 => ?_)
          refine wp_seq_k (fun K hK51 => ?_)
          refine wp_region_from ?_
          refine segO 1 [] [(37, .kv (.ptr 128) p0)] (Os := []) trivial hE hH (by kernel_rfl) (fun a hE => ?_)
          obtain ⟨r52, hr52, h⟩ := bs h
          refine stepCall (d := (some 38)) (f61_ok hr52) hE hH hN (by kernel_rfl) (by kernel_rfl) trivial (fun a w G hl19 hE hH => ?_)
          have hle := Gh.le_trans hle hl19
          refine segO 1 [] [(9, .kv .i r52.1)] (Os := []) trivial hE hH (by kernel_rfl) (fun a hE => ?_)
          refine wpFrom_end (by kernel_rfl) ?_
          refine Exit.then_normal (hK51 _ _ ?_)
          refine wp_seq_k (fun K hK53 => ?_)
          refine wp_region_from ?_
          refine segO 2 [] [(40, .kv .bool (r52.1 != 0))] (Os := []) trivial hE hH (by kernel_rfl) (fun a hE => ?_)
          refine wpFrom_end (by kernel_rfl) ?_
          refine Exit.then_normal (hK53 _ _ ?_)
          refine condE (b := r52.1 != 0) hE (by kernel_rfl) (fun hc => ?_) (fun hc => ?_)
          · replace h := ifT hc h
            refine wp_seq_k (fun K hK54 => ?_)
            refine wp_region_from ?_
            refine segO 3 [] [(4, .kv .i 0), (5, .kv .i r52.1)] (Os := []) trivial hE hH (by kernel_rfl) (fun a hE => ?_)
            refine wpFrom_end (by kernel_rfl) ?_
            refine Exit.then_normal (hK54 _ _ ?_)
            refine wp_ret ?_
            refine Exit.then_ret ?_
            refine Exit.then_ret ?_
            cases h
            exact ret2 rfl hE hle hH (by kernel_rfl)
          · replace h := ifF hc h
            refine wp_skip ?_
            refine Exit.then_normal (hK50 _ _ ?_)
            refine wp_region_from ?_
            refine segO 1 [] [(42, .kv .i r8)] (Os := []) trivial hE hH (by kernel_rfl) (fun a hE => ?_)
            refine stepBuildV (d := (some 43)) (.agg #[.int .i64 r8, .slice none 0 0, .int .i64 0]) hE (by kernel_rfl) (by kernel_rfl) (fun a hE => ?_)
            refine stepNewX (t := 130) (fs := fs130) (x := (r8, [], 0, ())) (e := 130) (d := (some 44)) (.agg #[.int .i64 r8, .slice none 0 0, .int .i64 0]) hE hH hN (by kernel_rfl) (by kernel_rfl) (fun w2 G2 hG hn => ⟨[_], _, rfl, rfl, ⟨[_], _, rfl, (by rw [hn 1]; exact ⟨_, rfl, ownV_nil _ _ _ _ _ _⟩), ⟨[_], _, rfl, rfl, rfl⟩⟩⟩) (addT130 (s := r52.2) (x := (r8, [], 0, ()))) (fun a w G hl20 hE hH => ?_)
            have hle := Gh.le_trans hle hl20
            refine segO 1 [] [(7, .fldA 130 r52.2.t130.length 0)] (Os := []) trivial hE hH (by kernel_rfl) (fun a hE => ?_)
            refine wpFrom_end (by kernel_rfl) ?_
            refine Exit.then_normal (hK48 _ _ ?_)
            refine wp_seq_k (fun K hK55 => ?_)
            refine wp_region_from ?_
            refine segO 2 [] [(45, .kv .i r8), (46, .kv .str p1)] (Os := []) trivial hE hH (by kernel_rfl) (fun a hE => ?_)
            obtain ⟨r56, hr56, h⟩ := bs h
            refine stepCall (d := (some 47)) (f99_ok hr56) hE hH hN (by kernel_rfl) (by kernel_rfl) trivial (fun a w G hl21 hE hH => ?_)
            have hle := Gh.le_trans hle hl21
            refine segO 1 [] [(10, .kv .str r56)] (Os := []) trivial hE hH (by kernel_rfl) (fun a hE => ?_)
            refine wpFrom_end (by kernel_rfl) ?_
            refine Exit.then_normal (hK55 _ _ ?_)
            refine wp_seq_k (fun K hK57 => ?_)
            refine wp_seq_k (fun K hK58 => ?_)
            obtain ⟨o59, ho59, h⟩ := bs h
            obtain ⟨r60, hr60, h⟩ := bs h
            refine region_par 8 [6] [(0, 1), (0, 1), (0, 1), (0, 1), (0, 0), (0, 0), (0, 0), (0, 1)] [.kv (.ptr 128) p0, .kv (.ptr 128) (some i46), .fldA 128 i46 0, .kv (.ptr 105) o59.1, .kv (.ptr 128) p0, .fldA 130 r52.2.t130.length 0, .kv .str r60, .kv .str r56] (fun _ => tabs (r52.2.add130 (r8, [], 0, ()))) (fun _ => Ls) (by kernel_rfl) (by kernel_rfl) hE hH
                    ⟨⟨⟨⟨⟨⟨⟨⟨trivial,
                    anyk (fun k => obR [] (Os := []) trivial (by kernel_rfl) (by kernel_rfl))⟩,
                    anyk (fun k => obR [.pt i46] (Os := [_]) ⟨hi46, trivial⟩ (by kernel_rfl) (by kernel_rfl))⟩,
                    anyk (fun k => obR [] (Os := []) trivial (by kernel_rfl) (by kernel_rfl))⟩,
                    anyk (fun k => obR [.ob fs128 o59] (Os := [_]) ⟨(ob128 (s := (r52.2.add130 (r8, [], 0, ()))) ho59), trivial⟩ (by kernel_rfl) (by kernel_rfl))⟩,
                    anyk (fun k => obR [] (Os := []) trivial (by kernel_rfl) (by kernel_rfl))⟩,
                    anyk (fun k => obR [] (Os := []) trivial (by kernel_rfl) (by kernel_rfl))⟩,
                    one (obC (k := 0) (d := (some 54)) (f98_ok hr60) rfl hN (by kernel_rfl) (by kernel_rfl) rfl trivial)⟩,
                    anyk (fun k => obR [] (Os := []) trivial (by kernel_rfl) (by kernel_rfl))⟩ (fun a w G hl22 hE hH => ?_)
            have hle := Gh.le_trans hle hl22
            obtain ⟨r61, hr61, h⟩ := bs h
            refine stepCall (d := (some 56)) (f24_ok hr61) hE hH hN (by kernel_rfl) (by kernel_rfl) trivial (fun a w G hl23 hE hH => ?_)
            have hle := Gh.le_trans hle hl23
            refine segO 1 [] [(11, .kv .i r61.1)] (Os := []) trivial hE hH (by kernel_rfl) (fun a hE => ?_)
            refine wpFrom_end (by kernel_rfl) ?_
            refine Exit.then_normal (hK58 _ _ ?_)
            refine wp_seq_k (fun K hK62 => ?_)
            refine wp_region_from ?_
            refine segO 2 [] [(58, .kv .bool (r61.1 != 0))] (Os := []) trivial hE hH (by kernel_rfl) (fun a hE => ?_)
            refine wpFrom_end (by kernel_rfl) ?_
            refine Exit.then_normal (hK62 _ _ ?_)
            refine condE (b := r61.1 != 0) hE (by kernel_rfl) (fun hc => ?_) (fun hc => ?_)
            · replace h := ifT hc h
              refine wp_seq_k (fun K hK63 => ?_)
              refine wp_region_from ?_
              refine segO 3 [] [(4, .kv .i 0), (5, .kv .i r61.1)] (Os := []) trivial hE hH (by kernel_rfl) (fun a hE => ?_)
              refine wpFrom_end (by kernel_rfl) ?_
              refine Exit.then_normal (hK63 _ _ ?_)
              refine wp_ret ?_
              refine Exit.then_ret ?_
              cases h
              exact ret2 rfl hE hle hH (by kernel_rfl)
            · replace h := ifF hc h
              refine wp_skip ?_
              refine Exit.then_normal (hK57 _ _ ?_)
              refine wp_seq_k (fun K hK64 => ?_)
              refine wp_region_from ?_
              refine segO 4 [] [(60, .fldA 130 r52.2.t130.length 0), (63, .fldA 130 r52.2.t130.length 1)] (Os := []) trivial hE hH (by kernel_rfl) (fun a hE => ?_)
              obtain ⟨o65, ho65, h⟩ := bs h
              refine stepTake (t := 130) (j := r52.2.t130.length) (off := 1) (fs := fs130) (x := o65) (g := 1) (e := 9) (bt := 16) (q := ⟨.str, o65.2.1⟩) (d := (some 64)) hE hH hN (by kernel_rfl) (ob130 (s := r61.2) ho65) (by kernel_rfl) (by kernel_rfl) (fun v66 a w G hl24 hE hH => ?_)
              have hle := Gh.le_trans hle hl24
              refine segO 1 [] [(65, .kv .str p1)] (Os := []) trivial hE hH (by kernel_rfl) (fun a hE => ?_)
              refine stepBuildS (d := (some 66)) .str [p1] hE hH (by kernel_rfl) (by kernel_rfl) (fun a w G hl25 hE hH => ?_)
              have hle := Gh.le_trans hle hl25
              obtain ⟨q67, h⟩ := gd h
              refine stepApp (e := 0) (bt := 16) (ys := [p1]) (e' := 9) (d := (some 67)) 0 hE hH (by kernel_rfl) rfl (by kernel_rfl) q67 (fun v68 a w G hl26 hE hH => ?_)
              have hle := Gh.le_trans hle hl26
              refine segO 2 [] [(69, .fldA 130 r52.2.t130.length 1)] (Os := []) trivial hE hH (by kernel_rfl) (fun a hE => ?_)
              refine stepPutH (t := 130) (j := r52.2.t130.length) (off := 1) (fs := fs130) (x := o65) (x' := (o65.1, o65.2.1 ++ [p1], o65.2.2.1, ())) (g := 1) (e := 9) (bt := 16) (q := ⟨.str, o65.2.1⟩) (ys := (o65.2.1 ++ [p1])) (v := v68) (L2 := Ls) hE hH hN (by kernel_rfl) (ob130 (s := r61.2) ho65) (by kernel_rfl) (by kernel_rfl) (upd130 (s := r61.2)) (fun w G hl27 hE hH => ?_)
              have hle := Gh.le_trans hle hl27
              refine wpFrom_end (by kernel_rfl) ?_
              refine Exit.then_normal (hK64 _ _ ?_)
              refine wp_seq_k (fun K hK69 => ?_)
              refine wp_region_from ?_
              refine segO 9 [.ob fs130 (o65.1, o65.2.1 ++ [p1], o65.2.2.1, ())] [(76, .kv .i (IntKind.wrap .i64 (o65.2.2.1 + (r56.length : Int)))), (78, .fldA 130 r52.2.t130.length 2)] (Os := [_]) ⟨(ob130 (s := (r61.2.set130 r52.2.t130.length (o65.1, o65.2.1 ++ [p1], o65.2.2.1, ()))) (set130_get (s := r61.2) (x := (o65.1, o65.2.1 ++ [p1], o65.2.2.1, ())) ho65)), trivial⟩ hE hH (by kernel_rfl) (fun a hE => ?_)
              refine stepStO (t := 130) (j := r52.2.t130.length) (off := 2) .i (IntKind.wrap .i64 (o65.2.2.1 + (r56.length : Int))) (x' := (o65.1, (o65.2.1 ++ [p1]), IntKind.wrap .i64 (o65.2.2.1 + (r56.length : Int)), ())) hE hH (by kernel_rfl) (ob130 (s := (r61.2.set130 r52.2.t130.length (o65.1, o65.2.1 ++ [p1], o65.2.2.1, ()))) (set130_get (s := r61.2) (x := (o65.1, o65.2.1 ++ [p1], o65.2.2.1, ())) ho65)) (by kernel_rfl) (upd130 (s := (r61.2.set130 r52.2.t130.length (o65.1, o65.2.1 ++ [p1], o65.2.2.1, ())))) (fun w G hl28 hE hH => ?_)
              have hle := Gh.le_trans hle hl28
              refine wpFrom_end (by kernel_rfl) ?_
              refine Exit.then_normal (hK69 _ _ ?_)
              refine wp_seq_k (fun K hK70 => ?_)
              refine wp_seq_k (fun K hK71 => ?_)
              refine wp_region_from ?_
              refine segO 1 [] [(79, .kv .bool (decide (o45.2.2.1 ≥ o47.2.2.1)))] (Os := []) trivial hE hH (by kernel_rfl) (fun a hE => ?_)
              refine wpFrom_end (by kernel_rfl) ?_
              refine Exit.then_normal (hK71 _ _ ?_)
              obtain ⟨z73, hz73, h⟩ := bs h
              refine join_intro (I := fun a w => ∃ (G : Gh), G0.le G ∧ EnvR G 91 a [(4, .kv .i 0), (5, .kv .i 0), (6, .kv .i r8)] ∧ Holds w G (tabs z73) (Ls)) trivial ?_ ?_
              · intro a w hI
                obtain ⟨G, hle, hE, hH⟩ := hI
                refine Exit.then_normal (hK70 _ _ ?_)
                refine wp_seq_k (fun K hK75 => ?_)
                refine wp_region_from ?_
                refine segO 3 [] [(4, .kv .i r8), (5, .kv .i 0)] (Os := []) trivial hE hH (by kernel_rfl) (fun a hE => ?_)
                refine wpFrom_end (by kernel_rfl) ?_
                refine Exit.then_normal (hK75 _ _ ?_)
                refine wp_ret ?_
                cases h
                exact ret2 rfl hE hle hH (by kernel_rfl)
              · intro KK hKK ho
                have hj74 : ∀ (a : Act) (w : World) (G : Gh), G0.le G → EnvR G 91 a [(4, .kv .i 0), (5, .kv .i 0), (6, .kv .i r8)] → Holds w G (tabs z73) (Ls) → KK .normal a w := fun a w G  h1 h2 h3 => hKK a w ⟨G, h1, h2, h3⟩
                replace h := hz73
                refine condE (b := decide (o45.2.2.1 ≥ o47.2.2.1)) hE (by kernel_rfl) (fun hc => ?_) (fun hc => ?_)
                · replace h := ifT hc h
                  refine wp_region_from ?_
                  refine segO 4 [.pt i46] [(80, .kv (.ptr 128) p0), (83, .fldA 128 i46 3)] (Os := [_]) ⟨hi46, trivial⟩ hE hH (by kernel_rfl) (fun a hE => ?_)
                  obtain ⟨o76, ho76, h⟩ := bs h
                  refine stepTake (t := 128) (j := i46) (off := 3) (fs := fs128) (x := o76) (g := 3) (e := 131) (bt := 8) (q := ⟨(.ptr 130), o76.2.2.2.1⟩) (d := (some 84)) hE hH hN (by kernel_rfl) (ob128 (s := ((r61.2.set130 r52.2.t130.length (o65.1, o65.2.1 ++ [p1], o65.2.2.1, ())).set130 r52.2.t130.length (o65.1, (o65.2.1 ++ [p1]), IntKind.wrap .i64 (o65.2.2.1 + (r56.length : Int)), ()))) ho76) (by kernel_rfl) (by kernel_rfl) (fun v77 a w G hl30 hE hH => ?_)
                  have hle := Gh.le_trans hle hl30
                  refine segO 1 [] [(85, .fldA 130 r52.2.t130.length 0)] (Os := []) trivial hE hH (by kernel_rfl) (fun a hE => ?_)
                  refine stepBuildS (d := (some 86)) (.ptr 130) [some r52.2.t130.length] hE hH (by kernel_rfl) (by kernel_rfl) (fun a w G hl31 hE hH => ?_)
                  have hle := Gh.le_trans hle hl31
                  obtain ⟨q78, h⟩ := gd h
                  refine stepApp (e := 0) (bt := 8) (ys := [some r52.2.t130.length]) (e' := 131) (d := (some 87)) 0 hE hH (by kernel_rfl) rfl (by kernel_rfl) q78 (fun v79 a w G hl32 hE hH => ?_)
                  have hle := Gh.le_trans hle hl32
                  refine segO 2 [.pt i46] [(89, .fldA 128 i46 3)] (Os := [_]) ⟨hi46, trivial⟩ hE hH (by kernel_rfl) (fun a hE => ?_)
                  refine stepPutH (t := 128) (j := i46) (off := 3) (fs := fs128) (x := o76) (x' := (o76.1, o76.2.1, o76.2.2.1, o76.2.2.2.1 ++ [some r52.2.t130.length], o76.2.2.2.2.1, ())) (g := 3) (e := 131) (bt := 8) (q := ⟨(.ptr 130), o76.2.2.2.1⟩) (ys := (o76.2.2.2.1 ++ [some r52.2.t130.length])) (v := v79) (L2 := Ls) hE hH hN (by kernel_rfl) (ob128 (s := ((r61.2.set130 r52.2.t130.length (o65.1, o65.2.1 ++ [p1], o65.2.2.1, ())).set130 r52.2.t130.length (o65.1, (o65.2.1 ++ [p1]), IntKind.wrap .i64 (o65.2.2.1 + (r56.length : Int)), ()))) ho76) (by kernel_rfl) (by kernel_rfl) (upd128 (s := ((r61.2.set130 r52.2.t130.length (o65.1, o65.2.1 ++ [p1], o65.2.2.1, ())).set130 r52.2.t130.length (o65.1, (o65.2.1 ++ [p1]), IntKind.wrap .i64 (o65.2.2.1 + (r56.length : Int)), ())))) (fun w G hl33 hE hH => ?_)
                  have hle := Gh.le_trans hle hl33
                  refine wpFrom_end (by kernel_rfl) ?_
                  cases h
                  exact hj74 _ _ _  hle (hE.subC (by kernel_rfl)) hH
                · replace h := ifF hc h
                  refine wp_skip ?_
                  cases h
                  exact hj74 _ _ _  hle (hE.subC (by kernel_rfl)) hH
        · replace h := ifF hc h
          refine wp_skip ?_
          refine Exit.then_normal (hK48 _ _ ?_)
          refine wp_seq_k (fun K hK80 => ?_)
          refine wp_region_from ?_
          refine segO 2 [] [(45, .kv .i r8), (46, .kv .str p1)] (Os := []) trivial hE hH (by kernel_rfl) (fun a hE => ?_)
          obtain ⟨r81, hr81, h⟩ := bs h
          refine stepCall (d := (some 47)) (f99_ok hr81) hE hH hN (by kernel_rfl) (by kernel_rfl) trivial (fun a w G hl34 hE hH => ?_)
          have hle := Gh.le_trans hle hl34
          refine segO 1 [] [(10, .kv .str r81)] (Os := []) trivial hE hH (by kernel_rfl) (fun a hE => ?_)
          refine wpFrom_end (by kernel_rfl) ?_
          refine Exit.then_normal (hK80 _ _ ?_)
          refine wp_seq_k (fun K hK82 => ?_)
          refine wp_seq_k (fun K hK83 => ?_)
          obtain ⟨r84, hr84, h⟩ := bs h
          refine region_par 8 [6] [(0, 1), (0, 1), (0, 1), (0, 1), (0, 0), (0, 0), (0, 0), (0, 1)] [.kv (.ptr 128) p0, .kv (.ptr 128) (some i46), .fldA 128 i46 0, .kv (.ptr 105) o47.1, .kv (.ptr 128) p0, .kv (.ptr 130) r10, .kv .str r84, .kv .str r81] (fun _ => tabs σ) (fun _ => Ls) (by kernel_rfl) (by kernel_rfl) hE hH
                  ⟨⟨⟨⟨⟨⟨⟨⟨trivial,
                  anyk (fun k => obR [] (Os := []) trivial (by kernel_rfl) (by kernel_rfl))⟩,
                  anyk (fun k => obR [.pt i46] (Os := [_]) ⟨hi46, trivial⟩ (by kernel_rfl) (by kernel_rfl))⟩,
                  anyk (fun k => obR [] (Os := []) trivial (by kernel_rfl) (by kernel_rfl))⟩,
                  anyk (fun k => obR [.ob fs128 o47] (Os := [_]) ⟨(ob128 (s := σ) ho47), trivial⟩ (by kernel_rfl) (by kernel_rfl))⟩,
                  anyk (fun k => obR [] (Os := []) trivial (by kernel_rfl) (by kernel_rfl))⟩,
                  anyk (fun k => obR [] (Os := []) trivial (by kernel_rfl) (by kernel_rfl))⟩,
                  one (obC (k := 0) (d := (some 54)) (f98_ok hr84) rfl hN (by kernel_rfl) (by kernel_rfl) rfl trivial)⟩,
                  anyk (fun k => obR [] (Os := []) trivial (by kernel_rfl) (by kernel_rfl))⟩ (fun a w G hl35 hE hH => ?_)
          have hle := Gh.le_trans hle hl35
          obtain ⟨r85, hr85, h⟩ := bs h
          refine stepCall (d := (some 56)) (f24_ok hr85) hE hH hN (by kernel_rfl) (by kernel_rfl) trivial (fun a w G hl36 hE hH => ?_)
          have hle := Gh.le_trans hle hl36
          refine segO 1 [] [(11, .kv .i r85.1)] (Os := []) trivial hE hH (by kernel_rfl) (fun a hE => ?_)
          refine wpFrom_end (by kernel_rfl) ?_
          refine Exit.then_normal (hK83 _ _ ?_)
          refine wp_seq_k (fun K hK86 => ?_)
          refine wp_region_from ?_
          refine segO 2 [] [(58, .kv .bool (r85.1 != 0))] (Os := []) trivial hE hH (by kernel_rfl) (fun a hE => ?_)
          refine wpFrom_end (by kernel_rfl) ?_
          refine Exit.then_normal (hK86 _ _ ?_)
          refine condE (b := r85.1 != 0) hE (by kernel_rfl) (fun hc => ?_) (fun hc => ?_)
          · replace h := ifT hc h
            refine wp_seq_k (fun K hK87 => ?_)
            refine wp_region_from ?_
            refine segO 3 [] [(4, .kv .i 0), (5, .kv .i r85.1)] (Os := []) trivial hE hH (by kernel_rfl) (fun a hE => ?_)
            refine wpFrom_end (by kernel_rfl) ?_
            refine Exit.then_normal (hK87 _ _ ?_)
            refine wp_ret ?_
            refine Exit.then_ret ?_
            cases h
            exact ret2 rfl hE hle hH (by kernel_rfl)
          · replace h := ifF hc h
            refine wp_skip ?_
            refine Exit.then_normal (hK82 _ _ ?_)
            refine wp_seq_k (fun K hK88 => ?_)
            refine wp_region_from ?_
            refine segO 4 [.pt i44] [(60, .kv (.ptr 130) r10), (63, .fldA 130 i44 1)] (Os := [_]) ⟨hi44, trivial⟩ hE hH (by kernel_rfl) (fun a hE => ?_)
            obtain ⟨o89, ho89, h⟩ := bs h
            refine stepTake (t := 130) (j := i44) (off := 1) (fs := fs130) (x := o89) (g := 1) (e := 9) (bt := 16) (q := ⟨.str, o89.2.1⟩) (d := (some 64)) hE hH hN (by kernel_rfl) (ob130 (s := r85.2) ho89) (by kernel_rfl) (by kernel_rfl) (fun v90 a w G hl37 hE hH => ?_)
            have hle := Gh.le_trans hle hl37
            refine segO 1 [] [(65, .kv .str p1)] (Os := []) trivial hE hH (by kernel_rfl) (fun a hE => ?_)
            refine stepBuildS (d := (some 66)) .str [p1] hE hH (by kernel_rfl) (by kernel_rfl) (fun a w G hl38 hE hH => ?_)
            have hle := Gh.le_trans hle hl38
            obtain ⟨q91, h⟩ := gd h
            refine stepApp (e := 0) (bt := 16) (ys := [p1]) (e' := 9) (d := (some 67)) 0 hE hH (by kernel_rfl) rfl (by kernel_rfl) q91 (fun v92 a w G hl39 hE hH => ?_)
            have hle := Gh.le_trans hle hl39
            refine segO 2 [.pt i44] [(69, .fldA 130 i44 1)] (Os := [_]) ⟨hi44, trivial⟩ hE hH (by kernel_rfl) (fun a hE => ?_)
            refine stepPutH (t := 130) (j := i44) (off := 1) (fs := fs130) (x := o89) (x' := (o89.1, o89.2.1 ++ [p1], o89.2.2.1, ())) (g := 1) (e := 9) (bt := 16) (q := ⟨.str, o89.2.1⟩) (ys := (o89.2.1 ++ [p1])) (v := v92) (L2 := Ls) hE hH hN (by kernel_rfl) (ob130 (s := r85.2) ho89) (by kernel_rfl) (by kernel_rfl) (upd130 (s := r85.2)) (fun w G hl40 hE hH => ?_)
            have hle := Gh.le_trans hle hl40
            refine wpFrom_end (by kernel_rfl) ?_
            refine Exit.then_normal (hK88 _ _ ?_)
            refine wp_seq_k (fun K hK93 => ?_)
            refine wp_region_from ?_
            refine segO 9 [.pt i44, .ob fs130 (o89.1, o89.2.1 ++ [p1], o89.2.2.1, ()), .pt i44] [(76, .kv .i (IntKind.wrap .i64 (o89.2.2.1 + (r81.length : Int)))), (78, .fldA 130 i44 2)] (Os := [_, _, _]) ⟨hi44, (ob130 (s := (r85.2.set130 i44 (o89.1, o89.2.1 ++ [p1], o89.2.2.1, ()))) (set130_get (s := r85.2) (x := (o89.1, o89.2.1 ++ [p1], o89.2.2.1, ())) ho89)), hi44, trivial⟩ hE hH (by kernel_rfl) (fun a hE => ?_)
            refine stepStO (t := 130) (j := i44) (off := 2) .i (IntKind.wrap .i64 (o89.2.2.1 + (r81.length : Int))) (x' := (o89.1, (o89.2.1 ++ [p1]), IntKind.wrap .i64 (o89.2.2.1 + (r81.length : Int)), ())) hE hH (by kernel_rfl) (ob130 (s := (r85.2.set130 i44 (o89.1, o89.2.1 ++ [p1], o89.2.2.1, ()))) (set130_get (s := r85.2) (x := (o89.1, o89.2.1 ++ [p1], o89.2.2.1, ())) ho89)) (by kernel_rfl) (upd130 (s := (r85.2.set130 i44 (o89.1, o89.2.1 ++ [p1], o89.2.2.1, ())))) (fun w G hl41 hE hH => ?_)
            have hle := Gh.le_trans hle hl41
            refine wpFrom_end (by kernel_rfl) ?_
            refine Exit.then_normal (hK93 _ _ ?_)
            refine wp_seq_k (fun K hK94 => ?_)
            refine wp_seq_k (fun K hK95 => ?_)
            refine wp_region_from ?_
            refine segO 1 [] [(79, .kv .bool (decide (o45.2.2.1 ≥ o47.2.2.1)))] (Os := []) trivial hE hH (by kernel_rfl) (fun a hE => ?_)
            refine wpFrom_end (by kernel_rfl) ?_
            refine Exit.then_normal (hK95 _ _ ?_)
            obtain ⟨z97, hz97, h⟩ := bs h
            refine join_intro (I := fun a w => ∃ (G : Gh), G0.le G ∧ EnvR G 91 a [(4, .kv .i 0), (5, .kv .i 0), (6, .kv .i r8)] ∧ Holds w G (tabs z97) (Ls)) trivial ?_ ?_
            · intro a w hI
              obtain ⟨G, hle, hE, hH⟩ := hI
              refine Exit.then_normal (hK94 _ _ ?_)
              refine wp_seq_k (fun K hK99 => ?_)
              refine wp_region_from ?_
              refine segO 3 [] [(4, .kv .i r8), (5, .kv .i 0)] (Os := []) trivial hE hH (by kernel_rfl) (fun a hE => ?_)
              refine wpFrom_end (by kernel_rfl) ?_
              refine Exit.then_normal (hK99 _ _ ?_)
              refine wp_ret ?_
              cases h
              exact ret2 rfl hE hle hH (by kernel_rfl)
            · intro KK hKK ho
              have hj98 : ∀ (a : Act) (w : World) (G : Gh), G0.le G → EnvR G 91 a [(4, .kv .i 0), (5, .kv .i 0), (6, .kv .i r8)] → Holds w G (tabs z97) (Ls) → KK .normal a w := fun a w G  h1 h2 h3 => hKK a w ⟨G, h1, h2, h3⟩
              replace h := hz97
              refine condE (b := decide (o45.2.2.1 ≥ o47.2.2.1)) hE (by kernel_rfl) (fun hc => ?_) (fun hc => ?_)
              · replace h := ifT hc h
                refine wp_region_from ?_
                refine segO 4 [.pt i46] [(80, .kv (.ptr 128) p0), (83, .fldA 128 i46 3)] (Os := [_]) ⟨hi46, trivial⟩ hE hH (by kernel_rfl) (fun a hE => ?_)
                obtain ⟨o100, ho100, h⟩ := bs h
                refine stepTake (t := 128) (j := i46) (off := 3) (fs := fs128) (x := o100) (g := 3) (e := 131) (bt := 8) (q := ⟨(.ptr 130), o100.2.2.2.1⟩) (d := (some 84)) hE hH hN (by kernel_rfl) (ob128 (s := ((r85.2.set130 i44 (o89.1, o89.2.1 ++ [p1], o89.2.2.1, ())).set130 i44 (o89.1, (o89.2.1 ++ [p1]), IntKind.wrap .i64 (o89.2.2.1 + (r81.length : Int)), ()))) ho100) (by kernel_rfl) (by kernel_rfl) (fun v101 a w G hl43 hE hH => ?_)
                have hle := Gh.le_trans hle hl43
                refine segO 1 [] [(85, .kv (.ptr 130) r10)] (Os := []) trivial hE hH (by kernel_rfl) (fun a hE => ?_)
                refine stepBuildS (d := (some 86)) (.ptr 130) [r10] hE hH (by kernel_rfl) (by kernel_rfl) (fun a w G hl44 hE hH => ?_)
                have hle := Gh.le_trans hle hl44
                obtain ⟨q102, h⟩ := gd h
                refine stepApp (e := 0) (bt := 8) (ys := [r10]) (e' := 131) (d := (some 87)) 0 hE hH (by kernel_rfl) rfl (by kernel_rfl) q102 (fun v103 a w G hl45 hE hH => ?_)
                have hle := Gh.le_trans hle hl45
                refine segO 2 [.pt i46] [(89, .fldA 128 i46 3)] (Os := [_]) ⟨hi46, trivial⟩ hE hH (by kernel_rfl) (fun a hE => ?_)
                refine stepPutH (t := 128) (j := i46) (off := 3) (fs := fs128) (x := o100) (x' := (o100.1, o100.2.1, o100.2.2.1, o100.2.2.2.1 ++ [r10], o100.2.2.2.2.1, ())) (g := 3) (e := 131) (bt := 8) (q := ⟨(.ptr 130), o100.2.2.2.1⟩) (ys := (o100.2.2.2.1 ++ [r10])) (v := v103) (L2 := Ls) hE hH hN (by kernel_rfl) (ob128 (s := ((r85.2.set130 i44 (o89.1, o89.2.1 ++ [p1], o89.2.2.1, ())).set130 i44 (o89.1, (o89.2.1 ++ [p1]), IntKind.wrap .i64 (o89.2.2.1 + (r81.length : Int)), ()))) ho100) (by kernel_rfl) (by kernel_rfl) (upd128 (s := ((r85.2.set130 i44 (o89.1, o89.2.1 ++ [p1], o89.2.2.1, ())).set130 i44 (o89.1, (o89.2.1 ++ [p1]), IntKind.wrap .i64 (o89.2.2.1 + (r81.length : Int)), ())))) (fun w G hl46 hE hH => ?_)
                have hle := Gh.le_trans hle hl46
                refine wpFrom_end (by kernel_rfl) ?_
                cases h
                exact hj98 _ _ _  hle (hE.subC (by kernel_rfl)) hH
              · replace h := ifF hc h
                refine wp_skip ?_
                cases h
                exact hj98 _ _ _  hle (hE.subC (by kernel_rfl)) hH

def f60 (p0 : Option Nat) (σ : St) : Option Int :=
  if p0.isNone = true then
  some 0
  else
  p0 >>= fun i6 =>
  (σ.t128[i6]?) >>= fun o7 =>
  some o7.2.2.2.2.1

theorem f60_ok {p0 : Option Nat} {σ : St} {p : Int} (h : f60 p0 σ = some p) : Spec Try.prog 60 [.kv (.ptr 128) p0] (tabs σ) (.kv .i p) (tabs σ) := by
  refine Spec.intro Try.func60 (by kernel_rfl) rfl (by kernel_rfl) (fun a w G0 Ls hE hH hN => ?_)
  have hle : G0.le G0 := Gh.le_refl G0
  unfold f60 at h
  refine wp_seq_k (fun K hK1 => ?_)
  refine wp_region_from ?_
  refine segO 1 [] [(2, .kv .i 0)] (Os := []) trivial hE hH (by kernel_rfl) (fun a hE => ?_)
  refine wpFrom_end (by kernel_rfl) ?_
  refine Exit.then_normal (hK1 _ _ ?_)
  refine wp_seq_k (fun K hK2 => ?_)
  refine wp_seq_k (fun K hK3 => ?_)
  refine wp_region_from ?_
  refine segO 2 [] [(4, .kv .bool p0.isNone)] (Os := []) trivial hE hH (by kernel_rfl) (fun a hE => ?_)
  refine wpFrom_end (by kernel_rfl) ?_
  refine Exit.then_normal (hK3 _ _ ?_)
  refine condE (b := p0.isNone) hE (by kernel_rfl) (fun hc => ?_) (fun hc => ?_)
  · replace h := ifT hc h
    refine wp_seq_k (fun K hK4 => ?_)
    refine wp_region_from ?_
    refine segO 1 [] [(2, .kv .i 0)] (Os := []) trivial hE hH (by kernel_rfl) (fun a hE => ?_)
    refine wpFrom_end (by kernel_rfl) ?_
    refine Exit.then_normal (hK4 _ _ ?_)
    refine wp_ret ?_
    refine Exit.then_ret ?_
    cases h
    exact ret1 rfl hE hle hH (by kernel_rfl)
  · replace h := ifF hc h
    refine wp_skip ?_
    refine Exit.then_normal (hK2 _ _ ?_)
    refine wp_seq_k (fun K hK5 => ?_)
    refine wp_region_from ?_
    obtain ⟨i6, hi6, h⟩ := bs h
    obtain ⟨o7, ho7, h⟩ := bs h
    refine segO 5 [.pt i6, .ob fs128 o7] [(2, .kv .i o7.2.2.2.2.1)] (Os := [_, _]) ⟨hi6, (ob128 (s := σ) ho7), trivial⟩ hE hH (by kernel_rfl) (fun a hE => ?_)
    refine wpFrom_end (by kernel_rfl) ?_
    refine Exit.then_normal (hK5 _ _ ?_)
    refine wp_ret ?_
    cases h
    exact ret1 rfl hE hle hH (by kernel_rfl)

def f57_l0 (p0 : Option Nat) (p1 : Int) (σ6 : St) : Option (Sum St (Int × St)) :=
  p0 >>= fun i13 =>
  (σ6.t128[i13]?) >>= fun o14 =>
  if (decide ((o14.2.2.2.1.length : Int) > 1)) = true then
  (ix o14.2.2.2.1 1) >>= fun x15 =>
  x15 >>= fun i16 =>
  (σ6.t130[i16]?) >>= fun o17 =>
  if (decide (o17.1 ≤ p1)) = true then
  (ix o14.2.2.2.1 0) >>= fun x20 =>
  f98 p0 x20 σ6 >>= fun r21 =>
  f37 o14.1 r21 σ6 >>= fun r22 =>
  if (r22.1 != 0) = true then
  some (.inr (r22.1, r22.2))
  else
  (r22.2.t128[i13]?) >>= fun o27 =>
  if (0 : Int) ≤ 1 ∧ 1 ≤ (o27.2.2.2.1.length : Int) then
  if 0 < (o27.2.2.2.1.drop (Int.toNat 1)).length then
  if (o27.2.2.2.1.drop (Int.toNat 1)).length * 8 ≤ 140737488355328 then
  f57_l0 p0 p1 (r22.2.set128 i13 (o27.1, o27.2.1, o27.2.2.1, o27.2.2.2.1.drop (Int.toNat 1), o27.2.2.2.2.1, ()))
  else none
  else none
  else none
  else
  some (.inl σ6)
  else
  some (.inl σ6)
  partial_fixpoint

def f57 (p0 : Option Nat) (p1 : Int) (σ : St) : Option (Int × St) :=
  if p0.isNone = true then
  some (1, σ)
  else
  f57_l0 p0 p1 σ >>= fun rr33 => (match rr33 with
  | .inr yy => some yy
  | .inl z32 =>
  some (0, z32))

theorem f57_ok {p0 : Option Nat} {p1 : Int} {σ : St} {p : Int × St} (h : f57 p0 p1 σ = some p) : Spec Try.prog 57 [.kv (.ptr 128) p0, .kv .i p1] (tabs σ) (.kv .i p.1) (tabs p.2) := by
  refine Spec.intro Try.func57 (by kernel_rfl) rfl (by kernel_rfl) (fun a w G0 Ls hE hH hN => ?_)
  have hle : G0.le G0 := Gh.le_refl G0
  unfold f57 at h
  refine wp_seq_k (fun K hK1 => ?_)
  refine wp_region_from ?_
  refine segO 1 [] [(4, .kv .i 0)] (Os := []) trivial hE hH (by kernel_rfl) (fun a hE => ?_)
  refine wpFrom_end (by kernel_rfl) ?_
  refine Exit.then_normal (hK1 _ _ ?_)
  refine wp_seq_k (fun K hK2 => ?_)
  refine wp_seq_k (fun K hK3 => ?_)
  refine wp_region_from ?_
  refine segO 2 [] [(7, .kv .bool p0.isNone)] (Os := []) trivial hE hH (by kernel_rfl) (fun a hE => ?_)
  refine wpFrom_end (by kernel_rfl) ?_
  refine Exit.then_normal (hK3 _ _ ?_)
  refine condE (b := p0.isNone) hE (by kernel_rfl) (fun hc => ?_) (fun hc => ?_)
  · replace h := ifT hc h
    refine wp_seq_k (fun K hK4 => ?_)
    refine wp_region_from ?_
    refine segO 1 [] [(4, .kv .i 1)] (Os := []) trivial hE hH (by kernel_rfl) (fun a hE => ?_)
    refine wpFrom_end (by kernel_rfl) ?_
    refine Exit.then_normal (hK4 _ _ ?_)
    refine wp_ret ?_
    refine Exit.then_ret ?_
    cases h
    exact ret1 rfl hE hle hH (by kernel_rfl)
  · replace h := ifF hc h
    refine wp_skip ?_
    refine Exit.then_normal (hK2 _ _ ?_)
    refine wp_seq_k (fun K hK5 => ?_)
    refine wp_block ?_
    obtain ⟨rr33, hrr33, h⟩ := bs h
    refine loop_intro (fun Q7 c hQ hc => ?_)
    have key : ∀ (σ6 : St) (rr : Sum St (Int × St)), f57_l0 p0 p1 σ6 = some rr → ∀ (a : Act) (w : World) (G : Gh), G0.le G → EnvR G 53 a [(0, .kv (.ptr 128) p0), (1, .kv .i p1), (4, .kv .i 0)] → Holds w G (tabs σ6) (Ls) → (∀ z32 : St, rr = .inl z32 → ∀ (a : Act) (w : World) (G : Gh), G0.le G → EnvR G 53 a [(0, .kv (.ptr 128) p0), (1, .kv .i p1), (4, .kv .i 0)] → Holds w G (tabs z32) (Ls) → Q7 (.exit 0) a w) → (∀ yy : Int × St, rr = .inr yy → ∀ (a : Act) (w : World), PostB Try.prog Try.f57 G0 (.kv .i yy.1) (tabs yy.2) Ls .ret a w → Q7 .ret a w) → Rnd Try.prog c Q7 a w := by
      refine f57_l0.partial_correctness p0 p1 _ ?_
      intro self ih10 σ6 rr h a w G  hle hE hH hx8 hret9
      refine rnd_step' hc ?_
      refine wp_seq_k (fun K hK11 => ?_)
      refine wp_seq_k (fun K hK12 => ?_)
      refine wp_region_from ?_
      obtain ⟨i13, hi13, h⟩ := bs h
      obtain ⟨o14, ho14, h⟩ := bs h
      refine segO 7 [.pt i13, .ob fs128 o14] [(14, .kv .bool (decide ((o14.2.2.2.1.length : Int) > 1)))] (Os := [_, _, _]) ⟨hi13, (ob128 (s := σ6) ho14), (hN _ _ _ : holeAt 128 i13 3 (Ls) = none), trivial⟩ hE hH (by kernel_rfl) (fun a hE => ?_)
      by_cases hc : (decide ((o14.2.2.2.1.length : Int) > 1)) = true
      · replace h := ifT hc h
        have hE := hE.setB 14 (by kernel_rfl) hc
        obtain ⟨x15, hx15, h⟩ := bs h
        obtain ⟨i16, hi16, h⟩ := bs h
        obtain ⟨o17, ho17, h⟩ := bs h
        refine segO 12 [.pt i13, .ob fs128 o14, .ix (.ptr 130) x15, .pt i16, .ob fs130 o17] [(26, .kv .bool (decide (o17.1 ≤ p1)))] (Os := [_, _, _, _, _, _]) ⟨hi13, (ob128 (s := σ6) ho14), (hN _ _ _ : holeAt 128 i13 3 (Ls) = none), (IxAt.of (k := (.ptr 130)) hx15), hi16, (ob130 (s := σ6) ho17), trivial⟩ hE hH (by kernel_rfl) (fun a hE => ?_)
        refine wpFrom_end (by kernel_rfl) ?_
        refine Exit.then_normal (hK12 _ _ ?_)
        refine condE (b := decide (o17.1 ≤ p1)) hE (by kernel_rfl) (fun hc => ?_) (fun hc => ?_)
        · replace h := ifT hc h
          refine wp_skip ?_
          refine Exit.then_normal (hK11 _ _ ?_)
          refine wp_block ?_
          refine wp_seq_k (fun K hK18 => ?_)
          refine wp_seq_k (fun K hK19 => ?_)
          obtain ⟨x20, hx20, h⟩ := bs h
          obtain ⟨r21, hr21, h⟩ := bs h
          refine region_par 12 [11] [(0, 1), (0, 1), (0, 1), (0, 1), (0, 0), (0, 0), (0, 0), (0, 0), (0, 0), (0, 0), (0, 0), (0, 0)] [.kv (.ptr 128) p0, .kv (.ptr 128) (some i13), .fldA 128 i13 0, .kv (.ptr 105) o14.1, .kv (.ptr 128) p0, .kv (.ptr 128) p0, .kv (.ptr 128) (some i13), .fldA 128 i13 3, .kv (.list (.ptr 130)) o14.2.2.2.1, .elA (.ptr 130) x20 0, .kv (.ptr 130) x20, .kv .str r21] (fun _ => tabs σ6) (fun _ => Ls) (by kernel_rfl) (by kernel_rfl) hE hH
                  ⟨⟨⟨⟨⟨⟨⟨⟨⟨⟨⟨⟨trivial,
                  anyk (fun k => obR [] (Os := []) trivial (by kernel_rfl) (by kernel_rfl))⟩,
                  anyk (fun k => obR [.pt i13] (Os := [_]) ⟨hi13, trivial⟩ (by kernel_rfl) (by kernel_rfl))⟩,
                  anyk (fun k => obR [] (Os := []) trivial (by kernel_rfl) (by kernel_rfl))⟩,
                  anyk (fun k => obR [.ob fs128 o14] (Os := [_]) ⟨(ob128 (s := σ6) ho14), trivial⟩ (by kernel_rfl) (by kernel_rfl))⟩,
                  anyk (fun k => obR [] (Os := []) trivial (by kernel_rfl) (by kernel_rfl))⟩,
                  anyk (fun k => obR [] (Os := []) trivial (by kernel_rfl) (by kernel_rfl))⟩,
                  anyk (fun k => obR [.pt i13] (Os := [_]) ⟨hi13, trivial⟩ (by kernel_rfl) (by kernel_rfl))⟩,
                  anyk (fun k => obR [] (Os := []) trivial (by kernel_rfl) (by kernel_rfl))⟩,
                  anyk (fun k => obR [.ob fs128 o14] (Os := [_, _]) ⟨(ob128 (s := σ6) ho14), (hN _ _ _ : holeAt 128 i13 3 (Ls) = none), trivial⟩ (by kernel_rfl) (by kernel_rfl))⟩,
                  anyk (fun k => obR [.ix (.ptr 130) x20] (Os := [_]) ⟨(IxAt.of (k := (.ptr 130)) hx20), trivial⟩ (by kernel_rfl) (by kernel_rfl))⟩,
                  anyk (fun k => obR [] (Os := []) trivial (by kernel_rfl) (by kernel_rfl))⟩,
                  one (obC (k := 0) (d := (some 38)) (f98_ok hr21) rfl hN (by kernel_rfl) (by kernel_rfl) rfl trivial)⟩ (fun a w G hl1 hE hH => ?_)
          have hle := Gh.le_trans hle hl1
          obtain ⟨r22, hr22, h⟩ := bs h
          refine stepCall (d := (some 39)) (f37_ok hr22) hE hH hN (by kernel_rfl) (by kernel_rfl) trivial (fun a w G hl2 hE hH => ?_)
          have hle := Gh.le_trans hle hl2
          refine segO 1 [] [(5, .kv .i r22.1)] (Os := []) trivial hE hH (by kernel_rfl) (fun a hE => ?_)
          refine wpFrom_end (by kernel_rfl) ?_
          refine Exit.then_normal (hK19 _ _ ?_)
          refine wp_seq_k (fun K hK23 => ?_)
          refine wp_region_from ?_
          refine segO 2 [] [(41, .kv .bool (r22.1 != 0))] (Os := []) trivial hE hH (by kernel_rfl) (fun a hE => ?_)
          refine wpFrom_end (by kernel_rfl) ?_
          refine Exit.then_normal (hK23 _ _ ?_)
          refine condE (b := r22.1 != 0) hE (by kernel_rfl) (fun hc => ?_) (fun hc => ?_)
          · replace h := ifT hc h
            refine wp_seq_k (fun K hK24 => ?_)
            refine wp_region_from ?_
            refine segO 2 [] [(4, .kv .i r22.1)] (Os := []) trivial hE hH (by kernel_rfl) (fun a hE => ?_)
            refine wpFrom_end (by kernel_rfl) ?_
            refine Exit.then_normal (hK24 _ _ ?_)
            refine wp_ret ?_
            refine Exit.then_ret ?_
            refine Exit.in_ret ?_
            refine Exit.then_ret ?_
            cases h
            exact hret9 _ rfl _ _ (ret1 rfl hE hle hH (by kernel_rfl))
          · replace h := ifF hc h
            refine wp_skip ?_
            refine Exit.then_normal (hK18 _ _ ?_)
            refine wp_region_from ?_
            refine segO 1 [] [(43, .kv (.ptr 128) p0)] (Os := []) trivial hE hH (by kernel_rfl) (fun a hE => ?_)
            refine stepBuildZ (el := 131) (d := (some 44)) hE hH (by kernel_rfl) (by kernel_rfl) (fun b25 a w G hl3 hz26 hE hH => ?_)
            have hle := Gh.le_trans hle hl3
            obtain ⟨o27, ho27, h⟩ := bs h
            obtain ⟨q28, h⟩ := gd h
            refine segO 5 [.pt i13, .ob fs128 o27] [(49, .kv (.list (.ptr 130)) (o27.2.2.2.1.drop (Int.toNat 1)))] (Os := [_, _, _, _]) ⟨hi13, (ob128 (s := r22.2) ho27), (hN _ _ _ : holeAt 128 i13 3 (Ls) = none), q28, trivial⟩ hE hH (by kernel_rfl) (fun a hE => ?_)
            obtain ⟨q29, h⟩ := gd h
            obtain ⟨q30, h⟩ := gd h
            refine stepAppN (b := b25) (bt := 8) (K := (.ptr 130)) (ys := o27.2.2.2.1.drop (Int.toNat 1)) (e' := 131) (d := (some 50)) hE hH hz26 (by kernel_rfl) (by kernel_rfl) q29 q30 (fun v31 a w G hl4 hE hH => ?_)
            have hle := Gh.le_trans hle hl4
            refine segO 2 [.pt i13] [(52, .fldA 128 i13 3)] (Os := [_]) ⟨hi13, trivial⟩ hE hH (by kernel_rfl) (fun a hE => ?_)
            refine stepPutN (t := 128) (j := i13) (off := 3) (fs := fs128) (x := o27) (x' := (o27.1, o27.2.1, o27.2.2.1, o27.2.2.2.1.drop (Int.toNat 1), o27.2.2.2.2.1, ())) (g := 3) (e := 131) (bt := 8) (q := ⟨(.ptr 130), o27.2.2.2.1⟩) (ys := (o27.2.2.2.1.drop (Int.toNat 1))) (v := v31) (L2 := Ls) hE hH hN (by kernel_rfl) (ob128 (s := r22.2) ho27) (by kernel_rfl) (by kernel_rfl) (upd128 (s := r22.2)) (fun w G hl5 hE hH => ?_)
            have hle := Gh.le_trans hle hl5
            refine wpFrom_end (by kernel_rfl) ?_
            refine Exit.in_normal ?_
            refine Exit.then_normal ?_
            exact ih10 _ _ h _ _ _  hle (hE.subC (by kernel_rfl)) hH hx8 hret9
        · replace h := ifF hc h
          refine wp_exit ?_
          refine Exit.then_exit ?_
          refine Exit.then_exit ?_
          cases h
          exact hx8 _ rfl _ _ _  hle (hE.subC (by kernel_rfl)) hH
      · replace h := ifN hc h
        have hE := hE.setB 14 (by kernel_rfl) (bf hc)
        refine segO 12 [] [(26, .kv .bool false)] (Os := []) trivial hE hH (by kernel_rfl) (fun a hE => ?_)
        refine wpFrom_end (by kernel_rfl) ?_
        refine Exit.then_normal (hK12 _ _ ?_)
        refine condF hE (by kernel_rfl) rfl ?_
        refine wp_exit ?_
        refine Exit.then_exit ?_
        refine Exit.then_exit ?_
        cases h
        exact hx8 _ rfl _ _ _  hle (hE.subC (by kernel_rfl)) hH
    refine key _ _ hrr33 _ _ _  hle (hE.subC (by kernel_rfl)) hH ?_ ?_
    · intro z32 hz a w G  hle hE hH
      subst hz
      rw [hQ]
      dsimp only at h
      refine Exit.in_eq ?_
      refine Exit.then_normal (hK5 _ _ ?_)
      refine wp_seq_k (fun K hK34 => ?_)
      refine wp_region_from ?_
      refine segO 1 [] [(4, .kv .i 0)] (Os := []) trivial hE hH (by kernel_rfl) (fun a hE => ?_)
      refine wpFrom_end (by kernel_rfl) ?_
      refine Exit.then_normal (hK34 _ _ ?_)
      refine wp_ret ?_
      cases h
      exact ret1 rfl hE hle hH (by kernel_rfl)
    · intro yy hz a w hp
      subst hz
      dsimp only at h
      cases h
      rw [hQ]
      refine Exit.in_ret ?_
      refine Exit.then_ret ?_
      exact hp

def f48  (σ : St) : Option (Bool × St) :=
  f18 1000 σ >>= fun r3 =>
  f53 r3.1.1 [108, 111, 103] 64 r3.2 >>= fun r5 =>
  if ((r5.1.2 != 0) || r5.1.1.isNone) = true then
  some (false, r5.2)
  else
  f59 r5.1.1 [97] r5.2 >>= fun r10 =>
  f59 r5.1.1 [98] r10.2 >>= fun r12 =>
  f61 r5.1.1 r12.2 >>= fun r14 =>
  f59 r5.1.1 [99] r14.2 >>= fun r16 =>
  if (((r14.1 != 0) || (r16.1.1 != 2)) || (r16.1.2 != 0)) = true then
  some (false, r16.2)
  else
  f60 r5.1.1 r16.2 >>= fun r20 =>
  if (r20 != 2) = true then
  some (false, r16.2)
  else
  f27 r3.1.1 [2] r16.2 >>= fun r22 =>
  if (r22.1 != 0) = true then
  some (false, r22.2)
  else
  f53 r3.1.1 [108, 111, 103] 64 r22.2 >>= fun r25 =>
  f58 r25.1.1 1 r25.2 >>= fun r27 =>
  if (r25.1.2 == 0) = true then
  f55 r25.1.1 r25.2 >>= fun r29 =>
  some (((r29 == 2) && (r27.1 == [98])) && (r27.2 == 0), r25.2)
  else
  some (false, r25.2)

theorem f48_ok  {σ : St} {p : Bool × St} (h : f48 σ = some p) : Spec Try.prog 48 [] (tabs σ) (.kv .bool p.1) (tabs p.2) := by
  refine Spec.intro Try.func48 (by kernel_rfl) rfl (by kernel_rfl) (fun a w G0 Ls hE hH hN => ?_)
  have hle : G0.le G0 := Gh.le_refl G0
  unfold f48 at h
  refine wp_seq_k (fun K hK1 => ?_)
  refine wp_region_from ?_
  refine segO 1 [] [(0, .kv .bool false)] (Os := []) trivial hE hH (by kernel_rfl) (fun a hE => ?_)
  refine wpFrom_end (by kernel_rfl) ?_
  refine Exit.then_normal (hK1 _ _ ?_)
  refine wp_seq_k (fun K hK2 => ?_)
  refine wp_region_from ?_
  obtain ⟨r3, hr3, h⟩ := bs h
  refine stepCall (d := (some 13)) (f18_ok hr3) hE hH hN (by kernel_rfl) (by kernel_rfl) trivial (fun a w G hl1 hE hH => ?_)
  have hle := Gh.le_trans hle hl1
  refine segO 5 [] [(1, .kv (.ptr 105) r3.1.1)] (Os := []) trivial hE hH (by kernel_rfl) (fun a hE => ?_)
  refine wpFrom_end (by kernel_rfl) ?_
  refine Exit.then_normal (hK2 _ _ ?_)
  refine wp_seq_k (fun K hK4 => ?_)
  refine wp_region_from ?_
  refine segO 1 [] [(17, .kv (.ptr 105) r3.1.1)] (Os := []) trivial hE hH (by kernel_rfl) (fun a hE => ?_)
  obtain ⟨r5, hr5, h⟩ := bs h
  refine stepCall (d := (some 18)) (f53_ok hr5) hE hH hN (by kernel_rfl) (by kernel_rfl) trivial (fun a w G hl2 hE hH => ?_)
  have hle := Gh.le_trans hle hl2
  refine segO 5 [] [(3, .kv (.ptr 128) r5.1.1), (4, .kv .i r5.1.2)] (Os := []) trivial hE hH (by kernel_rfl) (fun a hE => ?_)
  refine wpFrom_end (by kernel_rfl) ?_
  refine Exit.then_normal (hK4 _ _ ?_)
  refine wp_seq_k (fun K hK6 => ?_)
  refine wp_seq_k (fun K hK7 => ?_)
  refine wp_region_from ?_
  refine segO 6 [] [(26, .kv .bool ((r5.1.2 != 0) || r5.1.1.isNone))] (Os := []) trivial hE hH (by kernel_rfl) (fun a hE => ?_)
  refine wpFrom_end (by kernel_rfl) ?_
  refine Exit.then_normal (hK7 _ _ ?_)
  refine condE (b := (r5.1.2 != 0) || r5.1.1.isNone) hE (by kernel_rfl) (fun hc => ?_) (fun hc => ?_)
  · replace h := ifT hc h
    refine wp_seq_k (fun K hK8 => ?_)
    refine wp_region_from ?_
    refine segO 1 [] [(0, .kv .bool false)] (Os := []) trivial hE hH (by kernel_rfl) (fun a hE => ?_)
    refine wpFrom_end (by kernel_rfl) ?_
    refine Exit.then_normal (hK8 _ _ ?_)
    refine wp_ret ?_
    refine Exit.then_ret ?_
    cases h
    exact ret1 rfl hE hle hH (by kernel_rfl)
  · replace h := ifF hc h
    refine wp_skip ?_
    refine Exit.then_normal (hK6 _ _ ?_)
    refine wp_seq_k (fun K hK9 => ?_)
    refine wp_region_from ?_
    refine segO 1 [] [(27, .kv (.ptr 128) r5.1.1)] (Os := []) trivial hE hH (by kernel_rfl) (fun a hE => ?_)
    obtain ⟨r10, hr10, h⟩ := bs h
    refine stepCall (d := (some 28)) (f59_ok hr10) hE hH hN (by kernel_rfl) (by kernel_rfl) trivial (fun a w G hl3 hE hH => ?_)
    have hle := Gh.le_trans hle hl3
    refine wpFrom_end (by kernel_rfl) ?_
    refine Exit.then_normal (hK9 _ _ ?_)
    refine wp_seq_k (fun K hK11 => ?_)
    refine wp_region_from ?_
    refine segO 1 [] [(29, .kv (.ptr 128) r5.1.1)] (Os := []) trivial hE hH (by kernel_rfl) (fun a hE => ?_)
    obtain ⟨r12, hr12, h⟩ := bs h
    refine stepCall (d := (some 30)) (f59_ok hr12) hE hH hN (by kernel_rfl) (by kernel_rfl) trivial (fun a w G hl4 hE hH => ?_)
    have hle := Gh.le_trans hle hl4
    refine wpFrom_end (by kernel_rfl) ?_
    refine Exit.then_normal (hK11 _ _ ?_)
    refine wp_seq_k (fun K hK13 => ?_)
    refine wp_region_from ?_
    refine segO 1 [] [(31, .kv (.ptr 128) r5.1.1)] (Os := []) trivial hE hH (by kernel_rfl) (fun a hE => ?_)
    obtain ⟨r14, hr14, h⟩ := bs h
    refine stepCall (d := (some 32)) (f61_ok hr14) hE hH hN (by kernel_rfl) (by kernel_rfl) trivial (fun a w G hl5 hE hH => ?_)
    have hle := Gh.le_trans hle hl5
    refine segO 1 [] [(5, .kv .i r14.1)] (Os := []) trivial hE hH (by kernel_rfl) (fun a hE => ?_)
    refine wpFrom_end (by kernel_rfl) ?_
    refine Exit.then_normal (hK13 _ _ ?_)
    refine wp_seq_k (fun K hK15 => ?_)
    refine wp_region_from ?_
    refine segO 1 [] [(34, .kv (.ptr 128) r5.1.1)] (Os := []) trivial hE hH (by kernel_rfl) (fun a hE => ?_)
    obtain ⟨r16, hr16, h⟩ := bs h
    refine stepCall (d := (some 35)) (f59_ok hr16) hE hH hN (by kernel_rfl) (by kernel_rfl) trivial (fun a w G hl6 hE hH => ?_)
    have hle := Gh.le_trans hle hl6
    refine segO 5 [] [(6, .kv .i r16.1.1), (7, .kv .i r16.1.2)] (Os := []) trivial hE hH (by kernel_rfl) (fun a hE => ?_)
    refine wpFrom_end (by kernel_rfl) ?_
    refine Exit.then_normal (hK15 _ _ ?_)
    refine wp_seq_k (fun K hK17 => ?_)
    refine wp_seq_k (fun K hK18 => ?_)
    refine wp_region_from ?_
    refine segO 11 [] [(48, .kv .bool (((r14.1 != 0) || (r16.1.1 != 2)) || (r16.1.2 != 0)))] (Os := []) trivial hE hH (by kernel_rfl) (fun a hE => ?_)
    by_cases hc : (((r14.1 != 0) || (r16.1.1 != 2)) || (r16.1.2 != 0)) = true
    · replace h := ifT hc h
      have hE := hE.setB 48 (by kernel_rfl) hc
      refine segO 10 [] [(58, .kv .bool true)] (Os := []) trivial hE hH (by kernel_rfl) (fun a hE => ?_)
      refine wpFrom_end (by kernel_rfl) ?_
      refine Exit.then_normal (hK18 _ _ ?_)
      refine condT hE (by kernel_rfl) rfl ?_
      refine wp_seq_k (fun K hK19 => ?_)
      refine wp_region_from ?_
      refine segO 1 [] [(0, .kv .bool false)] (Os := []) trivial hE hH (by kernel_rfl) (fun a hE => ?_)
      refine wpFrom_end (by kernel_rfl) ?_
      refine Exit.then_normal (hK19 _ _ ?_)
      refine wp_ret ?_
      refine Exit.then_ret ?_
      cases h
      exact ret1 rfl hE hle hH (by kernel_rfl)
    · replace h := ifN hc h
      have hE := hE.setB 48 (by kernel_rfl) (bf hc)
      refine segO 1 [] [(49, .kv (.ptr 128) r5.1.1)] (Os := []) trivial hE hH (by kernel_rfl) (fun a hE => ?_)
      obtain ⟨r20, hr20, h⟩ := bs h
      refine stepCall (d := (some 50)) (f60_ok hr20) hE hH hN (by kernel_rfl) (by kernel_rfl) trivial (fun a w G hl7 hE hH => ?_)
      have hle := Gh.le_trans hle hl7
      refine segO 3 [] [(53, .kv .bool (r20 != 2))] (Os := []) trivial hE hH (by kernel_rfl) (fun a hE => ?_)
      by_cases hc : (r20 != 2) = true
      · replace h := ifT hc h
        have hE := hE.setB 53 (by kernel_rfl) hc
        refine segO 5 [] [(58, .kv .bool true)] (Os := []) trivial hE hH (by kernel_rfl) (fun a hE => ?_)
        refine wpFrom_end (by kernel_rfl) ?_
        refine Exit.then_normal (hK18 _ _ ?_)
        refine condT hE (by kernel_rfl) rfl ?_
        refine wp_seq_k (fun K hK21 => ?_)
        refine wp_region_from ?_
        refine segO 1 [] [(0, .kv .bool false)] (Os := []) trivial hE hH (by kernel_rfl) (fun a hE => ?_)
        refine wpFrom_end (by kernel_rfl) ?_
        refine Exit.then_normal (hK21 _ _ ?_)
        refine wp_ret ?_
        refine Exit.then_ret ?_
        cases h
        exact ret1 rfl hE hle hH (by kernel_rfl)
      · replace h := ifN hc h
        have hE := hE.setB 53 (by kernel_rfl) (bf hc)
        refine segO 1 [] [(54, .kv (.ptr 105) r3.1.1)] (Os := []) trivial hE hH (by kernel_rfl) (fun a hE => ?_)
        refine stepBuildS (d := (some 55)) .i [2] hE hH (by kernel_rfl) (by kernel_rfl) (fun a w G hl8 hE hH => ?_)
        have hle := Gh.le_trans hle hl8
        obtain ⟨r22, hr22, h⟩ := bs h
        refine stepCall (d := (some 56)) (f27_ok hr22) hE hH hN (by kernel_rfl) (by kernel_rfl) trivial (fun a w G hl9 hE hH => ?_)
        have hle := Gh.le_trans hle hl9
        refine segO 2 [] [(58, .kv .bool (r22.1 != 0))] (Os := []) trivial hE hH (by kernel_rfl) (fun a hE => ?_)
        refine wpFrom_end (by kernel_rfl) ?_
        refine Exit.then_normal (hK18 _ _ ?_)
        refine condE (b := r22.1 != 0) hE (by kernel_rfl) (fun hc => ?_) (fun hc => ?_)
        · replace h := ifT hc h
          refine wp_seq_k (fun K hK23 => ?_)
          refine wp_region_from ?_
          refine segO 1 [] [(0, .kv .bool false)] (Os := []) trivial hE hH (by kernel_rfl) (fun a hE => ?_)
          refine wpFrom_end (by kernel_rfl) ?_
          refine Exit.then_normal (hK23 _ _ ?_)
          refine wp_ret ?_
          refine Exit.then_ret ?_
          cases h
          exact ret1 rfl hE hle hH (by kernel_rfl)
        · replace h := ifF hc h
          refine wp_skip ?_
          refine Exit.then_normal (hK17 _ _ ?_)
          refine wp_seq_k (fun K hK24 => ?_)
          refine wp_region_from ?_
          refine segO 1 [] [(60, .kv (.ptr 105) r3.1.1)] (Os := []) trivial hE hH (by kernel_rfl) (fun a hE => ?_)
          obtain ⟨r25, hr25, h⟩ := bs h
          refine stepCall (d := (some 61)) (f53_ok hr25) hE hH hN (by kernel_rfl) (by kernel_rfl) trivial (fun a w G hl10 hE hH => ?_)
          have hle := Gh.le_trans hle hl10
          refine segO 5 [] [(8, .kv (.ptr 128) r25.1.1), (9, .kv .i r25.1.2)] (Os := []) trivial hE hH (by kernel_rfl) (fun a hE => ?_)
          refine wpFrom_end (by kernel_rfl) ?_
          refine Exit.then_normal (hK24 _ _ ?_)
          refine wp_seq_k (fun K hK26 => ?_)
          refine wp_region_from ?_
          refine segO 1 [] [(65, .kv (.ptr 128) r25.1.1)] (Os := []) trivial hE hH (by kernel_rfl) (fun a hE => ?_)
          obtain ⟨r27, hr27, h⟩ := bs h
          refine stepCall (d := (some 66)) (f58_ok hr27) hE hH hN (by kernel_rfl) (by kernel_rfl) trivial (fun a w G hl11 hE hH => ?_)
          have hle := Gh.le_trans hle hl11
          refine segO 5 [] [(10, .kv .str r27.1), (11, .kv .i r27.2)] (Os := []) trivial hE hH (by kernel_rfl) (fun a hE => ?_)
          refine wpFrom_end (by kernel_rfl) ?_
          refine Exit.then_normal (hK26 _ _ ?_)
          refine wp_seq_k (fun K hK28 => ?_)
          refine wp_region_from ?_
          refine segO 3 [] [(71, .kv .bool (r25.1.2 == 0))] (Os := []) trivial hE hH (by kernel_rfl) (fun a hE => ?_)
          by_cases hc : (r25.1.2 == 0) = true
          · replace h := ifT hc h
            have hE := hE.setB 71 (by kernel_rfl) hc
            refine segO 1 [] [(72, .kv (.ptr 128) r25.1.1)] (Os := []) trivial hE hH (by kernel_rfl) (fun a hE => ?_)
            obtain ⟨r29, hr29, h⟩ := bs h
            refine stepCall (d := (some 73)) (f55_ok hr29) hE hH hN (by kernel_rfl) (by kernel_rfl) trivial (fun a w G hl12 hE hH => ?_)
            have hle := Gh.le_trans hle hl12
            refine segO 11 [] [(0, .kv .bool (((r29 == 2) && (r27.1 == [98])) && (r27.2 == 0)))] (Os := []) trivial hE hH (by kernel_rfl) (fun a hE => ?_)
            refine wpFrom_end (by kernel_rfl) ?_
            refine Exit.then_normal (hK28 _ _ ?_)
            refine wp_ret ?_
            cases h
            exact ret1 rfl hE hle hH (by kernel_rfl)
          · replace h := ifN hc h
            have hE := hE.setB 71 (by kernel_rfl) (bf hc)
            refine segO 13 [] [(0, .kv .bool false)] (Os := []) trivial hE hH (by kernel_rfl) (fun a hE => ?_)
            refine wpFrom_end (by kernel_rfl) ?_
            refine Exit.then_normal (hK28 _ _ ?_)
            refine wp_ret ?_
            cases h
            exact ret1 rfl hE hle hH (by kernel_rfl)
end Go.Proofs.Ytlfemhkabjafeaa.M

/- Plain law of the log, part 1: names of segments, records, and what any bytes hold. -/
set_option linter.unusedVariables false
set_option linter.unusedSimpArgs false
namespace Go.Proofs.Ytlfemhkabjafeaa.M

theorem f116_eq : ∀ (n : Nat), n < 9223372036854775808 → f116 (n : Int) = some (dig n) := by
  intro n
  induction n using Nat.strongRecOn with
  | ind n ih =>
    intro hn
    rw [f116]
    by_cases h : n < 10
    · have h1 : ((n : Int) < 10) := by omega
      rw [if_pos (by simpa using h1), dig_small h, wrap_id (by omega) (by omega), wrap8_id (by omega) (by omega)]
      simp only [bytesS, List.map_cons, List.map_nil, dgt]
      congr 3
    · have h1 : ¬ ((n : Int) < 10) := by omega
      rw [if_neg (by simpa using h1)]
      have e1 : Int.tdiv (n : Int) 10 = ((n / 10 : Nat) : Int) := by
        rw [Int.tdiv_eq_ediv_of_nonneg (by omega)]; omega
      have e2 : Int.tmod (n : Int) 10 = ((n % 10 : Nat) : Int) := by
        rw [Int.tmod_eq_emod_of_nonneg (by omega)]; omega
      rw [e1, e2, wrap_id (x := ((n / 10 : Nat) : Int)) (by omega) (by omega), ih _ (by omega) (by omega), wrap_id (by omega) (by omega), wrap8_id (by omega) (by omega)]
      have e3 : bytesS [(48 + ((n % 10 : Nat) : Int))] = [dgt (n % 10)] := by
        simp only [bytesS, List.map_cons, List.map_nil, dgt]
        congr 2
      have hl := dig_len 18 (n / 10) (by omega)
      simp only [Option.bind_eq_bind, Option.bind_some, e3]
      rw [if_pos (by simp only [List.length_cons, List.length_nil]; omega), dig_big h]

theorem f140_loop (s : List UInt8) (hs : s.length < 9223372036854775808) : ∀ (k n : Nat) (v : Nat), n + k = s.length → v ≤ 1099511627776 → (∀ c ∈ s.drop n, 48 ≤ c.toNat ∧ c.toNat ≤ 57) → valD v (s.drop n) ≤ 1099511627776 →
    f140_l0 s (v : Int) (n : Int) = some (.inl (((valD v (s.drop n) : Nat) : Int), (s.length : Int)))
  | 0, n, v, h, hv, hc, hw => by
    rw [f140_l0]
    have : n = s.length := by omega
    subst this
    simp [valD]
  | k + 1, n, v, h, hv, hc, hw => by
    rw [f140_l0]
    have hn : n < s.length := by omega
    have hw1 : IntKind.wrap .i64 ((n : Int) + 1) = ((n + 1 : Nat) : Int) := by rw [wrap_id (by omega) (by omega)]; omega
    have hd : s.drop n = s[n] :: s.drop (n + 1) := by simp
    have h1 : ((n : Int) < (s.length : Int)) := by omega
    have h0 : (0 : Int) ≤ (n : Int) := by omega
    rw [hd] at hc hw
    have hc1 := hc _ List.mem_cons_self
    rw [valD_cons] at hw
    have hm := valD_mono (v * 10 + (s[n].toNat - 48)) (s.drop (n + 1))
    rw [btS_at hn, hw1, hd]
    simp only [h1, h0, decide_true, if_true, and_self]
    rw [if_neg (by simp; omega), if_neg (by simp; omega)]
    have e1 : IntKind.wrap .i64 (IntKind.wrap .i64 ((v : Int) * 10) + IntKind.wrap .i64 (IntKind.wrap .u8 ((s[n].toNat : Int) - 48))) = ((v * 10 + (s[n].toNat - 48) : Nat) : Int) := by
      rw [wrap8_id (by omega) (by omega), wrap_id (x := (s[n].toNat : Int) - 48) (by omega) (by omega), wrap_id (x := (v : Int) * 10) (by omega) (by omega), wrap_id (by omega) (by omega)]
      omega
    rw [e1, f140_loop s hs k (n + 1) (v * 10 + (s[n].toNat - 48)) (by omega) (by omega) (fun c hc2 => hc c (List.mem_cons_of_mem _ hc2)) hw, valD_cons]

theorem dig_head {n : Nat} (hn : 0 < n) : ∃ c r, dig n = c :: r ∧ c.toNat ≠ 48 := by
  induction n using Nat.strongRecOn with
  | ind n ih =>
    by_cases h : n < 10
    · exact ⟨dgt n, [], dig_small h, by rw [dgt_nat h]; omega⟩
    · obtain ⟨c, r, h1, h2⟩ := ih (n / 10) (by omega) (by omega)
      exact ⟨c, r ++ [dgt (n % 10)], by rw [dig_big h, h1]; rfl, h2⟩

theorem f140_dig {n : Nat} (hn : n ≤ 1099511627776) : f140 (dig n) = some (n : Int) := by
  have hl := dig_len13 hn
  have hp := dig_pos n
  have h0 := f140_loop (dig n) (by omega) (dig n).length 0 0 (by omega) (by omega) (by rw [List.drop_zero]; exact dig_all n) (by rw [List.drop_zero, valD_dig]; exact hn)
  rw [show (((0 : Nat) : Int)) = (0 : Int) from rfl, List.drop_zero, valD_dig] at h0
  unfold f140
  rw [h0]
  simp only [Option.bind_eq_bind, Option.bind_some]
  have hne : dig n ≠ [] := fun e => by rw [e] at hp; simp at hp
  rw [if_neg (by simpa using hne), if_pos (by omega)]
  rw [if_neg]
  simp only [Bool.or_eq_true, Bool.and_eq_true, not_or, not_and]
  refine ⟨fun h1 => ?_, by simp; omega⟩
  by_cases c : n = 0
  · subst c
    rw [dig_small (by decide)]
    decide
  · obtain ⟨c, r, h2, h3⟩ := dig_head (n := n) (by omega)
    rw [h2] at h1
    have : btS (c :: r) 0 = (c.toNat : Int) := by
      have := btS_at (s := c :: r) (n := 0) (by simp)
      simpa using this
    rw [this] at h1
    simp at h1
    omega

abbrev nmL : List UInt8 := [108, 111, 103]
theorem f95_log : f95 nmL = some true := by
  unfold f95
  rw [f95_l0, f95_l0, f95_l0, f95_l0]
  rfl

/-- The name of a segment's file. -/
def fileL (n : Nat) : List UInt8 := [108, 111, 103, 46] ++ dig n
theorem fileL_inj {m n : Nat} (h : fileL m = fileL n) : m = n := dig_inj (List.append_cancel_left h)
theorem fileL_len {n : Nat} (h : n ≤ 1099511627776) : (fileL n).length ≤ 17 := by
  have := dig_len13 h
  unfold fileL
  rw [List.length_append]; simp only [List.length_cons, List.length_nil]; omega
theorem okName_fileL {n : Nat} (h : n ≤ 1099511627776) : okName (fileL n) = true := by
  have hl := fileL_len h
  unfold okName
  have h1 : (fileL n).all okc = true := by
    unfold fileL
    rw [List.all_append, Bool.and_eq_true]
    refine ⟨by decide, List.all_eq_true.2 (fun c hc => okc_dig (dig_all n c hc))⟩
  have h2 : 0 < (fileL n).length := by unfold fileL; rw [List.length_append]; simp only [List.length_cons]; omega
  rw [h1]
  simp only [Bool.true_and, Bool.and_eq_true, decide_eq_true_eq]
  omega

/-! ### Records -/
/-- What a record's text is. -/
def recT (n : Nat) (x : List UInt8) : List UInt8 := sealS (numV n ++ x)
/-- A record's bytes. -/
def recB (n : Nat) (x : List UInt8) : List UInt8 := numV (recT n x).length ++ recT n x

/-- What may be a record. -/
abbrev OkR (x : List UInt8) : Prop := x.length ≤ 1024
abbrev OkN (n : Nat) : Prop := n < 4611686018427387904

theorem recT_len {n : Nat} {x : List UInt8} (hn : OkN n) (hx : OkR x) : (recT n x).length ≤ 1038 := by
  have := numV_len (n := n) (by unfold OkN at hn; omega)
  unfold recT
  rw [sealS_len, List.length_append]
  unfold OkR at hx; omega

theorem recB_len {n : Nat} {x : List UInt8} (hn : OkN n) (hx : OkR x) : (recB n x).length ≤ 1048 := by
  have h1 := recT_len hn hx
  have := numV_len (n := (recT n x).length) (by omega)
  unfold recB
  rw [List.length_append]; omega

theorem numV_pos (n : Nat) : 0 < (numV n).length := by
  unfold numV bytesS; rw [List.length_map]; exact vbI_pos _

theorem recB_pos (n : Nat) (x : List UInt8) : 0 < (recB n x).length := by
  have := numV_pos (recT n x).length
  unfold recB; rw [List.length_append]; omega

theorem f99_eq {n : Nat} {x : List UInt8} (hn : OkN n) (hx : OkR x) : f99 (n : Int) x = some (recB n x) := by
  unfold OkN at hn
  have h0 := numV_len (n := n) (by omega)
  have h1 := recT_len hn hx
  have h2 := numV_len (n := (recT n x).length) (by omega)
  unfold OkR at hx
  unfold f99
  rw [f90_numV (by omega)]
  simp only [Option.bind_eq_bind, Option.bind_some]
  rw [if_pos (by omega), f89_eq (by rw [List.length_append]; omega)]
  have e : sealS (numV n ++ x) = recT n x := rfl
  rw [e]
  simp only [Option.bind_some]
  rw [f90_numV (by omega)]
  simp only [Option.bind_some]
  rw [if_pos (by omega)]
  rfl

/-- A record is there. -/
theorem f94_there {s rest x : List UInt8} {p n : Nat} (hs : s.length < 4611686018427387904) (hp : p ≤ s.length) (hn : OkN n) (hx : OkR x) (hd : s.drop p = recB n x ++ rest) :
    f94 s (p : Int) (n : Int) = some (x, ((p + (recB n x).length : Nat) : Int), true) := by
  unfold OkN at hn
  have hT := recT_len hn hx
  have hlen : p + (recB n x).length + rest.length = s.length := by
    have := congrArg List.length hd
    rw [List.length_drop, List.length_append] at this; omega
  have hB : (recB n x).length = (numV (recT n x).length).length + (recT n x).length := by unfold recB; rw [List.length_append]
  have hd2 : s.drop p = numV (recT n x).length ++ (recT n x ++ rest) := by rw [hd]; unfold recB; rw [List.append_assoc]
  unfold f94
  rw [f113_num (k := (recT n x).length) (by omega) (by omega) hp hd2]
  simp only [Option.bind_eq_bind, Option.bind_some]
  have hw1 : IntKind.wrap .i64 ((s.length : Int) - ((p + (numV (recT n x).length).length : Nat) : Int)) = (s.length : Int) - ((p + (numV (recT n x).length).length : Nat) : Int) := wrap_id (by omega) (by omega)
  have hw2 : IntKind.wrap .i64 (((p + (numV (recT n x).length).length : Nat) : Int) + ((recT n x).length : Int)) = ((p + (recB n x).length : Nat) : Int) := by rw [wrap_id (by omega) (by omega)]; omega
  rw [hw1, hw2, if_neg (by simp; omega), if_pos (by omega)]
  have hi1 : Int.toNat ((p + (recB n x).length : Nat) : Int) = p + (recB n x).length := by omega
  have hi2 : Int.toNat ((p + (numV (recT n x).length).length : Nat) : Int) = p + (numV (recT n x).length).length := by omega
  have hsub : (s.take (p + (recB n x).length)).drop (p + (numV (recT n x).length).length) = recT n x := by
    rw [List.drop_take, ← List.drop_drop, hd2]
    have : p + (recB n x).length - (p + (numV (recT n x).length).length) = (recT n x).length := by omega
    rw [this, List.drop_left, List.take_left]
  rw [hi1, hi2, hsub]
  rcases f108_eq (s := recT n x) (by omega) with ⟨t, h1, h2⟩ | ⟨h1, _⟩
  · have e : openS (recT n x) = some (numV n ++ x) := openS_seal _
    rw [e] at h1
    simp only [Option.some.injEq] at h1
    subst h1
    rw [h2, f90_numV (by omega)]
    have hnl := numV_len (n := n) (by omega)
    unfold OkR at hx
    simp only [Option.bind_some]
    have hi3 : Int.toNat (((numV n).length : Nat) : Int) = (numV n).length := by omega
    have hw3 : IntKind.wrap .i64 (((numV n ++ x).length : Int) - ((numV n).length : Int)) = (x.length : Int) := by
      rw [List.length_append, wrap_id (by omega) (by omega)]; omega
    have hg : (0 : Int) ≤ ((numV n).length : Int) ∧ ((numV n).length : Int) ≤ ((numV n ++ x).length : Int) := by rw [List.length_append]; omega
    rw [if_neg (by simp), if_neg (by simp; omega), if_pos hg, hi3, hw3, if_neg (by simp; omega), if_pos hg]
    simp
  · have e : openS (recT n x) = some (numV n ++ x) := openS_seal _
    rw [e] at h1; cases h1

/-- A record is torn. -/
theorem f94_torn {s t x : List UInt8} {p n : Nat} (hs : s.length < 4611686018427387904) (hp : p ≤ s.length) (hn : OkN n) (hx : OkR x) (hd : s.drop p = t) (ht : t <+: recB n x) (hl : t.length < (recB n x).length) :
    f94 s (p : Int) (n : Int) = some ([], 0, false) := by
  have hT := recT_len hn hx
  have hlen : p + t.length = s.length := by
    have := congrArg List.length hd
    rw [List.length_drop] at this; omega
  have hB : (recB n x).length = (numV (recT n x).length).length + (recT n x).length := by unfold recB; rw [List.length_append]
  unfold f94
  by_cases c : t.length < (numV (recT n x).length).length
  · rw [f113_torn (k := (recT n x).length) (by omega) (by omega) hp hd (List.prefix_of_prefix_length_le ht (by unfold recB; exact List.prefix_append _ _) (by omega)) c]
    rfl
  · have h2 : numV (recT n x).length <+: t := List.prefix_of_prefix_length_le (by unfold recB; exact List.prefix_append _ _) ht (by omega)
    obtain ⟨r, hr⟩ := h2
    rw [f113_num (k := (recT n x).length) (rest := r) (by omega) (by omega) hp (by rw [hd, hr])]
    simp only [Option.bind_eq_bind, Option.bind_some]
    have hw1 : IntKind.wrap .i64 ((s.length : Int) - ((p + (numV (recT n x).length).length : Nat) : Int)) = (s.length : Int) - ((p + (numV (recT n x).length).length : Nat) : Int) := wrap_id (by omega) (by omega)
    rw [hw1, if_pos (by simp; right; omega)]

/-! ### Segments -/
/-- The bytes of some records. -/
def segB : Nat → List (List UInt8) → List UInt8
  | _, [] => []
  | n, x :: r => recB n x ++ segB (n + 1) r

theorem segB_app : ∀ (n : Nat) (l l' : List (List UInt8)), segB n (l ++ l') = segB n l ++ segB (n + l.length) l'
  | n, [], l' => by simp [segB]
  | n, x :: r, l' => by
    have := segB_app (n + 1) r l'
    simp only [List.cons_append, segB, this, List.append_assoc, List.length_cons]
    have e : n + 1 + r.length = n + (r.length + 1) := by omega
    rw [e]

theorem segB_len : ∀ (n : Nat) (l : List (List UInt8)), OkN (n + l.length) → (∀ x ∈ l, OkR x) → (segB n l).length ≤ l.length * 1048
  | n, [], _, _ => by simp [segB]
  | n, x :: r, hn, hx => by
    have hn' : n + (r.length + 1) < 4611686018427387904 := hn
    have h1 := recB_len (n := n) (x := x) (by unfold OkN; omega) (hx x List.mem_cons_self)
    have h2 := segB_len (n + 1) r (by unfold OkN; omega) (fun y hy => hx y (List.mem_cons_of_mem _ hy))
    simp only [segB, List.length_append, List.length_cons]
    omega

/-- These are no whole record of that number. -/
def Torn (n : Nat) (t : List UInt8) : Prop := ∃ x, OkR x ∧ t <+: recB n x ∧ t.length < (recB n x).length

theorem Torn.nil (n : Nat) : Torn n [] := ⟨[], by decide, List.nil_prefix, recB_pos n []⟩

theorem f49_loop (s : List UInt8) (f : Nat) (hs : s.length < 1099511627776) (t : List UInt8) : ∀ (rem pre : List (List UInt8)), s = segB f pre ++ (segB (f + pre.length) rem ++ t) → OkN (f + pre.length + rem.length) → (∀ x ∈ rem, OkR x) → Torn (f + pre.length + rem.length) t → pre.length ≤ s.length →
    f49_l0 s (f : Int) pre (((segB f pre).length : Nat) : Int) = some (pre ++ rem, ((segB f (pre ++ rem)).length : Int))
  | [], pre, hse, hn, hx, ⟨y, hy, ht, htl⟩, hpl => by
    rw [f49_l0]
    simp only [List.length_nil, Nat.add_zero] at hn ht htl
    have hn' : f + pre.length < 4611686018427387904 := hn
    have hl : (segB f pre).length ≤ s.length := by rw [hse]; simp
    have hd : s.drop (segB f pre).length = t := by rw [hse]; simp [segB]
    have hw : IntKind.wrap .i64 ((f : Int) + (pre.length : Int)) = ((f + pre.length : Nat) : Int) := by rw [wrap_id (by omega) (by omega)]; omega
    rw [if_pos (by simp), hw, f94_torn (by omega) hl hn hy hd ht htl]
    simp
  | x :: rem, pre, hse, hn, hx, ht, hpl => by
    rw [f49_l0]
    have hn' : f + pre.length + (rem.length + 1) < 4611686018427387904 := hn
    have hxx := hx x List.mem_cons_self
    have hl : (segB f pre).length ≤ s.length := by rw [hse]; simp
    have hd : s.drop (segB f pre).length = recB (f + pre.length) x ++ (segB (f + pre.length + 1) rem ++ t) := by rw [hse]; simp [segB]
    have hw : IntKind.wrap .i64 ((f : Int) + (pre.length : Int)) = ((f + pre.length : Nat) : Int) := by rw [wrap_id (by omega) (by omega)]; omega
    have hpos := recB_pos (f + pre.length) x
    have hgr : (segB f pre).length + (recB (f + pre.length) x).length ≤ s.length := by
      have := congrArg List.length hd
      rw [List.length_drop, List.length_append] at this; omega
    rw [if_pos (by simp), hw, f94_there (by omega) hl (by unfold OkN; omega) hxx hd]
    simp only [Option.bind_eq_bind, Option.bind_some, Bool.not_true, Bool.false_eq_true, if_false]
    rw [if_pos (by omega)]
    have hlen1 : (pre ++ [x]).length = pre.length + 1 := by simp
    have hseg : segB f (pre ++ [x]) = segB f pre ++ recB (f + pre.length) x := by rw [segB_app]; simp [segB]
    have hpl2 : ∀ (n : Nat) (l : List (List UInt8)), l.length ≤ (segB n l).length := by
      intro n l
      induction l generalizing n with
      | nil => simp
      | cons a r ih =>
        have := ih (n + 1)
        have := recB_pos n a
        simp only [segB, List.length_append, List.length_cons]; omega
    have ht2 : Torn (f + (pre ++ [x]).length + rem.length) t := by
      have e : f + (pre ++ [x]).length + rem.length = f + pre.length + (x :: rem).length := by simp only [List.length_append, List.length_cons, List.length_nil]; omega
      rw [e]; exact ht
    have hs2 : s = segB f (pre ++ [x]) ++ (segB (f + (pre ++ [x]).length) rem ++ t) := by
      rw [hse, hseg, hlen1]
      simp only [segB, List.append_assoc]
      rfl
    have := f49_loop s f hs t rem (pre ++ [x]) hs2 (by rw [hlen1]; unfold OkN; omega) (fun y hy => hx y (List.mem_cons_of_mem _ hy)) ht2 (by have h5 := hpl2 f (pre ++ [x]); rw [hseg] at h5; have h6 : (segB f pre ++ recB (f + pre.length) x).length = (segB f pre).length + (recB (f + pre.length) x).length := List.length_append; omega)
    have e1 : ((segB f (pre ++ [x])).length : Int) = (((segB f pre).length + (recB (f + pre.length) x).length : Nat) : Int) := by rw [hseg, List.length_append]
    rw [e1] at this
    rw [this]
    simp

theorem f49_eq {s t : List UInt8} {f : Nat} {recs : List (List UInt8)} (hs : s.length < 1099511627776) (hse : s = segB f recs ++ t) (hn : OkN (f + recs.length)) (hx : ∀ x ∈ recs, OkR x) (ht : Torn (f + recs.length) t) :
    f49 s (f : Int) = some (recs, ((segB f recs).length : Int)) := by
  unfold f49
  have := f49_loop s f hs t recs [] (by simpa [segB] using hse) (by simpa using hn) hx (by simpa using ht) (by simp)
  simp only [segB, List.length_nil, List.nil_append] at this
  rw [show (((0 : Nat) : Int)) = (0 : Int) from rfl] at this
  rw [this]
  rfl

/-- A piece of some records' bytes: some whole ones, and a torn one. -/
theorem segB_take : ∀ (n : Nat) (l : List (List UInt8)) (j : Nat), (∀ x ∈ l, OkR x) → ∃ m t, m ≤ l.length ∧ (segB n l).take j = segB n (l.take m) ++ t ∧ Torn (n + m) t
  | n, [], j, _ => ⟨0, [], Nat.le_refl _, by simp [segB], Torn.nil _⟩
  | n, x :: r, j, hx => by
    by_cases c : j < (recB n x).length
    · refine ⟨0, (recB n x).take j, Nat.zero_le _, ?_, x, hx x List.mem_cons_self, List.take_prefix _ _, ?_⟩
      · simp only [segB, List.take_zero, List.nil_append]
        rw [List.take_append_of_le_length (by omega)]
      · rw [List.length_take, Nat.add_zero]; omega
    · obtain ⟨m, t, h1, h2, h3⟩ := segB_take (n + 1) r (j - (recB n x).length) (fun y hy => hx y (List.mem_cons_of_mem _ hy))
      have e : n + (m + 1) = n + 1 + m := by omega
      refine ⟨m + 1, t, by simp only [List.length_cons]; omega, ?_, by rw [e]; exact h3⟩
      simp only [segB, List.take_succ_cons]
      rw [List.take_append, List.take_of_length_le (l := recB n x) (by omega), h2, List.append_assoc]
end Go.Proofs.Ytlfemhkabjafeaa.M
