/- Printed by own program: twins and walks. -/
import Derived.Test.YtlfemhkabjafeaaP0
import Derived.Test.YtlfemhkabjafeaaU20
import Derived.Test.YtlfemhkabjafeaaW1
import Derived.Test.YtlfemhkabjafeaaW2
import Derived.Test.YtlfemhkabjafeaaU21
import Derived.Test.YtlfemhkabjafeaaW3
import Derived.Test.YtlfemhkabjafeaaProg
set_option linter.unusedVariables false
set_option maxRecDepth 100000
namespace Go.Proofs.Ytlfemhkabjafeaa.M
open Go.Proofs (Try.prog Try.func25 Try.f25 Try.func26 Try.f26)

def f25_l0 (p1 : List K31.den) (r3 : ((Option Nat) × Int) × St) (r5 : ((Option Nat) × Int) × St) (x11 : Int) (σ12 : St) : Option (Sum (Int × St) (((Option Nat) × (Option Nat) × Bool) × St)) :=
  if (((!r5.1.1.isNone) && (decide (x11 < (p1.length : Int)))) && (decide (x11 < 200))) = true then
  (ix p1 x11) >>= fun x21 =>
  f23 r3.1.1 r5.1.1 x21 σ12 >>= fun r22 =>
  if (!r22.1) = true then
  some (.inr ((none, none, false), r22.2))
  else
  f25_l0 p1 r3 r5 (IntKind.wrap .i64 (x11 + 1)) r22.2
  else
  some (.inl (x11, σ12))
  partial_fixpoint

def f25 (p0 : Int) (p1 : List K31.den) (σ : St) : Option (((Option Nat) × (Option Nat) × Bool) × St) :=
  f18 p0 σ >>= fun r3 =>
  f22 p0 r3.2 >>= fun r5 =>
  if ((r3.1.2 != r5.1.2) || (!(r3.1.1.isNone == r5.1.1.isNone))) = true then
  some ((none, none, false), r5.2)
  else
  f25_l0 p1 r3 r5 0 r5.2 >>= fun rr25 => (match rr25 with
  | .inr yy => some yy
  | .inl z24 =>
  some ((r3.1.1, r5.1.1, true), z24.2))

theorem f25_ok {p0 : Int} {p1 : List K31.den} {σ : St} {p : ((Option Nat) × (Option Nat) × Bool) × St} (h : f25 p0 p1 σ = some p) : Spec Try.prog 25 [.kv .i p0, .kv (.list K31) p1] (tabs σ) (.tup [⟨(.ptr 105), p.1.1⟩, ⟨(.ptr 47), p.1.2.1⟩, ⟨.bool, p.1.2.2⟩]) (tabs p.2) := by
  refine Spec.intro Try.func25 (by kernel_rfl) rfl (by kernel_rfl) (fun a w G0 Ls hE hH hN => ?_)
  have hle : G0.le G0 := Gh.le_refl G0
  unfold f25 at h
  refine wp_seq_k (fun K hK1 => ?_)
  refine wp_region_from ?_
  refine segO 3 [] [(4, .val (.pointer none)), (5, .val (.pointer none)), (6, .kv .bool false)] (Os := []) trivial hE hH (by kernel_rfl) (fun a hE => ?_)
  refine wpFrom_end (by kernel_rfl) ?_
  refine Exit.then_normal (hK1 _ _ ?_)
  refine wp_seq_k (fun K hK2 => ?_)
  refine wp_region_from ?_
  refine segO 1 [] [(13, .kv .i p0)] (Os := []) trivial hE hH (by kernel_rfl) (fun a hE => ?_)
  obtain ⟨r3, hr3, h⟩ := bs h
  refine stepCall (d := (some 14)) (f18_ok hr3) hE hH hN (by kernel_rfl) (by kernel_rfl) trivial (fun a w G hl1 hE hH => ?_)
  have hle := Gh.le_trans hle hl1
  refine segO 5 [] [(7, .kv (.ptr 105) r3.1.1), (8, .kv .i r3.1.2)] (Os := []) trivial hE hH (by kernel_rfl) (fun a hE => ?_)
  refine wpFrom_end (by kernel_rfl) ?_
  refine Exit.then_normal (hK2 _ _ ?_)
  refine wp_seq_k (fun K hK4 => ?_)
  refine wp_region_from ?_
  refine segO 1 [] [(18, .kv .i p0)] (Os := []) trivial hE hH (by kernel_rfl) (fun a hE => ?_)
  obtain ⟨r5, hr5, h⟩ := bs h
  refine stepCall (d := (some 19)) (f22_ok hr5) hE hH hN (by kernel_rfl) (by kernel_rfl) trivial (fun a w G hl2 hE hH => ?_)
  have hle := Gh.le_trans hle hl2
  refine segO 5 [] [(9, .kv (.ptr 47) r5.1.1), (10, .kv .i r5.1.2)] (Os := []) trivial hE hH (by kernel_rfl) (fun a hE => ?_)
  refine wpFrom_end (by kernel_rfl) ?_
  refine Exit.then_normal (hK4 _ _ ?_)
  refine wp_seq_k (fun K hK6 => ?_)
  refine wp_seq_k (fun K hK7 => ?_)
  refine wp_region_from ?_
  refine segO 10 [] [(31, .kv .bool ((r3.1.2 != r5.1.2) || (!(r3.1.1.isNone == r5.1.1.isNone))))] (Os := []) trivial hE hH (by kernel_rfl) (fun a hE => ?_)
  refine wpFrom_end (by kernel_rfl) ?_
  refine Exit.then_normal (hK7 _ _ ?_)
  refine condE (b := (r3.1.2 != r5.1.2) || (!(r3.1.1.isNone == r5.1.1.isNone))) hE (by kernel_rfl) (fun hc => ?_) (fun hc => ?_)
  · replace h := ifT hc h
    refine wp_seq_k (fun K hK8 => ?_)
    refine wp_region_from ?_
    refine segO 3 [] [(4, .val (.pointer none)), (5, .val (.pointer none)), (6, .kv .bool false)] (Os := []) trivial hE hH (by kernel_rfl) (fun a hE => ?_)
    refine wpFrom_end (by kernel_rfl) ?_
    refine Exit.then_normal (hK8 _ _ ?_)
    refine wp_ret ?_
    refine Exit.then_ret ?_
    cases h
    exact ret3 rfl hE hle hH (by kernel_rfl)
  · replace h := ifF hc h
    refine wp_skip ?_
    refine Exit.then_normal (hK6 _ _ ?_)
    refine wp_seq_k (fun K hK9 => ?_)
    refine wp_seq_k (fun K hK10 => ?_)
    refine wp_region_from ?_
    refine segO 1 [] [(11, .kv .i 0)] (Os := []) trivial hE hH (by kernel_rfl) (fun a hE => ?_)
    refine wpFrom_end (by kernel_rfl) ?_
    refine Exit.then_normal (hK10 _ _ ?_)
    refine wp_block ?_
    obtain ⟨rr25, hrr25, h⟩ := bs h
    refine loop_intro (fun Q13 c hQ hc => ?_)
    have key : ∀ (x11 : Int) (σ12 : St) (rr : Sum (Int × St) (((Option Nat) × (Option Nat) × Bool) × St)), f25_l0 p1 r3 r5 x11 σ12 = some rr → ∀ (a : Act) (w : World) (G : Gh), G0.le G → EnvR G 56 a [(1, .kv (.list K31) p1), (4, .val (.pointer none)), (5, .val (.pointer none)), (6, .kv .bool false), (7, .kv (.ptr 105) r3.1.1), (9, .kv (.ptr 47) r5.1.1), (11, .kv .i x11)] → Holds w G (tabs σ12) (Ls) → (∀ z24 : Int × St, rr = .inl z24 → ∀ (a : Act) (w : World) (G : Gh), G0.le G → EnvR G 56 a [(1, .kv (.list K31) p1), (4, .val (.pointer none)), (5, .val (.pointer none)), (6, .kv .bool false), (7, .kv (.ptr 105) r3.1.1), (9, .kv (.ptr 47) r5.1.1), (11, .kv .i z24.1)] → Holds w G (tabs z24.2) (Ls) → Q13 (.exit 0) a w) → (∀ yy : ((Option Nat) × (Option Nat) × Bool) × St, rr = .inr yy → ∀ (a : Act) (w : World), PostB Try.prog Try.f25 G0 (.tup [⟨(.ptr 105), yy.1.1⟩, ⟨(.ptr 47), yy.1.2.1⟩, ⟨.bool, yy.1.2.2⟩]) (tabs yy.2) Ls .ret a w → Q13 .ret a w) → Rnd Try.prog c Q13 a w := by
      refine f25_l0.partial_correctness p1 r3 r5 _ ?_
      intro self ih16 x11 σ12 rr h a w G  hle hE hH hx14 hret15
      refine rnd_step' hc ?_
      refine wp_seq_k (fun K hK17 => ?_)
      refine wp_seq_k (fun K hK18 => ?_)
      refine wp_region_from ?_
      refine segO 12 [] [(43, .kv .bool (((!r5.1.1.isNone) && (decide (x11 < (p1.length : Int)))) && (decide (x11 < 200))))] (Os := []) trivial hE hH (by kernel_rfl) (fun a hE => ?_)
      refine wpFrom_end (by kernel_rfl) ?_
      refine Exit.then_normal (hK18 _ _ ?_)
      refine condE (b := ((!r5.1.1.isNone) && (decide (x11 < (p1.length : Int)))) && (decide (x11 < 200))) hE (by kernel_rfl) (fun hc => ?_) (fun hc => ?_)
      · replace h := ifT hc h
        refine wp_skip ?_
        refine Exit.then_normal (hK17 _ _ ?_)
        refine wp_seq_k (fun K hK19 => ?_)
        refine wp_block ?_
        refine wp_seq_k (fun K hK20 => ?_)
        refine wp_region_from ?_
        obtain ⟨x21, hx21, h⟩ := bs h
        refine segO 6 [.ix K31 x21] [(46, .kv (.ptr 105) r3.1.1), (47, .kv (.ptr 47) r5.1.1), (51, .kv K31 x21)] (Os := [_]) ⟨(IxAt.of (k := K31) hx21), trivial⟩ hE hH (by kernel_rfl) (fun a hE => ?_)
        obtain ⟨r22, hr22, h⟩ := bs h
        refine stepCall (d := (some 52)) (f23_ok hr22) hE hH hN (by kernel_rfl) (by kernel_rfl) trivial (fun a w G hl3 hE hH => ?_)
        have hle := Gh.le_trans hle hl3
        refine segO 1 [] [(53, .kv .bool (!r22.1))] (Os := []) trivial hE hH (by kernel_rfl) (fun a hE => ?_)
        refine wpFrom_end (by kernel_rfl) ?_
        refine Exit.then_normal (hK20 _ _ ?_)
        refine condE (b := !r22.1) hE (by kernel_rfl) (fun hc => ?_) (fun hc => ?_)
        · replace h := ifT hc h
          refine wp_seq_k (fun K hK23 => ?_)
          refine wp_region_from ?_
          refine segO 3 [] [(4, .val (.pointer none)), (5, .val (.pointer none)), (6, .kv .bool false)] (Os := []) trivial hE hH (by kernel_rfl) (fun a hE => ?_)
          refine wpFrom_end (by kernel_rfl) ?_
          refine Exit.then_normal (hK23 _ _ ?_)
          refine wp_ret ?_
          refine Exit.in_ret ?_
          refine Exit.then_ret ?_
          refine Exit.then_ret ?_
          cases h
          exact hret15 _ rfl _ _ (ret3 rfl hE hle hH (by kernel_rfl))
        · replace h := ifF hc h
          refine wp_skip ?_
          refine Exit.in_normal ?_
          refine Exit.then_normal (hK19 _ _ ?_)
          refine wp_region_from ?_
          refine segO 3 [] [(11, .kv .i (IntKind.wrap .i64 (x11 + 1)))] (Os := []) trivial hE hH (by kernel_rfl) (fun a hE => ?_)
          refine wpFrom_end (by kernel_rfl) ?_
          refine Exit.then_normal ?_
          exact ih16 _ _ _ h _ _ _  hle (hE.subC (by kernel_rfl)) hH hx14 hret15
      · replace h := ifF hc h
        refine wp_exit ?_
        refine Exit.then_exit ?_
        refine Exit.then_exit ?_
        cases h
        exact hx14 _ rfl _ _ _  hle (hE.subC (by kernel_rfl)) hH
    refine key _ _ _ hrr25 _ _ _  hle (hE.subC (by kernel_rfl)) hH ?_ ?_
    · intro z24 hz a w G  hle hE hH
      subst hz
      rw [hQ]
      dsimp only at h
      refine Exit.in_eq ?_
      refine Exit.then_normal (hK9 _ _ ?_)
      refine wp_seq_k (fun K hK26 => ?_)
      refine wp_region_from ?_
      refine segO 5 [] [(4, .kv (.ptr 105) r3.1.1), (5, .kv (.ptr 47) r5.1.1), (6, .kv .bool true)] (Os := []) trivial hE hH (by kernel_rfl) (fun a hE => ?_)
      refine wpFrom_end (by kernel_rfl) ?_
      refine Exit.then_normal (hK26 _ _ ?_)
      refine wp_ret ?_
      cases h
      exact ret3 rfl hE hle hH (by kernel_rfl)
    · intro yy hz a w hp
      subst hz
      dsimp only at h
      cases h
      rw [hQ]
      refine Exit.in_ret ?_
      refine Exit.then_ret ?_
      exact hp

def f26_l0 (p0 : Option Nat) (p1 : Option Nat) (σ : St) (x21 : Int) : Option (Sum Int Bool) :=
  p1 >>= fun i28 =>
  (σ.t47[i28]?) >>= fun o29 =>
  if (decide (x21 < (o29.2.1.length : Int))) = true then
  p1 >>= fun i32 =>
  (σ.t47[i32]?) >>= fun o33 =>
  (ix o33.2.1 x21) >>= fun x34 =>
  f28 p0 x34.1 σ >>= fun r35 =>
  p1 >>= fun i37 =>
  (σ.t47[i37]?) >>= fun o38 =>
  (ix o38.2.1 x21) >>= fun x39 =>
  f76 p1 x39.1 σ >>= fun r40 =>
  if (!(r35.1 == r40.1)) = true then
  some (.inr false)
  else
  if (r35.2 != r40.2) = true then
  some (.inr false)
  else
  p1 >>= fun i48 =>
  (σ.t47[i48]?) >>= fun o49 =>
  (ix o49.2.1 x21) >>= fun x50 =>
  f30 p0 x50.1 σ >>= fun r51 =>
  p1 >>= fun i52 =>
  (σ.t47[i52]?) >>= fun o53 =>
  (ix o53.2.1 x21) >>= fun x54 =>
  if (r51 != (x54.2.1.length : Int)) = true then
  some (.inr false)
  else
  f26_l0 p0 p1 σ (IntKind.wrap .i64 (x21 + 1))
  else
  some (.inl x21)
  partial_fixpoint

def f26 (p0 : Option Nat) (p1 : Option Nat) (p2 : List UInt8) (σ : St) : Option Bool :=
  f21 p0 σ >>= fun r4 =>
  f74 p1 σ >>= fun r5 =>
  f51 r4 r5 >>= fun r6 =>
  if (!r6) = true then
  some false
  else
  f20 p0 σ >>= fun r10 =>
  f75 p1 σ >>= fun r11 =>
  if (r10 != r11) = true then
  some false
  else
  f31 p0 σ >>= fun r15 =>
  p1 >>= fun i16 =>
  (σ.t47[i16]?) >>= fun o17 =>
  if (!(r15 == o17.2.2.2.1)) = true then
  some false
  else
  f26_l0 p0 p1 σ 0 >>= fun rr57 => (match rr57 with
  | .inr yy => some yy
  | .inl z56 =>
  f28 p0 p2 σ >>= fun r59 =>
  f76 p1 p2 σ >>= fun r61 =>
  if ((r59.1 == r61.1) && (r59.2 == r61.2)) = true then
  f34 p1 p2 σ >>= fun r63 =>
  if (decide (r63 ≥ 0)) = true then
  some true
  else
  f30 p0 p2 σ >>= fun r64 =>
  some (r64 == 0)
  else
  some false)

theorem f26_ok {p0 : Option Nat} {p1 : Option Nat} {p2 : List UInt8} {σ : St} {p : Bool} (h : f26 p0 p1 p2 σ = some p) : Spec Try.prog 26 [.kv (.ptr 105) p0, .kv (.ptr 47) p1, .kv .str p2] (tabs σ) (.kv .bool p) (tabs σ) := by
  refine Spec.intro Try.func26 (by kernel_rfl) rfl (by kernel_rfl) (fun a w G0 Ls hE hH hN => ?_)
  have hle : G0.le G0 := Gh.le_refl G0
  unfold f26 at h
  refine wp_seq_k (fun K hK1 => ?_)
  refine wp_region_from ?_
  refine segO 1 [] [(6, .kv .bool false)] (Os := []) trivial hE hH (by kernel_rfl) (fun a hE => ?_)
  refine wpFrom_end (by kernel_rfl) ?_
  refine Exit.then_normal (hK1 _ _ ?_)
  refine wp_seq_k (fun K hK2 => ?_)
  refine wp_seq_k (fun K hK3 => ?_)
  obtain ⟨r4, hr4, h⟩ := bs h
  obtain ⟨r5, hr5, h⟩ := bs h
  obtain ⟨r6, hr6, h⟩ := bs h
  by_cases hc : (!r6) = true
  · replace h := ifT hc h
    have c7 := hc
    refine region_par 20 [1, 3, 4] [(0, 0), (0, 0), (0, 1), (1, 1), (2, 2), (3, 3), (3, 3), (3, 3), (3, 3), (3, 3), (3, 3), (3, 3), (3, 3), (3, 3), (3, 3), (3, 3), (3, 3), (3, 3), (3, 3), (3, 3)] [.kv (.ptr 105) p0, .kv (.list .str) r4, .kv (.ptr 47) p1, .kv (.list .str) r5, .kv .bool r6, .kv .bool (!r6), .kv .bool true, .undef, .undef, .undef, .undef, .undef, .kv .bool true, .kv .bool true, .undef, .undef, .undef, .undef, .undef, .undef] (fun _ => tabs σ) (fun _ => Ls) (by kernel_rfl) (by kernel_rfl) hE hH
            ⟨⟨⟨⟨⟨⟨⟨⟨⟨⟨⟨⟨⟨⟨⟨⟨⟨⟨⟨⟨trivial,
            anyk (fun k => obR [] (Os := []) trivial (by kernel_rfl) (by kernel_rfl))⟩,
            one (obC (k := 0) (d := (some 17)) (f21_ok hr4) rfl hN (by kernel_rfl) (by kernel_rfl) rfl trivial)⟩,
            anyk (fun k => obR [] (Os := []) trivial (by kernel_rfl) (by kernel_rfl))⟩,
            one (obC (k := 1) (d := (some 19)) (f74_ok hr5) rfl hN (by kernel_rfl) (by kernel_rfl) rfl trivial)⟩,
            one (obC (k := 2) (d := (some 20)) (f51_ok hr6) rfl hN (by kernel_rfl) (by kernel_rfl) rfl trivial)⟩,
            anyk (fun k => obR [] (Os := []) trivial (by kernel_rfl) (by kernel_rfl))⟩,
            anyk (fun k => obRe [] (Os := []) trivial (by kernel_rfl) (by kernel_rfl) (eb2 c7 rfl))⟩,
            anyk (fun k => obR [] (Os := []) trivial (by kernel_rfl) (by kernel_rfl))⟩,
            anyk (fun k => obR [] (Os := []) trivial (by kernel_rfl) (by kernel_rfl))⟩,
            anyk (fun k => obR [] (Os := []) trivial (by kernel_rfl) (by kernel_rfl))⟩,
            anyk (fun k => obR [] (Os := []) trivial (by kernel_rfl) (by kernel_rfl))⟩,
            anyk (fun k => obR [] (Os := []) trivial (by kernel_rfl) (by kernel_rfl))⟩,
            anyk (fun k => obR [] (Os := []) trivial (by kernel_rfl) (by kernel_rfl))⟩,
            anyk (fun k => obR [] (Os := []) trivial (by kernel_rfl) (by kernel_rfl))⟩,
            anyk (fun k => obR [] (Os := []) trivial (by kernel_rfl) (by kernel_rfl))⟩,
            anyk (fun k => obR [] (Os := []) trivial (by kernel_rfl) (by kernel_rfl))⟩,
            anyk (fun k => obR [] (Os := []) trivial (by kernel_rfl) (by kernel_rfl))⟩,
            anyk (fun k => obR [] (Os := []) trivial (by kernel_rfl) (by kernel_rfl))⟩,
            anyk (fun k => obR [] (Os := []) trivial (by kernel_rfl) (by kernel_rfl))⟩,
            anyk (fun k => obR [] (Os := []) trivial (by kernel_rfl) (by kernel_rfl))⟩ (fun a w G hl1 hE hH => ?_)
    have hle := Gh.le_trans hle hl1
    refine segO 2 [] [(37, .kv .bool true)] (Os := []) trivial hE hH (by kernel_rfl) (fun a hE => ?_)
    refine wpFrom_end (by kernel_rfl) ?_
    refine Exit.then_normal (hK3 _ _ ?_)
    refine condT hE (by kernel_rfl) rfl ?_
    refine wp_seq_k (fun K hK8 => ?_)
    refine wp_region_from ?_
    refine segO 1 [] [(6, .kv .bool false)] (Os := []) trivial hE hH (by kernel_rfl) (fun a hE => ?_)
    refine wpFrom_end (by kernel_rfl) ?_
    refine Exit.then_normal (hK8 _ _ ?_)
    refine wp_ret ?_
    refine Exit.then_ret ?_
    cases h
    exact ret1 rfl hE hle hH (by kernel_rfl)
  · replace h := ifN hc h
    have c9 := hc
    obtain ⟨r10, hr10, h⟩ := bs h
    obtain ⟨r11, hr11, h⟩ := bs h
    by_cases hc : (r10 != r11) = true
    · replace h := ifT hc h
      have c12 := hc
      refine region_par 20 [1, 3, 4, 8, 10] [(0, 0), (0, 0), (0, 1), (1, 1), (2, 2), (3, 3), (3, 3), (3, 3), (3, 3), (3, 4), (4, 4), (5, 5), (5, 5), (5, 5), (5, 5), (5, 5), (5, 5), (5, 5), (5, 5), (5, 5)] [.kv (.ptr 105) p0, .kv (.list .str) r4, .kv (.ptr 47) p1, .kv (.list .str) r5, .kv .bool r6, .kv .bool (!r6), .kv .bool false, .kv (.ptr 105) p0, .kv .i r10, .kv (.ptr 47) p1, .kv .i r11, .kv .bool (r10 != r11), .kv .bool (r10 != r11), .kv .bool true, .undef, .undef, .undef, .undef, .undef, .undef] (fun _ => tabs σ) (fun _ => Ls) (by kernel_rfl) (by kernel_rfl) hE hH
              ⟨⟨⟨⟨⟨⟨⟨⟨⟨⟨⟨⟨⟨⟨⟨⟨⟨⟨⟨⟨trivial,
              anyk (fun k => obR [] (Os := []) trivial (by kernel_rfl) (by kernel_rfl))⟩,
              one (obC (k := 0) (d := (some 17)) (f21_ok hr4) rfl hN (by kernel_rfl) (by kernel_rfl) rfl trivial)⟩,
              anyk (fun k => obR [] (Os := []) trivial (by kernel_rfl) (by kernel_rfl))⟩,
              one (obC (k := 1) (d := (some 19)) (f74_ok hr5) rfl hN (by kernel_rfl) (by kernel_rfl) rfl trivial)⟩,
              one (obC (k := 2) (d := (some 20)) (f51_ok hr6) rfl hN (by kernel_rfl) (by kernel_rfl) rfl trivial)⟩,
              anyk (fun k => obR [] (Os := []) trivial (by kernel_rfl) (by kernel_rfl))⟩,
              anyk (fun k => obRe [] (Os := []) trivial (by kernel_rfl) (by kernel_rfl) (eb2 (bf c9) rfl))⟩,
              anyk (fun k => obR [] (Os := []) trivial (by kernel_rfl) (by kernel_rfl))⟩,
              one (obC (k := 3) (d := (some 24)) (f20_ok hr10) rfl hN (by kernel_rfl) (by kernel_rfl) rfl trivial)⟩,
              anyk (fun k => obR [] (Os := []) trivial (by kernel_rfl) (by kernel_rfl))⟩,
              one (obC (k := 4) (d := (some 26)) (f75_ok hr11) rfl hN (by kernel_rfl) (by kernel_rfl) rfl trivial)⟩,
              anyk (fun k => obR [] (Os := []) trivial (by kernel_rfl) (by kernel_rfl))⟩,
              anyk (fun k => obR [] (Os := []) trivial (by kernel_rfl) (by kernel_rfl))⟩,
              anyk (fun k => obRe [] (Os := []) trivial (by kernel_rfl) (by kernel_rfl) (eb2 c12 rfl))⟩,
              anyk (fun k => obR [] (Os := []) trivial (by kernel_rfl) (by kernel_rfl))⟩,
              anyk (fun k => obR [] (Os := []) trivial (by kernel_rfl) (by kernel_rfl))⟩,
              anyk (fun k => obR [] (Os := []) trivial (by kernel_rfl) (by kernel_rfl))⟩,
              anyk (fun k => obR [] (Os := []) trivial (by kernel_rfl) (by kernel_rfl))⟩,
              anyk (fun k => obR [] (Os := []) trivial (by kernel_rfl) (by kernel_rfl))⟩,
              anyk (fun k => obR [] (Os := []) trivial (by kernel_rfl) (by kernel_rfl))⟩ (fun a w G hl2 hE hH => ?_)
      have hle := Gh.le_trans hle hl2
      refine segO 2 [] [(37, .kv .bool true)] (Os := []) trivial hE hH (by kernel_rfl) (fun a hE => ?_)
      refine wpFrom_end (by kernel_rfl) ?_
      refine Exit.then_normal (hK3 _ _ ?_)
      refine condT hE (by kernel_rfl) rfl ?_
      refine wp_seq_k (fun K hK13 => ?_)
      refine wp_region_from ?_
      refine segO 1 [] [(6, .kv .bool false)] (Os := []) trivial hE hH (by kernel_rfl) (fun a hE => ?_)
      refine wpFrom_end (by kernel_rfl) ?_
      refine Exit.then_normal (hK13 _ _ ?_)
      refine wp_ret ?_
      refine Exit.then_ret ?_
      cases h
      exact ret1 rfl hE hle hH (by kernel_rfl)
    · replace h := ifN hc h
      have c14 := hc
      obtain ⟨r15, hr15, h⟩ := bs h
      obtain ⟨i16, hi16, h⟩ := bs h
      obtain ⟨o17, ho17, h⟩ := bs h
      refine region_par 20 [1, 3, 4, 8, 10, 15] [(0, 0), (0, 0), (0, 1), (1, 1), (2, 2), (3, 3), (3, 3), (3, 3), (3, 3), (3, 4), (4, 4), (5, 5), (5, 5), (5, 5), (5, 5), (5, 5), (5, 6), (5, 6), (5, 6), (5, 6)] [.kv (.ptr 105) p0, .kv (.list .str) r4, .kv (.ptr 47) p1, .kv (.list .str) r5, .kv .bool r6, .kv .bool (!r6), .kv .bool false, .kv (.ptr 105) p0, .kv .i r10, .kv (.ptr 47) p1, .kv .i r11, .kv .bool (r10 != r11), .kv .bool (r10 != r11), .kv .bool false, .kv (.ptr 105) p0, .kv .bool r15, .kv (.ptr 47) p1, .kv (.ptr 47) (some i16), .fldA 47 i16 3, .kv .bool o17.2.2.2.1] (fun _ => tabs σ) (fun _ => Ls) (by kernel_rfl) (by kernel_rfl) hE hH
              ⟨⟨⟨⟨⟨⟨⟨⟨⟨⟨⟨⟨⟨⟨⟨⟨⟨⟨⟨⟨trivial,
              anyk (fun k => obR [] (Os := []) trivial (by kernel_rfl) (by kernel_rfl))⟩,
              one (obC (k := 0) (d := (some 17)) (f21_ok hr4) rfl hN (by kernel_rfl) (by kernel_rfl) rfl trivial)⟩,
              anyk (fun k => obR [] (Os := []) trivial (by kernel_rfl) (by kernel_rfl))⟩,
              one (obC (k := 1) (d := (some 19)) (f74_ok hr5) rfl hN (by kernel_rfl) (by kernel_rfl) rfl trivial)⟩,
              one (obC (k := 2) (d := (some 20)) (f51_ok hr6) rfl hN (by kernel_rfl) (by kernel_rfl) rfl trivial)⟩,
              anyk (fun k => obR [] (Os := []) trivial (by kernel_rfl) (by kernel_rfl))⟩,
              anyk (fun k => obRe [] (Os := []) trivial (by kernel_rfl) (by kernel_rfl) (eb2 (bf c9) rfl))⟩,
              anyk (fun k => obR [] (Os := []) trivial (by kernel_rfl) (by kernel_rfl))⟩,
              one (obC (k := 3) (d := (some 24)) (f20_ok hr10) rfl hN (by kernel_rfl) (by kernel_rfl) rfl trivial)⟩,
              anyk (fun k => obR [] (Os := []) trivial (by kernel_rfl) (by kernel_rfl))⟩,
              one (obC (k := 4) (d := (some 26)) (f75_ok hr11) rfl hN (by kernel_rfl) (by kernel_rfl) rfl trivial)⟩,
              anyk (fun k => obR [] (Os := []) trivial (by kernel_rfl) (by kernel_rfl))⟩,
              anyk (fun k => obR [] (Os := []) trivial (by kernel_rfl) (by kernel_rfl))⟩,
              anyk (fun k => obRe [] (Os := []) trivial (by kernel_rfl) (by kernel_rfl) (eb2 (bf c14) rfl))⟩,
              anyk (fun k => obR [] (Os := []) trivial (by kernel_rfl) (by kernel_rfl))⟩,
              one (obC (k := 5) (d := (some 31)) (f31_ok hr15) rfl hN (by kernel_rfl) (by kernel_rfl) rfl trivial)⟩,
              anyk (fun k => obR [] (Os := []) trivial (by kernel_rfl) (by kernel_rfl))⟩,
              anyk (fun k => obR [.pt i16] (Os := [_]) ⟨hi16, trivial⟩ (by kernel_rfl) (by kernel_rfl))⟩,
              anyk (fun k => obR [] (Os := []) trivial (by kernel_rfl) (by kernel_rfl))⟩,
              anyk (fun k => obR [.ob fs47 o17] (Os := [_]) ⟨(ob47 (s := σ) ho17), trivial⟩ (by kernel_rfl) (by kernel_rfl))⟩ (fun a w G hl3 hE hH => ?_)
      have hle := Gh.le_trans hle hl3
      refine segO 2 [] [(37, .kv .bool (!(r15 == o17.2.2.2.1)))] (Os := []) trivial hE hH (by kernel_rfl) (fun a hE => ?_)
      refine wpFrom_end (by kernel_rfl) ?_
      refine Exit.then_normal (hK3 _ _ ?_)
      refine condE (b := !(r15 == o17.2.2.2.1)) hE (by kernel_rfl) (fun hc => ?_) (fun hc => ?_)
      · replace h := ifT hc h
        refine wp_seq_k (fun K hK18 => ?_)
        refine wp_region_from ?_
        refine segO 1 [] [(6, .kv .bool false)] (Os := []) trivial hE hH (by kernel_rfl) (fun a hE => ?_)
        refine wpFrom_end (by kernel_rfl) ?_
        refine Exit.then_normal (hK18 _ _ ?_)
        refine wp_ret ?_
        refine Exit.then_ret ?_
        cases h
        exact ret1 rfl hE hle hH (by kernel_rfl)
      · replace h := ifF hc h
        refine wp_skip ?_
        refine Exit.then_normal (hK2 _ _ ?_)
        refine wp_seq_k (fun K hK19 => ?_)
        refine wp_seq_k (fun K hK20 => ?_)
        refine wp_region_from ?_
        refine segO 1 [] [(7, .kv .i 0)] (Os := []) trivial hE hH (by kernel_rfl) (fun a hE => ?_)
        refine wpFrom_end (by kernel_rfl) ?_
        refine Exit.then_normal (hK20 _ _ ?_)
        refine wp_block ?_
        obtain ⟨rr57, hrr57, h⟩ := bs h
        refine loop_intro (fun Q22 c hQ hc => ?_)
        have key : ∀ (x21 : Int) (rr : Sum Int Bool), f26_l0 p0 p1 σ x21 = some rr → ∀ (a : Act) (w : World) (G : Gh), G0.le G → EnvR G 135 a [(0, .kv (.ptr 105) p0), (1, .kv (.ptr 47) p1), (2, .kv .str p2), (6, .kv .bool false), (7, .kv .i x21)] → Holds w G (tabs σ) (Ls) → (∀ z56 : Int, rr = .inl z56 → ∀ (a : Act) (w : World) (G : Gh), G0.le G → EnvR G 135 a [(0, .kv (.ptr 105) p0), (1, .kv (.ptr 47) p1), (2, .kv .str p2), (6, .kv .bool false), (7, .kv .i z56)] → Holds w G (tabs σ) (Ls) → Q22 (.exit 0) a w) → (∀ yy : Bool, rr = .inr yy → ∀ (a : Act) (w : World), PostB Try.prog Try.f26 G0 (.kv .bool yy) (tabs σ) Ls .ret a w → Q22 .ret a w) → Rnd Try.prog c Q22 a w := by
          refine f26_l0.partial_correctness p0 p1 σ _ ?_
          intro self ih25 x21 rr h a w G  hle hE hH hx23 hret24
          refine rnd_step' hc ?_
          refine wp_seq_k (fun K hK26 => ?_)
          refine wp_seq_k (fun K hK27 => ?_)
          refine wp_region_from ?_
          obtain ⟨i28, hi28, h⟩ := bs h
          obtain ⟨o29, ho29, h⟩ := bs h
          refine segO 7 [.pt i28, .ob fs47 o29] [(44, .kv .bool (decide (x21 < (o29.2.1.length : Int))))] (Os := [_, _]) ⟨hi28, (ob47 (s := σ) ho29), trivial⟩ hE hH (by kernel_rfl) (fun a hE => ?_)
          refine wpFrom_end (by kernel_rfl) ?_
          refine Exit.then_normal (hK27 _ _ ?_)
          refine condE (b := decide (x21 < (o29.2.1.length : Int))) hE (by kernel_rfl) (fun hc => ?_) (fun hc => ?_)
          · replace h := ifT hc h
            refine wp_skip ?_
            refine Exit.then_normal (hK26 _ _ ?_)
            refine wp_seq_k (fun K hK30 => ?_)
            refine wp_block ?_
            refine wp_seq_k (fun K hK31 => ?_)
            refine wp_region_from ?_
            obtain ⟨i32, hi32, h⟩ := bs h
            obtain ⟨o33, ho33, h⟩ := bs h
            obtain ⟨x34, hx34, h⟩ := bs h
            refine segO 9 [.pt i32, .ob fs47 o33, .ix K52 x34] [(48, .kv (.ptr 105) p0), (56, .kv .str x34.1)] (Os := [_, _, _]) ⟨hi32, (ob47 (s := σ) ho33), (IxAt.of (k := K52) hx34), trivial⟩ hE hH (by kernel_rfl) (fun a hE => ?_)
            obtain ⟨r35, hr35, h⟩ := bs h
            refine stepCall (d := (some 57)) (f28_ok hr35) hE hH hN (by kernel_rfl) (by kernel_rfl) trivial (fun a w G hl4 hE hH => ?_)
            have hle := Gh.le_trans hle hl4
            refine segO 5 [] [(8, .kv .str r35.1), (9, .kv .i r35.2)] (Os := []) trivial hE hH (by kernel_rfl) (fun a hE => ?_)
            refine wpFrom_end (by kernel_rfl) ?_
            refine Exit.then_normal (hK31 _ _ ?_)
            refine wp_seq_k (fun K hK36 => ?_)
            refine wp_region_from ?_
            obtain ⟨i37, hi37, h⟩ := bs h
            obtain ⟨o38, ho38, h⟩ := bs h
            obtain ⟨x39, hx39, h⟩ := bs h
            refine segO 9 [.pt i37, .ob fs47 o38, .ix K52 x39] [(61, .kv (.ptr 47) p1), (69, .kv .str x39.1)] (Os := [_, _, _]) ⟨hi37, (ob47 (s := σ) ho38), (IxAt.of (k := K52) hx39), trivial⟩ hE hH (by kernel_rfl) (fun a hE => ?_)
            obtain ⟨r40, hr40, h⟩ := bs h
            refine stepCall (d := (some 70)) (f76_ok hr40) hE hH hN (by kernel_rfl) (by kernel_rfl) trivial (fun a w G hl5 hE hH => ?_)
            have hle := Gh.le_trans hle hl5
            refine segO 5 [] [(10, .kv .str r40.1), (11, .kv .i r40.2)] (Os := []) trivial hE hH (by kernel_rfl) (fun a hE => ?_)
            refine wpFrom_end (by kernel_rfl) ?_
            refine Exit.then_normal (hK36 _ _ ?_)
            refine wp_seq_k (fun K hK41 => ?_)
            by_cases hc : (!(r35.1 == r40.1)) = true
            · replace h := ifT hc h
              have c42 := hc
              refine region_par 28 [] [(0, 0), (0, 0), (0, 0), (0, 0), (0, 0), (0, 0), (0, 0), (0, 0), (0, 0), (0, 0), (0, 0), (0, 0), (0, 0), (0, 0), (0, 0), (0, 0), (0, 0), (0, 0), (0, 0), (0, 0), (0, 0), (0, 0), (0, 0), (0, 0), (0, 0), (0, 0), (0, 0), (0, 0)] [.kv .str r35.1, .kv .str r40.1, .kv .bool (!(r35.1 == r40.1)), .kv .bool true, .undef, .undef, .undef, .kv .bool true, .kv .bool true, .undef, .undef, .undef, .undef, .undef, .undef, .undef, .undef, .undef, .undef, .undef, .undef, .undef, .undef, .undef, .undef, .undef, .undef, .undef] (fun _ => tabs σ) (fun _ => Ls) (by kernel_rfl) (by kernel_rfl) hE hH
                      ⟨⟨⟨⟨⟨⟨⟨⟨⟨⟨⟨⟨⟨⟨⟨⟨⟨⟨⟨⟨⟨⟨⟨⟨⟨⟨⟨⟨trivial,
                      anyk (fun k => obR [] (Os := []) trivial (by kernel_rfl) (by kernel_rfl))⟩,
                      anyk (fun k => obR [] (Os := []) trivial (by kernel_rfl) (by kernel_rfl))⟩,
                      anyk (fun k => obR [] (Os := []) trivial (by kernel_rfl) (by kernel_rfl))⟩,
                      anyk (fun k => obRe [] (Os := []) trivial (by kernel_rfl) (by kernel_rfl) (eb2 c42 rfl))⟩,
                      anyk (fun k => obR [] (Os := []) trivial (by kernel_rfl) (by kernel_rfl))⟩,
                      anyk (fun k => obR [] (Os := []) trivial (by kernel_rfl) (by kernel_rfl))⟩,
                      anyk (fun k => obR [] (Os := []) trivial (by kernel_rfl) (by kernel_rfl))⟩,
                      anyk (fun k => obR [] (Os := []) trivial (by kernel_rfl) (by kernel_rfl))⟩,
                      anyk (fun k => obR [] (Os := []) trivial (by kernel_rfl) (by kernel_rfl))⟩,
                      anyk (fun k => obR [] (Os := []) trivial (by kernel_rfl) (by kernel_rfl))⟩,
                      anyk (fun k => obR [] (Os := []) trivial (by kernel_rfl) (by kernel_rfl))⟩,
                      anyk (fun k => obR [] (Os := []) trivial (by kernel_rfl) (by kernel_rfl))⟩,
                      anyk (fun k => obR [] (Os := []) trivial (by kernel_rfl) (by kernel_rfl))⟩,
                      anyk (fun k => obR [] (Os := []) trivial (by kernel_rfl) (by kernel_rfl))⟩,
                      anyk (fun k => obR [] (Os := []) trivial (by kernel_rfl) (by kernel_rfl))⟩,
                      anyk (fun k => obR [] (Os := []) trivial (by kernel_rfl) (by kernel_rfl))⟩,
                      anyk (fun k => obR [] (Os := []) trivial (by kernel_rfl) (by kernel_rfl))⟩,
                      anyk (fun k => obR [] (Os := []) trivial (by kernel_rfl) (by kernel_rfl))⟩,
                      anyk (fun k => obR [] (Os := []) trivial (by kernel_rfl) (by kernel_rfl))⟩,
                      anyk (fun k => obR [] (Os := []) trivial (by kernel_rfl) (by kernel_rfl))⟩,
                      anyk (fun k => obR [] (Os := []) trivial (by kernel_rfl) (by kernel_rfl))⟩,
                      anyk (fun k => obR [] (Os := []) trivial (by kernel_rfl) (by kernel_rfl))⟩,
                      anyk (fun k => obR [] (Os := []) trivial (by kernel_rfl) (by kernel_rfl))⟩,
                      anyk (fun k => obR [] (Os := []) trivial (by kernel_rfl) (by kernel_rfl))⟩,
                      anyk (fun k => obR [] (Os := []) trivial (by kernel_rfl) (by kernel_rfl))⟩,
                      anyk (fun k => obR [] (Os := []) trivial (by kernel_rfl) (by kernel_rfl))⟩,
                      anyk (fun k => obR [] (Os := []) trivial (by kernel_rfl) (by kernel_rfl))⟩,
                      anyk (fun k => obR [] (Os := []) trivial (by kernel_rfl) (by kernel_rfl))⟩ (fun a w G hl6 hE hH => ?_)
              have hle := Gh.le_trans hle hl6
              refine segO 2 [] [(102, .kv .bool true)] (Os := []) trivial hE hH (by kernel_rfl) (fun a hE => ?_)
              refine wpFrom_end (by kernel_rfl) ?_
              refine Exit.then_normal (hK41 _ _ ?_)
              refine condT hE (by kernel_rfl) rfl ?_
              refine wp_seq_k (fun K hK43 => ?_)
              refine wp_region_from ?_
              refine segO 1 [] [(6, .kv .bool false)] (Os := []) trivial hE hH (by kernel_rfl) (fun a hE => ?_)
              refine wpFrom_end (by kernel_rfl) ?_
              refine Exit.then_normal (hK43 _ _ ?_)
              refine wp_ret ?_
              refine Exit.in_ret ?_
              refine Exit.then_ret ?_
              refine Exit.then_ret ?_
              cases h
              exact hret24 _ rfl _ _ (ret1 rfl hE hle hH (by kernel_rfl))
            · replace h := ifN hc h
              have c44 := hc
              by_cases hc : (r35.2 != r40.2) = true
              · replace h := ifT hc h
                have c45 := hc
                refine region_par 28 [] [(0, 0), (0, 0), (0, 0), (0, 0), (0, 0), (0, 0), (0, 0), (0, 0), (0, 0), (0, 0), (0, 0), (0, 0), (0, 0), (0, 0), (0, 0), (0, 0), (0, 0), (0, 0), (0, 0), (0, 0), (0, 0), (0, 0), (0, 0), (0, 0), (0, 0), (0, 0), (0, 0), (0, 0)] [.kv .str r35.1, .kv .str r40.1, .kv .bool (!(r35.1 == r40.1)), .kv .bool false, .kv .i r35.2, .kv .i r40.2, .kv .bool (r35.2 != r40.2), .kv .bool (r35.2 != r40.2), .kv .bool true, .undef, .undef, .undef, .undef, .undef, .undef, .undef, .undef, .undef, .undef, .undef, .undef, .undef, .undef, .undef, .undef, .undef, .undef, .undef] (fun _ => tabs σ) (fun _ => Ls) (by kernel_rfl) (by kernel_rfl) hE hH
                        ⟨⟨⟨⟨⟨⟨⟨⟨⟨⟨⟨⟨⟨⟨⟨⟨⟨⟨⟨⟨⟨⟨⟨⟨⟨⟨⟨⟨trivial,
                        anyk (fun k => obR [] (Os := []) trivial (by kernel_rfl) (by kernel_rfl))⟩,
                        anyk (fun k => obR [] (Os := []) trivial (by kernel_rfl) (by kernel_rfl))⟩,
                        anyk (fun k => obR [] (Os := []) trivial (by kernel_rfl) (by kernel_rfl))⟩,
                        anyk (fun k => obRe [] (Os := []) trivial (by kernel_rfl) (by kernel_rfl) (eb2 (bf c44) rfl))⟩,
                        anyk (fun k => obR [] (Os := []) trivial (by kernel_rfl) (by kernel_rfl))⟩,
                        anyk (fun k => obR [] (Os := []) trivial (by kernel_rfl) (by kernel_rfl))⟩,
                        anyk (fun k => obR [] (Os := []) trivial (by kernel_rfl) (by kernel_rfl))⟩,
                        anyk (fun k => obR [] (Os := []) trivial (by kernel_rfl) (by kernel_rfl))⟩,
                        anyk (fun k => obRe [] (Os := []) trivial (by kernel_rfl) (by kernel_rfl) (eb2 c45 rfl))⟩,
                        anyk (fun k => obR [] (Os := []) trivial (by kernel_rfl) (by kernel_rfl))⟩,
                        anyk (fun k => obR [] (Os := []) trivial (by kernel_rfl) (by kernel_rfl))⟩,
                        anyk (fun k => obR [] (Os := []) trivial (by kernel_rfl) (by kernel_rfl))⟩,
                        anyk (fun k => obR [] (Os := []) trivial (by kernel_rfl) (by kernel_rfl))⟩,
                        anyk (fun k => obR [] (Os := []) trivial (by kernel_rfl) (by kernel_rfl))⟩,
                        anyk (fun k => obR [] (Os := []) trivial (by kernel_rfl) (by kernel_rfl))⟩,
                        anyk (fun k => obR [] (Os := []) trivial (by kernel_rfl) (by kernel_rfl))⟩,
                        anyk (fun k => obR [] (Os := []) trivial (by kernel_rfl) (by kernel_rfl))⟩,
                        anyk (fun k => obR [] (Os := []) trivial (by kernel_rfl) (by kernel_rfl))⟩,
                        anyk (fun k => obR [] (Os := []) trivial (by kernel_rfl) (by kernel_rfl))⟩,
                        anyk (fun k => obR [] (Os := []) trivial (by kernel_rfl) (by kernel_rfl))⟩,
                        anyk (fun k => obR [] (Os := []) trivial (by kernel_rfl) (by kernel_rfl))⟩,
                        anyk (fun k => obR [] (Os := []) trivial (by kernel_rfl) (by kernel_rfl))⟩,
                        anyk (fun k => obR [] (Os := []) trivial (by kernel_rfl) (by kernel_rfl))⟩,
                        anyk (fun k => obR [] (Os := []) trivial (by kernel_rfl) (by kernel_rfl))⟩,
                        anyk (fun k => obR [] (Os := []) trivial (by kernel_rfl) (by kernel_rfl))⟩,
                        anyk (fun k => obR [] (Os := []) trivial (by kernel_rfl) (by kernel_rfl))⟩,
                        anyk (fun k => obR [] (Os := []) trivial (by kernel_rfl) (by kernel_rfl))⟩,
                        anyk (fun k => obR [] (Os := []) trivial (by kernel_rfl) (by kernel_rfl))⟩ (fun a w G hl7 hE hH => ?_)
                have hle := Gh.le_trans hle hl7
                refine segO 2 [] [(102, .kv .bool true)] (Os := []) trivial hE hH (by kernel_rfl) (fun a hE => ?_)
                refine wpFrom_end (by kernel_rfl) ?_
                refine Exit.then_normal (hK41 _ _ ?_)
                refine condT hE (by kernel_rfl) rfl ?_
                refine wp_seq_k (fun K hK46 => ?_)
                refine wp_region_from ?_
                refine segO 1 [] [(6, .kv .bool false)] (Os := []) trivial hE hH (by kernel_rfl) (fun a hE => ?_)
                refine wpFrom_end (by kernel_rfl) ?_
                refine Exit.then_normal (hK46 _ _ ?_)
                refine wp_ret ?_
                refine Exit.in_ret ?_
                refine Exit.then_ret ?_
                refine Exit.then_ret ?_
                cases h
                exact hret24 _ rfl _ _ (ret1 rfl hE hle hH (by kernel_rfl))
              · replace h := ifN hc h
                have c47 := hc
                obtain ⟨i48, hi48, h⟩ := bs h
                obtain ⟨o49, ho49, h⟩ := bs h
                obtain ⟨x50, hx50, h⟩ := bs h
                obtain ⟨r51, hr51, h⟩ := bs h
                obtain ⟨i52, hi52, h⟩ := bs h
                obtain ⟨o53, ho53, h⟩ := bs h
                obtain ⟨x54, hx54, h⟩ := bs h
                refine region_par 28 [18] [(0, 0), (0, 0), (0, 0), (0, 0), (0, 0), (0, 0), (0, 0), (0, 0), (0, 0), (0, 0), (0, 0), (0, 0), (0, 0), (0, 0), (0, 0), (0, 0), (0, 0), (0, 0), (0, 0), (0, 1), (0, 1), (0, 1), (0, 1), (0, 1), (0, 1), (0, 1), (0, 1), (0, 1)] [.kv .str r35.1, .kv .str r40.1, .kv .bool (!(r35.1 == r40.1)), .kv .bool false, .kv .i r35.2, .kv .i r40.2, .kv .bool (r35.2 != r40.2), .kv .bool (r35.2 != r40.2), .kv .bool false, .kv (.ptr 105) p0, .kv (.ptr 47) p1, .kv (.ptr 47) (some i48), .fldA 47 i48 1, .kv (.list K52) o49.2.1, .kv .i x21, .elA K52 x50 0, .elA K52 x50 0, .kv .str x50.1, .kv .i r51, .kv (.ptr 47) p1, .kv (.ptr 47) (some i52), .fldA 47 i52 1, .kv (.list K52) o53.2.1, .kv .i x21, .elA K52 x54 0, .elA K52 x54 1, .kv .str x54.2.1, .kv .i (x54.2.1.length : Int)] (fun _ => tabs σ) (fun _ => Ls) (by kernel_rfl) (by kernel_rfl) hE hH
                        ⟨⟨⟨⟨⟨⟨⟨⟨⟨⟨⟨⟨⟨⟨⟨⟨⟨⟨⟨⟨⟨⟨⟨⟨⟨⟨⟨⟨trivial,
                        anyk (fun k => obR [] (Os := []) trivial (by kernel_rfl) (by kernel_rfl))⟩,
                        anyk (fun k => obR [] (Os := []) trivial (by kernel_rfl) (by kernel_rfl))⟩,
                        anyk (fun k => obR [] (Os := []) trivial (by kernel_rfl) (by kernel_rfl))⟩,
                        anyk (fun k => obRe [] (Os := []) trivial (by kernel_rfl) (by kernel_rfl) (eb2 (bf c44) rfl))⟩,
                        anyk (fun k => obR [] (Os := []) trivial (by kernel_rfl) (by kernel_rfl))⟩,
                        anyk (fun k => obR [] (Os := []) trivial (by kernel_rfl) (by kernel_rfl))⟩,
                        anyk (fun k => obR [] (Os := []) trivial (by kernel_rfl) (by kernel_rfl))⟩,
                        anyk (fun k => obR [] (Os := []) trivial (by kernel_rfl) (by kernel_rfl))⟩,
                        anyk (fun k => obRe [] (Os := []) trivial (by kernel_rfl) (by kernel_rfl) (eb2 (bf c47) rfl))⟩,
                        anyk (fun k => obR [] (Os := []) trivial (by kernel_rfl) (by kernel_rfl))⟩,
                        anyk (fun k => obR [] (Os := []) trivial (by kernel_rfl) (by kernel_rfl))⟩,
                        anyk (fun k => obR [.pt i48] (Os := [_]) ⟨hi48, trivial⟩ (by kernel_rfl) (by kernel_rfl))⟩,
                        anyk (fun k => obR [] (Os := []) trivial (by kernel_rfl) (by kernel_rfl))⟩,
                        anyk (fun k => obR [.ob fs47 o49] (Os := [_]) ⟨(ob47 (s := σ) ho49), trivial⟩ (by kernel_rfl) (by kernel_rfl))⟩,
                        anyk (fun k => obR [] (Os := []) trivial (by kernel_rfl) (by kernel_rfl))⟩,
                        anyk (fun k => obR [.ix K52 x50] (Os := [_]) ⟨(IxAt.of (k := K52) hx50), trivial⟩ (by kernel_rfl) (by kernel_rfl))⟩,
                        anyk (fun k => obR [] (Os := []) trivial (by kernel_rfl) (by kernel_rfl))⟩,
                        anyk (fun k => obR [] (Os := []) trivial (by kernel_rfl) (by kernel_rfl))⟩,
                        one (obC (k := 0) (d := (some 91)) (f30_ok hr51) rfl hN (by kernel_rfl) (by kernel_rfl) rfl trivial)⟩,
                        anyk (fun k => obR [] (Os := []) trivial (by kernel_rfl) (by kernel_rfl))⟩,
                        anyk (fun k => obR [.pt i52] (Os := [_]) ⟨hi52, trivial⟩ (by kernel_rfl) (by kernel_rfl))⟩,
                        anyk (fun k => obR [] (Os := []) trivial (by kernel_rfl) (by kernel_rfl))⟩,
                        anyk (fun k => obR [.ob fs47 o53] (Os := [_]) ⟨(ob47 (s := σ) ho53), trivial⟩ (by kernel_rfl) (by kernel_rfl))⟩,
                        anyk (fun k => obR [] (Os := []) trivial (by kernel_rfl) (by kernel_rfl))⟩,
                        anyk (fun k => obR [.ix K52 x54] (Os := [_]) ⟨(IxAt.of (k := K52) hx54), trivial⟩ (by kernel_rfl) (by kernel_rfl))⟩,
                        anyk (fun k => obR [] (Os := []) trivial (by kernel_rfl) (by kernel_rfl))⟩,
                        anyk (fun k => obR [] (Os := []) trivial (by kernel_rfl) (by kernel_rfl))⟩,
                        anyk (fun k => obR [] (Os := []) trivial (by kernel_rfl) (by kernel_rfl))⟩ (fun a w G hl8 hE hH => ?_)
                have hle := Gh.le_trans hle hl8
                refine segO 2 [] [(102, .kv .bool (r51 != (x54.2.1.length : Int)))] (Os := []) trivial hE hH (by kernel_rfl) (fun a hE => ?_)
                refine wpFrom_end (by kernel_rfl) ?_
                refine Exit.then_normal (hK41 _ _ ?_)
                refine condE (b := r51 != (x54.2.1.length : Int)) hE (by kernel_rfl) (fun hc => ?_) (fun hc => ?_)
                · replace h := ifT hc h
                  refine wp_seq_k (fun K hK55 => ?_)
                  refine wp_region_from ?_
                  refine segO 1 [] [(6, .kv .bool false)] (Os := []) trivial hE hH (by kernel_rfl) (fun a hE => ?_)
                  refine wpFrom_end (by kernel_rfl) ?_
                  refine Exit.then_normal (hK55 _ _ ?_)
                  refine wp_ret ?_
                  refine Exit.in_ret ?_
                  refine Exit.then_ret ?_
                  refine Exit.then_ret ?_
                  cases h
                  exact hret24 _ rfl _ _ (ret1 rfl hE hle hH (by kernel_rfl))
                · replace h := ifF hc h
                  refine wp_skip ?_
                  refine Exit.in_normal ?_
                  refine Exit.then_normal (hK30 _ _ ?_)
                  refine wp_region_from ?_
                  refine segO 3 [] [(7, .kv .i (IntKind.wrap .i64 (x21 + 1)))] (Os := []) trivial hE hH (by kernel_rfl) (fun a hE => ?_)
                  refine wpFrom_end (by kernel_rfl) ?_
                  refine Exit.then_normal ?_
                  exact ih25 _ _ h _ _ _  hle (hE.subC (by kernel_rfl)) hH hx23 hret24
          · replace h := ifF hc h
            refine wp_exit ?_
            refine Exit.then_exit ?_
            refine Exit.then_exit ?_
            cases h
            exact hx23 _ rfl _ _ _  hle (hE.subC (by kernel_rfl)) hH
        refine key _ _ hrr57 _ _ _  hle (hE.subC (by kernel_rfl)) hH ?_ ?_
        · intro z56 hz a w G  hle hE hH
          subst hz
          rw [hQ]
          dsimp only at h
          refine Exit.in_eq ?_
          refine Exit.then_normal (hK19 _ _ ?_)
          refine wp_seq_k (fun K hK58 => ?_)
          refine wp_region_from ?_
          refine segO 2 [] [(104, .kv (.ptr 105) p0), (105, .kv .str p2)] (Os := []) trivial hE hH (by kernel_rfl) (fun a hE => ?_)
          obtain ⟨r59, hr59, h⟩ := bs h
          refine stepCall (d := (some 106)) (f28_ok hr59) hE hH hN (by kernel_rfl) (by kernel_rfl) trivial (fun a w G hl9 hE hH => ?_)
          have hle := Gh.le_trans hle hl9
          refine segO 5 [] [(12, .kv .str r59.1), (13, .kv .i r59.2)] (Os := []) trivial hE hH (by kernel_rfl) (fun a hE => ?_)
          refine wpFrom_end (by kernel_rfl) ?_
          refine Exit.then_normal (hK58 _ _ ?_)
          refine wp_seq_k (fun K hK60 => ?_)
          refine wp_region_from ?_
          refine segO 2 [] [(110, .kv (.ptr 47) p1), (111, .kv .str p2)] (Os := []) trivial hE hH (by kernel_rfl) (fun a hE => ?_)
          obtain ⟨r61, hr61, h⟩ := bs h
          refine stepCall (d := (some 112)) (f76_ok hr61) hE hH hN (by kernel_rfl) (by kernel_rfl) trivial (fun a w G hl10 hE hH => ?_)
          have hle := Gh.le_trans hle hl10
          refine segO 5 [] [(14, .kv .str r61.1), (15, .kv .i r61.2)] (Os := []) trivial hE hH (by kernel_rfl) (fun a hE => ?_)
          refine wpFrom_end (by kernel_rfl) ?_
          refine Exit.then_normal (hK60 _ _ ?_)
          refine wp_seq_k (fun K hK62 => ?_)
          refine wp_region_from ?_
          refine segO 9 [] [(123, .kv .bool ((r59.1 == r61.1) && (r59.2 == r61.2)))] (Os := []) trivial hE hH (by kernel_rfl) (fun a hE => ?_)
          by_cases hc : ((r59.1 == r61.1) && (r59.2 == r61.2)) = true
          · replace h := ifT hc h
            have hE := hE.setB 123 (by kernel_rfl) hc
            refine segO 2 [] [(124, .kv (.ptr 47) p1), (125, .kv .str p2)] (Os := []) trivial hE hH (by kernel_rfl) (fun a hE => ?_)
            obtain ⟨r63, hr63, h⟩ := bs h
            refine stepCall (d := (some 126)) (f34_ok hr63) hE hH hN (by kernel_rfl) (by kernel_rfl) trivial (fun a w G hl11 hE hH => ?_)
            have hle := Gh.le_trans hle hl11
            refine segO 2 [] [(128, .kv .bool (decide (r63 ≥ 0)))] (Os := []) trivial hE hH (by kernel_rfl) (fun a hE => ?_)
            by_cases hc : (decide (r63 ≥ 0)) = true
            · replace h := ifT hc h
              have hE := hE.setB 128 (by kernel_rfl) hc
              refine segO 7 [] [(6, .kv .bool true)] (Os := []) trivial hE hH (by kernel_rfl) (fun a hE => ?_)
              refine wpFrom_end (by kernel_rfl) ?_
              refine Exit.then_normal (hK62 _ _ ?_)
              refine wp_ret ?_
              cases h
              exact ret1 rfl hE hle hH (by kernel_rfl)
            · replace h := ifN hc h
              have hE := hE.setB 128 (by kernel_rfl) (bf hc)
              refine segO 2 [] [(129, .kv (.ptr 105) p0), (130, .kv .str p2)] (Os := []) trivial hE hH (by kernel_rfl) (fun a hE => ?_)
              obtain ⟨r64, hr64, h⟩ := bs h
              refine stepCall (d := (some 131)) (f30_ok hr64) hE hH hN (by kernel_rfl) (by kernel_rfl) trivial (fun a w G hl12 hE hH => ?_)
              have hle := Gh.le_trans hle hl12
              refine segO 4 [] [(6, .kv .bool (r64 == 0))] (Os := []) trivial hE hH (by kernel_rfl) (fun a hE => ?_)
              refine wpFrom_end (by kernel_rfl) ?_
              refine Exit.then_normal (hK62 _ _ ?_)
              refine wp_ret ?_
              cases h
              exact ret1 rfl hE hle hH (by kernel_rfl)
          · replace h := ifN hc h
            have hE := hE.setB 123 (by kernel_rfl) (bf hc)
            refine segO 12 [] [(6, .kv .bool false)] (Os := []) trivial hE hH (by kernel_rfl) (fun a hE => ?_)
            refine wpFrom_end (by kernel_rfl) ?_
            refine Exit.then_normal (hK62 _ _ ?_)
            refine wp_ret ?_
            cases h
            exact ret1 rfl hE hle hH (by kernel_rfl)
        · intro yy hz a w hp
          subst hz
          dsimp only at h
          cases h
          rw [hQ]
          refine Exit.in_ret ?_
          refine Exit.then_ret ?_
          exact hp
end Go.Proofs.Ytlfemhkabjafeaa.M
