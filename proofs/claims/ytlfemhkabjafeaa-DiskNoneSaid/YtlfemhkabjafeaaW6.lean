/- Printed by own program: twins and walks. -/
import Derived.Test.YtlfemhkabjafeaaP0
import Derived.Test.YtlfemhkabjafeaaU20
import Derived.Test.YtlfemhkabjafeaaW1
import Derived.Test.YtlfemhkabjafeaaW2
import Derived.Test.YtlfemhkabjafeaaU21
import Derived.Test.YtlfemhkabjafeaaW3
import Derived.Test.YtlfemhkabjafeaaW4
import Derived.Test.YtlfemhkabjafeaaW5
import Derived.Test.YtlfemhkabjafeaaProg
set_option linter.unusedVariables false
set_option maxRecDepth 100000
namespace Go.Proofs.Ytlfemhkabjafeaa.M
open Go.Proofs (Try.prog Try.func6 Try.f6 Try.func7 Try.f7 Try.func8 Try.f8)

def f6_l0 (p0 : Int) (r3 : ((Option Nat) × Int) × St) (x16 : Int) (σ17 : St) : Option (Sum (Int × St) (Bool × St)) :=
  if (decide (x16 < (IntKind.wrap .i64 ((IntKind.wrap .i64 (Int.tmod p0 5)) + 1)))) = true then
  f24 r3.1.1 [97] [50] σ17 >>= fun r26 =>
  if (r26.1 != 0) = true then
  some (.inr (false, r26.2))
  else
  f6_l0 p0 r3 (IntKind.wrap .i64 (x16 + 1)) r26.2
  else
  some (.inl (x16, σ17))
  partial_fixpoint

def f6_l1 (p0 : Int) (p1 : List K31.den) (r3 : ((Option Nat) × Int) × St) (x40 : Int) (σ41 : St) : Option (Sum (Int × St) (Bool × St)) :=
  if ((decide (x40 < (p1.length : Int))) && (decide (x40 < 20))) = true then
  (ix p1 x40) >>= fun x50 =>
  if (decide (x50.1 > 7)) = true then
  f6_l1 p0 p1 r3 (IntKind.wrap .i64 (x40 + 1)) σ41
  else
  if (decide (x50.1 < 0)) = true then
  f6_l1 p0 p1 r3 (IntKind.wrap .i64 (x40 + 1)) σ41
  else
  f22 0 σ41 >>= fun r55 =>
  r55.1.1 >>= fun i57 =>
  (r55.2.t47[i57]?) >>= fun o58 =>
  f23 r3.1.1 r55.1.1 x50 (r55.2.set47 i57 (o58.1, o58.2.1, o58.2.2.1, true, ())) >>= fun r60 =>
  if (!r60.1) = true then
  some (.inr (false, r60.2))
  else
  f20 r3.1.1 r60.2 >>= fun r62 =>
  if (r62 != (IntKind.wrap .i64 ((IntKind.wrap .i64 (Int.tmod p0 5)) + 1))) = true then
  some (.inr (false, r60.2))
  else
  f6_l1 p0 p1 r3 (IntKind.wrap .i64 (x40 + 1)) r60.2
  else
  some (.inl (x40, σ41))
  partial_fixpoint

def f6 (p0 : Int) (p1 : List K31.den) (σ : St) : Option (Bool × St) :=
  f18 1000 σ >>= fun r3 =>
  if ((r3.1.2 != 0) || r3.1.1.isNone) = true then
  some (false, r3.2)
  else
  f24 r3.1.1 [97] [49] r3.2 >>= fun r8 =>
  if (r8.1 != 0) = true then
  some (false, r8.2)
  else
  f32 r3.1.1 (IntKind.wrap .i64 ((IntKind.wrap .i64 (Int.tmod p0 5)) + 1)) r8.2 >>= fun r10 =>
  if (r10.1 != 0) = true then
  some (false, r10.2)
  else
  f19 r10.2 >>= fun r12 =>
  if (!r12.1) = true then
  some (false, r12.2)
  else
  f6_l0 p0 r3 1 r12.2 >>= fun rr29 => (match rr29 with
  | .inr yy => some yy
  | .inl z28 =>
  f33 r3.1.1 [97] z28.2 >>= fun r32 =>
  if (r32.1 != 11) = true then
  some (false, r32.2)
  else
  f31 r3.1.1 r32.2 >>= fun r34 =>
  if (!r34) = true then
  some (false, r32.2)
  else
  f30 r3.1.1 [97] r32.2 >>= fun r36 =>
  if (r36 != 0) = true then
  some (false, r32.2)
  else
  f6_l1 p0 p1 r3 0 r32.2 >>= fun rr65 => (match rr65 with
  | .inr yy => some yy
  | .inl z64 =>
  f28 r3.1.1 [97] z64.2 >>= fun r67 =>
  if (r67.2 == 11) = true then
  f27 r3.1.1 [] z64.2 >>= fun r69 =>
  if (r69.1 == 0) = true then
  f31 r3.1.1 r69.2 >>= fun r70 =>
  if (!r70) = true then
  f20 r3.1.1 r69.2 >>= fun r71 =>
  some (r71 == 0, r69.2)
  else
  some (false, r69.2)
  else
  some (false, r69.2)
  else
  some (false, z64.2)))

theorem f6_ok {p0 : Int} {p1 : List K31.den} {σ : St} {p : Bool × St} (h : f6 p0 p1 σ = some p) : Spec Try.prog 6 [.kv (.int .u8) p0, .kv (.list K31) p1] (tabs σ) (.kv .bool p.1) (tabs p.2) := by
  refine Spec.intro Try.func6 (by kernel_rfl) rfl (by kernel_rfl) (fun a w G0 Ls hE hH hN => ?_)
  have hle : G0.le G0 := Gh.le_refl G0
  unfold f6 at h
  refine wp_seq_k (fun K hK1 => ?_)
  refine wp_region_from ?_
  refine segO 1 [] [(4, .kv .bool false)] (Os := []) trivial hE hH (by kernel_rfl) (fun a hE => ?_)
  refine wpFrom_end (by kernel_rfl) ?_
  refine Exit.then_normal (hK1 _ _ ?_)
  refine wp_seq_k (fun K hK2 => ?_)
  refine wp_region_from ?_
  obtain ⟨r3, hr3, h⟩ := bs h
  refine stepCall (d := (some 16)) (f18_ok hr3) hE hH hN (by kernel_rfl) (by kernel_rfl) trivial (fun a w G hl1 hE hH => ?_)
  have hle := Gh.le_trans hle hl1
  refine segO 5 [] [(5, .kv (.ptr 105) r3.1.1), (6, .kv .i r3.1.2)] (Os := []) trivial hE hH (by kernel_rfl) (fun a hE => ?_)
  refine wpFrom_end (by kernel_rfl) ?_
  refine Exit.then_normal (hK2 _ _ ?_)
  refine wp_seq_k (fun K hK4 => ?_)
  refine wp_region_from ?_
  refine segO 5 [] [(7, .kv .i (IntKind.wrap .i64 ((IntKind.wrap .i64 (Int.tmod p0 5)) + 1)))] (Os := [_]) ⟨(by decide : (5 : Int) ≠ 0), trivial⟩ hE hH (by kernel_rfl) (fun a hE => ?_)
  refine wpFrom_end (by kernel_rfl) ?_
  refine Exit.then_normal (hK4 _ _ ?_)
  refine wp_seq_k (fun K hK5 => ?_)
  refine wp_seq_k (fun K hK6 => ?_)
  refine wp_region_from ?_
  refine segO 7 [] [(29, .kv .bool ((r3.1.2 != 0) || r3.1.1.isNone))] (Os := []) trivial hE hH (by kernel_rfl) (fun a hE => ?_)
  by_cases hc : ((r3.1.2 != 0) || r3.1.1.isNone) = true
  · replace h := ifT hc h
    have hE := hE.setB 29 (by kernel_rfl) hc
    refine segO 14 [] [(43, .kv .bool true)] (Os := []) trivial hE hH (by kernel_rfl) (fun a hE => ?_)
    refine wpFrom_end (by kernel_rfl) ?_
    refine Exit.then_normal (hK6 _ _ ?_)
    refine condT hE (by kernel_rfl) rfl ?_
    refine wp_seq_k (fun K hK7 => ?_)
    refine wp_region_from ?_
    refine segO 1 [] [(4, .kv .bool false)] (Os := []) trivial hE hH (by kernel_rfl) (fun a hE => ?_)
    refine wpFrom_end (by kernel_rfl) ?_
    refine Exit.then_normal (hK7 _ _ ?_)
    refine wp_ret ?_
    refine Exit.then_ret ?_
    cases h
    exact ret1 rfl hE hle hH (by kernel_rfl)
  · replace h := ifN hc h
    have hE := hE.setB 29 (by kernel_rfl) (bf hc)
    refine segO 1 [] [(30, .kv (.ptr 105) r3.1.1)] (Os := []) trivial hE hH (by kernel_rfl) (fun a hE => ?_)
    obtain ⟨r8, hr8, h⟩ := bs h
    refine stepCall (d := (some 31)) (f24_ok hr8) hE hH hN (by kernel_rfl) (by kernel_rfl) trivial (fun a w G hl2 hE hH => ?_)
    have hle := Gh.le_trans hle hl2
    refine segO 3 [] [(34, .kv .bool (r8.1 != 0))] (Os := []) trivial hE hH (by kernel_rfl) (fun a hE => ?_)
    by_cases hc : (r8.1 != 0) = true
    · replace h := ifT hc h
      have hE := hE.setB 34 (by kernel_rfl) hc
      refine segO 9 [] [(43, .kv .bool true)] (Os := []) trivial hE hH (by kernel_rfl) (fun a hE => ?_)
      refine wpFrom_end (by kernel_rfl) ?_
      refine Exit.then_normal (hK6 _ _ ?_)
      refine condT hE (by kernel_rfl) rfl ?_
      refine wp_seq_k (fun K hK9 => ?_)
      refine wp_region_from ?_
      refine segO 1 [] [(4, .kv .bool false)] (Os := []) trivial hE hH (by kernel_rfl) (fun a hE => ?_)
      refine wpFrom_end (by kernel_rfl) ?_
      refine Exit.then_normal (hK9 _ _ ?_)
      refine wp_ret ?_
      refine Exit.then_ret ?_
      cases h
      exact ret1 rfl hE hle hH (by kernel_rfl)
    · replace h := ifN hc h
      have hE := hE.setB 34 (by kernel_rfl) (bf hc)
      refine segO 2 [] [(35, .kv (.ptr 105) r3.1.1), (36, .kv .i (IntKind.wrap .i64 ((IntKind.wrap .i64 (Int.tmod p0 5)) + 1)))] (Os := []) trivial hE hH (by kernel_rfl) (fun a hE => ?_)
      obtain ⟨r10, hr10, h⟩ := bs h
      refine stepCall (d := (some 37)) (f32_ok hr10) hE hH hN (by kernel_rfl) (by kernel_rfl) trivial (fun a w G hl3 hE hH => ?_)
      have hle := Gh.le_trans hle hl3
      refine segO 3 [] [(40, .kv .bool (r10.1 != 0))] (Os := []) trivial hE hH (by kernel_rfl) (fun a hE => ?_)
      by_cases hc : (r10.1 != 0) = true
      · replace h := ifT hc h
        have hE := hE.setB 40 (by kernel_rfl) hc
        refine segO 3 [] [(43, .kv .bool true)] (Os := []) trivial hE hH (by kernel_rfl) (fun a hE => ?_)
        refine wpFrom_end (by kernel_rfl) ?_
        refine Exit.then_normal (hK6 _ _ ?_)
        refine condT hE (by kernel_rfl) rfl ?_
        refine wp_seq_k (fun K hK11 => ?_)
        refine wp_region_from ?_
        refine segO 1 [] [(4, .kv .bool false)] (Os := []) trivial hE hH (by kernel_rfl) (fun a hE => ?_)
        refine wpFrom_end (by kernel_rfl) ?_
        refine Exit.then_normal (hK11 _ _ ?_)
        refine wp_ret ?_
        refine Exit.then_ret ?_
        cases h
        exact ret1 rfl hE hle hH (by kernel_rfl)
      · replace h := ifN hc h
        have hE := hE.setB 40 (by kernel_rfl) (bf hc)
        obtain ⟨r12, hr12, h⟩ := bs h
        refine stepCall (d := (some 41)) (f19_ok hr12) hE hH hN (by kernel_rfl) (by kernel_rfl) trivial (fun a w G hl4 hE hH => ?_)
        have hle := Gh.le_trans hle hl4
        refine segO 2 [] [(43, .kv .bool (!r12.1))] (Os := []) trivial hE hH (by kernel_rfl) (fun a hE => ?_)
        refine wpFrom_end (by kernel_rfl) ?_
        refine Exit.then_normal (hK6 _ _ ?_)
        refine condE (b := !r12.1) hE (by kernel_rfl) (fun hc => ?_) (fun hc => ?_)
        · replace h := ifT hc h
          refine wp_seq_k (fun K hK13 => ?_)
          refine wp_region_from ?_
          refine segO 1 [] [(4, .kv .bool false)] (Os := []) trivial hE hH (by kernel_rfl) (fun a hE => ?_)
          refine wpFrom_end (by kernel_rfl) ?_
          refine Exit.then_normal (hK13 _ _ ?_)
          refine wp_ret ?_
          refine Exit.then_ret ?_
          cases h
          exact ret1 rfl hE hle hH (by kernel_rfl)
        · replace h := ifF hc h
          refine wp_skip ?_
          refine Exit.then_normal (hK5 _ _ ?_)
          refine wp_seq_k (fun K hK14 => ?_)
          refine wp_seq_k (fun K hK15 => ?_)
          refine wp_region_from ?_
          refine segO 1 [] [(8, .kv .i 1)] (Os := []) trivial hE hH (by kernel_rfl) (fun a hE => ?_)
          refine wpFrom_end (by kernel_rfl) ?_
          refine Exit.then_normal (hK15 _ _ ?_)
          refine wp_block ?_
          obtain ⟨rr29, hrr29, h⟩ := bs h
          refine loop_intro (fun Q18 c hQ hc => ?_)
          have key : ∀ (x16 : Int) (σ17 : St) (rr : Sum (Int × St) (Bool × St)), f6_l0 p0 r3 x16 σ17 = some rr → ∀ (a : Act) (w : World) (G : Gh), G0.le G → EnvR G 127 a [(1, .kv (.list K31) p1), (4, .kv .bool false), (5, .kv (.ptr 105) r3.1.1), (7, .kv .i (IntKind.wrap .i64 ((IntKind.wrap .i64 (Int.tmod p0 5)) + 1))), (8, .kv .i x16)] → Holds w G (tabs σ17) (Ls) → (∀ z28 : Int × St, rr = .inl z28 → ∀ (a : Act) (w : World) (G : Gh), G0.le G → EnvR G 127 a [(1, .kv (.list K31) p1), (4, .kv .bool false), (5, .kv (.ptr 105) r3.1.1), (7, .kv .i (IntKind.wrap .i64 ((IntKind.wrap .i64 (Int.tmod p0 5)) + 1))), (8, .kv .i z28.1)] → Holds w G (tabs z28.2) (Ls) → Q18 (.exit 0) a w) → (∀ yy : Bool × St, rr = .inr yy → ∀ (a : Act) (w : World), PostB Try.prog Try.f6 G0 (.kv .bool yy.1) (tabs yy.2) Ls .ret a w → Q18 .ret a w) → Rnd Try.prog c Q18 a w := by
            refine f6_l0.partial_correctness p0 r3 _ ?_
            intro self ih21 x16 σ17 rr h a w G  hle hE hH hx19 hret20
            refine rnd_step' hc ?_
            refine wp_seq_k (fun K hK22 => ?_)
            refine wp_seq_k (fun K hK23 => ?_)
            refine wp_region_from ?_
            refine segO 3 [] [(46, .kv .bool (decide (x16 < (IntKind.wrap .i64 ((IntKind.wrap .i64 (Int.tmod p0 5)) + 1)))))] (Os := []) trivial hE hH (by kernel_rfl) (fun a hE => ?_)
            refine wpFrom_end (by kernel_rfl) ?_
            refine Exit.then_normal (hK23 _ _ ?_)
            refine condE (b := decide (x16 < (IntKind.wrap .i64 ((IntKind.wrap .i64 (Int.tmod p0 5)) + 1)))) hE (by kernel_rfl) (fun hc => ?_) (fun hc => ?_)
            · replace h := ifT hc h
              refine wp_skip ?_
              refine Exit.then_normal (hK22 _ _ ?_)
              refine wp_seq_k (fun K hK24 => ?_)
              refine wp_block ?_
              refine wp_seq_k (fun K hK25 => ?_)
              refine wp_region_from ?_
              refine segO 1 [] [(49, .kv (.ptr 105) r3.1.1)] (Os := []) trivial hE hH (by kernel_rfl) (fun a hE => ?_)
              obtain ⟨r26, hr26, h⟩ := bs h
              refine stepCall (d := (some 50)) (f24_ok hr26) hE hH hN (by kernel_rfl) (by kernel_rfl) trivial (fun a w G hl5 hE hH => ?_)
              have hle := Gh.le_trans hle hl5
              refine segO 1 [] [(51, .kv .bool (r26.1 != 0))] (Os := []) trivial hE hH (by kernel_rfl) (fun a hE => ?_)
              refine wpFrom_end (by kernel_rfl) ?_
              refine Exit.then_normal (hK25 _ _ ?_)
              refine condE (b := r26.1 != 0) hE (by kernel_rfl) (fun hc => ?_) (fun hc => ?_)
              · replace h := ifT hc h
                refine wp_seq_k (fun K hK27 => ?_)
                refine wp_region_from ?_
                refine segO 1 [] [(4, .kv .bool false)] (Os := []) trivial hE hH (by kernel_rfl) (fun a hE => ?_)
                refine wpFrom_end (by kernel_rfl) ?_
                refine Exit.then_normal (hK27 _ _ ?_)
                refine wp_ret ?_
                refine Exit.in_ret ?_
                refine Exit.then_ret ?_
                refine Exit.then_ret ?_
                cases h
                exact hret20 _ rfl _ _ (ret1 rfl hE hle hH (by kernel_rfl))
              · replace h := ifF hc h
                refine wp_skip ?_
                refine Exit.in_normal ?_
                refine Exit.then_normal (hK24 _ _ ?_)
                refine wp_region_from ?_
                refine segO 3 [] [(8, .kv .i (IntKind.wrap .i64 (x16 + 1)))] (Os := []) trivial hE hH (by kernel_rfl) (fun a hE => ?_)
                refine wpFrom_end (by kernel_rfl) ?_
                refine Exit.then_normal ?_
                exact ih21 _ _ _ h _ _ _  hle (hE.subC (by kernel_rfl)) hH hx19 hret20
            · replace h := ifF hc h
              refine wp_exit ?_
              refine Exit.then_exit ?_
              refine Exit.then_exit ?_
              cases h
              exact hx19 _ rfl _ _ _  hle (hE.subC (by kernel_rfl)) hH
          refine key _ _ _ hrr29 _ _ _  hle (hE.subC (by kernel_rfl)) hH ?_ ?_
          · intro z28 hz a w G  hle hE hH
            subst hz
            rw [hQ]
            dsimp only at h
            refine Exit.in_eq ?_
            refine Exit.then_normal (hK14 _ _ ?_)
            refine wp_seq_k (fun K hK30 => ?_)
            refine wp_seq_k (fun K hK31 => ?_)
            refine wp_region_from ?_
            refine segO 1 [] [(52, .kv (.ptr 105) r3.1.1)] (Os := []) trivial hE hH (by kernel_rfl) (fun a hE => ?_)
            obtain ⟨r32, hr32, h⟩ := bs h
            refine stepCall (d := (some 53)) (f33_ok hr32) hE hH hN (by kernel_rfl) (by kernel_rfl) trivial (fun a w G hl6 hE hH => ?_)
            have hle := Gh.le_trans hle hl6
            refine segO 2 [] [(55, .kv .bool (r32.1 != 11))] (Os := []) trivial hE hH (by kernel_rfl) (fun a hE => ?_)
            by_cases hc : (r32.1 != 11) = true
            · replace h := ifT hc h
              have hE := hE.setB 55 (by kernel_rfl) hc
              refine segO 9 [] [(64, .kv .bool true)] (Os := []) trivial hE hH (by kernel_rfl) (fun a hE => ?_)
              refine wpFrom_end (by kernel_rfl) ?_
              refine Exit.then_normal (hK31 _ _ ?_)
              refine condT hE (by kernel_rfl) rfl ?_
              refine wp_seq_k (fun K hK33 => ?_)
              refine wp_region_from ?_
              refine segO 1 [] [(4, .kv .bool false)] (Os := []) trivial hE hH (by kernel_rfl) (fun a hE => ?_)
              refine wpFrom_end (by kernel_rfl) ?_
              refine Exit.then_normal (hK33 _ _ ?_)
              refine wp_ret ?_
              refine Exit.then_ret ?_
              cases h
              exact ret1 rfl hE hle hH (by kernel_rfl)
            · replace h := ifN hc h
              have hE := hE.setB 55 (by kernel_rfl) (bf hc)
              refine segO 1 [] [(56, .kv (.ptr 105) r3.1.1)] (Os := []) trivial hE hH (by kernel_rfl) (fun a hE => ?_)
              obtain ⟨r34, hr34, h⟩ := bs h
              refine stepCall (d := (some 57)) (f31_ok hr34) hE hH hN (by kernel_rfl) (by kernel_rfl) trivial (fun a w G hl7 hE hH => ?_)
              have hle := Gh.le_trans hle hl7
              refine segO 3 [] [(60, .kv .bool (!r34))] (Os := []) trivial hE hH (by kernel_rfl) (fun a hE => ?_)
              by_cases hc : (!r34) = true
              · replace h := ifT hc h
                have hE := hE.setB 60 (by kernel_rfl) hc
                refine segO 4 [] [(64, .kv .bool true)] (Os := []) trivial hE hH (by kernel_rfl) (fun a hE => ?_)
                refine wpFrom_end (by kernel_rfl) ?_
                refine Exit.then_normal (hK31 _ _ ?_)
                refine condT hE (by kernel_rfl) rfl ?_
                refine wp_seq_k (fun K hK35 => ?_)
                refine wp_region_from ?_
                refine segO 1 [] [(4, .kv .bool false)] (Os := []) trivial hE hH (by kernel_rfl) (fun a hE => ?_)
                refine wpFrom_end (by kernel_rfl) ?_
                refine Exit.then_normal (hK35 _ _ ?_)
                refine wp_ret ?_
                refine Exit.then_ret ?_
                cases h
                exact ret1 rfl hE hle hH (by kernel_rfl)
              · replace h := ifN hc h
                have hE := hE.setB 60 (by kernel_rfl) (bf hc)
                refine segO 1 [] [(61, .kv (.ptr 105) r3.1.1)] (Os := []) trivial hE hH (by kernel_rfl) (fun a hE => ?_)
                obtain ⟨r36, hr36, h⟩ := bs h
                refine stepCall (d := (some 62)) (f30_ok hr36) hE hH hN (by kernel_rfl) (by kernel_rfl) trivial (fun a w G hl8 hE hH => ?_)
                have hle := Gh.le_trans hle hl8
                refine segO 2 [] [(64, .kv .bool (r36 != 0))] (Os := []) trivial hE hH (by kernel_rfl) (fun a hE => ?_)
                refine wpFrom_end (by kernel_rfl) ?_
                refine Exit.then_normal (hK31 _ _ ?_)
                refine condE (b := r36 != 0) hE (by kernel_rfl) (fun hc => ?_) (fun hc => ?_)
                · replace h := ifT hc h
                  refine wp_seq_k (fun K hK37 => ?_)
                  refine wp_region_from ?_
                  refine segO 1 [] [(4, .kv .bool false)] (Os := []) trivial hE hH (by kernel_rfl) (fun a hE => ?_)
                  refine wpFrom_end (by kernel_rfl) ?_
                  refine Exit.then_normal (hK37 _ _ ?_)
                  refine wp_ret ?_
                  refine Exit.then_ret ?_
                  cases h
                  exact ret1 rfl hE hle hH (by kernel_rfl)
                · replace h := ifF hc h
                  refine wp_skip ?_
                  refine Exit.then_normal (hK30 _ _ ?_)
                  refine wp_seq_k (fun K hK38 => ?_)
                  refine wp_seq_k (fun K hK39 => ?_)
                  refine wp_region_from ?_
                  refine segO 1 [] [(9, .kv .i 0)] (Os := []) trivial hE hH (by kernel_rfl) (fun a hE => ?_)
                  refine wpFrom_end (by kernel_rfl) ?_
                  refine Exit.then_normal (hK39 _ _ ?_)
                  refine wp_block ?_
                  obtain ⟨rr65, hrr65, h⟩ := bs h
                  refine loop_intro (fun Q42 c hQ hc => ?_)
                  have key : ∀ (x40 : Int) (σ41 : St) (rr : Sum (Int × St) (Bool × St)), f6_l1 p0 p1 r3 x40 σ41 = some rr → ∀ (a : Act) (w : World) (G : Gh), G0.le G → EnvR G 127 a [(1, .kv (.list K31) p1), (4, .kv .bool false), (5, .kv (.ptr 105) r3.1.1), (7, .kv .i (IntKind.wrap .i64 ((IntKind.wrap .i64 (Int.tmod p0 5)) + 1))), (9, .kv .i x40)] → Holds w G (tabs σ41) (Ls) → (∀ z64 : Int × St, rr = .inl z64 → ∀ (a : Act) (w : World) (G : Gh), G0.le G → EnvR G 127 a [(1, .kv (.list K31) p1), (4, .kv .bool false), (5, .kv (.ptr 105) r3.1.1), (7, .kv .i (IntKind.wrap .i64 ((IntKind.wrap .i64 (Int.tmod p0 5)) + 1))), (9, .kv .i z64.1)] → Holds w G (tabs z64.2) (Ls) → Q42 (.exit 2) a w) → (∀ yy : Bool × St, rr = .inr yy → ∀ (a : Act) (w : World), PostB Try.prog Try.f6 G0 (.kv .bool yy.1) (tabs yy.2) Ls .ret a w → Q42 .ret a w) → Rnd Try.prog c Q42 a w := by
                    refine f6_l1.partial_correctness p0 p1 r3 _ ?_
                    intro self ih45 x40 σ41 rr h a w G  hle hE hH hx43 hret44
                    refine rnd_step' hc ?_
                    refine wp_seq_k (fun K hK46 => ?_)
                    refine wp_seq_k (fun K hK47 => ?_)
                    refine wp_region_from ?_
                    refine segO 8 [] [(72, .kv .bool ((decide (x40 < (p1.length : Int))) && (decide (x40 < 20))))] (Os := []) trivial hE hH (by kernel_rfl) (fun a hE => ?_)
                    refine wpFrom_end (by kernel_rfl) ?_
                    refine Exit.then_normal (hK47 _ _ ?_)
                    refine condE (b := (decide (x40 < (p1.length : Int))) && (decide (x40 < 20))) hE (by kernel_rfl) (fun hc => ?_) (fun hc => ?_)
                    · replace h := ifT hc h
                      refine wp_skip ?_
                      refine Exit.then_normal (hK46 _ _ ?_)
                      refine wp_seq_k (fun K hK48 => ?_)
                      refine wp_block ?_
                      refine wp_seq_k (fun K hK49 => ?_)
                      refine wp_region_from ?_
                      obtain ⟨x50, hx50, h⟩ := bs h
                      refine segO 4 [.ix K31 x50] [(78, .kv K31 x50)] (Os := [_]) ⟨(IxAt.of (k := K31) hx50), trivial⟩ hE hH (by kernel_rfl) (fun a hE => ?_)
                      refine stepAlloc (e := 31) (d := (some 10)) K31  hE hH (by kernel_rfl) (by kernel_rfl) (fun b51 a w G hl9 hE hH => ?_)
                      have hle := Gh.le_trans hle hl9
                      refine stepStB (b := b51) (off := 0) 0 K31 x50 (x' := x50) hE hH (by kernel_rfl) rfl (by kernel_rfl) (fun w G hl10 hE hH => ?_)
                      have hle := Gh.le_trans hle hl10
                      refine wpFrom_end (by kernel_rfl) ?_
                      refine Exit.then_normal (hK49 _ _ ?_)
                      refine wp_seq_k (fun K hK52 => ?_)
                      refine wp_seq_k (fun K hK53 => ?_)
                      refine wp_region_from ?_
                      refine segO 4 [.bx 0 K31 x50] [(82, .kv .bool (decide (x50.1 > 7)))] (Os := [_]) ⟨(rfl : (LS.box b51 K31 x50 :: Ls)[0]? = some (LS.box b51 K31 x50)), trivial⟩ hE hH (by kernel_rfl) (fun a hE => ?_)
                      by_cases hc : (decide (x50.1 > 7)) = true
                      · replace h := ifT hc h
                        have hE := hE.setB 82 (by kernel_rfl) hc
                        refine segO 4 [] [(86, .kv .bool true)] (Os := []) trivial hE hH (by kernel_rfl) (fun a hE => ?_)
                        refine wpFrom_end (by kernel_rfl) ?_
                        refine Exit.then_normal (hK53 _ _ ?_)
                        refine condT hE (by kernel_rfl) rfl ?_
                        refine wp_exit ?_
                        refine Exit.then_exit ?_
                        refine Exit.in_eq ?_
                        refine Exit.then_normal (hK48 _ _ ?_)
                        refine wp_region_from ?_
                        refine segO 3 [] [(9, .kv .i (IntKind.wrap .i64 (x40 + 1)))] (Os := []) trivial hE hH (by kernel_rfl) (fun a hE => ?_)
                        refine wpFrom_end (by kernel_rfl) ?_
                        have hH := hH.drop (fun _ _ _ => rfl)
                        refine Exit.then_normal ?_
                        exact ih45 _ _ _ h _ _ _  hle (hE.subC (by kernel_rfl)) hH hx43 hret44
                      · replace h := ifN hc h
                        have hE := hE.setB 82 (by kernel_rfl) (bf hc)
                        refine segO 4 [.bx 0 K31 x50] [(86, .kv .bool (decide (x50.1 < 0)))] (Os := [_]) ⟨(rfl : (LS.box b51 K31 x50 :: Ls)[0]? = some (LS.box b51 K31 x50)), trivial⟩ hE hH (by kernel_rfl) (fun a hE => ?_)
                        refine wpFrom_end (by kernel_rfl) ?_
                        refine Exit.then_normal (hK53 _ _ ?_)
                        refine condE (b := decide (x50.1 < 0)) hE (by kernel_rfl) (fun hc => ?_) (fun hc => ?_)
                        · replace h := ifT hc h
                          refine wp_exit ?_
                          refine Exit.then_exit ?_
                          refine Exit.in_eq ?_
                          refine Exit.then_normal (hK48 _ _ ?_)
                          refine wp_region_from ?_
                          refine segO 3 [] [(9, .kv .i (IntKind.wrap .i64 (x40 + 1)))] (Os := []) trivial hE hH (by kernel_rfl) (fun a hE => ?_)
                          refine wpFrom_end (by kernel_rfl) ?_
                          have hH := hH.drop (fun _ _ _ => rfl)
                          refine Exit.then_normal ?_
                          exact ih45 _ _ _ h _ _ _  hle (hE.subC (by kernel_rfl)) hH hx43 hret44
                        · replace h := ifF hc h
                          refine wp_skip ?_
                          refine Exit.then_normal (hK52 _ _ ?_)
                          refine wp_seq_k (fun K hK54 => ?_)
                          refine wp_region_from ?_
                          obtain ⟨r55, hr55, h⟩ := bs h
                          refine stepCall (d := (some 88)) (f22_ok hr55) hE hH (NoHole.cons (fun _ _ _ => rfl) hN) (by kernel_rfl) (by kernel_rfl) trivial (fun a w G hl11 hE hH => ?_)
                          have hle := Gh.le_trans hle hl11
                          refine segO 5 [] [(11, .kv (.ptr 47) r55.1.1)] (Os := []) trivial hE hH (by kernel_rfl) (fun a hE => ?_)
                          refine wpFrom_end (by kernel_rfl) ?_
                          refine Exit.then_normal (hK54 _ _ ?_)
                          refine wp_seq_k (fun K hK56 => ?_)
                          refine wp_region_from ?_
                          obtain ⟨i57, hi57, h⟩ := bs h
                          refine segO 3 [.pt i57] [(93, .fldA 47 i57 3)] (Os := [_]) ⟨hi57, trivial⟩ hE hH (by kernel_rfl) (fun a hE => ?_)
                          obtain ⟨o58, ho58, h⟩ := bs h
                          refine stepStO (t := 47) (j := i57) (off := 3) .bool true (x' := (o58.1, o58.2.1, o58.2.2.1, true, ())) hE hH (by kernel_rfl) (ob47 (s := r55.2) ho58) (by kernel_rfl) (upd47 (s := r55.2)) (fun w G hl12 hE hH => ?_)
                          have hle := Gh.le_trans hle hl12
                          refine wpFrom_end (by kernel_rfl) ?_
                          refine Exit.then_normal (hK56 _ _ ?_)
                          refine wp_seq_k (fun K hK59 => ?_)
                          refine wp_region_from ?_
                          refine segO 3 [.bx 0 K31 x50] [(94, .kv (.ptr 105) r3.1.1), (95, .kv (.ptr 47) r55.1.1), (96, .kv K31 x50)] (Os := [_]) ⟨(rfl : (LS.box b51 K31 x50 :: Ls)[0]? = some (LS.box b51 K31 x50)), trivial⟩ hE hH (by kernel_rfl) (fun a hE => ?_)
                          obtain ⟨r60, hr60, h⟩ := bs h
                          refine stepCall (d := (some 97)) (f23_ok hr60) hE hH (NoHole.cons (fun _ _ _ => rfl) hN) (by kernel_rfl) (by kernel_rfl) trivial (fun a w G hl13 hE hH => ?_)
                          have hle := Gh.le_trans hle hl13
                          refine segO 2 [] [(99, .kv .bool (!r60.1))] (Os := []) trivial hE hH (by kernel_rfl) (fun a hE => ?_)
                          by_cases hc : (!r60.1) = true
                          · replace h := ifT hc h
                            have hE := hE.setB 99 (by kernel_rfl) hc
                            refine segO 5 [] [(104, .kv .bool true)] (Os := []) trivial hE hH (by kernel_rfl) (fun a hE => ?_)
                            refine wpFrom_end (by kernel_rfl) ?_
                            refine Exit.then_normal (hK59 _ _ ?_)
                            refine condT hE (by kernel_rfl) rfl ?_
                            refine wp_seq_k (fun K hK61 => ?_)
                            refine wp_region_from ?_
                            refine segO 1 [] [(4, .kv .bool false)] (Os := []) trivial hE hH (by kernel_rfl) (fun a hE => ?_)
                            refine wpFrom_end (by kernel_rfl) ?_
                            refine Exit.then_normal (hK61 _ _ ?_)
                            refine wp_ret ?_
                            refine Exit.in_ret ?_
                            refine Exit.then_ret ?_
                            refine Exit.then_ret ?_
                            have hH := hH.drop (fun _ _ _ => rfl)
                            cases h
                            exact hret44 _ rfl _ _ (ret1 rfl hE hle hH (by kernel_rfl))
                          · replace h := ifN hc h
                            have hE := hE.setB 99 (by kernel_rfl) (bf hc)
                            refine segO 1 [] [(100, .kv (.ptr 105) r3.1.1)] (Os := []) trivial hE hH (by kernel_rfl) (fun a hE => ?_)
                            obtain ⟨r62, hr62, h⟩ := bs h
                            refine stepCall (d := (some 101)) (f20_ok hr62) hE hH (NoHole.cons (fun _ _ _ => rfl) hN) (by kernel_rfl) (by kernel_rfl) trivial (fun a w G hl14 hE hH => ?_)
                            have hle := Gh.le_trans hle hl14
                            refine segO 3 [] [(104, .kv .bool (r62 != (IntKind.wrap .i64 ((IntKind.wrap .i64 (Int.tmod p0 5)) + 1))))] (Os := []) trivial hE hH (by kernel_rfl) (fun a hE => ?_)
                            refine wpFrom_end (by kernel_rfl) ?_
                            refine Exit.then_normal (hK59 _ _ ?_)
                            refine condE (b := r62 != (IntKind.wrap .i64 ((IntKind.wrap .i64 (Int.tmod p0 5)) + 1))) hE (by kernel_rfl) (fun hc => ?_) (fun hc => ?_)
                            · replace h := ifT hc h
                              refine wp_seq_k (fun K hK63 => ?_)
                              refine wp_region_from ?_
                              refine segO 1 [] [(4, .kv .bool false)] (Os := []) trivial hE hH (by kernel_rfl) (fun a hE => ?_)
                              refine wpFrom_end (by kernel_rfl) ?_
                              refine Exit.then_normal (hK63 _ _ ?_)
                              refine wp_ret ?_
                              refine Exit.in_ret ?_
                              refine Exit.then_ret ?_
                              refine Exit.then_ret ?_
                              have hH := hH.drop (fun _ _ _ => rfl)
                              cases h
                              exact hret44 _ rfl _ _ (ret1 rfl hE hle hH (by kernel_rfl))
                            · replace h := ifF hc h
                              refine wp_skip ?_
                              refine Exit.in_normal ?_
                              refine Exit.then_normal (hK48 _ _ ?_)
                              refine wp_region_from ?_
                              refine segO 3 [] [(9, .kv .i (IntKind.wrap .i64 (x40 + 1)))] (Os := []) trivial hE hH (by kernel_rfl) (fun a hE => ?_)
                              refine wpFrom_end (by kernel_rfl) ?_
                              have hH := hH.drop (fun _ _ _ => rfl)
                              refine Exit.then_normal ?_
                              exact ih45 _ _ _ h _ _ _  hle (hE.subC (by kernel_rfl)) hH hx43 hret44
                    · replace h := ifF hc h
                      refine wp_exit ?_
                      refine Exit.then_exit ?_
                      refine Exit.then_exit ?_
                      cases h
                      exact hx43 _ rfl _ _ _  hle (hE.subC (by kernel_rfl)) hH
                  refine key _ _ _ hrr65 _ _ _  hle (hE.subC (by kernel_rfl)) hH ?_ ?_
                  · intro z64 hz a w G  hle hE hH
                    subst hz
                    rw [hQ]
                    dsimp only at h
                    refine Exit.in_eq ?_
                    refine Exit.then_normal (hK38 _ _ ?_)
                    refine wp_seq_k (fun K hK66 => ?_)
                    refine wp_region_from ?_
                    refine segO 1 [] [(106, .kv (.ptr 105) r3.1.1)] (Os := []) trivial hE hH (by kernel_rfl) (fun a hE => ?_)
                    obtain ⟨r67, hr67, h⟩ := bs h
                    refine stepCall (d := (some 107)) (f28_ok hr67) hE hH hN (by kernel_rfl) (by kernel_rfl) trivial (fun a w G hl15 hE hH => ?_)
                    have hle := Gh.le_trans hle hl15
                    refine segO 5 [] [(14, .kv .i r67.2)] (Os := []) trivial hE hH (by kernel_rfl) (fun a hE => ?_)
                    refine wpFrom_end (by kernel_rfl) ?_
                    refine Exit.then_normal (hK66 _ _ ?_)
                    refine wp_seq_k (fun K hK68 => ?_)
                    refine wp_region_from ?_
                    refine segO 3 [] [(112, .kv .bool (r67.2 == 11))] (Os := []) trivial hE hH (by kernel_rfl) (fun a hE => ?_)
                    by_cases hc : (r67.2 == 11) = true
                    · replace h := ifT hc h
                      have hE := hE.setB 112 (by kernel_rfl) hc
                      refine segO 1 [] [(113, .kv (.ptr 105) r3.1.1)] (Os := []) trivial hE hH (by kernel_rfl) (fun a hE => ?_)
                      obtain ⟨r69, hr69, h⟩ := bs h
                      refine stepCall (d := (some 114)) (f27_ok hr69) hE hH hN (by kernel_rfl) (by kernel_rfl) trivial (fun a w G hl16 hE hH => ?_)
                      have hle := Gh.le_trans hle hl16
                      refine segO 3 [] [(117, .kv .bool (r69.1 == 0))] (Os := []) trivial hE hH (by kernel_rfl) (fun a hE => ?_)
                      by_cases hc : (r69.1 == 0) = true
                      · replace h := ifT hc h
                        have hE := hE.setB 117 (by kernel_rfl) hc
                        refine segO 1 [] [(118, .kv (.ptr 105) r3.1.1)] (Os := []) trivial hE hH (by kernel_rfl) (fun a hE => ?_)
                        obtain ⟨r70, hr70, h⟩ := bs h
                        refine stepCall (d := (some 119)) (f31_ok hr70) hE hH hN (by kernel_rfl) (by kernel_rfl) trivial (fun a w G hl17 hE hH => ?_)
                        have hle := Gh.le_trans hle hl17
                        refine segO 3 [] [(122, .kv .bool (!r70))] (Os := []) trivial hE hH (by kernel_rfl) (fun a hE => ?_)
                        by_cases hc : (!r70) = true
                        · replace h := ifT hc h
                          have hE := hE.setB 122 (by kernel_rfl) hc
                          refine segO 1 [] [(123, .kv (.ptr 105) r3.1.1)] (Os := []) trivial hE hH (by kernel_rfl) (fun a hE => ?_)
                          obtain ⟨r71, hr71, h⟩ := bs h
                          refine stepCall (d := (some 124)) (f20_ok hr71) hE hH hN (by kernel_rfl) (by kernel_rfl) trivial (fun a w G hl18 hE hH => ?_)
                          have hle := Gh.le_trans hle hl18
                          refine segO 3 [] [(4, .kv .bool (r71 == 0))] (Os := []) trivial hE hH (by kernel_rfl) (fun a hE => ?_)
                          refine wpFrom_end (by kernel_rfl) ?_
                          refine Exit.then_normal (hK68 _ _ ?_)
                          refine wp_ret ?_
                          cases h
                          exact ret1 rfl hE hle hH (by kernel_rfl)
                        · replace h := ifN hc h
                          have hE := hE.setB 122 (by kernel_rfl) (bf hc)
                          refine segO 5 [] [(4, .kv .bool false)] (Os := []) trivial hE hH (by kernel_rfl) (fun a hE => ?_)
                          refine wpFrom_end (by kernel_rfl) ?_
                          refine Exit.then_normal (hK68 _ _ ?_)
                          refine wp_ret ?_
                          cases h
                          exact ret1 rfl hE hle hH (by kernel_rfl)
                      · replace h := ifN hc h
                        have hE := hE.setB 117 (by kernel_rfl) (bf hc)
                        refine segO 10 [] [(4, .kv .bool false)] (Os := []) trivial hE hH (by kernel_rfl) (fun a hE => ?_)
                        refine wpFrom_end (by kernel_rfl) ?_
                        refine Exit.then_normal (hK68 _ _ ?_)
                        refine wp_ret ?_
                        cases h
                        exact ret1 rfl hE hle hH (by kernel_rfl)
                    · replace h := ifN hc h
                      have hE := hE.setB 112 (by kernel_rfl) (bf hc)
                      refine segO 15 [] [(4, .kv .bool false)] (Os := []) trivial hE hH (by kernel_rfl) (fun a hE => ?_)
                      refine wpFrom_end (by kernel_rfl) ?_
                      refine Exit.then_normal (hK68 _ _ ?_)
                      refine wp_ret ?_
                      cases h
                      exact ret1 rfl hE hle hH (by kernel_rfl)
                  · intro yy hz a w hp
                    subst hz
                    dsimp only at h
                    cases h
                    rw [hQ]
                    refine Exit.in_ret ?_
                    refine Exit.then_ret ?_
                    exact hp
          · intro yy hz a w hp
            subst hz
            dsimp only at h
            cases h
            rw [hQ]
            refine Exit.in_ret ?_
            refine Exit.then_ret ?_
            exact hp

def f7 (p0 : List K31.den) (p1 : K31.den) (p2 : List UInt8) (σ : St) : Option (Bool × St) :=
  f25 2000 p0 σ >>= fun r4 =>
  if ((!r4.1.2.2) || r4.1.2.1.isNone) = true then
  if r4.1.2.2 = true then
  f19 r4.2 >>= fun r8 =>
  some (r8.1, r8.2)
  else
  some (false, r4.2)
  else
  f19 r4.2 >>= fun r9 =>
  if (!r9.1) = true then
  if r4.1.2.2 = true then
  f19 r9.2 >>= fun r11 =>
  some (r11.1, r11.2)
  else
  some (false, r9.2)
  else
  if (p1.2.1 == p2) = true then
  if r4.1.2.2 = true then
  f19 r9.2 >>= fun r13 =>
  some (r13.1, r13.2)
  else
  some (false, r9.2)
  else
  if (p1.2.2.2.1 == p2) = true then
  if r4.1.2.2 = true then
  f19 r9.2 >>= fun r15 =>
  some (r15.1, r15.2)
  else
  some (false, r9.2)
  else
  if (decide (p1.1 > 7)) = true then
  if r4.1.2.2 = true then
  f19 r9.2 >>= fun r17 =>
  some (r17.1, r17.2)
  else
  some (false, r9.2)
  else
  if (decide (p1.1 < 0)) = true then
  if r4.1.2.2 = true then
  f19 r9.2 >>= fun r19 =>
  some (r19.1, r19.2)
  else
  some (false, r9.2)
  else
  f30 r4.1.1 p2 r9.2 >>= fun r21 =>
  f34 r4.1.2.1 p2 r9.2 >>= fun r23 =>
  (if (decide (r23 ≥ 0)) = true then
  r4.1.2.1 >>= fun i39 =>
  (r9.2.t47[i39]?) >>= fun o40 =>
  (ix o40.2.1 r23) >>= fun x41 =>
  r4.1.2.1 >>= fun i42 =>
  (r9.2.t47[i42]?) >>= fun o43 =>
  (ix o43.2.1 r23) >>= fun x44 =>
  if x41.2.1.length + x44.2.2.1.length ≤ 9223372036854775807 then
  some (x41.2.1 ++ x44.2.2.1)
  else none
  else
  some [] : Option (List UInt8)) >>= fun z27 =>
  f23 r4.1.1 r4.1.2.1 p1 r9.2 >>= fun r30 =>
  f30 r4.1.1 p2 r30.2 >>= fun r33 =>
  if (r33 != r21) = true then
  some (false, r30.2)
  else
  f28 r4.1.1 p2 r30.2 >>= fun r36 =>
  f31 r4.1.1 r30.2 >>= fun r38 =>
  some ((r38 || ((decide (r23 < 0)) && (r36.2 == 8))) || (((decide (r23 ≥ 0)) && (r36.2 == 0)) && (r36.1 == z27)), r30.2)

theorem f7_ok {p0 : List K31.den} {p1 : K31.den} {p2 : List UInt8} {σ : St} {p : Bool × St} (h : f7 p0 p1 p2 σ = some p) : Spec Try.prog 7 [.kv (.list K31) p0, .kv K31 p1, .kv .str p2] (tabs σ) (.kv .bool p.1) (tabs p.2) := by
  refine Spec.intro Try.func7 (by kernel_rfl) rfl (by kernel_rfl) (fun a w G0 Ls hE hH hN => ?_)
  have hle : G0.le G0 := Gh.le_refl G0
  unfold f7 at h
  refine wp_seq_k (fun K hK1 => ?_)
  refine wp_region_from ?_
  refine stepBox (e := 31) (d := (some 4)) K31 p1 hE hH (by kernel_rfl) (by kernel_rfl) (fun b2 a w G hl1 hE hH => ?_)
  have hle := Gh.le_trans hle hl1
  refine segO 1 [] [(6, .kv .bool false)] (Os := []) trivial hE hH (by kernel_rfl) (fun a hE => ?_)
  refine wpFrom_end (by kernel_rfl) ?_
  refine Exit.then_normal (hK1 _ _ ?_)
  refine wp_seq_k (fun K hK3 => ?_)
  refine wp_region_from ?_
  refine segO 1 [] [(16, .kv (.list K31) p0)] (Os := []) trivial hE hH (by kernel_rfl) (fun a hE => ?_)
  obtain ⟨r4, hr4, h⟩ := bs h
  refine stepCall (d := (some 17)) (f25_ok hr4) hE hH (NoHole.cons (fun _ _ _ => rfl) hN) (by kernel_rfl) (by kernel_rfl) trivial (fun a w G hl2 hE hH => ?_)
  have hle := Gh.le_trans hle hl2
  refine segO 7 [] [(7, .kv (.ptr 105) r4.1.1), (8, .kv (.ptr 47) r4.1.2.1), (9, .kv .bool r4.1.2.2)] (Os := []) trivial hE hH (by kernel_rfl) (fun a hE => ?_)
  refine wpFrom_end (by kernel_rfl) ?_
  refine Exit.then_normal (hK3 _ _ ?_)
  refine wp_seq_k (fun K hK5 => ?_)
  refine wp_seq_k (fun K hK6 => ?_)
  refine wp_region_from ?_
  refine segO 7 [] [(27, .kv .bool ((!r4.1.2.2) || r4.1.2.1.isNone))] (Os := []) trivial hE hH (by kernel_rfl) (fun a hE => ?_)
  by_cases hc : ((!r4.1.2.2) || r4.1.2.1.isNone) = true
  · replace h := ifT hc h
    have hE := hE.setB 27 (by kernel_rfl) hc
    refine segO 25 [] [(52, .kv .bool true)] (Os := []) trivial hE hH (by kernel_rfl) (fun a hE => ?_)
    refine wpFrom_end (by kernel_rfl) ?_
    refine Exit.then_normal (hK6 _ _ ?_)
    refine condT hE (by kernel_rfl) rfl ?_
    refine wp_seq_k (fun K hK7 => ?_)
    refine wp_region_from ?_
    refine segO 2 [] [(54, .kv .bool r4.1.2.2)] (Os := []) trivial hE hH (by kernel_rfl) (fun a hE => ?_)
    by_cases hc : r4.1.2.2 = true
    · replace h := ifT hc h
      have hE := hE.setB 54 (by kernel_rfl) hc
      obtain ⟨r8, hr8, h⟩ := bs h
      refine stepCall (d := (some 55)) (f19_ok hr8) hE hH (NoHole.cons (fun _ _ _ => rfl) hN) (by kernel_rfl) (by kernel_rfl) trivial (fun a w G hl3 hE hH => ?_)
      have hle := Gh.le_trans hle hl3
      refine segO 2 [] [(6, .kv .bool r8.1)] (Os := []) trivial hE hH (by kernel_rfl) (fun a hE => ?_)
      refine wpFrom_end (by kernel_rfl) ?_
      refine Exit.then_normal (hK7 _ _ ?_)
      refine wp_ret ?_
      refine Exit.then_ret ?_
      have hH := hH.drop (fun _ _ _ => rfl)
      cases h
      exact ret1 rfl hE hle hH (by kernel_rfl)
    · replace h := ifN hc h
      have hE := hE.setB 54 (by kernel_rfl) (bf hc)
      refine segO 3 [] [(6, .kv .bool false)] (Os := []) trivial hE hH (by kernel_rfl) (fun a hE => ?_)
      refine wpFrom_end (by kernel_rfl) ?_
      refine Exit.then_normal (hK7 _ _ ?_)
      refine wp_ret ?_
      refine Exit.then_ret ?_
      have hH := hH.drop (fun _ _ _ => rfl)
      cases h
      exact ret1 rfl hE hle hH (by kernel_rfl)
  · replace h := ifN hc h
    have hE := hE.setB 27 (by kernel_rfl) (bf hc)
    obtain ⟨r9, hr9, h⟩ := bs h
    refine stepCall (d := (some 28)) (f19_ok hr9) hE hH (NoHole.cons (fun _ _ _ => rfl) hN) (by kernel_rfl) (by kernel_rfl) trivial (fun a w G hl4 hE hH => ?_)
    have hle := Gh.le_trans hle hl4
    refine segO 3 [] [(31, .kv .bool (!r9.1))] (Os := []) trivial hE hH (by kernel_rfl) (fun a hE => ?_)
    by_cases hc : (!r9.1) = true
    · replace h := ifT hc h
      have hE := hE.setB 31 (by kernel_rfl) hc
      refine segO 21 [] [(52, .kv .bool true)] (Os := []) trivial hE hH (by kernel_rfl) (fun a hE => ?_)
      refine wpFrom_end (by kernel_rfl) ?_
      refine Exit.then_normal (hK6 _ _ ?_)
      refine condT hE (by kernel_rfl) rfl ?_
      refine wp_seq_k (fun K hK10 => ?_)
      refine wp_region_from ?_
      refine segO 2 [] [(54, .kv .bool r4.1.2.2)] (Os := []) trivial hE hH (by kernel_rfl) (fun a hE => ?_)
      by_cases hc : r4.1.2.2 = true
      · replace h := ifT hc h
        have hE := hE.setB 54 (by kernel_rfl) hc
        obtain ⟨r11, hr11, h⟩ := bs h
        refine stepCall (d := (some 55)) (f19_ok hr11) hE hH (NoHole.cons (fun _ _ _ => rfl) hN) (by kernel_rfl) (by kernel_rfl) trivial (fun a w G hl5 hE hH => ?_)
        have hle := Gh.le_trans hle hl5
        refine segO 2 [] [(6, .kv .bool r11.1)] (Os := []) trivial hE hH (by kernel_rfl) (fun a hE => ?_)
        refine wpFrom_end (by kernel_rfl) ?_
        refine Exit.then_normal (hK10 _ _ ?_)
        refine wp_ret ?_
        refine Exit.then_ret ?_
        have hH := hH.drop (fun _ _ _ => rfl)
        cases h
        exact ret1 rfl hE hle hH (by kernel_rfl)
      · replace h := ifN hc h
        have hE := hE.setB 54 (by kernel_rfl) (bf hc)
        refine segO 3 [] [(6, .kv .bool false)] (Os := []) trivial hE hH (by kernel_rfl) (fun a hE => ?_)
        refine wpFrom_end (by kernel_rfl) ?_
        refine Exit.then_normal (hK10 _ _ ?_)
        refine wp_ret ?_
        refine Exit.then_ret ?_
        have hH := hH.drop (fun _ _ _ => rfl)
        cases h
        exact ret1 rfl hE hle hH (by kernel_rfl)
    · replace h := ifN hc h
      have hE := hE.setB 31 (by kernel_rfl) (bf hc)
      refine segO 6 [.bx 0 K31 p1] [(37, .kv .bool (p1.2.1 == p2))] (Os := [_]) ⟨(rfl : (LS.box b2 K31 p1 :: Ls)[0]? = some (LS.box b2 K31 p1)), trivial⟩ hE hH (by kernel_rfl) (fun a hE => ?_)
      by_cases hc : (p1.2.1 == p2) = true
      · replace h := ifT hc h
        have hE := hE.setB 37 (by kernel_rfl) hc
        refine segO 15 [] [(52, .kv .bool true)] (Os := []) trivial hE hH (by kernel_rfl) (fun a hE => ?_)
        refine wpFrom_end (by kernel_rfl) ?_
        refine Exit.then_normal (hK6 _ _ ?_)
        refine condT hE (by kernel_rfl) rfl ?_
        refine wp_seq_k (fun K hK12 => ?_)
        refine wp_region_from ?_
        refine segO 2 [] [(54, .kv .bool r4.1.2.2)] (Os := []) trivial hE hH (by kernel_rfl) (fun a hE => ?_)
        by_cases hc : r4.1.2.2 = true
        · replace h := ifT hc h
          have hE := hE.setB 54 (by kernel_rfl) hc
          obtain ⟨r13, hr13, h⟩ := bs h
          refine stepCall (d := (some 55)) (f19_ok hr13) hE hH (NoHole.cons (fun _ _ _ => rfl) hN) (by kernel_rfl) (by kernel_rfl) trivial (fun a w G hl6 hE hH => ?_)
          have hle := Gh.le_trans hle hl6
          refine segO 2 [] [(6, .kv .bool r13.1)] (Os := []) trivial hE hH (by kernel_rfl) (fun a hE => ?_)
          refine wpFrom_end (by kernel_rfl) ?_
          refine Exit.then_normal (hK12 _ _ ?_)
          refine wp_ret ?_
          refine Exit.then_ret ?_
          have hH := hH.drop (fun _ _ _ => rfl)
          cases h
          exact ret1 rfl hE hle hH (by kernel_rfl)
        · replace h := ifN hc h
          have hE := hE.setB 54 (by kernel_rfl) (bf hc)
          refine segO 3 [] [(6, .kv .bool false)] (Os := []) trivial hE hH (by kernel_rfl) (fun a hE => ?_)
          refine wpFrom_end (by kernel_rfl) ?_
          refine Exit.then_normal (hK12 _ _ ?_)
          refine wp_ret ?_
          refine Exit.then_ret ?_
          have hH := hH.drop (fun _ _ _ => rfl)
          cases h
          exact ret1 rfl hE hle hH (by kernel_rfl)
      · replace h := ifN hc h
        have hE := hE.setB 37 (by kernel_rfl) (bf hc)
        refine segO 6 [.bx 0 K31 p1] [(43, .kv .bool (p1.2.2.2.1 == p2))] (Os := [_]) ⟨(rfl : (LS.box b2 K31 p1 :: Ls)[0]? = some (LS.box b2 K31 p1)), trivial⟩ hE hH (by kernel_rfl) (fun a hE => ?_)
        by_cases hc : (p1.2.2.2.1 == p2) = true
        · replace h := ifT hc h
          have hE := hE.setB 43 (by kernel_rfl) hc
          refine segO 9 [] [(52, .kv .bool true)] (Os := []) trivial hE hH (by kernel_rfl) (fun a hE => ?_)
          refine wpFrom_end (by kernel_rfl) ?_
          refine Exit.then_normal (hK6 _ _ ?_)
          refine condT hE (by kernel_rfl) rfl ?_
          refine wp_seq_k (fun K hK14 => ?_)
          refine wp_region_from ?_
          refine segO 2 [] [(54, .kv .bool r4.1.2.2)] (Os := []) trivial hE hH (by kernel_rfl) (fun a hE => ?_)
          by_cases hc : r4.1.2.2 = true
          · replace h := ifT hc h
            have hE := hE.setB 54 (by kernel_rfl) hc
            obtain ⟨r15, hr15, h⟩ := bs h
            refine stepCall (d := (some 55)) (f19_ok hr15) hE hH (NoHole.cons (fun _ _ _ => rfl) hN) (by kernel_rfl) (by kernel_rfl) trivial (fun a w G hl7 hE hH => ?_)
            have hle := Gh.le_trans hle hl7
            refine segO 2 [] [(6, .kv .bool r15.1)] (Os := []) trivial hE hH (by kernel_rfl) (fun a hE => ?_)
            refine wpFrom_end (by kernel_rfl) ?_
            refine Exit.then_normal (hK14 _ _ ?_)
            refine wp_ret ?_
            refine Exit.then_ret ?_
            have hH := hH.drop (fun _ _ _ => rfl)
            cases h
            exact ret1 rfl hE hle hH (by kernel_rfl)
          · replace h := ifN hc h
            have hE := hE.setB 54 (by kernel_rfl) (bf hc)
            refine segO 3 [] [(6, .kv .bool false)] (Os := []) trivial hE hH (by kernel_rfl) (fun a hE => ?_)
            refine wpFrom_end (by kernel_rfl) ?_
            refine Exit.then_normal (hK14 _ _ ?_)
            refine wp_ret ?_
            refine Exit.then_ret ?_
            have hH := hH.drop (fun _ _ _ => rfl)
            cases h
            exact ret1 rfl hE hle hH (by kernel_rfl)
        · replace h := ifN hc h
          have hE := hE.setB 43 (by kernel_rfl) (bf hc)
          refine segO 5 [.bx 0 K31 p1] [(48, .kv .bool (decide (p1.1 > 7)))] (Os := [_]) ⟨(rfl : (LS.box b2 K31 p1 :: Ls)[0]? = some (LS.box b2 K31 p1)), trivial⟩ hE hH (by kernel_rfl) (fun a hE => ?_)
          by_cases hc : (decide (p1.1 > 7)) = true
          · replace h := ifT hc h
            have hE := hE.setB 48 (by kernel_rfl) hc
            refine segO 4 [] [(52, .kv .bool true)] (Os := []) trivial hE hH (by kernel_rfl) (fun a hE => ?_)
            refine wpFrom_end (by kernel_rfl) ?_
            refine Exit.then_normal (hK6 _ _ ?_)
            refine condT hE (by kernel_rfl) rfl ?_
            refine wp_seq_k (fun K hK16 => ?_)
            refine wp_region_from ?_
            refine segO 2 [] [(54, .kv .bool r4.1.2.2)] (Os := []) trivial hE hH (by kernel_rfl) (fun a hE => ?_)
            by_cases hc : r4.1.2.2 = true
            · replace h := ifT hc h
              have hE := hE.setB 54 (by kernel_rfl) hc
              obtain ⟨r17, hr17, h⟩ := bs h
              refine stepCall (d := (some 55)) (f19_ok hr17) hE hH (NoHole.cons (fun _ _ _ => rfl) hN) (by kernel_rfl) (by kernel_rfl) trivial (fun a w G hl8 hE hH => ?_)
              have hle := Gh.le_trans hle hl8
              refine segO 2 [] [(6, .kv .bool r17.1)] (Os := []) trivial hE hH (by kernel_rfl) (fun a hE => ?_)
              refine wpFrom_end (by kernel_rfl) ?_
              refine Exit.then_normal (hK16 _ _ ?_)
              refine wp_ret ?_
              refine Exit.then_ret ?_
              have hH := hH.drop (fun _ _ _ => rfl)
              cases h
              exact ret1 rfl hE hle hH (by kernel_rfl)
            · replace h := ifN hc h
              have hE := hE.setB 54 (by kernel_rfl) (bf hc)
              refine segO 3 [] [(6, .kv .bool false)] (Os := []) trivial hE hH (by kernel_rfl) (fun a hE => ?_)
              refine wpFrom_end (by kernel_rfl) ?_
              refine Exit.then_normal (hK16 _ _ ?_)
              refine wp_ret ?_
              refine Exit.then_ret ?_
              have hH := hH.drop (fun _ _ _ => rfl)
              cases h
              exact ret1 rfl hE hle hH (by kernel_rfl)
          · replace h := ifN hc h
            have hE := hE.setB 48 (by kernel_rfl) (bf hc)
            refine segO 4 [.bx 0 K31 p1] [(52, .kv .bool (decide (p1.1 < 0)))] (Os := [_]) ⟨(rfl : (LS.box b2 K31 p1 :: Ls)[0]? = some (LS.box b2 K31 p1)), trivial⟩ hE hH (by kernel_rfl) (fun a hE => ?_)
            refine wpFrom_end (by kernel_rfl) ?_
            refine Exit.then_normal (hK6 _ _ ?_)
            refine condE (b := decide (p1.1 < 0)) hE (by kernel_rfl) (fun hc => ?_) (fun hc => ?_)
            · replace h := ifT hc h
              refine wp_seq_k (fun K hK18 => ?_)
              refine wp_region_from ?_
              refine segO 2 [] [(54, .kv .bool r4.1.2.2)] (Os := []) trivial hE hH (by kernel_rfl) (fun a hE => ?_)
              by_cases hc : r4.1.2.2 = true
              · replace h := ifT hc h
                have hE := hE.setB 54 (by kernel_rfl) hc
                obtain ⟨r19, hr19, h⟩ := bs h
                refine stepCall (d := (some 55)) (f19_ok hr19) hE hH (NoHole.cons (fun _ _ _ => rfl) hN) (by kernel_rfl) (by kernel_rfl) trivial (fun a w G hl9 hE hH => ?_)
                have hle := Gh.le_trans hle hl9
                refine segO 2 [] [(6, .kv .bool r19.1)] (Os := []) trivial hE hH (by kernel_rfl) (fun a hE => ?_)
                refine wpFrom_end (by kernel_rfl) ?_
                refine Exit.then_normal (hK18 _ _ ?_)
                refine wp_ret ?_
                refine Exit.then_ret ?_
                have hH := hH.drop (fun _ _ _ => rfl)
                cases h
                exact ret1 rfl hE hle hH (by kernel_rfl)
              · replace h := ifN hc h
                have hE := hE.setB 54 (by kernel_rfl) (bf hc)
                refine segO 3 [] [(6, .kv .bool false)] (Os := []) trivial hE hH (by kernel_rfl) (fun a hE => ?_)
                refine wpFrom_end (by kernel_rfl) ?_
                refine Exit.then_normal (hK18 _ _ ?_)
                refine wp_ret ?_
                refine Exit.then_ret ?_
                have hH := hH.drop (fun _ _ _ => rfl)
                cases h
                exact ret1 rfl hE hle hH (by kernel_rfl)
            · replace h := ifF hc h
              refine wp_skip ?_
              refine Exit.then_normal (hK5 _ _ ?_)
              refine wp_seq_k (fun K hK20 => ?_)
              refine wp_region_from ?_
              refine segO 2 [] [(57, .kv (.ptr 105) r4.1.1), (58, .kv .str p2)] (Os := []) trivial hE hH (by kernel_rfl) (fun a hE => ?_)
              obtain ⟨r21, hr21, h⟩ := bs h
              refine stepCall (d := (some 59)) (f30_ok hr21) hE hH (NoHole.cons (fun _ _ _ => rfl) hN) (by kernel_rfl) (by kernel_rfl) trivial (fun a w G hl10 hE hH => ?_)
              have hle := Gh.le_trans hle hl10
              refine segO 2 [] [(10, .kv .str []), (11, .kv .i r21)] (Os := []) trivial hE hH (by kernel_rfl) (fun a hE => ?_)
              refine wpFrom_end (by kernel_rfl) ?_
              refine Exit.then_normal (hK20 _ _ ?_)
              refine wp_seq_k (fun K hK22 => ?_)
              refine wp_region_from ?_
              refine segO 2 [] [(60, .kv (.ptr 47) r4.1.2.1), (61, .kv .str p2)] (Os := []) trivial hE hH (by kernel_rfl) (fun a hE => ?_)
              obtain ⟨r23, hr23, h⟩ := bs h
              refine stepCall (d := (some 62)) (f34_ok hr23) hE hH (NoHole.cons (fun _ _ _ => rfl) hN) (by kernel_rfl) (by kernel_rfl) trivial (fun a w G hl11 hE hH => ?_)
              have hle := Gh.le_trans hle hl11
              refine segO 1 [] [(12, .kv .i r23)] (Os := []) trivial hE hH (by kernel_rfl) (fun a hE => ?_)
              refine wpFrom_end (by kernel_rfl) ?_
              refine Exit.then_normal (hK22 _ _ ?_)
              refine wp_seq_k (fun K hK24 => ?_)
              refine wp_seq_k (fun K hK25 => ?_)
              refine wp_region_from ?_
              refine segO 2 [] [(64, .kv .bool (decide (r23 ≥ 0)))] (Os := []) trivial hE hH (by kernel_rfl) (fun a hE => ?_)
              refine wpFrom_end (by kernel_rfl) ?_
              refine Exit.then_normal (hK25 _ _ ?_)
              obtain ⟨z27, hz27, h⟩ := bs h
              refine join_intro (I := fun a w => ∃ (G : Gh), G0.le G ∧ EnvR G 120 a [(2, .kv .str p2), (4, .val (.pointer (some ⟨b2, 0, none⟩))), (6, .kv .bool false), (7, .kv (.ptr 105) r4.1.1), (8, .kv (.ptr 47) r4.1.2.1), (10, .kv .str z27), (11, .kv .i r21), (12, .kv .i r23)] ∧ Holds w G (tabs r9.2) (LS.box b2 K31 p1 :: Ls)) trivial ?_ ?_
              · intro a w hI
                obtain ⟨G, hle, hE, hH⟩ := hI
                refine Exit.then_normal (hK24 _ _ ?_)
                refine wp_seq_k (fun K hK29 => ?_)
                refine wp_region_from ?_
                refine segO 3 [.bx 0 K31 p1] [(82, .kv (.ptr 105) r4.1.1), (83, .kv (.ptr 47) r4.1.2.1), (84, .kv K31 p1)] (Os := [_]) ⟨(rfl : (LS.box b2 K31 p1 :: Ls)[0]? = some (LS.box b2 K31 p1)), trivial⟩ hE hH (by kernel_rfl) (fun a hE => ?_)
                obtain ⟨r30, hr30, h⟩ := bs h
                refine stepCall (d := (some 85)) (f23_ok hr30) hE hH (NoHole.cons (fun _ _ _ => rfl) hN) (by kernel_rfl) (by kernel_rfl) trivial (fun a w G hl13 hE hH => ?_)
                have hle := Gh.le_trans hle hl13
                refine wpFrom_end (by kernel_rfl) ?_
                refine Exit.then_normal (hK29 _ _ ?_)
                refine wp_seq_k (fun K hK31 => ?_)
                refine wp_seq_k (fun K hK32 => ?_)
                refine wp_region_from ?_
                refine segO 2 [] [(86, .kv (.ptr 105) r4.1.1), (87, .kv .str p2)] (Os := []) trivial hE hH (by kernel_rfl) (fun a hE => ?_)
                obtain ⟨r33, hr33, h⟩ := bs h
                refine stepCall (d := (some 88)) (f30_ok hr33) hE hH (NoHole.cons (fun _ _ _ => rfl) hN) (by kernel_rfl) (by kernel_rfl) trivial (fun a w G hl14 hE hH => ?_)
                have hle := Gh.le_trans hle hl14
                refine segO 2 [] [(90, .kv .bool (r33 != r21))] (Os := []) trivial hE hH (by kernel_rfl) (fun a hE => ?_)
                refine wpFrom_end (by kernel_rfl) ?_
                refine Exit.then_normal (hK32 _ _ ?_)
                refine condE (b := r33 != r21) hE (by kernel_rfl) (fun hc => ?_) (fun hc => ?_)
                · replace h := ifT hc h
                  refine wp_seq_k (fun K hK34 => ?_)
                  refine wp_region_from ?_
                  refine segO 1 [] [(6, .kv .bool false)] (Os := []) trivial hE hH (by kernel_rfl) (fun a hE => ?_)
                  refine wpFrom_end (by kernel_rfl) ?_
                  refine Exit.then_normal (hK34 _ _ ?_)
                  refine wp_ret ?_
                  refine Exit.then_ret ?_
                  have hH := hH.drop (fun _ _ _ => rfl)
                  cases h
                  exact ret1 rfl hE hle hH (by kernel_rfl)
                · replace h := ifF hc h
                  refine wp_skip ?_
                  refine Exit.then_normal (hK31 _ _ ?_)
                  refine wp_seq_k (fun K hK35 => ?_)
                  refine wp_region_from ?_
                  refine segO 2 [] [(92, .kv (.ptr 105) r4.1.1), (93, .kv .str p2)] (Os := []) trivial hE hH (by kernel_rfl) (fun a hE => ?_)
                  obtain ⟨r36, hr36, h⟩ := bs h
                  refine stepCall (d := (some 94)) (f28_ok hr36) hE hH (NoHole.cons (fun _ _ _ => rfl) hN) (by kernel_rfl) (by kernel_rfl) trivial (fun a w G hl15 hE hH => ?_)
                  have hle := Gh.le_trans hle hl15
                  refine segO 5 [] [(13, .kv .str r36.1), (14, .kv .i r36.2)] (Os := []) trivial hE hH (by kernel_rfl) (fun a hE => ?_)
                  refine wpFrom_end (by kernel_rfl) ?_
                  refine Exit.then_normal (hK35 _ _ ?_)
                  refine wp_seq_k (fun K hK37 => ?_)
                  refine wp_region_from ?_
                  refine segO 1 [] [(97, .kv (.ptr 105) r4.1.1)] (Os := []) trivial hE hH (by kernel_rfl) (fun a hE => ?_)
                  obtain ⟨r38, hr38, h⟩ := bs h
                  refine stepCall (d := (some 98)) (f31_ok hr38) hE hH (NoHole.cons (fun _ _ _ => rfl) hN) (by kernel_rfl) (by kernel_rfl) trivial (fun a w G hl16 hE hH => ?_)
                  have hle := Gh.le_trans hle hl16
                  refine segO 22 [] [(6, .kv .bool ((r38 || ((decide (r23 < 0)) && (r36.2 == 8))) || (((decide (r23 ≥ 0)) && (r36.2 == 0)) && (r36.1 == z27))))] (Os := []) trivial hE hH (by kernel_rfl) (fun a hE => ?_)
                  refine wpFrom_end (by kernel_rfl) ?_
                  refine Exit.then_normal (hK37 _ _ ?_)
                  refine wp_ret ?_
                  have hH := hH.drop (fun _ _ _ => rfl)
                  cases h
                  exact ret1 rfl hE hle hH (by kernel_rfl)
              · intro KK hKK ho
                have hj28 : ∀ (a : Act) (w : World) (G : Gh), G0.le G → EnvR G 120 a [(2, .kv .str p2), (4, .val (.pointer (some ⟨b2, 0, none⟩))), (6, .kv .bool false), (7, .kv (.ptr 105) r4.1.1), (8, .kv (.ptr 47) r4.1.2.1), (10, .kv .str z27), (11, .kv .i r21), (12, .kv .i r23)] → Holds w G (tabs r9.2) (LS.box b2 K31 p1 :: Ls) → KK .normal a w := fun a w G  h1 h2 h3 => hKK a w ⟨G, h1, h2, h3⟩
                replace h := hz27
                refine condE (b := decide (r23 ≥ 0)) hE (by kernel_rfl) (fun hc => ?_) (fun hc => ?_)
                · replace h := ifT hc h
                  obtain ⟨i39, hi39, h⟩ := bs h
                  obtain ⟨o40, ho40, h⟩ := bs h
                  obtain ⟨x41, hx41, h⟩ := bs h
                  obtain ⟨i42, hi42, h⟩ := bs h
                  obtain ⟨o43, ho43, h⟩ := bs h
                  obtain ⟨x44, hx44, h⟩ := bs h
                  refine region_par 16 [] [(0, 0), (0, 0), (0, 0), (0, 0), (0, 0), (0, 0), (0, 0), (0, 0), (0, 0), (0, 0), (0, 0), (0, 0), (0, 0), (0, 0), (0, 0), (0, 0)] [.kv (.ptr 47) r4.1.2.1, .kv (.ptr 47) (some i39), .fldA 47 i39 1, .kv (.list K52) o40.2.1, .kv .i r23, .elA K52 x41 0, .elA K52 x41 1, .kv .str x41.2.1, .kv (.ptr 47) r4.1.2.1, .kv (.ptr 47) (some i42), .fldA 47 i42 1, .kv (.list K52) o43.2.1, .kv .i r23, .elA K52 x44 0, .elA K52 x44 2, .kv .str x44.2.2.1] (fun _ => tabs r9.2) (fun _ => LS.box b2 K31 p1 :: Ls) (by kernel_rfl) (by kernel_rfl) hE hH
                          ⟨⟨⟨⟨⟨⟨⟨⟨⟨⟨⟨⟨⟨⟨⟨⟨trivial,
                          anyk (fun k => obR [] (Os := []) trivial (by kernel_rfl) (by kernel_rfl))⟩,
                          anyk (fun k => obR [.pt i39] (Os := [_]) ⟨hi39, trivial⟩ (by kernel_rfl) (by kernel_rfl))⟩,
                          anyk (fun k => obR [] (Os := []) trivial (by kernel_rfl) (by kernel_rfl))⟩,
                          anyk (fun k => obR [.ob fs47 o40] (Os := [_]) ⟨(ob47 (s := r9.2) ho40), trivial⟩ (by kernel_rfl) (by kernel_rfl))⟩,
                          anyk (fun k => obR [] (Os := []) trivial (by kernel_rfl) (by kernel_rfl))⟩,
                          anyk (fun k => obR [.ix K52 x41] (Os := [_]) ⟨(IxAt.of (k := K52) hx41), trivial⟩ (by kernel_rfl) (by kernel_rfl))⟩,
                          anyk (fun k => obR [] (Os := []) trivial (by kernel_rfl) (by kernel_rfl))⟩,
                          anyk (fun k => obR [] (Os := []) trivial (by kernel_rfl) (by kernel_rfl))⟩,
                          anyk (fun k => obR [] (Os := []) trivial (by kernel_rfl) (by kernel_rfl))⟩,
                          anyk (fun k => obR [.pt i42] (Os := [_]) ⟨hi42, trivial⟩ (by kernel_rfl) (by kernel_rfl))⟩,
                          anyk (fun k => obR [] (Os := []) trivial (by kernel_rfl) (by kernel_rfl))⟩,
                          anyk (fun k => obR [.ob fs47 o43] (Os := [_]) ⟨(ob47 (s := r9.2) ho43), trivial⟩ (by kernel_rfl) (by kernel_rfl))⟩,
                          anyk (fun k => obR [] (Os := []) trivial (by kernel_rfl) (by kernel_rfl))⟩,
                          anyk (fun k => obR [.ix K52 x44] (Os := [_]) ⟨(IxAt.of (k := K52) hx44), trivial⟩ (by kernel_rfl) (by kernel_rfl))⟩,
                          anyk (fun k => obR [] (Os := []) trivial (by kernel_rfl) (by kernel_rfl))⟩,
                          anyk (fun k => obR [] (Os := []) trivial (by kernel_rfl) (by kernel_rfl))⟩ (fun a w G hl17 hE hH => ?_)
                  have hle := Gh.le_trans hle hl17
                  obtain ⟨q45, h⟩ := gd h
                  refine segO 2 [] [(10, .kv .str (x41.2.1 ++ x44.2.2.1))] (Os := [_]) ⟨q45, trivial⟩ hE hH (by kernel_rfl) (fun a hE => ?_)
                  refine wpFrom_end (by kernel_rfl) ?_
                  cases h
                  exact hj28 _ _ _  hle (hE.subC (by kernel_rfl)) hH
                · replace h := ifF hc h
                  refine wp_skip ?_
                  cases h
                  exact hj28 _ _ _  hle (hE.subC (by kernel_rfl)) hH

def f8 (p0 : K31.den) (p1 : Int) (σ : St) : Option (Bool × St) :=
  f28 none p0.2.1 σ >>= fun r5 =>
  f18 p1 σ >>= fun r7 =>
  f19 r7.2 >>= fun r10 =>
  if ((((r10.1 && (((decide (p1 ≥ 0)) && (decide (p1 ≤ 1048576))) == (r7.1.2 == 0))) && (!(r7.1.1.isNone == ((decide (p1 ≥ 0)) && (decide (p1 ≤ 1048576)))))) && (r5.1 == [])) && (r5.2 == 1)) = true then
  f24 none p0.2.1 p0.2.2.1 r10.2 >>= fun r11 =>
  if (r11.1 == 1) = true then
  f33 none p0.2.1 r11.2 >>= fun r12 =>
  if (r12.1 == 1) = true then
  f35 none p0.2.1 p0.2.2.2.2.1 r12.2 >>= fun r13 =>
  if (r13.1 == 1) = true then
  f36 none p0.2.1 p0.2.2.2.1 r13.2 >>= fun r14 =>
  if (r14.1 == 1) = true then
  f37 none p0.2.1 r14.2 >>= fun r15 =>
  if (r15.1 == 1) = true then
  f32 none p0.2.2.2.2.1 r15.2 >>= fun r16 =>
  if (r16.1 == 1) = true then
  f27 none p0.2.2.2.2.2.1 r16.2 >>= fun r17 =>
  if (r17.1 == 1) = true then
  f30 none p0.2.1 r17.2 >>= fun r18 =>
  f21 none r17.2 >>= fun r19 =>
  f20 none r17.2 >>= fun r20 =>
  if ((IntKind.wrap .i64 ((IntKind.wrap .i64 (r18 + (r19.length : Int))) + r20)) == 0) = true then
  f31 none r17.2 >>= fun r21 =>
  some (!r21, r17.2)
  else
  some (false, r17.2)
  else
  some (false, r17.2)
  else
  some (false, r16.2)
  else
  some (false, r15.2)
  else
  some (false, r14.2)
  else
  some (false, r13.2)
  else
  some (false, r12.2)
  else
  some (false, r11.2)
  else
  some (false, r10.2)

theorem f8_ok {p0 : K31.den} {p1 : Int} {σ : St} {p : Bool × St} (h : f8 p0 p1 σ = some p) : Spec Try.prog 8 [.kv K31 p0, .kv .i p1] (tabs σ) (.kv .bool p.1) (tabs p.2) := by
  refine Spec.intro Try.func8 (by kernel_rfl) rfl (by kernel_rfl) (fun a w G0 Ls hE hH hN => ?_)
  have hle : G0.le G0 := Gh.le_refl G0
  unfold f8 at h
  refine wp_seq_k (fun K hK1 => ?_)
  refine wp_region_from ?_
  refine stepBox (e := 31) (d := (some 2)) K31 p0 hE hH (by kernel_rfl) (by kernel_rfl) (fun b2 a w G hl1 hE hH => ?_)
  have hle := Gh.le_trans hle hl1
  refine segO 1 [] [(4, .kv .bool false)] (Os := []) trivial hE hH (by kernel_rfl) (fun a hE => ?_)
  refine wpFrom_end (by kernel_rfl) ?_
  refine Exit.then_normal (hK1 _ _ ?_)
  refine wp_seq_k (fun K hK3 => ?_)
  refine wp_region_from ?_
  refine segO 1 [] [(5, .val (.pointer none))] (Os := []) trivial hE hH (by kernel_rfl) (fun a hE => ?_)
  refine wpFrom_end (by kernel_rfl) ?_
  refine Exit.then_normal (hK3 _ _ ?_)
  refine wp_seq_k (fun K hK4 => ?_)
  refine wp_region_from ?_
  refine segO 3 [.bx 0 K31 p0] [(12, .val (.pointer none)), (14, .kv .str p0.2.1)] (Os := [_]) ⟨(rfl : (LS.box b2 K31 p0 :: Ls)[0]? = some (LS.box b2 K31 p0)), trivial⟩ hE hH (by kernel_rfl) (fun a hE => ?_)
  obtain ⟨r5, hr5, h⟩ := bs h
  refine stepCall (d := (some 15)) (f28_ok hr5) hE hH (NoHole.cons (fun _ _ _ => rfl) hN) (by kernel_rfl) (by kernel_rfl) trivial (fun a w G hl2 hE hH => ?_)
  have hle := Gh.le_trans hle hl2
  refine segO 5 [] [(6, .kv .str r5.1), (7, .kv .i r5.2)] (Os := []) trivial hE hH (by kernel_rfl) (fun a hE => ?_)
  refine wpFrom_end (by kernel_rfl) ?_
  refine Exit.then_normal (hK4 _ _ ?_)
  refine wp_seq_k (fun K hK6 => ?_)
  refine wp_region_from ?_
  refine segO 1 [] [(19, .kv .i p1)] (Os := []) trivial hE hH (by kernel_rfl) (fun a hE => ?_)
  obtain ⟨r7, hr7, h⟩ := bs h
  refine stepCall (d := (some 20)) (f18_ok hr7) hE hH (NoHole.cons (fun _ _ _ => rfl) hN) (by kernel_rfl) (by kernel_rfl) trivial (fun a w G hl3 hE hH => ?_)
  have hle := Gh.le_trans hle hl3
  refine segO 5 [] [(8, .kv (.ptr 105) r7.1.1), (9, .kv .i r7.1.2)] (Os := []) trivial hE hH (by kernel_rfl) (fun a hE => ?_)
  refine wpFrom_end (by kernel_rfl) ?_
  refine Exit.then_normal (hK6 _ _ ?_)
  refine wp_seq_k (fun K hK8 => ?_)
  refine wp_region_from ?_
  refine segO 7 [] [(10, .kv .bool ((decide (p1 ≥ 0)) && (decide (p1 ≤ 1048576))))] (Os := []) trivial hE hH (by kernel_rfl) (fun a hE => ?_)
  refine wpFrom_end (by kernel_rfl) ?_
  refine Exit.then_normal (hK8 _ _ ?_)
  refine wp_seq_k (fun K hK9 => ?_)
  refine wp_region_from ?_
  obtain ⟨r10, hr10, h⟩ := bs h
  refine stepCall (d := (some 29)) (f19_ok hr10) hE hH (NoHole.cons (fun _ _ _ => rfl) hN) (by kernel_rfl) (by kernel_rfl) trivial (fun a w G hl4 hE hH => ?_)
  have hle := Gh.le_trans hle hl4
  refine segO 21 [] [(50, .kv .bool ((((r10.1 && (((decide (p1 ≥ 0)) && (decide (p1 ≤ 1048576))) == (r7.1.2 == 0))) && (!(r7.1.1.isNone == ((decide (p1 ≥ 0)) && (decide (p1 ≤ 1048576)))))) && (r5.1 == [])) && (r5.2 == 1)))] (Os := []) trivial hE hH (by kernel_rfl) (fun a hE => ?_)
  by_cases hc : ((((r10.1 && (((decide (p1 ≥ 0)) && (decide (p1 ≤ 1048576))) == (r7.1.2 == 0))) && (!(r7.1.1.isNone == ((decide (p1 ≥ 0)) && (decide (p1 ≤ 1048576)))))) && (r5.1 == [])) && (r5.2 == 1)) = true
  · replace h := ifT hc h
    have hE := hE.setB 50 (by kernel_rfl) hc
    refine segO 5 [.bx 0 K31 p0, .bx 0 K31 p0] [(51, .val (.pointer none)), (53, .kv .str p0.2.1), (55, .kv .str p0.2.2.1)] (Os := [_, _]) ⟨(rfl : (LS.box b2 K31 p0 :: Ls)[0]? = some (LS.box b2 K31 p0)), (rfl : (LS.box b2 K31 p0 :: Ls)[0]? = some (LS.box b2 K31 p0)), trivial⟩ hE hH (by kernel_rfl) (fun a hE => ?_)
    obtain ⟨r11, hr11, h⟩ := bs h
    refine stepCall (d := (some 56)) (f24_ok hr11) hE hH (NoHole.cons (fun _ _ _ => rfl) hN) (by kernel_rfl) (by kernel_rfl) trivial (fun a w G hl5 hE hH => ?_)
    have hle := Gh.le_trans hle hl5
    refine segO 3 [] [(59, .kv .bool (r11.1 == 1))] (Os := []) trivial hE hH (by kernel_rfl) (fun a hE => ?_)
    by_cases hc : (r11.1 == 1) = true
    · replace h := ifT hc h
      have hE := hE.setB 59 (by kernel_rfl) hc
      refine segO 3 [.bx 0 K31 p0] [(60, .val (.pointer none)), (62, .kv .str p0.2.1)] (Os := [_]) ⟨(rfl : (LS.box b2 K31 p0 :: Ls)[0]? = some (LS.box b2 K31 p0)), trivial⟩ hE hH (by kernel_rfl) (fun a hE => ?_)
      obtain ⟨r12, hr12, h⟩ := bs h
      refine stepCall (d := (some 63)) (f33_ok hr12) hE hH (NoHole.cons (fun _ _ _ => rfl) hN) (by kernel_rfl) (by kernel_rfl) trivial (fun a w G hl6 hE hH => ?_)
      have hle := Gh.le_trans hle hl6
      refine segO 3 [] [(66, .kv .bool (r12.1 == 1))] (Os := []) trivial hE hH (by kernel_rfl) (fun a hE => ?_)
      by_cases hc : (r12.1 == 1) = true
      · replace h := ifT hc h
        have hE := hE.setB 66 (by kernel_rfl) hc
        refine segO 5 [.bx 0 K31 p0, .bx 0 K31 p0] [(67, .val (.pointer none)), (69, .kv .str p0.2.1), (71, .kv .i p0.2.2.2.2.1)] (Os := [_, _]) ⟨(rfl : (LS.box b2 K31 p0 :: Ls)[0]? = some (LS.box b2 K31 p0)), (rfl : (LS.box b2 K31 p0 :: Ls)[0]? = some (LS.box b2 K31 p0)), trivial⟩ hE hH (by kernel_rfl) (fun a hE => ?_)
        obtain ⟨r13, hr13, h⟩ := bs h
        refine stepCall (d := (some 72)) (f35_ok hr13) hE hH (NoHole.cons (fun _ _ _ => rfl) hN) (by kernel_rfl) (by kernel_rfl) trivial (fun a w G hl7 hE hH => ?_)
        have hle := Gh.le_trans hle hl7
        refine segO 3 [] [(75, .kv .bool (r13.1 == 1))] (Os := []) trivial hE hH (by kernel_rfl) (fun a hE => ?_)
        by_cases hc : (r13.1 == 1) = true
        · replace h := ifT hc h
          have hE := hE.setB 75 (by kernel_rfl) hc
          refine segO 5 [.bx 0 K31 p0, .bx 0 K31 p0] [(76, .val (.pointer none)), (78, .kv .str p0.2.1), (80, .kv .str p0.2.2.2.1)] (Os := [_, _]) ⟨(rfl : (LS.box b2 K31 p0 :: Ls)[0]? = some (LS.box b2 K31 p0)), (rfl : (LS.box b2 K31 p0 :: Ls)[0]? = some (LS.box b2 K31 p0)), trivial⟩ hE hH (by kernel_rfl) (fun a hE => ?_)
          obtain ⟨r14, hr14, h⟩ := bs h
          refine stepCall (d := (some 81)) (f36_ok hr14) hE hH (NoHole.cons (fun _ _ _ => rfl) hN) (by kernel_rfl) (by kernel_rfl) trivial (fun a w G hl8 hE hH => ?_)
          have hle := Gh.le_trans hle hl8
          refine segO 3 [] [(84, .kv .bool (r14.1 == 1))] (Os := []) trivial hE hH (by kernel_rfl) (fun a hE => ?_)
          by_cases hc : (r14.1 == 1) = true
          · replace h := ifT hc h
            have hE := hE.setB 84 (by kernel_rfl) hc
            refine segO 3 [.bx 0 K31 p0] [(85, .val (.pointer none)), (87, .kv .str p0.2.1)] (Os := [_]) ⟨(rfl : (LS.box b2 K31 p0 :: Ls)[0]? = some (LS.box b2 K31 p0)), trivial⟩ hE hH (by kernel_rfl) (fun a hE => ?_)
            obtain ⟨r15, hr15, h⟩ := bs h
            refine stepCall (d := (some 88)) (f37_ok hr15) hE hH (NoHole.cons (fun _ _ _ => rfl) hN) (by kernel_rfl) (by kernel_rfl) trivial (fun a w G hl9 hE hH => ?_)
            have hle := Gh.le_trans hle hl9
            refine segO 3 [] [(91, .kv .bool (r15.1 == 1))] (Os := []) trivial hE hH (by kernel_rfl) (fun a hE => ?_)
            by_cases hc : (r15.1 == 1) = true
            · replace h := ifT hc h
              have hE := hE.setB 91 (by kernel_rfl) hc
              refine segO 3 [.bx 0 K31 p0] [(92, .val (.pointer none)), (94, .kv .i p0.2.2.2.2.1)] (Os := [_]) ⟨(rfl : (LS.box b2 K31 p0 :: Ls)[0]? = some (LS.box b2 K31 p0)), trivial⟩ hE hH (by kernel_rfl) (fun a hE => ?_)
              obtain ⟨r16, hr16, h⟩ := bs h
              refine stepCall (d := (some 95)) (f32_ok hr16) hE hH (NoHole.cons (fun _ _ _ => rfl) hN) (by kernel_rfl) (by kernel_rfl) trivial (fun a w G hl10 hE hH => ?_)
              have hle := Gh.le_trans hle hl10
              refine segO 3 [] [(98, .kv .bool (r16.1 == 1))] (Os := []) trivial hE hH (by kernel_rfl) (fun a hE => ?_)
              by_cases hc : (r16.1 == 1) = true
              · replace h := ifT hc h
                have hE := hE.setB 98 (by kernel_rfl) hc
                refine segO 3 [.bx 0 K31 p0] [(99, .val (.pointer none)), (101, .kv (.list .i) p0.2.2.2.2.2.1)] (Os := [_]) ⟨(rfl : (LS.box b2 K31 p0 :: Ls)[0]? = some (LS.box b2 K31 p0)), trivial⟩ hE hH (by kernel_rfl) (fun a hE => ?_)
                obtain ⟨r17, hr17, h⟩ := bs h
                refine stepCall (d := (some 102)) (f27_ok hr17) hE hH (NoHole.cons (fun _ _ _ => rfl) hN) (by kernel_rfl) (by kernel_rfl) trivial (fun a w G hl11 hE hH => ?_)
                have hle := Gh.le_trans hle hl11
                refine segO 3 [] [(105, .kv .bool (r17.1 == 1))] (Os := []) trivial hE hH (by kernel_rfl) (fun a hE => ?_)
                by_cases hc : (r17.1 == 1) = true
                · replace h := ifT hc h
                  have hE := hE.setB 105 (by kernel_rfl) hc
                  refine segO 3 [.bx 0 K31 p0] [(106, .val (.pointer none)), (108, .kv .str p0.2.1)] (Os := [_]) ⟨(rfl : (LS.box b2 K31 p0 :: Ls)[0]? = some (LS.box b2 K31 p0)), trivial⟩ hE hH (by kernel_rfl) (fun a hE => ?_)
                  obtain ⟨r18, hr18, h⟩ := bs h
                  refine stepCall (d := (some 109)) (f30_ok hr18) hE hH (NoHole.cons (fun _ _ _ => rfl) hN) (by kernel_rfl) (by kernel_rfl) trivial (fun a w G hl12 hE hH => ?_)
                  have hle := Gh.le_trans hle hl12
                  refine segO 1 [] [(110, .val (.pointer none))] (Os := []) trivial hE hH (by kernel_rfl) (fun a hE => ?_)
                  obtain ⟨r19, hr19, h⟩ := bs h
                  refine stepCall (d := (some 111)) (f21_ok hr19) hE hH (NoHole.cons (fun _ _ _ => rfl) hN) (by kernel_rfl) (by kernel_rfl) trivial (fun a w G hl13 hE hH => ?_)
                  have hle := Gh.le_trans hle hl13
                  refine segO 3 [] [(113, .kv .i (IntKind.wrap .i64 (r18 + (r19.length : Int)))), (114, .val (.pointer none))] (Os := []) trivial hE hH (by kernel_rfl) (fun a hE => ?_)
                  obtain ⟨r20, hr20, h⟩ := bs h
                  refine stepCall (d := (some 115)) (f20_ok hr20) hE hH (NoHole.cons (fun _ _ _ => rfl) hN) (by kernel_rfl) (by kernel_rfl) trivial (fun a w G hl14 hE hH => ?_)
                  have hle := Gh.le_trans hle hl14
                  refine segO 4 [] [(119, .kv .bool ((IntKind.wrap .i64 ((IntKind.wrap .i64 (r18 + (r19.length : Int))) + r20)) == 0))] (Os := []) trivial hE hH (by kernel_rfl) (fun a hE => ?_)
                  by_cases hc : ((IntKind.wrap .i64 ((IntKind.wrap .i64 (r18 + (r19.length : Int))) + r20)) == 0) = true
                  · replace h := ifT hc h
                    have hE := hE.setB 119 (by kernel_rfl) hc
                    refine segO 1 [] [(120, .val (.pointer none))] (Os := []) trivial hE hH (by kernel_rfl) (fun a hE => ?_)
                    obtain ⟨r21, hr21, h⟩ := bs h
                    refine stepCall (d := (some 121)) (f31_ok hr21) hE hH (NoHole.cons (fun _ _ _ => rfl) hN) (by kernel_rfl) (by kernel_rfl) trivial (fun a w G hl15 hE hH => ?_)
                    have hle := Gh.le_trans hle hl15
                    refine segO 3 [] [(4, .kv .bool (!r21))] (Os := []) trivial hE hH (by kernel_rfl) (fun a hE => ?_)
                    refine wpFrom_end (by kernel_rfl) ?_
                    refine Exit.then_normal (hK9 _ _ ?_)
                    refine wp_ret ?_
                    have hH := hH.drop (fun _ _ _ => rfl)
                    cases h
                    exact ret1 rfl hE hle hH (by kernel_rfl)
                  · replace h := ifN hc h
                    have hE := hE.setB 119 (by kernel_rfl) (bf hc)
                    refine segO 5 [] [(4, .kv .bool false)] (Os := []) trivial hE hH (by kernel_rfl) (fun a hE => ?_)
                    refine wpFrom_end (by kernel_rfl) ?_
                    refine Exit.then_normal (hK9 _ _ ?_)
                    refine wp_ret ?_
                    have hH := hH.drop (fun _ _ _ => rfl)
                    cases h
                    exact ret1 rfl hE hle hH (by kernel_rfl)
                · replace h := ifN hc h
                  have hE := hE.setB 105 (by kernel_rfl) (bf hc)
                  refine segO 19 [] [(4, .kv .bool false)] (Os := []) trivial hE hH (by kernel_rfl) (fun a hE => ?_)
                  refine wpFrom_end (by kernel_rfl) ?_
                  refine Exit.then_normal (hK9 _ _ ?_)
                  refine wp_ret ?_
                  have hH := hH.drop (fun _ _ _ => rfl)
                  cases h
                  exact ret1 rfl hE hle hH (by kernel_rfl)
              · replace h := ifN hc h
                have hE := hE.setB 98 (by kernel_rfl) (bf hc)
                refine segO 26 [] [(4, .kv .bool false)] (Os := []) trivial hE hH (by kernel_rfl) (fun a hE => ?_)
                refine wpFrom_end (by kernel_rfl) ?_
                refine Exit.then_normal (hK9 _ _ ?_)
                refine wp_ret ?_
                have hH := hH.drop (fun _ _ _ => rfl)
                cases h
                exact ret1 rfl hE hle hH (by kernel_rfl)
            · replace h := ifN hc h
              have hE := hE.setB 91 (by kernel_rfl) (bf hc)
              refine segO 33 [] [(4, .kv .bool false)] (Os := []) trivial hE hH (by kernel_rfl) (fun a hE => ?_)
              refine wpFrom_end (by kernel_rfl) ?_
              refine Exit.then_normal (hK9 _ _ ?_)
              refine wp_ret ?_
              have hH := hH.drop (fun _ _ _ => rfl)
              cases h
              exact ret1 rfl hE hle hH (by kernel_rfl)
          · replace h := ifN hc h
            have hE := hE.setB 84 (by kernel_rfl) (bf hc)
            refine segO 40 [] [(4, .kv .bool false)] (Os := []) trivial hE hH (by kernel_rfl) (fun a hE => ?_)
            refine wpFrom_end (by kernel_rfl) ?_
            refine Exit.then_normal (hK9 _ _ ?_)
            refine wp_ret ?_
            have hH := hH.drop (fun _ _ _ => rfl)
            cases h
            exact ret1 rfl hE hle hH (by kernel_rfl)
        · replace h := ifN hc h
          have hE := hE.setB 75 (by kernel_rfl) (bf hc)
          refine segO 49 [] [(4, .kv .bool false)] (Os := []) trivial hE hH (by kernel_rfl) (fun a hE => ?_)
          refine wpFrom_end (by kernel_rfl) ?_
          refine Exit.then_normal (hK9 _ _ ?_)
          refine wp_ret ?_
          have hH := hH.drop (fun _ _ _ => rfl)
          cases h
          exact ret1 rfl hE hle hH (by kernel_rfl)
      · replace h := ifN hc h
        have hE := hE.setB 66 (by kernel_rfl) (bf hc)
        refine segO 58 [] [(4, .kv .bool false)] (Os := []) trivial hE hH (by kernel_rfl) (fun a hE => ?_)
        refine wpFrom_end (by kernel_rfl) ?_
        refine Exit.then_normal (hK9 _ _ ?_)
        refine wp_ret ?_
        have hH := hH.drop (fun _ _ _ => rfl)
        cases h
        exact ret1 rfl hE hle hH (by kernel_rfl)
    · replace h := ifN hc h
      have hE := hE.setB 59 (by kernel_rfl) (bf hc)
      refine segO 65 [] [(4, .kv .bool false)] (Os := []) trivial hE hH (by kernel_rfl) (fun a hE => ?_)
      refine wpFrom_end (by kernel_rfl) ?_
      refine Exit.then_normal (hK9 _ _ ?_)
      refine wp_ret ?_
      have hH := hH.drop (fun _ _ _ => rfl)
      cases h
      exact ret1 rfl hE hle hH (by kernel_rfl)
  · replace h := ifN hc h
    have hE := hE.setB 50 (by kernel_rfl) (bf hc)
    refine segO 74 [] [(4, .kv .bool false)] (Os := []) trivial hE hH (by kernel_rfl) (fun a hE => ?_)
    refine wpFrom_end (by kernel_rfl) ?_
    refine Exit.then_normal (hK9 _ _ ?_)
    refine wp_ret ?_
    have hH := hH.drop (fun _ _ _ => rfl)
    cases h
    exact ret1 rfl hE hle hH (by kernel_rfl)
end Go.Proofs.Ytlfemhkabjafeaa.M
