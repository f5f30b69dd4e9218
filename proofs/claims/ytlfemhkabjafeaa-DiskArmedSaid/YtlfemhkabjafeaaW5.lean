/- Printed by own program: twins and walks. -/
import Derived.Test.YtlfemhkabjafeaaP0
import Derived.Test.YtlfemhkabjafeaaU20
import Derived.Test.YtlfemhkabjafeaaW1
import Derived.Test.YtlfemhkabjafeaaW2
import Derived.Test.YtlfemhkabjafeaaU21
import Derived.Test.YtlfemhkabjafeaaW3
import Derived.Test.YtlfemhkabjafeaaW4
import Derived.Test.YtlfemhkabjafeaaProg
set_option linter.unusedVariables false
set_option maxRecDepth 100000
namespace Go.Proofs.Ytlfemhkabjafeaa.M
open Go.Proofs (Try.prog Try.func3 Try.f3 Try.func4 Try.f4 Try.func5 Try.f5)

def f3_l0 (p0 : Int) (p1 : List K31.den) (r3 : ((Option Nat) × Int) × St) (x11 : Int) (σ12 : St) : Option (Sum (Int × St) (Bool × St)) :=
  if ((decide (x11 < (p1.length : Int))) && (decide (x11 < 200))) = true then
  (ix p1 x11) >>= fun x21 =>
  f20 r3.1.1 σ12 >>= fun r24 =>
  f21 r3.1.1 σ12 >>= fun r25 =>
  f22 0 σ12 >>= fun r27 =>
  if (decide (x21.1 < 0)) = true then
  f23 r3.1.1 r27.1.1 x21 r27.2 >>= fun r30 =>
  f20 r3.1.1 r30.2 >>= fun r32 =>
  if (decide (r32 > (IntKind.wrap .i64 (p0)))) = true then
  some (.inr (false, r30.2))
  else
  f21 r3.1.1 r30.2 >>= fun r34 =>
  if (decide ((r34.length : Int) > 128)) = true then
  some (.inr (false, r30.2))
  else
  f3_l0 p0 p1 r3 (IntKind.wrap .i64 (x11 + 1)) r30.2
  else
  if (decide (x21.1 > 2)) = true then
  f23 r3.1.1 r27.1.1 x21 r27.2 >>= fun r36 =>
  f20 r3.1.1 r36.2 >>= fun r38 =>
  if (decide (r38 > (IntKind.wrap .i64 (p0)))) = true then
  some (.inr (false, r36.2))
  else
  f21 r3.1.1 r36.2 >>= fun r40 =>
  if (decide ((r40.length : Int) > 128)) = true then
  some (.inr (false, r36.2))
  else
  f3_l0 p0 p1 r3 (IntKind.wrap .i64 (x11 + 1)) r36.2
  else
  f24 r3.1.1 x21.2.1 x21.2.2.1 r27.2 >>= fun r43 =>
  if (r43.1 == 10) = true then
  f20 r3.1.1 r43.2 >>= fun r46 =>
  if (r46 != r24) = true then
  some (.inr (false, r43.2))
  else
  f21 r3.1.1 r43.2 >>= fun r50 =>
  if ((r50.length : Int) != (r25.length : Int)) = true then
  some (.inr (false, r43.2))
  else
  if (r43.1 == 0) = true then
  f20 r3.1.1 r43.2 >>= fun r55 =>
  if (r55 != (IntKind.wrap .i64 (r24 + (x21.2.2.1.length : Int)))) = true then
  some (.inr (false, r43.2))
  else
  f20 r3.1.1 r43.2 >>= fun r58 =>
  if (decide (r58 > (IntKind.wrap .i64 (p0)))) = true then
  some (.inr (false, r43.2))
  else
  f21 r3.1.1 r43.2 >>= fun r60 =>
  if (decide ((r60.length : Int) > 128)) = true then
  some (.inr (false, r43.2))
  else
  f3_l0 p0 p1 r3 (IntKind.wrap .i64 (x11 + 1)) r43.2
  else
  f20 r3.1.1 r43.2 >>= fun r64 =>
  if (decide (r64 > (IntKind.wrap .i64 (p0)))) = true then
  some (.inr (false, r43.2))
  else
  f21 r3.1.1 r43.2 >>= fun r66 =>
  if (decide ((r66.length : Int) > 128)) = true then
  some (.inr (false, r43.2))
  else
  f3_l0 p0 p1 r3 (IntKind.wrap .i64 (x11 + 1)) r43.2
  else
  if (r43.1 == 0) = true then
  f20 r3.1.1 r43.2 >>= fun r70 =>
  if (r70 != (IntKind.wrap .i64 (r24 + (x21.2.2.1.length : Int)))) = true then
  some (.inr (false, r43.2))
  else
  f20 r3.1.1 r43.2 >>= fun r73 =>
  if (decide (r73 > (IntKind.wrap .i64 (p0)))) = true then
  some (.inr (false, r43.2))
  else
  f21 r3.1.1 r43.2 >>= fun r75 =>
  if (decide ((r75.length : Int) > 128)) = true then
  some (.inr (false, r43.2))
  else
  f3_l0 p0 p1 r3 (IntKind.wrap .i64 (x11 + 1)) r43.2
  else
  f20 r3.1.1 r43.2 >>= fun r79 =>
  if (decide (r79 > (IntKind.wrap .i64 (p0)))) = true then
  some (.inr (false, r43.2))
  else
  f21 r3.1.1 r43.2 >>= fun r81 =>
  if (decide ((r81.length : Int) > 128)) = true then
  some (.inr (false, r43.2))
  else
  f3_l0 p0 p1 r3 (IntKind.wrap .i64 (x11 + 1)) r43.2
  else
  some (.inl (x11, σ12))
  partial_fixpoint

def f3 (p0 : Int) (p1 : List K31.den) (σ : St) : Option (Bool × St) :=
  f18 (IntKind.wrap .i64 (p0)) σ >>= fun r3 =>
  if ((r3.1.2 != 0) || r3.1.1.isNone) = true then
  some (false, r3.2)
  else
  f19 r3.2 >>= fun r7 =>
  if (!r7.1) = true then
  some (false, r7.2)
  else
  f3_l0 p0 p1 r3 0 r7.2 >>= fun rr84 => (match rr84 with
  | .inr yy => some yy
  | .inl z83 =>
  some (true, z83.2))

theorem f3_ok {p0 : Int} {p1 : List K31.den} {σ : St} {p : Bool × St} (h : f3 p0 p1 σ = some p) : Spec Try.prog 3 [.kv (.int .u16) p0, .kv (.list K31) p1] (tabs σ) (.kv .bool p.1) (tabs p.2) := by
  refine Spec.intro Try.func3 (by kernel_rfl) rfl (by kernel_rfl) (fun a w G0 Ls hE hH hN => ?_)
  have hle : G0.le G0 := Gh.le_refl G0
  unfold f3 at h
  refine wp_seq_k (fun K hK1 => ?_)
  refine wp_region_from ?_
  refine segO 1 [] [(4, .kv .bool false)] (Os := []) trivial hE hH (by kernel_rfl) (fun a hE => ?_)
  refine wpFrom_end (by kernel_rfl) ?_
  refine Exit.then_normal (hK1 _ _ ?_)
  refine wp_seq_k (fun K hK2 => ?_)
  refine wp_region_from ?_
  refine segO 2 [] [(16, .kv .i (IntKind.wrap .i64 (p0)))] (Os := []) trivial hE hH (by kernel_rfl) (fun a hE => ?_)
  obtain ⟨r3, hr3, h⟩ := bs h
  refine stepCall (d := (some 17)) (f18_ok hr3) hE hH hN (by kernel_rfl) (by kernel_rfl) trivial (fun a w G hl1 hE hH => ?_)
  have hle := Gh.le_trans hle hl1
  refine segO 5 [] [(5, .kv (.ptr 105) r3.1.1), (6, .kv .i r3.1.2)] (Os := []) trivial hE hH (by kernel_rfl) (fun a hE => ?_)
  refine wpFrom_end (by kernel_rfl) ?_
  refine Exit.then_normal (hK2 _ _ ?_)
  refine wp_seq_k (fun K hK4 => ?_)
  refine wp_seq_k (fun K hK5 => ?_)
  refine wp_region_from ?_
  refine segO 7 [] [(26, .kv .bool ((r3.1.2 != 0) || r3.1.1.isNone))] (Os := []) trivial hE hH (by kernel_rfl) (fun a hE => ?_)
  by_cases hc : ((r3.1.2 != 0) || r3.1.1.isNone) = true
  · replace h := ifT hc h
    have hE := hE.setB 26 (by kernel_rfl) hc
    refine segO 3 [] [(29, .kv .bool true)] (Os := []) trivial hE hH (by kernel_rfl) (fun a hE => ?_)
    refine wpFrom_end (by kernel_rfl) ?_
    refine Exit.then_normal (hK5 _ _ ?_)
    refine condT hE (by kernel_rfl) rfl ?_
    refine wp_seq_k (fun K hK6 => ?_)
    refine wp_region_from ?_
    refine segO 1 [] [(4, .kv .bool false)] (Os := []) trivial hE hH (by kernel_rfl) (fun a hE => ?_)
    refine wpFrom_end (by kernel_rfl) ?_
    refine Exit.then_normal (hK6 _ _ ?_)
    refine wp_ret ?_
    refine Exit.then_ret ?_
    cases h
    exact ret1 rfl hE hle hH (by kernel_rfl)
  · replace h := ifN hc h
    have hE := hE.setB 26 (by kernel_rfl) (bf hc)
    obtain ⟨r7, hr7, h⟩ := bs h
    refine stepCall (d := (some 27)) (f19_ok hr7) hE hH hN (by kernel_rfl) (by kernel_rfl) trivial (fun a w G hl2 hE hH => ?_)
    have hle := Gh.le_trans hle hl2
    refine segO 2 [] [(29, .kv .bool (!r7.1))] (Os := []) trivial hE hH (by kernel_rfl) (fun a hE => ?_)
    refine wpFrom_end (by kernel_rfl) ?_
    refine Exit.then_normal (hK5 _ _ ?_)
    refine condE (b := !r7.1) hE (by kernel_rfl) (fun hc => ?_) (fun hc => ?_)
    · replace h := ifT hc h
      refine wp_seq_k (fun K hK8 => ?_)
      refine wp_region_from ?_
      refine segO 1 [] [(4, .kv .bool false)] (Os := []) trivial hE hH (by kernel_rfl) (fun a hE => ?_)
      refine wpFrom_end (by kernel_rfl) ?_
      refine Exit.then_normal (hK8 _ _ ?_)
      refine wp_ret ?_
      refine Exit.then_ret ?_
      cases h
      exact ret1 rfl hE hle hH (by kernel_rfl)
    · replace h := ifF hc h
      refine wp_skip ?_
      refine Exit.then_normal (hK4 _ _ ?_)
      refine wp_seq_k (fun K hK9 => ?_)
      refine wp_seq_k (fun K hK10 => ?_)
      refine wp_region_from ?_
      refine segO 1 [] [(7, .kv .i 0)] (Os := []) trivial hE hH (by kernel_rfl) (fun a hE => ?_)
      refine wpFrom_end (by kernel_rfl) ?_
      refine Exit.then_normal (hK10 _ _ ?_)
      refine wp_block ?_
      obtain ⟨rr84, hrr84, h⟩ := bs h
      refine loop_intro (fun Q13 c hQ hc => ?_)
      have key : ∀ (x11 : Int) (σ12 : St) (rr : Sum (Int × St) (Bool × St)), f3_l0 p0 p1 r3 x11 σ12 = some rr → ∀ (a : Act) (w : World) (G : Gh), G0.le G → EnvR G 111 a [(0, .kv (.int .u16) p0), (1, .kv (.list K31) p1), (4, .kv .bool false), (5, .kv (.ptr 105) r3.1.1), (7, .kv .i x11)] → Holds w G (tabs σ12) (Ls) → (∀ z83 : Int × St, rr = .inl z83 → ∀ (a : Act) (w : World) (G : Gh), G0.le G → EnvR G 111 a [(0, .kv (.int .u16) p0), (1, .kv (.list K31) p1), (4, .kv .bool false), (5, .kv (.ptr 105) r3.1.1), (7, .kv .i z83.1)] → Holds w G (tabs z83.2) (Ls) → Q13 (.exit 0) a w) → (∀ yy : Bool × St, rr = .inr yy → ∀ (a : Act) (w : World), PostB Try.prog Try.f3 G0 (.kv .bool yy.1) (tabs yy.2) Ls .ret a w → Q13 .ret a w) → Rnd Try.prog c Q13 a w := by
        refine f3_l0.partial_correctness p0 p1 r3 _ ?_
        intro self ih16 x11 σ12 rr h a w G  hle hE hH hx14 hret15
        refine rnd_step' hc ?_
        refine wp_seq_k (fun K hK17 => ?_)
        refine wp_seq_k (fun K hK18 => ?_)
        refine wp_region_from ?_
        refine segO 8 [] [(37, .kv .bool ((decide (x11 < (p1.length : Int))) && (decide (x11 < 200))))] (Os := []) trivial hE hH (by kernel_rfl) (fun a hE => ?_)
        refine wpFrom_end (by kernel_rfl) ?_
        refine Exit.then_normal (hK18 _ _ ?_)
        refine condE (b := (decide (x11 < (p1.length : Int))) && (decide (x11 < 200))) hE (by kernel_rfl) (fun hc => ?_) (fun hc => ?_)
        · replace h := ifT hc h
          refine wp_skip ?_
          refine Exit.then_normal (hK17 _ _ ?_)
          refine wp_seq_k (fun K hK19 => ?_)
          refine wp_block ?_
          refine wp_seq_k (fun K hK20 => ?_)
          refine wp_region_from ?_
          obtain ⟨x21, hx21, h⟩ := bs h
          refine segO 4 [.ix K31 x21] [(43, .kv K31 x21)] (Os := [_]) ⟨(IxAt.of (k := K31) hx21), trivial⟩ hE hH (by kernel_rfl) (fun a hE => ?_)
          refine stepAlloc (e := 31) (d := (some 8)) K31  hE hH (by kernel_rfl) (by kernel_rfl) (fun b22 a w G hl3 hE hH => ?_)
          have hle := Gh.le_trans hle hl3
          refine stepStB (b := b22) (off := 0) 0 K31 x21 (x' := x21) hE hH (by kernel_rfl) rfl (by kernel_rfl) (fun w G hl4 hE hH => ?_)
          have hle := Gh.le_trans hle hl4
          refine wpFrom_end (by kernel_rfl) ?_
          refine Exit.then_normal (hK20 _ _ ?_)
          refine wp_seq_k (fun K hK23 => ?_)
          refine wp_region_from ?_
          refine segO 1 [] [(44, .kv (.ptr 105) r3.1.1)] (Os := []) trivial hE hH (by kernel_rfl) (fun a hE => ?_)
          obtain ⟨r24, hr24, h⟩ := bs h
          refine stepCall (d := (some 45)) (f20_ok hr24) hE hH (NoHole.cons (fun _ _ _ => rfl) hN) (by kernel_rfl) (by kernel_rfl) trivial (fun a w G hl5 hE hH => ?_)
          have hle := Gh.le_trans hle hl5
          refine segO 1 [] [(46, .kv (.ptr 105) r3.1.1)] (Os := []) trivial hE hH (by kernel_rfl) (fun a hE => ?_)
          obtain ⟨r25, hr25, h⟩ := bs h
          refine stepCall (d := (some 47)) (f21_ok hr25) hE hH (NoHole.cons (fun _ _ _ => rfl) hN) (by kernel_rfl) (by kernel_rfl) trivial (fun a w G hl6 hE hH => ?_)
          have hle := Gh.le_trans hle hl6
          refine segO 3 [] [(9, .kv .i r24), (10, .kv .i (r25.length : Int))] (Os := []) trivial hE hH (by kernel_rfl) (fun a hE => ?_)
          refine wpFrom_end (by kernel_rfl) ?_
          refine Exit.then_normal (hK23 _ _ ?_)
          refine wp_seq_k (fun K hK26 => ?_)
          refine wp_region_from ?_
          obtain ⟨r27, hr27, h⟩ := bs h
          refine stepCall (d := (some 50)) (f22_ok hr27) hE hH (NoHole.cons (fun _ _ _ => rfl) hN) (by kernel_rfl) (by kernel_rfl) trivial (fun a w G hl7 hE hH => ?_)
          have hle := Gh.le_trans hle hl7
          refine segO 5 [] [(11, .kv (.ptr 47) r27.1.1)] (Os := []) trivial hE hH (by kernel_rfl) (fun a hE => ?_)
          refine wpFrom_end (by kernel_rfl) ?_
          refine Exit.then_normal (hK26 _ _ ?_)
          refine wp_seq_k (fun K hK28 => ?_)
          refine wp_seq_k (fun K hK29 => ?_)
          refine wp_region_from ?_
          refine segO 4 [.bx 0 K31 x21] [(56, .kv .bool (decide (x21.1 < 0)))] (Os := [_]) ⟨(rfl : (LS.box b22 K31 x21 :: Ls)[0]? = some (LS.box b22 K31 x21)), trivial⟩ hE hH (by kernel_rfl) (fun a hE => ?_)
          by_cases hc : (decide (x21.1 < 0)) = true
          · replace h := ifT hc h
            have hE := hE.setB 56 (by kernel_rfl) hc
            refine segO 4 [] [(60, .kv .bool true)] (Os := []) trivial hE hH (by kernel_rfl) (fun a hE => ?_)
            refine wpFrom_end (by kernel_rfl) ?_
            refine Exit.then_normal (hK29 _ _ ?_)
            refine condT hE (by kernel_rfl) rfl ?_
            refine wp_region_from ?_
            refine segO 3 [.bx 0 K31 x21] [(61, .kv (.ptr 105) r3.1.1), (62, .kv (.ptr 47) r27.1.1), (63, .kv K31 x21)] (Os := [_]) ⟨(rfl : (LS.box b22 K31 x21 :: Ls)[0]? = some (LS.box b22 K31 x21)), trivial⟩ hE hH (by kernel_rfl) (fun a hE => ?_)
            obtain ⟨r30, hr30, h⟩ := bs h
            refine stepCall (d := (some 64)) (f23_ok hr30) hE hH (NoHole.cons (fun _ _ _ => rfl) hN) (by kernel_rfl) (by kernel_rfl) trivial (fun a w G hl8 hE hH => ?_)
            have hle := Gh.le_trans hle hl8
            refine wpFrom_end (by kernel_rfl) ?_
            refine Exit.then_normal (hK28 _ _ ?_)
            refine wp_seq_k (fun K hK31 => ?_)
            refine wp_region_from ?_
            refine segO 1 [] [(100, .kv (.ptr 105) r3.1.1)] (Os := []) trivial hE hH (by kernel_rfl) (fun a hE => ?_)
            obtain ⟨r32, hr32, h⟩ := bs h
            refine stepCall (d := (some 101)) (f20_ok hr32) hE hH (NoHole.cons (fun _ _ _ => rfl) hN) (by kernel_rfl) (by kernel_rfl) trivial (fun a w G hl9 hE hH => ?_)
            have hle := Gh.le_trans hle hl9
            refine segO 4 [] [(105, .kv .bool (decide (r32 > (IntKind.wrap .i64 (p0)))))] (Os := []) trivial hE hH (by kernel_rfl) (fun a hE => ?_)
            by_cases hc : (decide (r32 > (IntKind.wrap .i64 (p0)))) = true
            · replace h := ifT hc h
              have hE := hE.setB 105 (by kernel_rfl) hc
              refine segO 5 [] [(110, .kv .bool true)] (Os := []) trivial hE hH (by kernel_rfl) (fun a hE => ?_)
              refine wpFrom_end (by kernel_rfl) ?_
              refine Exit.then_normal (hK31 _ _ ?_)
              refine condT hE (by kernel_rfl) rfl ?_
              refine wp_seq_k (fun K hK33 => ?_)
              refine wp_region_from ?_
              refine segO 1 [] [(4, .kv .bool false)] (Os := []) trivial hE hH (by kernel_rfl) (fun a hE => ?_)
              refine wpFrom_end (by kernel_rfl) ?_
              refine Exit.then_normal (hK33 _ _ ?_)
              refine wp_ret ?_
              refine Exit.in_ret ?_
              refine Exit.then_ret ?_
              refine Exit.then_ret ?_
              have hH := hH.drop (fun _ _ _ => rfl)
              cases h
              exact hret15 _ rfl _ _ (ret1 rfl hE hle hH (by kernel_rfl))
            · replace h := ifN hc h
              have hE := hE.setB 105 (by kernel_rfl) (bf hc)
              refine segO 1 [] [(106, .kv (.ptr 105) r3.1.1)] (Os := []) trivial hE hH (by kernel_rfl) (fun a hE => ?_)
              obtain ⟨r34, hr34, h⟩ := bs h
              refine stepCall (d := (some 107)) (f21_ok hr34) hE hH (NoHole.cons (fun _ _ _ => rfl) hN) (by kernel_rfl) (by kernel_rfl) trivial (fun a w G hl10 hE hH => ?_)
              have hle := Gh.le_trans hle hl10
              refine segO 3 [] [(110, .kv .bool (decide ((r34.length : Int) > 128)))] (Os := []) trivial hE hH (by kernel_rfl) (fun a hE => ?_)
              refine wpFrom_end (by kernel_rfl) ?_
              refine Exit.then_normal (hK31 _ _ ?_)
              refine condE (b := decide ((r34.length : Int) > 128)) hE (by kernel_rfl) (fun hc => ?_) (fun hc => ?_)
              · replace h := ifT hc h
                refine wp_seq_k (fun K hK35 => ?_)
                refine wp_region_from ?_
                refine segO 1 [] [(4, .kv .bool false)] (Os := []) trivial hE hH (by kernel_rfl) (fun a hE => ?_)
                refine wpFrom_end (by kernel_rfl) ?_
                refine Exit.then_normal (hK35 _ _ ?_)
                refine wp_ret ?_
                refine Exit.in_ret ?_
                refine Exit.then_ret ?_
                refine Exit.then_ret ?_
                have hH := hH.drop (fun _ _ _ => rfl)
                cases h
                exact hret15 _ rfl _ _ (ret1 rfl hE hle hH (by kernel_rfl))
              · replace h := ifF hc h
                refine wp_skip ?_
                refine Exit.in_normal ?_
                refine Exit.then_normal (hK19 _ _ ?_)
                refine wp_region_from ?_
                refine segO 3 [] [(7, .kv .i (IntKind.wrap .i64 (x11 + 1)))] (Os := []) trivial hE hH (by kernel_rfl) (fun a hE => ?_)
                refine wpFrom_end (by kernel_rfl) ?_
                have hH := hH.drop (fun _ _ _ => rfl)
                refine Exit.then_normal ?_
                exact ih16 _ _ _ h _ _ _  hle (hE.subC (by kernel_rfl)) hH hx14 hret15
          · replace h := ifN hc h
            have hE := hE.setB 56 (by kernel_rfl) (bf hc)
            refine segO 4 [.bx 0 K31 x21] [(60, .kv .bool (decide (x21.1 > 2)))] (Os := [_]) ⟨(rfl : (LS.box b22 K31 x21 :: Ls)[0]? = some (LS.box b22 K31 x21)), trivial⟩ hE hH (by kernel_rfl) (fun a hE => ?_)
            refine wpFrom_end (by kernel_rfl) ?_
            refine Exit.then_normal (hK29 _ _ ?_)
            refine condE (b := decide (x21.1 > 2)) hE (by kernel_rfl) (fun hc => ?_) (fun hc => ?_)
            · replace h := ifT hc h
              refine wp_region_from ?_
              refine segO 3 [.bx 0 K31 x21] [(61, .kv (.ptr 105) r3.1.1), (62, .kv (.ptr 47) r27.1.1), (63, .kv K31 x21)] (Os := [_]) ⟨(rfl : (LS.box b22 K31 x21 :: Ls)[0]? = some (LS.box b22 K31 x21)), trivial⟩ hE hH (by kernel_rfl) (fun a hE => ?_)
              obtain ⟨r36, hr36, h⟩ := bs h
              refine stepCall (d := (some 64)) (f23_ok hr36) hE hH (NoHole.cons (fun _ _ _ => rfl) hN) (by kernel_rfl) (by kernel_rfl) trivial (fun a w G hl11 hE hH => ?_)
              have hle := Gh.le_trans hle hl11
              refine wpFrom_end (by kernel_rfl) ?_
              refine Exit.then_normal (hK28 _ _ ?_)
              refine wp_seq_k (fun K hK37 => ?_)
              refine wp_region_from ?_
              refine segO 1 [] [(100, .kv (.ptr 105) r3.1.1)] (Os := []) trivial hE hH (by kernel_rfl) (fun a hE => ?_)
              obtain ⟨r38, hr38, h⟩ := bs h
              refine stepCall (d := (some 101)) (f20_ok hr38) hE hH (NoHole.cons (fun _ _ _ => rfl) hN) (by kernel_rfl) (by kernel_rfl) trivial (fun a w G hl12 hE hH => ?_)
              have hle := Gh.le_trans hle hl12
              refine segO 4 [] [(105, .kv .bool (decide (r38 > (IntKind.wrap .i64 (p0)))))] (Os := []) trivial hE hH (by kernel_rfl) (fun a hE => ?_)
              by_cases hc : (decide (r38 > (IntKind.wrap .i64 (p0)))) = true
              · replace h := ifT hc h
                have hE := hE.setB 105 (by kernel_rfl) hc
                refine segO 5 [] [(110, .kv .bool true)] (Os := []) trivial hE hH (by kernel_rfl) (fun a hE => ?_)
                refine wpFrom_end (by kernel_rfl) ?_
                refine Exit.then_normal (hK37 _ _ ?_)
                refine condT hE (by kernel_rfl) rfl ?_
                refine wp_seq_k (fun K hK39 => ?_)
                refine wp_region_from ?_
                refine segO 1 [] [(4, .kv .bool false)] (Os := []) trivial hE hH (by kernel_rfl) (fun a hE => ?_)
                refine wpFrom_end (by kernel_rfl) ?_
                refine Exit.then_normal (hK39 _ _ ?_)
                refine wp_ret ?_
                refine Exit.in_ret ?_
                refine Exit.then_ret ?_
                refine Exit.then_ret ?_
                have hH := hH.drop (fun _ _ _ => rfl)
                cases h
                exact hret15 _ rfl _ _ (ret1 rfl hE hle hH (by kernel_rfl))
              · replace h := ifN hc h
                have hE := hE.setB 105 (by kernel_rfl) (bf hc)
                refine segO 1 [] [(106, .kv (.ptr 105) r3.1.1)] (Os := []) trivial hE hH (by kernel_rfl) (fun a hE => ?_)
                obtain ⟨r40, hr40, h⟩ := bs h
                refine stepCall (d := (some 107)) (f21_ok hr40) hE hH (NoHole.cons (fun _ _ _ => rfl) hN) (by kernel_rfl) (by kernel_rfl) trivial (fun a w G hl13 hE hH => ?_)
                have hle := Gh.le_trans hle hl13
                refine segO 3 [] [(110, .kv .bool (decide ((r40.length : Int) > 128)))] (Os := []) trivial hE hH (by kernel_rfl) (fun a hE => ?_)
                refine wpFrom_end (by kernel_rfl) ?_
                refine Exit.then_normal (hK37 _ _ ?_)
                refine condE (b := decide ((r40.length : Int) > 128)) hE (by kernel_rfl) (fun hc => ?_) (fun hc => ?_)
                · replace h := ifT hc h
                  refine wp_seq_k (fun K hK41 => ?_)
                  refine wp_region_from ?_
                  refine segO 1 [] [(4, .kv .bool false)] (Os := []) trivial hE hH (by kernel_rfl) (fun a hE => ?_)
                  refine wpFrom_end (by kernel_rfl) ?_
                  refine Exit.then_normal (hK41 _ _ ?_)
                  refine wp_ret ?_
                  refine Exit.in_ret ?_
                  refine Exit.then_ret ?_
                  refine Exit.then_ret ?_
                  have hH := hH.drop (fun _ _ _ => rfl)
                  cases h
                  exact hret15 _ rfl _ _ (ret1 rfl hE hle hH (by kernel_rfl))
                · replace h := ifF hc h
                  refine wp_skip ?_
                  refine Exit.in_normal ?_
                  refine Exit.then_normal (hK19 _ _ ?_)
                  refine wp_region_from ?_
                  refine segO 3 [] [(7, .kv .i (IntKind.wrap .i64 (x11 + 1)))] (Os := []) trivial hE hH (by kernel_rfl) (fun a hE => ?_)
                  refine wpFrom_end (by kernel_rfl) ?_
                  have hH := hH.drop (fun _ _ _ => rfl)
                  refine Exit.then_normal ?_
                  exact ih16 _ _ _ h _ _ _  hle (hE.subC (by kernel_rfl)) hH hx14 hret15
            · replace h := ifF hc h
              refine wp_seq_k (fun K hK42 => ?_)
              refine wp_region_from ?_
              refine segO 5 [.bx 0 K31 x21, .bx 0 K31 x21] [(65, .kv (.ptr 105) r3.1.1), (67, .kv .str x21.2.1), (69, .kv .str x21.2.2.1)] (Os := [_, _]) ⟨(rfl : (LS.box b22 K31 x21 :: Ls)[0]? = some (LS.box b22 K31 x21)), (rfl : (LS.box b22 K31 x21 :: Ls)[0]? = some (LS.box b22 K31 x21)), trivial⟩ hE hH (by kernel_rfl) (fun a hE => ?_)
              obtain ⟨r43, hr43, h⟩ := bs h
              refine stepCall (d := (some 70)) (f24_ok hr43) hE hH (NoHole.cons (fun _ _ _ => rfl) hN) (by kernel_rfl) (by kernel_rfl) trivial (fun a w G hl14 hE hH => ?_)
              have hle := Gh.le_trans hle hl14
              refine segO 1 [] [(13, .kv .i r43.1)] (Os := []) trivial hE hH (by kernel_rfl) (fun a hE => ?_)
              refine wpFrom_end (by kernel_rfl) ?_
              refine Exit.then_normal (hK42 _ _ ?_)
              refine wp_seq_k (fun K hK44 => ?_)
              by_cases hc : (r43.1 == 10) = true
              · replace h := ifT hc h
                have c45 := hc
                obtain ⟨r46, hr46, h⟩ := bs h
                by_cases hc : (r46 != r24) = true
                · replace h := ifT hc h
                  have c47 := hc
                  refine region_par 26 [4] [(0, 0), (0, 0), (0, 0), (0, 0), (0, 0), (0, 1), (1, 1), (1, 1), (1, 1), (1, 1), (1, 1), (1, 1), (1, 1), (1, 1), (1, 1), (1, 1), (1, 1), (1, 1), (1, 1), (1, 1), (1, 1), (1, 1), (1, 1), (1, 1), (1, 1), (1, 1)] [.kv .i r43.1, .kv .bool (r43.1 == 10), .kv .bool true, .kv (.ptr 105) r3.1.1, .kv .i r46, .kv .i r24, .kv .bool (r46 != r24), .kv .bool true, .undef, .undef, .undef, .undef, .undef, .kv .bool true, .kv .bool true, .kv .bool true, .undef, .undef, .undef, .undef, .undef, .undef, .undef, .undef, .undef, .undef] (fun _ => tabs r43.2) (fun _ => LS.box b22 K31 x21 :: Ls) (by kernel_rfl) (by kernel_rfl) hE hH
                          ⟨⟨⟨⟨⟨⟨⟨⟨⟨⟨⟨⟨⟨⟨⟨⟨⟨⟨⟨⟨⟨⟨⟨⟨⟨⟨trivial,
                          anyk (fun k => obR [] (Os := []) trivial (by kernel_rfl) (by kernel_rfl))⟩,
                          anyk (fun k => obR [] (Os := []) trivial (by kernel_rfl) (by kernel_rfl))⟩,
                          anyk (fun k => obRe [] (Os := []) trivial (by kernel_rfl) (by kernel_rfl) (eb2 c45 rfl))⟩,
                          anyk (fun k => obR [] (Os := []) trivial (by kernel_rfl) (by kernel_rfl))⟩,
                          one (obC (k := 0) (d := (some 75)) (f20_ok hr46) rfl (NoHole.cons (fun _ _ _ => rfl) hN) (by kernel_rfl) (by kernel_rfl) rfl trivial)⟩,
                          anyk (fun k => obR [] (Os := []) trivial (by kernel_rfl) (by kernel_rfl))⟩,
                          anyk (fun k => obR [] (Os := []) trivial (by kernel_rfl) (by kernel_rfl))⟩,
                          anyk (fun k => obRe [] (Os := []) trivial (by kernel_rfl) (by kernel_rfl) (eb2 c47 rfl))⟩,
                          anyk (fun k => obR [] (Os := []) trivial (by kernel_rfl) (by kernel_rfl))⟩,
                          anyk (fun k => obR [] (Os := []) trivial (by kernel_rfl) (by kernel_rfl))⟩,
                          anyk (fun k => obR [] (Os := []) trivial (by kernel_rfl) (by kernel_rfl))⟩,
                          anyk (fun k => obR [] (Os := []) trivial (by kernel_rfl) (by kernel_rfl))⟩,
                          anyk (fun k => obR [] (Os := []) trivial (by kernel_rfl) (by kernel_rfl))⟩,
                          anyk (fun k => obR [] (Os := []) trivial (by kernel_rfl) (by kernel_rfl))⟩,
                          anyk (fun k => obR [] (Os := []) trivial (by kernel_rfl) (by kernel_rfl))⟩,
                          anyk (fun k => obR [] (Os := []) trivial (by kernel_rfl) (by kernel_rfl))⟩,
                          anyk (fun k => obR [] (Os := []) trivial (by kernel_rfl) (by kernel_rfl))⟩,
                          anyk (fun k => obR [] (Os := []) trivial (by kernel_rfl) (by kernel_rfl))⟩,
                          anyk (fun k => obR [] (Os := []) trivial (by kernel_rfl) (by kernel_rfl))⟩,
                          anyk (fun k => obR [] (Os := []) trivial (by kernel_rfl) (by kernel_rfl))⟩,
                          anyk (fun k => obR [] (Os := []) trivial (by kernel_rfl) (by kernel_rfl))⟩,
                          anyk (fun k => obR [] (Os := []) trivial (by kernel_rfl) (by kernel_rfl))⟩,
                          anyk (fun k => obR [] (Os := []) trivial (by kernel_rfl) (by kernel_rfl))⟩,
                          anyk (fun k => obR [] (Os := []) trivial (by kernel_rfl) (by kernel_rfl))⟩,
                          anyk (fun k => obR [] (Os := []) trivial (by kernel_rfl) (by kernel_rfl))⟩,
                          anyk (fun k => obR [] (Os := []) trivial (by kernel_rfl) (by kernel_rfl))⟩ (fun a w G hl15 hE hH => ?_)
                  have hle := Gh.le_trans hle hl15
                  refine segO 3 [] [(99, .kv .bool true)] (Os := []) trivial hE hH (by kernel_rfl) (fun a hE => ?_)
                  refine wpFrom_end (by kernel_rfl) ?_
                  refine Exit.then_normal (hK44 _ _ ?_)
                  refine condT hE (by kernel_rfl) rfl ?_
                  refine wp_seq_k (fun K hK48 => ?_)
                  refine wp_region_from ?_
                  refine segO 1 [] [(4, .kv .bool false)] (Os := []) trivial hE hH (by kernel_rfl) (fun a hE => ?_)
                  refine wpFrom_end (by kernel_rfl) ?_
                  refine Exit.then_normal (hK48 _ _ ?_)
                  refine wp_ret ?_
                  refine Exit.then_ret ?_
                  refine Exit.in_ret ?_
                  refine Exit.then_ret ?_
                  refine Exit.then_ret ?_
                  have hH := hH.drop (fun _ _ _ => rfl)
                  cases h
                  exact hret15 _ rfl _ _ (ret1 rfl hE hle hH (by kernel_rfl))
                · replace h := ifN hc h
                  have c49 := hc
                  obtain ⟨r50, hr50, h⟩ := bs h
                  by_cases hc : ((r50.length : Int) != (r25.length : Int)) = true
                  · replace h := ifT hc h
                    have c51 := hc
                    refine region_par 26 [4, 9] [(0, 0), (0, 0), (0, 0), (0, 0), (0, 0), (0, 1), (1, 1), (1, 1), (1, 1), (1, 1), (2, 2), (1, 2), (2, 2), (2, 2), (2, 2), (2, 2), (2, 2), (2, 2), (2, 2), (2, 2), (2, 2), (2, 2), (2, 2), (2, 2), (2, 2), (2, 2)] [.kv .i r43.1, .kv .bool (r43.1 == 10), .kv .bool true, .kv (.ptr 105) r3.1.1, .kv .i r46, .kv .i r24, .kv .bool (r46 != r24), .kv .bool false, .kv (.ptr 105) r3.1.1, .kv (.list .str) r50, .kv .i (r50.length : Int), .kv .i (r25.length : Int), .kv .bool ((r50.length : Int) != (r25.length : Int)), .kv .bool ((r50.length : Int) != (r25.length : Int)), .kv .bool ((r50.length : Int) != (r25.length : Int)), .kv .bool true, .undef, .undef, .undef, .undef, .undef, .undef, .undef, .undef, .undef, .undef] (fun _ => tabs r43.2) (fun _ => LS.box b22 K31 x21 :: Ls) (by kernel_rfl) (by kernel_rfl) hE hH
                            ⟨⟨⟨⟨⟨⟨⟨⟨⟨⟨⟨⟨⟨⟨⟨⟨⟨⟨⟨⟨⟨⟨⟨⟨⟨⟨trivial,
                            anyk (fun k => obR [] (Os := []) trivial (by kernel_rfl) (by kernel_rfl))⟩,
                            anyk (fun k => obR [] (Os := []) trivial (by kernel_rfl) (by kernel_rfl))⟩,
                            anyk (fun k => obRe [] (Os := []) trivial (by kernel_rfl) (by kernel_rfl) (eb2 c45 rfl))⟩,
                            anyk (fun k => obR [] (Os := []) trivial (by kernel_rfl) (by kernel_rfl))⟩,
                            one (obC (k := 0) (d := (some 75)) (f20_ok hr46) rfl (NoHole.cons (fun _ _ _ => rfl) hN) (by kernel_rfl) (by kernel_rfl) rfl trivial)⟩,
                            anyk (fun k => obR [] (Os := []) trivial (by kernel_rfl) (by kernel_rfl))⟩,
                            anyk (fun k => obR [] (Os := []) trivial (by kernel_rfl) (by kernel_rfl))⟩,
                            anyk (fun k => obRe [] (Os := []) trivial (by kernel_rfl) (by kernel_rfl) (eb2 (bf c49) rfl))⟩,
                            anyk (fun k => obR [] (Os := []) trivial (by kernel_rfl) (by kernel_rfl))⟩,
                            one (obC (k := 1) (d := (some 80)) (f21_ok hr50) rfl (NoHole.cons (fun _ _ _ => rfl) hN) (by kernel_rfl) (by kernel_rfl) rfl trivial)⟩,
                            anyk (fun k => obR [] (Os := []) trivial (by kernel_rfl) (by kernel_rfl))⟩,
                            anyk (fun k => obR [] (Os := []) trivial (by kernel_rfl) (by kernel_rfl))⟩,
                            anyk (fun k => obR [] (Os := []) trivial (by kernel_rfl) (by kernel_rfl))⟩,
                            anyk (fun k => obR [] (Os := []) trivial (by kernel_rfl) (by kernel_rfl))⟩,
                            anyk (fun k => obR [] (Os := []) trivial (by kernel_rfl) (by kernel_rfl))⟩,
                            anyk (fun k => obRe [] (Os := []) trivial (by kernel_rfl) (by kernel_rfl) (eb2 c51 rfl))⟩,
                            anyk (fun k => obR [] (Os := []) trivial (by kernel_rfl) (by kernel_rfl))⟩,
                            anyk (fun k => obR [] (Os := []) trivial (by kernel_rfl) (by kernel_rfl))⟩,
                            anyk (fun k => obR [] (Os := []) trivial (by kernel_rfl) (by kernel_rfl))⟩,
                            anyk (fun k => obR [] (Os := []) trivial (by kernel_rfl) (by kernel_rfl))⟩,
                            anyk (fun k => obR [] (Os := []) trivial (by kernel_rfl) (by kernel_rfl))⟩,
                            anyk (fun k => obR [] (Os := []) trivial (by kernel_rfl) (by kernel_rfl))⟩,
                            anyk (fun k => obR [] (Os := []) trivial (by kernel_rfl) (by kernel_rfl))⟩,
                            anyk (fun k => obR [] (Os := []) trivial (by kernel_rfl) (by kernel_rfl))⟩,
                            anyk (fun k => obR [] (Os := []) trivial (by kernel_rfl) (by kernel_rfl))⟩,
                            anyk (fun k => obR [] (Os := []) trivial (by kernel_rfl) (by kernel_rfl))⟩ (fun a w G hl16 hE hH => ?_)
                    have hle := Gh.le_trans hle hl16
                    refine segO 3 [] [(99, .kv .bool true)] (Os := []) trivial hE hH (by kernel_rfl) (fun a hE => ?_)
                    refine wpFrom_end (by kernel_rfl) ?_
                    refine Exit.then_normal (hK44 _ _ ?_)
                    refine condT hE (by kernel_rfl) rfl ?_
                    refine wp_seq_k (fun K hK52 => ?_)
                    refine wp_region_from ?_
                    refine segO 1 [] [(4, .kv .bool false)] (Os := []) trivial hE hH (by kernel_rfl) (fun a hE => ?_)
                    refine wpFrom_end (by kernel_rfl) ?_
                    refine Exit.then_normal (hK52 _ _ ?_)
                    refine wp_ret ?_
                    refine Exit.then_ret ?_
                    refine Exit.in_ret ?_
                    refine Exit.then_ret ?_
                    refine Exit.then_ret ?_
                    have hH := hH.drop (fun _ _ _ => rfl)
                    cases h
                    exact hret15 _ rfl _ _ (ret1 rfl hE hle hH (by kernel_rfl))
                  · replace h := ifN hc h
                    have c53 := hc
                    by_cases hc : (r43.1 == 0) = true
                    · replace h := ifT hc h
                      have c54 := hc
                      obtain ⟨r55, hr55, h⟩ := bs h
                      refine region_par 26 [4, 9, 20] [(0, 0), (0, 0), (0, 0), (0, 0), (0, 0), (0, 1), (1, 1), (1, 1), (1, 1), (1, 1), (2, 2), (1, 2), (2, 2), (2, 2), (2, 2), (2, 2), (2, 2), (2, 2), (2, 2), (2, 2), (2, 2), (2, 3), (2, 3), (2, 3), (2, 3), (2, 3)] [.kv .i r43.1, .kv .bool (r43.1 == 10), .kv .bool true, .kv (.ptr 105) r3.1.1, .kv .i r46, .kv .i r24, .kv .bool (r46 != r24), .kv .bool false, .kv (.ptr 105) r3.1.1, .kv (.list .str) r50, .kv .i (r50.length : Int), .kv .i (r25.length : Int), .kv .bool ((r50.length : Int) != (r25.length : Int)), .kv .bool ((r50.length : Int) != (r25.length : Int)), .kv .bool ((r50.length : Int) != (r25.length : Int)), .kv .bool false, .kv .i r43.1, .kv .bool (r43.1 == 0), .kv .bool true, .kv (.ptr 105) r3.1.1, .kv .i r55, .kv .i r24, .val (.pointer (some ⟨b22, 2, none⟩)), .kv .str x21.2.2.1, .kv .i (x21.2.2.1.length : Int), .kv .i (IntKind.wrap .i64 (r24 + (x21.2.2.1.length : Int)))] (fun _ => tabs r43.2) (fun _ => LS.box b22 K31 x21 :: Ls) (by kernel_rfl) (by kernel_rfl) hE hH
                              ⟨⟨⟨⟨⟨⟨⟨⟨⟨⟨⟨⟨⟨⟨⟨⟨⟨⟨⟨⟨⟨⟨⟨⟨⟨⟨trivial,
                              anyk (fun k => obR [] (Os := []) trivial (by kernel_rfl) (by kernel_rfl))⟩,
                              anyk (fun k => obR [] (Os := []) trivial (by kernel_rfl) (by kernel_rfl))⟩,
                              anyk (fun k => obRe [] (Os := []) trivial (by kernel_rfl) (by kernel_rfl) (eb2 c45 rfl))⟩,
                              anyk (fun k => obR [] (Os := []) trivial (by kernel_rfl) (by kernel_rfl))⟩,
                              one (obC (k := 0) (d := (some 75)) (f20_ok hr46) rfl (NoHole.cons (fun _ _ _ => rfl) hN) (by kernel_rfl) (by kernel_rfl) rfl trivial)⟩,
                              anyk (fun k => obR [] (Os := []) trivial (by kernel_rfl) (by kernel_rfl))⟩,
                              anyk (fun k => obR [] (Os := []) trivial (by kernel_rfl) (by kernel_rfl))⟩,
                              anyk (fun k => obRe [] (Os := []) trivial (by kernel_rfl) (by kernel_rfl) (eb2 (bf c49) rfl))⟩,
                              anyk (fun k => obR [] (Os := []) trivial (by kernel_rfl) (by kernel_rfl))⟩,
                              one (obC (k := 1) (d := (some 80)) (f21_ok hr50) rfl (NoHole.cons (fun _ _ _ => rfl) hN) (by kernel_rfl) (by kernel_rfl) rfl trivial)⟩,
                              anyk (fun k => obR [] (Os := []) trivial (by kernel_rfl) (by kernel_rfl))⟩,
                              anyk (fun k => obR [] (Os := []) trivial (by kernel_rfl) (by kernel_rfl))⟩,
                              anyk (fun k => obR [] (Os := []) trivial (by kernel_rfl) (by kernel_rfl))⟩,
                              anyk (fun k => obR [] (Os := []) trivial (by kernel_rfl) (by kernel_rfl))⟩,
                              anyk (fun k => obR [] (Os := []) trivial (by kernel_rfl) (by kernel_rfl))⟩,
                              anyk (fun k => obRe [] (Os := []) trivial (by kernel_rfl) (by kernel_rfl) (eb2 (bf c53) rfl))⟩,
                              anyk (fun k => obR [] (Os := []) trivial (by kernel_rfl) (by kernel_rfl))⟩,
                              anyk (fun k => obR [] (Os := []) trivial (by kernel_rfl) (by kernel_rfl))⟩,
                              anyk (fun k => obRe [] (Os := []) trivial (by kernel_rfl) (by kernel_rfl) (eb2 c54 rfl))⟩,
                              anyk (fun k => obR [] (Os := []) trivial (by kernel_rfl) (by kernel_rfl))⟩,
                              one (obC (k := 2) (d := (some 91)) (f20_ok hr55) rfl (NoHole.cons (fun _ _ _ => rfl) hN) (by kernel_rfl) (by kernel_rfl) rfl trivial)⟩,
                              anyk (fun k => obR [] (Os := []) trivial (by kernel_rfl) (by kernel_rfl))⟩,
                              anyk (fun k => obR [] (Os := []) trivial (by kernel_rfl) (by kernel_rfl))⟩,
                              anyk (fun k => obR [.bx 0 K31 x21] (Os := [_]) ⟨(rfl : (LS.box b22 K31 x21 :: Ls)[0]? = some (LS.box b22 K31 x21)), trivial⟩ (by kernel_rfl) (by kernel_rfl))⟩,
                              anyk (fun k => obR [] (Os := []) trivial (by kernel_rfl) (by kernel_rfl))⟩,
                              anyk (fun k => obR [] (Os := []) trivial (by kernel_rfl) (by kernel_rfl))⟩ (fun a w G hl17 hE hH => ?_)
                      have hle := Gh.le_trans hle hl17
                      refine segO 3 [] [(99, .kv .bool (r55 != (IntKind.wrap .i64 (r24 + (x21.2.2.1.length : Int)))))] (Os := []) trivial hE hH (by kernel_rfl) (fun a hE => ?_)
                      refine wpFrom_end (by kernel_rfl) ?_
                      refine Exit.then_normal (hK44 _ _ ?_)
                      refine condE (b := r55 != (IntKind.wrap .i64 (r24 + (x21.2.2.1.length : Int)))) hE (by kernel_rfl) (fun hc => ?_) (fun hc => ?_)
                      · replace h := ifT hc h
                        refine wp_seq_k (fun K hK56 => ?_)
                        refine wp_region_from ?_
                        refine segO 1 [] [(4, .kv .bool false)] (Os := []) trivial hE hH (by kernel_rfl) (fun a hE => ?_)
                        refine wpFrom_end (by kernel_rfl) ?_
                        refine Exit.then_normal (hK56 _ _ ?_)
                        refine wp_ret ?_
                        refine Exit.then_ret ?_
                        refine Exit.in_ret ?_
                        refine Exit.then_ret ?_
                        refine Exit.then_ret ?_
                        have hH := hH.drop (fun _ _ _ => rfl)
                        cases h
                        exact hret15 _ rfl _ _ (ret1 rfl hE hle hH (by kernel_rfl))
                      · replace h := ifF hc h
                        refine wp_skip ?_
                        refine Exit.then_normal (hK28 _ _ ?_)
                        refine wp_seq_k (fun K hK57 => ?_)
                        refine wp_region_from ?_
                        refine segO 1 [] [(100, .kv (.ptr 105) r3.1.1)] (Os := []) trivial hE hH (by kernel_rfl) (fun a hE => ?_)
                        obtain ⟨r58, hr58, h⟩ := bs h
                        refine stepCall (d := (some 101)) (f20_ok hr58) hE hH (NoHole.cons (fun _ _ _ => rfl) hN) (by kernel_rfl) (by kernel_rfl) trivial (fun a w G hl18 hE hH => ?_)
                        have hle := Gh.le_trans hle hl18
                        refine segO 4 [] [(105, .kv .bool (decide (r58 > (IntKind.wrap .i64 (p0)))))] (Os := []) trivial hE hH (by kernel_rfl) (fun a hE => ?_)
                        by_cases hc : (decide (r58 > (IntKind.wrap .i64 (p0)))) = true
                        · replace h := ifT hc h
                          have hE := hE.setB 105 (by kernel_rfl) hc
                          refine segO 5 [] [(110, .kv .bool true)] (Os := []) trivial hE hH (by kernel_rfl) (fun a hE => ?_)
                          refine wpFrom_end (by kernel_rfl) ?_
                          refine Exit.then_normal (hK57 _ _ ?_)
                          refine condT hE (by kernel_rfl) rfl ?_
                          refine wp_seq_k (fun K hK59 => ?_)
                          refine wp_region_from ?_
                          refine segO 1 [] [(4, .kv .bool false)] (Os := []) trivial hE hH (by kernel_rfl) (fun a hE => ?_)
                          refine wpFrom_end (by kernel_rfl) ?_
                          refine Exit.then_normal (hK59 _ _ ?_)
                          refine wp_ret ?_
                          refine Exit.in_ret ?_
                          refine Exit.then_ret ?_
                          refine Exit.then_ret ?_
                          have hH := hH.drop (fun _ _ _ => rfl)
                          cases h
                          exact hret15 _ rfl _ _ (ret1 rfl hE hle hH (by kernel_rfl))
                        · replace h := ifN hc h
                          have hE := hE.setB 105 (by kernel_rfl) (bf hc)
                          refine segO 1 [] [(106, .kv (.ptr 105) r3.1.1)] (Os := []) trivial hE hH (by kernel_rfl) (fun a hE => ?_)
                          obtain ⟨r60, hr60, h⟩ := bs h
                          refine stepCall (d := (some 107)) (f21_ok hr60) hE hH (NoHole.cons (fun _ _ _ => rfl) hN) (by kernel_rfl) (by kernel_rfl) trivial (fun a w G hl19 hE hH => ?_)
                          have hle := Gh.le_trans hle hl19
                          refine segO 3 [] [(110, .kv .bool (decide ((r60.length : Int) > 128)))] (Os := []) trivial hE hH (by kernel_rfl) (fun a hE => ?_)
                          refine wpFrom_end (by kernel_rfl) ?_
                          refine Exit.then_normal (hK57 _ _ ?_)
                          refine condE (b := decide ((r60.length : Int) > 128)) hE (by kernel_rfl) (fun hc => ?_) (fun hc => ?_)
                          · replace h := ifT hc h
                            refine wp_seq_k (fun K hK61 => ?_)
                            refine wp_region_from ?_
                            refine segO 1 [] [(4, .kv .bool false)] (Os := []) trivial hE hH (by kernel_rfl) (fun a hE => ?_)
                            refine wpFrom_end (by kernel_rfl) ?_
                            refine Exit.then_normal (hK61 _ _ ?_)
                            refine wp_ret ?_
                            refine Exit.in_ret ?_
                            refine Exit.then_ret ?_
                            refine Exit.then_ret ?_
                            have hH := hH.drop (fun _ _ _ => rfl)
                            cases h
                            exact hret15 _ rfl _ _ (ret1 rfl hE hle hH (by kernel_rfl))
                          · replace h := ifF hc h
                            refine wp_skip ?_
                            refine Exit.in_normal ?_
                            refine Exit.then_normal (hK19 _ _ ?_)
                            refine wp_region_from ?_
                            refine segO 3 [] [(7, .kv .i (IntKind.wrap .i64 (x11 + 1)))] (Os := []) trivial hE hH (by kernel_rfl) (fun a hE => ?_)
                            refine wpFrom_end (by kernel_rfl) ?_
                            have hH := hH.drop (fun _ _ _ => rfl)
                            refine Exit.then_normal ?_
                            exact ih16 _ _ _ h _ _ _  hle (hE.subC (by kernel_rfl)) hH hx14 hret15
                    · replace h := ifN hc h
                      have c62 := hc
                      refine region_par 26 [4, 9] [(0, 0), (0, 0), (0, 0), (0, 0), (0, 0), (0, 1), (1, 1), (1, 1), (1, 1), (1, 1), (2, 2), (1, 2), (2, 2), (2, 2), (2, 2), (2, 2), (2, 2), (2, 2), (2, 2), (2, 2), (2, 2), (2, 2), (2, 2), (2, 2), (2, 2), (2, 2)] [.kv .i r43.1, .kv .bool (r43.1 == 10), .kv .bool true, .kv (.ptr 105) r3.1.1, .kv .i r46, .kv .i r24, .kv .bool (r46 != r24), .kv .bool false, .kv (.ptr 105) r3.1.1, .kv (.list .str) r50, .kv .i (r50.length : Int), .kv .i (r25.length : Int), .kv .bool ((r50.length : Int) != (r25.length : Int)), .kv .bool ((r50.length : Int) != (r25.length : Int)), .kv .bool ((r50.length : Int) != (r25.length : Int)), .kv .bool false, .kv .i r43.1, .kv .bool (r43.1 == 0), .kv .bool false, .undef, .undef, .undef, .undef, .undef, .undef, .undef] (fun _ => tabs r43.2) (fun _ => LS.box b22 K31 x21 :: Ls) (by kernel_rfl) (by kernel_rfl) hE hH
                              ⟨⟨⟨⟨⟨⟨⟨⟨⟨⟨⟨⟨⟨⟨⟨⟨⟨⟨⟨⟨⟨⟨⟨⟨⟨⟨trivial,
                              anyk (fun k => obR [] (Os := []) trivial (by kernel_rfl) (by kernel_rfl))⟩,
                              anyk (fun k => obR [] (Os := []) trivial (by kernel_rfl) (by kernel_rfl))⟩,
                              anyk (fun k => obRe [] (Os := []) trivial (by kernel_rfl) (by kernel_rfl) (eb2 c45 rfl))⟩,
                              anyk (fun k => obR [] (Os := []) trivial (by kernel_rfl) (by kernel_rfl))⟩,
                              one (obC (k := 0) (d := (some 75)) (f20_ok hr46) rfl (NoHole.cons (fun _ _ _ => rfl) hN) (by kernel_rfl) (by kernel_rfl) rfl trivial)⟩,
                              anyk (fun k => obR [] (Os := []) trivial (by kernel_rfl) (by kernel_rfl))⟩,
                              anyk (fun k => obR [] (Os := []) trivial (by kernel_rfl) (by kernel_rfl))⟩,
                              anyk (fun k => obRe [] (Os := []) trivial (by kernel_rfl) (by kernel_rfl) (eb2 (bf c49) rfl))⟩,
                              anyk (fun k => obR [] (Os := []) trivial (by kernel_rfl) (by kernel_rfl))⟩,
                              one (obC (k := 1) (d := (some 80)) (f21_ok hr50) rfl (NoHole.cons (fun _ _ _ => rfl) hN) (by kernel_rfl) (by kernel_rfl) rfl trivial)⟩,
                              anyk (fun k => obR [] (Os := []) trivial (by kernel_rfl) (by kernel_rfl))⟩,
                              anyk (fun k => obR [] (Os := []) trivial (by kernel_rfl) (by kernel_rfl))⟩,
                              anyk (fun k => obR [] (Os := []) trivial (by kernel_rfl) (by kernel_rfl))⟩,
                              anyk (fun k => obR [] (Os := []) trivial (by kernel_rfl) (by kernel_rfl))⟩,
                              anyk (fun k => obR [] (Os := []) trivial (by kernel_rfl) (by kernel_rfl))⟩,
                              anyk (fun k => obRe [] (Os := []) trivial (by kernel_rfl) (by kernel_rfl) (eb2 (bf c53) rfl))⟩,
                              anyk (fun k => obR [] (Os := []) trivial (by kernel_rfl) (by kernel_rfl))⟩,
                              anyk (fun k => obR [] (Os := []) trivial (by kernel_rfl) (by kernel_rfl))⟩,
                              anyk (fun k => obRe [] (Os := []) trivial (by kernel_rfl) (by kernel_rfl) (eb2 (bf c62) rfl))⟩,
                              anyk (fun k => obR [] (Os := []) trivial (by kernel_rfl) (by kernel_rfl))⟩,
                              anyk (fun k => obR [] (Os := []) trivial (by kernel_rfl) (by kernel_rfl))⟩,
                              anyk (fun k => obR [] (Os := []) trivial (by kernel_rfl) (by kernel_rfl))⟩,
                              anyk (fun k => obR [] (Os := []) trivial (by kernel_rfl) (by kernel_rfl))⟩,
                              anyk (fun k => obR [] (Os := []) trivial (by kernel_rfl) (by kernel_rfl))⟩,
                              anyk (fun k => obR [] (Os := []) trivial (by kernel_rfl) (by kernel_rfl))⟩,
                              anyk (fun k => obR [] (Os := []) trivial (by kernel_rfl) (by kernel_rfl))⟩ (fun a w G hl20 hE hH => ?_)
                      have hle := Gh.le_trans hle hl20
                      refine segO 3 [] [(99, .kv .bool false)] (Os := []) trivial hE hH (by kernel_rfl) (fun a hE => ?_)
                      refine wpFrom_end (by kernel_rfl) ?_
                      refine Exit.then_normal (hK44 _ _ ?_)
                      refine condF hE (by kernel_rfl) rfl ?_
                      refine wp_skip ?_
                      refine Exit.then_normal (hK28 _ _ ?_)
                      refine wp_seq_k (fun K hK63 => ?_)
                      refine wp_region_from ?_
                      refine segO 1 [] [(100, .kv (.ptr 105) r3.1.1)] (Os := []) trivial hE hH (by kernel_rfl) (fun a hE => ?_)
                      obtain ⟨r64, hr64, h⟩ := bs h
                      refine stepCall (d := (some 101)) (f20_ok hr64) hE hH (NoHole.cons (fun _ _ _ => rfl) hN) (by kernel_rfl) (by kernel_rfl) trivial (fun a w G hl21 hE hH => ?_)
                      have hle := Gh.le_trans hle hl21
                      refine segO 4 [] [(105, .kv .bool (decide (r64 > (IntKind.wrap .i64 (p0)))))] (Os := []) trivial hE hH (by kernel_rfl) (fun a hE => ?_)
                      by_cases hc : (decide (r64 > (IntKind.wrap .i64 (p0)))) = true
                      · replace h := ifT hc h
                        have hE := hE.setB 105 (by kernel_rfl) hc
                        refine segO 5 [] [(110, .kv .bool true)] (Os := []) trivial hE hH (by kernel_rfl) (fun a hE => ?_)
                        refine wpFrom_end (by kernel_rfl) ?_
                        refine Exit.then_normal (hK63 _ _ ?_)
                        refine condT hE (by kernel_rfl) rfl ?_
                        refine wp_seq_k (fun K hK65 => ?_)
                        refine wp_region_from ?_
                        refine segO 1 [] [(4, .kv .bool false)] (Os := []) trivial hE hH (by kernel_rfl) (fun a hE => ?_)
                        refine wpFrom_end (by kernel_rfl) ?_
                        refine Exit.then_normal (hK65 _ _ ?_)
                        refine wp_ret ?_
                        refine Exit.in_ret ?_
                        refine Exit.then_ret ?_
                        refine Exit.then_ret ?_
                        have hH := hH.drop (fun _ _ _ => rfl)
                        cases h
                        exact hret15 _ rfl _ _ (ret1 rfl hE hle hH (by kernel_rfl))
                      · replace h := ifN hc h
                        have hE := hE.setB 105 (by kernel_rfl) (bf hc)
                        refine segO 1 [] [(106, .kv (.ptr 105) r3.1.1)] (Os := []) trivial hE hH (by kernel_rfl) (fun a hE => ?_)
                        obtain ⟨r66, hr66, h⟩ := bs h
                        refine stepCall (d := (some 107)) (f21_ok hr66) hE hH (NoHole.cons (fun _ _ _ => rfl) hN) (by kernel_rfl) (by kernel_rfl) trivial (fun a w G hl22 hE hH => ?_)
                        have hle := Gh.le_trans hle hl22
                        refine segO 3 [] [(110, .kv .bool (decide ((r66.length : Int) > 128)))] (Os := []) trivial hE hH (by kernel_rfl) (fun a hE => ?_)
                        refine wpFrom_end (by kernel_rfl) ?_
                        refine Exit.then_normal (hK63 _ _ ?_)
                        refine condE (b := decide ((r66.length : Int) > 128)) hE (by kernel_rfl) (fun hc => ?_) (fun hc => ?_)
                        · replace h := ifT hc h
                          refine wp_seq_k (fun K hK67 => ?_)
                          refine wp_region_from ?_
                          refine segO 1 [] [(4, .kv .bool false)] (Os := []) trivial hE hH (by kernel_rfl) (fun a hE => ?_)
                          refine wpFrom_end (by kernel_rfl) ?_
                          refine Exit.then_normal (hK67 _ _ ?_)
                          refine wp_ret ?_
                          refine Exit.in_ret ?_
                          refine Exit.then_ret ?_
                          refine Exit.then_ret ?_
                          have hH := hH.drop (fun _ _ _ => rfl)
                          cases h
                          exact hret15 _ rfl _ _ (ret1 rfl hE hle hH (by kernel_rfl))
                        · replace h := ifF hc h
                          refine wp_skip ?_
                          refine Exit.in_normal ?_
                          refine Exit.then_normal (hK19 _ _ ?_)
                          refine wp_region_from ?_
                          refine segO 3 [] [(7, .kv .i (IntKind.wrap .i64 (x11 + 1)))] (Os := []) trivial hE hH (by kernel_rfl) (fun a hE => ?_)
                          refine wpFrom_end (by kernel_rfl) ?_
                          have hH := hH.drop (fun _ _ _ => rfl)
                          refine Exit.then_normal ?_
                          exact ih16 _ _ _ h _ _ _  hle (hE.subC (by kernel_rfl)) hH hx14 hret15
              · replace h := ifN hc h
                have c68 := hc
                by_cases hc : (r43.1 == 0) = true
                · replace h := ifT hc h
                  have c69 := hc
                  obtain ⟨r70, hr70, h⟩ := bs h
                  refine region_par 26 [20] [(0, 0), (0, 0), (0, 0), (0, 0), (0, 0), (0, 0), (0, 0), (0, 0), (0, 0), (0, 0), (0, 0), (0, 0), (0, 0), (0, 0), (0, 0), (0, 0), (0, 0), (0, 0), (0, 0), (0, 0), (0, 0), (0, 1), (0, 1), (0, 1), (0, 1), (0, 1)] [.kv .i r43.1, .kv .bool (r43.1 == 10), .kv .bool false, .undef, .undef, .undef, .undef, .undef, .undef, .undef, .undef, .undef, .undef, .undef, .kv .bool false, .kv .bool false, .kv .i r43.1, .kv .bool (r43.1 == 0), .kv .bool true, .kv (.ptr 105) r3.1.1, .kv .i r70, .kv .i r24, .val (.pointer (some ⟨b22, 2, none⟩)), .kv .str x21.2.2.1, .kv .i (x21.2.2.1.length : Int), .kv .i (IntKind.wrap .i64 (r24 + (x21.2.2.1.length : Int)))] (fun _ => tabs r43.2) (fun _ => LS.box b22 K31 x21 :: Ls) (by kernel_rfl) (by kernel_rfl) hE hH
                          ⟨⟨⟨⟨⟨⟨⟨⟨⟨⟨⟨⟨⟨⟨⟨⟨⟨⟨⟨⟨⟨⟨⟨⟨⟨⟨trivial,
                          anyk (fun k => obR [] (Os := []) trivial (by kernel_rfl) (by kernel_rfl))⟩,
                          anyk (fun k => obR [] (Os := []) trivial (by kernel_rfl) (by kernel_rfl))⟩,
                          anyk (fun k => obRe [] (Os := []) trivial (by kernel_rfl) (by kernel_rfl) (eb2 (bf c68) rfl))⟩,
                          anyk (fun k => obR [] (Os := []) trivial (by kernel_rfl) (by kernel_rfl))⟩,
                          anyk (fun k => obR [] (Os := []) trivial (by kernel_rfl) (by kernel_rfl))⟩,
                          anyk (fun k => obR [] (Os := []) trivial (by kernel_rfl) (by kernel_rfl))⟩,
                          anyk (fun k => obR [] (Os := []) trivial (by kernel_rfl) (by kernel_rfl))⟩,
                          anyk (fun k => obR [] (Os := []) trivial (by kernel_rfl) (by kernel_rfl))⟩,
                          anyk (fun k => obR [] (Os := []) trivial (by kernel_rfl) (by kernel_rfl))⟩,
                          anyk (fun k => obR [] (Os := []) trivial (by kernel_rfl) (by kernel_rfl))⟩,
                          anyk (fun k => obR [] (Os := []) trivial (by kernel_rfl) (by kernel_rfl))⟩,
                          anyk (fun k => obR [] (Os := []) trivial (by kernel_rfl) (by kernel_rfl))⟩,
                          anyk (fun k => obR [] (Os := []) trivial (by kernel_rfl) (by kernel_rfl))⟩,
                          anyk (fun k => obR [] (Os := []) trivial (by kernel_rfl) (by kernel_rfl))⟩,
                          anyk (fun k => obR [] (Os := []) trivial (by kernel_rfl) (by kernel_rfl))⟩,
                          anyk (fun k => obR [] (Os := []) trivial (by kernel_rfl) (by kernel_rfl))⟩,
                          anyk (fun k => obR [] (Os := []) trivial (by kernel_rfl) (by kernel_rfl))⟩,
                          anyk (fun k => obR [] (Os := []) trivial (by kernel_rfl) (by kernel_rfl))⟩,
                          anyk (fun k => obRe [] (Os := []) trivial (by kernel_rfl) (by kernel_rfl) (eb2 c69 rfl))⟩,
                          anyk (fun k => obR [] (Os := []) trivial (by kernel_rfl) (by kernel_rfl))⟩,
                          one (obC (k := 0) (d := (some 91)) (f20_ok hr70) rfl (NoHole.cons (fun _ _ _ => rfl) hN) (by kernel_rfl) (by kernel_rfl) rfl trivial)⟩,
                          anyk (fun k => obR [] (Os := []) trivial (by kernel_rfl) (by kernel_rfl))⟩,
                          anyk (fun k => obR [] (Os := []) trivial (by kernel_rfl) (by kernel_rfl))⟩,
                          anyk (fun k => obR [.bx 0 K31 x21] (Os := [_]) ⟨(rfl : (LS.box b22 K31 x21 :: Ls)[0]? = some (LS.box b22 K31 x21)), trivial⟩ (by kernel_rfl) (by kernel_rfl))⟩,
                          anyk (fun k => obR [] (Os := []) trivial (by kernel_rfl) (by kernel_rfl))⟩,
                          anyk (fun k => obR [] (Os := []) trivial (by kernel_rfl) (by kernel_rfl))⟩ (fun a w G hl23 hE hH => ?_)
                  have hle := Gh.le_trans hle hl23
                  refine segO 3 [] [(99, .kv .bool (r70 != (IntKind.wrap .i64 (r24 + (x21.2.2.1.length : Int)))))] (Os := []) trivial hE hH (by kernel_rfl) (fun a hE => ?_)
                  refine wpFrom_end (by kernel_rfl) ?_
                  refine Exit.then_normal (hK44 _ _ ?_)
                  refine condE (b := r70 != (IntKind.wrap .i64 (r24 + (x21.2.2.1.length : Int)))) hE (by kernel_rfl) (fun hc => ?_) (fun hc => ?_)
                  · replace h := ifT hc h
                    refine wp_seq_k (fun K hK71 => ?_)
                    refine wp_region_from ?_
                    refine segO 1 [] [(4, .kv .bool false)] (Os := []) trivial hE hH (by kernel_rfl) (fun a hE => ?_)
                    refine wpFrom_end (by kernel_rfl) ?_
                    refine Exit.then_normal (hK71 _ _ ?_)
                    refine wp_ret ?_
                    refine Exit.then_ret ?_
                    refine Exit.in_ret ?_
                    refine Exit.then_ret ?_
                    refine Exit.then_ret ?_
                    have hH := hH.drop (fun _ _ _ => rfl)
                    cases h
                    exact hret15 _ rfl _ _ (ret1 rfl hE hle hH (by kernel_rfl))
                  · replace h := ifF hc h
                    refine wp_skip ?_
                    refine Exit.then_normal (hK28 _ _ ?_)
                    refine wp_seq_k (fun K hK72 => ?_)
                    refine wp_region_from ?_
                    refine segO 1 [] [(100, .kv (.ptr 105) r3.1.1)] (Os := []) trivial hE hH (by kernel_rfl) (fun a hE => ?_)
                    obtain ⟨r73, hr73, h⟩ := bs h
                    refine stepCall (d := (some 101)) (f20_ok hr73) hE hH (NoHole.cons (fun _ _ _ => rfl) hN) (by kernel_rfl) (by kernel_rfl) trivial (fun a w G hl24 hE hH => ?_)
                    have hle := Gh.le_trans hle hl24
                    refine segO 4 [] [(105, .kv .bool (decide (r73 > (IntKind.wrap .i64 (p0)))))] (Os := []) trivial hE hH (by kernel_rfl) (fun a hE => ?_)
                    by_cases hc : (decide (r73 > (IntKind.wrap .i64 (p0)))) = true
                    · replace h := ifT hc h
                      have hE := hE.setB 105 (by kernel_rfl) hc
                      refine segO 5 [] [(110, .kv .bool true)] (Os := []) trivial hE hH (by kernel_rfl) (fun a hE => ?_)
                      refine wpFrom_end (by kernel_rfl) ?_
                      refine Exit.then_normal (hK72 _ _ ?_)
                      refine condT hE (by kernel_rfl) rfl ?_
                      refine wp_seq_k (fun K hK74 => ?_)
                      refine wp_region_from ?_
                      refine segO 1 [] [(4, .kv .bool false)] (Os := []) trivial hE hH (by kernel_rfl) (fun a hE => ?_)
                      refine wpFrom_end (by kernel_rfl) ?_
                      refine Exit.then_normal (hK74 _ _ ?_)
                      refine wp_ret ?_
                      refine Exit.in_ret ?_
                      refine Exit.then_ret ?_
                      refine Exit.then_ret ?_
                      have hH := hH.drop (fun _ _ _ => rfl)
                      cases h
                      exact hret15 _ rfl _ _ (ret1 rfl hE hle hH (by kernel_rfl))
                    · replace h := ifN hc h
                      have hE := hE.setB 105 (by kernel_rfl) (bf hc)
                      refine segO 1 [] [(106, .kv (.ptr 105) r3.1.1)] (Os := []) trivial hE hH (by kernel_rfl) (fun a hE => ?_)
                      obtain ⟨r75, hr75, h⟩ := bs h
                      refine stepCall (d := (some 107)) (f21_ok hr75) hE hH (NoHole.cons (fun _ _ _ => rfl) hN) (by kernel_rfl) (by kernel_rfl) trivial (fun a w G hl25 hE hH => ?_)
                      have hle := Gh.le_trans hle hl25
                      refine segO 3 [] [(110, .kv .bool (decide ((r75.length : Int) > 128)))] (Os := []) trivial hE hH (by kernel_rfl) (fun a hE => ?_)
                      refine wpFrom_end (by kernel_rfl) ?_
                      refine Exit.then_normal (hK72 _ _ ?_)
                      refine condE (b := decide ((r75.length : Int) > 128)) hE (by kernel_rfl) (fun hc => ?_) (fun hc => ?_)
                      · replace h := ifT hc h
                        refine wp_seq_k (fun K hK76 => ?_)
                        refine wp_region_from ?_
                        refine segO 1 [] [(4, .kv .bool false)] (Os := []) trivial hE hH (by kernel_rfl) (fun a hE => ?_)
                        refine wpFrom_end (by kernel_rfl) ?_
                        refine Exit.then_normal (hK76 _ _ ?_)
                        refine wp_ret ?_
                        refine Exit.in_ret ?_
                        refine Exit.then_ret ?_
                        refine Exit.then_ret ?_
                        have hH := hH.drop (fun _ _ _ => rfl)
                        cases h
                        exact hret15 _ rfl _ _ (ret1 rfl hE hle hH (by kernel_rfl))
                      · replace h := ifF hc h
                        refine wp_skip ?_
                        refine Exit.in_normal ?_
                        refine Exit.then_normal (hK19 _ _ ?_)
                        refine wp_region_from ?_
                        refine segO 3 [] [(7, .kv .i (IntKind.wrap .i64 (x11 + 1)))] (Os := []) trivial hE hH (by kernel_rfl) (fun a hE => ?_)
                        refine wpFrom_end (by kernel_rfl) ?_
                        have hH := hH.drop (fun _ _ _ => rfl)
                        refine Exit.then_normal ?_
                        exact ih16 _ _ _ h _ _ _  hle (hE.subC (by kernel_rfl)) hH hx14 hret15
                · replace h := ifN hc h
                  have c77 := hc
                  refine region_par 26 [] [(0, 0), (0, 0), (0, 0), (0, 0), (0, 0), (0, 0), (0, 0), (0, 0), (0, 0), (0, 0), (0, 0), (0, 0), (0, 0), (0, 0), (0, 0), (0, 0), (0, 0), (0, 0), (0, 0), (0, 0), (0, 0), (0, 0), (0, 0), (0, 0), (0, 0), (0, 0)] [.kv .i r43.1, .kv .bool (r43.1 == 10), .kv .bool false, .undef, .undef, .undef, .undef, .undef, .undef, .undef, .undef, .undef, .undef, .undef, .kv .bool false, .kv .bool false, .kv .i r43.1, .kv .bool (r43.1 == 0), .kv .bool false, .undef, .undef, .undef, .undef, .undef, .undef, .undef] (fun _ => tabs r43.2) (fun _ => LS.box b22 K31 x21 :: Ls) (by kernel_rfl) (by kernel_rfl) hE hH
                          ⟨⟨⟨⟨⟨⟨⟨⟨⟨⟨⟨⟨⟨⟨⟨⟨⟨⟨⟨⟨⟨⟨⟨⟨⟨⟨trivial,
                          anyk (fun k => obR [] (Os := []) trivial (by kernel_rfl) (by kernel_rfl))⟩,
                          anyk (fun k => obR [] (Os := []) trivial (by kernel_rfl) (by kernel_rfl))⟩,
                          anyk (fun k => obRe [] (Os := []) trivial (by kernel_rfl) (by kernel_rfl) (eb2 (bf c68) rfl))⟩,
                          anyk (fun k => obR [] (Os := []) trivial (by kernel_rfl) (by kernel_rfl))⟩,
                          anyk (fun k => obR [] (Os := []) trivial (by kernel_rfl) (by kernel_rfl))⟩,
                          anyk (fun k => obR [] (Os := []) trivial (by kernel_rfl) (by kernel_rfl))⟩,
                          anyk (fun k => obR [] (Os := []) trivial (by kernel_rfl) (by kernel_rfl))⟩,
                          anyk (fun k => obR [] (Os := []) trivial (by kernel_rfl) (by kernel_rfl))⟩,
                          anyk (fun k => obR [] (Os := []) trivial (by kernel_rfl) (by kernel_rfl))⟩,
                          anyk (fun k => obR [] (Os := []) trivial (by kernel_rfl) (by kernel_rfl))⟩,
                          anyk (fun k => obR [] (Os := []) trivial (by kernel_rfl) (by kernel_rfl))⟩,
                          anyk (fun k => obR [] (Os := []) trivial (by kernel_rfl) (by kernel_rfl))⟩,
                          anyk (fun k => obR [] (Os := []) trivial (by kernel_rfl) (by kernel_rfl))⟩,
                          anyk (fun k => obR [] (Os := []) trivial (by kernel_rfl) (by kernel_rfl))⟩,
                          anyk (fun k => obR [] (Os := []) trivial (by kernel_rfl) (by kernel_rfl))⟩,
                          anyk (fun k => obR [] (Os := []) trivial (by kernel_rfl) (by kernel_rfl))⟩,
                          anyk (fun k => obR [] (Os := []) trivial (by kernel_rfl) (by kernel_rfl))⟩,
                          anyk (fun k => obR [] (Os := []) trivial (by kernel_rfl) (by kernel_rfl))⟩,
                          anyk (fun k => obRe [] (Os := []) trivial (by kernel_rfl) (by kernel_rfl) (eb2 (bf c77) rfl))⟩,
                          anyk (fun k => obR [] (Os := []) trivial (by kernel_rfl) (by kernel_rfl))⟩,
                          anyk (fun k => obR [] (Os := []) trivial (by kernel_rfl) (by kernel_rfl))⟩,
                          anyk (fun k => obR [] (Os := []) trivial (by kernel_rfl) (by kernel_rfl))⟩,
                          anyk (fun k => obR [] (Os := []) trivial (by kernel_rfl) (by kernel_rfl))⟩,
                          anyk (fun k => obR [] (Os := []) trivial (by kernel_rfl) (by kernel_rfl))⟩,
                          anyk (fun k => obR [] (Os := []) trivial (by kernel_rfl) (by kernel_rfl))⟩,
                          anyk (fun k => obR [] (Os := []) trivial (by kernel_rfl) (by kernel_rfl))⟩ (fun a w G hl26 hE hH => ?_)
                  have hle := Gh.le_trans hle hl26
                  refine segO 3 [] [(99, .kv .bool false)] (Os := []) trivial hE hH (by kernel_rfl) (fun a hE => ?_)
                  refine wpFrom_end (by kernel_rfl) ?_
                  refine Exit.then_normal (hK44 _ _ ?_)
                  refine condF hE (by kernel_rfl) rfl ?_
                  refine wp_skip ?_
                  refine Exit.then_normal (hK28 _ _ ?_)
                  refine wp_seq_k (fun K hK78 => ?_)
                  refine wp_region_from ?_
                  refine segO 1 [] [(100, .kv (.ptr 105) r3.1.1)] (Os := []) trivial hE hH (by kernel_rfl) (fun a hE => ?_)
                  obtain ⟨r79, hr79, h⟩ := bs h
                  refine stepCall (d := (some 101)) (f20_ok hr79) hE hH (NoHole.cons (fun _ _ _ => rfl) hN) (by kernel_rfl) (by kernel_rfl) trivial (fun a w G hl27 hE hH => ?_)
                  have hle := Gh.le_trans hle hl27
                  refine segO 4 [] [(105, .kv .bool (decide (r79 > (IntKind.wrap .i64 (p0)))))] (Os := []) trivial hE hH (by kernel_rfl) (fun a hE => ?_)
                  by_cases hc : (decide (r79 > (IntKind.wrap .i64 (p0)))) = true
                  · replace h := ifT hc h
                    have hE := hE.setB 105 (by kernel_rfl) hc
                    refine segO 5 [] [(110, .kv .bool true)] (Os := []) trivial hE hH (by kernel_rfl) (fun a hE => ?_)
                    refine wpFrom_end (by kernel_rfl) ?_
                    refine Exit.then_normal (hK78 _ _ ?_)
                    refine condT hE (by kernel_rfl) rfl ?_
                    refine wp_seq_k (fun K hK80 => ?_)
                    refine wp_region_from ?_
                    refine segO 1 [] [(4, .kv .bool false)] (Os := []) trivial hE hH (by kernel_rfl) (fun a hE => ?_)
                    refine wpFrom_end (by kernel_rfl) ?_
                    refine Exit.then_normal (hK80 _ _ ?_)
                    refine wp_ret ?_
                    refine Exit.in_ret ?_
                    refine Exit.then_ret ?_
                    refine Exit.then_ret ?_
                    have hH := hH.drop (fun _ _ _ => rfl)
                    cases h
                    exact hret15 _ rfl _ _ (ret1 rfl hE hle hH (by kernel_rfl))
                  · replace h := ifN hc h
                    have hE := hE.setB 105 (by kernel_rfl) (bf hc)
                    refine segO 1 [] [(106, .kv (.ptr 105) r3.1.1)] (Os := []) trivial hE hH (by kernel_rfl) (fun a hE => ?_)
                    obtain ⟨r81, hr81, h⟩ := bs h
                    refine stepCall (d := (some 107)) (f21_ok hr81) hE hH (NoHole.cons (fun _ _ _ => rfl) hN) (by kernel_rfl) (by kernel_rfl) trivial (fun a w G hl28 hE hH => ?_)
                    have hle := Gh.le_trans hle hl28
                    refine segO 3 [] [(110, .kv .bool (decide ((r81.length : Int) > 128)))] (Os := []) trivial hE hH (by kernel_rfl) (fun a hE => ?_)
                    refine wpFrom_end (by kernel_rfl) ?_
                    refine Exit.then_normal (hK78 _ _ ?_)
                    refine condE (b := decide ((r81.length : Int) > 128)) hE (by kernel_rfl) (fun hc => ?_) (fun hc => ?_)
                    · replace h := ifT hc h
                      refine wp_seq_k (fun K hK82 => ?_)
                      refine wp_region_from ?_
                      refine segO 1 [] [(4, .kv .bool false)] (Os := []) trivial hE hH (by kernel_rfl) (fun a hE => ?_)
                      refine wpFrom_end (by kernel_rfl) ?_
                      refine Exit.then_normal (hK82 _ _ ?_)
                      refine wp_ret ?_
                      refine Exit.in_ret ?_
                      refine Exit.then_ret ?_
                      refine Exit.then_ret ?_
                      have hH := hH.drop (fun _ _ _ => rfl)
                      cases h
                      exact hret15 _ rfl _ _ (ret1 rfl hE hle hH (by kernel_rfl))
                    · replace h := ifF hc h
                      refine wp_skip ?_
                      refine Exit.in_normal ?_
                      refine Exit.then_normal (hK19 _ _ ?_)
                      refine wp_region_from ?_
                      refine segO 3 [] [(7, .kv .i (IntKind.wrap .i64 (x11 + 1)))] (Os := []) trivial hE hH (by kernel_rfl) (fun a hE => ?_)
                      refine wpFrom_end (by kernel_rfl) ?_
                      have hH := hH.drop (fun _ _ _ => rfl)
                      refine Exit.then_normal ?_
                      exact ih16 _ _ _ h _ _ _  hle (hE.subC (by kernel_rfl)) hH hx14 hret15
        · replace h := ifF hc h
          refine wp_exit ?_
          refine Exit.then_exit ?_
          refine Exit.then_exit ?_
          cases h
          exact hx14 _ rfl _ _ _  hle (hE.subC (by kernel_rfl)) hH
      refine key _ _ _ hrr84 _ _ _  hle (hE.subC (by kernel_rfl)) hH ?_ ?_
      · intro z83 hz a w G  hle hE hH
        subst hz
        rw [hQ]
        dsimp only at h
        refine Exit.in_eq ?_
        refine Exit.then_normal (hK9 _ _ ?_)
        refine wp_seq_k (fun K hK85 => ?_)
        refine wp_region_from ?_
        refine segO 1 [] [(4, .kv .bool true)] (Os := []) trivial hE hH (by kernel_rfl) (fun a hE => ?_)
        refine wpFrom_end (by kernel_rfl) ?_
        refine Exit.then_normal (hK85 _ _ ?_)
        refine wp_ret ?_
        cases h
        exact ret1 rfl hE hle hH (by kernel_rfl)
      · intro yy hz a w hp
        subst hz
        dsimp only at h
        cases h
        rw [hQ]
        refine Exit.in_ret ?_
        refine Exit.then_ret ?_
        exact hp

def f4 (p0 : Int) (p1 : List K31.den) (p2 : List UInt8) (σ : St) : Option (Bool × St) :=
  f25 p0 p1 σ >>= fun r3 =>
  if (!r3.1.2.2) = true then
  if r3.1.2.2 = true then
  f19 r3.2 >>= fun r7 =>
  some (r7.1, r7.2)
  else
  some (false, r3.2)
  else
  f19 r3.2 >>= fun r8 =>
  if ((!r8.1) || r3.1.2.1.isNone) = true then
  if r3.1.2.2 = true then
  f19 r8.2 >>= fun r10 =>
  some (r10.1, r10.2)
  else
  some (false, r8.2)
  else
  f26 r3.1.1 r3.1.2.1 p2 r8.2 >>= fun r12 =>
  some (r12, r8.2)

theorem f4_ok {p0 : Int} {p1 : List K31.den} {p2 : List UInt8} {σ : St} {p : Bool × St} (h : f4 p0 p1 p2 σ = some p) : Spec Try.prog 4 [.kv .i p0, .kv (.list K31) p1, .kv .str p2] (tabs σ) (.kv .bool p.1) (tabs p.2) := by
  refine Spec.intro Try.func4 (by kernel_rfl) rfl (by kernel_rfl) (fun a w G0 Ls hE hH hN => ?_)
  have hle : G0.le G0 := Gh.le_refl G0
  unfold f4 at h
  refine wp_seq_k (fun K hK1 => ?_)
  refine wp_region_from ?_
  refine segO 1 [] [(6, .kv .bool false)] (Os := []) trivial hE hH (by kernel_rfl) (fun a hE => ?_)
  refine wpFrom_end (by kernel_rfl) ?_
  refine Exit.then_normal (hK1 _ _ ?_)
  refine wp_seq_k (fun K hK2 => ?_)
  refine wp_region_from ?_
  refine segO 2 [] [(11, .kv .i p0), (12, .kv (.list K31) p1)] (Os := []) trivial hE hH (by kernel_rfl) (fun a hE => ?_)
  obtain ⟨r3, hr3, h⟩ := bs h
  refine stepCall (d := (some 13)) (f25_ok hr3) hE hH hN (by kernel_rfl) (by kernel_rfl) trivial (fun a w G hl1 hE hH => ?_)
  have hle := Gh.le_trans hle hl1
  refine segO 7 [] [(7, .kv (.ptr 105) r3.1.1), (8, .kv (.ptr 47) r3.1.2.1), (9, .kv .bool r3.1.2.2)] (Os := []) trivial hE hH (by kernel_rfl) (fun a hE => ?_)
  refine wpFrom_end (by kernel_rfl) ?_
  refine Exit.then_normal (hK2 _ _ ?_)
  refine wp_seq_k (fun K hK4 => ?_)
  refine wp_seq_k (fun K hK5 => ?_)
  refine wp_region_from ?_
  refine segO 3 [] [(19, .kv .bool (!r3.1.2.2))] (Os := []) trivial hE hH (by kernel_rfl) (fun a hE => ?_)
  by_cases hc : (!r3.1.2.2) = true
  · replace h := ifT hc h
    have hE := hE.setB 19 (by kernel_rfl) hc
    refine segO 7 [] [(26, .kv .bool true)] (Os := []) trivial hE hH (by kernel_rfl) (fun a hE => ?_)
    refine wpFrom_end (by kernel_rfl) ?_
    refine Exit.then_normal (hK5 _ _ ?_)
    refine condT hE (by kernel_rfl) rfl ?_
    refine wp_seq_k (fun K hK6 => ?_)
    refine wp_region_from ?_
    refine segO 2 [] [(28, .kv .bool r3.1.2.2)] (Os := []) trivial hE hH (by kernel_rfl) (fun a hE => ?_)
    by_cases hc : r3.1.2.2 = true
    · replace h := ifT hc h
      have hE := hE.setB 28 (by kernel_rfl) hc
      obtain ⟨r7, hr7, h⟩ := bs h
      refine stepCall (d := (some 29)) (f19_ok hr7) hE hH hN (by kernel_rfl) (by kernel_rfl) trivial (fun a w G hl2 hE hH => ?_)
      have hle := Gh.le_trans hle hl2
      refine segO 2 [] [(6, .kv .bool r7.1)] (Os := []) trivial hE hH (by kernel_rfl) (fun a hE => ?_)
      refine wpFrom_end (by kernel_rfl) ?_
      refine Exit.then_normal (hK6 _ _ ?_)
      refine wp_ret ?_
      refine Exit.then_ret ?_
      cases h
      exact ret1 rfl hE hle hH (by kernel_rfl)
    · replace h := ifN hc h
      have hE := hE.setB 28 (by kernel_rfl) (bf hc)
      refine segO 3 [] [(6, .kv .bool false)] (Os := []) trivial hE hH (by kernel_rfl) (fun a hE => ?_)
      refine wpFrom_end (by kernel_rfl) ?_
      refine Exit.then_normal (hK6 _ _ ?_)
      refine wp_ret ?_
      refine Exit.then_ret ?_
      cases h
      exact ret1 rfl hE hle hH (by kernel_rfl)
  · replace h := ifN hc h
    have hE := hE.setB 19 (by kernel_rfl) (bf hc)
    obtain ⟨r8, hr8, h⟩ := bs h
    refine stepCall (d := (some 20)) (f19_ok hr8) hE hH hN (by kernel_rfl) (by kernel_rfl) trivial (fun a w G hl3 hE hH => ?_)
    have hle := Gh.le_trans hle hl3
    refine segO 6 [] [(26, .kv .bool ((!r8.1) || r3.1.2.1.isNone))] (Os := []) trivial hE hH (by kernel_rfl) (fun a hE => ?_)
    refine wpFrom_end (by kernel_rfl) ?_
    refine Exit.then_normal (hK5 _ _ ?_)
    refine condE (b := (!r8.1) || r3.1.2.1.isNone) hE (by kernel_rfl) (fun hc => ?_) (fun hc => ?_)
    · replace h := ifT hc h
      refine wp_seq_k (fun K hK9 => ?_)
      refine wp_region_from ?_
      refine segO 2 [] [(28, .kv .bool r3.1.2.2)] (Os := []) trivial hE hH (by kernel_rfl) (fun a hE => ?_)
      by_cases hc : r3.1.2.2 = true
      · replace h := ifT hc h
        have hE := hE.setB 28 (by kernel_rfl) hc
        obtain ⟨r10, hr10, h⟩ := bs h
        refine stepCall (d := (some 29)) (f19_ok hr10) hE hH hN (by kernel_rfl) (by kernel_rfl) trivial (fun a w G hl4 hE hH => ?_)
        have hle := Gh.le_trans hle hl4
        refine segO 2 [] [(6, .kv .bool r10.1)] (Os := []) trivial hE hH (by kernel_rfl) (fun a hE => ?_)
        refine wpFrom_end (by kernel_rfl) ?_
        refine Exit.then_normal (hK9 _ _ ?_)
        refine wp_ret ?_
        refine Exit.then_ret ?_
        cases h
        exact ret1 rfl hE hle hH (by kernel_rfl)
      · replace h := ifN hc h
        have hE := hE.setB 28 (by kernel_rfl) (bf hc)
        refine segO 3 [] [(6, .kv .bool false)] (Os := []) trivial hE hH (by kernel_rfl) (fun a hE => ?_)
        refine wpFrom_end (by kernel_rfl) ?_
        refine Exit.then_normal (hK9 _ _ ?_)
        refine wp_ret ?_
        refine Exit.then_ret ?_
        cases h
        exact ret1 rfl hE hle hH (by kernel_rfl)
    · replace h := ifF hc h
      refine wp_skip ?_
      refine Exit.then_normal (hK4 _ _ ?_)
      refine wp_seq_k (fun K hK11 => ?_)
      refine wp_region_from ?_
      refine segO 3 [] [(31, .kv (.ptr 105) r3.1.1), (32, .kv (.ptr 47) r3.1.2.1), (33, .kv .str p2)] (Os := []) trivial hE hH (by kernel_rfl) (fun a hE => ?_)
      obtain ⟨r12, hr12, h⟩ := bs h
      refine stepCall (d := (some 34)) (f26_ok hr12) hE hH hN (by kernel_rfl) (by kernel_rfl) trivial (fun a w G hl5 hE hH => ?_)
      have hle := Gh.le_trans hle hl5
      refine segO 1 [] [(6, .kv .bool r12)] (Os := []) trivial hE hH (by kernel_rfl) (fun a hE => ?_)
      refine wpFrom_end (by kernel_rfl) ?_
      refine Exit.then_normal (hK11 _ _ ?_)
      refine wp_ret ?_
      cases h
      exact ret1 rfl hE hle hH (by kernel_rfl)

def f5_l0 (r3 : ((Option Nat) × (Option Nat) × Bool) × St) (o11 : denFs fs47) (r13 : Int × St) (x21 : Int) : Option (Sum Int (Bool × St)) :=
  if (decide (x21 < (o11.2.1.length : Int))) = true then
  (ix o11.2.1 x21) >>= fun x30 =>
  f28 r3.1.1 x30.1 r13.2 >>= fun r31 =>
  if (r31.2 != 0) = true then
  some (.inr (false, r13.2))
  else
  (ix o11.2.1 x21) >>= fun x36 =>
  f29 x36.2.1 r31.1 >>= fun r37 =>
  if (!r37) = true then
  some (.inr (false, r13.2))
  else
  (ix o11.2.1 x21) >>= fun x41 =>
  (ix o11.2.1 x21) >>= fun x42 =>
  if x41.2.1.length + x42.2.2.1.length ≤ 9223372036854775807 then
  f29 r31.1 (x41.2.1 ++ x42.2.2.1) >>= fun r44 =>
  if (!r44) = true then
  some (.inr (false, r13.2))
  else
  (ix o11.2.1 x21) >>= fun x48 =>
  f30 r3.1.1 x48.1 r13.2 >>= fun r49 =>
  if (r49 != (r31.1.length : Int)) = true then
  some (.inr (false, r13.2))
  else
  f5_l0 r3 o11 r13 (IntKind.wrap .i64 (x21 + 1))
  else none
  else
  some (.inl x21)
  partial_fixpoint

def f5 (p0 : List K31.den) (p1 : List Int) (p2 : List Int) (σ : St) : Option (Bool × St) :=
  f25 1048576 p0 σ >>= fun r3 =>
  if ((!r3.1.2.2) || r3.1.2.1.isNone) = true then
  some (false, r3.2)
  else
  f19 r3.2 >>= fun r7 =>
  if (!r7.1) = true then
  some (false, r7.2)
  else
  r3.1.2.1 >>= fun i10 =>
  (r7.2.t47[i10]?) >>= fun o11 =>
  f27 r3.1.1 p1 r7.2 >>= fun r13 =>
  f21 r3.1.1 r13.2 >>= fun r15 =>
  if ((r15.length : Int) != (o11.2.1.length : Int)) = true then
  some (false, r13.2)
  else
  f5_l0 r3 o11 r13 0 >>= fun rr52 => (match rr52 with
  | .inr yy => some yy
  | .inl z51 =>
  f20 r3.1.1 r13.2 >>= fun r54 =>
  f27 r3.1.1 p2 r13.2 >>= fun r56 =>
  f20 r3.1.1 r56.2 >>= fun r58 =>
  if (r58 == r54) = true then
  f31 r3.1.1 r56.2 >>= fun r59 =>
  some (!r59, r56.2)
  else
  some (false, r56.2))

theorem f5_ok {p0 : List K31.den} {p1 : List Int} {p2 : List Int} {σ : St} {p : Bool × St} (h : f5 p0 p1 p2 σ = some p) : Spec Try.prog 5 [.kv (.list K31) p0, .kv (.list .i) p1, .kv (.list .i) p2] (tabs σ) (.kv .bool p.1) (tabs p.2) := by
  refine Spec.intro Try.func5 (by kernel_rfl) rfl (by kernel_rfl) (fun a w G0 Ls hE hH hN => ?_)
  have hle : G0.le G0 := Gh.le_refl G0
  unfold f5 at h
  refine wp_seq_k (fun K hK1 => ?_)
  refine wp_region_from ?_
  refine segO 1 [] [(6, .kv .bool false)] (Os := []) trivial hE hH (by kernel_rfl) (fun a hE => ?_)
  refine wpFrom_end (by kernel_rfl) ?_
  refine Exit.then_normal (hK1 _ _ ?_)
  refine wp_seq_k (fun K hK2 => ?_)
  refine wp_region_from ?_
  refine segO 1 [] [(17, .kv (.list K31) p0)] (Os := []) trivial hE hH (by kernel_rfl) (fun a hE => ?_)
  obtain ⟨r3, hr3, h⟩ := bs h
  refine stepCall (d := (some 18)) (f25_ok hr3) hE hH hN (by kernel_rfl) (by kernel_rfl) trivial (fun a w G hl1 hE hH => ?_)
  have hle := Gh.le_trans hle hl1
  refine segO 7 [] [(7, .kv (.ptr 105) r3.1.1), (8, .kv (.ptr 47) r3.1.2.1), (9, .kv .bool r3.1.2.2)] (Os := []) trivial hE hH (by kernel_rfl) (fun a hE => ?_)
  refine wpFrom_end (by kernel_rfl) ?_
  refine Exit.then_normal (hK2 _ _ ?_)
  refine wp_seq_k (fun K hK4 => ?_)
  refine wp_seq_k (fun K hK5 => ?_)
  refine wp_region_from ?_
  refine segO 7 [] [(28, .kv .bool ((!r3.1.2.2) || r3.1.2.1.isNone))] (Os := []) trivial hE hH (by kernel_rfl) (fun a hE => ?_)
  by_cases hc : ((!r3.1.2.2) || r3.1.2.1.isNone) = true
  · replace h := ifT hc h
    have hE := hE.setB 28 (by kernel_rfl) hc
    refine segO 3 [] [(31, .kv .bool true)] (Os := []) trivial hE hH (by kernel_rfl) (fun a hE => ?_)
    refine wpFrom_end (by kernel_rfl) ?_
    refine Exit.then_normal (hK5 _ _ ?_)
    refine condT hE (by kernel_rfl) rfl ?_
    refine wp_seq_k (fun K hK6 => ?_)
    refine wp_region_from ?_
    refine segO 1 [] [(6, .kv .bool false)] (Os := []) trivial hE hH (by kernel_rfl) (fun a hE => ?_)
    refine wpFrom_end (by kernel_rfl) ?_
    refine Exit.then_normal (hK6 _ _ ?_)
    refine wp_ret ?_
    refine Exit.then_ret ?_
    cases h
    exact ret1 rfl hE hle hH (by kernel_rfl)
  · replace h := ifN hc h
    have hE := hE.setB 28 (by kernel_rfl) (bf hc)
    obtain ⟨r7, hr7, h⟩ := bs h
    refine stepCall (d := (some 29)) (f19_ok hr7) hE hH hN (by kernel_rfl) (by kernel_rfl) trivial (fun a w G hl2 hE hH => ?_)
    have hle := Gh.le_trans hle hl2
    refine segO 2 [] [(31, .kv .bool (!r7.1))] (Os := []) trivial hE hH (by kernel_rfl) (fun a hE => ?_)
    refine wpFrom_end (by kernel_rfl) ?_
    refine Exit.then_normal (hK5 _ _ ?_)
    refine condE (b := !r7.1) hE (by kernel_rfl) (fun hc => ?_) (fun hc => ?_)
    · replace h := ifT hc h
      refine wp_seq_k (fun K hK8 => ?_)
      refine wp_region_from ?_
      refine segO 1 [] [(6, .kv .bool false)] (Os := []) trivial hE hH (by kernel_rfl) (fun a hE => ?_)
      refine wpFrom_end (by kernel_rfl) ?_
      refine Exit.then_normal (hK8 _ _ ?_)
      refine wp_ret ?_
      refine Exit.then_ret ?_
      cases h
      exact ret1 rfl hE hle hH (by kernel_rfl)
    · replace h := ifF hc h
      refine wp_skip ?_
      refine Exit.then_normal (hK4 _ _ ?_)
      refine wp_seq_k (fun K hK9 => ?_)
      refine wp_region_from ?_
      obtain ⟨i10, hi10, h⟩ := bs h
      obtain ⟨o11, ho11, h⟩ := bs h
      refine segO 5 [.pt i10, .ob fs47 o11] [(10, .kv (.list K52) o11.2.1)] (Os := [_, _]) ⟨hi10, (ob47 (s := r7.2) ho11), trivial⟩ hE hH (by kernel_rfl) (fun a hE => ?_)
      refine wpFrom_end (by kernel_rfl) ?_
      refine Exit.then_normal (hK9 _ _ ?_)
      refine wp_seq_k (fun K hK12 => ?_)
      refine wp_region_from ?_
      refine segO 2 [] [(36, .kv (.ptr 105) r3.1.1), (37, .kv (.list .i) p1)] (Os := []) trivial hE hH (by kernel_rfl) (fun a hE => ?_)
      obtain ⟨r13, hr13, h⟩ := bs h
      refine stepCall (d := (some 38)) (f27_ok hr13) hE hH hN (by kernel_rfl) (by kernel_rfl) trivial (fun a w G hl3 hE hH => ?_)
      have hle := Gh.le_trans hle hl3
      refine wpFrom_end (by kernel_rfl) ?_
      refine Exit.then_normal (hK12 _ _ ?_)
      refine wp_seq_k (fun K hK14 => ?_)
      refine wp_region_from ?_
      refine segO 1 [] [(39, .kv (.ptr 105) r3.1.1)] (Os := []) trivial hE hH (by kernel_rfl) (fun a hE => ?_)
      obtain ⟨r15, hr15, h⟩ := bs h
      refine stepCall (d := (some 40)) (f21_ok hr15) hE hH hN (by kernel_rfl) (by kernel_rfl) trivial (fun a w G hl4 hE hH => ?_)
      have hle := Gh.le_trans hle hl4
      refine segO 1 [] [(11, .kv (.list .str) r15)] (Os := []) trivial hE hH (by kernel_rfl) (fun a hE => ?_)
      refine wpFrom_end (by kernel_rfl) ?_
      refine Exit.then_normal (hK14 _ _ ?_)
      refine wp_seq_k (fun K hK16 => ?_)
      refine wp_seq_k (fun K hK17 => ?_)
      refine wp_region_from ?_
      refine segO 5 [] [(45, .kv .bool ((r15.length : Int) != (o11.2.1.length : Int)))] (Os := []) trivial hE hH (by kernel_rfl) (fun a hE => ?_)
      refine wpFrom_end (by kernel_rfl) ?_
      refine Exit.then_normal (hK17 _ _ ?_)
      refine condE (b := (r15.length : Int) != (o11.2.1.length : Int)) hE (by kernel_rfl) (fun hc => ?_) (fun hc => ?_)
      · replace h := ifT hc h
        refine wp_seq_k (fun K hK18 => ?_)
        refine wp_region_from ?_
        refine segO 1 [] [(6, .kv .bool false)] (Os := []) trivial hE hH (by kernel_rfl) (fun a hE => ?_)
        refine wpFrom_end (by kernel_rfl) ?_
        refine Exit.then_normal (hK18 _ _ ?_)
        refine wp_ret ?_
        refine Exit.then_ret ?_
        cases h
        exact ret1 rfl hE hle hH (by kernel_rfl)
      · replace h := ifF hc h
        refine wp_skip ?_
        refine Exit.then_normal (hK16 _ _ ?_)
        refine wp_seq_k (fun K hK19 => ?_)
        refine wp_seq_k (fun K hK20 => ?_)
        refine wp_region_from ?_
        refine segO 1 [] [(12, .kv .i 0)] (Os := []) trivial hE hH (by kernel_rfl) (fun a hE => ?_)
        refine wpFrom_end (by kernel_rfl) ?_
        refine Exit.then_normal (hK20 _ _ ?_)
        refine wp_block ?_
        obtain ⟨rr52, hrr52, h⟩ := bs h
        refine loop_intro (fun Q22 c hQ hc => ?_)
        have key : ∀ (x21 : Int) (rr : Sum Int (Bool × St)), f5_l0 r3 o11 r13 x21 = some rr → ∀ (a : Act) (w : World) (G : Gh), G0.le G → EnvR G 116 a [(2, .kv (.list .i) p2), (6, .kv .bool false), (7, .kv (.ptr 105) r3.1.1), (10, .kv (.list K52) o11.2.1), (12, .kv .i x21)] → Holds w G (tabs r13.2) (Ls) → (∀ z51 : Int, rr = .inl z51 → ∀ (a : Act) (w : World) (G : Gh), G0.le G → EnvR G 116 a [(2, .kv (.list .i) p2), (6, .kv .bool false), (7, .kv (.ptr 105) r3.1.1), (10, .kv (.list K52) o11.2.1), (12, .kv .i z51)] → Holds w G (tabs r13.2) (Ls) → Q22 (.exit 0) a w) → (∀ yy : Bool × St, rr = .inr yy → ∀ (a : Act) (w : World), PostB Try.prog Try.f5 G0 (.kv .bool yy.1) (tabs yy.2) Ls .ret a w → Q22 .ret a w) → Rnd Try.prog c Q22 a w := by
          refine f5_l0.partial_correctness r3 o11 r13 _ ?_
          intro self ih25 x21 rr h a w G  hle hE hH hx23 hret24
          refine rnd_step' hc ?_
          refine wp_seq_k (fun K hK26 => ?_)
          refine wp_seq_k (fun K hK27 => ?_)
          refine wp_region_from ?_
          refine segO 4 [] [(49, .kv .bool (decide (x21 < (o11.2.1.length : Int))))] (Os := []) trivial hE hH (by kernel_rfl) (fun a hE => ?_)
          refine wpFrom_end (by kernel_rfl) ?_
          refine Exit.then_normal (hK27 _ _ ?_)
          refine condE (b := decide (x21 < (o11.2.1.length : Int))) hE (by kernel_rfl) (fun hc => ?_) (fun hc => ?_)
          · replace h := ifT hc h
            refine wp_skip ?_
            refine Exit.then_normal (hK26 _ _ ?_)
            refine wp_seq_k (fun K hK28 => ?_)
            refine wp_block ?_
            refine wp_seq_k (fun K hK29 => ?_)
            refine wp_region_from ?_
            obtain ⟨x30, hx30, h⟩ := bs h
            refine segO 6 [.ix K52 x30] [(53, .kv (.ptr 105) r3.1.1), (58, .kv .str x30.1)] (Os := [_]) ⟨(IxAt.of (k := K52) hx30), trivial⟩ hE hH (by kernel_rfl) (fun a hE => ?_)
            obtain ⟨r31, hr31, h⟩ := bs h
            refine stepCall (d := (some 59)) (f28_ok hr31) hE hH hN (by kernel_rfl) (by kernel_rfl) trivial (fun a w G hl5 hE hH => ?_)
            have hle := Gh.le_trans hle hl5
            refine segO 5 [] [(13, .kv .str r31.1), (14, .kv .i r31.2)] (Os := []) trivial hE hH (by kernel_rfl) (fun a hE => ?_)
            refine wpFrom_end (by kernel_rfl) ?_
            refine Exit.then_normal (hK29 _ _ ?_)
            refine wp_seq_k (fun K hK32 => ?_)
            by_cases hc : (r31.2 != 0) = true
            · replace h := ifT hc h
              have c33 := hc
              refine region_par 38 [] [(0, 0), (0, 0), (0, 0), (0, 0), (0, 0), (0, 0), (0, 0), (0, 0), (0, 0), (0, 0), (0, 0), (0, 0), (0, 0), (0, 0), (0, 0), (0, 0), (0, 0), (0, 0), (0, 0), (0, 0), (0, 0), (0, 0), (0, 0), (0, 0), (0, 0), (0, 0), (0, 0), (0, 0), (0, 0), (0, 0), (0, 0), (0, 0), (0, 0), (0, 0), (0, 0), (0, 0), (0, 0), (0, 0)] [.kv .i r31.2, .kv .bool (r31.2 != 0), .kv .bool true, .undef, .undef, .undef, .undef, .undef, .undef, .undef, .undef, .kv .bool true, .kv .bool true, .undef, .undef, .undef, .undef, .undef, .undef, .undef, .undef, .undef, .undef, .undef, .undef, .undef, .undef, .kv .bool true, .kv .bool true, .undef, .undef, .undef, .undef, .undef, .undef, .undef, .undef, .undef] (fun _ => tabs r13.2) (fun _ => Ls) (by kernel_rfl) (by kernel_rfl) hE hH
                      ⟨⟨⟨⟨⟨⟨⟨⟨⟨⟨⟨⟨⟨⟨⟨⟨⟨⟨⟨⟨⟨⟨⟨⟨⟨⟨⟨⟨⟨⟨⟨⟨⟨⟨⟨⟨⟨⟨trivial,
                      anyk (fun k => obR [] (Os := []) trivial (by kernel_rfl) (by kernel_rfl))⟩,
                      anyk (fun k => obR [] (Os := []) trivial (by kernel_rfl) (by kernel_rfl))⟩,
                      anyk (fun k => obRe [] (Os := []) trivial (by kernel_rfl) (by kernel_rfl) (eb2 c33 rfl))⟩,
                      anyk (fun k => obR [] (Os := []) trivial (by kernel_rfl) (by kernel_rfl))⟩,
                      anyk (fun k => obR [] (Os := []) trivial (by kernel_rfl) (by kernel_rfl))⟩,
                      anyk (fun k => obR [] (Os := []) trivial (by kernel_rfl) (by kernel_rfl))⟩,
                      anyk (fun k => obR [] (Os := []) trivial (by kernel_rfl) (by kernel_rfl))⟩,
                      anyk (fun k => obR [] (Os := []) trivial (by kernel_rfl) (by kernel_rfl))⟩,
                      anyk (fun k => obR [] (Os := []) trivial (by kernel_rfl) (by kernel_rfl))⟩,
                      anyk (fun k => obR [] (Os := []) trivial (by kernel_rfl) (by kernel_rfl))⟩,
                      anyk (fun k => obR [] (Os := []) trivial (by kernel_rfl) (by kernel_rfl))⟩,
                      anyk (fun k => obR [] (Os := []) trivial (by kernel_rfl) (by kernel_rfl))⟩,
                      anyk (fun k => obR [] (Os := []) trivial (by kernel_rfl) (by kernel_rfl))⟩,
                      anyk (fun k => obR [] (Os := []) trivial (by kernel_rfl) (by kernel_rfl))⟩,
                      anyk (fun k => obR [] (Os := []) trivial (by kernel_rfl) (by kernel_rfl))⟩,
                      anyk (fun k => obR [] (Os := []) trivial (by kernel_rfl) (by kernel_rfl))⟩,
                      anyk (fun k => obR [] (Os := []) trivial (by kernel_rfl) (by kernel_rfl))⟩,
                      anyk (fun k => obR [] (Os := []) trivial (by kernel_rfl) (by kernel_rfl))⟩,
                      anyk (fun k => obR [] (Os := []) trivial (by kernel_rfl) (by kernel_rfl))⟩,
                      anyk (fun k => obR [] (Os := []) trivial (by kernel_rfl) (by kernel_rfl))⟩,
                      anyk (fun k => obR [] (Os := []) trivial (by kernel_rfl) (by kernel_rfl))⟩,
                      anyk (fun k => obR [] (Os := []) trivial (by kernel_rfl) (by kernel_rfl))⟩,
                      anyk (fun k => obR [] (Os := []) trivial (by kernel_rfl) (by kernel_rfl))⟩,
                      anyk (fun k => obR [] (Os := []) trivial (by kernel_rfl) (by kernel_rfl))⟩,
                      anyk (fun k => obR [] (Os := []) trivial (by kernel_rfl) (by kernel_rfl))⟩,
                      anyk (fun k => obR [] (Os := []) trivial (by kernel_rfl) (by kernel_rfl))⟩,
                      anyk (fun k => obR [] (Os := []) trivial (by kernel_rfl) (by kernel_rfl))⟩,
                      anyk (fun k => obR [] (Os := []) trivial (by kernel_rfl) (by kernel_rfl))⟩,
                      anyk (fun k => obR [] (Os := []) trivial (by kernel_rfl) (by kernel_rfl))⟩,
                      anyk (fun k => obR [] (Os := []) trivial (by kernel_rfl) (by kernel_rfl))⟩,
                      anyk (fun k => obR [] (Os := []) trivial (by kernel_rfl) (by kernel_rfl))⟩,
                      anyk (fun k => obR [] (Os := []) trivial (by kernel_rfl) (by kernel_rfl))⟩,
                      anyk (fun k => obR [] (Os := []) trivial (by kernel_rfl) (by kernel_rfl))⟩,
                      anyk (fun k => obR [] (Os := []) trivial (by kernel_rfl) (by kernel_rfl))⟩,
                      anyk (fun k => obR [] (Os := []) trivial (by kernel_rfl) (by kernel_rfl))⟩,
                      anyk (fun k => obR [] (Os := []) trivial (by kernel_rfl) (by kernel_rfl))⟩,
                      anyk (fun k => obR [] (Os := []) trivial (by kernel_rfl) (by kernel_rfl))⟩,
                      anyk (fun k => obR [] (Os := []) trivial (by kernel_rfl) (by kernel_rfl))⟩ (fun a w G hl6 hE hH => ?_)
              have hle := Gh.le_trans hle hl6
              refine segO 2 [] [(101, .kv .bool true)] (Os := []) trivial hE hH (by kernel_rfl) (fun a hE => ?_)
              refine wpFrom_end (by kernel_rfl) ?_
              refine Exit.then_normal (hK32 _ _ ?_)
              refine condT hE (by kernel_rfl) rfl ?_
              refine wp_seq_k (fun K hK34 => ?_)
              refine wp_region_from ?_
              refine segO 1 [] [(6, .kv .bool false)] (Os := []) trivial hE hH (by kernel_rfl) (fun a hE => ?_)
              refine wpFrom_end (by kernel_rfl) ?_
              refine Exit.then_normal (hK34 _ _ ?_)
              refine wp_ret ?_
              refine Exit.in_ret ?_
              refine Exit.then_ret ?_
              refine Exit.then_ret ?_
              cases h
              exact hret24 _ rfl _ _ (ret1 rfl hE hle hH (by kernel_rfl))
            · replace h := ifN hc h
              have c35 := hc
              obtain ⟨x36, hx36, h⟩ := bs h
              obtain ⟨r37, hr37, h⟩ := bs h
              by_cases hc : (!r37) = true
              · replace h := ifT hc h
                have c38 := hc
                refine region_par 38 [9] [(0, 0), (0, 0), (0, 0), (0, 0), (0, 0), (0, 0), (0, 0), (0, 0), (0, 0), (0, 0), (1, 1), (1, 1), (1, 1), (1, 1), (1, 1), (1, 1), (1, 1), (1, 1), (1, 1), (1, 1), (1, 1), (1, 1), (1, 1), (1, 1), (1, 1), (1, 1), (1, 1), (1, 1), (1, 1), (1, 1), (1, 1), (1, 1), (1, 1), (1, 1), (1, 1), (1, 1), (1, 1), (1, 1)] [.kv .i r31.2, .kv .bool (r31.2 != 0), .kv .bool false, .kv (.list K52) o11.2.1, .kv .i x21, .elA K52 x36 0, .elA K52 x36 1, .kv .str x36.2.1, .kv .str r31.1, .kv .bool r37, .kv .bool (!r37), .kv .bool (!r37), .kv .bool true, .undef, .undef, .undef, .undef, .undef, .undef, .undef, .undef, .undef, .undef, .undef, .undef, .undef, .undef, .kv .bool true, .kv .bool true, .undef, .undef, .undef, .undef, .undef, .undef, .undef, .undef, .undef] (fun _ => tabs r13.2) (fun _ => Ls) (by kernel_rfl) (by kernel_rfl) hE hH
                        ⟨⟨⟨⟨⟨⟨⟨⟨⟨⟨⟨⟨⟨⟨⟨⟨⟨⟨⟨⟨⟨⟨⟨⟨⟨⟨⟨⟨⟨⟨⟨⟨⟨⟨⟨⟨⟨⟨trivial,
                        anyk (fun k => obR [] (Os := []) trivial (by kernel_rfl) (by kernel_rfl))⟩,
                        anyk (fun k => obR [] (Os := []) trivial (by kernel_rfl) (by kernel_rfl))⟩,
                        anyk (fun k => obRe [] (Os := []) trivial (by kernel_rfl) (by kernel_rfl) (eb2 (bf c35) rfl))⟩,
                        anyk (fun k => obR [] (Os := []) trivial (by kernel_rfl) (by kernel_rfl))⟩,
                        anyk (fun k => obR [] (Os := []) trivial (by kernel_rfl) (by kernel_rfl))⟩,
                        anyk (fun k => obR [.ix K52 x36] (Os := [_]) ⟨(IxAt.of (k := K52) hx36), trivial⟩ (by kernel_rfl) (by kernel_rfl))⟩,
                        anyk (fun k => obR [] (Os := []) trivial (by kernel_rfl) (by kernel_rfl))⟩,
                        anyk (fun k => obR [] (Os := []) trivial (by kernel_rfl) (by kernel_rfl))⟩,
                        anyk (fun k => obR [] (Os := []) trivial (by kernel_rfl) (by kernel_rfl))⟩,
                        one (obC (k := 0) (d := (some 71)) (f29_ok hr37) rfl hN (by kernel_rfl) (by kernel_rfl) rfl trivial)⟩,
                        anyk (fun k => obR [] (Os := []) trivial (by kernel_rfl) (by kernel_rfl))⟩,
                        anyk (fun k => obR [] (Os := []) trivial (by kernel_rfl) (by kernel_rfl))⟩,
                        anyk (fun k => obRe [] (Os := []) trivial (by kernel_rfl) (by kernel_rfl) (eb2 c38 rfl))⟩,
                        anyk (fun k => obR [] (Os := []) trivial (by kernel_rfl) (by kernel_rfl))⟩,
                        anyk (fun k => obR [] (Os := []) trivial (by kernel_rfl) (by kernel_rfl))⟩,
                        anyk (fun k => obR [] (Os := []) trivial (by kernel_rfl) (by kernel_rfl))⟩,
                        anyk (fun k => obR [] (Os := []) trivial (by kernel_rfl) (by kernel_rfl))⟩,
                        anyk (fun k => obR [] (Os := []) trivial (by kernel_rfl) (by kernel_rfl))⟩,
                        anyk (fun k => obR [] (Os := []) trivial (by kernel_rfl) (by kernel_rfl))⟩,
                        anyk (fun k => obR [] (Os := []) trivial (by kernel_rfl) (by kernel_rfl))⟩,
                        anyk (fun k => obR [] (Os := []) trivial (by kernel_rfl) (by kernel_rfl))⟩,
                        anyk (fun k => obR [] (Os := []) trivial (by kernel_rfl) (by kernel_rfl))⟩,
                        anyk (fun k => obR [] (Os := []) trivial (by kernel_rfl) (by kernel_rfl))⟩,
                        anyk (fun k => obR [] (Os := []) trivial (by kernel_rfl) (by kernel_rfl))⟩,
                        anyk (fun k => obR [] (Os := []) trivial (by kernel_rfl) (by kernel_rfl))⟩,
                        anyk (fun k => obR [] (Os := []) trivial (by kernel_rfl) (by kernel_rfl))⟩,
                        anyk (fun k => obR [] (Os := []) trivial (by kernel_rfl) (by kernel_rfl))⟩,
                        anyk (fun k => obR [] (Os := []) trivial (by kernel_rfl) (by kernel_rfl))⟩,
                        anyk (fun k => obR [] (Os := []) trivial (by kernel_rfl) (by kernel_rfl))⟩,
                        anyk (fun k => obR [] (Os := []) trivial (by kernel_rfl) (by kernel_rfl))⟩,
                        anyk (fun k => obR [] (Os := []) trivial (by kernel_rfl) (by kernel_rfl))⟩,
                        anyk (fun k => obR [] (Os := []) trivial (by kernel_rfl) (by kernel_rfl))⟩,
                        anyk (fun k => obR [] (Os := []) trivial (by kernel_rfl) (by kernel_rfl))⟩,
                        anyk (fun k => obR [] (Os := []) trivial (by kernel_rfl) (by kernel_rfl))⟩,
                        anyk (fun k => obR [] (Os := []) trivial (by kernel_rfl) (by kernel_rfl))⟩,
                        anyk (fun k => obR [] (Os := []) trivial (by kernel_rfl) (by kernel_rfl))⟩,
                        anyk (fun k => obR [] (Os := []) trivial (by kernel_rfl) (by kernel_rfl))⟩,
                        anyk (fun k => obR [] (Os := []) trivial (by kernel_rfl) (by kernel_rfl))⟩ (fun a w G hl7 hE hH => ?_)
                have hle := Gh.le_trans hle hl7
                refine segO 2 [] [(101, .kv .bool true)] (Os := []) trivial hE hH (by kernel_rfl) (fun a hE => ?_)
                refine wpFrom_end (by kernel_rfl) ?_
                refine Exit.then_normal (hK32 _ _ ?_)
                refine condT hE (by kernel_rfl) rfl ?_
                refine wp_seq_k (fun K hK39 => ?_)
                refine wp_region_from ?_
                refine segO 1 [] [(6, .kv .bool false)] (Os := []) trivial hE hH (by kernel_rfl) (fun a hE => ?_)
                refine wpFrom_end (by kernel_rfl) ?_
                refine Exit.then_normal (hK39 _ _ ?_)
                refine wp_ret ?_
                refine Exit.in_ret ?_
                refine Exit.then_ret ?_
                refine Exit.then_ret ?_
                cases h
                exact hret24 _ rfl _ _ (ret1 rfl hE hle hH (by kernel_rfl))
              · replace h := ifN hc h
                have c40 := hc
                obtain ⟨x41, hx41, h⟩ := bs h
                obtain ⟨x42, hx42, h⟩ := bs h
                obtain ⟨q43, h⟩ := gd h
                obtain ⟨r44, hr44, h⟩ := bs h
                by_cases hc : (!r44) = true
                · replace h := ifT hc h
                  have c45 := hc
                  refine region_par 38 [9, 25] [(0, 0), (0, 0), (0, 0), (0, 0), (0, 0), (0, 0), (0, 0), (0, 0), (0, 0), (0, 0), (1, 1), (1, 1), (1, 1), (1, 1), (1, 1), (1, 1), (1, 1), (1, 1), (1, 1), (1, 1), (1, 1), (1, 1), (1, 1), (1, 1), (1, 1), (1, 1), (2, 2), (2, 2), (2, 2), (2, 2), (2, 2), (2, 2), (2, 2), (2, 2), (2, 2), (2, 2), (2, 2), (2, 2)] [.kv .i r31.2, .kv .bool (r31.2 != 0), .kv .bool false, .kv (.list K52) o11.2.1, .kv .i x21, .elA K52 x36 0, .elA K52 x36 1, .kv .str x36.2.1, .kv .str r31.1, .kv .bool r37, .kv .bool (!r37), .kv .bool (!r37), .kv .bool false, .kv .str r31.1, .kv (.list K52) o11.2.1, .kv .i x21, .elA K52 x41 0, .elA K52 x41 1, .kv .str x41.2.1, .kv (.list K52) o11.2.1, .kv .i x21, .elA K52 x42 0, .elA K52 x42 2, .kv .str x42.2.2.1, .kv .str (x41.2.1 ++ x42.2.2.1), .kv .bool r44, .kv .bool (!r44), .kv .bool (!r44), .kv .bool true, .undef, .undef, .undef, .undef, .undef, .undef, .undef, .undef, .undef] (fun _ => tabs r13.2) (fun _ => Ls) (by kernel_rfl) (by kernel_rfl) hE hH
                          ⟨⟨⟨⟨⟨⟨⟨⟨⟨⟨⟨⟨⟨⟨⟨⟨⟨⟨⟨⟨⟨⟨⟨⟨⟨⟨⟨⟨⟨⟨⟨⟨⟨⟨⟨⟨⟨⟨trivial,
                          anyk (fun k => obR [] (Os := []) trivial (by kernel_rfl) (by kernel_rfl))⟩,
                          anyk (fun k => obR [] (Os := []) trivial (by kernel_rfl) (by kernel_rfl))⟩,
                          anyk (fun k => obRe [] (Os := []) trivial (by kernel_rfl) (by kernel_rfl) (eb2 (bf c35) rfl))⟩,
                          anyk (fun k => obR [] (Os := []) trivial (by kernel_rfl) (by kernel_rfl))⟩,
                          anyk (fun k => obR [] (Os := []) trivial (by kernel_rfl) (by kernel_rfl))⟩,
                          anyk (fun k => obR [.ix K52 x36] (Os := [_]) ⟨(IxAt.of (k := K52) hx36), trivial⟩ (by kernel_rfl) (by kernel_rfl))⟩,
                          anyk (fun k => obR [] (Os := []) trivial (by kernel_rfl) (by kernel_rfl))⟩,
                          anyk (fun k => obR [] (Os := []) trivial (by kernel_rfl) (by kernel_rfl))⟩,
                          anyk (fun k => obR [] (Os := []) trivial (by kernel_rfl) (by kernel_rfl))⟩,
                          one (obC (k := 0) (d := (some 71)) (f29_ok hr37) rfl hN (by kernel_rfl) (by kernel_rfl) rfl trivial)⟩,
                          anyk (fun k => obR [] (Os := []) trivial (by kernel_rfl) (by kernel_rfl))⟩,
                          anyk (fun k => obR [] (Os := []) trivial (by kernel_rfl) (by kernel_rfl))⟩,
                          anyk (fun k => obRe [] (Os := []) trivial (by kernel_rfl) (by kernel_rfl) (eb2 (bf c40) rfl))⟩,
                          anyk (fun k => obR [] (Os := []) trivial (by kernel_rfl) (by kernel_rfl))⟩,
                          anyk (fun k => obR [] (Os := []) trivial (by kernel_rfl) (by kernel_rfl))⟩,
                          anyk (fun k => obR [] (Os := []) trivial (by kernel_rfl) (by kernel_rfl))⟩,
                          anyk (fun k => obR [.ix K52 x41] (Os := [_]) ⟨(IxAt.of (k := K52) hx41), trivial⟩ (by kernel_rfl) (by kernel_rfl))⟩,
                          anyk (fun k => obR [] (Os := []) trivial (by kernel_rfl) (by kernel_rfl))⟩,
                          anyk (fun k => obR [] (Os := []) trivial (by kernel_rfl) (by kernel_rfl))⟩,
                          anyk (fun k => obR [] (Os := []) trivial (by kernel_rfl) (by kernel_rfl))⟩,
                          anyk (fun k => obR [] (Os := []) trivial (by kernel_rfl) (by kernel_rfl))⟩,
                          anyk (fun k => obR [.ix K52 x42] (Os := [_]) ⟨(IxAt.of (k := K52) hx42), trivial⟩ (by kernel_rfl) (by kernel_rfl))⟩,
                          anyk (fun k => obR [] (Os := []) trivial (by kernel_rfl) (by kernel_rfl))⟩,
                          anyk (fun k => obR [] (Os := []) trivial (by kernel_rfl) (by kernel_rfl))⟩,
                          anyk (fun k => obR [] (Os := [_]) ⟨q43, trivial⟩ (by kernel_rfl) (by kernel_rfl))⟩,
                          one (obC (k := 1) (d := (some 87)) (f29_ok hr44) rfl hN (by kernel_rfl) (by kernel_rfl) rfl trivial)⟩,
                          anyk (fun k => obR [] (Os := []) trivial (by kernel_rfl) (by kernel_rfl))⟩,
                          anyk (fun k => obR [] (Os := []) trivial (by kernel_rfl) (by kernel_rfl))⟩,
                          anyk (fun k => obRe [] (Os := []) trivial (by kernel_rfl) (by kernel_rfl) (eb2 c45 rfl))⟩,
                          anyk (fun k => obR [] (Os := []) trivial (by kernel_rfl) (by kernel_rfl))⟩,
                          anyk (fun k => obR [] (Os := []) trivial (by kernel_rfl) (by kernel_rfl))⟩,
                          anyk (fun k => obR [] (Os := []) trivial (by kernel_rfl) (by kernel_rfl))⟩,
                          anyk (fun k => obR [] (Os := []) trivial (by kernel_rfl) (by kernel_rfl))⟩,
                          anyk (fun k => obR [] (Os := []) trivial (by kernel_rfl) (by kernel_rfl))⟩,
                          anyk (fun k => obR [] (Os := []) trivial (by kernel_rfl) (by kernel_rfl))⟩,
                          anyk (fun k => obR [] (Os := []) trivial (by kernel_rfl) (by kernel_rfl))⟩,
                          anyk (fun k => obR [] (Os := []) trivial (by kernel_rfl) (by kernel_rfl))⟩,
                          anyk (fun k => obR [] (Os := []) trivial (by kernel_rfl) (by kernel_rfl))⟩ (fun a w G hl8 hE hH => ?_)
                  have hle := Gh.le_trans hle hl8
                  refine segO 2 [] [(101, .kv .bool true)] (Os := []) trivial hE hH (by kernel_rfl) (fun a hE => ?_)
                  refine wpFrom_end (by kernel_rfl) ?_
                  refine Exit.then_normal (hK32 _ _ ?_)
                  refine condT hE (by kernel_rfl) rfl ?_
                  refine wp_seq_k (fun K hK46 => ?_)
                  refine wp_region_from ?_
                  refine segO 1 [] [(6, .kv .bool false)] (Os := []) trivial hE hH (by kernel_rfl) (fun a hE => ?_)
                  refine wpFrom_end (by kernel_rfl) ?_
                  refine Exit.then_normal (hK46 _ _ ?_)
                  refine wp_ret ?_
                  refine Exit.in_ret ?_
                  refine Exit.then_ret ?_
                  refine Exit.then_ret ?_
                  cases h
                  exact hret24 _ rfl _ _ (ret1 rfl hE hle hH (by kernel_rfl))
                · replace h := ifN hc h
                  have c47 := hc
                  obtain ⟨x48, hx48, h⟩ := bs h
                  obtain ⟨r49, hr49, h⟩ := bs h
                  refine region_par 38 [9, 25, 35] [(0, 0), (0, 0), (0, 0), (0, 0), (0, 0), (0, 0), (0, 0), (0, 0), (0, 0), (0, 0), (1, 1), (1, 1), (1, 1), (1, 1), (1, 1), (1, 1), (1, 1), (1, 1), (1, 1), (1, 1), (1, 1), (1, 1), (1, 1), (1, 1), (1, 1), (1, 1), (2, 2), (2, 2), (2, 2), (2, 2), (2, 2), (2, 2), (2, 2), (2, 2), (2, 2), (2, 2), (2, 3), (2, 3)] [.kv .i r31.2, .kv .bool (r31.2 != 0), .kv .bool false, .kv (.list K52) o11.2.1, .kv .i x21, .elA K52 x36 0, .elA K52 x36 1, .kv .str x36.2.1, .kv .str r31.1, .kv .bool r37, .kv .bool (!r37), .kv .bool (!r37), .kv .bool false, .kv .str r31.1, .kv (.list K52) o11.2.1, .kv .i x21, .elA K52 x41 0, .elA K52 x41 1, .kv .str x41.2.1, .kv (.list K52) o11.2.1, .kv .i x21, .elA K52 x42 0, .elA K52 x42 2, .kv .str x42.2.2.1, .kv .str (x41.2.1 ++ x42.2.2.1), .kv .bool r44, .kv .bool (!r44), .kv .bool (!r44), .kv .bool false, .kv (.ptr 105) r3.1.1, .kv (.list K52) o11.2.1, .kv .i x21, .elA K52 x48 0, .elA K52 x48 0, .kv .str x48.1, .kv .i r49, .kv .str r31.1, .kv .i (r31.1.length : Int)] (fun _ => tabs r13.2) (fun _ => Ls) (by kernel_rfl) (by kernel_rfl) hE hH
                          ⟨⟨⟨⟨⟨⟨⟨⟨⟨⟨⟨⟨⟨⟨⟨⟨⟨⟨⟨⟨⟨⟨⟨⟨⟨⟨⟨⟨⟨⟨⟨⟨⟨⟨⟨⟨⟨⟨trivial,
                          anyk (fun k => obR [] (Os := []) trivial (by kernel_rfl) (by kernel_rfl))⟩,
                          anyk (fun k => obR [] (Os := []) trivial (by kernel_rfl) (by kernel_rfl))⟩,
                          anyk (fun k => obRe [] (Os := []) trivial (by kernel_rfl) (by kernel_rfl) (eb2 (bf c35) rfl))⟩,
                          anyk (fun k => obR [] (Os := []) trivial (by kernel_rfl) (by kernel_rfl))⟩,
                          anyk (fun k => obR [] (Os := []) trivial (by kernel_rfl) (by kernel_rfl))⟩,
                          anyk (fun k => obR [.ix K52 x36] (Os := [_]) ⟨(IxAt.of (k := K52) hx36), trivial⟩ (by kernel_rfl) (by kernel_rfl))⟩,
                          anyk (fun k => obR [] (Os := []) trivial (by kernel_rfl) (by kernel_rfl))⟩,
                          anyk (fun k => obR [] (Os := []) trivial (by kernel_rfl) (by kernel_rfl))⟩,
                          anyk (fun k => obR [] (Os := []) trivial (by kernel_rfl) (by kernel_rfl))⟩,
                          one (obC (k := 0) (d := (some 71)) (f29_ok hr37) rfl hN (by kernel_rfl) (by kernel_rfl) rfl trivial)⟩,
                          anyk (fun k => obR [] (Os := []) trivial (by kernel_rfl) (by kernel_rfl))⟩,
                          anyk (fun k => obR [] (Os := []) trivial (by kernel_rfl) (by kernel_rfl))⟩,
                          anyk (fun k => obRe [] (Os := []) trivial (by kernel_rfl) (by kernel_rfl) (eb2 (bf c40) rfl))⟩,
                          anyk (fun k => obR [] (Os := []) trivial (by kernel_rfl) (by kernel_rfl))⟩,
                          anyk (fun k => obR [] (Os := []) trivial (by kernel_rfl) (by kernel_rfl))⟩,
                          anyk (fun k => obR [] (Os := []) trivial (by kernel_rfl) (by kernel_rfl))⟩,
                          anyk (fun k => obR [.ix K52 x41] (Os := [_]) ⟨(IxAt.of (k := K52) hx41), trivial⟩ (by kernel_rfl) (by kernel_rfl))⟩,
                          anyk (fun k => obR [] (Os := []) trivial (by kernel_rfl) (by kernel_rfl))⟩,
                          anyk (fun k => obR [] (Os := []) trivial (by kernel_rfl) (by kernel_rfl))⟩,
                          anyk (fun k => obR [] (Os := []) trivial (by kernel_rfl) (by kernel_rfl))⟩,
                          anyk (fun k => obR [] (Os := []) trivial (by kernel_rfl) (by kernel_rfl))⟩,
                          anyk (fun k => obR [.ix K52 x42] (Os := [_]) ⟨(IxAt.of (k := K52) hx42), trivial⟩ (by kernel_rfl) (by kernel_rfl))⟩,
                          anyk (fun k => obR [] (Os := []) trivial (by kernel_rfl) (by kernel_rfl))⟩,
                          anyk (fun k => obR [] (Os := []) trivial (by kernel_rfl) (by kernel_rfl))⟩,
                          anyk (fun k => obR [] (Os := [_]) ⟨q43, trivial⟩ (by kernel_rfl) (by kernel_rfl))⟩,
                          one (obC (k := 1) (d := (some 87)) (f29_ok hr44) rfl hN (by kernel_rfl) (by kernel_rfl) rfl trivial)⟩,
                          anyk (fun k => obR [] (Os := []) trivial (by kernel_rfl) (by kernel_rfl))⟩,
                          anyk (fun k => obR [] (Os := []) trivial (by kernel_rfl) (by kernel_rfl))⟩,
                          anyk (fun k => obRe [] (Os := []) trivial (by kernel_rfl) (by kernel_rfl) (eb2 (bf c47) rfl))⟩,
                          anyk (fun k => obR [] (Os := []) trivial (by kernel_rfl) (by kernel_rfl))⟩,
                          anyk (fun k => obR [] (Os := []) trivial (by kernel_rfl) (by kernel_rfl))⟩,
                          anyk (fun k => obR [] (Os := []) trivial (by kernel_rfl) (by kernel_rfl))⟩,
                          anyk (fun k => obR [.ix K52 x48] (Os := [_]) ⟨(IxAt.of (k := K52) hx48), trivial⟩ (by kernel_rfl) (by kernel_rfl))⟩,
                          anyk (fun k => obR [] (Os := []) trivial (by kernel_rfl) (by kernel_rfl))⟩,
                          anyk (fun k => obR [] (Os := []) trivial (by kernel_rfl) (by kernel_rfl))⟩,
                          one (obC (k := 2) (d := (some 97)) (f30_ok hr49) rfl hN (by kernel_rfl) (by kernel_rfl) rfl trivial)⟩,
                          anyk (fun k => obR [] (Os := []) trivial (by kernel_rfl) (by kernel_rfl))⟩,
                          anyk (fun k => obR [] (Os := []) trivial (by kernel_rfl) (by kernel_rfl))⟩ (fun a w G hl9 hE hH => ?_)
                  have hle := Gh.le_trans hle hl9
                  refine segO 2 [] [(101, .kv .bool (r49 != (r31.1.length : Int)))] (Os := []) trivial hE hH (by kernel_rfl) (fun a hE => ?_)
                  refine wpFrom_end (by kernel_rfl) ?_
                  refine Exit.then_normal (hK32 _ _ ?_)
                  refine condE (b := r49 != (r31.1.length : Int)) hE (by kernel_rfl) (fun hc => ?_) (fun hc => ?_)
                  · replace h := ifT hc h
                    refine wp_seq_k (fun K hK50 => ?_)
                    refine wp_region_from ?_
                    refine segO 1 [] [(6, .kv .bool false)] (Os := []) trivial hE hH (by kernel_rfl) (fun a hE => ?_)
                    refine wpFrom_end (by kernel_rfl) ?_
                    refine Exit.then_normal (hK50 _ _ ?_)
                    refine wp_ret ?_
                    refine Exit.in_ret ?_
                    refine Exit.then_ret ?_
                    refine Exit.then_ret ?_
                    cases h
                    exact hret24 _ rfl _ _ (ret1 rfl hE hle hH (by kernel_rfl))
                  · replace h := ifF hc h
                    refine wp_skip ?_
                    refine Exit.in_normal ?_
                    refine Exit.then_normal (hK28 _ _ ?_)
                    refine wp_region_from ?_
                    refine segO 3 [] [(12, .kv .i (IntKind.wrap .i64 (x21 + 1)))] (Os := []) trivial hE hH (by kernel_rfl) (fun a hE => ?_)
                    refine wpFrom_end (by kernel_rfl) ?_
                    refine Exit.then_normal ?_
                    exact ih25 _ _ h _ _ _  hle (hE.subC (by kernel_rfl)) hH hx23 hret24
          · replace h := ifF hc h
            refine wp_exit ?_
            refine Exit.then_exit ?_
            refine Exit.then_exit ?_
            cases h
            exact hx23 _ rfl _ _ _  hle (hE.subC (by kernel_rfl)) hH
        refine key _ _ hrr52 _ _ _  hle (hE.subC (by kernel_rfl)) hH ?_ ?_
        · intro z51 hz a w G  hle hE hH
          subst hz
          rw [hQ]
          dsimp only at h
          refine Exit.in_eq ?_
          refine Exit.then_normal (hK19 _ _ ?_)
          refine wp_seq_k (fun K hK53 => ?_)
          refine wp_region_from ?_
          refine segO 1 [] [(102, .kv (.ptr 105) r3.1.1)] (Os := []) trivial hE hH (by kernel_rfl) (fun a hE => ?_)
          obtain ⟨r54, hr54, h⟩ := bs h
          refine stepCall (d := (some 103)) (f20_ok hr54) hE hH hN (by kernel_rfl) (by kernel_rfl) trivial (fun a w G hl10 hE hH => ?_)
          have hle := Gh.le_trans hle hl10
          refine segO 1 [] [(15, .kv .i r54)] (Os := []) trivial hE hH (by kernel_rfl) (fun a hE => ?_)
          refine wpFrom_end (by kernel_rfl) ?_
          refine Exit.then_normal (hK53 _ _ ?_)
          refine wp_seq_k (fun K hK55 => ?_)
          refine wp_region_from ?_
          refine segO 2 [] [(104, .kv (.ptr 105) r3.1.1), (105, .kv (.list .i) p2)] (Os := []) trivial hE hH (by kernel_rfl) (fun a hE => ?_)
          obtain ⟨r56, hr56, h⟩ := bs h
          refine stepCall (d := (some 106)) (f27_ok hr56) hE hH hN (by kernel_rfl) (by kernel_rfl) trivial (fun a w G hl11 hE hH => ?_)
          have hle := Gh.le_trans hle hl11
          refine wpFrom_end (by kernel_rfl) ?_
          refine Exit.then_normal (hK55 _ _ ?_)
          refine wp_seq_k (fun K hK57 => ?_)
          refine wp_region_from ?_
          refine segO 1 [] [(107, .kv (.ptr 105) r3.1.1)] (Os := []) trivial hE hH (by kernel_rfl) (fun a hE => ?_)
          obtain ⟨r58, hr58, h⟩ := bs h
          refine stepCall (d := (some 108)) (f20_ok hr58) hE hH hN (by kernel_rfl) (by kernel_rfl) trivial (fun a w G hl12 hE hH => ?_)
          have hle := Gh.le_trans hle hl12
          refine segO 3 [] [(111, .kv .bool (r58 == r54))] (Os := []) trivial hE hH (by kernel_rfl) (fun a hE => ?_)
          by_cases hc : (r58 == r54) = true
          · replace h := ifT hc h
            have hE := hE.setB 111 (by kernel_rfl) hc
            refine segO 1 [] [(112, .kv (.ptr 105) r3.1.1)] (Os := []) trivial hE hH (by kernel_rfl) (fun a hE => ?_)
            obtain ⟨r59, hr59, h⟩ := bs h
            refine stepCall (d := (some 113)) (f31_ok hr59) hE hH hN (by kernel_rfl) (by kernel_rfl) trivial (fun a w G hl13 hE hH => ?_)
            have hle := Gh.le_trans hle hl13
            refine segO 3 [] [(6, .kv .bool (!r59))] (Os := []) trivial hE hH (by kernel_rfl) (fun a hE => ?_)
            refine wpFrom_end (by kernel_rfl) ?_
            refine Exit.then_normal (hK57 _ _ ?_)
            refine wp_ret ?_
            cases h
            exact ret1 rfl hE hle hH (by kernel_rfl)
          · replace h := ifN hc h
            have hE := hE.setB 111 (by kernel_rfl) (bf hc)
            refine segO 5 [] [(6, .kv .bool false)] (Os := []) trivial hE hH (by kernel_rfl) (fun a hE => ?_)
            refine wpFrom_end (by kernel_rfl) ?_
            refine Exit.then_normal (hK57 _ _ ?_)
            refine wp_ret ?_
            cases h
            exact ret1 rfl hE hle hH (by kernel_rfl)
        · intro yy hz a w hp
          subst hz
          dsimp only at h
          cases h
          rw [hQ]
          refine Exit.in_ret ?_
          refine Exit.then_ret ?_
          exact hp
end Go.Proofs.Ytlfemhkabjafeaa.M
