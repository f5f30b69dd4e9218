/- Own texts, laid together: T7 YA YB Q6. -/
import Derived.Test.YtlfemhkabjafeaaProg
import Derived.Test.YtlfemhkabjafeaaZ1
import Derived.Test.YtlfemhkabjafeaaZ2
import Derived.Test.YtlfemhkabjafeaaZ3
import Derived.Test.YtlfemhkabjafeaaZ4
import Derived.Test.YtlfemhkabjafeaaZ5
/- Printed by own program: twins and walks. -/
set_option linter.unusedVariables false
set_option maxRecDepth 100000
namespace Go.Proofs.Ytlfemhkabjafeaa.M
open Go.Proofs (Try.prog Try.func17 Try.f17)

def f17 (p0 : List K97.den) (p1 : Int) (p2 : List Int) (σ : St) : Option (Bool × St) :=
  f18 100000 σ >>= fun r3 =>
  if ((r3.1.2 != 0) || r3.1.1.isNone) = true then
  some (false, r3.2)
  else
  f48 r3.2 >>= fun r7 =>
  if (!r7.1) = true then
  some (false, r7.2)
  else
  (if (decide (p1 > 0)) = true then
  f32 r3.1.1 (IntKind.wrap .i64 (p1)) r7.2 >>= fun r46 =>
  some r46.2
  else
  some r7.2 : Option St) >>= fun z12 =>
  f52 r3.1.1 p0 z12 >>= fun r15 =>
  f27 r3.1.1 p2 r15.2 >>= fun r17 =>
  if r15.1.1.isNone = true then
  some (true, r17.2)
  else
  f53 r3.1.1 [108, 111, 103] 100 r17.2 >>= fun r22 =>
  if ((r22.1.2 != 0) || r22.1.1.isNone) = true then
  some (false, r22.2)
  else
  f56 r22.1.1 r22.2 >>= fun r27 =>
  f54 r22.1.1 r22.2 >>= fun r29 =>
  if (decide (r29 > r15.1.2.2)) = true then
  some (false, r22.2)
  else
  f55 r22.1.1 r22.2 >>= fun r33 =>
  if (decide (r33 < r15.1.2.2)) = true then
  some (false, r22.2)
  else
  f55 r22.1.1 r22.2 >>= fun r35 =>
  if (decide (r35 > (r15.1.2.1.length : Int))) = true then
  some (false, r22.2)
  else
  f55 r22.1.1 r22.2 >>= fun r37 =>
  if ((r27.length : Int) != (IntKind.wrap .i64 (r37 - r29))) = true then
  some (false, r22.2)
  else
  f60 r22.1.1 r22.2 >>= fun r39 =>
  f55 r22.1.1 r22.2 >>= fun r40 =>
  if (r39 != r40) = true then
  some (false, r22.2)
  else
  if (decide (r29 ≥ 0)) = true then
  f55 r22.1.1 r22.2 >>= fun r43 =>
  if (0 : Int) ≤ r29 ∧ r29 ≤ r43 ∧ r43 ≤ (r15.1.2.1.length : Int) then
  f51 r27 ((r15.1.2.1.take (Int.toNat r43)).drop (Int.toNat r29)) >>= fun r45 =>
  some (r45, r22.2)
  else none
  else
  some (false, r22.2)

theorem f17_ok {p0 : List K97.den} {p1 : Int} {p2 : List Int} {σ : St} {p : Bool × St} (h : f17 p0 p1 p2 σ = some p) : Spec Try.prog 17 [.kv (.list K97) p0, .kv (.int .u8) p1, .kv (.list .i) p2] (tabs σ) (.kv .bool p.1) (tabs p.2) := by
  refine Spec.intro Try.func17 (by kernel_rfl) rfl (by kernel_rfl) (fun a w G0 Ls hE hH hN => ?_)
  have hle : G0.le G0 := Gh.le_refl G0
  unfold f17 at h
  refine wp_seq_k (fun K hK1 => ?_)
  refine wp_region_from ?_
  refine segO 1 [] [(6, .kv .bool false)] (Os := []) trivial hE hH (by kernel_rfl) (fun a hE => ?_)
  refine wpFrom_end (by kernel_rfl) ?_
  refine Exit.then_normal (hK1 _ _ ?_)
  refine wp_seq_k (fun K hK2 => ?_)
  refine wp_region_from ?_
  obtain ⟨r3, hr3, h⟩ := bs h
  refine stepCall (d := (some 17)) (f18_ok hr3) hE hH hN (by kernel_rfl) (by kernel_rfl) trivial (fun a w G hl1 hE hH => ?_)
  have hle := Gh.le_trans hle hl1
  refine segO 5 [] [(7, .kv (.ptr 105) r3.1.1), (8, .kv .i r3.1.2)] (Os := []) trivial hE hH (by kernel_rfl) (fun a hE => ?_)
  refine wpFrom_end (by kernel_rfl) ?_
  refine Exit.then_normal (hK2 _ _ ?_)
  refine wp_seq_k (fun K hK4 => ?_)
  refine wp_seq_k (fun K hK5 => ?_)
  refine wp_region_from ?_
  refine segO 7 [] [(26, .kv .bool ((r3.1.2 != 0) || r3.1.1.isNone))] (Os := []) trivial hE hH (by kernel_rfl) (fun a hE => ?_)
  by_cases hc : ((r3.1.2 != 0) || r3.1.1.isNone) = true
  · replace h := ifT hc h
    have hE := hE.setB 26 (by kernel_rfl) hc
    refine segO 3 [] [(29, .kv .bool true)] (Os := []) trivial hE hH (by kernel_rfl) (fun a hE => ?_)
    refine wpFrom_end (by kernel_rfl) ?_
    refine Exit.then_normal (hK5 _ _ ?_)
    refine condT hE (by kernel_rfl) rfl ?_
    refine wp_seq_k (fun K hK6 => ?_)
    refine wp_region_from ?_
    refine segO 1 [] [(6, .kv .bool false)] (Os := []) trivial hE hH (by kernel_rfl) (fun a hE => ?_)
    refine wpFrom_end (by kernel_rfl) ?_
    refine Exit.then_normal (hK6 _ _ ?_)
    refine wp_ret ?_
    refine Exit.then_ret ?_
    cases h
    exact ret1 rfl hE hle hH (by kernel_rfl)
  · replace h := ifN hc h
    have hE := hE.setB 26 (by kernel_rfl) (bf hc)
    obtain ⟨r7, hr7, h⟩ := bs h
    refine stepCall (d := (some 27)) (f48_ok hr7) hE hH hN (by kernel_rfl) (by kernel_rfl) trivial (fun a w G hl2 hE hH => ?_)
    have hle := Gh.le_trans hle hl2
    refine segO 2 [] [(29, .kv .bool (!r7.1))] (Os := []) trivial hE hH (by kernel_rfl) (fun a hE => ?_)
    refine wpFrom_end (by kernel_rfl) ?_
    refine Exit.then_normal (hK5 _ _ ?_)
    refine condE (b := !r7.1) hE (by kernel_rfl) (fun hc => ?_) (fun hc => ?_)
    · replace h := ifT hc h
      refine wp_seq_k (fun K hK8 => ?_)
      refine wp_region_from ?_
      refine segO 1 [] [(6, .kv .bool false)] (Os := []) trivial hE hH (by kernel_rfl) (fun a hE => ?_)
      refine wpFrom_end (by kernel_rfl) ?_
      refine Exit.then_normal (hK8 _ _ ?_)
      refine wp_ret ?_
      refine Exit.then_ret ?_
      cases h
      exact ret1 rfl hE hle hH (by kernel_rfl)
    · replace h := ifF hc h
      refine wp_skip ?_
      refine Exit.then_normal (hK4 _ _ ?_)
      refine wp_seq_k (fun K hK9 => ?_)
      refine wp_seq_k (fun K hK10 => ?_)
      refine wp_region_from ?_
      refine segO 2 [] [(31, .kv .bool (decide (p1 > 0)))] (Os := []) trivial hE hH (by kernel_rfl) (fun a hE => ?_)
      refine wpFrom_end (by kernel_rfl) ?_
      refine Exit.then_normal (hK10 _ _ ?_)
      obtain ⟨z12, hz12, h⟩ := bs h
      refine join_intro (I := fun a w => ∃ (G : Gh), G0.le G ∧ EnvR G 106 a [(0, .kv (.list K97) p0), (2, .kv (.list .i) p2), (6, .kv .bool false), (7, .kv (.ptr 105) r3.1.1)] ∧ Holds w G (tabs z12) (Ls)) trivial ?_ ?_
      · intro a w hI
        obtain ⟨G, hle, hE, hH⟩ := hI
        refine Exit.then_normal (hK9 _ _ ?_)
        refine wp_seq_k (fun K hK14 => ?_)
        refine wp_region_from ?_
        refine segO 2 [] [(37, .kv (.ptr 105) r3.1.1), (38, .kv (.list K97) p0)] (Os := []) trivial hE hH (by kernel_rfl) (fun a hE => ?_)
        obtain ⟨r15, hr15, h⟩ := bs h
        refine stepCall (d := (some 39)) (f52_ok hr15) hE hH hN (by kernel_rfl) (by kernel_rfl) trivial (fun a w G hl4 hE hH => ?_)
        have hle := Gh.le_trans hle hl4
        refine segO 7 [] [(9, .kv (.ptr 128) r15.1.1), (10, .kv (.list .str) r15.1.2.1), (11, .kv .i r15.1.2.2)] (Os := []) trivial hE hH (by kernel_rfl) (fun a hE => ?_)
        refine wpFrom_end (by kernel_rfl) ?_
        refine Exit.then_normal (hK14 _ _ ?_)
        refine wp_seq_k (fun K hK16 => ?_)
        refine wp_region_from ?_
        refine segO 2 [] [(43, .kv (.ptr 105) r3.1.1), (44, .kv (.list .i) p2)] (Os := []) trivial hE hH (by kernel_rfl) (fun a hE => ?_)
        obtain ⟨r17, hr17, h⟩ := bs h
        refine stepCall (d := (some 45)) (f27_ok hr17) hE hH hN (by kernel_rfl) (by kernel_rfl) trivial (fun a w G hl5 hE hH => ?_)
        have hle := Gh.le_trans hle hl5
        refine wpFrom_end (by kernel_rfl) ?_
        refine Exit.then_normal (hK16 _ _ ?_)
        refine wp_seq_k (fun K hK18 => ?_)
        refine wp_seq_k (fun K hK19 => ?_)
        refine wp_region_from ?_
        refine segO 2 [] [(47, .kv .bool r15.1.1.isNone)] (Os := []) trivial hE hH (by kernel_rfl) (fun a hE => ?_)
        refine wpFrom_end (by kernel_rfl) ?_
        refine Exit.then_normal (hK19 _ _ ?_)
        refine condE (b := r15.1.1.isNone) hE (by kernel_rfl) (fun hc => ?_) (fun hc => ?_)
        · replace h := ifT hc h
          refine wp_seq_k (fun K hK20 => ?_)
          refine wp_region_from ?_
          refine segO 1 [] [(6, .kv .bool true)] (Os := []) trivial hE hH (by kernel_rfl) (fun a hE => ?_)
          refine wpFrom_end (by kernel_rfl) ?_
          refine Exit.then_normal (hK20 _ _ ?_)
          refine wp_ret ?_
          refine Exit.then_ret ?_
          cases h
          exact ret1 rfl hE hle hH (by kernel_rfl)
        · replace h := ifF hc h
          refine wp_skip ?_
          refine Exit.then_normal (hK18 _ _ ?_)
          refine wp_seq_k (fun K hK21 => ?_)
          refine wp_region_from ?_
          refine segO 1 [] [(49, .kv (.ptr 105) r3.1.1)] (Os := []) trivial hE hH (by kernel_rfl) (fun a hE => ?_)
          obtain ⟨r22, hr22, h⟩ := bs h
          refine stepCall (d := (some 50)) (f53_ok hr22) hE hH hN (by kernel_rfl) (by kernel_rfl) trivial (fun a w G hl6 hE hH => ?_)
          have hle := Gh.le_trans hle hl6
          refine segO 5 [] [(12, .kv (.ptr 128) r22.1.1), (13, .kv .i r22.1.2)] (Os := []) trivial hE hH (by kernel_rfl) (fun a hE => ?_)
          refine wpFrom_end (by kernel_rfl) ?_
          refine Exit.then_normal (hK21 _ _ ?_)
          refine wp_seq_k (fun K hK23 => ?_)
          refine wp_seq_k (fun K hK24 => ?_)
          refine wp_region_from ?_
          refine segO 6 [] [(58, .kv .bool ((r22.1.2 != 0) || r22.1.1.isNone))] (Os := []) trivial hE hH (by kernel_rfl) (fun a hE => ?_)
          refine wpFrom_end (by kernel_rfl) ?_
          refine Exit.then_normal (hK24 _ _ ?_)
          refine condE (b := (r22.1.2 != 0) || r22.1.1.isNone) hE (by kernel_rfl) (fun hc => ?_) (fun hc => ?_)
          · replace h := ifT hc h
            refine wp_seq_k (fun K hK25 => ?_)
            refine wp_region_from ?_
            refine segO 1 [] [(6, .kv .bool false)] (Os := []) trivial hE hH (by kernel_rfl) (fun a hE => ?_)
            refine wpFrom_end (by kernel_rfl) ?_
            refine Exit.then_normal (hK25 _ _ ?_)
            refine wp_ret ?_
            refine Exit.then_ret ?_
            cases h
            exact ret1 rfl hE hle hH (by kernel_rfl)
          · replace h := ifF hc h
            refine wp_skip ?_
            refine Exit.then_normal (hK23 _ _ ?_)
            refine wp_seq_k (fun K hK26 => ?_)
            refine wp_region_from ?_
            refine segO 1 [] [(59, .kv (.ptr 128) r22.1.1)] (Os := []) trivial hE hH (by kernel_rfl) (fun a hE => ?_)
            obtain ⟨r27, hr27, h⟩ := bs h
            refine stepCall (d := (some 60)) (f56_ok hr27) hE hH hN (by kernel_rfl) (by kernel_rfl) trivial (fun a w G hl7 hE hH => ?_)
            have hle := Gh.le_trans hle hl7
            refine segO 1 [] [(14, .kv (.list .str) r27)] (Os := []) trivial hE hH (by kernel_rfl) (fun a hE => ?_)
            refine wpFrom_end (by kernel_rfl) ?_
            refine Exit.then_normal (hK26 _ _ ?_)
            refine wp_seq_k (fun K hK28 => ?_)
            refine wp_region_from ?_
            refine segO 1 [] [(61, .kv (.ptr 128) r22.1.1)] (Os := []) trivial hE hH (by kernel_rfl) (fun a hE => ?_)
            obtain ⟨r29, hr29, h⟩ := bs h
            refine stepCall (d := (some 62)) (f54_ok hr29) hE hH hN (by kernel_rfl) (by kernel_rfl) trivial (fun a w G hl8 hE hH => ?_)
            have hle := Gh.le_trans hle hl8
            refine segO 1 [] [(15, .kv .i r29)] (Os := []) trivial hE hH (by kernel_rfl) (fun a hE => ?_)
            refine wpFrom_end (by kernel_rfl) ?_
            refine Exit.then_normal (hK28 _ _ ?_)
            refine wp_seq_k (fun K hK30 => ?_)
            refine wp_seq_k (fun K hK31 => ?_)
            refine wp_region_from ?_
            refine segO 4 [] [(66, .kv .bool (decide (r29 > r15.1.2.2)))] (Os := []) trivial hE hH (by kernel_rfl) (fun a hE => ?_)
            by_cases hc : (decide (r29 > r15.1.2.2)) = true
            · replace h := ifT hc h
              have hE := hE.setB 66 (by kernel_rfl) hc
              refine segO 28 [] [(94, .kv .bool true)] (Os := []) trivial hE hH (by kernel_rfl) (fun a hE => ?_)
              refine wpFrom_end (by kernel_rfl) ?_
              refine Exit.then_normal (hK31 _ _ ?_)
              refine condT hE (by kernel_rfl) rfl ?_
              refine wp_seq_k (fun K hK32 => ?_)
              refine wp_region_from ?_
              refine segO 1 [] [(6, .kv .bool false)] (Os := []) trivial hE hH (by kernel_rfl) (fun a hE => ?_)
              refine wpFrom_end (by kernel_rfl) ?_
              refine Exit.then_normal (hK32 _ _ ?_)
              refine wp_ret ?_
              refine Exit.then_ret ?_
              cases h
              exact ret1 rfl hE hle hH (by kernel_rfl)
            · replace h := ifN hc h
              have hE := hE.setB 66 (by kernel_rfl) (bf hc)
              refine segO 1 [] [(67, .kv (.ptr 128) r22.1.1)] (Os := []) trivial hE hH (by kernel_rfl) (fun a hE => ?_)
              obtain ⟨r33, hr33, h⟩ := bs h
              refine stepCall (d := (some 68)) (f55_ok hr33) hE hH hN (by kernel_rfl) (by kernel_rfl) trivial (fun a w G hl9 hE hH => ?_)
              have hle := Gh.le_trans hle hl9
              refine segO 4 [] [(72, .kv .bool (decide (r33 < r15.1.2.2)))] (Os := []) trivial hE hH (by kernel_rfl) (fun a hE => ?_)
              by_cases hc : (decide (r33 < r15.1.2.2)) = true
              · replace h := ifT hc h
                have hE := hE.setB 72 (by kernel_rfl) hc
                refine segO 22 [] [(94, .kv .bool true)] (Os := []) trivial hE hH (by kernel_rfl) (fun a hE => ?_)
                refine wpFrom_end (by kernel_rfl) ?_
                refine Exit.then_normal (hK31 _ _ ?_)
                refine condT hE (by kernel_rfl) rfl ?_
                refine wp_seq_k (fun K hK34 => ?_)
                refine wp_region_from ?_
                refine segO 1 [] [(6, .kv .bool false)] (Os := []) trivial hE hH (by kernel_rfl) (fun a hE => ?_)
                refine wpFrom_end (by kernel_rfl) ?_
                refine Exit.then_normal (hK34 _ _ ?_)
                refine wp_ret ?_
                refine Exit.then_ret ?_
                cases h
                exact ret1 rfl hE hle hH (by kernel_rfl)
              · replace h := ifN hc h
                have hE := hE.setB 72 (by kernel_rfl) (bf hc)
                refine segO 1 [] [(73, .kv (.ptr 128) r22.1.1)] (Os := []) trivial hE hH (by kernel_rfl) (fun a hE => ?_)
                obtain ⟨r35, hr35, h⟩ := bs h
                refine stepCall (d := (some 74)) (f55_ok hr35) hE hH hN (by kernel_rfl) (by kernel_rfl) trivial (fun a w G hl10 hE hH => ?_)
                have hle := Gh.le_trans hle hl10
                refine segO 5 [] [(79, .kv .bool (decide (r35 > (r15.1.2.1.length : Int))))] (Os := []) trivial hE hH (by kernel_rfl) (fun a hE => ?_)
                by_cases hc : (decide (r35 > (r15.1.2.1.length : Int))) = true
                · replace h := ifT hc h
                  have hE := hE.setB 79 (by kernel_rfl) hc
                  refine segO 15 [] [(94, .kv .bool true)] (Os := []) trivial hE hH (by kernel_rfl) (fun a hE => ?_)
                  refine wpFrom_end (by kernel_rfl) ?_
                  refine Exit.then_normal (hK31 _ _ ?_)
                  refine condT hE (by kernel_rfl) rfl ?_
                  refine wp_seq_k (fun K hK36 => ?_)
                  refine wp_region_from ?_
                  refine segO 1 [] [(6, .kv .bool false)] (Os := []) trivial hE hH (by kernel_rfl) (fun a hE => ?_)
                  refine wpFrom_end (by kernel_rfl) ?_
                  refine Exit.then_normal (hK36 _ _ ?_)
                  refine wp_ret ?_
                  refine Exit.then_ret ?_
                  cases h
                  exact ret1 rfl hE hle hH (by kernel_rfl)
                · replace h := ifN hc h
                  have hE := hE.setB 79 (by kernel_rfl) (bf hc)
                  refine segO 3 [] [(81, .kv .i (r27.length : Int)), (82, .kv (.ptr 128) r22.1.1)] (Os := []) trivial hE hH (by kernel_rfl) (fun a hE => ?_)
                  obtain ⟨r37, hr37, h⟩ := bs h
                  refine stepCall (d := (some 83)) (f55_ok hr37) hE hH hN (by kernel_rfl) (by kernel_rfl) trivial (fun a w G hl11 hE hH => ?_)
                  have hle := Gh.le_trans hle hl11
                  refine segO 5 [] [(88, .kv .bool ((r27.length : Int) != (IntKind.wrap .i64 (r37 - r29))))] (Os := []) trivial hE hH (by kernel_rfl) (fun a hE => ?_)
                  by_cases hc : ((r27.length : Int) != (IntKind.wrap .i64 (r37 - r29))) = true
                  · replace h := ifT hc h
                    have hE := hE.setB 88 (by kernel_rfl) hc
                    refine segO 6 [] [(94, .kv .bool true)] (Os := []) trivial hE hH (by kernel_rfl) (fun a hE => ?_)
                    refine wpFrom_end (by kernel_rfl) ?_
                    refine Exit.then_normal (hK31 _ _ ?_)
                    refine condT hE (by kernel_rfl) rfl ?_
                    refine wp_seq_k (fun K hK38 => ?_)
                    refine wp_region_from ?_
                    refine segO 1 [] [(6, .kv .bool false)] (Os := []) trivial hE hH (by kernel_rfl) (fun a hE => ?_)
                    refine wpFrom_end (by kernel_rfl) ?_
                    refine Exit.then_normal (hK38 _ _ ?_)
                    refine wp_ret ?_
                    refine Exit.then_ret ?_
                    cases h
                    exact ret1 rfl hE hle hH (by kernel_rfl)
                  · replace h := ifN hc h
                    have hE := hE.setB 88 (by kernel_rfl) (bf hc)
                    refine segO 1 [] [(89, .kv (.ptr 128) r22.1.1)] (Os := []) trivial hE hH (by kernel_rfl) (fun a hE => ?_)
                    obtain ⟨r39, hr39, h⟩ := bs h
                    refine stepCall (d := (some 90)) (f60_ok hr39) hE hH hN (by kernel_rfl) (by kernel_rfl) trivial (fun a w G hl12 hE hH => ?_)
                    have hle := Gh.le_trans hle hl12
                    refine segO 1 [] [(91, .kv (.ptr 128) r22.1.1)] (Os := []) trivial hE hH (by kernel_rfl) (fun a hE => ?_)
                    obtain ⟨r40, hr40, h⟩ := bs h
                    refine stepCall (d := (some 92)) (f55_ok hr40) hE hH hN (by kernel_rfl) (by kernel_rfl) trivial (fun a w G hl13 hE hH => ?_)
                    have hle := Gh.le_trans hle hl13
                    refine segO 2 [] [(94, .kv .bool (r39 != r40))] (Os := []) trivial hE hH (by kernel_rfl) (fun a hE => ?_)
                    refine wpFrom_end (by kernel_rfl) ?_
                    refine Exit.then_normal (hK31 _ _ ?_)
                    refine condE (b := r39 != r40) hE (by kernel_rfl) (fun hc => ?_) (fun hc => ?_)
                    · replace h := ifT hc h
                      refine wp_seq_k (fun K hK41 => ?_)
                      refine wp_region_from ?_
                      refine segO 1 [] [(6, .kv .bool false)] (Os := []) trivial hE hH (by kernel_rfl) (fun a hE => ?_)
                      refine wpFrom_end (by kernel_rfl) ?_
                      refine Exit.then_normal (hK41 _ _ ?_)
                      refine wp_ret ?_
                      refine Exit.then_ret ?_
                      cases h
                      exact ret1 rfl hE hle hH (by kernel_rfl)
                    · replace h := ifF hc h
                      refine wp_skip ?_
                      refine Exit.then_normal (hK30 _ _ ?_)
                      refine wp_seq_k (fun K hK42 => ?_)
                      refine wp_region_from ?_
                      refine segO 3 [] [(97, .kv .bool (decide (r29 ≥ 0)))] (Os := []) trivial hE hH (by kernel_rfl) (fun a hE => ?_)
                      by_cases hc : (decide (r29 ≥ 0)) = true
                      · replace h := ifT hc h
                        have hE := hE.setB 97 (by kernel_rfl) hc
                        refine segO 4 [] [(98, .kv (.list .str) r27), (99, .kv (.list .str) r15.1.2.1), (100, .kv .i r29), (101, .kv (.ptr 128) r22.1.1)] (Os := []) trivial hE hH (by kernel_rfl) (fun a hE => ?_)
                        obtain ⟨r43, hr43, h⟩ := bs h
                        refine stepCall (d := (some 102)) (f55_ok hr43) hE hH hN (by kernel_rfl) (by kernel_rfl) trivial (fun a w G hl14 hE hH => ?_)
                        have hle := Gh.le_trans hle hl14
                        obtain ⟨q44, h⟩ := gd h
                        refine segO 1 [] [(103, .kv (.list .str) ((r15.1.2.1.take (Int.toNat r43)).drop (Int.toNat r29)))] (Os := [_]) ⟨q44, trivial⟩ hE hH (by kernel_rfl) (fun a hE => ?_)
                        obtain ⟨r45, hr45, h⟩ := bs h
                        refine stepCall (d := (some 104)) (f51_ok hr45) hE hH hN (by kernel_rfl) (by kernel_rfl) trivial (fun a w G hl15 hE hH => ?_)
                        have hle := Gh.le_trans hle hl15
                        refine segO 2 [] [(6, .kv .bool r45)] (Os := []) trivial hE hH (by kernel_rfl) (fun a hE => ?_)
                        refine wpFrom_end (by kernel_rfl) ?_
                        refine Exit.then_normal (hK42 _ _ ?_)
                        refine wp_ret ?_
                        cases h
                        exact ret1 rfl hE hle hH (by kernel_rfl)
                      · replace h := ifN hc h
                        have hE := hE.setB 97 (by kernel_rfl) (bf hc)
                        refine segO 9 [] [(6, .kv .bool false)] (Os := []) trivial hE hH (by kernel_rfl) (fun a hE => ?_)
                        refine wpFrom_end (by kernel_rfl) ?_
                        refine Exit.then_normal (hK42 _ _ ?_)
                        refine wp_ret ?_
                        cases h
                        exact ret1 rfl hE hle hH (by kernel_rfl)
      · intro KK hKK ho
        have hj13 : ∀ (a : Act) (w : World) (G : Gh), G0.le G → EnvR G 106 a [(0, .kv (.list K97) p0), (2, .kv (.list .i) p2), (6, .kv .bool false), (7, .kv (.ptr 105) r3.1.1)] → Holds w G (tabs z12) (Ls) → KK .normal a w := fun a w G  h1 h2 h3 => hKK a w ⟨G, h1, h2, h3⟩
        replace h := hz12
        refine condE (b := decide (p1 > 0)) hE (by kernel_rfl) (fun hc => ?_) (fun hc => ?_)
        · replace h := ifT hc h
          refine wp_region_from ?_
          refine segO 3 [] [(32, .kv (.ptr 105) r3.1.1), (34, .kv .i (IntKind.wrap .i64 (p1)))] (Os := []) trivial hE hH (by kernel_rfl) (fun a hE => ?_)
          obtain ⟨r46, hr46, h⟩ := bs h
          refine stepCall (d := (some 35)) (f32_ok hr46) hE hH hN (by kernel_rfl) (by kernel_rfl) trivial (fun a w G hl16 hE hH => ?_)
          have hle := Gh.le_trans hle hl16
          refine wpFrom_end (by kernel_rfl) ?_
          cases h
          exact hj13 _ _ _  hle (hE.subC (by kernel_rfl)) hH
        · replace h := ifF hc h
          refine wp_skip ?_
          cases h
          exact hj13 _ _ _  hle (hE.subC (by kernel_rfl)) hH
end Go.Proofs.Ytlfemhkabjafeaa.M

/- Plain law of the log: WalKeeps. -/
set_option linter.unusedVariables false
set_option linter.unusedSimpArgs false
namespace Go.Proofs.Ytlfemhkabjafeaa.M

section
variable {σ : St} {l d n0 : Nat} {most : Int} {js : List Nat} {segs : List Sg} {safe s : Nat} {A : AD} {R : List (List UInt8)}

/-- A new disk, behind what must come at any rate. -/
theorem disk_awake (σ : St) : ∃ σ1 σ2, f18 100000 σ = some ((some σ.t105.length, 0), σ1) ∧ f48 σ1 = some (true, σ2) ∧ DV σ2 σ.t105.length σ.t108.length (100000, [], 0, false, ()) ∧ OkA (100000, [], 0, false, ()) := by
  obtain ⟨e0, dv0, ok0⟩ := f18_eq (σ := σ) (room := 100000) (by decide) (by decide)
  obtain ⟨σ2, e2, kp2⟩ := f48_eq (σ.add105 (100000, [], 0, false, ()))
  exact ⟨_, σ2, e0, e2, dv0.keep kp2, ok0⟩

/-- What is left behind a crash, and Open, of a log that was played. -/
theorem after_crash {recs : List (List UInt8)} {best : Nat} (hS : ∀ g ∈ segs, Sub recs g) (hn : nextS segs ≤ recs.length) (hb : best ≤ safeOf segs s) (hf : firstS segs ≤ best) {segs' : List Sg} {keep : List Int}
    (h : (segs = [] ∧ segs' = []) ∨ ∃ pre g m, segs = pre ++ [g] ∧ segs' = pre ++ [(g.1, g.2.take (s + m))] ∧ m ≤ g.2.length - s ∧ s ≤ g.2.length ∧ ∃ t, (segB (g.1 + s) (g.2.drop s)).take (keepN keep (segB (g.1 + s) (g.2.drop s)).length) = segB (g.1 + s) ((g.2.drop s).take m) ++ t) :
    (∀ g ∈ segs', Sub recs g) ∧ nextS segs' ≤ recs.length ∧ best ≤ nextS segs' ∧ firstS segs' ≤ best := by
  rcases h with ⟨rfl, rfl⟩ | ⟨pre, g, m, rfl, rfl, h1, h2, _⟩
  · exact ⟨hS, hn, hb, hf⟩
  · rw [safeOf_app] at hb
    rw [nextS_app] at hn ⊢
    refine ⟨fun a ha => ?_, ?_, ?_, ?_⟩
    · rcases List.mem_append.1 ha with ha | ha
      · exact hS a (List.mem_append.2 (.inl ha))
      · simp only [List.mem_cons, List.not_mem_nil, or_false] at ha
        rw [ha]
        exact (hS g (by simp)).take _
    · unfold sgN at *
      simp only [List.length_take]; omega
    · unfold sgN
      simp only [List.length_take]; omega
    · have : firstS (pre ++ [(g.1, g.2.take (s + m))]) = firstS (pre ++ [g]) := by
        cases pre with
        | nil => rfl
        | cons _ _ => rfl
      rw [this]; exact hf

theorem f17_true {l : List K97.den} {arm : Int} {keep : List Int} (h1 : 0 ≤ arm) (h2 : arm < 256) (σ : St) : ∃ σ', f17 l arm keep σ = some (true, σ') := by
  obtain ⟨σ1, σ2, e0, e1, dv2, ok0⟩ := disk_awake σ
  have e32 : ∃ σ3 A3, (if (decide (arm > 0)) = true then f32 (some σ.t105.length) (IntKind.wrap .i64 (arm)) σ2 >>= fun r46 => some r46.2 else some σ2 : Option St) = some σ3 ∧ A3.2.1 = [] ∧ downA A3 = false ∧ DV σ3 σ.t105.length σ.t108.length A3 ∧ OkA A3 := by
    by_cases c : 0 < arm
    · obtain ⟨σ3, g1, g2, g3⟩ := f32_eq dv2 arm
      have e : armA (100000, [], 0, false, ()) arm = (0, (100000, [], arm, false, ())) := by
        unfold armA
        rw [if_neg (by decide), if_neg (by omega)]
      rw [e] at g1 g2
      obtain ⟨o1, o2, o3, o4, o5, o6⟩ := ok0
      refine ⟨σ3, _, ?_, rfl, rfl, g2, ⟨o1, o2, o3, o4, o5, by show (0 : Int) ≤ arm ∧ arm < 9223372036854775808; omega⟩⟩
      rw [if_pos (by simpa using c), wrap_id (by omega) (by omega), g1]
      rfl
    · exact ⟨σ2, _, by rw [if_neg (by simpa using c)], rfl, rfl, dv2, ok0⟩
  obtain ⟨σ3, A3, e3, hL, hd3, dv3, ok3⟩ := e32
  obtain ⟨recs, best, σ4, e4, f4, B, segs, s, cs, q1, q2, q3, q4, q5, q6, q7⟩ := f52_eq dv3 ok3 hd3 hL l
  obtain ⟨σ5, σ6, B6, js6, segs6, e5, e6, f6, x6, t6, r6, a6, d6, w6, dv5, o6⟩ := crash_open (most := 100) cs keep (by decide) (by decide)
  obtain ⟨p1, p2, p3, p4⟩ := after_crash q1 q2 q3 q4 o6
  have hlen := w6.len
  have hfl := firstS_le w6.good
  have hnx := nextS_le w6.good
  have e56 := f56_eq w6.lg w6.good (by omega) p1 p2
  have hgot : ((recs.take (nextS segs6)).drop (firstS segs6)).length = nextS segs6 - firstS segs6 := by rw [List.length_drop, List.length_take]; omega
  refine ⟨σ6, ?_⟩
  unfold f17
  rw [e0]
  simp only [Option.bind_eq_bind, Option.bind_some]
  rw [if_neg (by simp), e1]
  simp only [Option.bind_some]
  rw [if_neg (by simp)]
  simp only [Option.bind_eq_bind] at e3
  rw [e3]
  simp only [Option.bind_some]
  rw [e4]
  simp only [Option.bind_some]
  rw [e5]
  simp only [Option.bind_some]
  have e6' : f53 (some σ.t105.length) [108, 111, 103] 100 σ5 = some ((some σ5.t128.length, 0), σ6) := e6
  rw [if_neg (by simp), e6']
  simp only [Option.bind_some]
  rw [if_neg (by simp), e56]
  simp only [Option.bind_some, f54_eq w6.lg, f55_eq w6.lg w6.good (by omega), f60_eq w6.lg]
  have hw : IntKind.wrap .i64 (((nextS segs6 : Nat) : Int) - ((firstS segs6 : Nat) : Int)) = ((nextS segs6 - firstS segs6 : Nat) : Int) := by rw [wrap_id (by omega) (by omega)]; omega
  rw [if_neg (by simp; omega), if_neg (by simp; omega), if_neg (by simp; omega), hw, hgot, if_neg (by simp), if_neg (by simp), if_pos (by simp), if_pos (by omega)]
  have hi1 : Int.toNat ((nextS segs6 : Nat) : Int) = nextS segs6 := by omega
  have hi2 : Int.toNat ((firstS segs6 : Nat) : Int) = firstS segs6 := by omega
  rw [hi1, hi2, f51_eq _ (by rw [hgot]; omega)]
  rfl
end
end Go.Proofs.Ytlfemhkabjafeaa.M

/- Plain law of the log: WalAgain. -/
set_option linter.unusedVariables false
set_option linter.unusedSimpArgs false
namespace Go.Proofs.Ytlfemhkabjafeaa.M

theorem f14_true {l : List K97.den} {keep more : List Int} (σ : St) : ∃ σ', f14 l keep more σ = some (true, σ') := by
  obtain ⟨σ1, σ2, e0, e1, dv2, ok0⟩ := disk_awake σ
  obtain ⟨recs, best, σ4, e4, f4, B, segs, s, cs, q1, q2, q3, q4, q5, q6, q7⟩ := f52_eq dv2 ok0 rfl rfl l
  obtain ⟨σ5, σ6, B6, js6, segs6, e5, e6, f6, x6, t6, r6, a6, d6, w6, dv5, o6⟩ := crash_open (most := 100) cs keep (by decide) (by decide)
  obtain ⟨p1, p2, p3, p4⟩ := after_crash q1 q2 q3 q4 o6
  obtain ⟨σ7, σ8, B8, js8, segs8, e7, e8, f8, x8, t8, r8, a8, d8, w8, dv7, o8⟩ := crash_open (most := 64) w6.cs more (by decide) (by decide)
  have hs : segs8 = segs6 := by
    rcases o8 with ⟨h1, h2⟩ | ⟨pre, g, m, h1, h2, h3, h4, _⟩
    · rw [h1, h2]
    · have hl : lastLen segs6 = g.2.length := by rw [h1, lastLen_app]
      rw [hl] at h2 h3
      have hm : m = 0 := by omega
      subst hm
      rw [h2, h1]
      simp
  subst hs
  have hlen := w6.len
  have hne : σ5.t128.length ≠ σ7.t128.length := by
    have := (List.getElem?_eq_some_iff.1 w6.lg.lo).1
    omega
  have lga := w6.lg.keep x8 hne
  have hfl := firstS_le w6.good
  have hnx := nextS_le w6.good
  have ea := f56_eq lga w6.good (by omega) p1 p2
  have eb := f56_eq w8.lg w8.good (by omega) p1 p2
  have hu : usedL B8.2.1 = usedL B6.2.1 := by rw [usedL_perm w8.dl.all, usedL_perm w6.dl.all]
  obtain ⟨o, qs, hq6⟩ := w6.dv
  obtain ⟨o', qs', hq8⟩ := w8.dv
  have u6 := f20_eq hq6 w6.ok
  have u8 := f20_eq hq8 w8.ok
  have hgot : ((recs.take (nextS segs8)).drop (firstS segs8)).length = nextS segs8 - firstS segs8 := by rw [List.length_drop, List.length_take]; omega
  refine ⟨σ8, ?_⟩
  unfold f14
  rw [e0]
  simp only [Option.bind_eq_bind, Option.bind_some]
  rw [if_neg (by simp), e1]
  simp only [Option.bind_some]
  rw [if_neg (by simp), e4]
  simp only [Option.bind_some]
  rw [e5]
  simp only [Option.bind_some]
  have e6' : f53 (some σ.t105.length) [108, 111, 103] 100 σ5 = some ((some σ5.t128.length, 0), σ6) := e6
  rw [e6']
  simp only [Option.bind_some]
  rw [u6]
  simp only [Option.bind_some]
  rw [e7]
  simp only [Option.bind_some]
  have e8' : f53 (some σ.t105.length) [108, 111, 103] 64 σ7 = some ((some σ7.t128.length, 0), σ8) := e8
  rw [e8']
  simp only [Option.bind_some]
  rw [if_pos (by simp), f54_eq lga, f54_eq w8.lg]
  simp only [Option.bind_some]
  rw [if_pos (by simp), f55_eq lga w6.good (by omega), f55_eq w8.lg w8.good (by omega)]
  simp only [Option.bind_some]
  rw [if_pos (by simp), ea, eb]
  simp only [Option.bind_some]
  rw [f51_eq _ (by rw [hgot]; omega)]
  simp only [Option.bind_some]
  rw [if_pos trivial, u8, hu]
  simp
end Go.Proofs.Ytlfemhkabjafeaa.M

/- A law of the log: what its function answers, from what comes in. -/
set_option linter.unusedVariables false
namespace Go.Proofs.Ytlfemhkabjafeaa.M
theorem walAgain_pure {x0 : List K97.den} {x1 x2 : List Int} (f0 : Kd.Fits (.list K97) x0) (f1 : Kd.Fits (.list .i) x1) (f2 : Kd.Fits (.list .i) x2) : ∃ σ', f14 x0 x1 x2 St.none = some (true, σ') := f14_true St.none
end Go.Proofs.Ytlfemhkabjafeaa.M
