/- Own texts, laid together: T7 YA T6 YC Q7. -/
import Derived.Test.YtlfemhkabjafeaaProg
import Derived.Test.YtlfemhkabjafeaaZ1
import Derived.Test.YtlfemhkabjafeaaZ2
import Derived.Test.YtlfemhkabjafeaaZ3
import Derived.Test.YtlfemhkabjafeaaZ4
import Derived.Test.YtlfemhkabjafeaaZ5
/- Printed by own program: twins and walks. -/
set_option linter.unusedVariables false
set_option maxRecDepth 100000
namespace Go.Proofs.Ytlfemhkabjafeaa.M
open Go.Proofs (Try.prog Try.func17 Try.f17)

def f17 (p0 : List K97.den) (p1 : Int) (p2 : List Int) (σ : St) : Option (Bool × St) :=
  f18 100000 σ >>= fun r3 =>
  if ((r3.1.2 != 0) || r3.1.1.isNone) = true then
  some (false, r3.2)
  else
  f48 r3.2 >>= fun r7 =>
  if (!r7.1) = true then
  some (false, r7.2)
  else
  (if (decide (p1 > 0)) = true then
  f32 r3.1.1 (IntKind.wrap .i64 (p1)) r7.2 >>= fun r46 =>
  some r46.2
  else
  some r7.2 : Option St) >>= fun z12 =>
  f52 r3.1.1 p0 z12 >>= fun r15 =>
  f27 r3.1.1 p2 r15.2 >>= fun r17 =>
  if r15.1.1.isNone = true then
  some (true, r17.2)
  else
  f53 r3.1.1 [108, 111, 103] 100 r17.2 >>= fun r22 =>
  if ((r22.1.2 != 0) || r22.1.1.isNone) = true then
  some (false, r22.2)
  else
  f56 r22.1.1 r22.2 >>= fun r27 =>
  f54 r22.1.1 r22.2 >>= fun r29 =>
  if (decide (r29 > r15.1.2.2)) = true then
  some (false, r22.2)
  else
  f55 r22.1.1 r22.2 >>= fun r33 =>
  if (decide (r33 < r15.1.2.2)) = true then
  some (false, r22.2)
  else
  f55 r22.1.1 r22.2 >>= fun r35 =>
  if (decide (r35 > (r15.1.2.1.length : Int))) = true then
  some (false, r22.2)
  else
  f55 r22.1.1 r22.2 >>= fun r37 =>
  if ((r27.length : Int) != (IntKind.wrap .i64 (r37 - r29))) = true then
  some (false, r22.2)
  else
  f60 r22.1.1 r22.2 >>= fun r39 =>
  f55 r22.1.1 r22.2 >>= fun r40 =>
  if (r39 != r40) = true then
  some (false, r22.2)
  else
  if (decide (r29 ≥ 0)) = true then
  f55 r22.1.1 r22.2 >>= fun r43 =>
  if (0 : Int) ≤ r29 ∧ r29 ≤ r43 ∧ r43 ≤ (r15.1.2.1.length : Int) then
  f51 r27 ((r15.1.2.1.take (Int.toNat r43)).drop (Int.toNat r29)) >>= fun r45 =>
  some (r45, r22.2)
  else none
  else
  some (false, r22.2)

theorem f17_ok {p0 : List K97.den} {p1 : Int} {p2 : List Int} {σ : St} {p : Bool × St} (h : f17 p0 p1 p2 σ = some p) : Spec Try.prog 17 [.kv (.list K97) p0, .kv (.int .u8) p1, .kv (.list .i) p2] (tabs σ) (.kv .bool p.1) (tabs p.2) := by
  refine Spec.intro Try.func17 (by kernel_rfl) rfl (by kernel_rfl) (fun a w G0 Ls hE hH hN => ?_)
  have hle : G0.le G0 := Gh.le_refl G0
  unfold f17 at h
  refine wp_seq_k (fun K hK1 => ?_)
  refine wp_region_from ?_
  refine segO 1 [] [(6, .kv .bool false)] (Os := []) trivial hE hH (by kernel_rfl) (fun a hE => ?_)
  refine wpFrom_end (by kernel_rfl) ?_
  refine Exit.then_normal (hK1 _ _ ?_)
  refine wp_seq_k (fun K hK2 => ?_)
  refine wp_region_from ?_
  obtain ⟨r3, hr3, h⟩ := bs h
  refine stepCall (d := (some 17)) (f18_ok hr3) hE hH hN (by kernel_rfl) (by kernel_rfl) trivial (fun a w G hl1 hE hH => ?_)
  have hle := Gh.le_trans hle hl1
  refine segO 5 [] [(7, .kv (.ptr 105) r3.1.1), (8, .kv .i r3.1.2)] (Os := []) trivial hE hH (by kernel_rfl) (fun a hE => ?_)
  refine wpFrom_end (by kernel_rfl) ?_
  refine Exit.then_normal (hK2 _ _ ?_)
  refine wp_seq_k (fun K hK4 => ?_)
  refine wp_seq_k (fun K hK5 => ?_)
  refine wp_region_from ?_
  refine segO 7 [] [(26, .kv .bool ((r3.1.2 != 0) || r3.1.1.isNone))] (Os := []) trivial hE hH (by kernel_rfl) (fun a hE => ?_)
  by_cases hc : ((r3.1.2 != 0) || r3.1.1.isNone) = true
  · replace h := ifT hc h
    have hE := hE.setB 26 (by kernel_rfl) hc
    refine segO 3 [] [(29, .kv .bool true)] (Os := []) trivial hE hH (by kernel_rfl) (fun a hE => ?_)
    refine wpFrom_end (by kernel_rfl) ?_
    refine Exit.then_normal (hK5 _ _ ?_)
    refine condT hE (by kernel_rfl) rfl ?_
    refine wp_seq_k (fun K hK6 => ?_)
    refine wp_region_from ?_
    refine segO 1 [] [(6, .kv .bool false)] (Os := []) trivial hE hH (by kernel_rfl) (fun a hE => ?_)
    refine wpFrom_end (by kernel_rfl) ?_
    refine Exit.then_normal (hK6 _ _ ?_)
    refine wp_ret ?_
    refine Exit.then_ret ?_
    cases h
    exact ret1 rfl hE hle hH (by kernel_rfl)
  · replace h := ifN hc h
    have hE := hE.setB 26 (by kernel_rfl) (bf hc)
    obtain ⟨r7, hr7, h⟩ := bs h
    refine stepCall (d := (some 27)) (f48_ok hr7) hE hH hN (by kernel_rfl) (by kernel_rfl) trivial (fun a w G hl2 hE hH => ?_)
    have hle := Gh.le_trans hle hl2
    refine segO 2 [] [(29, .kv .bool (!r7.1))] (Os := []) trivial hE hH (by kernel_rfl) (fun a hE => ?_)
    refine wpFrom_end (by kernel_rfl) ?_
    refine Exit.then_normal (hK5 _ _ ?_)
    refine condE (b := !r7.1) hE (by kernel_rfl) (fun hc => ?_) (fun hc => ?_)
    · replace h := ifT hc h
      refine wp_seq_k (fun K hK8 => ?_)
      refine wp_region_from ?_
      refine segO 1 [] [(6, .kv .bool false)] (Os := []) trivial hE hH (by kernel_rfl) (fun a hE => ?_)
      refine wpFrom_end (by kernel_rfl) ?_
      refine Exit.then_normal (hK8 _ _ ?_)
      refine wp_ret ?_
      refine Exit.then_ret ?_
      cases h
      exact ret1 rfl hE hle hH (by kernel_rfl)
    · replace h := ifF hc h
      refine wp_skip ?_
      refine Exit.then_normal (hK4 _ _ ?_)
      refine wp_seq_k (fun K hK9 => ?_)
      refine wp_seq_k (fun K hK10 => ?_)
      refine wp_region_from ?_
      refine segO 2 [] [(31, .kv .bool (decide (p1 > 0)))] (Os := []) trivial hE hH (by kernel_rfl) (fun a hE => ?_)
      refine wpFrom_end (by kernel_rfl) ?_
      refine Exit.then_normal (hK10 _ _ ?_)
      obtain ⟨z12, hz12, h⟩ := bs h
      refine join_intro (I := fun a w => ∃ (G : Gh), G0.le G ∧ EnvR G 106 a [(0, .kv (.list K97) p0), (2, .kv (.list .i) p2), (6, .kv .bool false), (7, .kv (.ptr 105) r3.1.1)] ∧ Holds w G (tabs z12) (Ls)) trivial ?_ ?_
      · intro a w hI
        obtain ⟨G, hle, hE, hH⟩ := hI
        refine Exit.then_normal (hK9 _ _ ?_)
        refine wp_seq_k (fun K hK14 => ?_)
        refine wp_region_from ?_
        refine segO 2 [] [(37, .kv (.ptr 105) r3.1.1), (38, .kv (.list K97) p0)] (Os := []) trivial hE hH (by kernel_rfl) (fun a hE => ?_)
        obtain ⟨r15, hr15, h⟩ := bs h
        refine stepCall (d := (some 39)) (f52_ok hr15) hE hH hN (by kernel_rfl) (by kernel_rfl) trivial (fun a w G hl4 hE hH => ?_)
        have hle := Gh.le_trans hle hl4
        refine segO 7 [] [(9, .kv (.ptr 128) r15.1.1), (10, .kv (.list .str) r15.1.2.1), (11, .kv .i r15.1.2.2)] (Os := []) trivial hE hH (by kernel_rfl) (fun a hE => ?_)
        refine wpFrom_end (by kernel_rfl) ?_
        refine Exit.then_normal (hK14 _ _ ?_)
        refine wp_seq_k (fun K hK16 => ?_)
        refine wp_region_from ?_
        refine segO 2 [] [(43, .kv (.ptr 105) r3.1.1), (44, .kv (.list .i) p2)] (Os := []) trivial hE hH (by kernel_rfl) (fun a hE => ?_)
        obtain ⟨r17, hr17, h⟩ := bs h
        refine stepCall (d := (some 45)) (f27_ok hr17) hE hH hN (by kernel_rfl) (by kernel_rfl) trivial (fun a w G hl5 hE hH => ?_)
        have hle := Gh.le_trans hle hl5
        refine wpFrom_end (by kernel_rfl) ?_
        refine Exit.then_normal (hK16 _ _ ?_)
        refine wp_seq_k (fun K hK18 => ?_)
        refine wp_seq_k (fun K hK19 => ?_)
        refine wp_region_from ?_
        refine segO 2 [] [(47, .kv .bool r15.1.1.isNone)] (Os := []) trivial hE hH (by kernel_rfl) (fun a hE => ?_)
        refine wpFrom_end (by kernel_rfl) ?_
        refine Exit.then_normal (hK19 _ _ ?_)
        refine condE (b := r15.1.1.isNone) hE (by kernel_rfl) (fun hc => ?_) (fun hc => ?_)
        · replace h := ifT hc h
          refine wp_seq_k (fun K hK20 => ?_)
          refine wp_region_from ?_
          refine segO 1 [] [(6, .kv .bool true)] (Os := []) trivial hE hH (by kernel_rfl) (fun a hE => ?_)
          refine wpFrom_end (by kernel_rfl) ?_
          refine Exit.then_normal (hK20 _ _ ?_)
          refine wp_ret ?_
          refine Exit.then_ret ?_
          cases h
          exact ret1 rfl hE hle hH (by kernel_rfl)
        · replace h := ifF hc h
          refine wp_skip ?_
          refine Exit.then_normal (hK18 _ _ ?_)
          refine wp_seq_k (fun K hK21 => ?_)
          refine wp_region_from ?_
          refine segO 1 [] [(49, .kv (.ptr 105) r3.1.1)] (Os := []) trivial hE hH (by kernel_rfl) (fun a hE => ?_)
          obtain ⟨r22, hr22, h⟩ := bs h
          refine stepCall (d := (some 50)) (f53_ok hr22) hE hH hN (by kernel_rfl) (by kernel_rfl) trivial (fun a w G hl6 hE hH => ?_)
          have hle := Gh.le_trans hle hl6
          refine segO 5 [] [(12, .kv (.ptr 128) r22.1.1), (13, .kv .i r22.1.2)] (Os := []) trivial hE hH (by kernel_rfl) (fun a hE => ?_)
          refine wpFrom_end (by kernel_rfl) ?_
          refine Exit.then_normal (hK21 _ _ ?_)
          refine wp_seq_k (fun K hK23 => ?_)
          refine wp_seq_k (fun K hK24 => ?_)
          refine wp_region_from ?_
          refine segO 6 [] [(58, .kv .bool ((r22.1.2 != 0) || r22.1.1.isNone))] (Os := []) trivial hE hH (by kernel_rfl) (fun a hE => ?_)
          refine wpFrom_end (by kernel_rfl) ?_
          refine Exit.then_normal (hK24 _ _ ?_)
          refine condE (b := (r22.1.2 != 0) || r22.1.1.isNone) hE (by kernel_rfl) (fun hc => ?_) (fun hc => ?_)
          · replace h := ifT hc h
            refine wp_seq_k (fun K hK25 => ?_)
            refine wp_region_from ?_
            refine segO 1 [] [(6, .kv .bool false)] (Os := []) trivial hE hH (by kernel_rfl) (fun a hE => ?_)
            refine wpFrom_end (by kernel_rfl) ?_
            refine Exit.then_normal (hK25 _ _ ?_)
            refine wp_ret ?_
            refine Exit.then_ret ?_
            cases h
            exact ret1 rfl hE hle hH (by kernel_rfl)
          · replace h := ifF hc h
            refine wp_skip ?_
            refine Exit.then_normal (hK23 _ _ ?_)
            refine wp_seq_k (fun K hK26 => ?_)
            refine wp_region_from ?_
            refine segO 1 [] [(59, .kv (.ptr 128) r22.1.1)] (Os := []) trivial hE hH (by kernel_rfl) (fun a hE => ?_)
            obtain ⟨r27, hr27, h⟩ := bs h
            refine stepCall (d := (some 60)) (f56_ok hr27) hE hH hN (by kernel_rfl) (by kernel_rfl) trivial (fun a w G hl7 hE hH => ?_)
            have hle := Gh.le_trans hle hl7
            refine segO 1 [] [(14, .kv (.list .str) r27)] (Os := []) trivial hE hH (by kernel_rfl) (fun a hE => ?_)
            refine wpFrom_end (by kernel_rfl) ?_
            refine Exit.then_normal (hK26 _ _ ?_)
            refine wp_seq_k (fun K hK28 => ?_)
            refine wp_region_from ?_
            refine segO 1 [] [(61, .kv (.ptr 128) r22.1.1)] (Os := []) trivial hE hH (by kernel_rfl) (fun a hE => ?_)
            obtain ⟨r29, hr29, h⟩ := bs h
            refine stepCall (d := (some 62)) (f54_ok hr29) hE hH hN (by kernel_rfl) (by kernel_rfl) trivial (fun a w G hl8 hE hH => ?_)
            have hle := Gh.le_trans hle hl8
            refine segO 1 [] [(15, .kv .i r29)] (Os := []) trivial hE hH (by kernel_rfl) (fun a hE => ?_)
            refine wpFrom_end (by kernel_rfl) ?_
            refine Exit.then_normal (hK28 _ _ ?_)
            refine wp_seq_k (fun K hK30 => ?_)
            refine wp_seq_k (fun K hK31 => ?_)
            refine wp_region_from ?_
            refine segO 4 [] [(66, .kv .bool (decide (r29 > r15.1.2.2)))] (Os := []) trivial hE hH (by kernel_rfl) (fun a hE => ?_)
            by_cases hc : (decide (r29 > r15.1.2.2)) = true
            · replace h := ifT hc h
              have hE := hE.setB 66 (by kernel_rfl) hc
              refine segO 28 [] [(94, .kv .bool true)] (Os := []) trivial hE hH (by kernel_rfl) (fun a hE => ?_)
              refine wpFrom_end (by kernel_rfl) ?_
              refine Exit.then_normal (hK31 _ _ ?_)
              refine condT hE (by kernel_rfl) rfl ?_
              refine wp_seq_k (fun K hK32 => ?_)
              refine wp_region_from ?_
              refine segO 1 [] [(6, .kv .bool false)] (Os := []) trivial hE hH (by kernel_rfl) (fun a hE => ?_)
              refine wpFrom_end (by kernel_rfl) ?_
              refine Exit.then_normal (hK32 _ _ ?_)
              refine wp_ret ?_
              refine Exit.then_ret ?_
              cases h
              exact ret1 rfl hE hle hH (by kernel_rfl)
            · replace h := ifN hc h
              have hE := hE.setB 66 (by kernel_rfl) (bf hc)
              refine segO 1 [] [(67, .kv (.ptr 128) r22.1.1)] (Os := []) trivial hE hH (by kernel_rfl) (fun a hE => ?_)
              obtain ⟨r33, hr33, h⟩ := bs h
              refine stepCall (d := (some 68)) (f55_ok hr33) hE hH hN (by kernel_rfl) (by kernel_rfl) trivial (fun a w G hl9 hE hH => ?_)
              have hle := Gh.le_trans hle hl9
              refine segO 4 [] [(72, .kv .bool (decide (r33 < r15.1.2.2)))] (Os := []) trivial hE hH (by kernel_rfl) (fun a hE => ?_)
              by_cases hc : (decide (r33 < r15.1.2.2)) = true
              · replace h := ifT hc h
                have hE := hE.setB 72 (by kernel_rfl) hc
                refine segO 22 [] [(94, .kv .bool true)] (Os := []) trivial hE hH (by kernel_rfl) (fun a hE => ?_)
                refine wpFrom_end (by kernel_rfl) ?_
                refine Exit.then_normal (hK31 _ _ ?_)
                refine condT hE (by kernel_rfl) rfl ?_
                refine wp_seq_k (fun K hK34 => ?_)
                refine wp_region_from ?_
                refine segO 1 [] [(6, .kv .bool false)] (Os := []) trivial hE hH (by kernel_rfl) (fun a hE => ?_)
                refine wpFrom_end (by kernel_rfl) ?_
                refine Exit.then_normal (hK34 _ _ ?_)
                refine wp_ret ?_
                refine Exit.then_ret ?_
                cases h
                exact ret1 rfl hE hle hH (by kernel_rfl)
              · replace h := ifN hc h
                have hE := hE.setB 72 (by kernel_rfl) (bf hc)
                refine segO 1 [] [(73, .kv (.ptr 128) r22.1.1)] (Os := []) trivial hE hH (by kernel_rfl) (fun a hE => ?_)
                obtain ⟨r35, hr35, h⟩ := bs h
                refine stepCall (d := (some 74)) (f55_ok hr35) hE hH hN (by kernel_rfl) (by kernel_rfl) trivial (fun a w G hl10 hE hH => ?_)
                have hle := Gh.le_trans hle hl10
                refine segO 5 [] [(79, .kv .bool (decide (r35 > (r15.1.2.1.length : Int))))] (Os := []) trivial hE hH (by kernel_rfl) (fun a hE => ?_)
                by_cases hc : (decide (r35 > (r15.1.2.1.length : Int))) = true
                · replace h := ifT hc h
                  have hE := hE.setB 79 (by kernel_rfl) hc
                  refine segO 15 [] [(94, .kv .bool true)] (Os := []) trivial hE hH (by kernel_rfl) (fun a hE => ?_)
                  refine wpFrom_end (by kernel_rfl) ?_
                  refine Exit.then_normal (hK31 _ _ ?_)
                  refine condT hE (by kernel_rfl) rfl ?_
                  refine wp_seq_k (fun K hK36 => ?_)
                  refine wp_region_from ?_
                  refine segO 1 [] [(6, .kv .bool false)] (Os := []) trivial hE hH (by kernel_rfl) (fun a hE => ?_)
                  refine wpFrom_end (by kernel_rfl) ?_
                  refine Exit.then_normal (hK36 _ _ ?_)
                  refine wp_ret ?_
                  refine Exit.then_ret ?_
                  cases h
                  exact ret1 rfl hE hle hH (by kernel_rfl)
                · replace h := ifN hc h
                  have hE := hE.setB 79 (by kernel_rfl) (bf hc)
                  refine segO 3 [] [(81, .kv .i (r27.length : Int)), (82, .kv (.ptr 128) r22.1.1)] (Os := []) trivial hE hH (by kernel_rfl) (fun a hE => ?_)
                  obtain ⟨r37, hr37, h⟩ := bs h
                  refine stepCall (d := (some 83)) (f55_ok hr37) hE hH hN (by kernel_rfl) (by kernel_rfl) trivial (fun a w G hl11 hE hH => ?_)
                  have hle := Gh.le_trans hle hl11
                  refine segO 5 [] [(88, .kv .bool ((r27.length : Int) != (IntKind.wrap .i64 (r37 - r29))))] (Os := []) trivial hE hH (by kernel_rfl) (fun a hE => ?_)
                  by_cases hc : ((r27.length : Int) != (IntKind.wrap .i64 (r37 - r29))) = true
                  · replace h := ifT hc h
                    have hE := hE.setB 88 (by kernel_rfl) hc
                    refine segO 6 [] [(94, .kv .bool true)] (Os := []) trivial hE hH (by kernel_rfl) (fun a hE => ?_)
                    refine wpFrom_end (by kernel_rfl) ?_
                    refine Exit.then_normal (hK31 _ _ ?_)
                    refine condT hE (by kernel_rfl) rfl ?_
                    refine wp_seq_k (fun K hK38 => ?_)
                    refine wp_region_from ?_
                    refine segO 1 [] [(6, .kv .bool false)] (Os := []) trivial hE hH (by kernel_rfl) (fun a hE => ?_)
                    refine wpFrom_end (by kernel_rfl) ?_
                    refine Exit.then_normal (hK38 _ _ ?_)
                    refine wp_ret ?_
                    refine Exit.then_ret ?_
                    cases h
                    exact ret1 rfl hE hle hH (by kernel_rfl)
                  · replace h := ifN hc h
                    have hE := hE.setB 88 (by kernel_rfl) (bf hc)
                    refine segO 1 [] [(89, .kv (.ptr 128) r22.1.1)] (Os := []) trivial hE hH (by kernel_rfl) (fun a hE => ?_)
                    obtain ⟨r39, hr39, h⟩ := bs h
                    refine stepCall (d := (some 90)) (f60_ok hr39) hE hH hN (by kernel_rfl) (by kernel_rfl) trivial (fun a w G hl12 hE hH => ?_)
                    have hle := Gh.le_trans hle hl12
                    refine segO 1 [] [(91, .kv (.ptr 128) r22.1.1)] (Os := []) trivial hE hH (by kernel_rfl) (fun a hE => ?_)
                    obtain ⟨r40, hr40, h⟩ := bs h
                    refine stepCall (d := (some 92)) (f55_ok hr40) hE hH hN (by kernel_rfl) (by kernel_rfl) trivial (fun a w G hl13 hE hH => ?_)
                    have hle := Gh.le_trans hle hl13
                    refine segO 2 [] [(94, .kv .bool (r39 != r40))] (Os := []) trivial hE hH (by kernel_rfl) (fun a hE => ?_)
                    refine wpFrom_end (by kernel_rfl) ?_
                    refine Exit.then_normal (hK31 _ _ ?_)
                    refine condE (b := r39 != r40) hE (by kernel_rfl) (fun hc => ?_) (fun hc => ?_)
                    · replace h := ifT hc h
                      refine wp_seq_k (fun K hK41 => ?_)
                      refine wp_region_from ?_
                      refine segO 1 [] [(6, .kv .bool false)] (Os := []) trivial hE hH (by kernel_rfl) (fun a hE => ?_)
                      refine wpFrom_end (by kernel_rfl) ?_
                      refine Exit.then_normal (hK41 _ _ ?_)
                      refine wp_ret ?_
                      refine Exit.then_ret ?_
                      cases h
                      exact ret1 rfl hE hle hH (by kernel_rfl)
                    · replace h := ifF hc h
                      refine wp_skip ?_
                      refine Exit.then_normal (hK30 _ _ ?_)
                      refine wp_seq_k (fun K hK42 => ?_)
                      refine wp_region_from ?_
                      refine segO 3 [] [(97, .kv .bool (decide (r29 ≥ 0)))] (Os := []) trivial hE hH (by kernel_rfl) (fun a hE => ?_)
                      by_cases hc : (decide (r29 ≥ 0)) = true
                      · replace h := ifT hc h
                        have hE := hE.setB 97 (by kernel_rfl) hc
                        refine segO 4 [] [(98, .kv (.list .str) r27), (99, .kv (.list .str) r15.1.2.1), (100, .kv .i r29), (101, .kv (.ptr 128) r22.1.1)] (Os := []) trivial hE hH (by kernel_rfl) (fun a hE => ?_)
                        obtain ⟨r43, hr43, h⟩ := bs h
                        refine stepCall (d := (some 102)) (f55_ok hr43) hE hH hN (by kernel_rfl) (by kernel_rfl) trivial (fun a w G hl14 hE hH => ?_)
                        have hle := Gh.le_trans hle hl14
                        obtain ⟨q44, h⟩ := gd h
                        refine segO 1 [] [(103, .kv (.list .str) ((r15.1.2.1.take (Int.toNat r43)).drop (Int.toNat r29)))] (Os := [_]) ⟨q44, trivial⟩ hE hH (by kernel_rfl) (fun a hE => ?_)
                        obtain ⟨r45, hr45, h⟩ := bs h
                        refine stepCall (d := (some 104)) (f51_ok hr45) hE hH hN (by kernel_rfl) (by kernel_rfl) trivial (fun a w G hl15 hE hH => ?_)
                        have hle := Gh.le_trans hle hl15
                        refine segO 2 [] [(6, .kv .bool r45)] (Os := []) trivial hE hH (by kernel_rfl) (fun a hE => ?_)
                        refine wpFrom_end (by kernel_rfl) ?_
                        refine Exit.then_normal (hK42 _ _ ?_)
                        refine wp_ret ?_
                        cases h
                        exact ret1 rfl hE hle hH (by kernel_rfl)
                      · replace h := ifN hc h
                        have hE := hE.setB 97 (by kernel_rfl) (bf hc)
                        refine segO 9 [] [(6, .kv .bool false)] (Os := []) trivial hE hH (by kernel_rfl) (fun a hE => ?_)
                        refine wpFrom_end (by kernel_rfl) ?_
                        refine Exit.then_normal (hK42 _ _ ?_)
                        refine wp_ret ?_
                        cases h
                        exact ret1 rfl hE hle hH (by kernel_rfl)
      · intro KK hKK ho
        have hj13 : ∀ (a : Act) (w : World) (G : Gh), G0.le G → EnvR G 106 a [(0, .kv (.list K97) p0), (2, .kv (.list .i) p2), (6, .kv .bool false), (7, .kv (.ptr 105) r3.1.1)] → Holds w G (tabs z12) (Ls) → KK .normal a w := fun a w G  h1 h2 h3 => hKK a w ⟨G, h1, h2, h3⟩
        replace h := hz12
        refine condE (b := decide (p1 > 0)) hE (by kernel_rfl) (fun hc => ?_) (fun hc => ?_)
        · replace h := ifT hc h
          refine wp_region_from ?_
          refine segO 3 [] [(32, .kv (.ptr 105) r3.1.1), (34, .kv .i (IntKind.wrap .i64 (p1)))] (Os := []) trivial hE hH (by kernel_rfl) (fun a hE => ?_)
          obtain ⟨r46, hr46, h⟩ := bs h
          refine stepCall (d := (some 35)) (f32_ok hr46) hE hH hN (by kernel_rfl) (by kernel_rfl) trivial (fun a w G hl16 hE hH => ?_)
          have hle := Gh.le_trans hle hl16
          refine wpFrom_end (by kernel_rfl) ?_
          cases h
          exact hj13 _ _ _  hle (hE.subC (by kernel_rfl)) hH
        · replace h := ifF hc h
          refine wp_skip ?_
          cases h
          exact hj13 _ _ _  hle (hE.subC (by kernel_rfl)) hH
end Go.Proofs.Ytlfemhkabjafeaa.M

/- Plain law of the log: WalKeeps. -/
set_option linter.unusedVariables false
set_option linter.unusedSimpArgs false
namespace Go.Proofs.Ytlfemhkabjafeaa.M

section
variable {σ : St} {l d n0 : Nat} {most : Int} {js : List Nat} {segs : List Sg} {safe s : Nat} {A : AD} {R : List (List UInt8)}

/-- A new disk, behind what must come at any rate. -/
theorem disk_awake (σ : St) : ∃ σ1 σ2, f18 100000 σ = some ((some σ.t105.length, 0), σ1) ∧ f48 σ1 = some (true, σ2) ∧ DV σ2 σ.t105.length σ.t108.length (100000, [], 0, false, ()) ∧ OkA (100000, [], 0, false, ()) := by
  obtain ⟨e0, dv0, ok0⟩ := f18_eq (σ := σ) (room := 100000) (by decide) (by decide)
  obtain ⟨σ2, e2, kp2⟩ := f48_eq (σ.add105 (100000, [], 0, false, ()))
  exact ⟨_, σ2, e0, e2, dv0.keep kp2, ok0⟩

/-- What is left behind a crash, and Open, of a log that was played. -/
theorem after_crash {recs : List (List UInt8)} {best : Nat} (hS : ∀ g ∈ segs, Sub recs g) (hn : nextS segs ≤ recs.length) (hb : best ≤ safeOf segs s) (hf : firstS segs ≤ best) {segs' : List Sg} {keep : List Int}
    (h : (segs = [] ∧ segs' = []) ∨ ∃ pre g m, segs = pre ++ [g] ∧ segs' = pre ++ [(g.1, g.2.take (s + m))] ∧ m ≤ g.2.length - s ∧ s ≤ g.2.length ∧ ∃ t, (segB (g.1 + s) (g.2.drop s)).take (keepN keep (segB (g.1 + s) (g.2.drop s)).length) = segB (g.1 + s) ((g.2.drop s).take m) ++ t) :
    (∀ g ∈ segs', Sub recs g) ∧ nextS segs' ≤ recs.length ∧ best ≤ nextS segs' ∧ firstS segs' ≤ best := by
  rcases h with ⟨rfl, rfl⟩ | ⟨pre, g, m, rfl, rfl, h1, h2, _⟩
  · exact ⟨hS, hn, hb, hf⟩
  · rw [safeOf_app] at hb
    rw [nextS_app] at hn ⊢
    refine ⟨fun a ha => ?_, ?_, ?_, ?_⟩
    · rcases List.mem_append.1 ha with ha | ha
      · exact hS a (List.mem_append.2 (.inl ha))
      · simp only [List.mem_cons, List.not_mem_nil, or_false] at ha
        rw [ha]
        exact (hS g (by simp)).take _
    · unfold sgN at *
      simp only [List.length_take]; omega
    · unfold sgN
      simp only [List.length_take]; omega
    · have : firstS (pre ++ [(g.1, g.2.take (s + m))]) = firstS (pre ++ [g]) := by
        cases pre with
        | nil => rfl
        | cons _ _ => rfl
      rw [this]; exact hf

theorem f17_true {l : List K97.den} {arm : Int} {keep : List Int} (h1 : 0 ≤ arm) (h2 : arm < 256) (σ : St) : ∃ σ', f17 l arm keep σ = some (true, σ') := by
  obtain ⟨σ1, σ2, e0, e1, dv2, ok0⟩ := disk_awake σ
  have e32 : ∃ σ3 A3, (if (decide (arm > 0)) = true then f32 (some σ.t105.length) (IntKind.wrap .i64 (arm)) σ2 >>= fun r46 => some r46.2 else some σ2 : Option St) = some σ3 ∧ A3.2.1 = [] ∧ downA A3 = false ∧ DV σ3 σ.t105.length σ.t108.length A3 ∧ OkA A3 := by
    by_cases c : 0 < arm
    · obtain ⟨σ3, g1, g2, g3⟩ := f32_eq dv2 arm
      have e : armA (100000, [], 0, false, ()) arm = (0, (100000, [], arm, false, ())) := by
        unfold armA
        rw [if_neg (by decide), if_neg (by omega)]
      rw [e] at g1 g2
      obtain ⟨o1, o2, o3, o4, o5, o6⟩ := ok0
      refine ⟨σ3, _, ?_, rfl, rfl, g2, ⟨o1, o2, o3, o4, o5, by show (0 : Int) ≤ arm ∧ arm < 9223372036854775808; omega⟩⟩
      rw [if_pos (by simpa using c), wrap_id (by omega) (by omega), g1]
      rfl
    · exact ⟨σ2, _, by rw [if_neg (by simpa using c)], rfl, rfl, dv2, ok0⟩
  obtain ⟨σ3, A3, e3, hL, hd3, dv3, ok3⟩ := e32
  obtain ⟨recs, best, σ4, e4, f4, B, segs, s, cs, q1, q2, q3, q4, q5, q6, q7⟩ := f52_eq dv3 ok3 hd3 hL l
  obtain ⟨σ5, σ6, B6, js6, segs6, e5, e6, f6, x6, t6, r6, a6, d6, w6, dv5, o6⟩ := crash_open (most := 100) cs keep (by decide) (by decide)
  obtain ⟨p1, p2, p3, p4⟩ := after_crash q1 q2 q3 q4 o6
  have hlen := w6.len
  have hfl := firstS_le w6.good
  have hnx := nextS_le w6.good
  have e56 := f56_eq w6.lg w6.good (by omega) p1 p2
  have hgot : ((recs.take (nextS segs6)).drop (firstS segs6)).length = nextS segs6 - firstS segs6 := by rw [List.length_drop, List.length_take]; omega
  refine ⟨σ6, ?_⟩
  unfold f17
  rw [e0]
  simp only [Option.bind_eq_bind, Option.bind_some]
  rw [if_neg (by simp), e1]
  simp only [Option.bind_some]
  rw [if_neg (by simp)]
  simp only [Option.bind_eq_bind] at e3
  rw [e3]
  simp only [Option.bind_some]
  rw [e4]
  simp only [Option.bind_some]
  rw [e5]
  simp only [Option.bind_some]
  have e6' : f53 (some σ.t105.length) [108, 111, 103] 100 σ5 = some ((some σ5.t128.length, 0), σ6) := e6
  rw [if_neg (by simp), e6']
  simp only [Option.bind_some]
  rw [if_neg (by simp), e56]
  simp only [Option.bind_some, f54_eq w6.lg, f55_eq w6.lg w6.good (by omega), f60_eq w6.lg]
  have hw : IntKind.wrap .i64 (((nextS segs6 : Nat) : Int) - ((firstS segs6 : Nat) : Int)) = ((nextS segs6 - firstS segs6 : Nat) : Int) := by rw [wrap_id (by omega) (by omega)]; omega
  rw [if_neg (by simp; omega), if_neg (by simp; omega), if_neg (by simp; omega), hw, hgot, if_neg (by simp), if_neg (by simp), if_pos (by simp), if_pos (by omega)]
  have hi1 : Int.toNat ((nextS segs6 : Nat) : Int) = nextS segs6 := by omega
  have hi2 : Int.toNat ((firstS segs6 : Nat) : Int) = firstS segs6 := by omega
  rw [hi1, hi2, f51_eq _ (by rw [hgot]; omega)]
  rfl
end
end Go.Proofs.Ytlfemhkabjafeaa.M

/- Printed by own program: twins and walks. -/
set_option linter.unusedVariables false
set_option maxRecDepth 100000
namespace Go.Proofs.Ytlfemhkabjafeaa.M
open Go.Proofs (Try.prog Try.func15 Try.f15)

def f15 (p0 : List K97.den) (p1 : Int) (σ : St) : Option (Bool × St) :=
  f18 100000 σ >>= fun r3 =>
  if ((r3.1.2 != 0) || r3.1.1.isNone) = true then
  some (false, r3.2)
  else
  f48 r3.2 >>= fun r7 =>
  if (!r7.1) = true then
  some (false, r7.2)
  else
  f52 r3.1.1 p0 r7.2 >>= fun r10 =>
  if r10.1.1.isNone = true then
  some (false, r10.2)
  else
  f54 r10.1.1 r10.2 >>= fun r15 =>
  f57 r10.1.1 p1 r10.2 >>= fun r18 =>
  if (r18.1 != 0) = true then
  some (false, r18.2)
  else
  f54 r10.1.1 r18.2 >>= fun r20 =>
  if (decide (r20 < r15)) = true then
  some (false, r18.2)
  else
  f54 r10.1.1 r18.2 >>= fun r22 =>
  if (decide (r22 > r15)) = true then
  f54 r10.1.1 r18.2 >>= fun r23 =>
  if (decide (r23 > p1)) = true then
  some (false, r18.2)
  else
  if ((decide ((r10.1.2.1.length : Int) > 0)) && (decide (p1 ≥ 0))) = true then
  f55 r10.1.1 r18.2 >>= fun r27 =>
  if (decide (p1 < r27)) = true then
  f54 r10.1.1 r18.2 >>= fun r28 =>
  if (decide (p1 ≥ r28)) = true then
  f58 r10.1.1 p1 r18.2 >>= fun r30 =>
  if (r30.2 != 0) = true then
  some (false, r18.2)
  else
  (ix r10.1.2.1 p1) >>= fun x33 =>
  if (!(r30.1 == x33)) = true then
  some (false, r18.2)
  else
  f54 r10.1.1 r18.2 >>= fun r36 =>
  f58 r10.1.1 (IntKind.wrap .i64 (r36 - 1)) r18.2 >>= fun r37 =>
  f55 r10.1.1 r18.2 >>= fun r39 =>
  f58 r10.1.1 r39 r18.2 >>= fun r40 =>
  if ((r37.2 == 13) && (r40.2 == 8)) = true then
  f56 r10.1.1 r18.2 >>= fun r42 =>
  f54 r10.1.1 r18.2 >>= fun r43 =>
  f55 r10.1.1 r18.2 >>= fun r44 =>
  if (0 : Int) ≤ r43 ∧ r43 ≤ r44 ∧ r44 ≤ (r10.1.2.1.length : Int) then
  f51 r42 ((r10.1.2.1.take (Int.toNat r44)).drop (Int.toNat r43)) >>= fun r46 =>
  some (r46, r18.2)
  else none
  else
  some (false, r18.2)
  else
  f54 r10.1.1 r18.2 >>= fun r48 =>
  f58 r10.1.1 (IntKind.wrap .i64 (r48 - 1)) r18.2 >>= fun r49 =>
  f55 r10.1.1 r18.2 >>= fun r51 =>
  f58 r10.1.1 r51 r18.2 >>= fun r52 =>
  if ((r49.2 == 13) && (r52.2 == 8)) = true then
  f56 r10.1.1 r18.2 >>= fun r54 =>
  f54 r10.1.1 r18.2 >>= fun r55 =>
  f55 r10.1.1 r18.2 >>= fun r56 =>
  if (0 : Int) ≤ r55 ∧ r55 ≤ r56 ∧ r56 ≤ (r10.1.2.1.length : Int) then
  f51 r54 ((r10.1.2.1.take (Int.toNat r56)).drop (Int.toNat r55)) >>= fun r58 =>
  some (r58, r18.2)
  else none
  else
  some (false, r18.2)
  else
  f54 r10.1.1 r18.2 >>= fun r60 =>
  f58 r10.1.1 (IntKind.wrap .i64 (r60 - 1)) r18.2 >>= fun r61 =>
  f55 r10.1.1 r18.2 >>= fun r63 =>
  f58 r10.1.1 r63 r18.2 >>= fun r64 =>
  if ((r61.2 == 13) && (r64.2 == 8)) = true then
  f56 r10.1.1 r18.2 >>= fun r66 =>
  f54 r10.1.1 r18.2 >>= fun r67 =>
  f55 r10.1.1 r18.2 >>= fun r68 =>
  if (0 : Int) ≤ r67 ∧ r67 ≤ r68 ∧ r68 ≤ (r10.1.2.1.length : Int) then
  f51 r66 ((r10.1.2.1.take (Int.toNat r68)).drop (Int.toNat r67)) >>= fun r70 =>
  some (r70, r18.2)
  else none
  else
  some (false, r18.2)
  else
  f54 r10.1.1 r18.2 >>= fun r72 =>
  f58 r10.1.1 (IntKind.wrap .i64 (r72 - 1)) r18.2 >>= fun r73 =>
  f55 r10.1.1 r18.2 >>= fun r75 =>
  f58 r10.1.1 r75 r18.2 >>= fun r76 =>
  if ((r73.2 == 13) && (r76.2 == 8)) = true then
  f56 r10.1.1 r18.2 >>= fun r78 =>
  f54 r10.1.1 r18.2 >>= fun r79 =>
  f55 r10.1.1 r18.2 >>= fun r80 =>
  if (0 : Int) ≤ r79 ∧ r79 ≤ r80 ∧ r80 ≤ (r10.1.2.1.length : Int) then
  f51 r78 ((r10.1.2.1.take (Int.toNat r80)).drop (Int.toNat r79)) >>= fun r82 =>
  some (r82, r18.2)
  else none
  else
  some (false, r18.2)
  else
  if ((decide ((r10.1.2.1.length : Int) > 0)) && (decide (p1 ≥ 0))) = true then
  f55 r10.1.1 r18.2 >>= fun r85 =>
  if (decide (p1 < r85)) = true then
  f54 r10.1.1 r18.2 >>= fun r86 =>
  if (decide (p1 ≥ r86)) = true then
  f58 r10.1.1 p1 r18.2 >>= fun r88 =>
  if (r88.2 != 0) = true then
  some (false, r18.2)
  else
  (ix r10.1.2.1 p1) >>= fun x91 =>
  if (!(r88.1 == x91)) = true then
  some (false, r18.2)
  else
  f54 r10.1.1 r18.2 >>= fun r94 =>
  f58 r10.1.1 (IntKind.wrap .i64 (r94 - 1)) r18.2 >>= fun r95 =>
  f55 r10.1.1 r18.2 >>= fun r97 =>
  f58 r10.1.1 r97 r18.2 >>= fun r98 =>
  if ((r95.2 == 13) && (r98.2 == 8)) = true then
  f56 r10.1.1 r18.2 >>= fun r100 =>
  f54 r10.1.1 r18.2 >>= fun r101 =>
  f55 r10.1.1 r18.2 >>= fun r102 =>
  if (0 : Int) ≤ r101 ∧ r101 ≤ r102 ∧ r102 ≤ (r10.1.2.1.length : Int) then
  f51 r100 ((r10.1.2.1.take (Int.toNat r102)).drop (Int.toNat r101)) >>= fun r104 =>
  some (r104, r18.2)
  else none
  else
  some (false, r18.2)
  else
  f54 r10.1.1 r18.2 >>= fun r106 =>
  f58 r10.1.1 (IntKind.wrap .i64 (r106 - 1)) r18.2 >>= fun r107 =>
  f55 r10.1.1 r18.2 >>= fun r109 =>
  f58 r10.1.1 r109 r18.2 >>= fun r110 =>
  if ((r107.2 == 13) && (r110.2 == 8)) = true then
  f56 r10.1.1 r18.2 >>= fun r112 =>
  f54 r10.1.1 r18.2 >>= fun r113 =>
  f55 r10.1.1 r18.2 >>= fun r114 =>
  if (0 : Int) ≤ r113 ∧ r113 ≤ r114 ∧ r114 ≤ (r10.1.2.1.length : Int) then
  f51 r112 ((r10.1.2.1.take (Int.toNat r114)).drop (Int.toNat r113)) >>= fun r116 =>
  some (r116, r18.2)
  else none
  else
  some (false, r18.2)
  else
  f54 r10.1.1 r18.2 >>= fun r118 =>
  f58 r10.1.1 (IntKind.wrap .i64 (r118 - 1)) r18.2 >>= fun r119 =>
  f55 r10.1.1 r18.2 >>= fun r121 =>
  f58 r10.1.1 r121 r18.2 >>= fun r122 =>
  if ((r119.2 == 13) && (r122.2 == 8)) = true then
  f56 r10.1.1 r18.2 >>= fun r124 =>
  f54 r10.1.1 r18.2 >>= fun r125 =>
  f55 r10.1.1 r18.2 >>= fun r126 =>
  if (0 : Int) ≤ r125 ∧ r125 ≤ r126 ∧ r126 ≤ (r10.1.2.1.length : Int) then
  f51 r124 ((r10.1.2.1.take (Int.toNat r126)).drop (Int.toNat r125)) >>= fun r128 =>
  some (r128, r18.2)
  else none
  else
  some (false, r18.2)
  else
  f54 r10.1.1 r18.2 >>= fun r130 =>
  f58 r10.1.1 (IntKind.wrap .i64 (r130 - 1)) r18.2 >>= fun r131 =>
  f55 r10.1.1 r18.2 >>= fun r133 =>
  f58 r10.1.1 r133 r18.2 >>= fun r134 =>
  if ((r131.2 == 13) && (r134.2 == 8)) = true then
  f56 r10.1.1 r18.2 >>= fun r136 =>
  f54 r10.1.1 r18.2 >>= fun r137 =>
  f55 r10.1.1 r18.2 >>= fun r138 =>
  if (0 : Int) ≤ r137 ∧ r137 ≤ r138 ∧ r138 ≤ (r10.1.2.1.length : Int) then
  f51 r136 ((r10.1.2.1.take (Int.toNat r138)).drop (Int.toNat r137)) >>= fun r140 =>
  some (r140, r18.2)
  else none
  else
  some (false, r18.2)

theorem f15_ok {p0 : List K97.den} {p1 : Int} {σ : St} {p : Bool × St} (h : f15 p0 p1 σ = some p) : Spec Try.prog 15 [.kv (.list K97) p0, .kv .i p1] (tabs σ) (.kv .bool p.1) (tabs p.2) := by
  refine Spec.intro Try.func15 (by kernel_rfl) rfl (by kernel_rfl) (fun a w G0 Ls hE hH hN => ?_)
  have hle : G0.le G0 := Gh.le_refl G0
  unfold f15 at h
  refine wp_seq_k (fun K hK1 => ?_)
  refine wp_region_from ?_
  refine segO 1 [] [(4, .kv .bool false)] (Os := []) trivial hE hH (by kernel_rfl) (fun a hE => ?_)
  refine wpFrom_end (by kernel_rfl) ?_
  refine Exit.then_normal (hK1 _ _ ?_)
  refine wp_seq_k (fun K hK2 => ?_)
  refine wp_region_from ?_
  obtain ⟨r3, hr3, h⟩ := bs h
  refine stepCall (d := (some 18)) (f18_ok hr3) hE hH hN (by kernel_rfl) (by kernel_rfl) trivial (fun a w G hl1 hE hH => ?_)
  have hle := Gh.le_trans hle hl1
  refine segO 5 [] [(5, .kv (.ptr 105) r3.1.1), (6, .kv .i r3.1.2)] (Os := []) trivial hE hH (by kernel_rfl) (fun a hE => ?_)
  refine wpFrom_end (by kernel_rfl) ?_
  refine Exit.then_normal (hK2 _ _ ?_)
  refine wp_seq_k (fun K hK4 => ?_)
  refine wp_seq_k (fun K hK5 => ?_)
  refine wp_region_from ?_
  refine segO 7 [] [(27, .kv .bool ((r3.1.2 != 0) || r3.1.1.isNone))] (Os := []) trivial hE hH (by kernel_rfl) (fun a hE => ?_)
  by_cases hc : ((r3.1.2 != 0) || r3.1.1.isNone) = true
  · replace h := ifT hc h
    have hE := hE.setB 27 (by kernel_rfl) hc
    refine segO 3 [] [(30, .kv .bool true)] (Os := []) trivial hE hH (by kernel_rfl) (fun a hE => ?_)
    refine wpFrom_end (by kernel_rfl) ?_
    refine Exit.then_normal (hK5 _ _ ?_)
    refine condT hE (by kernel_rfl) rfl ?_
    refine wp_seq_k (fun K hK6 => ?_)
    refine wp_region_from ?_
    refine segO 1 [] [(4, .kv .bool false)] (Os := []) trivial hE hH (by kernel_rfl) (fun a hE => ?_)
    refine wpFrom_end (by kernel_rfl) ?_
    refine Exit.then_normal (hK6 _ _ ?_)
    refine wp_ret ?_
    refine Exit.then_ret ?_
    cases h
    exact ret1 rfl hE hle hH (by kernel_rfl)
  · replace h := ifN hc h
    have hE := hE.setB 27 (by kernel_rfl) (bf hc)
    obtain ⟨r7, hr7, h⟩ := bs h
    refine stepCall (d := (some 28)) (f48_ok hr7) hE hH hN (by kernel_rfl) (by kernel_rfl) trivial (fun a w G hl2 hE hH => ?_)
    have hle := Gh.le_trans hle hl2
    refine segO 2 [] [(30, .kv .bool (!r7.1))] (Os := []) trivial hE hH (by kernel_rfl) (fun a hE => ?_)
    refine wpFrom_end (by kernel_rfl) ?_
    refine Exit.then_normal (hK5 _ _ ?_)
    refine condE (b := !r7.1) hE (by kernel_rfl) (fun hc => ?_) (fun hc => ?_)
    · replace h := ifT hc h
      refine wp_seq_k (fun K hK8 => ?_)
      refine wp_region_from ?_
      refine segO 1 [] [(4, .kv .bool false)] (Os := []) trivial hE hH (by kernel_rfl) (fun a hE => ?_)
      refine wpFrom_end (by kernel_rfl) ?_
      refine Exit.then_normal (hK8 _ _ ?_)
      refine wp_ret ?_
      refine Exit.then_ret ?_
      cases h
      exact ret1 rfl hE hle hH (by kernel_rfl)
    · replace h := ifF hc h
      refine wp_skip ?_
      refine Exit.then_normal (hK4 _ _ ?_)
      refine wp_seq_k (fun K hK9 => ?_)
      refine wp_region_from ?_
      refine segO 2 [] [(32, .kv (.ptr 105) r3.1.1), (33, .kv (.list K97) p0)] (Os := []) trivial hE hH (by kernel_rfl) (fun a hE => ?_)
      obtain ⟨r10, hr10, h⟩ := bs h
      refine stepCall (d := (some 34)) (f52_ok hr10) hE hH hN (by kernel_rfl) (by kernel_rfl) trivial (fun a w G hl3 hE hH => ?_)
      have hle := Gh.le_trans hle hl3
      refine segO 7 [] [(7, .kv (.ptr 128) r10.1.1), (8, .kv (.list .str) r10.1.2.1)] (Os := []) trivial hE hH (by kernel_rfl) (fun a hE => ?_)
      refine wpFrom_end (by kernel_rfl) ?_
      refine Exit.then_normal (hK9 _ _ ?_)
      refine wp_seq_k (fun K hK11 => ?_)
      refine wp_seq_k (fun K hK12 => ?_)
      refine wp_region_from ?_
      refine segO 2 [] [(39, .kv .bool r10.1.1.isNone)] (Os := []) trivial hE hH (by kernel_rfl) (fun a hE => ?_)
      refine wpFrom_end (by kernel_rfl) ?_
      refine Exit.then_normal (hK12 _ _ ?_)
      refine condE (b := r10.1.1.isNone) hE (by kernel_rfl) (fun hc => ?_) (fun hc => ?_)
      · replace h := ifT hc h
        refine wp_seq_k (fun K hK13 => ?_)
        refine wp_region_from ?_
        refine segO 1 [] [(4, .kv .bool false)] (Os := []) trivial hE hH (by kernel_rfl) (fun a hE => ?_)
        refine wpFrom_end (by kernel_rfl) ?_
        refine Exit.then_normal (hK13 _ _ ?_)
        refine wp_ret ?_
        refine Exit.then_ret ?_
        cases h
        exact ret1 rfl hE hle hH (by kernel_rfl)
      · replace h := ifF hc h
        refine wp_skip ?_
        refine Exit.then_normal (hK11 _ _ ?_)
        refine wp_seq_k (fun K hK14 => ?_)
        refine wp_region_from ?_
        refine segO 1 [] [(40, .kv (.ptr 128) r10.1.1)] (Os := []) trivial hE hH (by kernel_rfl) (fun a hE => ?_)
        obtain ⟨r15, hr15, h⟩ := bs h
        refine stepCall (d := (some 41)) (f54_ok hr15) hE hH hN (by kernel_rfl) (by kernel_rfl) trivial (fun a w G hl4 hE hH => ?_)
        have hle := Gh.le_trans hle hl4
        refine segO 1 [] [(10, .kv .i r15)] (Os := []) trivial hE hH (by kernel_rfl) (fun a hE => ?_)
        refine wpFrom_end (by kernel_rfl) ?_
        refine Exit.then_normal (hK14 _ _ ?_)
        refine wp_seq_k (fun K hK16 => ?_)
        refine wp_seq_k (fun K hK17 => ?_)
        refine wp_region_from ?_
        refine segO 2 [] [(42, .kv (.ptr 128) r10.1.1), (43, .kv .i p1)] (Os := []) trivial hE hH (by kernel_rfl) (fun a hE => ?_)
        obtain ⟨r18, hr18, h⟩ := bs h
        refine stepCall (d := (some 44)) (f57_ok hr18) hE hH hN (by kernel_rfl) (by kernel_rfl) trivial (fun a w G hl5 hE hH => ?_)
        have hle := Gh.le_trans hle hl5
        refine segO 2 [] [(46, .kv .bool (r18.1 != 0))] (Os := []) trivial hE hH (by kernel_rfl) (fun a hE => ?_)
        by_cases hc : (r18.1 != 0) = true
        · replace h := ifT hc h
          have hE := hE.setB 46 (by kernel_rfl) hc
          refine segO 15 [] [(52, .kv .bool true), (57, .undef)] (Os := []) trivial hE hH (by kernel_rfl) (fun a hE => ?_)
          refine stepSkip (d := (some 62)) hE (by kernel_rfl) (by kernel_rfl) (fun a hE => ?_)
          refine segO 1 [] [(63, .kv .bool true)] (Os := []) trivial hE hH (by kernel_rfl) (fun a hE => ?_)
          refine wpFrom_end (by kernel_rfl) ?_
          refine Exit.then_normal (hK17 _ _ ?_)
          refine condT hE (by kernel_rfl) rfl ?_
          refine wp_seq_k (fun K hK19 => ?_)
          refine wp_region_from ?_
          refine segO 1 [] [(4, .kv .bool false)] (Os := []) trivial hE hH (by kernel_rfl) (fun a hE => ?_)
          refine wpFrom_end (by kernel_rfl) ?_
          refine Exit.then_normal (hK19 _ _ ?_)
          refine wp_ret ?_
          refine Exit.then_ret ?_
          cases h
          exact ret1 rfl hE hle hH (by kernel_rfl)
        · replace h := ifN hc h
          have hE := hE.setB 46 (by kernel_rfl) (bf hc)
          refine segO 1 [] [(47, .kv (.ptr 128) r10.1.1)] (Os := []) trivial hE hH (by kernel_rfl) (fun a hE => ?_)
          obtain ⟨r20, hr20, h⟩ := bs h
          refine stepCall (d := (some 48)) (f54_ok hr20) hE hH hN (by kernel_rfl) (by kernel_rfl) trivial (fun a w G hl6 hE hH => ?_)
          have hle := Gh.le_trans hle hl6
          refine segO 4 [] [(52, .kv .bool (decide (r20 < r15)))] (Os := []) trivial hE hH (by kernel_rfl) (fun a hE => ?_)
          by_cases hc : (decide (r20 < r15)) = true
          · replace h := ifT hc h
            have hE := hE.setB 52 (by kernel_rfl) hc
            refine segO 9 [] [(57, .undef)] (Os := []) trivial hE hH (by kernel_rfl) (fun a hE => ?_)
            refine stepSkip (d := (some 62)) hE (by kernel_rfl) (by kernel_rfl) (fun a hE => ?_)
            refine segO 1 [] [(63, .kv .bool true)] (Os := []) trivial hE hH (by kernel_rfl) (fun a hE => ?_)
            refine wpFrom_end (by kernel_rfl) ?_
            refine Exit.then_normal (hK17 _ _ ?_)
            refine condT hE (by kernel_rfl) rfl ?_
            refine wp_seq_k (fun K hK21 => ?_)
            refine wp_region_from ?_
            refine segO 1 [] [(4, .kv .bool false)] (Os := []) trivial hE hH (by kernel_rfl) (fun a hE => ?_)
            refine wpFrom_end (by kernel_rfl) ?_
            refine Exit.then_normal (hK21 _ _ ?_)
            refine wp_ret ?_
            refine Exit.then_ret ?_
            cases h
            exact ret1 rfl hE hle hH (by kernel_rfl)
          · replace h := ifN hc h
            have hE := hE.setB 52 (by kernel_rfl) (bf hc)
            refine segO 1 [] [(53, .kv (.ptr 128) r10.1.1)] (Os := []) trivial hE hH (by kernel_rfl) (fun a hE => ?_)
            obtain ⟨r22, hr22, h⟩ := bs h
            refine stepCall (d := (some 54)) (f54_ok hr22) hE hH hN (by kernel_rfl) (by kernel_rfl) trivial (fun a w G hl7 hE hH => ?_)
            have hle := Gh.le_trans hle hl7
            refine segO 3 [] [(57, .kv .bool (decide (r22 > r15)))] (Os := []) trivial hE hH (by kernel_rfl) (fun a hE => ?_)
            by_cases hc : (decide (r22 > r15)) = true
            · replace h := ifT hc h
              have hE := hE.setB 57 (by kernel_rfl) hc
              refine segO 1 [] [(58, .kv (.ptr 128) r10.1.1)] (Os := []) trivial hE hH (by kernel_rfl) (fun a hE => ?_)
              obtain ⟨r23, hr23, h⟩ := bs h
              refine stepCall (d := (some 59)) (f54_ok hr23) hE hH hN (by kernel_rfl) (by kernel_rfl) trivial (fun a w G hl8 hE hH => ?_)
              have hle := Gh.le_trans hle hl8
              refine segO 4 [] [(63, .kv .bool (decide (r23 > p1)))] (Os := []) trivial hE hH (by kernel_rfl) (fun a hE => ?_)
              refine wpFrom_end (by kernel_rfl) ?_
              refine Exit.then_normal (hK17 _ _ ?_)
              refine condE (b := decide (r23 > p1)) hE (by kernel_rfl) (fun hc => ?_) (fun hc => ?_)
              · replace h := ifT hc h
                refine wp_seq_k (fun K hK24 => ?_)
                refine wp_region_from ?_
                refine segO 1 [] [(4, .kv .bool false)] (Os := []) trivial hE hH (by kernel_rfl) (fun a hE => ?_)
                refine wpFrom_end (by kernel_rfl) ?_
                refine Exit.then_normal (hK24 _ _ ?_)
                refine wp_ret ?_
                refine Exit.then_ret ?_
                cases h
                exact ret1 rfl hE hle hH (by kernel_rfl)
              · replace h := ifF hc h
                refine wp_skip ?_
                refine Exit.then_normal (hK16 _ _ ?_)
                refine wp_seq_k (fun K hK25 => ?_)
                refine wp_seq_k (fun K hK26 => ?_)
                refine wp_region_from ?_
                refine segO 8 [] [(71, .kv .bool ((decide ((r10.1.2.1.length : Int) > 0)) && (decide (p1 ≥ 0))))] (Os := []) trivial hE hH (by kernel_rfl) (fun a hE => ?_)
                by_cases hc : ((decide ((r10.1.2.1.length : Int) > 0)) && (decide (p1 ≥ 0))) = true
                · replace h := ifT hc h
                  have hE := hE.setB 71 (by kernel_rfl) hc
                  refine segO 2 [] [(72, .kv .i p1), (73, .kv (.ptr 128) r10.1.1)] (Os := []) trivial hE hH (by kernel_rfl) (fun a hE => ?_)
                  obtain ⟨r27, hr27, h⟩ := bs h
                  refine stepCall (d := (some 74)) (f55_ok hr27) hE hH hN (by kernel_rfl) (by kernel_rfl) trivial (fun a w G hl9 hE hH => ?_)
                  have hle := Gh.le_trans hle hl9
                  refine segO 3 [] [(77, .kv .bool (decide (p1 < r27)))] (Os := []) trivial hE hH (by kernel_rfl) (fun a hE => ?_)
                  by_cases hc : (decide (p1 < r27)) = true
                  · replace h := ifT hc h
                    have hE := hE.setB 77 (by kernel_rfl) hc
                    refine segO 2 [] [(78, .kv .i p1), (79, .kv (.ptr 128) r10.1.1)] (Os := []) trivial hE hH (by kernel_rfl) (fun a hE => ?_)
                    obtain ⟨r28, hr28, h⟩ := bs h
                    refine stepCall (d := (some 80)) (f54_ok hr28) hE hH hN (by kernel_rfl) (by kernel_rfl) trivial (fun a w G hl10 hE hH => ?_)
                    have hle := Gh.le_trans hle hl10
                    refine segO 2 [] [(82, .kv .bool (decide (p1 ≥ r28)))] (Os := []) trivial hE hH (by kernel_rfl) (fun a hE => ?_)
                    refine wpFrom_end (by kernel_rfl) ?_
                    refine Exit.then_normal (hK26 _ _ ?_)
                    refine condE (b := decide (p1 ≥ r28)) hE (by kernel_rfl) (fun hc => ?_) (fun hc => ?_)
                    · replace h := ifT hc h
                      refine wp_seq_k (fun K hK29 => ?_)
                      refine wp_region_from ?_
                      refine segO 2 [] [(84, .kv (.ptr 128) r10.1.1), (85, .kv .i p1)] (Os := []) trivial hE hH (by kernel_rfl) (fun a hE => ?_)
                      obtain ⟨r30, hr30, h⟩ := bs h
                      refine stepCall (d := (some 86)) (f58_ok hr30) hE hH hN (by kernel_rfl) (by kernel_rfl) trivial (fun a w G hl11 hE hH => ?_)
                      have hle := Gh.le_trans hle hl11
                      refine segO 5 [] [(11, .kv .str r30.1), (12, .kv .i r30.2)] (Os := []) trivial hE hH (by kernel_rfl) (fun a hE => ?_)
                      refine wpFrom_end (by kernel_rfl) ?_
                      refine Exit.then_normal (hK29 _ _ ?_)
                      refine wp_seq_k (fun K hK31 => ?_)
                      refine wp_region_from ?_
                      refine segO 3 [] [(91, .kv .bool (r30.2 != 0))] (Os := []) trivial hE hH (by kernel_rfl) (fun a hE => ?_)
                      by_cases hc : (r30.2 != 0) = true
                      · replace h := ifT hc h
                        have hE := hE.setB 91 (by kernel_rfl) hc
                        refine segO 7 [] [(98, .kv .bool true)] (Os := []) trivial hE hH (by kernel_rfl) (fun a hE => ?_)
                        refine wpFrom_end (by kernel_rfl) ?_
                        refine Exit.then_normal (hK31 _ _ ?_)
                        refine condT hE (by kernel_rfl) rfl ?_
                        refine wp_seq_k (fun K hK32 => ?_)
                        refine wp_region_from ?_
                        refine segO 1 [] [(4, .kv .bool false)] (Os := []) trivial hE hH (by kernel_rfl) (fun a hE => ?_)
                        refine wpFrom_end (by kernel_rfl) ?_
                        refine Exit.then_normal (hK32 _ _ ?_)
                        refine wp_ret ?_
                        refine Exit.then_ret ?_
                        cases h
                        exact ret1 rfl hE hle hH (by kernel_rfl)
                      · replace h := ifN hc h
                        have hE := hE.setB 91 (by kernel_rfl) (bf hc)
                        obtain ⟨x33, hx33, h⟩ := bs h
                        refine segO 7 [.ix .str x33] [(98, .kv .bool (!(r30.1 == x33)))] (Os := [_]) ⟨(IxAt.of (k := .str) hx33), trivial⟩ hE hH (by kernel_rfl) (fun a hE => ?_)
                        refine wpFrom_end (by kernel_rfl) ?_
                        refine Exit.then_normal (hK31 _ _ ?_)
                        refine condE (b := !(r30.1 == x33)) hE (by kernel_rfl) (fun hc => ?_) (fun hc => ?_)
                        · replace h := ifT hc h
                          refine wp_seq_k (fun K hK34 => ?_)
                          refine wp_region_from ?_
                          refine segO 1 [] [(4, .kv .bool false)] (Os := []) trivial hE hH (by kernel_rfl) (fun a hE => ?_)
                          refine wpFrom_end (by kernel_rfl) ?_
                          refine Exit.then_normal (hK34 _ _ ?_)
                          refine wp_ret ?_
                          refine Exit.then_ret ?_
                          cases h
                          exact ret1 rfl hE hle hH (by kernel_rfl)
                        · replace h := ifF hc h
                          refine wp_skip ?_
                          refine Exit.then_normal (hK25 _ _ ?_)
                          refine wp_seq_k (fun K hK35 => ?_)
                          refine wp_region_from ?_
                          refine segO 2 [] [(100, .kv (.ptr 128) r10.1.1), (101, .kv (.ptr 128) r10.1.1)] (Os := []) trivial hE hH (by kernel_rfl) (fun a hE => ?_)
                          obtain ⟨r36, hr36, h⟩ := bs h
                          refine stepCall (d := (some 102)) (f54_ok hr36) hE hH hN (by kernel_rfl) (by kernel_rfl) trivial (fun a w G hl12 hE hH => ?_)
                          have hle := Gh.le_trans hle hl12
                          refine segO 1 [] [(103, .kv .i (IntKind.wrap .i64 (r36 - 1)))] (Os := []) trivial hE hH (by kernel_rfl) (fun a hE => ?_)
                          obtain ⟨r37, hr37, h⟩ := bs h
                          refine stepCall (d := (some 104)) (f58_ok hr37) hE hH hN (by kernel_rfl) (by kernel_rfl) trivial (fun a w G hl13 hE hH => ?_)
                          have hle := Gh.le_trans hle hl13
                          refine segO 5 [] [(14, .kv .i r37.2)] (Os := []) trivial hE hH (by kernel_rfl) (fun a hE => ?_)
                          refine wpFrom_end (by kernel_rfl) ?_
                          refine Exit.then_normal (hK35 _ _ ?_)
                          refine wp_seq_k (fun K hK38 => ?_)
                          refine wp_region_from ?_
                          refine segO 2 [] [(108, .kv (.ptr 128) r10.1.1), (109, .kv (.ptr 128) r10.1.1)] (Os := []) trivial hE hH (by kernel_rfl) (fun a hE => ?_)
                          obtain ⟨r39, hr39, h⟩ := bs h
                          refine stepCall (d := (some 110)) (f55_ok hr39) hE hH hN (by kernel_rfl) (by kernel_rfl) trivial (fun a w G hl14 hE hH => ?_)
                          have hle := Gh.le_trans hle hl14
                          obtain ⟨r40, hr40, h⟩ := bs h
                          refine stepCall (d := (some 111)) (f58_ok hr40) hE hH hN (by kernel_rfl) (by kernel_rfl) trivial (fun a w G hl15 hE hH => ?_)
                          have hle := Gh.le_trans hle hl15
                          refine segO 5 [] [(16, .kv .i r40.2)] (Os := []) trivial hE hH (by kernel_rfl) (fun a hE => ?_)
                          refine wpFrom_end (by kernel_rfl) ?_
                          refine Exit.then_normal (hK38 _ _ ?_)
                          refine wp_seq_k (fun K hK41 => ?_)
                          refine wp_region_from ?_
                          refine segO 7 [] [(120, .kv .bool ((r37.2 == 13) && (r40.2 == 8)))] (Os := []) trivial hE hH (by kernel_rfl) (fun a hE => ?_)
                          by_cases hc : ((r37.2 == 13) && (r40.2 == 8)) = true
                          · replace h := ifT hc h
                            have hE := hE.setB 120 (by kernel_rfl) hc
                            refine segO 1 [] [(121, .kv (.ptr 128) r10.1.1)] (Os := []) trivial hE hH (by kernel_rfl) (fun a hE => ?_)
                            obtain ⟨r42, hr42, h⟩ := bs h
                            refine stepCall (d := (some 122)) (f56_ok hr42) hE hH hN (by kernel_rfl) (by kernel_rfl) trivial (fun a w G hl16 hE hH => ?_)
                            have hle := Gh.le_trans hle hl16
                            refine segO 2 [] [(123, .kv (.list .str) r10.1.2.1), (124, .kv (.ptr 128) r10.1.1)] (Os := []) trivial hE hH (by kernel_rfl) (fun a hE => ?_)
                            obtain ⟨r43, hr43, h⟩ := bs h
                            refine stepCall (d := (some 125)) (f54_ok hr43) hE hH hN (by kernel_rfl) (by kernel_rfl) trivial (fun a w G hl17 hE hH => ?_)
                            have hle := Gh.le_trans hle hl17
                            refine segO 1 [] [(126, .kv (.ptr 128) r10.1.1)] (Os := []) trivial hE hH (by kernel_rfl) (fun a hE => ?_)
                            obtain ⟨r44, hr44, h⟩ := bs h
                            refine stepCall (d := (some 127)) (f55_ok hr44) hE hH hN (by kernel_rfl) (by kernel_rfl) trivial (fun a w G hl18 hE hH => ?_)
                            have hle := Gh.le_trans hle hl18
                            obtain ⟨q45, h⟩ := gd h
                            refine segO 1 [] [(128, .kv (.list .str) ((r10.1.2.1.take (Int.toNat r44)).drop (Int.toNat r43)))] (Os := [_]) ⟨q45, trivial⟩ hE hH (by kernel_rfl) (fun a hE => ?_)
                            obtain ⟨r46, hr46, h⟩ := bs h
                            refine stepCall (d := (some 129)) (f51_ok hr46) hE hH hN (by kernel_rfl) (by kernel_rfl) trivial (fun a w G hl19 hE hH => ?_)
                            have hle := Gh.le_trans hle hl19
                            refine segO 2 [] [(4, .kv .bool r46)] (Os := []) trivial hE hH (by kernel_rfl) (fun a hE => ?_)
                            refine wpFrom_end (by kernel_rfl) ?_
                            refine Exit.then_normal (hK41 _ _ ?_)
                            refine wp_ret ?_
                            cases h
                            exact ret1 rfl hE hle hH (by kernel_rfl)
                          · replace h := ifN hc h
                            have hE := hE.setB 120 (by kernel_rfl) (bf hc)
                            refine segO 11 [] [(4, .kv .bool false)] (Os := []) trivial hE hH (by kernel_rfl) (fun a hE => ?_)
                            refine wpFrom_end (by kernel_rfl) ?_
                            refine Exit.then_normal (hK41 _ _ ?_)
                            refine wp_ret ?_
                            cases h
                            exact ret1 rfl hE hle hH (by kernel_rfl)
                    · replace h := ifF hc h
                      refine wp_skip ?_
                      refine Exit.then_normal (hK25 _ _ ?_)
                      refine wp_seq_k (fun K hK47 => ?_)
                      refine wp_region_from ?_
                      refine segO 2 [] [(100, .kv (.ptr 128) r10.1.1), (101, .kv (.ptr 128) r10.1.1)] (Os := []) trivial hE hH (by kernel_rfl) (fun a hE => ?_)
                      obtain ⟨r48, hr48, h⟩ := bs h
                      refine stepCall (d := (some 102)) (f54_ok hr48) hE hH hN (by kernel_rfl) (by kernel_rfl) trivial (fun a w G hl20 hE hH => ?_)
                      have hle := Gh.le_trans hle hl20
                      refine segO 1 [] [(103, .kv .i (IntKind.wrap .i64 (r48 - 1)))] (Os := []) trivial hE hH (by kernel_rfl) (fun a hE => ?_)
                      obtain ⟨r49, hr49, h⟩ := bs h
                      refine stepCall (d := (some 104)) (f58_ok hr49) hE hH hN (by kernel_rfl) (by kernel_rfl) trivial (fun a w G hl21 hE hH => ?_)
                      have hle := Gh.le_trans hle hl21
                      refine segO 5 [] [(14, .kv .i r49.2)] (Os := []) trivial hE hH (by kernel_rfl) (fun a hE => ?_)
                      refine wpFrom_end (by kernel_rfl) ?_
                      refine Exit.then_normal (hK47 _ _ ?_)
                      refine wp_seq_k (fun K hK50 => ?_)
                      refine wp_region_from ?_
                      refine segO 2 [] [(108, .kv (.ptr 128) r10.1.1), (109, .kv (.ptr 128) r10.1.1)] (Os := []) trivial hE hH (by kernel_rfl) (fun a hE => ?_)
                      obtain ⟨r51, hr51, h⟩ := bs h
                      refine stepCall (d := (some 110)) (f55_ok hr51) hE hH hN (by kernel_rfl) (by kernel_rfl) trivial (fun a w G hl22 hE hH => ?_)
                      have hle := Gh.le_trans hle hl22
                      obtain ⟨r52, hr52, h⟩ := bs h
                      refine stepCall (d := (some 111)) (f58_ok hr52) hE hH hN (by kernel_rfl) (by kernel_rfl) trivial (fun a w G hl23 hE hH => ?_)
                      have hle := Gh.le_trans hle hl23
                      refine segO 5 [] [(16, .kv .i r52.2)] (Os := []) trivial hE hH (by kernel_rfl) (fun a hE => ?_)
                      refine wpFrom_end (by kernel_rfl) ?_
                      refine Exit.then_normal (hK50 _ _ ?_)
                      refine wp_seq_k (fun K hK53 => ?_)
                      refine wp_region_from ?_
                      refine segO 7 [] [(120, .kv .bool ((r49.2 == 13) && (r52.2 == 8)))] (Os := []) trivial hE hH (by kernel_rfl) (fun a hE => ?_)
                      by_cases hc : ((r49.2 == 13) && (r52.2 == 8)) = true
                      · replace h := ifT hc h
                        have hE := hE.setB 120 (by kernel_rfl) hc
                        refine segO 1 [] [(121, .kv (.ptr 128) r10.1.1)] (Os := []) trivial hE hH (by kernel_rfl) (fun a hE => ?_)
                        obtain ⟨r54, hr54, h⟩ := bs h
                        refine stepCall (d := (some 122)) (f56_ok hr54) hE hH hN (by kernel_rfl) (by kernel_rfl) trivial (fun a w G hl24 hE hH => ?_)
                        have hle := Gh.le_trans hle hl24
                        refine segO 2 [] [(123, .kv (.list .str) r10.1.2.1), (124, .kv (.ptr 128) r10.1.1)] (Os := []) trivial hE hH (by kernel_rfl) (fun a hE => ?_)
                        obtain ⟨r55, hr55, h⟩ := bs h
                        refine stepCall (d := (some 125)) (f54_ok hr55) hE hH hN (by kernel_rfl) (by kernel_rfl) trivial (fun a w G hl25 hE hH => ?_)
                        have hle := Gh.le_trans hle hl25
                        refine segO 1 [] [(126, .kv (.ptr 128) r10.1.1)] (Os := []) trivial hE hH (by kernel_rfl) (fun a hE => ?_)
                        obtain ⟨r56, hr56, h⟩ := bs h
                        refine stepCall (d := (some 127)) (f55_ok hr56) hE hH hN (by kernel_rfl) (by kernel_rfl) trivial (fun a w G hl26 hE hH => ?_)
                        have hle := Gh.le_trans hle hl26
                        obtain ⟨q57, h⟩ := gd h
                        refine segO 1 [] [(128, .kv (.list .str) ((r10.1.2.1.take (Int.toNat r56)).drop (Int.toNat r55)))] (Os := [_]) ⟨q57, trivial⟩ hE hH (by kernel_rfl) (fun a hE => ?_)
                        obtain ⟨r58, hr58, h⟩ := bs h
                        refine stepCall (d := (some 129)) (f51_ok hr58) hE hH hN (by kernel_rfl) (by kernel_rfl) trivial (fun a w G hl27 hE hH => ?_)
                        have hle := Gh.le_trans hle hl27
                        refine segO 2 [] [(4, .kv .bool r58)] (Os := []) trivial hE hH (by kernel_rfl) (fun a hE => ?_)
                        refine wpFrom_end (by kernel_rfl) ?_
                        refine Exit.then_normal (hK53 _ _ ?_)
                        refine wp_ret ?_
                        cases h
                        exact ret1 rfl hE hle hH (by kernel_rfl)
                      · replace h := ifN hc h
                        have hE := hE.setB 120 (by kernel_rfl) (bf hc)
                        refine segO 11 [] [(4, .kv .bool false)] (Os := []) trivial hE hH (by kernel_rfl) (fun a hE => ?_)
                        refine wpFrom_end (by kernel_rfl) ?_
                        refine Exit.then_normal (hK53 _ _ ?_)
                        refine wp_ret ?_
                        cases h
                        exact ret1 rfl hE hle hH (by kernel_rfl)
                  · replace h := ifN hc h
                    have hE := hE.setB 77 (by kernel_rfl) (bf hc)
                    refine segO 5 [] [(82, .kv .bool false)] (Os := []) trivial hE hH (by kernel_rfl) (fun a hE => ?_)
                    refine wpFrom_end (by kernel_rfl) ?_
                    refine Exit.then_normal (hK26 _ _ ?_)
                    refine condF hE (by kernel_rfl) rfl ?_
                    refine wp_skip ?_
                    refine Exit.then_normal (hK25 _ _ ?_)
                    refine wp_seq_k (fun K hK59 => ?_)
                    refine wp_region_from ?_
                    refine segO 2 [] [(100, .kv (.ptr 128) r10.1.1), (101, .kv (.ptr 128) r10.1.1)] (Os := []) trivial hE hH (by kernel_rfl) (fun a hE => ?_)
                    obtain ⟨r60, hr60, h⟩ := bs h
                    refine stepCall (d := (some 102)) (f54_ok hr60) hE hH hN (by kernel_rfl) (by kernel_rfl) trivial (fun a w G hl28 hE hH => ?_)
                    have hle := Gh.le_trans hle hl28
                    refine segO 1 [] [(103, .kv .i (IntKind.wrap .i64 (r60 - 1)))] (Os := []) trivial hE hH (by kernel_rfl) (fun a hE => ?_)
                    obtain ⟨r61, hr61, h⟩ := bs h
                    refine stepCall (d := (some 104)) (f58_ok hr61) hE hH hN (by kernel_rfl) (by kernel_rfl) trivial (fun a w G hl29 hE hH => ?_)
                    have hle := Gh.le_trans hle hl29
                    refine segO 5 [] [(14, .kv .i r61.2)] (Os := []) trivial hE hH (by kernel_rfl) (fun a hE => ?_)
                    refine wpFrom_end (by kernel_rfl) ?_
                    refine Exit.then_normal (hK59 _ _ ?_)
                    refine wp_seq_k (fun K hK62 => ?_)
                    refine wp_region_from ?_
                    refine segO 2 [] [(108, .kv (.ptr 128) r10.1.1), (109, .kv (.ptr 128) r10.1.1)] (Os := []) trivial hE hH (by kernel_rfl) (fun a hE => ?_)
                    obtain ⟨r63, hr63, h⟩ := bs h
                    refine stepCall (d := (some 110)) (f55_ok hr63) hE hH hN (by kernel_rfl) (by kernel_rfl) trivial (fun a w G hl30 hE hH => ?_)
                    have hle := Gh.le_trans hle hl30
                    obtain ⟨r64, hr64, h⟩ := bs h
                    refine stepCall (d := (some 111)) (f58_ok hr64) hE hH hN (by kernel_rfl) (by kernel_rfl) trivial (fun a w G hl31 hE hH => ?_)
                    have hle := Gh.le_trans hle hl31
                    refine segO 5 [] [(16, .kv .i r64.2)] (Os := []) trivial hE hH (by kernel_rfl) (fun a hE => ?_)
                    refine wpFrom_end (by kernel_rfl) ?_
                    refine Exit.then_normal (hK62 _ _ ?_)
                    refine wp_seq_k (fun K hK65 => ?_)
                    refine wp_region_from ?_
                    refine segO 7 [] [(120, .kv .bool ((r61.2 == 13) && (r64.2 == 8)))] (Os := []) trivial hE hH (by kernel_rfl) (fun a hE => ?_)
                    by_cases hc : ((r61.2 == 13) && (r64.2 == 8)) = true
                    · replace h := ifT hc h
                      have hE := hE.setB 120 (by kernel_rfl) hc
                      refine segO 1 [] [(121, .kv (.ptr 128) r10.1.1)] (Os := []) trivial hE hH (by kernel_rfl) (fun a hE => ?_)
                      obtain ⟨r66, hr66, h⟩ := bs h
                      refine stepCall (d := (some 122)) (f56_ok hr66) hE hH hN (by kernel_rfl) (by kernel_rfl) trivial (fun a w G hl32 hE hH => ?_)
                      have hle := Gh.le_trans hle hl32
                      refine segO 2 [] [(123, .kv (.list .str) r10.1.2.1), (124, .kv (.ptr 128) r10.1.1)] (Os := []) trivial hE hH (by kernel_rfl) (fun a hE => ?_)
                      obtain ⟨r67, hr67, h⟩ := bs h
                      refine stepCall (d := (some 125)) (f54_ok hr67) hE hH hN (by kernel_rfl) (by kernel_rfl) trivial (fun a w G hl33 hE hH => ?_)
                      have hle := Gh.le_trans hle hl33
                      refine segO 1 [] [(126, .kv (.ptr 128) r10.1.1)] (Os := []) trivial hE hH (by kernel_rfl) (fun a hE => ?_)
                      obtain ⟨r68, hr68, h⟩ := bs h
                      refine stepCall (d := (some 127)) (f55_ok hr68) hE hH hN (by kernel_rfl) (by kernel_rfl) trivial (fun a w G hl34 hE hH => ?_)
                      have hle := Gh.le_trans hle hl34
                      obtain ⟨q69, h⟩ := gd h
                      refine segO 1 [] [(128, .kv (.list .str) ((r10.1.2.1.take (Int.toNat r68)).drop (Int.toNat r67)))] (Os := [_]) ⟨q69, trivial⟩ hE hH (by kernel_rfl) (fun a hE => ?_)
                      obtain ⟨r70, hr70, h⟩ := bs h
                      refine stepCall (d := (some 129)) (f51_ok hr70) hE hH hN (by kernel_rfl) (by kernel_rfl) trivial (fun a w G hl35 hE hH => ?_)
                      have hle := Gh.le_trans hle hl35
                      refine segO 2 [] [(4, .kv .bool r70)] (Os := []) trivial hE hH (by kernel_rfl) (fun a hE => ?_)
                      refine wpFrom_end (by kernel_rfl) ?_
                      refine Exit.then_normal (hK65 _ _ ?_)
                      refine wp_ret ?_
                      cases h
                      exact ret1 rfl hE hle hH (by kernel_rfl)
                    · replace h := ifN hc h
                      have hE := hE.setB 120 (by kernel_rfl) (bf hc)
                      refine segO 11 [] [(4, .kv .bool false)] (Os := []) trivial hE hH (by kernel_rfl) (fun a hE => ?_)
                      refine wpFrom_end (by kernel_rfl) ?_
                      refine Exit.then_normal (hK65 _ _ ?_)
                      refine wp_ret ?_
                      cases h
                      exact ret1 rfl hE hle hH (by kernel_rfl)
                · replace h := ifN hc h
                  have hE := hE.setB 71 (by kernel_rfl) (bf hc)
                  refine segO 11 [] [(82, .kv .bool false)] (Os := []) trivial hE hH (by kernel_rfl) (fun a hE => ?_)
                  refine wpFrom_end (by kernel_rfl) ?_
                  refine Exit.then_normal (hK26 _ _ ?_)
                  refine condF hE (by kernel_rfl) rfl ?_
                  refine wp_skip ?_
                  refine Exit.then_normal (hK25 _ _ ?_)
                  refine wp_seq_k (fun K hK71 => ?_)
                  refine wp_region_from ?_
                  refine segO 2 [] [(100, .kv (.ptr 128) r10.1.1), (101, .kv (.ptr 128) r10.1.1)] (Os := []) trivial hE hH (by kernel_rfl) (fun a hE => ?_)
                  obtain ⟨r72, hr72, h⟩ := bs h
                  refine stepCall (d := (some 102)) (f54_ok hr72) hE hH hN (by kernel_rfl) (by kernel_rfl) trivial (fun a w G hl36 hE hH => ?_)
                  have hle := Gh.le_trans hle hl36
                  refine segO 1 [] [(103, .kv .i (IntKind.wrap .i64 (r72 - 1)))] (Os := []) trivial hE hH (by kernel_rfl) (fun a hE => ?_)
                  obtain ⟨r73, hr73, h⟩ := bs h
                  refine stepCall (d := (some 104)) (f58_ok hr73) hE hH hN (by kernel_rfl) (by kernel_rfl) trivial (fun a w G hl37 hE hH => ?_)
                  have hle := Gh.le_trans hle hl37
                  refine segO 5 [] [(14, .kv .i r73.2)] (Os := []) trivial hE hH (by kernel_rfl) (fun a hE => ?_)
                  refine wpFrom_end (by kernel_rfl) ?_
                  refine Exit.then_normal (hK71 _ _ ?_)
                  refine wp_seq_k (fun K hK74 => ?_)
                  refine wp_region_from ?_
                  refine segO 2 [] [(108, .kv (.ptr 128) r10.1.1), (109, .kv (.ptr 128) r10.1.1)] (Os := []) trivial hE hH (by kernel_rfl) (fun a hE => ?_)
                  obtain ⟨r75, hr75, h⟩ := bs h
                  refine stepCall (d := (some 110)) (f55_ok hr75) hE hH hN (by kernel_rfl) (by kernel_rfl) trivial (fun a w G hl38 hE hH => ?_)
                  have hle := Gh.le_trans hle hl38
                  obtain ⟨r76, hr76, h⟩ := bs h
                  refine stepCall (d := (some 111)) (f58_ok hr76) hE hH hN (by kernel_rfl) (by kernel_rfl) trivial (fun a w G hl39 hE hH => ?_)
                  have hle := Gh.le_trans hle hl39
                  refine segO 5 [] [(16, .kv .i r76.2)] (Os := []) trivial hE hH (by kernel_rfl) (fun a hE => ?_)
                  refine wpFrom_end (by kernel_rfl) ?_
                  refine Exit.then_normal (hK74 _ _ ?_)
                  refine wp_seq_k (fun K hK77 => ?_)
                  refine wp_region_from ?_
                  refine segO 7 [] [(120, .kv .bool ((r73.2 == 13) && (r76.2 == 8)))] (Os := []) trivial hE hH (by kernel_rfl) (fun a hE => ?_)
                  by_cases hc : ((r73.2 == 13) && (r76.2 == 8)) = true
                  · replace h := ifT hc h
                    have hE := hE.setB 120 (by kernel_rfl) hc
                    refine segO 1 [] [(121, .kv (.ptr 128) r10.1.1)] (Os := []) trivial hE hH (by kernel_rfl) (fun a hE => ?_)
                    obtain ⟨r78, hr78, h⟩ := bs h
                    refine stepCall (d := (some 122)) (f56_ok hr78) hE hH hN (by kernel_rfl) (by kernel_rfl) trivial (fun a w G hl40 hE hH => ?_)
                    have hle := Gh.le_trans hle hl40
                    refine segO 2 [] [(123, .kv (.list .str) r10.1.2.1), (124, .kv (.ptr 128) r10.1.1)] (Os := []) trivial hE hH (by kernel_rfl) (fun a hE => ?_)
                    obtain ⟨r79, hr79, h⟩ := bs h
                    refine stepCall (d := (some 125)) (f54_ok hr79) hE hH hN (by kernel_rfl) (by kernel_rfl) trivial (fun a w G hl41 hE hH => ?_)
                    have hle := Gh.le_trans hle hl41
                    refine segO 1 [] [(126, .kv (.ptr 128) r10.1.1)] (Os := []) trivial hE hH (by kernel_rfl) (fun a hE => ?_)
                    obtain ⟨r80, hr80, h⟩ := bs h
                    refine stepCall (d := (some 127)) (f55_ok hr80) hE hH hN (by kernel_rfl) (by kernel_rfl) trivial (fun a w G hl42 hE hH => ?_)
                    have hle := Gh.le_trans hle hl42
                    obtain ⟨q81, h⟩ := gd h
                    refine segO 1 [] [(128, .kv (.list .str) ((r10.1.2.1.take (Int.toNat r80)).drop (Int.toNat r79)))] (Os := [_]) ⟨q81, trivial⟩ hE hH (by kernel_rfl) (fun a hE => ?_)
                    obtain ⟨r82, hr82, h⟩ := bs h
                    refine stepCall (d := (some 129)) (f51_ok hr82) hE hH hN (by kernel_rfl) (by kernel_rfl) trivial (fun a w G hl43 hE hH => ?_)
                    have hle := Gh.le_trans hle hl43
                    refine segO 2 [] [(4, .kv .bool r82)] (Os := []) trivial hE hH (by kernel_rfl) (fun a hE => ?_)
                    refine wpFrom_end (by kernel_rfl) ?_
                    refine Exit.then_normal (hK77 _ _ ?_)
                    refine wp_ret ?_
                    cases h
                    exact ret1 rfl hE hle hH (by kernel_rfl)
                  · replace h := ifN hc h
                    have hE := hE.setB 120 (by kernel_rfl) (bf hc)
                    refine segO 11 [] [(4, .kv .bool false)] (Os := []) trivial hE hH (by kernel_rfl) (fun a hE => ?_)
                    refine wpFrom_end (by kernel_rfl) ?_
                    refine Exit.then_normal (hK77 _ _ ?_)
                    refine wp_ret ?_
                    cases h
                    exact ret1 rfl hE hle hH (by kernel_rfl)
            · replace h := ifN hc h
              have hE := hE.setB 57 (by kernel_rfl) (bf hc)
              refine segO 6 [] [(63, .kv .bool false)] (Os := []) trivial hE hH (by kernel_rfl) (fun a hE => ?_)
              refine wpFrom_end (by kernel_rfl) ?_
              refine Exit.then_normal (hK17 _ _ ?_)
              refine condF hE (by kernel_rfl) rfl ?_
              refine wp_skip ?_
              refine Exit.then_normal (hK16 _ _ ?_)
              refine wp_seq_k (fun K hK83 => ?_)
              refine wp_seq_k (fun K hK84 => ?_)
              refine wp_region_from ?_
              refine segO 8 [] [(71, .kv .bool ((decide ((r10.1.2.1.length : Int) > 0)) && (decide (p1 ≥ 0))))] (Os := []) trivial hE hH (by kernel_rfl) (fun a hE => ?_)
              by_cases hc : ((decide ((r10.1.2.1.length : Int) > 0)) && (decide (p1 ≥ 0))) = true
              · replace h := ifT hc h
                have hE := hE.setB 71 (by kernel_rfl) hc
                refine segO 2 [] [(72, .kv .i p1), (73, .kv (.ptr 128) r10.1.1)] (Os := []) trivial hE hH (by kernel_rfl) (fun a hE => ?_)
                obtain ⟨r85, hr85, h⟩ := bs h
                refine stepCall (d := (some 74)) (f55_ok hr85) hE hH hN (by kernel_rfl) (by kernel_rfl) trivial (fun a w G hl44 hE hH => ?_)
                have hle := Gh.le_trans hle hl44
                refine segO 3 [] [(77, .kv .bool (decide (p1 < r85)))] (Os := []) trivial hE hH (by kernel_rfl) (fun a hE => ?_)
                by_cases hc : (decide (p1 < r85)) = true
                · replace h := ifT hc h
                  have hE := hE.setB 77 (by kernel_rfl) hc
                  refine segO 2 [] [(78, .kv .i p1), (79, .kv (.ptr 128) r10.1.1)] (Os := []) trivial hE hH (by kernel_rfl) (fun a hE => ?_)
                  obtain ⟨r86, hr86, h⟩ := bs h
                  refine stepCall (d := (some 80)) (f54_ok hr86) hE hH hN (by kernel_rfl) (by kernel_rfl) trivial (fun a w G hl45 hE hH => ?_)
                  have hle := Gh.le_trans hle hl45
                  refine segO 2 [] [(82, .kv .bool (decide (p1 ≥ r86)))] (Os := []) trivial hE hH (by kernel_rfl) (fun a hE => ?_)
                  refine wpFrom_end (by kernel_rfl) ?_
                  refine Exit.then_normal (hK84 _ _ ?_)
                  refine condE (b := decide (p1 ≥ r86)) hE (by kernel_rfl) (fun hc => ?_) (fun hc => ?_)
                  · replace h := ifT hc h
                    refine wp_seq_k (fun K hK87 => ?_)
                    refine wp_region_from ?_
                    refine segO 2 [] [(84, .kv (.ptr 128) r10.1.1), (85, .kv .i p1)] (Os := []) trivial hE hH (by kernel_rfl) (fun a hE => ?_)
                    obtain ⟨r88, hr88, h⟩ := bs h
                    refine stepCall (d := (some 86)) (f58_ok hr88) hE hH hN (by kernel_rfl) (by kernel_rfl) trivial (fun a w G hl46 hE hH => ?_)
                    have hle := Gh.le_trans hle hl46
                    refine segO 5 [] [(11, .kv .str r88.1), (12, .kv .i r88.2)] (Os := []) trivial hE hH (by kernel_rfl) (fun a hE => ?_)
                    refine wpFrom_end (by kernel_rfl) ?_
                    refine Exit.then_normal (hK87 _ _ ?_)
                    refine wp_seq_k (fun K hK89 => ?_)
                    refine wp_region_from ?_
                    refine segO 3 [] [(91, .kv .bool (r88.2 != 0))] (Os := []) trivial hE hH (by kernel_rfl) (fun a hE => ?_)
                    by_cases hc : (r88.2 != 0) = true
                    · replace h := ifT hc h
                      have hE := hE.setB 91 (by kernel_rfl) hc
                      refine segO 7 [] [(98, .kv .bool true)] (Os := []) trivial hE hH (by kernel_rfl) (fun a hE => ?_)
                      refine wpFrom_end (by kernel_rfl) ?_
                      refine Exit.then_normal (hK89 _ _ ?_)
                      refine condT hE (by kernel_rfl) rfl ?_
                      refine wp_seq_k (fun K hK90 => ?_)
                      refine wp_region_from ?_
                      refine segO 1 [] [(4, .kv .bool false)] (Os := []) trivial hE hH (by kernel_rfl) (fun a hE => ?_)
                      refine wpFrom_end (by kernel_rfl) ?_
                      refine Exit.then_normal (hK90 _ _ ?_)
                      refine wp_ret ?_
                      refine Exit.then_ret ?_
                      cases h
                      exact ret1 rfl hE hle hH (by kernel_rfl)
                    · replace h := ifN hc h
                      have hE := hE.setB 91 (by kernel_rfl) (bf hc)
                      obtain ⟨x91, hx91, h⟩ := bs h
                      refine segO 7 [.ix .str x91] [(98, .kv .bool (!(r88.1 == x91)))] (Os := [_]) ⟨(IxAt.of (k := .str) hx91), trivial⟩ hE hH (by kernel_rfl) (fun a hE => ?_)
                      refine wpFrom_end (by kernel_rfl) ?_
                      refine Exit.then_normal (hK89 _ _ ?_)
                      refine condE (b := !(r88.1 == x91)) hE (by kernel_rfl) (fun hc => ?_) (fun hc => ?_)
                      · replace h := ifT hc h
                        refine wp_seq_k (fun K hK92 => ?_)
                        refine wp_region_from ?_
                        refine segO 1 [] [(4, .kv .bool false)] (Os := []) trivial hE hH (by kernel_rfl) (fun a hE => ?_)
                        refine wpFrom_end (by kernel_rfl) ?_
                        refine Exit.then_normal (hK92 _ _ ?_)
                        refine wp_ret ?_
                        refine Exit.then_ret ?_
                        cases h
                        exact ret1 rfl hE hle hH (by kernel_rfl)
                      · replace h := ifF hc h
                        refine wp_skip ?_
                        refine Exit.then_normal (hK83 _ _ ?_)
                        refine wp_seq_k (fun K hK93 => ?_)
                        refine wp_region_from ?_
                        refine segO 2 [] [(100, .kv (.ptr 128) r10.1.1), (101, .kv (.ptr 128) r10.1.1)] (Os := []) trivial hE hH (by kernel_rfl) (fun a hE => ?_)
                        obtain ⟨r94, hr94, h⟩ := bs h
                        refine stepCall (d := (some 102)) (f54_ok hr94) hE hH hN (by kernel_rfl) (by kernel_rfl) trivial (fun a w G hl47 hE hH => ?_)
                        have hle := Gh.le_trans hle hl47
                        refine segO 1 [] [(103, .kv .i (IntKind.wrap .i64 (r94 - 1)))] (Os := []) trivial hE hH (by kernel_rfl) (fun a hE => ?_)
                        obtain ⟨r95, hr95, h⟩ := bs h
                        refine stepCall (d := (some 104)) (f58_ok hr95) hE hH hN (by kernel_rfl) (by kernel_rfl) trivial (fun a w G hl48 hE hH => ?_)
                        have hle := Gh.le_trans hle hl48
                        refine segO 5 [] [(14, .kv .i r95.2)] (Os := []) trivial hE hH (by kernel_rfl) (fun a hE => ?_)
                        refine wpFrom_end (by kernel_rfl) ?_
                        refine Exit.then_normal (hK93 _ _ ?_)
                        refine wp_seq_k (fun K hK96 => ?_)
                        refine wp_region_from ?_
                        refine segO 2 [] [(108, .kv (.ptr 128) r10.1.1), (109, .kv (.ptr 128) r10.1.1)] (Os := []) trivial hE hH (by kernel_rfl) (fun a hE => ?_)
                        obtain ⟨r97, hr97, h⟩ := bs h
                        refine stepCall (d := (some 110)) (f55_ok hr97) hE hH hN (by kernel_rfl) (by kernel_rfl) trivial (fun a w G hl49 hE hH => ?_)
                        have hle := Gh.le_trans hle hl49
                        obtain ⟨r98, hr98, h⟩ := bs h
                        refine stepCall (d := (some 111)) (f58_ok hr98) hE hH hN (by kernel_rfl) (by kernel_rfl) trivial (fun a w G hl50 hE hH => ?_)
                        have hle := Gh.le_trans hle hl50
                        refine segO 5 [] [(16, .kv .i r98.2)] (Os := []) trivial hE hH (by kernel_rfl) (fun a hE => ?_)
                        refine wpFrom_end (by kernel_rfl) ?_
                        refine Exit.then_normal (hK96 _ _ ?_)
                        refine wp_seq_k (fun K hK99 => ?_)
                        refine wp_region_from ?_
                        refine segO 7 [] [(120, .kv .bool ((r95.2 == 13) && (r98.2 == 8)))] (Os := []) trivial hE hH (by kernel_rfl) (fun a hE => ?_)
                        by_cases hc : ((r95.2 == 13) && (r98.2 == 8)) = true
                        · replace h := ifT hc h
                          have hE := hE.setB 120 (by kernel_rfl) hc
                          refine segO 1 [] [(121, .kv (.ptr 128) r10.1.1)] (Os := []) trivial hE hH (by kernel_rfl) (fun a hE => ?_)
                          obtain ⟨r100, hr100, h⟩ := bs h
                          refine stepCall (d := (some 122)) (f56_ok hr100) hE hH hN (by kernel_rfl) (by kernel_rfl) trivial (fun a w G hl51 hE hH => ?_)
                          have hle := Gh.le_trans hle hl51
                          refine segO 2 [] [(123, .kv (.list .str) r10.1.2.1), (124, .kv (.ptr 128) r10.1.1)] (Os := []) trivial hE hH (by kernel_rfl) (fun a hE => ?_)
                          obtain ⟨r101, hr101, h⟩ := bs h
                          refine stepCall (d := (some 125)) (f54_ok hr101) hE hH hN (by kernel_rfl) (by kernel_rfl) trivial (fun a w G hl52 hE hH => ?_)
                          have hle := Gh.le_trans hle hl52
                          refine segO 1 [] [(126, .kv (.ptr 128) r10.1.1)] (Os := []) trivial hE hH (by kernel_rfl) (fun a hE => ?_)
                          obtain ⟨r102, hr102, h⟩ := bs h
                          refine stepCall (d := (some 127)) (f55_ok hr102) hE hH hN (by kernel_rfl) (by kernel_rfl) trivial (fun a w G hl53 hE hH => ?_)
                          have hle := Gh.le_trans hle hl53
                          obtain ⟨q103, h⟩ := gd h
                          refine segO 1 [] [(128, .kv (.list .str) ((r10.1.2.1.take (Int.toNat r102)).drop (Int.toNat r101)))] (Os := [_]) ⟨q103, trivial⟩ hE hH (by kernel_rfl) (fun a hE => ?_)
                          obtain ⟨r104, hr104, h⟩ := bs h
                          refine stepCall (d := (some 129)) (f51_ok hr104) hE hH hN (by kernel_rfl) (by kernel_rfl) trivial (fun a w G hl54 hE hH => ?_)
                          have hle := Gh.le_trans hle hl54
                          refine segO 2 [] [(4, .kv .bool r104)] (Os := []) trivial hE hH (by kernel_rfl) (fun a hE => ?_)
                          refine wpFrom_end (by kernel_rfl) ?_
                          refine Exit.then_normal (hK99 _ _ ?_)
                          refine wp_ret ?_
                          cases h
                          exact ret1 rfl hE hle hH (by kernel_rfl)
                        · replace h := ifN hc h
                          have hE := hE.setB 120 (by kernel_rfl) (bf hc)
                          refine segO 11 [] [(4, .kv .bool false)] (Os := []) trivial hE hH (by kernel_rfl) (fun a hE => ?_)
                          refine wpFrom_end (by kernel_rfl) ?_
                          refine Exit.then_normal (hK99 _ _ ?_)
                          refine wp_ret ?_
                          cases h
                          exact ret1 rfl hE hle hH (by kernel_rfl)
                  · replace h := ifF hc h
                    refine wp_skip ?_
                    refine Exit.then_normal (hK83 _ _ ?_)
                    refine wp_seq_k (fun K hK105 => ?_)
                    refine wp_region_from ?_
                    refine segO 2 [] [(100, .kv (.ptr 128) r10.1.1), (101, .kv (.ptr 128) r10.1.1)] (Os := []) trivial hE hH (by kernel_rfl) (fun a hE => ?_)
                    obtain ⟨r106, hr106, h⟩ := bs h
                    refine stepCall (d := (some 102)) (f54_ok hr106) hE hH hN (by kernel_rfl) (by kernel_rfl) trivial (fun a w G hl55 hE hH => ?_)
                    have hle := Gh.le_trans hle hl55
                    refine segO 1 [] [(103, .kv .i (IntKind.wrap .i64 (r106 - 1)))] (Os := []) trivial hE hH (by kernel_rfl) (fun a hE => ?_)
                    obtain ⟨r107, hr107, h⟩ := bs h
                    refine stepCall (d := (some 104)) (f58_ok hr107) hE hH hN (by kernel_rfl) (by kernel_rfl) trivial (fun a w G hl56 hE hH => ?_)
                    have hle := Gh.le_trans hle hl56
                    refine segO 5 [] [(14, .kv .i r107.2)] (Os := []) trivial hE hH (by kernel_rfl) (fun a hE => ?_)
                    refine wpFrom_end (by kernel_rfl) ?_
                    refine Exit.then_normal (hK105 _ _ ?_)
                    refine wp_seq_k (fun K hK108 => ?_)
                    refine wp_region_from ?_
                    refine segO 2 [] [(108, .kv (.ptr 128) r10.1.1), (109, .kv (.ptr 128) r10.1.1)] (Os := []) trivial hE hH (by kernel_rfl) (fun a hE => ?_)
                    obtain ⟨r109, hr109, h⟩ := bs h
                    refine stepCall (d := (some 110)) (f55_ok hr109) hE hH hN (by kernel_rfl) (by kernel_rfl) trivial (fun a w G hl57 hE hH => ?_)
                    have hle := Gh.le_trans hle hl57
                    obtain ⟨r110, hr110, h⟩ := bs h
                    refine stepCall (d := (some 111)) (f58_ok hr110) hE hH hN (by kernel_rfl) (by kernel_rfl) trivial (fun a w G hl58 hE hH => ?_)
                    have hle := Gh.le_trans hle hl58
                    refine segO 5 [] [(16, .kv .i r110.2)] (Os := []) trivial hE hH (by kernel_rfl) (fun a hE => ?_)
                    refine wpFrom_end (by kernel_rfl) ?_
                    refine Exit.then_normal (hK108 _ _ ?_)
                    refine wp_seq_k (fun K hK111 => ?_)
                    refine wp_region_from ?_
                    refine segO 7 [] [(120, .kv .bool ((r107.2 == 13) && (r110.2 == 8)))] (Os := []) trivial hE hH (by kernel_rfl) (fun a hE => ?_)
                    by_cases hc : ((r107.2 == 13) && (r110.2 == 8)) = true
                    · replace h := ifT hc h
                      have hE := hE.setB 120 (by kernel_rfl) hc
                      refine segO 1 [] [(121, .kv (.ptr 128) r10.1.1)] (Os := []) trivial hE hH (by kernel_rfl) (fun a hE => ?_)
                      obtain ⟨r112, hr112, h⟩ := bs h
                      refine stepCall (d := (some 122)) (f56_ok hr112) hE hH hN (by kernel_rfl) (by kernel_rfl) trivial (fun a w G hl59 hE hH => ?_)
                      have hle := Gh.le_trans hle hl59
                      refine segO 2 [] [(123, .kv (.list .str) r10.1.2.1), (124, .kv (.ptr 128) r10.1.1)] (Os := []) trivial hE hH (by kernel_rfl) (fun a hE => ?_)
                      obtain ⟨r113, hr113, h⟩ := bs h
                      refine stepCall (d := (some 125)) (f54_ok hr113) hE hH hN (by kernel_rfl) (by kernel_rfl) trivial (fun a w G hl60 hE hH => ?_)
                      have hle := Gh.le_trans hle hl60
                      refine segO 1 [] [(126, .kv (.ptr 128) r10.1.1)] (Os := []) trivial hE hH (by kernel_rfl) (fun a hE => ?_)
                      obtain ⟨r114, hr114, h⟩ := bs h
                      refine stepCall (d := (some 127)) (f55_ok hr114) hE hH hN (by kernel_rfl) (by kernel_rfl) trivial (fun a w G hl61 hE hH => ?_)
                      have hle := Gh.le_trans hle hl61
                      obtain ⟨q115, h⟩ := gd h
                      refine segO 1 [] [(128, .kv (.list .str) ((r10.1.2.1.take (Int.toNat r114)).drop (Int.toNat r113)))] (Os := [_]) ⟨q115, trivial⟩ hE hH (by kernel_rfl) (fun a hE => ?_)
                      obtain ⟨r116, hr116, h⟩ := bs h
                      refine stepCall (d := (some 129)) (f51_ok hr116) hE hH hN (by kernel_rfl) (by kernel_rfl) trivial (fun a w G hl62 hE hH => ?_)
                      have hle := Gh.le_trans hle hl62
                      refine segO 2 [] [(4, .kv .bool r116)] (Os := []) trivial hE hH (by kernel_rfl) (fun a hE => ?_)
                      refine wpFrom_end (by kernel_rfl) ?_
                      refine Exit.then_normal (hK111 _ _ ?_)
                      refine wp_ret ?_
                      cases h
                      exact ret1 rfl hE hle hH (by kernel_rfl)
                    · replace h := ifN hc h
                      have hE := hE.setB 120 (by kernel_rfl) (bf hc)
                      refine segO 11 [] [(4, .kv .bool false)] (Os := []) trivial hE hH (by kernel_rfl) (fun a hE => ?_)
                      refine wpFrom_end (by kernel_rfl) ?_
                      refine Exit.then_normal (hK111 _ _ ?_)
                      refine wp_ret ?_
                      cases h
                      exact ret1 rfl hE hle hH (by kernel_rfl)
                · replace h := ifN hc h
                  have hE := hE.setB 77 (by kernel_rfl) (bf hc)
                  refine segO 5 [] [(82, .kv .bool false)] (Os := []) trivial hE hH (by kernel_rfl) (fun a hE => ?_)
                  refine wpFrom_end (by kernel_rfl) ?_
                  refine Exit.then_normal (hK84 _ _ ?_)
                  refine condF hE (by kernel_rfl) rfl ?_
                  refine wp_skip ?_
                  refine Exit.then_normal (hK83 _ _ ?_)
                  refine wp_seq_k (fun K hK117 => ?_)
                  refine wp_region_from ?_
                  refine segO 2 [] [(100, .kv (.ptr 128) r10.1.1), (101, .kv (.ptr 128) r10.1.1)] (Os := []) trivial hE hH (by kernel_rfl) (fun a hE => ?_)
                  obtain ⟨r118, hr118, h⟩ := bs h
                  refine stepCall (d := (some 102)) (f54_ok hr118) hE hH hN (by kernel_rfl) (by kernel_rfl) trivial (fun a w G hl63 hE hH => ?_)
                  have hle := Gh.le_trans hle hl63
                  refine segO 1 [] [(103, .kv .i (IntKind.wrap .i64 (r118 - 1)))] (Os := []) trivial hE hH (by kernel_rfl) (fun a hE => ?_)
                  obtain ⟨r119, hr119, h⟩ := bs h
                  refine stepCall (d := (some 104)) (f58_ok hr119) hE hH hN (by kernel_rfl) (by kernel_rfl) trivial (fun a w G hl64 hE hH => ?_)
                  have hle := Gh.le_trans hle hl64
                  refine segO 5 [] [(14, .kv .i r119.2)] (Os := []) trivial hE hH (by kernel_rfl) (fun a hE => ?_)
                  refine wpFrom_end (by kernel_rfl) ?_
                  refine Exit.then_normal (hK117 _ _ ?_)
                  refine wp_seq_k (fun K hK120 => ?_)
                  refine wp_region_from ?_
                  refine segO 2 [] [(108, .kv (.ptr 128) r10.1.1), (109, .kv (.ptr 128) r10.1.1)] (Os := []) trivial hE hH (by kernel_rfl) (fun a hE => ?_)
                  obtain ⟨r121, hr121, h⟩ := bs h
                  refine stepCall (d := (some 110)) (f55_ok hr121) hE hH hN (by kernel_rfl) (by kernel_rfl) trivial (fun a w G hl65 hE hH => ?_)
                  have hle := Gh.le_trans hle hl65
                  obtain ⟨r122, hr122, h⟩ := bs h
                  refine stepCall (d := (some 111)) (f58_ok hr122) hE hH hN (by kernel_rfl) (by kernel_rfl) trivial (fun a w G hl66 hE hH => ?_)
                  have hle := Gh.le_trans hle hl66
                  refine segO 5 [] [(16, .kv .i r122.2)] (Os := []) trivial hE hH (by kernel_rfl) (fun a hE => ?_)
                  refine wpFrom_end (by kernel_rfl) ?_
                  refine Exit.then_normal (hK120 _ _ ?_)
                  refine wp_seq_k (fun K hK123 => ?_)
                  refine wp_region_from ?_
                  refine segO 7 [] [(120, .kv .bool ((r119.2 == 13) && (r122.2 == 8)))] (Os := []) trivial hE hH (by kernel_rfl) (fun a hE => ?_)
                  by_cases hc : ((r119.2 == 13) && (r122.2 == 8)) = true
                  · replace h := ifT hc h
                    have hE := hE.setB 120 (by kernel_rfl) hc
                    refine segO 1 [] [(121, .kv (.ptr 128) r10.1.1)] (Os := []) trivial hE hH (by kernel_rfl) (fun a hE => ?_)
                    obtain ⟨r124, hr124, h⟩ := bs h
                    refine stepCall (d := (some 122)) (f56_ok hr124) hE hH hN (by kernel_rfl) (by kernel_rfl) trivial (fun a w G hl67 hE hH => ?_)
                    have hle := Gh.le_trans hle hl67
                    refine segO 2 [] [(123, .kv (.list .str) r10.1.2.1), (124, .kv (.ptr 128) r10.1.1)] (Os := []) trivial hE hH (by kernel_rfl) (fun a hE => ?_)
                    obtain ⟨r125, hr125, h⟩ := bs h
                    refine stepCall (d := (some 125)) (f54_ok hr125) hE hH hN (by kernel_rfl) (by kernel_rfl) trivial (fun a w G hl68 hE hH => ?_)
                    have hle := Gh.le_trans hle hl68
                    refine segO 1 [] [(126, .kv (.ptr 128) r10.1.1)] (Os := []) trivial hE hH (by kernel_rfl) (fun a hE => ?_)
                    obtain ⟨r126, hr126, h⟩ := bs h
                    refine stepCall (d := (some 127)) (f55_ok hr126) hE hH hN (by kernel_rfl) (by kernel_rfl) trivial (fun a w G hl69 hE hH => ?_)
                    have hle := Gh.le_trans hle hl69
                    obtain ⟨q127, h⟩ := gd h
                    refine segO 1 [] [(128, .kv (.list .str) ((r10.1.2.1.take (Int.toNat r126)).drop (Int.toNat r125)))] (Os := [_]) ⟨q127, trivial⟩ hE hH (by kernel_rfl) (fun a hE => ?_)
                    obtain ⟨r128, hr128, h⟩ := bs h
                    refine stepCall (d := (some 129)) (f51_ok hr128) hE hH hN (by kernel_rfl) (by kernel_rfl) trivial (fun a w G hl70 hE hH => ?_)
                    have hle := Gh.le_trans hle hl70
                    refine segO 2 [] [(4, .kv .bool r128)] (Os := []) trivial hE hH (by kernel_rfl) (fun a hE => ?_)
                    refine wpFrom_end (by kernel_rfl) ?_
                    refine Exit.then_normal (hK123 _ _ ?_)
                    refine wp_ret ?_
                    cases h
                    exact ret1 rfl hE hle hH (by kernel_rfl)
                  · replace h := ifN hc h
                    have hE := hE.setB 120 (by kernel_rfl) (bf hc)
                    refine segO 11 [] [(4, .kv .bool false)] (Os := []) trivial hE hH (by kernel_rfl) (fun a hE => ?_)
                    refine wpFrom_end (by kernel_rfl) ?_
                    refine Exit.then_normal (hK123 _ _ ?_)
                    refine wp_ret ?_
                    cases h
                    exact ret1 rfl hE hle hH (by kernel_rfl)
              · replace h := ifN hc h
                have hE := hE.setB 71 (by kernel_rfl) (bf hc)
                refine segO 11 [] [(82, .kv .bool false)] (Os := []) trivial hE hH (by kernel_rfl) (fun a hE => ?_)
                refine wpFrom_end (by kernel_rfl) ?_
                refine Exit.then_normal (hK84 _ _ ?_)
                refine condF hE (by kernel_rfl) rfl ?_
                refine wp_skip ?_
                refine Exit.then_normal (hK83 _ _ ?_)
                refine wp_seq_k (fun K hK129 => ?_)
                refine wp_region_from ?_
                refine segO 2 [] [(100, .kv (.ptr 128) r10.1.1), (101, .kv (.ptr 128) r10.1.1)] (Os := []) trivial hE hH (by kernel_rfl) (fun a hE => ?_)
                obtain ⟨r130, hr130, h⟩ := bs h
                refine stepCall (d := (some 102)) (f54_ok hr130) hE hH hN (by kernel_rfl) (by kernel_rfl) trivial (fun a w G hl71 hE hH => ?_)
                have hle := Gh.le_trans hle hl71
                refine segO 1 [] [(103, .kv .i (IntKind.wrap .i64 (r130 - 1)))] (Os := []) trivial hE hH (by kernel_rfl) (fun a hE => ?_)
                obtain ⟨r131, hr131, h⟩ := bs h
                refine stepCall (d := (some 104)) (f58_ok hr131) hE hH hN (by kernel_rfl) (by kernel_rfl) trivial (fun a w G hl72 hE hH => ?_)
                have hle := Gh.le_trans hle hl72
                refine segO 5 [] [(14, .kv .i r131.2)] (Os := []) trivial hE hH (by kernel_rfl) (fun a hE => ?_)
                refine wpFrom_end (by kernel_rfl) ?_
                refine Exit.then_normal (hK129 _ _ ?_)
                refine wp_seq_k (fun K hK132 => ?_)
                refine wp_region_from ?_
                refine segO 2 [] [(108, .kv (.ptr 128) r10.1.1), (109, .kv (.ptr 128) r10.1.1)] (Os := []) trivial hE hH (by kernel_rfl) (fun a hE => ?_)
                obtain ⟨r133, hr133, h⟩ := bs h
                refine stepCall (d := (some 110)) (f55_ok hr133) hE hH hN (by kernel_rfl) (by kernel_rfl) trivial (fun a w G hl73 hE hH => ?_)
                have hle := Gh.le_trans hle hl73
                obtain ⟨r134, hr134, h⟩ := bs h
                refine stepCall (d := (some 111)) (f58_ok hr134) hE hH hN (by kernel_rfl) (by kernel_rfl) trivial (fun a w G hl74 hE hH => ?_)
                have hle := Gh.le_trans hle hl74
                refine segO 5 [] [(16, .kv .i r134.2)] (Os := []) trivial hE hH (by kernel_rfl) (fun a hE => ?_)
                refine wpFrom_end (by kernel_rfl) ?_
                refine Exit.then_normal (hK132 _ _ ?_)
                refine wp_seq_k (fun K hK135 => ?_)
                refine wp_region_from ?_
                refine segO 7 [] [(120, .kv .bool ((r131.2 == 13) && (r134.2 == 8)))] (Os := []) trivial hE hH (by kernel_rfl) (fun a hE => ?_)
                by_cases hc : ((r131.2 == 13) && (r134.2 == 8)) = true
                · replace h := ifT hc h
                  have hE := hE.setB 120 (by kernel_rfl) hc
                  refine segO 1 [] [(121, .kv (.ptr 128) r10.1.1)] (Os := []) trivial hE hH (by kernel_rfl) (fun a hE => ?_)
                  obtain ⟨r136, hr136, h⟩ := bs h
                  refine stepCall (d := (some 122)) (f56_ok hr136) hE hH hN (by kernel_rfl) (by kernel_rfl) trivial (fun a w G hl75 hE hH => ?_)
                  have hle := Gh.le_trans hle hl75
                  refine segO 2 [] [(123, .kv (.list .str) r10.1.2.1), (124, .kv (.ptr 128) r10.1.1)] (Os := []) trivial hE hH (by kernel_rfl) (fun a hE => ?_)
                  obtain ⟨r137, hr137, h⟩ := bs h
                  refine stepCall (d := (some 125)) (f54_ok hr137) hE hH hN (by kernel_rfl) (by kernel_rfl) trivial (fun a w G hl76 hE hH => ?_)
                  have hle := Gh.le_trans hle hl76
                  refine segO 1 [] [(126, .kv (.ptr 128) r10.1.1)] (Os := []) trivial hE hH (by kernel_rfl) (fun a hE => ?_)
                  obtain ⟨r138, hr138, h⟩ := bs h
                  refine stepCall (d := (some 127)) (f55_ok hr138) hE hH hN (by kernel_rfl) (by kernel_rfl) trivial (fun a w G hl77 hE hH => ?_)
                  have hle := Gh.le_trans hle hl77
                  obtain ⟨q139, h⟩ := gd h
                  refine segO 1 [] [(128, .kv (.list .str) ((r10.1.2.1.take (Int.toNat r138)).drop (Int.toNat r137)))] (Os := [_]) ⟨q139, trivial⟩ hE hH (by kernel_rfl) (fun a hE => ?_)
                  obtain ⟨r140, hr140, h⟩ := bs h
                  refine stepCall (d := (some 129)) (f51_ok hr140) hE hH hN (by kernel_rfl) (by kernel_rfl) trivial (fun a w G hl78 hE hH => ?_)
                  have hle := Gh.le_trans hle hl78
                  refine segO 2 [] [(4, .kv .bool r140)] (Os := []) trivial hE hH (by kernel_rfl) (fun a hE => ?_)
                  refine wpFrom_end (by kernel_rfl) ?_
                  refine Exit.then_normal (hK135 _ _ ?_)
                  refine wp_ret ?_
                  cases h
                  exact ret1 rfl hE hle hH (by kernel_rfl)
                · replace h := ifN hc h
                  have hE := hE.setB 120 (by kernel_rfl) (bf hc)
                  refine segO 11 [] [(4, .kv .bool false)] (Os := []) trivial hE hH (by kernel_rfl) (fun a hE => ?_)
                  refine wpFrom_end (by kernel_rfl) ?_
                  refine Exit.then_normal (hK135 _ _ ?_)
                  refine wp_ret ?_
                  cases h
                  exact ret1 rfl hE hle hH (by kernel_rfl)
end Go.Proofs.Ytlfemhkabjafeaa.M

/- Plain law of the log: WalTrims. -/
set_option linter.unusedVariables false
set_option linter.unusedSimpArgs false
namespace Go.Proofs.Ytlfemhkabjafeaa.M

/-- The last part of the law: what is ahead is gone, what is behind is not there, and all else is as it was. -/
def tailE (l : Option Nat) (recs : List (List UInt8)) (σ : St) : Option (Bool × St) :=
  f54 l σ >>= fun r36 =>
  f58 l (IntKind.wrap .i64 (r36 - 1)) σ >>= fun r37 =>
  f55 l σ >>= fun r39 =>
  f58 l r39 σ >>= fun r40 =>
  if ((r37.2 == 13) && (r40.2 == 8)) = true then
  f56 l σ >>= fun r42 =>
  f54 l σ >>= fun r43 =>
  f55 l σ >>= fun r44 =>
  if (0 : Int) ≤ r43 ∧ r43 ≤ r44 ∧ r44 ≤ (recs.length : Int) then
  f51 r42 ((recs.take (Int.toNat r44)).drop (Int.toNat r43)) >>= fun r46 =>
  some (r46, σ)
  else none
  else
  some (false, σ)

section
variable {σ : St} {l d n0 : Nat} {most : Int} {js : List Nat} {segs : List Sg} {safe s : Nat} {A : AD} {recs : List (List UInt8)}

theorem tail_true (h : WS σ l d n0 most A js segs safe s) (hS : ∀ g ∈ segs, Sub recs g) (hn : nextS segs ≤ recs.length) : tailE (some l) recs σ = some (true, σ) := by
  have hlen := h.len
  have hfl := firstS_le h.good
  have hnx := nextS_le h.good
  have e56 := f56_eq h.lg h.good (by omega) hS hn
  have hgot : ((recs.take (nextS segs)).drop (firstS segs)).length = nextS segs - firstS segs := by rw [List.length_drop, List.length_take]; omega
  have hw : IntKind.wrap .i64 (((firstS segs : Nat) : Int) - 1) = ((firstS segs : Nat) : Int) - 1 := wrap_id (by omega) (by omega)
  have hi1 : Int.toNat ((nextS segs : Nat) : Int) = nextS segs := by omega
  have hi2 : Int.toNat ((firstS segs : Nat) : Int) = firstS segs := by omega
  unfold tailE
  simp only [f54_eq h.lg, f55_eq h.lg h.good (by omega), Option.bind_eq_bind, Option.bind_some, hw]
  rw [f58_low h.lg (i := ((firstS segs : Nat) : Int) - 1) (by omega), f58_high h.lg h.good (by omega)]
  simp only [Option.bind_some]
  rw [if_pos (by simp), e56]
  simp only [Option.bind_some]
  rw [if_pos (by omega), hi1, hi2, f51_eq _ (by rw [hgot]; omega)]
  rfl

/-- The middle of the law: what is read at the number itself. -/
def midE (l : Option Nat) (recs : List (List UInt8)) (p1 : Int) (σ : St) : Option (Bool × St) :=
  if ((decide ((recs.length : Int) > 0)) && (decide (p1 ≥ 0))) = true then
  f55 l σ >>= fun r27 =>
  if (decide (p1 < r27)) = true then
  f54 l σ >>= fun r28 =>
  if (decide (p1 ≥ r28)) = true then
  f58 l p1 σ >>= fun r30 =>
  if (r30.2 != 0) = true then
  some (false, σ)
  else
  (ix recs p1) >>= fun x33 =>
  if (!(r30.1 == x33)) = true then
  some (false, σ)
  else
  tailE l recs σ
  else
  tailE l recs σ
  else
  tailE l recs σ
  else
  tailE l recs σ

theorem mid_true (h : WS σ l d n0 most A js segs safe s) (hS : ∀ g ∈ segs, Sub recs g) (hn : nextS segs ≤ recs.length) (p1 : Int) : midE (some l) recs p1 σ = some (true, σ) := by
  have hlen := h.len
  have ht := tail_true h hS hn
  unfold midE
  rw [ht]
  by_cases c1 : 0 < recs.length ∧ 0 ≤ p1
  case neg => rw [if_neg (by simp; omega)]
  rw [if_pos (by simp; omega)]
  simp only [f54_eq h.lg, f55_eq h.lg h.good (by omega), Option.bind_eq_bind, Option.bind_some]
  by_cases c2 : p1 < ((nextS segs : Nat) : Int)
  case neg => rw [if_neg (by simpa using c2)]
  rw [if_pos (by simpa using c2)]
  by_cases c3 : ((firstS segs : Nat) : Int) ≤ p1
  case neg => rw [if_neg (by simpa using c3)]
  rw [if_pos (by simpa using c3)]
  obtain ⟨i, rfl⟩ : ∃ i : Nat, p1 = (i : Int) := ⟨p1.toNat, by omega⟩
  obtain ⟨y, y1, y2⟩ := f58_eq h.lg h.good (by omega) hS (i := i) (by omega) (by omega)
  rw [y2]
  simp only [Option.bind_some]
  have hi : i < recs.length := by omega
  rw [if_neg (by simp), ix_at hi]
  simp only [Option.bind_some]
  have hy : recs[i] = y := by rw [List.getElem?_eq_getElem hi] at y1; simpa using y1
  rw [if_neg (by simp [hy])]

theorem f15_is (l : List K97.den) (p1 : Int) (σ : St) : f15 l p1 σ = (f18 100000 σ >>= fun r3 => if ((r3.1.2 != 0) || r3.1.1.isNone) = true then some (false, r3.2) else
    f48 r3.2 >>= fun r7 => if (!r7.1) = true then some (false, r7.2) else
    f52 r3.1.1 l r7.2 >>= fun r10 => if r10.1.1.isNone = true then some (false, r10.2) else
    f54 r10.1.1 r10.2 >>= fun r15 => f57 r10.1.1 p1 r10.2 >>= fun r18 => if (r18.1 != 0) = true then some (false, r18.2) else
    f54 r10.1.1 r18.2 >>= fun r20 => if (decide (r20 < r15)) = true then some (false, r18.2) else
    f54 r10.1.1 r18.2 >>= fun r22 => if (decide (r22 > r15)) = true then
      f54 r10.1.1 r18.2 >>= fun r23 => if (decide (r23 > p1)) = true then some (false, r18.2) else midE r10.1.1 r10.1.2.1 p1 r18.2
    else midE r10.1.1 r10.1.2.1 p1 r18.2) := rfl

theorem firstS_suffix {segs' : List Sg} (hg : Good segs) (h : segs' <:+ segs) (hne : segs' = [] → segs = []) : firstS segs ≤ firstS segs' := by
  cases segs' with
  | nil => rw [hne rfl]; exact Nat.le_refl _
  | cons a r =>
    obtain ⟨q, hq⟩ := h
    cases q with
    | nil => rw [← hq]; exact Nat.le_refl _
    | cons b q =>
      have hr := hg.chain.rise
      rw [← hq] at hr
      have := (List.pairwise_append.1 hr).2.2 b (by simp) a (by simp)
      rw [← hq]
      show b.1 ≤ a.1
      omega

theorem nextS_suffix {segs' : List Sg} (h : segs' <:+ segs) : nextS segs' ≤ nextS segs := by
  obtain ⟨q, hq⟩ := h
  rcases List.eq_nil_or_concat segs' with h0 | ⟨pre, g, h0⟩
  · rw [h0]; exact Nat.zero_le _
  · rw [List.concat_eq_append] at h0
    rw [← hq, h0, ← List.append_assoc, nextS_app, nextS_app]; exact Nat.le_refl _

theorem f15_true {l : List K97.den} {p1 : Int} (σ : St) : ∃ σ', f15 l p1 σ = some (true, σ') := by
  obtain ⟨σ1, σ2, e0, e1, dv2, ok0⟩ := disk_awake σ
  obtain ⟨recs, best, σ4, e4, f4, B, segs, s, cs, q1, q2, q3, q4, q5, q6, q7⟩ := f52_eq dv2 ok0 rfl rfl l
  obtain ⟨d4, a4, js4, w4⟩ := q7 rfl
  obtain ⟨σ5, B5, js5, segs5, e, g5, f5, r5, a5, t1, t2, t3, ⟨rfl, d5, w5⟩ | ⟨_, _, o, _⟩⟩ := f57_eq w4 d4 p1
  case inr => exact absurd a4 o
  have hfs := firstS_suffix w4.good t1 t2
  have hns := nextS_suffix t1
  have hm := mid_true w5 (Sub.suffix t1 q1) (by omega) p1
  refine ⟨σ5, ?_⟩
  rw [f15_is, e0]
  simp only [Option.bind_eq_bind, Option.bind_some]
  rw [if_neg (by simp), e1]
  simp only [Option.bind_some]
  rw [if_neg (by simp), e4]
  simp only [Option.bind_some]
  rw [if_neg (by simp), f54_eq w4.lg]
  simp only [Option.bind_some]
  rw [g5]
  simp only [Option.bind_some]
  rw [if_neg (by simp), f54_eq w5.lg]
  simp only [Option.bind_some]
  rw [if_neg (by simp; omega), hm]
  by_cases c : firstS segs < firstS segs5
  · rw [if_pos (by simp; omega)]
    have : (firstS segs5 : Int) ≤ p1 := by
      rcases t3 with rfl | t3
      · omega
      · exact t3
    rw [if_neg (by simp; omega)]
  · rw [if_neg (by simp; omega)]
end
end Go.Proofs.Ytlfemhkabjafeaa.M

/- A law of the log: what its function answers, from what comes in. -/
set_option linter.unusedVariables false
namespace Go.Proofs.Ytlfemhkabjafeaa.M
theorem walTrims_pure {x0 : List K97.den} {x1 : Int} (f0 : Kd.Fits (.list K97) x0) (f1 : Kd.i.Fits x1) : ∃ σ', f15 x0 x1 St.none = some (true, σ') := f15_true St.none
end Go.Proofs.Ytlfemhkabjafeaa.M
