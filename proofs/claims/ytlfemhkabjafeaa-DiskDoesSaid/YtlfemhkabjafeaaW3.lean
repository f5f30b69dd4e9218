/- Printed by own program: twins and walks. -/
import Derived.Test.YtlfemhkabjafeaaP0
import Derived.Test.YtlfemhkabjafeaaU20
import Derived.Test.YtlfemhkabjafeaaW1
import Derived.Test.YtlfemhkabjafeaaW2
import Derived.Test.YtlfemhkabjafeaaU21
import Derived.Test.YtlfemhkabjafeaaProg
set_option linter.unusedVariables false
set_option maxRecDepth 100000
namespace Go.Proofs.Ytlfemhkabjafeaa.M
open Go.Proofs (Try.prog Try.func24 Try.f24 Try.func27 Try.f27 Try.func19 Try.f19 Try.func29 Try.f29 Try.func23 Try.f23)

def f24 (p0 : Option Nat) (p1 : List UInt8) (p2 : List UInt8) (σ : St) : Option (Int × St) :=
  f70 p0 σ >>= fun r4 =>
  if (r4 != 0) = true then
  some (r4, σ)
  else
  f71 p1 >>= fun r9 =>
  if (!r9) = true then
  some (2, σ)
  else
  p0 >>= fun i12 =>
  (σ.t105[i12]?) >>= fun o13 =>
  (if (!((mapGet .str (.ptr 108) p1 o13.2.1).getD (zeroK (.ptr 108))).isNone) = true then
  ((mapGet .str (.ptr 108) p1 o13.2.1).getD (zeroK (.ptr 108))) >>= fun i77 =>
  (σ.t108[i77]?) >>= fun o78 =>
  some (o78.1.length : Int)
  else
  some 0 : Option Int) >>= fun z18 =>
  if (((mapGet .str (.ptr 108) p1 o13.2.1).getD (zeroK (.ptr 108))).isNone) = true then
  p0 >>= fun i23 =>
  (σ.t105[i23]?) >>= fun o24 =>
  if (decide ((o24.2.1.length : Int) ≥ 128)) = true then
  some (10, σ)
  else
  if (decide ((p2.length : Int) > (IntKind.wrap .i64 (65536 - z18)))) = true then
  some (10, σ)
  else
  p0 >>= fun i31 =>
  (σ.t105[i31]?) >>= fun o32 =>
  f20 p0 σ >>= fun r33 =>
  if (decide ((p2.length : Int) > (IntKind.wrap .i64 (o32.1 - r33)))) = true then
  some (10, σ)
  else
  (if (((mapGet .str (.ptr 108) p1 o13.2.1).getD (zeroK (.ptr 108))).isNone) = true then
  p0 >>= fun i50 =>
  ((σ.add108 ([], 0, ())).t105[i50]?) >>= fun o51 =>
  some (some σ.t108.length, ((σ.add108 ([], 0, ())).set105 i50 (o51.1, mapSet .str (.ptr 108) p1 (some σ.t108.length) o51.2.1, o51.2.2.1, o51.2.2.2.1, ())))
  else
  some ((mapGet .str (.ptr 108) p1 o13.2.1).getD (zeroK (.ptr 108)), σ) : Option ((Option Nat) × St)) >>= fun z39 =>
  z39.1 >>= fun i42 =>
  (z39.2.t108[i42]?) >>= fun o43 =>
  if o43.1.length + p2.length ≤ 9223372036854775807 then
  z39.1 >>= fun i45 =>
  (z39.2.t108[i45]?) >>= fun o46 =>
  f72 p0 f73 (z39.2.set108 i45 (o43.1 ++ p2, o46.2.1, ())) >>= fun r48 =>
  some (r48.1, r48.2)
  else none
  else
  if (decide ((p2.length : Int) > (IntKind.wrap .i64 (65536 - z18)))) = true then
  some (10, σ)
  else
  p0 >>= fun i56 =>
  (σ.t105[i56]?) >>= fun o57 =>
  f20 p0 σ >>= fun r58 =>
  if (decide ((p2.length : Int) > (IntKind.wrap .i64 (o57.1 - r58)))) = true then
  some (10, σ)
  else
  (if (((mapGet .str (.ptr 108) p1 o13.2.1).getD (zeroK (.ptr 108))).isNone) = true then
  p0 >>= fun i75 =>
  ((σ.add108 ([], 0, ())).t105[i75]?) >>= fun o76 =>
  some (some σ.t108.length, ((σ.add108 ([], 0, ())).set105 i75 (o76.1, mapSet .str (.ptr 108) p1 (some σ.t108.length) o76.2.1, o76.2.2.1, o76.2.2.2.1, ())))
  else
  some ((mapGet .str (.ptr 108) p1 o13.2.1).getD (zeroK (.ptr 108)), σ) : Option ((Option Nat) × St)) >>= fun z64 =>
  z64.1 >>= fun i67 =>
  (z64.2.t108[i67]?) >>= fun o68 =>
  if o68.1.length + p2.length ≤ 9223372036854775807 then
  z64.1 >>= fun i70 =>
  (z64.2.t108[i70]?) >>= fun o71 =>
  f72 p0 f73 (z64.2.set108 i70 (o68.1 ++ p2, o71.2.1, ())) >>= fun r73 =>
  some (r73.1, r73.2)
  else none

theorem f24_ok {p0 : Option Nat} {p1 : List UInt8} {p2 : List UInt8} {σ : St} {p : Int × St} (h : f24 p0 p1 p2 σ = some p) : Spec Try.prog 24 [.kv (.ptr 105) p0, .kv .str p1, .kv .str p2] (tabs σ) (.kv .i p.1) (tabs p.2) := by
  refine Spec.intro Try.func24 (by kernel_rfl) rfl (by kernel_rfl) (fun a w G0 Ls hE hH hN => ?_)
  have hle : G0.le G0 := Gh.le_refl G0
  unfold f24 at h
  refine wp_seq_k (fun K hK1 => ?_)
  refine wp_region_from ?_
  refine segO 1 [] [(6, .kv .i 0)] (Os := []) trivial hE hH (by kernel_rfl) (fun a hE => ?_)
  refine wpFrom_end (by kernel_rfl) ?_
  refine Exit.then_normal (hK1 _ _ ?_)
  refine wp_seq_k (fun K hK2 => ?_)
  refine wp_seq_k (fun K hK3 => ?_)
  refine wp_region_from ?_
  refine segO 1 [] [(10, .kv (.ptr 105) p0)] (Os := []) trivial hE hH (by kernel_rfl) (fun a hE => ?_)
  obtain ⟨r4, hr4, h⟩ := bs h
  refine stepCall (d := (some 11)) (f70_ok hr4) hE hH hN (by kernel_rfl) (by kernel_rfl) trivial (fun a w G hl1 hE hH => ?_)
  have hle := Gh.le_trans hle hl1
  refine segO 1 [] [(7, .kv .i r4)] (Os := []) trivial hE hH (by kernel_rfl) (fun a hE => ?_)
  refine wpFrom_end (by kernel_rfl) ?_
  refine Exit.then_normal (hK3 _ _ ?_)
  refine wp_seq_k (fun K hK5 => ?_)
  refine wp_region_from ?_
  refine segO 2 [] [(13, .kv .bool (r4 != 0))] (Os := []) trivial hE hH (by kernel_rfl) (fun a hE => ?_)
  refine wpFrom_end (by kernel_rfl) ?_
  refine Exit.then_normal (hK5 _ _ ?_)
  refine condE (b := r4 != 0) hE (by kernel_rfl) (fun hc => ?_) (fun hc => ?_)
  · replace h := ifT hc h
    refine wp_seq_k (fun K hK6 => ?_)
    refine wp_region_from ?_
    refine segO 2 [] [(6, .kv .i r4)] (Os := []) trivial hE hH (by kernel_rfl) (fun a hE => ?_)
    refine wpFrom_end (by kernel_rfl) ?_
    refine Exit.then_normal (hK6 _ _ ?_)
    refine wp_ret ?_
    refine Exit.then_ret ?_
    cases h
    exact ret1 rfl hE hle hH (by kernel_rfl)
  · replace h := ifF hc h
    refine wp_skip ?_
    refine Exit.then_normal (hK2 _ _ ?_)
    refine wp_seq_k (fun K hK7 => ?_)
    refine wp_seq_k (fun K hK8 => ?_)
    refine wp_region_from ?_
    refine segO 1 [] [(15, .kv .str p1)] (Os := []) trivial hE hH (by kernel_rfl) (fun a hE => ?_)
    obtain ⟨r9, hr9, h⟩ := bs h
    refine stepCall (d := (some 16)) (f71_ok hr9) hE hH hN (by kernel_rfl) (by kernel_rfl) trivial (fun a w G hl2 hE hH => ?_)
    have hle := Gh.le_trans hle hl2
    refine segO 1 [] [(17, .kv .bool (!r9))] (Os := []) trivial hE hH (by kernel_rfl) (fun a hE => ?_)
    refine wpFrom_end (by kernel_rfl) ?_
    refine Exit.then_normal (hK8 _ _ ?_)
    refine condE (b := !r9) hE (by kernel_rfl) (fun hc => ?_) (fun hc => ?_)
    · replace h := ifT hc h
      refine wp_seq_k (fun K hK10 => ?_)
      refine wp_region_from ?_
      refine segO 1 [] [(6, .kv .i 2)] (Os := []) trivial hE hH (by kernel_rfl) (fun a hE => ?_)
      refine wpFrom_end (by kernel_rfl) ?_
      refine Exit.then_normal (hK10 _ _ ?_)
      refine wp_ret ?_
      refine Exit.then_ret ?_
      cases h
      exact ret1 rfl hE hle hH (by kernel_rfl)
    · replace h := ifF hc h
      refine wp_skip ?_
      refine Exit.then_normal (hK7 _ _ ?_)
      refine wp_seq_k (fun K hK11 => ?_)
      refine wp_region_from ?_
      obtain ⟨i12, hi12, h⟩ := bs h
      obtain ⟨o13, ho13, h⟩ := bs h
      refine segO 7 [.pt i12, .ob fs105 o13, .ob fs105 o13] [(8, .kv (.ptr 108) ((mapGet .str (.ptr 108) p1 o13.2.1).getD (zeroK (.ptr 108))))] (Os := [_, _, _]) ⟨hi12, (ob105 (s := σ) ho13), (ob105 (s := σ) ho13), trivial⟩ hE hH (by kernel_rfl) (fun a hE => ?_)
      refine wpFrom_end (by kernel_rfl) ?_
      refine Exit.then_normal (hK11 _ _ ?_)
      refine wp_seq_k (fun K hK14 => ?_)
      refine wp_region_from ?_
      refine segO 1 [] [(9, .kv .i 0)] (Os := []) trivial hE hH (by kernel_rfl) (fun a hE => ?_)
      refine wpFrom_end (by kernel_rfl) ?_
      refine Exit.then_normal (hK14 _ _ ?_)
      refine wp_seq_k (fun K hK15 => ?_)
      refine wp_seq_k (fun K hK16 => ?_)
      refine wp_region_from ?_
      refine segO 2 [] [(25, .kv .bool (!((mapGet .str (.ptr 108) p1 o13.2.1).getD (zeroK (.ptr 108))).isNone))] (Os := []) trivial hE hH (by kernel_rfl) (fun a hE => ?_)
      refine wpFrom_end (by kernel_rfl) ?_
      refine Exit.then_normal (hK16 _ _ ?_)
      obtain ⟨z18, hz18, h⟩ := bs h
      refine join_intro (I := fun a w => ∃ (G : Gh), G0.le G ∧ EnvR G 80 a [(0, .kv (.ptr 105) p0), (1, .kv .str p1), (2, .kv .str p2), (6, .kv .i 0), (8, .kv (.ptr 108) ((mapGet .str (.ptr 108) p1 o13.2.1).getD (zeroK (.ptr 108)))), (9, .kv .i z18)] ∧ Holds w G (tabs σ) (Ls)) trivial ?_ ?_
      · intro a w hI
        obtain ⟨G, hle, hE, hH⟩ := hI
        refine Exit.then_normal (hK15 _ _ ?_)
        refine wp_seq_k (fun K hK20 => ?_)
        refine wp_seq_k (fun K hK21 => ?_)
        by_cases hc : (((mapGet .str (.ptr 108) p1 o13.2.1).getD (zeroK (.ptr 108))).isNone) = true
        · replace h := ifT hc h
          have c22 := hc
          obtain ⟨i23, hi23, h⟩ := bs h
          obtain ⟨o24, ho24, h⟩ := bs h
          by_cases hc : (decide ((o24.2.1.length : Int) ≥ 128)) = true
          · replace h := ifT hc h
            have c25 := hc
            refine region_par 27 [] [(0, 0), (0, 0), (0, 0), (0, 0), (0, 0), (0, 0), (0, 0), (0, 0), (0, 0), (0, 0), (0, 0), (0, 0), (0, 0), (0, 0), (0, 0), (0, 0), (0, 0), (0, 0), (0, 0), (0, 0), (0, 0), (0, 0), (0, 0), (0, 0), (0, 0), (0, 0), (0, 0)] [.kv (.ptr 108) ((mapGet .str (.ptr 108) p1 o13.2.1).getD (zeroK (.ptr 108))), .kv .bool (((mapGet .str (.ptr 108) p1 o13.2.1).getD (zeroK (.ptr 108))).isNone), .kv .bool true, .kv (.ptr 105) p0, .kv (.ptr 105) (some i23), .fldA 105 i23 1, .fm 105 i23 1, .kv .i (o24.2.1.length : Int), .kv .bool (decide ((o24.2.1.length : Int) ≥ 128)), .kv .bool (decide ((o24.2.1.length : Int) ≥ 128)), .kv .bool true, .undef, .undef, .undef, .undef, .undef, .kv .bool true, .kv .bool true, .undef, .undef, .undef, .undef, .undef, .undef, .undef, .undef, .undef] (fun _ => tabs σ) (fun _ => Ls) (by kernel_rfl) (by kernel_rfl) hE hH
                    ⟨⟨⟨⟨⟨⟨⟨⟨⟨⟨⟨⟨⟨⟨⟨⟨⟨⟨⟨⟨⟨⟨⟨⟨⟨⟨⟨trivial,
                    anyk (fun k => obR [] (Os := []) trivial (by kernel_rfl) (by kernel_rfl))⟩,
                    anyk (fun k => obR [] (Os := []) trivial (by kernel_rfl) (by kernel_rfl))⟩,
                    anyk (fun k => obRe [] (Os := []) trivial (by kernel_rfl) (by kernel_rfl) (eb2 c22 rfl))⟩,
                    anyk (fun k => obR [] (Os := []) trivial (by kernel_rfl) (by kernel_rfl))⟩,
                    anyk (fun k => obR [.pt i23] (Os := [_]) ⟨hi23, trivial⟩ (by kernel_rfl) (by kernel_rfl))⟩,
                    anyk (fun k => obR [] (Os := []) trivial (by kernel_rfl) (by kernel_rfl))⟩,
                    anyk (fun k => obR [.ob fs105 o24] (Os := [_]) ⟨(ob105 (s := σ) ho24), trivial⟩ (by kernel_rfl) (by kernel_rfl))⟩,
                    anyk (fun k => obR [.ob fs105 o24] (Os := [_]) ⟨(ob105 (s := σ) ho24), trivial⟩ (by kernel_rfl) (by kernel_rfl))⟩,
                    anyk (fun k => obR [] (Os := []) trivial (by kernel_rfl) (by kernel_rfl))⟩,
                    anyk (fun k => obR [] (Os := []) trivial (by kernel_rfl) (by kernel_rfl))⟩,
                    anyk (fun k => obRe [] (Os := []) trivial (by kernel_rfl) (by kernel_rfl) (eb2 c25 rfl))⟩,
                    anyk (fun k => obR [] (Os := []) trivial (by kernel_rfl) (by kernel_rfl))⟩,
                    anyk (fun k => obR [] (Os := []) trivial (by kernel_rfl) (by kernel_rfl))⟩,
                    anyk (fun k => obR [] (Os := []) trivial (by kernel_rfl) (by kernel_rfl))⟩,
                    anyk (fun k => obR [] (Os := []) trivial (by kernel_rfl) (by kernel_rfl))⟩,
                    anyk (fun k => obR [] (Os := []) trivial (by kernel_rfl) (by kernel_rfl))⟩,
                    anyk (fun k => obR [] (Os := []) trivial (by kernel_rfl) (by kernel_rfl))⟩,
                    anyk (fun k => obR [] (Os := []) trivial (by kernel_rfl) (by kernel_rfl))⟩,
                    anyk (fun k => obR [] (Os := []) trivial (by kernel_rfl) (by kernel_rfl))⟩,
                    anyk (fun k => obR [] (Os := []) trivial (by kernel_rfl) (by kernel_rfl))⟩,
                    anyk (fun k => obR [] (Os := []) trivial (by kernel_rfl) (by kernel_rfl))⟩,
                    anyk (fun k => obR [] (Os := []) trivial (by kernel_rfl) (by kernel_rfl))⟩,
                    anyk (fun k => obR [] (Os := []) trivial (by kernel_rfl) (by kernel_rfl))⟩,
                    anyk (fun k => obR [] (Os := []) trivial (by kernel_rfl) (by kernel_rfl))⟩,
                    anyk (fun k => obR [] (Os := []) trivial (by kernel_rfl) (by kernel_rfl))⟩,
                    anyk (fun k => obR [] (Os := []) trivial (by kernel_rfl) (by kernel_rfl))⟩,
                    anyk (fun k => obR [] (Os := []) trivial (by kernel_rfl) (by kernel_rfl))⟩ (fun a w G hl4 hE hH => ?_)
            have hle := Gh.le_trans hle hl4
            refine segO 2 [] [(59, .kv .bool true)] (Os := []) trivial hE hH (by kernel_rfl) (fun a hE => ?_)
            refine wpFrom_end (by kernel_rfl) ?_
            refine Exit.then_normal (hK21 _ _ ?_)
            refine condT hE (by kernel_rfl) rfl ?_
            refine wp_seq_k (fun K hK26 => ?_)
            refine wp_region_from ?_
            refine segO 1 [] [(6, .kv .i 10)] (Os := []) trivial hE hH (by kernel_rfl) (fun a hE => ?_)
            refine wpFrom_end (by kernel_rfl) ?_
            refine Exit.then_normal (hK26 _ _ ?_)
            refine wp_ret ?_
            refine Exit.then_ret ?_
            cases h
            exact ret1 rfl hE hle hH (by kernel_rfl)
          · replace h := ifN hc h
            have c27 := hc
            by_cases hc : (decide ((p2.length : Int) > (IntKind.wrap .i64 (65536 - z18)))) = true
            · replace h := ifT hc h
              have c28 := hc
              refine region_par 27 [] [(0, 0), (0, 0), (0, 0), (0, 0), (0, 0), (0, 0), (0, 0), (0, 0), (0, 0), (0, 0), (0, 0), (0, 0), (0, 0), (0, 0), (0, 0), (0, 0), (0, 0), (0, 0), (0, 0), (0, 0), (0, 0), (0, 0), (0, 0), (0, 0), (0, 0), (0, 0), (0, 0)] [.kv (.ptr 108) ((mapGet .str (.ptr 108) p1 o13.2.1).getD (zeroK (.ptr 108))), .kv .bool (((mapGet .str (.ptr 108) p1 o13.2.1).getD (zeroK (.ptr 108))).isNone), .kv .bool true, .kv (.ptr 105) p0, .kv (.ptr 105) (some i23), .fldA 105 i23 1, .fm 105 i23 1, .kv .i (o24.2.1.length : Int), .kv .bool (decide ((o24.2.1.length : Int) ≥ 128)), .kv .bool (decide ((o24.2.1.length : Int) ≥ 128)), .kv .bool false, .kv .str p2, .kv .i (p2.length : Int), .kv .i z18, .kv .i (IntKind.wrap .i64 (65536 - z18)), .kv .bool (decide ((p2.length : Int) > (IntKind.wrap .i64 (65536 - z18)))), .kv .bool (decide ((p2.length : Int) > (IntKind.wrap .i64 (65536 - z18)))), .kv .bool true, .undef, .undef, .undef, .undef, .undef, .undef, .undef, .undef, .undef] (fun _ => tabs σ) (fun _ => Ls) (by kernel_rfl) (by kernel_rfl) hE hH
                      ⟨⟨⟨⟨⟨⟨⟨⟨⟨⟨⟨⟨⟨⟨⟨⟨⟨⟨⟨⟨⟨⟨⟨⟨⟨⟨⟨trivial,
                      anyk (fun k => obR [] (Os := []) trivial (by kernel_rfl) (by kernel_rfl))⟩,
                      anyk (fun k => obR [] (Os := []) trivial (by kernel_rfl) (by kernel_rfl))⟩,
                      anyk (fun k => obRe [] (Os := []) trivial (by kernel_rfl) (by kernel_rfl) (eb2 c22 rfl))⟩,
                      anyk (fun k => obR [] (Os := []) trivial (by kernel_rfl) (by kernel_rfl))⟩,
                      anyk (fun k => obR [.pt i23] (Os := [_]) ⟨hi23, trivial⟩ (by kernel_rfl) (by kernel_rfl))⟩,
                      anyk (fun k => obR [] (Os := []) trivial (by kernel_rfl) (by kernel_rfl))⟩,
                      anyk (fun k => obR [.ob fs105 o24] (Os := [_]) ⟨(ob105 (s := σ) ho24), trivial⟩ (by kernel_rfl) (by kernel_rfl))⟩,
                      anyk (fun k => obR [.ob fs105 o24] (Os := [_]) ⟨(ob105 (s := σ) ho24), trivial⟩ (by kernel_rfl) (by kernel_rfl))⟩,
                      anyk (fun k => obR [] (Os := []) trivial (by kernel_rfl) (by kernel_rfl))⟩,
                      anyk (fun k => obR [] (Os := []) trivial (by kernel_rfl) (by kernel_rfl))⟩,
                      anyk (fun k => obRe [] (Os := []) trivial (by kernel_rfl) (by kernel_rfl) (eb2 (bf c27) rfl))⟩,
                      anyk (fun k => obR [] (Os := []) trivial (by kernel_rfl) (by kernel_rfl))⟩,
                      anyk (fun k => obR [] (Os := []) trivial (by kernel_rfl) (by kernel_rfl))⟩,
                      anyk (fun k => obR [] (Os := []) trivial (by kernel_rfl) (by kernel_rfl))⟩,
                      anyk (fun k => obR [] (Os := []) trivial (by kernel_rfl) (by kernel_rfl))⟩,
                      anyk (fun k => obR [] (Os := []) trivial (by kernel_rfl) (by kernel_rfl))⟩,
                      anyk (fun k => obR [] (Os := []) trivial (by kernel_rfl) (by kernel_rfl))⟩,
                      anyk (fun k => obRe [] (Os := []) trivial (by kernel_rfl) (by kernel_rfl) (eb2 c28 rfl))⟩,
                      anyk (fun k => obR [] (Os := []) trivial (by kernel_rfl) (by kernel_rfl))⟩,
                      anyk (fun k => obR [] (Os := []) trivial (by kernel_rfl) (by kernel_rfl))⟩,
                      anyk (fun k => obR [] (Os := []) trivial (by kernel_rfl) (by kernel_rfl))⟩,
                      anyk (fun k => obR [] (Os := []) trivial (by kernel_rfl) (by kernel_rfl))⟩,
                      anyk (fun k => obR [] (Os := []) trivial (by kernel_rfl) (by kernel_rfl))⟩,
                      anyk (fun k => obR [] (Os := []) trivial (by kernel_rfl) (by kernel_rfl))⟩,
                      anyk (fun k => obR [] (Os := []) trivial (by kernel_rfl) (by kernel_rfl))⟩,
                      anyk (fun k => obR [] (Os := []) trivial (by kernel_rfl) (by kernel_rfl))⟩,
                      anyk (fun k => obR [] (Os := []) trivial (by kernel_rfl) (by kernel_rfl))⟩ (fun a w G hl5 hE hH => ?_)
              have hle := Gh.le_trans hle hl5
              refine segO 2 [] [(59, .kv .bool true)] (Os := []) trivial hE hH (by kernel_rfl) (fun a hE => ?_)
              refine wpFrom_end (by kernel_rfl) ?_
              refine Exit.then_normal (hK21 _ _ ?_)
              refine condT hE (by kernel_rfl) rfl ?_
              refine wp_seq_k (fun K hK29 => ?_)
              refine wp_region_from ?_
              refine segO 1 [] [(6, .kv .i 10)] (Os := []) trivial hE hH (by kernel_rfl) (fun a hE => ?_)
              refine wpFrom_end (by kernel_rfl) ?_
              refine Exit.then_normal (hK29 _ _ ?_)
              refine wp_ret ?_
              refine Exit.then_ret ?_
              cases h
              exact ret1 rfl hE hle hH (by kernel_rfl)
            · replace h := ifN hc h
              have c30 := hc
              obtain ⟨i31, hi31, h⟩ := bs h
              obtain ⟨o32, ho32, h⟩ := bs h
              obtain ⟨r33, hr33, h⟩ := bs h
              refine region_par 27 [25] [(0, 0), (0, 0), (0, 0), (0, 0), (0, 0), (0, 0), (0, 0), (0, 0), (0, 0), (0, 0), (0, 0), (0, 0), (0, 0), (0, 0), (0, 0), (0, 0), (0, 0), (0, 0), (0, 1), (0, 1), (0, 1), (0, 1), (0, 1), (0, 1), (0, 0), (0, 0), (1, 1)] [.kv (.ptr 108) ((mapGet .str (.ptr 108) p1 o13.2.1).getD (zeroK (.ptr 108))), .kv .bool (((mapGet .str (.ptr 108) p1 o13.2.1).getD (zeroK (.ptr 108))).isNone), .kv .bool true, .kv (.ptr 105) p0, .kv (.ptr 105) (some i23), .fldA 105 i23 1, .fm 105 i23 1, .kv .i (o24.2.1.length : Int), .kv .bool (decide ((o24.2.1.length : Int) ≥ 128)), .kv .bool (decide ((o24.2.1.length : Int) ≥ 128)), .kv .bool false, .kv .str p2, .kv .i (p2.length : Int), .kv .i z18, .kv .i (IntKind.wrap .i64 (65536 - z18)), .kv .bool (decide ((p2.length : Int) > (IntKind.wrap .i64 (65536 - z18)))), .kv .bool (decide ((p2.length : Int) > (IntKind.wrap .i64 (65536 - z18)))), .kv .bool false, .kv .str p2, .kv .i (p2.length : Int), .kv (.ptr 105) p0, .kv (.ptr 105) (some i31), .fldA 105 i31 0, .kv .i o32.1, .kv (.ptr 105) p0, .kv .i r33, .kv .i (IntKind.wrap .i64 (o32.1 - r33))] (fun _ => tabs σ) (fun _ => Ls) (by kernel_rfl) (by kernel_rfl) hE hH
                      ⟨⟨⟨⟨⟨⟨⟨⟨⟨⟨⟨⟨⟨⟨⟨⟨⟨⟨⟨⟨⟨⟨⟨⟨⟨⟨⟨trivial,
                      anyk (fun k => obR [] (Os := []) trivial (by kernel_rfl) (by kernel_rfl))⟩,
                      anyk (fun k => obR [] (Os := []) trivial (by kernel_rfl) (by kernel_rfl))⟩,
                      anyk (fun k => obRe [] (Os := []) trivial (by kernel_rfl) (by kernel_rfl) (eb2 c22 rfl))⟩,
                      anyk (fun k => obR [] (Os := []) trivial (by kernel_rfl) (by kernel_rfl))⟩,
                      anyk (fun k => obR [.pt i23] (Os := [_]) ⟨hi23, trivial⟩ (by kernel_rfl) (by kernel_rfl))⟩,
                      anyk (fun k => obR [] (Os := []) trivial (by kernel_rfl) (by kernel_rfl))⟩,
                      anyk (fun k => obR [.ob fs105 o24] (Os := [_]) ⟨(ob105 (s := σ) ho24), trivial⟩ (by kernel_rfl) (by kernel_rfl))⟩,
                      anyk (fun k => obR [.ob fs105 o24] (Os := [_]) ⟨(ob105 (s := σ) ho24), trivial⟩ (by kernel_rfl) (by kernel_rfl))⟩,
                      anyk (fun k => obR [] (Os := []) trivial (by kernel_rfl) (by kernel_rfl))⟩,
                      anyk (fun k => obR [] (Os := []) trivial (by kernel_rfl) (by kernel_rfl))⟩,
                      anyk (fun k => obRe [] (Os := []) trivial (by kernel_rfl) (by kernel_rfl) (eb2 (bf c27) rfl))⟩,
                      anyk (fun k => obR [] (Os := []) trivial (by kernel_rfl) (by kernel_rfl))⟩,
                      anyk (fun k => obR [] (Os := []) trivial (by kernel_rfl) (by kernel_rfl))⟩,
                      anyk (fun k => obR [] (Os := []) trivial (by kernel_rfl) (by kernel_rfl))⟩,
                      anyk (fun k => obR [] (Os := []) trivial (by kernel_rfl) (by kernel_rfl))⟩,
                      anyk (fun k => obR [] (Os := []) trivial (by kernel_rfl) (by kernel_rfl))⟩,
                      anyk (fun k => obR [] (Os := []) trivial (by kernel_rfl) (by kernel_rfl))⟩,
                      anyk (fun k => obRe [] (Os := []) trivial (by kernel_rfl) (by kernel_rfl) (eb2 (bf c30) rfl))⟩,
                      anyk (fun k => obR [] (Os := []) trivial (by kernel_rfl) (by kernel_rfl))⟩,
                      anyk (fun k => obR [] (Os := []) trivial (by kernel_rfl) (by kernel_rfl))⟩,
                      anyk (fun k => obR [] (Os := []) trivial (by kernel_rfl) (by kernel_rfl))⟩,
                      anyk (fun k => obR [.pt i31] (Os := [_]) ⟨hi31, trivial⟩ (by kernel_rfl) (by kernel_rfl))⟩,
                      anyk (fun k => obR [] (Os := []) trivial (by kernel_rfl) (by kernel_rfl))⟩,
                      anyk (fun k => obR [.ob fs105 o32] (Os := [_]) ⟨(ob105 (s := σ) ho32), trivial⟩ (by kernel_rfl) (by kernel_rfl))⟩,
                      anyk (fun k => obR [] (Os := []) trivial (by kernel_rfl) (by kernel_rfl))⟩,
                      one (obC (k := 0) (d := (some 56)) (f20_ok hr33) rfl hN (by kernel_rfl) (by kernel_rfl) rfl trivial)⟩,
                      anyk (fun k => obR [] (Os := []) trivial (by kernel_rfl) (by kernel_rfl))⟩ (fun a w G hl6 hE hH => ?_)
              have hle := Gh.le_trans hle hl6
              refine segO 2 [] [(59, .kv .bool (decide ((p2.length : Int) > (IntKind.wrap .i64 (o32.1 - r33)))))] (Os := []) trivial hE hH (by kernel_rfl) (fun a hE => ?_)
              refine wpFrom_end (by kernel_rfl) ?_
              refine Exit.then_normal (hK21 _ _ ?_)
              refine condE (b := decide ((p2.length : Int) > (IntKind.wrap .i64 (o32.1 - r33)))) hE (by kernel_rfl) (fun hc => ?_) (fun hc => ?_)
              · replace h := ifT hc h
                refine wp_seq_k (fun K hK34 => ?_)
                refine wp_region_from ?_
                refine segO 1 [] [(6, .kv .i 10)] (Os := []) trivial hE hH (by kernel_rfl) (fun a hE => ?_)
                refine wpFrom_end (by kernel_rfl) ?_
                refine Exit.then_normal (hK34 _ _ ?_)
                refine wp_ret ?_
                refine Exit.then_ret ?_
                cases h
                exact ret1 rfl hE hle hH (by kernel_rfl)
              · replace h := ifF hc h
                refine wp_skip ?_
                refine Exit.then_normal (hK20 _ _ ?_)
                refine wp_seq_k (fun K hK35 => ?_)
                refine wp_seq_k (fun K hK36 => ?_)
                refine wp_region_from ?_
                refine segO 2 [] [(61, .kv .bool (((mapGet .str (.ptr 108) p1 o13.2.1).getD (zeroK (.ptr 108))).isNone))] (Os := []) trivial hE hH (by kernel_rfl) (fun a hE => ?_)
                refine wpFrom_end (by kernel_rfl) ?_
                refine Exit.then_normal (hK36 _ _ ?_)
                obtain ⟨z39, hz39, h⟩ := bs h
                refine join_intro (I := fun a w => ∃ (G : Gh), G0.le G ∧ EnvR G 80 a [(0, .kv (.ptr 105) p0), (2, .kv .str p2), (6, .kv .i 0), (8, .kv (.ptr 108) z39.1)] ∧ Holds w G (tabs z39.2) (Ls)) trivial ?_ ?_
                · intro a w hI
                  obtain ⟨G, hle, hE, hH⟩ := hI
                  refine Exit.then_normal (hK35 _ _ ?_)
                  refine wp_seq_k (fun K hK41 => ?_)
                  refine wp_region_from ?_
                  obtain ⟨i42, hi42, h⟩ := bs h
                  obtain ⟨o43, ho43, h⟩ := bs h
                  obtain ⟨q44, h⟩ := gd h
                  obtain ⟨i45, hi45, h⟩ := bs h
                  refine segO 8 [.pt i42, .ob fs108 o43, .pt i45] [(75, .kv .str (o43.1 ++ p2)), (77, .fldA 108 i45 0)] (Os := [_, _, _, _]) ⟨hi42, (ob108 (s := z39.2) ho43), q44, hi45, trivial⟩ hE hH (by kernel_rfl) (fun a hE => ?_)
                  obtain ⟨o46, ho46, h⟩ := bs h
                  refine stepStO (t := 108) (j := i45) (off := 0) .str (o43.1 ++ p2) (x' := (o43.1 ++ p2, o46.2.1, ())) hE hH (by kernel_rfl) (ob108 (s := z39.2) ho46) (by kernel_rfl) (upd108 (s := z39.2)) (fun w G hl8 hE hH => ?_)
                  have hle := Gh.le_trans hle hl8
                  refine wpFrom_end (by kernel_rfl) ?_
                  refine Exit.then_normal (hK41 _ _ ?_)
                  refine wp_seq_k (fun K hK47 => ?_)
                  refine wp_region_from ?_
                  refine segO 1 [] [(78, .kv (.ptr 105) p0)] (Os := []) trivial hE hH (by kernel_rfl) (fun a hE => ?_)
                  obtain ⟨r48, hr48, h⟩ := bs h
                  refine stepCall (d := (some 79)) (f72_ok (q1 := 73) (l1 := []) (hq1 := (fun h => f73_ok h)) hr48) hE hH hN (by kernel_rfl) (by kernel_rfl) trivial (fun a w G hl9 hE hH => ?_)
                  have hle := Gh.le_trans hle hl9
                  refine segO 1 [] [(6, .kv .i r48.1)] (Os := []) trivial hE hH (by kernel_rfl) (fun a hE => ?_)
                  refine wpFrom_end (by kernel_rfl) ?_
                  refine Exit.then_normal (hK47 _ _ ?_)
                  refine wp_ret ?_
                  cases h
                  exact ret1 rfl hE hle hH (by kernel_rfl)
                · intro KK hKK ho
                  have hj40 : ∀ (a : Act) (w : World) (G : Gh), G0.le G → EnvR G 80 a [(0, .kv (.ptr 105) p0), (2, .kv .str p2), (6, .kv .i 0), (8, .kv (.ptr 108) z39.1)] → Holds w G (tabs z39.2) (Ls) → KK .normal a w := fun a w G  h1 h2 h3 => hKK a w ⟨G, h1, h2, h3⟩
                  replace h := hz39
                  refine condE (b := ((mapGet .str (.ptr 108) p1 o13.2.1).getD (zeroK (.ptr 108))).isNone) hE (by kernel_rfl) (fun hc => ?_) (fun hc => ?_)
                  · replace h := ifT hc h
                    refine wp_seq_k (fun K hK49 => ?_)
                    refine wp_region_from ?_
                    refine stepBuild (d := (some 62)) K108 ([], 0, ()) rfl hE (by kernel_rfl) (by kernel_rfl) (fun a hE => ?_)
                    refine stepNew (t := 108) (fs := fs108) (x := ([], 0, ())) (e := 108) (d := (some 63)) K108 ([], 0, ()) hE hH (by kernel_rfl) (by kernel_rfl) ⟨rfl, HEq.rfl, ⟨rfl, HEq.rfl, trivial⟩⟩ (addT108 (s := σ) (x := ([], 0, ()))) (fun a w G hl10 hE hH => ?_)
                    have hle := Gh.le_trans hle hl10
                    refine segO 1 [] [(8, .fldA 108 σ.t108.length 0)] (Os := []) trivial hE hH (by kernel_rfl) (fun a hE => ?_)
                    refine wpFrom_end (by kernel_rfl) ?_
                    refine Exit.then_normal (hK49 _ _ ?_)
                    refine wp_region_from ?_
                    obtain ⟨i50, hi50, h⟩ := bs h
                    obtain ⟨o51, ho51, h⟩ := bs h
                    refine segO 6 [.pt i50, .ob fs105 o51] [(67, .fm 105 i50 1), (68, .kv .str p1), (69, .fldA 108 σ.t108.length 0)] (Os := [_, _]) ⟨hi50, (ob105 (s := (σ.add108 ([], 0, ()))) ho51), trivial⟩ hE hH (by kernel_rfl) (fun a hE => ?_)
                    refine stepMUp .str (.ptr 108) p1 (some σ.t108.length) (t := 105) (j := i50) (f := 1) (m := o51.2.1) (x' := (o51.1, mapSet .str (.ptr 108) p1 (some σ.t108.length) o51.2.1, o51.2.2.1, o51.2.2.2.1, ())) hE hH (by kernel_rfl) (ob105 (s := (σ.add108 ([], 0, ()))) ho51) (by kernel_rfl) (by kernel_rfl) (upd105 (s := (σ.add108 ([], 0, ())))) (fun w G hl11 hE hH => ?_)
                    have hle := Gh.le_trans hle hl11
                    refine wpFrom_end (by kernel_rfl) ?_
                    cases h
                    exact hj40 _ _ _  hle (hE.subC (by kernel_rfl)) hH
                  · replace h := ifF hc h
                    refine wp_skip ?_
                    cases h
                    exact hj40 _ _ _  hle (hE.subC (by kernel_rfl)) hH
        · replace h := ifN hc h
          have c52 := hc
          by_cases hc : (decide ((p2.length : Int) > (IntKind.wrap .i64 (65536 - z18)))) = true
          · replace h := ifT hc h
            have c53 := hc
            refine region_par 27 [] [(0, 0), (0, 0), (0, 0), (0, 0), (0, 0), (0, 0), (0, 0), (0, 0), (0, 0), (0, 0), (0, 0), (0, 0), (0, 0), (0, 0), (0, 0), (0, 0), (0, 0), (0, 0), (0, 0), (0, 0), (0, 0), (0, 0), (0, 0), (0, 0), (0, 0), (0, 0), (0, 0)] [.kv (.ptr 108) ((mapGet .str (.ptr 108) p1 o13.2.1).getD (zeroK (.ptr 108))), .kv .bool (((mapGet .str (.ptr 108) p1 o13.2.1).getD (zeroK (.ptr 108))).isNone), .kv .bool false, .undef, .undef, .undef, .undef, .undef, .undef, .kv .bool false, .kv .bool false, .kv .str p2, .kv .i (p2.length : Int), .kv .i z18, .kv .i (IntKind.wrap .i64 (65536 - z18)), .kv .bool (decide ((p2.length : Int) > (IntKind.wrap .i64 (65536 - z18)))), .kv .bool (decide ((p2.length : Int) > (IntKind.wrap .i64 (65536 - z18)))), .kv .bool true, .undef, .undef, .undef, .undef, .undef, .undef, .undef, .undef, .undef] (fun _ => tabs σ) (fun _ => Ls) (by kernel_rfl) (by kernel_rfl) hE hH
                    ⟨⟨⟨⟨⟨⟨⟨⟨⟨⟨⟨⟨⟨⟨⟨⟨⟨⟨⟨⟨⟨⟨⟨⟨⟨⟨⟨trivial,
                    anyk (fun k => obR [] (Os := []) trivial (by kernel_rfl) (by kernel_rfl))⟩,
                    anyk (fun k => obR [] (Os := []) trivial (by kernel_rfl) (by kernel_rfl))⟩,
                    anyk (fun k => obRe [] (Os := []) trivial (by kernel_rfl) (by kernel_rfl) (eb2 (bf c52) rfl))⟩,
                    anyk (fun k => obR [] (Os := []) trivial (by kernel_rfl) (by kernel_rfl))⟩,
                    anyk (fun k => obR [] (Os := []) trivial (by kernel_rfl) (by kernel_rfl))⟩,
                    anyk (fun k => obR [] (Os := []) trivial (by kernel_rfl) (by kernel_rfl))⟩,
                    anyk (fun k => obR [] (Os := []) trivial (by kernel_rfl) (by kernel_rfl))⟩,
                    anyk (fun k => obR [] (Os := []) trivial (by kernel_rfl) (by kernel_rfl))⟩,
                    anyk (fun k => obR [] (Os := []) trivial (by kernel_rfl) (by kernel_rfl))⟩,
                    anyk (fun k => obR [] (Os := []) trivial (by kernel_rfl) (by kernel_rfl))⟩,
                    anyk (fun k => obR [] (Os := []) trivial (by kernel_rfl) (by kernel_rfl))⟩,
                    anyk (fun k => obR [] (Os := []) trivial (by kernel_rfl) (by kernel_rfl))⟩,
                    anyk (fun k => obR [] (Os := []) trivial (by kernel_rfl) (by kernel_rfl))⟩,
                    anyk (fun k => obR [] (Os := []) trivial (by kernel_rfl) (by kernel_rfl))⟩,
                    anyk (fun k => obR [] (Os := []) trivial (by kernel_rfl) (by kernel_rfl))⟩,
                    anyk (fun k => obR [] (Os := []) trivial (by kernel_rfl) (by kernel_rfl))⟩,
                    anyk (fun k => obR [] (Os := []) trivial (by kernel_rfl) (by kernel_rfl))⟩,
                    anyk (fun k => obRe [] (Os := []) trivial (by kernel_rfl) (by kernel_rfl) (eb2 c53 rfl))⟩,
                    anyk (fun k => obR [] (Os := []) trivial (by kernel_rfl) (by kernel_rfl))⟩,
                    anyk (fun k => obR [] (Os := []) trivial (by kernel_rfl) (by kernel_rfl))⟩,
                    anyk (fun k => obR [] (Os := []) trivial (by kernel_rfl) (by kernel_rfl))⟩,
                    anyk (fun k => obR [] (Os := []) trivial (by kernel_rfl) (by kernel_rfl))⟩,
                    anyk (fun k => obR [] (Os := []) trivial (by kernel_rfl) (by kernel_rfl))⟩,
                    anyk (fun k => obR [] (Os := []) trivial (by kernel_rfl) (by kernel_rfl))⟩,
                    anyk (fun k => obR [] (Os := []) trivial (by kernel_rfl) (by kernel_rfl))⟩,
                    anyk (fun k => obR [] (Os := []) trivial (by kernel_rfl) (by kernel_rfl))⟩,
                    anyk (fun k => obR [] (Os := []) trivial (by kernel_rfl) (by kernel_rfl))⟩ (fun a w G hl12 hE hH => ?_)
            have hle := Gh.le_trans hle hl12
            refine segO 2 [] [(59, .kv .bool true)] (Os := []) trivial hE hH (by kernel_rfl) (fun a hE => ?_)
            refine wpFrom_end (by kernel_rfl) ?_
            refine Exit.then_normal (hK21 _ _ ?_)
            refine condT hE (by kernel_rfl) rfl ?_
            refine wp_seq_k (fun K hK54 => ?_)
            refine wp_region_from ?_
            refine segO 1 [] [(6, .kv .i 10)] (Os := []) trivial hE hH (by kernel_rfl) (fun a hE => ?_)
            refine wpFrom_end (by kernel_rfl) ?_
            refine Exit.then_normal (hK54 _ _ ?_)
            refine wp_ret ?_
            refine Exit.then_ret ?_
            cases h
            exact ret1 rfl hE hle hH (by kernel_rfl)
          · replace h := ifN hc h
            have c55 := hc
            obtain ⟨i56, hi56, h⟩ := bs h
            obtain ⟨o57, ho57, h⟩ := bs h
            obtain ⟨r58, hr58, h⟩ := bs h
            refine region_par 27 [25] [(0, 0), (0, 0), (0, 0), (0, 0), (0, 0), (0, 0), (0, 0), (0, 0), (0, 0), (0, 0), (0, 0), (0, 0), (0, 0), (0, 0), (0, 0), (0, 0), (0, 0), (0, 0), (0, 1), (0, 1), (0, 1), (0, 1), (0, 1), (0, 1), (0, 0), (0, 0), (1, 1)] [.kv (.ptr 108) ((mapGet .str (.ptr 108) p1 o13.2.1).getD (zeroK (.ptr 108))), .kv .bool (((mapGet .str (.ptr 108) p1 o13.2.1).getD (zeroK (.ptr 108))).isNone), .kv .bool false, .undef, .undef, .undef, .undef, .undef, .undef, .kv .bool false, .kv .bool false, .kv .str p2, .kv .i (p2.length : Int), .kv .i z18, .kv .i (IntKind.wrap .i64 (65536 - z18)), .kv .bool (decide ((p2.length : Int) > (IntKind.wrap .i64 (65536 - z18)))), .kv .bool (decide ((p2.length : Int) > (IntKind.wrap .i64 (65536 - z18)))), .kv .bool false, .kv .str p2, .kv .i (p2.length : Int), .kv (.ptr 105) p0, .kv (.ptr 105) (some i56), .fldA 105 i56 0, .kv .i o57.1, .kv (.ptr 105) p0, .kv .i r58, .kv .i (IntKind.wrap .i64 (o57.1 - r58))] (fun _ => tabs σ) (fun _ => Ls) (by kernel_rfl) (by kernel_rfl) hE hH
                    ⟨⟨⟨⟨⟨⟨⟨⟨⟨⟨⟨⟨⟨⟨⟨⟨⟨⟨⟨⟨⟨⟨⟨⟨⟨⟨⟨trivial,
                    anyk (fun k => obR [] (Os := []) trivial (by kernel_rfl) (by kernel_rfl))⟩,
                    anyk (fun k => obR [] (Os := []) trivial (by kernel_rfl) (by kernel_rfl))⟩,
                    anyk (fun k => obRe [] (Os := []) trivial (by kernel_rfl) (by kernel_rfl) (eb2 (bf c52) rfl))⟩,
                    anyk (fun k => obR [] (Os := []) trivial (by kernel_rfl) (by kernel_rfl))⟩,
                    anyk (fun k => obR [] (Os := []) trivial (by kernel_rfl) (by kernel_rfl))⟩,
                    anyk (fun k => obR [] (Os := []) trivial (by kernel_rfl) (by kernel_rfl))⟩,
                    anyk (fun k => obR [] (Os := []) trivial (by kernel_rfl) (by kernel_rfl))⟩,
                    anyk (fun k => obR [] (Os := []) trivial (by kernel_rfl) (by kernel_rfl))⟩,
                    anyk (fun k => obR [] (Os := []) trivial (by kernel_rfl) (by kernel_rfl))⟩,
                    anyk (fun k => obR [] (Os := []) trivial (by kernel_rfl) (by kernel_rfl))⟩,
                    anyk (fun k => obR [] (Os := []) trivial (by kernel_rfl) (by kernel_rfl))⟩,
                    anyk (fun k => obR [] (Os := []) trivial (by kernel_rfl) (by kernel_rfl))⟩,
                    anyk (fun k => obR [] (Os := []) trivial (by kernel_rfl) (by kernel_rfl))⟩,
                    anyk (fun k => obR [] (Os := []) trivial (by kernel_rfl) (by kernel_rfl))⟩,
                    anyk (fun k => obR [] (Os := []) trivial (by kernel_rfl) (by kernel_rfl))⟩,
                    anyk (fun k => obR [] (Os := []) trivial (by kernel_rfl) (by kernel_rfl))⟩,
                    anyk (fun k => obR [] (Os := []) trivial (by kernel_rfl) (by kernel_rfl))⟩,
                    anyk (fun k => obRe [] (Os := []) trivial (by kernel_rfl) (by kernel_rfl) (eb2 (bf c55) rfl))⟩,
                    anyk (fun k => obR [] (Os := []) trivial (by kernel_rfl) (by kernel_rfl))⟩,
                    anyk (fun k => obR [] (Os := []) trivial (by kernel_rfl) (by kernel_rfl))⟩,
                    anyk (fun k => obR [] (Os := []) trivial (by kernel_rfl) (by kernel_rfl))⟩,
                    anyk (fun k => obR [.pt i56] (Os := [_]) ⟨hi56, trivial⟩ (by kernel_rfl) (by kernel_rfl))⟩,
                    anyk (fun k => obR [] (Os := []) trivial (by kernel_rfl) (by kernel_rfl))⟩,
                    anyk (fun k => obR [.ob fs105 o57] (Os := [_]) ⟨(ob105 (s := σ) ho57), trivial⟩ (by kernel_rfl) (by kernel_rfl))⟩,
                    anyk (fun k => obR [] (Os := []) trivial (by kernel_rfl) (by kernel_rfl))⟩,
                    one (obC (k := 0) (d := (some 56)) (f20_ok hr58) rfl hN (by kernel_rfl) (by kernel_rfl) rfl trivial)⟩,
                    anyk (fun k => obR [] (Os := []) trivial (by kernel_rfl) (by kernel_rfl))⟩ (fun a w G hl13 hE hH => ?_)
            have hle := Gh.le_trans hle hl13
            refine segO 2 [] [(59, .kv .bool (decide ((p2.length : Int) > (IntKind.wrap .i64 (o57.1 - r58)))))] (Os := []) trivial hE hH (by kernel_rfl) (fun a hE => ?_)
            refine wpFrom_end (by kernel_rfl) ?_
            refine Exit.then_normal (hK21 _ _ ?_)
            refine condE (b := decide ((p2.length : Int) > (IntKind.wrap .i64 (o57.1 - r58)))) hE (by kernel_rfl) (fun hc => ?_) (fun hc => ?_)
            · replace h := ifT hc h
              refine wp_seq_k (fun K hK59 => ?_)
              refine wp_region_from ?_
              refine segO 1 [] [(6, .kv .i 10)] (Os := []) trivial hE hH (by kernel_rfl) (fun a hE => ?_)
              refine wpFrom_end (by kernel_rfl) ?_
              refine Exit.then_normal (hK59 _ _ ?_)
              refine wp_ret ?_
              refine Exit.then_ret ?_
              cases h
              exact ret1 rfl hE hle hH (by kernel_rfl)
            · replace h := ifF hc h
              refine wp_skip ?_
              refine Exit.then_normal (hK20 _ _ ?_)
              refine wp_seq_k (fun K hK60 => ?_)
              refine wp_seq_k (fun K hK61 => ?_)
              refine wp_region_from ?_
              refine segO 2 [] [(61, .kv .bool (((mapGet .str (.ptr 108) p1 o13.2.1).getD (zeroK (.ptr 108))).isNone))] (Os := []) trivial hE hH (by kernel_rfl) (fun a hE => ?_)
              refine wpFrom_end (by kernel_rfl) ?_
              refine Exit.then_normal (hK61 _ _ ?_)
              obtain ⟨z64, hz64, h⟩ := bs h
              refine join_intro (I := fun a w => ∃ (G : Gh), G0.le G ∧ EnvR G 80 a [(0, .kv (.ptr 105) p0), (2, .kv .str p2), (6, .kv .i 0), (8, .kv (.ptr 108) z64.1)] ∧ Holds w G (tabs z64.2) (Ls)) trivial ?_ ?_
              · intro a w hI
                obtain ⟨G, hle, hE, hH⟩ := hI
                refine Exit.then_normal (hK60 _ _ ?_)
                refine wp_seq_k (fun K hK66 => ?_)
                refine wp_region_from ?_
                obtain ⟨i67, hi67, h⟩ := bs h
                obtain ⟨o68, ho68, h⟩ := bs h
                obtain ⟨q69, h⟩ := gd h
                obtain ⟨i70, hi70, h⟩ := bs h
                refine segO 8 [.pt i67, .ob fs108 o68, .pt i70] [(75, .kv .str (o68.1 ++ p2)), (77, .fldA 108 i70 0)] (Os := [_, _, _, _]) ⟨hi67, (ob108 (s := z64.2) ho68), q69, hi70, trivial⟩ hE hH (by kernel_rfl) (fun a hE => ?_)
                obtain ⟨o71, ho71, h⟩ := bs h
                refine stepStO (t := 108) (j := i70) (off := 0) .str (o68.1 ++ p2) (x' := (o68.1 ++ p2, o71.2.1, ())) hE hH (by kernel_rfl) (ob108 (s := z64.2) ho71) (by kernel_rfl) (upd108 (s := z64.2)) (fun w G hl15 hE hH => ?_)
                have hle := Gh.le_trans hle hl15
                refine wpFrom_end (by kernel_rfl) ?_
                refine Exit.then_normal (hK66 _ _ ?_)
                refine wp_seq_k (fun K hK72 => ?_)
                refine wp_region_from ?_
                refine segO 1 [] [(78, .kv (.ptr 105) p0)] (Os := []) trivial hE hH (by kernel_rfl) (fun a hE => ?_)
                obtain ⟨r73, hr73, h⟩ := bs h
                refine stepCall (d := (some 79)) (f72_ok (q1 := 73) (l1 := []) (hq1 := (fun h => f73_ok h)) hr73) hE hH hN (by kernel_rfl) (by kernel_rfl) trivial (fun a w G hl16 hE hH => ?_)
                have hle := Gh.le_trans hle hl16
                refine segO 1 [] [(6, .kv .i r73.1)] (Os := []) trivial hE hH (by kernel_rfl) (fun a hE => ?_)
                refine wpFrom_end (by kernel_rfl) ?_
                refine Exit.then_normal (hK72 _ _ ?_)
                refine wp_ret ?_
                cases h
                exact ret1 rfl hE hle hH (by kernel_rfl)
              · intro KK hKK ho
                have hj65 : ∀ (a : Act) (w : World) (G : Gh), G0.le G → EnvR G 80 a [(0, .kv (.ptr 105) p0), (2, .kv .str p2), (6, .kv .i 0), (8, .kv (.ptr 108) z64.1)] → Holds w G (tabs z64.2) (Ls) → KK .normal a w := fun a w G  h1 h2 h3 => hKK a w ⟨G, h1, h2, h3⟩
                replace h := hz64
                refine condE (b := ((mapGet .str (.ptr 108) p1 o13.2.1).getD (zeroK (.ptr 108))).isNone) hE (by kernel_rfl) (fun hc => ?_) (fun hc => ?_)
                · replace h := ifT hc h
                  refine wp_seq_k (fun K hK74 => ?_)
                  refine wp_region_from ?_
                  refine stepBuild (d := (some 62)) K108 ([], 0, ()) rfl hE (by kernel_rfl) (by kernel_rfl) (fun a hE => ?_)
                  refine stepNew (t := 108) (fs := fs108) (x := ([], 0, ())) (e := 108) (d := (some 63)) K108 ([], 0, ()) hE hH (by kernel_rfl) (by kernel_rfl) ⟨rfl, HEq.rfl, ⟨rfl, HEq.rfl, trivial⟩⟩ (addT108 (s := σ) (x := ([], 0, ()))) (fun a w G hl17 hE hH => ?_)
                  have hle := Gh.le_trans hle hl17
                  refine segO 1 [] [(8, .fldA 108 σ.t108.length 0)] (Os := []) trivial hE hH (by kernel_rfl) (fun a hE => ?_)
                  refine wpFrom_end (by kernel_rfl) ?_
                  refine Exit.then_normal (hK74 _ _ ?_)
                  refine wp_region_from ?_
                  obtain ⟨i75, hi75, h⟩ := bs h
                  obtain ⟨o76, ho76, h⟩ := bs h
                  refine segO 6 [.pt i75, .ob fs105 o76] [(67, .fm 105 i75 1), (68, .kv .str p1), (69, .fldA 108 σ.t108.length 0)] (Os := [_, _]) ⟨hi75, (ob105 (s := (σ.add108 ([], 0, ()))) ho76), trivial⟩ hE hH (by kernel_rfl) (fun a hE => ?_)
                  refine stepMUp .str (.ptr 108) p1 (some σ.t108.length) (t := 105) (j := i75) (f := 1) (m := o76.2.1) (x' := (o76.1, mapSet .str (.ptr 108) p1 (some σ.t108.length) o76.2.1, o76.2.2.1, o76.2.2.2.1, ())) hE hH (by kernel_rfl) (ob105 (s := (σ.add108 ([], 0, ()))) ho76) (by kernel_rfl) (by kernel_rfl) (upd105 (s := (σ.add108 ([], 0, ())))) (fun w G hl18 hE hH => ?_)
                  have hle := Gh.le_trans hle hl18
                  refine wpFrom_end (by kernel_rfl) ?_
                  cases h
                  exact hj65 _ _ _  hle (hE.subC (by kernel_rfl)) hH
                · replace h := ifF hc h
                  refine wp_skip ?_
                  cases h
                  exact hj65 _ _ _  hle (hE.subC (by kernel_rfl)) hH
      · intro KK hKK ho
        have hj19 : ∀ (a : Act) (w : World) (G : Gh), G0.le G → EnvR G 80 a [(0, .kv (.ptr 105) p0), (1, .kv .str p1), (2, .kv .str p2), (6, .kv .i 0), (8, .kv (.ptr 108) ((mapGet .str (.ptr 108) p1 o13.2.1).getD (zeroK (.ptr 108)))), (9, .kv .i z18)] → Holds w G (tabs σ) (Ls) → KK .normal a w := fun a w G  h1 h2 h3 => hKK a w ⟨G, h1, h2, h3⟩
        replace h := hz18
        refine condE (b := !((mapGet .str (.ptr 108) p1 o13.2.1).getD (zeroK (.ptr 108))).isNone) hE (by kernel_rfl) (fun hc => ?_) (fun hc => ?_)
        · replace h := ifT hc h
          refine wp_region_from ?_
          obtain ⟨i77, hi77, h⟩ := bs h
          obtain ⟨o78, ho78, h⟩ := bs h
          refine segO 6 [.pt i77, .ob fs108 o78] [(9, .kv .i (o78.1.length : Int))] (Os := [_, _]) ⟨hi77, (ob108 (s := σ) ho78), trivial⟩ hE hH (by kernel_rfl) (fun a hE => ?_)
          refine wpFrom_end (by kernel_rfl) ?_
          cases h
          exact hj19 _ _ _  hle (hE.subC (by kernel_rfl)) hH
        · replace h := ifF hc h
          refine wp_skip ?_
          cases h
          exact hj19 _ _ _  hle (hE.subC (by kernel_rfl)) hH

def f27_l0 (p0 : Option Nat) (r7 : List (List UInt8)) (x8 : List Int) (x9 : Int) (σ10 : St) : Option ((List Int) × Int × St) :=
  if (decide (x9 < (r7.length : Int))) = true then
  (ix r7 x9) >>= fun x19 =>
  p0 >>= fun i21 =>
  (σ10.t105[i21]?) >>= fun o22 =>
  ((mapGet .str (.ptr 108) x19 o22.2.1).getD (zeroK (.ptr 108))) >>= fun i24 =>
  (σ10.t108[i24]?) >>= fun o25 =>
  ((mapGet .str (.ptr 108) x19 o22.2.1).getD (zeroK (.ptr 108))) >>= fun i26 =>
  (σ10.t108[i26]?) >>= fun o27 =>
  if ((IntKind.wrap .i64 ((o25.1.length : Int) - o27.2.1)) == 0) = true then
  f27_l0 p0 r7 x8 (IntKind.wrap .i64 (x9 + 1)) σ10
  else
  (if (decide ((x8.length : Int) > 0)) = true then
  (ix x8 0) >>= fun x49 =>
  if (IntKind.wrap .i64 ((IntKind.wrap .i64 ((o25.1.length : Int) - o27.2.1)) + 1)) ≠ 0 then
  if (0 : Int) ≤ 1 ∧ 1 ≤ (x8.length : Int) then
  some (x8.drop (Int.toNat 1), Int.tmod (if 0 > x49 then 0 else x49) (IntKind.wrap .i64 ((IntKind.wrap .i64 ((o25.1.length : Int) - o27.2.1)) + 1)))
  else none
  else none
  else
  some (x8, 0) : Option ((List Int) × Int)) >>= fun z35 =>
  ((mapGet .str (.ptr 108) x19 o22.2.1).getD (zeroK (.ptr 108))) >>= fun i38 =>
  (σ10.t108[i38]?) >>= fun o39 =>
  ((mapGet .str (.ptr 108) x19 o22.2.1).getD (zeroK (.ptr 108))) >>= fun i40 =>
  (σ10.t108[i40]?) >>= fun o41 =>
  if (0 : Int) ≤ (IntKind.wrap .i64 (o41.2.1 + z35.2)) ∧ (IntKind.wrap .i64 (o41.2.1 + z35.2)) ≤ (o39.1.length : Int) then
  ((mapGet .str (.ptr 108) x19 o22.2.1).getD (zeroK (.ptr 108))) >>= fun i43 =>
  (σ10.t108[i43]?) >>= fun o44 =>
  ((mapGet .str (.ptr 108) x19 o22.2.1).getD (zeroK (.ptr 108))) >>= fun i45 =>
  ((σ10.set108 i43 (o39.1.take (Int.toNat (IntKind.wrap .i64 (o41.2.1 + z35.2))), o44.2.1, ())).t108[i45]?) >>= fun o46 =>
  ((mapGet .str (.ptr 108) x19 o22.2.1).getD (zeroK (.ptr 108))) >>= fun i47 =>
  ((σ10.set108 i43 (o39.1.take (Int.toNat (IntKind.wrap .i64 (o41.2.1 + z35.2))), o44.2.1, ())).t108[i47]?) >>= fun o48 =>
  f27_l0 p0 r7 z35.1 (IntKind.wrap .i64 (x9 + 1)) ((σ10.set108 i43 (o39.1.take (Int.toNat (IntKind.wrap .i64 (o41.2.1 + z35.2))), o44.2.1, ())).set108 i47 (o48.1, (o46.1.length : Int), ()))
  else none
  else
  some ((x8, x9, σ10))
  partial_fixpoint

def f27 (p0 : Option Nat) (p1 : List Int) (σ : St) : Option (Int × St) :=
  if p0.isNone = true then
  some (1, σ)
  else
  f21 p0 σ >>= fun r7 =>
  f27_l0 p0 r7 p1 0 σ >>= fun z52 =>
  p0 >>= fun i55 =>
  (z52.2.2.t105[i55]?) >>= fun o56 =>
  p0 >>= fun i57 =>
  ((z52.2.2.set105 i55 (o56.1, o56.2.1, o56.2.2.1, false, ())).t105[i57]?) >>= fun o58 =>
  some (0, ((z52.2.2.set105 i55 (o56.1, o56.2.1, o56.2.2.1, false, ())).set105 i57 (o58.1, o58.2.1, 0, o58.2.2.2.1, ())))

theorem f27_ok {p0 : Option Nat} {p1 : List Int} {σ : St} {p : Int × St} (h : f27 p0 p1 σ = some p) : Spec Try.prog 27 [.kv (.ptr 105) p0, .kv (.list .i) p1] (tabs σ) (.kv .i p.1) (tabs p.2) := by
  refine Spec.intro Try.func27 (by kernel_rfl) rfl (by kernel_rfl) (fun a w G0 Ls hE hH hN => ?_)
  have hle : G0.le G0 := Gh.le_refl G0
  unfold f27 at h
  refine wp_seq_k (fun K hK1 => ?_)
  refine wp_region_from ?_
  refine segO 1 [] [(4, .kv .i 0)] (Os := []) trivial hE hH (by kernel_rfl) (fun a hE => ?_)
  refine wpFrom_end (by kernel_rfl) ?_
  refine Exit.then_normal (hK1 _ _ ?_)
  refine wp_seq_k (fun K hK2 => ?_)
  refine wp_seq_k (fun K hK3 => ?_)
  refine wp_region_from ?_
  refine segO 2 [] [(11, .kv .bool p0.isNone)] (Os := []) trivial hE hH (by kernel_rfl) (fun a hE => ?_)
  refine wpFrom_end (by kernel_rfl) ?_
  refine Exit.then_normal (hK3 _ _ ?_)
  refine condE (b := p0.isNone) hE (by kernel_rfl) (fun hc => ?_) (fun hc => ?_)
  · replace h := ifT hc h
    refine wp_seq_k (fun K hK4 => ?_)
    refine wp_region_from ?_
    refine segO 1 [] [(4, .kv .i 1)] (Os := []) trivial hE hH (by kernel_rfl) (fun a hE => ?_)
    refine wpFrom_end (by kernel_rfl) ?_
    refine Exit.then_normal (hK4 _ _ ?_)
    refine wp_ret ?_
    refine Exit.then_ret ?_
    cases h
    exact ret1 rfl hE hle hH (by kernel_rfl)
  · replace h := ifF hc h
    refine wp_skip ?_
    refine Exit.then_normal (hK2 _ _ ?_)
    refine wp_seq_k (fun K hK5 => ?_)
    refine wp_seq_k (fun K hK6 => ?_)
    refine wp_region_from ?_
    refine segO 1 [] [(12, .kv (.ptr 105) p0)] (Os := []) trivial hE hH (by kernel_rfl) (fun a hE => ?_)
    obtain ⟨r7, hr7, h⟩ := bs h
    refine stepCall (d := (some 13)) (f21_ok hr7) hE hH hN (by kernel_rfl) (by kernel_rfl) trivial (fun a w G hl1 hE hH => ?_)
    have hle := Gh.le_trans hle hl1
    refine segO 2 [] [(14, .kv .i (r7.length : Int)), (15, .kv .i 0)] (Os := []) trivial hE hH (by kernel_rfl) (fun a hE => ?_)
    refine wpFrom_end (by kernel_rfl) ?_
    refine Exit.then_normal (hK6 _ _ ?_)
    refine wp_block ?_
    obtain ⟨z52, hz52, h⟩ := bs h
    refine loop_intro (fun Q11 c hQ hc => ?_)
    have key : ∀ (x8 : List Int) (x9 : Int) (σ10 : St) (rr : (List Int) × Int × St), f27_l0 p0 r7 x8 x9 σ10 = some rr → ∀ (a : Act) (w : World) (G : Gh), G0.le G → EnvR G 78 a [(0, .kv (.ptr 105) p0), (1, .kv (.list .i) x8), (4, .kv .i 0), (13, .kv (.list .str) r7), (14, .kv .i (r7.length : Int)), (15, .kv .i x9)] → Holds w G (tabs σ10) (Ls) → (∀ z53 : (List Int) × Int × St, rr = z53 → ∀ (a : Act) (w : World) (G : Gh), G0.le G → EnvR G 78 a [(0, .kv (.ptr 105) p0), (1, .kv (.list .i) z53.1), (4, .kv .i 0), (13, .kv (.list .str) r7), (14, .kv .i (r7.length : Int)), (15, .kv .i z53.2.1)] → Holds w G (tabs z53.2.2) (Ls) → Q11 (.exit 0) a w) → Rnd Try.prog c Q11 a w := by
      refine f27_l0.partial_correctness p0 r7 _ ?_
      intro self ih14 x8 x9 σ10 rr h a w G  hle hE hH hx12
      refine rnd_step' hc ?_
      refine wp_seq_k (fun K hK15 => ?_)
      refine wp_region_from ?_
      refine segO 1 [] [(16, .kv .bool (decide (x9 < (r7.length : Int))))] (Os := []) trivial hE hH (by kernel_rfl) (fun a hE => ?_)
      refine wpFrom_end (by kernel_rfl) ?_
      refine Exit.then_normal (hK15 _ _ ?_)
      refine wp_seq_k (fun K hK16 => ?_)
      refine condE (b := decide (x9 < (r7.length : Int))) hE (by kernel_rfl) (fun hc => ?_) (fun hc => ?_)
      · replace h := ifT hc h
        refine wp_skip ?_
        refine Exit.then_normal (hK16 _ _ ?_)
        refine wp_seq_k (fun K hK17 => ?_)
        refine wp_block ?_
        refine wp_seq_k (fun K hK18 => ?_)
        refine wp_region_from ?_
        obtain ⟨x19, hx19, h⟩ := bs h
        refine segO 3 [.ix .str x19] [(6, .kv .str x19)] (Os := [_]) ⟨(IxAt.of (k := .str) hx19), trivial⟩ hE hH (by kernel_rfl) (fun a hE => ?_)
        refine wpFrom_end (by kernel_rfl) ?_
        refine Exit.then_normal (hK18 _ _ ?_)
        refine wp_seq_k (fun K hK20 => ?_)
        refine wp_region_from ?_
        obtain ⟨i21, hi21, h⟩ := bs h
        obtain ⟨o22, ho22, h⟩ := bs h
        refine segO 7 [.pt i21, .ob fs105 o22, .ob fs105 o22] [(7, .kv (.ptr 108) ((mapGet .str (.ptr 108) x19 o22.2.1).getD (zeroK (.ptr 108))))] (Os := [_, _, _]) ⟨hi21, (ob105 (s := σ10) ho22), (ob105 (s := σ10) ho22), trivial⟩ hE hH (by kernel_rfl) (fun a hE => ?_)
        refine wpFrom_end (by kernel_rfl) ?_
        refine Exit.then_normal (hK20 _ _ ?_)
        refine wp_seq_k (fun K hK23 => ?_)
        obtain ⟨i24, hi24, h⟩ := bs h
        obtain ⟨o25, ho25, h⟩ := bs h
        obtain ⟨i26, hi26, h⟩ := bs h
        obtain ⟨o27, ho27, h⟩ := bs h
        refine region_par 9 [] [(0, 0), (0, 0), (0, 0), (0, 0), (0, 0), (0, 0), (0, 0), (0, 0), (0, 0)] [.kv (.ptr 108) ((mapGet .str (.ptr 108) x19 o22.2.1).getD (zeroK (.ptr 108))), .kv (.ptr 108) (some i24), .fldA 108 i24 0, .kv .str o25.1, .kv .i (o25.1.length : Int), .kv (.ptr 108) ((mapGet .str (.ptr 108) x19 o22.2.1).getD (zeroK (.ptr 108))), .kv (.ptr 108) (some i26), .fldA 108 i26 1, .kv .i o27.2.1] (fun _ => tabs σ10) (fun _ => Ls) (by kernel_rfl) (by kernel_rfl) hE hH
                ⟨⟨⟨⟨⟨⟨⟨⟨⟨trivial,
                anyk (fun k => obR [] (Os := []) trivial (by kernel_rfl) (by kernel_rfl))⟩,
                anyk (fun k => obR [.pt i24] (Os := [_]) ⟨hi24, trivial⟩ (by kernel_rfl) (by kernel_rfl))⟩,
                anyk (fun k => obR [] (Os := []) trivial (by kernel_rfl) (by kernel_rfl))⟩,
                anyk (fun k => obR [.ob fs108 o25] (Os := [_]) ⟨(ob108 (s := σ10) ho25), trivial⟩ (by kernel_rfl) (by kernel_rfl))⟩,
                anyk (fun k => obR [] (Os := []) trivial (by kernel_rfl) (by kernel_rfl))⟩,
                anyk (fun k => obR [] (Os := []) trivial (by kernel_rfl) (by kernel_rfl))⟩,
                anyk (fun k => obR [.pt i26] (Os := [_]) ⟨hi26, trivial⟩ (by kernel_rfl) (by kernel_rfl))⟩,
                anyk (fun k => obR [] (Os := []) trivial (by kernel_rfl) (by kernel_rfl))⟩,
                anyk (fun k => obR [.ob fs108 o27] (Os := [_]) ⟨(ob108 (s := σ10) ho27), trivial⟩ (by kernel_rfl) (by kernel_rfl))⟩ (fun a w G hl2 hE hH => ?_)
        have hle := Gh.le_trans hle hl2
        refine segO 2 [] [(8, .kv .i (IntKind.wrap .i64 ((o25.1.length : Int) - o27.2.1)))] (Os := []) trivial hE hH (by kernel_rfl) (fun a hE => ?_)
        refine wpFrom_end (by kernel_rfl) ?_
        refine Exit.then_normal (hK23 _ _ ?_)
        refine wp_seq_k (fun K hK28 => ?_)
        refine wp_seq_k (fun K hK29 => ?_)
        refine wp_region_from ?_
        refine segO 2 [] [(36, .kv .bool ((IntKind.wrap .i64 ((o25.1.length : Int) - o27.2.1)) == 0))] (Os := []) trivial hE hH (by kernel_rfl) (fun a hE => ?_)
        refine wpFrom_end (by kernel_rfl) ?_
        refine Exit.then_normal (hK29 _ _ ?_)
        refine condE (b := (IntKind.wrap .i64 ((o25.1.length : Int) - o27.2.1)) == 0) hE (by kernel_rfl) (fun hc => ?_) (fun hc => ?_)
        · replace h := ifT hc h
          refine wp_exit ?_
          refine Exit.then_exit ?_
          refine Exit.in_eq ?_
          refine Exit.then_normal (hK17 _ _ ?_)
          refine wp_region_from ?_
          refine segO 2 [] [(15, .kv .i (IntKind.wrap .i64 (x9 + 1)))] (Os := []) trivial hE hH (by kernel_rfl) (fun a hE => ?_)
          refine wpFrom_end (by kernel_rfl) ?_
          refine Exit.then_normal ?_
          exact ih14 _ _ _ _ h _ _ _  hle (hE.subC (by kernel_rfl)) hH hx12
        · replace h := ifF hc h
          refine wp_skip ?_
          refine Exit.then_normal (hK28 _ _ ?_)
          refine wp_seq_k (fun K hK30 => ?_)
          refine wp_region_from ?_
          refine segO 1 [] [(9, .kv .i 0)] (Os := []) trivial hE hH (by kernel_rfl) (fun a hE => ?_)
          refine wpFrom_end (by kernel_rfl) ?_
          refine Exit.then_normal (hK30 _ _ ?_)
          refine wp_seq_k (fun K hK31 => ?_)
          refine wp_seq_k (fun K hK32 => ?_)
          refine wp_region_from ?_
          refine segO 3 [] [(39, .kv .bool (decide ((x8.length : Int) > 0)))] (Os := []) trivial hE hH (by kernel_rfl) (fun a hE => ?_)
          refine wpFrom_end (by kernel_rfl) ?_
          refine Exit.then_normal (hK32 _ _ ?_)
          obtain ⟨z35, hz35, h⟩ := bs h
          refine join_intro (I := fun a w => ∃ (G : Gh), G0.le G ∧ EnvR G 78 a [(0, .kv (.ptr 105) p0), (1, .kv (.list .i) z35.1), (4, .kv .i 0), (7, .kv (.ptr 108) ((mapGet .str (.ptr 108) x19 o22.2.1).getD (zeroK (.ptr 108)))), (9, .kv .i z35.2), (13, .kv (.list .str) r7), (14, .kv .i (r7.length : Int)), (15, .kv .i x9)] ∧ Holds w G (tabs σ10) (Ls)) trivial ?_ ?_
          · intro a w hI
            obtain ⟨G, hle, hE, hH⟩ := hI
            refine Exit.then_normal (hK31 _ _ ?_)
            refine wp_seq_k (fun K hK37 => ?_)
            obtain ⟨i38, hi38, h⟩ := bs h
            obtain ⟨o39, ho39, h⟩ := bs h
            obtain ⟨i40, hi40, h⟩ := bs h
            obtain ⟨o41, ho41, h⟩ := bs h
            obtain ⟨q42, h⟩ := gd h
            refine region_par 12 [] [(0, 0), (0, 0), (0, 0), (0, 0), (0, 0), (0, 0), (0, 0), (0, 0), (0, 0), (0, 0), (0, 0), (0, 0)] [.kv (.ptr 108) ((mapGet .str (.ptr 108) x19 o22.2.1).getD (zeroK (.ptr 108))), .kv (.ptr 108) ((mapGet .str (.ptr 108) x19 o22.2.1).getD (zeroK (.ptr 108))), .kv (.ptr 108) (some i38), .fldA 108 i38 0, .kv .str o39.1, .kv (.ptr 108) ((mapGet .str (.ptr 108) x19 o22.2.1).getD (zeroK (.ptr 108))), .kv (.ptr 108) (some i40), .fldA 108 i40 1, .kv .i o41.2.1, .kv .i z35.2, .kv .i (IntKind.wrap .i64 (o41.2.1 + z35.2)), .kv .str (o39.1.take (Int.toNat (IntKind.wrap .i64 (o41.2.1 + z35.2))))] (fun _ => tabs σ10) (fun _ => Ls) (by kernel_rfl) (by kernel_rfl) hE hH
                    ⟨⟨⟨⟨⟨⟨⟨⟨⟨⟨⟨⟨trivial,
                    anyk (fun k => obR [] (Os := []) trivial (by kernel_rfl) (by kernel_rfl))⟩,
                    anyk (fun k => obR [] (Os := []) trivial (by kernel_rfl) (by kernel_rfl))⟩,
                    anyk (fun k => obR [.pt i38] (Os := [_]) ⟨hi38, trivial⟩ (by kernel_rfl) (by kernel_rfl))⟩,
                    anyk (fun k => obR [] (Os := []) trivial (by kernel_rfl) (by kernel_rfl))⟩,
                    anyk (fun k => obR [.ob fs108 o39] (Os := [_]) ⟨(ob108 (s := σ10) ho39), trivial⟩ (by kernel_rfl) (by kernel_rfl))⟩,
                    anyk (fun k => obR [] (Os := []) trivial (by kernel_rfl) (by kernel_rfl))⟩,
                    anyk (fun k => obR [.pt i40] (Os := [_]) ⟨hi40, trivial⟩ (by kernel_rfl) (by kernel_rfl))⟩,
                    anyk (fun k => obR [] (Os := []) trivial (by kernel_rfl) (by kernel_rfl))⟩,
                    anyk (fun k => obR [.ob fs108 o41] (Os := [_]) ⟨(ob108 (s := σ10) ho41), trivial⟩ (by kernel_rfl) (by kernel_rfl))⟩,
                    anyk (fun k => obR [] (Os := []) trivial (by kernel_rfl) (by kernel_rfl))⟩,
                    anyk (fun k => obR [] (Os := []) trivial (by kernel_rfl) (by kernel_rfl))⟩,
                    anyk (fun k => obR [] (Os := [_]) ⟨q42, trivial⟩ (by kernel_rfl) (by kernel_rfl))⟩ (fun a w G hl4 hE hH => ?_)
            have hle := Gh.le_trans hle hl4
            obtain ⟨i43, hi43, h⟩ := bs h
            refine segO 2 [.pt i43] [(62, .fldA 108 i43 0)] (Os := [_]) ⟨hi43, trivial⟩ hE hH (by kernel_rfl) (fun a hE => ?_)
            obtain ⟨o44, ho44, h⟩ := bs h
            refine stepStO (t := 108) (j := i43) (off := 0) .str (o39.1.take (Int.toNat (IntKind.wrap .i64 (o41.2.1 + z35.2)))) (x' := (o39.1.take (Int.toNat (IntKind.wrap .i64 (o41.2.1 + z35.2))), o44.2.1, ())) hE hH (by kernel_rfl) (ob108 (s := σ10) ho44) (by kernel_rfl) (upd108 (s := σ10)) (fun w G hl5 hE hH => ?_)
            have hle := Gh.le_trans hle hl5
            refine wpFrom_end (by kernel_rfl) ?_
            refine Exit.then_normal (hK37 _ _ ?_)
            refine wp_region_from ?_
            obtain ⟨i45, hi45, h⟩ := bs h
            obtain ⟨o46, ho46, h⟩ := bs h
            obtain ⟨i47, hi47, h⟩ := bs h
            refine segO 8 [.pt i45, .ob fs108 o46, .pt i47] [(68, .kv .i (o46.1.length : Int)), (70, .fldA 108 i47 1)] (Os := [_, _, _]) ⟨hi45, (ob108 (s := (σ10.set108 i43 (o39.1.take (Int.toNat (IntKind.wrap .i64 (o41.2.1 + z35.2))), o44.2.1, ()))) ho46), hi47, trivial⟩ hE hH (by kernel_rfl) (fun a hE => ?_)
            obtain ⟨o48, ho48, h⟩ := bs h
            refine stepStO (t := 108) (j := i47) (off := 1) .i (o46.1.length : Int) (x' := (o48.1, (o46.1.length : Int), ())) hE hH (by kernel_rfl) (ob108 (s := (σ10.set108 i43 (o39.1.take (Int.toNat (IntKind.wrap .i64 (o41.2.1 + z35.2))), o44.2.1, ()))) ho48) (by kernel_rfl) (upd108 (s := (σ10.set108 i43 (o39.1.take (Int.toNat (IntKind.wrap .i64 (o41.2.1 + z35.2))), o44.2.1, ())))) (fun w G hl6 hE hH => ?_)
            have hle := Gh.le_trans hle hl6
            refine wpFrom_end (by kernel_rfl) ?_
            refine Exit.in_normal ?_
            refine Exit.then_normal (hK17 _ _ ?_)
            refine wp_region_from ?_
            refine segO 2 [] [(15, .kv .i (IntKind.wrap .i64 (x9 + 1)))] (Os := []) trivial hE hH (by kernel_rfl) (fun a hE => ?_)
            refine wpFrom_end (by kernel_rfl) ?_
            refine Exit.then_normal ?_
            exact ih14 _ _ _ _ h _ _ _  hle (hE.subC (by kernel_rfl)) hH hx12
          · intro KK hKK ho
            have hj36 : ∀ (a : Act) (w : World) (G : Gh), G0.le G → EnvR G 78 a [(0, .kv (.ptr 105) p0), (1, .kv (.list .i) z35.1), (4, .kv .i 0), (7, .kv (.ptr 108) ((mapGet .str (.ptr 108) x19 o22.2.1).getD (zeroK (.ptr 108)))), (9, .kv .i z35.2), (13, .kv (.list .str) r7), (14, .kv .i (r7.length : Int)), (15, .kv .i x9)] → Holds w G (tabs σ10) (Ls) → KK .normal a w := fun a w G  h1 h2 h3 => hKK a w ⟨G, h1, h2, h3⟩
            replace h := hz35
            refine condE (b := decide ((x8.length : Int) > 0)) hE (by kernel_rfl) (fun hc => ?_) (fun hc => ?_)
            · replace h := ifT hc h
              obtain ⟨x49, hx49, h⟩ := bs h
              obtain ⟨q50, h⟩ := gd h
              obtain ⟨q51, h⟩ := gd h
              refine region_par 10 [] [(0, 0), (0, 0), (0, 0), (0, 0), (0, 0), (0, 0), (0, 0), (0, 0), (0, 0), (0, 0)] [.kv (.list .i) x8, .elA .i x49 0, .kv .i x49, .kv .i (if 0 > x49 then 0 else x49), .kv .i (IntKind.wrap .i64 ((o25.1.length : Int) - o27.2.1)), .kv .i (IntKind.wrap .i64 ((IntKind.wrap .i64 ((o25.1.length : Int) - o27.2.1)) + 1)), .kv .i (Int.tmod (if 0 > x49 then 0 else x49) (IntKind.wrap .i64 ((IntKind.wrap .i64 ((o25.1.length : Int) - o27.2.1)) + 1))), .kv (.list .i) x8, .kv (.list .i) (x8.drop (Int.toNat 1)), .kv .i (Int.tmod (if 0 > x49 then 0 else x49) (IntKind.wrap .i64 ((IntKind.wrap .i64 ((o25.1.length : Int) - o27.2.1)) + 1)))] (fun _ => tabs σ10) (fun _ => Ls) (by kernel_rfl) (by kernel_rfl) hE hH
                      ⟨⟨⟨⟨⟨⟨⟨⟨⟨⟨trivial,
                      anyk (fun k => obR [] (Os := []) trivial (by kernel_rfl) (by kernel_rfl))⟩,
                      anyk (fun k => obR [.ix .i x49] (Os := [_]) ⟨(IxAt.of (k := .i) hx49), trivial⟩ (by kernel_rfl) (by kernel_rfl))⟩,
                      anyk (fun k => obR [] (Os := []) trivial (by kernel_rfl) (by kernel_rfl))⟩,
                      anyk (fun k => obR [] (Os := []) trivial (by kernel_rfl) (by kernel_rfl))⟩,
                      anyk (fun k => obR [] (Os := []) trivial (by kernel_rfl) (by kernel_rfl))⟩,
                      anyk (fun k => obR [] (Os := []) trivial (by kernel_rfl) (by kernel_rfl))⟩,
                      anyk (fun k => obR [] (Os := [_]) ⟨q50, trivial⟩ (by kernel_rfl) (by kernel_rfl))⟩,
                      anyk (fun k => obR [] (Os := []) trivial (by kernel_rfl) (by kernel_rfl))⟩,
                      anyk (fun k => obR [] (Os := [_]) ⟨q51, trivial⟩ (by kernel_rfl) (by kernel_rfl))⟩,
                      anyk (fun k => obR [] (Os := []) trivial (by kernel_rfl) (by kernel_rfl))⟩ (fun a w G hl7 hE hH => ?_)
              have hle := Gh.le_trans hle hl7
              refine segO 1 [] [(1, .kv (.list .i) (x8.drop (Int.toNat 1)))] (Os := []) trivial hE hH (by kernel_rfl) (fun a hE => ?_)
              refine wpFrom_end (by kernel_rfl) ?_
              cases h
              exact hj36 _ _ _  hle (hE.subC (by kernel_rfl)) hH
            · replace h := ifF hc h
              refine wp_skip ?_
              cases h
              exact hj36 _ _ _  hle (hE.subC (by kernel_rfl)) hH
      · replace h := ifF hc h
        refine wp_exit ?_
        refine Exit.then_exit ?_
        refine Exit.then_exit ?_
        cases h
        exact hx12 _ rfl _ _ _  hle (hE.subC (by kernel_rfl)) hH
    refine key _ _ _ _ hz52 _ _ _  hle (hE.subC (by kernel_rfl)) hH ?_
    · intro z53 hz a w G  hle hE hH
      subst hz
      rw [hQ]
      refine Exit.in_eq ?_
      refine Exit.then_normal (hK5 _ _ ?_)
      refine wp_seq_k (fun K hK54 => ?_)
      refine wp_region_from ?_
      obtain ⟨i55, hi55, h⟩ := bs h
      refine segO 4 [.pt i55] [(73, .kv (.ptr 105) p0), (75, .fldA 105 i55 3)] (Os := [_]) ⟨hi55, trivial⟩ hE hH (by kernel_rfl) (fun a hE => ?_)
      obtain ⟨o56, ho56, h⟩ := bs h
      refine stepStO (t := 105) (j := i55) (off := 3) .bool false (x' := (o56.1, o56.2.1, o56.2.2.1, false, ())) hE hH (by kernel_rfl) (ob105 (s := z52.2.2) ho56) (by kernel_rfl) (upd105 (s := z52.2.2)) (fun w G hl8 hE hH => ?_)
      have hle := Gh.le_trans hle hl8
      obtain ⟨i57, hi57, h⟩ := bs h
      refine segO 2 [.pt i57] [(77, .fldA 105 i57 2)] (Os := [_]) ⟨hi57, trivial⟩ hE hH (by kernel_rfl) (fun a hE => ?_)
      obtain ⟨o58, ho58, h⟩ := bs h
      refine stepStO (t := 105) (j := i57) (off := 2) .i 0 (x' := (o58.1, o58.2.1, 0, o58.2.2.2.1, ())) hE hH (by kernel_rfl) (ob105 (s := (z52.2.2.set105 i55 (o56.1, o56.2.1, o56.2.2.1, false, ()))) ho58) (by kernel_rfl) (upd105 (s := (z52.2.2.set105 i55 (o56.1, o56.2.1, o56.2.2.1, false, ())))) (fun w G hl9 hE hH => ?_)
      have hle := Gh.le_trans hle hl9
      refine wpFrom_end (by kernel_rfl) ?_
      refine Exit.then_normal (hK54 _ _ ?_)
      refine wp_seq_k (fun K hK59 => ?_)
      refine wp_region_from ?_
      refine segO 1 [] [(4, .kv .i 0)] (Os := []) trivial hE hH (by kernel_rfl) (fun a hE => ?_)
      refine wpFrom_end (by kernel_rfl) ?_
      refine Exit.then_normal (hK59 _ _ ?_)
      refine wp_ret ?_
      cases h
      exact ret1 rfl hE hle hH (by kernel_rfl)

def f19  (σ : St) : Option (Bool × St) :=
  f18 100 σ >>= fun r3 =>
  if ((r3.1.2 != 0) || r3.1.1.isNone) = true then
  some (false, r3.2)
  else
  f24 r3.1.1 [97] [97, 98, 99] r3.2 >>= fun r7 =>
  if (r7.1 != 0) = true then
  some (false, r7.2)
  else
  f33 r3.1.1 [97] r7.2 >>= fun r9 =>
  if (r9.1 != 0) = true then
  some (false, r9.2)
  else
  f24 r3.1.1 [97] [100, 101, 102, 103] r9.2 >>= fun r11 =>
  if (r11.1 != 0) = true then
  some (false, r11.2)
  else
  f27 r3.1.1 [7] r11.2 >>= fun r13 =>
  if (r13.1 != 0) = true then
  some (false, r13.2)
  else
  f28 r3.1.1 [97] r13.2 >>= fun r16 =>
  if ((r16.1 == [97, 98, 99, 100, 101]) && (r16.2 == 0)) = true then
  f30 r3.1.1 [97] r13.2 >>= fun r18 =>
  if (r18 == 5) = true then
  f20 r3.1.1 r13.2 >>= fun r19 =>
  if (r19 == 5) = true then
  f21 r3.1.1 r13.2 >>= fun r20 =>
  some ((r20.length : Int) == 1, r13.2)
  else
  some (false, r13.2)
  else
  some (false, r13.2)
  else
  some (false, r13.2)

theorem f19_ok  {σ : St} {p : Bool × St} (h : f19 σ = some p) : Spec Try.prog 19 [] (tabs σ) (.kv .bool p.1) (tabs p.2) := by
  refine Spec.intro Try.func19 (by kernel_rfl) rfl (by kernel_rfl) (fun a w G0 Ls hE hH hN => ?_)
  have hle : G0.le G0 := Gh.le_refl G0
  unfold f19 at h
  refine wp_seq_k (fun K hK1 => ?_)
  refine wp_region_from ?_
  refine segO 1 [] [(0, .kv .bool false)] (Os := []) trivial hE hH (by kernel_rfl) (fun a hE => ?_)
  refine wpFrom_end (by kernel_rfl) ?_
  refine Exit.then_normal (hK1 _ _ ?_)
  refine wp_seq_k (fun K hK2 => ?_)
  refine wp_region_from ?_
  obtain ⟨r3, hr3, h⟩ := bs h
  refine stepCall (d := (some 6)) (f18_ok hr3) hE hH hN (by kernel_rfl) (by kernel_rfl) trivial (fun a w G hl1 hE hH => ?_)
  have hle := Gh.le_trans hle hl1
  refine segO 5 [] [(1, .kv (.ptr 105) r3.1.1), (2, .kv .i r3.1.2)] (Os := []) trivial hE hH (by kernel_rfl) (fun a hE => ?_)
  refine wpFrom_end (by kernel_rfl) ?_
  refine Exit.then_normal (hK2 _ _ ?_)
  refine wp_seq_k (fun K hK4 => ?_)
  refine wp_seq_k (fun K hK5 => ?_)
  refine wp_region_from ?_
  refine segO 7 [] [(15, .kv .bool ((r3.1.2 != 0) || r3.1.1.isNone))] (Os := []) trivial hE hH (by kernel_rfl) (fun a hE => ?_)
  by_cases hc : ((r3.1.2 != 0) || r3.1.1.isNone) = true
  · replace h := ifT hc h
    have hE := hE.setB 15 (by kernel_rfl) hc
    refine segO 20 [] [(35, .kv .bool true)] (Os := []) trivial hE hH (by kernel_rfl) (fun a hE => ?_)
    refine wpFrom_end (by kernel_rfl) ?_
    refine Exit.then_normal (hK5 _ _ ?_)
    refine condT hE (by kernel_rfl) rfl ?_
    refine wp_seq_k (fun K hK6 => ?_)
    refine wp_region_from ?_
    refine segO 1 [] [(0, .kv .bool false)] (Os := []) trivial hE hH (by kernel_rfl) (fun a hE => ?_)
    refine wpFrom_end (by kernel_rfl) ?_
    refine Exit.then_normal (hK6 _ _ ?_)
    refine wp_ret ?_
    refine Exit.then_ret ?_
    cases h
    exact ret1 rfl hE hle hH (by kernel_rfl)
  · replace h := ifN hc h
    have hE := hE.setB 15 (by kernel_rfl) (bf hc)
    refine segO 1 [] [(16, .kv (.ptr 105) r3.1.1)] (Os := []) trivial hE hH (by kernel_rfl) (fun a hE => ?_)
    obtain ⟨r7, hr7, h⟩ := bs h
    refine stepCall (d := (some 17)) (f24_ok hr7) hE hH hN (by kernel_rfl) (by kernel_rfl) trivial (fun a w G hl2 hE hH => ?_)
    have hle := Gh.le_trans hle hl2
    refine segO 3 [] [(20, .kv .bool (r7.1 != 0))] (Os := []) trivial hE hH (by kernel_rfl) (fun a hE => ?_)
    by_cases hc : (r7.1 != 0) = true
    · replace h := ifT hc h
      have hE := hE.setB 20 (by kernel_rfl) hc
      refine segO 15 [] [(35, .kv .bool true)] (Os := []) trivial hE hH (by kernel_rfl) (fun a hE => ?_)
      refine wpFrom_end (by kernel_rfl) ?_
      refine Exit.then_normal (hK5 _ _ ?_)
      refine condT hE (by kernel_rfl) rfl ?_
      refine wp_seq_k (fun K hK8 => ?_)
      refine wp_region_from ?_
      refine segO 1 [] [(0, .kv .bool false)] (Os := []) trivial hE hH (by kernel_rfl) (fun a hE => ?_)
      refine wpFrom_end (by kernel_rfl) ?_
      refine Exit.then_normal (hK8 _ _ ?_)
      refine wp_ret ?_
      refine Exit.then_ret ?_
      cases h
      exact ret1 rfl hE hle hH (by kernel_rfl)
    · replace h := ifN hc h
      have hE := hE.setB 20 (by kernel_rfl) (bf hc)
      refine segO 1 [] [(21, .kv (.ptr 105) r3.1.1)] (Os := []) trivial hE hH (by kernel_rfl) (fun a hE => ?_)
      obtain ⟨r9, hr9, h⟩ := bs h
      refine stepCall (d := (some 22)) (f33_ok hr9) hE hH hN (by kernel_rfl) (by kernel_rfl) trivial (fun a w G hl3 hE hH => ?_)
      have hle := Gh.le_trans hle hl3
      refine segO 3 [] [(25, .kv .bool (r9.1 != 0))] (Os := []) trivial hE hH (by kernel_rfl) (fun a hE => ?_)
      by_cases hc : (r9.1 != 0) = true
      · replace h := ifT hc h
        have hE := hE.setB 25 (by kernel_rfl) hc
        refine segO 10 [] [(35, .kv .bool true)] (Os := []) trivial hE hH (by kernel_rfl) (fun a hE => ?_)
        refine wpFrom_end (by kernel_rfl) ?_
        refine Exit.then_normal (hK5 _ _ ?_)
        refine condT hE (by kernel_rfl) rfl ?_
        refine wp_seq_k (fun K hK10 => ?_)
        refine wp_region_from ?_
        refine segO 1 [] [(0, .kv .bool false)] (Os := []) trivial hE hH (by kernel_rfl) (fun a hE => ?_)
        refine wpFrom_end (by kernel_rfl) ?_
        refine Exit.then_normal (hK10 _ _ ?_)
        refine wp_ret ?_
        refine Exit.then_ret ?_
        cases h
        exact ret1 rfl hE hle hH (by kernel_rfl)
      · replace h := ifN hc h
        have hE := hE.setB 25 (by kernel_rfl) (bf hc)
        refine segO 1 [] [(26, .kv (.ptr 105) r3.1.1)] (Os := []) trivial hE hH (by kernel_rfl) (fun a hE => ?_)
        obtain ⟨r11, hr11, h⟩ := bs h
        refine stepCall (d := (some 27)) (f24_ok hr11) hE hH hN (by kernel_rfl) (by kernel_rfl) trivial (fun a w G hl4 hE hH => ?_)
        have hle := Gh.le_trans hle hl4
        refine segO 3 [] [(30, .kv .bool (r11.1 != 0))] (Os := []) trivial hE hH (by kernel_rfl) (fun a hE => ?_)
        by_cases hc : (r11.1 != 0) = true
        · replace h := ifT hc h
          have hE := hE.setB 30 (by kernel_rfl) hc
          refine segO 5 [] [(35, .kv .bool true)] (Os := []) trivial hE hH (by kernel_rfl) (fun a hE => ?_)
          refine wpFrom_end (by kernel_rfl) ?_
          refine Exit.then_normal (hK5 _ _ ?_)
          refine condT hE (by kernel_rfl) rfl ?_
          refine wp_seq_k (fun K hK12 => ?_)
          refine wp_region_from ?_
          refine segO 1 [] [(0, .kv .bool false)] (Os := []) trivial hE hH (by kernel_rfl) (fun a hE => ?_)
          refine wpFrom_end (by kernel_rfl) ?_
          refine Exit.then_normal (hK12 _ _ ?_)
          refine wp_ret ?_
          refine Exit.then_ret ?_
          cases h
          exact ret1 rfl hE hle hH (by kernel_rfl)
        · replace h := ifN hc h
          have hE := hE.setB 30 (by kernel_rfl) (bf hc)
          refine segO 1 [] [(31, .kv (.ptr 105) r3.1.1)] (Os := []) trivial hE hH (by kernel_rfl) (fun a hE => ?_)
          refine stepBuildS (d := (some 32)) .i [7] hE hH (by kernel_rfl) (by kernel_rfl) (fun a w G hl5 hE hH => ?_)
          have hle := Gh.le_trans hle hl5
          obtain ⟨r13, hr13, h⟩ := bs h
          refine stepCall (d := (some 33)) (f27_ok hr13) hE hH hN (by kernel_rfl) (by kernel_rfl) trivial (fun a w G hl6 hE hH => ?_)
          have hle := Gh.le_trans hle hl6
          refine segO 2 [] [(35, .kv .bool (r13.1 != 0))] (Os := []) trivial hE hH (by kernel_rfl) (fun a hE => ?_)
          refine wpFrom_end (by kernel_rfl) ?_
          refine Exit.then_normal (hK5 _ _ ?_)
          refine condE (b := r13.1 != 0) hE (by kernel_rfl) (fun hc => ?_) (fun hc => ?_)
          · replace h := ifT hc h
            refine wp_seq_k (fun K hK14 => ?_)
            refine wp_region_from ?_
            refine segO 1 [] [(0, .kv .bool false)] (Os := []) trivial hE hH (by kernel_rfl) (fun a hE => ?_)
            refine wpFrom_end (by kernel_rfl) ?_
            refine Exit.then_normal (hK14 _ _ ?_)
            refine wp_ret ?_
            refine Exit.then_ret ?_
            cases h
            exact ret1 rfl hE hle hH (by kernel_rfl)
          · replace h := ifF hc h
            refine wp_skip ?_
            refine Exit.then_normal (hK4 _ _ ?_)
            refine wp_seq_k (fun K hK15 => ?_)
            refine wp_region_from ?_
            refine segO 1 [] [(37, .kv (.ptr 105) r3.1.1)] (Os := []) trivial hE hH (by kernel_rfl) (fun a hE => ?_)
            obtain ⟨r16, hr16, h⟩ := bs h
            refine stepCall (d := (some 38)) (f28_ok hr16) hE hH hN (by kernel_rfl) (by kernel_rfl) trivial (fun a w G hl7 hE hH => ?_)
            have hle := Gh.le_trans hle hl7
            refine segO 5 [] [(3, .kv .str r16.1), (4, .kv .i r16.2)] (Os := []) trivial hE hH (by kernel_rfl) (fun a hE => ?_)
            refine wpFrom_end (by kernel_rfl) ?_
            refine Exit.then_normal (hK15 _ _ ?_)
            refine wp_seq_k (fun K hK17 => ?_)
            refine wp_region_from ?_
            refine segO 7 [] [(47, .kv .bool ((r16.1 == [97, 98, 99, 100, 101]) && (r16.2 == 0)))] (Os := []) trivial hE hH (by kernel_rfl) (fun a hE => ?_)
            by_cases hc : ((r16.1 == [97, 98, 99, 100, 101]) && (r16.2 == 0)) = true
            · replace h := ifT hc h
              have hE := hE.setB 47 (by kernel_rfl) hc
              refine segO 1 [] [(48, .kv (.ptr 105) r3.1.1)] (Os := []) trivial hE hH (by kernel_rfl) (fun a hE => ?_)
              obtain ⟨r18, hr18, h⟩ := bs h
              refine stepCall (d := (some 49)) (f30_ok hr18) hE hH hN (by kernel_rfl) (by kernel_rfl) trivial (fun a w G hl8 hE hH => ?_)
              have hle := Gh.le_trans hle hl8
              refine segO 3 [] [(52, .kv .bool (r18 == 5))] (Os := []) trivial hE hH (by kernel_rfl) (fun a hE => ?_)
              by_cases hc : (r18 == 5) = true
              · replace h := ifT hc h
                have hE := hE.setB 52 (by kernel_rfl) hc
                refine segO 1 [] [(53, .kv (.ptr 105) r3.1.1)] (Os := []) trivial hE hH (by kernel_rfl) (fun a hE => ?_)
                obtain ⟨r19, hr19, h⟩ := bs h
                refine stepCall (d := (some 54)) (f20_ok hr19) hE hH hN (by kernel_rfl) (by kernel_rfl) trivial (fun a w G hl9 hE hH => ?_)
                have hle := Gh.le_trans hle hl9
                refine segO 3 [] [(57, .kv .bool (r19 == 5))] (Os := []) trivial hE hH (by kernel_rfl) (fun a hE => ?_)
                by_cases hc : (r19 == 5) = true
                · replace h := ifT hc h
                  have hE := hE.setB 57 (by kernel_rfl) hc
                  refine segO 1 [] [(58, .kv (.ptr 105) r3.1.1)] (Os := []) trivial hE hH (by kernel_rfl) (fun a hE => ?_)
                  obtain ⟨r20, hr20, h⟩ := bs h
                  refine stepCall (d := (some 59)) (f21_ok hr20) hE hH hN (by kernel_rfl) (by kernel_rfl) trivial (fun a w G hl10 hE hH => ?_)
                  have hle := Gh.le_trans hle hl10
                  refine segO 4 [] [(0, .kv .bool ((r20.length : Int) == 1))] (Os := []) trivial hE hH (by kernel_rfl) (fun a hE => ?_)
                  refine wpFrom_end (by kernel_rfl) ?_
                  refine Exit.then_normal (hK17 _ _ ?_)
                  refine wp_ret ?_
                  cases h
                  exact ret1 rfl hE hle hH (by kernel_rfl)
                · replace h := ifN hc h
                  have hE := hE.setB 57 (by kernel_rfl) (bf hc)
                  refine segO 6 [] [(0, .kv .bool false)] (Os := []) trivial hE hH (by kernel_rfl) (fun a hE => ?_)
                  refine wpFrom_end (by kernel_rfl) ?_
                  refine Exit.then_normal (hK17 _ _ ?_)
                  refine wp_ret ?_
                  cases h
                  exact ret1 rfl hE hle hH (by kernel_rfl)
              · replace h := ifN hc h
                have hE := hE.setB 52 (by kernel_rfl) (bf hc)
                refine segO 11 [] [(0, .kv .bool false)] (Os := []) trivial hE hH (by kernel_rfl) (fun a hE => ?_)
                refine wpFrom_end (by kernel_rfl) ?_
                refine Exit.then_normal (hK17 _ _ ?_)
                refine wp_ret ?_
                cases h
                exact ret1 rfl hE hle hH (by kernel_rfl)
            · replace h := ifN hc h
              have hE := hE.setB 47 (by kernel_rfl) (bf hc)
              refine segO 16 [] [(0, .kv .bool false)] (Os := []) trivial hE hH (by kernel_rfl) (fun a hE => ?_)
              refine wpFrom_end (by kernel_rfl) ?_
              refine Exit.then_normal (hK17 _ _ ?_)
              refine wp_ret ?_
              cases h
              exact ret1 rfl hE hle hH (by kernel_rfl)

def f29 (p0 : List UInt8) (p1 : List UInt8) : Option Bool :=
  if (decide ((p0.length : Int) ≤ (p1.length : Int))) = true then
  if (0 : Int) ≤ (p0.length : Int) ∧ (p0.length : Int) ≤ (p1.length : Int) then
  some (p0 == (p1.take (Int.toNat (p0.length : Int))))
  else none
  else
  some false

theorem f29_ok {p0 : List UInt8} {p1 : List UInt8} {σ : St} {p : Bool} (h : f29 p0 p1 = some p) : Spec Try.prog 29 [.kv .str p0, .kv .str p1] (tabs σ) (.kv .bool p) (tabs σ) := by
  refine Spec.intro Try.func29 (by kernel_rfl) rfl (by kernel_rfl) (fun a w G0 Ls hE hH hN => ?_)
  have hle : G0.le G0 := Gh.le_refl G0
  unfold f29 at h
  refine wp_seq_k (fun K hK1 => ?_)
  refine wp_region_from ?_
  refine segO 1 [] [(4, .kv .bool false)] (Os := []) trivial hE hH (by kernel_rfl) (fun a hE => ?_)
  refine wpFrom_end (by kernel_rfl) ?_
  refine Exit.then_normal (hK1 _ _ ?_)
  refine wp_seq_k (fun K hK2 => ?_)
  refine wp_region_from ?_
  refine segO 6 [] [(10, .kv .bool (decide ((p0.length : Int) ≤ (p1.length : Int))))] (Os := []) trivial hE hH (by kernel_rfl) (fun a hE => ?_)
  by_cases hc : (decide ((p0.length : Int) ≤ (p1.length : Int))) = true
  · replace h := ifT hc h
    have hE := hE.setB 10 (by kernel_rfl) hc
    obtain ⟨q3, h⟩ := gd h
    refine segO 8 [] [(4, .kv .bool (p0 == (p1.take (Int.toNat (p0.length : Int)))))] (Os := [_]) ⟨q3, trivial⟩ hE hH (by kernel_rfl) (fun a hE => ?_)
    refine wpFrom_end (by kernel_rfl) ?_
    refine Exit.then_normal (hK2 _ _ ?_)
    refine wp_ret ?_
    cases h
    exact ret1 rfl hE hle hH (by kernel_rfl)
  · replace h := ifN hc h
    have hE := hE.setB 10 (by kernel_rfl) (bf hc)
    refine segO 8 [] [(4, .kv .bool false)] (Os := []) trivial hE hH (by kernel_rfl) (fun a hE => ?_)
    refine wpFrom_end (by kernel_rfl) ?_
    refine Exit.then_normal (hK2 _ _ ?_)
    refine wp_ret ?_
    cases h
    exact ret1 rfl hE hle hH (by kernel_rfl)

def f23 (p0 : Option Nat) (p1 : Option Nat) (p2 : K31.den) (σ : St) : Option (Bool × St) :=
  (if (p2.1 == 0) = true then
  some (p2.1 == 0)
  else
  if (p2.1 == 1) = true then
  some (p2.1 == 1)
  else
  some (p2.1 == 2) : Option Bool) >>= fun z8 =>
  if z8 = true then
  f24 p0 p2.2.1 p2.2.2.1 σ >>= fun r11 =>
  f63 p1 p2.2.1 p2.2.2.1 r11.2 >>= fun r12 =>
  some (r11.1 == r12.1, r12.2)
  else
  if (p2.1 == 3) = true then
  f33 p0 p2.2.1 σ >>= fun r15 =>
  f64 p1 p2.2.1 r15.2 >>= fun r16 =>
  some (r15.1 == r16.1, r16.2)
  else
  if (p2.1 == 4) = true then
  f35 p0 p2.2.1 p2.2.2.2.2.1 σ >>= fun r19 =>
  f65 p1 p2.2.1 p2.2.2.2.2.1 r19.2 >>= fun r20 =>
  some (r19.1 == r20.1, r20.2)
  else
  if (p2.1 == 5) = true then
  f36 p0 p2.2.1 p2.2.2.2.1 σ >>= fun r23 =>
  f66 p1 p2.2.1 p2.2.2.2.1 r23.2 >>= fun r24 =>
  some (r23.1 == r24.1, r24.2)
  else
  if (p2.1 == 6) = true then
  f37 p0 p2.2.1 σ >>= fun r27 =>
  f67 p1 p2.2.1 r27.2 >>= fun r28 =>
  some (r27.1 == r28.1, r28.2)
  else
  if (p2.1 == 7) = true then
  f32 p0 p2.2.2.2.2.1 σ >>= fun r31 =>
  f68 p1 p2.2.2.2.2.1 r31.2 >>= fun r32 =>
  some (r31.1 == r32.1, r32.2)
  else
  f69 p1 p2.2.2.2.2.2.1 σ >>= fun r34 =>
  f27 p0 p2.2.2.2.2.2.1 r34.2 >>= fun r36 =>
  some (r36.1 == 0, r36.2)

theorem f23_ok {p0 : Option Nat} {p1 : Option Nat} {p2 : K31.den} {σ : St} {p : Bool × St} (h : f23 p0 p1 p2 σ = some p) : Spec Try.prog 23 [.kv (.ptr 105) p0, .kv (.ptr 47) p1, .kv K31 p2] (tabs σ) (.kv .bool p.1) (tabs p.2) := by
  refine Spec.intro Try.func23 (by kernel_rfl) rfl (by kernel_rfl) (fun a w G0 Ls hE hH hN => ?_)
  have hle : G0.le G0 := Gh.le_refl G0
  unfold f23 at h
  refine wp_seq_k (fun K hK1 => ?_)
  refine wp_region_from ?_
  refine stepBox (e := 31) (d := (some 5)) K31 p2 hE hH (by kernel_rfl) (by kernel_rfl) (fun b2 a w G hl1 hE hH => ?_)
  have hle := Gh.le_trans hle hl1
  refine segO 1 [] [(6, .kv .bool false)] (Os := []) trivial hE hH (by kernel_rfl) (fun a hE => ?_)
  refine wpFrom_end (by kernel_rfl) ?_
  refine Exit.then_normal (hK1 _ _ ?_)
  refine wp_seq_k (fun K hK3 => ?_)
  refine wp_seq_k (fun K hK4 => ?_)
  refine wp_region_from ?_
  refine segO 2 [.bx 0 K31 p2] [(8, .kv .i p2.1)] (Os := [_]) ⟨(rfl : (LS.box b2 K31 p2 :: Ls)[0]? = some (LS.box b2 K31 p2)), trivial⟩ hE hH (by kernel_rfl) (fun a hE => ?_)
  refine wpFrom_end (by kernel_rfl) ?_
  refine Exit.then_normal (hK4 _ _ ?_)
  refine wp_block ?_
  refine wp_seq_k (fun K hK5 => ?_)
  refine wp_seq_k (fun K hK6 => ?_)
  refine wp_region_from ?_
  refine segO 2 [] [(9, .kv .bool (p2.1 == 0))] (Os := []) trivial hE hH (by kernel_rfl) (fun a hE => ?_)
  refine wpFrom_end (by kernel_rfl) ?_
  refine Exit.then_normal (hK6 _ _ ?_)
  obtain ⟨z8, hz8, h⟩ := bs h
  refine join_intro (I := fun a w => ∃ (G : Gh), G0.le G ∧ EnvR G 98 a [(0, .kv (.ptr 105) p0), (1, .kv (.ptr 47) p1), (5, .val (.pointer (some ⟨b2, 0, none⟩))), (6, .kv .bool false), (8, .kv .i p2.1), (9, .kv .bool z8)] ∧ Holds w G (tabs σ) (LS.box b2 K31 p2 :: Ls)) trivial ?_ ?_
  · intro a w hI
    obtain ⟨G, hle, hE, hH⟩ := hI
    refine Exit.then_normal (hK5 _ _ ?_)
    refine condE (b := z8) hE (by kernel_rfl) (fun hc => ?_) (fun hc => ?_)
    · replace h := ifT hc h
      refine wp_seq_k (fun K hK10 => ?_)
      obtain ⟨r11, hr11, h⟩ := bs h
      refine region_par 11 [5] [(0, 0), (0, 0), (0, 0), (0, 0), (0, 0), (0, 0), (0, 1), (0, 1), (0, 1), (0, 1), (0, 1)] [.kv (.ptr 105) p0, .val (.pointer (some ⟨b2, 1, none⟩)), .kv .str p2.2.1, .val (.pointer (some ⟨b2, 2, none⟩)), .kv .str p2.2.2.1, .kv .i r11.1, .kv (.ptr 47) p1, .val (.pointer (some ⟨b2, 1, none⟩)), .kv .str p2.2.1, .val (.pointer (some ⟨b2, 2, none⟩)), .kv .str p2.2.2.1] (fun k => match k with | 0 => tabs σ | _ => tabs r11.2) (fun _ => LS.box b2 K31 p2 :: Ls) (by kernel_rfl) (by kernel_rfl) hE hH
              ⟨⟨⟨⟨⟨⟨⟨⟨⟨⟨⟨trivial,
              anyk (fun k => obR [] (Os := []) trivial (by kernel_rfl) (by kernel_rfl))⟩,
              anyk (fun k => obR [] (Os := []) trivial (by kernel_rfl) (by kernel_rfl))⟩,
              one (obR [.bx 0 K31 p2] (Os := [_]) ⟨(rfl : (LS.box b2 K31 p2 :: Ls)[0]? = some (LS.box b2 K31 p2)), trivial⟩ (by kernel_rfl) (by kernel_rfl))⟩,
              anyk (fun k => obR [] (Os := []) trivial (by kernel_rfl) (by kernel_rfl))⟩,
              one (obR [.bx 0 K31 p2] (Os := [_]) ⟨(rfl : (LS.box b2 K31 p2 :: Ls)[0]? = some (LS.box b2 K31 p2)), trivial⟩ (by kernel_rfl) (by kernel_rfl))⟩,
              one (obC (k := 0) (d := (some 18)) (f24_ok hr11) rfl (NoHole.cons (fun _ _ _ => rfl) hN) (by kernel_rfl) (by kernel_rfl) rfl trivial)⟩,
              anyk (fun k => obR [] (Os := []) trivial (by kernel_rfl) (by kernel_rfl))⟩,
              anyk (fun k => obR [] (Os := []) trivial (by kernel_rfl) (by kernel_rfl))⟩,
              two (obR [.bx 0 K31 p2] (Os := [_]) ⟨(rfl : (LS.box b2 K31 p2 :: Ls)[0]? = some (LS.box b2 K31 p2)), trivial⟩ (by kernel_rfl) (by kernel_rfl)) (obR [.bx 0 K31 p2] (Os := [_]) ⟨(rfl : (LS.box b2 K31 p2 :: Ls)[0]? = some (LS.box b2 K31 p2)), trivial⟩ (by kernel_rfl) (by kernel_rfl))⟩,
              anyk (fun k => obR [] (Os := []) trivial (by kernel_rfl) (by kernel_rfl))⟩,
              two (obR [.bx 0 K31 p2] (Os := [_]) ⟨(rfl : (LS.box b2 K31 p2 :: Ls)[0]? = some (LS.box b2 K31 p2)), trivial⟩ (by kernel_rfl) (by kernel_rfl)) (obR [.bx 0 K31 p2] (Os := [_]) ⟨(rfl : (LS.box b2 K31 p2 :: Ls)[0]? = some (LS.box b2 K31 p2)), trivial⟩ (by kernel_rfl) (by kernel_rfl))⟩ (fun a w G hl3 hE hH => ?_)
      have hle := Gh.le_trans hle hl3
      obtain ⟨r12, hr12, h⟩ := bs h
      refine stepCall (d := (some 24)) (f63_ok hr12) hE hH (NoHole.cons (fun _ _ _ => rfl) hN) (by kernel_rfl) (by kernel_rfl) trivial (fun a w G hl4 hE hH => ?_)
      have hle := Gh.le_trans hle hl4
      refine segO 2 [] [(6, .kv .bool (r11.1 == r12.1))] (Os := []) trivial hE hH (by kernel_rfl) (fun a hE => ?_)
      refine wpFrom_end (by kernel_rfl) ?_
      refine Exit.then_normal (hK10 _ _ ?_)
      refine wp_ret ?_
      refine Exit.in_ret ?_
      refine Exit.then_ret ?_
      have hH := hH.drop (fun _ _ _ => rfl)
      cases h
      exact ret1 rfl hE hle hH (by kernel_rfl)
    · replace h := ifF hc h
      refine wp_seq_k (fun K hK13 => ?_)
      refine wp_region_from ?_
      refine segO 2 [] [(26, .kv .bool (p2.1 == 3))] (Os := []) trivial hE hH (by kernel_rfl) (fun a hE => ?_)
      refine wpFrom_end (by kernel_rfl) ?_
      refine Exit.then_normal (hK13 _ _ ?_)
      refine condE (b := p2.1 == 3) hE (by kernel_rfl) (fun hc => ?_) (fun hc => ?_)
      · replace h := ifT hc h
        refine wp_seq_k (fun K hK14 => ?_)
        obtain ⟨r15, hr15, h⟩ := bs h
        refine region_par 7 [3] [(0, 0), (0, 0), (0, 0), (0, 0), (0, 1), (0, 1), (0, 1)] [.kv (.ptr 105) p0, .val (.pointer (some ⟨b2, 1, none⟩)), .kv .str p2.2.1, .kv .i r15.1, .kv (.ptr 47) p1, .val (.pointer (some ⟨b2, 1, none⟩)), .kv .str p2.2.1] (fun k => match k with | 0 => tabs σ | _ => tabs r15.2) (fun _ => LS.box b2 K31 p2 :: Ls) (by kernel_rfl) (by kernel_rfl) hE hH
                ⟨⟨⟨⟨⟨⟨⟨trivial,
                anyk (fun k => obR [] (Os := []) trivial (by kernel_rfl) (by kernel_rfl))⟩,
                anyk (fun k => obR [] (Os := []) trivial (by kernel_rfl) (by kernel_rfl))⟩,
                one (obR [.bx 0 K31 p2] (Os := [_]) ⟨(rfl : (LS.box b2 K31 p2 :: Ls)[0]? = some (LS.box b2 K31 p2)), trivial⟩ (by kernel_rfl) (by kernel_rfl))⟩,
                one (obC (k := 0) (d := (some 31)) (f33_ok hr15) rfl (NoHole.cons (fun _ _ _ => rfl) hN) (by kernel_rfl) (by kernel_rfl) rfl trivial)⟩,
                anyk (fun k => obR [] (Os := []) trivial (by kernel_rfl) (by kernel_rfl))⟩,
                anyk (fun k => obR [] (Os := []) trivial (by kernel_rfl) (by kernel_rfl))⟩,
                two (obR [.bx 0 K31 p2] (Os := [_]) ⟨(rfl : (LS.box b2 K31 p2 :: Ls)[0]? = some (LS.box b2 K31 p2)), trivial⟩ (by kernel_rfl) (by kernel_rfl)) (obR [.bx 0 K31 p2] (Os := [_]) ⟨(rfl : (LS.box b2 K31 p2 :: Ls)[0]? = some (LS.box b2 K31 p2)), trivial⟩ (by kernel_rfl) (by kernel_rfl))⟩ (fun a w G hl5 hE hH => ?_)
        have hle := Gh.le_trans hle hl5
        obtain ⟨r16, hr16, h⟩ := bs h
        refine stepCall (d := (some 35)) (f64_ok hr16) hE hH (NoHole.cons (fun _ _ _ => rfl) hN) (by kernel_rfl) (by kernel_rfl) trivial (fun a w G hl6 hE hH => ?_)
        have hle := Gh.le_trans hle hl6
        refine segO 2 [] [(6, .kv .bool (r15.1 == r16.1))] (Os := []) trivial hE hH (by kernel_rfl) (fun a hE => ?_)
        refine wpFrom_end (by kernel_rfl) ?_
        refine Exit.then_normal (hK14 _ _ ?_)
        refine wp_ret ?_
        refine Exit.in_ret ?_
        refine Exit.then_ret ?_
        have hH := hH.drop (fun _ _ _ => rfl)
        cases h
        exact ret1 rfl hE hle hH (by kernel_rfl)
      · replace h := ifF hc h
        refine wp_seq_k (fun K hK17 => ?_)
        refine wp_region_from ?_
        refine segO 2 [] [(37, .kv .bool (p2.1 == 4))] (Os := []) trivial hE hH (by kernel_rfl) (fun a hE => ?_)
        refine wpFrom_end (by kernel_rfl) ?_
        refine Exit.then_normal (hK17 _ _ ?_)
        refine condE (b := p2.1 == 4) hE (by kernel_rfl) (fun hc => ?_) (fun hc => ?_)
        · replace h := ifT hc h
          refine wp_seq_k (fun K hK18 => ?_)
          obtain ⟨r19, hr19, h⟩ := bs h
          refine region_par 11 [5] [(0, 0), (0, 0), (0, 0), (0, 0), (0, 0), (0, 0), (0, 1), (0, 1), (0, 1), (0, 1), (0, 1)] [.kv (.ptr 105) p0, .val (.pointer (some ⟨b2, 1, none⟩)), .kv .str p2.2.1, .val (.pointer (some ⟨b2, 4, none⟩)), .kv .i p2.2.2.2.2.1, .kv .i r19.1, .kv (.ptr 47) p1, .val (.pointer (some ⟨b2, 1, none⟩)), .kv .str p2.2.1, .val (.pointer (some ⟨b2, 4, none⟩)), .kv .i p2.2.2.2.2.1] (fun k => match k with | 0 => tabs σ | _ => tabs r19.2) (fun _ => LS.box b2 K31 p2 :: Ls) (by kernel_rfl) (by kernel_rfl) hE hH
                  ⟨⟨⟨⟨⟨⟨⟨⟨⟨⟨⟨trivial,
                  anyk (fun k => obR [] (Os := []) trivial (by kernel_rfl) (by kernel_rfl))⟩,
                  anyk (fun k => obR [] (Os := []) trivial (by kernel_rfl) (by kernel_rfl))⟩,
                  one (obR [.bx 0 K31 p2] (Os := [_]) ⟨(rfl : (LS.box b2 K31 p2 :: Ls)[0]? = some (LS.box b2 K31 p2)), trivial⟩ (by kernel_rfl) (by kernel_rfl))⟩,
                  anyk (fun k => obR [] (Os := []) trivial (by kernel_rfl) (by kernel_rfl))⟩,
                  one (obR [.bx 0 K31 p2] (Os := [_]) ⟨(rfl : (LS.box b2 K31 p2 :: Ls)[0]? = some (LS.box b2 K31 p2)), trivial⟩ (by kernel_rfl) (by kernel_rfl))⟩,
                  one (obC (k := 0) (d := (some 44)) (f35_ok hr19) rfl (NoHole.cons (fun _ _ _ => rfl) hN) (by kernel_rfl) (by kernel_rfl) rfl trivial)⟩,
                  anyk (fun k => obR [] (Os := []) trivial (by kernel_rfl) (by kernel_rfl))⟩,
                  anyk (fun k => obR [] (Os := []) trivial (by kernel_rfl) (by kernel_rfl))⟩,
                  two (obR [.bx 0 K31 p2] (Os := [_]) ⟨(rfl : (LS.box b2 K31 p2 :: Ls)[0]? = some (LS.box b2 K31 p2)), trivial⟩ (by kernel_rfl) (by kernel_rfl)) (obR [.bx 0 K31 p2] (Os := [_]) ⟨(rfl : (LS.box b2 K31 p2 :: Ls)[0]? = some (LS.box b2 K31 p2)), trivial⟩ (by kernel_rfl) (by kernel_rfl))⟩,
                  anyk (fun k => obR [] (Os := []) trivial (by kernel_rfl) (by kernel_rfl))⟩,
                  two (obR [.bx 0 K31 p2] (Os := [_]) ⟨(rfl : (LS.box b2 K31 p2 :: Ls)[0]? = some (LS.box b2 K31 p2)), trivial⟩ (by kernel_rfl) (by kernel_rfl)) (obR [.bx 0 K31 p2] (Os := [_]) ⟨(rfl : (LS.box b2 K31 p2 :: Ls)[0]? = some (LS.box b2 K31 p2)), trivial⟩ (by kernel_rfl) (by kernel_rfl))⟩ (fun a w G hl7 hE hH => ?_)
          have hle := Gh.le_trans hle hl7
          obtain ⟨r20, hr20, h⟩ := bs h
          refine stepCall (d := (some 50)) (f65_ok hr20) hE hH (NoHole.cons (fun _ _ _ => rfl) hN) (by kernel_rfl) (by kernel_rfl) trivial (fun a w G hl8 hE hH => ?_)
          have hle := Gh.le_trans hle hl8
          refine segO 2 [] [(6, .kv .bool (r19.1 == r20.1))] (Os := []) trivial hE hH (by kernel_rfl) (fun a hE => ?_)
          refine wpFrom_end (by kernel_rfl) ?_
          refine Exit.then_normal (hK18 _ _ ?_)
          refine wp_ret ?_
          refine Exit.in_ret ?_
          refine Exit.then_ret ?_
          have hH := hH.drop (fun _ _ _ => rfl)
          cases h
          exact ret1 rfl hE hle hH (by kernel_rfl)
        · replace h := ifF hc h
          refine wp_seq_k (fun K hK21 => ?_)
          refine wp_region_from ?_
          refine segO 2 [] [(52, .kv .bool (p2.1 == 5))] (Os := []) trivial hE hH (by kernel_rfl) (fun a hE => ?_)
          refine wpFrom_end (by kernel_rfl) ?_
          refine Exit.then_normal (hK21 _ _ ?_)
          refine condE (b := p2.1 == 5) hE (by kernel_rfl) (fun hc => ?_) (fun hc => ?_)
          · replace h := ifT hc h
            refine wp_seq_k (fun K hK22 => ?_)
            obtain ⟨r23, hr23, h⟩ := bs h
            refine region_par 11 [5] [(0, 0), (0, 0), (0, 0), (0, 0), (0, 0), (0, 0), (0, 1), (0, 1), (0, 1), (0, 1), (0, 1)] [.kv (.ptr 105) p0, .val (.pointer (some ⟨b2, 1, none⟩)), .kv .str p2.2.1, .val (.pointer (some ⟨b2, 3, none⟩)), .kv .str p2.2.2.2.1, .kv .i r23.1, .kv (.ptr 47) p1, .val (.pointer (some ⟨b2, 1, none⟩)), .kv .str p2.2.1, .val (.pointer (some ⟨b2, 3, none⟩)), .kv .str p2.2.2.2.1] (fun k => match k with | 0 => tabs σ | _ => tabs r23.2) (fun _ => LS.box b2 K31 p2 :: Ls) (by kernel_rfl) (by kernel_rfl) hE hH
                    ⟨⟨⟨⟨⟨⟨⟨⟨⟨⟨⟨trivial,
                    anyk (fun k => obR [] (Os := []) trivial (by kernel_rfl) (by kernel_rfl))⟩,
                    anyk (fun k => obR [] (Os := []) trivial (by kernel_rfl) (by kernel_rfl))⟩,
                    one (obR [.bx 0 K31 p2] (Os := [_]) ⟨(rfl : (LS.box b2 K31 p2 :: Ls)[0]? = some (LS.box b2 K31 p2)), trivial⟩ (by kernel_rfl) (by kernel_rfl))⟩,
                    anyk (fun k => obR [] (Os := []) trivial (by kernel_rfl) (by kernel_rfl))⟩,
                    one (obR [.bx 0 K31 p2] (Os := [_]) ⟨(rfl : (LS.box b2 K31 p2 :: Ls)[0]? = some (LS.box b2 K31 p2)), trivial⟩ (by kernel_rfl) (by kernel_rfl))⟩,
                    one (obC (k := 0) (d := (some 59)) (f36_ok hr23) rfl (NoHole.cons (fun _ _ _ => rfl) hN) (by kernel_rfl) (by kernel_rfl) rfl trivial)⟩,
                    anyk (fun k => obR [] (Os := []) trivial (by kernel_rfl) (by kernel_rfl))⟩,
                    anyk (fun k => obR [] (Os := []) trivial (by kernel_rfl) (by kernel_rfl))⟩,
                    two (obR [.bx 0 K31 p2] (Os := [_]) ⟨(rfl : (LS.box b2 K31 p2 :: Ls)[0]? = some (LS.box b2 K31 p2)), trivial⟩ (by kernel_rfl) (by kernel_rfl)) (obR [.bx 0 K31 p2] (Os := [_]) ⟨(rfl : (LS.box b2 K31 p2 :: Ls)[0]? = some (LS.box b2 K31 p2)), trivial⟩ (by kernel_rfl) (by kernel_rfl))⟩,
                    anyk (fun k => obR [] (Os := []) trivial (by kernel_rfl) (by kernel_rfl))⟩,
                    two (obR [.bx 0 K31 p2] (Os := [_]) ⟨(rfl : (LS.box b2 K31 p2 :: Ls)[0]? = some (LS.box b2 K31 p2)), trivial⟩ (by kernel_rfl) (by kernel_rfl)) (obR [.bx 0 K31 p2] (Os := [_]) ⟨(rfl : (LS.box b2 K31 p2 :: Ls)[0]? = some (LS.box b2 K31 p2)), trivial⟩ (by kernel_rfl) (by kernel_rfl))⟩ (fun a w G hl9 hE hH => ?_)
            have hle := Gh.le_trans hle hl9
            obtain ⟨r24, hr24, h⟩ := bs h
            refine stepCall (d := (some 65)) (f66_ok hr24) hE hH (NoHole.cons (fun _ _ _ => rfl) hN) (by kernel_rfl) (by kernel_rfl) trivial (fun a w G hl10 hE hH => ?_)
            have hle := Gh.le_trans hle hl10
            refine segO 2 [] [(6, .kv .bool (r23.1 == r24.1))] (Os := []) trivial hE hH (by kernel_rfl) (fun a hE => ?_)
            refine wpFrom_end (by kernel_rfl) ?_
            refine Exit.then_normal (hK22 _ _ ?_)
            refine wp_ret ?_
            refine Exit.in_ret ?_
            refine Exit.then_ret ?_
            have hH := hH.drop (fun _ _ _ => rfl)
            cases h
            exact ret1 rfl hE hle hH (by kernel_rfl)
          · replace h := ifF hc h
            refine wp_seq_k (fun K hK25 => ?_)
            refine wp_region_from ?_
            refine segO 2 [] [(67, .kv .bool (p2.1 == 6))] (Os := []) trivial hE hH (by kernel_rfl) (fun a hE => ?_)
            refine wpFrom_end (by kernel_rfl) ?_
            refine Exit.then_normal (hK25 _ _ ?_)
            refine condE (b := p2.1 == 6) hE (by kernel_rfl) (fun hc => ?_) (fun hc => ?_)
            · replace h := ifT hc h
              refine wp_seq_k (fun K hK26 => ?_)
              obtain ⟨r27, hr27, h⟩ := bs h
              refine region_par 7 [3] [(0, 0), (0, 0), (0, 0), (0, 0), (0, 1), (0, 1), (0, 1)] [.kv (.ptr 105) p0, .val (.pointer (some ⟨b2, 1, none⟩)), .kv .str p2.2.1, .kv .i r27.1, .kv (.ptr 47) p1, .val (.pointer (some ⟨b2, 1, none⟩)), .kv .str p2.2.1] (fun k => match k with | 0 => tabs σ | _ => tabs r27.2) (fun _ => LS.box b2 K31 p2 :: Ls) (by kernel_rfl) (by kernel_rfl) hE hH
                      ⟨⟨⟨⟨⟨⟨⟨trivial,
                      anyk (fun k => obR [] (Os := []) trivial (by kernel_rfl) (by kernel_rfl))⟩,
                      anyk (fun k => obR [] (Os := []) trivial (by kernel_rfl) (by kernel_rfl))⟩,
                      one (obR [.bx 0 K31 p2] (Os := [_]) ⟨(rfl : (LS.box b2 K31 p2 :: Ls)[0]? = some (LS.box b2 K31 p2)), trivial⟩ (by kernel_rfl) (by kernel_rfl))⟩,
                      one (obC (k := 0) (d := (some 72)) (f37_ok hr27) rfl (NoHole.cons (fun _ _ _ => rfl) hN) (by kernel_rfl) (by kernel_rfl) rfl trivial)⟩,
                      anyk (fun k => obR [] (Os := []) trivial (by kernel_rfl) (by kernel_rfl))⟩,
                      anyk (fun k => obR [] (Os := []) trivial (by kernel_rfl) (by kernel_rfl))⟩,
                      two (obR [.bx 0 K31 p2] (Os := [_]) ⟨(rfl : (LS.box b2 K31 p2 :: Ls)[0]? = some (LS.box b2 K31 p2)), trivial⟩ (by kernel_rfl) (by kernel_rfl)) (obR [.bx 0 K31 p2] (Os := [_]) ⟨(rfl : (LS.box b2 K31 p2 :: Ls)[0]? = some (LS.box b2 K31 p2)), trivial⟩ (by kernel_rfl) (by kernel_rfl))⟩ (fun a w G hl11 hE hH => ?_)
              have hle := Gh.le_trans hle hl11
              obtain ⟨r28, hr28, h⟩ := bs h
              refine stepCall (d := (some 76)) (f67_ok hr28) hE hH (NoHole.cons (fun _ _ _ => rfl) hN) (by kernel_rfl) (by kernel_rfl) trivial (fun a w G hl12 hE hH => ?_)
              have hle := Gh.le_trans hle hl12
              refine segO 2 [] [(6, .kv .bool (r27.1 == r28.1))] (Os := []) trivial hE hH (by kernel_rfl) (fun a hE => ?_)
              refine wpFrom_end (by kernel_rfl) ?_
              refine Exit.then_normal (hK26 _ _ ?_)
              refine wp_ret ?_
              refine Exit.in_ret ?_
              refine Exit.then_ret ?_
              have hH := hH.drop (fun _ _ _ => rfl)
              cases h
              exact ret1 rfl hE hle hH (by kernel_rfl)
            · replace h := ifF hc h
              refine wp_seq_k (fun K hK29 => ?_)
              refine wp_region_from ?_
              refine segO 2 [] [(78, .kv .bool (p2.1 == 7))] (Os := []) trivial hE hH (by kernel_rfl) (fun a hE => ?_)
              refine wpFrom_end (by kernel_rfl) ?_
              refine Exit.then_normal (hK29 _ _ ?_)
              refine condE (b := p2.1 == 7) hE (by kernel_rfl) (fun hc => ?_) (fun hc => ?_)
              · replace h := ifT hc h
                refine wp_seq_k (fun K hK30 => ?_)
                obtain ⟨r31, hr31, h⟩ := bs h
                refine region_par 7 [3] [(0, 0), (0, 0), (0, 0), (0, 0), (0, 1), (0, 1), (0, 1)] [.kv (.ptr 105) p0, .val (.pointer (some ⟨b2, 4, none⟩)), .kv .i p2.2.2.2.2.1, .kv .i r31.1, .kv (.ptr 47) p1, .val (.pointer (some ⟨b2, 4, none⟩)), .kv .i p2.2.2.2.2.1] (fun k => match k with | 0 => tabs σ | _ => tabs r31.2) (fun _ => LS.box b2 K31 p2 :: Ls) (by kernel_rfl) (by kernel_rfl) hE hH
                        ⟨⟨⟨⟨⟨⟨⟨trivial,
                        anyk (fun k => obR [] (Os := []) trivial (by kernel_rfl) (by kernel_rfl))⟩,
                        anyk (fun k => obR [] (Os := []) trivial (by kernel_rfl) (by kernel_rfl))⟩,
                        one (obR [.bx 0 K31 p2] (Os := [_]) ⟨(rfl : (LS.box b2 K31 p2 :: Ls)[0]? = some (LS.box b2 K31 p2)), trivial⟩ (by kernel_rfl) (by kernel_rfl))⟩,
                        one (obC (k := 0) (d := (some 83)) (f32_ok hr31) rfl (NoHole.cons (fun _ _ _ => rfl) hN) (by kernel_rfl) (by kernel_rfl) rfl trivial)⟩,
                        anyk (fun k => obR [] (Os := []) trivial (by kernel_rfl) (by kernel_rfl))⟩,
                        anyk (fun k => obR [] (Os := []) trivial (by kernel_rfl) (by kernel_rfl))⟩,
                        two (obR [.bx 0 K31 p2] (Os := [_]) ⟨(rfl : (LS.box b2 K31 p2 :: Ls)[0]? = some (LS.box b2 K31 p2)), trivial⟩ (by kernel_rfl) (by kernel_rfl)) (obR [.bx 0 K31 p2] (Os := [_]) ⟨(rfl : (LS.box b2 K31 p2 :: Ls)[0]? = some (LS.box b2 K31 p2)), trivial⟩ (by kernel_rfl) (by kernel_rfl))⟩ (fun a w G hl13 hE hH => ?_)
                have hle := Gh.le_trans hle hl13
                obtain ⟨r32, hr32, h⟩ := bs h
                refine stepCall (d := (some 87)) (f68_ok hr32) hE hH (NoHole.cons (fun _ _ _ => rfl) hN) (by kernel_rfl) (by kernel_rfl) trivial (fun a w G hl14 hE hH => ?_)
                have hle := Gh.le_trans hle hl14
                refine segO 2 [] [(6, .kv .bool (r31.1 == r32.1))] (Os := []) trivial hE hH (by kernel_rfl) (fun a hE => ?_)
                refine wpFrom_end (by kernel_rfl) ?_
                refine Exit.then_normal (hK30 _ _ ?_)
                refine wp_ret ?_
                refine Exit.in_ret ?_
                refine Exit.then_ret ?_
                have hH := hH.drop (fun _ _ _ => rfl)
                cases h
                exact ret1 rfl hE hle hH (by kernel_rfl)
              · replace h := ifF hc h
                refine wp_skip ?_
                refine Exit.in_normal ?_
                refine Exit.then_normal (hK3 _ _ ?_)
                refine wp_seq_k (fun K hK33 => ?_)
                refine wp_region_from ?_
                refine segO 3 [.bx 0 K31 p2] [(89, .kv (.ptr 47) p1), (91, .kv (.list .i) p2.2.2.2.2.2.1)] (Os := [_]) ⟨(rfl : (LS.box b2 K31 p2 :: Ls)[0]? = some (LS.box b2 K31 p2)), trivial⟩ hE hH (by kernel_rfl) (fun a hE => ?_)
                obtain ⟨r34, hr34, h⟩ := bs h
                refine stepCall (d := (some 92)) (f69_ok hr34) hE hH (NoHole.cons (fun _ _ _ => rfl) hN) (by kernel_rfl) (by kernel_rfl) trivial (fun a w G hl15 hE hH => ?_)
                have hle := Gh.le_trans hle hl15
                refine wpFrom_end (by kernel_rfl) ?_
                refine Exit.then_normal (hK33 _ _ ?_)
                refine wp_seq_k (fun K hK35 => ?_)
                refine wp_region_from ?_
                refine segO 3 [.bx 0 K31 p2] [(93, .kv (.ptr 105) p0), (95, .kv (.list .i) p2.2.2.2.2.2.1)] (Os := [_]) ⟨(rfl : (LS.box b2 K31 p2 :: Ls)[0]? = some (LS.box b2 K31 p2)), trivial⟩ hE hH (by kernel_rfl) (fun a hE => ?_)
                obtain ⟨r36, hr36, h⟩ := bs h
                refine stepCall (d := (some 96)) (f27_ok hr36) hE hH (NoHole.cons (fun _ _ _ => rfl) hN) (by kernel_rfl) (by kernel_rfl) trivial (fun a w G hl16 hE hH => ?_)
                have hle := Gh.le_trans hle hl16
                refine segO 2 [] [(6, .kv .bool (r36.1 == 0))] (Os := []) trivial hE hH (by kernel_rfl) (fun a hE => ?_)
                refine wpFrom_end (by kernel_rfl) ?_
                refine Exit.then_normal (hK35 _ _ ?_)
                refine wp_ret ?_
                have hH := hH.drop (fun _ _ _ => rfl)
                cases h
                exact ret1 rfl hE hle hH (by kernel_rfl)
  · intro KK hKK ho
    have hj9 : ∀ (a : Act) (w : World) (G : Gh), G0.le G → EnvR G 98 a [(0, .kv (.ptr 105) p0), (1, .kv (.ptr 47) p1), (5, .val (.pointer (some ⟨b2, 0, none⟩))), (6, .kv .bool false), (8, .kv .i p2.1), (9, .kv .bool z8)] → Holds w G (tabs σ) (LS.box b2 K31 p2 :: Ls) → KK .normal a w := fun a w G  h1 h2 h3 => hKK a w ⟨G, h1, h2, h3⟩
    replace h := hz8
    refine condE (b := p2.1 == 0) hE (by kernel_rfl) (fun hc => ?_) (fun hc => ?_)
    · replace h := ifT hc h
      refine wp_skip ?_
      cases h
      exact hj9 _ _ _  hle (hE.subC (by kernel_rfl)) hH
    · replace h := ifF hc h
      refine wp_seq_k (fun K hK37 => ?_)
      refine wp_region_from ?_
      refine segO 2 [] [(9, .kv .bool (p2.1 == 1))] (Os := []) trivial hE hH (by kernel_rfl) (fun a hE => ?_)
      refine wpFrom_end (by kernel_rfl) ?_
      refine Exit.then_normal (hK37 _ _ ?_)
      refine condE (b := p2.1 == 1) hE (by kernel_rfl) (fun hc => ?_) (fun hc => ?_)
      · replace h := ifT hc h
        refine wp_skip ?_
        cases h
        exact hj9 _ _ _  hle (hE.subC (by kernel_rfl)) hH
      · replace h := ifF hc h
        refine wp_region_from ?_
        refine segO 2 [] [(9, .kv .bool (p2.1 == 2))] (Os := []) trivial hE hH (by kernel_rfl) (fun a hE => ?_)
        refine wpFrom_end (by kernel_rfl) ?_
        cases h
        exact hj9 _ _ _  hle (hE.subC (by kernel_rfl)) hH
end Go.Proofs.Ytlfemhkabjafeaa.M
