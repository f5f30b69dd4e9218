/- Own texts, laid together: SQ XH S7 XG Q8. -/
import Derived.Test.YtlfemhkabjafeaaProg
import Derived.Test.YtlfemhkabjafeaaZ1
import Derived.Test.YtlfemhkabjafeaaZ2
import Derived.Test.YtlfemhkabjafeaaZ3
import Derived.Test.YtlfemhkabjafeaaZ4
import Derived.Test.YtlfemhkabjafeaaZ5
/- Printed by own program: twins and walks. -/
set_option linter.unusedVariables false
set_option maxRecDepth 100000
namespace Go.Proofs.Ytlfemhkabjafeaa.M
open Go.Proofs (Try.prog Try.func45 Try.f45)

def f45_l0 (p0 : List UInt8) (p1 : Int) (x7 : Int) : Option Int :=
  if ((decide ((IntKind.wrap .i64 (p1 + x7)) < (p0.length : Int))) && (decide (x7 < 10))) = true then
  if (0 : Int) ≤ (IntKind.wrap .i64 (p1 + x7)) ∧ (IntKind.wrap .i64 (p1 + x7)) < (p0.length : Int) then
  if (decide ((btS p0 (IntKind.wrap .i64 (p1 + x7))) ≥ 128)) = true then
  f45_l0 p0 p1 (IntKind.wrap .i64 (x7 + 1))
  else
  some (x7)
  else none
  else
  some (x7)
  partial_fixpoint

def f45_l1 (p0 : List UInt8) (p1 : Int) (x32 : Int) (x33 : Int) : Option (Int × Int) :=
  if (decide (x33 ≥ 0)) = true then
  if (0 : Int) ≤ (IntKind.wrap .i64 (p1 + x33)) ∧ (IntKind.wrap .i64 (p1 + x33)) < (p0.length : Int) then
  f45_l1 p0 p1 (IntKind.wrap .u64 ((IntKind.wrap .u64 (x32 * 128)) + (IntKind.wrap .u64 (Int.tmod (btS p0 (IntKind.wrap .i64 (p1 + x33))) 128)))) (IntKind.wrap .i64 (x33 - 1))
  else none
  else
  some ((x32, x33))
  partial_fixpoint

def f45_l2 (p0 : List UInt8) (p1 : Int) (x58 : Int) (x59 : Int) : Option (Int × Int) :=
  if (decide (x59 ≥ 0)) = true then
  if (0 : Int) ≤ (IntKind.wrap .i64 (p1 + x59)) ∧ (IntKind.wrap .i64 (p1 + x59)) < (p0.length : Int) then
  f45_l2 p0 p1 (IntKind.wrap .u64 ((IntKind.wrap .u64 (x58 * 128)) + (IntKind.wrap .u64 (Int.tmod (btS p0 (IntKind.wrap .i64 (p1 + x59))) 128)))) (IntKind.wrap .i64 (x59 - 1))
  else none
  else
  some ((x58, x59))
  partial_fixpoint

def f45 (p0 : List UInt8) (p1 : Int) : Option (Int × Int × Int) :=
  if ((decide (p1 < 0)) || (decide (p1 > (p0.length : Int)))) = true then
  some (0, 0, 3)
  else
  f45_l0 p0 p1 0 >>= fun z15 =>
  if (decide (z15 ≥ 10)) = true then
  some (0, 0, 6)
  else
  if ((z15 == 9) && (decide ((IntKind.wrap .i64 (p1 + 9)) < (p0.length : Int)))) = true then
  if (0 : Int) ≤ (IntKind.wrap .i64 (p1 + 9)) ∧ (IntKind.wrap .i64 (p1 + 9)) < (p0.length : Int) then
  if (decide ((btS p0 (IntKind.wrap .i64 (p1 + 9))) > 1)) = true then
  some (0, 0, 6)
  else
  if (decide ((IntKind.wrap .i64 (p1 + z15)) ≥ (p0.length : Int))) = true then
  some (0, 0, 5)
  else
  if (0 : Int) ≤ (IntKind.wrap .i64 (p1 + z15)) ∧ (IntKind.wrap .i64 (p1 + z15)) < (p0.length : Int) then
  if (((btS p0 (IntKind.wrap .i64 (p1 + z15))) == 0) && (decide (z15 > 0))) = true then
  some (0, 0, 6)
  else
  f45_l1 p0 p1 0 z15 >>= fun z42 =>
  if ((Int.tmod z42.1 2) == 0) = true then
  some (IntKind.wrap .i64 (IntKind.wrap .u64 (Int.tdiv z42.1 2)), IntKind.wrap .i64 ((IntKind.wrap .i64 (p1 + z15)) + 1), 0)
  else
  some (IntKind.wrap .i64 ((IntKind.wrap .i64 (0 - (IntKind.wrap .i64 (IntKind.wrap .u64 (Int.tdiv z42.1 2))))) - 1), IntKind.wrap .i64 ((IntKind.wrap .i64 (p1 + z15)) + 1), 0)
  else none
  else none
  else
  if (decide ((IntKind.wrap .i64 (p1 + z15)) ≥ (p0.length : Int))) = true then
  some (0, 0, 5)
  else
  if (0 : Int) ≤ (IntKind.wrap .i64 (p1 + z15)) ∧ (IntKind.wrap .i64 (p1 + z15)) < (p0.length : Int) then
  if (((btS p0 (IntKind.wrap .i64 (p1 + z15))) == 0) && (decide (z15 > 0))) = true then
  some (0, 0, 6)
  else
  f45_l2 p0 p1 0 z15 >>= fun z68 =>
  if ((Int.tmod z68.1 2) == 0) = true then
  some (IntKind.wrap .i64 (IntKind.wrap .u64 (Int.tdiv z68.1 2)), IntKind.wrap .i64 ((IntKind.wrap .i64 (p1 + z15)) + 1), 0)
  else
  some (IntKind.wrap .i64 ((IntKind.wrap .i64 (0 - (IntKind.wrap .i64 (IntKind.wrap .u64 (Int.tdiv z68.1 2))))) - 1), IntKind.wrap .i64 ((IntKind.wrap .i64 (p1 + z15)) + 1), 0)
  else none

theorem f45_ok {p0 : List UInt8} {p1 : Int} {σ : St} {p : Int × Int × Int} (h : f45 p0 p1 = some p) : Spec Try.prog 45 [.kv .str p0, .kv .i p1] (tabs σ) (.tup [⟨.i, p.1⟩, ⟨.i, p.2.1⟩, ⟨.i, p.2.2⟩]) (tabs σ) := by
  refine Spec.intro Try.func45 (by kernel_rfl) rfl (by kernel_rfl) (fun a w G0 Ls hE hH hN => ?_)
  have hle : G0.le G0 := Gh.le_refl G0
  unfold f45 at h
  refine wp_seq_k (fun K hK1 => ?_)
  refine wp_region_from ?_
  refine segO 3 [] [(4, .kv .i 0), (5, .kv .i 0), (6, .kv .i 0)] (Os := []) trivial hE hH (by kernel_rfl) (fun a hE => ?_)
  refine wpFrom_end (by kernel_rfl) ?_
  refine Exit.then_normal (hK1 _ _ ?_)
  refine wp_seq_k (fun K hK2 => ?_)
  refine wp_seq_k (fun K hK3 => ?_)
  refine wp_region_from ?_
  refine segO 8 [] [(17, .kv .bool ((decide (p1 < 0)) || (decide (p1 > (p0.length : Int)))))] (Os := []) trivial hE hH (by kernel_rfl) (fun a hE => ?_)
  refine wpFrom_end (by kernel_rfl) ?_
  refine Exit.then_normal (hK3 _ _ ?_)
  refine condE (b := (decide (p1 < 0)) || (decide (p1 > (p0.length : Int)))) hE (by kernel_rfl) (fun hc => ?_) (fun hc => ?_)
  · replace h := ifT hc h
    refine wp_seq_k (fun K hK4 => ?_)
    refine wp_region_from ?_
    refine segO 3 [] [(4, .kv .i 0), (5, .kv .i 0), (6, .kv .i 3)] (Os := []) trivial hE hH (by kernel_rfl) (fun a hE => ?_)
    refine wpFrom_end (by kernel_rfl) ?_
    refine Exit.then_normal (hK4 _ _ ?_)
    refine wp_ret ?_
    refine Exit.then_ret ?_
    cases h
    exact ret3 rfl hE hle hH (by kernel_rfl)
  · replace h := ifF hc h
    refine wp_skip ?_
    refine Exit.then_normal (hK2 _ _ ?_)
    refine wp_seq_k (fun K hK5 => ?_)
    refine wp_region_from ?_
    refine segO 1 [] [(7, .kv .i 0)] (Os := []) trivial hE hH (by kernel_rfl) (fun a hE => ?_)
    refine wpFrom_end (by kernel_rfl) ?_
    refine Exit.then_normal (hK5 _ _ ?_)
    refine wp_seq_k (fun K hK6 => ?_)
    refine wp_block ?_
    obtain ⟨z15, hz15, h⟩ := bs h
    refine loop_intro (fun Q8 c hQ hc => ?_)
    have key : ∀ (x7 : Int) (rr : Int), f45_l0 p0 p1 x7 = some rr → ∀ (a : Act) (w : World) (G : Gh), G0.le G → EnvR G 108 a [(0, .kv .str p0), (1, .kv .i p1), (4, .kv .i 0), (5, .kv .i 0), (6, .kv .i 0), (7, .kv .i x7)] → Holds w G (tabs σ) (Ls) → (∀ z16 : Int, rr = z16 → ∀ (a : Act) (w : World) (G : Gh), G0.le G → EnvR G 108 a [(0, .kv .str p0), (1, .kv .i p1), (4, .kv .i 0), (5, .kv .i 0), (6, .kv .i 0), (7, .kv .i z16)] → Holds w G (tabs σ) (Ls) → Q8 (.exit 0) a w) → Rnd Try.prog c Q8 a w := by
      refine f45_l0.partial_correctness p0 p1 _ ?_
      intro self ih11 x7 rr h a w G  hle hE hH hx9
      refine rnd_step' hc ?_
      refine wp_seq_k (fun K hK12 => ?_)
      refine wp_seq_k (fun K hK13 => ?_)
      refine wp_region_from ?_
      refine segO 11 [] [(28, .kv .bool ((decide ((IntKind.wrap .i64 (p1 + x7)) < (p0.length : Int))) && (decide (x7 < 10))))] (Os := []) trivial hE hH (by kernel_rfl) (fun a hE => ?_)
      by_cases hc : ((decide ((IntKind.wrap .i64 (p1 + x7)) < (p0.length : Int))) && (decide (x7 < 10))) = true
      · replace h := ifT hc h
        have hE := hE.setB 28 (by kernel_rfl) hc
        obtain ⟨q14, h⟩ := gd h
        refine segO 7 [] [(35, .kv .bool (decide ((btS p0 (IntKind.wrap .i64 (p1 + x7))) ≥ 128)))] (Os := [_]) ⟨q14, trivial⟩ hE hH (by kernel_rfl) (fun a hE => ?_)
        refine wpFrom_end (by kernel_rfl) ?_
        refine Exit.then_normal (hK13 _ _ ?_)
        refine condE (b := decide ((btS p0 (IntKind.wrap .i64 (p1 + x7))) ≥ 128)) hE (by kernel_rfl) (fun hc => ?_) (fun hc => ?_)
        · replace h := ifT hc h
          refine wp_skip ?_
          refine Exit.then_normal (hK12 _ _ ?_)
          refine wp_block ?_
          refine wp_region_from ?_
          refine segO 3 [] [(7, .kv .i (IntKind.wrap .i64 (x7 + 1)))] (Os := []) trivial hE hH (by kernel_rfl) (fun a hE => ?_)
          refine wpFrom_end (by kernel_rfl) ?_
          refine Exit.in_normal ?_
          refine Exit.then_normal ?_
          exact ih11 _ _ h _ _ _  hle (hE.subC (by kernel_rfl)) hH hx9
        · replace h := ifF hc h
          refine wp_exit ?_
          refine Exit.then_exit ?_
          refine Exit.then_exit ?_
          cases h
          exact hx9 _ rfl _ _ _  hle (hE.subC (by kernel_rfl)) hH
      · replace h := ifN hc h
        have hE := hE.setB 28 (by kernel_rfl) (bf hc)
        refine segO 7 [] [(35, .kv .bool false)] (Os := []) trivial hE hH (by kernel_rfl) (fun a hE => ?_)
        refine wpFrom_end (by kernel_rfl) ?_
        refine Exit.then_normal (hK13 _ _ ?_)
        refine condF hE (by kernel_rfl) rfl ?_
        refine wp_exit ?_
        refine Exit.then_exit ?_
        refine Exit.then_exit ?_
        cases h
        exact hx9 _ rfl _ _ _  hle (hE.subC (by kernel_rfl)) hH
    refine key _ _ hz15 _ _ _  hle (hE.subC (by kernel_rfl)) hH ?_
    · intro z16 hz a w G  hle hE hH
      subst hz
      rw [hQ]
      refine Exit.in_eq ?_
      refine Exit.then_normal (hK6 _ _ ?_)
      refine wp_seq_k (fun K hK17 => ?_)
      refine wp_seq_k (fun K hK18 => ?_)
      refine wp_region_from ?_
      refine segO 3 [] [(40, .kv .bool (decide (z15 ≥ 10)))] (Os := []) trivial hE hH (by kernel_rfl) (fun a hE => ?_)
      by_cases hc : (decide (z15 ≥ 10)) = true
      · replace h := ifT hc h
        have hE := hE.setB 40 (by kernel_rfl) hc
        refine segO 8 [] [(43, .undef)] (Os := []) trivial hE hH (by kernel_rfl) (fun a hE => ?_)
        refine stepSkip (d := (some 49)) hE (by kernel_rfl) (by kernel_rfl) (fun a hE => ?_)
        refine segO 6 [] [(50, .undef)] (Os := []) trivial hE hH (by kernel_rfl) (fun a hE => ?_)
        refine stepSkip (d := (some 56)) hE (by kernel_rfl) (by kernel_rfl) (fun a hE => ?_)
        refine segO 1 [] [(57, .kv .bool true)] (Os := []) trivial hE hH (by kernel_rfl) (fun a hE => ?_)
        refine wpFrom_end (by kernel_rfl) ?_
        refine Exit.then_normal (hK18 _ _ ?_)
        refine condT hE (by kernel_rfl) rfl ?_
        refine wp_seq_k (fun K hK19 => ?_)
        refine wp_region_from ?_
        refine segO 3 [] [(4, .kv .i 0), (5, .kv .i 0), (6, .kv .i 6)] (Os := []) trivial hE hH (by kernel_rfl) (fun a hE => ?_)
        refine wpFrom_end (by kernel_rfl) ?_
        refine Exit.then_normal (hK19 _ _ ?_)
        refine wp_ret ?_
        refine Exit.then_ret ?_
        cases h
        exact ret3 rfl hE hle hH (by kernel_rfl)
      · replace h := ifN hc h
        have hE := hE.setB 40 (by kernel_rfl) (bf hc)
        refine segO 10 [] [(50, .kv .bool ((z15 == 9) && (decide ((IntKind.wrap .i64 (p1 + 9)) < (p0.length : Int)))))] (Os := []) trivial hE hH (by kernel_rfl) (fun a hE => ?_)
        by_cases hc : ((z15 == 9) && (decide ((IntKind.wrap .i64 (p1 + 9)) < (p0.length : Int)))) = true
        · replace h := ifT hc h
          have hE := hE.setB 50 (by kernel_rfl) hc
          obtain ⟨q20, h⟩ := gd h
          refine segO 7 [] [(57, .kv .bool (decide ((btS p0 (IntKind.wrap .i64 (p1 + 9))) > 1)))] (Os := [_]) ⟨q20, trivial⟩ hE hH (by kernel_rfl) (fun a hE => ?_)
          refine wpFrom_end (by kernel_rfl) ?_
          refine Exit.then_normal (hK18 _ _ ?_)
          refine condE (b := decide ((btS p0 (IntKind.wrap .i64 (p1 + 9))) > 1)) hE (by kernel_rfl) (fun hc => ?_) (fun hc => ?_)
          · replace h := ifT hc h
            refine wp_seq_k (fun K hK21 => ?_)
            refine wp_region_from ?_
            refine segO 3 [] [(4, .kv .i 0), (5, .kv .i 0), (6, .kv .i 6)] (Os := []) trivial hE hH (by kernel_rfl) (fun a hE => ?_)
            refine wpFrom_end (by kernel_rfl) ?_
            refine Exit.then_normal (hK21 _ _ ?_)
            refine wp_ret ?_
            refine Exit.then_ret ?_
            cases h
            exact ret3 rfl hE hle hH (by kernel_rfl)
          · replace h := ifF hc h
            refine wp_skip ?_
            refine Exit.then_normal (hK17 _ _ ?_)
            refine wp_seq_k (fun K hK22 => ?_)
            refine wp_seq_k (fun K hK23 => ?_)
            refine wp_region_from ?_
            refine segO 6 [] [(63, .kv .bool (decide ((IntKind.wrap .i64 (p1 + z15)) ≥ (p0.length : Int))))] (Os := []) trivial hE hH (by kernel_rfl) (fun a hE => ?_)
            refine wpFrom_end (by kernel_rfl) ?_
            refine Exit.then_normal (hK23 _ _ ?_)
            refine condE (b := decide ((IntKind.wrap .i64 (p1 + z15)) ≥ (p0.length : Int))) hE (by kernel_rfl) (fun hc => ?_) (fun hc => ?_)
            · replace h := ifT hc h
              refine wp_seq_k (fun K hK24 => ?_)
              refine wp_region_from ?_
              refine segO 3 [] [(4, .kv .i 0), (5, .kv .i 0), (6, .kv .i 5)] (Os := []) trivial hE hH (by kernel_rfl) (fun a hE => ?_)
              refine wpFrom_end (by kernel_rfl) ?_
              refine Exit.then_normal (hK24 _ _ ?_)
              refine wp_ret ?_
              refine Exit.then_ret ?_
              cases h
              exact ret3 rfl hE hle hH (by kernel_rfl)
            · replace h := ifF hc h
              refine wp_skip ?_
              refine Exit.then_normal (hK22 _ _ ?_)
              refine wp_seq_k (fun K hK25 => ?_)
              refine wp_seq_k (fun K hK26 => ?_)
              refine wp_region_from ?_
              obtain ⟨q27, h⟩ := gd h
              refine segO 10 [] [(73, .kv .bool (((btS p0 (IntKind.wrap .i64 (p1 + z15))) == 0) && (decide (z15 > 0))))] (Os := [_]) ⟨q27, trivial⟩ hE hH (by kernel_rfl) (fun a hE => ?_)
              refine wpFrom_end (by kernel_rfl) ?_
              refine Exit.then_normal (hK26 _ _ ?_)
              refine condE (b := ((btS p0 (IntKind.wrap .i64 (p1 + z15))) == 0) && (decide (z15 > 0))) hE (by kernel_rfl) (fun hc => ?_) (fun hc => ?_)
              · replace h := ifT hc h
                refine wp_seq_k (fun K hK28 => ?_)
                refine wp_region_from ?_
                refine segO 3 [] [(4, .kv .i 0), (5, .kv .i 0), (6, .kv .i 6)] (Os := []) trivial hE hH (by kernel_rfl) (fun a hE => ?_)
                refine wpFrom_end (by kernel_rfl) ?_
                refine Exit.then_normal (hK28 _ _ ?_)
                refine wp_ret ?_
                refine Exit.then_ret ?_
                cases h
                exact ret3 rfl hE hle hH (by kernel_rfl)
              · replace h := ifF hc h
                refine wp_skip ?_
                refine Exit.then_normal (hK25 _ _ ?_)
                refine wp_seq_k (fun K hK29 => ?_)
                refine wp_region_from ?_
                refine segO 1 [] [(8, .kv (.int .u64) 0)] (Os := []) trivial hE hH (by kernel_rfl) (fun a hE => ?_)
                refine wpFrom_end (by kernel_rfl) ?_
                refine Exit.then_normal (hK29 _ _ ?_)
                refine wp_seq_k (fun K hK30 => ?_)
                refine wp_seq_k (fun K hK31 => ?_)
                refine wp_region_from ?_
                refine segO 2 [] [(9, .kv .i z15)] (Os := []) trivial hE hH (by kernel_rfl) (fun a hE => ?_)
                refine wpFrom_end (by kernel_rfl) ?_
                refine Exit.then_normal (hK31 _ _ ?_)
                refine wp_block ?_
                obtain ⟨z42, hz42, h⟩ := bs h
                refine loop_intro (fun Q34 c hQ hc => ?_)
                have key : ∀ (x32 : Int) (x33 : Int) (rr : Int × Int), f45_l1 p0 p1 x32 x33 = some rr → ∀ (a : Act) (w : World) (G : Gh), G0.le G → EnvR G 108 a [(0, .kv .str p0), (1, .kv .i p1), (4, .kv .i 0), (5, .kv .i 0), (6, .kv .i 0), (7, .kv .i z15), (8, .kv (.int .u64) x32), (9, .kv .i x33)] → Holds w G (tabs σ) (Ls) → (∀ z43 : Int × Int, rr = z43 → ∀ (a : Act) (w : World) (G : Gh), G0.le G → EnvR G 108 a [(0, .kv .str p0), (1, .kv .i p1), (4, .kv .i 0), (5, .kv .i 0), (6, .kv .i 0), (7, .kv .i z15), (8, .kv (.int .u64) z43.1), (9, .kv .i z43.2)] → Holds w G (tabs σ) (Ls) → Q34 (.exit 2) a w) → Rnd Try.prog c Q34 a w := by
                  refine f45_l1.partial_correctness p0 p1 _ ?_
                  intro self ih37 x32 x33 rr h a w G  hle hE hH hx35
                  refine rnd_step' hc ?_
                  refine wp_seq_k (fun K hK38 => ?_)
                  refine wp_seq_k (fun K hK39 => ?_)
                  refine wp_region_from ?_
                  refine segO 2 [] [(76, .kv .bool (decide (x33 ≥ 0)))] (Os := []) trivial hE hH (by kernel_rfl) (fun a hE => ?_)
                  refine wpFrom_end (by kernel_rfl) ?_
                  refine Exit.then_normal (hK39 _ _ ?_)
                  refine condE (b := decide (x33 ≥ 0)) hE (by kernel_rfl) (fun hc => ?_) (fun hc => ?_)
                  · replace h := ifT hc h
                    refine wp_skip ?_
                    refine Exit.then_normal (hK38 _ _ ?_)
                    refine wp_seq_k (fun K hK40 => ?_)
                    refine wp_block ?_
                    refine wp_region_from ?_
                    obtain ⟨q41, h⟩ := gd h
                    refine segO 11 [] [(8, .kv (.int .u64) (IntKind.wrap .u64 ((IntKind.wrap .u64 (x32 * 128)) + (IntKind.wrap .u64 (Int.tmod (btS p0 (IntKind.wrap .i64 (p1 + x33))) 128)))))] (Os := [_, _]) ⟨q41, (by decide : (128 : Int) ≠ 0), trivial⟩ hE hH (by kernel_rfl) (fun a hE => ?_)
                    refine wpFrom_end (by kernel_rfl) ?_
                    refine Exit.in_normal ?_
                    refine Exit.then_normal (hK40 _ _ ?_)
                    refine wp_region_from ?_
                    refine segO 3 [] [(9, .kv .i (IntKind.wrap .i64 (x33 - 1)))] (Os := []) trivial hE hH (by kernel_rfl) (fun a hE => ?_)
                    refine wpFrom_end (by kernel_rfl) ?_
                    refine Exit.then_normal ?_
                    exact ih37 _ _ _ h _ _ _  hle (hE.subC (by kernel_rfl)) hH hx35
                  · replace h := ifF hc h
                    refine wp_exit ?_
                    refine Exit.then_exit ?_
                    refine Exit.then_exit ?_
                    cases h
                    exact hx35 _ rfl _ _ _  hle (hE.subC (by kernel_rfl)) hH
                refine key _ _ _ hz42 _ _ _  hle (hE.subC (by kernel_rfl)) hH ?_
                · intro z43 hz a w G  hle hE hH
                  subst hz
                  rw [hQ]
                  refine Exit.in_eq ?_
                  refine Exit.then_normal (hK30 _ _ ?_)
                  refine wp_seq_k (fun K hK44 => ?_)
                  refine wp_seq_k (fun K hK45 => ?_)
                  refine wp_region_from ?_
                  refine segO 3 [] [(91, .kv .bool ((Int.tmod z42.1 2) == 0))] (Os := [_]) ⟨(by decide : (2 : Int) ≠ 0), trivial⟩ hE hH (by kernel_rfl) (fun a hE => ?_)
                  refine wpFrom_end (by kernel_rfl) ?_
                  refine Exit.then_normal (hK45 _ _ ?_)
                  refine condE (b := (Int.tmod z42.1 2) == 0) hE (by kernel_rfl) (fun hc => ?_) (fun hc => ?_)
                  · replace h := ifT hc h
                    refine wp_seq_k (fun K hK46 => ?_)
                    refine wp_region_from ?_
                    refine segO 10 [] [(4, .kv .i (IntKind.wrap .i64 (IntKind.wrap .u64 (Int.tdiv z42.1 2)))), (5, .kv .i (IntKind.wrap .i64 ((IntKind.wrap .i64 (p1 + z15)) + 1))), (6, .kv .i 0)] (Os := [_]) ⟨(by decide : (2 : Int) ≠ 0), trivial⟩ hE hH (by kernel_rfl) (fun a hE => ?_)
                    refine wpFrom_end (by kernel_rfl) ?_
                    refine Exit.then_normal (hK46 _ _ ?_)
                    refine wp_ret ?_
                    refine Exit.then_ret ?_
                    cases h
                    exact ret3 rfl hE hle hH (by kernel_rfl)
                  · replace h := ifF hc h
                    refine wp_skip ?_
                    refine Exit.then_normal (hK44 _ _ ?_)
                    refine wp_seq_k (fun K hK47 => ?_)
                    refine wp_region_from ?_
                    refine segO 12 [] [(4, .kv .i (IntKind.wrap .i64 ((IntKind.wrap .i64 (0 - (IntKind.wrap .i64 (IntKind.wrap .u64 (Int.tdiv z42.1 2))))) - 1))), (5, .kv .i (IntKind.wrap .i64 ((IntKind.wrap .i64 (p1 + z15)) + 1))), (6, .kv .i 0)] (Os := [_]) ⟨(by decide : (2 : Int) ≠ 0), trivial⟩ hE hH (by kernel_rfl) (fun a hE => ?_)
                    refine wpFrom_end (by kernel_rfl) ?_
                    refine Exit.then_normal (hK47 _ _ ?_)
                    refine wp_ret ?_
                    cases h
                    exact ret3 rfl hE hle hH (by kernel_rfl)
        · replace h := ifN hc h
          have hE := hE.setB 50 (by kernel_rfl) (bf hc)
          refine segO 7 [] [(57, .kv .bool false)] (Os := []) trivial hE hH (by kernel_rfl) (fun a hE => ?_)
          refine wpFrom_end (by kernel_rfl) ?_
          refine Exit.then_normal (hK18 _ _ ?_)
          refine condF hE (by kernel_rfl) rfl ?_
          refine wp_skip ?_
          refine Exit.then_normal (hK17 _ _ ?_)
          refine wp_seq_k (fun K hK48 => ?_)
          refine wp_seq_k (fun K hK49 => ?_)
          refine wp_region_from ?_
          refine segO 6 [] [(63, .kv .bool (decide ((IntKind.wrap .i64 (p1 + z15)) ≥ (p0.length : Int))))] (Os := []) trivial hE hH (by kernel_rfl) (fun a hE => ?_)
          refine wpFrom_end (by kernel_rfl) ?_
          refine Exit.then_normal (hK49 _ _ ?_)
          refine condE (b := decide ((IntKind.wrap .i64 (p1 + z15)) ≥ (p0.length : Int))) hE (by kernel_rfl) (fun hc => ?_) (fun hc => ?_)
          · replace h := ifT hc h
            refine wp_seq_k (fun K hK50 => ?_)
            refine wp_region_from ?_
            refine segO 3 [] [(4, .kv .i 0), (5, .kv .i 0), (6, .kv .i 5)] (Os := []) trivial hE hH (by kernel_rfl) (fun a hE => ?_)
            refine wpFrom_end (by kernel_rfl) ?_
            refine Exit.then_normal (hK50 _ _ ?_)
            refine wp_ret ?_
            refine Exit.then_ret ?_
            cases h
            exact ret3 rfl hE hle hH (by kernel_rfl)
          · replace h := ifF hc h
            refine wp_skip ?_
            refine Exit.then_normal (hK48 _ _ ?_)
            refine wp_seq_k (fun K hK51 => ?_)
            refine wp_seq_k (fun K hK52 => ?_)
            refine wp_region_from ?_
            obtain ⟨q53, h⟩ := gd h
            refine segO 10 [] [(73, .kv .bool (((btS p0 (IntKind.wrap .i64 (p1 + z15))) == 0) && (decide (z15 > 0))))] (Os := [_]) ⟨q53, trivial⟩ hE hH (by kernel_rfl) (fun a hE => ?_)
            refine wpFrom_end (by kernel_rfl) ?_
            refine Exit.then_normal (hK52 _ _ ?_)
            refine condE (b := ((btS p0 (IntKind.wrap .i64 (p1 + z15))) == 0) && (decide (z15 > 0))) hE (by kernel_rfl) (fun hc => ?_) (fun hc => ?_)
            · replace h := ifT hc h
              refine wp_seq_k (fun K hK54 => ?_)
              refine wp_region_from ?_
              refine segO 3 [] [(4, .kv .i 0), (5, .kv .i 0), (6, .kv .i 6)] (Os := []) trivial hE hH (by kernel_rfl) (fun a hE => ?_)
              refine wpFrom_end (by kernel_rfl) ?_
              refine Exit.then_normal (hK54 _ _ ?_)
              refine wp_ret ?_
              refine Exit.then_ret ?_
              cases h
              exact ret3 rfl hE hle hH (by kernel_rfl)
            · replace h := ifF hc h
              refine wp_skip ?_
              refine Exit.then_normal (hK51 _ _ ?_)
              refine wp_seq_k (fun K hK55 => ?_)
              refine wp_region_from ?_
              refine segO 1 [] [(8, .kv (.int .u64) 0)] (Os := []) trivial hE hH (by kernel_rfl) (fun a hE => ?_)
              refine wpFrom_end (by kernel_rfl) ?_
              refine Exit.then_normal (hK55 _ _ ?_)
              refine wp_seq_k (fun K hK56 => ?_)
              refine wp_seq_k (fun K hK57 => ?_)
              refine wp_region_from ?_
              refine segO 2 [] [(9, .kv .i z15)] (Os := []) trivial hE hH (by kernel_rfl) (fun a hE => ?_)
              refine wpFrom_end (by kernel_rfl) ?_
              refine Exit.then_normal (hK57 _ _ ?_)
              refine wp_block ?_
              obtain ⟨z68, hz68, h⟩ := bs h
              refine loop_intro (fun Q60 c hQ hc => ?_)
              have key : ∀ (x58 : Int) (x59 : Int) (rr : Int × Int), f45_l2 p0 p1 x58 x59 = some rr → ∀ (a : Act) (w : World) (G : Gh), G0.le G → EnvR G 108 a [(0, .kv .str p0), (1, .kv .i p1), (4, .kv .i 0), (5, .kv .i 0), (6, .kv .i 0), (7, .kv .i z15), (8, .kv (.int .u64) x58), (9, .kv .i x59)] → Holds w G (tabs σ) (Ls) → (∀ z69 : Int × Int, rr = z69 → ∀ (a : Act) (w : World) (G : Gh), G0.le G → EnvR G 108 a [(0, .kv .str p0), (1, .kv .i p1), (4, .kv .i 0), (5, .kv .i 0), (6, .kv .i 0), (7, .kv .i z15), (8, .kv (.int .u64) z69.1), (9, .kv .i z69.2)] → Holds w G (tabs σ) (Ls) → Q60 (.exit 2) a w) → Rnd Try.prog c Q60 a w := by
                refine f45_l2.partial_correctness p0 p1 _ ?_
                intro self ih63 x58 x59 rr h a w G  hle hE hH hx61
                refine rnd_step' hc ?_
                refine wp_seq_k (fun K hK64 => ?_)
                refine wp_seq_k (fun K hK65 => ?_)
                refine wp_region_from ?_
                refine segO 2 [] [(76, .kv .bool (decide (x59 ≥ 0)))] (Os := []) trivial hE hH (by kernel_rfl) (fun a hE => ?_)
                refine wpFrom_end (by kernel_rfl) ?_
                refine Exit.then_normal (hK65 _ _ ?_)
                refine condE (b := decide (x59 ≥ 0)) hE (by kernel_rfl) (fun hc => ?_) (fun hc => ?_)
                · replace h := ifT hc h
                  refine wp_skip ?_
                  refine Exit.then_normal (hK64 _ _ ?_)
                  refine wp_seq_k (fun K hK66 => ?_)
                  refine wp_block ?_
                  refine wp_region_from ?_
                  obtain ⟨q67, h⟩ := gd h
                  refine segO 11 [] [(8, .kv (.int .u64) (IntKind.wrap .u64 ((IntKind.wrap .u64 (x58 * 128)) + (IntKind.wrap .u64 (Int.tmod (btS p0 (IntKind.wrap .i64 (p1 + x59))) 128)))))] (Os := [_, _]) ⟨q67, (by decide : (128 : Int) ≠ 0), trivial⟩ hE hH (by kernel_rfl) (fun a hE => ?_)
                  refine wpFrom_end (by kernel_rfl) ?_
                  refine Exit.in_normal ?_
                  refine Exit.then_normal (hK66 _ _ ?_)
                  refine wp_region_from ?_
                  refine segO 3 [] [(9, .kv .i (IntKind.wrap .i64 (x59 - 1)))] (Os := []) trivial hE hH (by kernel_rfl) (fun a hE => ?_)
                  refine wpFrom_end (by kernel_rfl) ?_
                  refine Exit.then_normal ?_
                  exact ih63 _ _ _ h _ _ _  hle (hE.subC (by kernel_rfl)) hH hx61
                · replace h := ifF hc h
                  refine wp_exit ?_
                  refine Exit.then_exit ?_
                  refine Exit.then_exit ?_
                  cases h
                  exact hx61 _ rfl _ _ _  hle (hE.subC (by kernel_rfl)) hH
              refine key _ _ _ hz68 _ _ _  hle (hE.subC (by kernel_rfl)) hH ?_
              · intro z69 hz a w G  hle hE hH
                subst hz
                rw [hQ]
                refine Exit.in_eq ?_
                refine Exit.then_normal (hK56 _ _ ?_)
                refine wp_seq_k (fun K hK70 => ?_)
                refine wp_seq_k (fun K hK71 => ?_)
                refine wp_region_from ?_
                refine segO 3 [] [(91, .kv .bool ((Int.tmod z68.1 2) == 0))] (Os := [_]) ⟨(by decide : (2 : Int) ≠ 0), trivial⟩ hE hH (by kernel_rfl) (fun a hE => ?_)
                refine wpFrom_end (by kernel_rfl) ?_
                refine Exit.then_normal (hK71 _ _ ?_)
                refine condE (b := (Int.tmod z68.1 2) == 0) hE (by kernel_rfl) (fun hc => ?_) (fun hc => ?_)
                · replace h := ifT hc h
                  refine wp_seq_k (fun K hK72 => ?_)
                  refine wp_region_from ?_
                  refine segO 10 [] [(4, .kv .i (IntKind.wrap .i64 (IntKind.wrap .u64 (Int.tdiv z68.1 2)))), (5, .kv .i (IntKind.wrap .i64 ((IntKind.wrap .i64 (p1 + z15)) + 1))), (6, .kv .i 0)] (Os := [_]) ⟨(by decide : (2 : Int) ≠ 0), trivial⟩ hE hH (by kernel_rfl) (fun a hE => ?_)
                  refine wpFrom_end (by kernel_rfl) ?_
                  refine Exit.then_normal (hK72 _ _ ?_)
                  refine wp_ret ?_
                  refine Exit.then_ret ?_
                  cases h
                  exact ret3 rfl hE hle hH (by kernel_rfl)
                · replace h := ifF hc h
                  refine wp_skip ?_
                  refine Exit.then_normal (hK70 _ _ ?_)
                  refine wp_seq_k (fun K hK73 => ?_)
                  refine wp_region_from ?_
                  refine segO 12 [] [(4, .kv .i (IntKind.wrap .i64 ((IntKind.wrap .i64 (0 - (IntKind.wrap .i64 (IntKind.wrap .u64 (Int.tdiv z68.1 2))))) - 1))), (5, .kv .i (IntKind.wrap .i64 ((IntKind.wrap .i64 (p1 + z15)) + 1))), (6, .kv .i 0)] (Os := [_]) ⟨(by decide : (2 : Int) ≠ 0), trivial⟩ hE hH (by kernel_rfl) (fun a hE => ?_)
                  refine wpFrom_end (by kernel_rfl) ?_
                  refine Exit.then_normal (hK73 _ _ ?_)
                  refine wp_ret ?_
                  cases h
                  exact ret3 rfl hE hle hH (by kernel_rfl)
end Go.Proofs.Ytlfemhkabjafeaa.M

/- Plain law: numbers read, as the program and as the reference read them. -/
set_option linter.unusedVariables false
set_option linter.unusedSimpArgs false
namespace Go.Proofs.Ytlfemhkabjafeaa.M

/-- The number that bytes begin with, before its sign is told; how many bytes it has. -/
def rdU : List UInt8 → Nat → Option (Nat × Nat)
  | [], _ => none
  | c :: r, i => if 9 ≤ i ∧ 1 < c.toNat then none else if 128 ≤ c.toNat then (match rdU r (i + 1) with
      | some (u, k) => some (c.toNat % 128 + 128 * u, k + 1)
      | none => none) else if c.toNat = 0 ∧ 0 < i then none else some (c.toNat, 1)

def zz (u : Nat) : Int := if u % 2 = 1 then -((u / 2 : Nat) : Int) - 1 else ((u / 2 : Nat) : Int)

def valU (l : List UInt8) : Nat := l.foldr (fun c u => c.toNat % 128 + 128 * u) 0

/-- How many bytes go on. -/
def lead : List UInt8 → Nat → Nat
  | [], i => i
  | c :: r, i => if i < 10 ∧ 128 ≤ c.toNat then lead r (i + 1) else i

theorem valU_lt : ∀ (l : List UInt8), valU l < 128 ^ l.length
  | [] => by simp [valU]
  | c :: r => by
    have := valU_lt r
    have h : c.toNat % 128 < 128 := Nat.mod_lt _ (by decide)
    simp only [valU, List.foldr_cons, List.length_cons, Nat.pow_succ] at this ⊢
    omega

theorem rdU_some : ∀ {t : List UInt8} {i u k : Nat}, i ≤ 9 → rdU t i = some (u, k) → 1 ≤ k ∧ k ≤ t.length ∧ i + k ≤ 10 ∧ u = valU (t.take k) ∧ u * 2 ^ (7 * i) < 2 ^ 64 ∧ (0 < i → u ≠ 0) ∧ lead t i = i + k - 1 ∧ t.take k = bytesS (vbI u) ∧
    (∃ c, t[k - 1]? = some c ∧ c.toNat < 128 ∧ (i + k = 10 → c.toNat ≤ 1) ∧ (c.toNat = 0 → i + k = 1))
  | [], i, u, k, hi, h => by simp [rdU] at h
  | c :: r, i, u, k, hi, h => by
    unfold rdU at h
    split at h
    · cases h
    · rename_i h1
      split at h
      · rename_i h2
        split at h
        · rename_i u' k' hr
          simp only [Option.some.injEq, Prod.mk.injEq] at h
          obtain ⟨rfl, rfl⟩ := h
          obtain ⟨g1, g2, g3, g4, g5, g6, g7, g8, c', g9, g10, g11, g12⟩ := rdU_some (by omega) hr
          have hlt : c.toNat < 256 := c.toNat_lt
          have hu := g6 (by omega)
          refine ⟨by omega, by simp; omega, by omega, ?_, ?_, by omega, ?_, ?_, c', ?_, g10, fun h => g11 (by omega), fun h => by have := g12 h; omega⟩
          · simp only [List.take_succ_cons, valU, List.foldr_cons]
            rw [g4]; rfl
          · have e : 2 ^ (7 * (i + 1)) = 128 * 2 ^ (7 * i) := by rw [Nat.mul_add, Nat.pow_add, Nat.mul_comm]
            rw [e] at g5
            have h64 : (2 : Nat) ^ 64 = 128 * 2 ^ (7 * i) * 2 ^ (57 - 7 * i) := by
              rw [← e, ← Nat.pow_add]; congr 1; omega
            have h3 : u' < 2 ^ (57 - 7 * i) := by
              rw [h64, Nat.mul_comm u'] at g5
              exact Nat.lt_of_mul_lt_mul_left g5
            have h4 : c.toNat % 128 + 128 * u' < 128 * 2 ^ (57 - 7 * i) := by
              have := Nat.mod_lt c.toNat (show 128 > 0 by decide)
              omega
            have h5 : 128 * 2 ^ (57 - 7 * i) * 2 ^ (7 * i) = 2 ^ 64 := by rw [h64]; ac_rfl
            rw [← h5]
            exact Nat.mul_lt_mul_of_pos_right h4 (Nat.pow_pos (by decide))
          · unfold lead
            rw [if_pos ⟨by omega, h2⟩, g7]; omega
          · have hb : ¬ c.toNat % 128 + 128 * u' < 128 := by omega
            rw [vbI_big hb, List.take_succ_cons, g8]
            have e1 : (c.toNat % 128 + 128 * u') % 128 + 128 = c.toNat := by omega
            have e2 : (c.toNat % 128 + 128 * u') / 128 = u' := by omega
            rw [e1, e2]
            show c :: bytesS (vbI u') = UInt8.ofNat ((c.toNat : Int).toNat) :: bytesS (vbI u')
            simp
          · have : k' + 1 - 1 = (k' - 1) + 1 := by omega
            rw [this, List.getElem?_cons_succ]; exact g9
        · cases h
      · rename_i h2
        split at h
        · cases h
        · rename_i h3
          simp only [Option.some.injEq, Prod.mk.injEq] at h
          obtain ⟨rfl, rfl⟩ := h
          refine ⟨by omega, by simp, by omega, ?_, ?_, by omega, ?_, ?_, c, by simp, by omega, fun h => by omega, fun h => by omega⟩
          · simp only [List.take_succ_cons, List.take_zero, valU, List.foldr_cons, List.foldr_nil]; omega
          · have hc : c.toNat < 2 ^ (64 - 7 * i) := by
              by_cases h9 : 9 ≤ i
              · have : i = 9 := by omega
                subst this
                have : c.toNat ≤ 1 := by omega
                have : (2 : Nat) ^ (64 - 7 * 9) = 2 := by decide
                omega
              · have : (2 : Nat) ^ 7 ≤ 2 ^ (64 - 7 * i) := Nat.pow_le_pow_right (by decide) (by omega)
                omega
            have h5 : 2 ^ (64 - 7 * i) * 2 ^ (7 * i) = 2 ^ 64 := by rw [← Nat.pow_add]; congr 1; omega
            rw [← h5]
            exact Nat.mul_lt_mul_of_pos_right hc (Nat.pow_pos (by decide))
          · unfold lead
            rw [if_neg (by omega)]; omega
          · rw [vbI_small (by omega)]
            show [c] = [UInt8.ofNat ((c.toNat : Int).toNat)]
            simp

theorem rdU_none : ∀ {t : List UInt8} {i : Nat}, i ≤ 9 → rdU t i = none → i ≤ lead t i ∧ (lead t i = 10 ∨ t.length ≤ lead t i - i ∨ ∃ c, t[lead t i - i]? = some c ∧ c.toNat < 128 ∧ ((lead t i = 9 ∧ 1 < c.toNat) ∨ (c.toNat = 0 ∧ 0 < lead t i)))
  | [], i, hi, h => ⟨Nat.le_refl _, .inr (.inl (by simp [lead]))⟩
  | c :: r, i, hi, h => by
    unfold rdU at h
    unfold lead
    by_cases h2 : 128 ≤ c.toNat
    · rw [if_pos ⟨by omega, h2⟩]
      by_cases h9 : i = 9
      · subst h9
        have e : lead r (9 + 1) = 10 := by
          cases r with
          | nil => rfl
          | cons d r => unfold lead; rw [if_neg (by omega)]
        exact ⟨by omega, .inl e⟩
      · rw [if_neg (by omega), if_pos h2] at h
        have hr : rdU r (i + 1) = none := by
          rcases Option.eq_none_or_eq_some (rdU r (i + 1)) with hq | ⟨q, hq⟩
          · exact hq
          · rw [hq] at h; cases h
        obtain ⟨g1, g2⟩ := rdU_none (by omega) hr
        refine ⟨by omega, ?_⟩
        rcases g2 with g2 | g2 | ⟨c', g2, g3, g4⟩
        · exact .inl g2
        · exact .inr (.inl (by simp; omega))
        · refine .inr (.inr ⟨c', ?_, g3, g4⟩)
          have : lead r (i + 1) - i = (lead r (i + 1) - (i + 1)) + 1 := by omega
          rw [this, List.getElem?_cons_succ]; exact g2
    · rw [if_neg (by omega)]
      refine ⟨Nat.le_refl _, .inr (.inr ⟨c, by simp, by omega, ?_⟩)⟩
      by_cases c1 : 9 ≤ i ∧ 1 < c.toNat
      · exact .inl (by omega)
      · rw [if_neg c1, if_neg h2] at h
        by_cases c2 : c.toNat = 0 ∧ 0 < i
        · exact .inr (by omega)
        · rw [if_neg c2] at h; cases h

theorem lead_le : ∀ (t : List UInt8) (i : Nat), i ≤ 10 → i ≤ lead t i ∧ lead t i ≤ 10 ∧ lead t i - i ≤ t.length
  | [], i, hi => by simp [lead, hi]
  | c :: r, i, hi => by
    unfold lead
    split
    · have := lead_le r (i + 1) (by omega)
      simp only [List.length_cons]; omega
    · simp [hi]

/-! ### As the program reads -/
theorem not64 {m : Nat} (hm : m < 9223372036854775808) : IntKind.wrap .i64 ((BitVec.ofInt (IntKind.bits .i64) (if IntKind.signed .i64 = true then -1 else IntKind.max .i64) ^^^ BitVec.ofInt (IntKind.bits .i64) (m : Int)).toNat) = -(m : Int) - 1 := by
  have e1 : BitVec.ofInt (IntKind.bits .i64) (m : Int) = BitVec.ofNat 64 m := ofInt_nat 64 m
  have e2 : BitVec.ofInt (IntKind.bits .i64) (if IntKind.signed .i64 = true then -1 else IntKind.max .i64) = BitVec.allOnes 64 := by
    show BitVec.ofInt 64 (if IntKind.signed .i64 = true then -1 else IntKind.max .i64) = BitVec.allOnes 64
    decide
  rw [e1, e2]
  have e3 : (BitVec.allOnes 64 ^^^ BitVec.ofNat 64 m).toNat = 18446744073709551615 - m := by
    rw [BitVec.allOnes_xor, BitVec.toNat_not, BitVec.toNat_ofNat, Nat.mod_eq_of_lt (by omega)]
  have e4 : ((BitVec.allOnes 64 ^^^ BitVec.ofNat 64 m : BitVec 64)).toNat = 18446744073709551615 - m := e3
  show IntKind.wrap .i64 (((BitVec.allOnes 64 ^^^ BitVec.ofNat 64 m : BitVec 64).toNat : Nat) : Int) = _
  rw [e4, IntKind.wrap_i64]
  omega

theorem f113_all (s : List UInt8) (p : Nat) (hs : s.length < 9223372036854775808) (hp : p ≤ s.length) : ∀ (t : List UInt8) (i acc : Nat), s.drop (p + i) = t → p + i ≤ s.length → i ≤ 9 → acc < 2 ^ (7 * i) →
    (∃ u k, rdU t i = some (u, k) ∧ f113_l0 s (p : Int) (acc : Int) (i : Int) = some (.inr (zz (acc + u * 2 ^ (7 * i)), ((p + i + k : Nat) : Int), 0))) ∨
    (rdU t i = none ∧ (f113_l0 s (p : Int) (acc : Int) (i : Int) = some (.inr (0, 0, 6)) ∨ ∃ z, f113_l0 s (p : Int) (acc : Int) (i : Int) = some (.inl z)))
  | [], i, acc, hd, hpi, hi, ha => by
    refine .inr ⟨rfl, .inr ?_⟩
    rw [f113_l0]
    have hl : s.length ≤ p + i := by
      have := congrArg List.length hd
      rw [List.length_drop] at this
      simp only [List.length_nil] at this
      omega
    have hw : IntKind.wrap .i64 ((p : Int) + (i : Int)) = ((p + i : Nat) : Int) := by rw [wrap_id (by omega) (by omega)]; omega
    rw [hw, if_neg (by simp; omega)]
    exact ⟨_, rfl⟩
  | c :: r, i, acc, hd, hpi, hi, ha => by
    rw [f113_l0]
    obtain ⟨h1, h2, h3⟩ := at_drop hd
    have hc : c.toNat < 256 := c.toNat_lt
    have hw : IntKind.wrap .i64 ((p : Int) + (i : Int)) = ((p + i : Nat) : Int) := by rw [wrap_id (by omega) (by omega)]; omega
    have hw7 : IntKind.wrap .i64 (7 * (i : Int)) = ((7 * i : Nat) : Int) := by rw [wrap_id (by omega) (by omega)]; omega
    have hw1 : IntKind.wrap .i64 ((i : Int) + 1) = ((i + 1 : Nat) : Int) := by rw [wrap_id (by omega) (by omega)]; omega
    have hmin : min (Int.toNat ((7 * i : Nat) : Int)) (IntKind.bits .u64) = 7 * i := by
      have : Int.toNat ((7 * i : Nat) : Int) = 7 * i := by omega
      rw [this]
      show min (7 * i) 64 = 7 * i
      omega
    rw [hw, hw7, hw1, h2, hmin, and127 hc]
    rw [if_pos (by simp; omega), if_pos (by omega)]
    by_cases c9 : i = 9 ∧ 1 < c.toNat
    · rw [if_pos (by simp; omega)]
      refine .inr ⟨?_, .inl rfl⟩
      unfold rdU
      rw [if_pos (by omega)]
    rw [if_neg (by simp; omega), if_pos (by omega)]
    have hm : c.toNat % 128 < 2 ^ (64 - 7 * i) := by
      by_cases h9 : i = 9
      · subst h9
        have : (2 : Nat) ^ (64 - 7 * 9) = 2 := by decide
        omega
      · have : (2 : Nat) ^ 7 ≤ 2 ^ (64 - 7 * i) := Nat.pow_le_pow_right (by decide) (by omega)
        omega
    have h5 : 2 ^ (64 - 7 * i) * 2 ^ (7 * i) = 2 ^ 64 := by rw [← Nat.pow_add]; congr 1; omega
    have hle : (c.toNat % 128) * 2 ^ (7 * i) + 2 ^ (7 * i) ≤ 2 ^ 64 := by
      rw [← h5, ← Nat.succ_mul]
      exact Nat.mul_le_mul_right _ hm
    have h64 : (2 : Nat) ^ 64 = 18446744073709551616 := by decide
    have e1 : IntKind.wrap .u64 (IntKind.wrap .u64 ((c.toNat % 128 : Nat) : Int) * 2 ^ (7 * i)) = (((c.toNat % 128) * 2 ^ (7 * i) : Nat) : Int) := by
      have e : IntKind.wrap .u64 ((c.toNat % 128 : Nat) : Int) = ((c.toNat % 128 : Nat) : Int) := by rw [w64]; omega
      have e0 : ((c.toNat % 128 : Nat) : Int) * 2 ^ (7 * i) = (((c.toNat % 128) * 2 ^ (7 * i) : Nat) : Int) := by push_cast; rfl
      rw [e, e0, w64]
      omega
    have e2 : IntKind.wrap .u64 (((BitVec.ofInt (IntKind.bits .u64) (acc : Int) ||| BitVec.ofInt (IntKind.bits .u64) (((c.toNat % 128) * 2 ^ (7 * i) : Nat) : Int)).toNat : Nat) : Int) = ((acc + (c.toNat % 128) * 2 ^ (7 * i) : Nat) : Int) := by
      rw [or_add ha (by omega), w64]
      omega
    rw [e1, e2]
    by_cases cc : 128 ≤ c.toNat
    · rw [if_pos (by simp; omega)]
      have hi9 : i < 9 := by omega
      have e7 : 2 ^ (7 * (i + 1)) = 128 * 2 ^ (7 * i) := by rw [Nat.mul_add, Nat.pow_add, Nat.mul_comm]
      have hlt : acc + c.toNat % 128 * 2 ^ (7 * i) < 2 ^ (7 * (i + 1)) := by
        have h5 : c.toNat % 128 * 2 ^ (7 * i) ≤ 127 * 2 ^ (7 * i) := Nat.mul_le_mul_right _ (by omega)
        rw [e7]; omega
      have ih := f113_all s p hs hp r (i + 1) (acc + c.toNat % 128 * 2 ^ (7 * i)) (by rw [← Nat.add_assoc]; exact h3) (by omega) (by omega) hlt
      rcases ih with ⟨u, k, g1, g2⟩ | ⟨g1, g2⟩
      · refine .inl ⟨c.toNat % 128 + 128 * u, k + 1, ?_, ?_⟩
        · unfold rdU
          rw [if_neg (by omega), if_pos cc, g1]
        · rw [g2]
          have e : acc + c.toNat % 128 * 2 ^ (7 * i) + u * 2 ^ (7 * (i + 1)) = acc + (c.toNat % 128 + 128 * u) * 2 ^ (7 * i) := by
            rw [e7, Nat.add_assoc, ← Nat.mul_assoc, ← Nat.add_mul, Nat.mul_comm u]
          rw [e]
          congr 5
          omega
      · refine .inr ⟨?_, g2⟩
        unfold rdU
        rw [if_neg (by omega), if_pos cc, g1]
    · rw [if_neg (by simp; omega)]
      by_cases c0 : c.toNat = 0 ∧ 0 < i
      · rw [if_pos (by simp; omega)]
        refine .inr ⟨?_, .inl rfl⟩
        unfold rdU
        rw [if_neg (by omega), if_neg cc, if_pos c0]
      · rw [if_neg (by simp; omega)]
        have hmc : c.toNat % 128 = c.toNat := by omega
        rw [hmc] at hle ⊢
        have hr : rdU (c :: r) i = some (c.toNat, 1) := by
          unfold rdU
          rw [if_neg (by omega), if_neg cc, if_neg c0]
        refine .inl ⟨c.toNat, 1, hr, ?_⟩
        have hV : acc + c.toNat * 2 ^ (7 * i) < 2 ^ 64 := by omega
        rw [and_one _ hV]
        have e3 : Int.fdiv ((acc + c.toNat * 2 ^ (7 * i) : Nat) : Int) (2 ^ 1) = (((acc + c.toNat * 2 ^ (7 * i)) / 2 : Nat) : Int) := by
          rw [Int.fdiv_eq_ediv_of_nonneg _ (by decide)]; norm_cast
        have hh : (acc + c.toNat * 2 ^ (7 * i)) / 2 < 9223372036854775808 := by omega
        rw [e3, wrap_id (x := (((acc + c.toNat * 2 ^ (7 * i)) / 2 : Nat) : Int)) (by omega) (by omega)]
        have hw2 : IntKind.wrap .i64 (((p + i : Nat) : Int) + 1) = ((p + i + 1 : Nat) : Int) := by rw [wrap_id (by omega) (by omega)]; omega
        rw [hw2]
        unfold zz
        by_cases c1 : (acc + c.toNat * 2 ^ (7 * i)) % 2 = 1
        · rw [if_pos (by rw [c1, w64]; decide), if_pos c1]
          simp only [Option.bind_eq_bind, Option.bind_some]
          rw [not64 hh]
        · have c2 : (acc + c.toNat * 2 ^ (7 * i)) % 2 = 0 := by omega
          rw [if_neg (by rw [c2, w64]; decide), if_neg c1]
          simp only [Option.bind_eq_bind, Option.bind_some]

/-- What the program reads, whatever the bytes. -/
theorem f113_eq {s : List UInt8} {p : Nat} (hs : s.length < 9223372036854775808) (hp : p ≤ s.length) :
    (∃ u k, rdU (s.drop p) 0 = some (u, k) ∧ f113 s (p : Int) = some (zz u, ((p + k : Nat) : Int), 0)) ∨ (rdU (s.drop p) 0 = none ∧ ∃ e : Int, e ≠ 0 ∧ f113 s (p : Int) = some (0, 0, e)) := by
  unfold f113
  rw [if_neg (by simp; omega)]
  have h := f113_all s p hs hp (s.drop p) 0 0 (by simp) (by omega) (by omega) (by simp)
  rw [show (((0 : Nat) : Int)) = (0 : Int) from rfl] at h
  rcases h with ⟨u, k, g1, g2⟩ | ⟨g1, g2 | ⟨z, g2⟩⟩
  · refine .inl ⟨u, k, g1, ?_⟩
    rw [g2]; simp
  · exact .inr ⟨g1, 6, by decide, by rw [g2]; rfl⟩
  · exact .inr ⟨g1, 5, by decide, by rw [g2]; rfl⟩

/-! ### As the reference reads -/
theorem f45_lead (s : List UInt8) (p : Nat) (hs : s.length < 9223372036854775808) : ∀ (t : List UInt8) (i : Nat), s.drop (p + i) = t → p + i ≤ s.length → i ≤ 10 → f45_l0 s (p : Int) (i : Int) = some ((lead t i : Nat) : Int)
  | [], i, hd, hpi, hi => by
    rw [f45_l0]
    have hl : s.length ≤ p + i := by
      have := congrArg List.length hd
      rw [List.length_drop] at this
      simp only [List.length_nil] at this
      omega
    have hw : IntKind.wrap .i64 ((p : Int) + (i : Int)) = ((p + i : Nat) : Int) := by rw [wrap_id (by omega) (by omega)]; omega
    rw [hw, if_neg (by simp; omega)]
    rfl
  | c :: r, i, hd, hpi, hi => by
    rw [f45_l0]
    obtain ⟨h1, h2, h3⟩ := at_drop hd
    have hw : IntKind.wrap .i64 ((p : Int) + (i : Int)) = ((p + i : Nat) : Int) := by rw [wrap_id (by omega) (by omega)]; omega
    have hw1 : IntKind.wrap .i64 ((i : Int) + 1) = ((i + 1 : Nat) : Int) := by rw [wrap_id (by omega) (by omega)]; omega
    rw [hw, hw1, h2]
    unfold lead
    by_cases c1 : i < 10
    · rw [if_pos (by simp; omega), if_pos (by omega)]
      by_cases c2 : 128 ≤ c.toNat
      · rw [if_pos (by simp; omega), if_pos ⟨c1, c2⟩]
        exact f45_lead s p hs r (i + 1) (by rw [← Nat.add_assoc]; exact h3) (by omega) (by omega)
      · rw [if_neg (by simp; omega), if_neg (by omega)]
    · rw [if_neg (by simp; omega), if_neg (by omega)]

theorem valU_drop {l : List UInt8} {j : Nat} (h : j < l.length) : valU (l.drop j) = l[j].toNat % 128 + 128 * valU (l.drop (j + 1)) := by
  have hd : l.drop j = l[j] :: l.drop (j + 1) := by simp
  rw [hd]; rfl

theorem f45_sum (s : List UInt8) (p : Nat) (l : List UInt8) (hs : s.length < 9223372036854775808) (hl : l <+: s.drop p) (hv : valU l < 2 ^ 64) (hl10 : l.length ≤ 10) : ∀ (j : Nat), j ≤ l.length →
    f45_l1 s (p : Int) ((valU (l.drop j) : Nat) : Int) ((j : Int) - 1) = some (((valU l : Nat) : Int), -1) ∧ f45_l2 s (p : Int) ((valU (l.drop j) : Nat) : Int) ((j : Int) - 1) = some (((valU l : Nat) : Int), -1)
  | 0, hj => by
    rw [f45_l1, f45_l2]
    simp
  | j + 1, hj => by
    rw [f45_l1, f45_l2]
    have hjl : j < l.length := by omega
    obtain ⟨w, hw⟩ := hl
    have hlen : p + l.length ≤ s.length := by
      have := congrArg List.length hw
      rw [List.length_append, List.length_drop] at this; omega
    have hat : btS s ((p + j : Nat) : Int) = (l[j].toNat : Int) := by
      rw [btS_at (by omega)]
      congr 2
      have h1 : (s.drop p)[j]? = some l[j] := by rw [← hw, List.getElem?_append_left hjl]; simp
      rw [List.getElem?_drop] at h1
      exact (List.getElem?_eq_some_iff.1 h1).2
    have e0 : ((j + 1 : Nat) : Int) - 1 = (j : Int) := by omega
    have hwp : IntKind.wrap .i64 ((p : Int) + (j : Int)) = ((p + j : Nat) : Int) := by rw [wrap_id (by omega) (by omega)]; omega
    have hw1 : IntKind.wrap .i64 ((j : Int) - 1) = (j : Int) - 1 := wrap_id (by omega) (by omega)
    have hdv := valU_drop hjl
    have hmono : ∀ (a b : List UInt8), valU b ≤ valU (a ++ b) := by
      intro a
      induction a with
      | nil => intro b; exact Nat.le_refl _
      | cons x a ih =>
        intro b
        have := ih b
        simp only [List.cons_append, valU, List.foldr_cons] at this ⊢
        omega
    have hle : valU (l.drop j) ≤ valU l := by
      have := hmono (l.take j) (l.drop j)
      rwa [List.take_append_drop] at this
    have h64 : (2 : Nat) ^ 64 = 18446744073709551616 := by decide
    have hc : l[j].toNat < 256 := l[j].toNat_lt
    have em : Int.tmod (l[j].toNat : Int) 128 = ((l[j].toNat % 128 : Nat) : Int) := by rw [Int.tmod_eq_emod_of_nonneg (by omega)]; omega
    have e2 : IntKind.wrap .u64 (IntKind.wrap .u64 (((valU (l.drop (j + 1)) : Nat) : Int) * 128) + IntKind.wrap .u64 ((l[j].toNat % 128 : Nat) : Int)) = ((valU (l.drop j) : Nat) : Int) := by
      rw [hdv] at hle ⊢
      rw [w64, w64, w64]
      omega
    obtain ⟨i1, i2⟩ := f45_sum s p l hs ⟨w, hw⟩ hv hl10 j (by omega)
    rw [e0, hwp, hw1, hat, em, e2]
    rw [if_pos (by simp), if_pos (by omega), if_pos (by simp), if_pos (by omega)]
    exact ⟨i1, i2⟩

/-- What the reference reads, whatever the bytes. -/
theorem f45_eq {s : List UInt8} {p : Nat} (hs : s.length < 4611686018427387904) (hp : p ≤ s.length) :
    (∃ u k, rdU (s.drop p) 0 = some (u, k) ∧ f45 s (p : Int) = some (zz u, ((p + k : Nat) : Int), 0)) ∨ (rdU (s.drop p) 0 = none ∧ ∃ e : Int, e ≠ 0 ∧ f45 s (p : Int) = some (0, 0, e)) := by
  have hL := f45_lead s p (by omega) (s.drop p) 0 (by simp) (by omega) (by omega)
  rw [show (((0 : Nat) : Int)) = (0 : Int) from rfl] at hL
  obtain ⟨_, hj10, hjl⟩ := lead_le (s.drop p) 0 (by omega)
  have hdl : (s.drop p).length = s.length - p := List.length_drop
  unfold f45
  rw [if_neg (by simp; omega), hL]
  simp only [Option.bind_eq_bind, Option.bind_some]
  have hw9 : IntKind.wrap .i64 ((p : Int) + 9) = ((p + 9 : Nat) : Int) := by rw [wrap_id (by omega) (by omega)]; omega
  have hwj : IntKind.wrap .i64 ((p : Int) + ((lead (s.drop p) 0 : Nat) : Int)) = ((p + lead (s.drop p) 0 : Nat) : Int) := by rw [wrap_id (by omega) (by omega)]; omega
  rw [hw9, hwj]
  have hat : ∀ (j : Nat) (c : UInt8), (s.drop p)[j]? = some c → p + j < s.length ∧ btS s ((p + j : Nat) : Int) = (c.toNat : Int) := by
    intro j c hc
    rw [List.getElem?_drop] at hc
    obtain ⟨h1, h2⟩ := List.getElem?_eq_some_iff.1 hc
    exact ⟨h1, by rw [btS_at h1, h2]⟩
  cases hr : rdU (s.drop p) 0 with
  | none =>
    refine .inr ⟨rfl, ?_⟩
    obtain ⟨_, g2⟩ := rdU_none (by omega) hr
    rcases g2 with g2 | g2 | ⟨c, g2, g3, g4⟩
    · exact ⟨6, by decide, by rw [if_pos (by simp; omega)]⟩
    · by_cases h10 : 10 ≤ lead (s.drop p) 0
      · exact ⟨6, by decide, by rw [if_pos (by simp; omega)]⟩
      · refine ⟨5, by decide, ?_⟩
        rw [if_neg (by simp; omega), if_neg (by simp; omega), if_pos (by simp; omega)]
    · rw [Nat.sub_zero] at g2
      obtain ⟨h1, h2⟩ := hat _ _ g2
      rcases g4 with ⟨g4, g5⟩ | ⟨g4, g5⟩
      · refine ⟨6, by decide, ?_⟩
        rw [g4] at h1 h2 ⊢
        rw [if_neg (by simp), if_pos (by simp; omega), if_pos (by omega), h2, if_pos (by simp; omega)]
      · refine ⟨6, by decide, ?_⟩
        by_cases h10 : 10 ≤ lead (s.drop p) 0
        · rw [if_pos (by simp; omega)]
        rw [if_neg (by simp; omega)]
        by_cases h9 : lead (s.drop p) 0 = 9
        · rw [h9] at h1 h2 ⊢
          rw [if_pos (by simp; omega), if_pos (by omega), h2, if_neg (by simp; omega), if_neg (by simp; omega), if_pos (by omega), if_pos (by simp; omega)]
        · rw [if_neg (by simp; omega), if_neg (by simp; omega), if_pos (by omega), h2, if_pos (by simp; omega)]
  | some uk =>
    obtain ⟨u, k⟩ := uk
    obtain ⟨g1, g2, g3, g4, g5, g6, g7, g8, c, g9, g10, g11, g12⟩ := rdU_some (by omega) hr
    refine .inl ⟨u, k, rfl, ?_⟩
    have hj : lead (s.drop p) 0 = k - 1 := by omega
    obtain ⟨h1, h2⟩ := hat _ _ g9
    have hlen : ((s.drop p).take k).length = k := by rw [List.length_take]; omega
    have hsum := f45_sum s p ((s.drop p).take k) (by omega) (List.take_prefix _ _) (by rw [← g4]; simpa using g5) (by omega) k (by omega)
    rw [← g4] at hsum
    have hdn : valU (((s.drop p).take k).drop k) = 0 := by rw [List.drop_of_length_le (by omega)]; rfl
    rw [hdn, show (((0 : Nat) : Int)) = (0 : Int) from rfl, show ((k : Int) - 1) = ((k - 1 : Nat) : Int) by omega] at hsum
    rw [hj]
    have hu : u < 18446744073709551616 := by have : (2 : Nat) ^ 64 = 18446744073709551616 := by decide
                                             simp only [Nat.mul_zero, Nat.pow_zero, Nat.mul_one] at g5; omega
    have e1 : Int.tmod (u : Int) 2 = ((u % 2 : Nat) : Int) := by rw [Int.tmod_eq_emod_of_nonneg (by omega)]; omega
    have e2 : IntKind.wrap .u64 (Int.tdiv (u : Int) 2) = ((u / 2 : Nat) : Int) := by rw [Int.tdiv_eq_ediv_of_nonneg (by omega), w64]; omega
    have e3 : IntKind.wrap .i64 ((u / 2 : Nat) : Int) = ((u / 2 : Nat) : Int) := wrap_id (by omega) (by omega)
    have e4 : IntKind.wrap .i64 (IntKind.wrap .i64 (0 - ((u / 2 : Nat) : Int)) - 1) = -((u / 2 : Nat) : Int) - 1 := by
      rw [wrap_id (x := 0 - ((u / 2 : Nat) : Int)) (by omega) (by omega), wrap_id (by omega) (by omega)]; omega
    have e5 : IntKind.wrap .i64 (((p + (k - 1) : Nat) : Int) + 1) = ((p + k : Nat) : Int) := by rw [wrap_id (by omega) (by omega)]; omega
    have fin : ∀ z : Int × Int, z.1 = (u : Int) → (if (Int.tmod z.1 2 == 0) = true then some (IntKind.wrap .i64 (IntKind.wrap .u64 (Int.tdiv z.1 2)), IntKind.wrap .i64 (((p + (k - 1) : Nat) : Int) + 1), (0 : Int)) else
        some (IntKind.wrap .i64 (IntKind.wrap .i64 (0 - IntKind.wrap .i64 (IntKind.wrap .u64 (Int.tdiv z.1 2))) - 1), IntKind.wrap .i64 (((p + (k - 1) : Nat) : Int) + 1), 0)) = some (zz u, ((p + k : Nat) : Int), (0 : Int)) := by
      intro z hz
      rw [hz, e1, e2, e3, e4, e5]
      unfold zz
      by_cases c1 : u % 2 = 1
      · rw [if_neg (by rw [c1]; decide), if_pos c1]
      · have : u % 2 = 0 := by omega
        rw [if_pos (by rw [this]; decide), if_neg c1]
    rw [if_neg (by simp; omega)]
    by_cases h9 : k - 1 = 9
    · have hc1 := g11 (by omega)
      rw [h9] at h1 h2 hsum fin ⊢
      rw [if_pos (by simp; omega), if_pos (by omega), h2, if_neg (by simp; omega), if_neg (by simp; omega), if_pos (by omega), if_neg (by simp; intro h; have := g12 h; omega), hsum.1]
      simp only [Option.bind_some]
      exact fin ((u : Int), -1) rfl
    · rw [if_neg (by simp; omega), if_neg (by simp; omega), if_pos (by omega), h2, if_neg (by simp; intro h; have := g12 h; omega), hsum.2]
      simp only [Option.bind_some]
      exact fin ((u : Int), -1) rfl

/-- Bytes begin with the bytes of a number just when that number is read. -/
theorem rdU_numV {t : List UInt8} {n : Nat} (hn : n < 4611686018427387904) (ht : t.length < 9223372036854775808) : (∃ u k, rdU t 0 = some (u, k) ∧ zz u = (n : Int)) ↔ ((numV n).length ≤ t.length ∧ t.take (numV n).length = numV n) := by
  constructor
  · rintro ⟨u, k, h1, h2⟩
    obtain ⟨g1, g2, g3, g4, g5, g6, g7, g8, _⟩ := rdU_some (by omega) h1
    have hu : u = 2 * n := by
      unfold zz at h2
      split at h2 <;> omega
    have e : t.take k = numV n := by rw [g8, hu]; rfl
    have hl : (numV n).length = k := by rw [← e, List.length_take]; omega
    rw [hl]; exact ⟨g2, e⟩
  · rintro ⟨h1, h2⟩
    have hd : t.drop 0 = numV n ++ t.drop (numV n).length := by rw [List.drop_zero]; conv => lhs; rw [← List.take_append_drop (numV n).length t, h2]
    have h3 := f113_num (s := t) (p := 0) ht hn (by omega) hd
    rcases f113_eq (s := t) (p := 0) ht (by omega) with ⟨u, k, h4, h5⟩ | ⟨h4, e, h5, h6⟩
    · rw [h5] at h3
      simp only [Option.some.injEq, Prod.mk.injEq] at h3
      rw [List.drop_zero] at h4
      exact ⟨u, k, h4, h3.1⟩
    · rw [h6] at h3
      simp only [Option.some.injEq, Prod.mk.injEq] at h3
      exact absurd h3.2.2 h5

theorem rdU_len {t : List UInt8} {n u k : Nat} (hn : n < 4611686018427387904) (h : rdU t 0 = some (u, k)) (h2 : zz u = (n : Int)) : k = (numV n).length := by
  obtain ⟨g1, g2, g3, g4, g5, g6, g7, g8, _⟩ := rdU_some (by omega) h
  have hu : u = 2 * n := by
    unfold zz at h2
    split at h2 <;> omega
  have e : t.take k = numV n := by rw [g8, hu]; rfl
  rw [← e, List.length_take]; omega
end Go.Proofs.Ytlfemhkabjafeaa.M

/- Printed by own program: twins and walks. -/
set_option linter.unusedVariables false
set_option maxRecDepth 100000
namespace Go.Proofs.Ytlfemhkabjafeaa.M
open Go.Proofs (Try.prog Try.func10 Try.f10)

def f10_l0 (p0 : List K67.den) (r5 : ((Option Nat) × Int) × St) (x13 : Int) (σ14 : St) : Option (Int × St) :=
  if ((decide (x13 < (p0.length : Int))) && (decide (x13 < 10))) = true then
  (ix p0 x13) >>= fun x23 =>
  (if (decide ((x23.2.1.length : Int) < 3000)) = true then
  (ix p0 x13) >>= fun x27 =>
  (ix p0 x13) >>= fun x28 =>
  f41 r5.1.1 x27.1 x28.2.1 σ14 >>= fun r29 =>
  some r29.2
  else
  some σ14 : Option St) >>= fun z25 =>
  f10_l0 p0 r5 (IntKind.wrap .i64 (x13 + 1)) z25
  else
  some ((x13, σ14))
  partial_fixpoint

def f10_l1 (p1 : Int) (z30 : Int × St) (r33 : List Int) (x39 : Int) : Option (Sum Int (Bool × St)) :=
  if (decide (x39 < (r33.length : Int))) = true then
  (ix r33 x39) >>= fun x48 =>
  if (x48 == p1) = true then
  some (.inr (true, z30.2))
  else
  f10_l1 p1 z30 r33 (IntKind.wrap .i64 (x39 + 1))
  else
  some (.inl x39)
  partial_fixpoint

def f10 (p0 : List K67.den) (p1 : Int) (p2 : List UInt8) (σ : St) : Option (Bool × St) :=
  f18 100000 σ >>= fun r3 =>
  f38 r3.1.1 [97, 108, 108] r3.2 >>= fun r5 =>
  if (((r3.1.2 != 0) || (r5.1.2 != 0)) || r5.1.1.isNone) = true then
  some (false, r5.2)
  else
  f39 r5.2 >>= fun r9 =>
  if (!r9.1) = true then
  some (false, r9.2)
  else
  f10_l0 p0 r5 0 r9.2 >>= fun z30 =>
  f40 r5.1.1 z30.2 >>= fun r33 =>
  if (((decide (p1 < 0)) || (decide (p1 > 1099511627776))) || (decide ((p2.length : Int) > 3000))) = true then
  some (true, z30.2)
  else
  f10_l1 p1 z30 r33 0 >>= fun rr51 => (match rr51 with
  | .inr yy => some yy
  | .inl z50 =>
  f44 p2 >>= fun r53 =>
  f45 r53.1 0 >>= fun r55 =>
  f46 [97, 108, 108] p1 >>= fun r57 =>
  f24 r3.1.1 r57 p2 z30.2 >>= fun r58 =>
  if (((r53.2 == 0) && (r55.2.2 == 0)) && (r55.1 == p1)) = true then
  f40 r5.1.1 r58.2 >>= fun r62 =>
  some ((r62.length : Int) == (IntKind.wrap .i64 ((r33.length : Int) + 1)), r58.2)
  else
  f47 r5.1.1 p1 r58.2 >>= fun r64 =>
  f40 r5.1.1 r58.2 >>= fun r66 =>
  f42 r33 r66 >>= fun r67 =>
  some (r67 && (r64.2 == 8), r58.2))

theorem f10_ok {p0 : List K67.den} {p1 : Int} {p2 : List UInt8} {σ : St} {p : Bool × St} (h : f10 p0 p1 p2 σ = some p) : Spec Try.prog 10 [.kv (.list K67) p0, .kv .i p1, .kv .str p2] (tabs σ) (.kv .bool p.1) (tabs p.2) := by
  refine Spec.intro Try.func10 (by kernel_rfl) rfl (by kernel_rfl) (fun a w G0 Ls hE hH hN => ?_)
  have hle : G0.le G0 := Gh.le_refl G0
  unfold f10 at h
  refine wp_seq_k (fun K hK1 => ?_)
  refine wp_region_from ?_
  refine segO 1 [] [(6, .kv .bool false)] (Os := []) trivial hE hH (by kernel_rfl) (fun a hE => ?_)
  refine wpFrom_end (by kernel_rfl) ?_
  refine Exit.then_normal (hK1 _ _ ?_)
  refine wp_seq_k (fun K hK2 => ?_)
  refine wp_region_from ?_
  obtain ⟨r3, hr3, h⟩ := bs h
  refine stepCall (d := (some 22)) (f18_ok hr3) hE hH hN (by kernel_rfl) (by kernel_rfl) trivial (fun a w G hl1 hE hH => ?_)
  have hle := Gh.le_trans hle hl1
  refine segO 5 [] [(7, .kv (.ptr 105) r3.1.1), (8, .kv .i r3.1.2)] (Os := []) trivial hE hH (by kernel_rfl) (fun a hE => ?_)
  refine wpFrom_end (by kernel_rfl) ?_
  refine Exit.then_normal (hK2 _ _ ?_)
  refine wp_seq_k (fun K hK4 => ?_)
  refine wp_region_from ?_
  refine segO 1 [] [(26, .kv (.ptr 105) r3.1.1)] (Os := []) trivial hE hH (by kernel_rfl) (fun a hE => ?_)
  obtain ⟨r5, hr5, h⟩ := bs h
  refine stepCall (d := (some 27)) (f38_ok hr5) hE hH hN (by kernel_rfl) (by kernel_rfl) trivial (fun a w G hl2 hE hH => ?_)
  have hle := Gh.le_trans hle hl2
  refine segO 5 [] [(9, .kv (.ptr 116) r5.1.1), (10, .kv .i r5.1.2)] (Os := []) trivial hE hH (by kernel_rfl) (fun a hE => ?_)
  refine wpFrom_end (by kernel_rfl) ?_
  refine Exit.then_normal (hK4 _ _ ?_)
  refine wp_seq_k (fun K hK6 => ?_)
  refine wp_seq_k (fun K hK7 => ?_)
  refine wp_region_from ?_
  refine segO 11 [] [(40, .kv .bool (((r3.1.2 != 0) || (r5.1.2 != 0)) || r5.1.1.isNone))] (Os := []) trivial hE hH (by kernel_rfl) (fun a hE => ?_)
  by_cases hc : (((r3.1.2 != 0) || (r5.1.2 != 0)) || r5.1.1.isNone) = true
  · replace h := ifT hc h
    have hE := hE.setB 40 (by kernel_rfl) hc
    refine segO 3 [] [(43, .kv .bool true)] (Os := []) trivial hE hH (by kernel_rfl) (fun a hE => ?_)
    refine wpFrom_end (by kernel_rfl) ?_
    refine Exit.then_normal (hK7 _ _ ?_)
    refine condT hE (by kernel_rfl) rfl ?_
    refine wp_seq_k (fun K hK8 => ?_)
    refine wp_region_from ?_
    refine segO 1 [] [(6, .kv .bool false)] (Os := []) trivial hE hH (by kernel_rfl) (fun a hE => ?_)
    refine wpFrom_end (by kernel_rfl) ?_
    refine Exit.then_normal (hK8 _ _ ?_)
    refine wp_ret ?_
    refine Exit.then_ret ?_
    cases h
    exact ret1 rfl hE hle hH (by kernel_rfl)
  · replace h := ifN hc h
    have hE := hE.setB 40 (by kernel_rfl) (bf hc)
    obtain ⟨r9, hr9, h⟩ := bs h
    refine stepCall (d := (some 41)) (f39_ok hr9) hE hH hN (by kernel_rfl) (by kernel_rfl) trivial (fun a w G hl3 hE hH => ?_)
    have hle := Gh.le_trans hle hl3
    refine segO 2 [] [(43, .kv .bool (!r9.1))] (Os := []) trivial hE hH (by kernel_rfl) (fun a hE => ?_)
    refine wpFrom_end (by kernel_rfl) ?_
    refine Exit.then_normal (hK7 _ _ ?_)
    refine condE (b := !r9.1) hE (by kernel_rfl) (fun hc => ?_) (fun hc => ?_)
    · replace h := ifT hc h
      refine wp_seq_k (fun K hK10 => ?_)
      refine wp_region_from ?_
      refine segO 1 [] [(6, .kv .bool false)] (Os := []) trivial hE hH (by kernel_rfl) (fun a hE => ?_)
      refine wpFrom_end (by kernel_rfl) ?_
      refine Exit.then_normal (hK10 _ _ ?_)
      refine wp_ret ?_
      refine Exit.then_ret ?_
      cases h
      exact ret1 rfl hE hle hH (by kernel_rfl)
    · replace h := ifF hc h
      refine wp_skip ?_
      refine Exit.then_normal (hK6 _ _ ?_)
      refine wp_seq_k (fun K hK11 => ?_)
      refine wp_seq_k (fun K hK12 => ?_)
      refine wp_region_from ?_
      refine segO 1 [] [(11, .kv .i 0)] (Os := []) trivial hE hH (by kernel_rfl) (fun a hE => ?_)
      refine wpFrom_end (by kernel_rfl) ?_
      refine Exit.then_normal (hK12 _ _ ?_)
      refine wp_block ?_
      obtain ⟨z30, hz30, h⟩ := bs h
      refine loop_intro (fun Q15 c hQ hc => ?_)
      have key : ∀ (x13 : Int) (σ14 : St) (rr : Int × St), f10_l0 p0 r5 x13 σ14 = some rr → ∀ (a : Act) (w : World) (G : Gh), G0.le G → EnvR G 146 a [(0, .kv (.list K67) p0), (1, .kv .i p1), (2, .kv .str p2), (6, .kv .bool false), (7, .kv (.ptr 105) r3.1.1), (9, .kv (.ptr 116) r5.1.1), (11, .kv .i x13)] → Holds w G (tabs σ14) (Ls) → (∀ z31 : Int × St, rr = z31 → ∀ (a : Act) (w : World) (G : Gh), G0.le G → EnvR G 146 a [(0, .kv (.list K67) p0), (1, .kv .i p1), (2, .kv .str p2), (6, .kv .bool false), (7, .kv (.ptr 105) r3.1.1), (9, .kv (.ptr 116) r5.1.1), (11, .kv .i z31.1)] → Holds w G (tabs z31.2) (Ls) → Q15 (.exit 0) a w) → Rnd Try.prog c Q15 a w := by
        refine f10_l0.partial_correctness p0 r5 _ ?_
        intro self ih18 x13 σ14 rr h a w G  hle hE hH hx16
        refine rnd_step' hc ?_
        refine wp_seq_k (fun K hK19 => ?_)
        refine wp_seq_k (fun K hK20 => ?_)
        refine wp_region_from ?_
        refine segO 8 [] [(51, .kv .bool ((decide (x13 < (p0.length : Int))) && (decide (x13 < 10))))] (Os := []) trivial hE hH (by kernel_rfl) (fun a hE => ?_)
        refine wpFrom_end (by kernel_rfl) ?_
        refine Exit.then_normal (hK20 _ _ ?_)
        refine condE (b := (decide (x13 < (p0.length : Int))) && (decide (x13 < 10))) hE (by kernel_rfl) (fun hc => ?_) (fun hc => ?_)
        · replace h := ifT hc h
          refine wp_skip ?_
          refine Exit.then_normal (hK19 _ _ ?_)
          refine wp_seq_k (fun K hK21 => ?_)
          refine wp_block ?_
          refine wp_seq_k (fun K hK22 => ?_)
          refine wp_region_from ?_
          obtain ⟨x23, hx23, h⟩ := bs h
          refine segO 7 [.ix K67 x23] [(60, .kv .bool (decide ((x23.2.1.length : Int) < 3000)))] (Os := [_]) ⟨(IxAt.of (k := K67) hx23), trivial⟩ hE hH (by kernel_rfl) (fun a hE => ?_)
          refine wpFrom_end (by kernel_rfl) ?_
          refine Exit.then_normal (hK22 _ _ ?_)
          obtain ⟨z25, hz25, h⟩ := bs h
          refine join_intro (I := fun a w => ∃ (G : Gh), G0.le G ∧ EnvR G 146 a [(0, .kv (.list K67) p0), (1, .kv .i p1), (2, .kv .str p2), (6, .kv .bool false), (7, .kv (.ptr 105) r3.1.1), (9, .kv (.ptr 116) r5.1.1), (11, .kv .i x13)] ∧ Holds w G (tabs z25) (Ls)) trivial ?_ ?_
          · intro a w hI
            obtain ⟨G, hle, hE, hH⟩ := hI
            refine Exit.in_normal ?_
            refine Exit.then_normal (hK21 _ _ ?_)
            refine wp_region_from ?_
            refine segO 3 [] [(11, .kv .i (IntKind.wrap .i64 (x13 + 1)))] (Os := []) trivial hE hH (by kernel_rfl) (fun a hE => ?_)
            refine wpFrom_end (by kernel_rfl) ?_
            refine Exit.then_normal ?_
            exact ih18 _ _ _ h _ _ _  hle (hE.subC (by kernel_rfl)) hH hx16
          · intro KK hKK ho
            have hj26 : ∀ (a : Act) (w : World) (G : Gh), G0.le G → EnvR G 146 a [(0, .kv (.list K67) p0), (1, .kv .i p1), (2, .kv .str p2), (6, .kv .bool false), (7, .kv (.ptr 105) r3.1.1), (9, .kv (.ptr 116) r5.1.1), (11, .kv .i x13)] → Holds w G (tabs z25) (Ls) → KK .normal a w := fun a w G  h1 h2 h3 => hKK a w ⟨G, h1, h2, h3⟩
            replace h := hz25
            refine condE (b := decide ((x23.2.1.length : Int) < 3000)) hE (by kernel_rfl) (fun hc => ?_) (fun hc => ?_)
            · replace h := ifT hc h
              obtain ⟨x27, hx27, h⟩ := bs h
              obtain ⟨x28, hx28, h⟩ := bs h
              refine region_par 11 [] [(0, 0), (0, 0), (0, 0), (0, 0), (0, 0), (0, 0), (0, 0), (0, 0), (0, 0), (0, 0), (0, 0)] [.kv (.ptr 116) r5.1.1, .kv (.list K67) p0, .kv .i x13, .elA K67 x27 0, .elA K67 x27 0, .kv .i x27.1, .kv (.list K67) p0, .kv .i x13, .elA K67 x28 0, .elA K67 x28 1, .kv .str x28.2.1] (fun _ => tabs σ14) (fun _ => Ls) (by kernel_rfl) (by kernel_rfl) hE hH
                      ⟨⟨⟨⟨⟨⟨⟨⟨⟨⟨⟨trivial,
                      anyk (fun k => obR [] (Os := []) trivial (by kernel_rfl) (by kernel_rfl))⟩,
                      anyk (fun k => obR [] (Os := []) trivial (by kernel_rfl) (by kernel_rfl))⟩,
                      anyk (fun k => obR [] (Os := []) trivial (by kernel_rfl) (by kernel_rfl))⟩,
                      anyk (fun k => obR [.ix K67 x27] (Os := [_]) ⟨(IxAt.of (k := K67) hx27), trivial⟩ (by kernel_rfl) (by kernel_rfl))⟩,
                      anyk (fun k => obR [] (Os := []) trivial (by kernel_rfl) (by kernel_rfl))⟩,
                      anyk (fun k => obR [] (Os := []) trivial (by kernel_rfl) (by kernel_rfl))⟩,
                      anyk (fun k => obR [] (Os := []) trivial (by kernel_rfl) (by kernel_rfl))⟩,
                      anyk (fun k => obR [] (Os := []) trivial (by kernel_rfl) (by kernel_rfl))⟩,
                      anyk (fun k => obR [.ix K67 x28] (Os := [_]) ⟨(IxAt.of (k := K67) hx28), trivial⟩ (by kernel_rfl) (by kernel_rfl))⟩,
                      anyk (fun k => obR [] (Os := []) trivial (by kernel_rfl) (by kernel_rfl))⟩,
                      anyk (fun k => obR [] (Os := []) trivial (by kernel_rfl) (by kernel_rfl))⟩ (fun a w G hl5 hE hH => ?_)
              have hle := Gh.le_trans hle hl5
              obtain ⟨r29, hr29, h⟩ := bs h
              refine stepCall (d := (some 72)) (f41_ok hr29) hE hH hN (by kernel_rfl) (by kernel_rfl) trivial (fun a w G hl6 hE hH => ?_)
              have hle := Gh.le_trans hle hl6
              refine wpFrom_end (by kernel_rfl) ?_
              cases h
              exact hj26 _ _ _  hle (hE.subC (by kernel_rfl)) hH
            · replace h := ifF hc h
              refine wp_skip ?_
              cases h
              exact hj26 _ _ _  hle (hE.subC (by kernel_rfl)) hH
        · replace h := ifF hc h
          refine wp_exit ?_
          refine Exit.then_exit ?_
          refine Exit.then_exit ?_
          cases h
          exact hx16 _ rfl _ _ _  hle (hE.subC (by kernel_rfl)) hH
      refine key _ _ _ hz30 _ _ _  hle (hE.subC (by kernel_rfl)) hH ?_
      · intro z31 hz a w G  hle hE hH
        subst hz
        rw [hQ]
        refine Exit.in_eq ?_
        refine Exit.then_normal (hK11 _ _ ?_)
        refine wp_seq_k (fun K hK32 => ?_)
        refine wp_region_from ?_
        refine segO 1 [] [(73, .kv (.ptr 116) r5.1.1)] (Os := []) trivial hE hH (by kernel_rfl) (fun a hE => ?_)
        obtain ⟨r33, hr33, h⟩ := bs h
        refine stepCall (d := (some 74)) (f40_ok hr33) hE hH hN (by kernel_rfl) (by kernel_rfl) trivial (fun a w G hl7 hE hH => ?_)
        have hle := Gh.le_trans hle hl7
        refine segO 1 [] [(12, .kv (.list .i) r33)] (Os := []) trivial hE hH (by kernel_rfl) (fun a hE => ?_)
        refine wpFrom_end (by kernel_rfl) ?_
        refine Exit.then_normal (hK32 _ _ ?_)
        refine wp_seq_k (fun K hK34 => ?_)
        refine wp_seq_k (fun K hK35 => ?_)
        refine wp_region_from ?_
        refine segO 11 [] [(85, .kv .bool (((decide (p1 < 0)) || (decide (p1 > 1099511627776))) || (decide ((p2.length : Int) > 3000))))] (Os := []) trivial hE hH (by kernel_rfl) (fun a hE => ?_)
        refine wpFrom_end (by kernel_rfl) ?_
        refine Exit.then_normal (hK35 _ _ ?_)
        refine condE (b := ((decide (p1 < 0)) || (decide (p1 > 1099511627776))) || (decide ((p2.length : Int) > 3000))) hE (by kernel_rfl) (fun hc => ?_) (fun hc => ?_)
        · replace h := ifT hc h
          refine wp_seq_k (fun K hK36 => ?_)
          refine wp_region_from ?_
          refine segO 1 [] [(6, .kv .bool true)] (Os := []) trivial hE hH (by kernel_rfl) (fun a hE => ?_)
          refine wpFrom_end (by kernel_rfl) ?_
          refine Exit.then_normal (hK36 _ _ ?_)
          refine wp_ret ?_
          refine Exit.then_ret ?_
          cases h
          exact ret1 rfl hE hle hH (by kernel_rfl)
        · replace h := ifF hc h
          refine wp_skip ?_
          refine Exit.then_normal (hK34 _ _ ?_)
          refine wp_seq_k (fun K hK37 => ?_)
          refine wp_seq_k (fun K hK38 => ?_)
          refine wp_region_from ?_
          refine segO 1 [] [(13, .kv .i 0)] (Os := []) trivial hE hH (by kernel_rfl) (fun a hE => ?_)
          refine wpFrom_end (by kernel_rfl) ?_
          refine Exit.then_normal (hK38 _ _ ?_)
          refine wp_block ?_
          obtain ⟨rr51, hrr51, h⟩ := bs h
          refine loop_intro (fun Q40 c hQ hc => ?_)
          have key : ∀ (x39 : Int) (rr : Sum Int (Bool × St)), f10_l1 p1 z30 r33 x39 = some rr → ∀ (a : Act) (w : World) (G : Gh), G0.le G → EnvR G 146 a [(1, .kv .i p1), (2, .kv .str p2), (6, .kv .bool false), (7, .kv (.ptr 105) r3.1.1), (9, .kv (.ptr 116) r5.1.1), (12, .kv (.list .i) r33), (13, .kv .i x39)] → Holds w G (tabs z30.2) (Ls) → (∀ z50 : Int, rr = .inl z50 → ∀ (a : Act) (w : World) (G : Gh), G0.le G → EnvR G 146 a [(1, .kv .i p1), (2, .kv .str p2), (6, .kv .bool false), (7, .kv (.ptr 105) r3.1.1), (9, .kv (.ptr 116) r5.1.1), (12, .kv (.list .i) r33), (13, .kv .i z50)] → Holds w G (tabs z30.2) (Ls) → Q40 (.exit 2) a w) → (∀ yy : Bool × St, rr = .inr yy → ∀ (a : Act) (w : World), PostB Try.prog Try.f10 G0 (.kv .bool yy.1) (tabs yy.2) Ls .ret a w → Q40 .ret a w) → Rnd Try.prog c Q40 a w := by
            refine f10_l1.partial_correctness p1 z30 r33 _ ?_
            intro self ih43 x39 rr h a w G  hle hE hH hx41 hret42
            refine rnd_step' hc ?_
            refine wp_seq_k (fun K hK44 => ?_)
            refine wp_seq_k (fun K hK45 => ?_)
            refine wp_region_from ?_
            refine segO 4 [] [(89, .kv .bool (decide (x39 < (r33.length : Int))))] (Os := []) trivial hE hH (by kernel_rfl) (fun a hE => ?_)
            refine wpFrom_end (by kernel_rfl) ?_
            refine Exit.then_normal (hK45 _ _ ?_)
            refine condE (b := decide (x39 < (r33.length : Int))) hE (by kernel_rfl) (fun hc => ?_) (fun hc => ?_)
            · replace h := ifT hc h
              refine wp_skip ?_
              refine Exit.then_normal (hK44 _ _ ?_)
              refine wp_seq_k (fun K hK46 => ?_)
              refine wp_block ?_
              refine wp_seq_k (fun K hK47 => ?_)
              refine wp_region_from ?_
              obtain ⟨x48, hx48, h⟩ := bs h
              refine segO 6 [.ix .i x48] [(97, .kv .bool (x48 == p1))] (Os := [_]) ⟨(IxAt.of (k := .i) hx48), trivial⟩ hE hH (by kernel_rfl) (fun a hE => ?_)
              refine wpFrom_end (by kernel_rfl) ?_
              refine Exit.then_normal (hK47 _ _ ?_)
              refine condE (b := x48 == p1) hE (by kernel_rfl) (fun hc => ?_) (fun hc => ?_)
              · replace h := ifT hc h
                refine wp_seq_k (fun K hK49 => ?_)
                refine wp_region_from ?_
                refine segO 1 [] [(6, .kv .bool true)] (Os := []) trivial hE hH (by kernel_rfl) (fun a hE => ?_)
                refine wpFrom_end (by kernel_rfl) ?_
                refine Exit.then_normal (hK49 _ _ ?_)
                refine wp_ret ?_
                refine Exit.in_ret ?_
                refine Exit.then_ret ?_
                refine Exit.then_ret ?_
                cases h
                exact hret42 _ rfl _ _ (ret1 rfl hE hle hH (by kernel_rfl))
              · replace h := ifF hc h
                refine wp_skip ?_
                refine Exit.in_normal ?_
                refine Exit.then_normal (hK46 _ _ ?_)
                refine wp_region_from ?_
                refine segO 3 [] [(13, .kv .i (IntKind.wrap .i64 (x39 + 1)))] (Os := []) trivial hE hH (by kernel_rfl) (fun a hE => ?_)
                refine wpFrom_end (by kernel_rfl) ?_
                refine Exit.then_normal ?_
                exact ih43 _ _ h _ _ _  hle (hE.subC (by kernel_rfl)) hH hx41 hret42
            · replace h := ifF hc h
              refine wp_exit ?_
              refine Exit.then_exit ?_
              refine Exit.then_exit ?_
              cases h
              exact hx41 _ rfl _ _ _  hle (hE.subC (by kernel_rfl)) hH
          refine key _ _ hrr51 _ _ _  hle (hE.subC (by kernel_rfl)) hH ?_ ?_
          · intro z50 hz a w G  hle hE hH
            subst hz
            rw [hQ]
            dsimp only at h
            refine Exit.in_eq ?_
            refine Exit.then_normal (hK37 _ _ ?_)
            refine wp_seq_k (fun K hK52 => ?_)
            refine wp_region_from ?_
            refine segO 1 [] [(99, .kv .str p2)] (Os := []) trivial hE hH (by kernel_rfl) (fun a hE => ?_)
            obtain ⟨r53, hr53, h⟩ := bs h
            refine stepCall (d := (some 100)) (f44_ok hr53) hE hH hN (by kernel_rfl) (by kernel_rfl) trivial (fun a w G hl8 hE hH => ?_)
            have hle := Gh.le_trans hle hl8
            refine segO 5 [] [(14, .kv .str r53.1), (15, .kv .i r53.2)] (Os := []) trivial hE hH (by kernel_rfl) (fun a hE => ?_)
            refine wpFrom_end (by kernel_rfl) ?_
            refine Exit.then_normal (hK52 _ _ ?_)
            refine wp_seq_k (fun K hK54 => ?_)
            refine wp_region_from ?_
            refine segO 1 [] [(104, .kv .str r53.1)] (Os := []) trivial hE hH (by kernel_rfl) (fun a hE => ?_)
            obtain ⟨r55, hr55, h⟩ := bs h
            refine stepCall (d := (some 105)) (f45_ok hr55) hE hH hN (by kernel_rfl) (by kernel_rfl) trivial (fun a w G hl9 hE hH => ?_)
            have hle := Gh.le_trans hle hl9
            refine segO 7 [] [(16, .kv .i r55.1), (18, .kv .i r55.2.2)] (Os := []) trivial hE hH (by kernel_rfl) (fun a hE => ?_)
            refine wpFrom_end (by kernel_rfl) ?_
            refine Exit.then_normal (hK54 _ _ ?_)
            refine wp_seq_k (fun K hK56 => ?_)
            refine wp_region_from ?_
            refine segO 2 [] [(109, .kv (.ptr 105) r3.1.1), (110, .kv .i p1)] (Os := []) trivial hE hH (by kernel_rfl) (fun a hE => ?_)
            obtain ⟨r57, hr57, h⟩ := bs h
            refine stepCall (d := (some 111)) (f46_ok hr57) hE hH hN (by kernel_rfl) (by kernel_rfl) trivial (fun a w G hl10 hE hH => ?_)
            have hle := Gh.le_trans hle hl10
            refine segO 1 [] [(112, .kv .str p2)] (Os := []) trivial hE hH (by kernel_rfl) (fun a hE => ?_)
            obtain ⟨r58, hr58, h⟩ := bs h
            refine stepCall (d := (some 113)) (f24_ok hr58) hE hH hN (by kernel_rfl) (by kernel_rfl) trivial (fun a w G hl11 hE hH => ?_)
            have hle := Gh.le_trans hle hl11
            refine wpFrom_end (by kernel_rfl) ?_
            refine Exit.then_normal (hK56 _ _ ?_)
            refine wp_seq_k (fun K hK59 => ?_)
            refine wp_seq_k (fun K hK60 => ?_)
            refine wp_region_from ?_
            refine segO 11 [] [(124, .kv .bool (((r53.2 == 0) && (r55.2.2 == 0)) && (r55.1 == p1)))] (Os := []) trivial hE hH (by kernel_rfl) (fun a hE => ?_)
            refine wpFrom_end (by kernel_rfl) ?_
            refine Exit.then_normal (hK60 _ _ ?_)
            refine condE (b := ((r53.2 == 0) && (r55.2.2 == 0)) && (r55.1 == p1)) hE (by kernel_rfl) (fun hc => ?_) (fun hc => ?_)
            · replace h := ifT hc h
              refine wp_seq_k (fun K hK61 => ?_)
              refine wp_region_from ?_
              refine segO 1 [] [(125, .kv (.ptr 116) r5.1.1)] (Os := []) trivial hE hH (by kernel_rfl) (fun a hE => ?_)
              obtain ⟨r62, hr62, h⟩ := bs h
              refine stepCall (d := (some 126)) (f40_ok hr62) hE hH hN (by kernel_rfl) (by kernel_rfl) trivial (fun a w G hl12 hE hH => ?_)
              have hle := Gh.le_trans hle hl12
              refine segO 6 [] [(6, .kv .bool ((r62.length : Int) == (IntKind.wrap .i64 ((r33.length : Int) + 1))))] (Os := []) trivial hE hH (by kernel_rfl) (fun a hE => ?_)
              refine wpFrom_end (by kernel_rfl) ?_
              refine Exit.then_normal (hK61 _ _ ?_)
              refine wp_ret ?_
              refine Exit.then_ret ?_
              cases h
              exact ret1 rfl hE hle hH (by kernel_rfl)
            · replace h := ifF hc h
              refine wp_skip ?_
              refine Exit.then_normal (hK59 _ _ ?_)
              refine wp_seq_k (fun K hK63 => ?_)
              refine wp_region_from ?_
              refine segO 2 [] [(133, .kv (.ptr 116) r5.1.1), (134, .kv .i p1)] (Os := []) trivial hE hH (by kernel_rfl) (fun a hE => ?_)
              obtain ⟨r64, hr64, h⟩ := bs h
              refine stepCall (d := (some 135)) (f47_ok hr64) hE hH hN (by kernel_rfl) (by kernel_rfl) trivial (fun a w G hl13 hE hH => ?_)
              have hle := Gh.le_trans hle hl13
              refine segO 5 [] [(20, .kv .i r64.2)] (Os := []) trivial hE hH (by kernel_rfl) (fun a hE => ?_)
              refine wpFrom_end (by kernel_rfl) ?_
              refine Exit.then_normal (hK63 _ _ ?_)
              refine wp_seq_k (fun K hK65 => ?_)
              refine wp_region_from ?_
              refine segO 2 [] [(138, .kv (.list .i) r33), (139, .kv (.ptr 116) r5.1.1)] (Os := []) trivial hE hH (by kernel_rfl) (fun a hE => ?_)
              obtain ⟨r66, hr66, h⟩ := bs h
              refine stepCall (d := (some 140)) (f40_ok hr66) hE hH hN (by kernel_rfl) (by kernel_rfl) trivial (fun a w G hl14 hE hH => ?_)
              have hle := Gh.le_trans hle hl14
              obtain ⟨r67, hr67, h⟩ := bs h
              refine stepCall (d := (some 141)) (f42_ok hr67) hE hH hN (by kernel_rfl) (by kernel_rfl) trivial (fun a w G hl15 hE hH => ?_)
              have hle := Gh.le_trans hle hl15
              refine segO 5 [] [(6, .kv .bool (r67 && (r64.2 == 8)))] (Os := []) trivial hE hH (by kernel_rfl) (fun a hE => ?_)
              refine wpFrom_end (by kernel_rfl) ?_
              refine Exit.then_normal (hK65 _ _ ?_)
              refine wp_ret ?_
              cases h
              exact ret1 rfl hE hle hH (by kernel_rfl)
          · intro yy hz a w hp
            subst hz
            dsimp only at h
            cases h
            rw [hQ]
            refine Exit.in_ret ?_
            refine Exit.then_ret ?_
            exact hp
end Go.Proofs.Ytlfemhkabjafeaa.M

/- Plain law of the keeper: SnapForeign. -/
set_option linter.unusedVariables false
set_option linter.unusedSimpArgs false
namespace Go.Proofs.Ytlfemhkabjafeaa.M

theorem f93_eq : ∀ (n : Nat), n < 9223372036854775808 → f93 (n : Int) = some (dig n) := by
  intro n
  induction n using Nat.strongRecOn with
  | ind n ih =>
    intro hn
    rw [f93]
    by_cases h : n < 10
    · have h1 : ((n : Int) < 10) := by omega
      rw [if_pos (by simpa using h1), dig_small h, wrap_id (by omega) (by omega), wrap8_id (by omega) (by omega)]
      simp only [bytesS, List.map_cons, List.map_nil, dgt]
      congr 3
    · have h1 : ¬ ((n : Int) < 10) := by omega
      rw [if_neg (by simpa using h1)]
      have e1 : Int.tdiv (n : Int) 10 = ((n / 10 : Nat) : Int) := by
        rw [Int.tdiv_eq_ediv_of_nonneg (by omega)]; omega
      have e2 : Int.tmod (n : Int) 10 = ((n % 10 : Nat) : Int) := by
        rw [Int.tmod_eq_emod_of_nonneg (by omega)]; omega
      rw [e1, e2, wrap_id (x := ((n / 10 : Nat) : Int)) (by omega) (by omega), ih _ (by omega) (by omega), wrap_id (by omega) (by omega), wrap8_id (by omega) (by omega)]
      have e3 : bytesS [(48 + ((n % 10 : Nat) : Int))] = [dgt (n % 10)] := by
        simp only [bytesS, List.map_cons, List.map_nil, dgt]
        congr 2
      have hl := dig_len 18 (n / 10) (by omega)
      simp only [Option.bind_eq_bind, Option.bind_some, e3]
      rw [if_pos (by simp only [List.length_cons, List.length_nil]; omega), dig_big h]

theorem f46_eq {n : Nat} (hn : n ≤ 1099511627776) : f46 nmA (n : Int) = some (fileN n) := by
  have hl := dig_len13 hn
  unfold f46
  rw [if_pos (by decide), f93_eq n (by omega)]
  simp only [Option.bind_eq_bind, Option.bind_some]
  rw [if_pos (by simp; omega)]
  rfl

theorem numB_numV {n : Nat} (hn : n < 9223372036854775808) : numB n = numV n := by
  unfold numB; rw [f90_numV hn]; rfl

section
variable {σ : St} {k d n0 m : Nat} {A : AD} {ps : List SP} {junk : List FR}

/-- What Save makes of a keeper whose disk is not armed. -/
theorem save_small (hk : KS σ k d n0 3000 A ps []) (hd : downA A = false) (h0 : armA0 A = 0) (hr : A.1 = 100000) (h2 : ps.length ≤ 2) (a : Int) {s : List UInt8} (hs : s.length ≤ 3000) :
    ∃ e σ' B ps', f41 (some k) a s σ = some (e, σ') ∧ KS σ' k d n0 3000 B ps' [] ∧ downA B = false ∧ armA0 B = 0 ∧ B.1 = 100000 ∧ ps'.length ≤ 2 := by
  by_cases c4 : a < 0
  · exact ⟨_, σ, A, ps, f41_range (.inl c4), hk, hd, h0, hr, h2⟩
  by_cases c5 : 1099511627776 < a
  · exact ⟨_, σ, A, ps, f41_range (.inr c5), hk, hd, h0, hr, h2⟩
  obtain ⟨q, hq⟩ : ∃ q : Nat, a = (q : Int) := ⟨a.toNat, by omega⟩
  have hq2 : q ≤ 1099511627776 := by omega
  by_cases c6 : a ≤ lastNum ps
  · obtain ⟨p, hp, hle⟩ := lastNum_mem (ps := ps) (n := q) (by omega)
    exact ⟨9, σ, A, ps, by rw [hq]; exact f41_old hk hd hq2 hp hle, hk, hd, h0, hr, h2⟩
  · obtain ⟨σ', B, g, r, ra, v, dn, ks⟩ := save0 hk hd h0 (q := q) (s := s) hq2 hs h2 (by rw [hr]; decide) (by decide) (lastNum_le hk.kl.rise (by omega))
    have hl1 := lastOf_len ps
    exact ⟨0, σ', B, _, by rw [hq]; exact g, ks, dn, v, ra.trans hr, by rw [List.length_append]; simp only [List.length_cons, List.length_nil]; omega⟩

theorem f10_loop {l : List K67.den} {r5 : ((Option Nat) × Int) × St} (h5 : r5.1.1 = some k) : ∀ (j n : Nat) (σ : St) (A : AD) (ps : List SP), n + j = 10 → KS σ k d n0 3000 A ps [] → downA A = false → armA0 A = 0 → A.1 = 100000 → ps.length ≤ 2 →
    ∃ i σ' B ps', f10_l0 l r5 (n : Int) σ = some (i, σ') ∧ KS σ' k d n0 3000 B ps' [] ∧ downA B = false ∧ armA0 B = 0 ∧ B.1 = 100000 ∧ ps'.length ≤ 2
  | 0, n, σ, A, ps, hn, hk, hd, h0, hr, h2 => by
    rw [f10_l0]
    have : n = 10 := by omega
    subst this
    exact ⟨((10 : Nat) : Int), σ, A, ps, by simp, hk, hd, h0, hr, h2⟩
  | j + 1, n, σ, A, ps, hn, hk, hd, h0, hr, h2 => by
    rw [f10_l0]
    have c2 : ((n : Int) < 10) := by omega
    have hw : IntKind.wrap .i64 ((n : Int) + 1) = ((n + 1 : Nat) : Int) := by rw [wrap_id (by omega) (by omega)]; omega
    by_cases hl : n < l.length
    case neg =>
      have h1 : ¬ ((n : Int) < (l.length : Int)) := by omega
      exact ⟨(n : Int), σ, A, ps, by simp [h1], hk, hd, h0, hr, h2⟩
    have h1 : ((n : Int) < (l.length : Int)) := by omega
    obtain ⟨a, s, hx⟩ : ∃ (a : Int) (s : List UInt8), l[n] = (a, s, ()) := ⟨l[n].1, l[n].2.1, rfl⟩
    have hcnd : (decide ((n : Int) < (l.length : Int)) && decide ((n : Int) < 10)) = true := by rw [decide_eq_true h1, decide_eq_true c2]; rfl
    rw [if_pos hcnd, ix_at hl, hx, hw, h5]
    simp only [Option.bind_eq_bind, Option.bind_some]
    by_cases c3 : s.length < 3000
    · obtain ⟨e, σ', B, ps', g, g2, g3, g4, g5, g6⟩ := save_small hk hd h0 hr h2 a (s := s) (by omega)
      rw [if_pos (by simp; omega), g]
      simp only [Option.bind_some]
      exact f10_loop h5 j (n + 1) σ' B ps' (by omega) g2 g3 g4 g5 g6
    · rw [if_neg (by simp; omega)]
      simp only [Option.bind_some]
      exact f10_loop h5 j (n + 1) σ A ps (by omega) hk hd h0 hr h2

theorem f10_find {p1 : Int} {z30 : Int × St} (l : List Int) (hl : l.length < 9223372036854775808) : ∀ (j n : Nat), n + j = l.length → (f10_l1 p1 z30 l (n : Int) = some (.inr (true, z30.2))) ∨ (p1 ∉ l.drop n ∧ ∃ z, f10_l1 p1 z30 l (n : Int) = some (.inl z))
  | 0, n, h => by
    rw [f10_l1]
    have : n = l.length := by omega
    subst this
    exact .inr ⟨by simp, _, by simp; rfl⟩
  | j + 1, n, h => by
    rw [f10_l1]
    have hn : n < l.length := by omega
    have hw : IntKind.wrap .i64 ((n : Int) + 1) = ((n + 1 : Nat) : Int) := by rw [wrap_id (by omega) (by omega)]; omega
    have h1 : ((n : Int) < (l.length : Int)) := by omega
    have hd : l.drop n = l[n] :: l.drop (n + 1) := by simp
    simp only [h1, decide_true, if_true, ix_at hn, Option.bind_eq_bind, Option.bind_some, hw]
    by_cases c : l[n] = p1
    · exact .inl (by rw [if_pos (by simpa using c)])
    · rw [if_neg (by simpa using c), hd]
      rcases f10_find (p1 := p1) (z30 := z30) l hl j (n + 1) (by omega) with g | ⟨g, z, g2⟩
      · exact .inl g
      · exact .inr ⟨by rw [List.mem_cons, not_or]; exact ⟨fun e => c e.symm, g⟩, z, g2⟩

/-- What lies on the disk when bytes have been put under a number that no state has. -/
theorem foreign_put (hk : KS σ k d n0 3000 A ps []) (hd : downA A = false) (h0 : armA0 A = 0) (hr : A.1 = 100000) (h2 : ps.length ≤ 2) {n : Nat} (hn : n ≤ 1099511627776) (hp : ∀ p ∈ ps, p.1 ≠ n) {b : List UInt8} (hb : b.length ≤ 3000) :
    ∃ e σ' B, f24 (some d) (fileN n) b σ = some (e, σ') ∧ KP σ' k d ∧ DV σ' d n0 B ∧ OkA B ∧ downA B = false ∧ B.2.1 = setL (fileN n, [], b, ()) false A.2.1 := by
  have hfl := fileN_len hn
  obtain ⟨σ', g1, g2, g3⟩ := f24_eq hk.dv hk.ok (fileN n) b (by omega)
  have hf := hk.kl.findNo hp
  have hu := hk.kl.used
  have hl := hk.kl.len
  have hc : ¬ full A (fileN n) b := by
    have e1 : fsize (emptyF (fileN n)) = 0 := rfl
    have e2 : usedL ([] : List FR) = 0 := rfl
    have e3 : ([] : List FR).length = 0 := rfl
    rw [e2] at hu
    rw [e3] at hl
    have h3 : ps.length * (3000 + 14) ≤ 2 * (3000 + 14) := Nat.mul_le_mul_right _ h2
    simp only [full, hf, Option.getD_none, e1, not_or, not_and]
    exact ⟨fun _ => by omega, by omega, by omega⟩
  have hB := hk.ok.appended hc
  rw [hf] at hB
  have e0 : appendA A (fileN n) b = writeA (putA A (setL (moreF (emptyF (fileN n)) b) false A.2.1)) id := by
    unfold appendA
    rw [if_neg (by rw [show A.2.2.2.1 = false from hd]; decide), if_neg (by rw [okName_file hn]; decide), if_neg hc, hf]
    rfl
  obtain ⟨B, b1, b2, b3, b4, ⟨b5, b6⟩ | ⟨b5, b6, b7⟩⟩ := write_cases (A := putA A (setL (moreF (emptyF (fileN n)) b) false A.2.1)) hB hd id
  · rw [e0, b6] at g1 g2
    exact ⟨0, σ', B, g1, hk.kp.fr g3, g2, b3, b5, b2⟩
  · exact absurd h0 b6

section
variable {n : Nat} {b : List UInt8} {B : AD}

theorem foreign_perm (hk : KS σ k d n0 3000 A ps []) (hp : ∀ p ∈ ps, p.1 ≠ n) (hB : B.2.1 = setL (fileN n, [], b, ()) false A.2.1) : B.2.1.Perm ((fileN n, [], b, ()) :: ps.map mkF) := by
  rw [hB]
  refine (setL_perm _ _).trans ?_
  rw [dropL_none (hk.kl.findNo hp)]
  have := hk.kl.perm
  rw [List.append_nil] at this
  exact List.Perm.cons _ this

theorem foreign_st (hk : KS σ k d n0 3000 A ps []) (hd : downA A = false) (hdB : downA B = false) (hp : ∀ p ∈ ps, p.1 ≠ n) (hB : B.2.1 = setL (fileN n, [], b, ()) false A.2.1) :
    stA B n = stateF n b ∧ ∀ p ∈ ps, stA B p.1 = some p.2 := by
  have hs := hk.ok.sorted
  refine ⟨?_, fun p hpp => ?_⟩
  · have e0 : readA B (fileN n) = (b, 0) := by
      unfold readA
      rw [if_neg (by rw [show B.2.2.2.1 = false from hdB]; decide), hB, findL_set hs, if_pos rfl]
      simp
    unfold stA
    rw [e0, if_neg (by simp)]
  · have h1 := hk.kl.st hs hd hpp
    have e0 : readA B (fileN p.1) = readA A (fileN p.1) := by
      unfold readA
      rw [if_neg (by rw [show B.2.2.2.1 = false from hdB]; decide), if_neg (by rw [show A.2.2.2.1 = false from hd]; decide), hB, findL_set hs, if_neg (fun e => hp p hpp (fileN_inj e).symm)]
    unfold stA at h1 ⊢
    rw [e0]; exact h1

theorem foreign_all (hk : KS σ k d n0 3000 A ps []) (hd : downA A = false) (hdB : downA B = false) (hn : n ≤ 1099511627776) (hp : ∀ p ∈ ps, p.1 ≠ n) (hB : B.2.1 = setL (fileN n, [], b, ()) false A.2.1) :
    (stateF n b = none → allA B = nums ps) ∧ ((stateF n b).isSome = true → (allA B).length = ps.length + 1) := by
  obtain ⟨s1, s2⟩ := foreign_st hk hd hdB hp hB
  have hpm := foreign_perm hk hp hB
  have hmap : ∀ l : List SP, (∀ p ∈ l, p ∈ ps) → (l.map ((·.1) ∘ mkF)).filterMap (numOf B) = l.map (·.1) := by
    intro l
    induction l with
    | nil => intro _; rfl
    | cons q r ih =>
      intro hq
      have hq1 := hq q List.mem_cons_self
      rw [List.map_cons, List.filterMap_cons, List.map_cons, ih (fun p hp => hq p (List.mem_cons_of_mem _ hp))]
      have : numOf B (((·.1) ∘ mkF) q) = some q.1 := by
        show numOf B (fileN q.1) = some q.1
        unfold numOf
        rw [nameNo_file (hk.kl.each q hq1).1]
        simp [s2 q hq1]
      rw [this]
  have h1 : ((B.2.1.map (·.1)).filterMap (numOf B)).Perm ((((fileN n, [], b, ()) :: ps.map mkF).map (·.1)).filterMap (numOf B)) := (hpm.map _).filterMap _
  have e2 : (((fileN n, ([] : List UInt8), b, ()) :: ps.map mkF).map (·.1)).filterMap (numOf B) = (match numOf B (fileN n) with | some v => [v] | none => []) ++ ps.map (·.1) := by
    rw [List.map_cons, List.map_map, List.filterMap_cons, hmap ps (fun p hp => hp)]
    cases numOf B (fileN n) <;> rfl
  rw [e2] at h1
  have en : numOf B (fileN n) = if (stateF n b).isSome then some n else none := by
    unfold numOf
    rw [nameNo_file hn]
    simp [s1]
  have h3 := h1.map Int.ofNat
  unfold allA
  rw [if_neg (by rw [show B.2.2.2.1 = false from hdB]; decide)]
  constructor
  · intro hnone
    rw [en, hnone] at h3
    simp only [Option.isSome_none, Bool.false_eq_true, if_false, List.nil_append, List.map_map] at h3
    refine sortedI_eq h3 ?_
    unfold nums
    rw [List.pairwise_map]
    exact hk.kl.rise.imp (fun h => by omega)
  · intro hsome
    have hl : (sortedI (((B.2.1.map (·.1)).filterMap (numOf B)).map Int.ofNat)).length = (((B.2.1.map (·.1)).filterMap (numOf B)).map Int.ofNat).length := by
      unfold sortedI; exact List.length_mergeSort _
    rw [hl, h3.length_eq, en, hsome]
    simp only [if_true, List.map_append, List.length_append, List.length_map, List.length_cons, List.length_nil]
    omega
end

theorem stateF_iff {n : Nat} (hn : n ≤ 1099511627776) {b : List UInt8} (hb : b.length ≤ 3000) : ∃ r53 r55, f44 b = some r53 ∧ f45 r53.1 0 = some r55 ∧ (((r53.2 == 0) && (r55.2.2 == 0)) && (r55.1 == (n : Int))) = (stateF n b).isSome := by
  have hnB := numB_numV (n := n) (by omega)
  rcases f44_eq (s := b) (by omega) with ⟨t, h1, h2⟩ | ⟨h1, e, h2, h3⟩
  · have ht : t.length ≤ 3000 := by
      have := congrArg List.length (openS_some h1)
      rw [sealS_len] at this; omega
    have hst : (stateF n b).isSome = true ↔ ∃ u k, rdU t 0 = some (u, k) ∧ zz u = (n : Int) := by
      rw [rdU_numV (by omega) (by omega), ← hnB]
      unfold stateF
      rw [h1]
      simp only []
      split
      · rename_i h; simpa using h
      · rename_i h; simpa using h
    have f := f45_eq (s := t) (p := 0) (by omega) (by omega)
    rw [show (((0 : Nat) : Int)) = (0 : Int) from rfl, List.drop_zero] at f
    rcases f with ⟨u, k, g1, g2⟩ | ⟨g1, e, g2, g3⟩
    · refine ⟨(t, 0), _, h2, g2, ?_⟩
      rw [Bool.eq_iff_iff, hst]
      simp only [beq_self_eq_true, Bool.and_self, Bool.true_and, beq_iff_eq]
      constructor
      · intro h; exact ⟨u, k, g1, h⟩
      · rintro ⟨u', k', h3, h4⟩
        rw [g1] at h3
        simp only [Option.some.injEq, Prod.mk.injEq] at h3
        rw [h3.1]; exact h4
    · refine ⟨(t, 0), _, h2, g3, ?_⟩
      rw [Bool.eq_iff_iff, hst]
      simp only [beq_self_eq_true, Bool.true_and, Bool.and_eq_true, beq_iff_eq]
      constructor
      · intro h; exact absurd h.1 g2
      · rintro ⟨u', k', h3, h4⟩
        rw [g1] at h3; cases h3
  · have hst : (stateF n b).isSome = false := by unfold stateF; rw [h1]; rfl
    have f := f45_eq (s := ([] : List UInt8)) (p := 0) (by simp) (by simp)
    rw [show (((0 : Nat) : Int)) = (0 : Int) from rfl] at f
    have : ∃ r, f45 [] 0 = some r := by
      rcases f with ⟨u, k, g1, g2⟩ | ⟨g1, e, g2, g3⟩
      · exact ⟨_, g2⟩
      · exact ⟨_, g3⟩
    obtain ⟨r, hr⟩ := this
    refine ⟨([], e), r, h3, hr, ?_⟩
    rw [hst]
    simp [h2]

theorem f10_true {l : List K67.den} {p1 : Int} {b : List UInt8} (σ : St) : ∃ σ', f10 l p1 b σ = some (true, σ') := by
  obtain ⟨σ1, σ2, A, e1, e2, r0, a0, d0, k0, fr⟩ := open_new σ (R := 100000) 3000 (by decide) (by decide)
  obtain ⟨σ3, e3, hk⟩ := f39_eq σ2
  obtain ⟨i, σ4, A4, ps, e4, k4, d4, a4, r4, h4⟩ := f10_loop (l := l) (r5 := ((some σ.t116.length, 0), σ2)) rfl 10 0 σ3 A [] (by omega) (k0.keep hk) d0 a0 r0 (by decide)
  have e4' : f10_l0 l ((some σ.t116.length, 0), σ2) 0 σ3 = some (i, σ4) := e4
  unfold f10
  rw [e1]
  simp only [Option.bind_eq_bind, Option.bind_some]
  rw [e2]
  simp only [Option.bind_some]
  rw [if_neg (by simp), e3]
  simp only [Option.bind_some]
  rw [if_neg (by simp), e4']
  simp only [Option.bind_some]
  rw [k4.f40 d4]
  simp only [Option.bind_some]
  by_cases c : p1 < 0 ∨ 1099511627776 < p1 ∨ 3000 < b.length
  · exact ⟨σ4, by rw [if_pos (by simp; omega)]⟩
  rw [if_neg (by simp; omega)]
  obtain ⟨n, rfl⟩ : ∃ n : Nat, p1 = (n : Int) := ⟨p1.toNat, by omega⟩
  have hn : n ≤ 1099511627776 := by omega
  have hb : b.length ≤ 3000 := by omega
  have hnl : (nums ps).length < 9223372036854775808 := by simp [nums]; omega
  have hfnd := f10_find (p1 := (n : Int)) (z30 := (i, σ4)) (nums ps) hnl (nums ps).length 0 (by omega)
  rw [show (((0 : Nat) : Int)) = (0 : Int) from rfl, List.drop_zero] at hfnd
  rcases hfnd with g | ⟨g, z, g2⟩
  · exact ⟨σ4, by rw [g]; rfl⟩
  rw [g2]
  have hp : ∀ p ∈ ps, p.1 ≠ n := by
    intro p hpp e
    exact g (List.mem_map.2 ⟨p, hpp, by rw [e]⟩)
  obtain ⟨e5, σ5, B, q1, q2, q3, q4, q5, q6⟩ := foreign_put k4 d4 a4 r4 h4 hn hp hb
  obtain ⟨r53, r55, s1, s2, s3⟩ := stateF_iff hn hb
  have hnm : ∀ f ∈ B.2.1, f.1.length < 9223372036854775808 := by
    intro f hf
    rcases List.mem_cons.1 ((foreign_perm k4 hp q6).mem_iff.1 hf) with rfl | hf
    · have := fileN_len hn
      show (fileN n).length < _
      omega
    · obtain ⟨p, hpp, rfl⟩ := List.mem_map.1 hf
      have := fileN_len (k4.kl.each p hpp).1
      show (fileN p.1).length < _
      omega
  obtain ⟨al1, al2⟩ := foreign_all k4 d4 q5 hn hp q6
  have e40 := f40_eq q2 q3 q4 hnm
  obtain ⟨st1, _⟩ := foreign_st k4 d4 q5 hp q6
  simp only [Option.bind_some]
  rw [s1]
  simp only [Option.bind_some]
  rw [s2]
  simp only [Option.bind_some]
  rw [f46_eq hn]
  simp only [Option.bind_some]
  rw [q1]
  simp only [Option.bind_some]
  rw [s3]
  refine ⟨σ5, ?_⟩
  cases hs : (stateF n b).isSome with
  | true =>
    rw [if_pos rfl, e40]
    simp only [Option.bind_some]
    have h1 := al2 hs
    have hw : IntKind.wrap .i64 (((nums ps).length : Int) + 1) = ((ps.length + 1 : Nat) : Int) := by
      have : (nums ps).length = ps.length := by simp [nums]
      rw [this, wrap_id (by omega) (by omega)]; omega
    rw [hw, h1]
    simp
  | false =>
    have hnone : stateF n b = none := by
      cases hq : stateF n b with
      | none => rfl
      | some v => rw [hq] at hs; cases hs
    have q3' := q3
    obtain ⟨o, qs, hqv⟩ := q3'
    have e47 : f47 (some σ.t116.length) (n : Int) σ5 = some ([], 8) := by
      unfold f47
      simp only [Option.isNone_some, Bool.false_eq_true, if_false, Option.bind_eq_bind, Option.bind_some]
      have hkp' : σ5.t116[σ.t116.length]? = some (some σ.t105.length, nmA, ()) := q2
      rw [hkp']
      simp only [Option.bind_some]
      rw [f31_eq hqv]
      simp only [Option.bind_some]
      rw [show B.2.2.2.1 = false from q5, if_neg (by decide), if_neg (by simp; omega), f86_eq q2 q3 q4 hn, st1, hnone]
      simp
    rw [if_neg (by decide), e47]
    simp only [Option.bind_some]
    rw [e40, al1 hnone]
    simp only [Option.bind_some]
    rw [f42_eq _ hnl]
    simp
end
end Go.Proofs.Ytlfemhkabjafeaa.M

/- A law of the keeper: what its function answers, from what comes in. -/
set_option linter.unusedVariables false
namespace Go.Proofs.Ytlfemhkabjafeaa.M
theorem snapForeign_pure {x0 : List K67.den} {x1 : Int} {x2 : List UInt8} (f0 : Kd.Fits (.list K67) x0) (f1 : Kd.i.Fits x1) (f2 : Kd.str.Fits x2) : ∃ σ', f10 x0 x1 x2 St.none = some (true, σ') := f10_true St.none
end Go.Proofs.Ytlfemhkabjafeaa.M
