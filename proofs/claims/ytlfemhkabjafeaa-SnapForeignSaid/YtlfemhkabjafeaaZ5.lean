/- Own texts, laid together: S5 X7 B27 T1 T2 Y0 B28 SR XF. -/
import Derived.Laws.IdiomStrings
import Derived.Scope
import Derived.Test.YtlfemhkabjafeaaProg
import Derived.Test.YtlfemhkabjafeaaZ1
import Derived.Test.YtlfemhkabjafeaaZ2
import Derived.Test.YtlfemhkabjafeaaZ3
import Derived.Test.YtlfemhkabjafeaaZ4
/- Printed by own program: twins and walks. -/
set_option linter.unusedVariables false
set_option maxRecDepth 100000
namespace Go.Proofs.Ytlfemhkabjafeaa.M
open Go.Proofs (Try.prog Try.func11 Try.f11 Try.func12 Try.f12)

def f11 (p0 : K80.den) (σ : St) : Option (Bool × St) :=
  f47 none p0.2.1 σ >>= fun r5 =>
  f43 none σ >>= fun r7 =>
  f38 none p0.2.2.1 σ >>= fun r9 =>
  f39 r9.2 >>= fun r11 =>
  if (((((r11.1 && (r5.1 == [])) && (r7.1 == 0)) && (r7.2.1 == [])) && (r5.2 == 1)) && (r7.2.2 == 1)) = true then
  f41 none p0.2.1 p0.2.2.1 r11.2 >>= fun r12 =>
  if (r12.1 == 1) = true then
  f40 none r12.2 >>= fun r13 =>
  some ((((r13.length : Int) == 0) && r9.1.1.isNone) && (r9.1.2 == 1), r12.2)
  else
  some (false, r12.2)
  else
  some (false, r11.2)

theorem f11_ok {p0 : K80.den} {σ : St} {p : Bool × St} (h : f11 p0 σ = some p) : Spec Try.prog 11 [.kv K80 p0] (tabs σ) (.kv .bool p.1) (tabs p.2) := by
  refine Spec.intro Try.func11 (by kernel_rfl) rfl (by kernel_rfl) (fun a w G0 Ls hE hH hN => ?_)
  have hle : G0.le G0 := Gh.le_refl G0
  unfold f11 at h
  refine wp_seq_k (fun K hK1 => ?_)
  refine wp_region_from ?_
  refine stepBox (e := 80) (d := (some 1)) K80 p0 hE hH (by kernel_rfl) (by kernel_rfl) (fun b2 a w G hl1 hE hH => ?_)
  have hle := Gh.le_trans hle hl1
  refine segO 1 [] [(2, .kv .bool false)] (Os := []) trivial hE hH (by kernel_rfl) (fun a hE => ?_)
  refine wpFrom_end (by kernel_rfl) ?_
  refine Exit.then_normal (hK1 _ _ ?_)
  refine wp_seq_k (fun K hK3 => ?_)
  refine wp_region_from ?_
  refine segO 1 [] [(3, .val (.pointer none))] (Os := []) trivial hE hH (by kernel_rfl) (fun a hE => ?_)
  refine wpFrom_end (by kernel_rfl) ?_
  refine Exit.then_normal (hK3 _ _ ?_)
  refine wp_seq_k (fun K hK4 => ?_)
  refine wp_region_from ?_
  refine segO 3 [.bx 0 K80 p0] [(12, .val (.pointer none)), (14, .kv .i p0.2.1)] (Os := [_]) ⟨(rfl : (LS.box b2 K80 p0 :: Ls)[0]? = some (LS.box b2 K80 p0)), trivial⟩ hE hH (by kernel_rfl) (fun a hE => ?_)
  obtain ⟨r5, hr5, h⟩ := bs h
  refine stepCall (d := (some 15)) (f47_ok hr5) hE hH (NoHole.cons (fun _ _ _ => rfl) hN) (by kernel_rfl) (by kernel_rfl) trivial (fun a w G hl2 hE hH => ?_)
  have hle := Gh.le_trans hle hl2
  refine segO 5 [] [(4, .kv .str r5.1), (5, .kv .i r5.2)] (Os := []) trivial hE hH (by kernel_rfl) (fun a hE => ?_)
  refine wpFrom_end (by kernel_rfl) ?_
  refine Exit.then_normal (hK4 _ _ ?_)
  refine wp_seq_k (fun K hK6 => ?_)
  refine wp_region_from ?_
  refine segO 1 [] [(19, .val (.pointer none))] (Os := []) trivial hE hH (by kernel_rfl) (fun a hE => ?_)
  obtain ⟨r7, hr7, h⟩ := bs h
  refine stepCall (d := (some 20)) (f43_ok hr7) hE hH (NoHole.cons (fun _ _ _ => rfl) hN) (by kernel_rfl) (by kernel_rfl) trivial (fun a w G hl3 hE hH => ?_)
  have hle := Gh.le_trans hle hl3
  refine segO 7 [] [(6, .kv .i r7.1), (7, .kv .str r7.2.1), (8, .kv .i r7.2.2)] (Os := []) trivial hE hH (by kernel_rfl) (fun a hE => ?_)
  refine wpFrom_end (by kernel_rfl) ?_
  refine Exit.then_normal (hK6 _ _ ?_)
  refine wp_seq_k (fun K hK8 => ?_)
  refine wp_region_from ?_
  refine segO 2 [.bx 0 K80 p0] [(26, .kv .str p0.2.2.1)] (Os := [_]) ⟨(rfl : (LS.box b2 K80 p0 :: Ls)[0]? = some (LS.box b2 K80 p0)), trivial⟩ hE hH (by kernel_rfl) (fun a hE => ?_)
  obtain ⟨r9, hr9, h⟩ := bs h
  refine stepCall (d := (some 27)) (f38_ok hr9) hE hH (NoHole.cons (fun _ _ _ => rfl) hN) (by kernel_rfl) (by kernel_rfl) trivial (fun a w G hl4 hE hH => ?_)
  have hle := Gh.le_trans hle hl4
  refine segO 5 [] [(9, .kv (.ptr 116) r9.1.1), (10, .kv .i r9.1.2)] (Os := []) trivial hE hH (by kernel_rfl) (fun a hE => ?_)
  refine wpFrom_end (by kernel_rfl) ?_
  refine Exit.then_normal (hK8 _ _ ?_)
  refine wp_seq_k (fun K hK10 => ?_)
  refine wp_region_from ?_
  obtain ⟨r11, hr11, h⟩ := bs h
  refine stepCall (d := (some 30)) (f39_ok hr11) hE hH (NoHole.cons (fun _ _ _ => rfl) hN) (by kernel_rfl) (by kernel_rfl) trivial (fun a w G hl5 hE hH => ?_)
  have hle := Gh.le_trans hle hl5
  refine segO 21 [] [(51, .kv .bool (((((r11.1 && (r5.1 == [])) && (r7.1 == 0)) && (r7.2.1 == [])) && (r5.2 == 1)) && (r7.2.2 == 1)))] (Os := []) trivial hE hH (by kernel_rfl) (fun a hE => ?_)
  by_cases hc : (((((r11.1 && (r5.1 == [])) && (r7.1 == 0)) && (r7.2.1 == [])) && (r5.2 == 1)) && (r7.2.2 == 1)) = true
  · replace h := ifT hc h
    have hE := hE.setB 51 (by kernel_rfl) hc
    refine segO 5 [.bx 0 K80 p0, .bx 0 K80 p0] [(52, .val (.pointer none)), (54, .kv .i p0.2.1), (56, .kv .str p0.2.2.1)] (Os := [_, _]) ⟨(rfl : (LS.box b2 K80 p0 :: Ls)[0]? = some (LS.box b2 K80 p0)), (rfl : (LS.box b2 K80 p0 :: Ls)[0]? = some (LS.box b2 K80 p0)), trivial⟩ hE hH (by kernel_rfl) (fun a hE => ?_)
    obtain ⟨r12, hr12, h⟩ := bs h
    refine stepCall (d := (some 57)) (f41_ok hr12) hE hH (NoHole.cons (fun _ _ _ => rfl) hN) (by kernel_rfl) (by kernel_rfl) trivial (fun a w G hl6 hE hH => ?_)
    have hle := Gh.le_trans hle hl6
    refine segO 3 [] [(60, .kv .bool (r12.1 == 1))] (Os := []) trivial hE hH (by kernel_rfl) (fun a hE => ?_)
    by_cases hc : (r12.1 == 1) = true
    · replace h := ifT hc h
      have hE := hE.setB 60 (by kernel_rfl) hc
      refine segO 1 [] [(61, .val (.pointer none))] (Os := []) trivial hE hH (by kernel_rfl) (fun a hE => ?_)
      obtain ⟨r13, hr13, h⟩ := bs h
      refine stepCall (d := (some 62)) (f40_ok hr13) hE hH (NoHole.cons (fun _ _ _ => rfl) hN) (by kernel_rfl) (by kernel_rfl) trivial (fun a w G hl7 hE hH => ?_)
      have hle := Gh.le_trans hle hl7
      refine segO 12 [] [(2, .kv .bool ((((r13.length : Int) == 0) && r9.1.1.isNone) && (r9.1.2 == 1)))] (Os := []) trivial hE hH (by kernel_rfl) (fun a hE => ?_)
      refine wpFrom_end (by kernel_rfl) ?_
      refine Exit.then_normal (hK10 _ _ ?_)
      refine wp_ret ?_
      have hH := hH.drop (fun _ _ _ => rfl)
      cases h
      exact ret1 rfl hE hle hH (by kernel_rfl)
    · replace h := ifN hc h
      have hE := hE.setB 60 (by kernel_rfl) (bf hc)
      refine segO 14 [] [(2, .kv .bool false)] (Os := []) trivial hE hH (by kernel_rfl) (fun a hE => ?_)
      refine wpFrom_end (by kernel_rfl) ?_
      refine Exit.then_normal (hK10 _ _ ?_)
      refine wp_ret ?_
      have hH := hH.drop (fun _ _ _ => rfl)
      cases h
      exact ret1 rfl hE hle hH (by kernel_rfl)
  · replace h := ifN hc h
    have hE := hE.setB 51 (by kernel_rfl) (bf hc)
    refine segO 23 [] [(2, .kv .bool false)] (Os := []) trivial hE hH (by kernel_rfl) (fun a hE => ?_)
    refine wpFrom_end (by kernel_rfl) ?_
    refine Exit.then_normal (hK10 _ _ ?_)
    refine wp_ret ?_
    have hH := hH.drop (fun _ _ _ => rfl)
    cases h
    exact ret1 rfl hE hle hH (by kernel_rfl)

def f12_l0 (p0 : List K67.den) (r10 : ((Option Nat) × Int) × St) (l24 : List K67.den) (x25 : Int) (x26 : Int) (σ27 : St) : Option ((List K67.den) × Int × Int × St) :=
  if ((decide (x26 < (p0.length : Int))) && (decide (x26 < 20))) = true then
  (ix p0 x26) >>= fun x37 =>
  if (decide ((x37.2.1.length : Int) > 3000)) = true then
  f12_l0 p0 r10 l24 x25 (IntKind.wrap .i64 (x26 + 1)) σ27
  else
  (ix p0 x26) >>= fun x39 =>
  if (l24.length + 1) * 24 ≤ 140737488355328 then
  (ix p0 x26) >>= fun x43 =>
  (ix p0 x26) >>= fun x44 =>
  f41 r10.1.1 x43.1 x44.2.1 σ27 >>= fun r45 =>
  (if (r45.1 == 0) = true then
  (ix p0 x26) >>= fun x50 =>
  some x50.1
  else
  some x25 : Option Int) >>= fun z48 =>
  f12_l0 p0 r10 (l24 ++ [x39]) z48 (IntKind.wrap .i64 (x26 + 1)) r45.2
  else none
  else
  some ((l24, x25, x26, σ27))
  partial_fixpoint

def f12_l1 (z51 : (List K67.den) × Int × Int × St) (r56 : ((Option Nat) × Int) × St) (r61 : Int × (List UInt8) × Int) (x67 : Int) : Option (Sum Int (Bool × St)) :=
  if (decide (x67 < (z51.1.length : Int))) = true then
  (ix z51.1 x67) >>= fun x76 =>
  if (x76.1 == r61.1) = true then
  (ix z51.1 x67) >>= fun x77 =>
  if ((x77.2.1 == r61.2.1) && (decide (r61.1 ≥ z51.2.1))) = true then
  some (.inr (true, r56.2))
  else
  f12_l1 z51 r56 r61 (IntKind.wrap .i64 (x67 + 1))
  else
  f12_l1 z51 r56 r61 (IntKind.wrap .i64 (x67 + 1))
  else
  some (.inl x67)
  partial_fixpoint

def f12 (p0 : List K67.den) (p1 : Int) (p2 : List Int) (σ : St) : Option (Bool × St) :=
  f18 100000 σ >>= fun r3 =>
  if ((r3.1.2 != 0) || r3.1.1.isNone) = true then
  some (false, r3.2)
  else
  f39 r3.2 >>= fun r7 =>
  if (!r7.1) = true then
  some (false, r7.2)
  else
  f38 r3.1.1 [97, 108, 108] r7.2 >>= fun r10 =>
  if ((r10.1.2 != 0) || r10.1.1.isNone) = true then
  some (false, r10.2)
  else
  (if (decide (p1 > 0)) = true then
  f32 r3.1.1 (IntKind.wrap .i64 (p1)) r10.2 >>= fun r82 =>
  some r82.2
  else
  some r10.2 : Option St) >>= fun z17 =>
  f12_l0 p0 r10 [] (-1) 0 z17 >>= fun z51 =>
  f27 r3.1.1 p2 z51.2.2.2 >>= fun r54 =>
  f38 r3.1.1 [97, 108, 108] r54.2 >>= fun r56 =>
  if ((r56.1.2 != 0) || r56.1.1.isNone) = true then
  some (false, r56.2)
  else
  f43 r56.1.1 r56.2 >>= fun r61 =>
  if (r61.2.2 != 0) = true then
  some ((r61.2.2 == 8) && (decide (z51.2.1 < 0)), r56.2)
  else
  f12_l1 z51 r56 r61 0 >>= fun rr80 => (match rr80 with
  | .inr yy => some yy
  | .inl z79 =>
  some (false, r56.2))

theorem f12_ok {p0 : List K67.den} {p1 : Int} {p2 : List Int} {σ : St} {p : Bool × St} (h : f12 p0 p1 p2 σ = some p) : Spec Try.prog 12 [.kv (.list K67) p0, .kv (.int .u8) p1, .kv (.list .i) p2] (tabs σ) (.kv .bool p.1) (tabs p.2) := by
  refine Spec.intro Try.func12 (by kernel_rfl) rfl (by kernel_rfl) (fun a w G0 Ls hE hH hN => ?_)
  have hle : G0.le G0 := Gh.le_refl G0
  unfold f12 at h
  refine wp_seq_k (fun K hK1 => ?_)
  refine wp_region_from ?_
  refine segO 1 [] [(6, .kv .bool false)] (Os := []) trivial hE hH (by kernel_rfl) (fun a hE => ?_)
  refine wpFrom_end (by kernel_rfl) ?_
  refine Exit.then_normal (hK1 _ _ ?_)
  refine wp_seq_k (fun K hK2 => ?_)
  refine wp_region_from ?_
  obtain ⟨r3, hr3, h⟩ := bs h
  refine stepCall (d := (some 22)) (f18_ok hr3) hE hH hN (by kernel_rfl) (by kernel_rfl) trivial (fun a w G hl1 hE hH => ?_)
  have hle := Gh.le_trans hle hl1
  refine segO 5 [] [(7, .kv (.ptr 105) r3.1.1), (8, .kv .i r3.1.2)] (Os := []) trivial hE hH (by kernel_rfl) (fun a hE => ?_)
  refine wpFrom_end (by kernel_rfl) ?_
  refine Exit.then_normal (hK2 _ _ ?_)
  refine wp_seq_k (fun K hK4 => ?_)
  refine wp_seq_k (fun K hK5 => ?_)
  refine wp_region_from ?_
  refine segO 7 [] [(31, .kv .bool ((r3.1.2 != 0) || r3.1.1.isNone))] (Os := []) trivial hE hH (by kernel_rfl) (fun a hE => ?_)
  by_cases hc : ((r3.1.2 != 0) || r3.1.1.isNone) = true
  · replace h := ifT hc h
    have hE := hE.setB 31 (by kernel_rfl) hc
    refine segO 3 [] [(34, .kv .bool true)] (Os := []) trivial hE hH (by kernel_rfl) (fun a hE => ?_)
    refine wpFrom_end (by kernel_rfl) ?_
    refine Exit.then_normal (hK5 _ _ ?_)
    refine condT hE (by kernel_rfl) rfl ?_
    refine wp_seq_k (fun K hK6 => ?_)
    refine wp_region_from ?_
    refine segO 1 [] [(6, .kv .bool false)] (Os := []) trivial hE hH (by kernel_rfl) (fun a hE => ?_)
    refine wpFrom_end (by kernel_rfl) ?_
    refine Exit.then_normal (hK6 _ _ ?_)
    refine wp_ret ?_
    refine Exit.then_ret ?_
    cases h
    exact ret1 rfl hE hle hH (by kernel_rfl)
  · replace h := ifN hc h
    have hE := hE.setB 31 (by kernel_rfl) (bf hc)
    obtain ⟨r7, hr7, h⟩ := bs h
    refine stepCall (d := (some 32)) (f39_ok hr7) hE hH hN (by kernel_rfl) (by kernel_rfl) trivial (fun a w G hl2 hE hH => ?_)
    have hle := Gh.le_trans hle hl2
    refine segO 2 [] [(34, .kv .bool (!r7.1))] (Os := []) trivial hE hH (by kernel_rfl) (fun a hE => ?_)
    refine wpFrom_end (by kernel_rfl) ?_
    refine Exit.then_normal (hK5 _ _ ?_)
    refine condE (b := !r7.1) hE (by kernel_rfl) (fun hc => ?_) (fun hc => ?_)
    · replace h := ifT hc h
      refine wp_seq_k (fun K hK8 => ?_)
      refine wp_region_from ?_
      refine segO 1 [] [(6, .kv .bool false)] (Os := []) trivial hE hH (by kernel_rfl) (fun a hE => ?_)
      refine wpFrom_end (by kernel_rfl) ?_
      refine Exit.then_normal (hK8 _ _ ?_)
      refine wp_ret ?_
      refine Exit.then_ret ?_
      cases h
      exact ret1 rfl hE hle hH (by kernel_rfl)
    · replace h := ifF hc h
      refine wp_skip ?_
      refine Exit.then_normal (hK4 _ _ ?_)
      refine wp_seq_k (fun K hK9 => ?_)
      refine wp_region_from ?_
      refine segO 1 [] [(36, .kv (.ptr 105) r3.1.1)] (Os := []) trivial hE hH (by kernel_rfl) (fun a hE => ?_)
      obtain ⟨r10, hr10, h⟩ := bs h
      refine stepCall (d := (some 37)) (f38_ok hr10) hE hH hN (by kernel_rfl) (by kernel_rfl) trivial (fun a w G hl3 hE hH => ?_)
      have hle := Gh.le_trans hle hl3
      refine segO 5 [] [(9, .kv (.ptr 116) r10.1.1), (10, .kv .i r10.1.2)] (Os := []) trivial hE hH (by kernel_rfl) (fun a hE => ?_)
      refine wpFrom_end (by kernel_rfl) ?_
      refine Exit.then_normal (hK9 _ _ ?_)
      refine wp_seq_k (fun K hK11 => ?_)
      refine wp_seq_k (fun K hK12 => ?_)
      refine wp_region_from ?_
      refine segO 6 [] [(45, .kv .bool ((r10.1.2 != 0) || r10.1.1.isNone))] (Os := []) trivial hE hH (by kernel_rfl) (fun a hE => ?_)
      refine wpFrom_end (by kernel_rfl) ?_
      refine Exit.then_normal (hK12 _ _ ?_)
      refine condE (b := (r10.1.2 != 0) || r10.1.1.isNone) hE (by kernel_rfl) (fun hc => ?_) (fun hc => ?_)
      · replace h := ifT hc h
        refine wp_seq_k (fun K hK13 => ?_)
        refine wp_region_from ?_
        refine segO 1 [] [(6, .kv .bool false)] (Os := []) trivial hE hH (by kernel_rfl) (fun a hE => ?_)
        refine wpFrom_end (by kernel_rfl) ?_
        refine Exit.then_normal (hK13 _ _ ?_)
        refine wp_ret ?_
        refine Exit.then_ret ?_
        cases h
        exact ret1 rfl hE hle hH (by kernel_rfl)
      · replace h := ifF hc h
        refine wp_skip ?_
        refine Exit.then_normal (hK11 _ _ ?_)
        refine wp_seq_k (fun K hK14 => ?_)
        refine wp_seq_k (fun K hK15 => ?_)
        refine wp_region_from ?_
        refine segO 2 [] [(47, .kv .bool (decide (p1 > 0)))] (Os := []) trivial hE hH (by kernel_rfl) (fun a hE => ?_)
        refine wpFrom_end (by kernel_rfl) ?_
        refine Exit.then_normal (hK15 _ _ ?_)
        obtain ⟨z17, hz17, h⟩ := bs h
        refine join_intro (I := fun a w => ∃ (G : Gh), G0.le G ∧ EnvR G 150 a [(0, .kv (.list K67) p0), (2, .kv (.list .i) p2), (6, .kv .bool false), (7, .kv (.ptr 105) r3.1.1), (9, .kv (.ptr 116) r10.1.1)] ∧ Holds w G (tabs z17) (Ls)) trivial ?_ ?_
        · intro a w hI
          obtain ⟨G, hle, hE, hH⟩ := hI
          refine Exit.then_normal (hK14 _ _ ?_)
          refine wp_seq_k (fun K hK19 => ?_)
          refine wp_region_from ?_
          refine segO 1 [] [(11, .val (.slice none 0 0))] (Os := []) trivial hE hH (by kernel_rfl) (fun a hE => ?_)
          refine wpFrom_end (by kernel_rfl) ?_
          refine Exit.then_normal (hK19 _ _ ?_)
          refine wp_seq_k (fun K hK20 => ?_)
          refine wp_region_from ?_
          refine segO 1 [] [(12, .kv .i (-1))] (Os := []) trivial hE hH (by kernel_rfl) (fun a hE => ?_)
          refine wpFrom_end (by kernel_rfl) ?_
          refine Exit.then_normal (hK20 _ _ ?_)
          refine wp_seq_k (fun K hK21 => ?_)
          refine wp_seq_k (fun K hK22 => ?_)
          refine wp_region_from ?_
          refine segO 1 [] [(13, .kv .i 0)] (Os := []) trivial hE hH (by kernel_rfl) (fun a hE => ?_)
          refine wpFrom_end (by kernel_rfl) ?_
          refine Exit.then_normal (hK22 _ _ ?_)
          refine wp_block ?_
          have hE := hE.nilTl 11 K67 (by kernel_rfl)
          have hH := hH.nilTk 67 24 K67
          obtain ⟨z51, hz51, h⟩ := bs h
          refine loop_intro (fun Q28 c hQ hc => ?_)
          have key : ∀ (l24 : List K67.den) (x25 : Int) (x26 : Int) (σ27 : St) (rr : (List K67.den) × Int × Int × St), f12_l0 p0 r10 l24 x25 x26 σ27 = some rr → ∀ (a : Act) (w : World) (G : Gh) (v23 : Value), G0.le G → EnvR G 150 a [(0, .kv (.list K67) p0), (2, .kv (.list .i) p2), (6, .kv .bool false), (7, .kv (.ptr 105) r3.1.1), (9, .kv (.ptr 116) r10.1.1), (11, .tl v23 K67 l24), (12, .kv .i x25), (13, .kv .i x26)] → Holds w G (tabs σ27) (LS.tk v23 67 24 K67 l24 :: Ls) → (∀ z52 : (List K67.den) × Int × Int × St, rr = z52 → ∀ (a : Act) (w : World) (G : Gh) (v23 : Value), G0.le G → EnvR G 150 a [(0, .kv (.list K67) p0), (2, .kv (.list .i) p2), (6, .kv .bool false), (7, .kv (.ptr 105) r3.1.1), (9, .kv (.ptr 116) r10.1.1), (11, .tl v23 K67 z52.1), (12, .kv .i z52.2.1), (13, .kv .i z52.2.2.1)] → Holds w G (tabs z52.2.2.2) (LS.tk v23 67 24 K67 z52.1 :: Ls) → Q28 (.exit 0) a w) → Rnd Try.prog c Q28 a w := by
            refine f12_l0.partial_correctness p0 r10 _ ?_
            intro self ih31 l24 x25 x26 σ27 rr h a w G v23 hle hE hH hx29
            refine rnd_step' hc ?_
            refine wp_seq_k (fun K hK32 => ?_)
            refine wp_seq_k (fun K hK33 => ?_)
            refine wp_region_from ?_
            refine segO 8 [] [(59, .kv .bool ((decide (x26 < (p0.length : Int))) && (decide (x26 < 20))))] (Os := []) trivial hE hH (by kernel_rfl) (fun a hE => ?_)
            refine wpFrom_end (by kernel_rfl) ?_
            refine Exit.then_normal (hK33 _ _ ?_)
            refine condE (b := (decide (x26 < (p0.length : Int))) && (decide (x26 < 20))) hE (by kernel_rfl) (fun hc => ?_) (fun hc => ?_)
            · replace h := ifT hc h
              refine wp_skip ?_
              refine Exit.then_normal (hK32 _ _ ?_)
              refine wp_seq_k (fun K hK34 => ?_)
              refine wp_block ?_
              refine wp_seq_k (fun K hK35 => ?_)
              refine wp_seq_k (fun K hK36 => ?_)
              refine wp_region_from ?_
              obtain ⟨x37, hx37, h⟩ := bs h
              refine segO 7 [.ix K67 x37] [(68, .kv .bool (decide ((x37.2.1.length : Int) > 3000)))] (Os := [_]) ⟨(IxAt.of (k := K67) hx37), trivial⟩ hE hH (by kernel_rfl) (fun a hE => ?_)
              refine wpFrom_end (by kernel_rfl) ?_
              refine Exit.then_normal (hK36 _ _ ?_)
              refine condE (b := decide ((x37.2.1.length : Int) > 3000)) hE (by kernel_rfl) (fun hc => ?_) (fun hc => ?_)
              · replace h := ifT hc h
                refine wp_exit ?_
                refine Exit.then_exit ?_
                refine Exit.in_eq ?_
                refine Exit.then_normal (hK34 _ _ ?_)
                refine wp_region_from ?_
                refine segO 3 [] [(13, .kv .i (IntKind.wrap .i64 (x26 + 1)))] (Os := []) trivial hE hH (by kernel_rfl) (fun a hE => ?_)
                refine wpFrom_end (by kernel_rfl) ?_
                refine Exit.then_normal ?_
                exact ih31 _ _ _ _ _ h _ _ _ v23 hle (hE.subC (by kernel_rfl)) hH hx29
              · replace h := ifF hc h
                refine wp_skip ?_
                refine Exit.then_normal (hK35 _ _ ?_)
                refine wp_seq_k (fun K hK38 => ?_)
                refine wp_region_from ?_
                obtain ⟨x39, hx39, h⟩ := bs h
                refine segO 5 [.ix K67 x39] [(69, .tl v23 K67 l24), (73, .kv K67 x39)] (Os := [_]) ⟨(IxAt.of (k := K67) hx39), trivial⟩ hE hH (by kernel_rfl) (fun a hE => ?_)
                refine stepBuildS (d := (some 74)) K67 [x39] hE hH (by kernel_rfl) (by kernel_rfl) (fun a w G hl5 hE hH => ?_)
                have hle := Gh.le_trans hle hl5
                obtain ⟨q40, h⟩ := gd h
                refine stepApp (e := 0) (bt := 24) (ys := [x39]) (e' := 67) (d := (some 75)) 0 hE hH (by kernel_rfl) rfl (by kernel_rfl) q40 (fun v41 a w G hl6 hE hH => ?_)
                have hle := Gh.le_trans hle hl6
                refine segO 1 [] [(11, .tl v41 K67 (l24 ++ [x39]))] (Os := []) trivial hE hH (by kernel_rfl) (fun a hE => ?_)
                refine wpFrom_end (by kernel_rfl) ?_
                refine Exit.then_normal (hK38 _ _ ?_)
                refine wp_seq_k (fun K hK42 => ?_)
                obtain ⟨x43, hx43, h⟩ := bs h
                obtain ⟨x44, hx44, h⟩ := bs h
                refine region_par 11 [] [(0, 0), (0, 0), (0, 0), (0, 0), (0, 0), (0, 0), (0, 0), (0, 0), (0, 0), (0, 0), (0, 0)] [.kv (.ptr 116) r10.1.1, .kv (.list K67) p0, .kv .i x26, .elA K67 x43 0, .elA K67 x43 0, .kv .i x43.1, .kv (.list K67) p0, .kv .i x26, .elA K67 x44 0, .elA K67 x44 1, .kv .str x44.2.1] (fun _ => tabs σ27) (fun _ => LS.tk v41 67 24 K67 (l24 ++ [x39]) :: Ls) (by kernel_rfl) (by kernel_rfl) hE hH
                        ⟨⟨⟨⟨⟨⟨⟨⟨⟨⟨⟨trivial,
                        anyk (fun k => obR [] (Os := []) trivial (by kernel_rfl) (by kernel_rfl))⟩,
                        anyk (fun k => obR [] (Os := []) trivial (by kernel_rfl) (by kernel_rfl))⟩,
                        anyk (fun k => obR [] (Os := []) trivial (by kernel_rfl) (by kernel_rfl))⟩,
                        anyk (fun k => obR [.ix K67 x43] (Os := [_]) ⟨(IxAt.of (k := K67) hx43), trivial⟩ (by kernel_rfl) (by kernel_rfl))⟩,
                        anyk (fun k => obR [] (Os := []) trivial (by kernel_rfl) (by kernel_rfl))⟩,
                        anyk (fun k => obR [] (Os := []) trivial (by kernel_rfl) (by kernel_rfl))⟩,
                        anyk (fun k => obR [] (Os := []) trivial (by kernel_rfl) (by kernel_rfl))⟩,
                        anyk (fun k => obR [] (Os := []) trivial (by kernel_rfl) (by kernel_rfl))⟩,
                        anyk (fun k => obR [.ix K67 x44] (Os := [_]) ⟨(IxAt.of (k := K67) hx44), trivial⟩ (by kernel_rfl) (by kernel_rfl))⟩,
                        anyk (fun k => obR [] (Os := []) trivial (by kernel_rfl) (by kernel_rfl))⟩,
                        anyk (fun k => obR [] (Os := []) trivial (by kernel_rfl) (by kernel_rfl))⟩ (fun a w G hl7 hE hH => ?_)
                have hle := Gh.le_trans hle hl7
                obtain ⟨r45, hr45, h⟩ := bs h
                refine stepCall (d := (some 87)) (f41_ok hr45) hE hH (NoHole.cons (fun _ _ _ => rfl) hN) (by kernel_rfl) (by kernel_rfl) trivial (fun a w G hl8 hE hH => ?_)
                have hle := Gh.le_trans hle hl8
                refine segO 1 [] [(14, .kv .i r45.1)] (Os := []) trivial hE hH (by kernel_rfl) (fun a hE => ?_)
                refine wpFrom_end (by kernel_rfl) ?_
                refine Exit.then_normal (hK42 _ _ ?_)
                refine wp_seq_k (fun K hK46 => ?_)
                refine wp_region_from ?_
                refine segO 2 [] [(89, .kv .bool (r45.1 == 0))] (Os := []) trivial hE hH (by kernel_rfl) (fun a hE => ?_)
                refine wpFrom_end (by kernel_rfl) ?_
                refine Exit.then_normal (hK46 _ _ ?_)
                obtain ⟨z48, hz48, h⟩ := bs h
                refine join_intro (I := fun a w => ∃ (G : Gh), G0.le G ∧ EnvR G 150 a [(0, .kv (.list K67) p0), (2, .kv (.list .i) p2), (6, .kv .bool false), (7, .kv (.ptr 105) r3.1.1), (9, .kv (.ptr 116) r10.1.1), (11, .tl v41 K67 (l24 ++ [x39])), (12, .kv .i z48), (13, .kv .i x26)] ∧ Holds w G (tabs r45.2) (LS.tk v41 67 24 K67 (l24 ++ [x39]) :: Ls)) trivial ?_ ?_
                · intro a w hI
                  obtain ⟨G, hle, hE, hH⟩ := hI
                  refine Exit.in_normal ?_
                  refine Exit.then_normal (hK34 _ _ ?_)
                  refine wp_region_from ?_
                  refine segO 3 [] [(13, .kv .i (IntKind.wrap .i64 (x26 + 1)))] (Os := []) trivial hE hH (by kernel_rfl) (fun a hE => ?_)
                  refine wpFrom_end (by kernel_rfl) ?_
                  refine Exit.then_normal ?_
                  exact ih31 _ _ _ _ _ h _ _ _ v41 hle (hE.subC (by kernel_rfl)) hH hx29
                · intro KK hKK ho
                  have hj49 : ∀ (a : Act) (w : World) (G : Gh), G0.le G → EnvR G 150 a [(0, .kv (.list K67) p0), (2, .kv (.list .i) p2), (6, .kv .bool false), (7, .kv (.ptr 105) r3.1.1), (9, .kv (.ptr 116) r10.1.1), (11, .tl v41 K67 (l24 ++ [x39])), (12, .kv .i z48), (13, .kv .i x26)] → Holds w G (tabs r45.2) (LS.tk v41 67 24 K67 (l24 ++ [x39]) :: Ls) → KK .normal a w := fun a w G  h1 h2 h3 => hKK a w ⟨G, h1, h2, h3⟩
                  replace h := hz48
                  refine condE (b := r45.1 == 0) hE (by kernel_rfl) (fun hc => ?_) (fun hc => ?_)
                  · replace h := ifT hc h
                    refine wp_region_from ?_
                    obtain ⟨x50, hx50, h⟩ := bs h
                    refine segO 6 [.ix K67 x50] [(12, .kv .i x50.1)] (Os := [_]) ⟨(IxAt.of (k := K67) hx50), trivial⟩ hE hH (by kernel_rfl) (fun a hE => ?_)
                    refine wpFrom_end (by kernel_rfl) ?_
                    cases h
                    exact hj49 _ _ _  hle (hE.subC (by kernel_rfl)) hH
                  · replace h := ifF hc h
                    refine wp_skip ?_
                    cases h
                    exact hj49 _ _ _  hle (hE.subC (by kernel_rfl)) hH
            · replace h := ifF hc h
              refine wp_exit ?_
              refine Exit.then_exit ?_
              refine Exit.then_exit ?_
              cases h
              exact hx29 _ rfl _ _ _ v23 hle (hE.subC (by kernel_rfl)) hH
          refine key _ _ _ _ _ hz51 _ _ _ (.slice none 0 0) hle (hE.subC (by kernel_rfl)) hH ?_
          · intro z52 hz a w G v23 hle hE hH
            subst hz
            rw [hQ]
            refine Exit.in_eq ?_
            refine Exit.then_normal (hK21 _ _ ?_)
            refine wp_seq_k (fun K hK53 => ?_)
            refine wp_region_from ?_
            refine segO 2 [] [(95, .kv (.ptr 105) r3.1.1), (96, .kv (.list .i) p2)] (Os := []) trivial hE hH (by kernel_rfl) (fun a hE => ?_)
            obtain ⟨r54, hr54, h⟩ := bs h
            refine stepCall (d := (some 97)) (f27_ok hr54) hE hH (NoHole.cons (fun _ _ _ => rfl) hN) (by kernel_rfl) (by kernel_rfl) trivial (fun a w G hl10 hE hH => ?_)
            have hle := Gh.le_trans hle hl10
            refine wpFrom_end (by kernel_rfl) ?_
            refine Exit.then_normal (hK53 _ _ ?_)
            refine wp_seq_k (fun K hK55 => ?_)
            refine wp_region_from ?_
            refine segO 1 [] [(99, .kv (.ptr 105) r3.1.1)] (Os := []) trivial hE hH (by kernel_rfl) (fun a hE => ?_)
            obtain ⟨r56, hr56, h⟩ := bs h
            refine stepCall (d := (some 100)) (f38_ok hr56) hE hH (NoHole.cons (fun _ _ _ => rfl) hN) (by kernel_rfl) (by kernel_rfl) trivial (fun a w G hl11 hE hH => ?_)
            have hle := Gh.le_trans hle hl11
            refine segO 5 [] [(15, .kv (.ptr 116) r56.1.1), (16, .kv .i r56.1.2)] (Os := []) trivial hE hH (by kernel_rfl) (fun a hE => ?_)
            refine wpFrom_end (by kernel_rfl) ?_
            refine Exit.then_normal (hK55 _ _ ?_)
            refine wp_seq_k (fun K hK57 => ?_)
            refine wp_seq_k (fun K hK58 => ?_)
            refine wp_region_from ?_
            refine segO 6 [] [(108, .kv .bool ((r56.1.2 != 0) || r56.1.1.isNone))] (Os := []) trivial hE hH (by kernel_rfl) (fun a hE => ?_)
            refine wpFrom_end (by kernel_rfl) ?_
            refine Exit.then_normal (hK58 _ _ ?_)
            refine condE (b := (r56.1.2 != 0) || r56.1.1.isNone) hE (by kernel_rfl) (fun hc => ?_) (fun hc => ?_)
            · replace h := ifT hc h
              refine wp_seq_k (fun K hK59 => ?_)
              refine wp_region_from ?_
              refine segO 1 [] [(6, .kv .bool false)] (Os := []) trivial hE hH (by kernel_rfl) (fun a hE => ?_)
              refine wpFrom_end (by kernel_rfl) ?_
              refine Exit.then_normal (hK59 _ _ ?_)
              refine wp_ret ?_
              refine Exit.then_ret ?_
              have hH := hH.drop (fun _ _ _ => rfl)
              cases h
              exact ret1 rfl hE hle hH (by kernel_rfl)
            · replace h := ifF hc h
              refine wp_skip ?_
              refine Exit.then_normal (hK57 _ _ ?_)
              refine wp_seq_k (fun K hK60 => ?_)
              refine wp_region_from ?_
              refine segO 1 [] [(110, .kv (.ptr 116) r56.1.1)] (Os := []) trivial hE hH (by kernel_rfl) (fun a hE => ?_)
              obtain ⟨r61, hr61, h⟩ := bs h
              refine stepCall (d := (some 111)) (f43_ok hr61) hE hH (NoHole.cons (fun _ _ _ => rfl) hN) (by kernel_rfl) (by kernel_rfl) trivial (fun a w G hl12 hE hH => ?_)
              have hle := Gh.le_trans hle hl12
              refine segO 7 [] [(17, .kv .i r61.1), (18, .kv .str r61.2.1), (19, .kv .i r61.2.2)] (Os := []) trivial hE hH (by kernel_rfl) (fun a hE => ?_)
              refine wpFrom_end (by kernel_rfl) ?_
              refine Exit.then_normal (hK60 _ _ ?_)
              refine wp_seq_k (fun K hK62 => ?_)
              refine wp_seq_k (fun K hK63 => ?_)
              refine wp_region_from ?_
              refine segO 2 [] [(116, .kv .bool (r61.2.2 != 0))] (Os := []) trivial hE hH (by kernel_rfl) (fun a hE => ?_)
              refine wpFrom_end (by kernel_rfl) ?_
              refine Exit.then_normal (hK63 _ _ ?_)
              refine condE (b := r61.2.2 != 0) hE (by kernel_rfl) (fun hc => ?_) (fun hc => ?_)
              · replace h := ifT hc h
                refine wp_seq_k (fun K hK64 => ?_)
                refine wp_region_from ?_
                refine segO 7 [] [(6, .kv .bool ((r61.2.2 == 8) && (decide (z51.2.1 < 0))))] (Os := []) trivial hE hH (by kernel_rfl) (fun a hE => ?_)
                refine wpFrom_end (by kernel_rfl) ?_
                refine Exit.then_normal (hK64 _ _ ?_)
                refine wp_ret ?_
                refine Exit.then_ret ?_
                have hH := hH.drop (fun _ _ _ => rfl)
                cases h
                exact ret1 rfl hE hle hH (by kernel_rfl)
              · replace h := ifF hc h
                refine wp_skip ?_
                refine Exit.then_normal (hK62 _ _ ?_)
                refine wp_seq_k (fun K hK65 => ?_)
                refine wp_seq_k (fun K hK66 => ?_)
                refine wp_region_from ?_
                refine segO 1 [] [(20, .kv .i 0)] (Os := []) trivial hE hH (by kernel_rfl) (fun a hE => ?_)
                refine wpFrom_end (by kernel_rfl) ?_
                refine Exit.then_normal (hK66 _ _ ?_)
                refine wp_block ?_
                obtain ⟨rr80, hrr80, h⟩ := bs h
                refine loop_intro (fun Q68 c hQ hc => ?_)
                have key : ∀ (x67 : Int) (rr : Sum Int (Bool × St)), f12_l1 z51 r56 r61 x67 = some rr → ∀ (a : Act) (w : World) (G : Gh), G0.le G → EnvR G 150 a [(6, .kv .bool false), (11, .tl v23 K67 z51.1), (12, .kv .i z51.2.1), (17, .kv .i r61.1), (18, .kv .str r61.2.1), (20, .kv .i x67)] → Holds w G (tabs r56.2) (LS.tk v23 67 24 K67 z51.1 :: Ls) → (∀ z79 : Int, rr = .inl z79 → ∀ (a : Act) (w : World) (G : Gh), G0.le G → EnvR G 150 a [(6, .kv .bool false), (11, .tl v23 K67 z51.1), (12, .kv .i z51.2.1), (17, .kv .i r61.1), (18, .kv .str r61.2.1), (20, .kv .i z79)] → Holds w G (tabs r56.2) (LS.tk v23 67 24 K67 z51.1 :: Ls) → Q68 (.exit 2) a w) → (∀ yy : Bool × St, rr = .inr yy → ∀ (a : Act) (w : World), PostB Try.prog Try.f12 G0 (.kv .bool yy.1) (tabs yy.2) Ls .ret a w → Q68 .ret a w) → Rnd Try.prog c Q68 a w := by
                  refine f12_l1.partial_correctness z51 r56 r61 _ ?_
                  intro self ih71 x67 rr h a w G  hle hE hH hx69 hret70
                  refine rnd_step' hc ?_
                  refine wp_seq_k (fun K hK72 => ?_)
                  refine wp_seq_k (fun K hK73 => ?_)
                  refine wp_region_from ?_
                  refine segO 4 [] [(126, .kv .bool (decide (x67 < (z51.1.length : Int))))] (Os := []) trivial hE hH (by kernel_rfl) (fun a hE => ?_)
                  refine wpFrom_end (by kernel_rfl) ?_
                  refine Exit.then_normal (hK73 _ _ ?_)
                  refine condE (b := decide (x67 < (z51.1.length : Int))) hE (by kernel_rfl) (fun hc => ?_) (fun hc => ?_)
                  · replace h := ifT hc h
                    refine wp_skip ?_
                    refine Exit.then_normal (hK72 _ _ ?_)
                    refine wp_seq_k (fun K hK74 => ?_)
                    refine wp_block ?_
                    refine wp_seq_k (fun K hK75 => ?_)
                    refine wp_region_from ?_
                    obtain ⟨x76, hx76, h⟩ := bs h
                    refine segO 8 [.ix K67 x76] [(136, .kv .bool (x76.1 == r61.1))] (Os := [_]) ⟨(IxAt.of (k := K67) hx76), trivial⟩ hE hH (by kernel_rfl) (fun a hE => ?_)
                    by_cases hc : (x76.1 == r61.1) = true
                    · replace h := ifT hc h
                      have hE := hE.setB 136 (by kernel_rfl) hc
                      obtain ⟨x77, hx77, h⟩ := bs h
                      refine segO 13 [.ix K67 x77] [(149, .kv .bool ((x77.2.1 == r61.2.1) && (decide (r61.1 ≥ z51.2.1))))] (Os := [_]) ⟨(IxAt.of (k := K67) hx77), trivial⟩ hE hH (by kernel_rfl) (fun a hE => ?_)
                      refine wpFrom_end (by kernel_rfl) ?_
                      refine Exit.then_normal (hK75 _ _ ?_)
                      refine condE (b := (x77.2.1 == r61.2.1) && (decide (r61.1 ≥ z51.2.1))) hE (by kernel_rfl) (fun hc => ?_) (fun hc => ?_)
                      · replace h := ifT hc h
                        refine wp_seq_k (fun K hK78 => ?_)
                        refine wp_region_from ?_
                        refine segO 1 [] [(6, .kv .bool true)] (Os := []) trivial hE hH (by kernel_rfl) (fun a hE => ?_)
                        refine wpFrom_end (by kernel_rfl) ?_
                        refine Exit.then_normal (hK78 _ _ ?_)
                        refine wp_ret ?_
                        refine Exit.in_ret ?_
                        refine Exit.then_ret ?_
                        refine Exit.then_ret ?_
                        have hH := hH.drop (fun _ _ _ => rfl)
                        cases h
                        exact hret70 _ rfl _ _ (ret1 rfl hE hle hH (by kernel_rfl))
                      · replace h := ifF hc h
                        refine wp_skip ?_
                        refine Exit.in_normal ?_
                        refine Exit.then_normal (hK74 _ _ ?_)
                        refine wp_region_from ?_
                        refine segO 3 [] [(20, .kv .i (IntKind.wrap .i64 (x67 + 1)))] (Os := []) trivial hE hH (by kernel_rfl) (fun a hE => ?_)
                        refine wpFrom_end (by kernel_rfl) ?_
                        refine Exit.then_normal ?_
                        exact ih71 _ _ h _ _ _  hle (hE.subC (by kernel_rfl)) hH hx69 hret70
                    · replace h := ifN hc h
                      have hE := hE.setB 136 (by kernel_rfl) (bf hc)
                      refine segO 13 [] [(149, .kv .bool false)] (Os := []) trivial hE hH (by kernel_rfl) (fun a hE => ?_)
                      refine wpFrom_end (by kernel_rfl) ?_
                      refine Exit.then_normal (hK75 _ _ ?_)
                      refine condF hE (by kernel_rfl) rfl ?_
                      refine wp_skip ?_
                      refine Exit.in_normal ?_
                      refine Exit.then_normal (hK74 _ _ ?_)
                      refine wp_region_from ?_
                      refine segO 3 [] [(20, .kv .i (IntKind.wrap .i64 (x67 + 1)))] (Os := []) trivial hE hH (by kernel_rfl) (fun a hE => ?_)
                      refine wpFrom_end (by kernel_rfl) ?_
                      refine Exit.then_normal ?_
                      exact ih71 _ _ h _ _ _  hle (hE.subC (by kernel_rfl)) hH hx69 hret70
                  · replace h := ifF hc h
                    refine wp_exit ?_
                    refine Exit.then_exit ?_
                    refine Exit.then_exit ?_
                    cases h
                    exact hx69 _ rfl _ _ _  hle (hE.subC (by kernel_rfl)) hH
                refine key _ _ hrr80 _ _ _  hle (hE.subC (by kernel_rfl)) hH ?_ ?_
                · intro z79 hz a w G  hle hE hH
                  subst hz
                  rw [hQ]
                  dsimp only at h
                  refine Exit.in_eq ?_
                  refine Exit.then_normal (hK65 _ _ ?_)
                  refine wp_seq_k (fun K hK81 => ?_)
                  refine wp_region_from ?_
                  refine segO 1 [] [(6, .kv .bool false)] (Os := []) trivial hE hH (by kernel_rfl) (fun a hE => ?_)
                  refine wpFrom_end (by kernel_rfl) ?_
                  refine Exit.then_normal (hK81 _ _ ?_)
                  refine wp_ret ?_
                  have hH := hH.drop (fun _ _ _ => rfl)
                  cases h
                  exact ret1 rfl hE hle hH (by kernel_rfl)
                · intro yy hz a w hp
                  subst hz
                  dsimp only at h
                  cases h
                  rw [hQ]
                  refine Exit.in_ret ?_
                  refine Exit.then_ret ?_
                  exact hp
        · intro KK hKK ho
          have hj18 : ∀ (a : Act) (w : World) (G : Gh), G0.le G → EnvR G 150 a [(0, .kv (.list K67) p0), (2, .kv (.list .i) p2), (6, .kv .bool false), (7, .kv (.ptr 105) r3.1.1), (9, .kv (.ptr 116) r10.1.1)] → Holds w G (tabs z17) (Ls) → KK .normal a w := fun a w G  h1 h2 h3 => hKK a w ⟨G, h1, h2, h3⟩
          replace h := hz17
          refine condE (b := decide (p1 > 0)) hE (by kernel_rfl) (fun hc => ?_) (fun hc => ?_)
          · replace h := ifT hc h
            refine wp_region_from ?_
            refine segO 3 [] [(48, .kv (.ptr 105) r3.1.1), (50, .kv .i (IntKind.wrap .i64 (p1)))] (Os := []) trivial hE hH (by kernel_rfl) (fun a hE => ?_)
            obtain ⟨r82, hr82, h⟩ := bs h
            refine stepCall (d := (some 51)) (f32_ok hr82) hE hH hN (by kernel_rfl) (by kernel_rfl) trivial (fun a w G hl13 hE hH => ?_)
            have hle := Gh.le_trans hle hl13
            refine wpFrom_end (by kernel_rfl) ?_
            cases h
            exact hj18 _ _ _  hle (hE.subC (by kernel_rfl)) hH
          · replace h := ifF hc h
            refine wp_skip ?_
            cases h
            exact hj18 _ _ _  hle (hE.subC (by kernel_rfl)) hH
end Go.Proofs.Ytlfemhkabjafeaa.M

/- Plain law of the keeper, part 7: what must come at any rate; SnapNone and SnapFew. -/
set_option linter.unusedVariables false
set_option linter.unusedSimpArgs false
namespace Go.Proofs.Ytlfemhkabjafeaa.M

section
variable {σ : St} {k d n0 m : Nat} {A : AD} {ps : List SP} {junk : List FR}

/-- A state saved on a disk that is not armed. -/
theorem save0 (h : KS σ k d n0 m A ps []) (hd : downA A = false) (h0 : armA0 A = 0) {q : Nat} {s : List UInt8} (hq : q ≤ 1099511627776) (hs : s.length ≤ m) (h2 : ps.length ≤ 2) (hr : 3 * ((m : Int) + 14) ≤ A.1) (hm : m ≤ 3000) (hp : ∀ p ∈ ps, p.1 < q) :
    ∃ σ' B, f41 (some k) (q : Int) s σ = some (0, σ') ∧ Fr σ σ' d n0 ∧ B.1 = A.1 ∧ armA0 B = 0 ∧ downA B = false ∧ KS σ' k d n0 m B (lastOf ps ++ [(q, s)]) [] := by
  obtain ⟨σ', B, e, ps', junk', g, r, a, v, ks, ⟨rfl, o2, rfl, rfl⟩ | ⟨o1, o2, o3, o4⟩⟩ := f41_new h hd hq hs h2 hr hm hp
  · exact ⟨σ', B, g, r, a, v h0, o2, ks⟩
  · exact absurd h0 o3

/-- A new disk, and a keeper on it. -/
theorem open_new (σ : St) {R : Int} (m : Nat) (h1 : 0 ≤ R) (h2 : R ≤ 1048576) : ∃ σ1 σ2 A, f18 R σ = some ((some σ.t105.length, 0), σ1) ∧ f38 (some σ.t105.length) nmA σ1 = some ((some σ.t116.length, 0), σ2) ∧ A.1 = R ∧ armA0 A = 0 ∧ downA A = false ∧
    KS σ2 σ.t116.length σ.t105.length σ.t108.length m A [] [] ∧ Fr ((σ.add105 (R, [], 0, false, ())).add116 (some σ.t105.length, nmA, ())) σ2 σ.t105.length σ.t108.length := by
  obtain ⟨e0, h0, k0⟩ := f18_eq (σ := σ) h1 h2
  have hk : SLs m ([] : List FR) [] [] := ⟨List.Perm.refl _, by simp, List.Pairwise.nil, by simp⟩
  obtain ⟨σ2, B, e, v, g, r, a, w, ⟨rfl, rfl, o3, o4⟩ | ⟨o1, o2⟩⟩ := f38_eq h0 k0 (ps := []) (junk := []) (m := m) hk rfl
  · exact ⟨_, σ2, B, e0, g, a, w rfl, o3, o4, r⟩
  · exact absurd rfl o2

/-- What others keep beside a disk and a keeper that are new. -/
structure Keeps2 (σ σ' : St) : Prop where
  keeps : Keeps σ σ'
  t116 : ∀ i, i < σ.t116.length → σ'.t116[i]? = σ.t116[i]?

theorem Keeps2.of {σ' : St} {y : denFs fs105} {z : denFs fs116} (hf : Fr ((σ.add105 y).add116 z) σ' σ.t105.length σ.t108.length) : Keeps2 σ σ' := by
  refine ⟨⟨hf.t47, fun i hi => ?_, fun j hj => hf.t108 j hj, hf.l108⟩, fun i hi => ?_⟩
  · rw [hf.t105 i (by omega) (by simp [St.add105, St.add116]; omega)]
    simp only [St.add105, St.add116]
    rw [List.getElem?_append_left hi]
  · have e : σ'.t116 = ((σ.add105 y).add116 z).t116 := congrArg (·.1) hf.oth
    rw [e]
    simp only [St.add105, St.add116]
    rw [List.getElem?_append_left hi]

theorem KS.keep {σ' : St} (h : KS σ k d n0 m A ps junk) (hk : Keeps2 σ σ') : KS σ' k d n0 m A ps junk := by
  refine ⟨?_, h.dv.keep hk.keeps, h.ok, h.kl⟩
  have hkp : σ.t116[k]? = some (some d, nmA, ()) := h.kp
  show σ'.t116[k]? = _
  rw [hk.t116 k (List.getElem?_eq_some_iff.1 hkp).1]; exact hkp

theorem f39_eq (σ : St) : ∃ σ', f39 σ = some (true, σ') ∧ Keeps2 σ σ' := by
  obtain ⟨σ1, σ2, A, e1, e2, r0, a0, d0, k0, fr⟩ := open_new σ (R := 1000) 1 (by decide) (by decide)
  obtain ⟨σ3, A3, g3, f3, r3, a3, d3, k3⟩ := save0 k0 d0 a0 (q := 3) (s := [97]) (by decide) (by decide) (by decide) (by rw [r0]; decide) (by decide) (by simp)
  have l3 : lastOf [] ++ [((3 : Nat), ([97] : List UInt8))] = [(3, [97])] := rfl
  rw [l3] at k3
  obtain ⟨σ5, A5, g5, f5, r5, a5, d5, k5⟩ := save0 k3 d3 a3 (q := 5) (s := [98]) (by decide) (by decide) (by decide) (by rw [r3, r0]; decide) (by decide) (by simp)
  have l5 : lastOf [((3 : Nat), ([97] : List UInt8))] ++ [((5 : Nat), ([98] : List UInt8))] = [(3, [97]), (5, [98])] := rfl
  rw [l5] at k5
  obtain ⟨σ9, A9, g9, f9, r9, a9, d9, k9⟩ := save0 k5 d5 a5 (q := 9) (s := [99]) (by decide) (by decide) (by decide) (by rw [r5, r3, r0]; decide) (by decide) (by simp)
  have l9 : lastOf [((3 : Nat), ([97] : List UInt8)), ((5 : Nat), ([98] : List UInt8))] ++ [((9 : Nat), ([99] : List UInt8))] = [(5, [98])] ++ [(9, [99])] := rfl
  rw [l9] at k9
  refine ⟨σ9, ?_, Keeps2.of (((fr.trans f3).trans f5).trans f9)⟩
  have e43 := f43_last k9 d9
  have e40 := k9.f40 d9
  have en : nums ([((5 : Nat), ([98] : List UInt8))] ++ [((9 : Nat), ([99] : List UInt8))]) = [5, 9] := rfl
  rw [en] at e40
  have e42 := f42_eq [5, 9] (by decide)
  unfold f39
  rw [e1]
  simp only [Option.bind_eq_bind, Option.bind_some]
  rw [e2]
  simp only [Option.bind_some]
  rw [if_neg (by simp)]
  have g3' : f41 (some σ.t116.length) 3 [97] σ2 = some (0, σ3) := g3
  have g5' : f41 (some σ.t116.length) 5 [98] σ3 = some (0, σ5) := g5
  have g9' : f41 (some σ.t116.length) 9 [99] σ5 = some (0, σ9) := g9
  rw [g3']
  simp only [Option.bind_some]
  rw [if_neg (by simp), g5']
  simp only [Option.bind_some]
  rw [if_neg (by simp), g9']
  simp only [Option.bind_some]
  rw [if_neg (by simp), e43]
  simp only [Option.bind_some]
  rw [if_pos (by simp), e40]
  simp only [Option.bind_some]
  rw [e42]
  rfl

/-! ### SnapNone -/
theorem f11_true {a : K80.den} (σ : St) : ∃ σ', f11 a σ = some (true, σ') := by
  obtain ⟨σ', e, _⟩ := f39_eq σ
  refine ⟨σ', ?_⟩
  unfold f11
  have e1 : f47 none a.2.1 σ = some ([], 1) := by unfold f47; simp
  have e2 : f43 none σ = some (0, [], 1) := by unfold f43; simp
  have e3 : f38 none a.2.2.1 σ = some ((none, 1), σ) := by unfold f38; simp
  have e4 : f41 none a.2.1 a.2.2.1 σ' = some (1, σ') := by unfold f41; simp
  have e5 : f40 none σ' = some [] := by unfold f40; simp
  simp [e1, e2, e3, e, e4, e5]

/-! ### SnapFew -/
/-- The last number; below 0: none. -/
def lastNum (ps : List SP) : Int := match ps.getLast? with
  | none => -1
  | some p => (p.1 : Int)

theorem lastNum_app (pre : List SP) (p : SP) : lastNum (pre ++ [p]) = (p.1 : Int) := by simp [lastNum]

theorem lastNum_le (h : ps.Pairwise (fun p q => p.1 < q.1)) {n : Nat} (hn : lastNum ps < (n : Int)) : ∀ p ∈ ps, p.1 < n := by
  rcases List.eq_nil_or_concat ps with rfl | ⟨pre, l, rfl⟩
  · simp
  · rw [List.concat_eq_append] at *
    rw [lastNum_app] at hn
    have hpw := List.pairwise_append.1 h
    intro p hp
    rcases List.mem_append.1 hp with hp | hp
    · have := hpw.2.2 p hp l (by simp)
      omega
    · simp only [List.mem_cons, List.not_mem_nil, or_false] at hp
      subst hp; omega

theorem lastNum_mem {n : Nat} (hn : (n : Int) ≤ lastNum ps) : ∃ p ∈ ps, n ≤ p.1 := by
  rcases List.eq_nil_or_concat ps with rfl | ⟨pre, l, rfl⟩
  · simp [lastNum] at hn; omega
  · rw [List.concat_eq_append] at *
    rw [lastNum_app] at hn
    exact ⟨l, by simp, by omega⟩

theorem lastOf_len (ps : List SP) : (lastOf ps).length ≤ 1 := by
  unfold lastOf
  rw [List.length_drop]; omega

theorem f9_loop {l : List K67.den} {r5 : ((Option Nat) × Int) × St} (h5 : r5.1.1 = some k) : ∀ (j n : Nat) (σ : St) (A : AD) (ps : List SP), n + j = 20 → KS σ k d n0 3000 A ps [] → downA A = false → armA0 A = 0 → A.1 = 100000 → ps.length ≤ 2 →
    ∃ x i σ', f9_l0 l r5 (lastNum ps) (n : Int) σ = some (.inl (x, i, σ'))
  | 0, n, σ, A, ps, hn, hk, hd, h0, hr, h2 => by
    rw [f9_l0]
    have : n = 20 := by omega
    subst this
    exact ⟨lastNum ps, ((20 : Nat) : Int), σ, by simp⟩
  | j + 1, n, σ, A, ps, hn, hk, hd, h0, hr, h2 => by
    rw [f9_l0]
    have c2 : ((n : Int) < 20) := by omega
    have hw : IntKind.wrap .i64 ((n : Int) + 1) = ((n + 1 : Nat) : Int) := by rw [wrap_id (by omega) (by omega)]; omega
    by_cases hl : n < l.length
    case neg =>
      have h1 : ¬ ((n : Int) < (l.length : Int)) := by omega
      exact ⟨lastNum ps, (n : Int), σ, by simp [h1]⟩
    have h1 : ((n : Int) < (l.length : Int)) := by omega
    obtain ⟨a, s, hx⟩ : ∃ (a : Int) (s : List UInt8), l[n] = (a, s, ()) := ⟨l[n].1, l[n].2.1, rfl⟩
    simp only [h1, c2, decide_true, Bool.and_self, if_true, ix_at hl, hx, Option.bind_eq_bind, Option.bind_some, hw, h5]
    by_cases c3 : 3000 < s.length
    · rw [if_pos (by simp; omega)]
      exact f9_loop h5 j (n + 1) σ A ps (by omega) hk hd h0 hr h2
    rw [if_neg (by simp; omega), hk.f40 hd]
    simp only [Option.bind_some]
    have hnl : (nums ps).length < 9223372036854775808 := by simp [nums]; omega
    have e42 := f42_eq (nums ps) hnl
    by_cases c4 : a < 0
    · rw [f41_range (.inl c4)]
      simp only [Option.bind_some]
      rw [if_pos (by simpa using c4), if_neg (by decide), hk.f40 hd]
      simp only [Option.bind_some, e42]
      rw [if_neg (by decide)]
      exact f9_loop h5 j (n + 1) σ A ps (by omega) hk hd h0 hr h2
    by_cases c5 : 1099511627776 < a
    · rw [f41_range (.inr c5)]
      simp only [Option.bind_some]
      rw [if_neg (by simpa using c4), if_pos (by simpa using c5), if_neg (by decide), hk.f40 hd]
      simp only [Option.bind_some, e42]
      rw [if_neg (by decide)]
      exact f9_loop h5 j (n + 1) σ A ps (by omega) hk hd h0 hr h2
    obtain ⟨q, hq⟩ : ∃ q : Nat, a = (q : Int) := ⟨a.toNat, by omega⟩
    have hq2 : q ≤ 1099511627776 := by omega
    by_cases c6 : a ≤ lastNum ps
    · obtain ⟨p, hp, hle⟩ := lastNum_mem (ps := ps) (n := q) (by omega)
      have e41 : f41 (some k) a s σ = some (9, σ) := by rw [hq]; exact f41_old hk hd hq2 hp hle
      rw [e41]
      simp only [Option.bind_some]
      rw [if_neg (by simpa using c4), if_neg (by simpa using c5), if_pos (by simpa using c6), if_neg (by decide), hk.f40 hd]
      simp only [Option.bind_some, e42]
      rw [if_neg (by decide)]
      exact f9_loop h5 j (n + 1) σ A ps (by omega) hk hd h0 hr h2
    · obtain ⟨σ', B, g, r, ra, v, dn, ks⟩ := save0 hk hd h0 (q := q) (s := s) hq2 (by omega) h2 (by rw [hr]; decide) (by decide) (lastNum_le hk.kl.rise (by omega))
      have e41 : f41 (some k) a s σ = some (0, σ') := by rw [hq]; exact g
      rw [e41]
      have e43 := f43_last ks dn
      have hl1 := lastOf_len ps
      simp only [Option.bind_some]
      rw [if_neg (by simpa using c4), if_neg (by simpa using c5), if_neg (by simpa using c6), e43]
      simp only [Option.bind_some]
      rw [if_neg (by decide), if_neg (by simp [hq]), if_neg (by simp), ks.f40 dn]
      simp only [Option.bind_some]
      rw [if_neg (by simp [nums]; omega)]
      have := f9_loop (l := l) h5 j (n + 1) σ' B (lastOf ps ++ [(q, s)]) (by omega) ks dn v (ra.trans hr) (by rw [List.length_append]; simp only [List.length_cons, List.length_nil]; omega)
      rw [lastNum_app] at this
      rw [hq]; exact this

theorem f9_true {l : List K67.den} (σ : St) : ∃ σ', f9 l σ = some (true, σ') := by
  obtain ⟨σ1, σ2, A, e1, e2, r0, a0, d0, k0, fr⟩ := open_new σ (R := 100000) 3000 (by decide) (by decide)
  obtain ⟨σ3, e3, hk⟩ := f39_eq σ2
  obtain ⟨x, i, σ', e4⟩ := f9_loop (l := l) (r5 := ((some σ.t116.length, 0), σ2)) rfl 20 0 σ3 A [] (by omega) (k0.keep hk) d0 a0 r0 (by decide)
  refine ⟨σ', ?_⟩
  have e4' : f9_l0 l ((some σ.t116.length, 0), σ2) (-1) 0 σ3 = some (.inl (x, i, σ')) := e4
  unfold f9
  rw [e1]
  simp only [Option.bind_eq_bind, Option.bind_some]
  rw [e2]
  simp only [Option.bind_some]
  rw [if_neg (by simp), e3]
  simp only [Option.bind_some]
  rw [if_neg (by simp), e4']
  rfl
end
end Go.Proofs.Ytlfemhkabjafeaa.M

/- Own library, part 27: bound function values; results that are known to the letter. -/
set_option linter.unusedVariables false
set_option linter.unusedSimpArgs false
namespace Go.Proofs.Ytlfemhkabjafeaa.M

section
variable {P : Program} {w : World} {G : Gh} {T T' : Tabs} {Ls : List LS} {a : Act} {N : Nat} {E : Env} {ops : Array Oper} {Q : Exit → Act → World → Prop}

def mfbE (ops : Array Oper) (E : Env) (i : Nat) : Option (Nat × KV × Option Nat) :=
  match ops[i]? with
  | some o => (match goes ops (look E []) o, o.op with
    | true, .makeFunc (.func f) first caps => (match first.toList, caps.toList with
      | [x], [] => (match opnd (look E []) [] x with
        | some (.kv k x) => some (f, ⟨k, x⟩, o.dst)
        | _ => none)
      | _, _ => none)
    | _, _ => none)
  | none => none

/-- A function value that is bound to its first argument. -/
theorem stepMFB {f : Nat} {k : Kd} {x : k.den} {d : Option Nat} {i : Nat} (hE : EnvR G N a E) (hb : mfbE ops E i = some (f, ⟨k, x⟩, d)) (hd : dstOK d N = true)
    (h : ∀ a', EnvR G N a' (putE d (.bnd f k x) E) → wpFrom P ops Q (i + 1) a' w) : wpFrom P ops Q i a w := by
  unfold mfbE at hb
  split at hb
  · rename_i o ho
    split at hb
    · rename_i f' first caps hg hop
      split at hb
      · rename_i y hf hc
        split at hb
        · rename_i k' x' hx
          simp only [Option.some.injEq, Prod.mk.injEq] at hb
          obtain ⟨rfl, hkx, rfl⟩ := hb
          cases hkx
          have hv := opnd_ok (CurR_start hE) (by simp) hx
          have hf' : first = #[y] := by apply Array.ext'; simpa using hf
          have hc' : caps = #[] := by apply Array.ext'; simpa using hc
          subst hf'; subst hc'
          refine wpFrom_value ho (goes_ok (CurR_start hE) hg) (v := .func (.func f') #[a.eval y] #[]) (w' := w) ?_ (h _ (hE.putO hd ⟨_, rfl, hv⟩))
          simp only [execOp, hop]
          refine run_val ?_
          simp [Instr.makeFunc]
        · simp at hb
      · simp at hb
    · simp at hb
  · simp at hb

def callBE (ops : Array Oper) (E : Env) (i : Nat) (ws : List En) : Option (Nat × KV × List En × Option Nat) :=
  match ops[i]? with
  | some o => (match goes ops (look E []) o with
    | true => (match o.op with
      | .call c => (match c.callee with
        | .value x => (match opnd (look E []) [] x with
          | some (.bnd f k x) => (match enOps (look E []) ws c.args.toList with
            | some es => some (f, ⟨k, x⟩, es, o.dst)
            | none => none)
          | _ => none)
        | _ => none)
      | _ => none)
    | false => none)
  | none => none

theorem stepCallB {i f : Nat} {k : Kd} {x : k.den} {As : List En} {R : En} {d : Option Nat} (hS : Spec P f (.kv k x :: As) T R T') (hE : EnvR G N a E) (hH : Holds w G T Ls) (hN : NoHole Ls)
    (hc : callBE ops E i As = some (f, ⟨k, x⟩, As, d)) (hd : dstOK d N = true)
    (h : ∀ a' w' G', G.le G' → EnvR G' N a' (putE d R E) → Holds w' G' T' Ls → wpFrom P ops Q (i + 1) a' w') : wpFrom P ops Q i a w := by
  unfold callBE at hc
  split at hc
  · rename_i o ho
    split at hc
    · rename_i hgo
      have hw := goes_ok (CurR_start hE) hgo
      split at hc
      · rename_i c hop
        split at hc
        · rename_i y hcal
          split at hc
          · rename_i f' k' x' hx
            split at hc
            · rename_i es hes
              simp only [Option.some.injEq, Prod.mk.injEq] at hc
              obtain ⟨rfl, hkx, rfl, rfl⟩ := hc
              cases hkx
              obtain ⟨u, hv, hu⟩ := opnd_ok (CurR_start hE) (by simp) hx
              rw [wpFrom_cons ho, if_pos hw]
              refine .inl ?_
              unfold Oper.wp
              have hr : (execOp a.eval o).run P w = .ok (.enter f' (u :: c.args.toList.map a.eval).toArray) w := by
                have hargs : #[u] ++ (c.args.map a.eval) = (u :: c.args.toList.map a.eval).toArray := by
                  apply Array.ext'; simp
                simp [execOp, hop, resolve, hcal, hv, Deferred.ofValue, invoke, callFunc_enter hS.ok, ← hargs]
              rw [hr]
              refine (hS.run (u :: c.args.toList.map a.eval) w G Ls (show All2 (EnR G) (_ :: _) (u :: _) from ⟨hu, enOps_ok (CurR_start hE) hes⟩) hH hN).mono ?_
              intro e w' hp
              cases e with
              | returned v =>
                obtain ⟨G', hle, hv, hH'⟩ := hp
                exact h _ _ G' hle ((hE.mono hle).putO hd hv) hH'
              | panicked c => exact hp.elim
              | outgrown => exact False.elim hp
            · simp at hc
          · simp at hc
        · simp at hc
      · simp at hc
    · simp at hc
  · simp at hc

def extE (ops : Array Oper) (E : Env) (i : Nat) : Option (Value × Option Nat) :=
  match ops[i]? with
  | some o => (match goes ops (look E []) o, o.op with
    | true, .extract x j => (match opnd (look E []) [] x with
      | some (.val (.tuple vs)) => (match vs.toList[j]? with
        | some v => some (v, o.dst)
        | none => none)
      | _ => none)
    | _, _ => none)
  | none => none

/-- A part of a result that is known to the letter. -/
theorem stepExtV {v : Value} {e : En} {d : Option Nat} {i : Nat} (hE : EnvR G N a E) (hb : extE ops E i = some (v, d)) (hd : dstOK d N = true) (he : EnR G e v)
    (h : ∀ a', EnvR G N a' (putE d e E) → wpFrom P ops Q (i + 1) a' w) : wpFrom P ops Q i a w := by
  unfold extE at hb
  split at hb
  · rename_i o ho
    split at hb
    · rename_i x j hg hop
      split at hb
      · rename_i vs hx
        split at hb
        · rename_i v' hj
          simp only [Option.some.injEq, Prod.mk.injEq] at hb
          obtain ⟨rfl, rfl⟩ := hb
          have hv := opnd_ok (CurR_start hE) (by simp) hx
          simp only [EnR] at hv
          have hj' : vs[j]? = some v' := by rw [← Array.getElem?_toList]; exact hj
          refine wpFrom_value ho (goes_ok (CurR_start hE) hg) (v := v') (w' := w) ?_ (h _ (hE.putO hd he))
          simp only [execOp, hop, hv]
          refine run_val ?_
          simp [Instr.extract, hj']
        · simp at hb
      · simp at hb
    · simp at hb
  · simp at hb

def skipE (ops : Array Oper) (E : Env) (i : Nat) : Option (Option Nat) :=
  match ops[i]? with
  | some o => (match o.guard with
    | some (j, want) => (match (ops[j]?).bind (·.dst) with
      | some sj => (match lk E sj with
        | some (.kv .bool b) => (match b, want with
          | true, false => some o.dst
          | false, true => some o.dst
          | _, _ => none)
        | some .undef => some o.dst
        | _ => none)
      | none => none)
    | none => none)
  | none => none

/-- An operation whose guard does not hold. -/
theorem stepSkip {d : Option Nat} {i : Nat} (hE : EnvR G N a E) (hb : skipE ops E i = some d) (hd : dstOK d N = true)
    (k : ∀ a', EnvR G N a' (putE d .undef E) → wpFrom P ops Q (i + 1) a' w) : wpFrom P ops Q i a w := by
  unfold skipE at hb
  split at hb
  · rename_i o ho
    split at hb
    · rename_i j want hg
      split at hb
      · rename_i sj hj
        have go : a.tmps.getD sj Go.undef ≠ .bool want → o.dst = d → wpFrom P ops Q i a w := by
          intro h1 h2
          have hw : Region.wanted o (yielded ops a.tmps) = false := by
            unfold Region.wanted
            rw [hg]
            cases hy : (yielded ops a.tmps j == some want) with
            | false => exact hy
            | true => exact absurd ((yielded_iff hj want).1 hy) h1
          rw [wpFrom_cons ho, hw]
          refine k _ ?_
          rw [h2]
          exact hE.putO hd rfl
        split at hb
        · rename_i b hl
          have hs := unB (hE.2.2 _ _ hl)
          split at hb
          · simp only [Option.some.injEq] at hb; exact go (by rw [hs]; simp) hb
          · simp only [Option.some.injEq] at hb; exact go (by rw [hs]; simp) hb
          · simp at hb
        · rename_i hl
          have hs : a.tmps.getD sj Go.undef = Go.undef := hE.2.2 _ _ hl
          simp only [Option.some.injEq] at hb; exact go (by rw [hs]; simp [Go.undef]) hb
        · simp at hb
      · simp at hb
    · simp at hb
  · simp at hb

theorem wp_scope_in {c : Code} (h : c.wp P (Exit.noGoto Q) a w) : (Code.scope c).wp P Q a w := wp_scope_straight h
theorem Exit.sc_normal (h : Q .normal a w) : Exit.noGoto Q .normal a w := h
theorem Exit.sc_exit {id : Nat} (h : Q (.exit id) a w) : Exit.noGoto Q (.exit id) a w := h
theorem Exit.sc_ret (h : Q .ret a w) : Exit.noGoto Q .ret a w := h

/-- The newest own list, as it is seen. -/
theorem Holds.tl0 {v : Value} {e bt : Nat} {K : Kd} {xs : List K.den} (hH : Holds w G T (.tk v e bt K xs :: Ls)) : EnR G (.tl v K xs) v :=
  ⟨rfl, ownV_list (hH.loc _ List.mem_cons_self)⟩
end
end Go.Proofs.Ytlfemhkabjafeaa.M

/- Printed by own program: twins and walks. -/
set_option linter.unusedVariables false
set_option maxRecDepth 100000
namespace Go.Proofs.Ytlfemhkabjafeaa.M
open Go.Proofs (Try.prog Try.func95 Try.f95 Try.func97 Try.f97 Try.func55 Try.f55 Try.func116 Try.f116 Try.func98 Try.f98 Try.func61 Try.f61 Try.func140 Try.f140 Try.func114 Try.f114)

def f95_l0 (p0 : List UInt8) (x4 : Int) : Option (Sum Int Bool) :=
  if (decide (x4 < (p0.length : Int))) = true then
  if (0 : Int) ≤ x4 ∧ x4 < (p0.length : Int) then
  if (decide ((btS p0 x4) < 97)) = true then
  some (.inr false)
  else
  if (0 : Int) ≤ x4 ∧ x4 < (p0.length : Int) then
  if (decide ((btS p0 x4) > 122)) = true then
  some (.inr false)
  else
  f95_l0 p0 (IntKind.wrap .i64 (x4 + 1))
  else none
  else none
  else
  some (.inl x4)
  partial_fixpoint

def f95 (p0 : List UInt8) : Option Bool :=
  f95_l0 p0 0 >>= fun rr19 => (match rr19 with
  | .inr yy => some yy
  | .inl z18 =>
  some ((decide ((p0.length : Int) ≥ 1)) && (decide ((p0.length : Int) ≤ 8))))

theorem f95_ok {p0 : List UInt8} {σ : St} {p : Bool} (h : f95 p0 = some p) : Spec Try.prog 95 [.kv .str p0] (tabs σ) (.kv .bool p) (tabs σ) := by
  refine Spec.intro Try.func95 (by kernel_rfl) rfl (by kernel_rfl) (fun a w G0 Ls hE hH hN => ?_)
  have hle : G0.le G0 := Gh.le_refl G0
  unfold f95 at h
  refine wp_seq_k (fun K hK1 => ?_)
  refine wp_region_from ?_
  refine segO 1 [] [(2, .kv .bool false)] (Os := []) trivial hE hH (by kernel_rfl) (fun a hE => ?_)
  refine wpFrom_end (by kernel_rfl) ?_
  refine Exit.then_normal (hK1 _ _ ?_)
  refine wp_seq_k (fun K hK2 => ?_)
  refine wp_seq_k (fun K hK3 => ?_)
  refine wp_region_from ?_
  refine segO 3 [] [(5, .kv .i (p0.length : Int)), (6, .kv .i 0)] (Os := []) trivial hE hH (by kernel_rfl) (fun a hE => ?_)
  refine wpFrom_end (by kernel_rfl) ?_
  refine Exit.then_normal (hK3 _ _ ?_)
  refine wp_block ?_
  obtain ⟨rr19, hrr19, h⟩ := bs h
  refine loop_intro (fun Q5 c hQ hc => ?_)
  have key : ∀ (x4 : Int) (rr : Sum Int Bool), f95_l0 p0 x4 = some rr → ∀ (a : Act) (w : World) (G : Gh), G0.le G → EnvR G 28 a [(0, .kv .str p0), (2, .kv .bool false), (5, .kv .i (p0.length : Int)), (6, .kv .i x4)] → Holds w G (tabs σ) (Ls) → (∀ z18 : Int, rr = .inl z18 → ∀ (a : Act) (w : World) (G : Gh), G0.le G → EnvR G 28 a [(0, .kv .str p0), (2, .kv .bool false), (5, .kv .i (p0.length : Int)), (6, .kv .i z18)] → Holds w G (tabs σ) (Ls) → Q5 (.exit 0) a w) → (∀ yy : Bool, rr = .inr yy → ∀ (a : Act) (w : World), PostB Try.prog Try.f95 G0 (.kv .bool yy) (tabs σ) Ls .ret a w → Q5 .ret a w) → Rnd Try.prog c Q5 a w := by
    refine f95_l0.partial_correctness p0 _ ?_
    intro self ih8 x4 rr h a w G  hle hE hH hx6 hret7
    refine rnd_step' hc ?_
    refine wp_seq_k (fun K hK9 => ?_)
    refine wp_region_from ?_
    refine segO 1 [] [(7, .kv .bool (decide (x4 < (p0.length : Int))))] (Os := []) trivial hE hH (by kernel_rfl) (fun a hE => ?_)
    refine wpFrom_end (by kernel_rfl) ?_
    refine Exit.then_normal (hK9 _ _ ?_)
    refine wp_seq_k (fun K hK10 => ?_)
    refine condE (b := decide (x4 < (p0.length : Int))) hE (by kernel_rfl) (fun hc => ?_) (fun hc => ?_)
    · replace h := ifT hc h
      refine wp_skip ?_
      refine Exit.then_normal (hK10 _ _ ?_)
      refine wp_seq_k (fun K hK11 => ?_)
      refine wp_block ?_
      refine wp_seq_k (fun K hK12 => ?_)
      refine wp_region_from ?_
      refine segO 2 [] [(3, .kv .i x4)] (Os := []) trivial hE hH (by kernel_rfl) (fun a hE => ?_)
      refine wpFrom_end (by kernel_rfl) ?_
      refine Exit.then_normal (hK12 _ _ ?_)
      refine wp_seq_k (fun K hK13 => ?_)
      refine wp_region_from ?_
      obtain ⟨q14, h⟩ := gd h
      refine segO 5 [] [(13, .kv .bool (decide ((btS p0 x4) < 97)))] (Os := [_]) ⟨q14, trivial⟩ hE hH (by kernel_rfl) (fun a hE => ?_)
      by_cases hc : (decide ((btS p0 x4) < 97)) = true
      · replace h := ifT hc h
        have hE := hE.setB 13 (by kernel_rfl) hc
        refine segO 5 [] [(18, .kv .bool true)] (Os := []) trivial hE hH (by kernel_rfl) (fun a hE => ?_)
        refine wpFrom_end (by kernel_rfl) ?_
        refine Exit.then_normal (hK13 _ _ ?_)
        refine condT hE (by kernel_rfl) rfl ?_
        refine wp_seq_k (fun K hK15 => ?_)
        refine wp_region_from ?_
        refine segO 1 [] [(2, .kv .bool false)] (Os := []) trivial hE hH (by kernel_rfl) (fun a hE => ?_)
        refine wpFrom_end (by kernel_rfl) ?_
        refine Exit.then_normal (hK15 _ _ ?_)
        refine wp_ret ?_
        refine Exit.in_ret ?_
        refine Exit.then_ret ?_
        refine Exit.then_ret ?_
        cases h
        exact hret7 _ rfl _ _ (ret1 rfl hE hle hH (by kernel_rfl))
      · replace h := ifN hc h
        have hE := hE.setB 13 (by kernel_rfl) (bf hc)
        obtain ⟨q16, h⟩ := gd h
        refine segO 5 [] [(18, .kv .bool (decide ((btS p0 x4) > 122)))] (Os := [_]) ⟨q16, trivial⟩ hE hH (by kernel_rfl) (fun a hE => ?_)
        refine wpFrom_end (by kernel_rfl) ?_
        refine Exit.then_normal (hK13 _ _ ?_)
        refine condE (b := decide ((btS p0 x4) > 122)) hE (by kernel_rfl) (fun hc => ?_) (fun hc => ?_)
        · replace h := ifT hc h
          refine wp_seq_k (fun K hK17 => ?_)
          refine wp_region_from ?_
          refine segO 1 [] [(2, .kv .bool false)] (Os := []) trivial hE hH (by kernel_rfl) (fun a hE => ?_)
          refine wpFrom_end (by kernel_rfl) ?_
          refine Exit.then_normal (hK17 _ _ ?_)
          refine wp_ret ?_
          refine Exit.in_ret ?_
          refine Exit.then_ret ?_
          refine Exit.then_ret ?_
          cases h
          exact hret7 _ rfl _ _ (ret1 rfl hE hle hH (by kernel_rfl))
        · replace h := ifF hc h
          refine wp_skip ?_
          refine Exit.in_normal ?_
          refine Exit.then_normal (hK11 _ _ ?_)
          refine wp_region_from ?_
          refine segO 2 [] [(6, .kv .i (IntKind.wrap .i64 (x4 + 1)))] (Os := []) trivial hE hH (by kernel_rfl) (fun a hE => ?_)
          refine wpFrom_end (by kernel_rfl) ?_
          refine Exit.then_normal ?_
          exact ih8 _ _ h _ _ _  hle (hE.subC (by kernel_rfl)) hH hx6 hret7
    · replace h := ifF hc h
      refine wp_exit ?_
      refine Exit.then_exit ?_
      refine Exit.then_exit ?_
      cases h
      exact hx6 _ rfl _ _ _  hle (hE.subC (by kernel_rfl)) hH
  refine key _ _ hrr19 _ _ _  hle (hE.subC (by kernel_rfl)) hH ?_ ?_
  · intro z18 hz a w G  hle hE hH
    subst hz
    rw [hQ]
    dsimp only at h
    refine Exit.in_eq ?_
    refine Exit.then_normal (hK2 _ _ ?_)
    refine wp_seq_k (fun K hK20 => ?_)
    refine wp_region_from ?_
    refine segO 9 [] [(2, .kv .bool ((decide ((p0.length : Int) ≥ 1)) && (decide ((p0.length : Int) ≤ 8))))] (Os := []) trivial hE hH (by kernel_rfl) (fun a hE => ?_)
    refine wpFrom_end (by kernel_rfl) ?_
    refine Exit.then_normal (hK20 _ _ ?_)
    refine wp_ret ?_
    cases h
    exact ret1 rfl hE hle hH (by kernel_rfl)
  · intro yy hz a w hp
    subst hz
    dsimp only at h
    cases h
    rw [hQ]
    refine Exit.in_ret ?_
    refine Exit.then_ret ?_
    exact hp

def f97 (p0 : Option Nat) (σ : St) : Option (Option Nat) :=
  p0 >>= fun i4 =>
  (σ.t128[i4]?) >>= fun o5 =>
  if ((o5.2.2.2.1.length : Int) == 0) = true then
  some none
  else
  (ix o5.2.2.2.1 (IntKind.wrap .i64 ((o5.2.2.2.1.length : Int) - 1))) >>= fun x8 =>
  some x8

theorem f97_ok {p0 : Option Nat} {σ : St} {p : Option Nat} (h : f97 p0 σ = some p) : Spec Try.prog 97 [.kv (.ptr 128) p0] (tabs σ) (.kv (.ptr 130) p) (tabs σ) := by
  refine Spec.intro Try.func97 (by kernel_rfl) rfl (by kernel_rfl) (fun a w G0 Ls hE hH hN => ?_)
  have hle : G0.le G0 := Gh.le_refl G0
  unfold f97 at h
  refine wp_seq_k (fun K hK1 => ?_)
  refine wp_region_from ?_
  refine segO 1 [] [(2, .val (.pointer none))] (Os := []) trivial hE hH (by kernel_rfl) (fun a hE => ?_)
  refine wpFrom_end (by kernel_rfl) ?_
  refine Exit.then_normal (hK1 _ _ ?_)
  refine wp_seq_k (fun K hK2 => ?_)
  refine wp_seq_k (fun K hK3 => ?_)
  refine wp_region_from ?_
  obtain ⟨i4, hi4, h⟩ := bs h
  obtain ⟨o5, ho5, h⟩ := bs h
  refine segO 6 [.pt i4, .ob fs128 o5] [(8, .kv .bool ((o5.2.2.2.1.length : Int) == 0))] (Os := [_, _, _]) ⟨hi4, (ob128 (s := σ) ho5), (hN _ _ _ : holeAt 128 i4 3 (Ls) = none), trivial⟩ hE hH (by kernel_rfl) (fun a hE => ?_)
  refine wpFrom_end (by kernel_rfl) ?_
  refine Exit.then_normal (hK3 _ _ ?_)
  refine condE (b := (o5.2.2.2.1.length : Int) == 0) hE (by kernel_rfl) (fun hc => ?_) (fun hc => ?_)
  · replace h := ifT hc h
    refine wp_seq_k (fun K hK6 => ?_)
    refine wp_region_from ?_
    refine segO 1 [] [(2, .val (.pointer none))] (Os := []) trivial hE hH (by kernel_rfl) (fun a hE => ?_)
    refine wpFrom_end (by kernel_rfl) ?_
    refine Exit.then_normal (hK6 _ _ ?_)
    refine wp_ret ?_
    refine Exit.then_ret ?_
    cases h
    exact ret1 rfl hE hle hH (by kernel_rfl)
  · replace h := ifF hc h
    refine wp_skip ?_
    refine Exit.then_normal (hK2 _ _ ?_)
    refine wp_seq_k (fun K hK7 => ?_)
    refine region_par 10 [] [(0, 0), (0, 0), (0, 0), (0, 0), (0, 0), (0, 0), (0, 0), (0, 0), (0, 0), (0, 0)] [.kv (.ptr 128) p0, .kv (.ptr 128) (some i4), .fldA 128 i4 3, .kv (.list (.ptr 130)) o5.2.2.2.1, .kv (.ptr 128) p0, .kv (.ptr 128) (some i4), .fldA 128 i4 3, .kv (.list (.ptr 130)) o5.2.2.2.1, .kv .i (o5.2.2.2.1.length : Int), .kv .i (IntKind.wrap .i64 ((o5.2.2.2.1.length : Int) - 1))] (fun _ => tabs σ) (fun _ => Ls) (by kernel_rfl) (by kernel_rfl) hE hH
            ⟨⟨⟨⟨⟨⟨⟨⟨⟨⟨trivial,
            anyk (fun k => obR [] (Os := []) trivial (by kernel_rfl) (by kernel_rfl))⟩,
            anyk (fun k => obR [.pt i4] (Os := [_]) ⟨hi4, trivial⟩ (by kernel_rfl) (by kernel_rfl))⟩,
            anyk (fun k => obR [] (Os := []) trivial (by kernel_rfl) (by kernel_rfl))⟩,
            anyk (fun k => obR [.ob fs128 o5] (Os := [_, _]) ⟨(ob128 (s := σ) ho5), (hN _ _ _ : holeAt 128 i4 3 (Ls) = none), trivial⟩ (by kernel_rfl) (by kernel_rfl))⟩,
            anyk (fun k => obR [] (Os := []) trivial (by kernel_rfl) (by kernel_rfl))⟩,
            anyk (fun k => obR [.pt i4] (Os := [_]) ⟨hi4, trivial⟩ (by kernel_rfl) (by kernel_rfl))⟩,
            anyk (fun k => obR [] (Os := []) trivial (by kernel_rfl) (by kernel_rfl))⟩,
            anyk (fun k => obR [.ob fs128 o5] (Os := [_, _]) ⟨(ob128 (s := σ) ho5), (hN _ _ _ : holeAt 128 i4 3 (Ls) = none), trivial⟩ (by kernel_rfl) (by kernel_rfl))⟩,
            anyk (fun k => obR [] (Os := []) trivial (by kernel_rfl) (by kernel_rfl))⟩,
            anyk (fun k => obR [] (Os := []) trivial (by kernel_rfl) (by kernel_rfl))⟩ (fun a w G hl1 hE hH => ?_)
    have hle := Gh.le_trans hle hl1
    obtain ⟨x8, hx8, h⟩ := bs h
    refine segO 3 [.ix (.ptr 130) x8] [(2, .kv (.ptr 130) x8)] (Os := [_]) ⟨(IxAt.of (k := (.ptr 130)) hx8), trivial⟩ hE hH (by kernel_rfl) (fun a hE => ?_)
    refine wpFrom_end (by kernel_rfl) ?_
    refine Exit.then_normal (hK7 _ _ ?_)
    refine wp_ret ?_
    cases h
    exact ret1 rfl hE hle hH (by kernel_rfl)

def f55 (p0 : Option Nat) (σ : St) : Option Int :=
  if p0.isNone = true then
  some 0
  else
  p0 >>= fun i5 =>
  (σ.t128[i5]?) >>= fun o6 =>
  if ((o6.2.2.2.1.length : Int) == 0) = true then
  some 0
  else
  f97 p0 σ >>= fun r9 =>
  r9 >>= fun i11 =>
  (σ.t130[i11]?) >>= fun o12 =>
  some (IntKind.wrap .i64 (o12.1 + (o12.2.1.length : Int)))

theorem f55_ok {p0 : Option Nat} {σ : St} {p : Int} (h : f55 p0 σ = some p) : Spec Try.prog 55 [.kv (.ptr 128) p0] (tabs σ) (.kv .i p) (tabs σ) := by
  refine Spec.intro Try.func55 (by kernel_rfl) rfl (by kernel_rfl) (fun a w G0 Ls hE hH hN => ?_)
  have hle : G0.le G0 := Gh.le_refl G0
  unfold f55 at h
  refine wp_seq_k (fun K hK1 => ?_)
  refine wp_region_from ?_
  refine segO 1 [] [(2, .kv .i 0)] (Os := []) trivial hE hH (by kernel_rfl) (fun a hE => ?_)
  refine wpFrom_end (by kernel_rfl) ?_
  refine Exit.then_normal (hK1 _ _ ?_)
  refine wp_seq_k (fun K hK2 => ?_)
  refine wp_seq_k (fun K hK3 => ?_)
  refine wp_region_from ?_
  refine segO 3 [] [(6, .kv .bool p0.isNone)] (Os := []) trivial hE hH (by kernel_rfl) (fun a hE => ?_)
  by_cases hc : p0.isNone = true
  · replace h := ifT hc h
    have hE := hE.setB 6 (by kernel_rfl) hc
    refine segO 7 [] [(13, .kv .bool true)] (Os := []) trivial hE hH (by kernel_rfl) (fun a hE => ?_)
    refine wpFrom_end (by kernel_rfl) ?_
    refine Exit.then_normal (hK3 _ _ ?_)
    refine condT hE (by kernel_rfl) rfl ?_
    refine wp_seq_k (fun K hK4 => ?_)
    refine wp_region_from ?_
    refine segO 1 [] [(2, .kv .i 0)] (Os := []) trivial hE hH (by kernel_rfl) (fun a hE => ?_)
    refine wpFrom_end (by kernel_rfl) ?_
    refine Exit.then_normal (hK4 _ _ ?_)
    refine wp_ret ?_
    refine Exit.then_ret ?_
    cases h
    exact ret1 rfl hE hle hH (by kernel_rfl)
  · replace h := ifN hc h
    have hE := hE.setB 6 (by kernel_rfl) (bf hc)
    obtain ⟨i5, hi5, h⟩ := bs h
    obtain ⟨o6, ho6, h⟩ := bs h
    refine segO 7 [.pt i5, .ob fs128 o6] [(13, .kv .bool ((o6.2.2.2.1.length : Int) == 0))] (Os := [_, _, _]) ⟨hi5, (ob128 (s := σ) ho6), (hN _ _ _ : holeAt 128 i5 3 (Ls) = none), trivial⟩ hE hH (by kernel_rfl) (fun a hE => ?_)
    refine wpFrom_end (by kernel_rfl) ?_
    refine Exit.then_normal (hK3 _ _ ?_)
    refine condE (b := (o6.2.2.2.1.length : Int) == 0) hE (by kernel_rfl) (fun hc => ?_) (fun hc => ?_)
    · replace h := ifT hc h
      refine wp_seq_k (fun K hK7 => ?_)
      refine wp_region_from ?_
      refine segO 1 [] [(2, .kv .i 0)] (Os := []) trivial hE hH (by kernel_rfl) (fun a hE => ?_)
      refine wpFrom_end (by kernel_rfl) ?_
      refine Exit.then_normal (hK7 _ _ ?_)
      refine wp_ret ?_
      refine Exit.then_ret ?_
      cases h
      exact ret1 rfl hE hle hH (by kernel_rfl)
    · replace h := ifF hc h
      refine wp_skip ?_
      refine Exit.then_normal (hK2 _ _ ?_)
      refine wp_seq_k (fun K hK8 => ?_)
      refine wp_region_from ?_
      refine segO 1 [] [(14, .kv (.ptr 128) p0)] (Os := []) trivial hE hH (by kernel_rfl) (fun a hE => ?_)
      obtain ⟨r9, hr9, h⟩ := bs h
      refine stepCall (d := (some 15)) (f97_ok hr9) hE hH hN (by kernel_rfl) (by kernel_rfl) trivial (fun a w G hl1 hE hH => ?_)
      have hle := Gh.le_trans hle hl1
      refine segO 1 [] [(3, .kv (.ptr 130) r9)] (Os := []) trivial hE hH (by kernel_rfl) (fun a hE => ?_)
      refine wpFrom_end (by kernel_rfl) ?_
      refine Exit.then_normal (hK8 _ _ ?_)
      refine wp_seq_k (fun K hK10 => ?_)
      obtain ⟨i11, hi11, h⟩ := bs h
      obtain ⟨o12, ho12, h⟩ := bs h
      refine region_par 9 [] [(0, 0), (0, 0), (0, 0), (0, 0), (0, 0), (0, 0), (0, 0), (0, 0), (0, 0)] [.kv (.ptr 130) r9, .kv (.ptr 130) (some i11), .fldA 130 i11 0, .kv .i o12.1, .kv (.ptr 130) r9, .kv (.ptr 130) (some i11), .fldA 130 i11 1, .kv (.list .str) o12.2.1, .kv .i (o12.2.1.length : Int)] (fun _ => tabs σ) (fun _ => Ls) (by kernel_rfl) (by kernel_rfl) hE hH
              ⟨⟨⟨⟨⟨⟨⟨⟨⟨trivial,
              anyk (fun k => obR [] (Os := []) trivial (by kernel_rfl) (by kernel_rfl))⟩,
              anyk (fun k => obR [.pt i11] (Os := [_]) ⟨hi11, trivial⟩ (by kernel_rfl) (by kernel_rfl))⟩,
              anyk (fun k => obR [] (Os := []) trivial (by kernel_rfl) (by kernel_rfl))⟩,
              anyk (fun k => obR [.ob fs130 o12] (Os := [_]) ⟨(ob130 (s := σ) ho12), trivial⟩ (by kernel_rfl) (by kernel_rfl))⟩,
              anyk (fun k => obR [] (Os := []) trivial (by kernel_rfl) (by kernel_rfl))⟩,
              anyk (fun k => obR [.pt i11] (Os := [_]) ⟨hi11, trivial⟩ (by kernel_rfl) (by kernel_rfl))⟩,
              anyk (fun k => obR [] (Os := []) trivial (by kernel_rfl) (by kernel_rfl))⟩,
              anyk (fun k => obR [.ob fs130 o12] (Os := [_, _]) ⟨(ob130 (s := σ) ho12), (hN _ _ _ : holeAt 130 i11 1 (Ls) = none), trivial⟩ (by kernel_rfl) (by kernel_rfl))⟩,
              anyk (fun k => obR [] (Os := []) trivial (by kernel_rfl) (by kernel_rfl))⟩ (fun a w G hl2 hE hH => ?_)
      have hle := Gh.le_trans hle hl2
      refine segO 2 [] [(2, .kv .i (IntKind.wrap .i64 (o12.1 + (o12.2.1.length : Int))))] (Os := []) trivial hE hH (by kernel_rfl) (fun a hE => ?_)
      refine wpFrom_end (by kernel_rfl) ?_
      refine Exit.then_normal (hK10 _ _ ?_)
      refine wp_ret ?_
      cases h
      exact ret1 rfl hE hle hH (by kernel_rfl)

def f116 (p0 : Int) : Option (List UInt8) :=
  if (decide (p0 < 10)) = true then
  some (bytesS [IntKind.wrap .u8 (IntKind.wrap .i64 (48 + p0))])
  else
  f116 (IntKind.wrap .i64 (Int.tdiv p0 10)) >>= fun r6 =>
  if r6.length + (bytesS [IntKind.wrap .u8 (IntKind.wrap .i64 (48 + (Int.tmod p0 10)))]).length ≤ 9223372036854775807 then
  some (r6 ++ (bytesS [IntKind.wrap .u8 (IntKind.wrap .i64 (48 + (Int.tmod p0 10)))]))
  else none
  partial_fixpoint

theorem f116_ok {p0 : Int} {σ : St} {p : List UInt8} (h : f116 p0 = some p) : Spec Try.prog 116 [.kv .i p0] (tabs σ) (.kv .str p) (tabs σ) := by
  have key : ∀ (p0 : Int) (p : List UInt8), f116 p0 = some p → ∀ σ : St, Spec Try.prog 116 [.kv .i p0] (tabs σ) (.kv .str p) (tabs σ) := by
    refine f116.partial_correctness _ ?_
    intro self ih p0 p h σ
    refine Spec.intro Try.func116 (by kernel_rfl) rfl (by kernel_rfl) (fun a w G0 Ls hE hH hN => ?_)
    have hle : G0.le G0 := Gh.le_refl G0
    refine wp_seq_k (fun K hK1 => ?_)
    refine wp_region_from ?_
    refine segO 1 [] [(2, .kv .str [])] (Os := []) trivial hE hH (by kernel_rfl) (fun a hE => ?_)
    refine wpFrom_end (by kernel_rfl) ?_
    refine Exit.then_normal (hK1 _ _ ?_)
    refine wp_seq_k (fun K hK2 => ?_)
    refine wp_seq_k (fun K hK3 => ?_)
    refine wp_region_from ?_
    refine segO 2 [] [(4, .kv .bool (decide (p0 < 10)))] (Os := []) trivial hE hH (by kernel_rfl) (fun a hE => ?_)
    refine wpFrom_end (by kernel_rfl) ?_
    refine Exit.then_normal (hK3 _ _ ?_)
    refine condE (b := decide (p0 < 10)) hE (by kernel_rfl) (fun hc => ?_) (fun hc => ?_)
    · replace h := ifT hc h
      refine wp_seq_k (fun K hK4 => ?_)
      refine wp_region_from ?_
      refine segO 3 [] [(7, .kv (.int .u8) (IntKind.wrap .u8 (IntKind.wrap .i64 (48 + p0))))] (Os := []) trivial hE hH (by kernel_rfl) (fun a hE => ?_)
      refine stepBuildS (d := (some 8)) (.int .u8) [IntKind.wrap .u8 (IntKind.wrap .i64 (48 + p0))] hE hH (by kernel_rfl) (by kernel_rfl) (fun a w G hl1 hE hH => ?_)
      have hle := Gh.le_trans hle hl1
      refine segO 2 [] [(2, .kv .str (bytesS [IntKind.wrap .u8 (IntKind.wrap .i64 (48 + p0))]))] (Os := []) trivial hE hH (by kernel_rfl) (fun a hE => ?_)
      refine wpFrom_end (by kernel_rfl) ?_
      refine Exit.then_normal (hK4 _ _ ?_)
      refine wp_ret ?_
      refine Exit.then_ret ?_
      cases h
      exact ret1 rfl hE hle hH (by kernel_rfl)
    · replace h := ifF hc h
      refine wp_skip ?_
      refine Exit.then_normal (hK2 _ _ ?_)
      refine wp_seq_k (fun K hK5 => ?_)
      obtain ⟨r6, hr6, h⟩ := bs h
      refine region_par 9 [2] [(0, 0), (0, 0), (0, 0), (0, 1), (0, 1), (0, 1), (0, 1), (0, 1), (0, 1)] [.kv .i p0, .kv .i (IntKind.wrap .i64 (Int.tdiv p0 10)), .kv .str r6, .kv .i p0, .kv .i (Int.tmod p0 10), .kv .i (IntKind.wrap .i64 (48 + (Int.tmod p0 10))), .kv (.int .u8) (IntKind.wrap .u8 (IntKind.wrap .i64 (48 + (Int.tmod p0 10)))), .pl (.int .u8) [IntKind.wrap .u8 (IntKind.wrap .i64 (48 + (Int.tmod p0 10)))], .kv .str (bytesS [IntKind.wrap .u8 (IntKind.wrap .i64 (48 + (Int.tmod p0 10)))])] (fun _ => tabs σ) (fun _ => Ls) (by kernel_rfl) (by kernel_rfl) hE hH
              ⟨⟨⟨⟨⟨⟨⟨⟨⟨trivial,
              anyk (fun k => obR [] (Os := []) trivial (by kernel_rfl) (by kernel_rfl))⟩,
              anyk (fun k => obR [] (Os := [_]) ⟨(by decide : (10 : Int) ≠ 0), trivial⟩ (by kernel_rfl) (by kernel_rfl))⟩,
              one (obC (k := 0) (d := (some 12)) (ih _ _ hr6 _) rfl hN (by kernel_rfl) (by kernel_rfl) rfl trivial)⟩,
              anyk (fun k => obR [] (Os := []) trivial (by kernel_rfl) (by kernel_rfl))⟩,
              anyk (fun k => obR [] (Os := [_]) ⟨(by decide : (10 : Int) ≠ 0), trivial⟩ (by kernel_rfl) (by kernel_rfl))⟩,
              anyk (fun k => obR [] (Os := []) trivial (by kernel_rfl) (by kernel_rfl))⟩,
              anyk (fun k => obR [] (Os := []) trivial (by kernel_rfl) (by kernel_rfl))⟩,
              anyk (fun k => obBS (d := (some 17)) (.int .u8) [IntKind.wrap .u8 (IntKind.wrap .i64 (48 + (Int.tmod p0 10)))] (by kernel_rfl) (by kernel_rfl) rfl)⟩,
              anyk (fun k => obR [] (Os := []) trivial (by kernel_rfl) (by kernel_rfl))⟩ (fun a w G hl2 hE hH => ?_)
      have hle := Gh.le_trans hle hl2
      obtain ⟨q7, h⟩ := gd h
      refine segO 2 [] [(2, .kv .str (r6 ++ (bytesS [IntKind.wrap .u8 (IntKind.wrap .i64 (48 + (Int.tmod p0 10)))])))] (Os := [_]) ⟨q7, trivial⟩ hE hH (by kernel_rfl) (fun a hE => ?_)
      refine wpFrom_end (by kernel_rfl) ?_
      refine Exit.then_normal (hK5 _ _ ?_)
      refine wp_ret ?_
      cases h
      exact ret1 rfl hE hle hH (by kernel_rfl)
  exact key p0 p h σ

def f98 (p0 : Option Nat) (p1 : Option Nat) (σ : St) : Option (List UInt8) :=
  p0 >>= fun i3 =>
  (σ.t128[i3]?) >>= fun o4 =>
  if o4.2.1.length + [46].length ≤ 9223372036854775807 then
  p1 >>= fun i6 =>
  (σ.t130[i6]?) >>= fun o7 =>
  f116 o7.1 >>= fun r8 =>
  if (o4.2.1 ++ [46]).length + r8.length ≤ 9223372036854775807 then
  some ((o4.2.1 ++ [46]) ++ r8)
  else none
  else none

theorem f98_ok {p0 : Option Nat} {p1 : Option Nat} {σ : St} {p : List UInt8} (h : f98 p0 p1 σ = some p) : Spec Try.prog 98 [.kv (.ptr 128) p0, .kv (.ptr 130) p1] (tabs σ) (.kv .str p) (tabs σ) := by
  refine Spec.intro Try.func98 (by kernel_rfl) rfl (by kernel_rfl) (fun a w G0 Ls hE hH hN => ?_)
  have hle : G0.le G0 := Gh.le_refl G0
  unfold f98 at h
  refine wp_seq_k (fun K hK1 => ?_)
  refine wp_region_from ?_
  refine segO 1 [] [(4, .kv .str [])] (Os := []) trivial hE hH (by kernel_rfl) (fun a hE => ?_)
  refine wpFrom_end (by kernel_rfl) ?_
  refine Exit.then_normal (hK1 _ _ ?_)
  refine wp_seq_k (fun K hK2 => ?_)
  obtain ⟨i3, hi3, h⟩ := bs h
  obtain ⟨o4, ho4, h⟩ := bs h
  obtain ⟨q5, h⟩ := gd h
  obtain ⟨i6, hi6, h⟩ := bs h
  obtain ⟨o7, ho7, h⟩ := bs h
  obtain ⟨r8, hr8, h⟩ := bs h
  refine region_par 10 [9] [(0, 1), (0, 1), (0, 1), (0, 1), (0, 1), (0, 0), (0, 0), (0, 0), (0, 0), (0, 0)] [.kv (.ptr 128) p0, .kv (.ptr 128) (some i3), .fldA 128 i3 1, .kv .str o4.2.1, .kv .str (o4.2.1 ++ [46]), .kv (.ptr 130) p1, .kv (.ptr 130) (some i6), .fldA 130 i6 0, .kv .i o7.1, .kv .str r8] (fun _ => tabs σ) (fun _ => Ls) (by kernel_rfl) (by kernel_rfl) hE hH
          ⟨⟨⟨⟨⟨⟨⟨⟨⟨⟨trivial,
          anyk (fun k => obR [] (Os := []) trivial (by kernel_rfl) (by kernel_rfl))⟩,
          anyk (fun k => obR [.pt i3] (Os := [_]) ⟨hi3, trivial⟩ (by kernel_rfl) (by kernel_rfl))⟩,
          anyk (fun k => obR [] (Os := []) trivial (by kernel_rfl) (by kernel_rfl))⟩,
          anyk (fun k => obR [.ob fs128 o4] (Os := [_]) ⟨(ob128 (s := σ) ho4), trivial⟩ (by kernel_rfl) (by kernel_rfl))⟩,
          anyk (fun k => obR [] (Os := [_]) ⟨q5, trivial⟩ (by kernel_rfl) (by kernel_rfl))⟩,
          anyk (fun k => obR [] (Os := []) trivial (by kernel_rfl) (by kernel_rfl))⟩,
          anyk (fun k => obR [.pt i6] (Os := [_]) ⟨hi6, trivial⟩ (by kernel_rfl) (by kernel_rfl))⟩,
          anyk (fun k => obR [] (Os := []) trivial (by kernel_rfl) (by kernel_rfl))⟩,
          anyk (fun k => obR [.ob fs130 o7] (Os := [_]) ⟨(ob130 (s := σ) ho7), trivial⟩ (by kernel_rfl) (by kernel_rfl))⟩,
          one (obC (k := 0) (d := (some 14)) (f116_ok hr8) rfl hN (by kernel_rfl) (by kernel_rfl) rfl trivial)⟩ (fun a w G hl1 hE hH => ?_)
  have hle := Gh.le_trans hle hl1
  obtain ⟨q9, h⟩ := gd h
  refine segO 2 [] [(4, .kv .str ((o4.2.1 ++ [46]) ++ r8))] (Os := [_]) ⟨q9, trivial⟩ hE hH (by kernel_rfl) (fun a hE => ?_)
  refine wpFrom_end (by kernel_rfl) ?_
  refine Exit.then_normal (hK2 _ _ ?_)
  refine wp_ret ?_
  cases h
  exact ret1 rfl hE hle hH (by kernel_rfl)

def f61 (p0 : Option Nat) (σ : St) : Option (Int × St) :=
  if p0.isNone = true then
  some (1, σ)
  else
  f97 p0 σ >>= fun r7 =>
  if (!r7.isNone) = true then
  p0 >>= fun i10 =>
  (σ.t128[i10]?) >>= fun o11 =>
  f98 p0 r7 σ >>= fun r12 =>
  f33 o11.1 r12 σ >>= fun r13 =>
  if (r13.1 != 0) = true then
  some (r13.1, r13.2)
  else
  f55 p0 r13.2 >>= fun r17 =>
  (r13.2.t128[i10]?) >>= fun o18 =>
  some (0, (r13.2.set128 i10 (o18.1, o18.2.1, o18.2.2.1, o18.2.2.2.1, r17, ())))
  else
  f55 p0 σ >>= fun r21 =>
  p0 >>= fun i22 =>
  (σ.t128[i22]?) >>= fun o23 =>
  some (0, (σ.set128 i22 (o23.1, o23.2.1, o23.2.2.1, o23.2.2.2.1, r21, ())))

theorem f61_ok {p0 : Option Nat} {σ : St} {p : Int × St} (h : f61 p0 σ = some p) : Spec Try.prog 61 [.kv (.ptr 128) p0] (tabs σ) (.kv .i p.1) (tabs p.2) := by
  refine Spec.intro Try.func61 (by kernel_rfl) rfl (by kernel_rfl) (fun a w G0 Ls hE hH hN => ?_)
  have hle : G0.le G0 := Gh.le_refl G0
  unfold f61 at h
  refine wp_seq_k (fun K hK1 => ?_)
  refine wp_region_from ?_
  refine segO 1 [] [(2, .kv .i 0)] (Os := []) trivial hE hH (by kernel_rfl) (fun a hE => ?_)
  refine wpFrom_end (by kernel_rfl) ?_
  refine Exit.then_normal (hK1 _ _ ?_)
  refine wp_seq_k (fun K hK2 => ?_)
  refine wp_seq_k (fun K hK3 => ?_)
  refine wp_region_from ?_
  refine segO 2 [] [(6, .kv .bool p0.isNone)] (Os := []) trivial hE hH (by kernel_rfl) (fun a hE => ?_)
  refine wpFrom_end (by kernel_rfl) ?_
  refine Exit.then_normal (hK3 _ _ ?_)
  refine condE (b := p0.isNone) hE (by kernel_rfl) (fun hc => ?_) (fun hc => ?_)
  · replace h := ifT hc h
    refine wp_seq_k (fun K hK4 => ?_)
    refine wp_region_from ?_
    refine segO 1 [] [(2, .kv .i 1)] (Os := []) trivial hE hH (by kernel_rfl) (fun a hE => ?_)
    refine wpFrom_end (by kernel_rfl) ?_
    refine Exit.then_normal (hK4 _ _ ?_)
    refine wp_ret ?_
    refine Exit.then_ret ?_
    cases h
    exact ret1 rfl hE hle hH (by kernel_rfl)
  · replace h := ifF hc h
    refine wp_skip ?_
    refine Exit.then_normal (hK2 _ _ ?_)
    refine wp_seq_k (fun K hK5 => ?_)
    refine wp_seq_k (fun K hK6 => ?_)
    refine wp_region_from ?_
    refine segO 1 [] [(7, .kv (.ptr 128) p0)] (Os := []) trivial hE hH (by kernel_rfl) (fun a hE => ?_)
    obtain ⟨r7, hr7, h⟩ := bs h
    refine stepCall (d := (some 8)) (f97_ok hr7) hE hH hN (by kernel_rfl) (by kernel_rfl) trivial (fun a w G hl1 hE hH => ?_)
    have hle := Gh.le_trans hle hl1
    refine segO 1 [] [(3, .kv (.ptr 130) r7)] (Os := []) trivial hE hH (by kernel_rfl) (fun a hE => ?_)
    refine wpFrom_end (by kernel_rfl) ?_
    refine Exit.then_normal (hK6 _ _ ?_)
    refine wp_seq_k (fun K hK8 => ?_)
    refine wp_region_from ?_
    refine segO 2 [] [(10, .kv .bool (!r7.isNone))] (Os := []) trivial hE hH (by kernel_rfl) (fun a hE => ?_)
    refine wpFrom_end (by kernel_rfl) ?_
    refine Exit.then_normal (hK8 _ _ ?_)
    refine condE (b := !r7.isNone) hE (by kernel_rfl) (fun hc => ?_) (fun hc => ?_)
    · replace h := ifT hc h
      refine wp_seq_k (fun K hK9 => ?_)
      obtain ⟨i10, hi10, h⟩ := bs h
      obtain ⟨o11, ho11, h⟩ := bs h
      obtain ⟨r12, hr12, h⟩ := bs h
      refine region_par 7 [6] [(0, 1), (0, 1), (0, 1), (0, 1), (0, 0), (0, 0), (0, 0)] [.kv (.ptr 128) p0, .kv (.ptr 128) (some i10), .fldA 128 i10 0, .kv (.ptr 105) o11.1, .kv (.ptr 128) p0, .kv (.ptr 130) r7, .kv .str r12] (fun _ => tabs σ) (fun _ => Ls) (by kernel_rfl) (by kernel_rfl) hE hH
              ⟨⟨⟨⟨⟨⟨⟨trivial,
              anyk (fun k => obR [] (Os := []) trivial (by kernel_rfl) (by kernel_rfl))⟩,
              anyk (fun k => obR [.pt i10] (Os := [_]) ⟨hi10, trivial⟩ (by kernel_rfl) (by kernel_rfl))⟩,
              anyk (fun k => obR [] (Os := []) trivial (by kernel_rfl) (by kernel_rfl))⟩,
              anyk (fun k => obR [.ob fs128 o11] (Os := [_]) ⟨(ob128 (s := σ) ho11), trivial⟩ (by kernel_rfl) (by kernel_rfl))⟩,
              anyk (fun k => obR [] (Os := []) trivial (by kernel_rfl) (by kernel_rfl))⟩,
              anyk (fun k => obR [] (Os := []) trivial (by kernel_rfl) (by kernel_rfl))⟩,
              one (obC (k := 0) (d := (some 17)) (f98_ok hr12) rfl hN (by kernel_rfl) (by kernel_rfl) rfl trivial)⟩ (fun a w G hl2 hE hH => ?_)
      have hle := Gh.le_trans hle hl2
      obtain ⟨r13, hr13, h⟩ := bs h
      refine stepCall (d := (some 18)) (f33_ok hr13) hE hH hN (by kernel_rfl) (by kernel_rfl) trivial (fun a w G hl3 hE hH => ?_)
      have hle := Gh.le_trans hle hl3
      refine segO 1 [] [(4, .kv .i r13.1)] (Os := []) trivial hE hH (by kernel_rfl) (fun a hE => ?_)
      refine wpFrom_end (by kernel_rfl) ?_
      refine Exit.then_normal (hK9 _ _ ?_)
      refine wp_seq_k (fun K hK14 => ?_)
      refine wp_region_from ?_
      refine segO 2 [] [(20, .kv .bool (r13.1 != 0))] (Os := []) trivial hE hH (by kernel_rfl) (fun a hE => ?_)
      refine wpFrom_end (by kernel_rfl) ?_
      refine Exit.then_normal (hK14 _ _ ?_)
      refine condE (b := r13.1 != 0) hE (by kernel_rfl) (fun hc => ?_) (fun hc => ?_)
      · replace h := ifT hc h
        refine wp_seq_k (fun K hK15 => ?_)
        refine wp_region_from ?_
        refine segO 2 [] [(2, .kv .i r13.1)] (Os := []) trivial hE hH (by kernel_rfl) (fun a hE => ?_)
        refine wpFrom_end (by kernel_rfl) ?_
        refine Exit.then_normal (hK15 _ _ ?_)
        refine wp_ret ?_
        refine Exit.then_ret ?_
        cases h
        exact ret1 rfl hE hle hH (by kernel_rfl)
      · replace h := ifF hc h
        refine wp_skip ?_
        refine Exit.then_normal (hK5 _ _ ?_)
        refine wp_seq_k (fun K hK16 => ?_)
        refine wp_region_from ?_
        refine segO 2 [] [(22, .kv (.ptr 128) p0), (23, .kv (.ptr 128) p0)] (Os := []) trivial hE hH (by kernel_rfl) (fun a hE => ?_)
        obtain ⟨r17, hr17, h⟩ := bs h
        refine stepCall (d := (some 24)) (f55_ok hr17) hE hH hN (by kernel_rfl) (by kernel_rfl) trivial (fun a w G hl4 hE hH => ?_)
        have hle := Gh.le_trans hle hl4
        refine segO 2 [.pt i10] [(26, .fldA 128 i10 4)] (Os := [_]) ⟨hi10, trivial⟩ hE hH (by kernel_rfl) (fun a hE => ?_)
        obtain ⟨o18, ho18, h⟩ := bs h
        refine stepStO (t := 128) (j := i10) (off := 4) .i r17 (x' := (o18.1, o18.2.1, o18.2.2.1, o18.2.2.2.1, r17, ())) hE hH (by kernel_rfl) (ob128 (s := r13.2) ho18) (by kernel_rfl) (upd128 (s := r13.2)) (fun w G hl5 hE hH => ?_)
        have hle := Gh.le_trans hle hl5
        refine wpFrom_end (by kernel_rfl) ?_
        refine Exit.then_normal (hK16 _ _ ?_)
        refine wp_seq_k (fun K hK19 => ?_)
        refine wp_region_from ?_
        refine segO 1 [] [(2, .kv .i 0)] (Os := []) trivial hE hH (by kernel_rfl) (fun a hE => ?_)
        refine wpFrom_end (by kernel_rfl) ?_
        refine Exit.then_normal (hK19 _ _ ?_)
        refine wp_ret ?_
        cases h
        exact ret1 rfl hE hle hH (by kernel_rfl)
    · replace h := ifF hc h
      refine wp_skip ?_
      refine Exit.then_normal (hK5 _ _ ?_)
      refine wp_seq_k (fun K hK20 => ?_)
      refine wp_region_from ?_
      refine segO 2 [] [(22, .kv (.ptr 128) p0), (23, .kv (.ptr 128) p0)] (Os := []) trivial hE hH (by kernel_rfl) (fun a hE => ?_)
      obtain ⟨r21, hr21, h⟩ := bs h
      refine stepCall (d := (some 24)) (f55_ok hr21) hE hH hN (by kernel_rfl) (by kernel_rfl) trivial (fun a w G hl6 hE hH => ?_)
      have hle := Gh.le_trans hle hl6
      obtain ⟨i22, hi22, h⟩ := bs h
      refine segO 2 [.pt i22] [(26, .fldA 128 i22 4)] (Os := [_]) ⟨hi22, trivial⟩ hE hH (by kernel_rfl) (fun a hE => ?_)
      obtain ⟨o23, ho23, h⟩ := bs h
      refine stepStO (t := 128) (j := i22) (off := 4) .i r21 (x' := (o23.1, o23.2.1, o23.2.2.1, o23.2.2.2.1, r21, ())) hE hH (by kernel_rfl) (ob128 (s := σ) ho23) (by kernel_rfl) (upd128 (s := σ)) (fun w G hl7 hE hH => ?_)
      have hle := Gh.le_trans hle hl7
      refine wpFrom_end (by kernel_rfl) ?_
      refine Exit.then_normal (hK20 _ _ ?_)
      refine wp_seq_k (fun K hK24 => ?_)
      refine wp_region_from ?_
      refine segO 1 [] [(2, .kv .i 0)] (Os := []) trivial hE hH (by kernel_rfl) (fun a hE => ?_)
      refine wpFrom_end (by kernel_rfl) ?_
      refine Exit.then_normal (hK24 _ _ ?_)
      refine wp_ret ?_
      cases h
      exact ret1 rfl hE hle hH (by kernel_rfl)

def f140_l0 (p0 : List UInt8) (x5 : Int) (x6 : Int) : Option (Sum (Int × Int) Int) :=
  if (decide (x6 < (p0.length : Int))) = true then
  if (0 : Int) ≤ x6 ∧ x6 < (p0.length : Int) then
  if (decide ((btS p0 x6) < 48)) = true then
  some (.inr (-1))
  else
  if (0 : Int) ≤ x6 ∧ x6 < (p0.length : Int) then
  if ((decide ((btS p0 x6) > 57)) || (decide (x5 > 1099511627776))) = true then
  some (.inr (-1))
  else
  if (0 : Int) ≤ x6 ∧ x6 < (p0.length : Int) then
  f140_l0 p0 (IntKind.wrap .i64 ((IntKind.wrap .i64 (x5 * 10)) + (IntKind.wrap .i64 (IntKind.wrap .u8 ((btS p0 x6) - 48))))) (IntKind.wrap .i64 (x6 + 1))
  else none
  else none
  else none
  else
  some (.inl (x5, x6))
  partial_fixpoint

def f140 (p0 : List UInt8) : Option Int :=
  f140_l0 p0 0 0 >>= fun rr23 => (match rr23 with
  | .inr yy => some yy
  | .inl z22 =>
  if (p0 == []) = true then
  some (-1)
  else
  if (0 : Int) ≤ 0 ∧ 0 < (p0.length : Int) then
  if ((((btS p0 0) == 48) && (!(p0 == [48]))) || (decide (z22.1 > 1099511627776))) = true then
  some (-1)
  else
  some z22.1
  else none)

theorem f140_ok {p0 : List UInt8} {σ : St} {p : Int} (h : f140 p0 = some p) : Spec Try.prog 140 [.kv .str p0] (tabs σ) (.kv .i p) (tabs σ) := by
  refine Spec.intro Try.func140 (by kernel_rfl) rfl (by kernel_rfl) (fun a w G0 Ls hE hH hN => ?_)
  have hle : G0.le G0 := Gh.le_refl G0
  unfold f140 at h
  refine wp_seq_k (fun K hK1 => ?_)
  refine wp_region_from ?_
  refine segO 1 [] [(2, .kv .i 0)] (Os := []) trivial hE hH (by kernel_rfl) (fun a hE => ?_)
  refine wpFrom_end (by kernel_rfl) ?_
  refine Exit.then_normal (hK1 _ _ ?_)
  refine wp_seq_k (fun K hK2 => ?_)
  refine wp_region_from ?_
  refine segO 1 [] [(3, .kv .i 0)] (Os := []) trivial hE hH (by kernel_rfl) (fun a hE => ?_)
  refine wpFrom_end (by kernel_rfl) ?_
  refine Exit.then_normal (hK2 _ _ ?_)
  refine wp_seq_k (fun K hK3 => ?_)
  refine wp_seq_k (fun K hK4 => ?_)
  refine wp_region_from ?_
  refine segO 3 [] [(6, .kv .i (p0.length : Int)), (7, .kv .i 0)] (Os := []) trivial hE hH (by kernel_rfl) (fun a hE => ?_)
  refine wpFrom_end (by kernel_rfl) ?_
  refine Exit.then_normal (hK4 _ _ ?_)
  refine wp_block ?_
  obtain ⟨rr23, hrr23, h⟩ := bs h
  refine loop_intro (fun Q7 c hQ hc => ?_)
  have key : ∀ (x5 : Int) (x6 : Int) (rr : Sum (Int × Int) Int), f140_l0 p0 x5 x6 = some rr → ∀ (a : Act) (w : World) (G : Gh), G0.le G → EnvR G 49 a [(0, .kv .str p0), (2, .kv .i 0), (3, .kv .i x5), (6, .kv .i (p0.length : Int)), (7, .kv .i x6)] → Holds w G (tabs σ) (Ls) → (∀ z22 : Int × Int, rr = .inl z22 → ∀ (a : Act) (w : World) (G : Gh), G0.le G → EnvR G 49 a [(0, .kv .str p0), (2, .kv .i 0), (3, .kv .i z22.1), (6, .kv .i (p0.length : Int)), (7, .kv .i z22.2)] → Holds w G (tabs σ) (Ls) → Q7 (.exit 0) a w) → (∀ yy : Int, rr = .inr yy → ∀ (a : Act) (w : World), PostB Try.prog Try.f140 G0 (.kv .i yy) (tabs σ) Ls .ret a w → Q7 .ret a w) → Rnd Try.prog c Q7 a w := by
    refine f140_l0.partial_correctness p0 _ ?_
    intro self ih10 x5 x6 rr h a w G  hle hE hH hx8 hret9
    refine rnd_step' hc ?_
    refine wp_seq_k (fun K hK11 => ?_)
    refine wp_region_from ?_
    refine segO 1 [] [(8, .kv .bool (decide (x6 < (p0.length : Int))))] (Os := []) trivial hE hH (by kernel_rfl) (fun a hE => ?_)
    refine wpFrom_end (by kernel_rfl) ?_
    refine Exit.then_normal (hK11 _ _ ?_)
    refine wp_seq_k (fun K hK12 => ?_)
    refine condE (b := decide (x6 < (p0.length : Int))) hE (by kernel_rfl) (fun hc => ?_) (fun hc => ?_)
    · replace h := ifT hc h
      refine wp_skip ?_
      refine Exit.then_normal (hK12 _ _ ?_)
      refine wp_seq_k (fun K hK13 => ?_)
      refine wp_block ?_
      refine wp_seq_k (fun K hK14 => ?_)
      refine wp_region_from ?_
      refine segO 2 [] [(4, .kv .i x6)] (Os := []) trivial hE hH (by kernel_rfl) (fun a hE => ?_)
      refine wpFrom_end (by kernel_rfl) ?_
      refine Exit.then_normal (hK14 _ _ ?_)
      refine wp_seq_k (fun K hK15 => ?_)
      refine wp_seq_k (fun K hK16 => ?_)
      refine wp_region_from ?_
      obtain ⟨q17, h⟩ := gd h
      refine segO 5 [] [(14, .kv .bool (decide ((btS p0 x6) < 48)))] (Os := [_]) ⟨q17, trivial⟩ hE hH (by kernel_rfl) (fun a hE => ?_)
      by_cases hc : (decide ((btS p0 x6) < 48)) = true
      · replace h := ifT hc h
        have hE := hE.setB 14 (by kernel_rfl) hc
        refine segO 9 [] [(23, .kv .bool true)] (Os := []) trivial hE hH (by kernel_rfl) (fun a hE => ?_)
        refine wpFrom_end (by kernel_rfl) ?_
        refine Exit.then_normal (hK16 _ _ ?_)
        refine condT hE (by kernel_rfl) rfl ?_
        refine wp_seq_k (fun K hK18 => ?_)
        refine wp_region_from ?_
        refine segO 1 [] [(2, .kv .i (-1))] (Os := []) trivial hE hH (by kernel_rfl) (fun a hE => ?_)
        refine wpFrom_end (by kernel_rfl) ?_
        refine Exit.then_normal (hK18 _ _ ?_)
        refine wp_ret ?_
        refine Exit.then_ret ?_
        refine Exit.in_ret ?_
        refine Exit.then_ret ?_
        refine Exit.then_ret ?_
        cases h
        exact hret9 _ rfl _ _ (ret1 rfl hE hle hH (by kernel_rfl))
      · replace h := ifN hc h
        have hE := hE.setB 14 (by kernel_rfl) (bf hc)
        obtain ⟨q19, h⟩ := gd h
        refine segO 9 [] [(23, .kv .bool ((decide ((btS p0 x6) > 57)) || (decide (x5 > 1099511627776))))] (Os := [_]) ⟨q19, trivial⟩ hE hH (by kernel_rfl) (fun a hE => ?_)
        refine wpFrom_end (by kernel_rfl) ?_
        refine Exit.then_normal (hK16 _ _ ?_)
        refine condE (b := (decide ((btS p0 x6) > 57)) || (decide (x5 > 1099511627776))) hE (by kernel_rfl) (fun hc => ?_) (fun hc => ?_)
        · replace h := ifT hc h
          refine wp_seq_k (fun K hK20 => ?_)
          refine wp_region_from ?_
          refine segO 1 [] [(2, .kv .i (-1))] (Os := []) trivial hE hH (by kernel_rfl) (fun a hE => ?_)
          refine wpFrom_end (by kernel_rfl) ?_
          refine Exit.then_normal (hK20 _ _ ?_)
          refine wp_ret ?_
          refine Exit.then_ret ?_
          refine Exit.in_ret ?_
          refine Exit.then_ret ?_
          refine Exit.then_ret ?_
          cases h
          exact hret9 _ rfl _ _ (ret1 rfl hE hle hH (by kernel_rfl))
        · replace h := ifF hc h
          refine wp_skip ?_
          refine Exit.then_normal (hK15 _ _ ?_)
          refine wp_region_from ?_
          obtain ⟨q21, h⟩ := gd h
          refine segO 9 [] [(3, .kv .i (IntKind.wrap .i64 ((IntKind.wrap .i64 (x5 * 10)) + (IntKind.wrap .i64 (IntKind.wrap .u8 ((btS p0 x6) - 48))))))] (Os := [_]) ⟨q21, trivial⟩ hE hH (by kernel_rfl) (fun a hE => ?_)
          refine wpFrom_end (by kernel_rfl) ?_
          refine Exit.in_normal ?_
          refine Exit.then_normal (hK13 _ _ ?_)
          refine wp_region_from ?_
          refine segO 2 [] [(7, .kv .i (IntKind.wrap .i64 (x6 + 1)))] (Os := []) trivial hE hH (by kernel_rfl) (fun a hE => ?_)
          refine wpFrom_end (by kernel_rfl) ?_
          refine Exit.then_normal ?_
          exact ih10 _ _ _ h _ _ _  hle (hE.subC (by kernel_rfl)) hH hx8 hret9
    · replace h := ifF hc h
      refine wp_exit ?_
      refine Exit.then_exit ?_
      refine Exit.then_exit ?_
      cases h
      exact hx8 _ rfl _ _ _  hle (hE.subC (by kernel_rfl)) hH
  refine key _ _ _ hrr23 _ _ _  hle (hE.subC (by kernel_rfl)) hH ?_ ?_
  · intro z22 hz a w G  hle hE hH
    subst hz
    rw [hQ]
    dsimp only at h
    refine Exit.in_eq ?_
    refine Exit.then_normal (hK3 _ _ ?_)
    refine wp_seq_k (fun K hK24 => ?_)
    refine wp_seq_k (fun K hK25 => ?_)
    refine wp_region_from ?_
    refine segO 3 [] [(35, .kv .bool (p0 == []))] (Os := []) trivial hE hH (by kernel_rfl) (fun a hE => ?_)
    by_cases hc : (p0 == []) = true
    · replace h := ifT hc h
      have hE := hE.setB 35 (by kernel_rfl) hc
      refine segO 6 [] [(39, .undef)] (Os := []) trivial hE hH (by kernel_rfl) (fun a hE => ?_)
      refine stepSkip (d := (some 42)) hE (by kernel_rfl) (by kernel_rfl) (fun a hE => ?_)
      refine segO 5 [] [(47, .kv .bool true)] (Os := []) trivial hE hH (by kernel_rfl) (fun a hE => ?_)
      refine wpFrom_end (by kernel_rfl) ?_
      refine Exit.then_normal (hK25 _ _ ?_)
      refine condT hE (by kernel_rfl) rfl ?_
      refine wp_seq_k (fun K hK26 => ?_)
      refine wp_region_from ?_
      refine segO 1 [] [(2, .kv .i (-1))] (Os := []) trivial hE hH (by kernel_rfl) (fun a hE => ?_)
      refine wpFrom_end (by kernel_rfl) ?_
      refine Exit.then_normal (hK26 _ _ ?_)
      refine wp_ret ?_
      refine Exit.then_ret ?_
      cases h
      exact ret1 rfl hE hle hH (by kernel_rfl)
    · replace h := ifN hc h
      have hE := hE.setB 35 (by kernel_rfl) (bf hc)
      obtain ⟨q27, h⟩ := gd h
      refine segO 12 [] [(47, .kv .bool ((((btS p0 0) == 48) && (!(p0 == [48]))) || (decide (z22.1 > 1099511627776))))] (Os := [_]) ⟨q27, trivial⟩ hE hH (by kernel_rfl) (fun a hE => ?_)
      refine wpFrom_end (by kernel_rfl) ?_
      refine Exit.then_normal (hK25 _ _ ?_)
      refine condE (b := (((btS p0 0) == 48) && (!(p0 == [48]))) || (decide (z22.1 > 1099511627776))) hE (by kernel_rfl) (fun hc => ?_) (fun hc => ?_)
      · replace h := ifT hc h
        refine wp_seq_k (fun K hK28 => ?_)
        refine wp_region_from ?_
        refine segO 1 [] [(2, .kv .i (-1))] (Os := []) trivial hE hH (by kernel_rfl) (fun a hE => ?_)
        refine wpFrom_end (by kernel_rfl) ?_
        refine Exit.then_normal (hK28 _ _ ?_)
        refine wp_ret ?_
        refine Exit.then_ret ?_
        cases h
        exact ret1 rfl hE hle hH (by kernel_rfl)
      · replace h := ifF hc h
        refine wp_skip ?_
        refine Exit.then_normal (hK24 _ _ ?_)
        refine wp_seq_k (fun K hK29 => ?_)
        refine wp_region_from ?_
        refine segO 2 [] [(2, .kv .i z22.1)] (Os := []) trivial hE hH (by kernel_rfl) (fun a hE => ?_)
        refine wpFrom_end (by kernel_rfl) ?_
        refine Exit.then_normal (hK29 _ _ ?_)
        refine wp_ret ?_
        cases h
        exact ret1 rfl hE hle hH (by kernel_rfl)
  · intro yy hz a w hp
    subst hz
    dsimp only at h
    cases h
    rw [hQ]
    refine Exit.in_ret ?_
    refine Exit.then_ret ?_
    exact hp

def f114_l0 (p0 : Option Nat) (σ : St) (r7 : List (List UInt8)) (l9 : List Int) (x10 : Int) : Option ((List Int) × Int) :=
  if (decide (x10 < (r7.length : Int))) = true then
  (ix r7 x10) >>= fun x19 =>
  p0 >>= fun i21 =>
  (σ.t128[i21]?) >>= fun o22 =>
  if (decide ((x19.length : Int) > (IntKind.wrap .i64 ((o22.2.1.length : Int) + 1)))) = true then
  if (0 : Int) ≤ (IntKind.wrap .i64 ((o22.2.1.length : Int) + 1)) ∧ (IntKind.wrap .i64 ((o22.2.1.length : Int) + 1)) ≤ (x19.length : Int) then
  if o22.2.1.length + [46].length ≤ 9223372036854775807 then
  if ((x19.take (Int.toNat (IntKind.wrap .i64 ((o22.2.1.length : Int) + 1)))) == (o22.2.1 ++ [46])) = true then
  if (0 : Int) ≤ (IntKind.wrap .i64 ((o22.2.1.length : Int) + 1)) ∧ (IntKind.wrap .i64 ((o22.2.1.length : Int) + 1)) ≤ (x19.length : Int) then
  f140 (x19.drop (Int.toNat (IntKind.wrap .i64 ((o22.2.1.length : Int) + 1)))) >>= fun r29 =>
  if (decide (r29 ≥ 0)) = true then
  if (l9.length + 1) * 8 ≤ 140737488355328 then
  f114_l0 p0 σ r7 (l9 ++ [r29]) (IntKind.wrap .i64 (x10 + 1))
  else none
  else
  f114_l0 p0 σ r7 l9 (IntKind.wrap .i64 (x10 + 1))
  else none
  else
  f114_l0 p0 σ r7 l9 (IntKind.wrap .i64 (x10 + 1))
  else none
  else none
  else
  f114_l0 p0 σ r7 l9 (IntKind.wrap .i64 (x10 + 1))
  else
  some ((l9, x10))
  partial_fixpoint

def f114 (p0 : Option Nat) (σ : St) : Option (List Int) :=
  p0 >>= fun i5 =>
  (σ.t128[i5]?) >>= fun o6 =>
  f21 o6.1 σ >>= fun r7 =>
  f114_l0 p0 σ r7 [] 0 >>= fun z34 =>
  if z34.1.length < 4611686018427387904 then
  some (sortedI z34.1)
  else none

theorem f114_ok {p0 : Option Nat} {σ : St} {p : List Int} (h : f114 p0 σ = some p) : Spec Try.prog 114 [.kv (.ptr 128) p0] (tabs σ) (.kv (.list .i) p) (tabs σ) := by
  refine Spec.intro Try.func114 (by kernel_rfl) rfl (by kernel_rfl) (fun a w G0 Ls hE hH hN => ?_)
  have hle : G0.le G0 := Gh.le_refl G0
  unfold f114 at h
  refine wp_seq_k (fun K hK1 => ?_)
  refine wp_region_from ?_
  refine segO 1 [] [(2, .val (.slice none 0 0))] (Os := []) trivial hE hH (by kernel_rfl) (fun a hE => ?_)
  refine wpFrom_end (by kernel_rfl) ?_
  refine Exit.then_normal (hK1 _ _ ?_)
  refine wp_seq_k (fun K hK2 => ?_)
  refine wp_region_from ?_
  refine segO 1 [] [(3, .val (.slice none 0 0))] (Os := []) trivial hE hH (by kernel_rfl) (fun a hE => ?_)
  refine wpFrom_end (by kernel_rfl) ?_
  refine Exit.then_normal (hK2 _ _ ?_)
  refine wp_seq_k (fun K hK3 => ?_)
  refine wp_seq_k (fun K hK4 => ?_)
  refine wp_region_from ?_
  obtain ⟨i5, hi5, h⟩ := bs h
  obtain ⟨o6, ho6, h⟩ := bs h
  refine segO 4 [.pt i5, .ob fs128 o6] [(11, .kv (.ptr 105) o6.1)] (Os := [_, _]) ⟨hi5, (ob128 (s := σ) ho6), trivial⟩ hE hH (by kernel_rfl) (fun a hE => ?_)
  obtain ⟨r7, hr7, h⟩ := bs h
  refine stepCall (d := (some 12)) (f21_ok hr7) hE hH hN (by kernel_rfl) (by kernel_rfl) trivial (fun a w G hl1 hE hH => ?_)
  have hle := Gh.le_trans hle hl1
  refine segO 2 [] [(13, .kv .i (r7.length : Int)), (14, .kv .i 0)] (Os := []) trivial hE hH (by kernel_rfl) (fun a hE => ?_)
  refine wpFrom_end (by kernel_rfl) ?_
  refine Exit.then_normal (hK4 _ _ ?_)
  refine wp_block ?_
  have hH := hH.nilRaw 3 8 .i
  obtain ⟨z34, hz34, h⟩ := bs h
  refine loop_intro (fun Q11 c hQ hc => ?_)
  have key : ∀ (l9 : List Int) (x10 : Int) (rr : (List Int) × Int), f114_l0 p0 σ r7 l9 x10 = some rr → ∀ (a : Act) (w : World) (G : Gh) (v8 : Value), G0.le G → EnvR G 53 a [(0, .kv (.ptr 128) p0), (2, .val (.slice none 0 0)), (3, .val v8), (12, .kv (.list .str) r7), (13, .kv .i (r7.length : Int)), (14, .kv .i x10)] → Holds w G (tabs σ) (LS.raw v8 3 8 .i l9 :: Ls) → (∀ z35 : (List Int) × Int, rr = z35 → ∀ (a : Act) (w : World) (G : Gh) (v8 : Value), G0.le G → EnvR G 53 a [(0, .kv (.ptr 128) p0), (2, .val (.slice none 0 0)), (3, .val v8), (12, .kv (.list .str) r7), (13, .kv .i (r7.length : Int)), (14, .kv .i z35.2)] → Holds w G (tabs σ) (LS.raw v8 3 8 .i z35.1 :: Ls) → Q11 (.exit 0) a w) → Rnd Try.prog c Q11 a w := by
    refine f114_l0.partial_correctness p0 σ r7 _ ?_
    intro self ih14 l9 x10 rr h a w G v8 hle hE hH hx12
    refine rnd_step' hc ?_
    refine wp_seq_k (fun K hK15 => ?_)
    refine wp_region_from ?_
    refine segO 1 [] [(15, .kv .bool (decide (x10 < (r7.length : Int))))] (Os := []) trivial hE hH (by kernel_rfl) (fun a hE => ?_)
    refine wpFrom_end (by kernel_rfl) ?_
    refine Exit.then_normal (hK15 _ _ ?_)
    refine wp_seq_k (fun K hK16 => ?_)
    refine condE (b := decide (x10 < (r7.length : Int))) hE (by kernel_rfl) (fun hc => ?_) (fun hc => ?_)
    · replace h := ifT hc h
      refine wp_skip ?_
      refine Exit.then_normal (hK16 _ _ ?_)
      refine wp_seq_k (fun K hK17 => ?_)
      refine wp_block ?_
      refine wp_seq_k (fun K hK18 => ?_)
      refine wp_region_from ?_
      obtain ⟨x19, hx19, h⟩ := bs h
      refine segO 3 [.ix .str x19] [(5, .kv .str x19)] (Os := [_]) ⟨(IxAt.of (k := .str) hx19), trivial⟩ hE hH (by kernel_rfl) (fun a hE => ?_)
      refine wpFrom_end (by kernel_rfl) ?_
      refine Exit.then_normal (hK18 _ _ ?_)
      refine wp_seq_k (fun K hK20 => ?_)
      refine wp_region_from ?_
      obtain ⟨i21, hi21, h⟩ := bs h
      obtain ⟨o22, ho22, h⟩ := bs h
      refine segO 7 [.pt i21, .ob fs128 o22] [(6, .kv .i (IntKind.wrap .i64 ((o22.2.1.length : Int) + 1)))] (Os := [_, _]) ⟨hi21, (ob128 (s := σ) ho22), trivial⟩ hE hH (by kernel_rfl) (fun a hE => ?_)
      refine wpFrom_end (by kernel_rfl) ?_
      refine Exit.then_normal (hK20 _ _ ?_)
      refine wp_seq_k (fun K hK23 => ?_)
      by_cases hc : (decide ((x19.length : Int) > (IntKind.wrap .i64 ((o22.2.1.length : Int) + 1)))) = true
      · replace h := ifT hc h
        have c24 := hc
        obtain ⟨q25, h⟩ := gd h
        obtain ⟨q26, h⟩ := gd h
        refine region_par 13 [] [(0, 0), (0, 0), (0, 0), (0, 0), (0, 0), (0, 0), (0, 0), (0, 0), (0, 0), (0, 0), (0, 0), (0, 0), (0, 0)] [.kv .str x19, .kv .i (x19.length : Int), .kv .i (IntKind.wrap .i64 ((o22.2.1.length : Int) + 1)), .kv .bool (decide ((x19.length : Int) > (IntKind.wrap .i64 ((o22.2.1.length : Int) + 1)))), .kv .bool true, .kv .str x19, .kv .i (IntKind.wrap .i64 ((o22.2.1.length : Int) + 1)), .kv .str (x19.take (Int.toNat (IntKind.wrap .i64 ((o22.2.1.length : Int) + 1)))), .kv (.ptr 128) p0, .kv (.ptr 128) (some i21), .fldA 128 i21 1, .kv .str o22.2.1, .kv .str (o22.2.1 ++ [46])] (fun _ => tabs σ) (fun _ => LS.raw v8 3 8 .i l9 :: Ls) (by kernel_rfl) (by kernel_rfl) hE hH
                ⟨⟨⟨⟨⟨⟨⟨⟨⟨⟨⟨⟨⟨trivial,
                anyk (fun k => obR [] (Os := []) trivial (by kernel_rfl) (by kernel_rfl))⟩,
                anyk (fun k => obR [] (Os := []) trivial (by kernel_rfl) (by kernel_rfl))⟩,
                anyk (fun k => obR [] (Os := []) trivial (by kernel_rfl) (by kernel_rfl))⟩,
                anyk (fun k => obR [] (Os := []) trivial (by kernel_rfl) (by kernel_rfl))⟩,
                anyk (fun k => obRe [] (Os := []) trivial (by kernel_rfl) (by kernel_rfl) (eb2 c24 rfl))⟩,
                anyk (fun k => obR [] (Os := []) trivial (by kernel_rfl) (by kernel_rfl))⟩,
                anyk (fun k => obR [] (Os := []) trivial (by kernel_rfl) (by kernel_rfl))⟩,
                anyk (fun k => obR [] (Os := [_]) ⟨q25, trivial⟩ (by kernel_rfl) (by kernel_rfl))⟩,
                anyk (fun k => obR [] (Os := []) trivial (by kernel_rfl) (by kernel_rfl))⟩,
                anyk (fun k => obR [.pt i21] (Os := [_]) ⟨hi21, trivial⟩ (by kernel_rfl) (by kernel_rfl))⟩,
                anyk (fun k => obR [] (Os := []) trivial (by kernel_rfl) (by kernel_rfl))⟩,
                anyk (fun k => obR [.ob fs128 o22] (Os := [_]) ⟨(ob128 (s := σ) ho22), trivial⟩ (by kernel_rfl) (by kernel_rfl))⟩,
                anyk (fun k => obR [] (Os := [_]) ⟨q26, trivial⟩ (by kernel_rfl) (by kernel_rfl))⟩ (fun a w G hl2 hE hH => ?_)
        have hle := Gh.le_trans hle hl2
        refine segO 2 [] [(38, .kv .bool ((x19.take (Int.toNat (IntKind.wrap .i64 ((o22.2.1.length : Int) + 1)))) == (o22.2.1 ++ [46])))] (Os := []) trivial hE hH (by kernel_rfl) (fun a hE => ?_)
        refine wpFrom_end (by kernel_rfl) ?_
        refine Exit.then_normal (hK23 _ _ ?_)
        refine condE (b := (x19.take (Int.toNat (IntKind.wrap .i64 ((o22.2.1.length : Int) + 1)))) == (o22.2.1 ++ [46])) hE (by kernel_rfl) (fun hc => ?_) (fun hc => ?_)
        · replace h := ifT hc h
          refine wp_seq_k (fun K hK27 => ?_)
          refine wp_region_from ?_
          obtain ⟨q28, h⟩ := gd h
          refine segO 3 [] [(41, .kv .str (x19.drop (Int.toNat (IntKind.wrap .i64 ((o22.2.1.length : Int) + 1)))))] (Os := [_]) ⟨q28, trivial⟩ hE hH (by kernel_rfl) (fun a hE => ?_)
          obtain ⟨r29, hr29, h⟩ := bs h
          refine stepCall (d := (some 42)) (f140_ok hr29) hE hH (NoHole.cons (fun _ _ _ => rfl) hN) (by kernel_rfl) (by kernel_rfl) trivial (fun a w G hl3 hE hH => ?_)
          have hle := Gh.le_trans hle hl3
          refine segO 1 [] [(7, .kv .i r29)] (Os := []) trivial hE hH (by kernel_rfl) (fun a hE => ?_)
          refine wpFrom_end (by kernel_rfl) ?_
          refine Exit.then_normal (hK27 _ _ ?_)
          refine wp_seq_k (fun K hK30 => ?_)
          refine wp_region_from ?_
          refine segO 2 [] [(44, .kv .bool (decide (r29 ≥ 0)))] (Os := []) trivial hE hH (by kernel_rfl) (fun a hE => ?_)
          refine wpFrom_end (by kernel_rfl) ?_
          refine Exit.then_normal (hK30 _ _ ?_)
          refine condE (b := decide (r29 ≥ 0)) hE (by kernel_rfl) (fun hc => ?_) (fun hc => ?_)
          · replace h := ifT hc h
            refine wp_region_from ?_
            refine segO 2 [] [(45, .val v8), (46, .kv .i r29)] (Os := []) trivial hE hH (by kernel_rfl) (fun a hE => ?_)
            refine stepBuildS (d := (some 47)) .i [r29] hE hH (by kernel_rfl) (by kernel_rfl) (fun a w G hl4 hE hH => ?_)
            have hle := Gh.le_trans hle hl4
            obtain ⟨q31, h⟩ := gd h
            refine stepAppR (bt := 8) (ys := [r29]) (e' := 3) (d := (some 48)) 0 hE hH (by kernel_rfl) rfl (by kernel_rfl) q31 (fun v32 a w G hl5 hE hH _ _ => ?_)
            have hle := Gh.le_trans hle hl5
            refine segO 1 [] [(3, .val v32)] (Os := []) trivial hE hH (by kernel_rfl) (fun a hE => ?_)
            refine wpFrom_end (by kernel_rfl) ?_
            refine Exit.in_normal ?_
            refine Exit.then_normal (hK17 _ _ ?_)
            refine wp_region_from ?_
            refine segO 2 [] [(14, .kv .i (IntKind.wrap .i64 (x10 + 1)))] (Os := []) trivial hE hH (by kernel_rfl) (fun a hE => ?_)
            refine wpFrom_end (by kernel_rfl) ?_
            refine Exit.then_normal ?_
            exact ih14 _ _ _ h _ _ _ v32 hle (hE.subC (by kernel_rfl)) hH hx12
          · replace h := ifF hc h
            refine wp_skip ?_
            refine Exit.in_normal ?_
            refine Exit.then_normal (hK17 _ _ ?_)
            refine wp_region_from ?_
            refine segO 2 [] [(14, .kv .i (IntKind.wrap .i64 (x10 + 1)))] (Os := []) trivial hE hH (by kernel_rfl) (fun a hE => ?_)
            refine wpFrom_end (by kernel_rfl) ?_
            refine Exit.then_normal ?_
            exact ih14 _ _ _ h _ _ _ v8 hle (hE.subC (by kernel_rfl)) hH hx12
        · replace h := ifF hc h
          refine wp_skip ?_
          refine Exit.in_normal ?_
          refine Exit.then_normal (hK17 _ _ ?_)
          refine wp_region_from ?_
          refine segO 2 [] [(14, .kv .i (IntKind.wrap .i64 (x10 + 1)))] (Os := []) trivial hE hH (by kernel_rfl) (fun a hE => ?_)
          refine wpFrom_end (by kernel_rfl) ?_
          refine Exit.then_normal ?_
          exact ih14 _ _ _ h _ _ _ v8 hle (hE.subC (by kernel_rfl)) hH hx12
      · replace h := ifN hc h
        have c33 := hc
        refine region_par 13 [] [(0, 0), (0, 0), (0, 0), (0, 0), (0, 0), (0, 0), (0, 0), (0, 0), (0, 0), (0, 0), (0, 0), (0, 0), (0, 0)] [.kv .str x19, .kv .i (x19.length : Int), .kv .i (IntKind.wrap .i64 ((o22.2.1.length : Int) + 1)), .kv .bool (decide ((x19.length : Int) > (IntKind.wrap .i64 ((o22.2.1.length : Int) + 1)))), .kv .bool false, .undef, .undef, .undef, .undef, .undef, .undef, .undef, .undef] (fun _ => tabs σ) (fun _ => LS.raw v8 3 8 .i l9 :: Ls) (by kernel_rfl) (by kernel_rfl) hE hH
                ⟨⟨⟨⟨⟨⟨⟨⟨⟨⟨⟨⟨⟨trivial,
                anyk (fun k => obR [] (Os := []) trivial (by kernel_rfl) (by kernel_rfl))⟩,
                anyk (fun k => obR [] (Os := []) trivial (by kernel_rfl) (by kernel_rfl))⟩,
                anyk (fun k => obR [] (Os := []) trivial (by kernel_rfl) (by kernel_rfl))⟩,
                anyk (fun k => obR [] (Os := []) trivial (by kernel_rfl) (by kernel_rfl))⟩,
                anyk (fun k => obRe [] (Os := []) trivial (by kernel_rfl) (by kernel_rfl) (eb2 (bf c33) rfl))⟩,
                anyk (fun k => obR [] (Os := []) trivial (by kernel_rfl) (by kernel_rfl))⟩,
                anyk (fun k => obR [] (Os := []) trivial (by kernel_rfl) (by kernel_rfl))⟩,
                anyk (fun k => obR [] (Os := []) trivial (by kernel_rfl) (by kernel_rfl))⟩,
                anyk (fun k => obR [] (Os := []) trivial (by kernel_rfl) (by kernel_rfl))⟩,
                anyk (fun k => obR [] (Os := []) trivial (by kernel_rfl) (by kernel_rfl))⟩,
                anyk (fun k => obR [] (Os := []) trivial (by kernel_rfl) (by kernel_rfl))⟩,
                anyk (fun k => obR [] (Os := []) trivial (by kernel_rfl) (by kernel_rfl))⟩,
                anyk (fun k => obR [] (Os := []) trivial (by kernel_rfl) (by kernel_rfl))⟩ (fun a w G hl6 hE hH => ?_)
        have hle := Gh.le_trans hle hl6
        refine segO 2 [] [(38, .kv .bool false)] (Os := []) trivial hE hH (by kernel_rfl) (fun a hE => ?_)
        refine wpFrom_end (by kernel_rfl) ?_
        refine Exit.then_normal (hK23 _ _ ?_)
        refine condF hE (by kernel_rfl) rfl ?_
        refine wp_skip ?_
        refine Exit.in_normal ?_
        refine Exit.then_normal (hK17 _ _ ?_)
        refine wp_region_from ?_
        refine segO 2 [] [(14, .kv .i (IntKind.wrap .i64 (x10 + 1)))] (Os := []) trivial hE hH (by kernel_rfl) (fun a hE => ?_)
        refine wpFrom_end (by kernel_rfl) ?_
        refine Exit.then_normal ?_
        exact ih14 _ _ _ h _ _ _ v8 hle (hE.subC (by kernel_rfl)) hH hx12
    · replace h := ifF hc h
      refine wp_exit ?_
      refine Exit.then_exit ?_
      refine Exit.then_exit ?_
      cases h
      exact hx12 _ rfl _ _ _ v8 hle (hE.subC (by kernel_rfl)) hH
  refine key _ _ _ hz34 _ _ _ (.slice none 0 0) hle (hE.subC (by kernel_rfl)) hH ?_
  · intro z35 hz a w G v8 hle hE hH
    subst hz
    rw [hQ]
    refine Exit.in_eq ?_
    refine Exit.then_normal (hK3 _ _ ?_)
    refine wp_seq_k (fun K hK36 => ?_)
    refine wp_region_from ?_
    refine segO 1 [] [(50, .val v8)] (Os := []) trivial hE hH (by kernel_rfl) (fun a hE => ?_)
    obtain ⟨q37, h⟩ := gd h
    refine stepCallV (f := 87) (As := [.val v8]) (R := .tup []) (d := (some 51)) (T' := tabs σ) (Ls' := LS.raw v8 3 8 .i (sortedI z34.1) :: Ls) (by kernel_rfl) (fun args hA => ?_) hE (by kernel_rfl) (by kernel_rfl) trivial (fun a w G hl7 hE hH => ?_)
    · obtain rfl := one_val hA
      exact sort87_calls (j := 0) hH rfl q37
    · have hle := Gh.le_trans hle hl7
      obtain ⟨G, hl8, hv38, hH⟩ := hH.pub0
      have hle := Gh.le_trans hle hl8
      have hE := hE.mono hl8
      have hE := EnvR.more (v := v8) (e := .kv (.list .i) (sortedI z34.1)) hE 3 (by kernel_rfl) hv38
      have hE := EnvR.more (v := v8) (e := .kv (.list .i) (sortedI z34.1)) hE 50 (by kernel_rfl) hv38
      refine wpFrom_end (by kernel_rfl) ?_
      refine Exit.then_normal (hK36 _ _ ?_)
      refine wp_seq_k (fun K hK39 => ?_)
      refine wp_region_from ?_
      refine segO 2 [] [(2, .kv (.list .i) (sortedI z34.1))] (Os := []) trivial hE hH (by kernel_rfl) (fun a hE => ?_)
      refine wpFrom_end (by kernel_rfl) ?_
      refine Exit.then_normal (hK39 _ _ ?_)
      refine wp_ret ?_
      cases h
      exact ret1 rfl hE hle hH (by kernel_rfl)
end Go.Proofs.Ytlfemhkabjafeaa.M

/- Printed by own program: twins and walks. -/
set_option linter.unusedVariables false
set_option maxRecDepth 100000
namespace Go.Proofs.Ytlfemhkabjafeaa.M
open Go.Proofs (Try.prog Try.func113 Try.f113 Try.func94 Try.f94 Try.func49 Try.f49 Try.func115 Try.f115 Try.func96 Try.f96 Try.func53 Try.f53)

def f113_l0 (p0 : List UInt8) (p1 : Int) (x8 : Int) (x9 : Int) : Option (Sum (Int × Int) (Int × Int × Int)) :=
  if (decide ((IntKind.wrap .i64 (p1 + x9)) < (p0.length : Int))) = true then
  if (0 : Int) ≤ (IntKind.wrap .i64 (p1 + x9)) ∧ (IntKind.wrap .i64 (p1 + x9)) < (p0.length : Int) then
  if ((x9 == 9) && (decide ((btS p0 (IntKind.wrap .i64 (p1 + x9))) > 1))) = true then
  some (.inr (0, 0, 6))
  else
  if (0 : Int) ≤ (IntKind.wrap .i64 (7 * x9)) then
  if (decide ((btS p0 (IntKind.wrap .i64 (p1 + x9))) ≥ 128)) = true then
  f113_l0 p0 p1 (IntKind.wrap .u64 ((BitVec.ofInt (IntKind.bits .u64) x8 ||| BitVec.ofInt (IntKind.bits .u64) (IntKind.wrap .u64 ((IntKind.wrap .u64 (IntKind.wrap .u8 ((BitVec.ofInt (IntKind.bits .u8) (btS p0 (IntKind.wrap .i64 (p1 + x9))) &&& BitVec.ofInt (IntKind.bits .u8) 127).toNat))) * 2 ^ (min (Int.toNat (IntKind.wrap .i64 (7 * x9))) (IntKind.bits .u64))))).toNat)) (IntKind.wrap .i64 (x9 + 1))
  else
  if (((btS p0 (IntKind.wrap .i64 (p1 + x9))) == 0) && (decide (x9 > 0))) = true then
  some (.inr (0, 0, 6))
  else
  (if ((IntKind.wrap .u64 ((BitVec.ofInt (IntKind.bits .u64) (IntKind.wrap .u64 ((BitVec.ofInt (IntKind.bits .u64) x8 ||| BitVec.ofInt (IntKind.bits .u64) (IntKind.wrap .u64 ((IntKind.wrap .u64 (IntKind.wrap .u8 ((BitVec.ofInt (IntKind.bits .u8) (btS p0 (IntKind.wrap .i64 (p1 + x9))) &&& BitVec.ofInt (IntKind.bits .u8) 127).toNat))) * 2 ^ (min (Int.toNat (IntKind.wrap .i64 (7 * x9))) (IntKind.bits .u64))))).toNat)) &&& BitVec.ofInt (IntKind.bits .u64) 1).toNat)) == 1) = true then
  some (IntKind.wrap .i64 ((BitVec.ofInt (IntKind.bits .i64) (if IntKind.signed .i64 = true then -1 else IntKind.max .i64) ^^^ BitVec.ofInt (IntKind.bits .i64) (IntKind.wrap .i64 (Int.fdiv (IntKind.wrap .u64 ((BitVec.ofInt (IntKind.bits .u64) x8 ||| BitVec.ofInt (IntKind.bits .u64) (IntKind.wrap .u64 ((IntKind.wrap .u64 (IntKind.wrap .u8 ((BitVec.ofInt (IntKind.bits .u8) (btS p0 (IntKind.wrap .i64 (p1 + x9))) &&& BitVec.ofInt (IntKind.bits .u8) 127).toNat))) * 2 ^ (min (Int.toNat (IntKind.wrap .i64 (7 * x9))) (IntKind.bits .u64))))).toNat)) (2 ^ 1)))).toNat))
  else
  some (IntKind.wrap .i64 (Int.fdiv (IntKind.wrap .u64 ((BitVec.ofInt (IntKind.bits .u64) x8 ||| BitVec.ofInt (IntKind.bits .u64) (IntKind.wrap .u64 ((IntKind.wrap .u64 (IntKind.wrap .u8 ((BitVec.ofInt (IntKind.bits .u8) (btS p0 (IntKind.wrap .i64 (p1 + x9))) &&& BitVec.ofInt (IntKind.bits .u8) 127).toNat))) * 2 ^ (min (Int.toNat (IntKind.wrap .i64 (7 * x9))) (IntKind.bits .u64))))).toNat)) (2 ^ 1))) : Option Int) >>= fun z33 =>
  some (.inr (z33, IntKind.wrap .i64 ((IntKind.wrap .i64 (p1 + x9)) + 1), 0))
  else none
  else none
  else
  some (.inl (x8, x9))
  partial_fixpoint

def f113 (p0 : List UInt8) (p1 : Int) : Option (Int × Int × Int) :=
  if ((decide (p1 < 0)) || (decide (p1 > (p0.length : Int)))) = true then
  some (0, 0, 3)
  else
  f113_l0 p0 p1 0 0 >>= fun rr37 => (match rr37 with
  | .inr yy => some yy
  | .inl z36 =>
  some (0, 0, 5))

theorem f113_ok {p0 : List UInt8} {p1 : Int} {σ : St} {p : Int × Int × Int} (h : f113 p0 p1 = some p) : Spec Try.prog 113 [.kv .str p0, .kv .i p1] (tabs σ) (.tup [⟨.i, p.1⟩, ⟨.i, p.2.1⟩, ⟨.i, p.2.2⟩]) (tabs σ) := by
  refine Spec.intro Try.func113 (by kernel_rfl) rfl (by kernel_rfl) (fun a w G0 Ls hE hH hN => ?_)
  have hle : G0.le G0 := Gh.le_refl G0
  unfold f113 at h
  refine wp_seq_k (fun K hK1 => ?_)
  refine wp_region_from ?_
  refine segO 3 [] [(4, .kv .i 0), (5, .kv .i 0), (6, .kv .i 0)] (Os := []) trivial hE hH (by kernel_rfl) (fun a hE => ?_)
  refine wpFrom_end (by kernel_rfl) ?_
  refine Exit.then_normal (hK1 _ _ ?_)
  refine wp_seq_k (fun K hK2 => ?_)
  refine wp_seq_k (fun K hK3 => ?_)
  refine wp_region_from ?_
  refine segO 8 [] [(18, .kv .bool ((decide (p1 < 0)) || (decide (p1 > (p0.length : Int)))))] (Os := []) trivial hE hH (by kernel_rfl) (fun a hE => ?_)
  refine wpFrom_end (by kernel_rfl) ?_
  refine Exit.then_normal (hK3 _ _ ?_)
  refine condE (b := (decide (p1 < 0)) || (decide (p1 > (p0.length : Int)))) hE (by kernel_rfl) (fun hc => ?_) (fun hc => ?_)
  · replace h := ifT hc h
    refine wp_seq_k (fun K hK4 => ?_)
    refine wp_region_from ?_
    refine segO 3 [] [(4, .kv .i 0), (5, .kv .i 0), (6, .kv .i 3)] (Os := []) trivial hE hH (by kernel_rfl) (fun a hE => ?_)
    refine wpFrom_end (by kernel_rfl) ?_
    refine Exit.then_normal (hK4 _ _ ?_)
    refine wp_ret ?_
    refine Exit.then_ret ?_
    cases h
    exact ret3 rfl hE hle hH (by kernel_rfl)
  · replace h := ifF hc h
    refine wp_skip ?_
    refine Exit.then_normal (hK2 _ _ ?_)
    refine wp_seq_k (fun K hK5 => ?_)
    refine wp_region_from ?_
    refine segO 1 [] [(7, .kv (.int .u64) 0)] (Os := []) trivial hE hH (by kernel_rfl) (fun a hE => ?_)
    refine wpFrom_end (by kernel_rfl) ?_
    refine Exit.then_normal (hK5 _ _ ?_)
    refine wp_seq_k (fun K hK6 => ?_)
    refine wp_seq_k (fun K hK7 => ?_)
    refine wp_region_from ?_
    refine segO 1 [] [(8, .kv .i 0)] (Os := []) trivial hE hH (by kernel_rfl) (fun a hE => ?_)
    refine wpFrom_end (by kernel_rfl) ?_
    refine Exit.then_normal (hK7 _ _ ?_)
    refine wp_block ?_
    obtain ⟨rr37, hrr37, h⟩ := bs h
    refine loop_intro (fun Q10 c hQ hc => ?_)
    have key : ∀ (x8 : Int) (x9 : Int) (rr : Sum (Int × Int) (Int × Int × Int)), f113_l0 p0 p1 x8 x9 = some rr → ∀ (a : Act) (w : World) (G : Gh), G0.le G → EnvR G 67 a [(0, .kv .str p0), (1, .kv .i p1), (4, .kv .i 0), (5, .kv .i 0), (6, .kv .i 0), (7, .kv (.int .u64) x8), (8, .kv .i x9)] → Holds w G (tabs σ) (Ls) → (∀ z36 : Int × Int, rr = .inl z36 → ∀ (a : Act) (w : World) (G : Gh), G0.le G → EnvR G 67 a [(0, .kv .str p0), (1, .kv .i p1), (4, .kv .i 0), (5, .kv .i 0), (6, .kv .i 0), (7, .kv (.int .u64) z36.1), (8, .kv .i z36.2)] → Holds w G (tabs σ) (Ls) → Q10 (.exit 0) a w) → (∀ yy : Int × Int × Int, rr = .inr yy → ∀ (a : Act) (w : World), PostB Try.prog Try.f113 G0 (.tup [⟨.i, yy.1⟩, ⟨.i, yy.2.1⟩, ⟨.i, yy.2.2⟩]) (tabs σ) Ls .ret a w → Q10 .ret a w) → Rnd Try.prog c Q10 a w := by
      refine f113_l0.partial_correctness p0 p1 _ ?_
      intro self ih13 x8 x9 rr h a w G  hle hE hH hx11 hret12
      refine rnd_step' hc ?_
      refine wp_seq_k (fun K hK14 => ?_)
      refine wp_seq_k (fun K hK15 => ?_)
      refine wp_region_from ?_
      refine segO 6 [] [(24, .kv .bool (decide ((IntKind.wrap .i64 (p1 + x9)) < (p0.length : Int))))] (Os := []) trivial hE hH (by kernel_rfl) (fun a hE => ?_)
      refine wpFrom_end (by kernel_rfl) ?_
      refine Exit.then_normal (hK15 _ _ ?_)
      refine condE (b := decide ((IntKind.wrap .i64 (p1 + x9)) < (p0.length : Int))) hE (by kernel_rfl) (fun hc => ?_) (fun hc => ?_)
      · replace h := ifT hc h
        refine wp_skip ?_
        refine Exit.then_normal (hK14 _ _ ?_)
        refine wp_seq_k (fun K hK16 => ?_)
        refine wp_block ?_
        refine wp_seq_k (fun K hK17 => ?_)
        refine wp_region_from ?_
        obtain ⟨q18, h⟩ := gd h
        refine segO 6 [] [(9, .kv (.int .u8) (btS p0 (IntKind.wrap .i64 (p1 + x9))))] (Os := [_]) ⟨q18, trivial⟩ hE hH (by kernel_rfl) (fun a hE => ?_)
        refine wpFrom_end (by kernel_rfl) ?_
        refine Exit.then_normal (hK17 _ _ ?_)
        refine wp_seq_k (fun K hK19 => ?_)
        refine wp_seq_k (fun K hK20 => ?_)
        refine wp_region_from ?_
        refine segO 6 [] [(37, .kv .bool ((x9 == 9) && (decide ((btS p0 (IntKind.wrap .i64 (p1 + x9))) > 1))))] (Os := []) trivial hE hH (by kernel_rfl) (fun a hE => ?_)
        refine wpFrom_end (by kernel_rfl) ?_
        refine Exit.then_normal (hK20 _ _ ?_)
        refine condE (b := (x9 == 9) && (decide ((btS p0 (IntKind.wrap .i64 (p1 + x9))) > 1))) hE (by kernel_rfl) (fun hc => ?_) (fun hc => ?_)
        · replace h := ifT hc h
          refine wp_seq_k (fun K hK21 => ?_)
          refine wp_region_from ?_
          refine segO 3 [] [(4, .kv .i 0), (5, .kv .i 0), (6, .kv .i 6)] (Os := []) trivial hE hH (by kernel_rfl) (fun a hE => ?_)
          refine wpFrom_end (by kernel_rfl) ?_
          refine Exit.then_normal (hK21 _ _ ?_)
          refine wp_ret ?_
          refine Exit.then_ret ?_
          refine Exit.in_ret ?_
          refine Exit.then_ret ?_
          refine Exit.then_ret ?_
          cases h
          exact hret12 _ rfl _ _ (ret3 rfl hE hle hH (by kernel_rfl))
        · replace h := ifF hc h
          refine wp_skip ?_
          refine Exit.then_normal (hK19 _ _ ?_)
          refine wp_seq_k (fun K hK22 => ?_)
          refine wp_region_from ?_
          obtain ⟨q23, h⟩ := gd h
          refine segO 9 [] [(7, .kv (.int .u64) (IntKind.wrap .u64 ((BitVec.ofInt (IntKind.bits .u64) x8 ||| BitVec.ofInt (IntKind.bits .u64) (IntKind.wrap .u64 ((IntKind.wrap .u64 (IntKind.wrap .u8 ((BitVec.ofInt (IntKind.bits .u8) (btS p0 (IntKind.wrap .i64 (p1 + x9))) &&& BitVec.ofInt (IntKind.bits .u8) 127).toNat))) * 2 ^ (min (Int.toNat (IntKind.wrap .i64 (7 * x9))) (IntKind.bits .u64))))).toNat)))] (Os := [_]) ⟨q23, trivial⟩ hE hH (by kernel_rfl) (fun a hE => ?_)
          refine wpFrom_end (by kernel_rfl) ?_
          refine Exit.then_normal (hK22 _ _ ?_)
          refine wp_seq_k (fun K hK24 => ?_)
          refine wp_seq_k (fun K hK25 => ?_)
          refine wp_region_from ?_
          refine segO 2 [] [(47, .kv .bool (decide ((btS p0 (IntKind.wrap .i64 (p1 + x9))) ≥ 128)))] (Os := []) trivial hE hH (by kernel_rfl) (fun a hE => ?_)
          refine wpFrom_end (by kernel_rfl) ?_
          refine Exit.then_normal (hK25 _ _ ?_)
          refine condE (b := decide ((btS p0 (IntKind.wrap .i64 (p1 + x9))) ≥ 128)) hE (by kernel_rfl) (fun hc => ?_) (fun hc => ?_)
          · replace h := ifT hc h
            refine wp_exit ?_
            refine Exit.then_exit ?_
            refine Exit.in_eq ?_
            refine Exit.then_normal (hK16 _ _ ?_)
            refine wp_region_from ?_
            refine segO 3 [] [(8, .kv .i (IntKind.wrap .i64 (x9 + 1)))] (Os := []) trivial hE hH (by kernel_rfl) (fun a hE => ?_)
            refine wpFrom_end (by kernel_rfl) ?_
            refine Exit.then_normal ?_
            exact ih13 _ _ _ h _ _ _  hle (hE.subC (by kernel_rfl)) hH hx11 hret12
          · replace h := ifF hc h
            refine wp_skip ?_
            refine Exit.then_normal (hK24 _ _ ?_)
            refine wp_seq_k (fun K hK26 => ?_)
            refine wp_seq_k (fun K hK27 => ?_)
            refine wp_region_from ?_
            refine segO 6 [] [(53, .kv .bool (((btS p0 (IntKind.wrap .i64 (p1 + x9))) == 0) && (decide (x9 > 0))))] (Os := []) trivial hE hH (by kernel_rfl) (fun a hE => ?_)
            refine wpFrom_end (by kernel_rfl) ?_
            refine Exit.then_normal (hK27 _ _ ?_)
            refine condE (b := ((btS p0 (IntKind.wrap .i64 (p1 + x9))) == 0) && (decide (x9 > 0))) hE (by kernel_rfl) (fun hc => ?_) (fun hc => ?_)
            · replace h := ifT hc h
              refine wp_seq_k (fun K hK28 => ?_)
              refine wp_region_from ?_
              refine segO 3 [] [(4, .kv .i 0), (5, .kv .i 0), (6, .kv .i 6)] (Os := []) trivial hE hH (by kernel_rfl) (fun a hE => ?_)
              refine wpFrom_end (by kernel_rfl) ?_
              refine Exit.then_normal (hK28 _ _ ?_)
              refine wp_ret ?_
              refine Exit.then_ret ?_
              refine Exit.in_ret ?_
              refine Exit.then_ret ?_
              refine Exit.then_ret ?_
              cases h
              exact hret12 _ rfl _ _ (ret3 rfl hE hle hH (by kernel_rfl))
            · replace h := ifF hc h
              refine wp_skip ?_
              refine Exit.then_normal (hK26 _ _ ?_)
              refine wp_seq_k (fun K hK29 => ?_)
              refine wp_region_from ?_
              refine segO 4 [] [(10, .kv .i (IntKind.wrap .i64 (Int.fdiv (IntKind.wrap .u64 ((BitVec.ofInt (IntKind.bits .u64) x8 ||| BitVec.ofInt (IntKind.bits .u64) (IntKind.wrap .u64 ((IntKind.wrap .u64 (IntKind.wrap .u8 ((BitVec.ofInt (IntKind.bits .u8) (btS p0 (IntKind.wrap .i64 (p1 + x9))) &&& BitVec.ofInt (IntKind.bits .u8) 127).toNat))) * 2 ^ (min (Int.toNat (IntKind.wrap .i64 (7 * x9))) (IntKind.bits .u64))))).toNat)) (2 ^ 1))))] (Os := [_]) ⟨(by decide : (0 : Int) ≤ 1), trivial⟩ hE hH (by kernel_rfl) (fun a hE => ?_)
              refine wpFrom_end (by kernel_rfl) ?_
              refine Exit.then_normal (hK29 _ _ ?_)
              refine wp_seq_k (fun K hK30 => ?_)
              refine wp_seq_k (fun K hK31 => ?_)
              refine wp_region_from ?_
              refine segO 3 [] [(59, .kv .bool ((IntKind.wrap .u64 ((BitVec.ofInt (IntKind.bits .u64) (IntKind.wrap .u64 ((BitVec.ofInt (IntKind.bits .u64) x8 ||| BitVec.ofInt (IntKind.bits .u64) (IntKind.wrap .u64 ((IntKind.wrap .u64 (IntKind.wrap .u8 ((BitVec.ofInt (IntKind.bits .u8) (btS p0 (IntKind.wrap .i64 (p1 + x9))) &&& BitVec.ofInt (IntKind.bits .u8) 127).toNat))) * 2 ^ (min (Int.toNat (IntKind.wrap .i64 (7 * x9))) (IntKind.bits .u64))))).toNat)) &&& BitVec.ofInt (IntKind.bits .u64) 1).toNat)) == 1))] (Os := []) trivial hE hH (by kernel_rfl) (fun a hE => ?_)
              refine wpFrom_end (by kernel_rfl) ?_
              refine Exit.then_normal (hK31 _ _ ?_)
              obtain ⟨z33, hz33, h⟩ := bs h
              refine join_intro (I := fun a w => ∃ (G : Gh), G0.le G ∧ EnvR G 67 a [(0, .kv .str p0), (1, .kv .i p1), (4, .kv .i 0), (5, .kv .i 0), (6, .kv .i 0), (7, .kv (.int .u64) (IntKind.wrap .u64 ((BitVec.ofInt (IntKind.bits .u64) x8 ||| BitVec.ofInt (IntKind.bits .u64) (IntKind.wrap .u64 ((IntKind.wrap .u64 (IntKind.wrap .u8 ((BitVec.ofInt (IntKind.bits .u8) (btS p0 (IntKind.wrap .i64 (p1 + x9))) &&& BitVec.ofInt (IntKind.bits .u8) 127).toNat))) * 2 ^ (min (Int.toNat (IntKind.wrap .i64 (7 * x9))) (IntKind.bits .u64))))).toNat))), (8, .kv .i x9), (10, .kv .i z33)] ∧ Holds w G (tabs σ) (Ls)) trivial ?_ ?_
              · intro a w hI
                obtain ⟨G, hle, hE, hH⟩ := hI
                refine Exit.then_normal (hK30 _ _ ?_)
                refine wp_seq_k (fun K hK35 => ?_)
                refine wp_region_from ?_
                refine segO 8 [] [(4, .kv .i z33), (5, .kv .i (IntKind.wrap .i64 ((IntKind.wrap .i64 (p1 + x9)) + 1))), (6, .kv .i 0)] (Os := []) trivial hE hH (by kernel_rfl) (fun a hE => ?_)
                refine wpFrom_end (by kernel_rfl) ?_
                refine Exit.then_normal (hK35 _ _ ?_)
                refine wp_ret ?_
                refine Exit.in_ret ?_
                refine Exit.then_ret ?_
                refine Exit.then_ret ?_
                cases h
                exact hret12 _ rfl _ _ (ret3 rfl hE hle hH (by kernel_rfl))
              · intro KK hKK ho
                have hj34 : ∀ (a : Act) (w : World) (G : Gh), G0.le G → EnvR G 67 a [(0, .kv .str p0), (1, .kv .i p1), (4, .kv .i 0), (5, .kv .i 0), (6, .kv .i 0), (7, .kv (.int .u64) (IntKind.wrap .u64 ((BitVec.ofInt (IntKind.bits .u64) x8 ||| BitVec.ofInt (IntKind.bits .u64) (IntKind.wrap .u64 ((IntKind.wrap .u64 (IntKind.wrap .u8 ((BitVec.ofInt (IntKind.bits .u8) (btS p0 (IntKind.wrap .i64 (p1 + x9))) &&& BitVec.ofInt (IntKind.bits .u8) 127).toNat))) * 2 ^ (min (Int.toNat (IntKind.wrap .i64 (7 * x9))) (IntKind.bits .u64))))).toNat))), (8, .kv .i x9), (10, .kv .i z33)] → Holds w G (tabs σ) (Ls) → KK .normal a w := fun a w G  h1 h2 h3 => hKK a w ⟨G, h1, h2, h3⟩
                replace h := hz33
                refine condE (b := (IntKind.wrap .u64 ((BitVec.ofInt (IntKind.bits .u64) (IntKind.wrap .u64 ((BitVec.ofInt (IntKind.bits .u64) x8 ||| BitVec.ofInt (IntKind.bits .u64) (IntKind.wrap .u64 ((IntKind.wrap .u64 (IntKind.wrap .u8 ((BitVec.ofInt (IntKind.bits .u8) (btS p0 (IntKind.wrap .i64 (p1 + x9))) &&& BitVec.ofInt (IntKind.bits .u8) 127).toNat))) * 2 ^ (min (Int.toNat (IntKind.wrap .i64 (7 * x9))) (IntKind.bits .u64))))).toNat)) &&& BitVec.ofInt (IntKind.bits .u64) 1).toNat)) == 1) hE (by kernel_rfl) (fun hc => ?_) (fun hc => ?_)
                · replace h := ifT hc h
                  refine wp_region_from ?_
                  refine segO 3 [] [(10, .kv .i (IntKind.wrap .i64 ((BitVec.ofInt (IntKind.bits .i64) (if IntKind.signed .i64 = true then -1 else IntKind.max .i64) ^^^ BitVec.ofInt (IntKind.bits .i64) (IntKind.wrap .i64 (Int.fdiv (IntKind.wrap .u64 ((BitVec.ofInt (IntKind.bits .u64) x8 ||| BitVec.ofInt (IntKind.bits .u64) (IntKind.wrap .u64 ((IntKind.wrap .u64 (IntKind.wrap .u8 ((BitVec.ofInt (IntKind.bits .u8) (btS p0 (IntKind.wrap .i64 (p1 + x9))) &&& BitVec.ofInt (IntKind.bits .u8) 127).toNat))) * 2 ^ (min (Int.toNat (IntKind.wrap .i64 (7 * x9))) (IntKind.bits .u64))))).toNat)) (2 ^ 1)))).toNat)))] (Os := []) trivial hE hH (by kernel_rfl) (fun a hE => ?_)
                  refine wpFrom_end (by kernel_rfl) ?_
                  cases h
                  exact hj34 _ _ _  hle (hE.subC (by kernel_rfl)) hH
                · replace h := ifF hc h
                  refine wp_skip ?_
                  cases h
                  exact hj34 _ _ _  hle (hE.subC (by kernel_rfl)) hH
      · replace h := ifF hc h
        refine wp_exit ?_
        refine Exit.then_exit ?_
        refine Exit.then_exit ?_
        cases h
        exact hx11 _ rfl _ _ _  hle (hE.subC (by kernel_rfl)) hH
    refine key _ _ _ hrr37 _ _ _  hle (hE.subC (by kernel_rfl)) hH ?_ ?_
    · intro z36 hz a w G  hle hE hH
      subst hz
      rw [hQ]
      dsimp only at h
      refine Exit.in_eq ?_
      refine Exit.then_normal (hK6 _ _ ?_)
      refine wp_seq_k (fun K hK38 => ?_)
      refine wp_region_from ?_
      refine segO 3 [] [(4, .kv .i 0), (5, .kv .i 0), (6, .kv .i 5)] (Os := []) trivial hE hH (by kernel_rfl) (fun a hE => ?_)
      refine wpFrom_end (by kernel_rfl) ?_
      refine Exit.then_normal (hK38 _ _ ?_)
      refine wp_ret ?_
      cases h
      exact ret3 rfl hE hle hH (by kernel_rfl)
    · intro yy hz a w hp
      subst hz
      dsimp only at h
      cases h
      rw [hQ]
      refine Exit.in_ret ?_
      refine Exit.then_ret ?_
      exact hp

def f94 (p0 : List UInt8) (p1 : Int) (p2 : Int) : Option ((List UInt8) × Int × Bool) :=
  f113 p0 p1 >>= fun r3 =>
  if (((r3.2.2 != 0) || (decide (r3.1 < 0))) || (decide (r3.1 > (IntKind.wrap .i64 ((p0.length : Int) - r3.2.1))))) = true then
  some ([], 0, false)
  else
  if (0 : Int) ≤ r3.2.1 ∧ r3.2.1 ≤ (IntKind.wrap .i64 (r3.2.1 + r3.1)) ∧ (IntKind.wrap .i64 (r3.2.1 + r3.1)) ≤ (p0.length : Int) then
  f108 ((p0.take (Int.toNat (IntKind.wrap .i64 (r3.2.1 + r3.1)))).drop (Int.toNat r3.2.1)) >>= fun r9 =>
  if (r9.2 != 0) = true then
  some ([], 0, false)
  else
  f90 p2 >>= fun r14 =>
  if (decide ((r9.1.length : Int) < (r14.length : Int))) = true then
  some ([], 0, false)
  else
  if (0 : Int) ≤ (r14.length : Int) ∧ (r14.length : Int) ≤ (r9.1.length : Int) then
  if ((!((r9.1.take (Int.toNat (r14.length : Int))) == r14)) || (decide ((IntKind.wrap .i64 ((r9.1.length : Int) - (r14.length : Int))) > 1024))) = true then
  some ([], 0, false)
  else
  if (0 : Int) ≤ (r14.length : Int) ∧ (r14.length : Int) ≤ (r9.1.length : Int) then
  some (r9.1.drop (Int.toNat (r14.length : Int)), IntKind.wrap .i64 (r3.2.1 + r3.1), true)
  else none
  else none
  else none

theorem f94_ok {p0 : List UInt8} {p1 : Int} {p2 : Int} {σ : St} {p : (List UInt8) × Int × Bool} (h : f94 p0 p1 p2 = some p) : Spec Try.prog 94 [.kv .str p0, .kv .i p1, .kv .i p2] (tabs σ) (.tup [⟨.str, p.1⟩, ⟨.i, p.2.1⟩, ⟨.bool, p.2.2⟩]) (tabs σ) := by
  refine Spec.intro Try.func94 (by kernel_rfl) rfl (by kernel_rfl) (fun a w G0 Ls hE hH hN => ?_)
  have hle : G0.le G0 := Gh.le_refl G0
  unfold f94 at h
  refine wp_seq_k (fun K hK1 => ?_)
  refine wp_region_from ?_
  refine segO 3 [] [(6, .kv .str []), (7, .kv .i 0), (8, .kv .bool false)] (Os := []) trivial hE hH (by kernel_rfl) (fun a hE => ?_)
  refine wpFrom_end (by kernel_rfl) ?_
  refine Exit.then_normal (hK1 _ _ ?_)
  refine wp_seq_k (fun K hK2 => ?_)
  refine wp_region_from ?_
  refine segO 2 [] [(15, .kv .str p0), (16, .kv .i p1)] (Os := []) trivial hE hH (by kernel_rfl) (fun a hE => ?_)
  obtain ⟨r3, hr3, h⟩ := bs h
  refine stepCall (d := (some 17)) (f113_ok hr3) hE hH hN (by kernel_rfl) (by kernel_rfl) trivial (fun a w G hl1 hE hH => ?_)
  have hle := Gh.le_trans hle hl1
  refine segO 7 [] [(9, .kv .i r3.1), (10, .kv .i r3.2.1), (11, .kv .i r3.2.2)] (Os := []) trivial hE hH (by kernel_rfl) (fun a hE => ?_)
  refine wpFrom_end (by kernel_rfl) ?_
  refine Exit.then_normal (hK2 _ _ ?_)
  refine wp_seq_k (fun K hK4 => ?_)
  refine wp_seq_k (fun K hK5 => ?_)
  refine wp_region_from ?_
  refine segO 14 [] [(34, .kv .bool (((r3.2.2 != 0) || (decide (r3.1 < 0))) || (decide (r3.1 > (IntKind.wrap .i64 ((p0.length : Int) - r3.2.1))))))] (Os := []) trivial hE hH (by kernel_rfl) (fun a hE => ?_)
  refine wpFrom_end (by kernel_rfl) ?_
  refine Exit.then_normal (hK5 _ _ ?_)
  refine condE (b := ((r3.2.2 != 0) || (decide (r3.1 < 0))) || (decide (r3.1 > (IntKind.wrap .i64 ((p0.length : Int) - r3.2.1))))) hE (by kernel_rfl) (fun hc => ?_) (fun hc => ?_)
  · replace h := ifT hc h
    refine wp_seq_k (fun K hK6 => ?_)
    refine wp_region_from ?_
    refine segO 3 [] [(6, .kv .str []), (7, .kv .i 0), (8, .kv .bool false)] (Os := []) trivial hE hH (by kernel_rfl) (fun a hE => ?_)
    refine wpFrom_end (by kernel_rfl) ?_
    refine Exit.then_normal (hK6 _ _ ?_)
    refine wp_ret ?_
    refine Exit.then_ret ?_
    cases h
    exact ret3 rfl hE hle hH (by kernel_rfl)
  · replace h := ifF hc h
    refine wp_skip ?_
    refine Exit.then_normal (hK4 _ _ ?_)
    refine wp_seq_k (fun K hK7 => ?_)
    refine wp_region_from ?_
    obtain ⟨q8, h⟩ := gd h
    refine segO 6 [] [(41, .kv .str ((p0.take (Int.toNat (IntKind.wrap .i64 (r3.2.1 + r3.1)))).drop (Int.toNat r3.2.1)))] (Os := [_]) ⟨q8, trivial⟩ hE hH (by kernel_rfl) (fun a hE => ?_)
    obtain ⟨r9, hr9, h⟩ := bs h
    refine stepCall (d := (some 42)) (f108_ok hr9) hE hH hN (by kernel_rfl) (by kernel_rfl) trivial (fun a w G hl2 hE hH => ?_)
    have hle := Gh.le_trans hle hl2
    refine segO 5 [] [(11, .kv .i r9.2), (12, .kv .str r9.1)] (Os := []) trivial hE hH (by kernel_rfl) (fun a hE => ?_)
    refine wpFrom_end (by kernel_rfl) ?_
    refine Exit.then_normal (hK7 _ _ ?_)
    refine wp_seq_k (fun K hK10 => ?_)
    refine wp_seq_k (fun K hK11 => ?_)
    refine wp_region_from ?_
    refine segO 2 [] [(46, .kv .bool (r9.2 != 0))] (Os := []) trivial hE hH (by kernel_rfl) (fun a hE => ?_)
    refine wpFrom_end (by kernel_rfl) ?_
    refine Exit.then_normal (hK11 _ _ ?_)
    refine condE (b := r9.2 != 0) hE (by kernel_rfl) (fun hc => ?_) (fun hc => ?_)
    · replace h := ifT hc h
      refine wp_seq_k (fun K hK12 => ?_)
      refine wp_region_from ?_
      refine segO 3 [] [(6, .kv .str []), (7, .kv .i 0), (8, .kv .bool false)] (Os := []) trivial hE hH (by kernel_rfl) (fun a hE => ?_)
      refine wpFrom_end (by kernel_rfl) ?_
      refine Exit.then_normal (hK12 _ _ ?_)
      refine wp_ret ?_
      refine Exit.then_ret ?_
      cases h
      exact ret3 rfl hE hle hH (by kernel_rfl)
    · replace h := ifF hc h
      refine wp_skip ?_
      refine Exit.then_normal (hK10 _ _ ?_)
      refine wp_seq_k (fun K hK13 => ?_)
      refine wp_region_from ?_
      refine segO 1 [] [(47, .kv .i p2)] (Os := []) trivial hE hH (by kernel_rfl) (fun a hE => ?_)
      obtain ⟨r14, hr14, h⟩ := bs h
      refine stepCall (d := (some 48)) (f90_ok hr14) hE hH hN (by kernel_rfl) (by kernel_rfl) trivial (fun a w G hl3 hE hH => ?_)
      have hle := Gh.le_trans hle hl3
      refine segO 1 [] [(13, .kv .str r14)] (Os := []) trivial hE hH (by kernel_rfl) (fun a hE => ?_)
      refine wpFrom_end (by kernel_rfl) ?_
      refine Exit.then_normal (hK13 _ _ ?_)
      refine wp_seq_k (fun K hK15 => ?_)
      refine wp_seq_k (fun K hK16 => ?_)
      refine wp_region_from ?_
      refine segO 6 [] [(54, .kv .bool (decide ((r9.1.length : Int) < (r14.length : Int))))] (Os := []) trivial hE hH (by kernel_rfl) (fun a hE => ?_)
      by_cases hc : (decide ((r9.1.length : Int) < (r14.length : Int))) = true
      · replace h := ifT hc h
        have hE := hE.setB 54 (by kernel_rfl) hc
        refine segO 15 [] [(69, .kv .bool true)] (Os := []) trivial hE hH (by kernel_rfl) (fun a hE => ?_)
        refine wpFrom_end (by kernel_rfl) ?_
        refine Exit.then_normal (hK16 _ _ ?_)
        refine condT hE (by kernel_rfl) rfl ?_
        refine wp_seq_k (fun K hK17 => ?_)
        refine wp_region_from ?_
        refine segO 3 [] [(6, .kv .str []), (7, .kv .i 0), (8, .kv .bool false)] (Os := []) trivial hE hH (by kernel_rfl) (fun a hE => ?_)
        refine wpFrom_end (by kernel_rfl) ?_
        refine Exit.then_normal (hK17 _ _ ?_)
        refine wp_ret ?_
        refine Exit.then_ret ?_
        cases h
        exact ret3 rfl hE hle hH (by kernel_rfl)
      · replace h := ifN hc h
        have hE := hE.setB 54 (by kernel_rfl) (bf hc)
        obtain ⟨q18, h⟩ := gd h
        refine segO 15 [] [(69, .kv .bool ((!((r9.1.take (Int.toNat (r14.length : Int))) == r14)) || (decide ((IntKind.wrap .i64 ((r9.1.length : Int) - (r14.length : Int))) > 1024))))] (Os := [_]) ⟨q18, trivial⟩ hE hH (by kernel_rfl) (fun a hE => ?_)
        refine wpFrom_end (by kernel_rfl) ?_
        refine Exit.then_normal (hK16 _ _ ?_)
        refine condE (b := (!((r9.1.take (Int.toNat (r14.length : Int))) == r14)) || (decide ((IntKind.wrap .i64 ((r9.1.length : Int) - (r14.length : Int))) > 1024))) hE (by kernel_rfl) (fun hc => ?_) (fun hc => ?_)
        · replace h := ifT hc h
          refine wp_seq_k (fun K hK19 => ?_)
          refine wp_region_from ?_
          refine segO 3 [] [(6, .kv .str []), (7, .kv .i 0), (8, .kv .bool false)] (Os := []) trivial hE hH (by kernel_rfl) (fun a hE => ?_)
          refine wpFrom_end (by kernel_rfl) ?_
          refine Exit.then_normal (hK19 _ _ ?_)
          refine wp_ret ?_
          refine Exit.then_ret ?_
          cases h
          exact ret3 rfl hE hle hH (by kernel_rfl)
        · replace h := ifF hc h
          refine wp_skip ?_
          refine Exit.then_normal (hK15 _ _ ?_)
          refine wp_seq_k (fun K hK20 => ?_)
          refine wp_region_from ?_
          obtain ⟨q21, h⟩ := gd h
          refine segO 10 [] [(6, .kv .str (r9.1.drop (Int.toNat (r14.length : Int)))), (7, .kv .i (IntKind.wrap .i64 (r3.2.1 + r3.1))), (8, .kv .bool true)] (Os := [_]) ⟨q21, trivial⟩ hE hH (by kernel_rfl) (fun a hE => ?_)
          refine wpFrom_end (by kernel_rfl) ?_
          refine Exit.then_normal (hK20 _ _ ?_)
          refine wp_ret ?_
          cases h
          exact ret3 rfl hE hle hH (by kernel_rfl)

def f49_l0 (p0 : List UInt8) (p1 : Int) (l7 : List (List UInt8)) (x8 : Int) : Option ((List (List UInt8)) × Int) :=
  if (decide (p1 ≥ 0)) = true then
  f94 p0 x8 (IntKind.wrap .i64 (p1 + (l7.length : Int))) >>= fun r16 =>
  if (!r16.2.2) = true then
  some ((l7, x8))
  else
  if (l7.length + 1) * 16 ≤ 140737488355328 then
  f49_l0 p0 p1 (l7 ++ [r16.1]) r16.2.1
  else none
  else
  some ((l7, x8))
  partial_fixpoint

def f49 (p0 : List UInt8) (p1 : Int) : Option ((List (List UInt8)) × Int) :=
  f49_l0 p0 p1 [] 0 >>= fun z22 =>
  some (z22.1, z22.2)

theorem f49_ok {p0 : List UInt8} {p1 : Int} {σ : St} {p : (List (List UInt8)) × Int} (h : f49 p0 p1 = some p) : Spec Try.prog 49 [.kv .str p0, .kv .i p1] (tabs σ) (.tup [⟨(.list .str), p.1⟩, ⟨.i, p.2⟩]) (tabs σ) := by
  refine Spec.intro Try.func49 (by kernel_rfl) rfl (by kernel_rfl) (fun a w G0 Ls hE hH hN => ?_)
  have hle : G0.le G0 := Gh.le_refl G0
  unfold f49 at h
  refine wp_seq_k (fun K hK1 => ?_)
  refine wp_region_from ?_
  refine segO 2 [] [(4, .val (.slice none 0 0)), (5, .kv .i 0)] (Os := []) trivial hE hH (by kernel_rfl) (fun a hE => ?_)
  refine wpFrom_end (by kernel_rfl) ?_
  refine Exit.then_normal (hK1 _ _ ?_)
  refine wp_scope_in ?_
  refine wp_seq_k (fun K hK2 => ?_)
  refine wp_region_from ?_
  refine segO 1 [] [(6, .val (.slice none 0 0))] (Os := []) trivial hE hH (by kernel_rfl) (fun a hE => ?_)
  refine wpFrom_end (by kernel_rfl) ?_
  refine Exit.then_normal (hK2 _ _ ?_)
  refine wp_seq_k (fun K hK3 => ?_)
  refine wp_region_from ?_
  refine segO 1 [] [(7, .kv .i 0)] (Os := []) trivial hE hH (by kernel_rfl) (fun a hE => ?_)
  refine wpFrom_end (by kernel_rfl) ?_
  refine Exit.then_normal (hK3 _ _ ?_)
  refine wp_seq_k (fun K hK4 => ?_)
  refine wp_label ?_
  refine Exit.then_normal (hK4 _ _ ?_)
  refine wp_seq_k (fun K hK5 => ?_)
  refine wp_block ?_
  have hE := hE.nilTl 6 .str (by kernel_rfl)
  have hH := hH.nilTk 9 16 .str
  obtain ⟨z22, hz22, h⟩ := bs h
  refine loop_intro (fun Q9 c hQ hc => ?_)
  have key : ∀ (l7 : List (List UInt8)) (x8 : Int) (rr : (List (List UInt8)) × Int), f49_l0 p0 p1 l7 x8 = some rr → ∀ (a : Act) (w : World) (G : Gh) (v6 : Value), G0.le G → EnvR G 33 a [(0, .kv .str p0), (1, .kv .i p1), (4, .val (.slice none 0 0)), (5, .kv .i 0), (6, .tl v6 .str l7), (7, .kv .i x8)] → Holds w G (tabs σ) (LS.tk v6 9 16 .str l7 :: Ls) → (∀ z23 : (List (List UInt8)) × Int, rr = z23 → ∀ (a : Act) (w : World) (G : Gh) (v6 : Value), G0.le G → EnvR G 33 a [(0, .kv .str p0), (1, .kv .i p1), (4, .val (.slice none 0 0)), (5, .kv .i 0), (6, .tl v6 .str z23.1), (7, .kv .i z23.2)] → Holds w G (tabs σ) (LS.tk v6 9 16 .str z23.1 :: Ls) → Q9 (.exit 0) a w) → Rnd Try.prog c Q9 a w := by
    refine f49_l0.partial_correctness p0 p1 _ ?_
    intro self ih12 l7 x8 rr h a w G v6 hle hE hH hx10
    refine rnd_step' hc ?_
    refine wp_seq_k (fun K hK13 => ?_)
    refine wp_seq_k (fun K hK14 => ?_)
    refine wp_region_from ?_
    refine segO 2 [] [(12, .kv .bool (decide (p1 ≥ 0)))] (Os := []) trivial hE hH (by kernel_rfl) (fun a hE => ?_)
    refine wpFrom_end (by kernel_rfl) ?_
    refine Exit.then_normal (hK14 _ _ ?_)
    refine condE (b := decide (p1 ≥ 0)) hE (by kernel_rfl) (fun hc => ?_) (fun hc => ?_)
    · replace h := ifT hc h
      refine wp_skip ?_
      refine Exit.then_normal (hK13 _ _ ?_)
      refine wp_block ?_
      refine wp_seq_k (fun K hK15 => ?_)
      refine wp_region_from ?_
      refine segO 6 [] [(14, .kv .str p0), (15, .kv .i x8), (19, .kv .i (IntKind.wrap .i64 (p1 + (l7.length : Int))))] (Os := []) trivial hE hH (by kernel_rfl) (fun a hE => ?_)
      obtain ⟨r16, hr16, h⟩ := bs h
      refine stepCall (d := (some 20)) (f94_ok hr16) hE hH (NoHole.cons (fun _ _ _ => rfl) hN) (by kernel_rfl) (by kernel_rfl) trivial (fun a w G hl1 hE hH => ?_)
      have hle := Gh.le_trans hle hl1
      refine segO 7 [] [(8, .kv .str r16.1), (9, .kv .i r16.2.1), (10, .kv .bool r16.2.2)] (Os := []) trivial hE hH (by kernel_rfl) (fun a hE => ?_)
      refine wpFrom_end (by kernel_rfl) ?_
      refine Exit.then_normal (hK15 _ _ ?_)
      refine wp_seq_k (fun K hK17 => ?_)
      refine wp_seq_k (fun K hK18 => ?_)
      refine wp_region_from ?_
      refine segO 2 [] [(25, .kv .bool (!r16.2.2))] (Os := []) trivial hE hH (by kernel_rfl) (fun a hE => ?_)
      refine wpFrom_end (by kernel_rfl) ?_
      refine Exit.then_normal (hK18 _ _ ?_)
      refine condE (b := !r16.2.2) hE (by kernel_rfl) (fun hc => ?_) (fun hc => ?_)
      · replace h := ifT hc h
        refine wp_exit ?_
        refine Exit.then_exit ?_
        refine Exit.in_ne (by decide) ?_
        refine Exit.then_exit ?_
        cases h
        exact hx10 _ rfl _ _ _ v6 hle (hE.subC (by kernel_rfl)) hH
      · replace h := ifF hc h
        refine wp_skip ?_
        refine Exit.then_normal (hK17 _ _ ?_)
        refine wp_seq_k (fun K hK19 => ?_)
        refine wp_region_from ?_
        refine segO 2 [] [(26, .tl v6 .str l7), (27, .kv .str r16.1)] (Os := []) trivial hE hH (by kernel_rfl) (fun a hE => ?_)
        refine stepBuildS (d := (some 28)) .str [r16.1] hE hH (by kernel_rfl) (by kernel_rfl) (fun a w G hl2 hE hH => ?_)
        have hle := Gh.le_trans hle hl2
        obtain ⟨q20, h⟩ := gd h
        refine stepApp (e := 0) (bt := 16) (ys := [r16.1]) (e' := 9) (d := (some 29)) 0 hE hH (by kernel_rfl) rfl (by kernel_rfl) q20 (fun v21 a w G hl3 hE hH => ?_)
        have hle := Gh.le_trans hle hl3
        refine segO 1 [] [(6, .tl v21 .str (l7 ++ [r16.1]))] (Os := []) trivial hE hH (by kernel_rfl) (fun a hE => ?_)
        refine wpFrom_end (by kernel_rfl) ?_
        refine Exit.then_normal (hK19 _ _ ?_)
        refine wp_region_from ?_
        refine segO 2 [] [(7, .kv .i r16.2.1)] (Os := []) trivial hE hH (by kernel_rfl) (fun a hE => ?_)
        refine wpFrom_end (by kernel_rfl) ?_
        refine Exit.in_normal ?_
        refine Exit.then_normal ?_
        exact ih12 _ _ _ h _ _ _ v21 hle (hE.subC (by kernel_rfl)) hH hx10
    · replace h := ifF hc h
      refine wp_exit ?_
      refine Exit.then_exit ?_
      refine Exit.then_exit ?_
      cases h
      exact hx10 _ rfl _ _ _ v6 hle (hE.subC (by kernel_rfl)) hH
  refine key _ _ _ hz22 _ _ _ (.slice none 0 0) hle (hE.subC (by kernel_rfl)) hH ?_
  · intro z23 hz a w G v6 hle hE hH
    subst hz
    rw [hQ]
    refine Exit.in_eq ?_
    refine Exit.then_normal (hK5 _ _ ?_)
    refine wp_seq_k (fun K hK24 => ?_)
    refine wp_region_from ?_
    refine segO 4 [] [(4, .tl v6 .str z22.1), (5, .kv .i z22.2)] (Os := []) trivial hE hH (by kernel_rfl) (fun a hE => ?_)
    refine wpFrom_end (by kernel_rfl) ?_
    refine Exit.then_normal (hK24 _ _ ?_)
    refine wp_ret ?_
    refine Exit.sc_ret ?_
    have hH := hH.drop (fun _ _ _ => rfl)
    cases h
    exact ret2 rfl hE hle hH (by kernel_rfl)

theorem f49_o {p0 : List UInt8} {p1 : Int} {σ : St} {p : (List (List UInt8)) × Int} (h : f49 p0 p1 = some p) {w : World} {G0 : Gh} {Ls : List LS} (hH : Holds w G0 (tabs σ) Ls) (hN : NoHole Ls) {args : List Value} (hA : All2 (EnR G0) [.kv .str p0, .kv .i p1] args) : Calls Try.prog 49 args.toArray w (PostF G0 (fun v => .val (.tuple #[v, .int .i64 p.2])) (tabs σ) (fun v => LS.tk v 9 16 .str p.1 :: Ls)) := by
  refine introX Try.func49 rfl (by kernel_rfl) hA (fun a hE => ?_)
  have hle : G0.le G0 := Gh.le_refl G0
  unfold f49 at h
  refine wp_seq_k (fun K hK1 => ?_)
  refine wp_region_from ?_
  refine segO 2 [] [(4, .val (.slice none 0 0)), (5, .kv .i 0)] (Os := []) trivial hE hH (by kernel_rfl) (fun a hE => ?_)
  refine wpFrom_end (by kernel_rfl) ?_
  refine Exit.then_normal (hK1 _ _ ?_)
  refine wp_scope_in ?_
  refine wp_seq_k (fun K hK2 => ?_)
  refine wp_region_from ?_
  refine segO 1 [] [(6, .val (.slice none 0 0))] (Os := []) trivial hE hH (by kernel_rfl) (fun a hE => ?_)
  refine wpFrom_end (by kernel_rfl) ?_
  refine Exit.then_normal (hK2 _ _ ?_)
  refine wp_seq_k (fun K hK3 => ?_)
  refine wp_region_from ?_
  refine segO 1 [] [(7, .kv .i 0)] (Os := []) trivial hE hH (by kernel_rfl) (fun a hE => ?_)
  refine wpFrom_end (by kernel_rfl) ?_
  refine Exit.then_normal (hK3 _ _ ?_)
  refine wp_seq_k (fun K hK4 => ?_)
  refine wp_label ?_
  refine Exit.then_normal (hK4 _ _ ?_)
  refine wp_seq_k (fun K hK5 => ?_)
  refine wp_block ?_
  have hE := hE.nilTl 6 .str (by kernel_rfl)
  have hH := hH.nilTk 9 16 .str
  obtain ⟨z22, hz22, h⟩ := bs h
  refine loop_intro (fun Q9 c hQ hc => ?_)
  have key : ∀ (l7 : List (List UInt8)) (x8 : Int) (rr : (List (List UInt8)) × Int), f49_l0 p0 p1 l7 x8 = some rr → ∀ (a : Act) (w : World) (G : Gh) (v6 : Value), G0.le G → EnvR G 33 a [(0, .kv .str p0), (1, .kv .i p1), (4, .val (.slice none 0 0)), (5, .kv .i 0), (6, .tl v6 .str l7), (7, .kv .i x8)] → Holds w G (tabs σ) (LS.tk v6 9 16 .str l7 :: Ls) → (∀ z23 : (List (List UInt8)) × Int, rr = z23 → ∀ (a : Act) (w : World) (G : Gh) (v6 : Value), G0.le G → EnvR G 33 a [(0, .kv .str p0), (1, .kv .i p1), (4, .val (.slice none 0 0)), (5, .kv .i 0), (6, .tl v6 .str z23.1), (7, .kv .i z23.2)] → Holds w G (tabs σ) (LS.tk v6 9 16 .str z23.1 :: Ls) → Q9 (.exit 0) a w) → Rnd Try.prog c Q9 a w := by
    refine f49_l0.partial_correctness p0 p1 _ ?_
    intro self ih12 l7 x8 rr h a w G v6 hle hE hH hx10
    refine rnd_step' hc ?_
    refine wp_seq_k (fun K hK13 => ?_)
    refine wp_seq_k (fun K hK14 => ?_)
    refine wp_region_from ?_
    refine segO 2 [] [(12, .kv .bool (decide (p1 ≥ 0)))] (Os := []) trivial hE hH (by kernel_rfl) (fun a hE => ?_)
    refine wpFrom_end (by kernel_rfl) ?_
    refine Exit.then_normal (hK14 _ _ ?_)
    refine condE (b := decide (p1 ≥ 0)) hE (by kernel_rfl) (fun hc => ?_) (fun hc => ?_)
    · replace h := ifT hc h
      refine wp_skip ?_
      refine Exit.then_normal (hK13 _ _ ?_)
      refine wp_block ?_
      refine wp_seq_k (fun K hK15 => ?_)
      refine wp_region_from ?_
      refine segO 6 [] [(14, .kv .str p0), (15, .kv .i x8), (19, .kv .i (IntKind.wrap .i64 (p1 + (l7.length : Int))))] (Os := []) trivial hE hH (by kernel_rfl) (fun a hE => ?_)
      obtain ⟨r16, hr16, h⟩ := bs h
      refine stepCall (d := (some 20)) (f94_ok hr16) hE hH (NoHole.cons (fun _ _ _ => rfl) hN) (by kernel_rfl) (by kernel_rfl) trivial (fun a w G hl1 hE hH => ?_)
      have hle := Gh.le_trans hle hl1
      refine segO 7 [] [(8, .kv .str r16.1), (9, .kv .i r16.2.1), (10, .kv .bool r16.2.2)] (Os := []) trivial hE hH (by kernel_rfl) (fun a hE => ?_)
      refine wpFrom_end (by kernel_rfl) ?_
      refine Exit.then_normal (hK15 _ _ ?_)
      refine wp_seq_k (fun K hK17 => ?_)
      refine wp_seq_k (fun K hK18 => ?_)
      refine wp_region_from ?_
      refine segO 2 [] [(25, .kv .bool (!r16.2.2))] (Os := []) trivial hE hH (by kernel_rfl) (fun a hE => ?_)
      refine wpFrom_end (by kernel_rfl) ?_
      refine Exit.then_normal (hK18 _ _ ?_)
      refine condE (b := !r16.2.2) hE (by kernel_rfl) (fun hc => ?_) (fun hc => ?_)
      · replace h := ifT hc h
        refine wp_exit ?_
        refine Exit.then_exit ?_
        refine Exit.in_ne (by decide) ?_
        refine Exit.then_exit ?_
        cases h
        exact hx10 _ rfl _ _ _ v6 hle (hE.subC (by kernel_rfl)) hH
      · replace h := ifF hc h
        refine wp_skip ?_
        refine Exit.then_normal (hK17 _ _ ?_)
        refine wp_seq_k (fun K hK19 => ?_)
        refine wp_region_from ?_
        refine segO 2 [] [(26, .tl v6 .str l7), (27, .kv .str r16.1)] (Os := []) trivial hE hH (by kernel_rfl) (fun a hE => ?_)
        refine stepBuildS (d := (some 28)) .str [r16.1] hE hH (by kernel_rfl) (by kernel_rfl) (fun a w G hl2 hE hH => ?_)
        have hle := Gh.le_trans hle hl2
        obtain ⟨q20, h⟩ := gd h
        refine stepApp (e := 0) (bt := 16) (ys := [r16.1]) (e' := 9) (d := (some 29)) 0 hE hH (by kernel_rfl) rfl (by kernel_rfl) q20 (fun v21 a w G hl3 hE hH => ?_)
        have hle := Gh.le_trans hle hl3
        refine segO 1 [] [(6, .tl v21 .str (l7 ++ [r16.1]))] (Os := []) trivial hE hH (by kernel_rfl) (fun a hE => ?_)
        refine wpFrom_end (by kernel_rfl) ?_
        refine Exit.then_normal (hK19 _ _ ?_)
        refine wp_region_from ?_
        refine segO 2 [] [(7, .kv .i r16.2.1)] (Os := []) trivial hE hH (by kernel_rfl) (fun a hE => ?_)
        refine wpFrom_end (by kernel_rfl) ?_
        refine Exit.in_normal ?_
        refine Exit.then_normal ?_
        exact ih12 _ _ _ h _ _ _ v21 hle (hE.subC (by kernel_rfl)) hH hx10
    · replace h := ifF hc h
      refine wp_exit ?_
      refine Exit.then_exit ?_
      refine Exit.then_exit ?_
      cases h
      exact hx10 _ rfl _ _ _ v6 hle (hE.subC (by kernel_rfl)) hH
  refine key _ _ _ hz22 _ _ _ (.slice none 0 0) hle (hE.subC (by kernel_rfl)) hH ?_
  · intro z23 hz a w G v6 hle hE hH
    subst hz
    rw [hQ]
    refine Exit.in_eq ?_
    refine Exit.then_normal (hK5 _ _ ?_)
    refine wp_seq_k (fun K hK24 => ?_)
    refine wp_region_from ?_
    refine segO 4 [] [(4, .tl v6 .str z22.1), (5, .kv .i z22.2)] (Os := []) trivial hE hH (by kernel_rfl) (fun a hE => ?_)
    refine wpFrom_end (by kernel_rfl) ?_
    refine Exit.then_normal (hK24 _ _ ?_)
    refine wp_ret ?_
    refine Exit.sc_ret ?_
    cases h
    exact retXO (K := .str) (xs := z22.1) rfl hE hle hH (by kernel_rfl) (by kernel_rfl)

def f115 (p0 : Option Nat) (p1 : Int) (σ : St) : Option (((Option Nat) × Int × Int) × St) :=
  p0 >>= fun i4 =>
  ((σ.add130 (p1, [], 0, ())).t128[i4]?) >>= fun o5 =>
  f98 p0 (some σ.t130.length) (σ.add130 (p1, [], 0, ())) >>= fun r6 =>
  f28 o5.1 r6 (σ.add130 (p1, [], 0, ())) >>= fun r7 =>
  if (r7.2 != 0) = true then
  some ((none, 0, r7.2), (σ.add130 (p1, [], 0, ())))
  else
  f49 r7.1 p1 >>= fun r12 =>
  some ((some σ.t130.length, IntKind.wrap .i64 ((r7.1.length : Int) - r12.2), 0), (((σ.add130 (p1, [], 0, ())).set130 σ.t130.length (p1, r12.1, 0, ())).set130 σ.t130.length (p1, r12.1, r12.2, ())))

theorem f115_ok {p0 : Option Nat} {p1 : Int} {σ : St} {p : ((Option Nat) × Int × Int) × St} (h : f115 p0 p1 σ = some p) : Spec Try.prog 115 [.kv (.ptr 128) p0, .kv .i p1] (tabs σ) (.tup [⟨(.ptr 130), p.1.1⟩, ⟨.i, p.1.2.1⟩, ⟨.i, p.1.2.2⟩]) (tabs p.2) := by
  refine Spec.intro Try.func115 (by kernel_rfl) rfl (by kernel_rfl) (fun a w G0 Ls hE hH hN => ?_)
  have hle : G0.le G0 := Gh.le_refl G0
  unfold f115 at h
  refine wp_seq_k (fun K hK1 => ?_)
  refine wp_region_from ?_
  refine segO 3 [] [(4, .val (.pointer none)), (5, .kv .i 0), (6, .kv .i 0)] (Os := []) trivial hE hH (by kernel_rfl) (fun a hE => ?_)
  refine wpFrom_end (by kernel_rfl) ?_
  refine Exit.then_normal (hK1 _ _ ?_)
  refine wp_seq_k (fun K hK2 => ?_)
  refine wp_region_from ?_
  refine segO 1 [] [(10, .kv .i p1)] (Os := []) trivial hE hH (by kernel_rfl) (fun a hE => ?_)
  refine stepBuildV (d := (some 11)) (.agg #[.int .i64 p1, .slice none 0 0, .int .i64 0]) hE (by kernel_rfl) (by kernel_rfl) (fun a hE => ?_)
  refine stepNewX (t := 130) (fs := fs130) (x := (p1, [], 0, ())) (e := 130) (d := (some 12)) (.agg #[.int .i64 p1, .slice none 0 0, .int .i64 0]) hE hH hN (by kernel_rfl) (by kernel_rfl) (fun w2 G2 hG hn => ⟨[_], _, rfl, rfl, ⟨[_], _, rfl, (by rw [hn 1]; exact ⟨_, rfl, ownV_nil _ _ _ _ _ _⟩), ⟨[_], _, rfl, rfl, rfl⟩⟩⟩) (addT130 (s := σ) (x := (p1, [], 0, ()))) (fun a w G hl1 hE hH => ?_)
  have hle := Gh.le_trans hle hl1
  refine segO 1 [] [(7, .fldA 130 σ.t130.length 0)] (Os := []) trivial hE hH (by kernel_rfl) (fun a hE => ?_)
  refine wpFrom_end (by kernel_rfl) ?_
  refine Exit.then_normal (hK2 _ _ ?_)
  refine wp_seq_k (fun K hK3 => ?_)
  obtain ⟨i4, hi4, h⟩ := bs h
  obtain ⟨o5, ho5, h⟩ := bs h
  obtain ⟨r6, hr6, h⟩ := bs h
  obtain ⟨r7, hr7, h⟩ := bs h
  refine region_par 12 [6, 7] [(0, 1), (0, 1), (0, 1), (0, 1), (0, 0), (0, 0), (0, 0), (1, 1), (2, 2), (2, 2), (2, 2), (2, 2)] [.kv (.ptr 128) p0, .kv (.ptr 128) (some i4), .fldA 128 i4 0, .kv (.ptr 105) o5.1, .kv (.ptr 128) p0, .fldA 130 σ.t130.length 0, .kv .str r6, .tup [⟨.str, r7.1⟩, ⟨.i, r7.2⟩], .tup [⟨.str, r7.1⟩, ⟨.i, r7.2⟩], .kv .str r7.1, .kv .i r7.2, .kv .str r7.1] (fun _ => tabs (σ.add130 (p1, [], 0, ()))) (fun _ => Ls) (by kernel_rfl) (by kernel_rfl) hE hH
          ⟨⟨⟨⟨⟨⟨⟨⟨⟨⟨⟨⟨trivial,
          anyk (fun k => obR [] (Os := []) trivial (by kernel_rfl) (by kernel_rfl))⟩,
          anyk (fun k => obR [.pt i4] (Os := [_]) ⟨hi4, trivial⟩ (by kernel_rfl) (by kernel_rfl))⟩,
          anyk (fun k => obR [] (Os := []) trivial (by kernel_rfl) (by kernel_rfl))⟩,
          anyk (fun k => obR [.ob fs128 o5] (Os := [_]) ⟨(ob128 (s := (σ.add130 (p1, [], 0, ()))) ho5), trivial⟩ (by kernel_rfl) (by kernel_rfl))⟩,
          anyk (fun k => obR [] (Os := []) trivial (by kernel_rfl) (by kernel_rfl))⟩,
          anyk (fun k => obR [] (Os := []) trivial (by kernel_rfl) (by kernel_rfl))⟩,
          one (obC (k := 0) (d := (some 20)) (f98_ok hr6) rfl hN (by kernel_rfl) (by kernel_rfl) rfl trivial)⟩,
          one (obC (k := 1) (d := (some 21)) (f28_ok hr7) rfl hN (by kernel_rfl) (by kernel_rfl) rfl trivial)⟩,
          anyk (fun k => obR [] (Os := []) trivial (by kernel_rfl) (by kernel_rfl))⟩,
          anyk (fun k => obR [] (Os := []) trivial (by kernel_rfl) (by kernel_rfl))⟩,
          anyk (fun k => obR [] (Os := []) trivial (by kernel_rfl) (by kernel_rfl))⟩,
          anyk (fun k => obR [] (Os := []) trivial (by kernel_rfl) (by kernel_rfl))⟩ (fun a w G hl2 hE hH => ?_)
  have hle := Gh.le_trans hle hl2
  refine segO 1 [] [(9, .kv .i r7.2)] (Os := []) trivial hE hH (by kernel_rfl) (fun a hE => ?_)
  refine wpFrom_end (by kernel_rfl) ?_
  refine Exit.then_normal (hK3 _ _ ?_)
  refine wp_seq_k (fun K hK8 => ?_)
  refine wp_seq_k (fun K hK9 => ?_)
  refine wp_region_from ?_
  refine segO 2 [] [(25, .kv .bool (r7.2 != 0))] (Os := []) trivial hE hH (by kernel_rfl) (fun a hE => ?_)
  refine wpFrom_end (by kernel_rfl) ?_
  refine Exit.then_normal (hK9 _ _ ?_)
  refine condE (b := r7.2 != 0) hE (by kernel_rfl) (fun hc => ?_) (fun hc => ?_)
  · replace h := ifT hc h
    refine wp_seq_k (fun K hK10 => ?_)
    refine wp_region_from ?_
    refine segO 4 [] [(4, .val (.pointer none)), (5, .kv .i 0), (6, .kv .i r7.2)] (Os := []) trivial hE hH (by kernel_rfl) (fun a hE => ?_)
    refine wpFrom_end (by kernel_rfl) ?_
    refine Exit.then_normal (hK10 _ _ ?_)
    refine wp_ret ?_
    refine Exit.then_ret ?_
    cases h
    exact ret3 rfl hE hle hH (by kernel_rfl)
  · replace h := ifF hc h
    refine wp_skip ?_
    refine Exit.then_normal (hK8 _ _ ?_)
    refine wp_seq_k (fun K hK11 => ?_)
    refine wp_region_from ?_
    refine segO 4 [] [(28, .fldA 130 σ.t130.length 0), (29, .fldA 130 σ.t130.length 0), (30, .kv .str r7.1), (31, .kv .i p1)] (Os := []) trivial hE hH (by kernel_rfl) (fun a hE => ?_)
    obtain ⟨r12, hr12, h⟩ := bs h
    refine stepCallF (f := 49) (As := [.kv .str r7.1, .kv .i p1]) (R := fun v => .val (.tuple #[v, .int .i64 r12.2])) (F := fun v => LS.tk v 9 16 .str r12.1 :: Ls) (T' := tabs (σ.add130 (p1, [], 0, ()))) (d := (some 32)) (by kernel_rfl) (fun args hA => f49_o hr12 hH hN hA) hE (by kernel_rfl) (by kernel_rfl) (fun v13 a w G hl3 hE hH => ?_)
    have hle := Gh.le_trans hle hl3
    refine segO 1 [] [(27, .val (.tuple #[v13, .int .i64 r12.2]))] (Os := []) trivial hE hH (by kernel_rfl) (fun a hE => ?_)
    refine stepExtV (v := v13) (e := .tl v13 .str r12.1) (d := (some 33)) hE (by kernel_rfl) (by kernel_rfl) hH.tl0 (fun a hE => ?_)
    refine stepExtV (v := .int .i64 r12.2) (e := .kv .i r12.2) (d := (some 34)) hE (by kernel_rfl) (by kernel_rfl) mkI (fun a hE => ?_)
    refine segO 2 [] [(36, .fldA 130 σ.t130.length 1)] (Os := []) trivial hE hH (by kernel_rfl) (fun a hE => ?_)
    refine stepPutN (t := 130) (j := σ.t130.length) (off := 1) (fs := fs130) (x := (p1, [], 0, ())) (x' := (p1, r12.1, 0, ())) (g := 1) (e := 9) (bt := 16) (q := ⟨.str, []⟩) (ys := r12.1) (v := v13) (L2 := Ls) hE hH hN (by kernel_rfl) (ob130 (s := (σ.add130 (p1, [], 0, ()))) (got130 (s := σ) (x := (p1, [], 0, ())))) (by kernel_rfl) (by kernel_rfl) (upd130 (s := (σ.add130 (p1, [], 0, ())))) (fun w G hl4 hE hH => ?_)
    have hle := Gh.le_trans hle hl4
    refine segO 2 [] [(38, .fldA 130 σ.t130.length 2)] (Os := []) trivial hE hH (by kernel_rfl) (fun a hE => ?_)
    refine stepStO (t := 130) (j := σ.t130.length) (off := 2) .i r12.2 (x' := (p1, r12.1, r12.2, ())) hE hH (by kernel_rfl) (ob130 (s := ((σ.add130 (p1, [], 0, ())).set130 σ.t130.length (p1, r12.1, 0, ()))) (set130_get (s := (σ.add130 (p1, [], 0, ()))) (x := (p1, r12.1, 0, ())) (got130 (s := σ) (x := (p1, [], 0, ()))))) (by kernel_rfl) (upd130 (s := ((σ.add130 (p1, [], 0, ())).set130 σ.t130.length (p1, r12.1, 0, ())))) (fun w G hl5 hE hH => ?_)
    have hle := Gh.le_trans hle hl5
    refine wpFrom_end (by kernel_rfl) ?_
    refine Exit.then_normal (hK11 _ _ ?_)
    refine wp_seq_k (fun K hK14 => ?_)
    refine region_par 9 [] [(0, 0), (0, 0), (0, 0), (0, 0), (0, 0), (0, 0), (0, 0), (0, 0), (0, 0)] [.fldA 130 σ.t130.length 0, .kv .str r7.1, .kv .i (r7.1.length : Int), .fldA 130 σ.t130.length 0, .fldA 130 σ.t130.length 0, .fldA 130 σ.t130.length 2, .kv .i r12.2, .kv .i (IntKind.wrap .i64 ((r7.1.length : Int) - r12.2)), .fldA 130 σ.t130.length 0] (fun _ => tabs (((σ.add130 (p1, [], 0, ())).set130 σ.t130.length (p1, r12.1, 0, ())).set130 σ.t130.length (p1, r12.1, r12.2, ()))) (fun _ => Ls) (by kernel_rfl) (by kernel_rfl) hE hH
            ⟨⟨⟨⟨⟨⟨⟨⟨⟨trivial,
            anyk (fun k => obR [] (Os := []) trivial (by kernel_rfl) (by kernel_rfl))⟩,
            anyk (fun k => obR [] (Os := []) trivial (by kernel_rfl) (by kernel_rfl))⟩,
            anyk (fun k => obR [] (Os := []) trivial (by kernel_rfl) (by kernel_rfl))⟩,
            anyk (fun k => obR [] (Os := []) trivial (by kernel_rfl) (by kernel_rfl))⟩,
            anyk (fun k => obR [] (Os := []) trivial (by kernel_rfl) (by kernel_rfl))⟩,
            anyk (fun k => obR [] (Os := []) trivial (by kernel_rfl) (by kernel_rfl))⟩,
            anyk (fun k => obR [.ob fs130 (p1, r12.1, r12.2, ())] (Os := [_]) ⟨(ob130 (s := (((σ.add130 (p1, [], 0, ())).set130 σ.t130.length (p1, r12.1, 0, ())).set130 σ.t130.length (p1, r12.1, r12.2, ()))) (set130_get (s := ((σ.add130 (p1, [], 0, ())).set130 σ.t130.length (p1, r12.1, 0, ()))) (x := (p1, r12.1, r12.2, ())) (set130_get (s := (σ.add130 (p1, [], 0, ()))) (x := (p1, r12.1, 0, ())) (got130 (s := σ) (x := (p1, [], 0, ())))))), trivial⟩ (by kernel_rfl) (by kernel_rfl))⟩,
            anyk (fun k => obR [] (Os := []) trivial (by kernel_rfl) (by kernel_rfl))⟩,
            anyk (fun k => obR [] (Os := []) trivial (by kernel_rfl) (by kernel_rfl))⟩ (fun a w G hl6 hE hH => ?_)
    have hle := Gh.le_trans hle hl6
    refine segO 2 [] [(5, .kv .i (IntKind.wrap .i64 ((r7.1.length : Int) - r12.2))), (6, .kv .i 0)] (Os := []) trivial hE hH (by kernel_rfl) (fun a hE => ?_)
    refine wpFrom_end (by kernel_rfl) ?_
    refine Exit.then_normal (hK14 _ _ ?_)
    refine wp_ret ?_
    cases h
    exact ret3 rfl hE hle hH (by kernel_rfl)

def f96_l0 (p0 : Option Nat) (r3 : List Int) (x7 : Int) (x8 : Int) (x9 : Int) (σ10 : St) : Option (Sum (Int × Int × Int × St) (Int × St)) :=
  if (decide (x9 < (r3.length : Int))) = true then
  (ix r3 x9) >>= fun x19 =>
  if (decide (x9 > 0)) = true then
  if (decide (x7 > 0)) = true then
  some (.inl (x7, x8, x9, σ10))
  else
  f55 p0 σ10 >>= fun r22 =>
  if (x19 != r22) = true then
  some (.inl (x7, x8, x9, σ10))
  else
  f115 p0 x19 σ10 >>= fun r24 =>
  if (r24.1.2.2 != 0) = true then
  some (.inr (r24.1.2.2, r24.2))
  else
  p0 >>= fun i29 =>
  (r24.2.t128[i29]?) >>= fun o30 =>
  if (o30.2.2.2.1.length + 1) * 8 ≤ 140737488355328 then
  f96_l0 p0 r3 r24.1.2.1 (IntKind.wrap .i64 (x9 + 1)) (IntKind.wrap .i64 (x9 + 1)) (r24.2.set128 i29 (o30.1, o30.2.1, o30.2.2.1, o30.2.2.2.1 ++ [r24.1.1], o30.2.2.2.2.1, ()))
  else none
  else
  f115 p0 x19 σ10 >>= fun r35 =>
  if (r35.1.2.2 != 0) = true then
  some (.inr (r35.1.2.2, r35.2))
  else
  p0 >>= fun i40 =>
  (r35.2.t128[i40]?) >>= fun o41 =>
  if (o41.2.2.2.1.length + 1) * 8 ≤ 140737488355328 then
  f96_l0 p0 r3 r35.1.2.1 (IntKind.wrap .i64 (x9 + 1)) (IntKind.wrap .i64 (x9 + 1)) (r35.2.set128 i40 (o41.1, o41.2.1, o41.2.2.1, o41.2.2.2.1 ++ [r35.1.1], o41.2.2.2.2.1, ()))
  else none
  else
  some (.inl (x7, x8, x9, σ10))
  partial_fixpoint

def f96_l1 (p0 : Option Nat) (r3 : List Int) (z45 : Int × Int × Int × St) (o49 : denFs fs128) (x52 : Int) (σ53 : St) : Option (Sum (Int × St) (Int × St)) :=
  if (decide (x52 ≥ z45.2.1)) = true then
  (ix r3 x52) >>= fun x62 =>
  f98 p0 (some σ53.t130.length) (σ53.add130 (x62, [], 0, ())) >>= fun r63 =>
  f37 o49.1 r63 (σ53.add130 (x62, [], 0, ())) >>= fun r64 =>
  if (r64.1 != 0) = true then
  some (.inr (r64.1, r64.2))
  else
  f96_l1 p0 r3 z45 o49 (IntKind.wrap .i64 (x52 - 1)) r64.2
  else
  some (.inl (x52, σ53))
  partial_fixpoint

def f96 (p0 : Option Nat) (σ : St) : Option (Int × St) :=
  f114 p0 σ >>= fun r3 =>
  f96_l0 p0 r3 0 0 0 σ >>= fun rr46 => (match rr46 with
  | .inr yy => some yy
  | .inl z45 =>
  p0 >>= fun i48 =>
  (z45.2.2.2.t128[i48]?) >>= fun o49 =>
  f96_l1 p0 r3 z45 o49 (IntKind.wrap .i64 ((r3.length : Int) - 1)) z45.2.2.2 >>= fun rr68 => (match rr68 with
  | .inr yy => some yy
  | .inl z67 =>
  if (z45.2.1 == 0) = true then
  some (0, z67.2)
  else
  p0 >>= fun i73 =>
  (z67.2.t128[i73]?) >>= fun o74 =>
  (ix o74.2.2.2.1 (IntKind.wrap .i64 (z45.2.1 - 1))) >>= fun x75 =>
  if (decide (z45.1 > 0)) = true then
  f98 p0 x75 z67.2 >>= fun r79 =>
  x75 >>= fun i80 =>
  (z67.2.t130[i80]?) >>= fun o81 =>
  f35 o74.1 r79 o81.2.2.1 z67.2 >>= fun r82 =>
  if (r82.1 != 0) = true then
  some (r82.1, r82.2)
  else
  f61 p0 r82.2 >>= fun r86 =>
  some (r86.1, r86.2)
  else
  f61 p0 z67.2 >>= fun r88 =>
  some (r88.1, r88.2)))

theorem f96_ok {p0 : Option Nat} {σ : St} {p : Int × St} (h : f96 p0 σ = some p) : Spec Try.prog 96 [.kv (.ptr 128) p0] (tabs σ) (.kv .i p.1) (tabs p.2) := by
  refine Spec.intro Try.func96 (by kernel_rfl) rfl (by kernel_rfl) (fun a w G0 Ls hE hH hN => ?_)
  have hle : G0.le G0 := Gh.le_refl G0
  unfold f96 at h
  refine wp_seq_k (fun K hK1 => ?_)
  refine wp_region_from ?_
  refine segO 1 [] [(2, .kv .i 0)] (Os := []) trivial hE hH (by kernel_rfl) (fun a hE => ?_)
  refine wpFrom_end (by kernel_rfl) ?_
  refine Exit.then_normal (hK1 _ _ ?_)
  refine wp_seq_k (fun K hK2 => ?_)
  refine wp_region_from ?_
  refine segO 1 [] [(16, .kv (.ptr 128) p0)] (Os := []) trivial hE hH (by kernel_rfl) (fun a hE => ?_)
  obtain ⟨r3, hr3, h⟩ := bs h
  refine stepCall (d := (some 17)) (f114_ok hr3) hE hH hN (by kernel_rfl) (by kernel_rfl) trivial (fun a w G hl1 hE hH => ?_)
  have hle := Gh.le_trans hle hl1
  refine segO 1 [] [(3, .kv (.list .i) r3)] (Os := []) trivial hE hH (by kernel_rfl) (fun a hE => ?_)
  refine wpFrom_end (by kernel_rfl) ?_
  refine Exit.then_normal (hK2 _ _ ?_)
  refine wp_seq_k (fun K hK4 => ?_)
  refine wp_region_from ?_
  refine segO 2 [] [(4, .kv .i 0), (5, .kv .i 0)] (Os := []) trivial hE hH (by kernel_rfl) (fun a hE => ?_)
  refine wpFrom_end (by kernel_rfl) ?_
  refine Exit.then_normal (hK4 _ _ ?_)
  refine wp_seq_k (fun K hK5 => ?_)
  refine wp_seq_k (fun K hK6 => ?_)
  refine wp_region_from ?_
  refine segO 3 [] [(18, .kv (.list .i) r3), (19, .kv .i (r3.length : Int)), (20, .kv .i 0)] (Os := []) trivial hE hH (by kernel_rfl) (fun a hE => ?_)
  refine wpFrom_end (by kernel_rfl) ?_
  refine Exit.then_normal (hK6 _ _ ?_)
  refine wp_block ?_
  obtain ⟨rr46, hrr46, h⟩ := bs h
  refine loop_intro (fun Q11 c hQ hc => ?_)
  have key : ∀ (x7 : Int) (x8 : Int) (x9 : Int) (σ10 : St) (rr : Sum (Int × Int × Int × St) (Int × St)), f96_l0 p0 r3 x7 x8 x9 σ10 = some rr → ∀ (a : Act) (w : World) (G : Gh), G0.le G → EnvR G 116 a [(0, .kv (.ptr 128) p0), (2, .kv .i 0), (3, .kv (.list .i) r3), (4, .kv .i x7), (5, .kv .i x8), (18, .kv (.list .i) r3), (19, .kv .i (r3.length : Int)), (20, .kv .i x9)] → Holds w G (tabs σ10) (Ls) → (∀ z45 : Int × Int × Int × St, rr = .inl z45 → ∀ (a : Act) (w : World) (G : Gh), G0.le G → EnvR G 116 a [(0, .kv (.ptr 128) p0), (2, .kv .i 0), (3, .kv (.list .i) r3), (4, .kv .i z45.1), (5, .kv .i z45.2.1), (18, .kv (.list .i) r3), (19, .kv .i (r3.length : Int)), (20, .kv .i z45.2.2.1)] → Holds w G (tabs z45.2.2.2) (Ls) → Q11 (.exit 0) a w) → (∀ yy : Int × St, rr = .inr yy → ∀ (a : Act) (w : World), PostB Try.prog Try.f96 G0 (.kv .i yy.1) (tabs yy.2) Ls .ret a w → Q11 .ret a w) → Rnd Try.prog c Q11 a w := by
    refine f96_l0.partial_correctness p0 r3 _ ?_
    intro self ih14 x7 x8 x9 σ10 rr h a w G  hle hE hH hx12 hret13
    refine rnd_step' hc ?_
    refine wp_seq_k (fun K hK15 => ?_)
    refine wp_region_from ?_
    refine segO 1 [] [(21, .kv .bool (decide (x9 < (r3.length : Int))))] (Os := []) trivial hE hH (by kernel_rfl) (fun a hE => ?_)
    refine wpFrom_end (by kernel_rfl) ?_
    refine Exit.then_normal (hK15 _ _ ?_)
    refine wp_seq_k (fun K hK16 => ?_)
    refine condE (b := decide (x9 < (r3.length : Int))) hE (by kernel_rfl) (fun hc => ?_) (fun hc => ?_)
    · replace h := ifT hc h
      refine wp_skip ?_
      refine Exit.then_normal (hK16 _ _ ?_)
      refine wp_seq_k (fun K hK17 => ?_)
      refine wp_block ?_
      refine wp_seq_k (fun K hK18 => ?_)
      refine wp_region_from ?_
      obtain ⟨x19, hx19, h⟩ := bs h
      refine segO 5 [.ix .i x19] [(6, .kv .i x9), (7, .kv .i x19)] (Os := [_]) ⟨(IxAt.of (k := .i) hx19), trivial⟩ hE hH (by kernel_rfl) (fun a hE => ?_)
      refine wpFrom_end (by kernel_rfl) ?_
      refine Exit.then_normal (hK18 _ _ ?_)
      refine wp_seq_k (fun K hK20 => ?_)
      refine wp_seq_k (fun K hK21 => ?_)
      refine wp_region_from ?_
      refine segO 3 [] [(27, .kv .bool (decide (x9 > 0)))] (Os := []) trivial hE hH (by kernel_rfl) (fun a hE => ?_)
      by_cases hc : (decide (x9 > 0)) = true
      · replace h := ifT hc h
        have hE := hE.setB 27 (by kernel_rfl) hc
        refine segO 3 [] [(30, .kv .bool (decide (x7 > 0)))] (Os := []) trivial hE hH (by kernel_rfl) (fun a hE => ?_)
        by_cases hc : (decide (x7 > 0)) = true
        · replace h := ifT hc h
          have hE := hE.setB 30 (by kernel_rfl) hc
          refine segO 6 [] [(36, .kv .bool true)] (Os := []) trivial hE hH (by kernel_rfl) (fun a hE => ?_)
          refine wpFrom_end (by kernel_rfl) ?_
          refine Exit.then_normal (hK21 _ _ ?_)
          refine condT hE (by kernel_rfl) rfl ?_
          refine wp_exit ?_
          refine Exit.then_exit ?_
          refine Exit.in_ne (by decide) ?_
          refine Exit.then_exit ?_
          refine Exit.then_exit ?_
          cases h
          exact hx12 _ rfl _ _ _  hle (hE.subC (by kernel_rfl)) hH
        · replace h := ifN hc h
          have hE := hE.setB 30 (by kernel_rfl) (bf hc)
          refine segO 2 [] [(31, .kv .i x19), (32, .kv (.ptr 128) p0)] (Os := []) trivial hE hH (by kernel_rfl) (fun a hE => ?_)
          obtain ⟨r22, hr22, h⟩ := bs h
          refine stepCall (d := (some 33)) (f55_ok hr22) hE hH hN (by kernel_rfl) (by kernel_rfl) trivial (fun a w G hl2 hE hH => ?_)
          have hle := Gh.le_trans hle hl2
          refine segO 3 [] [(36, .kv .bool (x19 != r22))] (Os := []) trivial hE hH (by kernel_rfl) (fun a hE => ?_)
          refine wpFrom_end (by kernel_rfl) ?_
          refine Exit.then_normal (hK21 _ _ ?_)
          refine condE (b := x19 != r22) hE (by kernel_rfl) (fun hc => ?_) (fun hc => ?_)
          · replace h := ifT hc h
            refine wp_exit ?_
            refine Exit.then_exit ?_
            refine Exit.in_ne (by decide) ?_
            refine Exit.then_exit ?_
            refine Exit.then_exit ?_
            cases h
            exact hx12 _ rfl _ _ _  hle (hE.subC (by kernel_rfl)) hH
          · replace h := ifF hc h
            refine wp_skip ?_
            refine Exit.then_normal (hK20 _ _ ?_)
            refine wp_seq_k (fun K hK23 => ?_)
            refine wp_region_from ?_
            refine segO 2 [] [(38, .kv (.ptr 128) p0), (39, .kv .i x19)] (Os := []) trivial hE hH (by kernel_rfl) (fun a hE => ?_)
            obtain ⟨r24, hr24, h⟩ := bs h
            refine stepCall (d := (some 40)) (f115_ok hr24) hE hH hN (by kernel_rfl) (by kernel_rfl) trivial (fun a w G hl3 hE hH => ?_)
            have hle := Gh.le_trans hle hl3
            refine segO 7 [] [(8, .kv (.ptr 130) r24.1.1), (9, .kv .i r24.1.2.1), (10, .kv .i r24.1.2.2)] (Os := []) trivial hE hH (by kernel_rfl) (fun a hE => ?_)
            refine wpFrom_end (by kernel_rfl) ?_
            refine Exit.then_normal (hK23 _ _ ?_)
            refine wp_seq_k (fun K hK25 => ?_)
            refine wp_seq_k (fun K hK26 => ?_)
            refine wp_region_from ?_
            refine segO 2 [] [(45, .kv .bool (r24.1.2.2 != 0))] (Os := []) trivial hE hH (by kernel_rfl) (fun a hE => ?_)
            refine wpFrom_end (by kernel_rfl) ?_
            refine Exit.then_normal (hK26 _ _ ?_)
            refine condE (b := r24.1.2.2 != 0) hE (by kernel_rfl) (fun hc => ?_) (fun hc => ?_)
            · replace h := ifT hc h
              refine wp_seq_k (fun K hK27 => ?_)
              refine wp_region_from ?_
              refine segO 2 [] [(2, .kv .i r24.1.2.2)] (Os := []) trivial hE hH (by kernel_rfl) (fun a hE => ?_)
              refine wpFrom_end (by kernel_rfl) ?_
              refine Exit.then_normal (hK27 _ _ ?_)
              refine wp_ret ?_
              refine Exit.then_ret ?_
              refine Exit.in_ret ?_
              refine Exit.then_ret ?_
              refine Exit.then_ret ?_
              cases h
              exact hret13 _ rfl _ _ (ret1 rfl hE hle hH (by kernel_rfl))
            · replace h := ifF hc h
              refine wp_skip ?_
              refine Exit.then_normal (hK25 _ _ ?_)
              refine wp_seq_k (fun K hK28 => ?_)
              refine wp_region_from ?_
              obtain ⟨i29, hi29, h⟩ := bs h
              refine segO 4 [.pt i29] [(47, .kv (.ptr 128) p0), (50, .fldA 128 i29 3)] (Os := [_]) ⟨hi29, trivial⟩ hE hH (by kernel_rfl) (fun a hE => ?_)
              obtain ⟨o30, ho30, h⟩ := bs h
              refine stepTake (t := 128) (j := i29) (off := 3) (fs := fs128) (x := o30) (g := 3) (e := 131) (bt := 8) (q := ⟨(.ptr 130), o30.2.2.2.1⟩) (d := (some 51)) hE hH hN (by kernel_rfl) (ob128 (s := r24.2) ho30) (by kernel_rfl) (by kernel_rfl) (fun v31 a w G hl4 hE hH => ?_)
              have hle := Gh.le_trans hle hl4
              refine segO 1 [] [(52, .kv (.ptr 130) r24.1.1)] (Os := []) trivial hE hH (by kernel_rfl) (fun a hE => ?_)
              refine stepBuildS (d := (some 53)) (.ptr 130) [r24.1.1] hE hH (by kernel_rfl) (by kernel_rfl) (fun a w G hl5 hE hH => ?_)
              have hle := Gh.le_trans hle hl5
              obtain ⟨q32, h⟩ := gd h
              refine stepApp (e := 0) (bt := 8) (ys := [r24.1.1]) (e' := 131) (d := (some 54)) 0 hE hH (by kernel_rfl) rfl (by kernel_rfl) q32 (fun v33 a w G hl6 hE hH => ?_)
              have hle := Gh.le_trans hle hl6
              refine segO 2 [.pt i29] [(56, .fldA 128 i29 3)] (Os := [_]) ⟨hi29, trivial⟩ hE hH (by kernel_rfl) (fun a hE => ?_)
              refine stepPutH (t := 128) (j := i29) (off := 3) (fs := fs128) (x := o30) (x' := (o30.1, o30.2.1, o30.2.2.1, o30.2.2.2.1 ++ [r24.1.1], o30.2.2.2.2.1, ())) (g := 3) (e := 131) (bt := 8) (q := ⟨(.ptr 130), o30.2.2.2.1⟩) (ys := (o30.2.2.2.1 ++ [r24.1.1])) (v := v33) (L2 := Ls) hE hH hN (by kernel_rfl) (ob128 (s := r24.2) ho30) (by kernel_rfl) (by kernel_rfl) (upd128 (s := r24.2)) (fun w G hl7 hE hH => ?_)
              have hle := Gh.le_trans hle hl7
              refine wpFrom_end (by kernel_rfl) ?_
              refine Exit.then_normal (hK28 _ _ ?_)
              refine wp_region_from ?_
              refine segO 5 [] [(4, .kv .i r24.1.2.1), (5, .kv .i (IntKind.wrap .i64 (x9 + 1)))] (Os := []) trivial hE hH (by kernel_rfl) (fun a hE => ?_)
              refine wpFrom_end (by kernel_rfl) ?_
              refine Exit.in_normal ?_
              refine Exit.then_normal (hK17 _ _ ?_)
              refine wp_region_from ?_
              refine segO 2 [] [(20, .kv .i (IntKind.wrap .i64 (x9 + 1)))] (Os := []) trivial hE hH (by kernel_rfl) (fun a hE => ?_)
              refine wpFrom_end (by kernel_rfl) ?_
              refine Exit.then_normal ?_
              exact ih14 _ _ _ _ _ h _ _ _  hle (hE.subC (by kernel_rfl)) hH hx12 hret13
      · replace h := ifN hc h
        have hE := hE.setB 27 (by kernel_rfl) (bf hc)
        refine segO 7 [] [(30, .undef)] (Os := []) trivial hE hH (by kernel_rfl) (fun a hE => ?_)
        refine stepSkip (d := (some 35)) hE (by kernel_rfl) (by kernel_rfl) (fun a hE => ?_)
        refine segO 1 [] [(36, .kv .bool false)] (Os := []) trivial hE hH (by kernel_rfl) (fun a hE => ?_)
        refine wpFrom_end (by kernel_rfl) ?_
        refine Exit.then_normal (hK21 _ _ ?_)
        refine condF hE (by kernel_rfl) rfl ?_
        refine wp_skip ?_
        refine Exit.then_normal (hK20 _ _ ?_)
        refine wp_seq_k (fun K hK34 => ?_)
        refine wp_region_from ?_
        refine segO 2 [] [(38, .kv (.ptr 128) p0), (39, .kv .i x19)] (Os := []) trivial hE hH (by kernel_rfl) (fun a hE => ?_)
        obtain ⟨r35, hr35, h⟩ := bs h
        refine stepCall (d := (some 40)) (f115_ok hr35) hE hH hN (by kernel_rfl) (by kernel_rfl) trivial (fun a w G hl8 hE hH => ?_)
        have hle := Gh.le_trans hle hl8
        refine segO 7 [] [(8, .kv (.ptr 130) r35.1.1), (9, .kv .i r35.1.2.1), (10, .kv .i r35.1.2.2)] (Os := []) trivial hE hH (by kernel_rfl) (fun a hE => ?_)
        refine wpFrom_end (by kernel_rfl) ?_
        refine Exit.then_normal (hK34 _ _ ?_)
        refine wp_seq_k (fun K hK36 => ?_)
        refine wp_seq_k (fun K hK37 => ?_)
        refine wp_region_from ?_
        refine segO 2 [] [(45, .kv .bool (r35.1.2.2 != 0))] (Os := []) trivial hE hH (by kernel_rfl) (fun a hE => ?_)
        refine wpFrom_end (by kernel_rfl) ?_
        refine Exit.then_normal (hK37 _ _ ?_)
        refine condE (b := r35.1.2.2 != 0) hE (by kernel_rfl) (fun hc => ?_) (fun hc => ?_)
        · replace h := ifT hc h
          refine wp_seq_k (fun K hK38 => ?_)
          refine wp_region_from ?_
          refine segO 2 [] [(2, .kv .i r35.1.2.2)] (Os := []) trivial hE hH (by kernel_rfl) (fun a hE => ?_)
          refine wpFrom_end (by kernel_rfl) ?_
          refine Exit.then_normal (hK38 _ _ ?_)
          refine wp_ret ?_
          refine Exit.then_ret ?_
          refine Exit.in_ret ?_
          refine Exit.then_ret ?_
          refine Exit.then_ret ?_
          cases h
          exact hret13 _ rfl _ _ (ret1 rfl hE hle hH (by kernel_rfl))
        · replace h := ifF hc h
          refine wp_skip ?_
          refine Exit.then_normal (hK36 _ _ ?_)
          refine wp_seq_k (fun K hK39 => ?_)
          refine wp_region_from ?_
          obtain ⟨i40, hi40, h⟩ := bs h
          refine segO 4 [.pt i40] [(47, .kv (.ptr 128) p0), (50, .fldA 128 i40 3)] (Os := [_]) ⟨hi40, trivial⟩ hE hH (by kernel_rfl) (fun a hE => ?_)
          obtain ⟨o41, ho41, h⟩ := bs h
          refine stepTake (t := 128) (j := i40) (off := 3) (fs := fs128) (x := o41) (g := 3) (e := 131) (bt := 8) (q := ⟨(.ptr 130), o41.2.2.2.1⟩) (d := (some 51)) hE hH hN (by kernel_rfl) (ob128 (s := r35.2) ho41) (by kernel_rfl) (by kernel_rfl) (fun v42 a w G hl9 hE hH => ?_)
          have hle := Gh.le_trans hle hl9
          refine segO 1 [] [(52, .kv (.ptr 130) r35.1.1)] (Os := []) trivial hE hH (by kernel_rfl) (fun a hE => ?_)
          refine stepBuildS (d := (some 53)) (.ptr 130) [r35.1.1] hE hH (by kernel_rfl) (by kernel_rfl) (fun a w G hl10 hE hH => ?_)
          have hle := Gh.le_trans hle hl10
          obtain ⟨q43, h⟩ := gd h
          refine stepApp (e := 0) (bt := 8) (ys := [r35.1.1]) (e' := 131) (d := (some 54)) 0 hE hH (by kernel_rfl) rfl (by kernel_rfl) q43 (fun v44 a w G hl11 hE hH => ?_)
          have hle := Gh.le_trans hle hl11
          refine segO 2 [.pt i40] [(56, .fldA 128 i40 3)] (Os := [_]) ⟨hi40, trivial⟩ hE hH (by kernel_rfl) (fun a hE => ?_)
          refine stepPutH (t := 128) (j := i40) (off := 3) (fs := fs128) (x := o41) (x' := (o41.1, o41.2.1, o41.2.2.1, o41.2.2.2.1 ++ [r35.1.1], o41.2.2.2.2.1, ())) (g := 3) (e := 131) (bt := 8) (q := ⟨(.ptr 130), o41.2.2.2.1⟩) (ys := (o41.2.2.2.1 ++ [r35.1.1])) (v := v44) (L2 := Ls) hE hH hN (by kernel_rfl) (ob128 (s := r35.2) ho41) (by kernel_rfl) (by kernel_rfl) (upd128 (s := r35.2)) (fun w G hl12 hE hH => ?_)
          have hle := Gh.le_trans hle hl12
          refine wpFrom_end (by kernel_rfl) ?_
          refine Exit.then_normal (hK39 _ _ ?_)
          refine wp_region_from ?_
          refine segO 5 [] [(4, .kv .i r35.1.2.1), (5, .kv .i (IntKind.wrap .i64 (x9 + 1)))] (Os := []) trivial hE hH (by kernel_rfl) (fun a hE => ?_)
          refine wpFrom_end (by kernel_rfl) ?_
          refine Exit.in_normal ?_
          refine Exit.then_normal (hK17 _ _ ?_)
          refine wp_region_from ?_
          refine segO 2 [] [(20, .kv .i (IntKind.wrap .i64 (x9 + 1)))] (Os := []) trivial hE hH (by kernel_rfl) (fun a hE => ?_)
          refine wpFrom_end (by kernel_rfl) ?_
          refine Exit.then_normal ?_
          exact ih14 _ _ _ _ _ h _ _ _  hle (hE.subC (by kernel_rfl)) hH hx12 hret13
    · replace h := ifF hc h
      refine wp_exit ?_
      refine Exit.then_exit ?_
      refine Exit.then_exit ?_
      cases h
      exact hx12 _ rfl _ _ _  hle (hE.subC (by kernel_rfl)) hH
  refine key _ _ _ _ _ hrr46 _ _ _  hle (hE.subC (by kernel_rfl)) hH ?_ ?_
  · intro z45 hz a w G  hle hE hH
    subst hz
    rw [hQ]
    dsimp only at h
    refine Exit.in_eq ?_
    refine Exit.then_normal (hK5 _ _ ?_)
    refine wp_seq_k (fun K hK47 => ?_)
    refine wp_region_from ?_
    obtain ⟨i48, hi48, h⟩ := bs h
    obtain ⟨o49, ho49, h⟩ := bs h
    refine segO 4 [.pt i48, .ob fs128 o49] [(64, .kv (.ptr 105) o49.1)] (Os := [_, _]) ⟨hi48, (ob128 (s := z45.2.2.2) ho49), trivial⟩ hE hH (by kernel_rfl) (fun a hE => ?_)
    refine stepMFB (f := 37) (k := (.ptr 105)) (x := o49.1) (d := (some 65)) hE (by kernel_rfl) (by kernel_rfl) (fun a hE => ?_)
    refine segO 1 [] [(11, .bnd 37 (.ptr 105) o49.1)] (Os := []) trivial hE hH (by kernel_rfl) (fun a hE => ?_)
    refine wpFrom_end (by kernel_rfl) ?_
    refine Exit.then_normal (hK47 _ _ ?_)
    refine wp_seq_k (fun K hK50 => ?_)
    refine wp_seq_k (fun K hK51 => ?_)
    refine wp_region_from ?_
    refine segO 4 [] [(12, .kv .i (IntKind.wrap .i64 ((r3.length : Int) - 1)))] (Os := []) trivial hE hH (by kernel_rfl) (fun a hE => ?_)
    refine wpFrom_end (by kernel_rfl) ?_
    refine Exit.then_normal (hK51 _ _ ?_)
    refine wp_block ?_
    obtain ⟨rr68, hrr68, h⟩ := bs h
    refine loop_intro (fun Q54 c hQ hc => ?_)
    have key : ∀ (x52 : Int) (σ53 : St) (rr : Sum (Int × St) (Int × St)), f96_l1 p0 r3 z45 o49 x52 σ53 = some rr → ∀ (a : Act) (w : World) (G : Gh), G0.le G → EnvR G 116 a [(0, .kv (.ptr 128) p0), (2, .kv .i 0), (3, .kv (.list .i) r3), (4, .kv .i z45.1), (5, .kv .i z45.2.1), (11, .bnd 37 (.ptr 105) o49.1), (12, .kv .i x52)] → Holds w G (tabs σ53) (Ls) → (∀ z67 : Int × St, rr = .inl z67 → ∀ (a : Act) (w : World) (G : Gh), G0.le G → EnvR G 116 a [(0, .kv (.ptr 128) p0), (2, .kv .i 0), (3, .kv (.list .i) r3), (4, .kv .i z45.1), (5, .kv .i z45.2.1), (11, .bnd 37 (.ptr 105) o49.1), (12, .kv .i z67.1)] → Holds w G (tabs z67.2) (Ls) → Q54 (.exit 2) a w) → (∀ yy : Int × St, rr = .inr yy → ∀ (a : Act) (w : World), PostB Try.prog Try.f96 G0 (.kv .i yy.1) (tabs yy.2) Ls .ret a w → Q54 .ret a w) → Rnd Try.prog c Q54 a w := by
      refine f96_l1.partial_correctness p0 r3 z45 o49 _ ?_
      intro self ih57 x52 σ53 rr h a w G  hle hE hH hx55 hret56
      refine rnd_step' hc ?_
      refine wp_seq_k (fun K hK58 => ?_)
      refine wp_seq_k (fun K hK59 => ?_)
      refine wp_region_from ?_
      refine segO 3 [] [(71, .kv .bool (decide (x52 ≥ z45.2.1)))] (Os := []) trivial hE hH (by kernel_rfl) (fun a hE => ?_)
      refine wpFrom_end (by kernel_rfl) ?_
      refine Exit.then_normal (hK59 _ _ ?_)
      refine condE (b := decide (x52 ≥ z45.2.1)) hE (by kernel_rfl) (fun hc => ?_) (fun hc => ?_)
      · replace h := ifT hc h
        refine wp_skip ?_
        refine Exit.then_normal (hK58 _ _ ?_)
        refine wp_seq_k (fun K hK60 => ?_)
        refine wp_block ?_
        refine wp_seq_k (fun K hK61 => ?_)
        refine wp_region_from ?_
        obtain ⟨x62, hx62, h⟩ := bs h
        refine segO 6 [.ix .i x62] [(74, .bnd 37 (.ptr 105) o49.1), (75, .kv (.ptr 128) p0), (79, .kv .i x62)] (Os := [_]) ⟨(IxAt.of (k := .i) hx62), trivial⟩ hE hH (by kernel_rfl) (fun a hE => ?_)
        refine stepBuildV (d := (some 80)) (.agg #[.int .i64 x62, .slice none 0 0, .int .i64 0]) hE (by kernel_rfl) (by kernel_rfl) (fun a hE => ?_)
        refine stepNewX (t := 130) (fs := fs130) (x := (x62, [], 0, ())) (e := 130) (d := (some 81)) (.agg #[.int .i64 x62, .slice none 0 0, .int .i64 0]) hE hH hN (by kernel_rfl) (by kernel_rfl) (fun w2 G2 hG hn => ⟨[_], _, rfl, rfl, ⟨[_], _, rfl, (by rw [hn 1]; exact ⟨_, rfl, ownV_nil _ _ _ _ _ _⟩), ⟨[_], _, rfl, rfl, rfl⟩⟩⟩) (addT130 (s := σ53) (x := (x62, [], 0, ()))) (fun a w G hl13 hE hH => ?_)
        have hle := Gh.le_trans hle hl13
        obtain ⟨r63, hr63, h⟩ := bs h
        refine stepCall (d := (some 82)) (f98_ok hr63) hE hH hN (by kernel_rfl) (by kernel_rfl) trivial (fun a w G hl14 hE hH => ?_)
        have hle := Gh.le_trans hle hl14
        obtain ⟨r64, hr64, h⟩ := bs h
        refine stepCallB (f := 37) (k := (.ptr 105)) (x := o49.1) (As := [.kv .str r63]) (d := (some 83)) (f37_ok hr64) hE hH hN (by kernel_rfl) (by kernel_rfl) (fun a w G hl15 hE hH => ?_)
        have hle := Gh.le_trans hle hl15
        refine segO 1 [] [(13, .kv .i r64.1)] (Os := []) trivial hE hH (by kernel_rfl) (fun a hE => ?_)
        refine wpFrom_end (by kernel_rfl) ?_
        refine Exit.then_normal (hK61 _ _ ?_)
        refine wp_seq_k (fun K hK65 => ?_)
        refine wp_region_from ?_
        refine segO 2 [] [(85, .kv .bool (r64.1 != 0))] (Os := []) trivial hE hH (by kernel_rfl) (fun a hE => ?_)
        refine wpFrom_end (by kernel_rfl) ?_
        refine Exit.then_normal (hK65 _ _ ?_)
        refine condE (b := r64.1 != 0) hE (by kernel_rfl) (fun hc => ?_) (fun hc => ?_)
        · replace h := ifT hc h
          refine wp_seq_k (fun K hK66 => ?_)
          refine wp_region_from ?_
          refine segO 2 [] [(2, .kv .i r64.1)] (Os := []) trivial hE hH (by kernel_rfl) (fun a hE => ?_)
          refine wpFrom_end (by kernel_rfl) ?_
          refine Exit.then_normal (hK66 _ _ ?_)
          refine wp_ret ?_
          refine Exit.in_ret ?_
          refine Exit.then_ret ?_
          refine Exit.then_ret ?_
          cases h
          exact hret56 _ rfl _ _ (ret1 rfl hE hle hH (by kernel_rfl))
        · replace h := ifF hc h
          refine wp_skip ?_
          refine Exit.in_normal ?_
          refine Exit.then_normal (hK60 _ _ ?_)
          refine wp_region_from ?_
          refine segO 3 [] [(12, .kv .i (IntKind.wrap .i64 (x52 - 1)))] (Os := []) trivial hE hH (by kernel_rfl) (fun a hE => ?_)
          refine wpFrom_end (by kernel_rfl) ?_
          refine Exit.then_normal ?_
          exact ih57 _ _ _ h _ _ _  hle (hE.subC (by kernel_rfl)) hH hx55 hret56
      · replace h := ifF hc h
        refine wp_exit ?_
        refine Exit.then_exit ?_
        refine Exit.then_exit ?_
        cases h
        exact hx55 _ rfl _ _ _  hle (hE.subC (by kernel_rfl)) hH
    refine key _ _ _ hrr68 _ _ _  hle (hE.subC (by kernel_rfl)) hH ?_ ?_
    · intro z67 hz a w G  hle hE hH
      subst hz
      rw [hQ]
      dsimp only at h
      refine Exit.in_eq ?_
      refine Exit.then_normal (hK50 _ _ ?_)
      refine wp_seq_k (fun K hK69 => ?_)
      refine wp_seq_k (fun K hK70 => ?_)
      refine wp_region_from ?_
      refine segO 2 [] [(88, .kv .bool (z45.2.1 == 0))] (Os := []) trivial hE hH (by kernel_rfl) (fun a hE => ?_)
      refine wpFrom_end (by kernel_rfl) ?_
      refine Exit.then_normal (hK70 _ _ ?_)
      refine condE (b := z45.2.1 == 0) hE (by kernel_rfl) (fun hc => ?_) (fun hc => ?_)
      · replace h := ifT hc h
        refine wp_seq_k (fun K hK71 => ?_)
        refine wp_region_from ?_
        refine segO 1 [] [(2, .kv .i 0)] (Os := []) trivial hE hH (by kernel_rfl) (fun a hE => ?_)
        refine wpFrom_end (by kernel_rfl) ?_
        refine Exit.then_normal (hK71 _ _ ?_)
        refine wp_ret ?_
        refine Exit.then_ret ?_
        cases h
        exact ret1 rfl hE hle hH (by kernel_rfl)
      · replace h := ifF hc h
        refine wp_skip ?_
        refine Exit.then_normal (hK69 _ _ ?_)
        refine wp_seq_k (fun K hK72 => ?_)
        refine wp_region_from ?_
        obtain ⟨i73, hi73, h⟩ := bs h
        obtain ⟨o74, ho74, h⟩ := bs h
        obtain ⟨x75, hx75, h⟩ := bs h
        refine segO 9 [.pt i73, .ob fs128 o74, .ix (.ptr 130) x75] [(14, .kv (.ptr 130) x75)] (Os := [_, _, _, _]) ⟨hi73, (ob128 (s := z67.2) ho74), (hN _ _ _ : holeAt 128 i73 3 (Ls) = none), (IxAt.of (k := (.ptr 130)) hx75), trivial⟩ hE hH (by kernel_rfl) (fun a hE => ?_)
        refine wpFrom_end (by kernel_rfl) ?_
        refine Exit.then_normal (hK72 _ _ ?_)
        refine wp_seq_k (fun K hK76 => ?_)
        refine wp_seq_k (fun K hK77 => ?_)
        refine wp_region_from ?_
        refine segO 2 [] [(98, .kv .bool (decide (z45.1 > 0)))] (Os := []) trivial hE hH (by kernel_rfl) (fun a hE => ?_)
        refine wpFrom_end (by kernel_rfl) ?_
        refine Exit.then_normal (hK77 _ _ ?_)
        refine condE (b := decide (z45.1 > 0)) hE (by kernel_rfl) (fun hc => ?_) (fun hc => ?_)
        · replace h := ifT hc h
          refine wp_seq_k (fun K hK78 => ?_)
          obtain ⟨r79, hr79, h⟩ := bs h
          obtain ⟨i80, hi80, h⟩ := bs h
          obtain ⟨o81, ho81, h⟩ := bs h
          refine region_par 11 [6] [(0, 1), (0, 1), (0, 1), (0, 1), (0, 0), (0, 0), (0, 0), (0, 1), (0, 1), (0, 1), (0, 1)] [.kv (.ptr 128) p0, .kv (.ptr 128) (some i73), .fldA 128 i73 0, .kv (.ptr 105) o74.1, .kv (.ptr 128) p0, .kv (.ptr 130) x75, .kv .str r79, .kv (.ptr 130) x75, .kv (.ptr 130) (some i80), .fldA 130 i80 2, .kv .i o81.2.2.1] (fun _ => tabs z67.2) (fun _ => Ls) (by kernel_rfl) (by kernel_rfl) hE hH
                  ⟨⟨⟨⟨⟨⟨⟨⟨⟨⟨⟨trivial,
                  anyk (fun k => obR [] (Os := []) trivial (by kernel_rfl) (by kernel_rfl))⟩,
                  anyk (fun k => obR [.pt i73] (Os := [_]) ⟨hi73, trivial⟩ (by kernel_rfl) (by kernel_rfl))⟩,
                  anyk (fun k => obR [] (Os := []) trivial (by kernel_rfl) (by kernel_rfl))⟩,
                  anyk (fun k => obR [.ob fs128 o74] (Os := [_]) ⟨(ob128 (s := z67.2) ho74), trivial⟩ (by kernel_rfl) (by kernel_rfl))⟩,
                  anyk (fun k => obR [] (Os := []) trivial (by kernel_rfl) (by kernel_rfl))⟩,
                  anyk (fun k => obR [] (Os := []) trivial (by kernel_rfl) (by kernel_rfl))⟩,
                  one (obC (k := 0) (d := (some 105)) (f98_ok hr79) rfl hN (by kernel_rfl) (by kernel_rfl) rfl trivial)⟩,
                  anyk (fun k => obR [] (Os := []) trivial (by kernel_rfl) (by kernel_rfl))⟩,
                  anyk (fun k => obR [.pt i80] (Os := [_]) ⟨hi80, trivial⟩ (by kernel_rfl) (by kernel_rfl))⟩,
                  anyk (fun k => obR [] (Os := []) trivial (by kernel_rfl) (by kernel_rfl))⟩,
                  anyk (fun k => obR [.ob fs130 o81] (Os := [_]) ⟨(ob130 (s := z67.2) ho81), trivial⟩ (by kernel_rfl) (by kernel_rfl))⟩ (fun a w G hl16 hE hH => ?_)
          have hle := Gh.le_trans hle hl16
          obtain ⟨r82, hr82, h⟩ := bs h
          refine stepCall (d := (some 110)) (f35_ok hr82) hE hH hN (by kernel_rfl) (by kernel_rfl) trivial (fun a w G hl17 hE hH => ?_)
          have hle := Gh.le_trans hle hl17
          refine segO 1 [] [(15, .kv .i r82.1)] (Os := []) trivial hE hH (by kernel_rfl) (fun a hE => ?_)
          refine wpFrom_end (by kernel_rfl) ?_
          refine Exit.then_normal (hK78 _ _ ?_)
          refine wp_seq_k (fun K hK83 => ?_)
          refine wp_region_from ?_
          refine segO 2 [] [(112, .kv .bool (r82.1 != 0))] (Os := []) trivial hE hH (by kernel_rfl) (fun a hE => ?_)
          refine wpFrom_end (by kernel_rfl) ?_
          refine Exit.then_normal (hK83 _ _ ?_)
          refine condE (b := r82.1 != 0) hE (by kernel_rfl) (fun hc => ?_) (fun hc => ?_)
          · replace h := ifT hc h
            refine wp_seq_k (fun K hK84 => ?_)
            refine wp_region_from ?_
            refine segO 2 [] [(2, .kv .i r82.1)] (Os := []) trivial hE hH (by kernel_rfl) (fun a hE => ?_)
            refine wpFrom_end (by kernel_rfl) ?_
            refine Exit.then_normal (hK84 _ _ ?_)
            refine wp_ret ?_
            refine Exit.then_ret ?_
            cases h
            exact ret1 rfl hE hle hH (by kernel_rfl)
          · replace h := ifF hc h
            refine wp_skip ?_
            refine Exit.then_normal (hK76 _ _ ?_)
            refine wp_seq_k (fun K hK85 => ?_)
            refine wp_region_from ?_
            refine segO 1 [] [(114, .kv (.ptr 128) p0)] (Os := []) trivial hE hH (by kernel_rfl) (fun a hE => ?_)
            obtain ⟨r86, hr86, h⟩ := bs h
            refine stepCall (d := (some 115)) (f61_ok hr86) hE hH hN (by kernel_rfl) (by kernel_rfl) trivial (fun a w G hl18 hE hH => ?_)
            have hle := Gh.le_trans hle hl18
            refine segO 1 [] [(2, .kv .i r86.1)] (Os := []) trivial hE hH (by kernel_rfl) (fun a hE => ?_)
            refine wpFrom_end (by kernel_rfl) ?_
            refine Exit.then_normal (hK85 _ _ ?_)
            refine wp_ret ?_
            cases h
            exact ret1 rfl hE hle hH (by kernel_rfl)
        · replace h := ifF hc h
          refine wp_skip ?_
          refine Exit.then_normal (hK76 _ _ ?_)
          refine wp_seq_k (fun K hK87 => ?_)
          refine wp_region_from ?_
          refine segO 1 [] [(114, .kv (.ptr 128) p0)] (Os := []) trivial hE hH (by kernel_rfl) (fun a hE => ?_)
          obtain ⟨r88, hr88, h⟩ := bs h
          refine stepCall (d := (some 115)) (f61_ok hr88) hE hH hN (by kernel_rfl) (by kernel_rfl) trivial (fun a w G hl19 hE hH => ?_)
          have hle := Gh.le_trans hle hl19
          refine segO 1 [] [(2, .kv .i r88.1)] (Os := []) trivial hE hH (by kernel_rfl) (fun a hE => ?_)
          refine wpFrom_end (by kernel_rfl) ?_
          refine Exit.then_normal (hK87 _ _ ?_)
          refine wp_ret ?_
          cases h
          exact ret1 rfl hE hle hH (by kernel_rfl)
    · intro yy hz a w hp
      subst hz
      dsimp only at h
      cases h
      rw [hQ]
      refine Exit.in_ret ?_
      refine Exit.then_ret ?_
      exact hp
  · intro yy hz a w hp
    subst hz
    dsimp only at h
    cases h
    rw [hQ]
    refine Exit.in_ret ?_
    refine Exit.then_ret ?_
    exact hp

def f53 (p0 : Option Nat) (p1 : List UInt8) (p2 : Int) (σ : St) : Option (((Option Nat) × Int) × St) :=
  if p0.isNone = true then
  some ((none, 1), σ)
  else
  f95 p1 >>= fun r6 =>
  if (((!r6) || (decide (p2 < 64))) || (decide (p2 > 65536))) = true then
  some ((none, 2), σ)
  else
  f31 p0 σ >>= fun r9 =>
  if r9 = true then
  some ((none, 11), σ)
  else
  f96 (some σ.t128.length) (σ.add128 (p0, p1, p2, [], 0, ())) >>= fun r15 =>
  if (r15.1 != 0) = true then
  some ((none, r15.1), r15.2)
  else
  some ((some σ.t128.length, 0), r15.2)

theorem f53_ok {p0 : Option Nat} {p1 : List UInt8} {p2 : Int} {σ : St} {p : ((Option Nat) × Int) × St} (h : f53 p0 p1 p2 σ = some p) : Spec Try.prog 53 [.kv (.ptr 105) p0, .kv .str p1, .kv .i p2] (tabs σ) (.tup [⟨(.ptr 128), p.1.1⟩, ⟨.i, p.1.2⟩]) (tabs p.2) := by
  refine Spec.intro Try.func53 (by kernel_rfl) rfl (by kernel_rfl) (fun a w G0 Ls hE hH hN => ?_)
  have hle : G0.le G0 := Gh.le_refl G0
  unfold f53 at h
  refine wp_seq_k (fun K hK1 => ?_)
  refine wp_region_from ?_
  refine segO 2 [] [(6, .val (.pointer none)), (7, .kv .i 0)] (Os := []) trivial hE hH (by kernel_rfl) (fun a hE => ?_)
  refine wpFrom_end (by kernel_rfl) ?_
  refine Exit.then_normal (hK1 _ _ ?_)
  refine wp_seq_k (fun K hK2 => ?_)
  refine wp_block ?_
  refine wp_seq_k (fun K hK3 => ?_)
  refine wp_region_from ?_
  refine segO 3 [] [(10, .kv .bool p0.isNone)] (Os := []) trivial hE hH (by kernel_rfl) (fun a hE => ?_)
  refine wpFrom_end (by kernel_rfl) ?_
  refine Exit.then_normal (hK3 _ _ ?_)
  refine condE (b := p0.isNone) hE (by kernel_rfl) (fun hc => ?_) (fun hc => ?_)
  · replace h := ifT hc h
    refine wp_seq_k (fun K hK4 => ?_)
    refine wp_region_from ?_
    refine segO 2 [] [(6, .val (.pointer none)), (7, .kv .i 1)] (Os := []) trivial hE hH (by kernel_rfl) (fun a hE => ?_)
    refine wpFrom_end (by kernel_rfl) ?_
    refine Exit.then_normal (hK4 _ _ ?_)
    refine wp_ret ?_
    refine Exit.in_ret ?_
    refine Exit.then_ret ?_
    cases h
    exact ret2 rfl hE hle hH (by kernel_rfl)
  · replace h := ifF hc h
    refine wp_seq_k (fun K hK5 => ?_)
    refine wp_region_from ?_
    refine segO 1 [] [(14, .kv .str p1)] (Os := []) trivial hE hH (by kernel_rfl) (fun a hE => ?_)
    obtain ⟨r6, hr6, h⟩ := bs h
    refine stepCall (d := (some 15)) (f95_ok hr6) hE hH hN (by kernel_rfl) (by kernel_rfl) trivial (fun a w G hl1 hE hH => ?_)
    have hle := Gh.le_trans hle hl1
    refine segO 10 [] [(13, .kv .bool (((!r6) || (decide (p2 < 64))) || (decide (p2 > 65536))))] (Os := []) trivial hE hH (by kernel_rfl) (fun a hE => ?_)
    refine wpFrom_end (by kernel_rfl) ?_
    refine Exit.then_normal (hK5 _ _ ?_)
    refine condE (b := ((!r6) || (decide (p2 < 64))) || (decide (p2 > 65536))) hE (by kernel_rfl) (fun hc => ?_) (fun hc => ?_)
    · replace h := ifT hc h
      refine wp_seq_k (fun K hK7 => ?_)
      refine wp_region_from ?_
      refine segO 2 [] [(6, .val (.pointer none)), (7, .kv .i 2)] (Os := []) trivial hE hH (by kernel_rfl) (fun a hE => ?_)
      refine wpFrom_end (by kernel_rfl) ?_
      refine Exit.then_normal (hK7 _ _ ?_)
      refine wp_ret ?_
      refine Exit.in_ret ?_
      refine Exit.then_ret ?_
      cases h
      exact ret2 rfl hE hle hH (by kernel_rfl)
    · replace h := ifF hc h
      refine wp_seq_k (fun K hK8 => ?_)
      refine wp_region_from ?_
      refine segO 1 [] [(26, .kv (.ptr 105) p0)] (Os := []) trivial hE hH (by kernel_rfl) (fun a hE => ?_)
      obtain ⟨r9, hr9, h⟩ := bs h
      refine stepCall (d := (some 27)) (f31_ok hr9) hE hH hN (by kernel_rfl) (by kernel_rfl) trivial (fun a w G hl2 hE hH => ?_)
      have hle := Gh.le_trans hle hl2
      refine segO 1 [] [(25, .kv .bool r9)] (Os := []) trivial hE hH (by kernel_rfl) (fun a hE => ?_)
      refine wpFrom_end (by kernel_rfl) ?_
      refine Exit.then_normal (hK8 _ _ ?_)
      refine condE (b := r9) hE (by kernel_rfl) (fun hc => ?_) (fun hc => ?_)
      · replace h := ifT hc h
        refine wp_seq_k (fun K hK10 => ?_)
        refine wp_region_from ?_
        refine segO 2 [] [(6, .val (.pointer none)), (7, .kv .i 11)] (Os := []) trivial hE hH (by kernel_rfl) (fun a hE => ?_)
        refine wpFrom_end (by kernel_rfl) ?_
        refine Exit.then_normal (hK10 _ _ ?_)
        refine wp_ret ?_
        refine Exit.in_ret ?_
        refine Exit.then_ret ?_
        cases h
        exact ret2 rfl hE hle hH (by kernel_rfl)
      · replace h := ifF hc h
        refine wp_skip ?_
        refine Exit.in_normal ?_
        refine Exit.then_normal (hK2 _ _ ?_)
        refine wp_seq_k (fun K hK11 => ?_)
        refine wp_region_from ?_
        refine segO 3 [] [(28, .kv (.ptr 105) p0), (29, .kv .str p1), (30, .kv .i p2)] (Os := []) trivial hE hH (by kernel_rfl) (fun a hE => ?_)
        obtain ⟨u12, hE, hu12⟩ := hE.ptr 28 (by kernel_rfl)
        refine stepBuildV (d := (some 31)) (.agg #[.pointer u12, .string ⟨List.toArray p1⟩, .int .i64 p2, .slice none 0 0, .int .i64 0]) hE (by kernel_rfl) (by kernel_rfl) (fun a hE => ?_)
        refine stepNewX (t := 128) (fs := fs128) (x := (p0, p1, p2, [], 0, ())) (e := 128) (d := (some 32)) (.agg #[.pointer u12, .string ⟨List.toArray p1⟩, .int .i64 p2, .slice none 0 0, .int .i64 0]) hE hH hN (by kernel_rfl) (by kernel_rfl) (fun w2 G2 hG hn => ⟨[_], _, rfl, ⟨_, rfl, ptrR_mono hG hu12⟩, ⟨[_], _, rfl, rfl, ⟨[_], _, rfl, rfl, ⟨[_], _, rfl, (by rw [hn 3]; exact ⟨_, rfl, ownV_nil _ _ _ _ _ _⟩), ⟨[_], _, rfl, rfl, rfl⟩⟩⟩⟩⟩) (addT128 (s := σ) (x := (p0, p1, p2, [], 0, ()))) (fun a w G hl3 hE hH => ?_)
        have hle := Gh.le_trans hle hl3
        refine segO 1 [] [(8, .fldA 128 σ.t128.length 0)] (Os := []) trivial hE hH (by kernel_rfl) (fun a hE => ?_)
        refine wpFrom_end (by kernel_rfl) ?_
        refine Exit.then_normal (hK11 _ _ ?_)
        refine wp_seq_k (fun K hK13 => ?_)
        refine wp_seq_k (fun K hK14 => ?_)
        refine wp_region_from ?_
        refine segO 1 [] [(33, .fldA 128 σ.t128.length 0)] (Os := []) trivial hE hH (by kernel_rfl) (fun a hE => ?_)
        obtain ⟨r15, hr15, h⟩ := bs h
        refine stepCall (d := (some 34)) (f96_ok hr15) hE hH hN (by kernel_rfl) (by kernel_rfl) trivial (fun a w G hl4 hE hH => ?_)
        have hle := Gh.le_trans hle hl4
        refine segO 1 [] [(9, .kv .i r15.1)] (Os := []) trivial hE hH (by kernel_rfl) (fun a hE => ?_)
        refine wpFrom_end (by kernel_rfl) ?_
        refine Exit.then_normal (hK14 _ _ ?_)
        refine wp_seq_k (fun K hK16 => ?_)
        refine wp_region_from ?_
        refine segO 2 [] [(36, .kv .bool (r15.1 != 0))] (Os := []) trivial hE hH (by kernel_rfl) (fun a hE => ?_)
        refine wpFrom_end (by kernel_rfl) ?_
        refine Exit.then_normal (hK16 _ _ ?_)
        refine condE (b := r15.1 != 0) hE (by kernel_rfl) (fun hc => ?_) (fun hc => ?_)
        · replace h := ifT hc h
          refine wp_seq_k (fun K hK17 => ?_)
          refine wp_region_from ?_
          refine segO 3 [] [(6, .val (.pointer none)), (7, .kv .i r15.1)] (Os := []) trivial hE hH (by kernel_rfl) (fun a hE => ?_)
          refine wpFrom_end (by kernel_rfl) ?_
          refine Exit.then_normal (hK17 _ _ ?_)
          refine wp_ret ?_
          refine Exit.then_ret ?_
          cases h
          exact ret2 rfl hE hle hH (by kernel_rfl)
        · replace h := ifF hc h
          refine wp_skip ?_
          refine Exit.then_normal (hK13 _ _ ?_)
          refine wp_seq_k (fun K hK18 => ?_)
          refine wp_region_from ?_
          refine segO 3 [] [(6, .fldA 128 σ.t128.length 0), (7, .kv .i 0)] (Os := []) trivial hE hH (by kernel_rfl) (fun a hE => ?_)
          refine wpFrom_end (by kernel_rfl) ?_
          refine Exit.then_normal (hK18 _ _ ?_)
          refine wp_ret ?_
          cases h
          exact ret2 rfl hE hle hH (by kernel_rfl)
end Go.Proofs.Ytlfemhkabjafeaa.M

/- Plain law of numbers' bytes: what is written, and what is read. -/
set_option linter.unusedVariables false
set_option linter.unusedSimpArgs false
namespace Go.Proofs.Ytlfemhkabjafeaa.M

theorem w8 (x : Int) : IntKind.wrap .u8 x = x % 256 := by simp [IntKind.wrap, IntKind.bits, IntKind.signed]
theorem w64 (x : Int) : IntKind.wrap .u64 x = x % 18446744073709551616 := by simp [IntKind.wrap, IntKind.bits, IntKind.signed]

/-! ### Bits -/
theorem or128_fin : ∀ b : Fin 256, ((BitVec.ofNat 8 b.val) ||| (BitVec.ofNat 8 128)).toNat = b.val % 128 + 128 := by decide +kernel
theorem and127_fin : ∀ b : Fin 256, ((BitVec.ofNat 8 b.val) &&& (BitVec.ofNat 8 127)).toNat = b.val % 128 := by decide +kernel

theorem ofInt_nat (w m : Nat) : BitVec.ofInt w (m : Int) = BitVec.ofNat w m := by
  apply BitVec.eq_of_toNat_eq
  simp

theorem or128 (x : Nat) : IntKind.wrap .u8 (((BitVec.ofInt (IntKind.bits .u8) (IntKind.wrap .u8 (x : Int)) ||| BitVec.ofInt (IntKind.bits .u8) 128).toNat : Nat) : Int) = ((x % 128 + 128 : Nat) : Int) := by
  have e1 : IntKind.wrap .u8 (x : Int) = ((x % 256 : Nat) : Int) := by rw [w8]; omega
  have h : (BitVec.ofInt 8 ((x % 256 : Nat) : Int) ||| BitVec.ofInt 8 128).toNat = x % 256 % 128 + 128 := by
    rw [ofInt_nat]; exact or128_fin ⟨x % 256, Nat.mod_lt _ (by decide)⟩
  have h2 : (BitVec.ofInt (IntKind.bits .u8) ((x % 256 : Nat) : Int) ||| BitVec.ofInt (IntKind.bits .u8) 128).toNat = x % 256 % 128 + 128 := h
  rw [e1, h2, w8]
  omega

theorem and127 {c : Nat} (hc : c < 256) : IntKind.wrap .u8 (((BitVec.ofInt (IntKind.bits .u8) (c : Int) &&& BitVec.ofInt (IntKind.bits .u8) 127).toNat : Nat) : Int) = ((c % 128 : Nat) : Int) := by
  have h : (BitVec.ofInt 8 (c : Int) &&& BitVec.ofInt 8 127).toNat = c % 128 := by
    rw [ofInt_nat]; exact and127_fin ⟨c, hc⟩
  have h2 : (BitVec.ofInt (IntKind.bits .u8) (c : Int) &&& BitVec.ofInt (IntKind.bits .u8) 127).toNat = c % 128 := h
  rw [h2, w8]
  omega

/-! ### What is written -/
/-- The bytes of a number, as numbers. -/
def vbI (u : Nat) : List Int := if u < 128 then [(u : Int)] else ((u % 128 + 128 : Nat) : Int) :: vbI (u / 128)
termination_by u
decreasing_by omega

theorem vbI_small {u : Nat} (h : u < 128) : vbI u = [(u : Int)] := by rw [vbI, if_pos h]
theorem vbI_big {u : Nat} (h : ¬ u < 128) : vbI u = ((u % 128 + 128 : Nat) : Int) :: vbI (u / 128) := by rw [vbI, if_neg h]

theorem arrL_set : ∀ {n : Nat} {k : Kd} {x : k.den} {i : Nat} {z : Int}, isArr n k = true → i < n → arrL k (setA k x i z) = (arrL k x).set i z
  | 0, _, _, _, _, _, h => by omega
  | n + 1, k, x, i, z, hk, h => by
    unfold isArr at hk
    split at hk
    · rename_i h0; cases h0
    · rename_i m b h0
      cases h0
      cases i with
      | zero => simp [setA, arrL]
      | succ i =>
        have ih := arrL_set (x := x.2) (i := i) (z := z) hk (by omega)
        simp [setA, arrL, ih]
    · cases hk

theorem arrL_len : ∀ {n : Nat} {k : Kd} {x : k.den}, isArr n k = true → (arrL k x).length = n
  | 0, k, x, hk => by
    cases k <;> simp [isArr] at hk
    rfl
  | n + 1, k, x, hk => by
    unfold isArr at hk
    split at hk
    · rename_i h0; cases h0
    · rename_i m b h0
      cases h0
      have ih := arrL_len (x := x.2) hk
      simp [arrL, ih]
    · cases hk

theorem take_set {α : Type} {l : List α} {n : Nat} (h : n < l.length) (z : α) : (l.set n z).take (n + 1) = l.take n ++ [z] := by
  rw [List.take_set, List.take_succ_eq_append_getElem h]
  rw [List.set_append_right _ _ (by simp; omega)]
  have : n - (l.take n).length = 0 := by simp; omega
  rw [this]
  rfl

theorem f90_walk : ∀ (k x n : Nat) (y : K145.den) (pre : List Int), x < 128 ^ (k + 1) → n + k < 10 → (arrL K145 y).take n = pre →
    ∃ y2 : K145.den, ∃ x2 n2 : Nat, f90_l0 y (x : Int) (n : Int) = some (y2, (x2 : Int), (n2 : Int)) ∧ n2 < 10 ∧ x2 < 128 ∧ pre ++ vbI x = (arrL K145 y2).take n2 ++ [(x2 : Int)]
  | k, x, n, y, pre, hx, hn, hp => by
    rw [f90_l0]
    by_cases c : x < 128
    · exact ⟨y, x, n, by rw [if_neg (by simp; omega)], by omega, c, by rw [vbI_small c, hp]⟩
    · rw [if_pos (by simp; omega), if_pos (by omega)]
      have e1 : Int.fdiv (x : Int) (2 ^ 7) = ((x / 128 : Nat) : Int) := by
        rw [Int.fdiv_eq_ediv_of_nonneg _ (by decide)]; norm_cast
      have hw : IntKind.wrap .i64 ((n : Int) + 1) = ((n + 1 : Nat) : Int) := by rw [wrap_id (by omega) (by omega)]; omega
      have hi : Int.toNat (n : Int) = n := by omega
      rw [e1, hw, or128, hi]
      cases k with
      | zero => simp at hx; omega
      | succ k =>
        have hA : isArr 10 K145 = true := rfl
        obtain ⟨y2, x2, n2, i1, i2, i3, i4⟩ := f90_walk k (x / 128) (n + 1) (setA K145 y n ((x % 128 + 128 : Nat) : Int)) (pre ++ [((x % 128 + 128 : Nat) : Int)]) (by rw [Nat.div_lt_iff_lt_mul (by decide)]; rw [Nat.pow_succ] at hx; exact hx) (by omega) (by
          rw [arrL_set hA (by omega), take_set (by rw [arrL_len hA]; omega), hp])
        refine ⟨y2, x2, n2, i1, i2, i3, ?_⟩
        rw [vbI_big c, ← i4]; simp

/-- A number's bytes. -/
def numV (n : Nat) : List UInt8 := bytesS (vbI (2 * n))

theorem f90_numV {n : Nat} (hn : n < 9223372036854775808) : f90 (n : Int) = some (numV n) := by
  unfold f90
  have c : ¬ ((n : Int) < 0) := by omega
  have e1 : IntKind.wrap .u64 (IntKind.wrap .u64 (n : Int) * 2 ^ 1) = ((2 * n : Nat) : Int) := by
    rw [w64, w64]; omega
  rw [if_neg (by simp), e1]
  simp only [Option.bind_eq_bind, Option.bind_some]
  obtain ⟨y2, x2, n2, h1, h2, h3, h4⟩ := f90_walk 9 (2 * n) 0 (0, 0, 0, 0, 0, 0, 0, 0, 0, 0, ()) [] (by omega) (by omega) rfl
  rw [show (((0 : Nat) : Int)) = (0 : Int) from rfl] at h1
  rw [h1]
  simp only [Option.bind_some]
  have hw : IntKind.wrap .i64 ((n2 : Int) + 1) = ((n2 + 1 : Nat) : Int) := by rw [wrap_id (by omega) (by omega)]; omega
  rw [hw, if_pos (by omega), if_pos (by omega)]
  have hA : isArr 10 K145 = true := rfl
  have hi : Int.toNat (n2 : Int) = n2 := by omega
  have hi2 : Int.toNat ((n2 + 1 : Nat) : Int) = n2 + 1 := by omega
  have hz : IntKind.wrap .u8 (x2 : Int) = (x2 : Int) := by rw [w8]; omega
  rw [hi, hi2, hz, arrL_set hA h2, take_set (by rw [arrL_len hA]; exact h2), ← h4]
  rfl

theorem vbI_len : ∀ (k u : Nat), u < 128 ^ (k + 1) → (vbI u).length ≤ k + 1 := by
  intro k
  induction k with
  | zero => intro u h; rw [vbI_small (by simpa using h)]; simp
  | succ k ih =>
    intro u h
    by_cases c : u < 128
    · rw [vbI_small c]; simp
    · rw [vbI_big c, List.length_cons]
      have := ih (u / 128) (by rw [Nat.div_lt_iff_lt_mul (by decide)]; rw [Nat.pow_succ] at h; exact h)
      omega

theorem numV_len {n : Nat} (h : n < 9223372036854775808) : (numV n).length ≤ 10 := by
  unfold numV bytesS
  rw [List.length_map]
  exact vbI_len 9 (2 * n) (by omega)

theorem vbI_pos (u : Nat) : 0 < (vbI u).length := by
  by_cases c : u < 128
  · rw [vbI_small c]; simp
  · rw [vbI_big c]; simp

/-! ### What is read -/
theorem u8_of {c : Nat} (h : c < 256) : (UInt8.ofNat ((c : Nat) : Int).toNat).toNat = c := by
  have : ((c : Nat) : Int).toNat = c := by omega
  rw [this, UInt8.toNat_ofNat_of_lt' (by show c < 256; exact h)]

theorem or_add {a b i : Nat} (h : a < 2 ^ i) (hs : a + b * 2 ^ i < 2 ^ 64) : (BitVec.ofInt (IntKind.bits .u64) (a : Int) ||| BitVec.ofInt (IntKind.bits .u64) ((b * 2 ^ i : Nat) : Int)).toNat = a + b * 2 ^ i := by
  have e1 : BitVec.ofInt (IntKind.bits .u64) (a : Int) = BitVec.ofNat 64 a := ofInt_nat 64 a
  have e2 : BitVec.ofInt (IntKind.bits .u64) ((b * 2 ^ i : Nat) : Int) = BitVec.ofNat 64 (b * 2 ^ i) := ofInt_nat 64 _
  rw [e1, e2]
  show (BitVec.ofNat 64 a ||| BitVec.ofNat 64 (b * 2 ^ i)).toNat = _
  rw [BitVec.toNat_or, BitVec.toNat_ofNat, BitVec.toNat_ofNat, Nat.mod_eq_of_lt (by omega), Nat.mod_eq_of_lt (by omega)]
  have := Nat.two_pow_add_eq_or_of_lt h b
  rw [Nat.or_comm, Nat.mul_comm b, ← this]; omega

theorem and_one (x : Nat) (hx : x < 2 ^ 64) : (BitVec.ofInt (IntKind.bits .u64) (x : Int) &&& BitVec.ofInt (IntKind.bits .u64) 1).toNat = x % 2 := by
  have e1 : BitVec.ofInt (IntKind.bits .u64) (x : Int) = BitVec.ofNat 64 x := ofInt_nat 64 x
  have e2 : BitVec.ofInt (IntKind.bits .u64) 1 = BitVec.ofNat 64 1 := rfl
  rw [e1, e2]
  show (BitVec.ofNat 64 x &&& BitVec.ofNat 64 1).toNat = _
  rw [BitVec.toNat_and, BitVec.toNat_ofNat, BitVec.toNat_ofNat, Nat.mod_eq_of_lt hx, Nat.mod_eq_of_lt (by decide), Nat.and_one_is_mod]

/-- A place in a text. -/
theorem at_drop {s : List UInt8} {n : Nat} {c : UInt8} {r : List UInt8} (h : s.drop n = c :: r) : n < s.length ∧ btS s (n : Int) = (c.toNat : Int) ∧ s.drop (n + 1) = r := by
  have hl : n < s.length := by
    rcases Nat.lt_or_ge n s.length with h1 | h1
    · exact h1
    · rw [List.drop_of_length_le h1] at h; cases h
  have h2 : s.drop n = s[n] :: s.drop (n + 1) := by simp
  rw [h] at h2
  injection h2 with h3 h4
  exact ⟨hl, by rw [btS_at hl, h3], h4.symm⟩

theorem f113_walk (s : List UInt8) (p : Nat) (hs : s.length < 9223372036854775808) : ∀ (u i acc : Nat) (rest : List UInt8), s.drop (p + i) = bytesS (vbI u) ++ rest → acc < 2 ^ (7 * i) → acc + u * 2 ^ (7 * i) < 2 ^ 63 → (acc + u * 2 ^ (7 * i)) % 2 = 0 → (0 < i → u ≠ 0) →
    f113_l0 s (p : Int) (acc : Int) (i : Int) = some (.inr ((((acc + u * 2 ^ (7 * i)) / 2 : Nat) : Int), ((p + i + (vbI u).length : Nat) : Int), 0)) := by
  intro u
  induction u using Nat.strongRecOn with
  | ind u ih =>
    intro i acc rest hd ha ht hev hu
    have hi : i < 9 := by
      by_cases h0 : i = 0
      · omega
      · have hu1 : 1 ≤ u := by have := hu (by omega); omega
        have h1 : 2 ^ (7 * i) ≤ u * 2 ^ (7 * i) := Nat.le_mul_of_pos_left _ hu1
        have h2 : 2 ^ (7 * i) < 2 ^ 63 := by omega
        have := (Nat.pow_lt_pow_iff_right (a := 2) (by decide)).1 h2
        omega
    rw [f113_l0]
    have hhead : ∃ c : Nat, ∃ r, c < 256 ∧ s.drop (p + i) = (UInt8.ofNat ((c : Nat) : Int).toNat) :: r ∧ (u < 128 → c = u ∧ r = rest) ∧ (¬ u < 128 → c = u % 128 + 128 ∧ r = bytesS (vbI (u / 128)) ++ rest) := by
      by_cases c : u < 128
      · exact ⟨u, rest, by omega, by rw [hd, vbI_small c]; rfl, fun _ => ⟨rfl, rfl⟩, fun h => absurd c h⟩
      · exact ⟨u % 128 + 128, bytesS (vbI (u / 128)) ++ rest, by omega, by rw [hd, vbI_big c]; rfl, fun h => absurd h c, fun _ => ⟨rfl, rfl⟩⟩
    obtain ⟨c, r, hc, hd2, hsm, hbg⟩ := hhead
    obtain ⟨h1, h2, h3⟩ := at_drop hd2
    rw [u8_of hc] at h2
    have hw : IntKind.wrap .i64 ((p : Int) + (i : Int)) = ((p + i : Nat) : Int) := by rw [wrap_id (by omega) (by omega)]; omega
    have hw7 : IntKind.wrap .i64 (7 * (i : Int)) = ((7 * i : Nat) : Int) := by rw [wrap_id (by omega) (by omega)]; omega
    have hw1 : IntKind.wrap .i64 ((i : Int) + 1) = ((i + 1 : Nat) : Int) := by rw [wrap_id (by omega) (by omega)]; omega
    have hmin : min (Int.toNat ((7 * i : Nat) : Int)) (IntKind.bits .u64) = 7 * i := by
      have : Int.toNat ((7 * i : Nat) : Int) = 7 * i := by omega
      rw [this]
      show min (7 * i) 64 = 7 * i
      omega
    rw [hw, hw7, hw1, h2, hmin, and127 hc]
    rw [if_pos (by simp; omega), if_pos (by omega), if_neg (by simp; omega), if_pos (by omega)]
    have hb : c % 128 ≤ u := by
      by_cases cc : u < 128
      · have := (hsm cc).1; omega
      · have := (hbg cc).1; omega
    have hle : (c % 128) * 2 ^ (7 * i) ≤ u * 2 ^ (7 * i) := Nat.mul_le_mul_right _ hb
    have e1 : IntKind.wrap .u64 (IntKind.wrap .u64 ((c % 128 : Nat) : Int) * 2 ^ (7 * i)) = (((c % 128) * 2 ^ (7 * i) : Nat) : Int) := by
      have e : IntKind.wrap .u64 ((c % 128 : Nat) : Int) = ((c % 128 : Nat) : Int) := by rw [w64]; omega
      have e0 : ((c % 128 : Nat) : Int) * 2 ^ (7 * i) = (((c % 128) * 2 ^ (7 * i) : Nat) : Int) := by push_cast; rfl
      rw [e, e0, w64]
      have : (((c % 128) * 2 ^ (7 * i) : Nat) : Int) < 18446744073709551616 := by
        have : (c % 128) * 2 ^ (7 * i) < 2 ^ 63 := by omega
        have h63 : (2 : Nat) ^ 63 < 18446744073709551616 := by decide
        omega
      omega
    have e2 : IntKind.wrap .u64 (((BitVec.ofInt (IntKind.bits .u64) (acc : Int) ||| BitVec.ofInt (IntKind.bits .u64) (((c % 128) * 2 ^ (7 * i) : Nat) : Int)).toNat : Nat) : Int) = ((acc + (c % 128) * 2 ^ (7 * i) : Nat) : Int) := by
      rw [or_add ha (by have : (2 : Nat) ^ 63 < 2 ^ 64 := by decide
                        omega), w64]
      have h63 : (2 : Nat) ^ 63 < 18446744073709551616 := by decide
      omega
    rw [e1, e2]
    by_cases cc : u < 128
    · obtain ⟨rfl, rfl⟩ := hsm cc
      have hm : c % 128 = c := by omega
      rw [if_neg (by simp; omega), if_neg (by simp only [Bool.and_eq_true, beq_iff_eq, decide_eq_true_eq, not_and]; intro h4 h5; exact hu (by omega) (by omega)), hm, vbI_small cc]
      have h63 : (2 : Nat) ^ 63 < 2 ^ 64 := by decide
      rw [and_one _ (by omega), hev]
      have hne : ¬ ((IntKind.wrap .u64 ((0 : Nat) : Int) == 1) = true) := by decide
      rw [if_neg hne]
      simp only [Option.bind_eq_bind, Option.bind_some]
      have e3 : Int.fdiv ((acc + c * 2 ^ (7 * i) : Nat) : Int) (2 ^ 1) = (((acc + c * 2 ^ (7 * i)) / 2 : Nat) : Int) := by
        rw [Int.fdiv_eq_ediv_of_nonneg _ (by decide)]; norm_cast
      have h64 : (2 : Nat) ^ 63 = 9223372036854775808 := by decide
      rw [e3, wrap_id (by omega) (by omega), wrap_id (by omega) (by omega)]
      simp
    · obtain ⟨rfl, rfl⟩ := hbg cc
      rw [if_pos (by simp; omega)]
      have hm : (u % 128 + 128) % 128 = u % 128 := by omega
      rw [hm]
      have hsum : acc + u % 128 * 2 ^ (7 * i) + u / 128 * 2 ^ (7 * (i + 1)) = acc + u * 2 ^ (7 * i) := by
        have e : 2 ^ (7 * (i + 1)) = 128 * 2 ^ (7 * i) := by rw [Nat.mul_add, Nat.pow_add, Nat.mul_comm]
        rw [e, Nat.add_assoc, ← Nat.mul_assoc, ← Nat.add_mul]
        congr 2
        omega
      have hlt : acc + u % 128 * 2 ^ (7 * i) < 2 ^ (7 * (i + 1)) := by
        have e : 2 ^ (7 * (i + 1)) = 128 * 2 ^ (7 * i) := by rw [Nat.mul_add, Nat.pow_add, Nat.mul_comm]
        have h5 : u % 128 * 2 ^ (7 * i) ≤ 127 * 2 ^ (7 * i) := Nat.mul_le_mul_right _ (by omega)
        rw [e]; omega
      have := ih (u / 128) (by omega) (i + 1) (acc + u % 128 * 2 ^ (7 * i)) rest (by rw [← Nat.add_assoc]; exact h3) hlt (by rw [hsum]; exact ht) (by rw [hsum]; exact hev) (fun _ => by omega)
      rw [hsum] at this
      rw [this, vbI_big cc, List.length_cons]
      congr 5
      omega

/-- Nothing whole is there. -/
theorem f113_short (s : List UInt8) (p : Nat) (hs : s.length < 9223372036854775808) : ∀ (t : List UInt8) (i : Nat) (acc : Int), s.drop (p + i) = t → p + i ≤ s.length → (∀ c ∈ t, 128 ≤ c.toNat) → i + t.length ≤ 9 →
    ∃ z, f113_l0 s (p : Int) acc (i : Int) = some (.inl z)
  | [], i, acc, hd, hp, ht, hi => by
    rw [f113_l0]
    have hl : s.length ≤ p + i := by
      have := congrArg List.length hd
      rw [List.length_drop] at this
      simp only [List.length_nil] at this
      omega
    have hw : IntKind.wrap .i64 ((p : Int) + (i : Int)) = ((p + i : Nat) : Int) := by rw [wrap_id (by omega) (by simp at hi; omega)]; omega
    rw [hw, if_neg (by simp; omega)]
    exact ⟨_, rfl⟩
  | c :: r, i, acc, hd, hp, ht, hi => by
    rw [f113_l0]
    obtain ⟨h1, h2, h3⟩ := at_drop hd
    have hc := ht c List.mem_cons_self
    simp only [List.length_cons] at hi
    have hw : IntKind.wrap .i64 ((p : Int) + (i : Int)) = ((p + i : Nat) : Int) := by rw [wrap_id (by omega) (by omega)]; omega
    have hw7 : IntKind.wrap .i64 (7 * (i : Int)) = ((7 * i : Nat) : Int) := by rw [wrap_id (by omega) (by omega)]; omega
    have hw1 : IntKind.wrap .i64 ((i : Int) + 1) = ((i + 1 : Nat) : Int) := by rw [wrap_id (by omega) (by omega)]; omega
    rw [hw, hw7, hw1, h2, if_pos (by simp; omega), if_pos (by omega), if_neg (by simp; omega), if_pos (by omega), if_pos (by simp; omega)]
    exact f113_short s p hs r (i + 1) _ (by rw [← Nat.add_assoc]; exact h3) (by omega) (fun x hx => ht x (List.mem_cons_of_mem _ hx)) (by omega)

/-- All bytes of a number but the last one go on. -/
theorem vbI_split (u : Nat) : ∃ pre l, bytesS (vbI u) = pre ++ [l] ∧ ∀ c ∈ pre, 128 ≤ UInt8.toNat c := by
  induction u using Nat.strongRecOn with
  | ind u ih =>
    by_cases c : u < 128
    · exact ⟨[], _, by rw [vbI_small c]; rfl, by simp⟩
    · obtain ⟨pre, l, h1, h2⟩ := ih (u / 128) (by omega)
      refine ⟨UInt8.ofNat (((u % 128 + 128 : Nat) : Int).toNat) :: pre, l, ?_, ?_⟩
      · rw [vbI_big c]
        show _ :: bytesS (vbI (u / 128)) = _
        rw [h1]; rfl
      · intro x hx
        rcases List.mem_cons.1 hx with rfl | hx
        · rw [u8_of (by omega)]; omega
        · exact h2 x hx

theorem f113_num {s : List UInt8} {p k : Nat} {rest : List UInt8} (hs : s.length < 9223372036854775808) (hk : k < 4611686018427387904) (hp : p ≤ s.length) (hd : s.drop p = numV k ++ rest) :
    f113 s (p : Int) = some ((k : Int), ((p + (numV k).length : Nat) : Int), 0) := by
  unfold f113
  rw [if_neg (by simp; omega)]
  have := f113_walk s p hs (2 * k) 0 0 rest (by simpa [numV] using hd) (by simp) (by simp; omega) (by simp) (by simp)
  rw [show (((0 : Nat) : Int)) = (0 : Int) from rfl] at this
  rw [this]
  simp [numV, bytesS]

theorem f113_torn {s : List UInt8} {p k : Nat} {t : List UInt8} (hs : s.length < 9223372036854775808) (hk : k < 4611686018427387904) (hp : p ≤ s.length) (hd : s.drop p = t) (ht : t <+: numV k) (hn : t.length < (numV k).length) :
    f113 s (p : Int) = some (0, 0, 5) := by
  unfold f113
  rw [if_neg (by simp; omega)]
  obtain ⟨pre, l, h1, h2⟩ := vbI_split (2 * k)
  have h3 : numV k = pre ++ [l] := h1
  have hl := numV_len (n := k) (by omega)
  have h4 : t <+: pre := by
    rw [h3] at ht hn
    rw [List.length_append] at hn
    simp only [List.length_cons, List.length_nil] at hn
    exact List.prefix_of_prefix_length_le ht (List.prefix_append _ _) (by omega)
  obtain ⟨z, hz⟩ := f113_short s p hs t 0 0 (by simpa using hd) (by omega) (fun c hc => h2 c (h4.subset hc)) (by omega)
  rw [show (((0 : Nat) : Int)) = (0 : Int) from rfl] at hz
  rw [hz]
  rfl
end Go.Proofs.Ytlfemhkabjafeaa.M

/- Own library, part 28: a text's bytes that grow. -/
set_option linter.unusedVariables false
set_option linter.unusedSimpArgs false
namespace Go.Proofs.Ytlfemhkabjafeaa.M

section
variable {P : Program} {w : World} {G : Gh} {T T' : Tabs} {Ls : List LS} {a : Act} {N : Nat} {E : Env} {ops : Array Oper} {Q : Exit → Act → World → Prop}

theorem Holds.drew (h : Holds w G T Ls) : Holds w.drew G T Ls := by
  refine h.change (fun _ => False) (Gh.le_refl G) ⟨rfl, rfl, rfl⟩ h.free (fun b _ => ⟨rfl, rfl⟩) (fun _ hb => hb.elim) ?_ ?_ h.nd h.ex h.inj h.finj h.fex
  · intro b t i _ _ tab x cs h1 h2 h3
    exact ⟨tab, x, h1, h2, ObjR_keep (w := w) (w' := w.drew) (L := Ls) (Gh.le_refl G) (fun f => rfl) (fun _ _ _ => ⟨rfl, rfl⟩) h3⟩
  · intro l hl
    exact LSR_keep (Gh.le_refl G) (fun b _ => ⟨rfl, rfl⟩) (h.loc l hl)

def cvsE (P : Program) (ops : Array Oper) (E : Env) (i : Nat) : Option (TypeId × List UInt8 × Option Nat) :=
  match ops[i]? with
  | some o => (match goes ops (look E []) o, o.op with
    | true, .convert s t x => (match P.underlying s, P.underlying t, opnd (look E []) [] x with
      | some .string, some (.slice el), some (.kv .str y) => (match P.underlying el with
        | some (.int .u8) => some (el, y, o.dst)
        | _ => none)
      | _, _, _ => none)
    | _, _ => none)
  | none => none

/-- A text's bytes, as numbers. -/
def nums8 (s : List UInt8) : List Int := s.map (fun c => (c.toNat : Int))

/-- The bytes of a text, as a list of the call's own. -/
theorem stepCnvS {e : TypeId} {y : List UInt8} {d : Option Nat} {i : Nat} (hE : EnvR G N a E) (hH : Holds w G T Ls) (hb : cvsE P ops E i = some (e, y, d)) (hd : dstOK d N = true) (hl : y.length ≤ 140737488355328)
    (k : ∀ v a' w' G', G.le G' → EnvR G' N a' (putE d (.val v) E) → Holds w' G' T (.sby v e (nums8 y) :: Ls) → wpFrom P ops Q (i + 1) a' w') : wpFrom P ops Q i a w := by
  unfold cvsE at hb
  split at hb
  · rename_i o ho
    split at hb
    · rename_i s t x hg hop
      split at hb
      · rename_i el y' hs ht hx
        split at hb
        · rename_i hu
          simp only [Option.some.injEq, Prod.mk.injEq] at hb
          obtain ⟨rfl, rfl, rfl⟩ := hb
          have hv := unS (opnd_ok (CurR_start hE) (by simp) hx)
          have hrun := run_bytes_of_string (P := P) w s t el ⟨y'.toArray⟩ hs ht hu
          have hsz : (⟨y'.toArray⟩ : ByteArray).size = y'.length := by simp [ByteArray.size]
          rw [hsz] at hrun
          have hge := grownCap_ge w y'.length 0 el
          have hmx := grownCap_le_maxLen w y'.length 0 el (by simp only [maxLen]; omega)
          have hcur : (bytesRow ⟨y'.toArray⟩ (grownCap w y'.length 0 el)).size = grownCap w y'.length 0 el := by
            simp [bytesRow, ByteArray.size]; omega
          have hH2 := hH.drew
          let O : Obj := .cells (bytesRow ⟨y'.toArray⟩ (grownCap w y'.length 0 el)) el ((bytesRow ⟨y'.toArray⟩ (grownCap w y'.length 0 el)).size, (bytesRow ⟨y'.toArray⟩ (grownCap w y'.length 0 el)).size + 1)
          refine wpFrom_value ho (goes_ok (CurR_start hE) hg) (v := .slice (some ⟨w.heap.size, 0, none⟩) y'.length (grownCap w y'.length 0 el)) (w' := w.drew.alloc O) ?_
            (k _ _ _ _ (Gh.le_new hH2 .loc) ((hE.mono (Gh.le_new hH2 .loc)).putO hd rfl) (hH2.allocLoc O .loc (.sby (.slice (some ⟨w.heap.size, 0, none⟩) y'.length (grownCap w y'.length 0 el)) el (nums8 y')) (.inl rfl) ?_ ?_ rfl (fun _ _ _ => rfl)))
          · simp only [execOp, hop, hv]
            exact run_val hrun
          · unfold BlockOK
            have e : w.drew.heap.size = w.heap.size := rfl
            rw [e, Gh.set_same]; trivial
          · have hlen : (nums8 y').length = y'.length := by simp [nums8]
            refine ⟨w.heap.size, _, _, _, by rw [hlen], heap_alloc_new' w.drew _, .inr ?_, by rw [hlen]; exact hge, hmx, hcur, ?_, Gh.set_same _ _ _⟩
            · exact Nat.le_refl _
            · rw [hlen]
              simp [bytesRow, nums8]
        · cases hb
      · cases hb
    · cases hb
  · cases hb

/-- 'run_storeCells_at', where nothing of the row's own cells is frozen. -/
theorem run_storeCells_T (P : Program) (g o : Nat) (t : TypeId) (fz : Nat × Nat) : ∀ (vs : List Value) (i : Nat) (cur : Array Value) (w : World), w.heap[g]? = some (.cells cur t fz) → (fz.2 = 0 ∨ cur.size ≤ fz.1) → o + i + vs.length ≤ cur.size → (∀ v ∈ vs, v.oneCell' = true) →
    (storeCells ⟨g, o, none⟩ vs i).run P w = .ok () (w.setRow g (cur.toList.take (o + i) ++ vs ++ cur.toList.drop (o + i + vs.length)).toArray)
  | [], i, cur, w, hg, _, _, _ => by
    simp only [storeCells, List.append_nil, List.length_nil, Nat.add_zero, List.take_append_drop, Array.toArray_toList]
    rw [setRow_self w g cur t fz hg]
    rfl
  | v :: rest, i, cur, w, hg, hfz, hl, h1 => by
    have hi : o + i < cur.size := by simp at hl; omega
    have hadd : (⟨g, o, none⟩ : Addr).add i = ⟨g, o + i, none⟩ := by unfold Addr.add; split <;> simp_all
    have hcell : w.cell? ⟨g, o + i, none⟩ = some cur[o + i] := by simp [World.cell?, hg, hi]
    have hfro : w.frozen? ⟨g, o + i, none⟩ = false := by
      obtain ⟨lo, hi'⟩ := fz
      simp only [World.frozen?, hg, Bool.and_eq_false_iff, decide_eq_false_iff_not]
      simp only at hfz
      rcases hfz with hfz | hfz
      · right; omega
      · left; omega
    have hst : (store ((⟨g, o, none⟩ : Addr).add i) v).run P w = .ok () (w.setRow g (cur.setIfInBounds (o + i) v)) := by
      rw [hadd, run_store P w _ v _ (h1 v (by simp)), hcell]
      simp [hfro, setCell_eq_setRow w g (o + i) cur t fz v hg]
    have ih := run_storeCells_T P g o t fz rest (i + 1) (cur.setIfInBounds (o + i) v) (w.setRow g (cur.setIfInBounds (o + i) v)) (setRow_heap w g cur _ t _ hg) (by simpa using hfz) (by simp at hl ⊢; omega) (fun x hx => h1 x (by simp [hx]))
    simp only [storeCells, Sem.run_bind, hst, Result.andThen_ok, ih, setRow_setRow]
    congr 3
    have e := list_seg_step cur.toList (o + i) v rest (by simp at hl ⊢; omega)
    simpa [Array.toList_setIfInBounds, Nat.add_assoc] using e

/-- The bytes turn: in their own block, or into a new one. -/
theorem Holds.sbyTurn (h : Holds w G T Ls) {w' : World} {j g : Nat} {v v' : Value} {e : Nat} {xs zs : List Int} (hj : Ls[j]? = some (.sby v e xs)) (hvb : v.ownBlock = some g) (hrole : G.role g = .loc)
    (hok : ∀ G' : Gh, (∀ b, v'.ownBlock = some b → G'.role b = .loc) → LSR w' G' (.sby v' e zs))
    (henv : w'.os = w.os ∧ w'.tape = w.tape ∧ w'.output = w.output)
    (hv' : (v'.ownBlock = v.ownBlock ∧ w'.heap.size = w.heap.size ∧ ∀ b, v.ownBlock ≠ some b → w'.heap[b]? = w.heap[b]?) ∨
      (v'.ownBlock = some w.heap.size ∧ w'.heap.size = w.heap.size + 1 ∧ ∀ b, b ≠ w.heap.size → w'.heap[b]? = w.heap[b]?)) :
    ∃ G', G.le G' ∧ Holds w' G' T (Ls.set j (.sby v' e zs)) := by
  rcases hv' with ⟨h1, h2, h3⟩ | ⟨h1, h2, h3⟩
  · refine ⟨G, Gh.le_refl G, ?_⟩
    have hno : ∀ b, G.role b ≠ .loc → v.ownBlock ≠ some b := fun b hb he => hb (by rw [hvb] at he; simp at he; subst he; exact hrole)
    have ho : LSR w' G (.sby v' e zs) := hok G (fun b hb => by rw [h1, hvb] at hb; simp at hb; subst hb; exact hrole)
    refine h.change (fun b => v.ownBlock = some b) (Gh.le_refl G) henv (fun b hb => h.free b (by omega)) (fun b hb => ⟨h3 b hb, rfl⟩) (fun b hb => by unfold BlockOK; rw [hvb] at hb; simp at hb; subst hb; rw [hrole]; trivial) ?_ ?_ ?_ h.ex h.inj h.finj h.fex
    · intro b t i _ _ tab x cs' k1 k2 k3
      refine ⟨tab, x, k1, k2, ObjR_keep (w := w) (L := Ls) (Gh.le_refl G) (holeAt_set hj (fun _ _ _ => rfl) (fun _ _ _ => rfl) t i) (fun b f hb => ⟨h3 b (hno b ?_), rfl⟩) k3⟩
      rcases hb with hb | ⟨p, hb⟩ <;> rw [hb] <;> simp
    · intro l hl
      rw [hvb] at h3
      rcases mem_set_other hj (show LS.blk (.sby v e xs) = some g from hvb) h.nd hl with rfl | ⟨hl, hne⟩
      · exact ho
      · exact LSR_keep (Gh.le_refl G) (fun b hb' => ⟨h3 b (fun he => by simp at he; subst he; exact hne hb'), rfl⟩) (h.loc l hl)
    · refine nodup_set hj ?_ h.nd
      simp only [LS.blk, h1]
  · have hle : G.le (G.set w.heap.size .loc) := Gh.le_new h _
    have hs : ∀ b, b ≠ w.heap.size → w'.heap[b]? = w.heap[b]? ∧ (G.set w.heap.size .loc).role b = G.role b := fun b hb => ⟨h3 b hb, Gh.set_ne _ _ hb⟩
    have hrf : ∀ b, G.role b ≠ .free → b ≠ w.heap.size := fun b hb he => hb (h.free b (by omega))
    have ho : LSR w' (G.set w.heap.size .loc) (.sby v' e zs) := hok _ (fun b hb => by rw [h1] at hb; simp at hb; subst hb; exact Gh.set_same _ _ _)
    refine ⟨_, hle, ?_⟩
    refine h.change (fun b => b = w.heap.size) hle henv (fun b hb => ?_) (fun b hb => hs b hb) (fun b hb => ?_) ?_ ?_ ?_ ?_ ?_ ?_ ?_
    · rw [Gh.set_ne _ _ (by omega)]; exact h.free b (by omega)
    · subst hb; unfold BlockOK; rw [Gh.set_same]; trivial
    · intro b t i hb1 hb2 tab x cs' k1 k2 k3
      refine ⟨tab, x, k1, k2, ObjR_keep (w := w) (L := Ls) hle (holeAt_set hj (fun _ _ _ => rfl) (fun _ _ _ => rfl) t i) (fun b f hb => hs b (hrf b ?_)) k3⟩
      rcases hb with hb | ⟨p, hb⟩ <;> rw [hb] <;> simp
    · intro l hl
      rcases List.mem_or_eq_of_mem_set hl with hl | rfl
      · exact LSR_keep hle (fun b hb' => hs b (by have := h.blk_lt hl hb'; omega)) (h.loc l hl)
      · exact ho
    · exact nodup_set_new Ls j _ _ (fun m hm b hb => h.blk_lt hm hb) (by simpa [LS.blk] using h1) hj h.nd
    · intro t tab i k1 k2
      obtain ⟨b, hb⟩ := h.ex t tab i k1 k2
      exact ⟨b, by rw [Gh.set_ne _ _ (hrf b (by rw [hb]; simp))]; exact hb⟩
    · intro b b' t i k1 k2
      have n1 : b ≠ w.heap.size := fun he => by subst he; rw [Gh.set_same] at k1; simp at k1
      have n2 : b' ≠ w.heap.size := fun he => by subst he; rw [Gh.set_same] at k2; simp at k2
      rw [Gh.set_ne _ _ n1] at k1; rw [Gh.set_ne _ _ n2] at k2
      exact h.inj b b' t i k1 k2
    · intro b b' t i f k1 k2
      have n1 : b ≠ w.heap.size := fun he => by subst he; rw [Gh.set_same] at k1; simp at k1
      have n2 : b' ≠ w.heap.size := fun he => by subst he; rw [Gh.set_same] at k2; simp at k2
      rw [Gh.set_ne _ _ n1] at k1; rw [Gh.set_ne _ _ n2] at k2
      exact h.finj b b' t i f k1 k2
    · intro b t i f k1
      have n1 : b ≠ w.heap.size := fun he => by subst he; rw [Gh.set_same] at k1; simp at k1
      rw [Gh.set_ne _ _ n1] at k1
      exact h.fex b t i f k1

theorem row8 : ∀ {G : Gh} {ys : List Int} {cs : List Value}, rowR (Kr G (.int .u8)) 1 ys cs → cs.take ys.length = ys.map (Value.int .u8)
  | G, [], cs, _ => by simp
  | G, y :: ys, cs, ⟨h1, h2, h3⟩ => by
    have h2' : cs.take 1 = [.int .u8 y] := h2
    have ih := row8 h3
    cases cs with
    | nil => simp at h2'
    | cons c r =>
      simp only [List.take_succ_cons, List.take_zero, List.cons.injEq, and_true] at h2'
      subst h2'
      simp only [List.length_cons, List.take_succ_cons, List.map_cons]
      simp only [List.drop_succ_cons, List.drop_zero] at ih
      rw [ih]

/-- An append of given bytes. -/
theorem stepAppS (j : Nat) {v : Value} {xs ys : List Int} {e' : TypeId} {d : Option Nat} {i : Nat} (hE : EnvR G N a E) (hH : Holds w G T Ls)
    (hb : appRE P ops E i (.int .u8) 1 = some (.val v, .pl (.int .u8) ys, e', d)) (hj : Ls[j]? = some (.sby v e' xs)) (hd : dstOK d N = true) (hq : (xs.length + ys.length) * 1 ≤ 140737488355328)
    (k : ∀ v' a' w' G', G.le G' → EnvR G' N a' (putE d (.val v') E) → Holds w' G' T (Ls.set j (.sby v' e' (xs ++ ys))) → wpFrom P ops Q (i + 1) a' w') : wpFrom P ops Q i a w := by
  unfold appRE at hb
  split at hb
  · rename_i o ho
    split at hb
    · rename_i c hg hop
      split at hb
      · rename_i s x t u hcal hargs hts
        split at hb
        · rename_i el es ex htu hu hs hx
          split at hb
          · rename_i inf hinf
            have hok : infOK inf (.int .u8) 1 = true := by
              cases hq : infOK inf (.int .u8) 1 with
              | true => rfl
              | false => rw [hq] at hb; simp at hb
            rw [hok] at hb
            simp only [Option.some.injEq, Prod.mk.injEq] at hb
            obtain ⟨rfl, rfl, rfl, rfl⟩ := hb
            have htu' := Nat.eq_of_beq_eq_true htu
            subst htu'
            have hsv : a.eval s = v := opnd_ok (CurR_start hE) (by simp) hs
            have hv2 := opnd_ok (CurR_start hE) (by simp) hx
            obtain ⟨b, cc, ty, nn, hxv, hnn, hbr, hcs, hone, hrow⟩ := hv2
            obtain ⟨g, cap, cur, fz, rfl, o1, o2, o3, o4, o5, o6, o7⟩ := hH.loc _ (List.mem_of_getElem? hj)
            have hblk : w.heap[b]? = some (.cells cc ty (0, 0)) := by
              have := hH.block b; unfold BlockOK at this; rw [hbr] at this; exact this
            have hop' : o.op = .call { callee := .builtin .append, args := #[s, x], argTypes := #[t, t] } := by
              rw [hop]
              congr 1
              cases c with
              | mk ca ar at_ =>
                simp only at hcal hargs hts
                subst hcal
                congr 1
                · rw [← hargs]
                · rw [← hts]
            have hcell : ∀ jj uu, cc.toList[jj]? = some uu → w.cell? ((⟨b, 0, none⟩ : Addr).add jj) = some uu := fun jj uu hq => by
              rw [addr_add, cell_at hblk, Nat.zero_add]; simpa using hq
            unfold infOK at hok
            simp only [Bool.and_eq_true] at hok
            obtain ⟨k1, k2, k3, k4, k5⟩ := hok
            have hsize : inf.size = 1 := Nat.eq_of_beq_eq_true k1
            have hby : inf.bytes = 1 := Nat.eq_of_beq_eq_true k2
            have hcs' : cc.toList.length = ys.length := by
              have h1 : cc.size = ys.length * 1 := hcs
              have h2 : cc.toList.length = cc.size := Array.length_toList
              omega
            have hcc : cc.toList = ys.map (Value.int .u8) := by
              have := row8 hrow
              rw [← hcs', List.take_length] at this
              exact this
            have hcl : cur.toList.length = cur.size := Array.length_toList
            have hxl : xs.length ≤ cur.toList.length := by omega
            have hbg : ∀ b', (Value.slice (some ⟨g, 0, none⟩) xs.length cap).ownBlock = some b' → b' = g := fun b' hb' => by simp [Value.ownBlock] at hb'; exact hb'.symm
            by_cases hfit : xs.length + ys.length ≤ cap
            · have hf := run_firstCells_some (P := P) w inf.size ys.length ⟨b, 0, none⟩ ys.length nn cc.toList (by rw [hsize]; omega) hcell
              have hst := run_storeCells_T P g (xs.length * inf.size) el fz cc.toList 0 cur w o1 o2 (by rw [hsize]; omega) hone
              simp only [Nat.add_zero] at hst
              rw [hsize, Nat.mul_one] at hst
              have hr : (Builtin.append_ #[t, t] o.type #[.slice (some ⟨g, 0, none⟩) xs.length cap, .slice (some ⟨b, 0, none⟩) ys.length nn]).run P w =
                  .ok (.slice (some ⟨g, 0, none⟩) (xs.length + ys.length) cap) (w.setRow g (cur.toList.take xs.length ++ cc.toList ++ cur.toList.drop (xs.length + cc.toList.length)).toArray) := by
                simp only [hsize] at hf
                simp [Builtin.append_, run_underlying hu, sizeOf, typeInfo, hinf, hsize, Builtin.lenOf, hfit, hf, Addr.add_lit, hst]
              obtain ⟨G', hle, hH'⟩ := hH.sbyTurn (w' := w.setRow g (cur.toList.take xs.length ++ cc.toList ++ cur.toList.drop (xs.length + cc.toList.length)).toArray) (v' := .slice (some ⟨g, 0, none⟩) (xs.length + ys.length) cap) (zs := xs ++ ys) hj rfl o7 (fun G' hG' => by
                refine ⟨g, cap, _, fz, by rw [List.length_append], setRow_heap w g cur _ el _ o1, ?_, by rw [List.length_append]; exact hfit, o4, ?_, ?_, hG' g rfl⟩
                · rcases o2 with o2 | o2
                  · exact .inl o2
                  · right
                    simp only [List.size_toArray, List.length_append, List.length_take, List.length_drop]
                    omega
                · simp only [List.size_toArray, List.length_append, List.length_take, List.length_drop]
                  omega
                · rw [List.length_append, List.map_append, o6, hcc, List.take_append_of_le_length (by simp)]
                  rw [List.take_of_length_le (by simp)]) ⟨rfl, rfl, rfl⟩ (.inl ⟨rfl, by simp, fun b' hb' => setRow_other w g b' _ (fun e => hb' (by rw [e]; rfl))⟩)
              refine wpFrom_value ho (goes_ok (CurR_start hE) hg) (v := _) (w' := _) ?_ (k _ _ _ G' hle ((hE.mono hle).putO hd rfl) hH')
              simp only [execOp, hop', resolve, invoke, builtin, Sem.run_bind, Sem.run_pure, Result.andThen_ok, List.map_toArray, List.map_cons, List.map_nil, hsv, hxv, hr]
            · cases hz : inf.zero with
              | none => rw [hz] at k5; simp at k5
              | some z =>
                rw [hz] at k5
                have hzs : z.cells.size = 1 := Nat.eq_of_beq_eq_true k5
                have hold : ∀ jj uu, (xs.map (Value.int .u8))[jj]? = some uu → w.cell? ((⟨g, 0, none⟩ : Addr).add jj) = some uu := fun jj uu hq2 => by
                  rw [addr_add, cell_at o1, Nat.zero_add, ← Array.getElem?_toList]
                  rw [← o6] at hq2
                  have hjl := (List.getElem?_eq_some_iff.1 hq2).1
                  rw [List.length_take] at hjl
                  rw [List.getElem?_take_of_lt (by omega)] at hq2
                  exact hq2
                have hr := run_append_grow (P := P) w t o.type el inf z hu hinf hz ⟨g, 0, none⟩ xs.length cap (xs.map (Value.int .u8)) (by rw [hsize]; simp) hold ⟨b, 0, none⟩ ys.length nn cc.toList (by rw [hsize]; omega) hcell (by omega) (by omega) (growslice_fits (by omega) (by rw [hby]; exact hq))
                have hge := grownCap_ge w (xs.length + ys.length) cap el
                have hmx := grownCap_le_maxLen w (xs.length + ys.length) cap el (by simp only [maxLen]; omega)
                obtain ⟨G', hle, hH'⟩ := hH.sbyTurn (v' := .slice (some ⟨w.heap.size, 0, none⟩) (xs.length + ys.length) (grownCap w (xs.length + ys.length) cap el)) (zs := xs ++ ys) (w' := w.drew.alloc (.cells ((xs.map (Value.int .u8)).toArray ++ cc.toList.toArray ++ Builtin.zeroCells z.cells (grownCap w (xs.length + ys.length) cap el - (xs.length + ys.length))) el)) hj rfl o7 (fun G' hG' => by
                  refine ⟨w.heap.size, _, _, (0, 0), by rw [List.length_append], heap_alloc_new' w.drew _, .inl rfl, by rw [List.length_append]; exact hge, hmx, ?_, ?_, hG' _ rfl⟩
                  · rw [Array.size_append, Array.size_append, size_zeroCells, hzs]
                    simp only [List.size_toArray, List.length_map]
                    omega
                  · rw [List.length_append, List.map_append, hcc]
                    simp only [Array.toList_append]
                    rw [List.take_append_of_le_length (by simp)]
                    rw [List.take_of_length_le (by simp)]) ⟨rfl, rfl, rfl⟩ (.inr ⟨rfl, by simp, fun b' hb' => heap_alloc_ne w.drew _ (by simpa using hb')⟩)
                refine wpFrom_value ho (goes_ok (CurR_start hE) hg) (v := _) (w' := _) ?_ (k _ _ _ G' hle ((hE.mono hle).putO hd rfl) hH')
                simp only [execOp, hop', resolve, invoke, builtin, Sem.run_bind, Sem.run_pure, Result.andThen_ok, List.map_toArray, List.map_cons, List.map_nil, hsv, hxv, hr]
          · simp at hb
        · simp at hb
      · simp at hb
    · simp at hb
  · simp at hb

def cnsE (P : Program) (ops : Array Oper) (E : Env) (i : Nat) : Option (Value × Option Nat) :=
  match ops[i]? with
  | some o => (match goes ops (look E []) o, o.op with
    | true, .convert s t x => (match P.underlying s, P.underlying t, opnd (look E []) [] x with
      | some (.slice el), some .string, some (.val v) => (match P.underlying el with
        | some (.int .u8) => some (v, o.dst)
        | _ => none)
      | _, _, _ => none)
    | _, _ => none)
  | none => none

/-- The bytes, as a text. -/
theorem stepCnS (j : Nat) {v : Value} {e : TypeId} {xs : List Int} {d : Option Nat} {i : Nat} (hE : EnvR G N a E) (hH : Holds w G T Ls) (hb : cnsE P ops E i = some (v, d)) (hj : Ls[j]? = some (.sby v e xs)) (hd : dstOK d N = true)
    (k : ∀ a', EnvR G N a' (putE d (.kv .str (bytesS xs)) E) → wpFrom P ops Q (i + 1) a' w) : wpFrom P ops Q i a w := by
  unfold cnsE at hb
  split at hb
  · rename_i o ho
    split at hb
    · rename_i s t y hg hop
      split at hb
      · rename_i el v' hs ht hx
        split at hb
        · rename_i hu
          simp only [Option.some.injEq, Prod.mk.injEq] at hb
          obtain ⟨rfl, rfl⟩ := hb
          have h1 := opnd_ok (CurR_start hE) (by simp) hx
          simp only [EnR] at h1
          obtain ⟨g, cap, cur, fz, rfl, o1, o2, o3, o4, o5, o6, o7⟩ := hH.loc _ (List.mem_of_getElem? hj)
          refine wpFrom_value ho (goes_ok (CurR_start hE) hg) (v := .string ⟨(bytesS xs).toArray⟩) (w' := w) ?_ (k _ (hE.putO hd mkS))
          simp only [execOp, hop, h1]
          refine run_val ?_
          unfold convert
          rw [run_und hs, run_und ht]
          simp only []
          rw [run_und hu]
          rw [bytesS_eq]
          have hrun := run_loadCells_list (P := P) w ⟨g, 0, none⟩ (xs.map (Value.int .u8)) (fun jj uu hq2 => by
            rw [addr_add, cell_at o1, Nat.zero_add, ← Array.getElem?_toList]
            rw [← o6] at hq2
            have hjl := (List.getElem?_eq_some_iff.1 hq2).1
            rw [List.length_take] at hjl
            rw [List.getElem?_take_of_lt (by omega)] at hq2
            exact hq2)
          rw [List.length_map] at hrun
          exact run_bytesToString w ⟨g, 0, none⟩ xs.length cap _ hrun
        · cases hb
      · cases hb
    · cases hb
  · cases hb
end
end Go.Proofs.Ytlfemhkabjafeaa.M

/- Printed by own program: twins and walks. -/
set_option linter.unusedVariables false
set_option maxRecDepth 100000
namespace Go.Proofs.Ytlfemhkabjafeaa.M
open Go.Proofs (Try.prog Try.func152 Try.f152 Try.func139 Try.f139 Try.func112 Try.f112 Try.func92 Try.f92 Try.func44 Try.f44)

def f152 (p0 : Int) : Option Int :=
  if ((Int.tmod p0 2) == 1) = true then
  some (IntKind.wrap .u32 ((BitVec.ofInt (IntKind.bits .u32) (IntKind.wrap .u32 (Int.tdiv p0 2)) ^^^ BitVec.ofInt (IntKind.bits .u32) 2197175160).toNat))
  else
  some (IntKind.wrap .u32 (Int.tdiv p0 2))

theorem f152_ok {p0 : Int} {σ : St} {p : Int} (h : f152 p0 = some p) : Spec Try.prog 152 [.kv (.int .u32) p0] (tabs σ) (.kv (.int .u32) p) (tabs σ) := by
  refine Spec.intro Try.func152 (by kernel_rfl) rfl (by kernel_rfl) (fun a w G0 Ls hE hH hN => ?_)
  have hle : G0.le G0 := Gh.le_refl G0
  unfold f152 at h
  refine wp_seq_k (fun K hK1 => ?_)
  refine wp_region_from ?_
  refine segO 1 [] [(2, .kv (.int .u32) 0)] (Os := []) trivial hE hH (by kernel_rfl) (fun a hE => ?_)
  refine wpFrom_end (by kernel_rfl) ?_
  refine Exit.then_normal (hK1 _ _ ?_)
  refine wp_seq_k (fun K hK2 => ?_)
  refine wp_seq_k (fun K hK3 => ?_)
  refine wp_region_from ?_
  refine segO 3 [] [(5, .kv .bool ((Int.tmod p0 2) == 1))] (Os := [_]) ⟨(by decide : (2 : Int) ≠ 0), trivial⟩ hE hH (by kernel_rfl) (fun a hE => ?_)
  refine wpFrom_end (by kernel_rfl) ?_
  refine Exit.then_normal (hK3 _ _ ?_)
  refine condE (b := (Int.tmod p0 2) == 1) hE (by kernel_rfl) (fun hc => ?_) (fun hc => ?_)
  · replace h := ifT hc h
    refine wp_seq_k (fun K hK4 => ?_)
    refine wp_region_from ?_
    refine segO 4 [] [(2, .kv (.int .u32) (IntKind.wrap .u32 ((BitVec.ofInt (IntKind.bits .u32) (IntKind.wrap .u32 (Int.tdiv p0 2)) ^^^ BitVec.ofInt (IntKind.bits .u32) 2197175160).toNat)))] (Os := [_]) ⟨(by decide : (2 : Int) ≠ 0), trivial⟩ hE hH (by kernel_rfl) (fun a hE => ?_)
    refine wpFrom_end (by kernel_rfl) ?_
    refine Exit.then_normal (hK4 _ _ ?_)
    refine wp_ret ?_
    refine Exit.then_ret ?_
    cases h
    exact ret1 rfl hE hle hH (by kernel_rfl)
  · replace h := ifF hc h
    refine wp_skip ?_
    refine Exit.then_normal (hK2 _ _ ?_)
    refine wp_seq_k (fun K hK5 => ?_)
    refine wp_region_from ?_
    refine segO 3 [] [(2, .kv (.int .u32) (IntKind.wrap .u32 (Int.tdiv p0 2)))] (Os := [_]) ⟨(by decide : (2 : Int) ≠ 0), trivial⟩ hE hH (by kernel_rfl) (fun a hE => ?_)
    refine wpFrom_end (by kernel_rfl) ?_
    refine Exit.then_normal (hK5 _ _ ?_)
    refine wp_ret ?_
    cases h
    exact ret1 rfl hE hle hH (by kernel_rfl)

def f139_l1  (x16 : Int) (x17 : Int) : Option (Int × Int) :=
  if (decide (x17 < 8)) = true then
  f152 x16 >>= fun r25 =>
  f139_l1 r25 (IntKind.wrap .i64 (x17 + 1))
  else
  some ((x16, x17))
  partial_fixpoint

def f139_l0 (p1 : List UInt8) (x4 : Int) (x5 : Int) : Option (Int × Int) :=
  if (decide (x5 < (p1.length : Int))) = true then
  if (0 : Int) ≤ x5 ∧ x5 < (p1.length : Int) then
  f139_l1  (IntKind.wrap .u32 ((BitVec.ofInt (IntKind.bits .u32) x4 ^^^ BitVec.ofInt (IntKind.bits .u32) (IntKind.wrap .u32 (btS p1 x5))).toNat)) 0 >>= fun z26 =>
  f139_l0 p1 z26.1 (IntKind.wrap .i64 (x5 + 1))
  else none
  else
  some ((x4, x5))
  partial_fixpoint

def f139 (p0 : Int) (p1 : List UInt8) : Option Int :=
  f139_l0 p1 p0 0 >>= fun z28 =>
  some z28.1

theorem f139_ok {p0 : Int} {p1 : List UInt8} {σ : St} {p : Int} (h : f139 p0 p1 = some p) : Spec Try.prog 139 [.kv (.int .u32) p0, .kv .str p1] (tabs σ) (.kv (.int .u32) p) (tabs σ) := by
  refine Spec.intro Try.func139 (by kernel_rfl) rfl (by kernel_rfl) (fun a w G0 Ls hE hH hN => ?_)
  have hle : G0.le G0 := Gh.le_refl G0
  unfold f139 at h
  refine wp_seq_k (fun K hK1 => ?_)
  refine wp_region_from ?_
  refine segO 1 [] [(4, .kv (.int .u32) 0)] (Os := []) trivial hE hH (by kernel_rfl) (fun a hE => ?_)
  refine wpFrom_end (by kernel_rfl) ?_
  refine Exit.then_normal (hK1 _ _ ?_)
  refine wp_seq_k (fun K hK2 => ?_)
  refine wp_seq_k (fun K hK3 => ?_)
  refine wp_region_from ?_
  refine segO 1 [] [(5, .kv .i 0)] (Os := []) trivial hE hH (by kernel_rfl) (fun a hE => ?_)
  refine wpFrom_end (by kernel_rfl) ?_
  refine Exit.then_normal (hK3 _ _ ?_)
  refine wp_block ?_
  obtain ⟨z28, hz28, h⟩ := bs h
  refine loop_intro (fun Q6 c hQ hc => ?_)
  have key : ∀ (x4 : Int) (x5 : Int) (rr : Int × Int), f139_l0 p1 x4 x5 = some rr → ∀ (a : Act) (w : World) (G : Gh), G0.le G → EnvR G 26 a [(0, .kv (.int .u32) x4), (1, .kv .str p1), (4, .kv (.int .u32) 0), (5, .kv .i x5)] → Holds w G (tabs σ) (Ls) → (∀ z29 : Int × Int, rr = z29 → ∀ (a : Act) (w : World) (G : Gh), G0.le G → EnvR G 26 a [(0, .kv (.int .u32) z29.1), (1, .kv .str p1), (4, .kv (.int .u32) 0), (5, .kv .i z29.2)] → Holds w G (tabs σ) (Ls) → Q6 (.exit 0) a w) → Rnd Try.prog c Q6 a w := by
    refine f139_l0.partial_correctness p1 _ ?_
    intro self ih9 x4 x5 rr h a w G  hle hE hH hx7
    refine rnd_step' hc ?_
    refine wp_seq_k (fun K hK10 => ?_)
    refine wp_seq_k (fun K hK11 => ?_)
    refine wp_region_from ?_
    refine segO 4 [] [(10, .kv .bool (decide (x5 < (p1.length : Int))))] (Os := []) trivial hE hH (by kernel_rfl) (fun a hE => ?_)
    refine wpFrom_end (by kernel_rfl) ?_
    refine Exit.then_normal (hK11 _ _ ?_)
    refine condE (b := decide (x5 < (p1.length : Int))) hE (by kernel_rfl) (fun hc => ?_) (fun hc => ?_)
    · replace h := ifT hc h
      refine wp_skip ?_
      refine Exit.then_normal (hK10 _ _ ?_)
      refine wp_seq_k (fun K hK12 => ?_)
      refine wp_block ?_
      refine wp_seq_k (fun K hK13 => ?_)
      refine wp_region_from ?_
      obtain ⟨q14, h⟩ := gd h
      refine segO 7 [] [(0, .kv (.int .u32) (IntKind.wrap .u32 ((BitVec.ofInt (IntKind.bits .u32) x4 ^^^ BitVec.ofInt (IntKind.bits .u32) (IntKind.wrap .u32 (btS p1 x5))).toNat)))] (Os := [_]) ⟨q14, trivial⟩ hE hH (by kernel_rfl) (fun a hE => ?_)
      refine wpFrom_end (by kernel_rfl) ?_
      refine Exit.then_normal (hK13 _ _ ?_)
      refine wp_seq_k (fun K hK15 => ?_)
      refine wp_region_from ?_
      refine segO 1 [] [(6, .kv .i 0)] (Os := []) trivial hE hH (by kernel_rfl) (fun a hE => ?_)
      refine wpFrom_end (by kernel_rfl) ?_
      refine Exit.then_normal (hK15 _ _ ?_)
      refine wp_block ?_
      obtain ⟨z26, hz26, h⟩ := bs h
      refine loop_intro (fun Q18 c hQ hc => ?_)
      have key : ∀ (x16 : Int) (x17 : Int) (rr : Int × Int), f139_l1  x16 x17 = some rr → ∀ (a : Act) (w : World) (G : Gh), G0.le G → EnvR G 26 a [(0, .kv (.int .u32) x16), (1, .kv .str p1), (4, .kv (.int .u32) 0), (5, .kv .i x5), (6, .kv .i x17)] → Holds w G (tabs σ) (Ls) → (∀ z27 : Int × Int, rr = z27 → ∀ (a : Act) (w : World) (G : Gh), G0.le G → EnvR G 26 a [(0, .kv (.int .u32) z27.1), (1, .kv .str p1), (4, .kv (.int .u32) 0), (5, .kv .i x5), (6, .kv .i z27.2)] → Holds w G (tabs σ) (Ls) → Q18 (.exit 2) a w) → Rnd Try.prog c Q18 a w := by
        refine f139_l1.partial_correctness  _ ?_
        intro self ih21 x16 x17 rr h a w G  hle hE hH hx19
        refine rnd_step' hc ?_
        refine wp_seq_k (fun K hK22 => ?_)
        refine wp_seq_k (fun K hK23 => ?_)
        refine wp_region_from ?_
        refine segO 2 [] [(20, .kv .bool (decide (x17 < 8)))] (Os := []) trivial hE hH (by kernel_rfl) (fun a hE => ?_)
        refine wpFrom_end (by kernel_rfl) ?_
        refine Exit.then_normal (hK23 _ _ ?_)
        refine condE (b := decide (x17 < 8)) hE (by kernel_rfl) (fun hc => ?_) (fun hc => ?_)
        · replace h := ifT hc h
          refine wp_skip ?_
          refine Exit.then_normal (hK22 _ _ ?_)
          refine wp_seq_k (fun K hK24 => ?_)
          refine wp_block ?_
          refine wp_region_from ?_
          refine segO 1 [] [(23, .kv (.int .u32) x16)] (Os := []) trivial hE hH (by kernel_rfl) (fun a hE => ?_)
          obtain ⟨r25, hr25, h⟩ := bs h
          refine stepCall (d := (some 24)) (f152_ok hr25) hE hH hN (by kernel_rfl) (by kernel_rfl) trivial (fun a w G hl1 hE hH => ?_)
          have hle := Gh.le_trans hle hl1
          refine segO 1 [] [(0, .kv (.int .u32) r25)] (Os := []) trivial hE hH (by kernel_rfl) (fun a hE => ?_)
          refine wpFrom_end (by kernel_rfl) ?_
          refine Exit.in_normal ?_
          refine Exit.then_normal (hK24 _ _ ?_)
          refine wp_region_from ?_
          refine segO 3 [] [(6, .kv .i (IntKind.wrap .i64 (x17 + 1)))] (Os := []) trivial hE hH (by kernel_rfl) (fun a hE => ?_)
          refine wpFrom_end (by kernel_rfl) ?_
          refine Exit.then_normal ?_
          exact ih21 _ _ _ h _ _ _  hle (hE.subC (by kernel_rfl)) hH hx19
        · replace h := ifF hc h
          refine wp_exit ?_
          refine Exit.then_exit ?_
          refine Exit.then_exit ?_
          cases h
          exact hx19 _ rfl _ _ _  hle (hE.subC (by kernel_rfl)) hH
      refine key _ _ _ hz26 _ _ _  hle (hE.subC (by kernel_rfl)) hH ?_
      · intro z27 hz a w G  hle hE hH
        subst hz
        rw [hQ]
        refine Exit.in_eq ?_
        refine Exit.in_normal ?_
        refine Exit.then_normal (hK12 _ _ ?_)
        refine wp_region_from ?_
        refine segO 3 [] [(5, .kv .i (IntKind.wrap .i64 (x5 + 1)))] (Os := []) trivial hE hH (by kernel_rfl) (fun a hE => ?_)
        refine wpFrom_end (by kernel_rfl) ?_
        refine Exit.then_normal ?_
        exact ih9 _ _ _ h _ _ _  hle (hE.subC (by kernel_rfl)) hH hx7
    · replace h := ifF hc h
      refine wp_exit ?_
      refine Exit.then_exit ?_
      refine Exit.then_exit ?_
      cases h
      exact hx7 _ rfl _ _ _  hle (hE.subC (by kernel_rfl)) hH
  refine key _ _ _ hz28 _ _ _  hle (hE.subC (by kernel_rfl)) hH ?_
  · intro z29 hz a w G  hle hE hH
    subst hz
    rw [hQ]
    refine Exit.in_eq ?_
    refine Exit.then_normal (hK2 _ _ ?_)
    refine wp_seq_k (fun K hK30 => ?_)
    refine wp_region_from ?_
    refine segO 2 [] [(4, .kv (.int .u32) z28.1)] (Os := []) trivial hE hH (by kernel_rfl) (fun a hE => ?_)
    refine wpFrom_end (by kernel_rfl) ?_
    refine Exit.then_normal (hK30 _ _ ?_)
    refine wp_ret ?_
    cases h
    exact ret1 rfl hE hle hH (by kernel_rfl)

def f112 (p0 : List UInt8) : Option Int :=
  f139 4294967295 p0 >>= fun r3 =>
  some (IntKind.wrap .u32 ((BitVec.ofInt (IntKind.bits .u32) r3 ^^^ BitVec.ofInt (IntKind.bits .u32) 4294967295).toNat))

theorem f112_ok {p0 : List UInt8} {σ : St} {p : Int} (h : f112 p0 = some p) : Spec Try.prog 112 [.kv .str p0] (tabs σ) (.kv (.int .u32) p) (tabs σ) := by
  refine Spec.intro Try.func112 (by kernel_rfl) rfl (by kernel_rfl) (fun a w G0 Ls hE hH hN => ?_)
  have hle : G0.le G0 := Gh.le_refl G0
  unfold f112 at h
  refine wp_seq_k (fun K hK1 => ?_)
  refine wp_region_from ?_
  refine segO 1 [] [(2, .kv (.int .u32) 0)] (Os := []) trivial hE hH (by kernel_rfl) (fun a hE => ?_)
  refine wpFrom_end (by kernel_rfl) ?_
  refine Exit.then_normal (hK1 _ _ ?_)
  refine wp_seq_k (fun K hK2 => ?_)
  refine wp_region_from ?_
  refine segO 1 [] [(3, .kv .str p0)] (Os := []) trivial hE hH (by kernel_rfl) (fun a hE => ?_)
  obtain ⟨r3, hr3, h⟩ := bs h
  refine stepCall (d := (some 4)) (f139_ok hr3) hE hH hN (by kernel_rfl) (by kernel_rfl) trivial (fun a w G hl1 hE hH => ?_)
  have hle := Gh.le_trans hle hl1
  refine segO 2 [] [(2, .kv (.int .u32) (IntKind.wrap .u32 ((BitVec.ofInt (IntKind.bits .u32) r3 ^^^ BitVec.ofInt (IntKind.bits .u32) 4294967295).toNat)))] (Os := []) trivial hE hH (by kernel_rfl) (fun a hE => ?_)
  refine wpFrom_end (by kernel_rfl) ?_
  refine Exit.then_normal (hK2 _ _ ?_)
  refine wp_ret ?_
  cases h
  exact ret1 rfl hE hle hH (by kernel_rfl)

def f92_l0  (l10 : List Int) (x11 : Int) (x12 : Int) : Option ((List Int) × Int × Int) :=
  if (decide (x12 < 4)) = true then
  if (l10.length + 1) * 1 ≤ 140737488355328 then
  f92_l0 (l10 ++ [IntKind.wrap .u8 (Int.tmod x11 256)]) (IntKind.wrap .u32 (Int.tdiv x11 256)) (IntKind.wrap .i64 (x12 + 1))
  else none
  else
  some ((l10, x11, x12))
  partial_fixpoint

def f92 (p0 : List UInt8) : Option (List UInt8) :=
  f112 p0 >>= fun r3 =>
  if p0.length ≤ 140737488355328 then
  f92_l0  (nums8 p0) r3 0 >>= fun z23 =>
  some (bytesS z23.1)
  else none

theorem f92_ok {p0 : List UInt8} {σ : St} {p : List UInt8} (h : f92 p0 = some p) : Spec Try.prog 92 [.kv .str p0] (tabs σ) (.kv .str p) (tabs σ) := by
  refine Spec.intro Try.func92 (by kernel_rfl) rfl (by kernel_rfl) (fun a w G0 Ls hE hH hN => ?_)
  have hle : G0.le G0 := Gh.le_refl G0
  unfold f92 at h
  refine wp_seq_k (fun K hK1 => ?_)
  refine wp_region_from ?_
  refine segO 1 [] [(2, .kv .str [])] (Os := []) trivial hE hH (by kernel_rfl) (fun a hE => ?_)
  refine wpFrom_end (by kernel_rfl) ?_
  refine Exit.then_normal (hK1 _ _ ?_)
  refine wp_seq_k (fun K hK2 => ?_)
  refine wp_region_from ?_
  refine segO 1 [] [(6, .kv .str p0)] (Os := []) trivial hE hH (by kernel_rfl) (fun a hE => ?_)
  obtain ⟨r3, hr3, h⟩ := bs h
  refine stepCall (d := (some 7)) (f112_ok hr3) hE hH hN (by kernel_rfl) (by kernel_rfl) trivial (fun a w G hl1 hE hH => ?_)
  have hle := Gh.le_trans hle hl1
  refine segO 1 [] [(3, .kv (.int .u32) r3)] (Os := []) trivial hE hH (by kernel_rfl) (fun a hE => ?_)
  refine wpFrom_end (by kernel_rfl) ?_
  refine Exit.then_normal (hK2 _ _ ?_)
  refine wp_seq_k (fun K hK4 => ?_)
  refine wp_region_from ?_
  refine segO 1 [] [(8, .kv .str p0)] (Os := []) trivial hE hH (by kernel_rfl) (fun a hE => ?_)
  obtain ⟨q5, h⟩ := gd h
  refine stepCnvS (e := 5) (y := p0) (d := (some 9)) hE hH (by kernel_rfl) (by kernel_rfl) q5 (fun v6 a w G hl2 hE hH => ?_)
  have hle := Gh.le_trans hle hl2
  refine segO 1 [] [(4, .val v6)] (Os := []) trivial hE hH (by kernel_rfl) (fun a hE => ?_)
  refine wpFrom_end (by kernel_rfl) ?_
  refine Exit.then_normal (hK4 _ _ ?_)
  refine wp_seq_k (fun K hK7 => ?_)
  refine wp_seq_k (fun K hK8 => ?_)
  refine wp_region_from ?_
  refine segO 1 [] [(5, .kv .i 0)] (Os := []) trivial hE hH (by kernel_rfl) (fun a hE => ?_)
  refine wpFrom_end (by kernel_rfl) ?_
  refine Exit.then_normal (hK8 _ _ ?_)
  refine wp_block ?_
  obtain ⟨z23, hz23, h⟩ := bs h
  refine loop_intro (fun Q13 c hQ hc => ?_)
  have key : ∀ (l10 : List Int) (x11 : Int) (x12 : Int) (rr : (List Int) × Int × Int), f92_l0  l10 x11 x12 = some rr → ∀ (a : Act) (w : World) (G : Gh) (v9 : Value), G0.le G → EnvR G 24 a [(2, .kv .str []), (3, .kv (.int .u32) x11), (4, .val v9), (5, .kv .i x12)] → Holds w G (tabs σ) (LS.sby v9 5 l10 :: Ls) → (∀ z24 : (List Int) × Int × Int, rr = z24 → ∀ (a : Act) (w : World) (G : Gh) (v9 : Value), G0.le G → EnvR G 24 a [(2, .kv .str []), (3, .kv (.int .u32) z24.2.1), (4, .val v9), (5, .kv .i z24.2.2)] → Holds w G (tabs σ) (LS.sby v9 5 z24.1 :: Ls) → Q13 (.exit 0) a w) → Rnd Try.prog c Q13 a w := by
    refine f92_l0.partial_correctness  _ ?_
    intro self ih16 l10 x11 x12 rr h a w G v9 hle hE hH hx14
    refine rnd_step' hc ?_
    refine wp_seq_k (fun K hK17 => ?_)
    refine wp_seq_k (fun K hK18 => ?_)
    refine wp_region_from ?_
    refine segO 2 [] [(11, .kv .bool (decide (x12 < 4)))] (Os := []) trivial hE hH (by kernel_rfl) (fun a hE => ?_)
    refine wpFrom_end (by kernel_rfl) ?_
    refine Exit.then_normal (hK18 _ _ ?_)
    refine condE (b := decide (x12 < 4)) hE (by kernel_rfl) (fun hc => ?_) (fun hc => ?_)
    · replace h := ifT hc h
      refine wp_skip ?_
      refine Exit.then_normal (hK17 _ _ ?_)
      refine wp_seq_k (fun K hK19 => ?_)
      refine wp_block ?_
      refine wp_seq_k (fun K hK20 => ?_)
      refine wp_region_from ?_
      refine segO 4 [] [(14, .val v9), (17, .kv (.int .u8) (IntKind.wrap .u8 (Int.tmod x11 256)))] (Os := [_]) ⟨(by decide : (256 : Int) ≠ 0), trivial⟩ hE hH (by kernel_rfl) (fun a hE => ?_)
      refine stepBuildS (d := (some 18)) (.int .u8) [IntKind.wrap .u8 (Int.tmod x11 256)] hE hH (by kernel_rfl) (by kernel_rfl) (fun a w G hl3 hE hH => ?_)
      have hle := Gh.le_trans hle hl3
      obtain ⟨q21, h⟩ := gd h
      refine stepAppS 0 (v := v9) (xs := l10) (ys := [IntKind.wrap .u8 (Int.tmod x11 256)]) (e' := 5) (d := (some 19)) hE hH (by kernel_rfl) rfl (by kernel_rfl) q21 (fun v22 a w G hl4 hE hH => ?_)
      have hle := Gh.le_trans hle hl4
      refine segO 1 [] [(4, .val v22)] (Os := []) trivial hE hH (by kernel_rfl) (fun a hE => ?_)
      refine wpFrom_end (by kernel_rfl) ?_
      refine Exit.then_normal (hK20 _ _ ?_)
      refine wp_region_from ?_
      refine segO 3 [] [(3, .kv (.int .u32) (IntKind.wrap .u32 (Int.tdiv x11 256)))] (Os := [_]) ⟨(by decide : (256 : Int) ≠ 0), trivial⟩ hE hH (by kernel_rfl) (fun a hE => ?_)
      refine wpFrom_end (by kernel_rfl) ?_
      refine Exit.in_normal ?_
      refine Exit.then_normal (hK19 _ _ ?_)
      refine wp_region_from ?_
      refine segO 3 [] [(5, .kv .i (IntKind.wrap .i64 (x12 + 1)))] (Os := []) trivial hE hH (by kernel_rfl) (fun a hE => ?_)
      refine wpFrom_end (by kernel_rfl) ?_
      refine Exit.then_normal ?_
      exact ih16 _ _ _ _ h _ _ _ v22 hle (hE.subC (by kernel_rfl)) hH hx14
    · replace h := ifF hc h
      refine wp_exit ?_
      refine Exit.then_exit ?_
      refine Exit.then_exit ?_
      cases h
      exact hx14 _ rfl _ _ _ v9 hle (hE.subC (by kernel_rfl)) hH
  refine key _ _ _ _ hz23 _ _ _ v6 hle (hE.subC (by kernel_rfl)) hH ?_
  · intro z24 hz a w G v9 hle hE hH
    subst hz
    rw [hQ]
    refine Exit.in_eq ?_
    refine Exit.then_normal (hK7 _ _ ?_)
    refine wp_seq_k (fun K hK25 => ?_)
    refine wp_region_from ?_
    refine segO 1 [] [(22, .val v9)] (Os := []) trivial hE hH (by kernel_rfl) (fun a hE => ?_)
    refine stepCnS 0 (v := v9) (e := 5) (xs := z23.1) (d := (some 23)) hE hH (by kernel_rfl) rfl (by kernel_rfl) (fun a hE => ?_)
    refine segO 1 [] [(2, .kv .str (bytesS z23.1))] (Os := []) trivial hE hH (by kernel_rfl) (fun a hE => ?_)
    refine wpFrom_end (by kernel_rfl) ?_
    refine Exit.then_normal (hK25 _ _ ?_)
    refine wp_ret ?_
    have hH := hH.drop (fun _ _ _ => rfl)
    cases h
    exact ret1 rfl hE hle hH (by kernel_rfl)

def f44 (p0 : List UInt8) : Option ((List UInt8) × Int) :=
  if (decide ((p0.length : Int) < 4)) = true then
  some ([], 5)
  else
  if (0 : Int) ≤ (IntKind.wrap .i64 ((p0.length : Int) - 4)) ∧ (IntKind.wrap .i64 ((p0.length : Int) - 4)) ≤ (p0.length : Int) then
  f92 (p0.take (Int.toNat (IntKind.wrap .i64 ((p0.length : Int) - 4)))) >>= fun r9 =>
  if (!(r9 == p0)) = true then
  some ([], 7)
  else
  some (p0.take (Int.toNat (IntKind.wrap .i64 ((p0.length : Int) - 4))), 0)
  else none

theorem f44_ok {p0 : List UInt8} {σ : St} {p : (List UInt8) × Int} (h : f44 p0 = some p) : Spec Try.prog 44 [.kv .str p0] (tabs σ) (.tup [⟨.str, p.1⟩, ⟨.i, p.2⟩]) (tabs σ) := by
  refine Spec.intro Try.func44 (by kernel_rfl) rfl (by kernel_rfl) (fun a w G0 Ls hE hH hN => ?_)
  have hle : G0.le G0 := Gh.le_refl G0
  unfold f44 at h
  refine wp_seq_k (fun K hK1 => ?_)
  refine wp_region_from ?_
  refine segO 2 [] [(2, .kv .str []), (3, .kv .i 0)] (Os := []) trivial hE hH (by kernel_rfl) (fun a hE => ?_)
  refine wpFrom_end (by kernel_rfl) ?_
  refine Exit.then_normal (hK1 _ _ ?_)
  refine wp_seq_k (fun K hK2 => ?_)
  refine wp_seq_k (fun K hK3 => ?_)
  refine wp_region_from ?_
  refine segO 3 [] [(7, .kv .bool (decide ((p0.length : Int) < 4)))] (Os := []) trivial hE hH (by kernel_rfl) (fun a hE => ?_)
  refine wpFrom_end (by kernel_rfl) ?_
  refine Exit.then_normal (hK3 _ _ ?_)
  refine condE (b := decide ((p0.length : Int) < 4)) hE (by kernel_rfl) (fun hc => ?_) (fun hc => ?_)
  · replace h := ifT hc h
    refine wp_seq_k (fun K hK4 => ?_)
    refine wp_region_from ?_
    refine segO 2 [] [(2, .kv .str []), (3, .kv .i 5)] (Os := []) trivial hE hH (by kernel_rfl) (fun a hE => ?_)
    refine wpFrom_end (by kernel_rfl) ?_
    refine Exit.then_normal (hK4 _ _ ?_)
    refine wp_ret ?_
    refine Exit.then_ret ?_
    cases h
    exact ret2 rfl hE hle hH (by kernel_rfl)
  · replace h := ifF hc h
    refine wp_skip ?_
    refine Exit.then_normal (hK2 _ _ ?_)
    refine wp_seq_k (fun K hK5 => ?_)
    refine wp_region_from ?_
    obtain ⟨q6, h⟩ := gd h
    refine segO 6 [] [(4, .kv .str (p0.take (Int.toNat (IntKind.wrap .i64 ((p0.length : Int) - 4)))))] (Os := [_]) ⟨q6, trivial⟩ hE hH (by kernel_rfl) (fun a hE => ?_)
    refine wpFrom_end (by kernel_rfl) ?_
    refine Exit.then_normal (hK5 _ _ ?_)
    refine wp_seq_k (fun K hK7 => ?_)
    refine wp_seq_k (fun K hK8 => ?_)
    refine wp_region_from ?_
    refine segO 1 [] [(13, .kv .str (p0.take (Int.toNat (IntKind.wrap .i64 ((p0.length : Int) - 4)))))] (Os := []) trivial hE hH (by kernel_rfl) (fun a hE => ?_)
    obtain ⟨r9, hr9, h⟩ := bs h
    refine stepCall (d := (some 14)) (f92_ok hr9) hE hH hN (by kernel_rfl) (by kernel_rfl) trivial (fun a w G hl1 hE hH => ?_)
    have hle := Gh.le_trans hle hl1
    refine segO 2 [] [(16, .kv .bool (!(r9 == p0)))] (Os := []) trivial hE hH (by kernel_rfl) (fun a hE => ?_)
    refine wpFrom_end (by kernel_rfl) ?_
    refine Exit.then_normal (hK8 _ _ ?_)
    refine condE (b := !(r9 == p0)) hE (by kernel_rfl) (fun hc => ?_) (fun hc => ?_)
    · replace h := ifT hc h
      refine wp_seq_k (fun K hK10 => ?_)
      refine wp_region_from ?_
      refine segO 2 [] [(2, .kv .str []), (3, .kv .i 7)] (Os := []) trivial hE hH (by kernel_rfl) (fun a hE => ?_)
      refine wpFrom_end (by kernel_rfl) ?_
      refine Exit.then_normal (hK10 _ _ ?_)
      refine wp_ret ?_
      refine Exit.then_ret ?_
      cases h
      exact ret2 rfl hE hle hH (by kernel_rfl)
    · replace h := ifF hc h
      refine wp_skip ?_
      refine Exit.then_normal (hK7 _ _ ?_)
      refine wp_seq_k (fun K hK11 => ?_)
      refine wp_region_from ?_
      refine segO 3 [] [(2, .kv .str (p0.take (Int.toNat (IntKind.wrap .i64 ((p0.length : Int) - 4))))), (3, .kv .i 0)] (Os := []) trivial hE hH (by kernel_rfl) (fun a hE => ?_)
      refine wpFrom_end (by kernel_rfl) ?_
      refine Exit.then_normal (hK11 _ _ ?_)
      refine wp_ret ?_
      cases h
      exact ret2 rfl hE hle hH (by kernel_rfl)
end Go.Proofs.Ytlfemhkabjafeaa.M

/- Plain law: the reference's sums. -/
set_option linter.unusedVariables false
set_option linter.unusedSimpArgs false
namespace Go.Proofs.Ytlfemhkabjafeaa.M

theorem w32 (x : Int) : IntKind.wrap .u32 x = x % 4294967296 := by simp [IntKind.wrap, IntKind.bits, IntKind.signed]

/-- A register's range. -/
abbrev Rg (x : Int) : Prop := 0 ≤ x ∧ x < 4294967296

theorem rg_wrap (x : Int) : Rg (IntKind.wrap .u32 x) := by rw [w32]; omega

theorem and1 (n : Nat) (h : n < 4294967296) : (BitVec.ofInt (IntKind.bits .u32) (n : Int) &&& BitVec.ofInt (IntKind.bits .u32) 1).toNat = n % 2 := by
  have e1 : BitVec.ofInt (IntKind.bits .u32) (n : Int) = BitVec.ofNat 32 n := ofInt_nat 32 n
  have e2 : BitVec.ofInt (IntKind.bits .u32) 1 = BitVec.ofNat 32 1 := rfl
  rw [e1, e2]
  show (BitVec.ofNat 32 n &&& BitVec.ofNat 32 1).toNat = _
  rw [BitVec.toNat_and, BitVec.toNat_ofNat, BitVec.toNat_ofNat, Nat.mod_eq_of_lt (by omega), Nat.mod_eq_of_lt (by decide), Nat.and_one_is_mod]

/-- A bit shifted out. -/
def stR (x : Int) : Int := if x % 2 = 1 then IntKind.wrap .u32 ((BitVec.ofInt (IntKind.bits .u32) (x / 2) ^^^ BitVec.ofInt (IntKind.bits .u32) 2197175160).toNat) else x / 2

theorem stR_rg {x : Int} (h : Rg x) : Rg (stR x) := by
  unfold stR
  split
  · exact rg_wrap _
  · omega

theorem f152_eq {x : Int} (h : Rg x) : f152 x = some (stR x) := by
  unfold f152 stR
  have e1 : Int.tdiv x 2 = x / 2 := Int.tdiv_eq_ediv_of_nonneg h.1
  have e2 : Int.tmod x 2 = x % 2 := Int.tmod_eq_emod_of_nonneg h.1
  have e3 : IntKind.wrap .u32 (x / 2) = x / 2 := by rw [w32]; omega
  rw [e1, e2, e3]
  by_cases c : x % 2 = 1
  · rw [if_pos (by simpa using c), if_pos c]
  · rw [if_neg (by simpa using c), if_neg c]

theorem loops_eq : ∀ (k n : Nat) (x : Int), n + k = 8 → Rg x → ∃ y, Rg y ∧ f151_l0 x (n : Int) = some (y, 8) ∧ f139_l1 x (n : Int) = some (y, 8)
  | 0, n, x, h, hx => by
    rw [f151_l0, f139_l1]
    have : n = 8 := by omega
    subst this
    exact ⟨x, hx, by simp, by simp⟩
  | k + 1, n, x, h, hx => by
    rw [f151_l0, f139_l1]
    have hw : IntKind.wrap .i64 ((n : Int) + 1) = ((n + 1 : Nat) : Int) := by rw [wrap_id (by omega) (by omega)]; omega
    have h1 : ((n : Int) < 8) := by omega
    obtain ⟨m, rfl⟩ : ∃ m : Nat, x = (m : Int) := ⟨x.toNat, by omega⟩
    have e1 : IntKind.wrap .u32 (((BitVec.ofInt (IntKind.bits .u32) (m : Int) &&& BitVec.ofInt (IntKind.bits .u32) 1).toNat : Nat) : Int) = ((m % 2 : Nat) : Int) := by
      rw [and1 m (by omega), w32]; omega
    have e2 : Int.fdiv (m : Int) (2 ^ 1) = (m : Int) / 2 := by rw [Int.fdiv_eq_ediv_of_nonneg _ (by decide)]; rfl
    obtain ⟨y, h2, h3, h4⟩ := loops_eq k (n + 1) (stR (m : Int)) (by omega) (stR_rg hx)
    refine ⟨y, h2, ?_, ?_⟩
    · rw [e1, e2, hw]
      simp only [h1, decide_true, if_true]
      unfold stR at h3
      by_cases c : (m : Int) % 2 = 1
      · rw [if_pos c] at h3
        rw [if_pos (by simp; omega)]; exact h3
      · rw [if_neg c] at h3
        rw [if_neg (by simp; omega)]; exact h3
    · rw [hw]
      simp only [h1, decide_true, if_true, f152_eq hx, Option.bind_eq_bind, Option.bind_some]
      exact h4

theorem walk_eq (s : List UInt8) (hs : s.length < 9223372036854775808) : ∀ (k n : Nat) (x : Int), n + k = s.length → Rg x → ∃ y, Rg y.1 ∧ f138_l0 s x (n : Int) = some y ∧ f139_l0 s x (n : Int) = some y
  | 0, n, x, h, hx => by
    rw [f138_l0, f139_l0]
    have : n = s.length := by omega
    subst this
    exact ⟨(x, (s.length : Int)), hx, by simp, by simp⟩
  | k + 1, n, x, h, hx => by
    rw [f138_l0, f139_l0]
    have hn : n < s.length := by omega
    have hw : IntKind.wrap .i64 ((n : Int) + 1) = ((n + 1 : Nat) : Int) := by rw [wrap_id (by omega) (by omega)]; omega
    have h1 : ((n : Int) < (s.length : Int)) := by omega
    have h0 : (0 : Int) ≤ (n : Int) := by omega
    obtain ⟨z, hz, h3, h4⟩ := loops_eq 8 0 (IntKind.wrap .u32 ((BitVec.ofInt (IntKind.bits .u32) x ^^^ BitVec.ofInt (IntKind.bits .u32) (IntKind.wrap .u32 (btS s (n : Int)))).toNat)) (by omega) (rg_wrap _)
    rw [show (((0 : Nat) : Int)) = (0 : Int) from rfl] at h3 h4
    obtain ⟨y, h5, h6, h7⟩ := walk_eq s hs k (n + 1) z (by omega) hz
    have e1 : f151 x (btS s (n : Int)) = some z := by unfold f151; rw [h3]; rfl
    refine ⟨y, h5, ?_, ?_⟩
    · simp only [h1, h0, decide_true, if_true, and_self, e1, Option.bind_eq_bind, Option.bind_some, hw, h6]
    · simp only [h1, h0, decide_true, if_true, and_self, h4, Option.bind_eq_bind, Option.bind_some, hw, h7]

theorem rg_crc {s : List UInt8} (hs : s.length < 9223372036854775808) : f112 s = some (crc s) ∧ Rg (crc s) := by
  have e0 : IntKind.wrap .u32 ((BitVec.ofInt (IntKind.bits .u32) (if IntKind.signed .u32 = true then -1 else IntKind.max .u32) ^^^ BitVec.ofInt (IntKind.bits .u32) 0).toNat) = 4294967295 := by decide
  have e1 : (if IntKind.signed .u32 = true then (-1 : Int) else IntKind.max .u32) = 4294967295 := by decide
  obtain ⟨y, h1, h2, h3⟩ := walk_eq s hs s.length 0 4294967295 (by omega) (by omega)
  rw [show (((0 : Nat) : Int)) = (0 : Int) from rfl] at h2 h3
  have h4 : f111 s = some (IntKind.wrap .u32 ((BitVec.ofInt (IntKind.bits .u32) 4294967295 ^^^ BitVec.ofInt (IntKind.bits .u32) y.1).toNat)) := by
    unfold f111 f138
    rw [e0, h2, e1]; rfl
  have h5 : crc s = IntKind.wrap .u32 ((BitVec.ofInt (IntKind.bits .u32) 4294967295 ^^^ BitVec.ofInt (IntKind.bits .u32) y.1).toNat) := by
    unfold crc; rw [h4]; rfl
  refine ⟨?_, by rw [h5]; exact rg_wrap _⟩
  unfold f112 f139
  rw [h3, h5, BitVec.xor_comm]
  rfl

/-! ### Sealed -/
theorem bytesS_nums8 (s : List UInt8) : bytesS (nums8 s) = s := by
  unfold bytesS nums8
  rw [List.map_map]
  conv => rhs; rw [← List.map_id s]
  apply List.map_congr_left
  intro c _
  simp

theorem bytesS_app (a b : List Int) : bytesS (a ++ b) = bytesS a ++ bytesS b := by unfold bytesS; rw [List.map_append]

theorem f92_eq {s : List UInt8} (hs : s.length + 4 < 100000000) : f92 s = some (sealS s) := by
  obtain ⟨h1, h2, h3⟩ := rg_crc (s := s) (by omega)
  have hn : (nums8 s).length = s.length := by unfold nums8; simp
  have st : ∀ (l : List Int) (x : Int) (n : Nat), n < 4 → l.length ≤ 100000000 → Rg x → f92_l0 l x (n : Int) = f92_l0 (l ++ [IntKind.wrap .u8 x]) (x / 256) ((n + 1 : Nat) : Int) := by
    intro l x n hn hl hx
    rw [f92_l0]
    have hw : IntKind.wrap .i64 ((n : Int) + 1) = ((n + 1 : Nat) : Int) := by rw [wrap_id (by omega) (by omega)]; omega
    have c : ((n : Int) < 4) := by omega
    have e1 : Int.tdiv x 256 = x / 256 := Int.tdiv_eq_ediv_of_nonneg hx.1
    have e2 : Int.tmod x 256 = x % 256 := Int.tmod_eq_emod_of_nonneg hx.1
    have e3 : IntKind.wrap .u32 (x / 256) = x / 256 := by rw [w32]; omega
    have e4 : IntKind.wrap .u8 (x % 256) = IntKind.wrap .u8 x := by rw [w8, w8]; omega
    simp only [c, decide_true, if_true]
    rw [if_pos (by omega), e1, e2, e3, e4, hw]
  have g : ∀ (y : Int) (k : Nat), 0 ≤ y → Int.fdiv y (2 ^ k) = y / (2 ^ k) := fun y k hy => Int.fdiv_eq_ediv_of_nonneg _ (by have : (0 : Int) < 2 ^ k := Int.pow_pos (by decide); omega)
  unfold f92
  rw [h1]
  simp only [Option.bind_eq_bind, Option.bind_some]
  rw [if_pos (by omega)]
  have hl : ∀ (l : List Int) (n : Nat), l.length = s.length + n → n ≤ 4 → l.length ≤ 100000000 := fun l n h1 h2 => by omega
  rw [show (0 : Int) = ((0 : Nat) : Int) from rfl, st _ _ 0 (by omega) (hl _ 0 (by omega) (by omega)) ⟨h2, h3⟩,
    st _ _ 1 (by omega) (hl _ 1 (by simp [hn]) (by omega)) (by omega), st _ _ 2 (by omega) (hl _ 2 (by simp [hn]) (by omega)) (by omega), st _ _ 3 (by omega) (hl _ 3 (by simp [hn]) (by omega)) (by omega), f92_l0]
  rw [if_neg (by decide)]
  simp only [Option.bind_some]
  unfold sealS sum4
  rw [g _ 8 h2, g _ 16 h2, g _ 24 h2]
  have a1 : crc s / 256 / 256 = crc s / 2 ^ 16 := by omega
  have a2 : crc s / 256 / 256 / 256 = crc s / 2 ^ 24 := by omega
  have a0 : crc s / 256 = crc s / 2 ^ 8 := rfl
  rw [a2, a1, a0]
  rw [bytesS_app, bytesS_app, bytesS_app, bytesS_app, bytesS_nums8]
  simp only [bytesS, List.map_cons, List.map_nil, List.append_assoc, List.singleton_append, List.cons_append, List.nil_append]

/-- What the reference opens. -/
theorem f44_eq {s : List UInt8} (hs : s.length < 100000000) : (∃ t, openS s = some t ∧ f44 s = some (t, 0)) ∨ (openS s = none ∧ ∃ e : Int, e ≠ 0 ∧ f44 s = some ([], e)) := by
  unfold f44
  have hw : IntKind.wrap .i64 ((s.length : Int) - 4) = (s.length : Int) - 4 := wrap_id (by omega) (by omega)
  rw [hw]
  by_cases c : s.length < 4
  · refine .inr ⟨?_, 5, by decide, by rw [if_pos (by simp; omega)]⟩
    unfold openS
    rw [if_neg (by omega)]
  have e1 : Int.toNat ((s.length : Int) - 4) = s.length - 4 := by omega
  have hg : (0 : Int) ≤ (s.length : Int) - 4 ∧ (s.length : Int) - 4 ≤ (s.length : Int) := by omega
  have hl : (s.take (s.length - 4)).length + 4 < 100000000 := by rw [List.length_take]; omega
  rw [if_neg (by simp; omega), if_pos hg, e1, f92_eq hl]
  simp only [Option.bind_eq_bind, Option.bind_some]
  unfold openS sealS
  by_cases c2 : sum4 (s.take (s.length - 4)) = s.drop (s.length - 4)
  · refine .inl ⟨s.take (s.length - 4), ?_, ?_⟩
    · rw [if_pos ⟨by omega, c2⟩]
    · rw [c2, List.take_append_drop, if_neg (by simp)]
  · refine .inr ⟨?_, 7, by decide, ?_⟩
    · rw [if_neg (fun h => c2 h.2)]
    · rw [if_pos]
      simp only [Bool.not_eq_true', beq_eq_false_iff_ne, ne_eq]
      intro h
      apply c2
      have h' : s.take (s.length - 4) ++ sum4 (s.take (s.length - 4)) = s.take (s.length - 4) ++ s.drop (s.length - 4) := by rw [List.take_append_drop]; exact h
      exact List.append_cancel_left h'
end Go.Proofs.Ytlfemhkabjafeaa.M
