/- Own texts, laid together: S2 XA B22 S9 U20 U21 WA WE B23 B24 U87 B25 B26 B27. -/
import Derived.KernelRfl
import Derived.Scope
import Derived.Shelf.Slices.In.SortNone
import Derived.Shelf.Sort.Plain
import Derived.Sort.KeysCollected
import Derived.Sort.OwnSortedInts
import Derived.Test.YtlfemhkabjafeaaProg
import Derived.Test.YtlfemhkabjafeaaZ1
import Derived.Test.YtlfemhkabjafeaaZ2
/- Printed by own program: twins and walks. -/
set_option linter.unusedVariables false
set_option maxRecDepth 100000
namespace Go.Proofs.Ytlfemhkabjafeaa.M
open Go.Proofs (Try.prog Try.func42 Try.f42 Try.func110 Try.f110 Try.func151 Try.f151 Try.func138 Try.f138 Try.func111 Try.f111 Try.func89 Try.f89 Try.func108 Try.f108)

def f42_l0 (p0 : List Int) (p1 : List Int) (x7 : Int) : Option (Sum Int Bool) :=
  if (decide (x7 < (p0.length : Int))) = true then
  (ix p0 x7) >>= fun x16 =>
  (ix p1 x7) >>= fun x17 =>
  if (x16 != x17) = true then
  some (.inr false)
  else
  f42_l0 p0 p1 (IntKind.wrap .i64 (x7 + 1))
  else
  some (.inl x7)
  partial_fixpoint

def f42 (p0 : List Int) (p1 : List Int) : Option Bool :=
  if ((p0.length : Int) != (p1.length : Int)) = true then
  some false
  else
  f42_l0 p0 p1 0 >>= fun rr20 => (match rr20 with
  | .inr yy => some yy
  | .inl z19 =>
  some true)

theorem f42_ok {p0 : List Int} {p1 : List Int} {σ : St} {p : Bool} (h : f42 p0 p1 = some p) : Spec Try.prog 42 [.kv (.list .i) p0, .kv (.list .i) p1] (tabs σ) (.kv .bool p) (tabs σ) := by
  refine Spec.intro Try.func42 (by kernel_rfl) rfl (by kernel_rfl) (fun a w G0 Ls hE hH hN => ?_)
  have hle : G0.le G0 := Gh.le_refl G0
  unfold f42 at h
  refine wp_seq_k (fun K hK1 => ?_)
  refine wp_region_from ?_
  refine segO 1 [] [(4, .kv .bool false)] (Os := []) trivial hE hH (by kernel_rfl) (fun a hE => ?_)
  refine wpFrom_end (by kernel_rfl) ?_
  refine Exit.then_normal (hK1 _ _ ?_)
  refine wp_seq_k (fun K hK2 => ?_)
  refine wp_seq_k (fun K hK3 => ?_)
  refine wp_region_from ?_
  refine segO 5 [] [(10, .kv .bool ((p0.length : Int) != (p1.length : Int)))] (Os := []) trivial hE hH (by kernel_rfl) (fun a hE => ?_)
  refine wpFrom_end (by kernel_rfl) ?_
  refine Exit.then_normal (hK3 _ _ ?_)
  refine condE (b := (p0.length : Int) != (p1.length : Int)) hE (by kernel_rfl) (fun hc => ?_) (fun hc => ?_)
  · replace h := ifT hc h
    refine wp_seq_k (fun K hK4 => ?_)
    refine wp_region_from ?_
    refine segO 1 [] [(4, .kv .bool false)] (Os := []) trivial hE hH (by kernel_rfl) (fun a hE => ?_)
    refine wpFrom_end (by kernel_rfl) ?_
    refine Exit.then_normal (hK4 _ _ ?_)
    refine wp_ret ?_
    refine Exit.then_ret ?_
    cases h
    exact ret1 rfl hE hle hH (by kernel_rfl)
  · replace h := ifF hc h
    refine wp_skip ?_
    refine Exit.then_normal (hK2 _ _ ?_)
    refine wp_seq_k (fun K hK5 => ?_)
    refine wp_seq_k (fun K hK6 => ?_)
    refine wp_region_from ?_
    refine segO 1 [] [(5, .kv .i 0)] (Os := []) trivial hE hH (by kernel_rfl) (fun a hE => ?_)
    refine wpFrom_end (by kernel_rfl) ?_
    refine Exit.then_normal (hK6 _ _ ?_)
    refine wp_block ?_
    obtain ⟨rr20, hrr20, h⟩ := bs h
    refine loop_intro (fun Q8 c hQ hc => ?_)
    have key : ∀ (x7 : Int) (rr : Sum Int Bool), f42_l0 p0 p1 x7 = some rr → ∀ (a : Act) (w : World) (G : Gh), G0.le G → EnvR G 26 a [(0, .kv (.list .i) p0), (1, .kv (.list .i) p1), (4, .kv .bool false), (5, .kv .i x7)] → Holds w G (tabs σ) (Ls) → (∀ z19 : Int, rr = .inl z19 → ∀ (a : Act) (w : World) (G : Gh), G0.le G → EnvR G 26 a [(0, .kv (.list .i) p0), (1, .kv (.list .i) p1), (4, .kv .bool false), (5, .kv .i z19)] → Holds w G (tabs σ) (Ls) → Q8 (.exit 0) a w) → (∀ yy : Bool, rr = .inr yy → ∀ (a : Act) (w : World), PostB Try.prog Try.f42 G0 (.kv .bool yy) (tabs σ) Ls .ret a w → Q8 .ret a w) → Rnd Try.prog c Q8 a w := by
      refine f42_l0.partial_correctness p0 p1 _ ?_
      intro self ih11 x7 rr h a w G  hle hE hH hx9 hret10
      refine rnd_step' hc ?_
      refine wp_seq_k (fun K hK12 => ?_)
      refine wp_seq_k (fun K hK13 => ?_)
      refine wp_region_from ?_
      refine segO 4 [] [(14, .kv .bool (decide (x7 < (p0.length : Int))))] (Os := []) trivial hE hH (by kernel_rfl) (fun a hE => ?_)
      refine wpFrom_end (by kernel_rfl) ?_
      refine Exit.then_normal (hK13 _ _ ?_)
      refine condE (b := decide (x7 < (p0.length : Int))) hE (by kernel_rfl) (fun hc => ?_) (fun hc => ?_)
      · replace h := ifT hc h
        refine wp_skip ?_
        refine Exit.then_normal (hK12 _ _ ?_)
        refine wp_seq_k (fun K hK14 => ?_)
        refine wp_block ?_
        refine wp_seq_k (fun K hK15 => ?_)
        obtain ⟨x16, hx16, h⟩ := bs h
        obtain ⟨x17, hx17, h⟩ := bs h
        refine region_par 8 [] [(0, 0), (0, 0), (0, 0), (0, 0), (0, 0), (0, 0), (0, 0), (0, 0)] [.kv (.list .i) p0, .kv .i x7, .elA .i x16 0, .kv .i x16, .kv (.list .i) p1, .kv .i x7, .elA .i x17 0, .kv .i x17] (fun _ => tabs σ) (fun _ => Ls) (by kernel_rfl) (by kernel_rfl) hE hH
                ⟨⟨⟨⟨⟨⟨⟨⟨trivial,
                anyk (fun k => obR [] (Os := []) trivial (by kernel_rfl) (by kernel_rfl))⟩,
                anyk (fun k => obR [] (Os := []) trivial (by kernel_rfl) (by kernel_rfl))⟩,
                anyk (fun k => obR [.ix .i x16] (Os := [_]) ⟨(IxAt.of (k := .i) hx16), trivial⟩ (by kernel_rfl) (by kernel_rfl))⟩,
                anyk (fun k => obR [] (Os := []) trivial (by kernel_rfl) (by kernel_rfl))⟩,
                anyk (fun k => obR [] (Os := []) trivial (by kernel_rfl) (by kernel_rfl))⟩,
                anyk (fun k => obR [] (Os := []) trivial (by kernel_rfl) (by kernel_rfl))⟩,
                anyk (fun k => obR [.ix .i x17] (Os := [_]) ⟨(IxAt.of (k := .i) hx17), trivial⟩ (by kernel_rfl) (by kernel_rfl))⟩,
                anyk (fun k => obR [] (Os := []) trivial (by kernel_rfl) (by kernel_rfl))⟩ (fun a w G hl1 hE hH => ?_)
        have hle := Gh.le_trans hle hl1
        refine segO 1 [] [(25, .kv .bool (x16 != x17))] (Os := []) trivial hE hH (by kernel_rfl) (fun a hE => ?_)
        refine wpFrom_end (by kernel_rfl) ?_
        refine Exit.then_normal (hK15 _ _ ?_)
        refine condE (b := x16 != x17) hE (by kernel_rfl) (fun hc => ?_) (fun hc => ?_)
        · replace h := ifT hc h
          refine wp_seq_k (fun K hK18 => ?_)
          refine wp_region_from ?_
          refine segO 1 [] [(4, .kv .bool false)] (Os := []) trivial hE hH (by kernel_rfl) (fun a hE => ?_)
          refine wpFrom_end (by kernel_rfl) ?_
          refine Exit.then_normal (hK18 _ _ ?_)
          refine wp_ret ?_
          refine Exit.in_ret ?_
          refine Exit.then_ret ?_
          refine Exit.then_ret ?_
          cases h
          exact hret10 _ rfl _ _ (ret1 rfl hE hle hH (by kernel_rfl))
        · replace h := ifF hc h
          refine wp_skip ?_
          refine Exit.in_normal ?_
          refine Exit.then_normal (hK14 _ _ ?_)
          refine wp_region_from ?_
          refine segO 3 [] [(5, .kv .i (IntKind.wrap .i64 (x7 + 1)))] (Os := []) trivial hE hH (by kernel_rfl) (fun a hE => ?_)
          refine wpFrom_end (by kernel_rfl) ?_
          refine Exit.then_normal ?_
          exact ih11 _ _ h _ _ _  hle (hE.subC (by kernel_rfl)) hH hx9 hret10
      · replace h := ifF hc h
        refine wp_exit ?_
        refine Exit.then_exit ?_
        refine Exit.then_exit ?_
        cases h
        exact hx9 _ rfl _ _ _  hle (hE.subC (by kernel_rfl)) hH
    refine key _ _ hrr20 _ _ _  hle (hE.subC (by kernel_rfl)) hH ?_ ?_
    · intro z19 hz a w G  hle hE hH
      subst hz
      rw [hQ]
      dsimp only at h
      refine Exit.in_eq ?_
      refine Exit.then_normal (hK5 _ _ ?_)
      refine wp_seq_k (fun K hK21 => ?_)
      refine wp_region_from ?_
      refine segO 1 [] [(4, .kv .bool true)] (Os := []) trivial hE hH (by kernel_rfl) (fun a hE => ?_)
      refine wpFrom_end (by kernel_rfl) ?_
      refine Exit.then_normal (hK21 _ _ ?_)
      refine wp_ret ?_
      cases h
      exact ret1 rfl hE hle hH (by kernel_rfl)
    · intro yy hz a w hp
      subst hz
      dsimp only at h
      cases h
      rw [hQ]
      refine Exit.in_ret ?_
      refine Exit.then_ret ?_
      exact hp

def f110 (p0 : Int) : Option (List UInt8) :=
  some (bytesS [IntKind.wrap .u8 (p0), IntKind.wrap .u8 (Int.fdiv p0 (2 ^ 8)), IntKind.wrap .u8 (Int.fdiv p0 (2 ^ 16)), IntKind.wrap .u8 (Int.fdiv p0 (2 ^ 24))])

theorem f110_ok {p0 : Int} {σ : St} {p : List UInt8} (h : f110 p0 = some p) : Spec Try.prog 110 [.kv (.int .u32) p0] (tabs σ) (.kv .str p) (tabs σ) := by
  refine Spec.intro Try.func110 (by kernel_rfl) rfl (by kernel_rfl) (fun a w G0 Ls hE hH hN => ?_)
  have hle : G0.le G0 := Gh.le_refl G0
  unfold f110 at h
  refine wp_seq_k (fun K hK1 => ?_)
  refine wp_region_from ?_
  refine segO 1 [] [(2, .kv .str [])] (Os := []) trivial hE hH (by kernel_rfl) (fun a hE => ?_)
  refine wpFrom_end (by kernel_rfl) ?_
  refine Exit.then_normal (hK1 _ _ ?_)
  refine wp_seq_k (fun K hK2 => ?_)
  refine wp_region_from ?_
  refine segO 11 [] [(4, .kv (.int .u8) (IntKind.wrap .u8 (p0))), (7, .kv (.int .u8) (IntKind.wrap .u8 (Int.fdiv p0 (2 ^ 8)))), (10, .kv (.int .u8) (IntKind.wrap .u8 (Int.fdiv p0 (2 ^ 16)))), (13, .kv (.int .u8) (IntKind.wrap .u8 (Int.fdiv p0 (2 ^ 24))))] (Os := [_, _, _]) ⟨(by decide : (0 : Int) ≤ 8), (by decide : (0 : Int) ≤ 16), (by decide : (0 : Int) ≤ 24), trivial⟩ hE hH (by kernel_rfl) (fun a hE => ?_)
  refine stepBuildS (d := (some 14)) (.int .u8) [IntKind.wrap .u8 (p0), IntKind.wrap .u8 (Int.fdiv p0 (2 ^ 8)), IntKind.wrap .u8 (Int.fdiv p0 (2 ^ 16)), IntKind.wrap .u8 (Int.fdiv p0 (2 ^ 24))] hE hH (by kernel_rfl) (by kernel_rfl) (fun a w G hl1 hE hH => ?_)
  have hle := Gh.le_trans hle hl1
  refine segO 2 [] [(2, .kv .str (bytesS [IntKind.wrap .u8 (p0), IntKind.wrap .u8 (Int.fdiv p0 (2 ^ 8)), IntKind.wrap .u8 (Int.fdiv p0 (2 ^ 16)), IntKind.wrap .u8 (Int.fdiv p0 (2 ^ 24))]))] (Os := []) trivial hE hH (by kernel_rfl) (fun a hE => ?_)
  refine wpFrom_end (by kernel_rfl) ?_
  refine Exit.then_normal (hK2 _ _ ?_)
  refine wp_ret ?_
  cases h
  exact ret1 rfl hE hle hH (by kernel_rfl)

def f151_l0  (x5 : Int) (x6 : Int) : Option (Int × Int) :=
  if (decide (x6 < 8)) = true then
  if ((IntKind.wrap .u32 ((BitVec.ofInt (IntKind.bits .u32) x5 &&& BitVec.ofInt (IntKind.bits .u32) 1).toNat)) == 1) = true then
  f151_l0 (IntKind.wrap .u32 ((BitVec.ofInt (IntKind.bits .u32) (Int.fdiv x5 (2 ^ 1)) ^^^ BitVec.ofInt (IntKind.bits .u32) 2197175160).toNat)) (IntKind.wrap .i64 (x6 + 1))
  else
  f151_l0 (Int.fdiv x5 (2 ^ 1)) (IntKind.wrap .i64 (x6 + 1))
  else
  some ((x5, x6))
  partial_fixpoint

def f151 (p0 : Int) (p1 : Int) : Option Int :=
  f151_l0  (IntKind.wrap .u32 ((BitVec.ofInt (IntKind.bits .u32) p0 ^^^ BitVec.ofInt (IntKind.bits .u32) (IntKind.wrap .u32 (p1))).toNat)) 0 >>= fun z17 =>
  some z17.1

theorem f151_ok {p0 : Int} {p1 : Int} {σ : St} {p : Int} (h : f151 p0 p1 = some p) : Spec Try.prog 151 [.kv (.int .u32) p0, .kv (.int .u8) p1] (tabs σ) (.kv (.int .u32) p) (tabs σ) := by
  refine Spec.intro Try.func151 (by kernel_rfl) rfl (by kernel_rfl) (fun a w G0 Ls hE hH hN => ?_)
  have hle : G0.le G0 := Gh.le_refl G0
  unfold f151 at h
  refine wp_seq_k (fun K hK1 => ?_)
  refine wp_region_from ?_
  refine segO 1 [] [(4, .kv (.int .u32) 0)] (Os := []) trivial hE hH (by kernel_rfl) (fun a hE => ?_)
  refine wpFrom_end (by kernel_rfl) ?_
  refine Exit.then_normal (hK1 _ _ ?_)
  refine wp_seq_k (fun K hK2 => ?_)
  refine wp_region_from ?_
  refine segO 5 [] [(0, .kv (.int .u32) (IntKind.wrap .u32 ((BitVec.ofInt (IntKind.bits .u32) p0 ^^^ BitVec.ofInt (IntKind.bits .u32) (IntKind.wrap .u32 (p1))).toNat)))] (Os := []) trivial hE hH (by kernel_rfl) (fun a hE => ?_)
  refine wpFrom_end (by kernel_rfl) ?_
  refine Exit.then_normal (hK2 _ _ ?_)
  refine wp_seq_k (fun K hK3 => ?_)
  refine wp_seq_k (fun K hK4 => ?_)
  refine wp_region_from ?_
  refine segO 1 [] [(10, .kv .i 0)] (Os := []) trivial hE hH (by kernel_rfl) (fun a hE => ?_)
  refine wpFrom_end (by kernel_rfl) ?_
  refine Exit.then_normal (hK4 _ _ ?_)
  refine wp_block ?_
  obtain ⟨z17, hz17, h⟩ := bs h
  refine loop_intro (fun Q7 c hQ hc => ?_)
  have key : ∀ (x5 : Int) (x6 : Int) (rr : Int × Int), f151_l0  x5 x6 = some rr → ∀ (a : Act) (w : World) (G : Gh), G0.le G → EnvR G 22 a [(0, .kv (.int .u32) x5), (4, .kv (.int .u32) 0), (10, .kv .i x6)] → Holds w G (tabs σ) (Ls) → (∀ z18 : Int × Int, rr = z18 → ∀ (a : Act) (w : World) (G : Gh), G0.le G → EnvR G 22 a [(0, .kv (.int .u32) z18.1), (4, .kv (.int .u32) 0), (10, .kv .i z18.2)] → Holds w G (tabs σ) (Ls) → Q7 (.exit 0) a w) → Rnd Try.prog c Q7 a w := by
    refine f151_l0.partial_correctness  _ ?_
    intro self ih10 x5 x6 rr h a w G  hle hE hH hx8
    refine rnd_step' hc ?_
    refine wp_seq_k (fun K hK11 => ?_)
    refine wp_region_from ?_
    refine segO 1 [] [(11, .kv .bool (decide (x6 < 8)))] (Os := []) trivial hE hH (by kernel_rfl) (fun a hE => ?_)
    refine wpFrom_end (by kernel_rfl) ?_
    refine Exit.then_normal (hK11 _ _ ?_)
    refine wp_seq_k (fun K hK12 => ?_)
    refine condE (b := decide (x6 < 8)) hE (by kernel_rfl) (fun hc => ?_) (fun hc => ?_)
    · replace h := ifT hc h
      refine wp_skip ?_
      refine Exit.then_normal (hK12 _ _ ?_)
      refine wp_seq_k (fun K hK13 => ?_)
      refine wp_block ?_
      refine wp_seq_k (fun K hK14 => ?_)
      refine wp_region_from ?_
      refine segO 3 [] [(5, .kv (.int .u32) (IntKind.wrap .u32 ((BitVec.ofInt (IntKind.bits .u32) x5 &&& BitVec.ofInt (IntKind.bits .u32) 1).toNat)))] (Os := []) trivial hE hH (by kernel_rfl) (fun a hE => ?_)
      refine wpFrom_end (by kernel_rfl) ?_
      refine Exit.then_normal (hK14 _ _ ?_)
      refine wp_seq_k (fun K hK15 => ?_)
      refine wp_region_from ?_
      refine segO 3 [] [(0, .kv (.int .u32) (Int.fdiv x5 (2 ^ 1)))] (Os := [_]) ⟨(by decide : (0 : Int) ≤ 1), trivial⟩ hE hH (by kernel_rfl) (fun a hE => ?_)
      refine wpFrom_end (by kernel_rfl) ?_
      refine Exit.then_normal (hK15 _ _ ?_)
      refine wp_seq_k (fun K hK16 => ?_)
      refine wp_region_from ?_
      refine segO 2 [] [(17, .kv .bool ((IntKind.wrap .u32 ((BitVec.ofInt (IntKind.bits .u32) x5 &&& BitVec.ofInt (IntKind.bits .u32) 1).toNat)) == 1))] (Os := []) trivial hE hH (by kernel_rfl) (fun a hE => ?_)
      refine wpFrom_end (by kernel_rfl) ?_
      refine Exit.then_normal (hK16 _ _ ?_)
      refine condE (b := (IntKind.wrap .u32 ((BitVec.ofInt (IntKind.bits .u32) x5 &&& BitVec.ofInt (IntKind.bits .u32) 1).toNat)) == 1) hE (by kernel_rfl) (fun hc => ?_) (fun hc => ?_)
      · replace h := ifT hc h
        refine wp_region_from ?_
        refine segO 3 [] [(0, .kv (.int .u32) (IntKind.wrap .u32 ((BitVec.ofInt (IntKind.bits .u32) (Int.fdiv x5 (2 ^ 1)) ^^^ BitVec.ofInt (IntKind.bits .u32) 2197175160).toNat)))] (Os := []) trivial hE hH (by kernel_rfl) (fun a hE => ?_)
        refine wpFrom_end (by kernel_rfl) ?_
        refine Exit.in_normal ?_
        refine Exit.then_normal (hK13 _ _ ?_)
        refine wp_region_from ?_
        refine segO 2 [] [(10, .kv .i (IntKind.wrap .i64 (x6 + 1)))] (Os := []) trivial hE hH (by kernel_rfl) (fun a hE => ?_)
        refine wpFrom_end (by kernel_rfl) ?_
        refine Exit.then_normal ?_
        exact ih10 _ _ _ h _ _ _  hle (hE.subC (by kernel_rfl)) hH hx8
      · replace h := ifF hc h
        refine wp_skip ?_
        refine Exit.in_normal ?_
        refine Exit.then_normal (hK13 _ _ ?_)
        refine wp_region_from ?_
        refine segO 2 [] [(10, .kv .i (IntKind.wrap .i64 (x6 + 1)))] (Os := []) trivial hE hH (by kernel_rfl) (fun a hE => ?_)
        refine wpFrom_end (by kernel_rfl) ?_
        refine Exit.then_normal ?_
        exact ih10 _ _ _ h _ _ _  hle (hE.subC (by kernel_rfl)) hH hx8
    · replace h := ifF hc h
      refine wp_exit ?_
      refine Exit.then_exit ?_
      refine Exit.then_exit ?_
      cases h
      exact hx8 _ rfl _ _ _  hle (hE.subC (by kernel_rfl)) hH
  refine key _ _ _ hz17 _ _ _  hle (hE.subC (by kernel_rfl)) hH ?_
  · intro z18 hz a w G  hle hE hH
    subst hz
    rw [hQ]
    refine Exit.in_eq ?_
    refine Exit.then_normal (hK3 _ _ ?_)
    refine wp_seq_k (fun K hK19 => ?_)
    refine wp_region_from ?_
    refine segO 2 [] [(4, .kv (.int .u32) z17.1)] (Os := []) trivial hE hH (by kernel_rfl) (fun a hE => ?_)
    refine wpFrom_end (by kernel_rfl) ?_
    refine Exit.then_normal (hK19 _ _ ?_)
    refine wp_ret ?_
    cases h
    exact ret1 rfl hE hle hH (by kernel_rfl)

def f138_l0 (p1 : List UInt8) (x5 : Int) (x6 : Int) : Option (Int × Int) :=
  if (decide (x6 < (p1.length : Int))) = true then
  if (0 : Int) ≤ x6 ∧ x6 < (p1.length : Int) then
  f151 x5 (btS p1 x6) >>= fun r16 =>
  f138_l0 p1 r16 (IntKind.wrap .i64 (x6 + 1))
  else none
  else
  some ((x5, x6))
  partial_fixpoint

def f138 (p0 : Int) (p1 : List UInt8) : Option Int :=
  f138_l0 p1 (IntKind.wrap .u32 ((BitVec.ofInt (IntKind.bits .u32) (if IntKind.signed .u32 = true then -1 else IntKind.max .u32) ^^^ BitVec.ofInt (IntKind.bits .u32) p0).toNat)) 0 >>= fun z17 =>
  some (IntKind.wrap .u32 ((BitVec.ofInt (IntKind.bits .u32) (if IntKind.signed .u32 = true then -1 else IntKind.max .u32) ^^^ BitVec.ofInt (IntKind.bits .u32) z17.1).toNat))

theorem f138_ok {p0 : Int} {p1 : List UInt8} {σ : St} {p : Int} (h : f138 p0 p1 = some p) : Spec Try.prog 138 [.kv (.int .u32) p0, .kv .str p1] (tabs σ) (.kv (.int .u32) p) (tabs σ) := by
  refine Spec.intro Try.func138 (by kernel_rfl) rfl (by kernel_rfl) (fun a w G0 Ls hE hH hN => ?_)
  have hle : G0.le G0 := Gh.le_refl G0
  unfold f138 at h
  refine wp_seq_k (fun K hK1 => ?_)
  refine wp_region_from ?_
  refine segO 1 [] [(4, .kv (.int .u32) 0)] (Os := []) trivial hE hH (by kernel_rfl) (fun a hE => ?_)
  refine wpFrom_end (by kernel_rfl) ?_
  refine Exit.then_normal (hK1 _ _ ?_)
  refine wp_seq_k (fun K hK2 => ?_)
  refine wp_region_from ?_
  refine segO 3 [] [(5, .kv (.int .u32) (IntKind.wrap .u32 ((BitVec.ofInt (IntKind.bits .u32) (if IntKind.signed .u32 = true then -1 else IntKind.max .u32) ^^^ BitVec.ofInt (IntKind.bits .u32) p0).toNat)))] (Os := []) trivial hE hH (by kernel_rfl) (fun a hE => ?_)
  refine wpFrom_end (by kernel_rfl) ?_
  refine Exit.then_normal (hK2 _ _ ?_)
  refine wp_seq_k (fun K hK3 => ?_)
  refine wp_seq_k (fun K hK4 => ?_)
  refine wp_region_from ?_
  refine segO 3 [] [(10, .kv .i (p1.length : Int)), (11, .kv .i 0)] (Os := []) trivial hE hH (by kernel_rfl) (fun a hE => ?_)
  refine wpFrom_end (by kernel_rfl) ?_
  refine Exit.then_normal (hK4 _ _ ?_)
  refine wp_block ?_
  obtain ⟨z17, hz17, h⟩ := bs h
  refine loop_intro (fun Q7 c hQ hc => ?_)
  have key : ∀ (x5 : Int) (x6 : Int) (rr : Int × Int), f138_l0 p1 x5 x6 = some rr → ∀ (a : Act) (w : World) (G : Gh), G0.le G → EnvR G 22 a [(1, .kv .str p1), (4, .kv (.int .u32) 0), (5, .kv (.int .u32) x5), (10, .kv .i (p1.length : Int)), (11, .kv .i x6)] → Holds w G (tabs σ) (Ls) → (∀ z18 : Int × Int, rr = z18 → ∀ (a : Act) (w : World) (G : Gh), G0.le G → EnvR G 22 a [(1, .kv .str p1), (4, .kv (.int .u32) 0), (5, .kv (.int .u32) z18.1), (10, .kv .i (p1.length : Int)), (11, .kv .i z18.2)] → Holds w G (tabs σ) (Ls) → Q7 (.exit 0) a w) → Rnd Try.prog c Q7 a w := by
    refine f138_l0.partial_correctness p1 _ ?_
    intro self ih10 x5 x6 rr h a w G  hle hE hH hx8
    refine rnd_step' hc ?_
    refine wp_seq_k (fun K hK11 => ?_)
    refine wp_region_from ?_
    refine segO 1 [] [(12, .kv .bool (decide (x6 < (p1.length : Int))))] (Os := []) trivial hE hH (by kernel_rfl) (fun a hE => ?_)
    refine wpFrom_end (by kernel_rfl) ?_
    refine Exit.then_normal (hK11 _ _ ?_)
    refine wp_seq_k (fun K hK12 => ?_)
    refine condE (b := decide (x6 < (p1.length : Int))) hE (by kernel_rfl) (fun hc => ?_) (fun hc => ?_)
    · replace h := ifT hc h
      refine wp_skip ?_
      refine Exit.then_normal (hK12 _ _ ?_)
      refine wp_seq_k (fun K hK13 => ?_)
      refine wp_block ?_
      refine wp_seq_k (fun K hK14 => ?_)
      refine wp_region_from ?_
      refine segO 2 [] [(6, .kv .i x6)] (Os := []) trivial hE hH (by kernel_rfl) (fun a hE => ?_)
      refine wpFrom_end (by kernel_rfl) ?_
      refine Exit.then_normal (hK14 _ _ ?_)
      refine wp_region_from ?_
      obtain ⟨q15, h⟩ := gd h
      refine segO 4 [] [(14, .kv (.int .u32) x5), (17, .kv (.int .u8) (btS p1 x6))] (Os := [_]) ⟨q15, trivial⟩ hE hH (by kernel_rfl) (fun a hE => ?_)
      obtain ⟨r16, hr16, h⟩ := bs h
      refine stepCall (d := (some 18)) (f151_ok hr16) hE hH hN (by kernel_rfl) (by kernel_rfl) trivial (fun a w G hl1 hE hH => ?_)
      have hle := Gh.le_trans hle hl1
      refine segO 1 [] [(5, .kv (.int .u32) r16)] (Os := []) trivial hE hH (by kernel_rfl) (fun a hE => ?_)
      refine wpFrom_end (by kernel_rfl) ?_
      refine Exit.in_normal ?_
      refine Exit.then_normal (hK13 _ _ ?_)
      refine wp_region_from ?_
      refine segO 2 [] [(11, .kv .i (IntKind.wrap .i64 (x6 + 1)))] (Os := []) trivial hE hH (by kernel_rfl) (fun a hE => ?_)
      refine wpFrom_end (by kernel_rfl) ?_
      refine Exit.then_normal ?_
      exact ih10 _ _ _ h _ _ _  hle (hE.subC (by kernel_rfl)) hH hx8
    · replace h := ifF hc h
      refine wp_exit ?_
      refine Exit.then_exit ?_
      refine Exit.then_exit ?_
      cases h
      exact hx8 _ rfl _ _ _  hle (hE.subC (by kernel_rfl)) hH
  refine key _ _ _ hz17 _ _ _  hle (hE.subC (by kernel_rfl)) hH ?_
  · intro z18 hz a w G  hle hE hH
    subst hz
    rw [hQ]
    refine Exit.in_eq ?_
    refine Exit.then_normal (hK3 _ _ ?_)
    refine wp_seq_k (fun K hK19 => ?_)
    refine wp_region_from ?_
    refine segO 3 [] [(4, .kv (.int .u32) (IntKind.wrap .u32 ((BitVec.ofInt (IntKind.bits .u32) (if IntKind.signed .u32 = true then -1 else IntKind.max .u32) ^^^ BitVec.ofInt (IntKind.bits .u32) z17.1).toNat)))] (Os := []) trivial hE hH (by kernel_rfl) (fun a hE => ?_)
    refine wpFrom_end (by kernel_rfl) ?_
    refine Exit.then_normal (hK19 _ _ ?_)
    refine wp_ret ?_
    cases h
    exact ret1 rfl hE hle hH (by kernel_rfl)

def f111 (p0 : List UInt8) : Option Int :=
  f138 0 p0 >>= fun r3 =>
  some r3

theorem f111_ok {p0 : List UInt8} {σ : St} {p : Int} (h : f111 p0 = some p) : Spec Try.prog 111 [.kv .str p0] (tabs σ) (.kv (.int .u32) p) (tabs σ) := by
  refine Spec.intro Try.func111 (by kernel_rfl) rfl (by kernel_rfl) (fun a w G0 Ls hE hH hN => ?_)
  have hle : G0.le G0 := Gh.le_refl G0
  unfold f111 at h
  refine wp_seq_k (fun K hK1 => ?_)
  refine wp_region_from ?_
  refine segO 1 [] [(2, .kv (.int .u32) 0)] (Os := []) trivial hE hH (by kernel_rfl) (fun a hE => ?_)
  refine wpFrom_end (by kernel_rfl) ?_
  refine Exit.then_normal (hK1 _ _ ?_)
  refine wp_seq_k (fun K hK2 => ?_)
  refine wp_region_from ?_
  refine segO 1 [] [(3, .kv .str p0)] (Os := []) trivial hE hH (by kernel_rfl) (fun a hE => ?_)
  obtain ⟨r3, hr3, h⟩ := bs h
  refine stepCall (d := (some 4)) (f138_ok hr3) hE hH hN (by kernel_rfl) (by kernel_rfl) trivial (fun a w G hl1 hE hH => ?_)
  have hle := Gh.le_trans hle hl1
  refine segO 1 [] [(2, .kv (.int .u32) r3)] (Os := []) trivial hE hH (by kernel_rfl) (fun a hE => ?_)
  refine wpFrom_end (by kernel_rfl) ?_
  refine Exit.then_normal (hK2 _ _ ?_)
  refine wp_ret ?_
  cases h
  exact ret1 rfl hE hle hH (by kernel_rfl)

def f89 (p0 : List UInt8) : Option (List UInt8) :=
  f111 p0 >>= fun r3 =>
  f110 r3 >>= fun r4 =>
  if p0.length + r4.length ≤ 9223372036854775807 then
  some (p0 ++ r4)
  else none

theorem f89_ok {p0 : List UInt8} {σ : St} {p : List UInt8} (h : f89 p0 = some p) : Spec Try.prog 89 [.kv .str p0] (tabs σ) (.kv .str p) (tabs σ) := by
  refine Spec.intro Try.func89 (by kernel_rfl) rfl (by kernel_rfl) (fun a w G0 Ls hE hH hN => ?_)
  have hle : G0.le G0 := Gh.le_refl G0
  unfold f89 at h
  refine wp_seq_k (fun K hK1 => ?_)
  refine wp_region_from ?_
  refine segO 1 [] [(2, .kv .str [])] (Os := []) trivial hE hH (by kernel_rfl) (fun a hE => ?_)
  refine wpFrom_end (by kernel_rfl) ?_
  refine Exit.then_normal (hK1 _ _ ?_)
  refine wp_seq_k (fun K hK2 => ?_)
  refine wp_region_from ?_
  refine segO 2 [] [(3, .kv .str p0), (4, .kv .str p0)] (Os := []) trivial hE hH (by kernel_rfl) (fun a hE => ?_)
  obtain ⟨r3, hr3, h⟩ := bs h
  refine stepCall (d := (some 5)) (f111_ok hr3) hE hH hN (by kernel_rfl) (by kernel_rfl) trivial (fun a w G hl1 hE hH => ?_)
  have hle := Gh.le_trans hle hl1
  obtain ⟨r4, hr4, h⟩ := bs h
  refine stepCall (d := (some 6)) (f110_ok hr4) hE hH hN (by kernel_rfl) (by kernel_rfl) trivial (fun a w G hl2 hE hH => ?_)
  have hle := Gh.le_trans hle hl2
  obtain ⟨q5, h⟩ := gd h
  refine segO 2 [] [(2, .kv .str (p0 ++ r4))] (Os := [_]) ⟨q5, trivial⟩ hE hH (by kernel_rfl) (fun a hE => ?_)
  refine wpFrom_end (by kernel_rfl) ?_
  refine Exit.then_normal (hK2 _ _ ?_)
  refine wp_ret ?_
  cases h
  exact ret1 rfl hE hle hH (by kernel_rfl)

def f108 (p0 : List UInt8) : Option ((List UInt8) × Int) :=
  if (decide ((IntKind.wrap .i64 ((p0.length : Int) - 4)) < 0)) = true then
  some ([], 5)
  else
  if (0 : Int) ≤ (IntKind.wrap .i64 ((p0.length : Int) - 4)) ∧ (IntKind.wrap .i64 ((p0.length : Int) - 4)) ≤ (p0.length : Int) then
  f111 (p0.take (Int.toNat (IntKind.wrap .i64 ((p0.length : Int) - 4)))) >>= fun r8 =>
  f110 r8 >>= fun r9 =>
  if (0 : Int) ≤ (IntKind.wrap .i64 ((p0.length : Int) - 4)) ∧ (IntKind.wrap .i64 ((p0.length : Int) - 4)) ≤ (p0.length : Int) then
  if (!(r9 == (p0.drop (Int.toNat (IntKind.wrap .i64 ((p0.length : Int) - 4)))))) = true then
  some ([], 7)
  else
  if (0 : Int) ≤ (IntKind.wrap .i64 ((p0.length : Int) - 4)) ∧ (IntKind.wrap .i64 ((p0.length : Int) - 4)) ≤ (p0.length : Int) then
  some (p0.take (Int.toNat (IntKind.wrap .i64 ((p0.length : Int) - 4))), 0)
  else none
  else none
  else none

theorem f108_ok {p0 : List UInt8} {σ : St} {p : (List UInt8) × Int} (h : f108 p0 = some p) : Spec Try.prog 108 [.kv .str p0] (tabs σ) (.tup [⟨.str, p.1⟩, ⟨.i, p.2⟩]) (tabs σ) := by
  refine Spec.intro Try.func108 (by kernel_rfl) rfl (by kernel_rfl) (fun a w G0 Ls hE hH hN => ?_)
  have hle : G0.le G0 := Gh.le_refl G0
  unfold f108 at h
  refine wp_seq_k (fun K hK1 => ?_)
  refine wp_region_from ?_
  refine segO 2 [] [(2, .kv .str []), (3, .kv .i 0)] (Os := []) trivial hE hH (by kernel_rfl) (fun a hE => ?_)
  refine wpFrom_end (by kernel_rfl) ?_
  refine Exit.then_normal (hK1 _ _ ?_)
  refine wp_seq_k (fun K hK2 => ?_)
  refine wp_region_from ?_
  refine segO 4 [] [(4, .kv .i (IntKind.wrap .i64 ((p0.length : Int) - 4)))] (Os := []) trivial hE hH (by kernel_rfl) (fun a hE => ?_)
  refine wpFrom_end (by kernel_rfl) ?_
  refine Exit.then_normal (hK2 _ _ ?_)
  refine wp_seq_k (fun K hK3 => ?_)
  refine wp_block ?_
  refine wp_seq_k (fun K hK4 => ?_)
  refine wp_region_from ?_
  refine segO 3 [] [(8, .kv .bool (decide ((IntKind.wrap .i64 ((p0.length : Int) - 4)) < 0)))] (Os := []) trivial hE hH (by kernel_rfl) (fun a hE => ?_)
  refine wpFrom_end (by kernel_rfl) ?_
  refine Exit.then_normal (hK4 _ _ ?_)
  refine condE (b := decide ((IntKind.wrap .i64 ((p0.length : Int) - 4)) < 0)) hE (by kernel_rfl) (fun hc => ?_) (fun hc => ?_)
  · replace h := ifT hc h
    refine wp_seq_k (fun K hK5 => ?_)
    refine wp_region_from ?_
    refine segO 2 [] [(2, .kv .str []), (3, .kv .i 5)] (Os := []) trivial hE hH (by kernel_rfl) (fun a hE => ?_)
    refine wpFrom_end (by kernel_rfl) ?_
    refine Exit.then_normal (hK5 _ _ ?_)
    refine wp_ret ?_
    refine Exit.in_ret ?_
    refine Exit.then_ret ?_
    cases h
    exact ret2 rfl hE hle hH (by kernel_rfl)
  · replace h := ifF hc h
    refine wp_seq_k (fun K hK6 => ?_)
    obtain ⟨q7, h⟩ := gd h
    obtain ⟨r8, hr8, h⟩ := bs h
    obtain ⟨r9, hr9, h⟩ := bs h
    obtain ⟨q10, h⟩ := gd h
    refine region_par 8 [3, 4] [(0, 0), (0, 0), (0, 0), (0, 0), (1, 1), (0, 2), (0, 2), (0, 2)] [.kv .str p0, .kv .i (IntKind.wrap .i64 ((p0.length : Int) - 4)), .kv .str (p0.take (Int.toNat (IntKind.wrap .i64 ((p0.length : Int) - 4)))), .kv (.int .u32) r8, .kv .str r9, .kv .str p0, .kv .i (IntKind.wrap .i64 ((p0.length : Int) - 4)), .kv .str (p0.drop (Int.toNat (IntKind.wrap .i64 ((p0.length : Int) - 4))))] (fun _ => tabs σ) (fun _ => Ls) (by kernel_rfl) (by kernel_rfl) hE hH
            ⟨⟨⟨⟨⟨⟨⟨⟨trivial,
            anyk (fun k => obR [] (Os := []) trivial (by kernel_rfl) (by kernel_rfl))⟩,
            anyk (fun k => obR [] (Os := []) trivial (by kernel_rfl) (by kernel_rfl))⟩,
            anyk (fun k => obR [] (Os := [_]) ⟨q7, trivial⟩ (by kernel_rfl) (by kernel_rfl))⟩,
            one (obC (k := 0) (d := (some 15)) (f111_ok hr8) rfl hN (by kernel_rfl) (by kernel_rfl) rfl trivial)⟩,
            one (obC (k := 1) (d := (some 16)) (f110_ok hr9) rfl hN (by kernel_rfl) (by kernel_rfl) rfl trivial)⟩,
            anyk (fun k => obR [] (Os := []) trivial (by kernel_rfl) (by kernel_rfl))⟩,
            anyk (fun k => obR [] (Os := []) trivial (by kernel_rfl) (by kernel_rfl))⟩,
            anyk (fun k => obR [] (Os := [_]) ⟨q10, trivial⟩ (by kernel_rfl) (by kernel_rfl))⟩ (fun a w G hl1 hE hH => ?_)
    have hle := Gh.le_trans hle hl1
    refine segO 2 [] [(11, .kv .bool (!(r9 == (p0.drop (Int.toNat (IntKind.wrap .i64 ((p0.length : Int) - 4)))))))] (Os := []) trivial hE hH (by kernel_rfl) (fun a hE => ?_)
    refine wpFrom_end (by kernel_rfl) ?_
    refine Exit.then_normal (hK6 _ _ ?_)
    refine condE (b := !(r9 == (p0.drop (Int.toNat (IntKind.wrap .i64 ((p0.length : Int) - 4)))))) hE (by kernel_rfl) (fun hc => ?_) (fun hc => ?_)
    · replace h := ifT hc h
      refine wp_seq_k (fun K hK11 => ?_)
      refine wp_region_from ?_
      refine segO 2 [] [(2, .kv .str []), (3, .kv .i 7)] (Os := []) trivial hE hH (by kernel_rfl) (fun a hE => ?_)
      refine wpFrom_end (by kernel_rfl) ?_
      refine Exit.then_normal (hK11 _ _ ?_)
      refine wp_ret ?_
      refine Exit.in_ret ?_
      refine Exit.then_ret ?_
      cases h
      exact ret2 rfl hE hle hH (by kernel_rfl)
    · replace h := ifF hc h
      refine wp_skip ?_
      refine Exit.in_normal ?_
      refine Exit.then_normal (hK3 _ _ ?_)
      refine wp_seq_k (fun K hK12 => ?_)
      refine wp_region_from ?_
      obtain ⟨q13, h⟩ := gd h
      refine segO 5 [] [(2, .kv .str (p0.take (Int.toNat (IntKind.wrap .i64 ((p0.length : Int) - 4))))), (3, .kv .i 0)] (Os := [_]) ⟨q13, trivial⟩ hE hH (by kernel_rfl) (fun a hE => ?_)
      refine wpFrom_end (by kernel_rfl) ?_
      refine Exit.then_normal (hK12 _ _ ?_)
      refine wp_ret ?_
      cases h
      exact ret2 rfl hE hle hH (by kernel_rfl)
end Go.Proofs.Ytlfemhkabjafeaa.M

/- Plain law: sums. -/
set_option linter.unusedVariables false
set_option linter.unusedSimpArgs false
namespace Go.Proofs.Ytlfemhkabjafeaa.M

theorem f151_loop : ∀ (k n : Nat) (x : Int), n + k = 8 → ∃ y, f151_l0 x (n : Int) = some (y, 8)
  | 0, n, x, h => by
    rw [f151_l0]
    have : n = 8 := by omega
    subst this
    exact ⟨x, by simp⟩
  | k + 1, n, x, h => by
    rw [f151_l0]
    have hw : IntKind.wrap .i64 ((n : Int) + 1) = ((n + 1 : Nat) : Int) := by rw [wrap_id (by omega) (by omega)]; omega
    have h1 : ((n : Int) < 8) := by omega
    rw [hw]
    simp only [h1, decide_true, if_true]
    split
    · exact f151_loop k (n + 1) _ (by omega)
    · exact f151_loop k (n + 1) _ (by omega)

theorem f151_some (a b : Int) : ∃ y, f151 a b = some y := by
  unfold f151
  obtain ⟨y, h⟩ := f151_loop 8 0 (IntKind.wrap .u32 ((BitVec.ofInt (IntKind.bits .u32) a ^^^ BitVec.ofInt (IntKind.bits .u32) (IntKind.wrap .u32 (b))).toNat)) (by omega)
  rw [show (((0 : Nat) : Int)) = (0 : Int) from rfl] at h
  exact ⟨y, by rw [h]; rfl⟩

theorem f138_loop (s : List UInt8) (hs : s.length < 9223372036854775808) : ∀ (k n : Nat) (x : Int), n + k = s.length → ∃ y, f138_l0 s x (n : Int) = some y
  | 0, n, x, h => by
    rw [f138_l0]
    have : n = s.length := by omega
    subst this
    exact ⟨_, by simp; rfl⟩
  | k + 1, n, x, h => by
    rw [f138_l0]
    have hn : n < s.length := by omega
    have hw : IntKind.wrap .i64 ((n : Int) + 1) = ((n + 1 : Nat) : Int) := by rw [wrap_id (by omega) (by omega)]; omega
    have h1 : ((n : Int) < (s.length : Int)) := by omega
    have h0 : (0 : Int) ≤ (n : Int) := by omega
    obtain ⟨z, hz⟩ := f151_some x (btS s (n : Int))
    obtain ⟨y, ih⟩ := f138_loop s hs k (n + 1) z (by omega)
    refine ⟨y, ?_⟩
    simp only [h1, h0, decide_true, if_true, and_self, hz, Option.bind_eq_bind, Option.bind_some, hw, ih]

/-- A text's sum. -/
def crc (s : List UInt8) : Int := (f111 s).getD 0

theorem f111_eq {s : List UInt8} (hs : s.length < 9223372036854775808) : f111 s = some (crc s) := by
  have : ∃ y, f111 s = some y := by
    unfold f111 f138
    obtain ⟨y, h⟩ := f138_loop s hs s.length 0 (IntKind.wrap .u32 ((BitVec.ofInt (IntKind.bits .u32) (if IntKind.signed .u32 = true then -1 else IntKind.max .u32) ^^^ BitVec.ofInt (IntKind.bits .u32) 0).toNat)) (by omega)
    rw [show (((0 : Nat) : Int)) = (0 : Int) from rfl] at h
    exact ⟨_, by rw [h]; rfl⟩
  obtain ⟨y, h⟩ := this
  unfold crc
  rw [h]; rfl

/-- The four bytes of a text's sum. -/
def sum4 (s : List UInt8) : List UInt8 := bytesS [IntKind.wrap .u8 (crc s), IntKind.wrap .u8 (Int.fdiv (crc s) (2 ^ 8)), IntKind.wrap .u8 (Int.fdiv (crc s) (2 ^ 16)), IntKind.wrap .u8 (Int.fdiv (crc s) (2 ^ 24))]
def sealS (s : List UInt8) : List UInt8 := s ++ sum4 s
def openS (s : List UInt8) : Option (List UInt8) := if 4 ≤ s.length ∧ sum4 (s.take (s.length - 4)) = s.drop (s.length - 4) then some (s.take (s.length - 4)) else none

theorem sum4_len (s : List UInt8) : (sum4 s).length = 4 := by simp [sum4, bytesS]
theorem sealS_len (s : List UInt8) : (sealS s).length = s.length + 4 := by unfold sealS; rw [List.length_append, sum4_len]

theorem openS_seal (s : List UInt8) : openS (sealS s) = some s := by
  unfold openS
  have hl := sealS_len s
  have e1 : (sealS s).length - 4 = s.length := by omega
  have e2 : (sealS s).take s.length = s := by unfold sealS; simp
  have e3 : (sealS s).drop s.length = sum4 s := by unfold sealS; simp
  rw [e1, e2, e3, if_pos ⟨by omega, rfl⟩]

theorem openS_some {s t : List UInt8} (h : openS s = some t) : s = sealS t := by
  unfold openS at h
  split at h
  · rename_i c
    simp only [Option.some.injEq] at h
    unfold sealS
    rw [← h, c.2, List.take_append_drop]
  · cases h

theorem f110_crc (s : List UInt8) : f110 (crc s) = some (sum4 s) := rfl

theorem f89_eq {s : List UInt8} (hs : s.length + 4 < 9223372036854775808) : f89 s = some (sealS s) := by
  unfold f89
  have hl := sum4_len s
  simp only [f111_eq (s := s) (by omega), f110_crc, Option.bind_eq_bind, Option.bind_some]
  rw [if_pos (by omega)]
  rfl

theorem f108_eq {s : List UInt8} (hs : s.length < 9223372036854775808) : (∃ t, openS s = some t ∧ f108 s = some (t, 0)) ∨ (openS s = none ∧ ∃ e : Int, e ≠ 0 ∧ f108 s = some ([], e)) := by
  unfold f108
  have hw : IntKind.wrap .i64 ((s.length : Int) - 4) = (s.length : Int) - 4 := wrap_id (by omega) (by omega)
  rw [hw]
  by_cases c : s.length < 4
  · refine .inr ⟨?_, 5, by decide, by rw [if_pos (by simp; omega)]⟩
    unfold openS
    rw [if_neg (by omega)]
  have e1 : Int.toNat ((s.length : Int) - 4) = s.length - 4 := by omega
  have hg : (0 : Int) ≤ (s.length : Int) - 4 ∧ (s.length : Int) - 4 ≤ (s.length : Int) := by omega
  have hl : (s.take (s.length - 4)).length < 9223372036854775808 := by rw [List.length_take]; omega
  rw [if_neg (by simp; omega), if_pos hg]
  simp only [e1, f111_eq hl, f110_crc, Option.bind_eq_bind, Option.bind_some]
  rw [if_pos hg, if_pos hg]
  unfold openS
  by_cases c2 : sum4 (s.take (s.length - 4)) = s.drop (s.length - 4)
  · refine .inl ⟨s.take (s.length - 4), ?_, ?_⟩
    · rw [if_pos ⟨by omega, c2⟩]
    · rw [if_neg (by simp [c2])]
  · refine .inr ⟨?_, 7, by decide, ?_⟩
    · rw [if_neg (fun h => c2 h.2)]
    · rw [if_pos (by simpa using c2)]

end Go.Proofs.Ytlfemhkabjafeaa.M

/- Own library, part 22: arrays of bytes that are the call's own variables. -/
set_option linter.unusedVariables false
set_option linter.unusedSimpArgs false
namespace Go.Proofs.Ytlfemhkabjafeaa.M

/-- Arrays of so many bytes, as kinds: nested pairs. -/
def isArr : Nat → Kd → Bool
  | 0, .unit => true
  | n + 1, .pair (.int .u8) b => isArr n b
  | _, _ => false

def setA : (k : Kd) → k.den → Nat → Int → k.den
  | .pair (.int .u8) _, x, 0, z => (z, x.2)
  | .pair (.int .u8) b, x, n + 1, z => (x.1, setA b x.2 n z)
  | _, x, _, _ => x

def arrL : (k : Kd) → k.den → List Int
  | .pair (.int .u8) b, x => x.1 :: arrL b x.2
  | _, _ => []

theorem setK_arr : ∀ {n : Nat} {k : Kd} {x : k.den} {off : Nat} {z : Int}, isArr n k = true → off < n → setK k x off (.int .u8) z = some (setA k x off z)
  | 0, _, _, _, _, _, h => by omega
  | n + 1, k, x, off, z, hk, h => by
    unfold isArr at hk
    split at hk
    · rename_i h0; cases h0
    · rename_i m b h0
      cases h0
      cases off with
      | zero => simp [setK, setA, Kd.w, Nat.blt, Nat.ble]
      | succ o =>
        have ih := setK_arr (x := x.2) (off := o) (z := z) hk (by omega)
        simp [setK, setA, Kd.w, Nat.blt, Nat.ble, ih]
    · cases hk

theorem Kr_arr {G : Gh} : ∀ {n : Nat} {k : Kd} {x : k.den} {cs : List Value}, isArr n k = true → Kr G k x cs → cs = (arrL k x).map (Value.int .u8) ∧ (arrL k x).length = n
  | 0, k, x, cs, hk, h => by
    cases k <;> simp [isArr] at hk
    simp only [Kr] at h
    subst h
    exact ⟨rfl, rfl⟩
  | n + 1, k, x, cs, hk, h => by
    unfold isArr at hk
    split at hk
    · rename_i h0; cases h0
    · rename_i m b h0
      cases h0
      simp only [Kr] at h
      obtain ⟨c1, c2, rfl, rfl, h2⟩ := h
      obtain ⟨e1, e2⟩ := Kr_arr (x := x.2) hk h2
      exact ⟨by simp [arrL, ← e1], by simp [arrL, e2]⟩
    · cases hk

section
variable {P : Program} {w : World} {G : Gh} {T : Tabs} {Ls : List LS} {a : Act} {N : Nat} {E : Env} {ops : Array Oper} {Q : Exit → Act → World → Prop}

def ixaE (P : Program) (ops : Array Oper) (E : Env) (i : Nat) : Option (Nat × Nat × Int × Option Nat) :=
  match ops[i]? with
  | some o => (match goes ops (look E []) o, o.op with
    | true, .indexAddr t x y => (match P.underlying t, opnd (look E []) [] x, opnd (look E []) [] y with
      | some (.array m el), some (.val (.pointer (some ⟨b, 0, none⟩))), some (.kv (.int _) n) => (match sizeT P el with
        | some 1 => some (b, m, n, o.dst)
        | _ => none)
      | _, _, _ => none)
    | _, _ => none)
  | none => none

/-- The address of a byte of an own array. -/
theorem stepIxA {b m : Nat} {n : Int} {d : Option Nat} {i : Nat} (hE : EnvR G N a E) (hb : ixaE P ops E i = some (b, m, n, d)) (hq : 0 ≤ n ∧ n < (m : Int)) (hd : dstOK d N = true)
    (k : ∀ a', EnvR G N a' (putE d (.val (.pointer (some ⟨b, n.toNat, none⟩))) E) → wpFrom P ops Q (i + 1) a' w) : wpFrom P ops Q i a w := by
  unfold ixaE at hb
  split at hb
  · rename_i o ho
    split at hb
    · rename_i t x y hg hop
      split at hb
      · rename_i m' el b' kn n' hu hx hy
        split at hb
        · rename_i hs
          simp only [Option.some.injEq, Prod.mk.injEq] at hb
          obtain ⟨rfl, rfl, rfl, rfl⟩ := hb
          have h1 := opnd_ok (CurR_start hE) (by simp) hx
          have h2 := unI (opnd_ok (CurR_start hE) (by simp) hy)
          simp only [EnR] at h1
          refine wpFrom_value ho (goes_ok (CurR_start hE) hg) (v := .pointer (some ⟨b', n'.toNat, none⟩)) (w' := w) ?_ (k _ (hE.putO hd rfl))
          simp only [execOp, hop, h1, h2]
          refine run_val ?_
          have ha : (⟨b', 0, none⟩ : Addr).add (Int.toNat n') = ⟨b', Int.toNat n', none⟩ := by rw [addr_add, Nat.zero_add]
          simp [Instr.indexAt, asIntOf, underlying, hu, Instr.sureAddr, run_sizeOf hs, hq, ha]
        · cases hb
      · cases hb
    · cases hb
  · cases hb

def slaE (P : Program) (ops : Array Oper) (E : Env) (i : Nat) : Option (Nat × Nat × Int × Option Nat) :=
  match ops[i]? with
  | some o => (match goes ops (look E []) o, o.op with
    | true, .slice t x none (some y) none => (match P.underlying t, opnd (look E []) [] x, opnd (look E []) [] y with
      | some (.array m el), some (.val (.pointer (some ⟨b, 0, none⟩))), some (.kv (.int _) n) => (match sizeT P el with
        | some 1 => some (b, m, n, o.dst)
        | _ => none)
      | _, _, _ => none)
    | _, _ => none)
  | none => none

/-- The first bytes of an own array, as a slice. -/
theorem stepSlA {b m : Nat} {n : Int} {d : Option Nat} {i : Nat} (hE : EnvR G N a E) (hb : slaE P ops E i = some (b, m, n, d)) (hq : 0 ≤ n ∧ n ≤ (m : Int)) (hd : dstOK d N = true)
    (k : ∀ a', EnvR G N a' (putE d (.val (.slice (some ⟨b, 0, none⟩) n.toNat m)) E) → wpFrom P ops Q (i + 1) a' w) : wpFrom P ops Q i a w := by
  unfold slaE at hb
  split at hb
  · rename_i o ho
    split at hb
    · rename_i t x y hg hop
      split at hb
      · rename_i m' el b' kn n' hu hx hy
        split at hb
        · rename_i hs
          simp only [Option.some.injEq, Prod.mk.injEq] at hb
          obtain ⟨rfl, rfl, rfl, rfl⟩ := hb
          have h1 := opnd_ok (CurR_start hE) (by simp) hx
          have h2 := unI (opnd_ok (CurR_start hE) (by simp) hy)
          simp only [EnR] at h1
          refine wpFrom_value ho (goes_ok (CurR_start hE) hg) (v := .slice (some ⟨b', 0, none⟩) n'.toNat m') (w' := w) ?_ (k _ (hE.putO hd rfl))
          simp only [execOp, hop, h1, h2, Option.map_none, Option.map_some]
          refine run_val ?_
          have hbd := bounds_run (P := P) (w := w) (isS := false) (len := m') (cap := m') (lo := none) (hi := some n') (k1 := kn) (k2 := kn) (Nat.le_refl _) (by unfold slB; exact hq)
          simp only [Option.map_none, Option.map_some, Option.getD_none, Option.getD_some] at hbd
          unfold Instr.sliceAt
          rw [run_und hu]
          have ha : (⟨b', 0, none⟩ : Addr).add (0 * 1) = ⟨b', 0, none⟩ := by rw [addr_add]
          simp [Instr.sureAddr, hbd, run_sizeOf hs, ha]
        · cases hb
      · cases hb
    · cases hb
  · cases hb

def cnaE (P : Program) (ops : Array Oper) (E : Env) (i : Nat) : Option (Nat × Nat × Option Nat) :=
  match ops[i]? with
  | some o => (match goes ops (look E []) o, o.op with
    | true, .convert s t x => (match P.underlying s, P.underlying t, opnd (look E []) [] x with
      | some (.slice el), some .string, some (.val (.slice (some ⟨b, 0, none⟩) n _)) => (match P.underlying el with
        | some (.int .u8) => some (b, n, o.dst)
        | _ => none)
      | _, _, _ => none)
    | _, _ => none)
  | none => none

/-- The first bytes of an own array, as a text. -/
theorem stepCnA (j m : Nat) {b n : Nat} {d : Option Nat} {K : Kd} {x : K.den} {i : Nat} (hE : EnvR G N a E) (hH : Holds w G T Ls) (hb : cnaE P ops E i = some (b, n, d)) (hK : isArr m K = true) (hj : Ls[j]? = some (.box b K x)) (hn : n ≤ m) (hd : dstOK d N = true)
    (k : ∀ a', EnvR G N a' (putE d (.kv .str (bytesS ((arrL K x).take n))) E) → wpFrom P ops Q (i + 1) a' w) : wpFrom P ops Q i a w := by
  unfold cnaE at hb
  split at hb
  · rename_i o ho
    split at hb
    · rename_i s t y hg hop
      split at hb
      · rename_i el b' n' c hs ht hx
        split at hb
        · rename_i hu
          simp only [Option.some.injEq, Prod.mk.injEq] at hb
          obtain ⟨rfl, rfl, rfl⟩ := hb
          have h1 := opnd_ok (CurR_start hE) (by simp) hx
          simp only [EnR] at h1
          refine wpFrom_value ho (goes_ok (CurR_start hE) hg) (v := .string ⟨(bytesS ((arrL K x).take n')).toArray⟩) (w' := w) ?_ (k _ (hE.putO hd mkS))
          simp only [execOp, hop, h1]
          refine run_val ?_
          unfold convert
          rw [run_und hs, run_und ht]
          simp only []
          rw [run_und hu]
          rw [bytesS_eq]
          obtain ⟨_, ce, ty, hblk, hkr⟩ := hH.loc _ (List.mem_of_getElem? hj)
          obtain ⟨e1, e2⟩ := Kr_arr hK hkr
          have hl : (((arrL K x).take n').map (Value.int .u8)).length = n' := by simp [e2]; omega
          have hrun := run_loadCells_list (P := P) w ⟨b', 0, none⟩ (((arrL K x).take n').map (Value.int .u8)) (fun j v hj => by
            rw [addr_add, cell_at hblk, Nat.zero_add, ← Array.getElem?_toList, e1]
            rw [List.map_take] at hj
            have hjl := (List.getElem?_eq_some_iff.1 hj).1
            rw [List.length_take] at hjl
            rw [List.getElem?_take_of_lt (by omega)] at hj
            exact hj)
          rw [hl] at hrun
          exact run_bytesToString w ⟨b', 0, none⟩ n' c _ hrun
        · cases hb
      · cases hb
    · cases hb
  · cases hb
end
end Go.Proofs.Ytlfemhkabjafeaa.M

/- Printed by own program: twins and walks. -/
set_option linter.unusedVariables false
set_option maxRecDepth 100000
namespace Go.Proofs.Ytlfemhkabjafeaa.M
open Go.Proofs (Try.prog Try.func90 Try.f90)

def f90_l0  (y12 : K145.den) (x13 : Int) (x14 : Int) : Option (K145.den × Int × Int) :=
  if (decide (x13 ≥ 128)) = true then
  if (0 : Int) ≤ x14 ∧ x14 < (10 : Nat) then
  f90_l0 (setA K145 y12 (Int.toNat x14) (IntKind.wrap .u8 ((BitVec.ofInt (IntKind.bits .u8) (IntKind.wrap .u8 (x13)) ||| BitVec.ofInt (IntKind.bits .u8) 128).toNat))) (Int.fdiv x13 (2 ^ 7)) (IntKind.wrap .i64 (x14 + 1))
  else none
  else
  some ((y12, x13, x14))
  partial_fixpoint

def f90 (p0 : Int) : Option (List UInt8) :=
  (if (decide (p0 < 0)) = true then
  some (IntKind.wrap .u64 ((BitVec.ofInt (IntKind.bits .u64) (if IntKind.signed .u64 = true then -1 else IntKind.max .u64) ^^^ BitVec.ofInt (IntKind.bits .u64) (IntKind.wrap .u64 ((IntKind.wrap .u64 (p0)) * 2 ^ 1))).toNat))
  else
  some (IntKind.wrap .u64 ((IntKind.wrap .u64 (p0)) * 2 ^ 1)) : Option Int) >>= fun z6 =>
  f90_l0  (0, 0, 0, 0, 0, 0, 0, 0, 0, 0, ()) z6 0 >>= fun z24 =>
  if (0 : Int) ≤ z24.2.2 ∧ z24.2.2 < (10 : Nat) then
  if (0 : Int) ≤ (IntKind.wrap .i64 (z24.2.2 + 1)) ∧ (IntKind.wrap .i64 (z24.2.2 + 1)) ≤ (10 : Nat) then
  some (bytesS ((arrL K145 (setA K145 z24.1 (Int.toNat z24.2.2) (IntKind.wrap .u8 (z24.2.1)))).take (Int.toNat (IntKind.wrap .i64 (z24.2.2 + 1)))))
  else none
  else none

theorem f90_ok {p0 : Int} {σ : St} {p : List UInt8} (h : f90 p0 = some p) : Spec Try.prog 90 [.kv .i p0] (tabs σ) (.kv .str p) (tabs σ) := by
  refine Spec.intro Try.func90 (by kernel_rfl) rfl (by kernel_rfl) (fun a w G0 Ls hE hH hN => ?_)
  have hle : G0.le G0 := Gh.le_refl G0
  unfold f90 at h
  refine wp_seq_k (fun K hK1 => ?_)
  refine wp_region_from ?_
  refine segO 1 [] [(2, .kv .str [])] (Os := []) trivial hE hH (by kernel_rfl) (fun a hE => ?_)
  refine wpFrom_end (by kernel_rfl) ?_
  refine Exit.then_normal (hK1 _ _ ?_)
  refine wp_seq_k (fun K hK2 => ?_)
  refine wp_region_from ?_
  refine segO 4 [] [(3, .kv (.int .u64) (IntKind.wrap .u64 ((IntKind.wrap .u64 (p0)) * 2 ^ 1)))] (Os := [_]) ⟨(by decide : (0 : Int) ≤ 1), trivial⟩ hE hH (by kernel_rfl) (fun a hE => ?_)
  refine wpFrom_end (by kernel_rfl) ?_
  refine Exit.then_normal (hK2 _ _ ?_)
  refine wp_seq_k (fun K hK3 => ?_)
  refine wp_seq_k (fun K hK4 => ?_)
  refine wp_region_from ?_
  refine segO 2 [] [(10, .kv .bool (decide (p0 < 0)))] (Os := []) trivial hE hH (by kernel_rfl) (fun a hE => ?_)
  refine wpFrom_end (by kernel_rfl) ?_
  refine Exit.then_normal (hK4 _ _ ?_)
  obtain ⟨z6, hz6, h⟩ := bs h
  refine join_intro (I := fun a w => ∃ (G : Gh), G0.le G ∧ EnvR G 32 a [(2, .kv .str []), (3, .kv (.int .u64) z6)] ∧ Holds w G (tabs σ) (Ls)) trivial ?_ ?_
  · intro a w hI
    obtain ⟨G, hle, hE, hH⟩ := hI
    refine Exit.then_normal (hK3 _ _ ?_)
    refine wp_seq_k (fun K hK8 => ?_)
    refine wp_region_from ?_
    refine stepAlloc (e := 145) (d := (some 4)) K145  hE hH (by kernel_rfl) (by kernel_rfl) (fun b9 a w G hl2 hE hH => ?_)
    have hle := Gh.le_trans hle hl2
    refine wpFrom_end (by kernel_rfl) ?_
    refine Exit.then_normal (hK8 _ _ ?_)
    refine wp_seq_k (fun K hK10 => ?_)
    refine wp_region_from ?_
    refine segO 1 [] [(5, .kv .i 0)] (Os := []) trivial hE hH (by kernel_rfl) (fun a hE => ?_)
    refine wpFrom_end (by kernel_rfl) ?_
    refine Exit.then_normal (hK10 _ _ ?_)
    refine wp_seq_k (fun K hK11 => ?_)
    refine wp_block ?_
    obtain ⟨z24, hz24, h⟩ := bs h
    refine loop_intro (fun Q15 c hQ hc => ?_)
    have key : ∀ (y12 : K145.den) (x13 : Int) (x14 : Int) (rr : K145.den × Int × Int), f90_l0  y12 x13 x14 = some rr → ∀ (a : Act) (w : World) (G : Gh), G0.le G → EnvR G 32 a [(2, .kv .str []), (3, .kv (.int .u64) x13), (4, .val (.pointer (some ⟨b9, 0, none⟩))), (5, .kv .i x14)] → Holds w G (tabs σ) (LS.box b9 K145 y12 :: Ls) → (∀ z25 : K145.den × Int × Int, rr = z25 → ∀ (a : Act) (w : World) (G : Gh), G0.le G → EnvR G 32 a [(2, .kv .str []), (3, .kv (.int .u64) z25.2.1), (4, .val (.pointer (some ⟨b9, 0, none⟩))), (5, .kv .i z25.2.2)] → Holds w G (tabs σ) (LS.box b9 K145 z25.1 :: Ls) → Q15 (.exit 0) a w) → Rnd Try.prog c Q15 a w := by
      refine f90_l0.partial_correctness  _ ?_
      intro self ih18 y12 x13 x14 rr h a w G  hle hE hH hx16
      refine rnd_step' hc ?_
      refine wp_seq_k (fun K hK19 => ?_)
      refine wp_seq_k (fun K hK20 => ?_)
      refine wp_region_from ?_
      refine segO 2 [] [(14, .kv .bool (decide (x13 ≥ 128)))] (Os := []) trivial hE hH (by kernel_rfl) (fun a hE => ?_)
      refine wpFrom_end (by kernel_rfl) ?_
      refine Exit.then_normal (hK20 _ _ ?_)
      refine condE (b := decide (x13 ≥ 128)) hE (by kernel_rfl) (fun hc => ?_) (fun hc => ?_)
      · replace h := ifT hc h
        refine wp_skip ?_
        refine Exit.then_normal (hK19 _ _ ?_)
        refine wp_block ?_
        refine wp_seq_k (fun K hK21 => ?_)
        refine wp_region_from ?_
        refine segO 4 [] [(15, .kv .i x14), (18, .kv (.int .u8) (IntKind.wrap .u8 ((BitVec.ofInt (IntKind.bits .u8) (IntKind.wrap .u8 (x13)) ||| BitVec.ofInt (IntKind.bits .u8) 128).toNat)))] (Os := []) trivial hE hH (by kernel_rfl) (fun a hE => ?_)
        obtain ⟨q22, h⟩ := gd h
        refine stepIxA (b := b9) (m := 10) (n := x14) (d := (some 19)) hE (by kernel_rfl) q22 (by kernel_rfl) (fun a hE => ?_)
        refine stepStB (b := b9) (off := Int.toNat x14) 0 (.int .u8) (IntKind.wrap .u8 ((BitVec.ofInt (IntKind.bits .u8) (IntKind.wrap .u8 (x13)) ||| BitVec.ofInt (IntKind.bits .u8) 128).toNat)) (x' := setA K145 y12 (Int.toNat x14) (IntKind.wrap .u8 ((BitVec.ofInt (IntKind.bits .u8) (IntKind.wrap .u8 (x13)) ||| BitVec.ofInt (IntKind.bits .u8) 128).toNat))) hE hH (by kernel_rfl) rfl (setK_arr (n := 10) (by kernel_rfl) (by have := q22; omega)) (fun w G hl3 hE hH => ?_)
        have hle := Gh.le_trans hle hl3
        refine wpFrom_end (by kernel_rfl) ?_
        refine Exit.then_normal (hK21 _ _ ?_)
        refine wp_seq_k (fun K hK23 => ?_)
        refine wp_region_from ?_
        refine segO 3 [] [(3, .kv (.int .u64) (Int.fdiv x13 (2 ^ 7)))] (Os := [_]) ⟨(by decide : (0 : Int) ≤ 7), trivial⟩ hE hH (by kernel_rfl) (fun a hE => ?_)
        refine wpFrom_end (by kernel_rfl) ?_
        refine Exit.then_normal (hK23 _ _ ?_)
        refine wp_region_from ?_
        refine segO 3 [] [(5, .kv .i (IntKind.wrap .i64 (x14 + 1)))] (Os := []) trivial hE hH (by kernel_rfl) (fun a hE => ?_)
        refine wpFrom_end (by kernel_rfl) ?_
        refine Exit.in_normal ?_
        refine Exit.then_normal ?_
        exact ih18 _ _ _ _ h _ _ _  hle (hE.subC (by kernel_rfl)) hH hx16
      · replace h := ifF hc h
        refine wp_exit ?_
        refine Exit.then_exit ?_
        refine Exit.then_exit ?_
        cases h
        exact hx16 _ rfl _ _ _  hle (hE.subC (by kernel_rfl)) hH
    refine key _ _ _ _ hz24 _ _ _  hle (hE.subC (by kernel_rfl)) hH ?_
    · intro z25 hz a w G  hle hE hH
      subst hz
      rw [hQ]
      refine Exit.in_eq ?_
      refine Exit.then_normal (hK11 _ _ ?_)
      refine wp_seq_k (fun K hK26 => ?_)
      refine wp_region_from ?_
      refine segO 3 [] [(24, .kv .i z24.2.2), (26, .kv (.int .u8) (IntKind.wrap .u8 (z24.2.1)))] (Os := []) trivial hE hH (by kernel_rfl) (fun a hE => ?_)
      obtain ⟨q27, h⟩ := gd h
      refine stepIxA (b := b9) (m := 10) (n := z24.2.2) (d := (some 27)) hE (by kernel_rfl) q27 (by kernel_rfl) (fun a hE => ?_)
      refine stepStB (b := b9) (off := Int.toNat z24.2.2) 0 (.int .u8) (IntKind.wrap .u8 (z24.2.1)) (x' := setA K145 z24.1 (Int.toNat z24.2.2) (IntKind.wrap .u8 (z24.2.1))) hE hH (by kernel_rfl) rfl (setK_arr (n := 10) (by kernel_rfl) (by have := q27; omega)) (fun w G hl4 hE hH => ?_)
      have hle := Gh.le_trans hle hl4
      refine wpFrom_end (by kernel_rfl) ?_
      refine Exit.then_normal (hK26 _ _ ?_)
      refine wp_seq_k (fun K hK28 => ?_)
      refine wp_region_from ?_
      refine segO 2 [] [(29, .kv .i (IntKind.wrap .i64 (z24.2.2 + 1)))] (Os := []) trivial hE hH (by kernel_rfl) (fun a hE => ?_)
      obtain ⟨q29, h⟩ := gd h
      refine stepSlA (b := b9) (m := 10) (n := IntKind.wrap .i64 (z24.2.2 + 1)) (d := (some 30)) hE (by kernel_rfl) q29 (by kernel_rfl) (fun a hE => ?_)
      refine stepCnA 0 10 (b := b9) (n := Int.toNat (IntKind.wrap .i64 (z24.2.2 + 1))) (d := (some 31)) hE hH (by kernel_rfl) (by kernel_rfl) rfl (by have := q29; omega) (by kernel_rfl) (fun a hE => ?_)
      refine segO 1 [] [(2, .kv .str (bytesS ((arrL K145 (setA K145 z24.1 (Int.toNat z24.2.2) (IntKind.wrap .u8 (z24.2.1)))).take (Int.toNat (IntKind.wrap .i64 (z24.2.2 + 1))))))] (Os := []) trivial hE hH (by kernel_rfl) (fun a hE => ?_)
      refine wpFrom_end (by kernel_rfl) ?_
      refine Exit.then_normal (hK28 _ _ ?_)
      refine wp_ret ?_
      have hH := hH.drop (fun _ _ _ => rfl)
      cases h
      exact ret1 rfl hE hle hH (by kernel_rfl)
  · intro KK hKK ho
    have hj7 : ∀ (a : Act) (w : World) (G : Gh), G0.le G → EnvR G 32 a [(2, .kv .str []), (3, .kv (.int .u64) z6)] → Holds w G (tabs σ) (Ls) → KK .normal a w := fun a w G  h1 h2 h3 => hKK a w ⟨G, h1, h2, h3⟩
    replace h := hz6
    refine condE (b := decide (p0 < 0)) hE (by kernel_rfl) (fun hc => ?_) (fun hc => ?_)
    · replace h := ifT hc h
      refine wp_region_from ?_
      refine segO 3 [] [(3, .kv (.int .u64) (IntKind.wrap .u64 ((BitVec.ofInt (IntKind.bits .u64) (if IntKind.signed .u64 = true then -1 else IntKind.max .u64) ^^^ BitVec.ofInt (IntKind.bits .u64) (IntKind.wrap .u64 ((IntKind.wrap .u64 (p0)) * 2 ^ 1))).toNat)))] (Os := []) trivial hE hH (by kernel_rfl) (fun a hE => ?_)
      refine wpFrom_end (by kernel_rfl) ?_
      cases h
      exact hj7 _ _ _  hle (hE.subC (by kernel_rfl)) hH
    · replace h := ifF hc h
      refine wp_skip ?_
      cases h
      exact hj7 _ _ _  hle (hE.subC (by kernel_rfl)) hH
end Go.Proofs.Ytlfemhkabjafeaa.M

/- The walk of (*Disk).Used: a range over the map of files. -/
set_option linter.unusedVariables false
set_option maxRecDepth 100000
namespace Go.Proofs.Ytlfemhkabjafeaa.M
open Go.Proofs (Try.prog Try.func20 Try.f20)

theorem Gone.len {kk kv : Kd} {es : List MapEntry} {m done : List (kk.den × kv.den)} {seen : List Nat} (h : Gone es m seen done) : seen.length ≤ es.length := by
  obtain ⟨is, h1, rfl, rfl, h4⟩ := h
  rw [List.length_map]
  have := List.Nodup.length_le_of_subset h1 (l₂ := List.range es.length) (fun i hi => by simpa using h4 i hi)
  simpa using this

theorem wrap_wrap (x y : Int) : IntKind.wrap .i64 (IntKind.wrap .i64 x + y) = IntKind.wrap .i64 (x + y) := by
  rw [IntKind.wrap_i64, IntKind.wrap_i64, IntKind.wrap_i64]; omega

/-- The bytes of files: together. -/
def usedS : List (List UInt8 × Option Nat) → St → Option Nat
  | [], _ => some 0
  | (_, v) :: r, σ => v >>= fun i => σ.t108[i]? >>= fun o => usedS r σ >>= fun n => some (o.1.length + n)

theorem usedS_cons {p : List UInt8 × Option Nat} {r : List (List UInt8 × Option Nat)} {σ : St} {n : Nat} : usedS (p :: r) σ = some n ↔ ∃ i o q, p.2 = some i ∧ σ.t108[i]? = some o ∧ usedS r σ = some q ∧ n = o.1.length + q := by
  obtain ⟨k, v⟩ := p
  constructor
  · intro h
    obtain ⟨i, hi, h⟩ := bs h
    obtain ⟨o, ho, h⟩ := bs h
    obtain ⟨q, hq, h⟩ := bs h
    simp only [Option.some.injEq] at h
    exact ⟨i, o, q, hi, ho, hq, h.symm⟩
  · rintro ⟨i, o, q, h1, h2, h3, rfl⟩
    simp only at h1
    simp [usedS, h1, h2, h3]

theorem usedS_perm {σ : St} {l l' : List (List UInt8 × Option Nat)} (h : l.Perm l') : ∀ {n : Nat}, usedS l σ = some n → usedS l' σ = some n := by
  induction h with
  | nil => exact fun h => h
  | cons p _ ih =>
    intro n hn
    obtain ⟨i, o, q, h1, h2, h3, rfl⟩ := usedS_cons.1 hn
    exact usedS_cons.2 ⟨i, o, q, h1, h2, ih h3, rfl⟩
  | swap p q r =>
    intro n hn
    obtain ⟨i, o, n1, h1, h2, h3, rfl⟩ := usedS_cons.1 hn
    obtain ⟨j, u, n2, k1, k2, k3, rfl⟩ := usedS_cons.1 h3
    exact usedS_cons.2 ⟨j, u, _, k1, k2, usedS_cons.2 ⟨i, o, _, h1, h2, k3, rfl⟩, by omega⟩
  | trans _ _ ih1 ih2 => exact fun hn => ih2 (ih1 hn)

theorem usedS_snoc {σ : St} {p : List UInt8 × Option Nat} {i : Nat} {o : denFs fs108} (h1 : p.2 = some i) (h2 : σ.t108[i]? = some o) : ∀ {l : List (List UInt8 × Option Nat)} {n : Nat}, usedS l σ = some n → usedS (l ++ [p]) σ = some (n + o.1.length) := by
  intro l n h
  refine usedS_perm (List.perm_append_comm (l₁ := [p]) (l₂ := l)) ?_
  exact usedS_cons.2 ⟨i, o, n, h1, h2, h, by omega⟩

theorem usedS_mem {σ : St} {p : List UInt8 × Option Nat} : ∀ {l : List (List UInt8 × Option Nat)} {n : Nat}, usedS l σ = some n → p ∈ l → ∃ i o, p.2 = some i ∧ σ.t108[i]? = some o
  | q :: l, n, h, hp => by
    obtain ⟨i, o, q', h1, h2, h3, rfl⟩ := usedS_cons.1 h
    rcases List.mem_cons.1 hp with rfl | hp
    · exact ⟨i, o, h1, h2⟩
    · exact usedS_mem h3 hp

def f20 (p0 : Option Nat) (σ : St) : Option Int :=
  if p0.isNone = true then some 0 else
  p0 >>= fun i => (σ.t105[i]?) >>= fun o => usedS o.2.1 σ >>= fun n => some (IntKind.wrap .i64 n)

theorem f20_ok {p0 : Option Nat} {σ : St} {p : Int} (h : f20 p0 σ = some p) : Spec Try.prog 20 [.kv (.ptr 105) p0] (tabs σ) (.kv .i p) (tabs σ) := by
  refine Spec.intro Try.func20 (by kernel_rfl) rfl (by kernel_rfl) (fun a w G0 Ls hE hH hN => ?_)
  have hle : G0.le G0 := Gh.le_refl G0
  unfold f20 at h
  refine wp_seq_k (fun K hK1 => ?_)
  refine wp_region_from ?_
  refine segO 1 [] [(2, .kv .i 0)] (Os := []) trivial hE hH (by kernel_rfl) (fun a hE => ?_)
  refine wpFrom_end (by kernel_rfl) ?_
  refine Exit.then_normal (hK1 _ _ ?_)
  refine wp_seq_k (fun K hK2 => ?_)
  refine wp_region_from ?_
  refine segO 1 [] [(3, .kv .i 0)] (Os := []) trivial hE hH (by kernel_rfl) (fun a hE => ?_)
  refine wpFrom_end (by kernel_rfl) ?_
  refine Exit.then_normal (hK2 _ _ ?_)
  refine wp_seq_k (fun K hK3 => ?_)
  refine wp_seq_k (fun K hK4 => ?_)
  refine wp_region_from ?_
  refine segO 2 [] [(7, .kv .bool p0.isNone)] (Os := []) trivial hE hH (by kernel_rfl) (fun a hE => ?_)
  refine wpFrom_end (by kernel_rfl) ?_
  refine Exit.then_normal (hK4 _ _ ?_)
  refine condE (b := p0.isNone) hE (by kernel_rfl) (fun hc => ?_) (fun hc => ?_)
  · replace h := ifT hc h
    refine wp_seq_k (fun K hK5 => ?_)
    refine wp_region_from ?_
    refine segO 2 [] [(2, .kv .i 0)] (Os := []) trivial hE hH (by kernel_rfl) (fun a hE => ?_)
    refine wpFrom_end (by kernel_rfl) ?_
    refine Exit.then_normal (hK5 _ _ ?_)
    refine wp_ret ?_
    refine Exit.then_ret ?_
    cases h
    exact ret1 rfl hE hle hH (by kernel_rfl)
  · replace h := ifF hc h
    refine wp_skip ?_
    refine Exit.then_normal (hK3 _ _ ?_)
    obtain ⟨i, hi, h⟩ := bs h
    obtain ⟨o, ho, h⟩ := bs h
    obtain ⟨n, hn, h⟩ := bs h
    refine wp_seq_k (fun K hK6 => ?_)
    refine wp_seq_k (fun K hK7 => ?_)
    refine wp_region_from ?_
    refine segO 4 [.pt i, .ob fs105 o] [(12, .fm 105 i 1)] (Os := [_, _]) ⟨hi, ob105 ho, trivial⟩ hE hH (by kernel_rfl) (fun a hE => ?_)
    refine stepRange (kk := .str) (kv := .ptr 108) (m := o.2.1) (t := 105) (j := i) (f := 1) (d := some 13) hE hH (by kernel_rfl) (by kernel_rfl) (ob105 ho) rfl (fun r mr es cl a w G hl hE hH hh hr hm => ?_)
    have hle := Gh.le_trans hle hl
    refine wpFrom_end (by kernel_rfl) ?_
    refine Exit.then_normal (hK7 _ _ ?_)
    refine wp_block ?_
    refine loop_intro (fun Q c hQ hc => ?_)
    have key : ∀ (k : Nat) (seen : Array Nat) (done : List (List UInt8 × Option Nat)) (q : Nat), es.toList.length < seen.toList.length + k → Gone (kk := .str) (kv := .ptr 108) es.toList o.2.1 seen.toList done → usedS done σ = some q →
        ∀ (a : Act) (w : World), EnvR G 26 a [(3, .kv .i (IntKind.wrap .i64 q)), (13, .val (.pointer (some ⟨r, 0, none⟩)))] → Holds w G (tabs σ) (.iter r (itO mr cl seen) :: Ls) → w.heap[mr]? = some (.map es cl) →
        (∀ a w seen, EnvR G 26 a [(3, .kv .i (IntKind.wrap .i64 n)), (13, .val (.pointer (some ⟨r, 0, none⟩)))] → Holds w G (tabs σ) (.iter r (itO mr cl seen) :: Ls) → Q (.exit 0) a w) → Rnd Try.prog c Q a w := by
      intro k
      induction k with
      | zero =>
        intro seen done q hk hg
        have := hg.len
        omega
      | succ k ih =>
        intro seen done q hk hg hq a w hE hH hh hx
        refine rnd_step' hc ?_
        refine wp_seq_k (fun K hK8 => ?_)
        refine wp_region_from ?_
        refine stepNext (kk := .str) (kv := .ptr 108) (m := o.2.1) (d := some 14) hE hH hh hm (by kernel_rfl) (by kernel_rfl) (fun hall a w hE hH => ?_) (fun ix e p hix hp hns a w hE hH hh => ?_)
        · refine segO 1 [] [(15, .kv .bool false)] (Os := []) trivial hE hH (by kernel_rfl) (fun a hE => ?_)
          refine wpFrom_end (by kernel_rfl) ?_
          refine Exit.then_normal (hK8 _ _ ?_)
          refine wp_seq_k (fun K hK9 => ?_)
          refine condF hE (by kernel_rfl) rfl ?_
          refine wp_exit ?_
          refine Exit.then_exit ?_
          refine Exit.then_exit ?_
          have hperm := hg.all (by rw [hm.1.length]) hm.2.2 hall
          have := usedS_perm hperm hq
          rw [hn] at this
          cases this
          exact hx _ _ _ (hE.subC (by kernel_rfl)) hH
        · refine segO 1 [] [(15, .kv .bool true)] (Os := []) trivial hE hH (by kernel_rfl) (fun a hE => ?_)
          refine wpFrom_end (by kernel_rfl) ?_
          refine Exit.then_normal (hK8 _ _ ?_)
          refine wp_seq_k (fun K hK9 => ?_)
          refine condT hE (by kernel_rfl) rfl ?_
          refine wp_skip ?_
          refine Exit.then_normal (hK9 _ _ ?_)
          obtain ⟨i2, o2, hi2, ho2⟩ := usedS_mem hn (List.mem_of_getElem? hp)
          refine wp_block ?_
          refine wp_seq_k (fun K hK10 => ?_)
          refine wp_region_from ?_
          refine stepEntry (kk := .str) (kv := .ptr 108) (m := o.2.1) (d := some 16) hE hH hh hm hix hp (by kernel_rfl) (by kernel_rfl) (fun a hE => ?_)
          refine segO 2 [] [(5, .kv (.ptr 108) p.2)] (Os := []) trivial hE hH (by kernel_rfl) (fun a hE => ?_)
          refine wpFrom_end (by kernel_rfl) ?_
          refine Exit.then_normal (hK10 _ _ ?_)
          refine wp_region_from ?_
          refine segO 8 [.pt i2, .ob fs108 o2] [(3, .kv .i (IntKind.wrap .i64 (IntKind.wrap .i64 q + (o2.1.length : Int))))] (Os := [_, _]) ⟨hi2, ob108 ho2, trivial⟩ hE hH (by kernel_rfl) (fun a hE => ?_)
          refine wpFrom_end (by kernel_rfl) ?_
          refine Exit.in_normal ?_
          refine Exit.then_normal ?_
          rw [wrap_wrap] at hE
          refine ih (seen.push e.born) (done ++ [p]) (q + o2.1.length) ?_ ?_ (usedS_snoc hi2 ho2 hq) a w ((hE.re 3 (by kernel_rfl) (e' := .kv .i (IntKind.wrap .i64 ((q + o2.1.length : Nat) : Int))) (congrArg (fun z => En.kv .i (IntKind.wrap .i64 z)) (Int.natCast_add q o2.1.length).symm)).subC (by kernel_rfl)) hH hh hx
          · simp at hk ⊢; omega
          · rw [Array.toList_push]; exact hg.next hix hp hns
    refine key (es.toList.length + 1) #[] [] 0 (by simp) Gone.nil rfl a w (hE.subC (by kernel_rfl)) hH hh (fun a w seen hE hH => ?_)
    rw [hQ]
    have hH := hH.drop (fun _ _ _ => rfl)
    refine Exit.in_eq ?_
    refine Exit.then_normal (hK6 _ _ ?_)
    refine wp_seq_k (fun K hK11 => ?_)
    refine wp_region_from ?_
    refine segO 2 [] [(2, .kv .i (IntKind.wrap .i64 n))] (Os := []) trivial hE hH (by kernel_rfl) (fun a hE => ?_)
    refine wpFrom_end (by kernel_rfl) ?_
    refine Exit.then_normal (hK11 _ _ ?_)
    refine wp_ret ?_
    cases h
    exact ret1 rfl hE hle hH (by kernel_rfl)
end Go.Proofs.Ytlfemhkabjafeaa.M

/- The walk of (*Disk).List: the keys of the map, collected in any order, sorted by the library. -/
set_option linter.unusedVariables false
set_option maxRecDepth 100000

namespace Go.Proofs
open Go.Shelf
def Try.lays190_ren : Go.Shelf.Ren := ⟨fun | 190 => 62 | 125 => 101 | 258 => 100 | 128 => 126 | 129 => 127 | 302 => 117 | 303 => 118 | 304 => 119 | 305 => 120 | 306 => 121 | 307 => 122 | 308 => 123 | 309 => 124 | 310 => 125 | 333 => 141 | 329 => 142 | 330 => 143 | 334 => 144 | 335 => 145 | 336 => 146 | 344 => 153 | n => n, fun | 31 => 33 | 9 => 9 | 3 => 3 | 46 => 137 | 0 => 0 | 51 => 143 | 53 => 123 | 4 => 4 | 183 => 151 | 182 => 150 | 131 => 155 | 5 => 5 | 218 => 166 | 222 => 170 | 228 => 177 | 229 => 178 | n => n, fun | n => n⟩
theorem Try.lays190 : Lays.n190 Try.prog Try.lays190_ren := {
  mixed := by kernel_rfl
  f125 := Try.func101.trans (congrArg some (by kernel_rfl))
  f128 := Try.func126.trans (congrArg some (by kernel_rfl))
  f129 := Try.func127.trans (congrArg some (by kernel_rfl))
  f190 := Try.func62.trans (congrArg some (by kernel_rfl))
  f258 := Try.func100.trans (congrArg some (by kernel_rfl))
  f302 := Try.func117.trans (congrArg some (by kernel_rfl))
  f303 := Try.func118.trans (congrArg some (by kernel_rfl))
  f304 := Try.func119.trans (congrArg some (by kernel_rfl))
  f305 := Try.func120.trans (congrArg some (by kernel_rfl))
  f306 := Try.func121.trans (congrArg some (by kernel_rfl))
  f307 := Try.func122.trans (congrArg some (by kernel_rfl))
  f308 := Try.func123.trans (congrArg some (by kernel_rfl))
  f309 := Try.func124.trans (congrArg some (by kernel_rfl))
  f310 := Try.func125.trans (congrArg some (by kernel_rfl))
  f329 := Try.func142.trans (congrArg some (by kernel_rfl))
  f330 := Try.func143.trans (congrArg some (by kernel_rfl))
  f333 := Try.func141.trans (congrArg some (by kernel_rfl))
  f334 := Try.func144.trans (congrArg some (by kernel_rfl))
  f335 := Try.func145.trans (congrArg some (by kernel_rfl))
  f336 := Try.func146.trans (congrArg some (by kernel_rfl))
  f344 := Try.func153.trans (congrArg some (by kernel_rfl))
  t0 := Try.underlying0
  a0 := Try.isAgg0
  z0 := Try.sizeOf0
  v0 := Try.zeroValue0
  t3 := Try.underlying3
  a3 := Try.isAgg3
  z3 := Try.sizeOf3
  v3 := Try.zeroValue3
  t4 := Try.underlying4
  a4 := Try.isAgg4
  z4 := Try.sizeOf4
  v4 := Try.zeroValue4
  t5 := Try.underlying5
  a5 := Try.isAgg5
  z5 := Try.sizeOf5
  v5 := Try.zeroValue5
  t9 := Try.underlying9
  a9 := Try.isAgg9
  z9 := Try.sizeOf9
  v9 := Try.zeroValue9
  t31 := Try.underlying33
  a31 := Try.isAgg33
  z31 := Try.sizeOf33
  v31 := Try.zeroValue33
  t46 := Try.underlying137
  a46 := Try.isAgg137
  z46 := Try.sizeOf137
  v46 := Try.zeroValue137
  t51 := Try.underlying143
  a51 := Try.isAgg143
  z51 := Try.sizeOf143
  v51 := Try.zeroValue143
  t53 := Try.underlying123
  a53 := Try.isAgg123
  z53 := Try.sizeOf123
  v53 := Try.zeroValue123
  t131 := Try.underlying155
  a131 := Try.isAgg155
  z131 := Try.sizeOf155
  v131 := Try.zeroValue155
  t182 := Try.underlying150
  a182 := Try.isAgg150
  z182 := Try.sizeOf150
  v182 := Try.zeroValue150
  t183 := Try.underlying151
  a183 := Try.isAgg151
  z183 := Try.sizeOf151
  v183 := Try.zeroValue151
  t218 := Try.underlying166
  a218 := Try.isAgg166
  z218 := Try.sizeOf166
  v218 := Try.zeroValue166
  t222 := Try.underlying170
  a222 := Try.isAgg170
  z222 := Try.sizeOf170
  v222 := Try.zeroValue170
  t228 := Try.underlying177
  a228 := Try.isAgg177
  z228 := Try.sizeOf177
  v228 := Try.zeroValue177
  t229 := Try.underlying178
  a229 := Try.isAgg178
  z229 := Try.sizeOf178
  v229 := Try.zeroValue178 }
end Go.Proofs

namespace Go.Proofs.Ytlfemhkabjafeaa.M
open Go.Proofs (Try.prog Try.func21 Try.f21 Try.lays190)

/-- Names in their order. -/
def sorted (l : List (List UInt8)) : List (List UInt8) := l.mergeSort (fun x y => decide (x ≤ y))

def f21 (p0 : Option Nat) (σ : St) : Option (List (List UInt8)) :=
  if p0.isNone = true then some [] else
  p0 >>= fun i => (σ.t105[i]?) >>= fun o => if (o.2.1.length + 1) * 16 ≤ 140737488355328 then some (sorted (o.2.1.map (·.1))) else none

theorem Gone.len2 {kk kv : Kd} {es : List MapEntry} {m done : List (kk.den × kv.den)} {seen : List Nat} (h : Gone es m seen done) : done.length ≤ es.length := by
  have h0 := h.len
  obtain ⟨is, h1, rfl, rfl, h4⟩ := h
  rw [List.length_map] at h0
  exact Nat.le_trans (List.length_filterMap_le _ _) h0

theorem set_self {α : Type} : ∀ {l : List α} {j : Nat} {x : α}, l[j]? = some x → l.set j x = l
  | [], _, _, h => by simp at h
  | y :: l, 0, x, h => by simp at h; subst h; rfl
  | y :: l, j + 1, x, h => by rw [List.set_cons_succ, set_self (by simpa using h)]

section
variable {w : World} {G : Gh} {T : Tabs} {Ls : List LS} {a : Act} {N : Nat} {E : Env} {ops : Array Oper} {Q : Exit → Act → World → Prop}

theorem sort_calls {j e bt : Nat} {v : Value} {xs : List (List UInt8)} (hH : Holds w G T Ls) (hj : Ls[j]? = some (.raw v e bt .str xs)) (hlen : xs.length < 4611686018427387904) :
    Calls Try.prog 62 #[v] w (PostC G (.tup []) T (Ls.set j (.raw v e bt .str (sorted xs)))) := by
  obtain ⟨cs, o1, o2, o3, o4⟩ := hH.loc _ (List.mem_of_getElem? hj)
  rcases o1.2 with ⟨rfl, hn⟩ | ⟨g, cap, cur, rfl, hb0, hb, h1, h2, h3, h4⟩
  · have hx : xs = [] := List.eq_nil_of_length_eq_zero hn
    subst hx
    refine (Any.slices_Sort_string_none Try.lays190 none 0 w).mono ?_
    rintro e' w' ⟨rfl, rfl⟩
    refine ⟨G, Gh.le_refl G, ⟨#[], rfl, trivial⟩, ?_⟩
    have : Ls.set j (.raw (.slice none 0 0) e bt .str (sorted [])) = Ls := by
      have : sorted [] = [] := by simp [sorted]
      rw [this]
      exact set_self hj
    rw [this]; exact hH
  · have hst : cur.toList.take xs.length = xs.map encStr := by
      have := rowR_strs o2
      simp only [Kd.w, Nat.mul_one] at h4
      rw [h4]
      rw [← this]
      have hcl := o1.1
      simp only [Kd.w, Nat.mul_one] at hcl
      rw [List.take_of_length_le (by omega)]
    refine (Any.slices_Sort_string Try.lays190 g 0 cap xs w (holds_of_block hb hst) (Array.getElem?_eq_some_iff.1 hb).1 hlen).mono ?_
    rintro e' w' ⟨rfl, n, os, rfl⟩
    exact ⟨G, Gh.le_refl G, ⟨#[], rfl, trivial⟩, hH.rawSorted hj (by simp)⟩
end

theorem f21_ok {p0 : Option Nat} {σ : St} {p : List (List UInt8)} (h : f21 p0 σ = some p) : Spec Try.prog 21 [.kv (.ptr 105) p0] (tabs σ) (.kv (.list .str) p) (tabs σ) := by
  refine Spec.intro Try.func21 (by kernel_rfl) rfl (by kernel_rfl) (fun a w G0 Ls hE hH hN => ?_)
  have hle : G0.le G0 := Gh.le_refl G0
  unfold f21 at h
  refine wp_seq_k (fun K hK1 => ?_)
  refine wp_region_from ?_
  refine segO 1 [] [(2, .val (.slice none 0 0))] (Os := []) trivial hE hH (by kernel_rfl) (fun a hE => ?_)
  refine wpFrom_end (by kernel_rfl) ?_
  refine Exit.then_normal (hK1 _ _ ?_)
  refine wp_seq_k (fun K hK2 => ?_)
  refine wp_region_from ?_
  refine segO 1 [] [(3, .val (.slice none 0 0))] (Os := []) trivial hE hH (by kernel_rfl) (fun a hE => ?_)
  refine wpFrom_end (by kernel_rfl) ?_
  refine Exit.then_normal (hK2 _ _ ?_)
  refine wp_seq_k (fun K hK3 => ?_)
  refine wp_seq_k (fun K hK4 => ?_)
  refine wp_region_from ?_
  refine segO 2 [] [(6, .kv .bool p0.isNone)] (Os := []) trivial hE hH (by kernel_rfl) (fun a hE => ?_)
  refine wpFrom_end (by kernel_rfl) ?_
  refine Exit.then_normal (hK4 _ _ ?_)
  refine condE (b := p0.isNone) hE (by kernel_rfl) (fun hc => ?_) (fun hc => ?_)
  · replace h := ifT hc h
    refine wp_seq_k (fun K hK5 => ?_)
    refine wp_region_from ?_
    refine segO 2 [] [(2, .val (.slice none 0 0))] (Os := []) trivial hE hH (by kernel_rfl) (fun a hE => ?_)
    refine wpFrom_end (by kernel_rfl) ?_
    refine Exit.then_normal (hK5 _ _ ?_)
    refine wp_ret ?_
    refine Exit.then_ret ?_
    cases h
    exact ret1 rfl hE hle hH (by kernel_rfl)
  · replace h := ifF hc h
    refine wp_skip ?_
    refine Exit.then_normal (hK3 _ _ ?_)
    obtain ⟨i, hi, h⟩ := bs h
    obtain ⟨o, ho, h⟩ := bs h
    obtain ⟨hsz, h⟩ := gd h
    refine wp_seq_k (fun K hK6 => ?_)
    refine wp_seq_k (fun K hK7 => ?_)
    refine wp_region_from ?_
    refine segO 4 [.pt i, .ob fs105 o] [(11, .fm 105 i 1)] (Os := [_, _]) ⟨hi, ob105 ho, trivial⟩ hE hH (by kernel_rfl) (fun a hE => ?_)
    have hH := hH.nilRaw 9 16 .str
    refine stepRange (kk := .str) (kv := .ptr 108) (m := o.2.1) (t := 105) (j := i) (f := 1) (d := some 12) hE hH (by kernel_rfl) (by kernel_rfl) (ob105 ho) rfl (fun r mr es cl a w G hl hE hH hh hr hm => ?_)
    have hle := Gh.le_trans hle hl
    refine wpFrom_end (by kernel_rfl) ?_
    refine Exit.then_normal (hK7 _ _ ?_)
    refine wp_block ?_
    refine loop_intro (fun Q c hQ hc => ?_)
    have key : ∀ (k : Nat) (seen : Array Nat) (done : List (List UInt8 × Option Nat)) (v : Value), es.toList.length < seen.toList.length + k → Gone (kk := .str) (kv := .ptr 108) es.toList o.2.1 seen.toList done →
        ∀ (a : Act) (w : World) (G : Gh), G0.le G → EnvR G 24 a [(3, .val v), (12, .val (.pointer (some ⟨r, 0, none⟩)))] → Holds w G (tabs σ) (.iter r (itO mr cl seen) :: .raw v 9 16 .str (done.map (·.1)) :: Ls) → w.heap[mr]? = some (.map es cl) → G.role mr = .fld 105 i 1 → mapR G .str (.ptr 108) o.2.1 es.toList cl →
        (∀ (a : Act) (w : World) (G : Gh) (seen : Array Nat) (done : List (List UInt8 × Option Nat)) (v : Value), done.Perm o.2.1 → G0.le G → EnvR G 24 a [(3, .val v), (12, .val (.pointer (some ⟨r, 0, none⟩)))] → Holds w G (tabs σ) (.iter r (itO mr cl seen) :: .raw v 9 16 .str (done.map (·.1)) :: Ls) → Q (.exit 0) a w) → Rnd Try.prog c Q a w := by
      intro k
      induction k with
      | zero =>
        intro seen done v hk hg
        have := hg.len
        omega
      | succ k ih =>
        intro seen done v hk hg a w G hle hE hH hh hr hm hx
        refine rnd_step' hc ?_
        refine wp_seq_k (fun K hK8 => ?_)
        refine wp_region_from ?_
        refine stepNext (kk := .str) (kv := .ptr 108) (m := o.2.1) (d := some 13) hE hH hh hm (by kernel_rfl) (by kernel_rfl) (fun hall a w hE hH => ?_) (fun ix e p hix hp hns a w hE hH hh => ?_)
        · refine segO 1 [] [(14, .kv .bool false)] (Os := []) trivial hE hH (by kernel_rfl) (fun a hE => ?_)
          refine wpFrom_end (by kernel_rfl) ?_
          refine Exit.then_normal (hK8 _ _ ?_)
          refine wp_seq_k (fun K hK9 => ?_)
          refine condF hE (by kernel_rfl) rfl ?_
          refine wp_exit ?_
          refine Exit.then_exit ?_
          refine Exit.then_exit ?_
          exact hx _ _ _ _ _ _ (hg.all (by rw [hm.1.length]) hm.2.2 hall) hle (hE.subC (by kernel_rfl)) hH
        · refine segO 1 [] [(14, .kv .bool true)] (Os := []) trivial hE hH (by kernel_rfl) (fun a hE => ?_)
          refine wpFrom_end (by kernel_rfl) ?_
          refine Exit.then_normal (hK8 _ _ ?_)
          refine wp_seq_k (fun K hK9 => ?_)
          refine condT hE (by kernel_rfl) rfl ?_
          refine wp_skip ?_
          refine Exit.then_normal (hK9 _ _ ?_)
          refine wp_block ?_
          refine wp_seq_k (fun K hK10 => ?_)
          refine wp_region_from ?_
          refine stepEntry (kk := .str) (kv := .ptr 108) (m := o.2.1) (d := some 15) hE hH hh hm hix hp (by kernel_rfl) (by kernel_rfl) (fun a hE => ?_)
          refine segO 2 [] [(4, .kv .str p.1)] (Os := []) trivial hE hH (by kernel_rfl) (fun a hE => ?_)
          refine wpFrom_end (by kernel_rfl) ?_
          refine Exit.then_normal (hK10 _ _ ?_)
          refine wp_region_from ?_
          refine segO 2 [] [(17, .val v), (18, .kv .str p.1)] (Os := []) trivial hE hH (by kernel_rfl) (fun a hE => ?_)
          refine stepBuildS' (d := some 19) .str [p.1] hE hH (by kernel_rfl) (by kernel_rfl) (fun a w' G' hl hE hH hkeep => ?_)
          have hle := Gh.le_trans hle hl
          have hm := mapR_mono hl hm
          obtain ⟨hkeep1, hkeep2⟩ := hkeep mr (by rw [hr]; simp)
          rw [← hkeep1] at hh
          rw [← hkeep2] at hr
          refine stepAppR (e' := 9) (bt := 16) (K := .str) (xs := done.map (·.1)) (ys := [p.1]) (d := some 20) 1 hE hH (by kernel_rfl) rfl (by kernel_rfl) (by have h1 := hg.len2; rw [← hm.1.length] at h1; simp only [List.length_map, List.length_cons, List.length_nil]; omega) (fun v' a w'' G'' hl hE hH hfix hro => ?_)
          have hle := Gh.le_trans hle hl
          have hm := mapR_mono hl hm
          have hh2 := hfix mr _ _ _ hr
          have hr2 := hro mr (by rw [hr]; simp)
          rw [← hh2] at hh
          rw [← hr2] at hr
          refine segO 1 [] [(3, .val v')] (Os := []) trivial hE hH (by kernel_rfl) (fun a hE => ?_)
          refine wpFrom_end (by kernel_rfl) ?_
          refine Exit.in_normal ?_
          refine Exit.then_normal ?_
          refine ih (seen.push e.born) (done ++ [p]) v' ?_ ?_ a _ _ hle (hE.subC (by kernel_rfl)) ?_ hh hr hm hx
          · simp at hk ⊢; omega
          · rw [Array.toList_push]; exact hg.next hix hp hns
          · rw [List.map_append]; exact hH
    refine key (es.toList.length + 1) #[] [] (.slice none 0 0) (by simp) Gone.nil a w G hle (hE.subC (by kernel_rfl)) hH hh hr hm (fun a w G seen done v hperm hle hE hH => ?_)
    rw [hQ]
    have hH := hH.drop (fun _ _ _ => rfl)
    refine Exit.in_eq ?_
    refine Exit.then_normal (hK6 _ _ ?_)
    refine wp_seq_k (fun K hK11 => ?_)
    refine wp_region_from ?_
    refine segO 1 [] [(21, .val v)] (Os := []) trivial hE hH (by kernel_rfl) (fun a hE => ?_)
    refine stepCallV (f := 62) (As := [.val v]) (R := .tup []) (d := some 22) (T' := tabs σ) (Ls' := .raw v 9 16 .str (sorted (done.map (·.1))) :: Ls) (by kernel_rfl) (fun args hA => ?_) hE (by kernel_rfl) (by kernel_rfl) trivial (fun a w G hl hE hH => ?_)
    · match args, hA with
      | [u], ⟨hu, _⟩ =>
        simp only [EnR] at hu
        subst hu
        exact sort_calls (j := 0) hH rfl (by rw [List.length_map, hperm.length_eq]; omega)
    · have hle := Gh.le_trans hle hl
      refine wpFrom_end (by kernel_rfl) ?_
      refine Exit.then_normal (hK11 _ _ ?_)
      have hnd := hH.nd
      obtain ⟨G', hl, hv, hH⟩ := hH.rawPub (Ls' := Ls) List.mem_cons_self (fun l hlm => by
        cases hb : l.blk with
        | none => exact .inr ⟨rfl, List.mem_cons_of_mem _ hlm⟩
        | some b =>
          refine .inl ⟨List.mem_cons_of_mem _ hlm, fun he => ?_⟩
          rw [List.filterMap_cons_some (show LS.blk (.raw v 9 16 .str (sorted (done.map (·.1)))) = some b from he.symm)] at hnd
          exact (List.nodup_cons.1 hnd).1 (List.mem_filterMap.2 ⟨l, hlm, hb⟩)) (fun _ _ _ => rfl) (by
        cases hb : LS.blk (.raw v 9 16 .str (sorted (done.map (·.1)))) with
        | none => rwa [List.filterMap_cons_none hb] at hnd
        | some b => rw [List.filterMap_cons_some hb] at hnd; exact (List.nodup_cons.1 hnd).2)
      have hle := Gh.le_trans hle hl
      have hE := EnvR.more (v := v) (e := .kv (.list .str) (sorted (List.map (fun x : List UInt8 × Option Nat => x.1) done))) (hE.mono hl) 3 (by kernel_rfl) hv
      have hs : sorted (done.map (·.1)) = sorted (o.2.1.map (·.1)) := mergeSort_of_perm (hperm.map _)
      rw [hs] at hE
      cases h
      refine wp_seq_k (fun K hK12 => ?_)
      refine wp_region_from ?_
      refine segO 2 [] [(2, .kv (.list .str) (sorted (o.2.1.map (·.1))))] (Os := []) trivial hE hH (by kernel_rfl) (fun a hE => ?_)
      refine wpFrom_end (by kernel_rfl) ?_
      refine Exit.then_normal (hK12 _ _ ?_)
      refine wp_ret ?_
      exact ret1 rfl hE hle hH (by kernel_rfl)
end Go.Proofs.Ytlfemhkabjafeaa.M

/- Printed by own program: twins and walks. -/
set_option linter.unusedVariables false
set_option maxRecDepth 100000
namespace Go.Proofs.Ytlfemhkabjafeaa.M
open Go.Proofs (Try.prog Try.func24 Try.f24 Try.func27 Try.f27)

def f24 (p0 : Option Nat) (p1 : List UInt8) (p2 : List UInt8) (σ : St) : Option (Int × St) :=
  f70 p0 σ >>= fun r4 =>
  if (r4 != 0) = true then
  some (r4, σ)
  else
  f71 p1 >>= fun r9 =>
  if (!r9) = true then
  some (2, σ)
  else
  p0 >>= fun i12 =>
  (σ.t105[i12]?) >>= fun o13 =>
  (if (!((mapGet .str (.ptr 108) p1 o13.2.1).getD (zeroK (.ptr 108))).isNone) = true then
  ((mapGet .str (.ptr 108) p1 o13.2.1).getD (zeroK (.ptr 108))) >>= fun i77 =>
  (σ.t108[i77]?) >>= fun o78 =>
  some (o78.1.length : Int)
  else
  some 0 : Option Int) >>= fun z18 =>
  if (((mapGet .str (.ptr 108) p1 o13.2.1).getD (zeroK (.ptr 108))).isNone) = true then
  p0 >>= fun i23 =>
  (σ.t105[i23]?) >>= fun o24 =>
  if (decide ((o24.2.1.length : Int) ≥ 128)) = true then
  some (10, σ)
  else
  if (decide ((p2.length : Int) > (IntKind.wrap .i64 (65536 - z18)))) = true then
  some (10, σ)
  else
  p0 >>= fun i31 =>
  (σ.t105[i31]?) >>= fun o32 =>
  f20 p0 σ >>= fun r33 =>
  if (decide ((p2.length : Int) > (IntKind.wrap .i64 (o32.1 - r33)))) = true then
  some (10, σ)
  else
  (if (((mapGet .str (.ptr 108) p1 o13.2.1).getD (zeroK (.ptr 108))).isNone) = true then
  p0 >>= fun i50 =>
  ((σ.add108 ([], 0, ())).t105[i50]?) >>= fun o51 =>
  some (some σ.t108.length, ((σ.add108 ([], 0, ())).set105 i50 (o51.1, mapSet .str (.ptr 108) p1 (some σ.t108.length) o51.2.1, o51.2.2.1, o51.2.2.2.1, ())))
  else
  some ((mapGet .str (.ptr 108) p1 o13.2.1).getD (zeroK (.ptr 108)), σ) : Option ((Option Nat) × St)) >>= fun z39 =>
  z39.1 >>= fun i42 =>
  (z39.2.t108[i42]?) >>= fun o43 =>
  if o43.1.length + p2.length ≤ 9223372036854775807 then
  z39.1 >>= fun i45 =>
  (z39.2.t108[i45]?) >>= fun o46 =>
  f72 p0 f73 (z39.2.set108 i45 (o43.1 ++ p2, o46.2.1, ())) >>= fun r48 =>
  some (r48.1, r48.2)
  else none
  else
  if (decide ((p2.length : Int) > (IntKind.wrap .i64 (65536 - z18)))) = true then
  some (10, σ)
  else
  p0 >>= fun i56 =>
  (σ.t105[i56]?) >>= fun o57 =>
  f20 p0 σ >>= fun r58 =>
  if (decide ((p2.length : Int) > (IntKind.wrap .i64 (o57.1 - r58)))) = true then
  some (10, σ)
  else
  (if (((mapGet .str (.ptr 108) p1 o13.2.1).getD (zeroK (.ptr 108))).isNone) = true then
  p0 >>= fun i75 =>
  ((σ.add108 ([], 0, ())).t105[i75]?) >>= fun o76 =>
  some (some σ.t108.length, ((σ.add108 ([], 0, ())).set105 i75 (o76.1, mapSet .str (.ptr 108) p1 (some σ.t108.length) o76.2.1, o76.2.2.1, o76.2.2.2.1, ())))
  else
  some ((mapGet .str (.ptr 108) p1 o13.2.1).getD (zeroK (.ptr 108)), σ) : Option ((Option Nat) × St)) >>= fun z64 =>
  z64.1 >>= fun i67 =>
  (z64.2.t108[i67]?) >>= fun o68 =>
  if o68.1.length + p2.length ≤ 9223372036854775807 then
  z64.1 >>= fun i70 =>
  (z64.2.t108[i70]?) >>= fun o71 =>
  f72 p0 f73 (z64.2.set108 i70 (o68.1 ++ p2, o71.2.1, ())) >>= fun r73 =>
  some (r73.1, r73.2)
  else none

theorem f24_ok {p0 : Option Nat} {p1 : List UInt8} {p2 : List UInt8} {σ : St} {p : Int × St} (h : f24 p0 p1 p2 σ = some p) : Spec Try.prog 24 [.kv (.ptr 105) p0, .kv .str p1, .kv .str p2] (tabs σ) (.kv .i p.1) (tabs p.2) := by
  refine Spec.intro Try.func24 (by kernel_rfl) rfl (by kernel_rfl) (fun a w G0 Ls hE hH hN => ?_)
  have hle : G0.le G0 := Gh.le_refl G0
  unfold f24 at h
  refine wp_seq_k (fun K hK1 => ?_)
  refine wp_region_from ?_
  refine segO 1 [] [(6, .kv .i 0)] (Os := []) trivial hE hH (by kernel_rfl) (fun a hE => ?_)
  refine wpFrom_end (by kernel_rfl) ?_
  refine Exit.then_normal (hK1 _ _ ?_)
  refine wp_seq_k (fun K hK2 => ?_)
  refine wp_seq_k (fun K hK3 => ?_)
  refine wp_region_from ?_
  refine segO 1 [] [(10, .kv (.ptr 105) p0)] (Os := []) trivial hE hH (by kernel_rfl) (fun a hE => ?_)
  obtain ⟨r4, hr4, h⟩ := bs h
  refine stepCall (d := (some 11)) (f70_ok hr4) hE hH hN (by kernel_rfl) (by kernel_rfl) trivial (fun a w G hl1 hE hH => ?_)
  have hle := Gh.le_trans hle hl1
  refine segO 1 [] [(7, .kv .i r4)] (Os := []) trivial hE hH (by kernel_rfl) (fun a hE => ?_)
  refine wpFrom_end (by kernel_rfl) ?_
  refine Exit.then_normal (hK3 _ _ ?_)
  refine wp_seq_k (fun K hK5 => ?_)
  refine wp_region_from ?_
  refine segO 2 [] [(13, .kv .bool (r4 != 0))] (Os := []) trivial hE hH (by kernel_rfl) (fun a hE => ?_)
  refine wpFrom_end (by kernel_rfl) ?_
  refine Exit.then_normal (hK5 _ _ ?_)
  refine condE (b := r4 != 0) hE (by kernel_rfl) (fun hc => ?_) (fun hc => ?_)
  · replace h := ifT hc h
    refine wp_seq_k (fun K hK6 => ?_)
    refine wp_region_from ?_
    refine segO 2 [] [(6, .kv .i r4)] (Os := []) trivial hE hH (by kernel_rfl) (fun a hE => ?_)
    refine wpFrom_end (by kernel_rfl) ?_
    refine Exit.then_normal (hK6 _ _ ?_)
    refine wp_ret ?_
    refine Exit.then_ret ?_
    cases h
    exact ret1 rfl hE hle hH (by kernel_rfl)
  · replace h := ifF hc h
    refine wp_skip ?_
    refine Exit.then_normal (hK2 _ _ ?_)
    refine wp_seq_k (fun K hK7 => ?_)
    refine wp_seq_k (fun K hK8 => ?_)
    refine wp_region_from ?_
    refine segO 1 [] [(15, .kv .str p1)] (Os := []) trivial hE hH (by kernel_rfl) (fun a hE => ?_)
    obtain ⟨r9, hr9, h⟩ := bs h
    refine stepCall (d := (some 16)) (f71_ok hr9) hE hH hN (by kernel_rfl) (by kernel_rfl) trivial (fun a w G hl2 hE hH => ?_)
    have hle := Gh.le_trans hle hl2
    refine segO 1 [] [(17, .kv .bool (!r9))] (Os := []) trivial hE hH (by kernel_rfl) (fun a hE => ?_)
    refine wpFrom_end (by kernel_rfl) ?_
    refine Exit.then_normal (hK8 _ _ ?_)
    refine condE (b := !r9) hE (by kernel_rfl) (fun hc => ?_) (fun hc => ?_)
    · replace h := ifT hc h
      refine wp_seq_k (fun K hK10 => ?_)
      refine wp_region_from ?_
      refine segO 1 [] [(6, .kv .i 2)] (Os := []) trivial hE hH (by kernel_rfl) (fun a hE => ?_)
      refine wpFrom_end (by kernel_rfl) ?_
      refine Exit.then_normal (hK10 _ _ ?_)
      refine wp_ret ?_
      refine Exit.then_ret ?_
      cases h
      exact ret1 rfl hE hle hH (by kernel_rfl)
    · replace h := ifF hc h
      refine wp_skip ?_
      refine Exit.then_normal (hK7 _ _ ?_)
      refine wp_seq_k (fun K hK11 => ?_)
      refine wp_region_from ?_
      obtain ⟨i12, hi12, h⟩ := bs h
      obtain ⟨o13, ho13, h⟩ := bs h
      refine segO 7 [.pt i12, .ob fs105 o13, .ob fs105 o13] [(8, .kv (.ptr 108) ((mapGet .str (.ptr 108) p1 o13.2.1).getD (zeroK (.ptr 108))))] (Os := [_, _, _]) ⟨hi12, (ob105 (s := σ) ho13), (ob105 (s := σ) ho13), trivial⟩ hE hH (by kernel_rfl) (fun a hE => ?_)
      refine wpFrom_end (by kernel_rfl) ?_
      refine Exit.then_normal (hK11 _ _ ?_)
      refine wp_seq_k (fun K hK14 => ?_)
      refine wp_region_from ?_
      refine segO 1 [] [(9, .kv .i 0)] (Os := []) trivial hE hH (by kernel_rfl) (fun a hE => ?_)
      refine wpFrom_end (by kernel_rfl) ?_
      refine Exit.then_normal (hK14 _ _ ?_)
      refine wp_seq_k (fun K hK15 => ?_)
      refine wp_seq_k (fun K hK16 => ?_)
      refine wp_region_from ?_
      refine segO 2 [] [(25, .kv .bool (!((mapGet .str (.ptr 108) p1 o13.2.1).getD (zeroK (.ptr 108))).isNone))] (Os := []) trivial hE hH (by kernel_rfl) (fun a hE => ?_)
      refine wpFrom_end (by kernel_rfl) ?_
      refine Exit.then_normal (hK16 _ _ ?_)
      obtain ⟨z18, hz18, h⟩ := bs h
      refine join_intro (I := fun a w => ∃ (G : Gh), G0.le G ∧ EnvR G 80 a [(0, .kv (.ptr 105) p0), (1, .kv .str p1), (2, .kv .str p2), (6, .kv .i 0), (8, .kv (.ptr 108) ((mapGet .str (.ptr 108) p1 o13.2.1).getD (zeroK (.ptr 108)))), (9, .kv .i z18)] ∧ Holds w G (tabs σ) (Ls)) trivial ?_ ?_
      · intro a w hI
        obtain ⟨G, hle, hE, hH⟩ := hI
        refine Exit.then_normal (hK15 _ _ ?_)
        refine wp_seq_k (fun K hK20 => ?_)
        refine wp_seq_k (fun K hK21 => ?_)
        by_cases hc : (((mapGet .str (.ptr 108) p1 o13.2.1).getD (zeroK (.ptr 108))).isNone) = true
        · replace h := ifT hc h
          have c22 := hc
          obtain ⟨i23, hi23, h⟩ := bs h
          obtain ⟨o24, ho24, h⟩ := bs h
          by_cases hc : (decide ((o24.2.1.length : Int) ≥ 128)) = true
          · replace h := ifT hc h
            have c25 := hc
            refine region_par 27 [] [(0, 0), (0, 0), (0, 0), (0, 0), (0, 0), (0, 0), (0, 0), (0, 0), (0, 0), (0, 0), (0, 0), (0, 0), (0, 0), (0, 0), (0, 0), (0, 0), (0, 0), (0, 0), (0, 0), (0, 0), (0, 0), (0, 0), (0, 0), (0, 0), (0, 0), (0, 0), (0, 0)] [.kv (.ptr 108) ((mapGet .str (.ptr 108) p1 o13.2.1).getD (zeroK (.ptr 108))), .kv .bool (((mapGet .str (.ptr 108) p1 o13.2.1).getD (zeroK (.ptr 108))).isNone), .kv .bool true, .kv (.ptr 105) p0, .kv (.ptr 105) (some i23), .fldA 105 i23 1, .fm 105 i23 1, .kv .i (o24.2.1.length : Int), .kv .bool (decide ((o24.2.1.length : Int) ≥ 128)), .kv .bool (decide ((o24.2.1.length : Int) ≥ 128)), .kv .bool true, .undef, .undef, .undef, .undef, .undef, .kv .bool true, .kv .bool true, .undef, .undef, .undef, .undef, .undef, .undef, .undef, .undef, .undef] (fun _ => tabs σ) (fun _ => Ls) (by kernel_rfl) (by kernel_rfl) hE hH
                    ⟨⟨⟨⟨⟨⟨⟨⟨⟨⟨⟨⟨⟨⟨⟨⟨⟨⟨⟨⟨⟨⟨⟨⟨⟨⟨⟨trivial,
                    anyk (fun k => obR [] (Os := []) trivial (by kernel_rfl) (by kernel_rfl))⟩,
                    anyk (fun k => obR [] (Os := []) trivial (by kernel_rfl) (by kernel_rfl))⟩,
                    anyk (fun k => obRe [] (Os := []) trivial (by kernel_rfl) (by kernel_rfl) (eb2 c22 rfl))⟩,
                    anyk (fun k => obR [] (Os := []) trivial (by kernel_rfl) (by kernel_rfl))⟩,
                    anyk (fun k => obR [.pt i23] (Os := [_]) ⟨hi23, trivial⟩ (by kernel_rfl) (by kernel_rfl))⟩,
                    anyk (fun k => obR [] (Os := []) trivial (by kernel_rfl) (by kernel_rfl))⟩,
                    anyk (fun k => obR [.ob fs105 o24] (Os := [_]) ⟨(ob105 (s := σ) ho24), trivial⟩ (by kernel_rfl) (by kernel_rfl))⟩,
                    anyk (fun k => obR [.ob fs105 o24] (Os := [_]) ⟨(ob105 (s := σ) ho24), trivial⟩ (by kernel_rfl) (by kernel_rfl))⟩,
                    anyk (fun k => obR [] (Os := []) trivial (by kernel_rfl) (by kernel_rfl))⟩,
                    anyk (fun k => obR [] (Os := []) trivial (by kernel_rfl) (by kernel_rfl))⟩,
                    anyk (fun k => obRe [] (Os := []) trivial (by kernel_rfl) (by kernel_rfl) (eb2 c25 rfl))⟩,
                    anyk (fun k => obR [] (Os := []) trivial (by kernel_rfl) (by kernel_rfl))⟩,
                    anyk (fun k => obR [] (Os := []) trivial (by kernel_rfl) (by kernel_rfl))⟩,
                    anyk (fun k => obR [] (Os := []) trivial (by kernel_rfl) (by kernel_rfl))⟩,
                    anyk (fun k => obR [] (Os := []) trivial (by kernel_rfl) (by kernel_rfl))⟩,
                    anyk (fun k => obR [] (Os := []) trivial (by kernel_rfl) (by kernel_rfl))⟩,
                    anyk (fun k => obR [] (Os := []) trivial (by kernel_rfl) (by kernel_rfl))⟩,
                    anyk (fun k => obR [] (Os := []) trivial (by kernel_rfl) (by kernel_rfl))⟩,
                    anyk (fun k => obR [] (Os := []) trivial (by kernel_rfl) (by kernel_rfl))⟩,
                    anyk (fun k => obR [] (Os := []) trivial (by kernel_rfl) (by kernel_rfl))⟩,
                    anyk (fun k => obR [] (Os := []) trivial (by kernel_rfl) (by kernel_rfl))⟩,
                    anyk (fun k => obR [] (Os := []) trivial (by kernel_rfl) (by kernel_rfl))⟩,
                    anyk (fun k => obR [] (Os := []) trivial (by kernel_rfl) (by kernel_rfl))⟩,
                    anyk (fun k => obR [] (Os := []) trivial (by kernel_rfl) (by kernel_rfl))⟩,
                    anyk (fun k => obR [] (Os := []) trivial (by kernel_rfl) (by kernel_rfl))⟩,
                    anyk (fun k => obR [] (Os := []) trivial (by kernel_rfl) (by kernel_rfl))⟩,
                    anyk (fun k => obR [] (Os := []) trivial (by kernel_rfl) (by kernel_rfl))⟩ (fun a w G hl4 hE hH => ?_)
            have hle := Gh.le_trans hle hl4
            refine segO 2 [] [(59, .kv .bool true)] (Os := []) trivial hE hH (by kernel_rfl) (fun a hE => ?_)
            refine wpFrom_end (by kernel_rfl) ?_
            refine Exit.then_normal (hK21 _ _ ?_)
            refine condT hE (by kernel_rfl) rfl ?_
            refine wp_seq_k (fun K hK26 => ?_)
            refine wp_region_from ?_
            refine segO 1 [] [(6, .kv .i 10)] (Os := []) trivial hE hH (by kernel_rfl) (fun a hE => ?_)
            refine wpFrom_end (by kernel_rfl) ?_
            refine Exit.then_normal (hK26 _ _ ?_)
            refine wp_ret ?_
            refine Exit.then_ret ?_
            cases h
            exact ret1 rfl hE hle hH (by kernel_rfl)
          · replace h := ifN hc h
            have c27 := hc
            by_cases hc : (decide ((p2.length : Int) > (IntKind.wrap .i64 (65536 - z18)))) = true
            · replace h := ifT hc h
              have c28 := hc
              refine region_par 27 [] [(0, 0), (0, 0), (0, 0), (0, 0), (0, 0), (0, 0), (0, 0), (0, 0), (0, 0), (0, 0), (0, 0), (0, 0), (0, 0), (0, 0), (0, 0), (0, 0), (0, 0), (0, 0), (0, 0), (0, 0), (0, 0), (0, 0), (0, 0), (0, 0), (0, 0), (0, 0), (0, 0)] [.kv (.ptr 108) ((mapGet .str (.ptr 108) p1 o13.2.1).getD (zeroK (.ptr 108))), .kv .bool (((mapGet .str (.ptr 108) p1 o13.2.1).getD (zeroK (.ptr 108))).isNone), .kv .bool true, .kv (.ptr 105) p0, .kv (.ptr 105) (some i23), .fldA 105 i23 1, .fm 105 i23 1, .kv .i (o24.2.1.length : Int), .kv .bool (decide ((o24.2.1.length : Int) ≥ 128)), .kv .bool (decide ((o24.2.1.length : Int) ≥ 128)), .kv .bool false, .kv .str p2, .kv .i (p2.length : Int), .kv .i z18, .kv .i (IntKind.wrap .i64 (65536 - z18)), .kv .bool (decide ((p2.length : Int) > (IntKind.wrap .i64 (65536 - z18)))), .kv .bool (decide ((p2.length : Int) > (IntKind.wrap .i64 (65536 - z18)))), .kv .bool true, .undef, .undef, .undef, .undef, .undef, .undef, .undef, .undef, .undef] (fun _ => tabs σ) (fun _ => Ls) (by kernel_rfl) (by kernel_rfl) hE hH
                      ⟨⟨⟨⟨⟨⟨⟨⟨⟨⟨⟨⟨⟨⟨⟨⟨⟨⟨⟨⟨⟨⟨⟨⟨⟨⟨⟨trivial,
                      anyk (fun k => obR [] (Os := []) trivial (by kernel_rfl) (by kernel_rfl))⟩,
                      anyk (fun k => obR [] (Os := []) trivial (by kernel_rfl) (by kernel_rfl))⟩,
                      anyk (fun k => obRe [] (Os := []) trivial (by kernel_rfl) (by kernel_rfl) (eb2 c22 rfl))⟩,
                      anyk (fun k => obR [] (Os := []) trivial (by kernel_rfl) (by kernel_rfl))⟩,
                      anyk (fun k => obR [.pt i23] (Os := [_]) ⟨hi23, trivial⟩ (by kernel_rfl) (by kernel_rfl))⟩,
                      anyk (fun k => obR [] (Os := []) trivial (by kernel_rfl) (by kernel_rfl))⟩,
                      anyk (fun k => obR [.ob fs105 o24] (Os := [_]) ⟨(ob105 (s := σ) ho24), trivial⟩ (by kernel_rfl) (by kernel_rfl))⟩,
                      anyk (fun k => obR [.ob fs105 o24] (Os := [_]) ⟨(ob105 (s := σ) ho24), trivial⟩ (by kernel_rfl) (by kernel_rfl))⟩,
                      anyk (fun k => obR [] (Os := []) trivial (by kernel_rfl) (by kernel_rfl))⟩,
                      anyk (fun k => obR [] (Os := []) trivial (by kernel_rfl) (by kernel_rfl))⟩,
                      anyk (fun k => obRe [] (Os := []) trivial (by kernel_rfl) (by kernel_rfl) (eb2 (bf c27) rfl))⟩,
                      anyk (fun k => obR [] (Os := []) trivial (by kernel_rfl) (by kernel_rfl))⟩,
                      anyk (fun k => obR [] (Os := []) trivial (by kernel_rfl) (by kernel_rfl))⟩,
                      anyk (fun k => obR [] (Os := []) trivial (by kernel_rfl) (by kernel_rfl))⟩,
                      anyk (fun k => obR [] (Os := []) trivial (by kernel_rfl) (by kernel_rfl))⟩,
                      anyk (fun k => obR [] (Os := []) trivial (by kernel_rfl) (by kernel_rfl))⟩,
                      anyk (fun k => obR [] (Os := []) trivial (by kernel_rfl) (by kernel_rfl))⟩,
                      anyk (fun k => obRe [] (Os := []) trivial (by kernel_rfl) (by kernel_rfl) (eb2 c28 rfl))⟩,
                      anyk (fun k => obR [] (Os := []) trivial (by kernel_rfl) (by kernel_rfl))⟩,
                      anyk (fun k => obR [] (Os := []) trivial (by kernel_rfl) (by kernel_rfl))⟩,
                      anyk (fun k => obR [] (Os := []) trivial (by kernel_rfl) (by kernel_rfl))⟩,
                      anyk (fun k => obR [] (Os := []) trivial (by kernel_rfl) (by kernel_rfl))⟩,
                      anyk (fun k => obR [] (Os := []) trivial (by kernel_rfl) (by kernel_rfl))⟩,
                      anyk (fun k => obR [] (Os := []) trivial (by kernel_rfl) (by kernel_rfl))⟩,
                      anyk (fun k => obR [] (Os := []) trivial (by kernel_rfl) (by kernel_rfl))⟩,
                      anyk (fun k => obR [] (Os := []) trivial (by kernel_rfl) (by kernel_rfl))⟩,
                      anyk (fun k => obR [] (Os := []) trivial (by kernel_rfl) (by kernel_rfl))⟩ (fun a w G hl5 hE hH => ?_)
              have hle := Gh.le_trans hle hl5
              refine segO 2 [] [(59, .kv .bool true)] (Os := []) trivial hE hH (by kernel_rfl) (fun a hE => ?_)
              refine wpFrom_end (by kernel_rfl) ?_
              refine Exit.then_normal (hK21 _ _ ?_)
              refine condT hE (by kernel_rfl) rfl ?_
              refine wp_seq_k (fun K hK29 => ?_)
              refine wp_region_from ?_
              refine segO 1 [] [(6, .kv .i 10)] (Os := []) trivial hE hH (by kernel_rfl) (fun a hE => ?_)
              refine wpFrom_end (by kernel_rfl) ?_
              refine Exit.then_normal (hK29 _ _ ?_)
              refine wp_ret ?_
              refine Exit.then_ret ?_
              cases h
              exact ret1 rfl hE hle hH (by kernel_rfl)
            · replace h := ifN hc h
              have c30 := hc
              obtain ⟨i31, hi31, h⟩ := bs h
              obtain ⟨o32, ho32, h⟩ := bs h
              obtain ⟨r33, hr33, h⟩ := bs h
              refine region_par 27 [25] [(0, 0), (0, 0), (0, 0), (0, 0), (0, 0), (0, 0), (0, 0), (0, 0), (0, 0), (0, 0), (0, 0), (0, 0), (0, 0), (0, 0), (0, 0), (0, 0), (0, 0), (0, 0), (0, 1), (0, 1), (0, 1), (0, 1), (0, 1), (0, 1), (0, 0), (0, 0), (1, 1)] [.kv (.ptr 108) ((mapGet .str (.ptr 108) p1 o13.2.1).getD (zeroK (.ptr 108))), .kv .bool (((mapGet .str (.ptr 108) p1 o13.2.1).getD (zeroK (.ptr 108))).isNone), .kv .bool true, .kv (.ptr 105) p0, .kv (.ptr 105) (some i23), .fldA 105 i23 1, .fm 105 i23 1, .kv .i (o24.2.1.length : Int), .kv .bool (decide ((o24.2.1.length : Int) ≥ 128)), .kv .bool (decide ((o24.2.1.length : Int) ≥ 128)), .kv .bool false, .kv .str p2, .kv .i (p2.length : Int), .kv .i z18, .kv .i (IntKind.wrap .i64 (65536 - z18)), .kv .bool (decide ((p2.length : Int) > (IntKind.wrap .i64 (65536 - z18)))), .kv .bool (decide ((p2.length : Int) > (IntKind.wrap .i64 (65536 - z18)))), .kv .bool false, .kv .str p2, .kv .i (p2.length : Int), .kv (.ptr 105) p0, .kv (.ptr 105) (some i31), .fldA 105 i31 0, .kv .i o32.1, .kv (.ptr 105) p0, .kv .i r33, .kv .i (IntKind.wrap .i64 (o32.1 - r33))] (fun _ => tabs σ) (fun _ => Ls) (by kernel_rfl) (by kernel_rfl) hE hH
                      ⟨⟨⟨⟨⟨⟨⟨⟨⟨⟨⟨⟨⟨⟨⟨⟨⟨⟨⟨⟨⟨⟨⟨⟨⟨⟨⟨trivial,
                      anyk (fun k => obR [] (Os := []) trivial (by kernel_rfl) (by kernel_rfl))⟩,
                      anyk (fun k => obR [] (Os := []) trivial (by kernel_rfl) (by kernel_rfl))⟩,
                      anyk (fun k => obRe [] (Os := []) trivial (by kernel_rfl) (by kernel_rfl) (eb2 c22 rfl))⟩,
                      anyk (fun k => obR [] (Os := []) trivial (by kernel_rfl) (by kernel_rfl))⟩,
                      anyk (fun k => obR [.pt i23] (Os := [_]) ⟨hi23, trivial⟩ (by kernel_rfl) (by kernel_rfl))⟩,
                      anyk (fun k => obR [] (Os := []) trivial (by kernel_rfl) (by kernel_rfl))⟩,
                      anyk (fun k => obR [.ob fs105 o24] (Os := [_]) ⟨(ob105 (s := σ) ho24), trivial⟩ (by kernel_rfl) (by kernel_rfl))⟩,
                      anyk (fun k => obR [.ob fs105 o24] (Os := [_]) ⟨(ob105 (s := σ) ho24), trivial⟩ (by kernel_rfl) (by kernel_rfl))⟩,
                      anyk (fun k => obR [] (Os := []) trivial (by kernel_rfl) (by kernel_rfl))⟩,
                      anyk (fun k => obR [] (Os := []) trivial (by kernel_rfl) (by kernel_rfl))⟩,
                      anyk (fun k => obRe [] (Os := []) trivial (by kernel_rfl) (by kernel_rfl) (eb2 (bf c27) rfl))⟩,
                      anyk (fun k => obR [] (Os := []) trivial (by kernel_rfl) (by kernel_rfl))⟩,
                      anyk (fun k => obR [] (Os := []) trivial (by kernel_rfl) (by kernel_rfl))⟩,
                      anyk (fun k => obR [] (Os := []) trivial (by kernel_rfl) (by kernel_rfl))⟩,
                      anyk (fun k => obR [] (Os := []) trivial (by kernel_rfl) (by kernel_rfl))⟩,
                      anyk (fun k => obR [] (Os := []) trivial (by kernel_rfl) (by kernel_rfl))⟩,
                      anyk (fun k => obR [] (Os := []) trivial (by kernel_rfl) (by kernel_rfl))⟩,
                      anyk (fun k => obRe [] (Os := []) trivial (by kernel_rfl) (by kernel_rfl) (eb2 (bf c30) rfl))⟩,
                      anyk (fun k => obR [] (Os := []) trivial (by kernel_rfl) (by kernel_rfl))⟩,
                      anyk (fun k => obR [] (Os := []) trivial (by kernel_rfl) (by kernel_rfl))⟩,
                      anyk (fun k => obR [] (Os := []) trivial (by kernel_rfl) (by kernel_rfl))⟩,
                      anyk (fun k => obR [.pt i31] (Os := [_]) ⟨hi31, trivial⟩ (by kernel_rfl) (by kernel_rfl))⟩,
                      anyk (fun k => obR [] (Os := []) trivial (by kernel_rfl) (by kernel_rfl))⟩,
                      anyk (fun k => obR [.ob fs105 o32] (Os := [_]) ⟨(ob105 (s := σ) ho32), trivial⟩ (by kernel_rfl) (by kernel_rfl))⟩,
                      anyk (fun k => obR [] (Os := []) trivial (by kernel_rfl) (by kernel_rfl))⟩,
                      one (obC (k := 0) (d := (some 56)) (f20_ok hr33) rfl hN (by kernel_rfl) (by kernel_rfl) rfl trivial)⟩,
                      anyk (fun k => obR [] (Os := []) trivial (by kernel_rfl) (by kernel_rfl))⟩ (fun a w G hl6 hE hH => ?_)
              have hle := Gh.le_trans hle hl6
              refine segO 2 [] [(59, .kv .bool (decide ((p2.length : Int) > (IntKind.wrap .i64 (o32.1 - r33)))))] (Os := []) trivial hE hH (by kernel_rfl) (fun a hE => ?_)
              refine wpFrom_end (by kernel_rfl) ?_
              refine Exit.then_normal (hK21 _ _ ?_)
              refine condE (b := decide ((p2.length : Int) > (IntKind.wrap .i64 (o32.1 - r33)))) hE (by kernel_rfl) (fun hc => ?_) (fun hc => ?_)
              · replace h := ifT hc h
                refine wp_seq_k (fun K hK34 => ?_)
                refine wp_region_from ?_
                refine segO 1 [] [(6, .kv .i 10)] (Os := []) trivial hE hH (by kernel_rfl) (fun a hE => ?_)
                refine wpFrom_end (by kernel_rfl) ?_
                refine Exit.then_normal (hK34 _ _ ?_)
                refine wp_ret ?_
                refine Exit.then_ret ?_
                cases h
                exact ret1 rfl hE hle hH (by kernel_rfl)
              · replace h := ifF hc h
                refine wp_skip ?_
                refine Exit.then_normal (hK20 _ _ ?_)
                refine wp_seq_k (fun K hK35 => ?_)
                refine wp_seq_k (fun K hK36 => ?_)
                refine wp_region_from ?_
                refine segO 2 [] [(61, .kv .bool (((mapGet .str (.ptr 108) p1 o13.2.1).getD (zeroK (.ptr 108))).isNone))] (Os := []) trivial hE hH (by kernel_rfl) (fun a hE => ?_)
                refine wpFrom_end (by kernel_rfl) ?_
                refine Exit.then_normal (hK36 _ _ ?_)
                obtain ⟨z39, hz39, h⟩ := bs h
                refine join_intro (I := fun a w => ∃ (G : Gh), G0.le G ∧ EnvR G 80 a [(0, .kv (.ptr 105) p0), (2, .kv .str p2), (6, .kv .i 0), (8, .kv (.ptr 108) z39.1)] ∧ Holds w G (tabs z39.2) (Ls)) trivial ?_ ?_
                · intro a w hI
                  obtain ⟨G, hle, hE, hH⟩ := hI
                  refine Exit.then_normal (hK35 _ _ ?_)
                  refine wp_seq_k (fun K hK41 => ?_)
                  refine wp_region_from ?_
                  obtain ⟨i42, hi42, h⟩ := bs h
                  obtain ⟨o43, ho43, h⟩ := bs h
                  obtain ⟨q44, h⟩ := gd h
                  obtain ⟨i45, hi45, h⟩ := bs h
                  refine segO 8 [.pt i42, .ob fs108 o43, .pt i45] [(75, .kv .str (o43.1 ++ p2)), (77, .fldA 108 i45 0)] (Os := [_, _, _, _]) ⟨hi42, (ob108 (s := z39.2) ho43), q44, hi45, trivial⟩ hE hH (by kernel_rfl) (fun a hE => ?_)
                  obtain ⟨o46, ho46, h⟩ := bs h
                  refine stepStO (t := 108) (j := i45) (off := 0) .str (o43.1 ++ p2) (x' := (o43.1 ++ p2, o46.2.1, ())) hE hH (by kernel_rfl) (ob108 (s := z39.2) ho46) (by kernel_rfl) (upd108 (s := z39.2)) (fun w G hl8 hE hH => ?_)
                  have hle := Gh.le_trans hle hl8
                  refine wpFrom_end (by kernel_rfl) ?_
                  refine Exit.then_normal (hK41 _ _ ?_)
                  refine wp_seq_k (fun K hK47 => ?_)
                  refine wp_region_from ?_
                  refine segO 1 [] [(78, .kv (.ptr 105) p0)] (Os := []) trivial hE hH (by kernel_rfl) (fun a hE => ?_)
                  obtain ⟨r48, hr48, h⟩ := bs h
                  refine stepCall (d := (some 79)) (f72_ok (q1 := 73) (l1 := []) (hq1 := (fun h => f73_ok h)) hr48) hE hH hN (by kernel_rfl) (by kernel_rfl) trivial (fun a w G hl9 hE hH => ?_)
                  have hle := Gh.le_trans hle hl9
                  refine segO 1 [] [(6, .kv .i r48.1)] (Os := []) trivial hE hH (by kernel_rfl) (fun a hE => ?_)
                  refine wpFrom_end (by kernel_rfl) ?_
                  refine Exit.then_normal (hK47 _ _ ?_)
                  refine wp_ret ?_
                  cases h
                  exact ret1 rfl hE hle hH (by kernel_rfl)
                · intro KK hKK ho
                  have hj40 : ∀ (a : Act) (w : World) (G : Gh), G0.le G → EnvR G 80 a [(0, .kv (.ptr 105) p0), (2, .kv .str p2), (6, .kv .i 0), (8, .kv (.ptr 108) z39.1)] → Holds w G (tabs z39.2) (Ls) → KK .normal a w := fun a w G  h1 h2 h3 => hKK a w ⟨G, h1, h2, h3⟩
                  replace h := hz39
                  refine condE (b := ((mapGet .str (.ptr 108) p1 o13.2.1).getD (zeroK (.ptr 108))).isNone) hE (by kernel_rfl) (fun hc => ?_) (fun hc => ?_)
                  · replace h := ifT hc h
                    refine wp_seq_k (fun K hK49 => ?_)
                    refine wp_region_from ?_
                    refine stepBuild (d := (some 62)) K108 ([], 0, ()) rfl hE (by kernel_rfl) (by kernel_rfl) (fun a hE => ?_)
                    refine stepNew (t := 108) (fs := fs108) (x := ([], 0, ())) (e := 108) (d := (some 63)) K108 ([], 0, ()) hE hH (by kernel_rfl) (by kernel_rfl) ⟨rfl, HEq.rfl, ⟨rfl, HEq.rfl, trivial⟩⟩ (addT108 (s := σ) (x := ([], 0, ()))) (fun a w G hl10 hE hH => ?_)
                    have hle := Gh.le_trans hle hl10
                    refine segO 1 [] [(8, .fldA 108 σ.t108.length 0)] (Os := []) trivial hE hH (by kernel_rfl) (fun a hE => ?_)
                    refine wpFrom_end (by kernel_rfl) ?_
                    refine Exit.then_normal (hK49 _ _ ?_)
                    refine wp_region_from ?_
                    obtain ⟨i50, hi50, h⟩ := bs h
                    obtain ⟨o51, ho51, h⟩ := bs h
                    refine segO 6 [.pt i50, .ob fs105 o51] [(67, .fm 105 i50 1), (68, .kv .str p1), (69, .fldA 108 σ.t108.length 0)] (Os := [_, _]) ⟨hi50, (ob105 (s := (σ.add108 ([], 0, ()))) ho51), trivial⟩ hE hH (by kernel_rfl) (fun a hE => ?_)
                    refine stepMUp .str (.ptr 108) p1 (some σ.t108.length) (t := 105) (j := i50) (f := 1) (m := o51.2.1) (x' := (o51.1, mapSet .str (.ptr 108) p1 (some σ.t108.length) o51.2.1, o51.2.2.1, o51.2.2.2.1, ())) hE hH (by kernel_rfl) (ob105 (s := (σ.add108 ([], 0, ()))) ho51) (by kernel_rfl) (by kernel_rfl) (upd105 (s := (σ.add108 ([], 0, ())))) (fun w G hl11 hE hH => ?_)
                    have hle := Gh.le_trans hle hl11
                    refine wpFrom_end (by kernel_rfl) ?_
                    cases h
                    exact hj40 _ _ _  hle (hE.subC (by kernel_rfl)) hH
                  · replace h := ifF hc h
                    refine wp_skip ?_
                    cases h
                    exact hj40 _ _ _  hle (hE.subC (by kernel_rfl)) hH
        · replace h := ifN hc h
          have c52 := hc
          by_cases hc : (decide ((p2.length : Int) > (IntKind.wrap .i64 (65536 - z18)))) = true
          · replace h := ifT hc h
            have c53 := hc
            refine region_par 27 [] [(0, 0), (0, 0), (0, 0), (0, 0), (0, 0), (0, 0), (0, 0), (0, 0), (0, 0), (0, 0), (0, 0), (0, 0), (0, 0), (0, 0), (0, 0), (0, 0), (0, 0), (0, 0), (0, 0), (0, 0), (0, 0), (0, 0), (0, 0), (0, 0), (0, 0), (0, 0), (0, 0)] [.kv (.ptr 108) ((mapGet .str (.ptr 108) p1 o13.2.1).getD (zeroK (.ptr 108))), .kv .bool (((mapGet .str (.ptr 108) p1 o13.2.1).getD (zeroK (.ptr 108))).isNone), .kv .bool false, .undef, .undef, .undef, .undef, .undef, .undef, .kv .bool false, .kv .bool false, .kv .str p2, .kv .i (p2.length : Int), .kv .i z18, .kv .i (IntKind.wrap .i64 (65536 - z18)), .kv .bool (decide ((p2.length : Int) > (IntKind.wrap .i64 (65536 - z18)))), .kv .bool (decide ((p2.length : Int) > (IntKind.wrap .i64 (65536 - z18)))), .kv .bool true, .undef, .undef, .undef, .undef, .undef, .undef, .undef, .undef, .undef] (fun _ => tabs σ) (fun _ => Ls) (by kernel_rfl) (by kernel_rfl) hE hH
                    ⟨⟨⟨⟨⟨⟨⟨⟨⟨⟨⟨⟨⟨⟨⟨⟨⟨⟨⟨⟨⟨⟨⟨⟨⟨⟨⟨trivial,
                    anyk (fun k => obR [] (Os := []) trivial (by kernel_rfl) (by kernel_rfl))⟩,
                    anyk (fun k => obR [] (Os := []) trivial (by kernel_rfl) (by kernel_rfl))⟩,
                    anyk (fun k => obRe [] (Os := []) trivial (by kernel_rfl) (by kernel_rfl) (eb2 (bf c52) rfl))⟩,
                    anyk (fun k => obR [] (Os := []) trivial (by kernel_rfl) (by kernel_rfl))⟩,
                    anyk (fun k => obR [] (Os := []) trivial (by kernel_rfl) (by kernel_rfl))⟩,
                    anyk (fun k => obR [] (Os := []) trivial (by kernel_rfl) (by kernel_rfl))⟩,
                    anyk (fun k => obR [] (Os := []) trivial (by kernel_rfl) (by kernel_rfl))⟩,
                    anyk (fun k => obR [] (Os := []) trivial (by kernel_rfl) (by kernel_rfl))⟩,
                    anyk (fun k => obR [] (Os := []) trivial (by kernel_rfl) (by kernel_rfl))⟩,
                    anyk (fun k => obR [] (Os := []) trivial (by kernel_rfl) (by kernel_rfl))⟩,
                    anyk (fun k => obR [] (Os := []) trivial (by kernel_rfl) (by kernel_rfl))⟩,
                    anyk (fun k => obR [] (Os := []) trivial (by kernel_rfl) (by kernel_rfl))⟩,
                    anyk (fun k => obR [] (Os := []) trivial (by kernel_rfl) (by kernel_rfl))⟩,
                    anyk (fun k => obR [] (Os := []) trivial (by kernel_rfl) (by kernel_rfl))⟩,
                    anyk (fun k => obR [] (Os := []) trivial (by kernel_rfl) (by kernel_rfl))⟩,
                    anyk (fun k => obR [] (Os := []) trivial (by kernel_rfl) (by kernel_rfl))⟩,
                    anyk (fun k => obR [] (Os := []) trivial (by kernel_rfl) (by kernel_rfl))⟩,
                    anyk (fun k => obRe [] (Os := []) trivial (by kernel_rfl) (by kernel_rfl) (eb2 c53 rfl))⟩,
                    anyk (fun k => obR [] (Os := []) trivial (by kernel_rfl) (by kernel_rfl))⟩,
                    anyk (fun k => obR [] (Os := []) trivial (by kernel_rfl) (by kernel_rfl))⟩,
                    anyk (fun k => obR [] (Os := []) trivial (by kernel_rfl) (by kernel_rfl))⟩,
                    anyk (fun k => obR [] (Os := []) trivial (by kernel_rfl) (by kernel_rfl))⟩,
                    anyk (fun k => obR [] (Os := []) trivial (by kernel_rfl) (by kernel_rfl))⟩,
                    anyk (fun k => obR [] (Os := []) trivial (by kernel_rfl) (by kernel_rfl))⟩,
                    anyk (fun k => obR [] (Os := []) trivial (by kernel_rfl) (by kernel_rfl))⟩,
                    anyk (fun k => obR [] (Os := []) trivial (by kernel_rfl) (by kernel_rfl))⟩,
                    anyk (fun k => obR [] (Os := []) trivial (by kernel_rfl) (by kernel_rfl))⟩ (fun a w G hl12 hE hH => ?_)
            have hle := Gh.le_trans hle hl12
            refine segO 2 [] [(59, .kv .bool true)] (Os := []) trivial hE hH (by kernel_rfl) (fun a hE => ?_)
            refine wpFrom_end (by kernel_rfl) ?_
            refine Exit.then_normal (hK21 _ _ ?_)
            refine condT hE (by kernel_rfl) rfl ?_
            refine wp_seq_k (fun K hK54 => ?_)
            refine wp_region_from ?_
            refine segO 1 [] [(6, .kv .i 10)] (Os := []) trivial hE hH (by kernel_rfl) (fun a hE => ?_)
            refine wpFrom_end (by kernel_rfl) ?_
            refine Exit.then_normal (hK54 _ _ ?_)
            refine wp_ret ?_
            refine Exit.then_ret ?_
            cases h
            exact ret1 rfl hE hle hH (by kernel_rfl)
          · replace h := ifN hc h
            have c55 := hc
            obtain ⟨i56, hi56, h⟩ := bs h
            obtain ⟨o57, ho57, h⟩ := bs h
            obtain ⟨r58, hr58, h⟩ := bs h
            refine region_par 27 [25] [(0, 0), (0, 0), (0, 0), (0, 0), (0, 0), (0, 0), (0, 0), (0, 0), (0, 0), (0, 0), (0, 0), (0, 0), (0, 0), (0, 0), (0, 0), (0, 0), (0, 0), (0, 0), (0, 1), (0, 1), (0, 1), (0, 1), (0, 1), (0, 1), (0, 0), (0, 0), (1, 1)] [.kv (.ptr 108) ((mapGet .str (.ptr 108) p1 o13.2.1).getD (zeroK (.ptr 108))), .kv .bool (((mapGet .str (.ptr 108) p1 o13.2.1).getD (zeroK (.ptr 108))).isNone), .kv .bool false, .undef, .undef, .undef, .undef, .undef, .undef, .kv .bool false, .kv .bool false, .kv .str p2, .kv .i (p2.length : Int), .kv .i z18, .kv .i (IntKind.wrap .i64 (65536 - z18)), .kv .bool (decide ((p2.length : Int) > (IntKind.wrap .i64 (65536 - z18)))), .kv .bool (decide ((p2.length : Int) > (IntKind.wrap .i64 (65536 - z18)))), .kv .bool false, .kv .str p2, .kv .i (p2.length : Int), .kv (.ptr 105) p0, .kv (.ptr 105) (some i56), .fldA 105 i56 0, .kv .i o57.1, .kv (.ptr 105) p0, .kv .i r58, .kv .i (IntKind.wrap .i64 (o57.1 - r58))] (fun _ => tabs σ) (fun _ => Ls) (by kernel_rfl) (by kernel_rfl) hE hH
                    ⟨⟨⟨⟨⟨⟨⟨⟨⟨⟨⟨⟨⟨⟨⟨⟨⟨⟨⟨⟨⟨⟨⟨⟨⟨⟨⟨trivial,
                    anyk (fun k => obR [] (Os := []) trivial (by kernel_rfl) (by kernel_rfl))⟩,
                    anyk (fun k => obR [] (Os := []) trivial (by kernel_rfl) (by kernel_rfl))⟩,
                    anyk (fun k => obRe [] (Os := []) trivial (by kernel_rfl) (by kernel_rfl) (eb2 (bf c52) rfl))⟩,
                    anyk (fun k => obR [] (Os := []) trivial (by kernel_rfl) (by kernel_rfl))⟩,
                    anyk (fun k => obR [] (Os := []) trivial (by kernel_rfl) (by kernel_rfl))⟩,
                    anyk (fun k => obR [] (Os := []) trivial (by kernel_rfl) (by kernel_rfl))⟩,
                    anyk (fun k => obR [] (Os := []) trivial (by kernel_rfl) (by kernel_rfl))⟩,
                    anyk (fun k => obR [] (Os := []) trivial (by kernel_rfl) (by kernel_rfl))⟩,
                    anyk (fun k => obR [] (Os := []) trivial (by kernel_rfl) (by kernel_rfl))⟩,
                    anyk (fun k => obR [] (Os := []) trivial (by kernel_rfl) (by kernel_rfl))⟩,
                    anyk (fun k => obR [] (Os := []) trivial (by kernel_rfl) (by kernel_rfl))⟩,
                    anyk (fun k => obR [] (Os := []) trivial (by kernel_rfl) (by kernel_rfl))⟩,
                    anyk (fun k => obR [] (Os := []) trivial (by kernel_rfl) (by kernel_rfl))⟩,
                    anyk (fun k => obR [] (Os := []) trivial (by kernel_rfl) (by kernel_rfl))⟩,
                    anyk (fun k => obR [] (Os := []) trivial (by kernel_rfl) (by kernel_rfl))⟩,
                    anyk (fun k => obR [] (Os := []) trivial (by kernel_rfl) (by kernel_rfl))⟩,
                    anyk (fun k => obR [] (Os := []) trivial (by kernel_rfl) (by kernel_rfl))⟩,
                    anyk (fun k => obRe [] (Os := []) trivial (by kernel_rfl) (by kernel_rfl) (eb2 (bf c55) rfl))⟩,
                    anyk (fun k => obR [] (Os := []) trivial (by kernel_rfl) (by kernel_rfl))⟩,
                    anyk (fun k => obR [] (Os := []) trivial (by kernel_rfl) (by kernel_rfl))⟩,
                    anyk (fun k => obR [] (Os := []) trivial (by kernel_rfl) (by kernel_rfl))⟩,
                    anyk (fun k => obR [.pt i56] (Os := [_]) ⟨hi56, trivial⟩ (by kernel_rfl) (by kernel_rfl))⟩,
                    anyk (fun k => obR [] (Os := []) trivial (by kernel_rfl) (by kernel_rfl))⟩,
                    anyk (fun k => obR [.ob fs105 o57] (Os := [_]) ⟨(ob105 (s := σ) ho57), trivial⟩ (by kernel_rfl) (by kernel_rfl))⟩,
                    anyk (fun k => obR [] (Os := []) trivial (by kernel_rfl) (by kernel_rfl))⟩,
                    one (obC (k := 0) (d := (some 56)) (f20_ok hr58) rfl hN (by kernel_rfl) (by kernel_rfl) rfl trivial)⟩,
                    anyk (fun k => obR [] (Os := []) trivial (by kernel_rfl) (by kernel_rfl))⟩ (fun a w G hl13 hE hH => ?_)
            have hle := Gh.le_trans hle hl13
            refine segO 2 [] [(59, .kv .bool (decide ((p2.length : Int) > (IntKind.wrap .i64 (o57.1 - r58)))))] (Os := []) trivial hE hH (by kernel_rfl) (fun a hE => ?_)
            refine wpFrom_end (by kernel_rfl) ?_
            refine Exit.then_normal (hK21 _ _ ?_)
            refine condE (b := decide ((p2.length : Int) > (IntKind.wrap .i64 (o57.1 - r58)))) hE (by kernel_rfl) (fun hc => ?_) (fun hc => ?_)
            · replace h := ifT hc h
              refine wp_seq_k (fun K hK59 => ?_)
              refine wp_region_from ?_
              refine segO 1 [] [(6, .kv .i 10)] (Os := []) trivial hE hH (by kernel_rfl) (fun a hE => ?_)
              refine wpFrom_end (by kernel_rfl) ?_
              refine Exit.then_normal (hK59 _ _ ?_)
              refine wp_ret ?_
              refine Exit.then_ret ?_
              cases h
              exact ret1 rfl hE hle hH (by kernel_rfl)
            · replace h := ifF hc h
              refine wp_skip ?_
              refine Exit.then_normal (hK20 _ _ ?_)
              refine wp_seq_k (fun K hK60 => ?_)
              refine wp_seq_k (fun K hK61 => ?_)
              refine wp_region_from ?_
              refine segO 2 [] [(61, .kv .bool (((mapGet .str (.ptr 108) p1 o13.2.1).getD (zeroK (.ptr 108))).isNone))] (Os := []) trivial hE hH (by kernel_rfl) (fun a hE => ?_)
              refine wpFrom_end (by kernel_rfl) ?_
              refine Exit.then_normal (hK61 _ _ ?_)
              obtain ⟨z64, hz64, h⟩ := bs h
              refine join_intro (I := fun a w => ∃ (G : Gh), G0.le G ∧ EnvR G 80 a [(0, .kv (.ptr 105) p0), (2, .kv .str p2), (6, .kv .i 0), (8, .kv (.ptr 108) z64.1)] ∧ Holds w G (tabs z64.2) (Ls)) trivial ?_ ?_
              · intro a w hI
                obtain ⟨G, hle, hE, hH⟩ := hI
                refine Exit.then_normal (hK60 _ _ ?_)
                refine wp_seq_k (fun K hK66 => ?_)
                refine wp_region_from ?_
                obtain ⟨i67, hi67, h⟩ := bs h
                obtain ⟨o68, ho68, h⟩ := bs h
                obtain ⟨q69, h⟩ := gd h
                obtain ⟨i70, hi70, h⟩ := bs h
                refine segO 8 [.pt i67, .ob fs108 o68, .pt i70] [(75, .kv .str (o68.1 ++ p2)), (77, .fldA 108 i70 0)] (Os := [_, _, _, _]) ⟨hi67, (ob108 (s := z64.2) ho68), q69, hi70, trivial⟩ hE hH (by kernel_rfl) (fun a hE => ?_)
                obtain ⟨o71, ho71, h⟩ := bs h
                refine stepStO (t := 108) (j := i70) (off := 0) .str (o68.1 ++ p2) (x' := (o68.1 ++ p2, o71.2.1, ())) hE hH (by kernel_rfl) (ob108 (s := z64.2) ho71) (by kernel_rfl) (upd108 (s := z64.2)) (fun w G hl15 hE hH => ?_)
                have hle := Gh.le_trans hle hl15
                refine wpFrom_end (by kernel_rfl) ?_
                refine Exit.then_normal (hK66 _ _ ?_)
                refine wp_seq_k (fun K hK72 => ?_)
                refine wp_region_from ?_
                refine segO 1 [] [(78, .kv (.ptr 105) p0)] (Os := []) trivial hE hH (by kernel_rfl) (fun a hE => ?_)
                obtain ⟨r73, hr73, h⟩ := bs h
                refine stepCall (d := (some 79)) (f72_ok (q1 := 73) (l1 := []) (hq1 := (fun h => f73_ok h)) hr73) hE hH hN (by kernel_rfl) (by kernel_rfl) trivial (fun a w G hl16 hE hH => ?_)
                have hle := Gh.le_trans hle hl16
                refine segO 1 [] [(6, .kv .i r73.1)] (Os := []) trivial hE hH (by kernel_rfl) (fun a hE => ?_)
                refine wpFrom_end (by kernel_rfl) ?_
                refine Exit.then_normal (hK72 _ _ ?_)
                refine wp_ret ?_
                cases h
                exact ret1 rfl hE hle hH (by kernel_rfl)
              · intro KK hKK ho
                have hj65 : ∀ (a : Act) (w : World) (G : Gh), G0.le G → EnvR G 80 a [(0, .kv (.ptr 105) p0), (2, .kv .str p2), (6, .kv .i 0), (8, .kv (.ptr 108) z64.1)] → Holds w G (tabs z64.2) (Ls) → KK .normal a w := fun a w G  h1 h2 h3 => hKK a w ⟨G, h1, h2, h3⟩
                replace h := hz64
                refine condE (b := ((mapGet .str (.ptr 108) p1 o13.2.1).getD (zeroK (.ptr 108))).isNone) hE (by kernel_rfl) (fun hc => ?_) (fun hc => ?_)
                · replace h := ifT hc h
                  refine wp_seq_k (fun K hK74 => ?_)
                  refine wp_region_from ?_
                  refine stepBuild (d := (some 62)) K108 ([], 0, ()) rfl hE (by kernel_rfl) (by kernel_rfl) (fun a hE => ?_)
                  refine stepNew (t := 108) (fs := fs108) (x := ([], 0, ())) (e := 108) (d := (some 63)) K108 ([], 0, ()) hE hH (by kernel_rfl) (by kernel_rfl) ⟨rfl, HEq.rfl, ⟨rfl, HEq.rfl, trivial⟩⟩ (addT108 (s := σ) (x := ([], 0, ()))) (fun a w G hl17 hE hH => ?_)
                  have hle := Gh.le_trans hle hl17
                  refine segO 1 [] [(8, .fldA 108 σ.t108.length 0)] (Os := []) trivial hE hH (by kernel_rfl) (fun a hE => ?_)
                  refine wpFrom_end (by kernel_rfl) ?_
                  refine Exit.then_normal (hK74 _ _ ?_)
                  refine wp_region_from ?_
                  obtain ⟨i75, hi75, h⟩ := bs h
                  obtain ⟨o76, ho76, h⟩ := bs h
                  refine segO 6 [.pt i75, .ob fs105 o76] [(67, .fm 105 i75 1), (68, .kv .str p1), (69, .fldA 108 σ.t108.length 0)] (Os := [_, _]) ⟨hi75, (ob105 (s := (σ.add108 ([], 0, ()))) ho76), trivial⟩ hE hH (by kernel_rfl) (fun a hE => ?_)
                  refine stepMUp .str (.ptr 108) p1 (some σ.t108.length) (t := 105) (j := i75) (f := 1) (m := o76.2.1) (x' := (o76.1, mapSet .str (.ptr 108) p1 (some σ.t108.length) o76.2.1, o76.2.2.1, o76.2.2.2.1, ())) hE hH (by kernel_rfl) (ob105 (s := (σ.add108 ([], 0, ()))) ho76) (by kernel_rfl) (by kernel_rfl) (upd105 (s := (σ.add108 ([], 0, ())))) (fun w G hl18 hE hH => ?_)
                  have hle := Gh.le_trans hle hl18
                  refine wpFrom_end (by kernel_rfl) ?_
                  cases h
                  exact hj65 _ _ _  hle (hE.subC (by kernel_rfl)) hH
                · replace h := ifF hc h
                  refine wp_skip ?_
                  cases h
                  exact hj65 _ _ _  hle (hE.subC (by kernel_rfl)) hH
      · intro KK hKK ho
        have hj19 : ∀ (a : Act) (w : World) (G : Gh), G0.le G → EnvR G 80 a [(0, .kv (.ptr 105) p0), (1, .kv .str p1), (2, .kv .str p2), (6, .kv .i 0), (8, .kv (.ptr 108) ((mapGet .str (.ptr 108) p1 o13.2.1).getD (zeroK (.ptr 108)))), (9, .kv .i z18)] → Holds w G (tabs σ) (Ls) → KK .normal a w := fun a w G  h1 h2 h3 => hKK a w ⟨G, h1, h2, h3⟩
        replace h := hz18
        refine condE (b := !((mapGet .str (.ptr 108) p1 o13.2.1).getD (zeroK (.ptr 108))).isNone) hE (by kernel_rfl) (fun hc => ?_) (fun hc => ?_)
        · replace h := ifT hc h
          refine wp_region_from ?_
          obtain ⟨i77, hi77, h⟩ := bs h
          obtain ⟨o78, ho78, h⟩ := bs h
          refine segO 6 [.pt i77, .ob fs108 o78] [(9, .kv .i (o78.1.length : Int))] (Os := [_, _]) ⟨hi77, (ob108 (s := σ) ho78), trivial⟩ hE hH (by kernel_rfl) (fun a hE => ?_)
          refine wpFrom_end (by kernel_rfl) ?_
          cases h
          exact hj19 _ _ _  hle (hE.subC (by kernel_rfl)) hH
        · replace h := ifF hc h
          refine wp_skip ?_
          cases h
          exact hj19 _ _ _  hle (hE.subC (by kernel_rfl)) hH

def f27_l0 (p0 : Option Nat) (r7 : List (List UInt8)) (x8 : List Int) (x9 : Int) (σ10 : St) : Option ((List Int) × Int × St) :=
  if (decide (x9 < (r7.length : Int))) = true then
  (ix r7 x9) >>= fun x19 =>
  p0 >>= fun i21 =>
  (σ10.t105[i21]?) >>= fun o22 =>
  ((mapGet .str (.ptr 108) x19 o22.2.1).getD (zeroK (.ptr 108))) >>= fun i24 =>
  (σ10.t108[i24]?) >>= fun o25 =>
  ((mapGet .str (.ptr 108) x19 o22.2.1).getD (zeroK (.ptr 108))) >>= fun i26 =>
  (σ10.t108[i26]?) >>= fun o27 =>
  if ((IntKind.wrap .i64 ((o25.1.length : Int) - o27.2.1)) == 0) = true then
  f27_l0 p0 r7 x8 (IntKind.wrap .i64 (x9 + 1)) σ10
  else
  (if (decide ((x8.length : Int) > 0)) = true then
  (ix x8 0) >>= fun x49 =>
  if (IntKind.wrap .i64 ((IntKind.wrap .i64 ((o25.1.length : Int) - o27.2.1)) + 1)) ≠ 0 then
  if (0 : Int) ≤ 1 ∧ 1 ≤ (x8.length : Int) then
  some (x8.drop (Int.toNat 1), Int.tmod (if 0 > x49 then 0 else x49) (IntKind.wrap .i64 ((IntKind.wrap .i64 ((o25.1.length : Int) - o27.2.1)) + 1)))
  else none
  else none
  else
  some (x8, 0) : Option ((List Int) × Int)) >>= fun z35 =>
  ((mapGet .str (.ptr 108) x19 o22.2.1).getD (zeroK (.ptr 108))) >>= fun i38 =>
  (σ10.t108[i38]?) >>= fun o39 =>
  ((mapGet .str (.ptr 108) x19 o22.2.1).getD (zeroK (.ptr 108))) >>= fun i40 =>
  (σ10.t108[i40]?) >>= fun o41 =>
  if (0 : Int) ≤ (IntKind.wrap .i64 (o41.2.1 + z35.2)) ∧ (IntKind.wrap .i64 (o41.2.1 + z35.2)) ≤ (o39.1.length : Int) then
  ((mapGet .str (.ptr 108) x19 o22.2.1).getD (zeroK (.ptr 108))) >>= fun i43 =>
  (σ10.t108[i43]?) >>= fun o44 =>
  ((mapGet .str (.ptr 108) x19 o22.2.1).getD (zeroK (.ptr 108))) >>= fun i45 =>
  ((σ10.set108 i43 (o39.1.take (Int.toNat (IntKind.wrap .i64 (o41.2.1 + z35.2))), o44.2.1, ())).t108[i45]?) >>= fun o46 =>
  ((mapGet .str (.ptr 108) x19 o22.2.1).getD (zeroK (.ptr 108))) >>= fun i47 =>
  ((σ10.set108 i43 (o39.1.take (Int.toNat (IntKind.wrap .i64 (o41.2.1 + z35.2))), o44.2.1, ())).t108[i47]?) >>= fun o48 =>
  f27_l0 p0 r7 z35.1 (IntKind.wrap .i64 (x9 + 1)) ((σ10.set108 i43 (o39.1.take (Int.toNat (IntKind.wrap .i64 (o41.2.1 + z35.2))), o44.2.1, ())).set108 i47 (o48.1, (o46.1.length : Int), ()))
  else none
  else
  some ((x8, x9, σ10))
  partial_fixpoint

def f27 (p0 : Option Nat) (p1 : List Int) (σ : St) : Option (Int × St) :=
  if p0.isNone = true then
  some (1, σ)
  else
  f21 p0 σ >>= fun r7 =>
  f27_l0 p0 r7 p1 0 σ >>= fun z52 =>
  p0 >>= fun i55 =>
  (z52.2.2.t105[i55]?) >>= fun o56 =>
  p0 >>= fun i57 =>
  ((z52.2.2.set105 i55 (o56.1, o56.2.1, o56.2.2.1, false, ())).t105[i57]?) >>= fun o58 =>
  some (0, ((z52.2.2.set105 i55 (o56.1, o56.2.1, o56.2.2.1, false, ())).set105 i57 (o58.1, o58.2.1, 0, o58.2.2.2.1, ())))

theorem f27_ok {p0 : Option Nat} {p1 : List Int} {σ : St} {p : Int × St} (h : f27 p0 p1 σ = some p) : Spec Try.prog 27 [.kv (.ptr 105) p0, .kv (.list .i) p1] (tabs σ) (.kv .i p.1) (tabs p.2) := by
  refine Spec.intro Try.func27 (by kernel_rfl) rfl (by kernel_rfl) (fun a w G0 Ls hE hH hN => ?_)
  have hle : G0.le G0 := Gh.le_refl G0
  unfold f27 at h
  refine wp_seq_k (fun K hK1 => ?_)
  refine wp_region_from ?_
  refine segO 1 [] [(4, .kv .i 0)] (Os := []) trivial hE hH (by kernel_rfl) (fun a hE => ?_)
  refine wpFrom_end (by kernel_rfl) ?_
  refine Exit.then_normal (hK1 _ _ ?_)
  refine wp_seq_k (fun K hK2 => ?_)
  refine wp_seq_k (fun K hK3 => ?_)
  refine wp_region_from ?_
  refine segO 2 [] [(11, .kv .bool p0.isNone)] (Os := []) trivial hE hH (by kernel_rfl) (fun a hE => ?_)
  refine wpFrom_end (by kernel_rfl) ?_
  refine Exit.then_normal (hK3 _ _ ?_)
  refine condE (b := p0.isNone) hE (by kernel_rfl) (fun hc => ?_) (fun hc => ?_)
  · replace h := ifT hc h
    refine wp_seq_k (fun K hK4 => ?_)
    refine wp_region_from ?_
    refine segO 1 [] [(4, .kv .i 1)] (Os := []) trivial hE hH (by kernel_rfl) (fun a hE => ?_)
    refine wpFrom_end (by kernel_rfl) ?_
    refine Exit.then_normal (hK4 _ _ ?_)
    refine wp_ret ?_
    refine Exit.then_ret ?_
    cases h
    exact ret1 rfl hE hle hH (by kernel_rfl)
  · replace h := ifF hc h
    refine wp_skip ?_
    refine Exit.then_normal (hK2 _ _ ?_)
    refine wp_seq_k (fun K hK5 => ?_)
    refine wp_seq_k (fun K hK6 => ?_)
    refine wp_region_from ?_
    refine segO 1 [] [(12, .kv (.ptr 105) p0)] (Os := []) trivial hE hH (by kernel_rfl) (fun a hE => ?_)
    obtain ⟨r7, hr7, h⟩ := bs h
    refine stepCall (d := (some 13)) (f21_ok hr7) hE hH hN (by kernel_rfl) (by kernel_rfl) trivial (fun a w G hl1 hE hH => ?_)
    have hle := Gh.le_trans hle hl1
    refine segO 2 [] [(14, .kv .i (r7.length : Int)), (15, .kv .i 0)] (Os := []) trivial hE hH (by kernel_rfl) (fun a hE => ?_)
    refine wpFrom_end (by kernel_rfl) ?_
    refine Exit.then_normal (hK6 _ _ ?_)
    refine wp_block ?_
    obtain ⟨z52, hz52, h⟩ := bs h
    refine loop_intro (fun Q11 c hQ hc => ?_)
    have key : ∀ (x8 : List Int) (x9 : Int) (σ10 : St) (rr : (List Int) × Int × St), f27_l0 p0 r7 x8 x9 σ10 = some rr → ∀ (a : Act) (w : World) (G : Gh), G0.le G → EnvR G 78 a [(0, .kv (.ptr 105) p0), (1, .kv (.list .i) x8), (4, .kv .i 0), (13, .kv (.list .str) r7), (14, .kv .i (r7.length : Int)), (15, .kv .i x9)] → Holds w G (tabs σ10) (Ls) → (∀ z53 : (List Int) × Int × St, rr = z53 → ∀ (a : Act) (w : World) (G : Gh), G0.le G → EnvR G 78 a [(0, .kv (.ptr 105) p0), (1, .kv (.list .i) z53.1), (4, .kv .i 0), (13, .kv (.list .str) r7), (14, .kv .i (r7.length : Int)), (15, .kv .i z53.2.1)] → Holds w G (tabs z53.2.2) (Ls) → Q11 (.exit 0) a w) → Rnd Try.prog c Q11 a w := by
      refine f27_l0.partial_correctness p0 r7 _ ?_
      intro self ih14 x8 x9 σ10 rr h a w G  hle hE hH hx12
      refine rnd_step' hc ?_
      refine wp_seq_k (fun K hK15 => ?_)
      refine wp_region_from ?_
      refine segO 1 [] [(16, .kv .bool (decide (x9 < (r7.length : Int))))] (Os := []) trivial hE hH (by kernel_rfl) (fun a hE => ?_)
      refine wpFrom_end (by kernel_rfl) ?_
      refine Exit.then_normal (hK15 _ _ ?_)
      refine wp_seq_k (fun K hK16 => ?_)
      refine condE (b := decide (x9 < (r7.length : Int))) hE (by kernel_rfl) (fun hc => ?_) (fun hc => ?_)
      · replace h := ifT hc h
        refine wp_skip ?_
        refine Exit.then_normal (hK16 _ _ ?_)
        refine wp_seq_k (fun K hK17 => ?_)
        refine wp_block ?_
        refine wp_seq_k (fun K hK18 => ?_)
        refine wp_region_from ?_
        obtain ⟨x19, hx19, h⟩ := bs h
        refine segO 3 [.ix .str x19] [(6, .kv .str x19)] (Os := [_]) ⟨(IxAt.of (k := .str) hx19), trivial⟩ hE hH (by kernel_rfl) (fun a hE => ?_)
        refine wpFrom_end (by kernel_rfl) ?_
        refine Exit.then_normal (hK18 _ _ ?_)
        refine wp_seq_k (fun K hK20 => ?_)
        refine wp_region_from ?_
        obtain ⟨i21, hi21, h⟩ := bs h
        obtain ⟨o22, ho22, h⟩ := bs h
        refine segO 7 [.pt i21, .ob fs105 o22, .ob fs105 o22] [(7, .kv (.ptr 108) ((mapGet .str (.ptr 108) x19 o22.2.1).getD (zeroK (.ptr 108))))] (Os := [_, _, _]) ⟨hi21, (ob105 (s := σ10) ho22), (ob105 (s := σ10) ho22), trivial⟩ hE hH (by kernel_rfl) (fun a hE => ?_)
        refine wpFrom_end (by kernel_rfl) ?_
        refine Exit.then_normal (hK20 _ _ ?_)
        refine wp_seq_k (fun K hK23 => ?_)
        obtain ⟨i24, hi24, h⟩ := bs h
        obtain ⟨o25, ho25, h⟩ := bs h
        obtain ⟨i26, hi26, h⟩ := bs h
        obtain ⟨o27, ho27, h⟩ := bs h
        refine region_par 9 [] [(0, 0), (0, 0), (0, 0), (0, 0), (0, 0), (0, 0), (0, 0), (0, 0), (0, 0)] [.kv (.ptr 108) ((mapGet .str (.ptr 108) x19 o22.2.1).getD (zeroK (.ptr 108))), .kv (.ptr 108) (some i24), .fldA 108 i24 0, .kv .str o25.1, .kv .i (o25.1.length : Int), .kv (.ptr 108) ((mapGet .str (.ptr 108) x19 o22.2.1).getD (zeroK (.ptr 108))), .kv (.ptr 108) (some i26), .fldA 108 i26 1, .kv .i o27.2.1] (fun _ => tabs σ10) (fun _ => Ls) (by kernel_rfl) (by kernel_rfl) hE hH
                ⟨⟨⟨⟨⟨⟨⟨⟨⟨trivial,
                anyk (fun k => obR [] (Os := []) trivial (by kernel_rfl) (by kernel_rfl))⟩,
                anyk (fun k => obR [.pt i24] (Os := [_]) ⟨hi24, trivial⟩ (by kernel_rfl) (by kernel_rfl))⟩,
                anyk (fun k => obR [] (Os := []) trivial (by kernel_rfl) (by kernel_rfl))⟩,
                anyk (fun k => obR [.ob fs108 o25] (Os := [_]) ⟨(ob108 (s := σ10) ho25), trivial⟩ (by kernel_rfl) (by kernel_rfl))⟩,
                anyk (fun k => obR [] (Os := []) trivial (by kernel_rfl) (by kernel_rfl))⟩,
                anyk (fun k => obR [] (Os := []) trivial (by kernel_rfl) (by kernel_rfl))⟩,
                anyk (fun k => obR [.pt i26] (Os := [_]) ⟨hi26, trivial⟩ (by kernel_rfl) (by kernel_rfl))⟩,
                anyk (fun k => obR [] (Os := []) trivial (by kernel_rfl) (by kernel_rfl))⟩,
                anyk (fun k => obR [.ob fs108 o27] (Os := [_]) ⟨(ob108 (s := σ10) ho27), trivial⟩ (by kernel_rfl) (by kernel_rfl))⟩ (fun a w G hl2 hE hH => ?_)
        have hle := Gh.le_trans hle hl2
        refine segO 2 [] [(8, .kv .i (IntKind.wrap .i64 ((o25.1.length : Int) - o27.2.1)))] (Os := []) trivial hE hH (by kernel_rfl) (fun a hE => ?_)
        refine wpFrom_end (by kernel_rfl) ?_
        refine Exit.then_normal (hK23 _ _ ?_)
        refine wp_seq_k (fun K hK28 => ?_)
        refine wp_seq_k (fun K hK29 => ?_)
        refine wp_region_from ?_
        refine segO 2 [] [(36, .kv .bool ((IntKind.wrap .i64 ((o25.1.length : Int) - o27.2.1)) == 0))] (Os := []) trivial hE hH (by kernel_rfl) (fun a hE => ?_)
        refine wpFrom_end (by kernel_rfl) ?_
        refine Exit.then_normal (hK29 _ _ ?_)
        refine condE (b := (IntKind.wrap .i64 ((o25.1.length : Int) - o27.2.1)) == 0) hE (by kernel_rfl) (fun hc => ?_) (fun hc => ?_)
        · replace h := ifT hc h
          refine wp_exit ?_
          refine Exit.then_exit ?_
          refine Exit.in_eq ?_
          refine Exit.then_normal (hK17 _ _ ?_)
          refine wp_region_from ?_
          refine segO 2 [] [(15, .kv .i (IntKind.wrap .i64 (x9 + 1)))] (Os := []) trivial hE hH (by kernel_rfl) (fun a hE => ?_)
          refine wpFrom_end (by kernel_rfl) ?_
          refine Exit.then_normal ?_
          exact ih14 _ _ _ _ h _ _ _  hle (hE.subC (by kernel_rfl)) hH hx12
        · replace h := ifF hc h
          refine wp_skip ?_
          refine Exit.then_normal (hK28 _ _ ?_)
          refine wp_seq_k (fun K hK30 => ?_)
          refine wp_region_from ?_
          refine segO 1 [] [(9, .kv .i 0)] (Os := []) trivial hE hH (by kernel_rfl) (fun a hE => ?_)
          refine wpFrom_end (by kernel_rfl) ?_
          refine Exit.then_normal (hK30 _ _ ?_)
          refine wp_seq_k (fun K hK31 => ?_)
          refine wp_seq_k (fun K hK32 => ?_)
          refine wp_region_from ?_
          refine segO 3 [] [(39, .kv .bool (decide ((x8.length : Int) > 0)))] (Os := []) trivial hE hH (by kernel_rfl) (fun a hE => ?_)
          refine wpFrom_end (by kernel_rfl) ?_
          refine Exit.then_normal (hK32 _ _ ?_)
          obtain ⟨z35, hz35, h⟩ := bs h
          refine join_intro (I := fun a w => ∃ (G : Gh), G0.le G ∧ EnvR G 78 a [(0, .kv (.ptr 105) p0), (1, .kv (.list .i) z35.1), (4, .kv .i 0), (7, .kv (.ptr 108) ((mapGet .str (.ptr 108) x19 o22.2.1).getD (zeroK (.ptr 108)))), (9, .kv .i z35.2), (13, .kv (.list .str) r7), (14, .kv .i (r7.length : Int)), (15, .kv .i x9)] ∧ Holds w G (tabs σ10) (Ls)) trivial ?_ ?_
          · intro a w hI
            obtain ⟨G, hle, hE, hH⟩ := hI
            refine Exit.then_normal (hK31 _ _ ?_)
            refine wp_seq_k (fun K hK37 => ?_)
            obtain ⟨i38, hi38, h⟩ := bs h
            obtain ⟨o39, ho39, h⟩ := bs h
            obtain ⟨i40, hi40, h⟩ := bs h
            obtain ⟨o41, ho41, h⟩ := bs h
            obtain ⟨q42, h⟩ := gd h
            refine region_par 12 [] [(0, 0), (0, 0), (0, 0), (0, 0), (0, 0), (0, 0), (0, 0), (0, 0), (0, 0), (0, 0), (0, 0), (0, 0)] [.kv (.ptr 108) ((mapGet .str (.ptr 108) x19 o22.2.1).getD (zeroK (.ptr 108))), .kv (.ptr 108) ((mapGet .str (.ptr 108) x19 o22.2.1).getD (zeroK (.ptr 108))), .kv (.ptr 108) (some i38), .fldA 108 i38 0, .kv .str o39.1, .kv (.ptr 108) ((mapGet .str (.ptr 108) x19 o22.2.1).getD (zeroK (.ptr 108))), .kv (.ptr 108) (some i40), .fldA 108 i40 1, .kv .i o41.2.1, .kv .i z35.2, .kv .i (IntKind.wrap .i64 (o41.2.1 + z35.2)), .kv .str (o39.1.take (Int.toNat (IntKind.wrap .i64 (o41.2.1 + z35.2))))] (fun _ => tabs σ10) (fun _ => Ls) (by kernel_rfl) (by kernel_rfl) hE hH
                    ⟨⟨⟨⟨⟨⟨⟨⟨⟨⟨⟨⟨trivial,
                    anyk (fun k => obR [] (Os := []) trivial (by kernel_rfl) (by kernel_rfl))⟩,
                    anyk (fun k => obR [] (Os := []) trivial (by kernel_rfl) (by kernel_rfl))⟩,
                    anyk (fun k => obR [.pt i38] (Os := [_]) ⟨hi38, trivial⟩ (by kernel_rfl) (by kernel_rfl))⟩,
                    anyk (fun k => obR [] (Os := []) trivial (by kernel_rfl) (by kernel_rfl))⟩,
                    anyk (fun k => obR [.ob fs108 o39] (Os := [_]) ⟨(ob108 (s := σ10) ho39), trivial⟩ (by kernel_rfl) (by kernel_rfl))⟩,
                    anyk (fun k => obR [] (Os := []) trivial (by kernel_rfl) (by kernel_rfl))⟩,
                    anyk (fun k => obR [.pt i40] (Os := [_]) ⟨hi40, trivial⟩ (by kernel_rfl) (by kernel_rfl))⟩,
                    anyk (fun k => obR [] (Os := []) trivial (by kernel_rfl) (by kernel_rfl))⟩,
                    anyk (fun k => obR [.ob fs108 o41] (Os := [_]) ⟨(ob108 (s := σ10) ho41), trivial⟩ (by kernel_rfl) (by kernel_rfl))⟩,
                    anyk (fun k => obR [] (Os := []) trivial (by kernel_rfl) (by kernel_rfl))⟩,
                    anyk (fun k => obR [] (Os := []) trivial (by kernel_rfl) (by kernel_rfl))⟩,
                    anyk (fun k => obR [] (Os := [_]) ⟨q42, trivial⟩ (by kernel_rfl) (by kernel_rfl))⟩ (fun a w G hl4 hE hH => ?_)
            have hle := Gh.le_trans hle hl4
            obtain ⟨i43, hi43, h⟩ := bs h
            refine segO 2 [.pt i43] [(62, .fldA 108 i43 0)] (Os := [_]) ⟨hi43, trivial⟩ hE hH (by kernel_rfl) (fun a hE => ?_)
            obtain ⟨o44, ho44, h⟩ := bs h
            refine stepStO (t := 108) (j := i43) (off := 0) .str (o39.1.take (Int.toNat (IntKind.wrap .i64 (o41.2.1 + z35.2)))) (x' := (o39.1.take (Int.toNat (IntKind.wrap .i64 (o41.2.1 + z35.2))), o44.2.1, ())) hE hH (by kernel_rfl) (ob108 (s := σ10) ho44) (by kernel_rfl) (upd108 (s := σ10)) (fun w G hl5 hE hH => ?_)
            have hle := Gh.le_trans hle hl5
            refine wpFrom_end (by kernel_rfl) ?_
            refine Exit.then_normal (hK37 _ _ ?_)
            refine wp_region_from ?_
            obtain ⟨i45, hi45, h⟩ := bs h
            obtain ⟨o46, ho46, h⟩ := bs h
            obtain ⟨i47, hi47, h⟩ := bs h
            refine segO 8 [.pt i45, .ob fs108 o46, .pt i47] [(68, .kv .i (o46.1.length : Int)), (70, .fldA 108 i47 1)] (Os := [_, _, _]) ⟨hi45, (ob108 (s := (σ10.set108 i43 (o39.1.take (Int.toNat (IntKind.wrap .i64 (o41.2.1 + z35.2))), o44.2.1, ()))) ho46), hi47, trivial⟩ hE hH (by kernel_rfl) (fun a hE => ?_)
            obtain ⟨o48, ho48, h⟩ := bs h
            refine stepStO (t := 108) (j := i47) (off := 1) .i (o46.1.length : Int) (x' := (o48.1, (o46.1.length : Int), ())) hE hH (by kernel_rfl) (ob108 (s := (σ10.set108 i43 (o39.1.take (Int.toNat (IntKind.wrap .i64 (o41.2.1 + z35.2))), o44.2.1, ()))) ho48) (by kernel_rfl) (upd108 (s := (σ10.set108 i43 (o39.1.take (Int.toNat (IntKind.wrap .i64 (o41.2.1 + z35.2))), o44.2.1, ())))) (fun w G hl6 hE hH => ?_)
            have hle := Gh.le_trans hle hl6
            refine wpFrom_end (by kernel_rfl) ?_
            refine Exit.in_normal ?_
            refine Exit.then_normal (hK17 _ _ ?_)
            refine wp_region_from ?_
            refine segO 2 [] [(15, .kv .i (IntKind.wrap .i64 (x9 + 1)))] (Os := []) trivial hE hH (by kernel_rfl) (fun a hE => ?_)
            refine wpFrom_end (by kernel_rfl) ?_
            refine Exit.then_normal ?_
            exact ih14 _ _ _ _ h _ _ _  hle (hE.subC (by kernel_rfl)) hH hx12
          · intro KK hKK ho
            have hj36 : ∀ (a : Act) (w : World) (G : Gh), G0.le G → EnvR G 78 a [(0, .kv (.ptr 105) p0), (1, .kv (.list .i) z35.1), (4, .kv .i 0), (7, .kv (.ptr 108) ((mapGet .str (.ptr 108) x19 o22.2.1).getD (zeroK (.ptr 108)))), (9, .kv .i z35.2), (13, .kv (.list .str) r7), (14, .kv .i (r7.length : Int)), (15, .kv .i x9)] → Holds w G (tabs σ10) (Ls) → KK .normal a w := fun a w G  h1 h2 h3 => hKK a w ⟨G, h1, h2, h3⟩
            replace h := hz35
            refine condE (b := decide ((x8.length : Int) > 0)) hE (by kernel_rfl) (fun hc => ?_) (fun hc => ?_)
            · replace h := ifT hc h
              obtain ⟨x49, hx49, h⟩ := bs h
              obtain ⟨q50, h⟩ := gd h
              obtain ⟨q51, h⟩ := gd h
              refine region_par 10 [] [(0, 0), (0, 0), (0, 0), (0, 0), (0, 0), (0, 0), (0, 0), (0, 0), (0, 0), (0, 0)] [.kv (.list .i) x8, .elA .i x49 0, .kv .i x49, .kv .i (if 0 > x49 then 0 else x49), .kv .i (IntKind.wrap .i64 ((o25.1.length : Int) - o27.2.1)), .kv .i (IntKind.wrap .i64 ((IntKind.wrap .i64 ((o25.1.length : Int) - o27.2.1)) + 1)), .kv .i (Int.tmod (if 0 > x49 then 0 else x49) (IntKind.wrap .i64 ((IntKind.wrap .i64 ((o25.1.length : Int) - o27.2.1)) + 1))), .kv (.list .i) x8, .kv (.list .i) (x8.drop (Int.toNat 1)), .kv .i (Int.tmod (if 0 > x49 then 0 else x49) (IntKind.wrap .i64 ((IntKind.wrap .i64 ((o25.1.length : Int) - o27.2.1)) + 1)))] (fun _ => tabs σ10) (fun _ => Ls) (by kernel_rfl) (by kernel_rfl) hE hH
                      ⟨⟨⟨⟨⟨⟨⟨⟨⟨⟨trivial,
                      anyk (fun k => obR [] (Os := []) trivial (by kernel_rfl) (by kernel_rfl))⟩,
                      anyk (fun k => obR [.ix .i x49] (Os := [_]) ⟨(IxAt.of (k := .i) hx49), trivial⟩ (by kernel_rfl) (by kernel_rfl))⟩,
                      anyk (fun k => obR [] (Os := []) trivial (by kernel_rfl) (by kernel_rfl))⟩,
                      anyk (fun k => obR [] (Os := []) trivial (by kernel_rfl) (by kernel_rfl))⟩,
                      anyk (fun k => obR [] (Os := []) trivial (by kernel_rfl) (by kernel_rfl))⟩,
                      anyk (fun k => obR [] (Os := []) trivial (by kernel_rfl) (by kernel_rfl))⟩,
                      anyk (fun k => obR [] (Os := [_]) ⟨q50, trivial⟩ (by kernel_rfl) (by kernel_rfl))⟩,
                      anyk (fun k => obR [] (Os := []) trivial (by kernel_rfl) (by kernel_rfl))⟩,
                      anyk (fun k => obR [] (Os := [_]) ⟨q51, trivial⟩ (by kernel_rfl) (by kernel_rfl))⟩,
                      anyk (fun k => obR [] (Os := []) trivial (by kernel_rfl) (by kernel_rfl))⟩ (fun a w G hl7 hE hH => ?_)
              have hle := Gh.le_trans hle hl7
              refine segO 1 [] [(1, .kv (.list .i) (x8.drop (Int.toNat 1)))] (Os := []) trivial hE hH (by kernel_rfl) (fun a hE => ?_)
              refine wpFrom_end (by kernel_rfl) ?_
              cases h
              exact hj36 _ _ _  hle (hE.subC (by kernel_rfl)) hH
            · replace h := ifF hc h
              refine wp_skip ?_
              cases h
              exact hj36 _ _ _  hle (hE.subC (by kernel_rfl)) hH
      · replace h := ifF hc h
        refine wp_exit ?_
        refine Exit.then_exit ?_
        refine Exit.then_exit ?_
        cases h
        exact hx12 _ rfl _ _ _  hle (hE.subC (by kernel_rfl)) hH
    refine key _ _ _ _ hz52 _ _ _  hle (hE.subC (by kernel_rfl)) hH ?_
    · intro z53 hz a w G  hle hE hH
      subst hz
      rw [hQ]
      refine Exit.in_eq ?_
      refine Exit.then_normal (hK5 _ _ ?_)
      refine wp_seq_k (fun K hK54 => ?_)
      refine wp_region_from ?_
      obtain ⟨i55, hi55, h⟩ := bs h
      refine segO 4 [.pt i55] [(73, .kv (.ptr 105) p0), (75, .fldA 105 i55 3)] (Os := [_]) ⟨hi55, trivial⟩ hE hH (by kernel_rfl) (fun a hE => ?_)
      obtain ⟨o56, ho56, h⟩ := bs h
      refine stepStO (t := 105) (j := i55) (off := 3) .bool false (x' := (o56.1, o56.2.1, o56.2.2.1, false, ())) hE hH (by kernel_rfl) (ob105 (s := z52.2.2) ho56) (by kernel_rfl) (upd105 (s := z52.2.2)) (fun w G hl8 hE hH => ?_)
      have hle := Gh.le_trans hle hl8
      obtain ⟨i57, hi57, h⟩ := bs h
      refine segO 2 [.pt i57] [(77, .fldA 105 i57 2)] (Os := [_]) ⟨hi57, trivial⟩ hE hH (by kernel_rfl) (fun a hE => ?_)
      obtain ⟨o58, ho58, h⟩ := bs h
      refine stepStO (t := 105) (j := i57) (off := 2) .i 0 (x' := (o58.1, o58.2.1, 0, o58.2.2.2.1, ())) hE hH (by kernel_rfl) (ob105 (s := (z52.2.2.set105 i55 (o56.1, o56.2.1, o56.2.2.1, false, ()))) ho58) (by kernel_rfl) (upd105 (s := (z52.2.2.set105 i55 (o56.1, o56.2.1, o56.2.2.1, false, ())))) (fun w G hl9 hE hH => ?_)
      have hle := Gh.le_trans hle hl9
      refine wpFrom_end (by kernel_rfl) ?_
      refine Exit.then_normal (hK54 _ _ ?_)
      refine wp_seq_k (fun K hK59 => ?_)
      refine wp_region_from ?_
      refine segO 1 [] [(4, .kv .i 0)] (Os := []) trivial hE hH (by kernel_rfl) (fun a hE => ?_)
      refine wpFrom_end (by kernel_rfl) ?_
      refine Exit.then_normal (hK59 _ _ ?_)
      refine wp_ret ?_
      cases h
      exact ret1 rfl hE hle hH (by kernel_rfl)
end Go.Proofs.Ytlfemhkabjafeaa.M

/- Printed by own program: twins and walks. -/
set_option linter.unusedVariables false
set_option maxRecDepth 100000
namespace Go.Proofs.Ytlfemhkabjafeaa.M
open Go.Proofs (Try.prog Try.func51 Try.f51)

def f51_l0 (p0 : List (List UInt8)) (p1 : List (List UInt8)) (x7 : Int) : Option (Sum Int Bool) :=
  if (decide (x7 < (p0.length : Int))) = true then
  (ix p0 x7) >>= fun x16 =>
  (ix p1 x7) >>= fun x17 =>
  if (!(x16 == x17)) = true then
  some (.inr false)
  else
  f51_l0 p0 p1 (IntKind.wrap .i64 (x7 + 1))
  else
  some (.inl x7)
  partial_fixpoint

def f51 (p0 : List (List UInt8)) (p1 : List (List UInt8)) : Option Bool :=
  if ((p0.length : Int) != (p1.length : Int)) = true then
  some false
  else
  f51_l0 p0 p1 0 >>= fun rr20 => (match rr20 with
  | .inr yy => some yy
  | .inl z19 =>
  some true)

theorem f51_ok {p0 : List (List UInt8)} {p1 : List (List UInt8)} {σ : St} {p : Bool} (h : f51 p0 p1 = some p) : Spec Try.prog 51 [.kv (.list .str) p0, .kv (.list .str) p1] (tabs σ) (.kv .bool p) (tabs σ) := by
  refine Spec.intro Try.func51 (by kernel_rfl) rfl (by kernel_rfl) (fun a w G0 Ls hE hH hN => ?_)
  have hle : G0.le G0 := Gh.le_refl G0
  unfold f51 at h
  refine wp_seq_k (fun K hK1 => ?_)
  refine wp_region_from ?_
  refine segO 1 [] [(4, .kv .bool false)] (Os := []) trivial hE hH (by kernel_rfl) (fun a hE => ?_)
  refine wpFrom_end (by kernel_rfl) ?_
  refine Exit.then_normal (hK1 _ _ ?_)
  refine wp_seq_k (fun K hK2 => ?_)
  refine wp_seq_k (fun K hK3 => ?_)
  refine wp_region_from ?_
  refine segO 5 [] [(10, .kv .bool ((p0.length : Int) != (p1.length : Int)))] (Os := []) trivial hE hH (by kernel_rfl) (fun a hE => ?_)
  refine wpFrom_end (by kernel_rfl) ?_
  refine Exit.then_normal (hK3 _ _ ?_)
  refine condE (b := (p0.length : Int) != (p1.length : Int)) hE (by kernel_rfl) (fun hc => ?_) (fun hc => ?_)
  · replace h := ifT hc h
    refine wp_seq_k (fun K hK4 => ?_)
    refine wp_region_from ?_
    refine segO 1 [] [(4, .kv .bool false)] (Os := []) trivial hE hH (by kernel_rfl) (fun a hE => ?_)
    refine wpFrom_end (by kernel_rfl) ?_
    refine Exit.then_normal (hK4 _ _ ?_)
    refine wp_ret ?_
    refine Exit.then_ret ?_
    cases h
    exact ret1 rfl hE hle hH (by kernel_rfl)
  · replace h := ifF hc h
    refine wp_skip ?_
    refine Exit.then_normal (hK2 _ _ ?_)
    refine wp_seq_k (fun K hK5 => ?_)
    refine wp_seq_k (fun K hK6 => ?_)
    refine wp_region_from ?_
    refine segO 1 [] [(5, .kv .i 0)] (Os := []) trivial hE hH (by kernel_rfl) (fun a hE => ?_)
    refine wpFrom_end (by kernel_rfl) ?_
    refine Exit.then_normal (hK6 _ _ ?_)
    refine wp_block ?_
    obtain ⟨rr20, hrr20, h⟩ := bs h
    refine loop_intro (fun Q8 c hQ hc => ?_)
    have key : ∀ (x7 : Int) (rr : Sum Int Bool), f51_l0 p0 p1 x7 = some rr → ∀ (a : Act) (w : World) (G : Gh), G0.le G → EnvR G 26 a [(0, .kv (.list .str) p0), (1, .kv (.list .str) p1), (4, .kv .bool false), (5, .kv .i x7)] → Holds w G (tabs σ) (Ls) → (∀ z19 : Int, rr = .inl z19 → ∀ (a : Act) (w : World) (G : Gh), G0.le G → EnvR G 26 a [(0, .kv (.list .str) p0), (1, .kv (.list .str) p1), (4, .kv .bool false), (5, .kv .i z19)] → Holds w G (tabs σ) (Ls) → Q8 (.exit 0) a w) → (∀ yy : Bool, rr = .inr yy → ∀ (a : Act) (w : World), PostB Try.prog Try.f51 G0 (.kv .bool yy) (tabs σ) Ls .ret a w → Q8 .ret a w) → Rnd Try.prog c Q8 a w := by
      refine f51_l0.partial_correctness p0 p1 _ ?_
      intro self ih11 x7 rr h a w G  hle hE hH hx9 hret10
      refine rnd_step' hc ?_
      refine wp_seq_k (fun K hK12 => ?_)
      refine wp_seq_k (fun K hK13 => ?_)
      refine wp_region_from ?_
      refine segO 4 [] [(14, .kv .bool (decide (x7 < (p0.length : Int))))] (Os := []) trivial hE hH (by kernel_rfl) (fun a hE => ?_)
      refine wpFrom_end (by kernel_rfl) ?_
      refine Exit.then_normal (hK13 _ _ ?_)
      refine condE (b := decide (x7 < (p0.length : Int))) hE (by kernel_rfl) (fun hc => ?_) (fun hc => ?_)
      · replace h := ifT hc h
        refine wp_skip ?_
        refine Exit.then_normal (hK12 _ _ ?_)
        refine wp_seq_k (fun K hK14 => ?_)
        refine wp_block ?_
        refine wp_seq_k (fun K hK15 => ?_)
        obtain ⟨x16, hx16, h⟩ := bs h
        obtain ⟨x17, hx17, h⟩ := bs h
        refine region_par 8 [] [(0, 0), (0, 0), (0, 0), (0, 0), (0, 0), (0, 0), (0, 0), (0, 0)] [.kv (.list .str) p0, .kv .i x7, .elA .str x16 0, .kv .str x16, .kv (.list .str) p1, .kv .i x7, .elA .str x17 0, .kv .str x17] (fun _ => tabs σ) (fun _ => Ls) (by kernel_rfl) (by kernel_rfl) hE hH
                ⟨⟨⟨⟨⟨⟨⟨⟨trivial,
                anyk (fun k => obR [] (Os := []) trivial (by kernel_rfl) (by kernel_rfl))⟩,
                anyk (fun k => obR [] (Os := []) trivial (by kernel_rfl) (by kernel_rfl))⟩,
                anyk (fun k => obR [.ix .str x16] (Os := [_]) ⟨(IxAt.of (k := .str) hx16), trivial⟩ (by kernel_rfl) (by kernel_rfl))⟩,
                anyk (fun k => obR [] (Os := []) trivial (by kernel_rfl) (by kernel_rfl))⟩,
                anyk (fun k => obR [] (Os := []) trivial (by kernel_rfl) (by kernel_rfl))⟩,
                anyk (fun k => obR [] (Os := []) trivial (by kernel_rfl) (by kernel_rfl))⟩,
                anyk (fun k => obR [.ix .str x17] (Os := [_]) ⟨(IxAt.of (k := .str) hx17), trivial⟩ (by kernel_rfl) (by kernel_rfl))⟩,
                anyk (fun k => obR [] (Os := []) trivial (by kernel_rfl) (by kernel_rfl))⟩ (fun a w G hl1 hE hH => ?_)
        have hle := Gh.le_trans hle hl1
        refine segO 1 [] [(25, .kv .bool (!(x16 == x17)))] (Os := []) trivial hE hH (by kernel_rfl) (fun a hE => ?_)
        refine wpFrom_end (by kernel_rfl) ?_
        refine Exit.then_normal (hK15 _ _ ?_)
        refine condE (b := !(x16 == x17)) hE (by kernel_rfl) (fun hc => ?_) (fun hc => ?_)
        · replace h := ifT hc h
          refine wp_seq_k (fun K hK18 => ?_)
          refine wp_region_from ?_
          refine segO 1 [] [(4, .kv .bool false)] (Os := []) trivial hE hH (by kernel_rfl) (fun a hE => ?_)
          refine wpFrom_end (by kernel_rfl) ?_
          refine Exit.then_normal (hK18 _ _ ?_)
          refine wp_ret ?_
          refine Exit.in_ret ?_
          refine Exit.then_ret ?_
          refine Exit.then_ret ?_
          cases h
          exact hret10 _ rfl _ _ (ret1 rfl hE hle hH (by kernel_rfl))
        · replace h := ifF hc h
          refine wp_skip ?_
          refine Exit.in_normal ?_
          refine Exit.then_normal (hK14 _ _ ?_)
          refine wp_region_from ?_
          refine segO 3 [] [(5, .kv .i (IntKind.wrap .i64 (x7 + 1)))] (Os := []) trivial hE hH (by kernel_rfl) (fun a hE => ?_)
          refine wpFrom_end (by kernel_rfl) ?_
          refine Exit.then_normal ?_
          exact ih11 _ _ h _ _ _  hle (hE.subC (by kernel_rfl)) hH hx9 hret10
      · replace h := ifF hc h
        refine wp_exit ?_
        refine Exit.then_exit ?_
        refine Exit.then_exit ?_
        cases h
        exact hx9 _ rfl _ _ _  hle (hE.subC (by kernel_rfl)) hH
    refine key _ _ hrr20 _ _ _  hle (hE.subC (by kernel_rfl)) hH ?_ ?_
    · intro z19 hz a w G  hle hE hH
      subst hz
      rw [hQ]
      dsimp only at h
      refine Exit.in_eq ?_
      refine Exit.then_normal (hK5 _ _ ?_)
      refine wp_seq_k (fun K hK21 => ?_)
      refine wp_region_from ?_
      refine segO 1 [] [(4, .kv .bool true)] (Os := []) trivial hE hH (by kernel_rfl) (fun a hE => ?_)
      refine wpFrom_end (by kernel_rfl) ?_
      refine Exit.then_normal (hK21 _ _ ?_)
      refine wp_ret ?_
      cases h
      exact ret1 rfl hE hle hH (by kernel_rfl)
    · intro yy hz a w hp
      subst hz
      dsimp only at h
      cases h
      rw [hQ]
      refine Exit.in_ret ?_
      refine Exit.then_ret ?_
      exact hp
end Go.Proofs.Ytlfemhkabjafeaa.M

/- Own library, part 23: lists of their own in fields: they are taken out, grow, and are put back. -/
set_option linter.unusedVariables false
set_option linter.unusedSimpArgs false
namespace Go.Proofs.Ytlfemhkabjafeaa.M

structure KL where
  k : Kd
  xs : List k.den

/-- The list of its own at a cell offset: its field, the type and bytes of an element, the list. -/
def ownO : (fs : List Fk) → denFs fs → Nat → Nat → Option (Nat × Nat × Nat × KL)
  | [], _, _, _ => none
  | .own e bt k :: r, x, 0, f => some (f, e, bt, ⟨k, x.1⟩)
  | .own _ _ _ :: r, x, o + 1, f => ownO r x.2 o (f + 1)
  | .p k :: r, x, o, f => (match Nat.ble k.w o with
    | true => ownO r x.2 (o - k.w) (f + 1)
    | false => none)
  | .omap _ _ :: r, x, 0, f => none
  | .omap _ _ :: r, x, o + 1, f => ownO r x.2 o (f + 1)

def setO : (fs : List Fk) → denFs fs → Nat → (k : Kd) → List k.den → Option (denFs fs)
  | [], _, _, _, _ => none
  | .own e bt k :: r, x, 0, k', ys => if h : k' = k then some (h ▸ ys, x.2) else none
  | .own _ _ _ :: r, x, o + 1, k', ys => (match setO r x.2 o k' ys with
    | some y => some (x.1, y)
    | none => none)
  | .p k :: r, x, o, k', ys => (match Nat.ble k.w o with
    | true => (match setO r x.2 (o - k.w) k' ys with
      | some y => some (x.1, y)
      | none => none)
    | false => none)
  | .omap _ _ :: r, x, 0, k', ys => none
  | .omap _ _ :: r, x, o + 1, k', ys => (match setO r x.2 o k' ys with
    | some y => some (x.1, y)
    | none => none)

section
variable {w w' : World} {G G' : Gh} {T T' : Tabs} {L L' Ls : List LS}

theorem ObjR_from (hle : G.le G') {t i : Nat} : ∀ {f : Nat} {fs : List Fk} {x : denFs fs} {cs : List Value}, (∀ f', f ≤ f' → holeAt t i f' L' = holeAt t i f' L) →
    (∀ b f', f ≤ f' → (G.role b = .fld t i f' ∨ ∃ p, G.role b = .grow (.fld t i f') p) → w'.heap[b]? = w.heap[b]? ∧ G'.role b = G.role b) → ObjR w G L t i f fs x cs → ObjR w' G' L' t i f fs x cs
  | _, [], _, _, _, _, h => h
  | f, fk :: r, x, cs, hL, hs, ⟨c1, c2, hc, h1, h2⟩ => ⟨c1, c2, hc, by rw [hL f (Nat.le_refl _)]; exact FkR_keep hle (fun b hb => hs b f (Nat.le_refl _) hb) h1,
      ObjR_from hle (fun f' hf => hL f' (by omega)) (fun b f' hf hb => hs b f' (by omega) hb) h2⟩

theorem own_take {t i : Nat} : ∀ {fs : List Fk} {x : denFs fs} {off f g e bt : Nat} {q : KL} {cs : List Value}, ownO fs x off f = some (g, e, bt, q) → ObjR w G L t i f fs x cs → holeAt t i g L = none →
    f ≤ g ∧ ∃ v, cs[off]? = some v ∧ ownV G w (.fld t i g) e bt q.k q.xs v ∧
      ∀ {G' : Gh} {L' : List LS}, G.le G' → (∀ b, (∀ p, G.role b ≠ .grow (.fld t i g) p) → G'.role b = G.role b) → (∀ f', f' ≠ g → holeAt t i f' L' = holeAt t i f' L) → holeAt t i g L' = some v → ObjR w G' L' t i f fs x cs
  | [], _, _, _, _, _, _, _, _, h, _, _ => by simp [ownO] at h
  | .own e0 bt0 k0 :: r, x, 0, f, g, e, bt, q, cs, h, ho, hn => by
    simp only [ownO, Option.some.injEq, Prod.mk.injEq] at h
    obtain ⟨rfl, rfl, rfl, rfl⟩ := h
    obtain ⟨c1, c2, rfl, h1, h2⟩ := ho
    obtain ⟨v, rfl, hv⟩ := holeAt_none_own hn h1
    refine ⟨Nat.le_refl _, v, by simp, hv, fun {G'} {L'} hle hr hL hg => ?_⟩
    refine ⟨[v], c2, rfl, ?_, ?_⟩
    · rw [hg]; exact rfl
    · refine ObjR_from hle (fun f' hf => hL f' (by omega)) (fun b f' hf hb => ⟨rfl, hr b (fun p hp => ?_)⟩) h2
      rcases hb with hb | ⟨p', hb⟩ <;> rw [hb] at hp <;> simp at hp
      omega
  | .own e0 bt0 k0 :: r, x, o + 1, f, g, e, bt, q, cs, h, ho, hn => by
    simp only [ownO] at h
    obtain ⟨c1, c2, rfl, h1, h2⟩ := ho
    have hl : c1.length = 1 := FkR_len h1
    obtain ⟨hfg, v, k1, k2, k3⟩ := own_take h h2 hn
    refine ⟨by omega, v, by rw [List.getElem?_append_right (by omega)]; rw [hl]; simpa using k1, k2, fun {G'} {L'} hle hr hL hg => ?_⟩
    refine ⟨c1, c2, rfl, ?_, k3 hle hr hL hg⟩
    rw [hL f (by omega)]
    refine FkR_keep hle (fun b hb => ⟨rfl, hr b (fun p hp => ?_)⟩) h1
    rcases hb with hb | ⟨p', hb⟩ <;> rw [hb] at hp <;> simp at hp
    omega
  | .p k0 :: r, x, o, f, g, e, bt, q, cs, h, ho, hn => by
    simp only [ownO] at h
    split at h
    · rename_i hb
      have hge : k0.w ≤ o := Nat.le_of_ble_eq_true hb
      obtain ⟨c1, c2, rfl, h1, h2⟩ := ho
      have hl : c1.length = k0.w := FkR_len h1
      obtain ⟨hfg, v, k1, k2, k3⟩ := own_take h h2 hn
      refine ⟨by omega, v, by rw [List.getElem?_append_right (by omega)]; rw [hl]; exact k1, k2, fun {G'} {L'} hle hr hL hg => ?_⟩
      refine ⟨c1, c2, rfl, Kr_mono hle h1, k3 hle hr hL hg⟩
    · cases h
  | .omap kk kv :: r, x, 0, f, g, e, bt, q, cs, h, ho, hn => by simp [ownO] at h
  | .omap kk kv :: r, x, o + 1, f, g, e, bt, q, cs, h, ho, hn => by
    simp only [ownO] at h
    obtain ⟨c1, c2, rfl, h1, h2⟩ := ho
    have hl : c1.length = 1 := FkR_len h1
    obtain ⟨hfg, v, k1, k2, k3⟩ := own_take h h2 hn
    refine ⟨by omega, v, by rw [List.getElem?_append_right (by omega)]; rw [hl]; simpa using k1, k2, fun {G'} {L'} hle hr hL hg => ?_⟩
    refine ⟨c1, c2, rfl, ?_, k3 hle hr hL hg⟩
    rw [hL f (by omega)]
    refine FkR_keep hle (fun b hb => ⟨rfl, hr b (fun p hp => ?_)⟩) h1
    rcases hb with hb | ⟨p', hb⟩ <;> rw [hb] at hp <;> simp at hp
    omega

theorem own_put {t i : Nat} : ∀ {fs : List Fk} {x x' : denFs fs} {off f g e bt : Nat} {q : KL} {ys : List q.k.den} {cs : List Value}, ownO fs x off f = some (g, e, bt, q) → setO fs x off q.k ys = some x' → ObjR w G L t i f fs x cs →
    f ≤ g ∧ off < cs.length ∧ ∀ {w' : World} {G' : Gh} {L' : List LS} {v' : Value}, G.le G' → ownV G' w' (.fld t i g) e bt q.k ys v' → holeAt t i g L' = none → (∀ f', f' ≠ g → holeAt t i f' L' = holeAt t i f' L) →
      (∀ b f', f' ≠ g → (G.role b = .fld t i f' ∨ ∃ p, G.role b = .grow (.fld t i f') p) → w'.heap[b]? = w.heap[b]? ∧ G'.role b = G.role b) → ObjR w' G' L' t i f fs x' (cs.set off v')
  | [], _, _, _, _, _, _, _, _, _, _, h, _, _ => by simp [ownO] at h
  | .own e0 bt0 k0 :: r, x, x', 0, f, g, e, bt, q, ys, cs, h, hs, ho => by
    simp only [ownO, Option.some.injEq, Prod.mk.injEq] at h
    obtain ⟨rfl, rfl, rfl, rfl⟩ := h
    simp only [setO, dif_pos, Option.some.injEq] at hs
    subst hs
    obtain ⟨c1, c2, rfl, h1, h2⟩ := ho
    have hl : c1.length = 1 := FkR_len h1
    refine ⟨Nat.le_refl _, by simp; omega, fun {w'} {G'} {L'} {v'} hle hv hg hL hr => ?_⟩
    obtain ⟨u, rfl⟩ : ∃ u, c1 = [u] := by
      cases c1 with
      | nil => simp at hl
      | cons u r' => cases r' with | nil => exact ⟨u, rfl⟩ | cons _ _ => simp at hl
    refine ⟨[v'], c2, rfl, ?_, ?_⟩
    · rw [hg]; exact ⟨v', rfl, hv⟩
    · exact ObjR_from hle (fun f' hf => hL f' (by omega)) (fun b f' hf hb => hr b f' (by omega) hb) h2
  | .own e0 bt0 k0 :: r, x, x', o + 1, f, g, e, bt, q, ys, cs, h, hs, ho => by
    simp only [ownO] at h
    simp only [setO] at hs
    split at hs
    · rename_i y hy
      simp only [Option.some.injEq] at hs; subst hs
      obtain ⟨c1, c2, rfl, h1, h2⟩ := ho
      have hl : c1.length = 1 := FkR_len h1
      obtain ⟨hfg, hlt, k3⟩ := own_put h hy h2
      refine ⟨by omega, by simp; omega, fun {w'} {G'} {L'} {v'} hle hv hg hL hr => ?_⟩
      refine ⟨c1, c2.set o v', by rw [List.set_append_right _ _ (by omega)]; rw [hl]; rfl, ?_, k3 hle hv hg hL hr⟩
      rw [hL f (by omega)]
      exact FkR_keep hle (fun b hb => hr b f (by omega) hb) h1
    · cases hs
  | .p k0 :: r, x, x', o, f, g, e, bt, q, ys, cs, h, hs, ho => by
    simp only [ownO] at h
    simp only [setO] at hs
    split at h
    · rename_i hb
      rw [hb] at hs
      simp only at hs
      have hge : k0.w ≤ o := Nat.le_of_ble_eq_true hb
      split at hs
      · rename_i y hy
        simp only [Option.some.injEq] at hs; subst hs
        obtain ⟨c1, c2, rfl, h1, h2⟩ := ho
        have hl : c1.length = k0.w := FkR_len h1
        obtain ⟨hfg, hlt, k3⟩ := own_put h hy h2
        refine ⟨by omega, by simp; omega, fun {w'} {G'} {L'} {v'} hle hv hg hL hr => ?_⟩
        exact ⟨c1, c2.set (o - k0.w) v', by rw [List.set_append_right _ _ (by omega), hl], Kr_mono hle h1, k3 hle hv hg hL hr⟩
      · cases hs
    · cases h
  | .omap kk kv :: r, x, x', 0, f, g, e, bt, q, ys, cs, h, hs, ho => by simp [ownO] at h
  | .omap kk kv :: r, x, x', o + 1, f, g, e, bt, q, ys, cs, h, hs, ho => by
    simp only [ownO] at h
    simp only [setO] at hs
    split at hs
    · rename_i y hy
      simp only [Option.some.injEq] at hs; subst hs
      obtain ⟨c1, c2, rfl, h1, h2⟩ := ho
      have hl : c1.length = 1 := FkR_len h1
      obtain ⟨hfg, hlt, k3⟩ := own_put h hy h2
      refine ⟨by omega, by simp; omega, fun {w'} {G'} {L'} {v'} hle hv hg hL hr => ?_⟩
      refine ⟨c1, c2.set o v', by rw [List.set_append_right _ _ (by omega)]; rw [hl]; rfl, ?_, k3 hle hv hg hL hr⟩
      rw [hL f (by omega)]
      exact FkR_keep hle (fun b hb => hr b f (by omega) hb) h1
    · cases hs

/-! ### Roles -/
def Gh.own (G : Gh) (o : Option Nat) (r : Role) : Gh := { G with role := fun b => if o = some b then r else G.role b }

theorem Gh.le_own {o : Option Nat} {r : Role} (h : ∀ b, o = some b → (G.role b).le r) : G.le (G.own o r) := by
  refine ⟨rfl, fun b => ?_⟩
  simp only [Gh.own]
  split
  · rename_i hb; exact h b hb
  · exact Role.le_refl _

theorem Gh.own_role {o : Option Nat} {r : Role} {b : Nat} (h : o ≠ some b) : (G.own o r).role b = G.role b := by simp [Gh.own, h]
theorem Gh.own_same {o : Option Nat} {r : Role} {b : Nat} (h : o = some b) : (G.own o r).role b = r := by simp [Gh.own, h]

theorem holeAt_hole (t i g : Nat) (v : Value) (L : List LS) (t' i' f' : Nat) : holeAt t' i' f' (.hole t i g v :: L) = if t = t' ∧ i = i' ∧ g = f' then some v else holeAt t' i' f' L := by
  simp only [holeAt]

/-- A field's own list is taken out. -/
theorem Holds.take (h : Holds w G T Ls) {b t i off : Nat} {fs : List Fk} {x : denFs fs} {g e bt : Nat} {q : KL} (hr : G.role b = .obj t i) (ho : ObAt T t i fs x) (hown : ownO fs x off 0 = some (g, e, bt, q)) (hN : holeAt t i g Ls = none) :
    ∃ v G' ce ty, w.heap[b]? = some (.cells ce ty (0, 0)) ∧ ce[off]? = some v ∧ G.le G' ∧ VR G' (.list q.k) q.xs v ∧ Holds w G' T (.tk v e bt q.k q.xs :: .hole t i g v :: Ls) := by
  obtain ⟨ce, ty, hh, hob⟩ := h.at hr ho
  obtain ⟨_, v, hv0, hv, hk⟩ := own_take hown hob hN
  obtain ⟨cs, o1, o2, o3, o4⟩ := id hv
  have hblk : ∀ c, v.ownBlock = some c → G.role c = .grow (.fld t i g) cs := o4
  have hle : G.le (G.own v.ownBlock (.grow .loc cs)) := Gh.le_own (fun c hc => by rw [hblk c hc]; exact ⟨.loc, [], by simp⟩)
  have hL : ∀ t' i' f', holeAt t' i' f' (.tk v e bt q.k q.xs :: .hole t i g v :: Ls) = if t = t' ∧ i = i' ∧ g = f' then some v else holeAt t' i' f' Ls := fun t' i' f' => by
    rw [holeAt_cons (fun _ _ _ => rfl), holeAt_hole]
  have hnf : ∀ l ∈ Ls, ∀ c, l.blk = some c → v.ownBlock ≠ some c := by
    intro l hl c hc hvc
    have h1 := hblk c hvc
    rcases h.loc_role hl hc with h2 | ⟨p, h2⟩ <;> rw [h1] at h2 <;> simp at h2
  have hv' : ownV (G.own v.ownBlock (.grow .loc cs)) w .loc e bt q.k q.xs v := ⟨cs, o1, rowR_mono (fun x cs hx => Kr_mono hle hx) o2, o3, fun c hc => Gh.own_same hc⟩
  refine ⟨v, G.own v.ownBlock (.grow .loc cs), ce, ty, hh, by rw [← Array.getElem?_toList]; exact hv0, hle, ownV_list hv', ?_⟩
  have hbo : v.ownBlock ≠ some b := fun hvc => by rw [hblk b hvc] at hr; cases hr
  refine h.change (fun c => v.ownBlock = some c ∨ c = b) hle ⟨rfl, rfl, rfl⟩ ?_ (fun c hc => ⟨rfl, Gh.own_role (fun e => hc (.inl e))⟩) ?_ ?_ ?_ ?_ ?_ ?_ ?_ ?_
  · intro c hc
    rw [Gh.own_role (fun hvc => by have := h.free c hc; rw [hblk c hvc] at this; cases this)]
    exact h.free c hc
  · intro c hc
    rcases hc with hc | rfl
    · have := h.block c
      unfold BlockOK at this ⊢
      rw [hblk c hc] at this
      rw [Gh.own_same hc]
      exact this
    · unfold BlockOK
      rw [Gh.own_role hbo, hr]
      obtain ⟨xs0, q1, q2⟩ := ho
      refine ⟨_, x, ce, ty, q1, q2, hh, ?_⟩
      refine hk hle (fun c hc => Gh.own_role (fun hvc => hc cs (hblk c hvc))) (fun f' hf => ?_) ?_
      · rw [hL, if_neg (fun e => hf e.2.2.symm)]
      · rw [hL, if_pos ⟨rfl, rfl, rfl⟩]
  · intro c t' i' hc hrc tab y cs' h1 h2 h3
    by_cases he : t = t' ∧ i = i'
    · obtain ⟨rfl, rfl⟩ := he
      exact absurd (.inr (h.inj c b t i hrc hr)) hc
    · refine ⟨tab, y, h1, h2, ?_⟩
      refine ObjR_keep (w := w) hle (fun f => ?_) (fun b2 f hb2 => ⟨rfl, Gh.own_role (fun hvc => ?_)⟩) h3
      · rw [hL, if_neg (fun e => he ⟨e.1, e.2.1⟩)]
      · rw [hblk b2 hvc] at hb2
        rcases hb2 with hb2 | ⟨p, hb2⟩ <;> simp at hb2
        exact he ⟨hb2.1.1, hb2.1.2.1⟩
  · intro l hl
    rcases List.mem_cons.1 hl with rfl | hl
    · exact hv'
    rcases List.mem_cons.1 hl with rfl | hl
    · trivial
    · exact LSR_keep hle (fun c hc => ⟨rfl, Gh.own_role (hnf l hl c hc)⟩) (h.loc l hl)
  · have hnd := h.nd
    have e1 : ((.hole t i g v :: Ls : List LS).filterMap LS.blk) = Ls.filterMap LS.blk := List.filterMap_cons_none rfl
    cases hb : v.ownBlock with
    | none =>
      rw [List.filterMap_cons_none (show LS.blk (.tk v e bt q.k q.xs) = none from hb), e1]; exact hnd
    | some c =>
      rw [List.filterMap_cons_some (show LS.blk (.tk v e bt q.k q.xs) = some c from hb), e1, List.nodup_cons]
      refine ⟨fun hm => ?_, hnd⟩
      obtain ⟨l, hl, hlc⟩ := List.mem_filterMap.1 hm
      exact hnf l hl c hlc hb
  · intro t' tab i' h1 h2
    obtain ⟨c, hc⟩ := h.ex t' tab i' h1 h2
    exact ⟨c, by rw [Gh.own_role (fun hvc => by rw [hblk c hvc] at hc; cases hc)]; exact hc⟩
  · intro c c' t' i' h1 h2
    have n1 : v.ownBlock ≠ some c := fun hvc => by rw [Gh.own_same hvc] at h1; cases h1
    have n2 : v.ownBlock ≠ some c' := fun hvc => by rw [Gh.own_same hvc] at h2; cases h2
    rw [Gh.own_role n1] at h1
    rw [Gh.own_role n2] at h2
    exact h.inj c c' t' i' h1 h2
  · intro c c' t' i' f' h1 h2
    have n1 : v.ownBlock ≠ some c := fun hvc => by rw [Gh.own_same hvc] at h1; cases h1
    have n2 : v.ownBlock ≠ some c' := fun hvc => by rw [Gh.own_same hvc] at h2; cases h2
    rw [Gh.own_role n1] at h1
    rw [Gh.own_role n2] at h2
    exact h.finj c c' t' i' f' h1 h2
  · intro c t' i' f' h1
    have n1 : v.ownBlock ≠ some c := fun hvc => by rw [Gh.own_same hvc] at h1; cases h1
    rw [Gh.own_role n1] at h1
    exact h.fex c t' i' f' h1

theorem splice_one {cs : List Value} {v : Value} {off : Nat} (h : off < cs.length) : splice cs [v] off = cs.set off v := by
  unfold splice
  rw [List.set_eq_take_append_cons_drop, if_pos h]
  simp

/-- An own list is put into a field. -/
theorem Holds.putO (h : Holds w G T Ls) {b t i off : Nat} {fs : List Fk} {x x' : denFs fs} {g e bt : Nat} {q : KL} {ys : List q.k.den} {v' : Value} {ce : Array Value} {ty : TypeId} (hr : G.role b = .obj t i) (hh : w.heap[b]? = some (.cells ce ty (0, 0))) (ho : ObAt T t i fs x)
    (hown : ownO fs x off 0 = some (g, e, bt, q)) (hset : setO fs x off q.k ys = some x') (hT : UpdT T T' t i fs x') {L2 : List LS} (hm : .tk v' e bt q.k ys ∈ Ls) (hL2 : ∀ l ∈ L2, l ∈ Ls ∧ (∀ c, l.blk = some c → v'.ownBlock ≠ some c)) (hnd : (L2.filterMap LS.blk).Nodup)
    (hh1 : holeAt t i g L2 = none) (hh2 : ∀ t' i' f', ¬ (t = t' ∧ i = i' ∧ g = f') → holeAt t' i' f' L2 = holeAt t' i' f' Ls) :
    off < ce.size ∧ ∃ G', G.le G' ∧ Holds (w.setRow b (splice ce.toList [v'] off).toArray) G' T' L2 := by
  obtain ⟨ce', ty', hh', hob⟩ := h.at hr ho
  rw [hh] at hh'
  simp only [Option.some.injEq, Obj.cells.injEq] at hh'
  obtain ⟨rfl, rfl, _⟩ := hh'
  obtain ⟨_, hlt, hk⟩ := own_put hown hset hob
  refine ⟨by rw [← Array.length_toList]; exact hlt, ?_⟩
  obtain ⟨cs, o1, o2, o3, o4⟩ := h.loc _ hm
  have hle : G.le (G.own v'.ownBlock (.grow (.fld t i g) cs)) := Gh.le_own (fun c hc => by rw [o4 c hc]; exact ⟨.fld t i g, [], by simp⟩)
  have hbo : v'.ownBlock ≠ some b := fun hvc => by rw [o4 b hvc] at hr; cases hr
  have hsame : ∀ c, c ≠ b → (w.setRow b (splice ce.toList [v'] off).toArray).heap[c]? = w.heap[c]? := fun c hc => setRow_other w b c _ hc
  have hv' : ownV (G.own v'.ownBlock (.grow (.fld t i g) cs)) (w.setRow b (splice ce.toList [v'] off).toArray) (.fld t i g) e bt q.k ys v' :=
    ⟨cs, ownsRow_keep o1 (fun c hc => hsame c (fun e => hbo (by rw [← e]; exact hc))), rowR_mono (fun x cs hx => Kr_mono hle hx) o2, o3, fun c hc => Gh.own_same hc⟩
  obtain ⟨⟨xs, hT1, hT2⟩, hT3⟩ := hT
  obtain ⟨xs0, ho1, ho2⟩ := ho
  rw [hT1] at ho1
  simp only [Option.some.injEq, Tab.mk.injEq, heq_eq_eq, true_and] at ho1
  subst ho1
  have hltx := (List.getElem?_eq_some_iff.1 ho2).1
  refine ⟨_, hle, ?_⟩
  refine h.change (fun c => v'.ownBlock = some c ∨ c = b) hle ⟨rfl, rfl, rfl⟩ ?_ (fun c hc => ⟨hsame c (fun e => hc (.inr e)), Gh.own_role (fun e => hc (.inl e))⟩) ?_ ?_ ?_ hnd ?_ ?_ ?_ ?_
  · intro c hc
    simp at hc
    rw [Gh.own_role (fun hvc => by have := h.free c hc; rw [o4 c hvc] at this; cases this)]
    exact h.free c hc
  · intro c hc
    rcases hc with hc | rfl
    · have := h.block c
      unfold BlockOK at this ⊢
      rw [o4 c hc] at this
      rw [Gh.own_same hc, hsame c (fun e => hbo (by rw [← e]; exact hc))]
      exact this
    · unfold BlockOK
      rw [Gh.own_role hbo, hr]
      refine ⟨_, x', _, ty, hT2, by simp [hltx], setRow_heap w c ce _ ty _ hh, ?_⟩
      have hk' := hk (L' := L2) hle hv' hh1 (fun f' hf => hh2 _ _ _ (fun e => hf e.2.2.symm)) (fun c2 f' hf hc2 => ⟨hsame c2 (fun e => by
        rw [e, hr] at hc2; rcases hc2 with hc2 | ⟨p, hc2⟩ <;> cases hc2), Gh.own_role (fun hvc => by
        rw [o4 c2 hvc] at hc2; rcases hc2 with hc2 | ⟨p, hc2⟩ <;> simp at hc2)⟩)
      have e0 : (splice ce.toList [v'] off).toArray.toList = ce.toList.set off v' := by rw [splice_one hlt]
      rw [e0]
      exact hk'
  · intro c t' i' hc hrc tab y cs' h1 h2 h3
    by_cases he : t = t' ∧ i = i'
    · obtain ⟨rfl, rfl⟩ := he
      exact absurd (.inr (h.inj c b t i hrc hr)) hc
    · have h3' : ObjR (w.setRow b (splice ce.toList [v'] off).toArray) (G.own v'.ownBlock (.grow (.fld t i g) cs)) L2 t' i' 0 tab.fs y cs' := by
        refine ObjR_keep (w := w) hle (fun f => hh2 _ _ _ (fun e => he ⟨e.1, e.2.1⟩)) (fun b2 f hb2 => ⟨hsame b2 (fun e => ?_), Gh.own_role (fun hvc => ?_)⟩) h3
        · subst e; rcases hb2 with hb2 | ⟨p, hb2⟩ <;> rw [hr] at hb2 <;> cases hb2
        · rw [o4 b2 hvc] at hb2; rcases hb2 with hb2 | ⟨p, hb2⟩ <;> simp at hb2
      by_cases ht : t' = t
      · subst ht
        rw [hT1] at h1
        simp only [Option.some.injEq] at h1; subst h1
        refine ⟨⟨fs, xs.set i x'⟩, y, hT2, ?_, h3'⟩
        show (xs.set i x')[i']? = some y
        rw [List.getElem?_set_ne (fun e => he ⟨rfl, e⟩)]; exact h2
      · exact ⟨tab, y, by rw [hT3 t' ht]; exact h1, h2, h3'⟩
  · intro l hl
    obtain ⟨hl1, hl2⟩ := hL2 l hl
    refine LSR_keep hle (fun c hc => ⟨hsame c (fun e => ?_), Gh.own_role (hl2 c hc)⟩) (h.loc l hl1)
    subst e
    rcases h.loc_role hl1 hc with h2 | ⟨p, h2⟩ <;> rw [hr] at h2 <;> cases h2
  · intro t' tab i' h1 h2
    have key : ∃ c, G.role c = .obj t' i' := by
      by_cases ht : t' = t
      · subst ht
        rw [hT2] at h1
        simp only [Option.some.injEq] at h1; subst h1
        exact h.ex _ _ i' hT1 (by simpa using h2)
      · rw [hT3 t' ht] at h1
        exact h.ex t' tab i' h1 h2
    obtain ⟨c, hc⟩ := key
    exact ⟨c, by rw [Gh.own_role (fun hvc => by rw [o4 c hvc] at hc; cases hc)]; exact hc⟩
  · intro c c' t' i' h1 h2
    have n1 : v'.ownBlock ≠ some c := fun hvc => by rw [Gh.own_same hvc] at h1; cases h1
    have n2 : v'.ownBlock ≠ some c' := fun hvc => by rw [Gh.own_same hvc] at h2; cases h2
    rw [Gh.own_role n1] at h1
    rw [Gh.own_role n2] at h2
    exact h.inj c c' t' i' h1 h2
  · intro c c' t' i' f' h1 h2
    have n1 : v'.ownBlock ≠ some c := fun hvc => by rw [Gh.own_same hvc] at h1; cases h1
    have n2 : v'.ownBlock ≠ some c' := fun hvc => by rw [Gh.own_same hvc] at h2; cases h2
    rw [Gh.own_role n1] at h1
    rw [Gh.own_role n2] at h2
    exact h.finj c c' t' i' f' h1 h2
  · intro c t' i' f' h1
    have n1 : v'.ownBlock ≠ some c := fun hvc => by rw [Gh.own_same hvc] at h1; cases h1
    rw [Gh.own_role n1] at h1
    obtain ⟨tab, k1, k2⟩ := h.fex c t' i' f' h1
    by_cases ht : t' = t
    · subst ht
      rw [hT1] at k1
      simp only [Option.some.injEq] at k1; subst k1
      exact ⟨_, hT2, by simpa using k2⟩
    · exact ⟨tab, by rw [hT3 t' ht]; exact k1, k2⟩
end

/-! ### The steps -/
section
variable {P : Program} {w : World} {G : Gh} {T T' : Tabs} {Ls : List LS} {a : Act} {N : Nat} {E : Env} {ops : Array Oper} {Q : Exit → Act → World → Prop}

theorem run_loadCell {ty : TypeId} {b off : Nat} {ce : Array Value} {tb : TypeId} {fr : Nat × Nat} {v : Value} (h1 : sizeT P ty = some 1) (h2 : aggT P ty = some false)
    (hh : w.heap[b]? = some (.cells ce tb fr)) (h : ce[off]? = some v) : (Instr.loadAt ty (.pointer (some ⟨b, off, none⟩))).run P w = .ok v w := by
  have hc : w.cell? ⟨b, off, none⟩ = some v := by rw [cell_at hh]; exact h
  simp [Instr.loadAt, Instr.sureAddr, loadVar, run_isAgg h2, hc]

def ldoE (P : Program) (ops : Array Oper) (E : Env) (i : Nat) : Option (Nat × Nat × Nat × Option Nat) :=
  match ops[i]? with
  | some o => (match goes ops (look E []) o, o.op with
    | true, .load ty x => (match sizeT P ty, aggT P ty, opnd (look E []) [] x with
      | some 1, some false, some (.fldA t j off) => some (t, j, off, o.dst)
      | _, _, _ => none)
    | _, _ => none)
  | none => none

/-- A field's own list is taken out of it, where it is loaded. -/
theorem stepTake {t j off : Nat} {fs : List Fk} {x : denFs fs} {g e bt : Nat} {q : KL} {d : Option Nat} {i : Nat} (hE : EnvR G N a E) (hH : Holds w G T Ls) (hN : NoHole Ls) (hb : ldoE P ops E i = some (t, j, off, d)) (ho : ObAt T t j fs x) (hown : ownO fs x off 0 = some (g, e, bt, q)) (hd : dstOK d N = true)
    (k : ∀ v a' w' G', G.le G' → EnvR G' N a' (putE d (.tl v q.k q.xs) E) → Holds w' G' T (.tk v e bt q.k q.xs :: .hole t j g v :: Ls) → wpFrom P ops Q (i + 1) a' w') : wpFrom P ops Q i a w := by
  unfold ldoE at hb
  split at hb
  · rename_i o ho'
    split at hb
    · rename_i ty y hg hop
      split at hb
      · rename_i t' j' off' hs hag hx
        simp only [Option.some.injEq, Prod.mk.injEq] at hb
        obtain ⟨rfl, rfl, rfl, rfl⟩ := hb
        obtain ⟨b, hrb, hv⟩ := opnd_ok (CurR_start hE) (by simp) hx
        obtain ⟨v, G', ce, tb, hh, hc, hle, hvr, hH'⟩ := hH.take hrb ho hown (hN _ _ _)
        have hlt := (Array.getElem?_eq_some_iff.1 hc).1
        have hrun := run_loadCell (P := P) (w := w) hs hag hh hc
        refine wpFrom_value ho' (goes_ok (CurR_start hE) hg) (v := v) (w' := w) ?_ (k v _ _ _ hle ((hE.mono hle).putO hd ⟨rfl, hvr⟩) hH')
        simp only [execOp, hop, hv]
        exact run_val hrun
      · cases hb
    · cases hb
  · cases hb

def stoE (P : Program) (ops : Array Oper) (E : Env) (i : Nat) : Option (Nat × Nat × Nat × Value) :=
  match ops[i]? with
  | some o => (match goes ops (look E []) o, o.op, o.dst with
    | true, .store ty x y, none => (match sizeT P ty, opnd (look E []) [] x, opnd (look E []) [] y with
      | some 1, some (.fldA t j off), some (.tl v _ _) => some (t, j, off, v)
      | _, _, _ => none)
    | _, _, _ => none)
  | none => none

/-- An own list is stored into a field. -/
theorem stepPut {t j off : Nat} {fs : List Fk} {x x' : denFs fs} {g e bt : Nat} {q : KL} {ys : List q.k.den} {v : Value} {L2 : List LS} {i : Nat} (hE : EnvR G N a E) (hH : Holds w G T Ls) (hb : stoE P ops E i = some (t, j, off, v)) (ho : ObAt T t j fs x) (hown : ownO fs x off 0 = some (g, e, bt, q)) (hset : setO fs x off q.k ys = some x') (hT : UpdT T T' t j fs x')
    (hm : .tk v e bt q.k ys ∈ Ls) (hL2 : ∀ l ∈ L2, l ∈ Ls ∧ (∀ c, l.blk = some c → v.ownBlock ≠ some c)) (hnd : (L2.filterMap LS.blk).Nodup)
    (hh1 : holeAt t j g L2 = none) (hh2 : ∀ t' i' f', ¬ (t = t' ∧ j = i' ∧ g = f') → holeAt t' i' f' L2 = holeAt t' i' f' Ls)
    (k : ∀ w' G', G.le G' → EnvR G' N a E → Holds w' G' T' L2 → wpFrom P ops Q (i + 1) a w') : wpFrom P ops Q i a w := by
  unfold stoE at hb
  split at hb
  · rename_i o ho'
    split at hb
    · rename_i ty y z hg hop hdst
      split at hb
      · rename_i t' j' off' u k' xs hs hx hy
        simp only [Option.some.injEq, Prod.mk.injEq] at hb
        obtain ⟨rfl, rfl, rfl, rfl⟩ := hb
        obtain ⟨b, hrb, hv⟩ := opnd_ok (CurR_start hE) (by simp) hx
        obtain ⟨hz, hvl⟩ := opnd_ok (CurR_start hE) (by simp) hy
        obtain ⟨ce, tb, hh, hob⟩ := hH.at hrb ho
        obtain ⟨hlt, G', hle, hH'⟩ := hH.putO hrb hh ho hown hset hT hm hL2 hnd hh1 hh2
        refine stepS (G := G) ho' hg hdst hE ⟨_, G', ?_, hle, hH'⟩ k
        obtain ⟨B, c, hul, _⟩ := list_slice hvl
        have hcells : u.cells.toList = [u] := by rw [← hz, hul]; rfl
        rw [hz] at hvl
        have hst := run_storeAt (P := P) (k := .list k') (z := xs) (off := off') (v := u) hs hh hvl (by rw [hcells]; simp; omega)
        rw [hcells] at hst
        simp only [execOp, hop, hv, hz]
        exact run_unit hst
      · cases hb
    · cases hb
  · cases hb

theorem blk_apart {v : Value} {e bt : Nat} {k : Kd} {ys : List k.den} {L0 L2 : List LS} (hnd : ((.tk v e bt k ys :: L0 : List LS).filterMap LS.blk).Nodup) (hs : L2.Sublist L0) : (L2.filterMap LS.blk).Nodup ∧ ∀ l ∈ L2, ∀ c, l.blk = some c → v.ownBlock ≠ some c := by
  have h0 : (L0.filterMap LS.blk).Nodup := by
    cases hb : v.ownBlock with
    | none => rwa [List.filterMap_cons_none (show LS.blk (.tk v e bt k ys) = none from hb)] at hnd
    | some b => rw [List.filterMap_cons_some (show LS.blk (.tk v e bt k ys) = some b from hb)] at hnd; exact (List.nodup_cons.1 hnd).2
  refine ⟨(hs.filterMap _).nodup h0, fun l hl c hc hvc => ?_⟩
  rw [List.filterMap_cons_some (show LS.blk (.tk v e bt k ys) = some c from hvc)] at hnd
  exact (List.nodup_cons.1 hnd).1 (List.mem_filterMap.2 ⟨l, hs.subset hl, hc⟩)

/-- An own list is stored into the field that it was taken out of. -/
theorem stepPutH {t j off : Nat} {fs : List Fk} {x x' : denFs fs} {g e bt : Nat} {q : KL} {ys : List q.k.den} {v u : Value} {L2 : List LS} {i : Nat} (hE : EnvR G N a E) (hH : Holds w G T (.tk v e bt q.k ys :: .hole t j g u :: L2)) (hN : NoHole L2) (hb : stoE P ops E i = some (t, j, off, v)) (ho : ObAt T t j fs x) (hown : ownO fs x off 0 = some (g, e, bt, q)) (hset : setO fs x off q.k ys = some x') (hT : UpdT T T' t j fs x')
    (k : ∀ w' G', G.le G' → EnvR G' N a E → Holds w' G' T' L2 → wpFrom P ops Q (i + 1) a w') : wpFrom P ops Q i a w := by
  obtain ⟨h1, h2⟩ := blk_apart hH.nd (List.sublist_cons_self (.hole t j g u) L2)
  refine stepPut hE hH hb ho hown hset hT List.mem_cons_self (fun l hl => ⟨List.mem_cons_of_mem _ (List.mem_cons_of_mem _ hl), h2 l hl⟩) h1 (hN _ _ _) (fun t' i' f' hne => ?_) k
  rw [holeAt_cons (fun _ _ _ => rfl), holeAt_hole, if_neg hne]

/-- An own list is stored into a field, whose elder list is let go. -/
theorem stepPutN {t j off : Nat} {fs : List Fk} {x x' : denFs fs} {g e bt : Nat} {q : KL} {ys : List q.k.den} {v : Value} {L2 : List LS} {i : Nat} (hE : EnvR G N a E) (hH : Holds w G T (.tk v e bt q.k ys :: L2)) (hN : NoHole L2) (hb : stoE P ops E i = some (t, j, off, v)) (ho : ObAt T t j fs x) (hown : ownO fs x off 0 = some (g, e, bt, q)) (hset : setO fs x off q.k ys = some x') (hT : UpdT T T' t j fs x')
    (k : ∀ w' G', G.le G' → EnvR G' N a E → Holds w' G' T' L2 → wpFrom P ops Q (i + 1) a w') : wpFrom P ops Q i a w := by
  obtain ⟨h1, h2⟩ := blk_apart hH.nd (List.Sublist.refl L2)
  refine stepPut hE hH hb ho hown hset hT List.mem_cons_self (fun l hl => ⟨List.mem_cons_of_mem _ hl, h2 l hl⟩) h1 (hN _ _ _) (fun t' i' f' hne => ?_) k
  rw [holeAt_cons (fun _ _ _ => rfl)]

def alcE (P : Program) (ops : Array Oper) (E : Env) (i : Nat) : Option (TypeId × Option Nat) :=
  match ops[i]? with
  | some o => (match goes ops (look E []) o, o.op with
    | true, .alloc e => (match zeroOf P e with
      | some (.slice none 0 0) => some (e, o.dst)
      | _ => none)
    | _, _ => none)
  | none => none

theorem ownV_nil (G : Gh) (w : World) (o : Own) (e bt : Nat) (k : Kd) : ownV G w o e bt k [] (.slice none 0 0) :=
  ⟨[], World.ownsRow_nil w 0 e k.w, trivial, trivial, fun b hb => by simp [Value.ownBlock] at hb⟩

/-- A variable that is caught, and that is a list of its own. -/
theorem stepAllocO (k0 : Kd) (e0 bt : Nat) {t j : Nat} {e : TypeId} {d : Option Nat} {i : Nat} (hE : EnvR G N a E) (hH : Holds w G T Ls) (hN : NoHole Ls) (hb : alcE P ops E i = some (e, d)) (hd : dstOK d N = true)
    (hT : AddT T T' t j [.own e0 bt k0] ([], ()))
    (k : ∀ a' w' G', G.le G' → EnvR G' N a' (putE d (.fldA t j 0) E) → Holds w' G' T' Ls → wpFrom P ops Q (i + 1) a' w') : wpFrom P ops Q i a w := by
  unfold alcE at hb
  split at hb
  · rename_i o ho
    split at hb
    · rename_i e' hg hop
      split at hb
      · rename_i hz
        simp only [Option.some.injEq, Prod.mk.injEq] at hb
        obtain ⟨rfl, rfl⟩ := hb
        refine wpFrom_value ho (goes_ok (CurR_start hE) hg) (v := .pointer (some ⟨w.heap.size, 0, none⟩)) (w' := w.alloc (.cells (Value.slice none 0 0).cells e')) ?_
          (k _ _ _ (Gh.le_new hH _) ((hE.mono (Gh.le_new hH (.obj t j))).putO hd ⟨w.heap.size, Gh.set_same _ _ _, rfl⟩) (hH.newObj hT e' ⟨[.slice none 0 0], [], rfl, ?_, rfl⟩))
        · have hz' : (zeroValue e').run P w = .ok (.slice none 0 0) w := by
            unfold zeroOf at hz
            split at hz
            · rename_i it hit; simp [zeroValue, typeInfo, hit, hz]
            · simp at hz
          simp only [execOp, hop]
          exact run_val (by simp [Instr.alloc, newVar, newRow, hz'])
        · rw [hN t j 0]
          exact ⟨_, rfl, ownV_nil _ _ _ _ _ _⟩
      · cases hb
    · cases hb
  · cases hb
end
end Go.Proofs.Ytlfemhkabjafeaa.M

/- Own library, part 24: the library's sort upon an unseen list of numbers. -/
set_option linter.unusedVariables false
set_option linter.unusedSimpArgs false
namespace Go.Proofs.Ytlfemhkabjafeaa.M

section
variable {P : Program} {w : World} {G : Gh} {T T' : Tabs} {Ls Ls' : List LS} {a : Act} {N : Nat} {E : Env} {ops : Array Oper} {Q : Exit → Act → World → Prop}

theorem rowR_ints : ∀ {xs : List Int} {cs : List Value}, rowR (Kr G .i) 1 xs cs → cs.take xs.length = xs.map (Value.int .i64)
  | [], cs, _ => by simp
  | x :: xs, cs, ⟨h0, h1, h2⟩ => by
    cases cs with
    | nil => simp at h0
    | cons c cs =>
      simp only [List.take_succ_cons, List.take_zero] at h1
      have hc : c = (Value.int .i64 x) := by
        have := h1; simp only [Kr] at this
        simpa using this
      simp only [List.length_cons, List.take_succ_cons, List.map_cons]
      rw [rowR_ints (by simpa using h2), hc]

theorem rowR_ofInts : ∀ {xs : List Int}, rowR (Kr G .i) 1 xs (xs.map (Value.int .i64))
  | [] => trivial
  | x :: xs => ⟨by simp, by simp [Kr], by simpa using rowR_ofInts (xs := xs)⟩

/-- The list has been sorted in place; new blocks may have come. -/
theorem Holds.rawSortedI (h : Holds w G T Ls) {j g c e bt n : Nat} {xs ts : List Int} {os : Array Obj} (hj : Ls[j]? = some (.raw (.slice (some ⟨g, 0, none⟩) xs.length c) e bt .i xs)) (hl : ts.length = xs.length) :
    Holds (Go.Sort.grow (Go.Sort.putRow (Value.int .i64) (Go.Sort.ahead w n) g 0 ts.toArray) os) G T (Ls.set j (.raw (.slice (some ⟨g, 0, none⟩) xs.length c) e bt .i ts)) := by
  obtain ⟨cs, o1, o2, o3, o4⟩ := h.loc _ (List.mem_of_getElem? hj)
  obtain ⟨q1, q2, q3, q4, q5⟩ := grownBy_sortedI (w := w) (g := g) (n := n) (os := os) ts.toArray
  have hrg : G.role g = .loc := o4 g rfl
  have hglt : g < w.heap.size := h.lt (by rw [hrg]; simp)
  rcases o1.2 with ⟨hn, _⟩ | ⟨g', cap, cur, hv, hb0, hb, h1, h2, h3, h4⟩
  · simp at hn
  · simp only [Value.slice.injEq, Option.some.injEq, Addr.mk.injEq, and_true, true_and] at hv
    obtain ⟨rfl, rfl⟩ := hv
    have hown := ownsRow_sortedI (w := w) (n := n) (os := os) (ss := xs) (ts := ts) hl (Nat.zero_le _) hb h1 h2 (by simpa [Kd.w] using h3)
    have hsame : ∀ b, ¬ (b = g ∨ w.heap.size ≤ b) → (Go.Sort.grow (Go.Sort.putRow (Value.int .i64) (Go.Sort.ahead w n) g 0 ts.toArray) os).heap[b]? = w.heap[b]? := fun b hb' => q5 b (by omega) (fun he => by simp at he; exact hb' (.inl (by first | exact he | exact he.symm)))
    have hnb : ∀ b, G.role b ≠ .free → G.role b ≠ .loc → ¬ (b = g ∨ w.heap.size ≤ b) := by
      rintro b k1 k2 (rfl | hb')
      · exact k2 hrg
      · exact k1 (h.free b hb')
    refine h.change (fun b => b = g ∨ w.heap.size ≤ b) (Gh.le_refl G) ⟨q1, q2, q3⟩ (fun b hb' => h.free b (by omega)) (fun b hb' => ⟨hsame b hb', rfl⟩) ?_ ?_ ?_ ?_ h.ex h.inj h.finj h.fex
    · rintro b (rfl | hb')
      · unfold BlockOK; rw [hrg]; trivial
      · unfold BlockOK; rw [h.free b hb']; trivial
    · intro b t i _ _ tab x cs' k1 k2 k3
      refine ⟨tab, x, k1, k2, ObjR_keep (w := w) (L := Ls) (Gh.le_refl G) (holeAt_set hj (fun _ _ _ => rfl) (fun _ _ _ => rfl) t i) (fun b f hb' => ⟨hsame b (hnb b ?_ ?_), rfl⟩) k3⟩
      · rcases hb' with hb' | ⟨p, hb'⟩ <;> rw [hb'] <;> simp
      · rcases hb' with hb' | ⟨p, hb'⟩ <;> rw [hb'] <;> simp
    · intro l hl'
      rcases mem_set_other hj (b := g) rfl h.nd hl' with rfl | ⟨hl', hne⟩
      · refine ⟨ts.map (Value.int .i64), ?_, rowR_ofInts, o3, o4⟩
        rw [hl]; exact hown
      · refine LSR_keep (Gh.le_refl G) (fun b hb' => ⟨hsame b ?_, rfl⟩) (h.loc l hl')
        rintro (rfl | hge)
        · exact hne hb'
        · have := h.blk_lt hl' hb'; omega
    · exact nodup_set hj rfl h.nd


/-- The unseen list ahead is published. -/
theorem Holds.pub0 {v : Value} {e bt : Nat} {K : Kd} {xs : List K.den} (hH : Holds w G T (.raw v e bt K xs :: Ls)) : ∃ G', G.le G' ∧ VR G' (.list K) xs v ∧ Holds w G' T Ls := by
  have hnd := hH.nd
  refine hH.rawPub (Ls' := Ls) List.mem_cons_self (fun l hlm => ?_) (fun _ _ _ => rfl) ?_
  · cases hb : l.blk with
    | none => exact .inr ⟨rfl, List.mem_cons_of_mem _ hlm⟩
    | some b =>
      refine .inl ⟨List.mem_cons_of_mem _ hlm, fun he => ?_⟩
      rw [List.filterMap_cons_some (show LS.blk (.raw v e bt K xs) = some b from he.symm)] at hnd
      exact (List.nodup_cons.1 hnd).1 (List.mem_filterMap.2 ⟨l, hlm, hb⟩)
  · cases hb : LS.blk (.raw v e bt K xs) with
    | none => rwa [List.filterMap_cons_none hb] at hnd
    | some b => rw [List.filterMap_cons_some hb] at hnd; exact (List.nodup_cons.1 hnd).2

theorem one_val {v : Value} {args : List Value} (h : All2 (EnR G) [.val v] args) : args = [v] := by
  cases args with
  | nil => exact h.elim
  | cons u r =>
    cases r with
    | nil => have : u = v := h.1; rw [this]
    | cons _ _ => exact h.2.elim
end
end Go.Proofs.Ytlfemhkabjafeaa.M

/- The library's sort of numbers, in its own program's numbers of functions and types; upon an unseen list. -/
set_option linter.unusedVariables false
set_option maxRecDepth 100000

namespace Go.Proofs
open Go.Shelf
def Try.lays189_ren : Go.Shelf.Ren := ⟨fun | 189 => 87 | 125 => 101 | 257 => 109 | 128 => 126 | 129 => 127 | 294 => 129 | 295 => 130 | 296 => 131 | 297 => 132 | 298 => 133 | 299 => 134 | 216 => 135 | 300 => 136 | 301 => 137 | 328 => 147 | 329 => 142 | 330 => 143 | 331 => 148 | 332 => 149 | 215 => 150 | 343 => 154 | n => n, fun | 28 => 29 | 3 => 3 | 46 => 137 | 0 => 0 | 51 => 143 | 53 => 123 | 4 => 4 | 183 => 151 | 182 => 150 | 131 => 155 | 5 => 5 | 9 => 9 | 218 => 166 | 222 => 170 | 228 => 177 | 229 => 178 | n => n, fun | n => n⟩
theorem Try.lays189 : Lays.n189 Try.prog Try.lays189_ren := {
  mixed := by kernel_rfl
  f125 := Try.func101.trans (congrArg some (by kernel_rfl))
  f128 := Try.func126.trans (congrArg some (by kernel_rfl))
  f129 := Try.func127.trans (congrArg some (by kernel_rfl))
  f189 := Try.func87.trans (congrArg some (by kernel_rfl))
  f215 := Try.func150.trans (congrArg some (by kernel_rfl))
  f216 := Try.func135.trans (congrArg some (by kernel_rfl))
  f257 := Try.func109.trans (congrArg some (by kernel_rfl))
  f294 := Try.func129.trans (congrArg some (by kernel_rfl))
  f295 := Try.func130.trans (congrArg some (by kernel_rfl))
  f296 := Try.func131.trans (congrArg some (by kernel_rfl))
  f297 := Try.func132.trans (congrArg some (by kernel_rfl))
  f298 := Try.func133.trans (congrArg some (by kernel_rfl))
  f299 := Try.func134.trans (congrArg some (by kernel_rfl))
  f300 := Try.func136.trans (congrArg some (by kernel_rfl))
  f301 := Try.func137.trans (congrArg some (by kernel_rfl))
  f328 := Try.func147.trans (congrArg some (by kernel_rfl))
  f329 := Try.func142.trans (congrArg some (by kernel_rfl))
  f330 := Try.func143.trans (congrArg some (by kernel_rfl))
  f331 := Try.func148.trans (congrArg some (by kernel_rfl))
  f332 := Try.func149.trans (congrArg some (by kernel_rfl))
  f343 := Try.func154.trans (congrArg some (by kernel_rfl))
  t0 := Try.underlying0
  a0 := Try.isAgg0
  z0 := Try.sizeOf0
  v0 := Try.zeroValue0
  t3 := Try.underlying3
  a3 := Try.isAgg3
  z3 := Try.sizeOf3
  v3 := Try.zeroValue3
  t4 := Try.underlying4
  a4 := Try.isAgg4
  z4 := Try.sizeOf4
  v4 := Try.zeroValue4
  t5 := Try.underlying5
  a5 := Try.isAgg5
  z5 := Try.sizeOf5
  v5 := Try.zeroValue5
  t9 := Try.underlying9
  a9 := Try.isAgg9
  z9 := Try.sizeOf9
  v9 := Try.zeroValue9
  t28 := Try.underlying29
  a28 := Try.isAgg29
  z28 := Try.sizeOf29
  v28 := Try.zeroValue29
  t46 := Try.underlying137
  a46 := Try.isAgg137
  z46 := Try.sizeOf137
  v46 := Try.zeroValue137
  t51 := Try.underlying143
  a51 := Try.isAgg143
  z51 := Try.sizeOf143
  v51 := Try.zeroValue143
  t53 := Try.underlying123
  a53 := Try.isAgg123
  z53 := Try.sizeOf123
  v53 := Try.zeroValue123
  t131 := Try.underlying155
  a131 := Try.isAgg155
  z131 := Try.sizeOf155
  v131 := Try.zeroValue155
  t182 := Try.underlying150
  a182 := Try.isAgg150
  z182 := Try.sizeOf150
  v182 := Try.zeroValue150
  t183 := Try.underlying151
  a183 := Try.isAgg151
  z183 := Try.sizeOf151
  v183 := Try.zeroValue151
  t218 := Try.underlying166
  a218 := Try.isAgg166
  z218 := Try.sizeOf166
  v218 := Try.zeroValue166
  t222 := Try.underlying170
  a222 := Try.isAgg170
  z222 := Try.sizeOf170
  v222 := Try.zeroValue170
  t228 := Try.underlying177
  a228 := Try.isAgg177
  z228 := Try.sizeOf177
  v228 := Try.zeroValue177
  t229 := Try.underlying178
  a229 := Try.isAgg178
  z229 := Try.sizeOf178
  v229 := Try.zeroValue178 }
end Go.Proofs

namespace Go.Proofs.Ytlfemhkabjafeaa.M
open Go.Proofs (Try.prog Try.func87 Try.f87 Try.lays189)

/-- Numbers in their order. -/
def sortedI (l : List Int) : List Int := l.mergeSort (fun x y => decide (x ≤ y))

section
variable {w : World} {G : Gh} {T : Tabs} {Ls : List LS} {a : Act} {N : Nat} {E : Env} {ops : Array Oper} {Q : Exit → Act → World → Prop}

theorem sort87_calls {j e bt : Nat} {v : Value} {xs : List Int} (hH : Holds w G T Ls) (hj : Ls[j]? = some (.raw v e bt .i xs)) (hlen : xs.length < 4611686018427387904) :
    Calls Try.prog 87 #[v] w (PostC G (.tup []) T (Ls.set j (.raw v e bt .i (sortedI xs)))) := by
  obtain ⟨cs, o1, o2, o3, o4⟩ := hH.loc _ (List.mem_of_getElem? hj)
  rcases o1.2 with ⟨rfl, hn⟩ | ⟨g, cap, cur, rfl, hb0, hb, h1, h2, h3, h4⟩
  · have hx : xs = [] := List.eq_nil_of_length_eq_zero hn
    subst hx
    refine (Any.slices_Sort_int_none Try.lays189 none 0 w).mono ?_
    rintro e' w' ⟨rfl, rfl⟩
    refine ⟨G, Gh.le_refl G, ⟨#[], rfl, trivial⟩, ?_⟩
    have : Ls.set j (.raw (.slice none 0 0) e bt .i (sortedI [])) = Ls := by
      have : sortedI [] = [] := by simp [sortedI]
      rw [this]
      exact set_self hj
    rw [this]; exact hH
  · have hst : cur.toList.take xs.length = xs.map (Value.int .i64) := by
      have := rowR_ints o2
      simp only [Kd.w, Nat.mul_one] at h4
      rw [h4]
      rw [← this]
      have hcl := o1.1
      simp only [Kd.w, Nat.mul_one] at hcl
      rw [List.take_of_length_le (by omega)]
    refine (Any.slices_Sort_int Try.lays189 g 0 cap xs w (holds_of_blockI hb hst) (Array.getElem?_eq_some_iff.1 hb).1 hlen).mono ?_
    rintro e' w' ⟨rfl, n, os, rfl⟩
    exact ⟨G, Gh.le_refl G, ⟨#[], rfl, trivial⟩, hH.rawSortedI hj (by simp)⟩
end

end Go.Proofs.Ytlfemhkabjafeaa.M

/- Own library, part 25: new objects with lists of their own; an append of a list onto an empty one. -/
set_option linter.unusedVariables false
set_option linter.unusedSimpArgs false
namespace Go.Proofs.Ytlfemhkabjafeaa.M

section
variable {P : Program} {w : World} {G : Gh} {T T' : Tabs} {Ls : List LS} {a : Act} {N : Nat} {E : Env} {ops : Array Oper} {Q : Exit → Act → World → Prop}

/-- A pointer, by its value. -/
theorem EnvR.ptr (hE : EnvR G N a E) (s : Nat) {t : Nat} {p : Option Nat} (h : lk E s = some (.kv (.ptr t) p)) : ∃ u, EnvR G N a ((s, .val (.pointer u)) :: E) ∧ ptrR G t p u := by
  have h0 := hE.2.2 s _ h
  obtain ⟨u, hu, hp⟩ := unP h0
  refine ⟨u, ⟨hE.1, hE.2.1, fun r e2 ht => ?_⟩, hp⟩
  rw [lk_cons] at ht
  by_cases hst : s = r
  · subst hst
    simp at ht; subst ht
    exact hu
  · rw [if_neg hst] at ht; exact hE.2.2 r _ ht

/-- A struct's value becomes an object, whose own lists are empty. -/
theorem stepNewX (v : Value) {t j : Nat} {fs : List Fk} {x : denFs fs} {e : TypeId} {d : Option Nat} {i : Nat} (hE : EnvR G N a E) (hH : Holds w G T Ls) (hN : NoHole Ls) (hb : boxVE ops E i = some (v, e, d)) (hd : dstOK d N = true)
    (hob : ∀ (w2 : World) (G2 : Gh), G.le G2 → (∀ f, holeAt t j f Ls = none) → ObjR w2 G2 Ls t j 0 fs x v.cells.toList) (hT : AddT T T' t j fs x)
    (k : ∀ a' w' G', G.le G' → EnvR G' N a' (putE d (.fldA t j 0) E) → Holds w' G' T' Ls → wpFrom P ops Q (i + 1) a' w') : wpFrom P ops Q i a w := by
  unfold boxVE at hb
  split at hb
  · rename_i o ho
    split at hb
    · rename_i e' x0 hg hop
      split at hb
      · rename_i v' hy
        simp only [Option.some.injEq, Prod.mk.injEq] at hb
        obtain ⟨rfl, rfl, rfl⟩ := hb
        have hv : a.eval x0 = v' := opnd_ok (CurR_start hE) (by simp) hy
        refine wpFrom_value ho (goes_ok (CurR_start hE) hg) (v := .pointer (some ⟨w.heap.size, 0, none⟩)) (w' := w.alloc (.cells v'.cells e')) ?_
          (k _ _ _ (Gh.le_new hH _) ((hE.mono (Gh.le_new hH (.obj t j))).putO hd ⟨w.heap.size, Gh.set_same _ _ _, rfl⟩) (hH.newObj hT e' (hob _ _ (Gh.le_new hH _) (fun f => hN t j f))))
        simp only [execOp, hop, hv]
        exact run_val (by simp [Instr.box, newVar, newRow])
      · simp at hb
    · simp at hb
  · simp at hb

def bszE (P : Program) (ops : Array Oper) (E : Env) (i : Nat) : Option (TypeId × Option Nat) :=
  match ops[i]? with
  | some o => (match goes ops (look E []) o, o.op with
    | true, .buildSlice t 0 parts => (match P.underlying t, parts.toList with
      | some (.slice el), [] => (match sizeT P el, zeroOf P el with
        | some _, some _ => some (el, o.dst)
        | _, _ => none)
      | _, _ => none)
    | _, _ => none)
  | none => none

/-- A slice without elements. -/
theorem stepBuildZ {el : TypeId} {d : Option Nat} {i : Nat} (hE : EnvR G N a E) (hH : Holds w G T Ls) (hb : bszE P ops E i = some (el, d)) (hd : dstOK d N = true)
    (k : ∀ b a' w' G', G.le G' → G'.role b = .pub (.cells #[] el (0, 0)) → EnvR G' N a' (putE d (.val (.slice (some ⟨b, 0, none⟩) 0 0)) E) → Holds w' G' T Ls → wpFrom P ops Q (i + 1) a' w') : wpFrom P ops Q i a w := by
  unfold bszE at hb
  split at hb
  · rename_i o ho
    split at hb
    · rename_i t parts hg hop
      split at hb
      · rename_i el' hu hp
        split at hb
        · rename_i sz z hs hz
          simp only [Option.some.injEq, Prod.mk.injEq] at hb
          obtain ⟨rfl, rfl⟩ := hb
          refine wpFrom_value ho (goes_ok (CurR_start hE) hg) (v := .slice (some ⟨w.heap.size, 0, none⟩) 0 0) (w' := w.alloc (.cells #[] el')) ?_
            (k w.heap.size _ _ _ (Gh.le_new hH (.pub (.cells #[] el' (0, 0)))) (Gh.set_same _ _ _) ((hE.mono (Gh.le_new hH _)).putO hd rfl) ?_)
          · simp only [execOp, hop]
            refine run_val ?_
            unfold Instr.buildSlice
            rw [run_und hu]
            simp only [Sem.run_bind, run_sizeOf hs, Result.andThen_ok]
            have he : ∀ f : Nat → Value, (Array.range 0).map f = #[] := fun f => by apply Array.ext'; simp
            simp [hp, Instr.fill, newRow, he]
          · exact hH.allocPub _
        · simp at hb
      · simp at hb
    · simp at hb
  · simp at hb

theorem rowR_one {K : Kd} : ∀ {xs : List K.den} {cs : List Value}, rowR (Kr G K) K.w xs cs → ∀ u ∈ cs.take (xs.length * K.w), u.oneCell' = true
  | [], cs, _, u, hu => by simp at hu
  | x :: xs, cs, ⟨h1, h2, h3⟩, u, hu => by
    have e : (x :: xs).length * K.w = K.w + xs.length * K.w := by rw [List.length_cons, Nat.add_mul, Nat.one_mul, Nat.add_comm]
    rw [e, List.take_add] at hu
    rcases List.mem_append.1 hu with hu | hu
    · exact Kr_cells1 h2 u hu
    · exact rowR_one h3 u hu

theorem append_core0 {t ty e : TypeId} {inf : TypeInfo} {K : Kd} {bt g : Nat} {news : List Value} (ht : P.underlying t = some (.slice e)) (hi : P.info? e = some inf) (hok : infOK inf K bt = true)
    (hown : w.ownsRow 0 e K.w (.slice (some ⟨g, 0, none⟩) 0 0) 0 []) (ad : Addr) (m c : Nat) (hl : news.length = m * K.w) (hnews : ∀ j u, news[j]? = some u → w.cell? (ad.add j) = some u) (h1 : ∀ u ∈ news, u.oneCell' = true)
    (hm : 0 < m) (hB : m * bt ≤ 140737488355328) :
    ∃ v' w', (Builtin.append_ #[t, t] ty #[.slice (some ⟨g, 0, none⟩) 0 0, .slice (some ad) m c]).run P w = .ok v' w' ∧ w'.ownsRow 0 e K.w v' m news ∧ (w'.os = w.os ∧ w'.tape = w.tape ∧ w'.output = w.output) ∧
      v'.ownBlock = some w.heap.size ∧ w'.heap.size = w.heap.size + 1 ∧ ∀ b, b ≠ w.heap.size → w'.heap[b]? = w.heap[b]? := by
  unfold infOK at hok
  simp only [Bool.and_eq_true] at hok
  obtain ⟨k1, k2, k3, k4, k5⟩ := hok
  have hsize := Nat.eq_of_beq_eq_true k1
  have hby := Nat.eq_of_beq_eq_true k2
  have hsz : 0 < K.w := Nat.le_of_ble_eq_true k3
  have hb0 : 0 < bt := Nat.le_of_ble_eq_true k4
  cases hz : inf.zero with
  | none => rw [hz] at k5; simp at k5
  | some z =>
    rw [hz] at k5
    have hzs := Nat.eq_of_beq_eq_true k5
    have hmb : m ≤ m * bt := Nat.le_mul_of_pos_right _ hb0
    have h63 : 0 + m ≤ maxLen := by simp only [maxLen]; omega
    have hB' : (0 + m) * bt ≤ 140737488355328 := by rw [Nat.zero_add]; exact hB
    obtain ⟨v', w', hr, h2, h3, h4⟩ := run_append_own (P := P) w 0 t ty e inf z K.w bt ht hi hz hsize hby hzs hsz _ 0 [] hown ad m c news hl hnews h1 h63 hB' (Nat.zero_le _)
    rw [Nat.zero_add, List.nil_append] at h2
    refine ⟨v', w', hr, h2, ⟨h3.os, h3.tape, h3.output⟩, ?_⟩
    have hrg := run_append_grow (P := P) w t ty e inf z ht hi hz ⟨g, 0, none⟩ 0 0 [] (by simp) (fun j u hju => by simp at hju) ad m c news (by rw [hl, hsize]) hnews (by omega) (by omega) (growslice_fits (by omega) (by rw [hby]; exact hB'))
    rw [hrg] at hr
    simp only [Result.ok.injEq] at hr
    obtain ⟨hv, hw⟩ := hr
    refine ⟨by rw [← hv]; rfl, ?_, ?_⟩
    · rw [← hw]; simp
    · intro b hb
      rw [← hw]
      exact (heap_alloc_ne w.drew _ (by simpa using hb)).trans rfl

/-- An append of a list onto an empty one: a list of the call's own. -/
theorem stepAppN {b : Nat} {bt : Nat} {K : Kd} {ys : List K.den} {e' : TypeId} {d : Option Nat} {i : Nat} (hE : EnvR G N a E) (hH : Holds w G T Ls) (hbr : G.role b = .pub (.cells #[] e' (0, 0)))
    (hb : appE P ops E i K bt = some (.val (.slice (some ⟨b, 0, none⟩) 0 0), .kv (.list K) ys, e', d)) (hd : dstOK d N = true) (hne : 0 < ys.length) (hq : ys.length * bt ≤ 140737488355328)
    (k : ∀ v' a' w' G', G.le G' → EnvR G' N a' (putE d (.tl v' K ys) E) → Holds w' G' T (.tk v' e' bt K ys :: Ls) → wpFrom P ops Q (i + 1) a' w') : wpFrom P ops Q i a w := by
  unfold appE at hb
  split at hb
  · rename_i o ho
    split at hb
    · rename_i c hg hop
      split at hb
      · rename_i s x t u hcal hargs hts
        split at hb
        · rename_i el es ex htu hu hs hx
          split at hb
          · rename_i inf hinf
            have hok : infOK inf K bt = true := by
              cases hq : infOK inf K bt with
              | true => rfl
              | false => rw [hq] at hb; simp at hb
            rw [hok] at hb
            simp only [Option.some.injEq, Prod.mk.injEq] at hb
            obtain ⟨rfl, rfl, rfl, rfl⟩ := hb
            have htu' := Nat.eq_of_beq_eq_true htu
            subst htu'
            have hsv := opnd_ok (CurR_start hE) (by simp) hs
            have hv2 := opnd_ok (CurR_start hE) (by simp) hx
            simp only [EnR] at hsv
            obtain ⟨A, cp, hxv, hcp, hA⟩ := unL hv2
            rcases hA with rfl | ⟨b2, off, p, rfl, hp, hrow⟩
            · simp at hne
            obtain ⟨ce, ty2, fr, rest, hh2, hce⟩ := hH.pre_cells hp
            have hop' : o.op = .call { callee := .builtin .append, args := #[s, x], argTypes := #[t, t] } := by
              rw [hop]
              congr 1
              cases c with
              | mk ca ar at_ =>
                simp only at hcal hargs hts
                subst hcal
                congr 1
                · rw [← hargs]
                · rw [← hts]
            have hblk : w.heap[b]? = some (.cells #[] el (0, 0)) := by
              have := hH.block b; unfold BlockOK at this; rw [hbr] at this; exact this
            have hlen := rowR_len hrow
            have hnl : ((p.drop off).take (ys.length * K.w)).length = ys.length * K.w := by rw [List.length_take]; omega
            have hcell : ∀ jj uu, ((p.drop off).take (ys.length * K.w))[jj]? = some uu → w.cell? ((⟨b2, off, none⟩ : Addr).add jj) = some uu := fun jj uu hq2 => by
              rw [addr_add, cell_at hh2, ← Array.getElem?_toList, hce]
              have hjl := (List.getElem?_eq_some_iff.1 hq2).1
              rw [hnl] at hjl
              rw [List.getElem?_take_of_lt hjl, List.getElem?_drop] at hq2
              rw [List.getElem?_append_left (List.getElem?_eq_some_iff.1 hq2).1]; exact hq2
            have hown : w.ownsRow 0 el K.w (.slice (some ⟨b, 0, none⟩) 0 0) 0 [] := ⟨by simp, .inr ⟨b, 0, #[], rfl, Nat.zero_le _, hblk, Nat.le_refl _, Nat.zero_le _, by simp, by simp⟩⟩
            obtain ⟨v', w', hr, h2, h3, h4, h5, h6⟩ := append_core0 (P := P) (w := w) (ty := o.type) (bt := bt) hu hinf hok hown ⟨b2, off, none⟩ ys.length cp hnl hcell (rowR_one hrow) hne hq
            have hrow2 := rowR_cut hrow
            have hH1 := hH.nilTk el bt K
            obtain ⟨G', hle, hvr, hH'⟩ := hH1.appended (j := 0) (v' := v') (xs := []) (ys := ys) (cs := []) (news := (p.drop off).take (ys.length * K.w)) rfl (World.ownsRow_nil w 0 el K.w) trivial (fun b hb => by simp [Value.ownBlock] at hb) hrow2 (by simpa using h2) trivial h3 (.inr ⟨h4, h5, h6⟩)
            refine wpFrom_value ho (goes_ok (CurR_start hE) hg) (v := v') (w' := w') ?_ (k v' _ _ G' hle ((hE.mono hle).putO hd ⟨rfl, by simpa using hvr⟩) (by simpa using hH'))
            simp only [execOp, hop', resolve, invoke, builtin, Sem.run_bind, Sem.run_pure, Result.andThen_ok, List.map_toArray, List.map_cons, List.map_nil, hsv, hxv, hr]
          · simp at hb
        · simp at hb
      · simp at hb
    · simp at hb
  · simp at hb
end
end Go.Proofs.Ytlfemhkabjafeaa.M

/- Own library, part 26: contracts whose result is a list of its own, or that turn the caller's own variables; closures over exact variables. -/
set_option linter.unusedVariables false
set_option linter.unusedSimpArgs false
namespace Go.Proofs.Ytlfemhkabjafeaa.M

/-- What a call leaves, by a value that it comes to. -/
def PostF (G : Gh) (R : Value → En) (T' : Tabs) (F : Value → List LS) : Ending → World → Prop
  | .returned u, w' => ∃ v G', G.le G' ∧ EnR G' (R v) u ∧ Holds w' G' T' (F v)
  | .outgrown, _ => False
  | .panicked _, _ => False

section
variable {P : Program} {w : World} {G : Gh} {T T' : Tabs} {Ls : List LS} {a : Act} {N : Nat} {E : Env} {ops : Array Oper} {Q : Exit → Act → World → Prop}

abbrev PostX (P : Program) (fn : Func) (G : Gh) (R : Value → En) (T' : Tabs) (F : Value → List LS) : Exit → Act → World → Prop := bodyPost P fn (PostF G R T' F)

theorem introX {f : Nat} {fn : Func} {c : Code} {As : List En} {R : Value → En} {F : Value → List LS} {args : List Value} (hf : P.funcs[f]? = some fn) (hb : fn.body = some c) (hn : Nat.ble As.length fn.ntmps = true) (hA : All2 (EnR G) As args)
    (h : ∀ (a : Act), EnvR G fn.ntmps a (envOf 0 As) → c.wp P (PostX P fn G R T' F) a w) : Calls P f args.toArray w (PostF G R T' F) := by
  have hlen : As.length = args.length := hA.length
  have hle : args.length ≤ fn.ntmps := by rw [← hlen]; exact Nat.le_of_ble_eq_true hn
  refine calls_of_wp hf hb (h _ ⟨?_, rfl, ?_⟩)
  · simp; omega
  · refine envOf_ok hA (fun j hj => ?_)
    rw [Nat.zero_add, Array.getElem?_append_left (by simpa using hj)]
    simp

theorem retX0 {fn : Func} {G0 : Gh} {F : Value → List LS} (v : Value) (hr : fn.results = #[]) (hE : EnvR G N a E) (hle : G0.le G) (hH : Holds w G T (F v)) : PostX P fn G0 (fun _ => .tup []) T F .ret a w :=
  ⟨hE.2.1, .tuple #[], results_none hr _ _ _, v, G, hle, ⟨#[], rfl, trivial⟩, hH⟩

theorem endX0 {fn : Func} {G0 : Gh} {F : Value → List LS} (v : Value) (hr : fn.results = #[]) (hE : EnvR G N a E) (hle : G0.le G) (hH : Holds w G T (F v)) : PostX P fn G0 (fun _ => .tup []) T F .normal a w :=
  ⟨hE.2.1, .tuple #[], results_none hr _ _ _, v, G, hle, ⟨#[], rfl, trivial⟩, hH⟩

/-- A list of its own, and a number, are the results. -/
theorem retXO {fn : Func} {t1 t2 : Nat} {G0 : Gh} {F : Value → List LS} {k : IntKind} {n : Int} {v : Value} {K : Kd} {xs : List K.den} (hr : fn.results = #[.tmp t1, .tmp t2]) (hE : EnvR G N a E) (hle : G0.le G) (hH : Holds w G T (F v)) (h1 : lk E t1 = some (.tl v K xs)) (h2 : lk E t2 = some (.kv (.int k) n)) :
    PostX P fn G0 (fun v => .val (.tuple #[v, .int k n])) T F .ret a w := by
  refine ⟨hE.2.1, .tuple #[a.tmps.getD t1 Go.undef, a.tmps.getD t2 Go.undef], results_tmp2 hr _ _ _, v, G, hle, ?_, hH⟩
  have e1 := (hE.2.2 _ _ h1).1
  have e2 := unI (hE.2.2 _ _ h2)
  simp only [EnR]
  rw [e1, e2]

/-- A call of which one knows what it does at these arguments in this world. -/
theorem stepCallF {i f : Nat} {As : List En} {R : Value → En} {F : Value → List LS} {d : Option Nat} (hok : callable P f = true) (hC : ∀ args : List Value, All2 (EnR G) As args → Calls P f args.toArray w (PostF G R T' F)) (hE : EnvR G N a E)
    (hc : callE ops E i As = some (f, As, d)) (hd : dstOK d N = true)
    (k : ∀ v a' w' G', G.le G' → EnvR G' N a' (putE d (R v) E) → Holds w' G' T' (F v) → wpFrom P ops Q (i + 1) a' w') : wpFrom P ops Q i a w := by
  unfold callE at hc
  split at hc
  · rename_i o ho
    split at hc
    · rename_i hgo
      have hw := goes_ok (CurR_start hE) hgo
      split at hc
      · rename_i c hop
        split at hc
        · rename_i f' hcal
          split at hc
          · rename_i es hes
            simp only [Option.some.injEq, Prod.mk.injEq] at hc
            obtain ⟨rfl, rfl, rfl⟩ := hc
            rw [wpFrom_cons ho, if_pos hw]
            refine .inl ?_
            unfold Oper.wp
            have hr : (execOp a.eval o).run P w = .ok (.enter f' (c.args.toList.map a.eval).toArray) w := by
              have hargs : (c.args.map a.eval) = (c.args.toList.map a.eval).toArray := by
                apply Array.ext'; simp
              simp [execOp, hop, resolve, hcal, Act.eval, Deferred.ofValue, invoke, callFunc_enter hok]
              exact hargs
            rw [hr]
            refine (hC _ (enOps_ok (CurR_start hE) hes)).mono ?_
            intro e w' hp
            cases e with
            | returned u =>
              obtain ⟨v, G', hle, hv, hH'⟩ := hp
              exact k _ _ _ G' hle ((hE.mono hle).putO hd hv) hH'
            | panicked c => exact hp.elim
            | outgrown => exact False.elim hp
          · simp at hc
        · simp at hc
      · simp at hc
    · simp at hc
  · simp at hc

def callXE (ops : Array Oper) (E : Env) (i : Nat) (ws : List En) : Option (Nat × List Value × List En × Option Nat) :=
  match ops[i]? with
  | some o => (match goes ops (look E []) o with
    | true => (match o.op with
      | .call c => (match c.callee with
        | .value x => (match opnd (look E []) [] x with
          | some (.val (.func (.func f) first caps)) => (match first.toList, enOps (look E []) ws c.args.toList with
            | [], some es => some (f, caps.toList, es, o.dst)
            | _, _ => none)
          | _ => none)
        | _ => none)
      | _ => none)
    | false => none)
  | none => none

/-- A call of a function value that is known to the letter. -/
theorem stepCallX {i f : Nat} {vs : List Value} {As : List En} {R : Value → En} {F : Value → List LS} {d : Option Nat} (hok : callable P f = true) (hC : ∀ args : List Value, All2 (EnR G) As args → Calls P f (args ++ vs).toArray w (PostF G R T' F)) (hE : EnvR G N a E)
    (hc : callXE ops E i As = some (f, vs, As, d)) (hd : dstOK d N = true)
    (k : ∀ v a' w' G', G.le G' → EnvR G' N a' (putE d (R v) E) → Holds w' G' T' (F v) → wpFrom P ops Q (i + 1) a' w') : wpFrom P ops Q i a w := by
  unfold callXE at hc
  split at hc
  · rename_i o ho
    split at hc
    · rename_i hgo
      have hw := goes_ok (CurR_start hE) hgo
      split at hc
      · rename_i c hop
        split at hc
        · rename_i x hcal
          split at hc
          · rename_i f' first caps hx
            split at hc
            · rename_i es hfirst hes
              simp only [Option.some.injEq, Prod.mk.injEq] at hc
              obtain ⟨rfl, rfl, rfl, rfl⟩ := hc
              have hv := opnd_ok (CurR_start hE) (by simp) hx
              simp only [EnR] at hv
              have hf0 : first = #[] := by apply Array.ext'; simpa using hfirst
              subst hf0
              rw [wpFrom_cons ho, if_pos hw]
              refine .inl ?_
              unfold Oper.wp
              have hr : (execOp a.eval o).run P w = .ok (.enter f' (c.args.toList.map a.eval ++ caps.toList).toArray) w := by
                have hargs : (c.args.map a.eval) ++ caps = (c.args.toList.map a.eval ++ caps.toList).toArray := by
                  apply Array.ext'; simp
                simp [execOp, hop, resolve, hcal, hv, Deferred.ofValue, invoke, callFunc_enter hok, ← hargs]
              rw [hr]
              refine (hC _ (enOps_ok (CurR_start hE) hes)).mono ?_
              intro e w' hp
              cases e with
              | returned u =>
                obtain ⟨v, G', hle, hv, hH'⟩ := hp
                exact k _ _ _ G' hle ((hE.mono hle).putO hd hv) hH'
              | panicked c => exact hp.elim
              | outgrown => exact False.elim hp
            · simp at hc
          · simp at hc
        · simp at hc
      · simp at hc
    · simp at hc
  · simp at hc

def capsX (L : Nat → Option En) : List Operand → Option (List Value)
  | [] => some []
  | x :: xs => (match opnd L [] x with
    | some (.val v) => (match capsX L xs with
      | some l => some (v :: l)
      | none => none)
    | _ => none)

theorem capsX_ok {L : Nat → Option En} (hL : CurR G a L) : ∀ {xs : List Operand} {l : List Value}, capsX L xs = some l → xs.map a.eval = l
  | [], l, h => by simp [capsX] at h; subst h; rfl
  | x :: xs, l, h => by
    unfold capsX at h
    split at h
    · rename_i v hx
      split at h
      · rename_i l' hl
        simp only [Option.some.injEq] at h; subst h
        have := opnd_ok hL (by simp) hx
        simp only [EnR] at this
        rw [List.map_cons, this, capsX_ok hL hl]
      · simp at h
    · simp at h

def mfxE (ops : Array Oper) (E : Env) (i : Nat) : Option (Nat × List Value × Option Nat) :=
  match ops[i]? with
  | some o => (match goes ops (look E []) o, o.op with
    | true, .makeFunc (.func f) first caps => (match first.toList with
      | [] => (match capsX (look E []) caps.toList with
        | some l => some (f, l, o.dst)
        | none => none)
      | _ => none)
    | _, _ => none)
  | none => none

/-- A function value over exact variables. -/
theorem stepMFX {f : Nat} {l : List Value} {d : Option Nat} {i : Nat} (hE : EnvR G N a E) (hb : mfxE ops E i = some (f, l, d)) (hd : dstOK d N = true)
    (k : ∀ a', EnvR G N a' (putE d (.val (.func (.func f) #[] l.toArray)) E) → wpFrom P ops Q (i + 1) a' w) : wpFrom P ops Q i a w := by
  unfold mfxE at hb
  split at hb
  · rename_i o ho
    split at hb
    · rename_i f' first caps hg hop
      split at hb
      · rename_i hfirst
        split at hb
        · rename_i l' hl
          simp only [Option.some.injEq, Prod.mk.injEq] at hb
          obtain ⟨rfl, rfl, rfl⟩ := hb
          have hf : first = #[] := by
            apply Array.ext'; simpa using hfirst
          subst hf
          refine wpFrom_value ho (goes_ok (CurR_start hE) hg) (v := .func (.func f') #[] l'.toArray) (w' := w) ?_ (k _ (hE.putO hd rfl))
          have hc : caps.map a.eval = l'.toArray := by
            apply Array.ext'
            rw [Array.toList_map, capsX_ok (CurR_start hE) hl]
          simp only [execOp, hop]
          refine run_val ?_
          simp [Instr.makeFunc, hc]
        · simp at hb
      · simp at hb
    · simp at hb
  · simp at hb

/-! ### An exact variable that holds an unseen list -/
theorem stepAllocX {e : TypeId} {d : Option Nat} {i : Nat} (hE : EnvR G N a E) (hH : Holds w G T Ls) (hb : alcE P ops E i = some (e, d)) (hd : dstOK d N = true)
    (k : ∀ b a' w' G', G.le G' → EnvR G' N a' (putE d (.val (.pointer (some ⟨b, 0, none⟩))) E) → Holds w' G' T (.iter b (.cells #[.slice none 0 0] e (0, 0)) :: Ls) → wpFrom P ops Q (i + 1) a' w') : wpFrom P ops Q i a w := by
  unfold alcE at hb
  split at hb
  · rename_i o ho
    split at hb
    · rename_i e' hg hop
      split at hb
      · rename_i hz
        simp only [Option.some.injEq, Prod.mk.injEq] at hb
        obtain ⟨rfl, rfl⟩ := hb
        refine wpFrom_value ho (goes_ok (CurR_start hE) hg) (v := .pointer (some ⟨w.heap.size, 0, none⟩)) (w' := w.alloc (.cells (Value.slice none 0 0).cells e')) ?_
          (k w.heap.size _ _ _ (Gh.le_new hH .loc) ((hE.mono (Gh.le_new hH .loc)).putO hd rfl) (hH.allocLoc _ .loc (.iter w.heap.size (.cells #[.slice none 0 0] e' (0, 0))) (.inl rfl) ?_ ⟨Gh.set_same _ _ _, heap_alloc_new' w _⟩ rfl (fun _ _ _ => rfl)))
        · have hz' : (zeroValue e').run P w = .ok (.slice none 0 0) w := by
            unfold zeroOf at hz
            split at hz
            · rename_i it hit; simp [zeroValue, typeInfo, hit, hz]
            · simp at hz
          simp only [execOp, hop]
          exact run_val (by simp [Instr.alloc, newVar, newRow, hz'])
        · unfold BlockOK; rw [Gh.set_same]; trivial
      · cases hb
    · cases hb
  · cases hb

def ldxE (P : Program) (ops : Array Oper) (E : Env) (i : Nat) : Option (Nat × Option Nat) :=
  match ops[i]? with
  | some o => (match goes ops (look E []) o, o.op with
    | true, .load ty x => (match sizeT P ty, aggT P ty, opnd (look E []) [] x with
      | some 1, some false, some (.val (.pointer (some ⟨b, 0, none⟩))) => some (b, o.dst)
      | _, _, _ => none)
    | _, _ => none)
  | none => none

theorem stepLoadX (j : Nat) {b : Nat} {v : Value} {e : TypeId} {d : Option Nat} {i : Nat} (hE : EnvR G N a E) (hH : Holds w G T Ls) (hb : ldxE P ops E i = some (b, d)) (hj : Ls[j]? = some (.iter b (.cells #[v] e (0, 0)))) (hd : dstOK d N = true)
    (k : ∀ a', EnvR G N a' (putE d (.val v) E) → wpFrom P ops Q (i + 1) a' w) : wpFrom P ops Q i a w := by
  unfold ldxE at hb
  split at hb
  · rename_i o ho
    split at hb
    · rename_i ty x hg hop
      split at hb
      · rename_i b' hs hag hx
        simp only [Option.some.injEq, Prod.mk.injEq] at hb
        obtain ⟨rfl, rfl⟩ := hb
        have hv := opnd_ok (CurR_start hE) (by simp) hx
        simp only [EnR] at hv
        obtain ⟨_, hh⟩ := hH.loc _ (List.mem_of_getElem? hj)
        have hrun := run_loadCell (P := P) (w := w) (off := 0) (v := v) hs hag hh (by simp)
        refine wpFrom_value ho (goes_ok (CurR_start hE) hg) (v := v) (w' := w) ?_ (k _ (hE.putO hd rfl))
        simp only [execOp, hop, hv]
        exact run_val hrun
      · cases hb
    · cases hb
  · cases hb

def stxE (P : Program) (ops : Array Oper) (E : Env) (i : Nat) : Option (Nat × Value) :=
  match ops[i]? with
  | some o => (match goes ops (look E []) o, o.op, o.dst with
    | true, .store ty x y, none => (match sizeT P ty, opnd (look E []) [] x, opnd (look E []) [] y with
      | some 1, some (.val (.pointer (some ⟨b, 0, none⟩))), some (.val v) => some (b, v)
      | _, _, _ => none)
    | _, _, _ => none)
  | none => none

theorem raw_slice {v : Value} {e bt : Nat} {K : Kd} {xs : List K.den} (h : LSR w G (.raw v e bt K xs)) : v.cells.toList = [v] ∧ v.oneCell' = true := by
  obtain ⟨cs, o1, _⟩ := h
  rcases o1.2 with ⟨rfl, _⟩ | ⟨g, cap, cur, rfl, _⟩ <;> exact ⟨rfl, rfl⟩

theorem stepStoreX (j : Nat) {b : Nat} {v v0 : Value} {e : TypeId} {e2 bt : Nat} {K : Kd} {xs : List K.den} {i : Nat} (hE : EnvR G N a E) (hH : Holds w G T Ls) (hb : stxE P ops E i = some (b, v)) (hj : Ls[j]? = some (.iter b (.cells #[v0] e (0, 0)))) (hm : .raw v e2 bt K xs ∈ Ls)
    (k : ∀ w' G', G.le G' → EnvR G' N a E → Holds w' G' T (Ls.set j (.iter b (.cells #[v] e (0, 0)))) → wpFrom P ops Q (i + 1) a w') : wpFrom P ops Q i a w := by
  unfold stxE at hb
  split at hb
  · rename_i o ho
    split at hb
    · rename_i ty x y hg hop hdst
      split at hb
      · rename_i b' v' hs hx hy
        simp only [Option.some.injEq, Prod.mk.injEq] at hb
        obtain ⟨rfl, rfl⟩ := hb
        have hvx := opnd_ok (CurR_start hE) (by simp) hx
        have hvy := opnd_ok (CurR_start hE) (by simp) hy
        simp only [EnR] at hvx hvy
        obtain ⟨hr, hh⟩ := hH.loc _ (List.mem_of_getElem? hj)
        obtain ⟨hc1, hc2⟩ := raw_slice (hH.loc _ hm)
        have hst := run_storeCells_at P b' 0 e v'.cells.toList 0 #[v0] w hh (by rw [hc1]; simp) (by
          rw [hc1]; intro u hu
          have hu2 : u = v' := by simpa using hu
          rw [hu2]; exact hc2)
        simp only [Nat.add_zero] at hst
        have hrun : (Instr.storeAt ty (.pointer (some ⟨b', 0, none⟩)) v').run P w = .ok () (w.setRow b' #[v']) := by
          have hs2 : v'.cells.size = 1 := by rw [← Array.length_toList, hc1]; rfl
          have e3 : (splice (#[v0] : Array Value).toList v'.cells.toList 0).toArray = #[v'] := by rw [hc1]; rfl
          simp [Instr.storeAt, Instr.sureAddr, storeVar, run_sizeOf hs, hs2]
          rw [← e3]
          simpa [splice] using hst
        have hH' : Holds (w.setRow b' #[v']) G T (Ls.set j (.iter b' (.cells #[v'] e (0, 0)))) := by
          refine hH.row hh ?_ (.inr hr) (holeAt_set hj (fun _ _ _ => rfl) (fun _ _ _ => rfl)) (fun t i tab x0 _ h1 h2 => ⟨tab.xs, h1, h2⟩) ?_ (nodup_set hj rfl hH.nd) hH.ex (fun t tab h1 => ⟨tab, h1, rfl⟩)
          · unfold BlockOK; rw [hr]; trivial
          · intro l hl
            rcases mem_set_other hj rfl hH.nd hl with rfl | ⟨h1, h2⟩
            · exact .inr ⟨hr, setRow_heap w b' _ _ e _ hh⟩
            · exact .inl ⟨h1, h2⟩
        refine stepS (G := G) ho hg hdst hE ⟨_, G, ?_, Gh.le_refl G, hH'⟩ k
        simp only [execOp, hop, hvx, hvy]
        exact run_unit hrun
      · cases hb
    · cases hb
  · cases hb
end
end Go.Proofs.Ytlfemhkabjafeaa.M

/- Own library, part 27: bound function values; results that are known to the letter. -/
set_option linter.unusedVariables false
set_option linter.unusedSimpArgs false
namespace Go.Proofs.Ytlfemhkabjafeaa.M

section
variable {P : Program} {w : World} {G : Gh} {T T' : Tabs} {Ls : List LS} {a : Act} {N : Nat} {E : Env} {ops : Array Oper} {Q : Exit → Act → World → Prop}

def mfbE (ops : Array Oper) (E : Env) (i : Nat) : Option (Nat × KV × Option Nat) :=
  match ops[i]? with
  | some o => (match goes ops (look E []) o, o.op with
    | true, .makeFunc (.func f) first caps => (match first.toList, caps.toList with
      | [x], [] => (match opnd (look E []) [] x with
        | some (.kv k x) => some (f, ⟨k, x⟩, o.dst)
        | _ => none)
      | _, _ => none)
    | _, _ => none)
  | none => none

/-- A function value that is bound to its first argument. -/
theorem stepMFB {f : Nat} {k : Kd} {x : k.den} {d : Option Nat} {i : Nat} (hE : EnvR G N a E) (hb : mfbE ops E i = some (f, ⟨k, x⟩, d)) (hd : dstOK d N = true)
    (h : ∀ a', EnvR G N a' (putE d (.bnd f k x) E) → wpFrom P ops Q (i + 1) a' w) : wpFrom P ops Q i a w := by
  unfold mfbE at hb
  split at hb
  · rename_i o ho
    split at hb
    · rename_i f' first caps hg hop
      split at hb
      · rename_i y hf hc
        split at hb
        · rename_i k' x' hx
          simp only [Option.some.injEq, Prod.mk.injEq] at hb
          obtain ⟨rfl, hkx, rfl⟩ := hb
          cases hkx
          have hv := opnd_ok (CurR_start hE) (by simp) hx
          have hf' : first = #[y] := by apply Array.ext'; simpa using hf
          have hc' : caps = #[] := by apply Array.ext'; simpa using hc
          subst hf'; subst hc'
          refine wpFrom_value ho (goes_ok (CurR_start hE) hg) (v := .func (.func f') #[a.eval y] #[]) (w' := w) ?_ (h _ (hE.putO hd ⟨_, rfl, hv⟩))
          simp only [execOp, hop]
          refine run_val ?_
          simp [Instr.makeFunc]
        · simp at hb
      · simp at hb
    · simp at hb
  · simp at hb

def callBE (ops : Array Oper) (E : Env) (i : Nat) (ws : List En) : Option (Nat × KV × List En × Option Nat) :=
  match ops[i]? with
  | some o => (match goes ops (look E []) o with
    | true => (match o.op with
      | .call c => (match c.callee with
        | .value x => (match opnd (look E []) [] x with
          | some (.bnd f k x) => (match enOps (look E []) ws c.args.toList with
            | some es => some (f, ⟨k, x⟩, es, o.dst)
            | none => none)
          | _ => none)
        | _ => none)
      | _ => none)
    | false => none)
  | none => none

theorem stepCallB {i f : Nat} {k : Kd} {x : k.den} {As : List En} {R : En} {d : Option Nat} (hS : Spec P f (.kv k x :: As) T R T') (hE : EnvR G N a E) (hH : Holds w G T Ls) (hN : NoHole Ls)
    (hc : callBE ops E i As = some (f, ⟨k, x⟩, As, d)) (hd : dstOK d N = true)
    (h : ∀ a' w' G', G.le G' → EnvR G' N a' (putE d R E) → Holds w' G' T' Ls → wpFrom P ops Q (i + 1) a' w') : wpFrom P ops Q i a w := by
  unfold callBE at hc
  split at hc
  · rename_i o ho
    split at hc
    · rename_i hgo
      have hw := goes_ok (CurR_start hE) hgo
      split at hc
      · rename_i c hop
        split at hc
        · rename_i y hcal
          split at hc
          · rename_i f' k' x' hx
            split at hc
            · rename_i es hes
              simp only [Option.some.injEq, Prod.mk.injEq] at hc
              obtain ⟨rfl, hkx, rfl, rfl⟩ := hc
              cases hkx
              obtain ⟨u, hv, hu⟩ := opnd_ok (CurR_start hE) (by simp) hx
              rw [wpFrom_cons ho, if_pos hw]
              refine .inl ?_
              unfold Oper.wp
              have hr : (execOp a.eval o).run P w = .ok (.enter f' (u :: c.args.toList.map a.eval).toArray) w := by
                have hargs : #[u] ++ (c.args.map a.eval) = (u :: c.args.toList.map a.eval).toArray := by
                  apply Array.ext'; simp
                simp [execOp, hop, resolve, hcal, hv, Deferred.ofValue, invoke, callFunc_enter hS.ok, ← hargs]
              rw [hr]
              refine (hS.run (u :: c.args.toList.map a.eval) w G Ls (show All2 (EnR G) (_ :: _) (u :: _) from ⟨hu, enOps_ok (CurR_start hE) hes⟩) hH hN).mono ?_
              intro e w' hp
              cases e with
              | returned v =>
                obtain ⟨G', hle, hv, hH'⟩ := hp
                exact h _ _ G' hle ((hE.mono hle).putO hd hv) hH'
              | panicked c => exact hp.elim
              | outgrown => exact False.elim hp
            · simp at hc
          · simp at hc
        · simp at hc
      · simp at hc
    · simp at hc
  · simp at hc

def extE (ops : Array Oper) (E : Env) (i : Nat) : Option (Value × Option Nat) :=
  match ops[i]? with
  | some o => (match goes ops (look E []) o, o.op with
    | true, .extract x j => (match opnd (look E []) [] x with
      | some (.val (.tuple vs)) => (match vs.toList[j]? with
        | some v => some (v, o.dst)
        | none => none)
      | _ => none)
    | _, _ => none)
  | none => none

/-- A part of a result that is known to the letter. -/
theorem stepExtV {v : Value} {e : En} {d : Option Nat} {i : Nat} (hE : EnvR G N a E) (hb : extE ops E i = some (v, d)) (hd : dstOK d N = true) (he : EnR G e v)
    (h : ∀ a', EnvR G N a' (putE d e E) → wpFrom P ops Q (i + 1) a' w) : wpFrom P ops Q i a w := by
  unfold extE at hb
  split at hb
  · rename_i o ho
    split at hb
    · rename_i x j hg hop
      split at hb
      · rename_i vs hx
        split at hb
        · rename_i v' hj
          simp only [Option.some.injEq, Prod.mk.injEq] at hb
          obtain ⟨rfl, rfl⟩ := hb
          have hv := opnd_ok (CurR_start hE) (by simp) hx
          simp only [EnR] at hv
          have hj' : vs[j]? = some v' := by rw [← Array.getElem?_toList]; exact hj
          refine wpFrom_value ho (goes_ok (CurR_start hE) hg) (v := v') (w' := w) ?_ (h _ (hE.putO hd he))
          simp only [execOp, hop, hv]
          refine run_val ?_
          simp [Instr.extract, hj']
        · simp at hb
      · simp at hb
    · simp at hb
  · simp at hb

def skipE (ops : Array Oper) (E : Env) (i : Nat) : Option (Option Nat) :=
  match ops[i]? with
  | some o => (match o.guard with
    | some (j, want) => (match (ops[j]?).bind (·.dst) with
      | some sj => (match lk E sj with
        | some (.kv .bool b) => (match b, want with
          | true, false => some o.dst
          | false, true => some o.dst
          | _, _ => none)
        | some .undef => some o.dst
        | _ => none)
      | none => none)
    | none => none)
  | none => none

/-- An operation whose guard does not hold. -/
theorem stepSkip {d : Option Nat} {i : Nat} (hE : EnvR G N a E) (hb : skipE ops E i = some d) (hd : dstOK d N = true)
    (k : ∀ a', EnvR G N a' (putE d .undef E) → wpFrom P ops Q (i + 1) a' w) : wpFrom P ops Q i a w := by
  unfold skipE at hb
  split at hb
  · rename_i o ho
    split at hb
    · rename_i j want hg
      split at hb
      · rename_i sj hj
        have go : a.tmps.getD sj Go.undef ≠ .bool want → o.dst = d → wpFrom P ops Q i a w := by
          intro h1 h2
          have hw : Region.wanted o (yielded ops a.tmps) = false := by
            unfold Region.wanted
            rw [hg]
            cases hy : (yielded ops a.tmps j == some want) with
            | false => exact hy
            | true => exact absurd ((yielded_iff hj want).1 hy) h1
          rw [wpFrom_cons ho, hw]
          refine k _ ?_
          rw [h2]
          exact hE.putO hd rfl
        split at hb
        · rename_i b hl
          have hs := unB (hE.2.2 _ _ hl)
          split at hb
          · simp only [Option.some.injEq] at hb; exact go (by rw [hs]; simp) hb
          · simp only [Option.some.injEq] at hb; exact go (by rw [hs]; simp) hb
          · simp at hb
        · rename_i hl
          have hs : a.tmps.getD sj Go.undef = Go.undef := hE.2.2 _ _ hl
          simp only [Option.some.injEq] at hb; exact go (by rw [hs]; simp [Go.undef]) hb
        · simp at hb
      · simp at hb
    · simp at hb
  · simp at hb

theorem wp_scope_in {c : Code} (h : c.wp P (Exit.noGoto Q) a w) : (Code.scope c).wp P Q a w := wp_scope_straight h
theorem Exit.sc_normal (h : Q .normal a w) : Exit.noGoto Q .normal a w := h
theorem Exit.sc_exit {id : Nat} (h : Q (.exit id) a w) : Exit.noGoto Q (.exit id) a w := h
theorem Exit.sc_ret (h : Q .ret a w) : Exit.noGoto Q .ret a w := h

/-- The newest own list, as it is seen. -/
theorem Holds.tl0 {v : Value} {e bt : Nat} {K : Kd} {xs : List K.den} (hH : Holds w G T (.tk v e bt K xs :: Ls)) : EnR G (.tl v K xs) v :=
  ⟨rfl, ownV_list (hH.loc _ List.mem_cons_self)⟩
end
end Go.Proofs.Ytlfemhkabjafeaa.M
