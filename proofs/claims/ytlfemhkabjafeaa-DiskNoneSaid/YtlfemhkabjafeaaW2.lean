/- Printed by own program: twins and walks. -/
import Derived.Test.YtlfemhkabjafeaaP0
import Derived.Test.YtlfemhkabjafeaaU20
import Derived.Test.YtlfemhkabjafeaaW1
import Derived.Test.YtlfemhkabjafeaaProg
set_option linter.unusedVariables false
set_option maxRecDepth 100000
namespace Go.Proofs.Ytlfemhkabjafeaa.M
open Go.Proofs (Try.prog Try.func22 Try.f22 Try.func34 Try.f34 Try.func75 Try.f75 Try.func74 Try.f74 Try.func102 Try.f102 Try.func104 Try.f104 Try.func128 Try.f128 Try.func103 Try.f103 Try.func106 Try.f106 Try.func63 Try.f63 Try.func68 Try.f68 Try.func51 Try.f51 Try.func105 Try.f105 Try.func64 Try.f64 Try.func65 Try.f65 Try.func66 Try.f66 Try.func67 Try.f67 Try.func69 Try.f69 Try.func76 Try.f76)

def f22 (p0 : Int) (σ : St) : Option (((Option Nat) × Int) × St) :=
  if ((decide (p0 < 0)) || (decide (p0 > 1048576))) = true then
  some ((none, 2), σ)
  else
  some ((some σ.t47.length, 0), (σ.add47 (p0, [], 0, false, ())))

theorem f22_ok {p0 : Int} {σ : St} {p : ((Option Nat) × Int) × St} (h : f22 p0 σ = some p) : Spec Try.prog 22 [.kv .i p0] (tabs σ) (.tup [⟨(.ptr 47), p.1.1⟩, ⟨.i, p.1.2⟩]) (tabs p.2) := by
  refine Spec.intro Try.func22 (by kernel_rfl) rfl (by kernel_rfl) (fun a w G0 Ls hE hH hN => ?_)
  have hle : G0.le G0 := Gh.le_refl G0
  unfold f22 at h
  refine wp_seq_k (fun K hK1 => ?_)
  refine wp_region_from ?_
  refine segO 2 [] [(2, .val (.pointer none)), (3, .kv .i 0)] (Os := []) trivial hE hH (by kernel_rfl) (fun a hE => ?_)
  refine wpFrom_end (by kernel_rfl) ?_
  refine Exit.then_normal (hK1 _ _ ?_)
  refine wp_seq_k (fun K hK2 => ?_)
  refine wp_seq_k (fun K hK3 => ?_)
  refine wp_region_from ?_
  refine segO 6 [] [(9, .kv .bool ((decide (p0 < 0)) || (decide (p0 > 1048576))))] (Os := []) trivial hE hH (by kernel_rfl) (fun a hE => ?_)
  refine wpFrom_end (by kernel_rfl) ?_
  refine Exit.then_normal (hK3 _ _ ?_)
  refine condE (b := (decide (p0 < 0)) || (decide (p0 > 1048576))) hE (by kernel_rfl) (fun hc => ?_) (fun hc => ?_)
  · replace h := ifT hc h
    refine wp_seq_k (fun K hK4 => ?_)
    refine wp_region_from ?_
    refine segO 2 [] [(2, .val (.pointer none)), (3, .kv .i 2)] (Os := []) trivial hE hH (by kernel_rfl) (fun a hE => ?_)
    refine wpFrom_end (by kernel_rfl) ?_
    refine Exit.then_normal (hK4 _ _ ?_)
    refine wp_ret ?_
    refine Exit.then_ret ?_
    cases h
    exact ret2 rfl hE hle hH (by kernel_rfl)
  · replace h := ifF hc h
    refine wp_skip ?_
    refine Exit.then_normal (hK2 _ _ ?_)
    refine wp_seq_k (fun K hK5 => ?_)
    refine wp_region_from ?_
    refine segO 1 [] [(10, .kv .i p0)] (Os := []) trivial hE hH (by kernel_rfl) (fun a hE => ?_)
    refine stepBuild (d := (some 11)) K47 (p0, [], 0, false, ()) rfl hE (by kernel_rfl) (by kernel_rfl) (fun a hE => ?_)
    refine stepNew (t := 47) (fs := fs47) (x := (p0, [], 0, false, ())) (e := 47) (d := (some 12)) K47 (p0, [], 0, false, ()) hE hH (by kernel_rfl) (by kernel_rfl) ⟨rfl, HEq.rfl, ⟨rfl, HEq.rfl, ⟨rfl, HEq.rfl, ⟨rfl, HEq.rfl, trivial⟩⟩⟩⟩ (addT47 (s := σ) (x := (p0, [], 0, false, ()))) (fun a w G hl1 hE hH => ?_)
    have hle := Gh.le_trans hle hl1
    refine segO 2 [] [(2, .fldA 47 σ.t47.length 0), (3, .kv .i 0)] (Os := []) trivial hE hH (by kernel_rfl) (fun a hE => ?_)
    refine wpFrom_end (by kernel_rfl) ?_
    refine Exit.then_normal (hK5 _ _ ?_)
    refine wp_ret ?_
    cases h
    exact ret2 rfl hE hle hH (by kernel_rfl)

def f34_l0 (p0 : Option Nat) (p1 : List UInt8) (σ : St) (x4 : Int) : Option (Sum Int Int) :=
  p0 >>= fun i11 =>
  (σ.t47[i11]?) >>= fun o12 =>
  if (decide (x4 < (o12.2.1.length : Int))) = true then
  p0 >>= fun i15 =>
  (σ.t47[i15]?) >>= fun o16 =>
  (ix o16.2.1 x4) >>= fun x17 =>
  if (x17.1 == p1) = true then
  some (.inr x4)
  else
  f34_l0 p0 p1 σ (IntKind.wrap .i64 (x4 + 1))
  else
  some (.inl x4)
  partial_fixpoint

def f34 (p0 : Option Nat) (p1 : List UInt8) (σ : St) : Option Int :=
  f34_l0 p0 p1 σ 0 >>= fun rr20 => (match rr20 with
  | .inr yy => some yy
  | .inl z19 =>
  some (-1))

theorem f34_ok {p0 : Option Nat} {p1 : List UInt8} {σ : St} {p : Int} (h : f34 p0 p1 σ = some p) : Spec Try.prog 34 [.kv (.ptr 47) p0, .kv .str p1] (tabs σ) (.kv .i p) (tabs σ) := by
  refine Spec.intro Try.func34 (by kernel_rfl) rfl (by kernel_rfl) (fun a w G0 Ls hE hH hN => ?_)
  have hle : G0.le G0 := Gh.le_refl G0
  unfold f34 at h
  refine wp_seq_k (fun K hK1 => ?_)
  refine wp_region_from ?_
  refine segO 1 [] [(4, .kv .i 0)] (Os := []) trivial hE hH (by kernel_rfl) (fun a hE => ?_)
  refine wpFrom_end (by kernel_rfl) ?_
  refine Exit.then_normal (hK1 _ _ ?_)
  refine wp_seq_k (fun K hK2 => ?_)
  refine wp_seq_k (fun K hK3 => ?_)
  refine wp_region_from ?_
  refine segO 1 [] [(5, .kv .i 0)] (Os := []) trivial hE hH (by kernel_rfl) (fun a hE => ?_)
  refine wpFrom_end (by kernel_rfl) ?_
  refine Exit.then_normal (hK3 _ _ ?_)
  refine wp_block ?_
  obtain ⟨rr20, hrr20, h⟩ := bs h
  refine loop_intro (fun Q5 c hQ hc => ?_)
  have key : ∀ (x4 : Int) (rr : Sum Int Int), f34_l0 p0 p1 σ x4 = some rr → ∀ (a : Act) (w : World) (G : Gh), G0.le G → EnvR G 26 a [(0, .kv (.ptr 47) p0), (1, .kv .str p1), (4, .kv .i 0), (5, .kv .i x4)] → Holds w G (tabs σ) (Ls) → (∀ z19 : Int, rr = .inl z19 → ∀ (a : Act) (w : World) (G : Gh), G0.le G → EnvR G 26 a [(0, .kv (.ptr 47) p0), (1, .kv .str p1), (4, .kv .i 0), (5, .kv .i z19)] → Holds w G (tabs σ) (Ls) → Q5 (.exit 0) a w) → (∀ yy : Int, rr = .inr yy → ∀ (a : Act) (w : World), PostB Try.prog Try.f34 G0 (.kv .i yy) (tabs σ) Ls .ret a w → Q5 .ret a w) → Rnd Try.prog c Q5 a w := by
    refine f34_l0.partial_correctness p0 p1 σ _ ?_
    intro self ih8 x4 rr h a w G  hle hE hH hx6 hret7
    refine rnd_step' hc ?_
    refine wp_seq_k (fun K hK9 => ?_)
    refine wp_seq_k (fun K hK10 => ?_)
    refine wp_region_from ?_
    obtain ⟨i11, hi11, h⟩ := bs h
    obtain ⟨o12, ho12, h⟩ := bs h
    refine segO 7 [.pt i11, .ob fs47 o12] [(12, .kv .bool (decide (x4 < (o12.2.1.length : Int))))] (Os := [_, _]) ⟨hi11, (ob47 (s := σ) ho12), trivial⟩ hE hH (by kernel_rfl) (fun a hE => ?_)
    refine wpFrom_end (by kernel_rfl) ?_
    refine Exit.then_normal (hK10 _ _ ?_)
    refine condE (b := decide (x4 < (o12.2.1.length : Int))) hE (by kernel_rfl) (fun hc => ?_) (fun hc => ?_)
    · replace h := ifT hc h
      refine wp_skip ?_
      refine Exit.then_normal (hK9 _ _ ?_)
      refine wp_seq_k (fun K hK13 => ?_)
      refine wp_block ?_
      refine wp_seq_k (fun K hK14 => ?_)
      refine wp_region_from ?_
      obtain ⟨i15, hi15, h⟩ := bs h
      obtain ⟨o16, ho16, h⟩ := bs h
      obtain ⟨x17, hx17, h⟩ := bs h
      refine segO 10 [.pt i15, .ob fs47 o16, .ix K52 x17] [(24, .kv .bool (x17.1 == p1))] (Os := [_, _, _]) ⟨hi15, (ob47 (s := σ) ho16), (IxAt.of (k := K52) hx17), trivial⟩ hE hH (by kernel_rfl) (fun a hE => ?_)
      refine wpFrom_end (by kernel_rfl) ?_
      refine Exit.then_normal (hK14 _ _ ?_)
      refine condE (b := x17.1 == p1) hE (by kernel_rfl) (fun hc => ?_) (fun hc => ?_)
      · replace h := ifT hc h
        refine wp_seq_k (fun K hK18 => ?_)
        refine wp_region_from ?_
        refine segO 2 [] [(4, .kv .i x4)] (Os := []) trivial hE hH (by kernel_rfl) (fun a hE => ?_)
        refine wpFrom_end (by kernel_rfl) ?_
        refine Exit.then_normal (hK18 _ _ ?_)
        refine wp_ret ?_
        refine Exit.in_ret ?_
        refine Exit.then_ret ?_
        refine Exit.then_ret ?_
        cases h
        exact hret7 _ rfl _ _ (ret1 rfl hE hle hH (by kernel_rfl))
      · replace h := ifF hc h
        refine wp_skip ?_
        refine Exit.in_normal ?_
        refine Exit.then_normal (hK13 _ _ ?_)
        refine wp_region_from ?_
        refine segO 3 [] [(5, .kv .i (IntKind.wrap .i64 (x4 + 1)))] (Os := []) trivial hE hH (by kernel_rfl) (fun a hE => ?_)
        refine wpFrom_end (by kernel_rfl) ?_
        refine Exit.then_normal ?_
        exact ih8 _ _ h _ _ _  hle (hE.subC (by kernel_rfl)) hH hx6 hret7
    · replace h := ifF hc h
      refine wp_exit ?_
      refine Exit.then_exit ?_
      refine Exit.then_exit ?_
      cases h
      exact hx6 _ rfl _ _ _  hle (hE.subC (by kernel_rfl)) hH
  refine key _ _ hrr20 _ _ _  hle (hE.subC (by kernel_rfl)) hH ?_ ?_
  · intro z19 hz a w G  hle hE hH
    subst hz
    rw [hQ]
    dsimp only at h
    refine Exit.in_eq ?_
    refine Exit.then_normal (hK2 _ _ ?_)
    refine wp_seq_k (fun K hK21 => ?_)
    refine wp_region_from ?_
    refine segO 1 [] [(4, .kv .i (-1))] (Os := []) trivial hE hH (by kernel_rfl) (fun a hE => ?_)
    refine wpFrom_end (by kernel_rfl) ?_
    refine Exit.then_normal (hK21 _ _ ?_)
    refine wp_ret ?_
    cases h
    exact ret1 rfl hE hle hH (by kernel_rfl)
  · intro yy hz a w hp
    subst hz
    dsimp only at h
    cases h
    rw [hQ]
    refine Exit.in_ret ?_
    refine Exit.then_ret ?_
    exact hp

def f75_l0 (p0 : Option Nat) (σ : St) (x5 : Int) (x6 : Int) : Option (Int × Int) :=
  p0 >>= fun i13 =>
  (σ.t47[i13]?) >>= fun o14 =>
  if (decide (x6 < (o14.2.1.length : Int))) = true then
  p0 >>= fun i16 =>
  (σ.t47[i16]?) >>= fun o17 =>
  (ix o17.2.1 x6) >>= fun x18 =>
  p0 >>= fun i19 =>
  (σ.t47[i19]?) >>= fun o20 =>
  (ix o20.2.1 x6) >>= fun x21 =>
  f75_l0 p0 σ (IntKind.wrap .i64 ((IntKind.wrap .i64 (x5 + (x18.2.1.length : Int))) + (x21.2.2.1.length : Int))) (IntKind.wrap .i64 (x6 + 1))
  else
  some ((x5, x6))
  partial_fixpoint

def f75 (p0 : Option Nat) (σ : St) : Option Int :=
  f75_l0 p0 σ 0 0 >>= fun z22 =>
  some z22.1

theorem f75_ok {p0 : Option Nat} {σ : St} {p : Int} (h : f75 p0 σ = some p) : Spec Try.prog 75 [.kv (.ptr 47) p0] (tabs σ) (.kv .i p) (tabs σ) := by
  refine Spec.intro Try.func75 (by kernel_rfl) rfl (by kernel_rfl) (fun a w G0 Ls hE hH hN => ?_)
  have hle : G0.le G0 := Gh.le_refl G0
  unfold f75 at h
  refine wp_seq_k (fun K hK1 => ?_)
  refine wp_region_from ?_
  refine segO 1 [] [(2, .kv .i 0)] (Os := []) trivial hE hH (by kernel_rfl) (fun a hE => ?_)
  refine wpFrom_end (by kernel_rfl) ?_
  refine Exit.then_normal (hK1 _ _ ?_)
  refine wp_seq_k (fun K hK2 => ?_)
  refine wp_region_from ?_
  refine segO 1 [] [(3, .kv .i 0)] (Os := []) trivial hE hH (by kernel_rfl) (fun a hE => ?_)
  refine wpFrom_end (by kernel_rfl) ?_
  refine Exit.then_normal (hK2 _ _ ?_)
  refine wp_seq_k (fun K hK3 => ?_)
  refine wp_seq_k (fun K hK4 => ?_)
  refine wp_region_from ?_
  refine segO 1 [] [(4, .kv .i 0)] (Os := []) trivial hE hH (by kernel_rfl) (fun a hE => ?_)
  refine wpFrom_end (by kernel_rfl) ?_
  refine Exit.then_normal (hK4 _ _ ?_)
  refine wp_block ?_
  obtain ⟨z22, hz22, h⟩ := bs h
  refine loop_intro (fun Q7 c hQ hc => ?_)
  have key : ∀ (x5 : Int) (x6 : Int) (rr : Int × Int), f75_l0 p0 σ x5 x6 = some rr → ∀ (a : Act) (w : World) (G : Gh), G0.le G → EnvR G 36 a [(0, .kv (.ptr 47) p0), (2, .kv .i 0), (3, .kv .i x5), (4, .kv .i x6)] → Holds w G (tabs σ) (Ls) → (∀ z23 : Int × Int, rr = z23 → ∀ (a : Act) (w : World) (G : Gh), G0.le G → EnvR G 36 a [(0, .kv (.ptr 47) p0), (2, .kv .i 0), (3, .kv .i z23.1), (4, .kv .i z23.2)] → Holds w G (tabs σ) (Ls) → Q7 (.exit 0) a w) → Rnd Try.prog c Q7 a w := by
    refine f75_l0.partial_correctness p0 σ _ ?_
    intro self ih10 x5 x6 rr h a w G  hle hE hH hx8
    refine rnd_step' hc ?_
    refine wp_seq_k (fun K hK11 => ?_)
    refine wp_seq_k (fun K hK12 => ?_)
    refine wp_region_from ?_
    obtain ⟨i13, hi13, h⟩ := bs h
    obtain ⟨o14, ho14, h⟩ := bs h
    refine segO 7 [.pt i13, .ob fs47 o14] [(11, .kv .bool (decide (x6 < (o14.2.1.length : Int))))] (Os := [_, _]) ⟨hi13, (ob47 (s := σ) ho14), trivial⟩ hE hH (by kernel_rfl) (fun a hE => ?_)
    refine wpFrom_end (by kernel_rfl) ?_
    refine Exit.then_normal (hK12 _ _ ?_)
    refine condE (b := decide (x6 < (o14.2.1.length : Int))) hE (by kernel_rfl) (fun hc => ?_) (fun hc => ?_)
    · replace h := ifT hc h
      refine wp_skip ?_
      refine Exit.then_normal (hK11 _ _ ?_)
      refine wp_seq_k (fun K hK15 => ?_)
      refine wp_block ?_
      obtain ⟨i16, hi16, h⟩ := bs h
      obtain ⟨o17, ho17, h⟩ := bs h
      obtain ⟨x18, hx18, h⟩ := bs h
      obtain ⟨i19, hi19, h⟩ := bs h
      obtain ⟨o20, ho20, h⟩ := bs h
      obtain ⟨x21, hx21, h⟩ := bs h
      refine region_par 20 [] [(0, 0), (0, 0), (0, 0), (0, 0), (0, 0), (0, 0), (0, 0), (0, 0), (0, 0), (0, 0), (0, 0), (0, 0), (0, 0), (0, 0), (0, 0), (0, 0), (0, 0), (0, 0), (0, 0), (0, 0)] [.kv .i x5, .kv (.ptr 47) p0, .kv (.ptr 47) (some i16), .fldA 47 i16 1, .kv (.list K52) o17.2.1, .kv .i x6, .elA K52 x18 0, .elA K52 x18 1, .kv .str x18.2.1, .kv .i (x18.2.1.length : Int), .kv .i (IntKind.wrap .i64 (x5 + (x18.2.1.length : Int))), .kv (.ptr 47) p0, .kv (.ptr 47) (some i19), .fldA 47 i19 1, .kv (.list K52) o20.2.1, .kv .i x6, .elA K52 x21 0, .elA K52 x21 2, .kv .str x21.2.2.1, .kv .i (x21.2.2.1.length : Int)] (fun _ => tabs σ) (fun _ => Ls) (by kernel_rfl) (by kernel_rfl) hE hH
              ⟨⟨⟨⟨⟨⟨⟨⟨⟨⟨⟨⟨⟨⟨⟨⟨⟨⟨⟨⟨trivial,
              anyk (fun k => obR [] (Os := []) trivial (by kernel_rfl) (by kernel_rfl))⟩,
              anyk (fun k => obR [] (Os := []) trivial (by kernel_rfl) (by kernel_rfl))⟩,
              anyk (fun k => obR [.pt i16] (Os := [_]) ⟨hi16, trivial⟩ (by kernel_rfl) (by kernel_rfl))⟩,
              anyk (fun k => obR [] (Os := []) trivial (by kernel_rfl) (by kernel_rfl))⟩,
              anyk (fun k => obR [.ob fs47 o17] (Os := [_]) ⟨(ob47 (s := σ) ho17), trivial⟩ (by kernel_rfl) (by kernel_rfl))⟩,
              anyk (fun k => obR [] (Os := []) trivial (by kernel_rfl) (by kernel_rfl))⟩,
              anyk (fun k => obR [.ix K52 x18] (Os := [_]) ⟨(IxAt.of (k := K52) hx18), trivial⟩ (by kernel_rfl) (by kernel_rfl))⟩,
              anyk (fun k => obR [] (Os := []) trivial (by kernel_rfl) (by kernel_rfl))⟩,
              anyk (fun k => obR [] (Os := []) trivial (by kernel_rfl) (by kernel_rfl))⟩,
              anyk (fun k => obR [] (Os := []) trivial (by kernel_rfl) (by kernel_rfl))⟩,
              anyk (fun k => obR [] (Os := []) trivial (by kernel_rfl) (by kernel_rfl))⟩,
              anyk (fun k => obR [] (Os := []) trivial (by kernel_rfl) (by kernel_rfl))⟩,
              anyk (fun k => obR [.pt i19] (Os := [_]) ⟨hi19, trivial⟩ (by kernel_rfl) (by kernel_rfl))⟩,
              anyk (fun k => obR [] (Os := []) trivial (by kernel_rfl) (by kernel_rfl))⟩,
              anyk (fun k => obR [.ob fs47 o20] (Os := [_]) ⟨(ob47 (s := σ) ho20), trivial⟩ (by kernel_rfl) (by kernel_rfl))⟩,
              anyk (fun k => obR [] (Os := []) trivial (by kernel_rfl) (by kernel_rfl))⟩,
              anyk (fun k => obR [.ix K52 x21] (Os := [_]) ⟨(IxAt.of (k := K52) hx21), trivial⟩ (by kernel_rfl) (by kernel_rfl))⟩,
              anyk (fun k => obR [] (Os := []) trivial (by kernel_rfl) (by kernel_rfl))⟩,
              anyk (fun k => obR [] (Os := []) trivial (by kernel_rfl) (by kernel_rfl))⟩,
              anyk (fun k => obR [] (Os := []) trivial (by kernel_rfl) (by kernel_rfl))⟩ (fun a w G hl1 hE hH => ?_)
      have hle := Gh.le_trans hle hl1
      refine segO 2 [] [(3, .kv .i (IntKind.wrap .i64 ((IntKind.wrap .i64 (x5 + (x18.2.1.length : Int))) + (x21.2.2.1.length : Int))))] (Os := []) trivial hE hH (by kernel_rfl) (fun a hE => ?_)
      refine wpFrom_end (by kernel_rfl) ?_
      refine Exit.in_normal ?_
      refine Exit.then_normal (hK15 _ _ ?_)
      refine wp_region_from ?_
      refine segO 3 [] [(4, .kv .i (IntKind.wrap .i64 (x6 + 1)))] (Os := []) trivial hE hH (by kernel_rfl) (fun a hE => ?_)
      refine wpFrom_end (by kernel_rfl) ?_
      refine Exit.then_normal ?_
      exact ih10 _ _ _ h _ _ _  hle (hE.subC (by kernel_rfl)) hH hx8
    · replace h := ifF hc h
      refine wp_exit ?_
      refine Exit.then_exit ?_
      refine Exit.then_exit ?_
      cases h
      exact hx8 _ rfl _ _ _  hle (hE.subC (by kernel_rfl)) hH
  refine key _ _ _ hz22 _ _ _  hle (hE.subC (by kernel_rfl)) hH ?_
  · intro z23 hz a w G  hle hE hH
    subst hz
    rw [hQ]
    refine Exit.in_eq ?_
    refine Exit.then_normal (hK3 _ _ ?_)
    refine wp_seq_k (fun K hK24 => ?_)
    refine wp_region_from ?_
    refine segO 2 [] [(2, .kv .i z22.1)] (Os := []) trivial hE hH (by kernel_rfl) (fun a hE => ?_)
    refine wpFrom_end (by kernel_rfl) ?_
    refine Exit.then_normal (hK24 _ _ ?_)
    refine wp_ret ?_
    cases h
    exact ret1 rfl hE hle hH (by kernel_rfl)

def f74_l0 (p0 : Option Nat) (σ : St) (l6 : List (List UInt8)) (x7 : Int) : Option ((List (List UInt8)) × Int) :=
  p0 >>= fun i14 =>
  (σ.t47[i14]?) >>= fun o15 =>
  if (decide (x7 < (o15.2.1.length : Int))) = true then
  p0 >>= fun i17 =>
  (σ.t47[i17]?) >>= fun o18 =>
  (ix o18.2.1 x7) >>= fun x19 =>
  if (l6.length + 1) * 16 ≤ 140737488355328 then
  f74_l0 p0 σ (l6 ++ [x19.1]) (IntKind.wrap .i64 (x7 + 1))
  else none
  else
  some ((l6, x7))
  partial_fixpoint

def f74 (p0 : Option Nat) (σ : St) : Option (List (List UInt8)) :=
  f74_l0 p0 σ [] 0 >>= fun z22 =>
  some z22.1

theorem f74_ok {p0 : Option Nat} {σ : St} {p : List (List UInt8)} (h : f74 p0 σ = some p) : Spec Try.prog 74 [.kv (.ptr 47) p0] (tabs σ) (.kv (.list .str) p) (tabs σ) := by
  refine Spec.intro Try.func74 (by kernel_rfl) rfl (by kernel_rfl) (fun a w G0 Ls hE hH hN => ?_)
  have hle : G0.le G0 := Gh.le_refl G0
  unfold f74 at h
  refine wp_seq_k (fun K hK1 => ?_)
  refine wp_region_from ?_
  refine segO 1 [] [(2, .val (.slice none 0 0))] (Os := []) trivial hE hH (by kernel_rfl) (fun a hE => ?_)
  refine wpFrom_end (by kernel_rfl) ?_
  refine Exit.then_normal (hK1 _ _ ?_)
  refine wp_seq_k (fun K hK2 => ?_)
  refine wp_region_from ?_
  refine segO 1 [] [(3, .val (.slice none 0 0))] (Os := []) trivial hE hH (by kernel_rfl) (fun a hE => ?_)
  refine wpFrom_end (by kernel_rfl) ?_
  refine Exit.then_normal (hK2 _ _ ?_)
  refine wp_seq_k (fun K hK3 => ?_)
  refine wp_seq_k (fun K hK4 => ?_)
  refine wp_region_from ?_
  refine segO 1 [] [(4, .kv .i 0)] (Os := []) trivial hE hH (by kernel_rfl) (fun a hE => ?_)
  refine wpFrom_end (by kernel_rfl) ?_
  refine Exit.then_normal (hK4 _ _ ?_)
  refine wp_block ?_
  have hE := hE.nilTl 3 .str (by kernel_rfl)
  have hH := hH.nilTk 9 16 .str
  obtain ⟨z22, hz22, h⟩ := bs h
  refine loop_intro (fun Q8 c hQ hc => ?_)
  have key : ∀ (l6 : List (List UInt8)) (x7 : Int) (rr : (List (List UInt8)) × Int), f74_l0 p0 σ l6 x7 = some rr → ∀ (a : Act) (w : World) (G : Gh) (v5 : Value), G0.le G → EnvR G 26 a [(0, .kv (.ptr 47) p0), (2, .val (.slice none 0 0)), (3, .tl v5 .str l6), (4, .kv .i x7)] → Holds w G (tabs σ) (LS.tk v5 9 16 .str l6 :: Ls) → (∀ z23 : (List (List UInt8)) × Int, rr = z23 → ∀ (a : Act) (w : World) (G : Gh) (v5 : Value), G0.le G → EnvR G 26 a [(0, .kv (.ptr 47) p0), (2, .val (.slice none 0 0)), (3, .tl v5 .str z23.1), (4, .kv .i z23.2)] → Holds w G (tabs σ) (LS.tk v5 9 16 .str z23.1 :: Ls) → Q8 (.exit 0) a w) → Rnd Try.prog c Q8 a w := by
    refine f74_l0.partial_correctness p0 σ _ ?_
    intro self ih11 l6 x7 rr h a w G v5 hle hE hH hx9
    refine rnd_step' hc ?_
    refine wp_seq_k (fun K hK12 => ?_)
    refine wp_seq_k (fun K hK13 => ?_)
    refine wp_region_from ?_
    obtain ⟨i14, hi14, h⟩ := bs h
    obtain ⟨o15, ho15, h⟩ := bs h
    refine segO 7 [.pt i14, .ob fs47 o15] [(11, .kv .bool (decide (x7 < (o15.2.1.length : Int))))] (Os := [_, _]) ⟨hi14, (ob47 (s := σ) ho15), trivial⟩ hE hH (by kernel_rfl) (fun a hE => ?_)
    refine wpFrom_end (by kernel_rfl) ?_
    refine Exit.then_normal (hK13 _ _ ?_)
    refine condE (b := decide (x7 < (o15.2.1.length : Int))) hE (by kernel_rfl) (fun hc => ?_) (fun hc => ?_)
    · replace h := ifT hc h
      refine wp_skip ?_
      refine Exit.then_normal (hK12 _ _ ?_)
      refine wp_seq_k (fun K hK16 => ?_)
      refine wp_block ?_
      refine wp_region_from ?_
      obtain ⟨i17, hi17, h⟩ := bs h
      obtain ⟨o18, ho18, h⟩ := bs h
      obtain ⟨x19, hx19, h⟩ := bs h
      refine segO 9 [.pt i17, .ob fs47 o18, .ix K52 x19] [(14, .tl v5 .str l6), (22, .kv .str x19.1)] (Os := [_, _, _]) ⟨hi17, (ob47 (s := σ) ho18), (IxAt.of (k := K52) hx19), trivial⟩ hE hH (by kernel_rfl) (fun a hE => ?_)
      refine stepBuildS (d := (some 23)) .str [x19.1] hE hH (by kernel_rfl) (by kernel_rfl) (fun a w G hl1 hE hH => ?_)
      have hle := Gh.le_trans hle hl1
      obtain ⟨q20, h⟩ := gd h
      refine stepApp (e := 0) (bt := 16) (ys := [x19.1]) (e' := 9) (d := (some 24)) 0 hE hH (by kernel_rfl) rfl (by kernel_rfl) q20 (fun v21 a w G hl2 hE hH => ?_)
      have hle := Gh.le_trans hle hl2
      refine segO 1 [] [(3, .tl v21 .str (l6 ++ [x19.1]))] (Os := []) trivial hE hH (by kernel_rfl) (fun a hE => ?_)
      refine wpFrom_end (by kernel_rfl) ?_
      refine Exit.in_normal ?_
      refine Exit.then_normal (hK16 _ _ ?_)
      refine wp_region_from ?_
      refine segO 3 [] [(4, .kv .i (IntKind.wrap .i64 (x7 + 1)))] (Os := []) trivial hE hH (by kernel_rfl) (fun a hE => ?_)
      refine wpFrom_end (by kernel_rfl) ?_
      refine Exit.then_normal ?_
      exact ih11 _ _ _ h _ _ _ v21 hle (hE.subC (by kernel_rfl)) hH hx9
    · replace h := ifF hc h
      refine wp_exit ?_
      refine Exit.then_exit ?_
      refine Exit.then_exit ?_
      cases h
      exact hx9 _ rfl _ _ _ v5 hle (hE.subC (by kernel_rfl)) hH
  refine key _ _ _ hz22 _ _ _ (.slice none 0 0) hle (hE.subC (by kernel_rfl)) hH ?_
  · intro z23 hz a w G v5 hle hE hH
    subst hz
    rw [hQ]
    refine Exit.in_eq ?_
    refine Exit.then_normal (hK3 _ _ ?_)
    refine wp_seq_k (fun K hK24 => ?_)
    refine wp_region_from ?_
    refine segO 2 [] [(2, .tl v5 .str z22.1)] (Os := []) trivial hE hH (by kernel_rfl) (fun a hE => ?_)
    refine wpFrom_end (by kernel_rfl) ?_
    refine Exit.then_normal (hK24 _ _ ?_)
    refine wp_ret ?_
    have hH := hH.drop (fun _ _ _ => rfl)
    cases h
    exact ret1 rfl hE hle hH (by kernel_rfl)

def f102_l0 (p0 : List UInt8) (x4 : Int) : Option (Sum Int Bool) :=
  if (decide (x4 < (p0.length : Int))) = true then
  if (0 : Int) ≤ x4 ∧ x4 < (p0.length : Int) then
  if (((((!((decide ((btS p0 x4) ≥ 97)) && (decide ((btS p0 x4) ≤ 122)))) && (!((decide ((btS p0 x4) ≥ 48)) && (decide ((btS p0 x4) ≤ 57))))) && ((btS p0 x4) != 46)) && ((btS p0 x4) != 45)) && ((btS p0 x4) != 95)) = true then
  some (.inr false)
  else
  f102_l0 p0 (IntKind.wrap .i64 (x4 + 1))
  else none
  else
  some (.inl x4)
  partial_fixpoint

def f102 (p0 : List UInt8) : Option Bool :=
  f102_l0 p0 0 >>= fun rr17 => (match rr17 with
  | .inr yy => some yy
  | .inl z16 =>
  some ((decide ((p0.length : Int) ≥ 1)) && (decide ((p0.length : Int) ≤ 24))))

theorem f102_ok {p0 : List UInt8} {σ : St} {p : Bool} (h : f102 p0 = some p) : Spec Try.prog 102 [.kv .str p0] (tabs σ) (.kv .bool p) (tabs σ) := by
  refine Spec.intro Try.func102 (by kernel_rfl) rfl (by kernel_rfl) (fun a w G0 Ls hE hH hN => ?_)
  have hle : G0.le G0 := Gh.le_refl G0
  unfold f102 at h
  refine wp_seq_k (fun K hK1 => ?_)
  refine wp_region_from ?_
  refine segO 1 [] [(2, .kv .bool false)] (Os := []) trivial hE hH (by kernel_rfl) (fun a hE => ?_)
  refine wpFrom_end (by kernel_rfl) ?_
  refine Exit.then_normal (hK1 _ _ ?_)
  refine wp_seq_k (fun K hK2 => ?_)
  refine wp_seq_k (fun K hK3 => ?_)
  refine wp_region_from ?_
  refine segO 1 [] [(3, .kv .i 0)] (Os := []) trivial hE hH (by kernel_rfl) (fun a hE => ?_)
  refine wpFrom_end (by kernel_rfl) ?_
  refine Exit.then_normal (hK3 _ _ ?_)
  refine wp_block ?_
  obtain ⟨rr17, hrr17, h⟩ := bs h
  refine loop_intro (fun Q5 c hQ hc => ?_)
  have key : ∀ (x4 : Int) (rr : Sum Int Bool), f102_l0 p0 x4 = some rr → ∀ (a : Act) (w : World) (G : Gh), G0.le G → EnvR G 50 a [(0, .kv .str p0), (2, .kv .bool false), (3, .kv .i x4)] → Holds w G (tabs σ) (Ls) → (∀ z16 : Int, rr = .inl z16 → ∀ (a : Act) (w : World) (G : Gh), G0.le G → EnvR G 50 a [(0, .kv .str p0), (2, .kv .bool false), (3, .kv .i z16)] → Holds w G (tabs σ) (Ls) → Q5 (.exit 0) a w) → (∀ yy : Bool, rr = .inr yy → ∀ (a : Act) (w : World), PostB Try.prog Try.f102 G0 (.kv .bool yy) (tabs σ) Ls .ret a w → Q5 .ret a w) → Rnd Try.prog c Q5 a w := by
    refine f102_l0.partial_correctness p0 _ ?_
    intro self ih8 x4 rr h a w G  hle hE hH hx6 hret7
    refine rnd_step' hc ?_
    refine wp_seq_k (fun K hK9 => ?_)
    refine wp_seq_k (fun K hK10 => ?_)
    refine wp_region_from ?_
    refine segO 4 [] [(8, .kv .bool (decide (x4 < (p0.length : Int))))] (Os := []) trivial hE hH (by kernel_rfl) (fun a hE => ?_)
    refine wpFrom_end (by kernel_rfl) ?_
    refine Exit.then_normal (hK10 _ _ ?_)
    refine condE (b := decide (x4 < (p0.length : Int))) hE (by kernel_rfl) (fun hc => ?_) (fun hc => ?_)
    · replace h := ifT hc h
      refine wp_skip ?_
      refine Exit.then_normal (hK9 _ _ ?_)
      refine wp_seq_k (fun K hK11 => ?_)
      refine wp_block ?_
      refine wp_seq_k (fun K hK12 => ?_)
      refine wp_region_from ?_
      obtain ⟨q13, h⟩ := gd h
      refine segO 4 [] [(4, .kv (.int .u8) (btS p0 x4))] (Os := [_]) ⟨q13, trivial⟩ hE hH (by kernel_rfl) (fun a hE => ?_)
      refine wpFrom_end (by kernel_rfl) ?_
      refine Exit.then_normal (hK12 _ _ ?_)
      refine wp_seq_k (fun K hK14 => ?_)
      refine wp_region_from ?_
      refine segO 28 [] [(41, .kv .bool (((((!((decide ((btS p0 x4) ≥ 97)) && (decide ((btS p0 x4) ≤ 122)))) && (!((decide ((btS p0 x4) ≥ 48)) && (decide ((btS p0 x4) ≤ 57))))) && ((btS p0 x4) != 46)) && ((btS p0 x4) != 45)) && ((btS p0 x4) != 95)))] (Os := []) trivial hE hH (by kernel_rfl) (fun a hE => ?_)
      refine wpFrom_end (by kernel_rfl) ?_
      refine Exit.then_normal (hK14 _ _ ?_)
      refine condE (b := ((((!((decide ((btS p0 x4) ≥ 97)) && (decide ((btS p0 x4) ≤ 122)))) && (!((decide ((btS p0 x4) ≥ 48)) && (decide ((btS p0 x4) ≤ 57))))) && ((btS p0 x4) != 46)) && ((btS p0 x4) != 45)) && ((btS p0 x4) != 95)) hE (by kernel_rfl) (fun hc => ?_) (fun hc => ?_)
      · replace h := ifT hc h
        refine wp_seq_k (fun K hK15 => ?_)
        refine wp_region_from ?_
        refine segO 1 [] [(2, .kv .bool false)] (Os := []) trivial hE hH (by kernel_rfl) (fun a hE => ?_)
        refine wpFrom_end (by kernel_rfl) ?_
        refine Exit.then_normal (hK15 _ _ ?_)
        refine wp_ret ?_
        refine Exit.in_ret ?_
        refine Exit.then_ret ?_
        refine Exit.then_ret ?_
        cases h
        exact hret7 _ rfl _ _ (ret1 rfl hE hle hH (by kernel_rfl))
      · replace h := ifF hc h
        refine wp_skip ?_
        refine Exit.in_normal ?_
        refine Exit.then_normal (hK11 _ _ ?_)
        refine wp_region_from ?_
        refine segO 3 [] [(3, .kv .i (IntKind.wrap .i64 (x4 + 1)))] (Os := []) trivial hE hH (by kernel_rfl) (fun a hE => ?_)
        refine wpFrom_end (by kernel_rfl) ?_
        refine Exit.then_normal ?_
        exact ih8 _ _ h _ _ _  hle (hE.subC (by kernel_rfl)) hH hx6 hret7
    · replace h := ifF hc h
      refine wp_exit ?_
      refine Exit.then_exit ?_
      refine Exit.then_exit ?_
      cases h
      exact hx6 _ rfl _ _ _  hle (hE.subC (by kernel_rfl)) hH
  refine key _ _ hrr17 _ _ _  hle (hE.subC (by kernel_rfl)) hH ?_ ?_
  · intro z16 hz a w G  hle hE hH
    subst hz
    rw [hQ]
    dsimp only at h
    refine Exit.in_eq ?_
    refine Exit.then_normal (hK2 _ _ ?_)
    refine wp_seq_k (fun K hK18 => ?_)
    refine wp_region_from ?_
    refine segO 9 [] [(2, .kv .bool ((decide ((p0.length : Int) ≥ 1)) && (decide ((p0.length : Int) ≤ 24))))] (Os := []) trivial hE hH (by kernel_rfl) (fun a hE => ?_)
    refine wpFrom_end (by kernel_rfl) ?_
    refine Exit.then_normal (hK18 _ _ ?_)
    refine wp_ret ?_
    cases h
    exact ret1 rfl hE hle hH (by kernel_rfl)
  · intro yy hz a w hp
    subst hz
    dsimp only at h
    cases h
    rw [hQ]
    refine Exit.in_ret ?_
    refine Exit.then_ret ?_
    exact hp

def f104 (p0 : Option Nat) (σ : St) : Option (Bool × St) :=
  p0 >>= fun i4 =>
  (σ.t47[i4]?) >>= fun o5 =>
  if (o5.2.2.1 == 0) = true then
  some (false, σ)
  else
  p0 >>= fun i8 =>
  (σ.t47[i8]?) >>= fun o9 =>
  p0 >>= fun i10 =>
  (σ.t47[i10]?) >>= fun o11 =>
  p0 >>= fun i13 =>
  ((σ.set47 i10 (o11.1, o11.2.1, IntKind.wrap .i64 (o9.2.2.1 - 1), o11.2.2.2.1, ())).t47[i13]?) >>= fun o14 =>
  p0 >>= fun i15 =>
  ((σ.set47 i10 (o11.1, o11.2.1, IntKind.wrap .i64 (o9.2.2.1 - 1), o11.2.2.2.1, ())).t47[i15]?) >>= fun o16 =>
  p0 >>= fun i18 =>
  (((σ.set47 i10 (o11.1, o11.2.1, IntKind.wrap .i64 (o9.2.2.1 - 1), o11.2.2.2.1, ())).set47 i15 (o16.1, o16.2.1, o16.2.2.1, o14.2.2.1 == 0, ())).t47[i18]?) >>= fun o19 =>
  some (o19.2.2.2.1, ((σ.set47 i10 (o11.1, o11.2.1, IntKind.wrap .i64 (o9.2.2.1 - 1), o11.2.2.2.1, ())).set47 i15 (o16.1, o16.2.1, o16.2.2.1, o14.2.2.1 == 0, ())))

theorem f104_ok {p0 : Option Nat} {σ : St} {p : Bool × St} (h : f104 p0 σ = some p) : Spec Try.prog 104 [.kv (.ptr 47) p0] (tabs σ) (.kv .bool p.1) (tabs p.2) := by
  refine Spec.intro Try.func104 (by kernel_rfl) rfl (by kernel_rfl) (fun a w G0 Ls hE hH hN => ?_)
  have hle : G0.le G0 := Gh.le_refl G0
  unfold f104 at h
  refine wp_seq_k (fun K hK1 => ?_)
  refine wp_region_from ?_
  refine segO 1 [] [(2, .kv .bool false)] (Os := []) trivial hE hH (by kernel_rfl) (fun a hE => ?_)
  refine wpFrom_end (by kernel_rfl) ?_
  refine Exit.then_normal (hK1 _ _ ?_)
  refine wp_seq_k (fun K hK2 => ?_)
  refine wp_seq_k (fun K hK3 => ?_)
  refine wp_region_from ?_
  obtain ⟨i4, hi4, h⟩ := bs h
  obtain ⟨o5, ho5, h⟩ := bs h
  refine segO 5 [.pt i4, .ob fs47 o5] [(7, .kv .bool (o5.2.2.1 == 0))] (Os := [_, _]) ⟨hi4, (ob47 (s := σ) ho5), trivial⟩ hE hH (by kernel_rfl) (fun a hE => ?_)
  refine wpFrom_end (by kernel_rfl) ?_
  refine Exit.then_normal (hK3 _ _ ?_)
  refine condE (b := o5.2.2.1 == 0) hE (by kernel_rfl) (fun hc => ?_) (fun hc => ?_)
  · replace h := ifT hc h
    refine wp_seq_k (fun K hK6 => ?_)
    refine wp_region_from ?_
    refine segO 1 [] [(2, .kv .bool false)] (Os := []) trivial hE hH (by kernel_rfl) (fun a hE => ?_)
    refine wpFrom_end (by kernel_rfl) ?_
    refine Exit.then_normal (hK6 _ _ ?_)
    refine wp_ret ?_
    refine Exit.then_ret ?_
    cases h
    exact ret1 rfl hE hle hH (by kernel_rfl)
  · replace h := ifF hc h
    refine wp_skip ?_
    refine Exit.then_normal (hK2 _ _ ?_)
    refine wp_seq_k (fun K hK7 => ?_)
    refine wp_region_from ?_
    obtain ⟨i8, hi8, h⟩ := bs h
    obtain ⟨o9, ho9, h⟩ := bs h
    obtain ⟨i10, hi10, h⟩ := bs h
    refine segO 8 [.pt i8, .ob fs47 o9, .pt i10] [(13, .kv .i (IntKind.wrap .i64 (o9.2.2.1 - 1))), (15, .fldA 47 i10 2)] (Os := [_, _, _]) ⟨hi8, (ob47 (s := σ) ho9), hi10, trivial⟩ hE hH (by kernel_rfl) (fun a hE => ?_)
    obtain ⟨o11, ho11, h⟩ := bs h
    refine stepStO (t := 47) (j := i10) (off := 2) .i (IntKind.wrap .i64 (o9.2.2.1 - 1)) (x' := (o11.1, o11.2.1, IntKind.wrap .i64 (o9.2.2.1 - 1), o11.2.2.2.1, ())) hE hH (by kernel_rfl) (ob47 (s := σ) ho11) (by kernel_rfl) (upd47 (s := σ)) (fun w G hl1 hE hH => ?_)
    have hle := Gh.le_trans hle hl1
    refine wpFrom_end (by kernel_rfl) ?_
    refine Exit.then_normal (hK7 _ _ ?_)
    refine wp_seq_k (fun K hK12 => ?_)
    refine wp_region_from ?_
    obtain ⟨i13, hi13, h⟩ := bs h
    obtain ⟨o14, ho14, h⟩ := bs h
    obtain ⟨i15, hi15, h⟩ := bs h
    refine segO 8 [.pt i13, .ob fs47 o14, .pt i15] [(21, .kv .bool (o14.2.2.1 == 0)), (23, .fldA 47 i15 3)] (Os := [_, _, _]) ⟨hi13, (ob47 (s := (σ.set47 i10 (o11.1, o11.2.1, IntKind.wrap .i64 (o9.2.2.1 - 1), o11.2.2.2.1, ()))) ho14), hi15, trivial⟩ hE hH (by kernel_rfl) (fun a hE => ?_)
    obtain ⟨o16, ho16, h⟩ := bs h
    refine stepStO (t := 47) (j := i15) (off := 3) .bool (o14.2.2.1 == 0) (x' := (o16.1, o16.2.1, o16.2.2.1, o14.2.2.1 == 0, ())) hE hH (by kernel_rfl) (ob47 (s := (σ.set47 i10 (o11.1, o11.2.1, IntKind.wrap .i64 (o9.2.2.1 - 1), o11.2.2.2.1, ()))) ho16) (by kernel_rfl) (upd47 (s := (σ.set47 i10 (o11.1, o11.2.1, IntKind.wrap .i64 (o9.2.2.1 - 1), o11.2.2.2.1, ())))) (fun w G hl2 hE hH => ?_)
    have hle := Gh.le_trans hle hl2
    refine wpFrom_end (by kernel_rfl) ?_
    refine Exit.then_normal (hK12 _ _ ?_)
    refine wp_seq_k (fun K hK17 => ?_)
    refine wp_region_from ?_
    obtain ⟨i18, hi18, h⟩ := bs h
    obtain ⟨o19, ho19, h⟩ := bs h
    refine segO 5 [.pt i18, .ob fs47 o19] [(2, .kv .bool o19.2.2.2.1)] (Os := [_, _]) ⟨hi18, (ob47 (s := ((σ.set47 i10 (o11.1, o11.2.1, IntKind.wrap .i64 (o9.2.2.1 - 1), o11.2.2.2.1, ())).set47 i15 (o16.1, o16.2.1, o16.2.2.1, o14.2.2.1 == 0, ()))) ho19), trivial⟩ hE hH (by kernel_rfl) (fun a hE => ?_)
    refine wpFrom_end (by kernel_rfl) ?_
    refine Exit.then_normal (hK17 _ _ ?_)
    refine wp_ret ?_
    cases h
    exact ret1 rfl hE hle hH (by kernel_rfl)

def f128_l0 (p0 : List UInt8) (p1 : List UInt8) (x4 : Int) : Option (Sum Int Bool) :=
  if ((decide (x4 < (p0.length : Int))) && (decide (x4 < (p1.length : Int)))) = true then
  if (0 : Int) ≤ x4 ∧ x4 < (p0.length : Int) then
  if (0 : Int) ≤ x4 ∧ x4 < (p1.length : Int) then
  if ((btS p0 x4) != (btS p1 x4)) = true then
  if (0 : Int) ≤ x4 ∧ x4 < (p0.length : Int) then
  if (0 : Int) ≤ x4 ∧ x4 < (p1.length : Int) then
  some (.inr (decide ((btS p0 x4) < (btS p1 x4))))
  else none
  else none
  else
  f128_l0 p0 p1 (IntKind.wrap .i64 (x4 + 1))
  else none
  else none
  else
  some (.inl x4)
  partial_fixpoint

def f128 (p0 : List UInt8) (p1 : List UInt8) : Option Bool :=
  f128_l0 p0 p1 0 >>= fun rr19 => (match rr19 with
  | .inr yy => some yy
  | .inl z18 =>
  some (decide ((p0.length : Int) < (p1.length : Int))))

theorem f128_ok {p0 : List UInt8} {p1 : List UInt8} {σ : St} {p : Bool} (h : f128 p0 p1 = some p) : Spec Try.prog 128 [.kv .str p0, .kv .str p1] (tabs σ) (.kv .bool p) (tabs σ) := by
  refine Spec.intro Try.func128 (by kernel_rfl) rfl (by kernel_rfl) (fun a w G0 Ls hE hH hN => ?_)
  have hle : G0.le G0 := Gh.le_refl G0
  unfold f128 at h
  refine wp_seq_k (fun K hK1 => ?_)
  refine wp_region_from ?_
  refine segO 1 [] [(4, .kv .bool false)] (Os := []) trivial hE hH (by kernel_rfl) (fun a hE => ?_)
  refine wpFrom_end (by kernel_rfl) ?_
  refine Exit.then_normal (hK1 _ _ ?_)
  refine wp_seq_k (fun K hK2 => ?_)
  refine wp_seq_k (fun K hK3 => ?_)
  refine wp_region_from ?_
  refine segO 1 [] [(5, .kv .i 0)] (Os := []) trivial hE hH (by kernel_rfl) (fun a hE => ?_)
  refine wpFrom_end (by kernel_rfl) ?_
  refine Exit.then_normal (hK3 _ _ ?_)
  refine wp_block ?_
  obtain ⟨rr19, hrr19, h⟩ := bs h
  refine loop_intro (fun Q5 c hQ hc => ?_)
  have key : ∀ (x4 : Int) (rr : Sum Int Bool), f128_l0 p0 p1 x4 = some rr → ∀ (a : Act) (w : World) (G : Gh), G0.le G → EnvR G 37 a [(0, .kv .str p0), (1, .kv .str p1), (4, .kv .bool false), (5, .kv .i x4)] → Holds w G (tabs σ) (Ls) → (∀ z18 : Int, rr = .inl z18 → ∀ (a : Act) (w : World) (G : Gh), G0.le G → EnvR G 37 a [(0, .kv .str p0), (1, .kv .str p1), (4, .kv .bool false), (5, .kv .i z18)] → Holds w G (tabs σ) (Ls) → Q5 (.exit 0) a w) → (∀ yy : Bool, rr = .inr yy → ∀ (a : Act) (w : World), PostB Try.prog Try.f128 G0 (.kv .bool yy) (tabs σ) Ls .ret a w → Q5 .ret a w) → Rnd Try.prog c Q5 a w := by
    refine f128_l0.partial_correctness p0 p1 _ ?_
    intro self ih8 x4 rr h a w G  hle hE hH hx6 hret7
    refine rnd_step' hc ?_
    refine wp_seq_k (fun K hK9 => ?_)
    refine wp_seq_k (fun K hK10 => ?_)
    refine wp_region_from ?_
    refine segO 10 [] [(15, .kv .bool ((decide (x4 < (p0.length : Int))) && (decide (x4 < (p1.length : Int)))))] (Os := []) trivial hE hH (by kernel_rfl) (fun a hE => ?_)
    refine wpFrom_end (by kernel_rfl) ?_
    refine Exit.then_normal (hK10 _ _ ?_)
    refine condE (b := (decide (x4 < (p0.length : Int))) && (decide (x4 < (p1.length : Int)))) hE (by kernel_rfl) (fun hc => ?_) (fun hc => ?_)
    · replace h := ifT hc h
      refine wp_skip ?_
      refine Exit.then_normal (hK9 _ _ ?_)
      refine wp_seq_k (fun K hK11 => ?_)
      refine wp_block ?_
      refine wp_seq_k (fun K hK12 => ?_)
      obtain ⟨q13, h⟩ := gd h
      obtain ⟨q14, h⟩ := gd h
      refine region_par 6 [] [(0, 0), (0, 0), (0, 0), (0, 0), (0, 0), (0, 0)] [.kv .str p0, .kv .i x4, .kv (.int .u8) (btS p0 x4), .kv .str p1, .kv .i x4, .kv (.int .u8) (btS p1 x4)] (fun _ => tabs σ) (fun _ => Ls) (by kernel_rfl) (by kernel_rfl) hE hH
              ⟨⟨⟨⟨⟨⟨trivial,
              anyk (fun k => obR [] (Os := []) trivial (by kernel_rfl) (by kernel_rfl))⟩,
              anyk (fun k => obR [] (Os := []) trivial (by kernel_rfl) (by kernel_rfl))⟩,
              anyk (fun k => obR [] (Os := [_]) ⟨q13, trivial⟩ (by kernel_rfl) (by kernel_rfl))⟩,
              anyk (fun k => obR [] (Os := []) trivial (by kernel_rfl) (by kernel_rfl))⟩,
              anyk (fun k => obR [] (Os := []) trivial (by kernel_rfl) (by kernel_rfl))⟩,
              anyk (fun k => obR [] (Os := [_]) ⟨q14, trivial⟩ (by kernel_rfl) (by kernel_rfl))⟩ (fun a w G hl1 hE hH => ?_)
      have hle := Gh.le_trans hle hl1
      refine segO 1 [] [(24, .kv .bool ((btS p0 x4) != (btS p1 x4)))] (Os := []) trivial hE hH (by kernel_rfl) (fun a hE => ?_)
      refine wpFrom_end (by kernel_rfl) ?_
      refine Exit.then_normal (hK12 _ _ ?_)
      refine condE (b := (btS p0 x4) != (btS p1 x4)) hE (by kernel_rfl) (fun hc => ?_) (fun hc => ?_)
      · replace h := ifT hc h
        refine wp_seq_k (fun K hK15 => ?_)
        obtain ⟨q16, h⟩ := gd h
        obtain ⟨q17, h⟩ := gd h
        refine region_par 6 [] [(0, 0), (0, 0), (0, 0), (0, 0), (0, 0), (0, 0)] [.kv .str p0, .kv .i x4, .kv (.int .u8) (btS p0 x4), .kv .str p1, .kv .i x4, .kv (.int .u8) (btS p1 x4)] (fun _ => tabs σ) (fun _ => Ls) (by kernel_rfl) (by kernel_rfl) hE hH
                ⟨⟨⟨⟨⟨⟨trivial,
                anyk (fun k => obR [] (Os := []) trivial (by kernel_rfl) (by kernel_rfl))⟩,
                anyk (fun k => obR [] (Os := []) trivial (by kernel_rfl) (by kernel_rfl))⟩,
                anyk (fun k => obR [] (Os := [_]) ⟨q16, trivial⟩ (by kernel_rfl) (by kernel_rfl))⟩,
                anyk (fun k => obR [] (Os := []) trivial (by kernel_rfl) (by kernel_rfl))⟩,
                anyk (fun k => obR [] (Os := []) trivial (by kernel_rfl) (by kernel_rfl))⟩,
                anyk (fun k => obR [] (Os := [_]) ⟨q17, trivial⟩ (by kernel_rfl) (by kernel_rfl))⟩ (fun a w G hl2 hE hH => ?_)
        have hle := Gh.le_trans hle hl2
        refine segO 2 [] [(4, .kv .bool (decide ((btS p0 x4) < (btS p1 x4))))] (Os := []) trivial hE hH (by kernel_rfl) (fun a hE => ?_)
        refine wpFrom_end (by kernel_rfl) ?_
        refine Exit.then_normal (hK15 _ _ ?_)
        refine wp_ret ?_
        refine Exit.in_ret ?_
        refine Exit.then_ret ?_
        refine Exit.then_ret ?_
        cases h
        exact hret7 _ rfl _ _ (ret1 rfl hE hle hH (by kernel_rfl))
      · replace h := ifF hc h
        refine wp_skip ?_
        refine Exit.in_normal ?_
        refine Exit.then_normal (hK11 _ _ ?_)
        refine wp_region_from ?_
        refine segO 3 [] [(5, .kv .i (IntKind.wrap .i64 (x4 + 1)))] (Os := []) trivial hE hH (by kernel_rfl) (fun a hE => ?_)
        refine wpFrom_end (by kernel_rfl) ?_
        refine Exit.then_normal ?_
        exact ih8 _ _ h _ _ _  hle (hE.subC (by kernel_rfl)) hH hx6 hret7
    · replace h := ifF hc h
      refine wp_exit ?_
      refine Exit.then_exit ?_
      refine Exit.then_exit ?_
      cases h
      exact hx6 _ rfl _ _ _  hle (hE.subC (by kernel_rfl)) hH
  refine key _ _ hrr19 _ _ _  hle (hE.subC (by kernel_rfl)) hH ?_ ?_
  · intro z18 hz a w G  hle hE hH
    subst hz
    rw [hQ]
    dsimp only at h
    refine Exit.in_eq ?_
    refine Exit.then_normal (hK2 _ _ ?_)
    refine wp_seq_k (fun K hK20 => ?_)
    refine wp_region_from ?_
    refine segO 6 [] [(4, .kv .bool (decide ((p0.length : Int) < (p1.length : Int))))] (Os := []) trivial hE hH (by kernel_rfl) (fun a hE => ?_)
    refine wpFrom_end (by kernel_rfl) ?_
    refine Exit.then_normal (hK20 _ _ ?_)
    refine wp_ret ?_
    cases h
    exact ret1 rfl hE hle hH (by kernel_rfl)
  · intro yy hz a w hp
    subst hz
    dsimp only at h
    cases h
    rw [hQ]
    refine Exit.in_ret ?_
    refine Exit.then_ret ?_
    exact hp

def f103_l0 (p0 : Option Nat) (σ : St) (l8 : List K52.den) (y9 : K52.den) (x10 : Bool) (x11 : Int) : Option ((List K52.den) × K52.den × Bool × Int) :=
  p0 >>= fun i18 =>
  (σ.t47[i18]?) >>= fun o19 =>
  if (decide (x11 < (o19.2.1.length : Int))) = true then
  if (!x10) = true then
  p0 >>= fun i24 =>
  (σ.t47[i24]?) >>= fun o25 =>
  (ix o25.2.1 x11) >>= fun x26 =>
  f128 x26.1 y9.1 >>= fun r27 =>
  (if (!r27) = true then
  if (l8.length + 1) * 48 ≤ 140737488355328 then
  some (l8 ++ [y9], y9, true)
  else none
  else
  some (l8, y9, x10) : Option ((List K52.den) × K52.den × Bool)) >>= fun z32 =>
  p0 >>= fun i35 =>
  (σ.t47[i35]?) >>= fun o36 =>
  (ix o36.2.1 x11) >>= fun x37 =>
  (if (!(x37.1 == z32.2.1.1)) = true then
  p0 >>= fun i43 =>
  (σ.t47[i43]?) >>= fun o44 =>
  (ix o44.2.1 x11) >>= fun x45 =>
  if (z32.1.length + 1) * 48 ≤ 140737488355328 then
  some (z32.1 ++ [x45], z32.2.1)
  else none
  else
  some (z32.1, z32.2.1) : Option ((List K52.den) × K52.den)) >>= fun z41 =>
  f103_l0 p0 σ z41.1 z41.2 z32.2.2 (IntKind.wrap .i64 (x11 + 1))
  else
  p0 >>= fun i53 =>
  (σ.t47[i53]?) >>= fun o54 =>
  (ix o54.2.1 x11) >>= fun x55 =>
  (if (!(x55.1 == y9.1)) = true then
  p0 >>= fun i61 =>
  (σ.t47[i61]?) >>= fun o62 =>
  (ix o62.2.1 x11) >>= fun x63 =>
  if (l8.length + 1) * 48 ≤ 140737488355328 then
  some (l8 ++ [x63], y9)
  else none
  else
  some (l8, y9) : Option ((List K52.den) × K52.den)) >>= fun z59 =>
  f103_l0 p0 σ z59.1 z59.2 x10 (IntKind.wrap .i64 (x11 + 1))
  else
  some ((l8, y9, x10, x11))
  partial_fixpoint

def f103 (p0 : Option Nat) (p1 : K52.den) (σ : St) : Option (Unit × St) :=
  f103_l0 p0 σ [] p1 false 0 >>= fun z66 =>
  (if (!z66.2.2.1) = true then
  if (z66.1.length + 1) * 48 ≤ 140737488355328 then
  some (z66.1 ++ [z66.2.1], z66.2.1)
  else none
  else
  some (z66.1, z66.2.1) : Option ((List K52.den) × K52.den)) >>= fun z73 =>
  p0 >>= fun i75 =>
  (σ.t47[i75]?) >>= fun o76 =>
  some ((), (σ.set47 i75 (o76.1, z73.1, o76.2.2.1, o76.2.2.2.1, ())))

theorem f103_ok {p0 : Option Nat} {p1 : K52.den} {σ : St} {p : Unit × St} (h : f103 p0 p1 σ = some p) : Spec Try.prog 103 [.kv (.ptr 47) p0, .kv K52 p1] (tabs σ) (.tup []) (tabs p.2) := by
  refine Spec.intro Try.func103 (by kernel_rfl) rfl (by kernel_rfl) (fun a w G0 Ls hE hH hN => ?_)
  have hle : G0.le G0 := Gh.le_refl G0
  unfold f103 at h
  refine wp_seq_k (fun K hK1 => ?_)
  refine wp_region_from ?_
  refine stepBox (e := 52) (d := (some 3)) K52 p1 hE hH (by kernel_rfl) (by kernel_rfl) (fun b2 a w G hl1 hE hH => ?_)
  have hle := Gh.le_trans hle hl1
  refine wpFrom_end (by kernel_rfl) ?_
  refine Exit.then_normal (hK1 _ _ ?_)
  refine wp_seq_k (fun K hK3 => ?_)
  refine wp_region_from ?_
  refine segO 1 [] [(4, .val (.slice none 0 0))] (Os := []) trivial hE hH (by kernel_rfl) (fun a hE => ?_)
  refine wpFrom_end (by kernel_rfl) ?_
  refine Exit.then_normal (hK3 _ _ ?_)
  refine wp_seq_k (fun K hK4 => ?_)
  refine wp_region_from ?_
  refine segO 1 [] [(5, .kv .bool false)] (Os := []) trivial hE hH (by kernel_rfl) (fun a hE => ?_)
  refine wpFrom_end (by kernel_rfl) ?_
  refine Exit.then_normal (hK4 _ _ ?_)
  refine wp_seq_k (fun K hK5 => ?_)
  refine wp_seq_k (fun K hK6 => ?_)
  refine wp_region_from ?_
  refine segO 1 [] [(6, .kv .i 0)] (Os := []) trivial hE hH (by kernel_rfl) (fun a hE => ?_)
  refine wpFrom_end (by kernel_rfl) ?_
  refine Exit.then_normal (hK6 _ _ ?_)
  refine wp_block ?_
  have hE := hE.nilTl 4 K52 (by kernel_rfl)
  have hH := hH.nilTk 52 48 K52
  obtain ⟨z66, hz66, h⟩ := bs h
  refine loop_intro (fun Q12 c hQ hc => ?_)
  have key : ∀ (l8 : List K52.den) (y9 : K52.den) (x10 : Bool) (x11 : Int) (rr : (List K52.den) × K52.den × Bool × Int), f103_l0 p0 σ l8 y9 x10 x11 = some rr → ∀ (a : Act) (w : World) (G : Gh) (v7 : Value), G0.le G → EnvR G 67 a [(0, .kv (.ptr 47) p0), (3, .val (.pointer (some ⟨b2, 0, none⟩))), (4, .tl v7 K52 l8), (5, .kv .bool x10), (6, .kv .i x11)] → Holds w G (tabs σ) (LS.tk v7 52 48 K52 l8 :: LS.box b2 K52 y9 :: Ls) → (∀ z67 : (List K52.den) × K52.den × Bool × Int, rr = z67 → ∀ (a : Act) (w : World) (G : Gh) (v7 : Value), G0.le G → EnvR G 67 a [(0, .kv (.ptr 47) p0), (3, .val (.pointer (some ⟨b2, 0, none⟩))), (4, .tl v7 K52 z67.1), (5, .kv .bool z67.2.2.1), (6, .kv .i z67.2.2.2)] → Holds w G (tabs σ) (LS.tk v7 52 48 K52 z67.1 :: LS.box b2 K52 z67.2.1 :: Ls) → Q12 (.exit 0) a w) → Rnd Try.prog c Q12 a w := by
    refine f103_l0.partial_correctness p0 σ _ ?_
    intro self ih15 l8 y9 x10 x11 rr h a w G v7 hle hE hH hx13
    refine rnd_step' hc ?_
    refine wp_seq_k (fun K hK16 => ?_)
    refine wp_seq_k (fun K hK17 => ?_)
    refine wp_region_from ?_
    obtain ⟨i18, hi18, h⟩ := bs h
    obtain ⟨o19, ho19, h⟩ := bs h
    refine segO 7 [.pt i18, .ob fs47 o19] [(13, .kv .bool (decide (x11 < (o19.2.1.length : Int))))] (Os := [_, _]) ⟨hi18, (ob47 (s := σ) ho19), trivial⟩ hE hH (by kernel_rfl) (fun a hE => ?_)
    refine wpFrom_end (by kernel_rfl) ?_
    refine Exit.then_normal (hK17 _ _ ?_)
    refine condE (b := decide (x11 < (o19.2.1.length : Int))) hE (by kernel_rfl) (fun hc => ?_) (fun hc => ?_)
    · replace h := ifT hc h
      refine wp_skip ?_
      refine Exit.then_normal (hK16 _ _ ?_)
      refine wp_seq_k (fun K hK20 => ?_)
      refine wp_block ?_
      refine wp_seq_k (fun K hK21 => ?_)
      refine wp_seq_k (fun K hK22 => ?_)
      by_cases hc : (!x10) = true
      · replace h := ifT hc h
        have c23 := hc
        obtain ⟨i24, hi24, h⟩ := bs h
        obtain ⟨o25, ho25, h⟩ := bs h
        obtain ⟨x26, hx26, h⟩ := bs h
        refine region_par 13 [] [(0, 0), (0, 0), (0, 0), (0, 0), (0, 0), (0, 0), (0, 0), (0, 0), (0, 0), (0, 0), (0, 0), (0, 0), (0, 0)] [.kv .bool x10, .kv .bool (!x10), .kv .bool true, .kv (.ptr 47) p0, .kv (.ptr 47) (some i24), .fldA 47 i24 1, .kv (.list K52) o25.2.1, .kv .i x11, .elA K52 x26 0, .elA K52 x26 0, .kv .str x26.1, .val (.pointer (some ⟨b2, 0, none⟩)), .kv .str y9.1] (fun _ => tabs σ) (fun _ => LS.tk v7 52 48 K52 l8 :: LS.box b2 K52 y9 :: Ls) (by kernel_rfl) (by kernel_rfl) hE hH
                ⟨⟨⟨⟨⟨⟨⟨⟨⟨⟨⟨⟨⟨trivial,
                anyk (fun k => obR [] (Os := []) trivial (by kernel_rfl) (by kernel_rfl))⟩,
                anyk (fun k => obR [] (Os := []) trivial (by kernel_rfl) (by kernel_rfl))⟩,
                anyk (fun k => obRe [] (Os := []) trivial (by kernel_rfl) (by kernel_rfl) (eb2 c23 rfl))⟩,
                anyk (fun k => obR [] (Os := []) trivial (by kernel_rfl) (by kernel_rfl))⟩,
                anyk (fun k => obR [.pt i24] (Os := [_]) ⟨hi24, trivial⟩ (by kernel_rfl) (by kernel_rfl))⟩,
                anyk (fun k => obR [] (Os := []) trivial (by kernel_rfl) (by kernel_rfl))⟩,
                anyk (fun k => obR [.ob fs47 o25] (Os := [_]) ⟨(ob47 (s := σ) ho25), trivial⟩ (by kernel_rfl) (by kernel_rfl))⟩,
                anyk (fun k => obR [] (Os := []) trivial (by kernel_rfl) (by kernel_rfl))⟩,
                anyk (fun k => obR [.ix K52 x26] (Os := [_]) ⟨(IxAt.of (k := K52) hx26), trivial⟩ (by kernel_rfl) (by kernel_rfl))⟩,
                anyk (fun k => obR [] (Os := []) trivial (by kernel_rfl) (by kernel_rfl))⟩,
                anyk (fun k => obR [] (Os := []) trivial (by kernel_rfl) (by kernel_rfl))⟩,
                anyk (fun k => obR [] (Os := []) trivial (by kernel_rfl) (by kernel_rfl))⟩,
                anyk (fun k => obR [.bx 1 K52 y9] (Os := [_]) ⟨(rfl : (LS.tk v7 52 48 K52 l8 :: LS.box b2 K52 y9 :: Ls)[1]? = some (LS.box b2 K52 y9)), trivial⟩ (by kernel_rfl) (by kernel_rfl))⟩ (fun a w G hl2 hE hH => ?_)
        have hle := Gh.le_trans hle hl2
        obtain ⟨r27, hr27, h⟩ := bs h
        refine stepCall (d := (some 29)) (f128_ok hr27) hE hH (NoHole.cons (fun _ _ _ => rfl) (NoHole.cons (fun _ _ _ => rfl) hN)) (by kernel_rfl) (by kernel_rfl) trivial (fun a w G hl3 hE hH => ?_)
        have hle := Gh.le_trans hle hl3
        refine segO 2 [] [(31, .kv .bool (!r27))] (Os := []) trivial hE hH (by kernel_rfl) (fun a hE => ?_)
        refine wpFrom_end (by kernel_rfl) ?_
        refine Exit.then_normal (hK22 _ _ ?_)
        obtain ⟨z32, hz32, h⟩ := bs h
        refine join_intro (I := fun a w => ∃ (G : Gh) (v28 : Value), G0.le G ∧ EnvR G 67 a [(0, .kv (.ptr 47) p0), (3, .val (.pointer (some ⟨b2, 0, none⟩))), (4, .tl v28 K52 z32.1), (5, .kv .bool z32.2.2), (6, .kv .i x11)] ∧ Holds w G (tabs σ) (LS.tk v28 52 48 K52 z32.1 :: LS.box b2 K52 z32.2.1 :: Ls)) trivial ?_ ?_
        · intro a w hI
          obtain ⟨G, v28, hle, hE, hH⟩ := hI
          refine Exit.then_normal (hK21 _ _ ?_)
          refine wp_seq_k (fun K hK34 => ?_)
          obtain ⟨i35, hi35, h⟩ := bs h
          obtain ⟨o36, ho36, h⟩ := bs h
          obtain ⟨x37, hx37, h⟩ := bs h
          refine region_par 10 [] [(0, 0), (0, 0), (0, 0), (0, 0), (0, 0), (0, 0), (0, 0), (0, 0), (0, 0), (0, 0)] [.kv (.ptr 47) p0, .kv (.ptr 47) (some i35), .fldA 47 i35 1, .kv (.list K52) o36.2.1, .kv .i x11, .elA K52 x37 0, .elA K52 x37 0, .kv .str x37.1, .val (.pointer (some ⟨b2, 0, none⟩)), .kv .str z32.2.1.1] (fun _ => tabs σ) (fun _ => LS.tk v28 52 48 K52 z32.1 :: LS.box b2 K52 z32.2.1 :: Ls) (by kernel_rfl) (by kernel_rfl) hE hH
                  ⟨⟨⟨⟨⟨⟨⟨⟨⟨⟨trivial,
                  anyk (fun k => obR [] (Os := []) trivial (by kernel_rfl) (by kernel_rfl))⟩,
                  anyk (fun k => obR [.pt i35] (Os := [_]) ⟨hi35, trivial⟩ (by kernel_rfl) (by kernel_rfl))⟩,
                  anyk (fun k => obR [] (Os := []) trivial (by kernel_rfl) (by kernel_rfl))⟩,
                  anyk (fun k => obR [.ob fs47 o36] (Os := [_]) ⟨(ob47 (s := σ) ho36), trivial⟩ (by kernel_rfl) (by kernel_rfl))⟩,
                  anyk (fun k => obR [] (Os := []) trivial (by kernel_rfl) (by kernel_rfl))⟩,
                  anyk (fun k => obR [.ix K52 x37] (Os := [_]) ⟨(IxAt.of (k := K52) hx37), trivial⟩ (by kernel_rfl) (by kernel_rfl))⟩,
                  anyk (fun k => obR [] (Os := []) trivial (by kernel_rfl) (by kernel_rfl))⟩,
                  anyk (fun k => obR [] (Os := []) trivial (by kernel_rfl) (by kernel_rfl))⟩,
                  anyk (fun k => obR [] (Os := []) trivial (by kernel_rfl) (by kernel_rfl))⟩,
                  anyk (fun k => obR [.bx 1 K52 z32.2.1] (Os := [_]) ⟨(rfl : (LS.tk v28 52 48 K52 z32.1 :: LS.box b2 K52 z32.2.1 :: Ls)[1]? = some (LS.box b2 K52 z32.2.1)), trivial⟩ (by kernel_rfl) (by kernel_rfl))⟩ (fun a w G hl5 hE hH => ?_)
          have hle := Gh.le_trans hle hl5
          refine segO 1 [] [(46, .kv .bool (!(x37.1 == z32.2.1.1)))] (Os := []) trivial hE hH (by kernel_rfl) (fun a hE => ?_)
          refine wpFrom_end (by kernel_rfl) ?_
          refine Exit.then_normal (hK34 _ _ ?_)
          obtain ⟨z41, hz41, h⟩ := bs h
          refine join_intro (I := fun a w => ∃ (G : Gh) (v38 : Value), G0.le G ∧ EnvR G 67 a [(0, .kv (.ptr 47) p0), (3, .val (.pointer (some ⟨b2, 0, none⟩))), (4, .tl v38 K52 z41.1), (5, .kv .bool z32.2.2), (6, .kv .i x11)] ∧ Holds w G (tabs σ) (LS.tk v38 52 48 K52 z41.1 :: LS.box b2 K52 z41.2 :: Ls)) trivial ?_ ?_
          · intro a w hI
            obtain ⟨G, v38, hle, hE, hH⟩ := hI
            refine Exit.in_normal ?_
            refine Exit.then_normal (hK20 _ _ ?_)
            refine wp_region_from ?_
            refine segO 3 [] [(6, .kv .i (IntKind.wrap .i64 (x11 + 1)))] (Os := []) trivial hE hH (by kernel_rfl) (fun a hE => ?_)
            refine wpFrom_end (by kernel_rfl) ?_
            refine Exit.then_normal ?_
            exact ih15 _ _ _ _ _ h _ _ _ v38 hle (hE.subC (by kernel_rfl)) hH hx13
          · intro KK hKK ho
            have hj42 : ∀ (a : Act) (w : World) (G : Gh) (v38 : Value), G0.le G → EnvR G 67 a [(0, .kv (.ptr 47) p0), (3, .val (.pointer (some ⟨b2, 0, none⟩))), (4, .tl v38 K52 z41.1), (5, .kv .bool z32.2.2), (6, .kv .i x11)] → Holds w G (tabs σ) (LS.tk v38 52 48 K52 z41.1 :: LS.box b2 K52 z41.2 :: Ls) → KK .normal a w := fun a w G v38 h1 h2 h3 => hKK a w ⟨G, v38, h1, h2, h3⟩
            replace h := hz41
            refine condE (b := !(x37.1 == z32.2.1.1)) hE (by kernel_rfl) (fun hc => ?_) (fun hc => ?_)
            · replace h := ifT hc h
              refine wp_region_from ?_
              obtain ⟨i43, hi43, h⟩ := bs h
              obtain ⟨o44, ho44, h⟩ := bs h
              obtain ⟨x45, hx45, h⟩ := bs h
              refine segO 8 [.pt i43, .ob fs47 o44, .ix K52 x45] [(47, .tl v28 K52 z32.1), (54, .kv K52 x45)] (Os := [_, _, _]) ⟨hi43, (ob47 (s := σ) ho44), (IxAt.of (k := K52) hx45), trivial⟩ hE hH (by kernel_rfl) (fun a hE => ?_)
              refine stepBuildS (d := (some 55)) K52 [x45] hE hH (by kernel_rfl) (by kernel_rfl) (fun a w G hl7 hE hH => ?_)
              have hle := Gh.le_trans hle hl7
              obtain ⟨q46, h⟩ := gd h
              refine stepApp (e := 0) (bt := 48) (ys := [x45]) (e' := 52) (d := (some 56)) 0 hE hH (by kernel_rfl) rfl (by kernel_rfl) q46 (fun v47 a w G hl8 hE hH => ?_)
              have hle := Gh.le_trans hle hl8
              refine segO 1 [] [(4, .tl v47 K52 (z32.1 ++ [x45]))] (Os := []) trivial hE hH (by kernel_rfl) (fun a hE => ?_)
              refine wpFrom_end (by kernel_rfl) ?_
              cases h
              exact hj42 _ _ _ v47 hle (hE.subC (by kernel_rfl)) hH
            · replace h := ifF hc h
              refine wp_skip ?_
              cases h
              exact hj42 _ _ _ v28 hle (hE.subC (by kernel_rfl)) hH
        · intro KK hKK ho
          have hj33 : ∀ (a : Act) (w : World) (G : Gh) (v28 : Value), G0.le G → EnvR G 67 a [(0, .kv (.ptr 47) p0), (3, .val (.pointer (some ⟨b2, 0, none⟩))), (4, .tl v28 K52 z32.1), (5, .kv .bool z32.2.2), (6, .kv .i x11)] → Holds w G (tabs σ) (LS.tk v28 52 48 K52 z32.1 :: LS.box b2 K52 z32.2.1 :: Ls) → KK .normal a w := fun a w G v28 h1 h2 h3 => hKK a w ⟨G, v28, h1, h2, h3⟩
          replace h := hz32
          refine condE (b := !r27) hE (by kernel_rfl) (fun hc => ?_) (fun hc => ?_)
          · replace h := ifT hc h
            refine wp_seq_k (fun K hK48 => ?_)
            refine wp_region_from ?_
            refine segO 2 [.bx 1 K52 y9] [(32, .tl v7 K52 l8), (33, .kv K52 y9)] (Os := [_]) ⟨(rfl : (LS.tk v7 52 48 K52 l8 :: LS.box b2 K52 y9 :: Ls)[1]? = some (LS.box b2 K52 y9)), trivial⟩ hE hH (by kernel_rfl) (fun a hE => ?_)
            refine stepBuildS (d := (some 34)) K52 [y9] hE hH (by kernel_rfl) (by kernel_rfl) (fun a w G hl9 hE hH => ?_)
            have hle := Gh.le_trans hle hl9
            obtain ⟨q49, h⟩ := gd h
            refine stepApp (e := 0) (bt := 48) (ys := [y9]) (e' := 52) (d := (some 35)) 0 hE hH (by kernel_rfl) rfl (by kernel_rfl) q49 (fun v50 a w G hl10 hE hH => ?_)
            have hle := Gh.le_trans hle hl10
            refine segO 1 [] [(4, .tl v50 K52 (l8 ++ [y9]))] (Os := []) trivial hE hH (by kernel_rfl) (fun a hE => ?_)
            refine wpFrom_end (by kernel_rfl) ?_
            refine Exit.then_normal (hK48 _ _ ?_)
            refine wp_region_from ?_
            refine segO 1 [] [(5, .kv .bool true)] (Os := []) trivial hE hH (by kernel_rfl) (fun a hE => ?_)
            refine wpFrom_end (by kernel_rfl) ?_
            cases h
            exact hj33 _ _ _ v50 hle (hE.subC (by kernel_rfl)) hH
          · replace h := ifF hc h
            refine wp_skip ?_
            cases h
            exact hj33 _ _ _ v7 hle (hE.subC (by kernel_rfl)) hH
      · replace h := ifN hc h
        have c51 := hc
        refine region_par 13 [] [(0, 0), (0, 0), (0, 0), (0, 0), (0, 0), (0, 0), (0, 0), (0, 0), (0, 0), (0, 0), (0, 0), (0, 0), (0, 0)] [.kv .bool x10, .kv .bool (!x10), .kv .bool false, .undef, .undef, .undef, .undef, .undef, .undef, .undef, .undef, .undef, .undef] (fun _ => tabs σ) (fun _ => LS.tk v7 52 48 K52 l8 :: LS.box b2 K52 y9 :: Ls) (by kernel_rfl) (by kernel_rfl) hE hH
                ⟨⟨⟨⟨⟨⟨⟨⟨⟨⟨⟨⟨⟨trivial,
                anyk (fun k => obR [] (Os := []) trivial (by kernel_rfl) (by kernel_rfl))⟩,
                anyk (fun k => obR [] (Os := []) trivial (by kernel_rfl) (by kernel_rfl))⟩,
                anyk (fun k => obRe [] (Os := []) trivial (by kernel_rfl) (by kernel_rfl) (eb2 (bf c51) rfl))⟩,
                anyk (fun k => obR [] (Os := []) trivial (by kernel_rfl) (by kernel_rfl))⟩,
                anyk (fun k => obR [] (Os := []) trivial (by kernel_rfl) (by kernel_rfl))⟩,
                anyk (fun k => obR [] (Os := []) trivial (by kernel_rfl) (by kernel_rfl))⟩,
                anyk (fun k => obR [] (Os := []) trivial (by kernel_rfl) (by kernel_rfl))⟩,
                anyk (fun k => obR [] (Os := []) trivial (by kernel_rfl) (by kernel_rfl))⟩,
                anyk (fun k => obR [] (Os := []) trivial (by kernel_rfl) (by kernel_rfl))⟩,
                anyk (fun k => obR [] (Os := []) trivial (by kernel_rfl) (by kernel_rfl))⟩,
                anyk (fun k => obR [] (Os := []) trivial (by kernel_rfl) (by kernel_rfl))⟩,
                anyk (fun k => obR [] (Os := []) trivial (by kernel_rfl) (by kernel_rfl))⟩,
                anyk (fun k => obR [] (Os := []) trivial (by kernel_rfl) (by kernel_rfl))⟩ (fun a w G hl11 hE hH => ?_)
        have hle := Gh.le_trans hle hl11
        refine segO 3 [] [(29, .undef), (31, .kv .bool false)] (Os := []) trivial hE hH (by kernel_rfl) (fun a hE => ?_)
        refine wpFrom_end (by kernel_rfl) ?_
        refine Exit.then_normal (hK22 _ _ ?_)
        refine condF hE (by kernel_rfl) rfl ?_
        refine wp_skip ?_
        refine Exit.then_normal (hK21 _ _ ?_)
        refine wp_seq_k (fun K hK52 => ?_)
        obtain ⟨i53, hi53, h⟩ := bs h
        obtain ⟨o54, ho54, h⟩ := bs h
        obtain ⟨x55, hx55, h⟩ := bs h
        refine region_par 10 [] [(0, 0), (0, 0), (0, 0), (0, 0), (0, 0), (0, 0), (0, 0), (0, 0), (0, 0), (0, 0)] [.kv (.ptr 47) p0, .kv (.ptr 47) (some i53), .fldA 47 i53 1, .kv (.list K52) o54.2.1, .kv .i x11, .elA K52 x55 0, .elA K52 x55 0, .kv .str x55.1, .val (.pointer (some ⟨b2, 0, none⟩)), .kv .str y9.1] (fun _ => tabs σ) (fun _ => LS.tk v7 52 48 K52 l8 :: LS.box b2 K52 y9 :: Ls) (by kernel_rfl) (by kernel_rfl) hE hH
                ⟨⟨⟨⟨⟨⟨⟨⟨⟨⟨trivial,
                anyk (fun k => obR [] (Os := []) trivial (by kernel_rfl) (by kernel_rfl))⟩,
                anyk (fun k => obR [.pt i53] (Os := [_]) ⟨hi53, trivial⟩ (by kernel_rfl) (by kernel_rfl))⟩,
                anyk (fun k => obR [] (Os := []) trivial (by kernel_rfl) (by kernel_rfl))⟩,
                anyk (fun k => obR [.ob fs47 o54] (Os := [_]) ⟨(ob47 (s := σ) ho54), trivial⟩ (by kernel_rfl) (by kernel_rfl))⟩,
                anyk (fun k => obR [] (Os := []) trivial (by kernel_rfl) (by kernel_rfl))⟩,
                anyk (fun k => obR [.ix K52 x55] (Os := [_]) ⟨(IxAt.of (k := K52) hx55), trivial⟩ (by kernel_rfl) (by kernel_rfl))⟩,
                anyk (fun k => obR [] (Os := []) trivial (by kernel_rfl) (by kernel_rfl))⟩,
                anyk (fun k => obR [] (Os := []) trivial (by kernel_rfl) (by kernel_rfl))⟩,
                anyk (fun k => obR [] (Os := []) trivial (by kernel_rfl) (by kernel_rfl))⟩,
                anyk (fun k => obR [.bx 1 K52 y9] (Os := [_]) ⟨(rfl : (LS.tk v7 52 48 K52 l8 :: LS.box b2 K52 y9 :: Ls)[1]? = some (LS.box b2 K52 y9)), trivial⟩ (by kernel_rfl) (by kernel_rfl))⟩ (fun a w G hl12 hE hH => ?_)
        have hle := Gh.le_trans hle hl12
        refine segO 1 [] [(46, .kv .bool (!(x55.1 == y9.1)))] (Os := []) trivial hE hH (by kernel_rfl) (fun a hE => ?_)
        refine wpFrom_end (by kernel_rfl) ?_
        refine Exit.then_normal (hK52 _ _ ?_)
        obtain ⟨z59, hz59, h⟩ := bs h
        refine join_intro (I := fun a w => ∃ (G : Gh) (v56 : Value), G0.le G ∧ EnvR G 67 a [(0, .kv (.ptr 47) p0), (3, .val (.pointer (some ⟨b2, 0, none⟩))), (4, .tl v56 K52 z59.1), (5, .kv .bool x10), (6, .kv .i x11)] ∧ Holds w G (tabs σ) (LS.tk v56 52 48 K52 z59.1 :: LS.box b2 K52 z59.2 :: Ls)) trivial ?_ ?_
        · intro a w hI
          obtain ⟨G, v56, hle, hE, hH⟩ := hI
          refine Exit.in_normal ?_
          refine Exit.then_normal (hK20 _ _ ?_)
          refine wp_region_from ?_
          refine segO 3 [] [(6, .kv .i (IntKind.wrap .i64 (x11 + 1)))] (Os := []) trivial hE hH (by kernel_rfl) (fun a hE => ?_)
          refine wpFrom_end (by kernel_rfl) ?_
          refine Exit.then_normal ?_
          exact ih15 _ _ _ _ _ h _ _ _ v56 hle (hE.subC (by kernel_rfl)) hH hx13
        · intro KK hKK ho
          have hj60 : ∀ (a : Act) (w : World) (G : Gh) (v56 : Value), G0.le G → EnvR G 67 a [(0, .kv (.ptr 47) p0), (3, .val (.pointer (some ⟨b2, 0, none⟩))), (4, .tl v56 K52 z59.1), (5, .kv .bool x10), (6, .kv .i x11)] → Holds w G (tabs σ) (LS.tk v56 52 48 K52 z59.1 :: LS.box b2 K52 z59.2 :: Ls) → KK .normal a w := fun a w G v56 h1 h2 h3 => hKK a w ⟨G, v56, h1, h2, h3⟩
          replace h := hz59
          refine condE (b := !(x55.1 == y9.1)) hE (by kernel_rfl) (fun hc => ?_) (fun hc => ?_)
          · replace h := ifT hc h
            refine wp_region_from ?_
            obtain ⟨i61, hi61, h⟩ := bs h
            obtain ⟨o62, ho62, h⟩ := bs h
            obtain ⟨x63, hx63, h⟩ := bs h
            refine segO 8 [.pt i61, .ob fs47 o62, .ix K52 x63] [(47, .tl v7 K52 l8), (54, .kv K52 x63)] (Os := [_, _, _]) ⟨hi61, (ob47 (s := σ) ho62), (IxAt.of (k := K52) hx63), trivial⟩ hE hH (by kernel_rfl) (fun a hE => ?_)
            refine stepBuildS (d := (some 55)) K52 [x63] hE hH (by kernel_rfl) (by kernel_rfl) (fun a w G hl14 hE hH => ?_)
            have hle := Gh.le_trans hle hl14
            obtain ⟨q64, h⟩ := gd h
            refine stepApp (e := 0) (bt := 48) (ys := [x63]) (e' := 52) (d := (some 56)) 0 hE hH (by kernel_rfl) rfl (by kernel_rfl) q64 (fun v65 a w G hl15 hE hH => ?_)
            have hle := Gh.le_trans hle hl15
            refine segO 1 [] [(4, .tl v65 K52 (l8 ++ [x63]))] (Os := []) trivial hE hH (by kernel_rfl) (fun a hE => ?_)
            refine wpFrom_end (by kernel_rfl) ?_
            cases h
            exact hj60 _ _ _ v65 hle (hE.subC (by kernel_rfl)) hH
          · replace h := ifF hc h
            refine wp_skip ?_
            cases h
            exact hj60 _ _ _ v7 hle (hE.subC (by kernel_rfl)) hH
    · replace h := ifF hc h
      refine wp_exit ?_
      refine Exit.then_exit ?_
      refine Exit.then_exit ?_
      cases h
      exact hx13 _ rfl _ _ _ v7 hle (hE.subC (by kernel_rfl)) hH
  refine key _ _ _ _ _ hz66 _ _ _ (.slice none 0 0) hle (hE.subC (by kernel_rfl)) hH ?_
  · intro z67 hz a w G v7 hle hE hH
    subst hz
    rw [hQ]
    refine Exit.in_eq ?_
    refine Exit.then_normal (hK5 _ _ ?_)
    refine wp_seq_k (fun K hK68 => ?_)
    refine wp_seq_k (fun K hK69 => ?_)
    refine wp_region_from ?_
    refine segO 2 [] [(58, .kv .bool (!z66.2.2.1))] (Os := []) trivial hE hH (by kernel_rfl) (fun a hE => ?_)
    refine wpFrom_end (by kernel_rfl) ?_
    refine Exit.then_normal (hK69 _ _ ?_)
    obtain ⟨z73, hz73, h⟩ := bs h
    refine join_intro (I := fun a w => ∃ (G : Gh) (v70 : Value), G0.le G ∧ EnvR G 67 a [(0, .kv (.ptr 47) p0), (4, .tl v70 K52 z73.1)] ∧ Holds w G (tabs σ) (LS.tk v70 52 48 K52 z73.1 :: LS.box b2 K52 z73.2 :: Ls)) trivial ?_ ?_
    · intro a w hI
      obtain ⟨G, v70, hle, hE, hH⟩ := hI
      refine Exit.then_normal (hK68 _ _ ?_)
      refine wp_region_from ?_
      obtain ⟨i75, hi75, h⟩ := bs h
      refine segO 4 [.pt i75] [(64, .tl v70 K52 z73.1), (66, .fldA 47 i75 1)] (Os := [_]) ⟨hi75, trivial⟩ hE hH (by kernel_rfl) (fun a hE => ?_)
      obtain ⟨o76, ho76, h⟩ := bs h
      refine stepStO (t := 47) (j := i75) (off := 1) (.list K52) z73.1 (x' := (o76.1, z73.1, o76.2.2.1, o76.2.2.2.1, ())) hE hH (by kernel_rfl) (ob47 (s := σ) ho76) (by kernel_rfl) (upd47 (s := σ)) (fun w G hl17 hE hH => ?_)
      have hle := Gh.le_trans hle hl17
      refine wpFrom_end (by kernel_rfl) ?_
      have hH := hH.drop (fun _ _ _ => rfl)
      have hH := hH.drop (fun _ _ _ => rfl)
      cases h
      exact end0 rfl hE hle hH
    · intro KK hKK ho
      have hj74 : ∀ (a : Act) (w : World) (G : Gh) (v70 : Value), G0.le G → EnvR G 67 a [(0, .kv (.ptr 47) p0), (4, .tl v70 K52 z73.1)] → Holds w G (tabs σ) (LS.tk v70 52 48 K52 z73.1 :: LS.box b2 K52 z73.2 :: Ls) → KK .normal a w := fun a w G v70 h1 h2 h3 => hKK a w ⟨G, v70, h1, h2, h3⟩
      replace h := hz73
      refine condE (b := !z66.2.2.1) hE (by kernel_rfl) (fun hc => ?_) (fun hc => ?_)
      · replace h := ifT hc h
        refine wp_region_from ?_
        refine segO 2 [.bx 1 K52 z66.2.1] [(59, .tl v7 K52 z66.1), (60, .kv K52 z66.2.1)] (Os := [_]) ⟨(rfl : (LS.tk v7 52 48 K52 z66.1 :: LS.box b2 K52 z66.2.1 :: Ls)[1]? = some (LS.box b2 K52 z66.2.1)), trivial⟩ hE hH (by kernel_rfl) (fun a hE => ?_)
        refine stepBuildS (d := (some 61)) K52 [z66.2.1] hE hH (by kernel_rfl) (by kernel_rfl) (fun a w G hl18 hE hH => ?_)
        have hle := Gh.le_trans hle hl18
        obtain ⟨q77, h⟩ := gd h
        refine stepApp (e := 0) (bt := 48) (ys := [z66.2.1]) (e' := 52) (d := (some 62)) 0 hE hH (by kernel_rfl) rfl (by kernel_rfl) q77 (fun v78 a w G hl19 hE hH => ?_)
        have hle := Gh.le_trans hle hl19
        refine segO 1 [] [(4, .tl v78 K52 (z66.1 ++ [z66.2.1]))] (Os := []) trivial hE hH (by kernel_rfl) (fun a hE => ?_)
        refine wpFrom_end (by kernel_rfl) ?_
        cases h
        exact hj74 _ _ _ v78 hle (hE.subC (by kernel_rfl)) hH
      · replace h := ifF hc h
        refine wp_skip ?_
        cases h
        exact hj74 _ _ _ v7 hle (hE.subC (by kernel_rfl)) hH

def f106_l0 (p0 : Option Nat) (p1 : List UInt8) (σ : St) (l5 : List K52.den) (x6 : Int) : Option ((List K52.den) × Int) :=
  p0 >>= fun i13 =>
  (σ.t47[i13]?) >>= fun o14 =>
  if (decide (x6 < (o14.2.1.length : Int))) = true then
  p0 >>= fun i17 =>
  (σ.t47[i17]?) >>= fun o18 =>
  (ix o18.2.1 x6) >>= fun x19 =>
  (if (!(x19.1 == p1)) = true then
  p0 >>= fun i24 =>
  (σ.t47[i24]?) >>= fun o25 =>
  (ix o25.2.1 x6) >>= fun x26 =>
  if (l5.length + 1) * 48 ≤ 140737488355328 then
  some (l5 ++ [x26])
  else none
  else
  some l5 : Option (List K52.den)) >>= fun z22 =>
  f106_l0 p0 p1 σ z22 (IntKind.wrap .i64 (x6 + 1))
  else
  some ((l5, x6))
  partial_fixpoint

def f106 (p0 : Option Nat) (p1 : List UInt8) (σ : St) : Option (Unit × St) :=
  f106_l0 p0 p1 σ [] 0 >>= fun z29 =>
  p0 >>= fun i31 =>
  (σ.t47[i31]?) >>= fun o32 =>
  some ((), (σ.set47 i31 (o32.1, z29.1, o32.2.2.1, o32.2.2.2.1, ())))

theorem f106_ok {p0 : Option Nat} {p1 : List UInt8} {σ : St} {p : Unit × St} (h : f106 p0 p1 σ = some p) : Spec Try.prog 106 [.kv (.ptr 47) p0, .kv .str p1] (tabs σ) (.tup []) (tabs p.2) := by
  refine Spec.intro Try.func106 (by kernel_rfl) rfl (by kernel_rfl) (fun a w G0 Ls hE hH hN => ?_)
  have hle : G0.le G0 := Gh.le_refl G0
  unfold f106 at h
  refine wp_seq_k (fun K hK1 => ?_)
  refine wp_region_from ?_
  refine segO 1 [] [(4, .val (.slice none 0 0))] (Os := []) trivial hE hH (by kernel_rfl) (fun a hE => ?_)
  refine wpFrom_end (by kernel_rfl) ?_
  refine Exit.then_normal (hK1 _ _ ?_)
  refine wp_seq_k (fun K hK2 => ?_)
  refine wp_seq_k (fun K hK3 => ?_)
  refine wp_region_from ?_
  refine segO 1 [] [(5, .kv .i 0)] (Os := []) trivial hE hH (by kernel_rfl) (fun a hE => ?_)
  refine wpFrom_end (by kernel_rfl) ?_
  refine Exit.then_normal (hK3 _ _ ?_)
  refine wp_block ?_
  have hE := hE.nilTl 4 K52 (by kernel_rfl)
  have hH := hH.nilTk 52 48 K52
  obtain ⟨z29, hz29, h⟩ := bs h
  refine loop_intro (fun Q7 c hQ hc => ?_)
  have key : ∀ (l5 : List K52.den) (x6 : Int) (rr : (List K52.den) × Int), f106_l0 p0 p1 σ l5 x6 = some rr → ∀ (a : Act) (w : World) (G : Gh) (v4 : Value), G0.le G → EnvR G 39 a [(0, .kv (.ptr 47) p0), (1, .kv .str p1), (4, .tl v4 K52 l5), (5, .kv .i x6)] → Holds w G (tabs σ) (LS.tk v4 52 48 K52 l5 :: Ls) → (∀ z30 : (List K52.den) × Int, rr = z30 → ∀ (a : Act) (w : World) (G : Gh) (v4 : Value), G0.le G → EnvR G 39 a [(0, .kv (.ptr 47) p0), (1, .kv .str p1), (4, .tl v4 K52 z30.1), (5, .kv .i z30.2)] → Holds w G (tabs σ) (LS.tk v4 52 48 K52 z30.1 :: Ls) → Q7 (.exit 0) a w) → Rnd Try.prog c Q7 a w := by
    refine f106_l0.partial_correctness p0 p1 σ _ ?_
    intro self ih10 l5 x6 rr h a w G v4 hle hE hH hx8
    refine rnd_step' hc ?_
    refine wp_seq_k (fun K hK11 => ?_)
    refine wp_seq_k (fun K hK12 => ?_)
    refine wp_region_from ?_
    obtain ⟨i13, hi13, h⟩ := bs h
    obtain ⟨o14, ho14, h⟩ := bs h
    refine segO 7 [.pt i13, .ob fs47 o14] [(12, .kv .bool (decide (x6 < (o14.2.1.length : Int))))] (Os := [_, _]) ⟨hi13, (ob47 (s := σ) ho14), trivial⟩ hE hH (by kernel_rfl) (fun a hE => ?_)
    refine wpFrom_end (by kernel_rfl) ?_
    refine Exit.then_normal (hK12 _ _ ?_)
    refine condE (b := decide (x6 < (o14.2.1.length : Int))) hE (by kernel_rfl) (fun hc => ?_) (fun hc => ?_)
    · replace h := ifT hc h
      refine wp_skip ?_
      refine Exit.then_normal (hK11 _ _ ?_)
      refine wp_seq_k (fun K hK15 => ?_)
      refine wp_block ?_
      refine wp_seq_k (fun K hK16 => ?_)
      refine wp_region_from ?_
      obtain ⟨i17, hi17, h⟩ := bs h
      obtain ⟨o18, ho18, h⟩ := bs h
      obtain ⟨x19, hx19, h⟩ := bs h
      refine segO 10 [.pt i17, .ob fs47 o18, .ix K52 x19] [(24, .kv .bool (!(x19.1 == p1)))] (Os := [_, _, _]) ⟨hi17, (ob47 (s := σ) ho18), (IxAt.of (k := K52) hx19), trivial⟩ hE hH (by kernel_rfl) (fun a hE => ?_)
      refine wpFrom_end (by kernel_rfl) ?_
      refine Exit.then_normal (hK16 _ _ ?_)
      obtain ⟨z22, hz22, h⟩ := bs h
      refine join_intro (I := fun a w => ∃ (G : Gh) (v20 : Value), G0.le G ∧ EnvR G 39 a [(0, .kv (.ptr 47) p0), (1, .kv .str p1), (4, .tl v20 K52 z22), (5, .kv .i x6)] ∧ Holds w G (tabs σ) (LS.tk v20 52 48 K52 z22 :: Ls)) trivial ?_ ?_
      · intro a w hI
        obtain ⟨G, v20, hle, hE, hH⟩ := hI
        refine Exit.in_normal ?_
        refine Exit.then_normal (hK15 _ _ ?_)
        refine wp_region_from ?_
        refine segO 3 [] [(5, .kv .i (IntKind.wrap .i64 (x6 + 1)))] (Os := []) trivial hE hH (by kernel_rfl) (fun a hE => ?_)
        refine wpFrom_end (by kernel_rfl) ?_
        refine Exit.then_normal ?_
        exact ih10 _ _ _ h _ _ _ v20 hle (hE.subC (by kernel_rfl)) hH hx8
      · intro KK hKK ho
        have hj23 : ∀ (a : Act) (w : World) (G : Gh) (v20 : Value), G0.le G → EnvR G 39 a [(0, .kv (.ptr 47) p0), (1, .kv .str p1), (4, .tl v20 K52 z22), (5, .kv .i x6)] → Holds w G (tabs σ) (LS.tk v20 52 48 K52 z22 :: Ls) → KK .normal a w := fun a w G v20 h1 h2 h3 => hKK a w ⟨G, v20, h1, h2, h3⟩
        replace h := hz22
        refine condE (b := !(x19.1 == p1)) hE (by kernel_rfl) (fun hc => ?_) (fun hc => ?_)
        · replace h := ifT hc h
          refine wp_region_from ?_
          obtain ⟨i24, hi24, h⟩ := bs h
          obtain ⟨o25, ho25, h⟩ := bs h
          obtain ⟨x26, hx26, h⟩ := bs h
          refine segO 8 [.pt i24, .ob fs47 o25, .ix K52 x26] [(25, .tl v4 K52 l5), (32, .kv K52 x26)] (Os := [_, _, _]) ⟨hi24, (ob47 (s := σ) ho25), (IxAt.of (k := K52) hx26), trivial⟩ hE hH (by kernel_rfl) (fun a hE => ?_)
          refine stepBuildS (d := (some 33)) K52 [x26] hE hH (by kernel_rfl) (by kernel_rfl) (fun a w G hl2 hE hH => ?_)
          have hle := Gh.le_trans hle hl2
          obtain ⟨q27, h⟩ := gd h
          refine stepApp (e := 0) (bt := 48) (ys := [x26]) (e' := 52) (d := (some 34)) 0 hE hH (by kernel_rfl) rfl (by kernel_rfl) q27 (fun v28 a w G hl3 hE hH => ?_)
          have hle := Gh.le_trans hle hl3
          refine segO 1 [] [(4, .tl v28 K52 (l5 ++ [x26]))] (Os := []) trivial hE hH (by kernel_rfl) (fun a hE => ?_)
          refine wpFrom_end (by kernel_rfl) ?_
          cases h
          exact hj23 _ _ _ v28 hle (hE.subC (by kernel_rfl)) hH
        · replace h := ifF hc h
          refine wp_skip ?_
          cases h
          exact hj23 _ _ _ v4 hle (hE.subC (by kernel_rfl)) hH
    · replace h := ifF hc h
      refine wp_exit ?_
      refine Exit.then_exit ?_
      refine Exit.then_exit ?_
      cases h
      exact hx8 _ rfl _ _ _ v4 hle (hE.subC (by kernel_rfl)) hH
  refine key _ _ _ hz29 _ _ _ (.slice none 0 0) hle (hE.subC (by kernel_rfl)) hH ?_
  · intro z30 hz a w G v4 hle hE hH
    subst hz
    rw [hQ]
    refine Exit.in_eq ?_
    refine Exit.then_normal (hK2 _ _ ?_)
    refine wp_region_from ?_
    obtain ⟨i31, hi31, h⟩ := bs h
    refine segO 4 [.pt i31] [(36, .tl v4 K52 z29.1), (38, .fldA 47 i31 1)] (Os := [_]) ⟨hi31, trivial⟩ hE hH (by kernel_rfl) (fun a hE => ?_)
    obtain ⟨o32, ho32, h⟩ := bs h
    refine stepStO (t := 47) (j := i31) (off := 1) (.list K52) z29.1 (x' := (o32.1, z29.1, o32.2.2.1, o32.2.2.2.1, ())) hE hH (by kernel_rfl) (ob47 (s := σ) ho32) (by kernel_rfl) (upd47 (s := σ)) (fun w G hl4 hE hH => ?_)
    have hle := Gh.le_trans hle hl4
    refine wpFrom_end (by kernel_rfl) ?_
    have hH := hH.drop (fun _ _ _ => rfl)
    cases h
    exact end0 rfl hE hle hH

def f63 (p0 : Option Nat) (p1 : List UInt8) (p2 : List UInt8) (σ : St) : Option (Int × St) :=
  p0 >>= fun i4 =>
  (σ.t47[i4]?) >>= fun o5 =>
  if o5.2.2.2.1 = true then
  some (11, σ)
  else
  f102 p1 >>= fun r9 =>
  if (!r9) = true then
  some (2, σ)
  else
  f34 p0 p1 σ >>= fun r14 =>
  (if (decide (r14 ≥ 0)) = true then
  p0 >>= fun i61 =>
  (σ.t47[i61]?) >>= fun o62 =>
  (ix o62.2.1 r14) >>= fun x63 =>
  some x63
  else
  some (p1, [], [], ()) : Option K52.den) >>= fun z18 =>
  if (decide (r14 < 0)) = true then
  p0 >>= fun i23 =>
  (σ.t47[i23]?) >>= fun o24 =>
  if (decide ((o24.2.1.length : Int) ≥ 128)) = true then
  some (10, σ)
  else
  if (decide ((p2.length : Int) > (IntKind.wrap .i64 ((IntKind.wrap .i64 (65536 - (z18.2.1.length : Int))) - (z18.2.2.1.length : Int))))) = true then
  some (10, σ)
  else
  p0 >>= fun i31 =>
  (σ.t47[i31]?) >>= fun o32 =>
  f75 p0 σ >>= fun r33 =>
  if (decide ((p2.length : Int) > (IntKind.wrap .i64 (o32.1 - r33)))) = true then
  some (10, σ)
  else
  if z18.2.2.1.length + p2.length ≤ 9223372036854775807 then
  f103 p0 (z18.1, z18.2.1, z18.2.2.1 ++ p2, ()) σ >>= fun r38 =>
  f104 p0 r38.2 >>= fun r41 =>
  if r41.1 = true then
  some (11, r41.2)
  else
  some (0, r41.2)
  else none
  else
  if (decide ((p2.length : Int) > (IntKind.wrap .i64 ((IntKind.wrap .i64 (65536 - (z18.2.1.length : Int))) - (z18.2.2.1.length : Int))))) = true then
  some (10, σ)
  else
  p0 >>= fun i48 =>
  (σ.t47[i48]?) >>= fun o49 =>
  f75 p0 σ >>= fun r50 =>
  if (decide ((p2.length : Int) > (IntKind.wrap .i64 (o49.1 - r50)))) = true then
  some (10, σ)
  else
  if z18.2.2.1.length + p2.length ≤ 9223372036854775807 then
  f103 p0 (z18.1, z18.2.1, z18.2.2.1 ++ p2, ()) σ >>= fun r55 =>
  f104 p0 r55.2 >>= fun r58 =>
  if r58.1 = true then
  some (11, r58.2)
  else
  some (0, r58.2)
  else none

theorem f63_ok {p0 : Option Nat} {p1 : List UInt8} {p2 : List UInt8} {σ : St} {p : Int × St} (h : f63 p0 p1 p2 σ = some p) : Spec Try.prog 63 [.kv (.ptr 47) p0, .kv .str p1, .kv .str p2] (tabs σ) (.kv .i p.1) (tabs p.2) := by
  refine Spec.intro Try.func63 (by kernel_rfl) rfl (by kernel_rfl) (fun a w G0 Ls hE hH hN => ?_)
  have hle : G0.le G0 := Gh.le_refl G0
  unfold f63 at h
  refine wp_seq_k (fun K hK1 => ?_)
  refine wp_region_from ?_
  refine segO 1 [] [(6, .kv .i 0)] (Os := []) trivial hE hH (by kernel_rfl) (fun a hE => ?_)
  refine wpFrom_end (by kernel_rfl) ?_
  refine Exit.then_normal (hK1 _ _ ?_)
  refine wp_seq_k (fun K hK2 => ?_)
  refine wp_seq_k (fun K hK3 => ?_)
  refine wp_region_from ?_
  obtain ⟨i4, hi4, h⟩ := bs h
  obtain ⟨o5, ho5, h⟩ := bs h
  refine segO 4 [.pt i4, .ob fs47 o5] [(12, .kv .bool o5.2.2.2.1)] (Os := [_, _]) ⟨hi4, (ob47 (s := σ) ho5), trivial⟩ hE hH (by kernel_rfl) (fun a hE => ?_)
  refine wpFrom_end (by kernel_rfl) ?_
  refine Exit.then_normal (hK3 _ _ ?_)
  refine condE (b := o5.2.2.2.1) hE (by kernel_rfl) (fun hc => ?_) (fun hc => ?_)
  · replace h := ifT hc h
    refine wp_seq_k (fun K hK6 => ?_)
    refine wp_region_from ?_
    refine segO 1 [] [(6, .kv .i 11)] (Os := []) trivial hE hH (by kernel_rfl) (fun a hE => ?_)
    refine wpFrom_end (by kernel_rfl) ?_
    refine Exit.then_normal (hK6 _ _ ?_)
    refine wp_ret ?_
    refine Exit.then_ret ?_
    cases h
    exact ret1 rfl hE hle hH (by kernel_rfl)
  · replace h := ifF hc h
    refine wp_skip ?_
    refine Exit.then_normal (hK2 _ _ ?_)
    refine wp_seq_k (fun K hK7 => ?_)
    refine wp_seq_k (fun K hK8 => ?_)
    refine wp_region_from ?_
    refine segO 1 [] [(13, .kv .str p1)] (Os := []) trivial hE hH (by kernel_rfl) (fun a hE => ?_)
    obtain ⟨r9, hr9, h⟩ := bs h
    refine stepCall (d := (some 14)) (f102_ok hr9) hE hH hN (by kernel_rfl) (by kernel_rfl) trivial (fun a w G hl1 hE hH => ?_)
    have hle := Gh.le_trans hle hl1
    refine segO 1 [] [(15, .kv .bool (!r9))] (Os := []) trivial hE hH (by kernel_rfl) (fun a hE => ?_)
    refine wpFrom_end (by kernel_rfl) ?_
    refine Exit.then_normal (hK8 _ _ ?_)
    refine condE (b := !r9) hE (by kernel_rfl) (fun hc => ?_) (fun hc => ?_)
    · replace h := ifT hc h
      refine wp_seq_k (fun K hK10 => ?_)
      refine wp_region_from ?_
      refine segO 1 [] [(6, .kv .i 2)] (Os := []) trivial hE hH (by kernel_rfl) (fun a hE => ?_)
      refine wpFrom_end (by kernel_rfl) ?_
      refine Exit.then_normal (hK10 _ _ ?_)
      refine wp_ret ?_
      refine Exit.then_ret ?_
      cases h
      exact ret1 rfl hE hle hH (by kernel_rfl)
    · replace h := ifF hc h
      refine wp_skip ?_
      refine Exit.then_normal (hK7 _ _ ?_)
      refine wp_seq_k (fun K hK11 => ?_)
      refine wp_region_from ?_
      refine segO 1 [] [(16, .kv .str p1)] (Os := []) trivial hE hH (by kernel_rfl) (fun a hE => ?_)
      refine stepBuild (d := (some 17)) K52 (p1, [], [], ()) rfl hE (by kernel_rfl) (by kernel_rfl) (fun a hE => ?_)
      refine stepAlloc (e := 52) (d := (some 7)) K52  hE hH (by kernel_rfl) (by kernel_rfl) (fun b12 a w G hl2 hE hH => ?_)
      have hle := Gh.le_trans hle hl2
      refine stepStB (b := b12) (off := 0) 0 K52 (p1, [], [], ()) (x' := (p1, [], [], ())) hE hH (by kernel_rfl) rfl (by kernel_rfl) (fun w G hl3 hE hH => ?_)
      have hle := Gh.le_trans hle hl3
      refine wpFrom_end (by kernel_rfl) ?_
      refine Exit.then_normal (hK11 _ _ ?_)
      refine wp_seq_k (fun K hK13 => ?_)
      refine wp_region_from ?_
      refine segO 2 [] [(18, .kv (.ptr 47) p0), (19, .kv .str p1)] (Os := []) trivial hE hH (by kernel_rfl) (fun a hE => ?_)
      obtain ⟨r14, hr14, h⟩ := bs h
      refine stepCall (d := (some 20)) (f34_ok hr14) hE hH (NoHole.cons (fun _ _ _ => rfl) hN) (by kernel_rfl) (by kernel_rfl) trivial (fun a w G hl4 hE hH => ?_)
      have hle := Gh.le_trans hle hl4
      refine segO 1 [] [(8, .kv .i r14)] (Os := []) trivial hE hH (by kernel_rfl) (fun a hE => ?_)
      refine wpFrom_end (by kernel_rfl) ?_
      refine Exit.then_normal (hK13 _ _ ?_)
      refine wp_seq_k (fun K hK15 => ?_)
      refine wp_seq_k (fun K hK16 => ?_)
      refine wp_region_from ?_
      refine segO 2 [] [(22, .kv .bool (decide (r14 ≥ 0)))] (Os := []) trivial hE hH (by kernel_rfl) (fun a hE => ?_)
      refine wpFrom_end (by kernel_rfl) ?_
      refine Exit.then_normal (hK16 _ _ ?_)
      obtain ⟨z18, hz18, h⟩ := bs h
      refine join_intro (I := fun a w => ∃ (G : Gh), G0.le G ∧ EnvR G 75 a [(0, .kv (.ptr 47) p0), (2, .kv .str p2), (6, .kv .i 0), (7, .val (.pointer (some ⟨b12, 0, none⟩))), (8, .kv .i r14)] ∧ Holds w G (tabs σ) (LS.box b12 K52 z18 :: Ls)) trivial ?_ ?_
      · intro a w hI
        obtain ⟨G, hle, hE, hH⟩ := hI
        refine Exit.then_normal (hK15 _ _ ?_)
        refine wp_seq_k (fun K hK20 => ?_)
        refine wp_seq_k (fun K hK21 => ?_)
        by_cases hc : (decide (r14 < 0)) = true
        · replace h := ifT hc h
          have c22 := hc
          obtain ⟨i23, hi23, h⟩ := bs h
          obtain ⟨o24, ho24, h⟩ := bs h
          by_cases hc : (decide ((o24.2.1.length : Int) ≥ 128)) = true
          · replace h := ifT hc h
            have c25 := hc
            refine region_par 33 [] [(0, 0), (0, 0), (0, 0), (0, 0), (0, 0), (0, 0), (0, 0), (0, 0), (0, 0), (0, 0), (0, 0), (0, 0), (0, 0), (0, 0), (0, 0), (0, 0), (0, 0), (0, 0), (0, 0), (0, 0), (0, 0), (0, 0), (0, 0), (0, 0), (0, 0), (0, 0), (0, 0), (0, 0), (0, 0), (0, 0), (0, 0), (0, 0), (0, 0)] [.kv .i r14, .kv .bool (decide (r14 < 0)), .kv .bool true, .kv (.ptr 47) p0, .kv (.ptr 47) (some i23), .fldA 47 i23 1, .kv (.list K52) o24.2.1, .kv .i (o24.2.1.length : Int), .kv .bool (decide ((o24.2.1.length : Int) ≥ 128)), .kv .bool (decide ((o24.2.1.length : Int) ≥ 128)), .kv .bool true, .undef, .undef, .undef, .undef, .undef, .undef, .undef, .undef, .undef, .undef, .undef, .kv .bool true, .kv .bool true, .undef, .undef, .undef, .undef, .undef, .undef, .undef, .undef, .undef] (fun _ => tabs σ) (fun _ => LS.box b12 K52 z18 :: Ls) (by kernel_rfl) (by kernel_rfl) hE hH
                    ⟨⟨⟨⟨⟨⟨⟨⟨⟨⟨⟨⟨⟨⟨⟨⟨⟨⟨⟨⟨⟨⟨⟨⟨⟨⟨⟨⟨⟨⟨⟨⟨⟨trivial,
                    anyk (fun k => obR [] (Os := []) trivial (by kernel_rfl) (by kernel_rfl))⟩,
                    anyk (fun k => obR [] (Os := []) trivial (by kernel_rfl) (by kernel_rfl))⟩,
                    anyk (fun k => obRe [] (Os := []) trivial (by kernel_rfl) (by kernel_rfl) (eb2 c22 rfl))⟩,
                    anyk (fun k => obR [] (Os := []) trivial (by kernel_rfl) (by kernel_rfl))⟩,
                    anyk (fun k => obR [.pt i23] (Os := [_]) ⟨hi23, trivial⟩ (by kernel_rfl) (by kernel_rfl))⟩,
                    anyk (fun k => obR [] (Os := []) trivial (by kernel_rfl) (by kernel_rfl))⟩,
                    anyk (fun k => obR [.ob fs47 o24] (Os := [_]) ⟨(ob47 (s := σ) ho24), trivial⟩ (by kernel_rfl) (by kernel_rfl))⟩,
                    anyk (fun k => obR [] (Os := []) trivial (by kernel_rfl) (by kernel_rfl))⟩,
                    anyk (fun k => obR [] (Os := []) trivial (by kernel_rfl) (by kernel_rfl))⟩,
                    anyk (fun k => obR [] (Os := []) trivial (by kernel_rfl) (by kernel_rfl))⟩,
                    anyk (fun k => obRe [] (Os := []) trivial (by kernel_rfl) (by kernel_rfl) (eb2 c25 rfl))⟩,
                    anyk (fun k => obR [] (Os := []) trivial (by kernel_rfl) (by kernel_rfl))⟩,
                    anyk (fun k => obR [] (Os := []) trivial (by kernel_rfl) (by kernel_rfl))⟩,
                    anyk (fun k => obR [] (Os := []) trivial (by kernel_rfl) (by kernel_rfl))⟩,
                    anyk (fun k => obR [] (Os := []) trivial (by kernel_rfl) (by kernel_rfl))⟩,
                    anyk (fun k => obR [] (Os := []) trivial (by kernel_rfl) (by kernel_rfl))⟩,
                    anyk (fun k => obR [] (Os := []) trivial (by kernel_rfl) (by kernel_rfl))⟩,
                    anyk (fun k => obR [] (Os := []) trivial (by kernel_rfl) (by kernel_rfl))⟩,
                    anyk (fun k => obR [] (Os := []) trivial (by kernel_rfl) (by kernel_rfl))⟩,
                    anyk (fun k => obR [] (Os := []) trivial (by kernel_rfl) (by kernel_rfl))⟩,
                    anyk (fun k => obR [] (Os := []) trivial (by kernel_rfl) (by kernel_rfl))⟩,
                    anyk (fun k => obR [] (Os := []) trivial (by kernel_rfl) (by kernel_rfl))⟩,
                    anyk (fun k => obR [] (Os := []) trivial (by kernel_rfl) (by kernel_rfl))⟩,
                    anyk (fun k => obR [] (Os := []) trivial (by kernel_rfl) (by kernel_rfl))⟩,
                    anyk (fun k => obR [] (Os := []) trivial (by kernel_rfl) (by kernel_rfl))⟩,
                    anyk (fun k => obR [] (Os := []) trivial (by kernel_rfl) (by kernel_rfl))⟩,
                    anyk (fun k => obR [] (Os := []) trivial (by kernel_rfl) (by kernel_rfl))⟩,
                    anyk (fun k => obR [] (Os := []) trivial (by kernel_rfl) (by kernel_rfl))⟩,
                    anyk (fun k => obR [] (Os := []) trivial (by kernel_rfl) (by kernel_rfl))⟩,
                    anyk (fun k => obR [] (Os := []) trivial (by kernel_rfl) (by kernel_rfl))⟩,
                    anyk (fun k => obR [] (Os := []) trivial (by kernel_rfl) (by kernel_rfl))⟩,
                    anyk (fun k => obR [] (Os := []) trivial (by kernel_rfl) (by kernel_rfl))⟩,
                    anyk (fun k => obR [] (Os := []) trivial (by kernel_rfl) (by kernel_rfl))⟩ (fun a w G hl6 hE hH => ?_)
            have hle := Gh.le_trans hle hl6
            refine segO 2 [] [(64, .kv .bool true)] (Os := []) trivial hE hH (by kernel_rfl) (fun a hE => ?_)
            refine wpFrom_end (by kernel_rfl) ?_
            refine Exit.then_normal (hK21 _ _ ?_)
            refine condT hE (by kernel_rfl) rfl ?_
            refine wp_seq_k (fun K hK26 => ?_)
            refine wp_region_from ?_
            refine segO 1 [] [(6, .kv .i 10)] (Os := []) trivial hE hH (by kernel_rfl) (fun a hE => ?_)
            refine wpFrom_end (by kernel_rfl) ?_
            refine Exit.then_normal (hK26 _ _ ?_)
            refine wp_ret ?_
            refine Exit.then_ret ?_
            have hH := hH.drop (fun _ _ _ => rfl)
            cases h
            exact ret1 rfl hE hle hH (by kernel_rfl)
          · replace h := ifN hc h
            have c27 := hc
            by_cases hc : (decide ((p2.length : Int) > (IntKind.wrap .i64 ((IntKind.wrap .i64 (65536 - (z18.2.1.length : Int))) - (z18.2.2.1.length : Int))))) = true
            · replace h := ifT hc h
              have c28 := hc
              refine region_par 33 [] [(0, 0), (0, 0), (0, 0), (0, 0), (0, 0), (0, 0), (0, 0), (0, 0), (0, 0), (0, 0), (0, 0), (0, 0), (0, 0), (0, 0), (0, 0), (0, 0), (0, 0), (0, 0), (0, 0), (0, 0), (0, 0), (0, 0), (0, 0), (0, 0), (0, 0), (0, 0), (0, 0), (0, 0), (0, 0), (0, 0), (0, 0), (0, 0), (0, 0)] [.kv .i r14, .kv .bool (decide (r14 < 0)), .kv .bool true, .kv (.ptr 47) p0, .kv (.ptr 47) (some i23), .fldA 47 i23 1, .kv (.list K52) o24.2.1, .kv .i (o24.2.1.length : Int), .kv .bool (decide ((o24.2.1.length : Int) ≥ 128)), .kv .bool (decide ((o24.2.1.length : Int) ≥ 128)), .kv .bool false, .kv .str p2, .kv .i (p2.length : Int), .val (.pointer (some ⟨b12, 1, none⟩)), .kv .str z18.2.1, .kv .i (z18.2.1.length : Int), .kv .i (IntKind.wrap .i64 (65536 - (z18.2.1.length : Int))), .val (.pointer (some ⟨b12, 2, none⟩)), .kv .str z18.2.2.1, .kv .i (z18.2.2.1.length : Int), .kv .i (IntKind.wrap .i64 ((IntKind.wrap .i64 (65536 - (z18.2.1.length : Int))) - (z18.2.2.1.length : Int))), .kv .bool (decide ((p2.length : Int) > (IntKind.wrap .i64 ((IntKind.wrap .i64 (65536 - (z18.2.1.length : Int))) - (z18.2.2.1.length : Int))))), .kv .bool (decide ((p2.length : Int) > (IntKind.wrap .i64 ((IntKind.wrap .i64 (65536 - (z18.2.1.length : Int))) - (z18.2.2.1.length : Int))))), .kv .bool true, .undef, .undef, .undef, .undef, .undef, .undef, .undef, .undef, .undef] (fun _ => tabs σ) (fun _ => LS.box b12 K52 z18 :: Ls) (by kernel_rfl) (by kernel_rfl) hE hH
                      ⟨⟨⟨⟨⟨⟨⟨⟨⟨⟨⟨⟨⟨⟨⟨⟨⟨⟨⟨⟨⟨⟨⟨⟨⟨⟨⟨⟨⟨⟨⟨⟨⟨trivial,
                      anyk (fun k => obR [] (Os := []) trivial (by kernel_rfl) (by kernel_rfl))⟩,
                      anyk (fun k => obR [] (Os := []) trivial (by kernel_rfl) (by kernel_rfl))⟩,
                      anyk (fun k => obRe [] (Os := []) trivial (by kernel_rfl) (by kernel_rfl) (eb2 c22 rfl))⟩,
                      anyk (fun k => obR [] (Os := []) trivial (by kernel_rfl) (by kernel_rfl))⟩,
                      anyk (fun k => obR [.pt i23] (Os := [_]) ⟨hi23, trivial⟩ (by kernel_rfl) (by kernel_rfl))⟩,
                      anyk (fun k => obR [] (Os := []) trivial (by kernel_rfl) (by kernel_rfl))⟩,
                      anyk (fun k => obR [.ob fs47 o24] (Os := [_]) ⟨(ob47 (s := σ) ho24), trivial⟩ (by kernel_rfl) (by kernel_rfl))⟩,
                      anyk (fun k => obR [] (Os := []) trivial (by kernel_rfl) (by kernel_rfl))⟩,
                      anyk (fun k => obR [] (Os := []) trivial (by kernel_rfl) (by kernel_rfl))⟩,
                      anyk (fun k => obR [] (Os := []) trivial (by kernel_rfl) (by kernel_rfl))⟩,
                      anyk (fun k => obRe [] (Os := []) trivial (by kernel_rfl) (by kernel_rfl) (eb2 (bf c27) rfl))⟩,
                      anyk (fun k => obR [] (Os := []) trivial (by kernel_rfl) (by kernel_rfl))⟩,
                      anyk (fun k => obR [] (Os := []) trivial (by kernel_rfl) (by kernel_rfl))⟩,
                      anyk (fun k => obR [] (Os := []) trivial (by kernel_rfl) (by kernel_rfl))⟩,
                      anyk (fun k => obR [.bx 0 K52 z18] (Os := [_]) ⟨(rfl : (LS.box b12 K52 z18 :: Ls)[0]? = some (LS.box b12 K52 z18)), trivial⟩ (by kernel_rfl) (by kernel_rfl))⟩,
                      anyk (fun k => obR [] (Os := []) trivial (by kernel_rfl) (by kernel_rfl))⟩,
                      anyk (fun k => obR [] (Os := []) trivial (by kernel_rfl) (by kernel_rfl))⟩,
                      anyk (fun k => obR [] (Os := []) trivial (by kernel_rfl) (by kernel_rfl))⟩,
                      anyk (fun k => obR [.bx 0 K52 z18] (Os := [_]) ⟨(rfl : (LS.box b12 K52 z18 :: Ls)[0]? = some (LS.box b12 K52 z18)), trivial⟩ (by kernel_rfl) (by kernel_rfl))⟩,
                      anyk (fun k => obR [] (Os := []) trivial (by kernel_rfl) (by kernel_rfl))⟩,
                      anyk (fun k => obR [] (Os := []) trivial (by kernel_rfl) (by kernel_rfl))⟩,
                      anyk (fun k => obR [] (Os := []) trivial (by kernel_rfl) (by kernel_rfl))⟩,
                      anyk (fun k => obR [] (Os := []) trivial (by kernel_rfl) (by kernel_rfl))⟩,
                      anyk (fun k => obRe [] (Os := []) trivial (by kernel_rfl) (by kernel_rfl) (eb2 c28 rfl))⟩,
                      anyk (fun k => obR [] (Os := []) trivial (by kernel_rfl) (by kernel_rfl))⟩,
                      anyk (fun k => obR [] (Os := []) trivial (by kernel_rfl) (by kernel_rfl))⟩,
                      anyk (fun k => obR [] (Os := []) trivial (by kernel_rfl) (by kernel_rfl))⟩,
                      anyk (fun k => obR [] (Os := []) trivial (by kernel_rfl) (by kernel_rfl))⟩,
                      anyk (fun k => obR [] (Os := []) trivial (by kernel_rfl) (by kernel_rfl))⟩,
                      anyk (fun k => obR [] (Os := []) trivial (by kernel_rfl) (by kernel_rfl))⟩,
                      anyk (fun k => obR [] (Os := []) trivial (by kernel_rfl) (by kernel_rfl))⟩,
                      anyk (fun k => obR [] (Os := []) trivial (by kernel_rfl) (by kernel_rfl))⟩,
                      anyk (fun k => obR [] (Os := []) trivial (by kernel_rfl) (by kernel_rfl))⟩ (fun a w G hl7 hE hH => ?_)
              have hle := Gh.le_trans hle hl7
              refine segO 2 [] [(64, .kv .bool true)] (Os := []) trivial hE hH (by kernel_rfl) (fun a hE => ?_)
              refine wpFrom_end (by kernel_rfl) ?_
              refine Exit.then_normal (hK21 _ _ ?_)
              refine condT hE (by kernel_rfl) rfl ?_
              refine wp_seq_k (fun K hK29 => ?_)
              refine wp_region_from ?_
              refine segO 1 [] [(6, .kv .i 10)] (Os := []) trivial hE hH (by kernel_rfl) (fun a hE => ?_)
              refine wpFrom_end (by kernel_rfl) ?_
              refine Exit.then_normal (hK29 _ _ ?_)
              refine wp_ret ?_
              refine Exit.then_ret ?_
              have hH := hH.drop (fun _ _ _ => rfl)
              cases h
              exact ret1 rfl hE hle hH (by kernel_rfl)
            · replace h := ifN hc h
              have c30 := hc
              obtain ⟨i31, hi31, h⟩ := bs h
              obtain ⟨o32, ho32, h⟩ := bs h
              obtain ⟨r33, hr33, h⟩ := bs h
              refine region_par 33 [31] [(0, 0), (0, 0), (0, 0), (0, 0), (0, 0), (0, 0), (0, 0), (0, 0), (0, 0), (0, 0), (0, 0), (0, 0), (0, 0), (0, 0), (0, 0), (0, 0), (0, 0), (0, 0), (0, 0), (0, 0), (0, 0), (0, 0), (0, 0), (0, 0), (0, 1), (0, 1), (0, 1), (0, 1), (0, 1), (0, 1), (0, 0), (0, 0), (1, 1)] [.kv .i r14, .kv .bool (decide (r14 < 0)), .kv .bool true, .kv (.ptr 47) p0, .kv (.ptr 47) (some i23), .fldA 47 i23 1, .kv (.list K52) o24.2.1, .kv .i (o24.2.1.length : Int), .kv .bool (decide ((o24.2.1.length : Int) ≥ 128)), .kv .bool (decide ((o24.2.1.length : Int) ≥ 128)), .kv .bool false, .kv .str p2, .kv .i (p2.length : Int), .val (.pointer (some ⟨b12, 1, none⟩)), .kv .str z18.2.1, .kv .i (z18.2.1.length : Int), .kv .i (IntKind.wrap .i64 (65536 - (z18.2.1.length : Int))), .val (.pointer (some ⟨b12, 2, none⟩)), .kv .str z18.2.2.1, .kv .i (z18.2.2.1.length : Int), .kv .i (IntKind.wrap .i64 ((IntKind.wrap .i64 (65536 - (z18.2.1.length : Int))) - (z18.2.2.1.length : Int))), .kv .bool (decide ((p2.length : Int) > (IntKind.wrap .i64 ((IntKind.wrap .i64 (65536 - (z18.2.1.length : Int))) - (z18.2.2.1.length : Int))))), .kv .bool (decide ((p2.length : Int) > (IntKind.wrap .i64 ((IntKind.wrap .i64 (65536 - (z18.2.1.length : Int))) - (z18.2.2.1.length : Int))))), .kv .bool false, .kv .str p2, .kv .i (p2.length : Int), .kv (.ptr 47) p0, .kv (.ptr 47) (some i31), .fldA 47 i31 0, .kv .i o32.1, .kv (.ptr 47) p0, .kv .i r33, .kv .i (IntKind.wrap .i64 (o32.1 - r33))] (fun _ => tabs σ) (fun _ => LS.box b12 K52 z18 :: Ls) (by kernel_rfl) (by kernel_rfl) hE hH
                      ⟨⟨⟨⟨⟨⟨⟨⟨⟨⟨⟨⟨⟨⟨⟨⟨⟨⟨⟨⟨⟨⟨⟨⟨⟨⟨⟨⟨⟨⟨⟨⟨⟨trivial,
                      anyk (fun k => obR [] (Os := []) trivial (by kernel_rfl) (by kernel_rfl))⟩,
                      anyk (fun k => obR [] (Os := []) trivial (by kernel_rfl) (by kernel_rfl))⟩,
                      anyk (fun k => obRe [] (Os := []) trivial (by kernel_rfl) (by kernel_rfl) (eb2 c22 rfl))⟩,
                      anyk (fun k => obR [] (Os := []) trivial (by kernel_rfl) (by kernel_rfl))⟩,
                      anyk (fun k => obR [.pt i23] (Os := [_]) ⟨hi23, trivial⟩ (by kernel_rfl) (by kernel_rfl))⟩,
                      anyk (fun k => obR [] (Os := []) trivial (by kernel_rfl) (by kernel_rfl))⟩,
                      anyk (fun k => obR [.ob fs47 o24] (Os := [_]) ⟨(ob47 (s := σ) ho24), trivial⟩ (by kernel_rfl) (by kernel_rfl))⟩,
                      anyk (fun k => obR [] (Os := []) trivial (by kernel_rfl) (by kernel_rfl))⟩,
                      anyk (fun k => obR [] (Os := []) trivial (by kernel_rfl) (by kernel_rfl))⟩,
                      anyk (fun k => obR [] (Os := []) trivial (by kernel_rfl) (by kernel_rfl))⟩,
                      anyk (fun k => obRe [] (Os := []) trivial (by kernel_rfl) (by kernel_rfl) (eb2 (bf c27) rfl))⟩,
                      anyk (fun k => obR [] (Os := []) trivial (by kernel_rfl) (by kernel_rfl))⟩,
                      anyk (fun k => obR [] (Os := []) trivial (by kernel_rfl) (by kernel_rfl))⟩,
                      anyk (fun k => obR [] (Os := []) trivial (by kernel_rfl) (by kernel_rfl))⟩,
                      anyk (fun k => obR [.bx 0 K52 z18] (Os := [_]) ⟨(rfl : (LS.box b12 K52 z18 :: Ls)[0]? = some (LS.box b12 K52 z18)), trivial⟩ (by kernel_rfl) (by kernel_rfl))⟩,
                      anyk (fun k => obR [] (Os := []) trivial (by kernel_rfl) (by kernel_rfl))⟩,
                      anyk (fun k => obR [] (Os := []) trivial (by kernel_rfl) (by kernel_rfl))⟩,
                      anyk (fun k => obR [] (Os := []) trivial (by kernel_rfl) (by kernel_rfl))⟩,
                      anyk (fun k => obR [.bx 0 K52 z18] (Os := [_]) ⟨(rfl : (LS.box b12 K52 z18 :: Ls)[0]? = some (LS.box b12 K52 z18)), trivial⟩ (by kernel_rfl) (by kernel_rfl))⟩,
                      anyk (fun k => obR [] (Os := []) trivial (by kernel_rfl) (by kernel_rfl))⟩,
                      anyk (fun k => obR [] (Os := []) trivial (by kernel_rfl) (by kernel_rfl))⟩,
                      anyk (fun k => obR [] (Os := []) trivial (by kernel_rfl) (by kernel_rfl))⟩,
                      anyk (fun k => obR [] (Os := []) trivial (by kernel_rfl) (by kernel_rfl))⟩,
                      anyk (fun k => obRe [] (Os := []) trivial (by kernel_rfl) (by kernel_rfl) (eb2 (bf c30) rfl))⟩,
                      anyk (fun k => obR [] (Os := []) trivial (by kernel_rfl) (by kernel_rfl))⟩,
                      anyk (fun k => obR [] (Os := []) trivial (by kernel_rfl) (by kernel_rfl))⟩,
                      anyk (fun k => obR [] (Os := []) trivial (by kernel_rfl) (by kernel_rfl))⟩,
                      anyk (fun k => obR [.pt i31] (Os := [_]) ⟨hi31, trivial⟩ (by kernel_rfl) (by kernel_rfl))⟩,
                      anyk (fun k => obR [] (Os := []) trivial (by kernel_rfl) (by kernel_rfl))⟩,
                      anyk (fun k => obR [.ob fs47 o32] (Os := [_]) ⟨(ob47 (s := σ) ho32), trivial⟩ (by kernel_rfl) (by kernel_rfl))⟩,
                      anyk (fun k => obR [] (Os := []) trivial (by kernel_rfl) (by kernel_rfl))⟩,
                      one (obC (k := 0) (d := (some 61)) (f75_ok hr33) rfl (NoHole.cons (fun _ _ _ => rfl) hN) (by kernel_rfl) (by kernel_rfl) rfl trivial)⟩,
                      anyk (fun k => obR [] (Os := []) trivial (by kernel_rfl) (by kernel_rfl))⟩ (fun a w G hl8 hE hH => ?_)
              have hle := Gh.le_trans hle hl8
              refine segO 2 [] [(64, .kv .bool (decide ((p2.length : Int) > (IntKind.wrap .i64 (o32.1 - r33)))))] (Os := []) trivial hE hH (by kernel_rfl) (fun a hE => ?_)
              refine wpFrom_end (by kernel_rfl) ?_
              refine Exit.then_normal (hK21 _ _ ?_)
              refine condE (b := decide ((p2.length : Int) > (IntKind.wrap .i64 (o32.1 - r33)))) hE (by kernel_rfl) (fun hc => ?_) (fun hc => ?_)
              · replace h := ifT hc h
                refine wp_seq_k (fun K hK34 => ?_)
                refine wp_region_from ?_
                refine segO 1 [] [(6, .kv .i 10)] (Os := []) trivial hE hH (by kernel_rfl) (fun a hE => ?_)
                refine wpFrom_end (by kernel_rfl) ?_
                refine Exit.then_normal (hK34 _ _ ?_)
                refine wp_ret ?_
                refine Exit.then_ret ?_
                have hH := hH.drop (fun _ _ _ => rfl)
                cases h
                exact ret1 rfl hE hle hH (by kernel_rfl)
              · replace h := ifF hc h
                refine wp_skip ?_
                refine Exit.then_normal (hK20 _ _ ?_)
                refine wp_seq_k (fun K hK35 => ?_)
                refine wp_region_from ?_
                obtain ⟨q36, h⟩ := gd h
                refine segO 5 [.bx 0 K52 z18] [(68, .kv .str (z18.2.2.1 ++ p2)), (69, .val (.pointer (some ⟨b12, 2, none⟩)))] (Os := [_, _]) ⟨(rfl : (LS.box b12 K52 z18 :: Ls)[0]? = some (LS.box b12 K52 z18)), q36, trivial⟩ hE hH (by kernel_rfl) (fun a hE => ?_)
                refine stepStB (b := b12) (off := 2) 0 .str (z18.2.2.1 ++ p2) (x' := (z18.1, z18.2.1, z18.2.2.1 ++ p2, ())) hE hH (by kernel_rfl) rfl (by kernel_rfl) (fun w G hl9 hE hH => ?_)
                have hle := Gh.le_trans hle hl9
                refine wpFrom_end (by kernel_rfl) ?_
                refine Exit.then_normal (hK35 _ _ ?_)
                refine wp_seq_k (fun K hK37 => ?_)
                refine wp_region_from ?_
                refine segO 2 [.bx 0 K52 (z18.1, z18.2.1, z18.2.2.1 ++ p2, ())] [(70, .kv (.ptr 47) p0), (71, .kv K52 (z18.1, z18.2.1, z18.2.2.1 ++ p2, ()))] (Os := [_]) ⟨(rfl : (LS.box b12 K52 (z18.1, z18.2.1, z18.2.2.1 ++ p2, ()) :: Ls)[0]? = some (LS.box b12 K52 (z18.1, z18.2.1, z18.2.2.1 ++ p2, ()))), trivial⟩ hE hH (by kernel_rfl) (fun a hE => ?_)
                obtain ⟨r38, hr38, h⟩ := bs h
                refine stepCall (d := (some 72)) (f103_ok hr38) hE hH (NoHole.cons (fun _ _ _ => rfl) hN) (by kernel_rfl) (by kernel_rfl) trivial (fun a w G hl10 hE hH => ?_)
                have hle := Gh.le_trans hle hl10
                refine wpFrom_end (by kernel_rfl) ?_
                refine Exit.then_normal (hK37 _ _ ?_)
                refine wp_seq_k (fun K hK39 => ?_)
                refine wp_seq_k (fun K hK40 => ?_)
                refine wp_region_from ?_
                refine segO 1 [] [(73, .kv (.ptr 47) p0)] (Os := []) trivial hE hH (by kernel_rfl) (fun a hE => ?_)
                obtain ⟨r41, hr41, h⟩ := bs h
                refine stepCall (d := (some 74)) (f104_ok hr41) hE hH (NoHole.cons (fun _ _ _ => rfl) hN) (by kernel_rfl) (by kernel_rfl) trivial (fun a w G hl11 hE hH => ?_)
                have hle := Gh.le_trans hle hl11
                refine wpFrom_end (by kernel_rfl) ?_
                refine Exit.then_normal (hK40 _ _ ?_)
                refine condE (b := r41.1) hE (by kernel_rfl) (fun hc => ?_) (fun hc => ?_)
                · replace h := ifT hc h
                  refine wp_seq_k (fun K hK42 => ?_)
                  refine wp_region_from ?_
                  refine segO 1 [] [(6, .kv .i 11)] (Os := []) trivial hE hH (by kernel_rfl) (fun a hE => ?_)
                  refine wpFrom_end (by kernel_rfl) ?_
                  refine Exit.then_normal (hK42 _ _ ?_)
                  refine wp_ret ?_
                  refine Exit.then_ret ?_
                  have hH := hH.drop (fun _ _ _ => rfl)
                  cases h
                  exact ret1 rfl hE hle hH (by kernel_rfl)
                · replace h := ifF hc h
                  refine wp_skip ?_
                  refine Exit.then_normal (hK39 _ _ ?_)
                  refine wp_seq_k (fun K hK43 => ?_)
                  refine wp_region_from ?_
                  refine segO 1 [] [(6, .kv .i 0)] (Os := []) trivial hE hH (by kernel_rfl) (fun a hE => ?_)
                  refine wpFrom_end (by kernel_rfl) ?_
                  refine Exit.then_normal (hK43 _ _ ?_)
                  refine wp_ret ?_
                  have hH := hH.drop (fun _ _ _ => rfl)
                  cases h
                  exact ret1 rfl hE hle hH (by kernel_rfl)
        · replace h := ifN hc h
          have c44 := hc
          by_cases hc : (decide ((p2.length : Int) > (IntKind.wrap .i64 ((IntKind.wrap .i64 (65536 - (z18.2.1.length : Int))) - (z18.2.2.1.length : Int))))) = true
          · replace h := ifT hc h
            have c45 := hc
            refine region_par 33 [] [(0, 0), (0, 0), (0, 0), (0, 0), (0, 0), (0, 0), (0, 0), (0, 0), (0, 0), (0, 0), (0, 0), (0, 0), (0, 0), (0, 0), (0, 0), (0, 0), (0, 0), (0, 0), (0, 0), (0, 0), (0, 0), (0, 0), (0, 0), (0, 0), (0, 0), (0, 0), (0, 0), (0, 0), (0, 0), (0, 0), (0, 0), (0, 0), (0, 0)] [.kv .i r14, .kv .bool (decide (r14 < 0)), .kv .bool false, .undef, .undef, .undef, .undef, .undef, .undef, .kv .bool false, .kv .bool false, .kv .str p2, .kv .i (p2.length : Int), .val (.pointer (some ⟨b12, 1, none⟩)), .kv .str z18.2.1, .kv .i (z18.2.1.length : Int), .kv .i (IntKind.wrap .i64 (65536 - (z18.2.1.length : Int))), .val (.pointer (some ⟨b12, 2, none⟩)), .kv .str z18.2.2.1, .kv .i (z18.2.2.1.length : Int), .kv .i (IntKind.wrap .i64 ((IntKind.wrap .i64 (65536 - (z18.2.1.length : Int))) - (z18.2.2.1.length : Int))), .kv .bool (decide ((p2.length : Int) > (IntKind.wrap .i64 ((IntKind.wrap .i64 (65536 - (z18.2.1.length : Int))) - (z18.2.2.1.length : Int))))), .kv .bool (decide ((p2.length : Int) > (IntKind.wrap .i64 ((IntKind.wrap .i64 (65536 - (z18.2.1.length : Int))) - (z18.2.2.1.length : Int))))), .kv .bool true, .undef, .undef, .undef, .undef, .undef, .undef, .undef, .undef, .undef] (fun _ => tabs σ) (fun _ => LS.box b12 K52 z18 :: Ls) (by kernel_rfl) (by kernel_rfl) hE hH
                    ⟨⟨⟨⟨⟨⟨⟨⟨⟨⟨⟨⟨⟨⟨⟨⟨⟨⟨⟨⟨⟨⟨⟨⟨⟨⟨⟨⟨⟨⟨⟨⟨⟨trivial,
                    anyk (fun k => obR [] (Os := []) trivial (by kernel_rfl) (by kernel_rfl))⟩,
                    anyk (fun k => obR [] (Os := []) trivial (by kernel_rfl) (by kernel_rfl))⟩,
                    anyk (fun k => obRe [] (Os := []) trivial (by kernel_rfl) (by kernel_rfl) (eb2 (bf c44) rfl))⟩,
                    anyk (fun k => obR [] (Os := []) trivial (by kernel_rfl) (by kernel_rfl))⟩,
                    anyk (fun k => obR [] (Os := []) trivial (by kernel_rfl) (by kernel_rfl))⟩,
                    anyk (fun k => obR [] (Os := []) trivial (by kernel_rfl) (by kernel_rfl))⟩,
                    anyk (fun k => obR [] (Os := []) trivial (by kernel_rfl) (by kernel_rfl))⟩,
                    anyk (fun k => obR [] (Os := []) trivial (by kernel_rfl) (by kernel_rfl))⟩,
                    anyk (fun k => obR [] (Os := []) trivial (by kernel_rfl) (by kernel_rfl))⟩,
                    anyk (fun k => obR [] (Os := []) trivial (by kernel_rfl) (by kernel_rfl))⟩,
                    anyk (fun k => obR [] (Os := []) trivial (by kernel_rfl) (by kernel_rfl))⟩,
                    anyk (fun k => obR [] (Os := []) trivial (by kernel_rfl) (by kernel_rfl))⟩,
                    anyk (fun k => obR [] (Os := []) trivial (by kernel_rfl) (by kernel_rfl))⟩,
                    anyk (fun k => obR [] (Os := []) trivial (by kernel_rfl) (by kernel_rfl))⟩,
                    anyk (fun k => obR [.bx 0 K52 z18] (Os := [_]) ⟨(rfl : (LS.box b12 K52 z18 :: Ls)[0]? = some (LS.box b12 K52 z18)), trivial⟩ (by kernel_rfl) (by kernel_rfl))⟩,
                    anyk (fun k => obR [] (Os := []) trivial (by kernel_rfl) (by kernel_rfl))⟩,
                    anyk (fun k => obR [] (Os := []) trivial (by kernel_rfl) (by kernel_rfl))⟩,
                    anyk (fun k => obR [] (Os := []) trivial (by kernel_rfl) (by kernel_rfl))⟩,
                    anyk (fun k => obR [.bx 0 K52 z18] (Os := [_]) ⟨(rfl : (LS.box b12 K52 z18 :: Ls)[0]? = some (LS.box b12 K52 z18)), trivial⟩ (by kernel_rfl) (by kernel_rfl))⟩,
                    anyk (fun k => obR [] (Os := []) trivial (by kernel_rfl) (by kernel_rfl))⟩,
                    anyk (fun k => obR [] (Os := []) trivial (by kernel_rfl) (by kernel_rfl))⟩,
                    anyk (fun k => obR [] (Os := []) trivial (by kernel_rfl) (by kernel_rfl))⟩,
                    anyk (fun k => obR [] (Os := []) trivial (by kernel_rfl) (by kernel_rfl))⟩,
                    anyk (fun k => obRe [] (Os := []) trivial (by kernel_rfl) (by kernel_rfl) (eb2 c45 rfl))⟩,
                    anyk (fun k => obR [] (Os := []) trivial (by kernel_rfl) (by kernel_rfl))⟩,
                    anyk (fun k => obR [] (Os := []) trivial (by kernel_rfl) (by kernel_rfl))⟩,
                    anyk (fun k => obR [] (Os := []) trivial (by kernel_rfl) (by kernel_rfl))⟩,
                    anyk (fun k => obR [] (Os := []) trivial (by kernel_rfl) (by kernel_rfl))⟩,
                    anyk (fun k => obR [] (Os := []) trivial (by kernel_rfl) (by kernel_rfl))⟩,
                    anyk (fun k => obR [] (Os := []) trivial (by kernel_rfl) (by kernel_rfl))⟩,
                    anyk (fun k => obR [] (Os := []) trivial (by kernel_rfl) (by kernel_rfl))⟩,
                    anyk (fun k => obR [] (Os := []) trivial (by kernel_rfl) (by kernel_rfl))⟩,
                    anyk (fun k => obR [] (Os := []) trivial (by kernel_rfl) (by kernel_rfl))⟩ (fun a w G hl12 hE hH => ?_)
            have hle := Gh.le_trans hle hl12
            refine segO 2 [] [(64, .kv .bool true)] (Os := []) trivial hE hH (by kernel_rfl) (fun a hE => ?_)
            refine wpFrom_end (by kernel_rfl) ?_
            refine Exit.then_normal (hK21 _ _ ?_)
            refine condT hE (by kernel_rfl) rfl ?_
            refine wp_seq_k (fun K hK46 => ?_)
            refine wp_region_from ?_
            refine segO 1 [] [(6, .kv .i 10)] (Os := []) trivial hE hH (by kernel_rfl) (fun a hE => ?_)
            refine wpFrom_end (by kernel_rfl) ?_
            refine Exit.then_normal (hK46 _ _ ?_)
            refine wp_ret ?_
            refine Exit.then_ret ?_
            have hH := hH.drop (fun _ _ _ => rfl)
            cases h
            exact ret1 rfl hE hle hH (by kernel_rfl)
          · replace h := ifN hc h
            have c47 := hc
            obtain ⟨i48, hi48, h⟩ := bs h
            obtain ⟨o49, ho49, h⟩ := bs h
            obtain ⟨r50, hr50, h⟩ := bs h
            refine region_par 33 [31] [(0, 0), (0, 0), (0, 0), (0, 0), (0, 0), (0, 0), (0, 0), (0, 0), (0, 0), (0, 0), (0, 0), (0, 0), (0, 0), (0, 0), (0, 0), (0, 0), (0, 0), (0, 0), (0, 0), (0, 0), (0, 0), (0, 0), (0, 0), (0, 0), (0, 1), (0, 1), (0, 1), (0, 1), (0, 1), (0, 1), (0, 0), (0, 0), (1, 1)] [.kv .i r14, .kv .bool (decide (r14 < 0)), .kv .bool false, .undef, .undef, .undef, .undef, .undef, .undef, .kv .bool false, .kv .bool false, .kv .str p2, .kv .i (p2.length : Int), .val (.pointer (some ⟨b12, 1, none⟩)), .kv .str z18.2.1, .kv .i (z18.2.1.length : Int), .kv .i (IntKind.wrap .i64 (65536 - (z18.2.1.length : Int))), .val (.pointer (some ⟨b12, 2, none⟩)), .kv .str z18.2.2.1, .kv .i (z18.2.2.1.length : Int), .kv .i (IntKind.wrap .i64 ((IntKind.wrap .i64 (65536 - (z18.2.1.length : Int))) - (z18.2.2.1.length : Int))), .kv .bool (decide ((p2.length : Int) > (IntKind.wrap .i64 ((IntKind.wrap .i64 (65536 - (z18.2.1.length : Int))) - (z18.2.2.1.length : Int))))), .kv .bool (decide ((p2.length : Int) > (IntKind.wrap .i64 ((IntKind.wrap .i64 (65536 - (z18.2.1.length : Int))) - (z18.2.2.1.length : Int))))), .kv .bool false, .kv .str p2, .kv .i (p2.length : Int), .kv (.ptr 47) p0, .kv (.ptr 47) (some i48), .fldA 47 i48 0, .kv .i o49.1, .kv (.ptr 47) p0, .kv .i r50, .kv .i (IntKind.wrap .i64 (o49.1 - r50))] (fun _ => tabs σ) (fun _ => LS.box b12 K52 z18 :: Ls) (by kernel_rfl) (by kernel_rfl) hE hH
                    ⟨⟨⟨⟨⟨⟨⟨⟨⟨⟨⟨⟨⟨⟨⟨⟨⟨⟨⟨⟨⟨⟨⟨⟨⟨⟨⟨⟨⟨⟨⟨⟨⟨trivial,
                    anyk (fun k => obR [] (Os := []) trivial (by kernel_rfl) (by kernel_rfl))⟩,
                    anyk (fun k => obR [] (Os := []) trivial (by kernel_rfl) (by kernel_rfl))⟩,
                    anyk (fun k => obRe [] (Os := []) trivial (by kernel_rfl) (by kernel_rfl) (eb2 (bf c44) rfl))⟩,
                    anyk (fun k => obR [] (Os := []) trivial (by kernel_rfl) (by kernel_rfl))⟩,
                    anyk (fun k => obR [] (Os := []) trivial (by kernel_rfl) (by kernel_rfl))⟩,
                    anyk (fun k => obR [] (Os := []) trivial (by kernel_rfl) (by kernel_rfl))⟩,
                    anyk (fun k => obR [] (Os := []) trivial (by kernel_rfl) (by kernel_rfl))⟩,
                    anyk (fun k => obR [] (Os := []) trivial (by kernel_rfl) (by kernel_rfl))⟩,
                    anyk (fun k => obR [] (Os := []) trivial (by kernel_rfl) (by kernel_rfl))⟩,
                    anyk (fun k => obR [] (Os := []) trivial (by kernel_rfl) (by kernel_rfl))⟩,
                    anyk (fun k => obR [] (Os := []) trivial (by kernel_rfl) (by kernel_rfl))⟩,
                    anyk (fun k => obR [] (Os := []) trivial (by kernel_rfl) (by kernel_rfl))⟩,
                    anyk (fun k => obR [] (Os := []) trivial (by kernel_rfl) (by kernel_rfl))⟩,
                    anyk (fun k => obR [] (Os := []) trivial (by kernel_rfl) (by kernel_rfl))⟩,
                    anyk (fun k => obR [.bx 0 K52 z18] (Os := [_]) ⟨(rfl : (LS.box b12 K52 z18 :: Ls)[0]? = some (LS.box b12 K52 z18)), trivial⟩ (by kernel_rfl) (by kernel_rfl))⟩,
                    anyk (fun k => obR [] (Os := []) trivial (by kernel_rfl) (by kernel_rfl))⟩,
                    anyk (fun k => obR [] (Os := []) trivial (by kernel_rfl) (by kernel_rfl))⟩,
                    anyk (fun k => obR [] (Os := []) trivial (by kernel_rfl) (by kernel_rfl))⟩,
                    anyk (fun k => obR [.bx 0 K52 z18] (Os := [_]) ⟨(rfl : (LS.box b12 K52 z18 :: Ls)[0]? = some (LS.box b12 K52 z18)), trivial⟩ (by kernel_rfl) (by kernel_rfl))⟩,
                    anyk (fun k => obR [] (Os := []) trivial (by kernel_rfl) (by kernel_rfl))⟩,
                    anyk (fun k => obR [] (Os := []) trivial (by kernel_rfl) (by kernel_rfl))⟩,
                    anyk (fun k => obR [] (Os := []) trivial (by kernel_rfl) (by kernel_rfl))⟩,
                    anyk (fun k => obR [] (Os := []) trivial (by kernel_rfl) (by kernel_rfl))⟩,
                    anyk (fun k => obRe [] (Os := []) trivial (by kernel_rfl) (by kernel_rfl) (eb2 (bf c47) rfl))⟩,
                    anyk (fun k => obR [] (Os := []) trivial (by kernel_rfl) (by kernel_rfl))⟩,
                    anyk (fun k => obR [] (Os := []) trivial (by kernel_rfl) (by kernel_rfl))⟩,
                    anyk (fun k => obR [] (Os := []) trivial (by kernel_rfl) (by kernel_rfl))⟩,
                    anyk (fun k => obR [.pt i48] (Os := [_]) ⟨hi48, trivial⟩ (by kernel_rfl) (by kernel_rfl))⟩,
                    anyk (fun k => obR [] (Os := []) trivial (by kernel_rfl) (by kernel_rfl))⟩,
                    anyk (fun k => obR [.ob fs47 o49] (Os := [_]) ⟨(ob47 (s := σ) ho49), trivial⟩ (by kernel_rfl) (by kernel_rfl))⟩,
                    anyk (fun k => obR [] (Os := []) trivial (by kernel_rfl) (by kernel_rfl))⟩,
                    one (obC (k := 0) (d := (some 61)) (f75_ok hr50) rfl (NoHole.cons (fun _ _ _ => rfl) hN) (by kernel_rfl) (by kernel_rfl) rfl trivial)⟩,
                    anyk (fun k => obR [] (Os := []) trivial (by kernel_rfl) (by kernel_rfl))⟩ (fun a w G hl13 hE hH => ?_)
            have hle := Gh.le_trans hle hl13
            refine segO 2 [] [(64, .kv .bool (decide ((p2.length : Int) > (IntKind.wrap .i64 (o49.1 - r50)))))] (Os := []) trivial hE hH (by kernel_rfl) (fun a hE => ?_)
            refine wpFrom_end (by kernel_rfl) ?_
            refine Exit.then_normal (hK21 _ _ ?_)
            refine condE (b := decide ((p2.length : Int) > (IntKind.wrap .i64 (o49.1 - r50)))) hE (by kernel_rfl) (fun hc => ?_) (fun hc => ?_)
            · replace h := ifT hc h
              refine wp_seq_k (fun K hK51 => ?_)
              refine wp_region_from ?_
              refine segO 1 [] [(6, .kv .i 10)] (Os := []) trivial hE hH (by kernel_rfl) (fun a hE => ?_)
              refine wpFrom_end (by kernel_rfl) ?_
              refine Exit.then_normal (hK51 _ _ ?_)
              refine wp_ret ?_
              refine Exit.then_ret ?_
              have hH := hH.drop (fun _ _ _ => rfl)
              cases h
              exact ret1 rfl hE hle hH (by kernel_rfl)
            · replace h := ifF hc h
              refine wp_skip ?_
              refine Exit.then_normal (hK20 _ _ ?_)
              refine wp_seq_k (fun K hK52 => ?_)
              refine wp_region_from ?_
              obtain ⟨q53, h⟩ := gd h
              refine segO 5 [.bx 0 K52 z18] [(68, .kv .str (z18.2.2.1 ++ p2)), (69, .val (.pointer (some ⟨b12, 2, none⟩)))] (Os := [_, _]) ⟨(rfl : (LS.box b12 K52 z18 :: Ls)[0]? = some (LS.box b12 K52 z18)), q53, trivial⟩ hE hH (by kernel_rfl) (fun a hE => ?_)
              refine stepStB (b := b12) (off := 2) 0 .str (z18.2.2.1 ++ p2) (x' := (z18.1, z18.2.1, z18.2.2.1 ++ p2, ())) hE hH (by kernel_rfl) rfl (by kernel_rfl) (fun w G hl14 hE hH => ?_)
              have hle := Gh.le_trans hle hl14
              refine wpFrom_end (by kernel_rfl) ?_
              refine Exit.then_normal (hK52 _ _ ?_)
              refine wp_seq_k (fun K hK54 => ?_)
              refine wp_region_from ?_
              refine segO 2 [.bx 0 K52 (z18.1, z18.2.1, z18.2.2.1 ++ p2, ())] [(70, .kv (.ptr 47) p0), (71, .kv K52 (z18.1, z18.2.1, z18.2.2.1 ++ p2, ()))] (Os := [_]) ⟨(rfl : (LS.box b12 K52 (z18.1, z18.2.1, z18.2.2.1 ++ p2, ()) :: Ls)[0]? = some (LS.box b12 K52 (z18.1, z18.2.1, z18.2.2.1 ++ p2, ()))), trivial⟩ hE hH (by kernel_rfl) (fun a hE => ?_)
              obtain ⟨r55, hr55, h⟩ := bs h
              refine stepCall (d := (some 72)) (f103_ok hr55) hE hH (NoHole.cons (fun _ _ _ => rfl) hN) (by kernel_rfl) (by kernel_rfl) trivial (fun a w G hl15 hE hH => ?_)
              have hle := Gh.le_trans hle hl15
              refine wpFrom_end (by kernel_rfl) ?_
              refine Exit.then_normal (hK54 _ _ ?_)
              refine wp_seq_k (fun K hK56 => ?_)
              refine wp_seq_k (fun K hK57 => ?_)
              refine wp_region_from ?_
              refine segO 1 [] [(73, .kv (.ptr 47) p0)] (Os := []) trivial hE hH (by kernel_rfl) (fun a hE => ?_)
              obtain ⟨r58, hr58, h⟩ := bs h
              refine stepCall (d := (some 74)) (f104_ok hr58) hE hH (NoHole.cons (fun _ _ _ => rfl) hN) (by kernel_rfl) (by kernel_rfl) trivial (fun a w G hl16 hE hH => ?_)
              have hle := Gh.le_trans hle hl16
              refine wpFrom_end (by kernel_rfl) ?_
              refine Exit.then_normal (hK57 _ _ ?_)
              refine condE (b := r58.1) hE (by kernel_rfl) (fun hc => ?_) (fun hc => ?_)
              · replace h := ifT hc h
                refine wp_seq_k (fun K hK59 => ?_)
                refine wp_region_from ?_
                refine segO 1 [] [(6, .kv .i 11)] (Os := []) trivial hE hH (by kernel_rfl) (fun a hE => ?_)
                refine wpFrom_end (by kernel_rfl) ?_
                refine Exit.then_normal (hK59 _ _ ?_)
                refine wp_ret ?_
                refine Exit.then_ret ?_
                have hH := hH.drop (fun _ _ _ => rfl)
                cases h
                exact ret1 rfl hE hle hH (by kernel_rfl)
              · replace h := ifF hc h
                refine wp_skip ?_
                refine Exit.then_normal (hK56 _ _ ?_)
                refine wp_seq_k (fun K hK60 => ?_)
                refine wp_region_from ?_
                refine segO 1 [] [(6, .kv .i 0)] (Os := []) trivial hE hH (by kernel_rfl) (fun a hE => ?_)
                refine wpFrom_end (by kernel_rfl) ?_
                refine Exit.then_normal (hK60 _ _ ?_)
                refine wp_ret ?_
                have hH := hH.drop (fun _ _ _ => rfl)
                cases h
                exact ret1 rfl hE hle hH (by kernel_rfl)
      · intro KK hKK ho
        have hj19 : ∀ (a : Act) (w : World) (G : Gh), G0.le G → EnvR G 75 a [(0, .kv (.ptr 47) p0), (2, .kv .str p2), (6, .kv .i 0), (7, .val (.pointer (some ⟨b12, 0, none⟩))), (8, .kv .i r14)] → Holds w G (tabs σ) (LS.box b12 K52 z18 :: Ls) → KK .normal a w := fun a w G  h1 h2 h3 => hKK a w ⟨G, h1, h2, h3⟩
        replace h := hz18
        refine condE (b := decide (r14 ≥ 0)) hE (by kernel_rfl) (fun hc => ?_) (fun hc => ?_)
        · replace h := ifT hc h
          refine wp_region_from ?_
          obtain ⟨i61, hi61, h⟩ := bs h
          obtain ⟨o62, ho62, h⟩ := bs h
          obtain ⟨x63, hx63, h⟩ := bs h
          refine segO 7 [.pt i61, .ob fs47 o62, .ix K52 x63] [(29, .kv K52 x63)] (Os := [_, _, _]) ⟨hi61, (ob47 (s := σ) ho62), (IxAt.of (k := K52) hx63), trivial⟩ hE hH (by kernel_rfl) (fun a hE => ?_)
          refine stepStB (b := b12) (off := 0) 0 K52 x63 (x' := x63) hE hH (by kernel_rfl) rfl (by kernel_rfl) (fun w G hl17 hE hH => ?_)
          have hle := Gh.le_trans hle hl17
          refine wpFrom_end (by kernel_rfl) ?_
          cases h
          exact hj19 _ _ _  hle (hE.subC (by kernel_rfl)) hH
        · replace h := ifF hc h
          refine wp_skip ?_
          cases h
          exact hj19 _ _ _  hle (hE.subC (by kernel_rfl)) hH

def f68 (p0 : Option Nat) (p1 : Int) (σ : St) : Option (Int × St) :=
  p0 >>= fun i4 =>
  (σ.t47[i4]?) >>= fun o5 =>
  if o5.2.2.2.1 = true then
  some (11, σ)
  else
  if (decide (p1 < 1)) = true then
  some (2, σ)
  else
  p0 >>= fun i11 =>
  (σ.t47[i11]?) >>= fun o12 =>
  some (0, (σ.set47 i11 (o12.1, o12.2.1, p1, o12.2.2.2.1, ())))

theorem f68_ok {p0 : Option Nat} {p1 : Int} {σ : St} {p : Int × St} (h : f68 p0 p1 σ = some p) : Spec Try.prog 68 [.kv (.ptr 47) p0, .kv .i p1] (tabs σ) (.kv .i p.1) (tabs p.2) := by
  refine Spec.intro Try.func68 (by kernel_rfl) rfl (by kernel_rfl) (fun a w G0 Ls hE hH hN => ?_)
  have hle : G0.le G0 := Gh.le_refl G0
  unfold f68 at h
  refine wp_seq_k (fun K hK1 => ?_)
  refine wp_region_from ?_
  refine segO 1 [] [(4, .kv .i 0)] (Os := []) trivial hE hH (by kernel_rfl) (fun a hE => ?_)
  refine wpFrom_end (by kernel_rfl) ?_
  refine Exit.then_normal (hK1 _ _ ?_)
  refine wp_seq_k (fun K hK2 => ?_)
  refine wp_seq_k (fun K hK3 => ?_)
  refine wp_region_from ?_
  obtain ⟨i4, hi4, h⟩ := bs h
  obtain ⟨o5, ho5, h⟩ := bs h
  refine segO 4 [.pt i4, .ob fs47 o5] [(8, .kv .bool o5.2.2.2.1)] (Os := [_, _]) ⟨hi4, (ob47 (s := σ) ho5), trivial⟩ hE hH (by kernel_rfl) (fun a hE => ?_)
  refine wpFrom_end (by kernel_rfl) ?_
  refine Exit.then_normal (hK3 _ _ ?_)
  refine condE (b := o5.2.2.2.1) hE (by kernel_rfl) (fun hc => ?_) (fun hc => ?_)
  · replace h := ifT hc h
    refine wp_seq_k (fun K hK6 => ?_)
    refine wp_region_from ?_
    refine segO 1 [] [(4, .kv .i 11)] (Os := []) trivial hE hH (by kernel_rfl) (fun a hE => ?_)
    refine wpFrom_end (by kernel_rfl) ?_
    refine Exit.then_normal (hK6 _ _ ?_)
    refine wp_ret ?_
    refine Exit.then_ret ?_
    cases h
    exact ret1 rfl hE hle hH (by kernel_rfl)
  · replace h := ifF hc h
    refine wp_skip ?_
    refine Exit.then_normal (hK2 _ _ ?_)
    refine wp_seq_k (fun K hK7 => ?_)
    refine wp_seq_k (fun K hK8 => ?_)
    refine wp_region_from ?_
    refine segO 2 [] [(10, .kv .bool (decide (p1 < 1)))] (Os := []) trivial hE hH (by kernel_rfl) (fun a hE => ?_)
    refine wpFrom_end (by kernel_rfl) ?_
    refine Exit.then_normal (hK8 _ _ ?_)
    refine condE (b := decide (p1 < 1)) hE (by kernel_rfl) (fun hc => ?_) (fun hc => ?_)
    · replace h := ifT hc h
      refine wp_seq_k (fun K hK9 => ?_)
      refine wp_region_from ?_
      refine segO 1 [] [(4, .kv .i 2)] (Os := []) trivial hE hH (by kernel_rfl) (fun a hE => ?_)
      refine wpFrom_end (by kernel_rfl) ?_
      refine Exit.then_normal (hK9 _ _ ?_)
      refine wp_ret ?_
      refine Exit.then_ret ?_
      cases h
      exact ret1 rfl hE hle hH (by kernel_rfl)
    · replace h := ifF hc h
      refine wp_skip ?_
      refine Exit.then_normal (hK7 _ _ ?_)
      refine wp_seq_k (fun K hK10 => ?_)
      refine wp_region_from ?_
      obtain ⟨i11, hi11, h⟩ := bs h
      refine segO 4 [.pt i11] [(12, .kv .i p1), (14, .fldA 47 i11 2)] (Os := [_]) ⟨hi11, trivial⟩ hE hH (by kernel_rfl) (fun a hE => ?_)
      obtain ⟨o12, ho12, h⟩ := bs h
      refine stepStO (t := 47) (j := i11) (off := 2) .i p1 (x' := (o12.1, o12.2.1, p1, o12.2.2.2.1, ())) hE hH (by kernel_rfl) (ob47 (s := σ) ho12) (by kernel_rfl) (upd47 (s := σ)) (fun w G hl1 hE hH => ?_)
      have hle := Gh.le_trans hle hl1
      refine wpFrom_end (by kernel_rfl) ?_
      refine Exit.then_normal (hK10 _ _ ?_)
      refine wp_seq_k (fun K hK13 => ?_)
      refine wp_region_from ?_
      refine segO 1 [] [(4, .kv .i 0)] (Os := []) trivial hE hH (by kernel_rfl) (fun a hE => ?_)
      refine wpFrom_end (by kernel_rfl) ?_
      refine Exit.then_normal (hK13 _ _ ?_)
      refine wp_ret ?_
      cases h
      exact ret1 rfl hE hle hH (by kernel_rfl)

def f51_l0 (p0 : List (List UInt8)) (p1 : List (List UInt8)) (x7 : Int) : Option (Sum Int Bool) :=
  if (decide (x7 < (p0.length : Int))) = true then
  (ix p0 x7) >>= fun x16 =>
  (ix p1 x7) >>= fun x17 =>
  if (!(x16 == x17)) = true then
  some (.inr false)
  else
  f51_l0 p0 p1 (IntKind.wrap .i64 (x7 + 1))
  else
  some (.inl x7)
  partial_fixpoint

def f51 (p0 : List (List UInt8)) (p1 : List (List UInt8)) : Option Bool :=
  if ((p0.length : Int) != (p1.length : Int)) = true then
  some false
  else
  f51_l0 p0 p1 0 >>= fun rr20 => (match rr20 with
  | .inr yy => some yy
  | .inl z19 =>
  some true)

theorem f51_ok {p0 : List (List UInt8)} {p1 : List (List UInt8)} {σ : St} {p : Bool} (h : f51 p0 p1 = some p) : Spec Try.prog 51 [.kv (.list .str) p0, .kv (.list .str) p1] (tabs σ) (.kv .bool p) (tabs σ) := by
  refine Spec.intro Try.func51 (by kernel_rfl) rfl (by kernel_rfl) (fun a w G0 Ls hE hH hN => ?_)
  have hle : G0.le G0 := Gh.le_refl G0
  unfold f51 at h
  refine wp_seq_k (fun K hK1 => ?_)
  refine wp_region_from ?_
  refine segO 1 [] [(4, .kv .bool false)] (Os := []) trivial hE hH (by kernel_rfl) (fun a hE => ?_)
  refine wpFrom_end (by kernel_rfl) ?_
  refine Exit.then_normal (hK1 _ _ ?_)
  refine wp_seq_k (fun K hK2 => ?_)
  refine wp_seq_k (fun K hK3 => ?_)
  refine wp_region_from ?_
  refine segO 5 [] [(10, .kv .bool ((p0.length : Int) != (p1.length : Int)))] (Os := []) trivial hE hH (by kernel_rfl) (fun a hE => ?_)
  refine wpFrom_end (by kernel_rfl) ?_
  refine Exit.then_normal (hK3 _ _ ?_)
  refine condE (b := (p0.length : Int) != (p1.length : Int)) hE (by kernel_rfl) (fun hc => ?_) (fun hc => ?_)
  · replace h := ifT hc h
    refine wp_seq_k (fun K hK4 => ?_)
    refine wp_region_from ?_
    refine segO 1 [] [(4, .kv .bool false)] (Os := []) trivial hE hH (by kernel_rfl) (fun a hE => ?_)
    refine wpFrom_end (by kernel_rfl) ?_
    refine Exit.then_normal (hK4 _ _ ?_)
    refine wp_ret ?_
    refine Exit.then_ret ?_
    cases h
    exact ret1 rfl hE hle hH (by kernel_rfl)
  · replace h := ifF hc h
    refine wp_skip ?_
    refine Exit.then_normal (hK2 _ _ ?_)
    refine wp_seq_k (fun K hK5 => ?_)
    refine wp_seq_k (fun K hK6 => ?_)
    refine wp_region_from ?_
    refine segO 1 [] [(5, .kv .i 0)] (Os := []) trivial hE hH (by kernel_rfl) (fun a hE => ?_)
    refine wpFrom_end (by kernel_rfl) ?_
    refine Exit.then_normal (hK6 _ _ ?_)
    refine wp_block ?_
    obtain ⟨rr20, hrr20, h⟩ := bs h
    refine loop_intro (fun Q8 c hQ hc => ?_)
    have key : ∀ (x7 : Int) (rr : Sum Int Bool), f51_l0 p0 p1 x7 = some rr → ∀ (a : Act) (w : World) (G : Gh), G0.le G → EnvR G 26 a [(0, .kv (.list .str) p0), (1, .kv (.list .str) p1), (4, .kv .bool false), (5, .kv .i x7)] → Holds w G (tabs σ) (Ls) → (∀ z19 : Int, rr = .inl z19 → ∀ (a : Act) (w : World) (G : Gh), G0.le G → EnvR G 26 a [(0, .kv (.list .str) p0), (1, .kv (.list .str) p1), (4, .kv .bool false), (5, .kv .i z19)] → Holds w G (tabs σ) (Ls) → Q8 (.exit 0) a w) → (∀ yy : Bool, rr = .inr yy → ∀ (a : Act) (w : World), PostB Try.prog Try.f51 G0 (.kv .bool yy) (tabs σ) Ls .ret a w → Q8 .ret a w) → Rnd Try.prog c Q8 a w := by
      refine f51_l0.partial_correctness p0 p1 _ ?_
      intro self ih11 x7 rr h a w G  hle hE hH hx9 hret10
      refine rnd_step' hc ?_
      refine wp_seq_k (fun K hK12 => ?_)
      refine wp_seq_k (fun K hK13 => ?_)
      refine wp_region_from ?_
      refine segO 4 [] [(14, .kv .bool (decide (x7 < (p0.length : Int))))] (Os := []) trivial hE hH (by kernel_rfl) (fun a hE => ?_)
      refine wpFrom_end (by kernel_rfl) ?_
      refine Exit.then_normal (hK13 _ _ ?_)
      refine condE (b := decide (x7 < (p0.length : Int))) hE (by kernel_rfl) (fun hc => ?_) (fun hc => ?_)
      · replace h := ifT hc h
        refine wp_skip ?_
        refine Exit.then_normal (hK12 _ _ ?_)
        refine wp_seq_k (fun K hK14 => ?_)
        refine wp_block ?_
        refine wp_seq_k (fun K hK15 => ?_)
        obtain ⟨x16, hx16, h⟩ := bs h
        obtain ⟨x17, hx17, h⟩ := bs h
        refine region_par 8 [] [(0, 0), (0, 0), (0, 0), (0, 0), (0, 0), (0, 0), (0, 0), (0, 0)] [.kv (.list .str) p0, .kv .i x7, .elA .str x16 0, .kv .str x16, .kv (.list .str) p1, .kv .i x7, .elA .str x17 0, .kv .str x17] (fun _ => tabs σ) (fun _ => Ls) (by kernel_rfl) (by kernel_rfl) hE hH
                ⟨⟨⟨⟨⟨⟨⟨⟨trivial,
                anyk (fun k => obR [] (Os := []) trivial (by kernel_rfl) (by kernel_rfl))⟩,
                anyk (fun k => obR [] (Os := []) trivial (by kernel_rfl) (by kernel_rfl))⟩,
                anyk (fun k => obR [.ix .str x16] (Os := [_]) ⟨(IxAt.of (k := .str) hx16), trivial⟩ (by kernel_rfl) (by kernel_rfl))⟩,
                anyk (fun k => obR [] (Os := []) trivial (by kernel_rfl) (by kernel_rfl))⟩,
                anyk (fun k => obR [] (Os := []) trivial (by kernel_rfl) (by kernel_rfl))⟩,
                anyk (fun k => obR [] (Os := []) trivial (by kernel_rfl) (by kernel_rfl))⟩,
                anyk (fun k => obR [.ix .str x17] (Os := [_]) ⟨(IxAt.of (k := .str) hx17), trivial⟩ (by kernel_rfl) (by kernel_rfl))⟩,
                anyk (fun k => obR [] (Os := []) trivial (by kernel_rfl) (by kernel_rfl))⟩ (fun a w G hl1 hE hH => ?_)
        have hle := Gh.le_trans hle hl1
        refine segO 1 [] [(25, .kv .bool (!(x16 == x17)))] (Os := []) trivial hE hH (by kernel_rfl) (fun a hE => ?_)
        refine wpFrom_end (by kernel_rfl) ?_
        refine Exit.then_normal (hK15 _ _ ?_)
        refine condE (b := !(x16 == x17)) hE (by kernel_rfl) (fun hc => ?_) (fun hc => ?_)
        · replace h := ifT hc h
          refine wp_seq_k (fun K hK18 => ?_)
          refine wp_region_from ?_
          refine segO 1 [] [(4, .kv .bool false)] (Os := []) trivial hE hH (by kernel_rfl) (fun a hE => ?_)
          refine wpFrom_end (by kernel_rfl) ?_
          refine Exit.then_normal (hK18 _ _ ?_)
          refine wp_ret ?_
          refine Exit.in_ret ?_
          refine Exit.then_ret ?_
          refine Exit.then_ret ?_
          cases h
          exact hret10 _ rfl _ _ (ret1 rfl hE hle hH (by kernel_rfl))
        · replace h := ifF hc h
          refine wp_skip ?_
          refine Exit.in_normal ?_
          refine Exit.then_normal (hK14 _ _ ?_)
          refine wp_region_from ?_
          refine segO 3 [] [(5, .kv .i (IntKind.wrap .i64 (x7 + 1)))] (Os := []) trivial hE hH (by kernel_rfl) (fun a hE => ?_)
          refine wpFrom_end (by kernel_rfl) ?_
          refine Exit.then_normal ?_
          exact ih11 _ _ h _ _ _  hle (hE.subC (by kernel_rfl)) hH hx9 hret10
      · replace h := ifF hc h
        refine wp_exit ?_
        refine Exit.then_exit ?_
        refine Exit.then_exit ?_
        cases h
        exact hx9 _ rfl _ _ _  hle (hE.subC (by kernel_rfl)) hH
    refine key _ _ hrr20 _ _ _  hle (hE.subC (by kernel_rfl)) hH ?_ ?_
    · intro z19 hz a w G  hle hE hH
      subst hz
      rw [hQ]
      dsimp only at h
      refine Exit.in_eq ?_
      refine Exit.then_normal (hK5 _ _ ?_)
      refine wp_seq_k (fun K hK21 => ?_)
      refine wp_region_from ?_
      refine segO 1 [] [(4, .kv .bool true)] (Os := []) trivial hE hH (by kernel_rfl) (fun a hE => ?_)
      refine wpFrom_end (by kernel_rfl) ?_
      refine Exit.then_normal (hK21 _ _ ?_)
      refine wp_ret ?_
      cases h
      exact ret1 rfl hE hle hH (by kernel_rfl)
    · intro yy hz a w hp
      subst hz
      dsimp only at h
      cases h
      rw [hQ]
      refine Exit.in_ret ?_
      refine Exit.then_ret ?_
      exact hp

def f105 (p0 : Option Nat) (p1 : List UInt8) (σ : St) : Option (K52.den × Int) :=
  p0 >>= fun i5 =>
  (σ.t47[i5]?) >>= fun o6 =>
  if o6.2.2.2.1 = true then
  some (([], [], [], ()), 11)
  else
  f34 p0 p1 σ >>= fun r9 =>
  if (decide (r9 < 0)) = true then
  some (([], [], [], ()), 8)
  else
  p0 >>= fun i14 =>
  (σ.t47[i14]?) >>= fun o15 =>
  (ix o15.2.1 r9) >>= fun x16 =>
  some (x16, 0)

theorem f105_ok {p0 : Option Nat} {p1 : List UInt8} {σ : St} {p : K52.den × Int} (h : f105 p0 p1 σ = some p) : Spec Try.prog 105 [.kv (.ptr 47) p0, .kv .str p1] (tabs σ) (.tup [⟨K52, p.1⟩, ⟨.i, p.2⟩]) (tabs σ) := by
  refine Spec.intro Try.func105 (by kernel_rfl) rfl (by kernel_rfl) (fun a w G0 Ls hE hH hN => ?_)
  have hle : G0.le G0 := Gh.le_refl G0
  unfold f105 at h
  refine wp_seq_k (fun K hK1 => ?_)
  refine wp_region_from ?_
  refine stepAlloc (e := 52) (d := (some 4)) K52  hE hH (by kernel_rfl) (by kernel_rfl) (fun b2 a w G hl1 hE hH => ?_)
  have hle := Gh.le_trans hle hl1
  refine segO 1 [] [(5, .kv .i 0)] (Os := []) trivial hE hH (by kernel_rfl) (fun a hE => ?_)
  refine wpFrom_end (by kernel_rfl) ?_
  refine Exit.then_normal (hK1 _ _ ?_)
  refine wp_seq_k (fun K hK3 => ?_)
  refine wp_seq_k (fun K hK4 => ?_)
  refine wp_region_from ?_
  obtain ⟨i5, hi5, h⟩ := bs h
  obtain ⟨o6, ho6, h⟩ := bs h
  refine segO 4 [.pt i5, .ob fs47 o6] [(10, .kv .bool o6.2.2.2.1)] (Os := [_, _]) ⟨hi5, (ob47 (s := σ) ho6), trivial⟩ hE hH (by kernel_rfl) (fun a hE => ?_)
  refine wpFrom_end (by kernel_rfl) ?_
  refine Exit.then_normal (hK4 _ _ ?_)
  refine condE (b := o6.2.2.2.1) hE (by kernel_rfl) (fun hc => ?_) (fun hc => ?_)
  · replace h := ifT hc h
    refine wp_seq_k (fun K hK7 => ?_)
    refine wp_region_from ?_
    refine stepBuild (d := (some 11)) K52 ([], [], [], ()) rfl hE (by kernel_rfl) (by kernel_rfl) (fun a hE => ?_)
    refine stepStB (b := b2) (off := 0) 0 K52 ([], [], [], ()) (x' := ([], [], [], ())) hE hH (by kernel_rfl) rfl (by kernel_rfl) (fun w G hl2 hE hH => ?_)
    have hle := Gh.le_trans hle hl2
    refine segO 1 [] [(5, .kv .i 11)] (Os := []) trivial hE hH (by kernel_rfl) (fun a hE => ?_)
    refine wpFrom_end (by kernel_rfl) ?_
    refine Exit.then_normal (hK7 _ _ ?_)
    refine wp_ret ?_
    refine Exit.then_ret ?_
    cases h
    exact ret2c rfl hE hle hH (by kernel_rfl) (by kernel_rfl) (by kernel_rfl) (by kernel_rfl)
  · replace h := ifF hc h
    refine wp_skip ?_
    refine Exit.then_normal (hK3 _ _ ?_)
    refine wp_seq_k (fun K hK8 => ?_)
    refine wp_region_from ?_
    refine segO 2 [] [(12, .kv (.ptr 47) p0), (13, .kv .str p1)] (Os := []) trivial hE hH (by kernel_rfl) (fun a hE => ?_)
    obtain ⟨r9, hr9, h⟩ := bs h
    refine stepCall (d := (some 14)) (f34_ok hr9) hE hH (NoHole.cons (fun _ _ _ => rfl) hN) (by kernel_rfl) (by kernel_rfl) trivial (fun a w G hl3 hE hH => ?_)
    have hle := Gh.le_trans hle hl3
    refine segO 1 [] [(6, .kv .i r9)] (Os := []) trivial hE hH (by kernel_rfl) (fun a hE => ?_)
    refine wpFrom_end (by kernel_rfl) ?_
    refine Exit.then_normal (hK8 _ _ ?_)
    refine wp_seq_k (fun K hK10 => ?_)
    refine wp_seq_k (fun K hK11 => ?_)
    refine wp_region_from ?_
    refine segO 2 [] [(16, .kv .bool (decide (r9 < 0)))] (Os := []) trivial hE hH (by kernel_rfl) (fun a hE => ?_)
    refine wpFrom_end (by kernel_rfl) ?_
    refine Exit.then_normal (hK11 _ _ ?_)
    refine condE (b := decide (r9 < 0)) hE (by kernel_rfl) (fun hc => ?_) (fun hc => ?_)
    · replace h := ifT hc h
      refine wp_seq_k (fun K hK12 => ?_)
      refine wp_region_from ?_
      refine stepBuild (d := (some 17)) K52 ([], [], [], ()) rfl hE (by kernel_rfl) (by kernel_rfl) (fun a hE => ?_)
      refine stepStB (b := b2) (off := 0) 0 K52 ([], [], [], ()) (x' := ([], [], [], ())) hE hH (by kernel_rfl) rfl (by kernel_rfl) (fun w G hl4 hE hH => ?_)
      have hle := Gh.le_trans hle hl4
      refine segO 1 [] [(5, .kv .i 8)] (Os := []) trivial hE hH (by kernel_rfl) (fun a hE => ?_)
      refine wpFrom_end (by kernel_rfl) ?_
      refine Exit.then_normal (hK12 _ _ ?_)
      refine wp_ret ?_
      refine Exit.then_ret ?_
      cases h
      exact ret2c rfl hE hle hH (by kernel_rfl) (by kernel_rfl) (by kernel_rfl) (by kernel_rfl)
    · replace h := ifF hc h
      refine wp_skip ?_
      refine Exit.then_normal (hK10 _ _ ?_)
      refine wp_seq_k (fun K hK13 => ?_)
      refine wp_region_from ?_
      obtain ⟨i14, hi14, h⟩ := bs h
      obtain ⟨o15, ho15, h⟩ := bs h
      obtain ⟨x16, hx16, h⟩ := bs h
      refine segO 7 [.pt i14, .ob fs47 o15, .ix K52 x16] [(24, .kv K52 x16)] (Os := [_, _, _]) ⟨hi14, (ob47 (s := σ) ho15), (IxAt.of (k := K52) hx16), trivial⟩ hE hH (by kernel_rfl) (fun a hE => ?_)
      refine stepStB (b := b2) (off := 0) 0 K52 x16 (x' := x16) hE hH (by kernel_rfl) rfl (by kernel_rfl) (fun w G hl5 hE hH => ?_)
      have hle := Gh.le_trans hle hl5
      refine segO 1 [] [(5, .kv .i 0)] (Os := []) trivial hE hH (by kernel_rfl) (fun a hE => ?_)
      refine wpFrom_end (by kernel_rfl) ?_
      refine Exit.then_normal (hK13 _ _ ?_)
      refine wp_ret ?_
      cases h
      exact ret2c rfl hE hle hH (by kernel_rfl) (by kernel_rfl) (by kernel_rfl) (by kernel_rfl)

def f64 (p0 : Option Nat) (p1 : List UInt8) (σ : St) : Option (Int × St) :=
  f105 p0 p1 σ >>= fun r3 =>
  if (r3.2 != 0) = true then
  some (r3.2, σ)
  else
  f104 p0 σ >>= fun r10 =>
  if r10.1 = true then
  some (11, r10.2)
  else
  if r3.1.2.1.length + r3.1.2.2.1.length ≤ 9223372036854775807 then
  f103 p0 (p1, r3.1.2.1 ++ r3.1.2.2.1, [], ()) r10.2 >>= fun r14 =>
  some (0, r14.2)
  else none

theorem f64_ok {p0 : Option Nat} {p1 : List UInt8} {σ : St} {p : Int × St} (h : f64 p0 p1 σ = some p) : Spec Try.prog 64 [.kv (.ptr 47) p0, .kv .str p1] (tabs σ) (.kv .i p.1) (tabs p.2) := by
  refine Spec.intro Try.func64 (by kernel_rfl) rfl (by kernel_rfl) (fun a w G0 Ls hE hH hN => ?_)
  have hle : G0.le G0 := Gh.le_refl G0
  unfold f64 at h
  refine wp_seq_k (fun K hK1 => ?_)
  refine wp_region_from ?_
  refine segO 1 [] [(4, .kv .i 0)] (Os := []) trivial hE hH (by kernel_rfl) (fun a hE => ?_)
  refine wpFrom_end (by kernel_rfl) ?_
  refine Exit.then_normal (hK1 _ _ ?_)
  refine wp_seq_k (fun K hK2 => ?_)
  refine wp_region_from ?_
  refine segO 2 [] [(8, .kv (.ptr 47) p0), (9, .kv .str p1)] (Os := []) trivial hE hH (by kernel_rfl) (fun a hE => ?_)
  obtain ⟨r3, hr3, h⟩ := bs h
  refine stepCall (d := (some 10)) (f105_ok hr3) hE hH hN (by kernel_rfl) (by kernel_rfl) trivial (fun a w G hl1 hE hH => ?_)
  have hle := Gh.le_trans hle hl1
  refine segO 3 [] [(11, .kv K52 r3.1), (12, .kv .i r3.2)] (Os := []) trivial hE hH (by kernel_rfl) (fun a hE => ?_)
  refine stepAlloc (e := 52) (d := (some 5)) K52  hE hH (by kernel_rfl) (by kernel_rfl) (fun b4 a w G hl2 hE hH => ?_)
  have hle := Gh.le_trans hle hl2
  refine stepStB (b := b4) (off := 0) 0 K52 r3.1 (x' := r3.1) hE hH (by kernel_rfl) rfl (by kernel_rfl) (fun w G hl3 hE hH => ?_)
  have hle := Gh.le_trans hle hl3
  refine segO 1 [] [(6, .kv .i r3.2)] (Os := []) trivial hE hH (by kernel_rfl) (fun a hE => ?_)
  refine wpFrom_end (by kernel_rfl) ?_
  refine Exit.then_normal (hK2 _ _ ?_)
  refine wp_seq_k (fun K hK5 => ?_)
  refine wp_seq_k (fun K hK6 => ?_)
  refine wp_region_from ?_
  refine segO 2 [] [(14, .kv .bool (r3.2 != 0))] (Os := []) trivial hE hH (by kernel_rfl) (fun a hE => ?_)
  refine wpFrom_end (by kernel_rfl) ?_
  refine Exit.then_normal (hK6 _ _ ?_)
  refine condE (b := r3.2 != 0) hE (by kernel_rfl) (fun hc => ?_) (fun hc => ?_)
  · replace h := ifT hc h
    refine wp_seq_k (fun K hK7 => ?_)
    refine wp_region_from ?_
    refine segO 2 [] [(4, .kv .i r3.2)] (Os := []) trivial hE hH (by kernel_rfl) (fun a hE => ?_)
    refine wpFrom_end (by kernel_rfl) ?_
    refine Exit.then_normal (hK7 _ _ ?_)
    refine wp_ret ?_
    refine Exit.then_ret ?_
    have hH := hH.drop (fun _ _ _ => rfl)
    cases h
    exact ret1 rfl hE hle hH (by kernel_rfl)
  · replace h := ifF hc h
    refine wp_skip ?_
    refine Exit.then_normal (hK5 _ _ ?_)
    refine wp_seq_k (fun K hK8 => ?_)
    refine wp_seq_k (fun K hK9 => ?_)
    refine wp_region_from ?_
    refine segO 1 [] [(16, .kv (.ptr 47) p0)] (Os := []) trivial hE hH (by kernel_rfl) (fun a hE => ?_)
    obtain ⟨r10, hr10, h⟩ := bs h
    refine stepCall (d := (some 17)) (f104_ok hr10) hE hH (NoHole.cons (fun _ _ _ => rfl) hN) (by kernel_rfl) (by kernel_rfl) trivial (fun a w G hl4 hE hH => ?_)
    have hle := Gh.le_trans hle hl4
    refine wpFrom_end (by kernel_rfl) ?_
    refine Exit.then_normal (hK9 _ _ ?_)
    refine condE (b := r10.1) hE (by kernel_rfl) (fun hc => ?_) (fun hc => ?_)
    · replace h := ifT hc h
      refine wp_seq_k (fun K hK11 => ?_)
      refine wp_region_from ?_
      refine segO 1 [] [(4, .kv .i 11)] (Os := []) trivial hE hH (by kernel_rfl) (fun a hE => ?_)
      refine wpFrom_end (by kernel_rfl) ?_
      refine Exit.then_normal (hK11 _ _ ?_)
      refine wp_ret ?_
      refine Exit.then_ret ?_
      have hH := hH.drop (fun _ _ _ => rfl)
      cases h
      exact ret1 rfl hE hle hH (by kernel_rfl)
    · replace h := ifF hc h
      refine wp_skip ?_
      refine Exit.then_normal (hK8 _ _ ?_)
      refine wp_seq_k (fun K hK12 => ?_)
      refine wp_region_from ?_
      obtain ⟨q13, h⟩ := gd h
      refine segO 7 [.bx 0 K52 r3.1, .bx 0 K52 r3.1] [(18, .kv (.ptr 47) p0), (19, .kv .str p1), (24, .kv .str (r3.1.2.1 ++ r3.1.2.2.1))] (Os := [_, _, _]) ⟨(rfl : (LS.box b4 K52 r3.1 :: Ls)[0]? = some (LS.box b4 K52 r3.1)), (rfl : (LS.box b4 K52 r3.1 :: Ls)[0]? = some (LS.box b4 K52 r3.1)), q13, trivial⟩ hE hH (by kernel_rfl) (fun a hE => ?_)
      refine stepBuild (d := (some 25)) K52 (p1, r3.1.2.1 ++ r3.1.2.2.1, [], ()) rfl hE (by kernel_rfl) (by kernel_rfl) (fun a hE => ?_)
      obtain ⟨r14, hr14, h⟩ := bs h
      refine stepCall (d := (some 26)) (f103_ok hr14) hE hH (NoHole.cons (fun _ _ _ => rfl) hN) (by kernel_rfl) (by kernel_rfl) trivial (fun a w G hl5 hE hH => ?_)
      have hle := Gh.le_trans hle hl5
      refine wpFrom_end (by kernel_rfl) ?_
      refine Exit.then_normal (hK12 _ _ ?_)
      refine wp_seq_k (fun K hK15 => ?_)
      refine wp_region_from ?_
      refine segO 1 [] [(4, .kv .i 0)] (Os := []) trivial hE hH (by kernel_rfl) (fun a hE => ?_)
      refine wpFrom_end (by kernel_rfl) ?_
      refine Exit.then_normal (hK15 _ _ ?_)
      refine wp_ret ?_
      have hH := hH.drop (fun _ _ _ => rfl)
      cases h
      exact ret1 rfl hE hle hH (by kernel_rfl)

def f65 (p0 : Option Nat) (p1 : List UInt8) (p2 : Int) (σ : St) : Option (Int × St) :=
  f105 p0 p1 σ >>= fun r3 =>
  if (r3.2 != 0) = true then
  some (r3.2, σ)
  else
  if (decide (p2 < 0)) = true then
  some (3, σ)
  else
  if (decide (p2 > (IntKind.wrap .i64 ((r3.1.2.1.length : Int) + (r3.1.2.2.1.length : Int))))) = true then
  some (3, σ)
  else
  f104 p0 σ >>= fun r14 =>
  if r14.1 = true then
  some (11, r14.2)
  else
  if (decide (p2 ≤ (r3.1.2.1.length : Int))) = true then
  if (0 : Int) ≤ p2 ∧ p2 ≤ (r3.1.2.1.length : Int) then
  f103 p0 (p1, r3.1.2.1.take (Int.toNat p2), [], ()) r14.2 >>= fun r19 =>
  some (0, r19.2)
  else none
  else
  if (0 : Int) ≤ (IntKind.wrap .i64 (p2 - (r3.1.2.1.length : Int))) ∧ (IntKind.wrap .i64 (p2 - (r3.1.2.1.length : Int))) ≤ (r3.1.2.2.1.length : Int) then
  f103 p0 (p1, r3.1.2.1, r3.1.2.2.1.take (Int.toNat (IntKind.wrap .i64 (p2 - (r3.1.2.1.length : Int)))), ()) r14.2 >>= fun r22 =>
  some (0, r22.2)
  else none

theorem f65_ok {p0 : Option Nat} {p1 : List UInt8} {p2 : Int} {σ : St} {p : Int × St} (h : f65 p0 p1 p2 σ = some p) : Spec Try.prog 65 [.kv (.ptr 47) p0, .kv .str p1, .kv .i p2] (tabs σ) (.kv .i p.1) (tabs p.2) := by
  refine Spec.intro Try.func65 (by kernel_rfl) rfl (by kernel_rfl) (fun a w G0 Ls hE hH hN => ?_)
  have hle : G0.le G0 := Gh.le_refl G0
  unfold f65 at h
  refine wp_seq_k (fun K hK1 => ?_)
  refine wp_region_from ?_
  refine segO 1 [] [(6, .kv .i 0)] (Os := []) trivial hE hH (by kernel_rfl) (fun a hE => ?_)
  refine wpFrom_end (by kernel_rfl) ?_
  refine Exit.then_normal (hK1 _ _ ?_)
  refine wp_seq_k (fun K hK2 => ?_)
  refine wp_region_from ?_
  refine segO 2 [] [(10, .kv (.ptr 47) p0), (11, .kv .str p1)] (Os := []) trivial hE hH (by kernel_rfl) (fun a hE => ?_)
  obtain ⟨r3, hr3, h⟩ := bs h
  refine stepCall (d := (some 12)) (f105_ok hr3) hE hH hN (by kernel_rfl) (by kernel_rfl) trivial (fun a w G hl1 hE hH => ?_)
  have hle := Gh.le_trans hle hl1
  refine segO 3 [] [(13, .kv K52 r3.1), (14, .kv .i r3.2)] (Os := []) trivial hE hH (by kernel_rfl) (fun a hE => ?_)
  refine stepAlloc (e := 52) (d := (some 7)) K52  hE hH (by kernel_rfl) (by kernel_rfl) (fun b4 a w G hl2 hE hH => ?_)
  have hle := Gh.le_trans hle hl2
  refine stepStB (b := b4) (off := 0) 0 K52 r3.1 (x' := r3.1) hE hH (by kernel_rfl) rfl (by kernel_rfl) (fun w G hl3 hE hH => ?_)
  have hle := Gh.le_trans hle hl3
  refine segO 1 [] [(8, .kv .i r3.2)] (Os := []) trivial hE hH (by kernel_rfl) (fun a hE => ?_)
  refine wpFrom_end (by kernel_rfl) ?_
  refine Exit.then_normal (hK2 _ _ ?_)
  refine wp_seq_k (fun K hK5 => ?_)
  refine wp_seq_k (fun K hK6 => ?_)
  refine wp_region_from ?_
  refine segO 2 [] [(16, .kv .bool (r3.2 != 0))] (Os := []) trivial hE hH (by kernel_rfl) (fun a hE => ?_)
  refine wpFrom_end (by kernel_rfl) ?_
  refine Exit.then_normal (hK6 _ _ ?_)
  refine condE (b := r3.2 != 0) hE (by kernel_rfl) (fun hc => ?_) (fun hc => ?_)
  · replace h := ifT hc h
    refine wp_seq_k (fun K hK7 => ?_)
    refine wp_region_from ?_
    refine segO 2 [] [(6, .kv .i r3.2)] (Os := []) trivial hE hH (by kernel_rfl) (fun a hE => ?_)
    refine wpFrom_end (by kernel_rfl) ?_
    refine Exit.then_normal (hK7 _ _ ?_)
    refine wp_ret ?_
    refine Exit.then_ret ?_
    have hH := hH.drop (fun _ _ _ => rfl)
    cases h
    exact ret1 rfl hE hle hH (by kernel_rfl)
  · replace h := ifF hc h
    refine wp_skip ?_
    refine Exit.then_normal (hK5 _ _ ?_)
    refine wp_seq_k (fun K hK8 => ?_)
    refine wp_seq_k (fun K hK9 => ?_)
    refine wp_region_from ?_
    refine segO 3 [] [(20, .kv .bool (decide (p2 < 0)))] (Os := []) trivial hE hH (by kernel_rfl) (fun a hE => ?_)
    by_cases hc : (decide (p2 < 0)) = true
    · replace h := ifT hc h
      have hE := hE.setB 20 (by kernel_rfl) hc
      refine segO 10 [] [(30, .kv .bool true)] (Os := []) trivial hE hH (by kernel_rfl) (fun a hE => ?_)
      refine wpFrom_end (by kernel_rfl) ?_
      refine Exit.then_normal (hK9 _ _ ?_)
      refine condT hE (by kernel_rfl) rfl ?_
      refine wp_seq_k (fun K hK10 => ?_)
      refine wp_region_from ?_
      refine segO 1 [] [(6, .kv .i 3)] (Os := []) trivial hE hH (by kernel_rfl) (fun a hE => ?_)
      refine wpFrom_end (by kernel_rfl) ?_
      refine Exit.then_normal (hK10 _ _ ?_)
      refine wp_ret ?_
      refine Exit.then_ret ?_
      have hH := hH.drop (fun _ _ _ => rfl)
      cases h
      exact ret1 rfl hE hle hH (by kernel_rfl)
    · replace h := ifN hc h
      have hE := hE.setB 20 (by kernel_rfl) (bf hc)
      refine segO 10 [.bx 0 K52 r3.1, .bx 0 K52 r3.1] [(30, .kv .bool (decide (p2 > (IntKind.wrap .i64 ((r3.1.2.1.length : Int) + (r3.1.2.2.1.length : Int))))))] (Os := [_, _]) ⟨(rfl : (LS.box b4 K52 r3.1 :: Ls)[0]? = some (LS.box b4 K52 r3.1)), (rfl : (LS.box b4 K52 r3.1 :: Ls)[0]? = some (LS.box b4 K52 r3.1)), trivial⟩ hE hH (by kernel_rfl) (fun a hE => ?_)
      refine wpFrom_end (by kernel_rfl) ?_
      refine Exit.then_normal (hK9 _ _ ?_)
      refine condE (b := decide (p2 > (IntKind.wrap .i64 ((r3.1.2.1.length : Int) + (r3.1.2.2.1.length : Int))))) hE (by kernel_rfl) (fun hc => ?_) (fun hc => ?_)
      · replace h := ifT hc h
        refine wp_seq_k (fun K hK11 => ?_)
        refine wp_region_from ?_
        refine segO 1 [] [(6, .kv .i 3)] (Os := []) trivial hE hH (by kernel_rfl) (fun a hE => ?_)
        refine wpFrom_end (by kernel_rfl) ?_
        refine Exit.then_normal (hK11 _ _ ?_)
        refine wp_ret ?_
        refine Exit.then_ret ?_
        have hH := hH.drop (fun _ _ _ => rfl)
        cases h
        exact ret1 rfl hE hle hH (by kernel_rfl)
      · replace h := ifF hc h
        refine wp_skip ?_
        refine Exit.then_normal (hK8 _ _ ?_)
        refine wp_seq_k (fun K hK12 => ?_)
        refine wp_seq_k (fun K hK13 => ?_)
        refine wp_region_from ?_
        refine segO 1 [] [(31, .kv (.ptr 47) p0)] (Os := []) trivial hE hH (by kernel_rfl) (fun a hE => ?_)
        obtain ⟨r14, hr14, h⟩ := bs h
        refine stepCall (d := (some 32)) (f104_ok hr14) hE hH (NoHole.cons (fun _ _ _ => rfl) hN) (by kernel_rfl) (by kernel_rfl) trivial (fun a w G hl4 hE hH => ?_)
        have hle := Gh.le_trans hle hl4
        refine wpFrom_end (by kernel_rfl) ?_
        refine Exit.then_normal (hK13 _ _ ?_)
        refine condE (b := r14.1) hE (by kernel_rfl) (fun hc => ?_) (fun hc => ?_)
        · replace h := ifT hc h
          refine wp_seq_k (fun K hK15 => ?_)
          refine wp_region_from ?_
          refine segO 1 [] [(6, .kv .i 11)] (Os := []) trivial hE hH (by kernel_rfl) (fun a hE => ?_)
          refine wpFrom_end (by kernel_rfl) ?_
          refine Exit.then_normal (hK15 _ _ ?_)
          refine wp_ret ?_
          refine Exit.then_ret ?_
          have hH := hH.drop (fun _ _ _ => rfl)
          cases h
          exact ret1 rfl hE hle hH (by kernel_rfl)
        · replace h := ifF hc h
          refine wp_skip ?_
          refine Exit.then_normal (hK12 _ _ ?_)
          refine wp_seq_k (fun K hK16 => ?_)
          refine wp_seq_k (fun K hK17 => ?_)
          refine wp_region_from ?_
          refine segO 5 [.bx 0 K52 r3.1] [(37, .kv .bool (decide (p2 ≤ (r3.1.2.1.length : Int))))] (Os := [_]) ⟨(rfl : (LS.box b4 K52 r3.1 :: Ls)[0]? = some (LS.box b4 K52 r3.1)), trivial⟩ hE hH (by kernel_rfl) (fun a hE => ?_)
          refine wpFrom_end (by kernel_rfl) ?_
          refine Exit.then_normal (hK17 _ _ ?_)
          refine condE (b := decide (p2 ≤ (r3.1.2.1.length : Int))) hE (by kernel_rfl) (fun hc => ?_) (fun hc => ?_)
          · replace h := ifT hc h
            refine wp_region_from ?_
            obtain ⟨q18, h⟩ := gd h
            refine segO 6 [.bx 0 K52 r3.1] [(38, .kv (.ptr 47) p0), (39, .kv .str p1), (43, .kv .str (r3.1.2.1.take (Int.toNat p2)))] (Os := [_, _]) ⟨(rfl : (LS.box b4 K52 r3.1 :: Ls)[0]? = some (LS.box b4 K52 r3.1)), q18, trivial⟩ hE hH (by kernel_rfl) (fun a hE => ?_)
            refine stepBuild (d := (some 44)) K52 (p1, r3.1.2.1.take (Int.toNat p2), [], ()) rfl hE (by kernel_rfl) (by kernel_rfl) (fun a hE => ?_)
            obtain ⟨r19, hr19, h⟩ := bs h
            refine stepCall (d := (some 45)) (f103_ok hr19) hE hH (NoHole.cons (fun _ _ _ => rfl) hN) (by kernel_rfl) (by kernel_rfl) trivial (fun a w G hl5 hE hH => ?_)
            have hle := Gh.le_trans hle hl5
            refine wpFrom_end (by kernel_rfl) ?_
            refine Exit.then_normal (hK16 _ _ ?_)
            refine wp_seq_k (fun K hK20 => ?_)
            refine wp_region_from ?_
            refine segO 1 [] [(6, .kv .i 0)] (Os := []) trivial hE hH (by kernel_rfl) (fun a hE => ?_)
            refine wpFrom_end (by kernel_rfl) ?_
            refine Exit.then_normal (hK20 _ _ ?_)
            refine wp_ret ?_
            have hH := hH.drop (fun _ _ _ => rfl)
            cases h
            exact ret1 rfl hE hle hH (by kernel_rfl)
          · replace h := ifF hc h
            obtain ⟨q21, h⟩ := gd h
            refine region_par 13 [] [(0, 0), (0, 0), (0, 0), (0, 0), (0, 0), (0, 0), (0, 0), (0, 0), (0, 0), (0, 0), (0, 0), (0, 0), (0, 0)] [.kv (.ptr 47) p0, .kv .str p1, .val (.pointer (some ⟨b4, 1, none⟩)), .kv .str r3.1.2.1, .val (.pointer (some ⟨b4, 2, none⟩)), .kv .str r3.1.2.2.1, .kv .i p2, .val (.pointer (some ⟨b4, 1, none⟩)), .kv .str r3.1.2.1, .kv .i (r3.1.2.1.length : Int), .kv .i (IntKind.wrap .i64 (p2 - (r3.1.2.1.length : Int))), .kv .str (r3.1.2.2.1.take (Int.toNat (IntKind.wrap .i64 (p2 - (r3.1.2.1.length : Int))))), .kv K52 (p1, r3.1.2.1, r3.1.2.2.1.take (Int.toNat (IntKind.wrap .i64 (p2 - (r3.1.2.1.length : Int)))), ())] (fun _ => tabs r14.2) (fun _ => LS.box b4 K52 r3.1 :: Ls) (by kernel_rfl) (by kernel_rfl) hE hH
                    ⟨⟨⟨⟨⟨⟨⟨⟨⟨⟨⟨⟨⟨trivial,
                    anyk (fun k => obR [] (Os := []) trivial (by kernel_rfl) (by kernel_rfl))⟩,
                    anyk (fun k => obR [] (Os := []) trivial (by kernel_rfl) (by kernel_rfl))⟩,
                    anyk (fun k => obR [] (Os := []) trivial (by kernel_rfl) (by kernel_rfl))⟩,
                    anyk (fun k => obR [.bx 0 K52 r3.1] (Os := [_]) ⟨(rfl : (LS.box b4 K52 r3.1 :: Ls)[0]? = some (LS.box b4 K52 r3.1)), trivial⟩ (by kernel_rfl) (by kernel_rfl))⟩,
                    anyk (fun k => obR [] (Os := []) trivial (by kernel_rfl) (by kernel_rfl))⟩,
                    anyk (fun k => obR [.bx 0 K52 r3.1] (Os := [_]) ⟨(rfl : (LS.box b4 K52 r3.1 :: Ls)[0]? = some (LS.box b4 K52 r3.1)), trivial⟩ (by kernel_rfl) (by kernel_rfl))⟩,
                    anyk (fun k => obR [] (Os := []) trivial (by kernel_rfl) (by kernel_rfl))⟩,
                    anyk (fun k => obR [] (Os := []) trivial (by kernel_rfl) (by kernel_rfl))⟩,
                    anyk (fun k => obR [.bx 0 K52 r3.1] (Os := [_]) ⟨(rfl : (LS.box b4 K52 r3.1 :: Ls)[0]? = some (LS.box b4 K52 r3.1)), trivial⟩ (by kernel_rfl) (by kernel_rfl))⟩,
                    anyk (fun k => obR [] (Os := []) trivial (by kernel_rfl) (by kernel_rfl))⟩,
                    anyk (fun k => obR [] (Os := []) trivial (by kernel_rfl) (by kernel_rfl))⟩,
                    anyk (fun k => obR [] (Os := [_]) ⟨q21, trivial⟩ (by kernel_rfl) (by kernel_rfl))⟩,
                    anyk (fun k => obB (d := (some 58)) K52 (p1, r3.1.2.1, r3.1.2.2.1.take (Int.toNat (IntKind.wrap .i64 (p2 - (r3.1.2.1.length : Int)))), ()) rfl (by kernel_rfl) (by kernel_rfl) rfl)⟩ (fun a w G hl6 hE hH => ?_)
            have hle := Gh.le_trans hle hl6
            obtain ⟨r22, hr22, h⟩ := bs h
            refine stepCall (d := (some 59)) (f103_ok hr22) hE hH (NoHole.cons (fun _ _ _ => rfl) hN) (by kernel_rfl) (by kernel_rfl) trivial (fun a w G hl7 hE hH => ?_)
            have hle := Gh.le_trans hle hl7
            refine wpFrom_end (by kernel_rfl) ?_
            refine Exit.then_normal (hK16 _ _ ?_)
            refine wp_seq_k (fun K hK23 => ?_)
            refine wp_region_from ?_
            refine segO 1 [] [(6, .kv .i 0)] (Os := []) trivial hE hH (by kernel_rfl) (fun a hE => ?_)
            refine wpFrom_end (by kernel_rfl) ?_
            refine Exit.then_normal (hK23 _ _ ?_)
            refine wp_ret ?_
            have hH := hH.drop (fun _ _ _ => rfl)
            cases h
            exact ret1 rfl hE hle hH (by kernel_rfl)

def f66 (p0 : Option Nat) (p1 : List UInt8) (p2 : List UInt8) (σ : St) : Option (Int × St) :=
  p0 >>= fun i4 =>
  (σ.t47[i4]?) >>= fun o5 =>
  if o5.2.2.2.1 = true then
  some (11, σ)
  else
  f102 p1 >>= fun r9 =>
  if (!r9) = true then
  some (2, σ)
  else
  f102 p2 >>= fun r11 =>
  if (!r11) = true then
  some (2, σ)
  else
  f105 p0 p1 σ >>= fun r14 =>
  if (r14.2 != 0) = true then
  some (r14.2, σ)
  else
  if (!(r14.1.2.2.1 == [])) = true then
  some (12, σ)
  else
  f104 p0 σ >>= fun r24 =>
  if r24.1 = true then
  some (11, r24.2)
  else
  f106 p0 p1 r24.2 >>= fun r27 =>
  f103 p0 (p2, r14.1.2.1, [], ()) r27.2 >>= fun r29 =>
  some (0, r29.2)

theorem f66_ok {p0 : Option Nat} {p1 : List UInt8} {p2 : List UInt8} {σ : St} {p : Int × St} (h : f66 p0 p1 p2 σ = some p) : Spec Try.prog 66 [.kv (.ptr 47) p0, .kv .str p1, .kv .str p2] (tabs σ) (.kv .i p.1) (tabs p.2) := by
  refine Spec.intro Try.func66 (by kernel_rfl) rfl (by kernel_rfl) (fun a w G0 Ls hE hH hN => ?_)
  have hle : G0.le G0 := Gh.le_refl G0
  unfold f66 at h
  refine wp_seq_k (fun K hK1 => ?_)
  refine wp_region_from ?_
  refine segO 1 [] [(6, .kv .i 0)] (Os := []) trivial hE hH (by kernel_rfl) (fun a hE => ?_)
  refine wpFrom_end (by kernel_rfl) ?_
  refine Exit.then_normal (hK1 _ _ ?_)
  refine wp_seq_k (fun K hK2 => ?_)
  refine wp_seq_k (fun K hK3 => ?_)
  refine wp_region_from ?_
  obtain ⟨i4, hi4, h⟩ := bs h
  obtain ⟨o5, ho5, h⟩ := bs h
  refine segO 4 [.pt i4, .ob fs47 o5] [(12, .kv .bool o5.2.2.2.1)] (Os := [_, _]) ⟨hi4, (ob47 (s := σ) ho5), trivial⟩ hE hH (by kernel_rfl) (fun a hE => ?_)
  refine wpFrom_end (by kernel_rfl) ?_
  refine Exit.then_normal (hK3 _ _ ?_)
  refine condE (b := o5.2.2.2.1) hE (by kernel_rfl) (fun hc => ?_) (fun hc => ?_)
  · replace h := ifT hc h
    refine wp_seq_k (fun K hK6 => ?_)
    refine wp_region_from ?_
    refine segO 1 [] [(6, .kv .i 11)] (Os := []) trivial hE hH (by kernel_rfl) (fun a hE => ?_)
    refine wpFrom_end (by kernel_rfl) ?_
    refine Exit.then_normal (hK6 _ _ ?_)
    refine wp_ret ?_
    refine Exit.then_ret ?_
    cases h
    exact ret1 rfl hE hle hH (by kernel_rfl)
  · replace h := ifF hc h
    refine wp_skip ?_
    refine Exit.then_normal (hK2 _ _ ?_)
    refine wp_seq_k (fun K hK7 => ?_)
    refine wp_seq_k (fun K hK8 => ?_)
    refine wp_region_from ?_
    refine segO 1 [] [(13, .kv .str p1)] (Os := []) trivial hE hH (by kernel_rfl) (fun a hE => ?_)
    obtain ⟨r9, hr9, h⟩ := bs h
    refine stepCall (d := (some 14)) (f102_ok hr9) hE hH hN (by kernel_rfl) (by kernel_rfl) trivial (fun a w G hl1 hE hH => ?_)
    have hle := Gh.le_trans hle hl1
    refine segO 2 [] [(16, .kv .bool (!r9))] (Os := []) trivial hE hH (by kernel_rfl) (fun a hE => ?_)
    by_cases hc : (!r9) = true
    · replace h := ifT hc h
      have hE := hE.setB 16 (by kernel_rfl) hc
      refine segO 4 [] [(20, .kv .bool true)] (Os := []) trivial hE hH (by kernel_rfl) (fun a hE => ?_)
      refine wpFrom_end (by kernel_rfl) ?_
      refine Exit.then_normal (hK8 _ _ ?_)
      refine condT hE (by kernel_rfl) rfl ?_
      refine wp_seq_k (fun K hK10 => ?_)
      refine wp_region_from ?_
      refine segO 1 [] [(6, .kv .i 2)] (Os := []) trivial hE hH (by kernel_rfl) (fun a hE => ?_)
      refine wpFrom_end (by kernel_rfl) ?_
      refine Exit.then_normal (hK10 _ _ ?_)
      refine wp_ret ?_
      refine Exit.then_ret ?_
      cases h
      exact ret1 rfl hE hle hH (by kernel_rfl)
    · replace h := ifN hc h
      have hE := hE.setB 16 (by kernel_rfl) (bf hc)
      refine segO 1 [] [(17, .kv .str p2)] (Os := []) trivial hE hH (by kernel_rfl) (fun a hE => ?_)
      obtain ⟨r11, hr11, h⟩ := bs h
      refine stepCall (d := (some 18)) (f102_ok hr11) hE hH hN (by kernel_rfl) (by kernel_rfl) trivial (fun a w G hl2 hE hH => ?_)
      have hle := Gh.le_trans hle hl2
      refine segO 2 [] [(20, .kv .bool (!r11))] (Os := []) trivial hE hH (by kernel_rfl) (fun a hE => ?_)
      refine wpFrom_end (by kernel_rfl) ?_
      refine Exit.then_normal (hK8 _ _ ?_)
      refine condE (b := !r11) hE (by kernel_rfl) (fun hc => ?_) (fun hc => ?_)
      · replace h := ifT hc h
        refine wp_seq_k (fun K hK12 => ?_)
        refine wp_region_from ?_
        refine segO 1 [] [(6, .kv .i 2)] (Os := []) trivial hE hH (by kernel_rfl) (fun a hE => ?_)
        refine wpFrom_end (by kernel_rfl) ?_
        refine Exit.then_normal (hK12 _ _ ?_)
        refine wp_ret ?_
        refine Exit.then_ret ?_
        cases h
        exact ret1 rfl hE hle hH (by kernel_rfl)
      · replace h := ifF hc h
        refine wp_skip ?_
        refine Exit.then_normal (hK7 _ _ ?_)
        refine wp_seq_k (fun K hK13 => ?_)
        refine wp_region_from ?_
        refine segO 2 [] [(22, .kv (.ptr 47) p0), (23, .kv .str p1)] (Os := []) trivial hE hH (by kernel_rfl) (fun a hE => ?_)
        obtain ⟨r14, hr14, h⟩ := bs h
        refine stepCall (d := (some 24)) (f105_ok hr14) hE hH hN (by kernel_rfl) (by kernel_rfl) trivial (fun a w G hl3 hE hH => ?_)
        have hle := Gh.le_trans hle hl3
        refine segO 3 [] [(25, .kv K52 r14.1), (26, .kv .i r14.2)] (Os := []) trivial hE hH (by kernel_rfl) (fun a hE => ?_)
        refine stepAlloc (e := 52) (d := (some 7)) K52  hE hH (by kernel_rfl) (by kernel_rfl) (fun b15 a w G hl4 hE hH => ?_)
        have hle := Gh.le_trans hle hl4
        refine stepStB (b := b15) (off := 0) 0 K52 r14.1 (x' := r14.1) hE hH (by kernel_rfl) rfl (by kernel_rfl) (fun w G hl5 hE hH => ?_)
        have hle := Gh.le_trans hle hl5
        refine segO 1 [] [(8, .kv .i r14.2)] (Os := []) trivial hE hH (by kernel_rfl) (fun a hE => ?_)
        refine wpFrom_end (by kernel_rfl) ?_
        refine Exit.then_normal (hK13 _ _ ?_)
        refine wp_seq_k (fun K hK16 => ?_)
        refine wp_seq_k (fun K hK17 => ?_)
        refine wp_region_from ?_
        refine segO 2 [] [(28, .kv .bool (r14.2 != 0))] (Os := []) trivial hE hH (by kernel_rfl) (fun a hE => ?_)
        refine wpFrom_end (by kernel_rfl) ?_
        refine Exit.then_normal (hK17 _ _ ?_)
        refine condE (b := r14.2 != 0) hE (by kernel_rfl) (fun hc => ?_) (fun hc => ?_)
        · replace h := ifT hc h
          refine wp_seq_k (fun K hK18 => ?_)
          refine wp_region_from ?_
          refine segO 2 [] [(6, .kv .i r14.2)] (Os := []) trivial hE hH (by kernel_rfl) (fun a hE => ?_)
          refine wpFrom_end (by kernel_rfl) ?_
          refine Exit.then_normal (hK18 _ _ ?_)
          refine wp_ret ?_
          refine Exit.then_ret ?_
          have hH := hH.drop (fun _ _ _ => rfl)
          cases h
          exact ret1 rfl hE hle hH (by kernel_rfl)
        · replace h := ifF hc h
          refine wp_skip ?_
          refine Exit.then_normal (hK16 _ _ ?_)
          refine wp_seq_k (fun K hK19 => ?_)
          refine wp_seq_k (fun K hK20 => ?_)
          refine wp_region_from ?_
          refine segO 3 [.bx 0 K52 r14.1] [(32, .kv .bool (!(r14.1.2.2.1 == [])))] (Os := [_]) ⟨(rfl : (LS.box b15 K52 r14.1 :: Ls)[0]? = some (LS.box b15 K52 r14.1)), trivial⟩ hE hH (by kernel_rfl) (fun a hE => ?_)
          refine wpFrom_end (by kernel_rfl) ?_
          refine Exit.then_normal (hK20 _ _ ?_)
          refine condE (b := !(r14.1.2.2.1 == [])) hE (by kernel_rfl) (fun hc => ?_) (fun hc => ?_)
          · replace h := ifT hc h
            refine wp_seq_k (fun K hK21 => ?_)
            refine wp_region_from ?_
            refine segO 1 [] [(6, .kv .i 12)] (Os := []) trivial hE hH (by kernel_rfl) (fun a hE => ?_)
            refine wpFrom_end (by kernel_rfl) ?_
            refine Exit.then_normal (hK21 _ _ ?_)
            refine wp_ret ?_
            refine Exit.then_ret ?_
            have hH := hH.drop (fun _ _ _ => rfl)
            cases h
            exact ret1 rfl hE hle hH (by kernel_rfl)
          · replace h := ifF hc h
            refine wp_skip ?_
            refine Exit.then_normal (hK19 _ _ ?_)
            refine wp_seq_k (fun K hK22 => ?_)
            refine wp_seq_k (fun K hK23 => ?_)
            refine wp_region_from ?_
            refine segO 1 [] [(33, .kv (.ptr 47) p0)] (Os := []) trivial hE hH (by kernel_rfl) (fun a hE => ?_)
            obtain ⟨r24, hr24, h⟩ := bs h
            refine stepCall (d := (some 34)) (f104_ok hr24) hE hH (NoHole.cons (fun _ _ _ => rfl) hN) (by kernel_rfl) (by kernel_rfl) trivial (fun a w G hl6 hE hH => ?_)
            have hle := Gh.le_trans hle hl6
            refine wpFrom_end (by kernel_rfl) ?_
            refine Exit.then_normal (hK23 _ _ ?_)
            refine condE (b := r24.1) hE (by kernel_rfl) (fun hc => ?_) (fun hc => ?_)
            · replace h := ifT hc h
              refine wp_seq_k (fun K hK25 => ?_)
              refine wp_region_from ?_
              refine segO 1 [] [(6, .kv .i 11)] (Os := []) trivial hE hH (by kernel_rfl) (fun a hE => ?_)
              refine wpFrom_end (by kernel_rfl) ?_
              refine Exit.then_normal (hK25 _ _ ?_)
              refine wp_ret ?_
              refine Exit.then_ret ?_
              have hH := hH.drop (fun _ _ _ => rfl)
              cases h
              exact ret1 rfl hE hle hH (by kernel_rfl)
            · replace h := ifF hc h
              refine wp_skip ?_
              refine Exit.then_normal (hK22 _ _ ?_)
              refine wp_seq_k (fun K hK26 => ?_)
              refine wp_region_from ?_
              refine segO 2 [] [(35, .kv (.ptr 47) p0), (36, .kv .str p1)] (Os := []) trivial hE hH (by kernel_rfl) (fun a hE => ?_)
              obtain ⟨r27, hr27, h⟩ := bs h
              refine stepCall (d := (some 37)) (f106_ok hr27) hE hH (NoHole.cons (fun _ _ _ => rfl) hN) (by kernel_rfl) (by kernel_rfl) trivial (fun a w G hl7 hE hH => ?_)
              have hle := Gh.le_trans hle hl7
              refine wpFrom_end (by kernel_rfl) ?_
              refine Exit.then_normal (hK26 _ _ ?_)
              refine wp_seq_k (fun K hK28 => ?_)
              refine wp_region_from ?_
              refine segO 4 [.bx 0 K52 r14.1] [(38, .kv (.ptr 47) p0), (39, .kv .str p2), (41, .kv .str r14.1.2.1)] (Os := [_]) ⟨(rfl : (LS.box b15 K52 r14.1 :: Ls)[0]? = some (LS.box b15 K52 r14.1)), trivial⟩ hE hH (by kernel_rfl) (fun a hE => ?_)
              refine stepBuild (d := (some 42)) K52 (p2, r14.1.2.1, [], ()) rfl hE (by kernel_rfl) (by kernel_rfl) (fun a hE => ?_)
              obtain ⟨r29, hr29, h⟩ := bs h
              refine stepCall (d := (some 43)) (f103_ok hr29) hE hH (NoHole.cons (fun _ _ _ => rfl) hN) (by kernel_rfl) (by kernel_rfl) trivial (fun a w G hl8 hE hH => ?_)
              have hle := Gh.le_trans hle hl8
              refine wpFrom_end (by kernel_rfl) ?_
              refine Exit.then_normal (hK28 _ _ ?_)
              refine wp_seq_k (fun K hK30 => ?_)
              refine wp_region_from ?_
              refine segO 1 [] [(6, .kv .i 0)] (Os := []) trivial hE hH (by kernel_rfl) (fun a hE => ?_)
              refine wpFrom_end (by kernel_rfl) ?_
              refine Exit.then_normal (hK30 _ _ ?_)
              refine wp_ret ?_
              have hH := hH.drop (fun _ _ _ => rfl)
              cases h
              exact ret1 rfl hE hle hH (by kernel_rfl)

def f67 (p0 : Option Nat) (p1 : List UInt8) (σ : St) : Option (Int × St) :=
  f105 p0 p1 σ >>= fun r3 =>
  if (r3.2 != 0) = true then
  some (r3.2, σ)
  else
  f104 p0 σ >>= fun r10 =>
  if r10.1 = true then
  some (11, r10.2)
  else
  f106 p0 p1 r10.2 >>= fun r13 =>
  some (0, r13.2)

theorem f67_ok {p0 : Option Nat} {p1 : List UInt8} {σ : St} {p : Int × St} (h : f67 p0 p1 σ = some p) : Spec Try.prog 67 [.kv (.ptr 47) p0, .kv .str p1] (tabs σ) (.kv .i p.1) (tabs p.2) := by
  refine Spec.intro Try.func67 (by kernel_rfl) rfl (by kernel_rfl) (fun a w G0 Ls hE hH hN => ?_)
  have hle : G0.le G0 := Gh.le_refl G0
  unfold f67 at h
  refine wp_seq_k (fun K hK1 => ?_)
  refine wp_region_from ?_
  refine segO 1 [] [(4, .kv .i 0)] (Os := []) trivial hE hH (by kernel_rfl) (fun a hE => ?_)
  refine wpFrom_end (by kernel_rfl) ?_
  refine Exit.then_normal (hK1 _ _ ?_)
  refine wp_seq_k (fun K hK2 => ?_)
  refine wp_region_from ?_
  refine segO 2 [] [(8, .kv (.ptr 47) p0), (9, .kv .str p1)] (Os := []) trivial hE hH (by kernel_rfl) (fun a hE => ?_)
  obtain ⟨r3, hr3, h⟩ := bs h
  refine stepCall (d := (some 10)) (f105_ok hr3) hE hH hN (by kernel_rfl) (by kernel_rfl) trivial (fun a w G hl1 hE hH => ?_)
  have hle := Gh.le_trans hle hl1
  refine segO 3 [] [(11, .kv K52 r3.1), (12, .kv .i r3.2)] (Os := []) trivial hE hH (by kernel_rfl) (fun a hE => ?_)
  refine stepAlloc (e := 52) (d := (some 5)) K52  hE hH (by kernel_rfl) (by kernel_rfl) (fun b4 a w G hl2 hE hH => ?_)
  have hle := Gh.le_trans hle hl2
  refine stepStB (b := b4) (off := 0) 0 K52 r3.1 (x' := r3.1) hE hH (by kernel_rfl) rfl (by kernel_rfl) (fun w G hl3 hE hH => ?_)
  have hle := Gh.le_trans hle hl3
  refine segO 1 [] [(6, .kv .i r3.2)] (Os := []) trivial hE hH (by kernel_rfl) (fun a hE => ?_)
  refine wpFrom_end (by kernel_rfl) ?_
  refine Exit.then_normal (hK2 _ _ ?_)
  refine wp_seq_k (fun K hK5 => ?_)
  refine wp_seq_k (fun K hK6 => ?_)
  refine wp_region_from ?_
  refine segO 2 [] [(14, .kv .bool (r3.2 != 0))] (Os := []) trivial hE hH (by kernel_rfl) (fun a hE => ?_)
  refine wpFrom_end (by kernel_rfl) ?_
  refine Exit.then_normal (hK6 _ _ ?_)
  refine condE (b := r3.2 != 0) hE (by kernel_rfl) (fun hc => ?_) (fun hc => ?_)
  · replace h := ifT hc h
    refine wp_seq_k (fun K hK7 => ?_)
    refine wp_region_from ?_
    refine segO 2 [] [(4, .kv .i r3.2)] (Os := []) trivial hE hH (by kernel_rfl) (fun a hE => ?_)
    refine wpFrom_end (by kernel_rfl) ?_
    refine Exit.then_normal (hK7 _ _ ?_)
    refine wp_ret ?_
    refine Exit.then_ret ?_
    have hH := hH.drop (fun _ _ _ => rfl)
    cases h
    exact ret1 rfl hE hle hH (by kernel_rfl)
  · replace h := ifF hc h
    refine wp_skip ?_
    refine Exit.then_normal (hK5 _ _ ?_)
    refine wp_seq_k (fun K hK8 => ?_)
    refine wp_seq_k (fun K hK9 => ?_)
    refine wp_region_from ?_
    refine segO 1 [] [(16, .kv (.ptr 47) p0)] (Os := []) trivial hE hH (by kernel_rfl) (fun a hE => ?_)
    obtain ⟨r10, hr10, h⟩ := bs h
    refine stepCall (d := (some 17)) (f104_ok hr10) hE hH (NoHole.cons (fun _ _ _ => rfl) hN) (by kernel_rfl) (by kernel_rfl) trivial (fun a w G hl4 hE hH => ?_)
    have hle := Gh.le_trans hle hl4
    refine wpFrom_end (by kernel_rfl) ?_
    refine Exit.then_normal (hK9 _ _ ?_)
    refine condE (b := r10.1) hE (by kernel_rfl) (fun hc => ?_) (fun hc => ?_)
    · replace h := ifT hc h
      refine wp_seq_k (fun K hK11 => ?_)
      refine wp_region_from ?_
      refine segO 1 [] [(4, .kv .i 11)] (Os := []) trivial hE hH (by kernel_rfl) (fun a hE => ?_)
      refine wpFrom_end (by kernel_rfl) ?_
      refine Exit.then_normal (hK11 _ _ ?_)
      refine wp_ret ?_
      refine Exit.then_ret ?_
      have hH := hH.drop (fun _ _ _ => rfl)
      cases h
      exact ret1 rfl hE hle hH (by kernel_rfl)
    · replace h := ifF hc h
      refine wp_skip ?_
      refine Exit.then_normal (hK8 _ _ ?_)
      refine wp_seq_k (fun K hK12 => ?_)
      refine wp_region_from ?_
      refine segO 2 [] [(18, .kv (.ptr 47) p0), (19, .kv .str p1)] (Os := []) trivial hE hH (by kernel_rfl) (fun a hE => ?_)
      obtain ⟨r13, hr13, h⟩ := bs h
      refine stepCall (d := (some 20)) (f106_ok hr13) hE hH (NoHole.cons (fun _ _ _ => rfl) hN) (by kernel_rfl) (by kernel_rfl) trivial (fun a w G hl5 hE hH => ?_)
      have hle := Gh.le_trans hle hl5
      refine wpFrom_end (by kernel_rfl) ?_
      refine Exit.then_normal (hK12 _ _ ?_)
      refine wp_seq_k (fun K hK14 => ?_)
      refine wp_region_from ?_
      refine segO 1 [] [(4, .kv .i 0)] (Os := []) trivial hE hH (by kernel_rfl) (fun a hE => ?_)
      refine wpFrom_end (by kernel_rfl) ?_
      refine Exit.then_normal (hK14 _ _ ?_)
      refine wp_ret ?_
      have hH := hH.drop (fun _ _ _ => rfl)
      cases h
      exact ret1 rfl hE hle hH (by kernel_rfl)

def f69_l0 (p0 : Option Nat) (p1 : List Int) (σ : St) (l6 : List K52.den) (x7 : Int) (x8 : Int) : Option ((List K52.den) × Int × Int) :=
  p0 >>= fun i15 =>
  (σ.t47[i15]?) >>= fun o16 =>
  if (decide (x8 < (o16.2.1.length : Int))) = true then
  p0 >>= fun i19 =>
  (σ.t47[i19]?) >>= fun o20 =>
  (ix o20.2.1 x8) >>= fun x21 =>
  (if (!(x21.2.2.1 == [])) = true then
  if (decide (x7 < (p1.length : Int))) = true then
  (ix p1 x7) >>= fun x36 =>
  (if (decide (x36 > 0)) = true then
  (ix p1 x7) >>= fun x40 =>
  if (IntKind.wrap .i64 ((x21.2.2.1.length : Int) + 1)) ≠ 0 then
  some (Int.tmod x40 (IntKind.wrap .i64 ((x21.2.2.1.length : Int) + 1)))
  else none
  else
  some 0 : Option Int) >>= fun z38 =>
  some (IntKind.wrap .i64 (x7 + 1), z38)
  else
  some (IntKind.wrap .i64 (x7 + 1), 0)
  else
  some (x7, 0) : Option (Int × Int)) >>= fun z28 =>
  if (0 : Int) ≤ z28.2 ∧ z28.2 ≤ (x21.2.2.1.length : Int) then
  if x21.2.1.length + (x21.2.2.1.take (Int.toNat z28.2)).length ≤ 9223372036854775807 then
  if (l6.length + 1) * 48 ≤ 140737488355328 then
  f69_l0 p0 p1 σ (l6 ++ [(x21.1, x21.2.1 ++ (x21.2.2.1.take (Int.toNat z28.2)), [], ())]) z28.1 (IntKind.wrap .i64 (x8 + 1))
  else none
  else none
  else none
  else
  some ((l6, x7, x8))
  partial_fixpoint

def f69 (p0 : Option Nat) (p1 : List Int) (σ : St) : Option (Unit × St) :=
  f69_l0 p0 p1 σ [] 0 0 >>= fun z42 =>
  p0 >>= fun i45 =>
  (σ.t47[i45]?) >>= fun o46 =>
  p0 >>= fun i48 =>
  ((σ.set47 i45 (o46.1, z42.1, o46.2.2.1, o46.2.2.2.1, ())).t47[i48]?) >>= fun o49 =>
  p0 >>= fun i50 =>
  (((σ.set47 i45 (o46.1, z42.1, o46.2.2.1, o46.2.2.2.1, ())).set47 i48 (o49.1, o49.2.1, o49.2.2.1, false, ())).t47[i50]?) >>= fun o51 =>
  some ((), (((σ.set47 i45 (o46.1, z42.1, o46.2.2.1, o46.2.2.2.1, ())).set47 i48 (o49.1, o49.2.1, o49.2.2.1, false, ())).set47 i50 (o51.1, o51.2.1, 0, o51.2.2.2.1, ())))

theorem f69_ok {p0 : Option Nat} {p1 : List Int} {σ : St} {p : Unit × St} (h : f69 p0 p1 σ = some p) : Spec Try.prog 69 [.kv (.ptr 47) p0, .kv (.list .i) p1] (tabs σ) (.tup []) (tabs p.2) := by
  refine Spec.intro Try.func69 (by kernel_rfl) rfl (by kernel_rfl) (fun a w G0 Ls hE hH hN => ?_)
  have hle : G0.le G0 := Gh.le_refl G0
  unfold f69 at h
  refine wp_seq_k (fun K hK1 => ?_)
  refine wp_region_from ?_
  refine segO 1 [] [(4, .val (.slice none 0 0))] (Os := []) trivial hE hH (by kernel_rfl) (fun a hE => ?_)
  refine wpFrom_end (by kernel_rfl) ?_
  refine Exit.then_normal (hK1 _ _ ?_)
  refine wp_seq_k (fun K hK2 => ?_)
  refine wp_region_from ?_
  refine segO 1 [] [(5, .kv .i 0)] (Os := []) trivial hE hH (by kernel_rfl) (fun a hE => ?_)
  refine wpFrom_end (by kernel_rfl) ?_
  refine Exit.then_normal (hK2 _ _ ?_)
  refine wp_seq_k (fun K hK3 => ?_)
  refine wp_seq_k (fun K hK4 => ?_)
  refine wp_region_from ?_
  refine segO 1 [] [(6, .kv .i 0)] (Os := []) trivial hE hH (by kernel_rfl) (fun a hE => ?_)
  refine wpFrom_end (by kernel_rfl) ?_
  refine Exit.then_normal (hK4 _ _ ?_)
  refine wp_block ?_
  have hE := hE.nilTl 4 K52 (by kernel_rfl)
  have hH := hH.nilTk 52 48 K52
  obtain ⟨z42, hz42, h⟩ := bs h
  refine loop_intro (fun Q9 c hQ hc => ?_)
  have key : ∀ (l6 : List K52.den) (x7 : Int) (x8 : Int) (rr : (List K52.den) × Int × Int), f69_l0 p0 p1 σ l6 x7 x8 = some rr → ∀ (a : Act) (w : World) (G : Gh) (v5 : Value), G0.le G → EnvR G 73 a [(0, .kv (.ptr 47) p0), (1, .kv (.list .i) p1), (4, .tl v5 K52 l6), (5, .kv .i x7), (6, .kv .i x8)] → Holds w G (tabs σ) (LS.tk v5 52 48 K52 l6 :: Ls) → (∀ z43 : (List K52.den) × Int × Int, rr = z43 → ∀ (a : Act) (w : World) (G : Gh) (v5 : Value), G0.le G → EnvR G 73 a [(0, .kv (.ptr 47) p0), (1, .kv (.list .i) p1), (4, .tl v5 K52 z43.1), (5, .kv .i z43.2.1), (6, .kv .i z43.2.2)] → Holds w G (tabs σ) (LS.tk v5 52 48 K52 z43.1 :: Ls) → Q9 (.exit 0) a w) → Rnd Try.prog c Q9 a w := by
    refine f69_l0.partial_correctness p0 p1 σ _ ?_
    intro self ih12 l6 x7 x8 rr h a w G v5 hle hE hH hx10
    refine rnd_step' hc ?_
    refine wp_seq_k (fun K hK13 => ?_)
    refine wp_seq_k (fun K hK14 => ?_)
    refine wp_region_from ?_
    obtain ⟨i15, hi15, h⟩ := bs h
    obtain ⟨o16, ho16, h⟩ := bs h
    refine segO 7 [.pt i15, .ob fs47 o16] [(15, .kv .bool (decide (x8 < (o16.2.1.length : Int))))] (Os := [_, _]) ⟨hi15, (ob47 (s := σ) ho16), trivial⟩ hE hH (by kernel_rfl) (fun a hE => ?_)
    refine wpFrom_end (by kernel_rfl) ?_
    refine Exit.then_normal (hK14 _ _ ?_)
    refine condE (b := decide (x8 < (o16.2.1.length : Int))) hE (by kernel_rfl) (fun hc => ?_) (fun hc => ?_)
    · replace h := ifT hc h
      refine wp_skip ?_
      refine Exit.then_normal (hK13 _ _ ?_)
      refine wp_seq_k (fun K hK17 => ?_)
      refine wp_block ?_
      refine wp_seq_k (fun K hK18 => ?_)
      refine wp_region_from ?_
      obtain ⟨i19, hi19, h⟩ := bs h
      obtain ⟨o20, ho20, h⟩ := bs h
      obtain ⟨x21, hx21, h⟩ := bs h
      refine segO 7 [.pt i19, .ob fs47 o20, .ix K52 x21] [(24, .kv K52 x21)] (Os := [_, _, _]) ⟨hi19, (ob47 (s := σ) ho20), (IxAt.of (k := K52) hx21), trivial⟩ hE hH (by kernel_rfl) (fun a hE => ?_)
      refine stepAlloc (e := 52) (d := (some 7)) K52  hE hH (by kernel_rfl) (by kernel_rfl) (fun b22 a w G hl1 hE hH => ?_)
      have hle := Gh.le_trans hle hl1
      refine stepStB (b := b22) (off := 0) 0 K52 x21 (x' := x21) hE hH (by kernel_rfl) rfl (by kernel_rfl) (fun w G hl2 hE hH => ?_)
      have hle := Gh.le_trans hle hl2
      refine wpFrom_end (by kernel_rfl) ?_
      refine Exit.then_normal (hK18 _ _ ?_)
      refine wp_seq_k (fun K hK23 => ?_)
      refine wp_region_from ?_
      refine segO 1 [] [(8, .kv .i 0)] (Os := []) trivial hE hH (by kernel_rfl) (fun a hE => ?_)
      refine wpFrom_end (by kernel_rfl) ?_
      refine Exit.then_normal (hK23 _ _ ?_)
      refine wp_seq_k (fun K hK24 => ?_)
      refine wp_seq_k (fun K hK25 => ?_)
      refine wp_region_from ?_
      refine segO 3 [.bx 0 K52 x21] [(27, .kv .bool (!(x21.2.2.1 == [])))] (Os := [_]) ⟨(rfl : (LS.box b22 K52 x21 :: LS.tk v5 52 48 K52 l6 :: Ls)[0]? = some (LS.box b22 K52 x21)), trivial⟩ hE hH (by kernel_rfl) (fun a hE => ?_)
      refine wpFrom_end (by kernel_rfl) ?_
      refine Exit.then_normal (hK25 _ _ ?_)
      obtain ⟨z28, hz28, h⟩ := bs h
      refine join_intro (I := fun a w => ∃ (G : Gh), G0.le G ∧ EnvR G 73 a [(0, .kv (.ptr 47) p0), (1, .kv (.list .i) p1), (4, .tl v5 K52 l6), (5, .kv .i z28.1), (6, .kv .i x8), (7, .val (.pointer (some ⟨b22, 0, none⟩))), (8, .kv .i z28.2)] ∧ Holds w G (tabs σ) (LS.box b22 K52 x21 :: LS.tk v5 52 48 K52 l6 :: Ls)) trivial ?_ ?_
      · intro a w hI
        obtain ⟨G, hle, hE, hH⟩ := hI
        refine Exit.then_normal (hK24 _ _ ?_)
        obtain ⟨q30, h⟩ := gd h
        obtain ⟨q31, h⟩ := gd h
        refine region_par 12 [] [(0, 0), (0, 0), (0, 0), (0, 0), (0, 0), (0, 0), (0, 0), (0, 0), (0, 0), (0, 0), (0, 0), (0, 0)] [.tl v5 K52 l6, .val (.pointer (some ⟨b22, 0, none⟩)), .kv .str x21.1, .val (.pointer (some ⟨b22, 1, none⟩)), .kv .str x21.2.1, .val (.pointer (some ⟨b22, 2, none⟩)), .kv .str x21.2.2.1, .kv .i z28.2, .kv .str (x21.2.2.1.take (Int.toNat z28.2)), .kv .str (x21.2.1 ++ (x21.2.2.1.take (Int.toNat z28.2))), .kv K52 (x21.1, x21.2.1 ++ (x21.2.2.1.take (Int.toNat z28.2)), [], ()), .pl K52 [(x21.1, x21.2.1 ++ (x21.2.2.1.take (Int.toNat z28.2)), [], ())]] (fun _ => tabs σ) (fun _ => LS.box b22 K52 x21 :: LS.tk v5 52 48 K52 l6 :: Ls) (by kernel_rfl) (by kernel_rfl) hE hH
                ⟨⟨⟨⟨⟨⟨⟨⟨⟨⟨⟨⟨trivial,
                anyk (fun k => obR [] (Os := []) trivial (by kernel_rfl) (by kernel_rfl))⟩,
                anyk (fun k => obR [] (Os := []) trivial (by kernel_rfl) (by kernel_rfl))⟩,
                anyk (fun k => obR [.bx 0 K52 x21] (Os := [_]) ⟨(rfl : (LS.box b22 K52 x21 :: LS.tk v5 52 48 K52 l6 :: Ls)[0]? = some (LS.box b22 K52 x21)), trivial⟩ (by kernel_rfl) (by kernel_rfl))⟩,
                anyk (fun k => obR [] (Os := []) trivial (by kernel_rfl) (by kernel_rfl))⟩,
                anyk (fun k => obR [.bx 0 K52 x21] (Os := [_]) ⟨(rfl : (LS.box b22 K52 x21 :: LS.tk v5 52 48 K52 l6 :: Ls)[0]? = some (LS.box b22 K52 x21)), trivial⟩ (by kernel_rfl) (by kernel_rfl))⟩,
                anyk (fun k => obR [] (Os := []) trivial (by kernel_rfl) (by kernel_rfl))⟩,
                anyk (fun k => obR [.bx 0 K52 x21] (Os := [_]) ⟨(rfl : (LS.box b22 K52 x21 :: LS.tk v5 52 48 K52 l6 :: Ls)[0]? = some (LS.box b22 K52 x21)), trivial⟩ (by kernel_rfl) (by kernel_rfl))⟩,
                anyk (fun k => obR [] (Os := []) trivial (by kernel_rfl) (by kernel_rfl))⟩,
                anyk (fun k => obR [] (Os := [_]) ⟨q30, trivial⟩ (by kernel_rfl) (by kernel_rfl))⟩,
                anyk (fun k => obR [] (Os := [_]) ⟨q31, trivial⟩ (by kernel_rfl) (by kernel_rfl))⟩,
                anyk (fun k => obB (d := (some 60)) K52 (x21.1, x21.2.1 ++ (x21.2.2.1.take (Int.toNat z28.2)), [], ()) rfl (by kernel_rfl) (by kernel_rfl) rfl)⟩,
                anyk (fun k => obBS (d := (some 61)) K52 [(x21.1, x21.2.1 ++ (x21.2.2.1.take (Int.toNat z28.2)), [], ())] (by kernel_rfl) (by kernel_rfl) rfl)⟩ (fun a w G hl4 hE hH => ?_)
        have hle := Gh.le_trans hle hl4
        obtain ⟨q32, h⟩ := gd h
        refine stepApp (e := 0) (bt := 48) (ys := [(x21.1, x21.2.1 ++ (x21.2.2.1.take (Int.toNat z28.2)), [], ())]) (e' := 52) (d := (some 62)) 1 hE hH (by kernel_rfl) rfl (by kernel_rfl) q32 (fun v33 a w G hl5 hE hH => ?_)
        have hle := Gh.le_trans hle hl5
        refine segO 1 [] [(4, .tl v33 K52 (l6 ++ [(x21.1, x21.2.1 ++ (x21.2.2.1.take (Int.toNat z28.2)), [], ())]))] (Os := []) trivial hE hH (by kernel_rfl) (fun a hE => ?_)
        refine wpFrom_end (by kernel_rfl) ?_
        refine Exit.in_normal ?_
        refine Exit.then_normal (hK17 _ _ ?_)
        refine wp_region_from ?_
        refine segO 3 [] [(6, .kv .i (IntKind.wrap .i64 (x8 + 1)))] (Os := []) trivial hE hH (by kernel_rfl) (fun a hE => ?_)
        refine wpFrom_end (by kernel_rfl) ?_
        have hH := hH.drop (fun _ _ _ => rfl)
        refine Exit.then_normal ?_
        exact ih12 _ _ _ _ h _ _ _ v33 hle (hE.subC (by kernel_rfl)) hH hx10
      · intro KK hKK ho
        have hj29 : ∀ (a : Act) (w : World) (G : Gh), G0.le G → EnvR G 73 a [(0, .kv (.ptr 47) p0), (1, .kv (.list .i) p1), (4, .tl v5 K52 l6), (5, .kv .i z28.1), (6, .kv .i x8), (7, .val (.pointer (some ⟨b22, 0, none⟩))), (8, .kv .i z28.2)] → Holds w G (tabs σ) (LS.box b22 K52 x21 :: LS.tk v5 52 48 K52 l6 :: Ls) → KK .normal a w := fun a w G  h1 h2 h3 => hKK a w ⟨G, h1, h2, h3⟩
        replace h := hz28
        refine condE (b := !(x21.2.2.1 == [])) hE (by kernel_rfl) (fun hc => ?_) (fun hc => ?_)
        · replace h := ifT hc h
          refine wp_seq_k (fun K hK34 => ?_)
          refine wp_seq_k (fun K hK35 => ?_)
          refine wp_region_from ?_
          refine segO 5 [] [(32, .kv .bool (decide (x7 < (p1.length : Int))))] (Os := []) trivial hE hH (by kernel_rfl) (fun a hE => ?_)
          by_cases hc : (decide (x7 < (p1.length : Int))) = true
          · replace h := ifT hc h
            have hE := hE.setB 32 (by kernel_rfl) hc
            obtain ⟨x36, hx36, h⟩ := bs h
            refine segO 6 [.ix .i x36] [(38, .kv .bool (decide (x36 > 0)))] (Os := [_]) ⟨(IxAt.of (k := .i) hx36), trivial⟩ hE hH (by kernel_rfl) (fun a hE => ?_)
            refine wpFrom_end (by kernel_rfl) ?_
            refine Exit.then_normal (hK35 _ _ ?_)
            obtain ⟨z38, hz38, h⟩ := bs h
            refine join_intro (I := fun a w => ∃ (G : Gh), G0.le G ∧ EnvR G 73 a [(0, .kv (.ptr 47) p0), (1, .kv (.list .i) p1), (4, .tl v5 K52 l6), (5, .kv .i x7), (6, .kv .i x8), (7, .val (.pointer (some ⟨b22, 0, none⟩))), (8, .kv .i z38)] ∧ Holds w G (tabs σ) (LS.box b22 K52 x21 :: LS.tk v5 52 48 K52 l6 :: Ls)) trivial ?_ ?_
            · intro a w hI
              obtain ⟨G, hle, hE, hH⟩ := hI
              refine Exit.then_normal (hK34 _ _ ?_)
              refine wp_region_from ?_
              refine segO 3 [] [(5, .kv .i (IntKind.wrap .i64 (x7 + 1)))] (Os := []) trivial hE hH (by kernel_rfl) (fun a hE => ?_)
              refine wpFrom_end (by kernel_rfl) ?_
              cases h
              exact hj29 _ _ _  hle (hE.subC (by kernel_rfl)) hH
            · intro KK hKK ho
              have hj39 : ∀ (a : Act) (w : World) (G : Gh), G0.le G → EnvR G 73 a [(0, .kv (.ptr 47) p0), (1, .kv (.list .i) p1), (4, .tl v5 K52 l6), (5, .kv .i x7), (6, .kv .i x8), (7, .val (.pointer (some ⟨b22, 0, none⟩))), (8, .kv .i z38)] → Holds w G (tabs σ) (LS.box b22 K52 x21 :: LS.tk v5 52 48 K52 l6 :: Ls) → KK .normal a w := fun a w G  h1 h2 h3 => hKK a w ⟨G, h1, h2, h3⟩
              replace h := hz38
              refine condE (b := decide (x36 > 0)) hE (by kernel_rfl) (fun hc => ?_) (fun hc => ?_)
              · replace h := ifT hc h
                obtain ⟨x40, hx40, h⟩ := bs h
                refine region_par 8 [] [(0, 0), (0, 0), (0, 0), (0, 0), (0, 0), (0, 0), (0, 0), (0, 0)] [.kv (.list .i) p1, .kv .i x7, .elA .i x40 0, .kv .i x40, .val (.pointer (some ⟨b22, 2, none⟩)), .kv .str x21.2.2.1, .kv .i (x21.2.2.1.length : Int), .kv .i (IntKind.wrap .i64 ((x21.2.2.1.length : Int) + 1))] (fun _ => tabs σ) (fun _ => LS.box b22 K52 x21 :: LS.tk v5 52 48 K52 l6 :: Ls) (by kernel_rfl) (by kernel_rfl) hE hH
                        ⟨⟨⟨⟨⟨⟨⟨⟨trivial,
                        anyk (fun k => obR [] (Os := []) trivial (by kernel_rfl) (by kernel_rfl))⟩,
                        anyk (fun k => obR [] (Os := []) trivial (by kernel_rfl) (by kernel_rfl))⟩,
                        anyk (fun k => obR [.ix .i x40] (Os := [_]) ⟨(IxAt.of (k := .i) hx40), trivial⟩ (by kernel_rfl) (by kernel_rfl))⟩,
                        anyk (fun k => obR [] (Os := []) trivial (by kernel_rfl) (by kernel_rfl))⟩,
                        anyk (fun k => obR [] (Os := []) trivial (by kernel_rfl) (by kernel_rfl))⟩,
                        anyk (fun k => obR [.bx 0 K52 x21] (Os := [_]) ⟨(rfl : (LS.box b22 K52 x21 :: LS.tk v5 52 48 K52 l6 :: Ls)[0]? = some (LS.box b22 K52 x21)), trivial⟩ (by kernel_rfl) (by kernel_rfl))⟩,
                        anyk (fun k => obR [] (Os := []) trivial (by kernel_rfl) (by kernel_rfl))⟩,
                        anyk (fun k => obR [] (Os := []) trivial (by kernel_rfl) (by kernel_rfl))⟩ (fun a w G hl7 hE hH => ?_)
                have hle := Gh.le_trans hle hl7
                obtain ⟨q41, h⟩ := gd h
                refine segO 2 [] [(8, .kv .i (Int.tmod x40 (IntKind.wrap .i64 ((x21.2.2.1.length : Int) + 1))))] (Os := [_]) ⟨q41, trivial⟩ hE hH (by kernel_rfl) (fun a hE => ?_)
                refine wpFrom_end (by kernel_rfl) ?_
                cases h
                exact hj39 _ _ _  hle (hE.subC (by kernel_rfl)) hH
              · replace h := ifF hc h
                refine wp_skip ?_
                cases h
                exact hj39 _ _ _  hle (hE.subC (by kernel_rfl)) hH
          · replace h := ifN hc h
            have hE := hE.setB 32 (by kernel_rfl) (bf hc)
            refine segO 6 [] [(38, .kv .bool false)] (Os := []) trivial hE hH (by kernel_rfl) (fun a hE => ?_)
            refine wpFrom_end (by kernel_rfl) ?_
            refine Exit.then_normal (hK35 _ _ ?_)
            refine condF hE (by kernel_rfl) rfl ?_
            refine wp_skip ?_
            refine Exit.then_normal (hK34 _ _ ?_)
            refine wp_region_from ?_
            refine segO 3 [] [(5, .kv .i (IntKind.wrap .i64 (x7 + 1)))] (Os := []) trivial hE hH (by kernel_rfl) (fun a hE => ?_)
            refine wpFrom_end (by kernel_rfl) ?_
            cases h
            exact hj29 _ _ _  hle (hE.subC (by kernel_rfl)) hH
        · replace h := ifF hc h
          refine wp_skip ?_
          cases h
          exact hj29 _ _ _  hle (hE.subC (by kernel_rfl)) hH
    · replace h := ifF hc h
      refine wp_exit ?_
      refine Exit.then_exit ?_
      refine Exit.then_exit ?_
      cases h
      exact hx10 _ rfl _ _ _ v5 hle (hE.subC (by kernel_rfl)) hH
  refine key _ _ _ _ hz42 _ _ _ (.slice none 0 0) hle (hE.subC (by kernel_rfl)) hH ?_
  · intro z43 hz a w G v5 hle hE hH
    subst hz
    rw [hQ]
    refine Exit.in_eq ?_
    refine Exit.then_normal (hK3 _ _ ?_)
    refine wp_seq_k (fun K hK44 => ?_)
    refine wp_region_from ?_
    obtain ⟨i45, hi45, h⟩ := bs h
    refine segO 4 [.pt i45] [(64, .tl v5 K52 z42.1), (66, .fldA 47 i45 1)] (Os := [_]) ⟨hi45, trivial⟩ hE hH (by kernel_rfl) (fun a hE => ?_)
    obtain ⟨o46, ho46, h⟩ := bs h
    refine stepStO (t := 47) (j := i45) (off := 1) (.list K52) z42.1 (x' := (o46.1, z42.1, o46.2.2.1, o46.2.2.2.1, ())) hE hH (by kernel_rfl) (ob47 (s := σ) ho46) (by kernel_rfl) (upd47 (s := σ)) (fun w G hl8 hE hH => ?_)
    have hle := Gh.le_trans hle hl8
    refine wpFrom_end (by kernel_rfl) ?_
    refine Exit.then_normal (hK44 _ _ ?_)
    refine wp_seq_k (fun K hK47 => ?_)
    refine wp_region_from ?_
    obtain ⟨i48, hi48, h⟩ := bs h
    refine segO 3 [.pt i48] [(69, .fldA 47 i48 3)] (Os := [_]) ⟨hi48, trivial⟩ hE hH (by kernel_rfl) (fun a hE => ?_)
    obtain ⟨o49, ho49, h⟩ := bs h
    refine stepStO (t := 47) (j := i48) (off := 3) .bool false (x' := (o49.1, o49.2.1, o49.2.2.1, false, ())) hE hH (by kernel_rfl) (ob47 (s := (σ.set47 i45 (o46.1, z42.1, o46.2.2.1, o46.2.2.2.1, ()))) ho49) (by kernel_rfl) (upd47 (s := (σ.set47 i45 (o46.1, z42.1, o46.2.2.1, o46.2.2.2.1, ())))) (fun w G hl9 hE hH => ?_)
    have hle := Gh.le_trans hle hl9
    refine wpFrom_end (by kernel_rfl) ?_
    refine Exit.then_normal (hK47 _ _ ?_)
    refine wp_region_from ?_
    obtain ⟨i50, hi50, h⟩ := bs h
    refine segO 3 [.pt i50] [(72, .fldA 47 i50 2)] (Os := [_]) ⟨hi50, trivial⟩ hE hH (by kernel_rfl) (fun a hE => ?_)
    obtain ⟨o51, ho51, h⟩ := bs h
    refine stepStO (t := 47) (j := i50) (off := 2) .i 0 (x' := (o51.1, o51.2.1, 0, o51.2.2.2.1, ())) hE hH (by kernel_rfl) (ob47 (s := ((σ.set47 i45 (o46.1, z42.1, o46.2.2.1, o46.2.2.2.1, ())).set47 i48 (o49.1, o49.2.1, o49.2.2.1, false, ()))) ho51) (by kernel_rfl) (upd47 (s := ((σ.set47 i45 (o46.1, z42.1, o46.2.2.1, o46.2.2.2.1, ())).set47 i48 (o49.1, o49.2.1, o49.2.2.1, false, ())))) (fun w G hl10 hE hH => ?_)
    have hle := Gh.le_trans hle hl10
    refine wpFrom_end (by kernel_rfl) ?_
    have hH := hH.drop (fun _ _ _ => rfl)
    cases h
    exact end0 rfl hE hle hH

def f76 (p0 : Option Nat) (p1 : List UInt8) (σ : St) : Option ((List UInt8) × Int) :=
  f105 p0 p1 σ >>= fun r3 =>
  if (r3.2 != 0) = true then
  some ([], r3.2)
  else
  if r3.1.2.1.length + r3.1.2.2.1.length ≤ 9223372036854775807 then
  some (r3.1.2.1 ++ r3.1.2.2.1, 0)
  else none

theorem f76_ok {p0 : Option Nat} {p1 : List UInt8} {σ : St} {p : (List UInt8) × Int} (h : f76 p0 p1 σ = some p) : Spec Try.prog 76 [.kv (.ptr 47) p0, .kv .str p1] (tabs σ) (.tup [⟨.str, p.1⟩, ⟨.i, p.2⟩]) (tabs σ) := by
  refine Spec.intro Try.func76 (by kernel_rfl) rfl (by kernel_rfl) (fun a w G0 Ls hE hH hN => ?_)
  have hle : G0.le G0 := Gh.le_refl G0
  unfold f76 at h
  refine wp_seq_k (fun K hK1 => ?_)
  refine wp_region_from ?_
  refine segO 2 [] [(4, .kv .str []), (5, .kv .i 0)] (Os := []) trivial hE hH (by kernel_rfl) (fun a hE => ?_)
  refine wpFrom_end (by kernel_rfl) ?_
  refine Exit.then_normal (hK1 _ _ ?_)
  refine wp_seq_k (fun K hK2 => ?_)
  refine wp_region_from ?_
  refine segO 2 [] [(9, .kv (.ptr 47) p0), (10, .kv .str p1)] (Os := []) trivial hE hH (by kernel_rfl) (fun a hE => ?_)
  obtain ⟨r3, hr3, h⟩ := bs h
  refine stepCall (d := (some 11)) (f105_ok hr3) hE hH hN (by kernel_rfl) (by kernel_rfl) trivial (fun a w G hl1 hE hH => ?_)
  have hle := Gh.le_trans hle hl1
  refine segO 3 [] [(12, .kv K52 r3.1), (13, .kv .i r3.2)] (Os := []) trivial hE hH (by kernel_rfl) (fun a hE => ?_)
  refine stepAlloc (e := 52) (d := (some 6)) K52  hE hH (by kernel_rfl) (by kernel_rfl) (fun b4 a w G hl2 hE hH => ?_)
  have hle := Gh.le_trans hle hl2
  refine stepStB (b := b4) (off := 0) 0 K52 r3.1 (x' := r3.1) hE hH (by kernel_rfl) rfl (by kernel_rfl) (fun w G hl3 hE hH => ?_)
  have hle := Gh.le_trans hle hl3
  refine segO 1 [] [(7, .kv .i r3.2)] (Os := []) trivial hE hH (by kernel_rfl) (fun a hE => ?_)
  refine wpFrom_end (by kernel_rfl) ?_
  refine Exit.then_normal (hK2 _ _ ?_)
  refine wp_seq_k (fun K hK5 => ?_)
  refine wp_seq_k (fun K hK6 => ?_)
  refine wp_region_from ?_
  refine segO 2 [] [(15, .kv .bool (r3.2 != 0))] (Os := []) trivial hE hH (by kernel_rfl) (fun a hE => ?_)
  refine wpFrom_end (by kernel_rfl) ?_
  refine Exit.then_normal (hK6 _ _ ?_)
  refine condE (b := r3.2 != 0) hE (by kernel_rfl) (fun hc => ?_) (fun hc => ?_)
  · replace h := ifT hc h
    refine wp_seq_k (fun K hK7 => ?_)
    refine wp_region_from ?_
    refine segO 3 [] [(4, .kv .str []), (5, .kv .i r3.2)] (Os := []) trivial hE hH (by kernel_rfl) (fun a hE => ?_)
    refine wpFrom_end (by kernel_rfl) ?_
    refine Exit.then_normal (hK7 _ _ ?_)
    refine wp_ret ?_
    refine Exit.then_ret ?_
    have hH := hH.drop (fun _ _ _ => rfl)
    cases h
    exact ret2 rfl hE hle hH (by kernel_rfl)
  · replace h := ifF hc h
    refine wp_skip ?_
    refine Exit.then_normal (hK5 _ _ ?_)
    refine wp_seq_k (fun K hK8 => ?_)
    refine wp_region_from ?_
    obtain ⟨q9, h⟩ := gd h
    refine segO 7 [.bx 0 K52 r3.1, .bx 0 K52 r3.1] [(4, .kv .str (r3.1.2.1 ++ r3.1.2.2.1)), (5, .kv .i 0)] (Os := [_, _, _]) ⟨(rfl : (LS.box b4 K52 r3.1 :: Ls)[0]? = some (LS.box b4 K52 r3.1)), (rfl : (LS.box b4 K52 r3.1 :: Ls)[0]? = some (LS.box b4 K52 r3.1)), q9, trivial⟩ hE hH (by kernel_rfl) (fun a hE => ?_)
    refine wpFrom_end (by kernel_rfl) ?_
    refine Exit.then_normal (hK8 _ _ ?_)
    refine wp_ret ?_
    have hH := hH.drop (fun _ _ _ => rfl)
    cases h
    exact ret2 rfl hE hle hH (by kernel_rfl)
end Go.Proofs.Ytlfemhkabjafeaa.M
