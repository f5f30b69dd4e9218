/- Own texts, laid together: W2 V0 P1 B22 B23 B24 B25 B26. -/
import Derived.Sort.OwnSortedInts
import Derived.Test.YtlfemhkabjafeaaProg
import Derived.Test.YtlfemhkabjafeaaZ1
import Derived.Test.YtlfemhkabjafeaaZ2
/- Printed by own program: twins and walks. -/
set_option linter.unusedVariables false
set_option maxRecDepth 100000
namespace Go.Proofs.Ytlfemhkabjafeaa.M
open Go.Proofs (Try.prog Try.func22 Try.f22 Try.func34 Try.f34 Try.func75 Try.f75 Try.func74 Try.f74 Try.func102 Try.f102 Try.func104 Try.f104 Try.func128 Try.f128 Try.func103 Try.f103 Try.func106 Try.f106 Try.func63 Try.f63 Try.func68 Try.f68 Try.func51 Try.f51 Try.func105 Try.f105 Try.func64 Try.f64 Try.func65 Try.f65 Try.func66 Try.f66 Try.func67 Try.f67 Try.func69 Try.f69 Try.func76 Try.f76)

def f22 (p0 : Int) (σ : St) : Option (((Option Nat) × Int) × St) :=
  if ((decide (p0 < 0)) || (decide (p0 > 1048576))) = true then
  some ((none, 2), σ)
  else
  some ((some σ.t47.length, 0), (σ.add47 (p0, [], 0, false, ())))

theorem f22_ok {p0 : Int} {σ : St} {p : ((Option Nat) × Int) × St} (h : f22 p0 σ = some p) : Spec Try.prog 22 [.kv .i p0] (tabs σ) (.tup [⟨(.ptr 47), p.1.1⟩, ⟨.i, p.1.2⟩]) (tabs p.2) := by
  refine Spec.intro Try.func22 (by kernel_rfl) rfl (by kernel_rfl) (fun a w G0 Ls hE hH hN => ?_)
  have hle : G0.le G0 := Gh.le_refl G0
  unfold f22 at h
  refine wp_seq_k (fun K hK1 => ?_)
  refine wp_region_from ?_
  refine segO 2 [] [(2, .val (.pointer none)), (3, .kv .i 0)] (Os := []) trivial hE hH (by kernel_rfl) (fun a hE => ?_)
  refine wpFrom_end (by kernel_rfl) ?_
  refine Exit.then_normal (hK1 _ _ ?_)
  refine wp_seq_k (fun K hK2 => ?_)
  refine wp_seq_k (fun K hK3 => ?_)
  refine wp_region_from ?_
  refine segO 6 [] [(9, .kv .bool ((decide (p0 < 0)) || (decide (p0 > 1048576))))] (Os := []) trivial hE hH (by kernel_rfl) (fun a hE => ?_)
  refine wpFrom_end (by kernel_rfl) ?_
  refine Exit.then_normal (hK3 _ _ ?_)
  refine condE (b := (decide (p0 < 0)) || (decide (p0 > 1048576))) hE (by kernel_rfl) (fun hc => ?_) (fun hc => ?_)
  · replace h := ifT hc h
    refine wp_seq_k (fun K hK4 => ?_)
    refine wp_region_from ?_
    refine segO 2 [] [(2, .val (.pointer none)), (3, .kv .i 2)] (Os := []) trivial hE hH (by kernel_rfl) (fun a hE => ?_)
    refine wpFrom_end (by kernel_rfl) ?_
    refine Exit.then_normal (hK4 _ _ ?_)
    refine wp_ret ?_
    refine Exit.then_ret ?_
    cases h
    exact ret2 rfl hE hle hH (by kernel_rfl)
  · replace h := ifF hc h
    refine wp_skip ?_
    refine Exit.then_normal (hK2 _ _ ?_)
    refine wp_seq_k (fun K hK5 => ?_)
    refine wp_region_from ?_
    refine segO 1 [] [(10, .kv .i p0)] (Os := []) trivial hE hH (by kernel_rfl) (fun a hE => ?_)
    refine stepBuild (d := (some 11)) K47 (p0, [], 0, false, ()) rfl hE (by kernel_rfl) (by kernel_rfl) (fun a hE => ?_)
    refine stepNew (t := 47) (fs := fs47) (x := (p0, [], 0, false, ())) (e := 47) (d := (some 12)) K47 (p0, [], 0, false, ()) hE hH (by kernel_rfl) (by kernel_rfl) ⟨rfl, HEq.rfl, ⟨rfl, HEq.rfl, ⟨rfl, HEq.rfl, ⟨rfl, HEq.rfl, trivial⟩⟩⟩⟩ (addT47 (s := σ) (x := (p0, [], 0, false, ()))) (fun a w G hl1 hE hH => ?_)
    have hle := Gh.le_trans hle hl1
    refine segO 2 [] [(2, .fldA 47 σ.t47.length 0), (3, .kv .i 0)] (Os := []) trivial hE hH (by kernel_rfl) (fun a hE => ?_)
    refine wpFrom_end (by kernel_rfl) ?_
    refine Exit.then_normal (hK5 _ _ ?_)
    refine wp_ret ?_
    cases h
    exact ret2 rfl hE hle hH (by kernel_rfl)

def f34_l0 (p0 : Option Nat) (p1 : List UInt8) (σ : St) (x4 : Int) : Option (Sum Int Int) :=
  p0 >>= fun i11 =>
  (σ.t47[i11]?) >>= fun o12 =>
  if (decide (x4 < (o12.2.1.length : Int))) = true then
  p0 >>= fun i15 =>
  (σ.t47[i15]?) >>= fun o16 =>
  (ix o16.2.1 x4) >>= fun x17 =>
  if (x17.1 == p1) = true then
  some (.inr x4)
  else
  f34_l0 p0 p1 σ (IntKind.wrap .i64 (x4 + 1))
  else
  some (.inl x4)
  partial_fixpoint

def f34 (p0 : Option Nat) (p1 : List UInt8) (σ : St) : Option Int :=
  f34_l0 p0 p1 σ 0 >>= fun rr20 => (match rr20 with
  | .inr yy => some yy
  | .inl z19 =>
  some (-1))

theorem f34_ok {p0 : Option Nat} {p1 : List UInt8} {σ : St} {p : Int} (h : f34 p0 p1 σ = some p) : Spec Try.prog 34 [.kv (.ptr 47) p0, .kv .str p1] (tabs σ) (.kv .i p) (tabs σ) := by
  refine Spec.intro Try.func34 (by kernel_rfl) rfl (by kernel_rfl) (fun a w G0 Ls hE hH hN => ?_)
  have hle : G0.le G0 := Gh.le_refl G0
  unfold f34 at h
  refine wp_seq_k (fun K hK1 => ?_)
  refine wp_region_from ?_
  refine segO 1 [] [(4, .kv .i 0)] (Os := []) trivial hE hH (by kernel_rfl) (fun a hE => ?_)
  refine wpFrom_end (by kernel_rfl) ?_
  refine Exit.then_normal (hK1 _ _ ?_)
  refine wp_seq_k (fun K hK2 => ?_)
  refine wp_seq_k (fun K hK3 => ?_)
  refine wp_region_from ?_
  refine segO 1 [] [(5, .kv .i 0)] (Os := []) trivial hE hH (by kernel_rfl) (fun a hE => ?_)
  refine wpFrom_end (by kernel_rfl) ?_
  refine Exit.then_normal (hK3 _ _ ?_)
  refine wp_block ?_
  obtain ⟨rr20, hrr20, h⟩ := bs h
  refine loop_intro (fun Q5 c hQ hc => ?_)
  have key : ∀ (x4 : Int) (rr : Sum Int Int), f34_l0 p0 p1 σ x4 = some rr → ∀ (a : Act) (w : World) (G : Gh), G0.le G → EnvR G 26 a [(0, .kv (.ptr 47) p0), (1, .kv .str p1), (4, .kv .i 0), (5, .kv .i x4)] → Holds w G (tabs σ) (Ls) → (∀ z19 : Int, rr = .inl z19 → ∀ (a : Act) (w : World) (G : Gh), G0.le G → EnvR G 26 a [(0, .kv (.ptr 47) p0), (1, .kv .str p1), (4, .kv .i 0), (5, .kv .i z19)] → Holds w G (tabs σ) (Ls) → Q5 (.exit 0) a w) → (∀ yy : Int, rr = .inr yy → ∀ (a : Act) (w : World), PostB Try.prog Try.f34 G0 (.kv .i yy) (tabs σ) Ls .ret a w → Q5 .ret a w) → Rnd Try.prog c Q5 a w := by
    refine f34_l0.partial_correctness p0 p1 σ _ ?_
    intro self ih8 x4 rr h a w G  hle hE hH hx6 hret7
    refine rnd_step' hc ?_
    refine wp_seq_k (fun K hK9 => ?_)
    refine wp_seq_k (fun K hK10 => ?_)
    refine wp_region_from ?_
    obtain ⟨i11, hi11, h⟩ := bs h
    obtain ⟨o12, ho12, h⟩ := bs h
    refine segO 7 [.pt i11, .ob fs47 o12] [(12, .kv .bool (decide (x4 < (o12.2.1.length : Int))))] (Os := [_, _]) ⟨hi11, (ob47 (s := σ) ho12), trivial⟩ hE hH (by kernel_rfl) (fun a hE => ?_)
    refine wpFrom_end (by kernel_rfl) ?_
    refine Exit.then_normal (hK10 _ _ ?_)
    refine condE (b := decide (x4 < (o12.2.1.length : Int))) hE (by kernel_rfl) (fun hc => ?_) (fun hc => ?_)
    · replace h := ifT hc h
      refine wp_skip ?_
      refine Exit.then_normal (hK9 _ _ ?_)
      refine wp_seq_k (fun K hK13 => ?_)
      refine wp_block ?_
      refine wp_seq_k (fun K hK14 => ?_)
      refine wp_region_from ?_
      obtain ⟨i15, hi15, h⟩ := bs h
      obtain ⟨o16, ho16, h⟩ := bs h
      obtain ⟨x17, hx17, h⟩ := bs h
      refine segO 10 [.pt i15, .ob fs47 o16, .ix K52 x17] [(24, .kv .bool (x17.1 == p1))] (Os := [_, _, _]) ⟨hi15, (ob47 (s := σ) ho16), (IxAt.of (k := K52) hx17), trivial⟩ hE hH (by kernel_rfl) (fun a hE => ?_)
      refine wpFrom_end (by kernel_rfl) ?_
      refine Exit.then_normal (hK14 _ _ ?_)
      refine condE (b := x17.1 == p1) hE (by kernel_rfl) (fun hc => ?_) (fun hc => ?_)
      · replace h := ifT hc h
        refine wp_seq_k (fun K hK18 => ?_)
        refine wp_region_from ?_
        refine segO 2 [] [(4, .kv .i x4)] (Os := []) trivial hE hH (by kernel_rfl) (fun a hE => ?_)
        refine wpFrom_end (by kernel_rfl) ?_
        refine Exit.then_normal (hK18 _ _ ?_)
        refine wp_ret ?_
        refine Exit.in_ret ?_
        refine Exit.then_ret ?_
        refine Exit.then_ret ?_
        cases h
        exact hret7 _ rfl _ _ (ret1 rfl hE hle hH (by kernel_rfl))
      · replace h := ifF hc h
        refine wp_skip ?_
        refine Exit.in_normal ?_
        refine Exit.then_normal (hK13 _ _ ?_)
        refine wp_region_from ?_
        refine segO 3 [] [(5, .kv .i (IntKind.wrap .i64 (x4 + 1)))] (Os := []) trivial hE hH (by kernel_rfl) (fun a hE => ?_)
        refine wpFrom_end (by kernel_rfl) ?_
        refine Exit.then_normal ?_
        exact ih8 _ _ h _ _ _  hle (hE.subC (by kernel_rfl)) hH hx6 hret7
    · replace h := ifF hc h
      refine wp_exit ?_
      refine Exit.then_exit ?_
      refine Exit.then_exit ?_
      cases h
      exact hx6 _ rfl _ _ _  hle (hE.subC (by kernel_rfl)) hH
  refine key _ _ hrr20 _ _ _  hle (hE.subC (by kernel_rfl)) hH ?_ ?_
  · intro z19 hz a w G  hle hE hH
    subst hz
    rw [hQ]
    dsimp only at h
    refine Exit.in_eq ?_
    refine Exit.then_normal (hK2 _ _ ?_)
    refine wp_seq_k (fun K hK21 => ?_)
    refine wp_region_from ?_
    refine segO 1 [] [(4, .kv .i (-1))] (Os := []) trivial hE hH (by kernel_rfl) (fun a hE => ?_)
    refine wpFrom_end (by kernel_rfl) ?_
    refine Exit.then_normal (hK21 _ _ ?_)
    refine wp_ret ?_
    cases h
    exact ret1 rfl hE hle hH (by kernel_rfl)
  · intro yy hz a w hp
    subst hz
    dsimp only at h
    cases h
    rw [hQ]
    refine Exit.in_ret ?_
    refine Exit.then_ret ?_
    exact hp

def f75_l0 (p0 : Option Nat) (σ : St) (x5 : Int) (x6 : Int) : Option (Int × Int) :=
  p0 >>= fun i13 =>
  (σ.t47[i13]?) >>= fun o14 =>
  if (decide (x6 < (o14.2.1.length : Int))) = true then
  p0 >>= fun i16 =>
  (σ.t47[i16]?) >>= fun o17 =>
  (ix o17.2.1 x6) >>= fun x18 =>
  p0 >>= fun i19 =>
  (σ.t47[i19]?) >>= fun o20 =>
  (ix o20.2.1 x6) >>= fun x21 =>
  f75_l0 p0 σ (IntKind.wrap .i64 ((IntKind.wrap .i64 (x5 + (x18.2.1.length : Int))) + (x21.2.2.1.length : Int))) (IntKind.wrap .i64 (x6 + 1))
  else
  some ((x5, x6))
  partial_fixpoint

def f75 (p0 : Option Nat) (σ : St) : Option Int :=
  f75_l0 p0 σ 0 0 >>= fun z22 =>
  some z22.1

theorem f75_ok {p0 : Option Nat} {σ : St} {p : Int} (h : f75 p0 σ = some p) : Spec Try.prog 75 [.kv (.ptr 47) p0] (tabs σ) (.kv .i p) (tabs σ) := by
  refine Spec.intro Try.func75 (by kernel_rfl) rfl (by kernel_rfl) (fun a w G0 Ls hE hH hN => ?_)
  have hle : G0.le G0 := Gh.le_refl G0
  unfold f75 at h
  refine wp_seq_k (fun K hK1 => ?_)
  refine wp_region_from ?_
  refine segO 1 [] [(2, .kv .i 0)] (Os := []) trivial hE hH (by kernel_rfl) (fun a hE => ?_)
  refine wpFrom_end (by kernel_rfl) ?_
  refine Exit.then_normal (hK1 _ _ ?_)
  refine wp_seq_k (fun K hK2 => ?_)
  refine wp_region_from ?_
  refine segO 1 [] [(3, .kv .i 0)] (Os := []) trivial hE hH (by kernel_rfl) (fun a hE => ?_)
  refine wpFrom_end (by kernel_rfl) ?_
  refine Exit.then_normal (hK2 _ _ ?_)
  refine wp_seq_k (fun K hK3 => ?_)
  refine wp_seq_k (fun K hK4 => ?_)
  refine wp_region_from ?_
  refine segO 1 [] [(4, .kv .i 0)] (Os := []) trivial hE hH (by kernel_rfl) (fun a hE => ?_)
  refine wpFrom_end (by kernel_rfl) ?_
  refine Exit.then_normal (hK4 _ _ ?_)
  refine wp_block ?_
  obtain ⟨z22, hz22, h⟩ := bs h
  refine loop_intro (fun Q7 c hQ hc => ?_)
  have key : ∀ (x5 : Int) (x6 : Int) (rr : Int × Int), f75_l0 p0 σ x5 x6 = some rr → ∀ (a : Act) (w : World) (G : Gh), G0.le G → EnvR G 36 a [(0, .kv (.ptr 47) p0), (2, .kv .i 0), (3, .kv .i x5), (4, .kv .i x6)] → Holds w G (tabs σ) (Ls) → (∀ z23 : Int × Int, rr = z23 → ∀ (a : Act) (w : World) (G : Gh), G0.le G → EnvR G 36 a [(0, .kv (.ptr 47) p0), (2, .kv .i 0), (3, .kv .i z23.1), (4, .kv .i z23.2)] → Holds w G (tabs σ) (Ls) → Q7 (.exit 0) a w) → Rnd Try.prog c Q7 a w := by
    refine f75_l0.partial_correctness p0 σ _ ?_
    intro self ih10 x5 x6 rr h a w G  hle hE hH hx8
    refine rnd_step' hc ?_
    refine wp_seq_k (fun K hK11 => ?_)
    refine wp_seq_k (fun K hK12 => ?_)
    refine wp_region_from ?_
    obtain ⟨i13, hi13, h⟩ := bs h
    obtain ⟨o14, ho14, h⟩ := bs h
    refine segO 7 [.pt i13, .ob fs47 o14] [(11, .kv .bool (decide (x6 < (o14.2.1.length : Int))))] (Os := [_, _]) ⟨hi13, (ob47 (s := σ) ho14), trivial⟩ hE hH (by kernel_rfl) (fun a hE => ?_)
    refine wpFrom_end (by kernel_rfl) ?_
    refine Exit.then_normal (hK12 _ _ ?_)
    refine condE (b := decide (x6 < (o14.2.1.length : Int))) hE (by kernel_rfl) (fun hc => ?_) (fun hc => ?_)
    · replace h := ifT hc h
      refine wp_skip ?_
      refine Exit.then_normal (hK11 _ _ ?_)
      refine wp_seq_k (fun K hK15 => ?_)
      refine wp_block ?_
      obtain ⟨i16, hi16, h⟩ := bs h
      obtain ⟨o17, ho17, h⟩ := bs h
      obtain ⟨x18, hx18, h⟩ := bs h
      obtain ⟨i19, hi19, h⟩ := bs h
      obtain ⟨o20, ho20, h⟩ := bs h
      obtain ⟨x21, hx21, h⟩ := bs h
      refine region_par 20 [] [(0, 0), (0, 0), (0, 0), (0, 0), (0, 0), (0, 0), (0, 0), (0, 0), (0, 0), (0, 0), (0, 0), (0, 0), (0, 0), (0, 0), (0, 0), (0, 0), (0, 0), (0, 0), (0, 0), (0, 0)] [.kv .i x5, .kv (.ptr 47) p0, .kv (.ptr 47) (some i16), .fldA 47 i16 1, .kv (.list K52) o17.2.1, .kv .i x6, .elA K52 x18 0, .elA K52 x18 1, .kv .str x18.2.1, .kv .i (x18.2.1.length : Int), .kv .i (IntKind.wrap .i64 (x5 + (x18.2.1.length : Int))), .kv (.ptr 47) p0, .kv (.ptr 47) (some i19), .fldA 47 i19 1, .kv (.list K52) o20.2.1, .kv .i x6, .elA K52 x21 0, .elA K52 x21 2, .kv .str x21.2.2.1, .kv .i (x21.2.2.1.length : Int)] (fun _ => tabs σ) (fun _ => Ls) (by kernel_rfl) (by kernel_rfl) hE hH
              ⟨⟨⟨⟨⟨⟨⟨⟨⟨⟨⟨⟨⟨⟨⟨⟨⟨⟨⟨⟨trivial,
              anyk (fun k => obR [] (Os := []) trivial (by kernel_rfl) (by kernel_rfl))⟩,
              anyk (fun k => obR [] (Os := []) trivial (by kernel_rfl) (by kernel_rfl))⟩,
              anyk (fun k => obR [.pt i16] (Os := [_]) ⟨hi16, trivial⟩ (by kernel_rfl) (by kernel_rfl))⟩,
              anyk (fun k => obR [] (Os := []) trivial (by kernel_rfl) (by kernel_rfl))⟩,
              anyk (fun k => obR [.ob fs47 o17] (Os := [_]) ⟨(ob47 (s := σ) ho17), trivial⟩ (by kernel_rfl) (by kernel_rfl))⟩,
              anyk (fun k => obR [] (Os := []) trivial (by kernel_rfl) (by kernel_rfl))⟩,
              anyk (fun k => obR [.ix K52 x18] (Os := [_]) ⟨(IxAt.of (k := K52) hx18), trivial⟩ (by kernel_rfl) (by kernel_rfl))⟩,
              anyk (fun k => obR [] (Os := []) trivial (by kernel_rfl) (by kernel_rfl))⟩,
              anyk (fun k => obR [] (Os := []) trivial (by kernel_rfl) (by kernel_rfl))⟩,
              anyk (fun k => obR [] (Os := []) trivial (by kernel_rfl) (by kernel_rfl))⟩,
              anyk (fun k => obR [] (Os := []) trivial (by kernel_rfl) (by kernel_rfl))⟩,
              anyk (fun k => obR [] (Os := []) trivial (by kernel_rfl) (by kernel_rfl))⟩,
              anyk (fun k => obR [.pt i19] (Os := [_]) ⟨hi19, trivial⟩ (by kernel_rfl) (by kernel_rfl))⟩,
              anyk (fun k => obR [] (Os := []) trivial (by kernel_rfl) (by kernel_rfl))⟩,
              anyk (fun k => obR [.ob fs47 o20] (Os := [_]) ⟨(ob47 (s := σ) ho20), trivial⟩ (by kernel_rfl) (by kernel_rfl))⟩,
              anyk (fun k => obR [] (Os := []) trivial (by kernel_rfl) (by kernel_rfl))⟩,
              anyk (fun k => obR [.ix K52 x21] (Os := [_]) ⟨(IxAt.of (k := K52) hx21), trivial⟩ (by kernel_rfl) (by kernel_rfl))⟩,
              anyk (fun k => obR [] (Os := []) trivial (by kernel_rfl) (by kernel_rfl))⟩,
              anyk (fun k => obR [] (Os := []) trivial (by kernel_rfl) (by kernel_rfl))⟩,
              anyk (fun k => obR [] (Os := []) trivial (by kernel_rfl) (by kernel_rfl))⟩ (fun a w G hl1 hE hH => ?_)
      have hle := Gh.le_trans hle hl1
      refine segO 2 [] [(3, .kv .i (IntKind.wrap .i64 ((IntKind.wrap .i64 (x5 + (x18.2.1.length : Int))) + (x21.2.2.1.length : Int))))] (Os := []) trivial hE hH (by kernel_rfl) (fun a hE => ?_)
      refine wpFrom_end (by kernel_rfl) ?_
      refine Exit.in_normal ?_
      refine Exit.then_normal (hK15 _ _ ?_)
      refine wp_region_from ?_
      refine segO 3 [] [(4, .kv .i (IntKind.wrap .i64 (x6 + 1)))] (Os := []) trivial hE hH (by kernel_rfl) (fun a hE => ?_)
      refine wpFrom_end (by kernel_rfl) ?_
      refine Exit.then_normal ?_
      exact ih10 _ _ _ h _ _ _  hle (hE.subC (by kernel_rfl)) hH hx8
    · replace h := ifF hc h
      refine wp_exit ?_
      refine Exit.then_exit ?_
      refine Exit.then_exit ?_
      cases h
      exact hx8 _ rfl _ _ _  hle (hE.subC (by kernel_rfl)) hH
  refine key _ _ _ hz22 _ _ _  hle (hE.subC (by kernel_rfl)) hH ?_
  · intro z23 hz a w G  hle hE hH
    subst hz
    rw [hQ]
    refine Exit.in_eq ?_
    refine Exit.then_normal (hK3 _ _ ?_)
    refine wp_seq_k (fun K hK24 => ?_)
    refine wp_region_from ?_
    refine segO 2 [] [(2, .kv .i z22.1)] (Os := []) trivial hE hH (by kernel_rfl) (fun a hE => ?_)
    refine wpFrom_end (by kernel_rfl) ?_
    refine Exit.then_normal (hK24 _ _ ?_)
    refine wp_ret ?_
    cases h
    exact ret1 rfl hE hle hH (by kernel_rfl)

def f74_l0 (p0 : Option Nat) (σ : St) (l6 : List (List UInt8)) (x7 : Int) : Option ((List (List UInt8)) × Int) :=
  p0 >>= fun i14 =>
  (σ.t47[i14]?) >>= fun o15 =>
  if (decide (x7 < (o15.2.1.length : Int))) = true then
  p0 >>= fun i17 =>
  (σ.t47[i17]?) >>= fun o18 =>
  (ix o18.2.1 x7) >>= fun x19 =>
  if (l6.length + 1) * 16 ≤ 140737488355328 then
  f74_l0 p0 σ (l6 ++ [x19.1]) (IntKind.wrap .i64 (x7 + 1))
  else none
  else
  some ((l6, x7))
  partial_fixpoint

def f74 (p0 : Option Nat) (σ : St) : Option (List (List UInt8)) :=
  f74_l0 p0 σ [] 0 >>= fun z22 =>
  some z22.1

theorem f74_ok {p0 : Option Nat} {σ : St} {p : List (List UInt8)} (h : f74 p0 σ = some p) : Spec Try.prog 74 [.kv (.ptr 47) p0] (tabs σ) (.kv (.list .str) p) (tabs σ) := by
  refine Spec.intro Try.func74 (by kernel_rfl) rfl (by kernel_rfl) (fun a w G0 Ls hE hH hN => ?_)
  have hle : G0.le G0 := Gh.le_refl G0
  unfold f74 at h
  refine wp_seq_k (fun K hK1 => ?_)
  refine wp_region_from ?_
  refine segO 1 [] [(2, .val (.slice none 0 0))] (Os := []) trivial hE hH (by kernel_rfl) (fun a hE => ?_)
  refine wpFrom_end (by kernel_rfl) ?_
  refine Exit.then_normal (hK1 _ _ ?_)
  refine wp_seq_k (fun K hK2 => ?_)
  refine wp_region_from ?_
  refine segO 1 [] [(3, .val (.slice none 0 0))] (Os := []) trivial hE hH (by kernel_rfl) (fun a hE => ?_)
  refine wpFrom_end (by kernel_rfl) ?_
  refine Exit.then_normal (hK2 _ _ ?_)
  refine wp_seq_k (fun K hK3 => ?_)
  refine wp_seq_k (fun K hK4 => ?_)
  refine wp_region_from ?_
  refine segO 1 [] [(4, .kv .i 0)] (Os := []) trivial hE hH (by kernel_rfl) (fun a hE => ?_)
  refine wpFrom_end (by kernel_rfl) ?_
  refine Exit.then_normal (hK4 _ _ ?_)
  refine wp_block ?_
  have hE := hE.nilTl 3 .str (by kernel_rfl)
  have hH := hH.nilTk 9 16 .str
  obtain ⟨z22, hz22, h⟩ := bs h
  refine loop_intro (fun Q8 c hQ hc => ?_)
  have key : ∀ (l6 : List (List UInt8)) (x7 : Int) (rr : (List (List UInt8)) × Int), f74_l0 p0 σ l6 x7 = some rr → ∀ (a : Act) (w : World) (G : Gh) (v5 : Value), G0.le G → EnvR G 26 a [(0, .kv (.ptr 47) p0), (2, .val (.slice none 0 0)), (3, .tl v5 .str l6), (4, .kv .i x7)] → Holds w G (tabs σ) (LS.tk v5 9 16 .str l6 :: Ls) → (∀ z23 : (List (List UInt8)) × Int, rr = z23 → ∀ (a : Act) (w : World) (G : Gh) (v5 : Value), G0.le G → EnvR G 26 a [(0, .kv (.ptr 47) p0), (2, .val (.slice none 0 0)), (3, .tl v5 .str z23.1), (4, .kv .i z23.2)] → Holds w G (tabs σ) (LS.tk v5 9 16 .str z23.1 :: Ls) → Q8 (.exit 0) a w) → Rnd Try.prog c Q8 a w := by
    refine f74_l0.partial_correctness p0 σ _ ?_
    intro self ih11 l6 x7 rr h a w G v5 hle hE hH hx9
    refine rnd_step' hc ?_
    refine wp_seq_k (fun K hK12 => ?_)
    refine wp_seq_k (fun K hK13 => ?_)
    refine wp_region_from ?_
    obtain ⟨i14, hi14, h⟩ := bs h
    obtain ⟨o15, ho15, h⟩ := bs h
    refine segO 7 [.pt i14, .ob fs47 o15] [(11, .kv .bool (decide (x7 < (o15.2.1.length : Int))))] (Os := [_, _]) ⟨hi14, (ob47 (s := σ) ho15), trivial⟩ hE hH (by kernel_rfl) (fun a hE => ?_)
    refine wpFrom_end (by kernel_rfl) ?_
    refine Exit.then_normal (hK13 _ _ ?_)
    refine condE (b := decide (x7 < (o15.2.1.length : Int))) hE (by kernel_rfl) (fun hc => ?_) (fun hc => ?_)
    · replace h := ifT hc h
      refine wp_skip ?_
      refine Exit.then_normal (hK12 _ _ ?_)
      refine wp_seq_k (fun K hK16 => ?_)
      refine wp_block ?_
      refine wp_region_from ?_
      obtain ⟨i17, hi17, h⟩ := bs h
      obtain ⟨o18, ho18, h⟩ := bs h
      obtain ⟨x19, hx19, h⟩ := bs h
      refine segO 9 [.pt i17, .ob fs47 o18, .ix K52 x19] [(14, .tl v5 .str l6), (22, .kv .str x19.1)] (Os := [_, _, _]) ⟨hi17, (ob47 (s := σ) ho18), (IxAt.of (k := K52) hx19), trivial⟩ hE hH (by kernel_rfl) (fun a hE => ?_)
      refine stepBuildS (d := (some 23)) .str [x19.1] hE hH (by kernel_rfl) (by kernel_rfl) (fun a w G hl1 hE hH => ?_)
      have hle := Gh.le_trans hle hl1
      obtain ⟨q20, h⟩ := gd h
      refine stepApp (e := 0) (bt := 16) (ys := [x19.1]) (e' := 9) (d := (some 24)) 0 hE hH (by kernel_rfl) rfl (by kernel_rfl) q20 (fun v21 a w G hl2 hE hH => ?_)
      have hle := Gh.le_trans hle hl2
      refine segO 1 [] [(3, .tl v21 .str (l6 ++ [x19.1]))] (Os := []) trivial hE hH (by kernel_rfl) (fun a hE => ?_)
      refine wpFrom_end (by kernel_rfl) ?_
      refine Exit.in_normal ?_
      refine Exit.then_normal (hK16 _ _ ?_)
      refine wp_region_from ?_
      refine segO 3 [] [(4, .kv .i (IntKind.wrap .i64 (x7 + 1)))] (Os := []) trivial hE hH (by kernel_rfl) (fun a hE => ?_)
      refine wpFrom_end (by kernel_rfl) ?_
      refine Exit.then_normal ?_
      exact ih11 _ _ _ h _ _ _ v21 hle (hE.subC (by kernel_rfl)) hH hx9
    · replace h := ifF hc h
      refine wp_exit ?_
      refine Exit.then_exit ?_
      refine Exit.then_exit ?_
      cases h
      exact hx9 _ rfl _ _ _ v5 hle (hE.subC (by kernel_rfl)) hH
  refine key _ _ _ hz22 _ _ _ (.slice none 0 0) hle (hE.subC (by kernel_rfl)) hH ?_
  · intro z23 hz a w G v5 hle hE hH
    subst hz
    rw [hQ]
    refine Exit.in_eq ?_
    refine Exit.then_normal (hK3 _ _ ?_)
    refine wp_seq_k (fun K hK24 => ?_)
    refine wp_region_from ?_
    refine segO 2 [] [(2, .tl v5 .str z22.1)] (Os := []) trivial hE hH (by kernel_rfl) (fun a hE => ?_)
    refine wpFrom_end (by kernel_rfl) ?_
    refine Exit.then_normal (hK24 _ _ ?_)
    refine wp_ret ?_
    have hH := hH.drop (fun _ _ _ => rfl)
    cases h
    exact ret1 rfl hE hle hH (by kernel_rfl)

def f102_l0 (p0 : List UInt8) (x4 : Int) : Option (Sum Int Bool) :=
  if (decide (x4 < (p0.length : Int))) = true then
  if (0 : Int) ≤ x4 ∧ x4 < (p0.length : Int) then
  if (((((!((decide ((btS p0 x4) ≥ 97)) && (decide ((btS p0 x4) ≤ 122)))) && (!((decide ((btS p0 x4) ≥ 48)) && (decide ((btS p0 x4) ≤ 57))))) && ((btS p0 x4) != 46)) && ((btS p0 x4) != 45)) && ((btS p0 x4) != 95)) = true then
  some (.inr false)
  else
  f102_l0 p0 (IntKind.wrap .i64 (x4 + 1))
  else none
  else
  some (.inl x4)
  partial_fixpoint

def f102 (p0 : List UInt8) : Option Bool :=
  f102_l0 p0 0 >>= fun rr17 => (match rr17 with
  | .inr yy => some yy
  | .inl z16 =>
  some ((decide ((p0.length : Int) ≥ 1)) && (decide ((p0.length : Int) ≤ 24))))

theorem f102_ok {p0 : List UInt8} {σ : St} {p : Bool} (h : f102 p0 = some p) : Spec Try.prog 102 [.kv .str p0] (tabs σ) (.kv .bool p) (tabs σ) := by
  refine Spec.intro Try.func102 (by kernel_rfl) rfl (by kernel_rfl) (fun a w G0 Ls hE hH hN => ?_)
  have hle : G0.le G0 := Gh.le_refl G0
  unfold f102 at h
  refine wp_seq_k (fun K hK1 => ?_)
  refine wp_region_from ?_
  refine segO 1 [] [(2, .kv .bool false)] (Os := []) trivial hE hH (by kernel_rfl) (fun a hE => ?_)
  refine wpFrom_end (by kernel_rfl) ?_
  refine Exit.then_normal (hK1 _ _ ?_)
  refine wp_seq_k (fun K hK2 => ?_)
  refine wp_seq_k (fun K hK3 => ?_)
  refine wp_region_from ?_
  refine segO 1 [] [(3, .kv .i 0)] (Os := []) trivial hE hH (by kernel_rfl) (fun a hE => ?_)
  refine wpFrom_end (by kernel_rfl) ?_
  refine Exit.then_normal (hK3 _ _ ?_)
  refine wp_block ?_
  obtain ⟨rr17, hrr17, h⟩ := bs h
  refine loop_intro (fun Q5 c hQ hc => ?_)
  have key : ∀ (x4 : Int) (rr : Sum Int Bool), f102_l0 p0 x4 = some rr → ∀ (a : Act) (w : World) (G : Gh), G0.le G → EnvR G 50 a [(0, .kv .str p0), (2, .kv .bool false), (3, .kv .i x4)] → Holds w G (tabs σ) (Ls) → (∀ z16 : Int, rr = .inl z16 → ∀ (a : Act) (w : World) (G : Gh), G0.le G → EnvR G 50 a [(0, .kv .str p0), (2, .kv .bool false), (3, .kv .i z16)] → Holds w G (tabs σ) (Ls) → Q5 (.exit 0) a w) → (∀ yy : Bool, rr = .inr yy → ∀ (a : Act) (w : World), PostB Try.prog Try.f102 G0 (.kv .bool yy) (tabs σ) Ls .ret a w → Q5 .ret a w) → Rnd Try.prog c Q5 a w := by
    refine f102_l0.partial_correctness p0 _ ?_
    intro self ih8 x4 rr h a w G  hle hE hH hx6 hret7
    refine rnd_step' hc ?_
    refine wp_seq_k (fun K hK9 => ?_)
    refine wp_seq_k (fun K hK10 => ?_)
    refine wp_region_from ?_
    refine segO 4 [] [(8, .kv .bool (decide (x4 < (p0.length : Int))))] (Os := []) trivial hE hH (by kernel_rfl) (fun a hE => ?_)
    refine wpFrom_end (by kernel_rfl) ?_
    refine Exit.then_normal (hK10 _ _ ?_)
    refine condE (b := decide (x4 < (p0.length : Int))) hE (by kernel_rfl) (fun hc => ?_) (fun hc => ?_)
    · replace h := ifT hc h
      refine wp_skip ?_
      refine Exit.then_normal (hK9 _ _ ?_)
      refine wp_seq_k (fun K hK11 => ?_)
      refine wp_block ?_
      refine wp_seq_k (fun K hK12 => ?_)
      refine wp_region_from ?_
      obtain ⟨q13, h⟩ := gd h
      refine segO 4 [] [(4, .kv (.int .u8) (btS p0 x4))] (Os := [_]) ⟨q13, trivial⟩ hE hH (by kernel_rfl) (fun a hE => ?_)
      refine wpFrom_end (by kernel_rfl) ?_
      refine Exit.then_normal (hK12 _ _ ?_)
      refine wp_seq_k (fun K hK14 => ?_)
      refine wp_region_from ?_
      refine segO 28 [] [(41, .kv .bool (((((!((decide ((btS p0 x4) ≥ 97)) && (decide ((btS p0 x4) ≤ 122)))) && (!((decide ((btS p0 x4) ≥ 48)) && (decide ((btS p0 x4) ≤ 57))))) && ((btS p0 x4) != 46)) && ((btS p0 x4) != 45)) && ((btS p0 x4) != 95)))] (Os := []) trivial hE hH (by kernel_rfl) (fun a hE => ?_)
      refine wpFrom_end (by kernel_rfl) ?_
      refine Exit.then_normal (hK14 _ _ ?_)
      refine condE (b := ((((!((decide ((btS p0 x4) ≥ 97)) && (decide ((btS p0 x4) ≤ 122)))) && (!((decide ((btS p0 x4) ≥ 48)) && (decide ((btS p0 x4) ≤ 57))))) && ((btS p0 x4) != 46)) && ((btS p0 x4) != 45)) && ((btS p0 x4) != 95)) hE (by kernel_rfl) (fun hc => ?_) (fun hc => ?_)
      · replace h := ifT hc h
        refine wp_seq_k (fun K hK15 => ?_)
        refine wp_region_from ?_
        refine segO 1 [] [(2, .kv .bool false)] (Os := []) trivial hE hH (by kernel_rfl) (fun a hE => ?_)
        refine wpFrom_end (by kernel_rfl) ?_
        refine Exit.then_normal (hK15 _ _ ?_)
        refine wp_ret ?_
        refine Exit.in_ret ?_
        refine Exit.then_ret ?_
        refine Exit.then_ret ?_
        cases h
        exact hret7 _ rfl _ _ (ret1 rfl hE hle hH (by kernel_rfl))
      · replace h := ifF hc h
        refine wp_skip ?_
        refine Exit.in_normal ?_
        refine Exit.then_normal (hK11 _ _ ?_)
        refine wp_region_from ?_
        refine segO 3 [] [(3, .kv .i (IntKind.wrap .i64 (x4 + 1)))] (Os := []) trivial hE hH (by kernel_rfl) (fun a hE => ?_)
        refine wpFrom_end (by kernel_rfl) ?_
        refine Exit.then_normal ?_
        exact ih8 _ _ h _ _ _  hle (hE.subC (by kernel_rfl)) hH hx6 hret7
    · replace h := ifF hc h
      refine wp_exit ?_
      refine Exit.then_exit ?_
      refine Exit.then_exit ?_
      cases h
      exact hx6 _ rfl _ _ _  hle (hE.subC (by kernel_rfl)) hH
  refine key _ _ hrr17 _ _ _  hle (hE.subC (by kernel_rfl)) hH ?_ ?_
  · intro z16 hz a w G  hle hE hH
    subst hz
    rw [hQ]
    dsimp only at h
    refine Exit.in_eq ?_
    refine Exit.then_normal (hK2 _ _ ?_)
    refine wp_seq_k (fun K hK18 => ?_)
    refine wp_region_from ?_
    refine segO 9 [] [(2, .kv .bool ((decide ((p0.length : Int) ≥ 1)) && (decide ((p0.length : Int) ≤ 24))))] (Os := []) trivial hE hH (by kernel_rfl) (fun a hE => ?_)
    refine wpFrom_end (by kernel_rfl) ?_
    refine Exit.then_normal (hK18 _ _ ?_)
    refine wp_ret ?_
    cases h
    exact ret1 rfl hE hle hH (by kernel_rfl)
  · intro yy hz a w hp
    subst hz
    dsimp only at h
    cases h
    rw [hQ]
    refine Exit.in_ret ?_
    refine Exit.then_ret ?_
    exact hp

def f104 (p0 : Option Nat) (σ : St) : Option (Bool × St) :=
  p0 >>= fun i4 =>
  (σ.t47[i4]?) >>= fun o5 =>
  if (o5.2.2.1 == 0) = true then
  some (false, σ)
  else
  p0 >>= fun i8 =>
  (σ.t47[i8]?) >>= fun o9 =>
  p0 >>= fun i10 =>
  (σ.t47[i10]?) >>= fun o11 =>
  p0 >>= fun i13 =>
  ((σ.set47 i10 (o11.1, o11.2.1, IntKind.wrap .i64 (o9.2.2.1 - 1), o11.2.2.2.1, ())).t47[i13]?) >>= fun o14 =>
  p0 >>= fun i15 =>
  ((σ.set47 i10 (o11.1, o11.2.1, IntKind.wrap .i64 (o9.2.2.1 - 1), o11.2.2.2.1, ())).t47[i15]?) >>= fun o16 =>
  p0 >>= fun i18 =>
  (((σ.set47 i10 (o11.1, o11.2.1, IntKind.wrap .i64 (o9.2.2.1 - 1), o11.2.2.2.1, ())).set47 i15 (o16.1, o16.2.1, o16.2.2.1, o14.2.2.1 == 0, ())).t47[i18]?) >>= fun o19 =>
  some (o19.2.2.2.1, ((σ.set47 i10 (o11.1, o11.2.1, IntKind.wrap .i64 (o9.2.2.1 - 1), o11.2.2.2.1, ())).set47 i15 (o16.1, o16.2.1, o16.2.2.1, o14.2.2.1 == 0, ())))

theorem f104_ok {p0 : Option Nat} {σ : St} {p : Bool × St} (h : f104 p0 σ = some p) : Spec Try.prog 104 [.kv (.ptr 47) p0] (tabs σ) (.kv .bool p.1) (tabs p.2) := by
  refine Spec.intro Try.func104 (by kernel_rfl) rfl (by kernel_rfl) (fun a w G0 Ls hE hH hN => ?_)
  have hle : G0.le G0 := Gh.le_refl G0
  unfold f104 at h
  refine wp_seq_k (fun K hK1 => ?_)
  refine wp_region_from ?_
  refine segO 1 [] [(2, .kv .bool false)] (Os := []) trivial hE hH (by kernel_rfl) (fun a hE => ?_)
  refine wpFrom_end (by kernel_rfl) ?_
  refine Exit.then_normal (hK1 _ _ ?_)
  refine wp_seq_k (fun K hK2 => ?_)
  refine wp_seq_k (fun K hK3 => ?_)
  refine wp_region_from ?_
  obtain ⟨i4, hi4, h⟩ := bs h
  obtain ⟨o5, ho5, h⟩ := bs h
  refine segO 5 [.pt i4, .ob fs47 o5] [(7, .kv .bool (o5.2.2.1 == 0))] (Os := [_, _]) ⟨hi4, (ob47 (s := σ) ho5), trivial⟩ hE hH (by kernel_rfl) (fun a hE => ?_)
  refine wpFrom_end (by kernel_rfl) ?_
  refine Exit.then_normal (hK3 _ _ ?_)
  refine condE (b := o5.2.2.1 == 0) hE (by kernel_rfl) (fun hc => ?_) (fun hc => ?_)
  · replace h := ifT hc h
    refine wp_seq_k (fun K hK6 => ?_)
    refine wp_region_from ?_
    refine segO 1 [] [(2, .kv .bool false)] (Os := []) trivial hE hH (by kernel_rfl) (fun a hE => ?_)
    refine wpFrom_end (by kernel_rfl) ?_
    refine Exit.then_normal (hK6 _ _ ?_)
    refine wp_ret ?_
    refine Exit.then_ret ?_
    cases h
    exact ret1 rfl hE hle hH (by kernel_rfl)
  · replace h := ifF hc h
    refine wp_skip ?_
    refine Exit.then_normal (hK2 _ _ ?_)
    refine wp_seq_k (fun K hK7 => ?_)
    refine wp_region_from ?_
    obtain ⟨i8, hi8, h⟩ := bs h
    obtain ⟨o9, ho9, h⟩ := bs h
    obtain ⟨i10, hi10, h⟩ := bs h
    refine segO 8 [.pt i8, .ob fs47 o9, .pt i10] [(13, .kv .i (IntKind.wrap .i64 (o9.2.2.1 - 1))), (15, .fldA 47 i10 2)] (Os := [_, _, _]) ⟨hi8, (ob47 (s := σ) ho9), hi10, trivial⟩ hE hH (by kernel_rfl) (fun a hE => ?_)
    obtain ⟨o11, ho11, h⟩ := bs h
    refine stepStO (t := 47) (j := i10) (off := 2) .i (IntKind.wrap .i64 (o9.2.2.1 - 1)) (x' := (o11.1, o11.2.1, IntKind.wrap .i64 (o9.2.2.1 - 1), o11.2.2.2.1, ())) hE hH (by kernel_rfl) (ob47 (s := σ) ho11) (by kernel_rfl) (upd47 (s := σ)) (fun w G hl1 hE hH => ?_)
    have hle := Gh.le_trans hle hl1
    refine wpFrom_end (by kernel_rfl) ?_
    refine Exit.then_normal (hK7 _ _ ?_)
    refine wp_seq_k (fun K hK12 => ?_)
    refine wp_region_from ?_
    obtain ⟨i13, hi13, h⟩ := bs h
    obtain ⟨o14, ho14, h⟩ := bs h
    obtain ⟨i15, hi15, h⟩ := bs h
    refine segO 8 [.pt i13, .ob fs47 o14, .pt i15] [(21, .kv .bool (o14.2.2.1 == 0)), (23, .fldA 47 i15 3)] (Os := [_, _, _]) ⟨hi13, (ob47 (s := (σ.set47 i10 (o11.1, o11.2.1, IntKind.wrap .i64 (o9.2.2.1 - 1), o11.2.2.2.1, ()))) ho14), hi15, trivial⟩ hE hH (by kernel_rfl) (fun a hE => ?_)
    obtain ⟨o16, ho16, h⟩ := bs h
    refine stepStO (t := 47) (j := i15) (off := 3) .bool (o14.2.2.1 == 0) (x' := (o16.1, o16.2.1, o16.2.2.1, o14.2.2.1 == 0, ())) hE hH (by kernel_rfl) (ob47 (s := (σ.set47 i10 (o11.1, o11.2.1, IntKind.wrap .i64 (o9.2.2.1 - 1), o11.2.2.2.1, ()))) ho16) (by kernel_rfl) (upd47 (s := (σ.set47 i10 (o11.1, o11.2.1, IntKind.wrap .i64 (o9.2.2.1 - 1), o11.2.2.2.1, ())))) (fun w G hl2 hE hH => ?_)
    have hle := Gh.le_trans hle hl2
    refine wpFrom_end (by kernel_rfl) ?_
    refine Exit.then_normal (hK12 _ _ ?_)
    refine wp_seq_k (fun K hK17 => ?_)
    refine wp_region_from ?_
    obtain ⟨i18, hi18, h⟩ := bs h
    obtain ⟨o19, ho19, h⟩ := bs h
    refine segO 5 [.pt i18, .ob fs47 o19] [(2, .kv .bool o19.2.2.2.1)] (Os := [_, _]) ⟨hi18, (ob47 (s := ((σ.set47 i10 (o11.1, o11.2.1, IntKind.wrap .i64 (o9.2.2.1 - 1), o11.2.2.2.1, ())).set47 i15 (o16.1, o16.2.1, o16.2.2.1, o14.2.2.1 == 0, ()))) ho19), trivial⟩ hE hH (by kernel_rfl) (fun a hE => ?_)
    refine wpFrom_end (by kernel_rfl) ?_
    refine Exit.then_normal (hK17 _ _ ?_)
    refine wp_ret ?_
    cases h
    exact ret1 rfl hE hle hH (by kernel_rfl)

def f128_l0 (p0 : List UInt8) (p1 : List UInt8) (x4 : Int) : Option (Sum Int Bool) :=
  if ((decide (x4 < (p0.length : Int))) && (decide (x4 < (p1.length : Int)))) = true then
  if (0 : Int) ≤ x4 ∧ x4 < (p0.length : Int) then
  if (0 : Int) ≤ x4 ∧ x4 < (p1.length : Int) then
  if ((btS p0 x4) != (btS p1 x4)) = true then
  if (0 : Int) ≤ x4 ∧ x4 < (p0.length : Int) then
  if (0 : Int) ≤ x4 ∧ x4 < (p1.length : Int) then
  some (.inr (decide ((btS p0 x4) < (btS p1 x4))))
  else none
  else none
  else
  f128_l0 p0 p1 (IntKind.wrap .i64 (x4 + 1))
  else none
  else none
  else
  some (.inl x4)
  partial_fixpoint

def f128 (p0 : List UInt8) (p1 : List UInt8) : Option Bool :=
  f128_l0 p0 p1 0 >>= fun rr19 => (match rr19 with
  | .inr yy => some yy
  | .inl z18 =>
  some (decide ((p0.length : Int) < (p1.length : Int))))

theorem f128_ok {p0 : List UInt8} {p1 : List UInt8} {σ : St} {p : Bool} (h : f128 p0 p1 = some p) : Spec Try.prog 128 [.kv .str p0, .kv .str p1] (tabs σ) (.kv .bool p) (tabs σ) := by
  refine Spec.intro Try.func128 (by kernel_rfl) rfl (by kernel_rfl) (fun a w G0 Ls hE hH hN => ?_)
  have hle : G0.le G0 := Gh.le_refl G0
  unfold f128 at h
  refine wp_seq_k (fun K hK1 => ?_)
  refine wp_region_from ?_
  refine segO 1 [] [(4, .kv .bool false)] (Os := []) trivial hE hH (by kernel_rfl) (fun a hE => ?_)
  refine wpFrom_end (by kernel_rfl) ?_
  refine Exit.then_normal (hK1 _ _ ?_)
  refine wp_seq_k (fun K hK2 => ?_)
  refine wp_seq_k (fun K hK3 => ?_)
  refine wp_region_from ?_
  refine segO 1 [] [(5, .kv .i 0)] (Os := []) trivial hE hH (by kernel_rfl) (fun a hE => ?_)
  refine wpFrom_end (by kernel_rfl) ?_
  refine Exit.then_normal (hK3 _ _ ?_)
  refine wp_block ?_
  obtain ⟨rr19, hrr19, h⟩ := bs h
  refine loop_intro (fun Q5 c hQ hc => ?_)
  have key : ∀ (x4 : Int) (rr : Sum Int Bool), f128_l0 p0 p1 x4 = some rr → ∀ (a : Act) (w : World) (G : Gh), G0.le G → EnvR G 37 a [(0, .kv .str p0), (1, .kv .str p1), (4, .kv .bool false), (5, .kv .i x4)] → Holds w G (tabs σ) (Ls) → (∀ z18 : Int, rr = .inl z18 → ∀ (a : Act) (w : World) (G : Gh), G0.le G → EnvR G 37 a [(0, .kv .str p0), (1, .kv .str p1), (4, .kv .bool false), (5, .kv .i z18)] → Holds w G (tabs σ) (Ls) → Q5 (.exit 0) a w) → (∀ yy : Bool, rr = .inr yy → ∀ (a : Act) (w : World), PostB Try.prog Try.f128 G0 (.kv .bool yy) (tabs σ) Ls .ret a w → Q5 .ret a w) → Rnd Try.prog c Q5 a w := by
    refine f128_l0.partial_correctness p0 p1 _ ?_
    intro self ih8 x4 rr h a w G  hle hE hH hx6 hret7
    refine rnd_step' hc ?_
    refine wp_seq_k (fun K hK9 => ?_)
    refine wp_seq_k (fun K hK10 => ?_)
    refine wp_region_from ?_
    refine segO 10 [] [(15, .kv .bool ((decide (x4 < (p0.length : Int))) && (decide (x4 < (p1.length : Int)))))] (Os := []) trivial hE hH (by kernel_rfl) (fun a hE => ?_)
    refine wpFrom_end (by kernel_rfl) ?_
    refine Exit.then_normal (hK10 _ _ ?_)
    refine condE (b := (decide (x4 < (p0.length : Int))) && (decide (x4 < (p1.length : Int)))) hE (by kernel_rfl) (fun hc => ?_) (fun hc => ?_)
    · replace h := ifT hc h
      refine wp_skip ?_
      refine Exit.then_normal (hK9 _ _ ?_)
      refine wp_seq_k (fun K hK11 => ?_)
      refine wp_block ?_
      refine wp_seq_k (fun K hK12 => ?_)
      obtain ⟨q13, h⟩ := gd h
      obtain ⟨q14, h⟩ := gd h
      refine region_par 6 [] [(0, 0), (0, 0), (0, 0), (0, 0), (0, 0), (0, 0)] [.kv .str p0, .kv .i x4, .kv (.int .u8) (btS p0 x4), .kv .str p1, .kv .i x4, .kv (.int .u8) (btS p1 x4)] (fun _ => tabs σ) (fun _ => Ls) (by kernel_rfl) (by kernel_rfl) hE hH
              ⟨⟨⟨⟨⟨⟨trivial,
              anyk (fun k => obR [] (Os := []) trivial (by kernel_rfl) (by kernel_rfl))⟩,
              anyk (fun k => obR [] (Os := []) trivial (by kernel_rfl) (by kernel_rfl))⟩,
              anyk (fun k => obR [] (Os := [_]) ⟨q13, trivial⟩ (by kernel_rfl) (by kernel_rfl))⟩,
              anyk (fun k => obR [] (Os := []) trivial (by kernel_rfl) (by kernel_rfl))⟩,
              anyk (fun k => obR [] (Os := []) trivial (by kernel_rfl) (by kernel_rfl))⟩,
              anyk (fun k => obR [] (Os := [_]) ⟨q14, trivial⟩ (by kernel_rfl) (by kernel_rfl))⟩ (fun a w G hl1 hE hH => ?_)
      have hle := Gh.le_trans hle hl1
      refine segO 1 [] [(24, .kv .bool ((btS p0 x4) != (btS p1 x4)))] (Os := []) trivial hE hH (by kernel_rfl) (fun a hE => ?_)
      refine wpFrom_end (by kernel_rfl) ?_
      refine Exit.then_normal (hK12 _ _ ?_)
      refine condE (b := (btS p0 x4) != (btS p1 x4)) hE (by kernel_rfl) (fun hc => ?_) (fun hc => ?_)
      · replace h := ifT hc h
        refine wp_seq_k (fun K hK15 => ?_)
        obtain ⟨q16, h⟩ := gd h
        obtain ⟨q17, h⟩ := gd h
        refine region_par 6 [] [(0, 0), (0, 0), (0, 0), (0, 0), (0, 0), (0, 0)] [.kv .str p0, .kv .i x4, .kv (.int .u8) (btS p0 x4), .kv .str p1, .kv .i x4, .kv (.int .u8) (btS p1 x4)] (fun _ => tabs σ) (fun _ => Ls) (by kernel_rfl) (by kernel_rfl) hE hH
                ⟨⟨⟨⟨⟨⟨trivial,
                anyk (fun k => obR [] (Os := []) trivial (by kernel_rfl) (by kernel_rfl))⟩,
                anyk (fun k => obR [] (Os := []) trivial (by kernel_rfl) (by kernel_rfl))⟩,
                anyk (fun k => obR [] (Os := [_]) ⟨q16, trivial⟩ (by kernel_rfl) (by kernel_rfl))⟩,
                anyk (fun k => obR [] (Os := []) trivial (by kernel_rfl) (by kernel_rfl))⟩,
                anyk (fun k => obR [] (Os := []) trivial (by kernel_rfl) (by kernel_rfl))⟩,
                anyk (fun k => obR [] (Os := [_]) ⟨q17, trivial⟩ (by kernel_rfl) (by kernel_rfl))⟩ (fun a w G hl2 hE hH => ?_)
        have hle := Gh.le_trans hle hl2
        refine segO 2 [] [(4, .kv .bool (decide ((btS p0 x4) < (btS p1 x4))))] (Os := []) trivial hE hH (by kernel_rfl) (fun a hE => ?_)
        refine wpFrom_end (by kernel_rfl) ?_
        refine Exit.then_normal (hK15 _ _ ?_)
        refine wp_ret ?_
        refine Exit.in_ret ?_
        refine Exit.then_ret ?_
        refine Exit.then_ret ?_
        cases h
        exact hret7 _ rfl _ _ (ret1 rfl hE hle hH (by kernel_rfl))
      · replace h := ifF hc h
        refine wp_skip ?_
        refine Exit.in_normal ?_
        refine Exit.then_normal (hK11 _ _ ?_)
        refine wp_region_from ?_
        refine segO 3 [] [(5, .kv .i (IntKind.wrap .i64 (x4 + 1)))] (Os := []) trivial hE hH (by kernel_rfl) (fun a hE => ?_)
        refine wpFrom_end (by kernel_rfl) ?_
        refine Exit.then_normal ?_
        exact ih8 _ _ h _ _ _  hle (hE.subC (by kernel_rfl)) hH hx6 hret7
    · replace h := ifF hc h
      refine wp_exit ?_
      refine Exit.then_exit ?_
      refine Exit.then_exit ?_
      cases h
      exact hx6 _ rfl _ _ _  hle (hE.subC (by kernel_rfl)) hH
  refine key _ _ hrr19 _ _ _  hle (hE.subC (by kernel_rfl)) hH ?_ ?_
  · intro z18 hz a w G  hle hE hH
    subst hz
    rw [hQ]
    dsimp only at h
    refine Exit.in_eq ?_
    refine Exit.then_normal (hK2 _ _ ?_)
    refine wp_seq_k (fun K hK20 => ?_)
    refine wp_region_from ?_
    refine segO 6 [] [(4, .kv .bool (decide ((p0.length : Int) < (p1.length : Int))))] (Os := []) trivial hE hH (by kernel_rfl) (fun a hE => ?_)
    refine wpFrom_end (by kernel_rfl) ?_
    refine Exit.then_normal (hK20 _ _ ?_)
    refine wp_ret ?_
    cases h
    exact ret1 rfl hE hle hH (by kernel_rfl)
  · intro yy hz a w hp
    subst hz
    dsimp only at h
    cases h
    rw [hQ]
    refine Exit.in_ret ?_
    refine Exit.then_ret ?_
    exact hp

def f103_l0 (p0 : Option Nat) (σ : St) (l8 : List K52.den) (y9 : K52.den) (x10 : Bool) (x11 : Int) : Option ((List K52.den) × K52.den × Bool × Int) :=
  p0 >>= fun i18 =>
  (σ.t47[i18]?) >>= fun o19 =>
  if (decide (x11 < (o19.2.1.length : Int))) = true then
  if (!x10) = true then
  p0 >>= fun i24 =>
  (σ.t47[i24]?) >>= fun o25 =>
  (ix o25.2.1 x11) >>= fun x26 =>
  f128 x26.1 y9.1 >>= fun r27 =>
  (if (!r27) = true then
  if (l8.length + 1) * 48 ≤ 140737488355328 then
  some (l8 ++ [y9], y9, true)
  else none
  else
  some (l8, y9, x10) : Option ((List K52.den) × K52.den × Bool)) >>= fun z32 =>
  p0 >>= fun i35 =>
  (σ.t47[i35]?) >>= fun o36 =>
  (ix o36.2.1 x11) >>= fun x37 =>
  (if (!(x37.1 == z32.2.1.1)) = true then
  p0 >>= fun i43 =>
  (σ.t47[i43]?) >>= fun o44 =>
  (ix o44.2.1 x11) >>= fun x45 =>
  if (z32.1.length + 1) * 48 ≤ 140737488355328 then
  some (z32.1 ++ [x45], z32.2.1)
  else none
  else
  some (z32.1, z32.2.1) : Option ((List K52.den) × K52.den)) >>= fun z41 =>
  f103_l0 p0 σ z41.1 z41.2 z32.2.2 (IntKind.wrap .i64 (x11 + 1))
  else
  p0 >>= fun i53 =>
  (σ.t47[i53]?) >>= fun o54 =>
  (ix o54.2.1 x11) >>= fun x55 =>
  (if (!(x55.1 == y9.1)) = true then
  p0 >>= fun i61 =>
  (σ.t47[i61]?) >>= fun o62 =>
  (ix o62.2.1 x11) >>= fun x63 =>
  if (l8.length + 1) * 48 ≤ 140737488355328 then
  some (l8 ++ [x63], y9)
  else none
  else
  some (l8, y9) : Option ((List K52.den) × K52.den)) >>= fun z59 =>
  f103_l0 p0 σ z59.1 z59.2 x10 (IntKind.wrap .i64 (x11 + 1))
  else
  some ((l8, y9, x10, x11))
  partial_fixpoint

def f103 (p0 : Option Nat) (p1 : K52.den) (σ : St) : Option (Unit × St) :=
  f103_l0 p0 σ [] p1 false 0 >>= fun z66 =>
  (if (!z66.2.2.1) = true then
  if (z66.1.length + 1) * 48 ≤ 140737488355328 then
  some (z66.1 ++ [z66.2.1], z66.2.1)
  else none
  else
  some (z66.1, z66.2.1) : Option ((List K52.den) × K52.den)) >>= fun z73 =>
  p0 >>= fun i75 =>
  (σ.t47[i75]?) >>= fun o76 =>
  some ((), (σ.set47 i75 (o76.1, z73.1, o76.2.2.1, o76.2.2.2.1, ())))

theorem f103_ok {p0 : Option Nat} {p1 : K52.den} {σ : St} {p : Unit × St} (h : f103 p0 p1 σ = some p) : Spec Try.prog 103 [.kv (.ptr 47) p0, .kv K52 p1] (tabs σ) (.tup []) (tabs p.2) := by
  refine Spec.intro Try.func103 (by kernel_rfl) rfl (by kernel_rfl) (fun a w G0 Ls hE hH hN => ?_)
  have hle : G0.le G0 := Gh.le_refl G0
  unfold f103 at h
  refine wp_seq_k (fun K hK1 => ?_)
  refine wp_region_from ?_
  refine stepBox (e := 52) (d := (some 3)) K52 p1 hE hH (by kernel_rfl) (by kernel_rfl) (fun b2 a w G hl1 hE hH => ?_)
  have hle := Gh.le_trans hle hl1
  refine wpFrom_end (by kernel_rfl) ?_
  refine Exit.then_normal (hK1 _ _ ?_)
  refine wp_seq_k (fun K hK3 => ?_)
  refine wp_region_from ?_
  refine segO 1 [] [(4, .val (.slice none 0 0))] (Os := []) trivial hE hH (by kernel_rfl) (fun a hE => ?_)
  refine wpFrom_end (by kernel_rfl) ?_
  refine Exit.then_normal (hK3 _ _ ?_)
  refine wp_seq_k (fun K hK4 => ?_)
  refine wp_region_from ?_
  refine segO 1 [] [(5, .kv .bool false)] (Os := []) trivial hE hH (by kernel_rfl) (fun a hE => ?_)
  refine wpFrom_end (by kernel_rfl) ?_
  refine Exit.then_normal (hK4 _ _ ?_)
  refine wp_seq_k (fun K hK5 => ?_)
  refine wp_seq_k (fun K hK6 => ?_)
  refine wp_region_from ?_
  refine segO 1 [] [(6, .kv .i 0)] (Os := []) trivial hE hH (by kernel_rfl) (fun a hE => ?_)
  refine wpFrom_end (by kernel_rfl) ?_
  refine Exit.then_normal (hK6 _ _ ?_)
  refine wp_block ?_
  have hE := hE.nilTl 4 K52 (by kernel_rfl)
  have hH := hH.nilTk 52 48 K52
  obtain ⟨z66, hz66, h⟩ := bs h
  refine loop_intro (fun Q12 c hQ hc => ?_)
  have key : ∀ (l8 : List K52.den) (y9 : K52.den) (x10 : Bool) (x11 : Int) (rr : (List K52.den) × K52.den × Bool × Int), f103_l0 p0 σ l8 y9 x10 x11 = some rr → ∀ (a : Act) (w : World) (G : Gh) (v7 : Value), G0.le G → EnvR G 67 a [(0, .kv (.ptr 47) p0), (3, .val (.pointer (some ⟨b2, 0, none⟩))), (4, .tl v7 K52 l8), (5, .kv .bool x10), (6, .kv .i x11)] → Holds w G (tabs σ) (LS.tk v7 52 48 K52 l8 :: LS.box b2 K52 y9 :: Ls) → (∀ z67 : (List K52.den) × K52.den × Bool × Int, rr = z67 → ∀ (a : Act) (w : World) (G : Gh) (v7 : Value), G0.le G → EnvR G 67 a [(0, .kv (.ptr 47) p0), (3, .val (.pointer (some ⟨b2, 0, none⟩))), (4, .tl v7 K52 z67.1), (5, .kv .bool z67.2.2.1), (6, .kv .i z67.2.2.2)] → Holds w G (tabs σ) (LS.tk v7 52 48 K52 z67.1 :: LS.box b2 K52 z67.2.1 :: Ls) → Q12 (.exit 0) a w) → Rnd Try.prog c Q12 a w := by
    refine f103_l0.partial_correctness p0 σ _ ?_
    intro self ih15 l8 y9 x10 x11 rr h a w G v7 hle hE hH hx13
    refine rnd_step' hc ?_
    refine wp_seq_k (fun K hK16 => ?_)
    refine wp_seq_k (fun K hK17 => ?_)
    refine wp_region_from ?_
    obtain ⟨i18, hi18, h⟩ := bs h
    obtain ⟨o19, ho19, h⟩ := bs h
    refine segO 7 [.pt i18, .ob fs47 o19] [(13, .kv .bool (decide (x11 < (o19.2.1.length : Int))))] (Os := [_, _]) ⟨hi18, (ob47 (s := σ) ho19), trivial⟩ hE hH (by kernel_rfl) (fun a hE => ?_)
    refine wpFrom_end (by kernel_rfl) ?_
    refine Exit.then_normal (hK17 _ _ ?_)
    refine condE (b := decide (x11 < (o19.2.1.length : Int))) hE (by kernel_rfl) (fun hc => ?_) (fun hc => ?_)
    · replace h := ifT hc h
      refine wp_skip ?_
      refine Exit.then_normal (hK16 _ _ ?_)
      refine wp_seq_k (fun K hK20 => ?_)
      refine wp_block ?_
      refine wp_seq_k (fun K hK21 => ?_)
      refine wp_seq_k (fun K hK22 => ?_)
      by_cases hc : (!x10) = true
      · replace h := ifT hc h
        have c23 := hc
        obtain ⟨i24, hi24, h⟩ := bs h
        obtain ⟨o25, ho25, h⟩ := bs h
        obtain ⟨x26, hx26, h⟩ := bs h
        refine region_par 13 [] [(0, 0), (0, 0), (0, 0), (0, 0), (0, 0), (0, 0), (0, 0), (0, 0), (0, 0), (0, 0), (0, 0), (0, 0), (0, 0)] [.kv .bool x10, .kv .bool (!x10), .kv .bool true, .kv (.ptr 47) p0, .kv (.ptr 47) (some i24), .fldA 47 i24 1, .kv (.list K52) o25.2.1, .kv .i x11, .elA K52 x26 0, .elA K52 x26 0, .kv .str x26.1, .val (.pointer (some ⟨b2, 0, none⟩)), .kv .str y9.1] (fun _ => tabs σ) (fun _ => LS.tk v7 52 48 K52 l8 :: LS.box b2 K52 y9 :: Ls) (by kernel_rfl) (by kernel_rfl) hE hH
                ⟨⟨⟨⟨⟨⟨⟨⟨⟨⟨⟨⟨⟨trivial,
                anyk (fun k => obR [] (Os := []) trivial (by kernel_rfl) (by kernel_rfl))⟩,
                anyk (fun k => obR [] (Os := []) trivial (by kernel_rfl) (by kernel_rfl))⟩,
                anyk (fun k => obRe [] (Os := []) trivial (by kernel_rfl) (by kernel_rfl) (eb2 c23 rfl))⟩,
                anyk (fun k => obR [] (Os := []) trivial (by kernel_rfl) (by kernel_rfl))⟩,
                anyk (fun k => obR [.pt i24] (Os := [_]) ⟨hi24, trivial⟩ (by kernel_rfl) (by kernel_rfl))⟩,
                anyk (fun k => obR [] (Os := []) trivial (by kernel_rfl) (by kernel_rfl))⟩,
                anyk (fun k => obR [.ob fs47 o25] (Os := [_]) ⟨(ob47 (s := σ) ho25), trivial⟩ (by kernel_rfl) (by kernel_rfl))⟩,
                anyk (fun k => obR [] (Os := []) trivial (by kernel_rfl) (by kernel_rfl))⟩,
                anyk (fun k => obR [.ix K52 x26] (Os := [_]) ⟨(IxAt.of (k := K52) hx26), trivial⟩ (by kernel_rfl) (by kernel_rfl))⟩,
                anyk (fun k => obR [] (Os := []) trivial (by kernel_rfl) (by kernel_rfl))⟩,
                anyk (fun k => obR [] (Os := []) trivial (by kernel_rfl) (by kernel_rfl))⟩,
                anyk (fun k => obR [] (Os := []) trivial (by kernel_rfl) (by kernel_rfl))⟩,
                anyk (fun k => obR [.bx 1 K52 y9] (Os := [_]) ⟨(rfl : (LS.tk v7 52 48 K52 l8 :: LS.box b2 K52 y9 :: Ls)[1]? = some (LS.box b2 K52 y9)), trivial⟩ (by kernel_rfl) (by kernel_rfl))⟩ (fun a w G hl2 hE hH => ?_)
        have hle := Gh.le_trans hle hl2
        obtain ⟨r27, hr27, h⟩ := bs h
        refine stepCall (d := (some 29)) (f128_ok hr27) hE hH (NoHole.cons (fun _ _ _ => rfl) (NoHole.cons (fun _ _ _ => rfl) hN)) (by kernel_rfl) (by kernel_rfl) trivial (fun a w G hl3 hE hH => ?_)
        have hle := Gh.le_trans hle hl3
        refine segO 2 [] [(31, .kv .bool (!r27))] (Os := []) trivial hE hH (by kernel_rfl) (fun a hE => ?_)
        refine wpFrom_end (by kernel_rfl) ?_
        refine Exit.then_normal (hK22 _ _ ?_)
        obtain ⟨z32, hz32, h⟩ := bs h
        refine join_intro (I := fun a w => ∃ (G : Gh) (v28 : Value), G0.le G ∧ EnvR G 67 a [(0, .kv (.ptr 47) p0), (3, .val (.pointer (some ⟨b2, 0, none⟩))), (4, .tl v28 K52 z32.1), (5, .kv .bool z32.2.2), (6, .kv .i x11)] ∧ Holds w G (tabs σ) (LS.tk v28 52 48 K52 z32.1 :: LS.box b2 K52 z32.2.1 :: Ls)) trivial ?_ ?_
        · intro a w hI
          obtain ⟨G, v28, hle, hE, hH⟩ := hI
          refine Exit.then_normal (hK21 _ _ ?_)
          refine wp_seq_k (fun K hK34 => ?_)
          obtain ⟨i35, hi35, h⟩ := bs h
          obtain ⟨o36, ho36, h⟩ := bs h
          obtain ⟨x37, hx37, h⟩ := bs h
          refine region_par 10 [] [(0, 0), (0, 0), (0, 0), (0, 0), (0, 0), (0, 0), (0, 0), (0, 0), (0, 0), (0, 0)] [.kv (.ptr 47) p0, .kv (.ptr 47) (some i35), .fldA 47 i35 1, .kv (.list K52) o36.2.1, .kv .i x11, .elA K52 x37 0, .elA K52 x37 0, .kv .str x37.1, .val (.pointer (some ⟨b2, 0, none⟩)), .kv .str z32.2.1.1] (fun _ => tabs σ) (fun _ => LS.tk v28 52 48 K52 z32.1 :: LS.box b2 K52 z32.2.1 :: Ls) (by kernel_rfl) (by kernel_rfl) hE hH
                  ⟨⟨⟨⟨⟨⟨⟨⟨⟨⟨trivial,
                  anyk (fun k => obR [] (Os := []) trivial (by kernel_rfl) (by kernel_rfl))⟩,
                  anyk (fun k => obR [.pt i35] (Os := [_]) ⟨hi35, trivial⟩ (by kernel_rfl) (by kernel_rfl))⟩,
                  anyk (fun k => obR [] (Os := []) trivial (by kernel_rfl) (by kernel_rfl))⟩,
                  anyk (fun k => obR [.ob fs47 o36] (Os := [_]) ⟨(ob47 (s := σ) ho36), trivial⟩ (by kernel_rfl) (by kernel_rfl))⟩,
                  anyk (fun k => obR [] (Os := []) trivial (by kernel_rfl) (by kernel_rfl))⟩,
                  anyk (fun k => obR [.ix K52 x37] (Os := [_]) ⟨(IxAt.of (k := K52) hx37), trivial⟩ (by kernel_rfl) (by kernel_rfl))⟩,
                  anyk (fun k => obR [] (Os := []) trivial (by kernel_rfl) (by kernel_rfl))⟩,
                  anyk (fun k => obR [] (Os := []) trivial (by kernel_rfl) (by kernel_rfl))⟩,
                  anyk (fun k => obR [] (Os := []) trivial (by kernel_rfl) (by kernel_rfl))⟩,
                  anyk (fun k => obR [.bx 1 K52 z32.2.1] (Os := [_]) ⟨(rfl : (LS.tk v28 52 48 K52 z32.1 :: LS.box b2 K52 z32.2.1 :: Ls)[1]? = some (LS.box b2 K52 z32.2.1)), trivial⟩ (by kernel_rfl) (by kernel_rfl))⟩ (fun a w G hl5 hE hH => ?_)
          have hle := Gh.le_trans hle hl5
          refine segO 1 [] [(46, .kv .bool (!(x37.1 == z32.2.1.1)))] (Os := []) trivial hE hH (by kernel_rfl) (fun a hE => ?_)
          refine wpFrom_end (by kernel_rfl) ?_
          refine Exit.then_normal (hK34 _ _ ?_)
          obtain ⟨z41, hz41, h⟩ := bs h
          refine join_intro (I := fun a w => ∃ (G : Gh) (v38 : Value), G0.le G ∧ EnvR G 67 a [(0, .kv (.ptr 47) p0), (3, .val (.pointer (some ⟨b2, 0, none⟩))), (4, .tl v38 K52 z41.1), (5, .kv .bool z32.2.2), (6, .kv .i x11)] ∧ Holds w G (tabs σ) (LS.tk v38 52 48 K52 z41.1 :: LS.box b2 K52 z41.2 :: Ls)) trivial ?_ ?_
          · intro a w hI
            obtain ⟨G, v38, hle, hE, hH⟩ := hI
            refine Exit.in_normal ?_
            refine Exit.then_normal (hK20 _ _ ?_)
            refine wp_region_from ?_
            refine segO 3 [] [(6, .kv .i (IntKind.wrap .i64 (x11 + 1)))] (Os := []) trivial hE hH (by kernel_rfl) (fun a hE => ?_)
            refine wpFrom_end (by kernel_rfl) ?_
            refine Exit.then_normal ?_
            exact ih15 _ _ _ _ _ h _ _ _ v38 hle (hE.subC (by kernel_rfl)) hH hx13
          · intro KK hKK ho
            have hj42 : ∀ (a : Act) (w : World) (G : Gh) (v38 : Value), G0.le G → EnvR G 67 a [(0, .kv (.ptr 47) p0), (3, .val (.pointer (some ⟨b2, 0, none⟩))), (4, .tl v38 K52 z41.1), (5, .kv .bool z32.2.2), (6, .kv .i x11)] → Holds w G (tabs σ) (LS.tk v38 52 48 K52 z41.1 :: LS.box b2 K52 z41.2 :: Ls) → KK .normal a w := fun a w G v38 h1 h2 h3 => hKK a w ⟨G, v38, h1, h2, h3⟩
            replace h := hz41
            refine condE (b := !(x37.1 == z32.2.1.1)) hE (by kernel_rfl) (fun hc => ?_) (fun hc => ?_)
            · replace h := ifT hc h
              refine wp_region_from ?_
              obtain ⟨i43, hi43, h⟩ := bs h
              obtain ⟨o44, ho44, h⟩ := bs h
              obtain ⟨x45, hx45, h⟩ := bs h
              refine segO 8 [.pt i43, .ob fs47 o44, .ix K52 x45] [(47, .tl v28 K52 z32.1), (54, .kv K52 x45)] (Os := [_, _, _]) ⟨hi43, (ob47 (s := σ) ho44), (IxAt.of (k := K52) hx45), trivial⟩ hE hH (by kernel_rfl) (fun a hE => ?_)
              refine stepBuildS (d := (some 55)) K52 [x45] hE hH (by kernel_rfl) (by kernel_rfl) (fun a w G hl7 hE hH => ?_)
              have hle := Gh.le_trans hle hl7
              obtain ⟨q46, h⟩ := gd h
              refine stepApp (e := 0) (bt := 48) (ys := [x45]) (e' := 52) (d := (some 56)) 0 hE hH (by kernel_rfl) rfl (by kernel_rfl) q46 (fun v47 a w G hl8 hE hH => ?_)
              have hle := Gh.le_trans hle hl8
              refine segO 1 [] [(4, .tl v47 K52 (z32.1 ++ [x45]))] (Os := []) trivial hE hH (by kernel_rfl) (fun a hE => ?_)
              refine wpFrom_end (by kernel_rfl) ?_
              cases h
              exact hj42 _ _ _ v47 hle (hE.subC (by kernel_rfl)) hH
            · replace h := ifF hc h
              refine wp_skip ?_
              cases h
              exact hj42 _ _ _ v28 hle (hE.subC (by kernel_rfl)) hH
        · intro KK hKK ho
          have hj33 : ∀ (a : Act) (w : World) (G : Gh) (v28 : Value), G0.le G → EnvR G 67 a [(0, .kv (.ptr 47) p0), (3, .val (.pointer (some ⟨b2, 0, none⟩))), (4, .tl v28 K52 z32.1), (5, .kv .bool z32.2.2), (6, .kv .i x11)] → Holds w G (tabs σ) (LS.tk v28 52 48 K52 z32.1 :: LS.box b2 K52 z32.2.1 :: Ls) → KK .normal a w := fun a w G v28 h1 h2 h3 => hKK a w ⟨G, v28, h1, h2, h3⟩
          replace h := hz32
          refine condE (b := !r27) hE (by kernel_rfl) (fun hc => ?_) (fun hc => ?_)
          · replace h := ifT hc h
            refine wp_seq_k (fun K hK48 => ?_)
            refine wp_region_from ?_
            refine segO 2 [.bx 1 K52 y9] [(32, .tl v7 K52 l8), (33, .kv K52 y9)] (Os := [_]) ⟨(rfl : (LS.tk v7 52 48 K52 l8 :: LS.box b2 K52 y9 :: Ls)[1]? = some (LS.box b2 K52 y9)), trivial⟩ hE hH (by kernel_rfl) (fun a hE => ?_)
            refine stepBuildS (d := (some 34)) K52 [y9] hE hH (by kernel_rfl) (by kernel_rfl) (fun a w G hl9 hE hH => ?_)
            have hle := Gh.le_trans hle hl9
            obtain ⟨q49, h⟩ := gd h
            refine stepApp (e := 0) (bt := 48) (ys := [y9]) (e' := 52) (d := (some 35)) 0 hE hH (by kernel_rfl) rfl (by kernel_rfl) q49 (fun v50 a w G hl10 hE hH => ?_)
            have hle := Gh.le_trans hle hl10
            refine segO 1 [] [(4, .tl v50 K52 (l8 ++ [y9]))] (Os := []) trivial hE hH (by kernel_rfl) (fun a hE => ?_)
            refine wpFrom_end (by kernel_rfl) ?_
            refine Exit.then_normal (hK48 _ _ ?_)
            refine wp_region_from ?_
            refine segO 1 [] [(5, .kv .bool true)] (Os := []) trivial hE hH (by kernel_rfl) (fun a hE => ?_)
            refine wpFrom_end (by kernel_rfl) ?_
            cases h
            exact hj33 _ _ _ v50 hle (hE.subC (by kernel_rfl)) hH
          · replace h := ifF hc h
            refine wp_skip ?_
            cases h
            exact hj33 _ _ _ v7 hle (hE.subC (by kernel_rfl)) hH
      · replace h := ifN hc h
        have c51 := hc
        refine region_par 13 [] [(0, 0), (0, 0), (0, 0), (0, 0), (0, 0), (0, 0), (0, 0), (0, 0), (0, 0), (0, 0), (0, 0), (0, 0), (0, 0)] [.kv .bool x10, .kv .bool (!x10), .kv .bool false, .undef, .undef, .undef, .undef, .undef, .undef, .undef, .undef, .undef, .undef] (fun _ => tabs σ) (fun _ => LS.tk v7 52 48 K52 l8 :: LS.box b2 K52 y9 :: Ls) (by kernel_rfl) (by kernel_rfl) hE hH
                ⟨⟨⟨⟨⟨⟨⟨⟨⟨⟨⟨⟨⟨trivial,
                anyk (fun k => obR [] (Os := []) trivial (by kernel_rfl) (by kernel_rfl))⟩,
                anyk (fun k => obR [] (Os := []) trivial (by kernel_rfl) (by kernel_rfl))⟩,
                anyk (fun k => obRe [] (Os := []) trivial (by kernel_rfl) (by kernel_rfl) (eb2 (bf c51) rfl))⟩,
                anyk (fun k => obR [] (Os := []) trivial (by kernel_rfl) (by kernel_rfl))⟩,
                anyk (fun k => obR [] (Os := []) trivial (by kernel_rfl) (by kernel_rfl))⟩,
                anyk (fun k => obR [] (Os := []) trivial (by kernel_rfl) (by kernel_rfl))⟩,
                anyk (fun k => obR [] (Os := []) trivial (by kernel_rfl) (by kernel_rfl))⟩,
                anyk (fun k => obR [] (Os := []) trivial (by kernel_rfl) (by kernel_rfl))⟩,
                anyk (fun k => obR [] (Os := []) trivial (by kernel_rfl) (by kernel_rfl))⟩,
                anyk (fun k => obR [] (Os := []) trivial (by kernel_rfl) (by kernel_rfl))⟩,
                anyk (fun k => obR [] (Os := []) trivial (by kernel_rfl) (by kernel_rfl))⟩,
                anyk (fun k => obR [] (Os := []) trivial (by kernel_rfl) (by kernel_rfl))⟩,
                anyk (fun k => obR [] (Os := []) trivial (by kernel_rfl) (by kernel_rfl))⟩ (fun a w G hl11 hE hH => ?_)
        have hle := Gh.le_trans hle hl11
        refine segO 3 [] [(29, .undef), (31, .kv .bool false)] (Os := []) trivial hE hH (by kernel_rfl) (fun a hE => ?_)
        refine wpFrom_end (by kernel_rfl) ?_
        refine Exit.then_normal (hK22 _ _ ?_)
        refine condF hE (by kernel_rfl) rfl ?_
        refine wp_skip ?_
        refine Exit.then_normal (hK21 _ _ ?_)
        refine wp_seq_k (fun K hK52 => ?_)
        obtain ⟨i53, hi53, h⟩ := bs h
        obtain ⟨o54, ho54, h⟩ := bs h
        obtain ⟨x55, hx55, h⟩ := bs h
        refine region_par 10 [] [(0, 0), (0, 0), (0, 0), (0, 0), (0, 0), (0, 0), (0, 0), (0, 0), (0, 0), (0, 0)] [.kv (.ptr 47) p0, .kv (.ptr 47) (some i53), .fldA 47 i53 1, .kv (.list K52) o54.2.1, .kv .i x11, .elA K52 x55 0, .elA K52 x55 0, .kv .str x55.1, .val (.pointer (some ⟨b2, 0, none⟩)), .kv .str y9.1] (fun _ => tabs σ) (fun _ => LS.tk v7 52 48 K52 l8 :: LS.box b2 K52 y9 :: Ls) (by kernel_rfl) (by kernel_rfl) hE hH
                ⟨⟨⟨⟨⟨⟨⟨⟨⟨⟨trivial,
                anyk (fun k => obR [] (Os := []) trivial (by kernel_rfl) (by kernel_rfl))⟩,
                anyk (fun k => obR [.pt i53] (Os := [_]) ⟨hi53, trivial⟩ (by kernel_rfl) (by kernel_rfl))⟩,
                anyk (fun k => obR [] (Os := []) trivial (by kernel_rfl) (by kernel_rfl))⟩,
                anyk (fun k => obR [.ob fs47 o54] (Os := [_]) ⟨(ob47 (s := σ) ho54), trivial⟩ (by kernel_rfl) (by kernel_rfl))⟩,
                anyk (fun k => obR [] (Os := []) trivial (by kernel_rfl) (by kernel_rfl))⟩,
                anyk (fun k => obR [.ix K52 x55] (Os := [_]) ⟨(IxAt.of (k := K52) hx55), trivial⟩ (by kernel_rfl) (by kernel_rfl))⟩,
                anyk (fun k => obR [] (Os := []) trivial (by kernel_rfl) (by kernel_rfl))⟩,
                anyk (fun k => obR [] (Os := []) trivial (by kernel_rfl) (by kernel_rfl))⟩,
                anyk (fun k => obR [] (Os := []) trivial (by kernel_rfl) (by kernel_rfl))⟩,
                anyk (fun k => obR [.bx 1 K52 y9] (Os := [_]) ⟨(rfl : (LS.tk v7 52 48 K52 l8 :: LS.box b2 K52 y9 :: Ls)[1]? = some (LS.box b2 K52 y9)), trivial⟩ (by kernel_rfl) (by kernel_rfl))⟩ (fun a w G hl12 hE hH => ?_)
        have hle := Gh.le_trans hle hl12
        refine segO 1 [] [(46, .kv .bool (!(x55.1 == y9.1)))] (Os := []) trivial hE hH (by kernel_rfl) (fun a hE => ?_)
        refine wpFrom_end (by kernel_rfl) ?_
        refine Exit.then_normal (hK52 _ _ ?_)
        obtain ⟨z59, hz59, h⟩ := bs h
        refine join_intro (I := fun a w => ∃ (G : Gh) (v56 : Value), G0.le G ∧ EnvR G 67 a [(0, .kv (.ptr 47) p0), (3, .val (.pointer (some ⟨b2, 0, none⟩))), (4, .tl v56 K52 z59.1), (5, .kv .bool x10), (6, .kv .i x11)] ∧ Holds w G (tabs σ) (LS.tk v56 52 48 K52 z59.1 :: LS.box b2 K52 z59.2 :: Ls)) trivial ?_ ?_
        · intro a w hI
          obtain ⟨G, v56, hle, hE, hH⟩ := hI
          refine Exit.in_normal ?_
          refine Exit.then_normal (hK20 _ _ ?_)
          refine wp_region_from ?_
          refine segO 3 [] [(6, .kv .i (IntKind.wrap .i64 (x11 + 1)))] (Os := []) trivial hE hH (by kernel_rfl) (fun a hE => ?_)
          refine wpFrom_end (by kernel_rfl) ?_
          refine Exit.then_normal ?_
          exact ih15 _ _ _ _ _ h _ _ _ v56 hle (hE.subC (by kernel_rfl)) hH hx13
        · intro KK hKK ho
          have hj60 : ∀ (a : Act) (w : World) (G : Gh) (v56 : Value), G0.le G → EnvR G 67 a [(0, .kv (.ptr 47) p0), (3, .val (.pointer (some ⟨b2, 0, none⟩))), (4, .tl v56 K52 z59.1), (5, .kv .bool x10), (6, .kv .i x11)] → Holds w G (tabs σ) (LS.tk v56 52 48 K52 z59.1 :: LS.box b2 K52 z59.2 :: Ls) → KK .normal a w := fun a w G v56 h1 h2 h3 => hKK a w ⟨G, v56, h1, h2, h3⟩
          replace h := hz59
          refine condE (b := !(x55.1 == y9.1)) hE (by kernel_rfl) (fun hc => ?_) (fun hc => ?_)
          · replace h := ifT hc h
            refine wp_region_from ?_
            obtain ⟨i61, hi61, h⟩ := bs h
            obtain ⟨o62, ho62, h⟩ := bs h
            obtain ⟨x63, hx63, h⟩ := bs h
            refine segO 8 [.pt i61, .ob fs47 o62, .ix K52 x63] [(47, .tl v7 K52 l8), (54, .kv K52 x63)] (Os := [_, _, _]) ⟨hi61, (ob47 (s := σ) ho62), (IxAt.of (k := K52) hx63), trivial⟩ hE hH (by kernel_rfl) (fun a hE => ?_)
            refine stepBuildS (d := (some 55)) K52 [x63] hE hH (by kernel_rfl) (by kernel_rfl) (fun a w G hl14 hE hH => ?_)
            have hle := Gh.le_trans hle hl14
            obtain ⟨q64, h⟩ := gd h
            refine stepApp (e := 0) (bt := 48) (ys := [x63]) (e' := 52) (d := (some 56)) 0 hE hH (by kernel_rfl) rfl (by kernel_rfl) q64 (fun v65 a w G hl15 hE hH => ?_)
            have hle := Gh.le_trans hle hl15
            refine segO 1 [] [(4, .tl v65 K52 (l8 ++ [x63]))] (Os := []) trivial hE hH (by kernel_rfl) (fun a hE => ?_)
            refine wpFrom_end (by kernel_rfl) ?_
            cases h
            exact hj60 _ _ _ v65 hle (hE.subC (by kernel_rfl)) hH
          · replace h := ifF hc h
            refine wp_skip ?_
            cases h
            exact hj60 _ _ _ v7 hle (hE.subC (by kernel_rfl)) hH
    · replace h := ifF hc h
      refine wp_exit ?_
      refine Exit.then_exit ?_
      refine Exit.then_exit ?_
      cases h
      exact hx13 _ rfl _ _ _ v7 hle (hE.subC (by kernel_rfl)) hH
  refine key _ _ _ _ _ hz66 _ _ _ (.slice none 0 0) hle (hE.subC (by kernel_rfl)) hH ?_
  · intro z67 hz a w G v7 hle hE hH
    subst hz
    rw [hQ]
    refine Exit.in_eq ?_
    refine Exit.then_normal (hK5 _ _ ?_)
    refine wp_seq_k (fun K hK68 => ?_)
    refine wp_seq_k (fun K hK69 => ?_)
    refine wp_region_from ?_
    refine segO 2 [] [(58, .kv .bool (!z66.2.2.1))] (Os := []) trivial hE hH (by kernel_rfl) (fun a hE => ?_)
    refine wpFrom_end (by kernel_rfl) ?_
    refine Exit.then_normal (hK69 _ _ ?_)
    obtain ⟨z73, hz73, h⟩ := bs h
    refine join_intro (I := fun a w => ∃ (G : Gh) (v70 : Value), G0.le G ∧ EnvR G 67 a [(0, .kv (.ptr 47) p0), (4, .tl v70 K52 z73.1)] ∧ Holds w G (tabs σ) (LS.tk v70 52 48 K52 z73.1 :: LS.box b2 K52 z73.2 :: Ls)) trivial ?_ ?_
    · intro a w hI
      obtain ⟨G, v70, hle, hE, hH⟩ := hI
      refine Exit.then_normal (hK68 _ _ ?_)
      refine wp_region_from ?_
      obtain ⟨i75, hi75, h⟩ := bs h
      refine segO 4 [.pt i75] [(64, .tl v70 K52 z73.1), (66, .fldA 47 i75 1)] (Os := [_]) ⟨hi75, trivial⟩ hE hH (by kernel_rfl) (fun a hE => ?_)
      obtain ⟨o76, ho76, h⟩ := bs h
      refine stepStO (t := 47) (j := i75) (off := 1) (.list K52) z73.1 (x' := (o76.1, z73.1, o76.2.2.1, o76.2.2.2.1, ())) hE hH (by kernel_rfl) (ob47 (s := σ) ho76) (by kernel_rfl) (upd47 (s := σ)) (fun w G hl17 hE hH => ?_)
      have hle := Gh.le_trans hle hl17
      refine wpFrom_end (by kernel_rfl) ?_
      have hH := hH.drop (fun _ _ _ => rfl)
      have hH := hH.drop (fun _ _ _ => rfl)
      cases h
      exact end0 rfl hE hle hH
    · intro KK hKK ho
      have hj74 : ∀ (a : Act) (w : World) (G : Gh) (v70 : Value), G0.le G → EnvR G 67 a [(0, .kv (.ptr 47) p0), (4, .tl v70 K52 z73.1)] → Holds w G (tabs σ) (LS.tk v70 52 48 K52 z73.1 :: LS.box b2 K52 z73.2 :: Ls) → KK .normal a w := fun a w G v70 h1 h2 h3 => hKK a w ⟨G, v70, h1, h2, h3⟩
      replace h := hz73
      refine condE (b := !z66.2.2.1) hE (by kernel_rfl) (fun hc => ?_) (fun hc => ?_)
      · replace h := ifT hc h
        refine wp_region_from ?_
        refine segO 2 [.bx 1 K52 z66.2.1] [(59, .tl v7 K52 z66.1), (60, .kv K52 z66.2.1)] (Os := [_]) ⟨(rfl : (LS.tk v7 52 48 K52 z66.1 :: LS.box b2 K52 z66.2.1 :: Ls)[1]? = some (LS.box b2 K52 z66.2.1)), trivial⟩ hE hH (by kernel_rfl) (fun a hE => ?_)
        refine stepBuildS (d := (some 61)) K52 [z66.2.1] hE hH (by kernel_rfl) (by kernel_rfl) (fun a w G hl18 hE hH => ?_)
        have hle := Gh.le_trans hle hl18
        obtain ⟨q77, h⟩ := gd h
        refine stepApp (e := 0) (bt := 48) (ys := [z66.2.1]) (e' := 52) (d := (some 62)) 0 hE hH (by kernel_rfl) rfl (by kernel_rfl) q77 (fun v78 a w G hl19 hE hH => ?_)
        have hle := Gh.le_trans hle hl19
        refine segO 1 [] [(4, .tl v78 K52 (z66.1 ++ [z66.2.1]))] (Os := []) trivial hE hH (by kernel_rfl) (fun a hE => ?_)
        refine wpFrom_end (by kernel_rfl) ?_
        cases h
        exact hj74 _ _ _ v78 hle (hE.subC (by kernel_rfl)) hH
      · replace h := ifF hc h
        refine wp_skip ?_
        cases h
        exact hj74 _ _ _ v7 hle (hE.subC (by kernel_rfl)) hH

def f106_l0 (p0 : Option Nat) (p1 : List UInt8) (σ : St) (l5 : List K52.den) (x6 : Int) : Option ((List K52.den) × Int) :=
  p0 >>= fun i13 =>
  (σ.t47[i13]?) >>= fun o14 =>
  if (decide (x6 < (o14.2.1.length : Int))) = true then
  p0 >>= fun i17 =>
  (σ.t47[i17]?) >>= fun o18 =>
  (ix o18.2.1 x6) >>= fun x19 =>
  (if (!(x19.1 == p1)) = true then
  p0 >>= fun i24 =>
  (σ.t47[i24]?) >>= fun o25 =>
  (ix o25.2.1 x6) >>= fun x26 =>
  if (l5.length + 1) * 48 ≤ 140737488355328 then
  some (l5 ++ [x26])
  else none
  else
  some l5 : Option (List K52.den)) >>= fun z22 =>
  f106_l0 p0 p1 σ z22 (IntKind.wrap .i64 (x6 + 1))
  else
  some ((l5, x6))
  partial_fixpoint

def f106 (p0 : Option Nat) (p1 : List UInt8) (σ : St) : Option (Unit × St) :=
  f106_l0 p0 p1 σ [] 0 >>= fun z29 =>
  p0 >>= fun i31 =>
  (σ.t47[i31]?) >>= fun o32 =>
  some ((), (σ.set47 i31 (o32.1, z29.1, o32.2.2.1, o32.2.2.2.1, ())))

theorem f106_ok {p0 : Option Nat} {p1 : List UInt8} {σ : St} {p : Unit × St} (h : f106 p0 p1 σ = some p) : Spec Try.prog 106 [.kv (.ptr 47) p0, .kv .str p1] (tabs σ) (.tup []) (tabs p.2) := by
  refine Spec.intro Try.func106 (by kernel_rfl) rfl (by kernel_rfl) (fun a w G0 Ls hE hH hN => ?_)
  have hle : G0.le G0 := Gh.le_refl G0
  unfold f106 at h
  refine wp_seq_k (fun K hK1 => ?_)
  refine wp_region_from ?_
  refine segO 1 [] [(4, .val (.slice none 0 0))] (Os := []) trivial hE hH (by kernel_rfl) (fun a hE => ?_)
  refine wpFrom_end (by kernel_rfl) ?_
  refine Exit.then_normal (hK1 _ _ ?_)
  refine wp_seq_k (fun K hK2 => ?_)
  refine wp_seq_k (fun K hK3 => ?_)
  refine wp_region_from ?_
  refine segO 1 [] [(5, .kv .i 0)] (Os := []) trivial hE hH (by kernel_rfl) (fun a hE => ?_)
  refine wpFrom_end (by kernel_rfl) ?_
  refine Exit.then_normal (hK3 _ _ ?_)
  refine wp_block ?_
  have hE := hE.nilTl 4 K52 (by kernel_rfl)
  have hH := hH.nilTk 52 48 K52
  obtain ⟨z29, hz29, h⟩ := bs h
  refine loop_intro (fun Q7 c hQ hc => ?_)
  have key : ∀ (l5 : List K52.den) (x6 : Int) (rr : (List K52.den) × Int), f106_l0 p0 p1 σ l5 x6 = some rr → ∀ (a : Act) (w : World) (G : Gh) (v4 : Value), G0.le G → EnvR G 39 a [(0, .kv (.ptr 47) p0), (1, .kv .str p1), (4, .tl v4 K52 l5), (5, .kv .i x6)] → Holds w G (tabs σ) (LS.tk v4 52 48 K52 l5 :: Ls) → (∀ z30 : (List K52.den) × Int, rr = z30 → ∀ (a : Act) (w : World) (G : Gh) (v4 : Value), G0.le G → EnvR G 39 a [(0, .kv (.ptr 47) p0), (1, .kv .str p1), (4, .tl v4 K52 z30.1), (5, .kv .i z30.2)] → Holds w G (tabs σ) (LS.tk v4 52 48 K52 z30.1 :: Ls) → Q7 (.exit 0) a w) → Rnd Try.prog c Q7 a w := by
    refine f106_l0.partial_correctness p0 p1 σ _ ?_
    intro self ih10 l5 x6 rr h a w G v4 hle hE hH hx8
    refine rnd_step' hc ?_
    refine wp_seq_k (fun K hK11 => ?_)
    refine wp_seq_k (fun K hK12 => ?_)
    refine wp_region_from ?_
    obtain ⟨i13, hi13, h⟩ := bs h
    obtain ⟨o14, ho14, h⟩ := bs h
    refine segO 7 [.pt i13, .ob fs47 o14] [(12, .kv .bool (decide (x6 < (o14.2.1.length : Int))))] (Os := [_, _]) ⟨hi13, (ob47 (s := σ) ho14), trivial⟩ hE hH (by kernel_rfl) (fun a hE => ?_)
    refine wpFrom_end (by kernel_rfl) ?_
    refine Exit.then_normal (hK12 _ _ ?_)
    refine condE (b := decide (x6 < (o14.2.1.length : Int))) hE (by kernel_rfl) (fun hc => ?_) (fun hc => ?_)
    · replace h := ifT hc h
      refine wp_skip ?_
      refine Exit.then_normal (hK11 _ _ ?_)
      refine wp_seq_k (fun K hK15 => ?_)
      refine wp_block ?_
      refine wp_seq_k (fun K hK16 => ?_)
      refine wp_region_from ?_
      obtain ⟨i17, hi17, h⟩ := bs h
      obtain ⟨o18, ho18, h⟩ := bs h
      obtain ⟨x19, hx19, h⟩ := bs h
      refine segO 10 [.pt i17, .ob fs47 o18, .ix K52 x19] [(24, .kv .bool (!(x19.1 == p1)))] (Os := [_, _, _]) ⟨hi17, (ob47 (s := σ) ho18), (IxAt.of (k := K52) hx19), trivial⟩ hE hH (by kernel_rfl) (fun a hE => ?_)
      refine wpFrom_end (by kernel_rfl) ?_
      refine Exit.then_normal (hK16 _ _ ?_)
      obtain ⟨z22, hz22, h⟩ := bs h
      refine join_intro (I := fun a w => ∃ (G : Gh) (v20 : Value), G0.le G ∧ EnvR G 39 a [(0, .kv (.ptr 47) p0), (1, .kv .str p1), (4, .tl v20 K52 z22), (5, .kv .i x6)] ∧ Holds w G (tabs σ) (LS.tk v20 52 48 K52 z22 :: Ls)) trivial ?_ ?_
      · intro a w hI
        obtain ⟨G, v20, hle, hE, hH⟩ := hI
        refine Exit.in_normal ?_
        refine Exit.then_normal (hK15 _ _ ?_)
        refine wp_region_from ?_
        refine segO 3 [] [(5, .kv .i (IntKind.wrap .i64 (x6 + 1)))] (Os := []) trivial hE hH (by kernel_rfl) (fun a hE => ?_)
        refine wpFrom_end (by kernel_rfl) ?_
        refine Exit.then_normal ?_
        exact ih10 _ _ _ h _ _ _ v20 hle (hE.subC (by kernel_rfl)) hH hx8
      · intro KK hKK ho
        have hj23 : ∀ (a : Act) (w : World) (G : Gh) (v20 : Value), G0.le G → EnvR G 39 a [(0, .kv (.ptr 47) p0), (1, .kv .str p1), (4, .tl v20 K52 z22), (5, .kv .i x6)] → Holds w G (tabs σ) (LS.tk v20 52 48 K52 z22 :: Ls) → KK .normal a w := fun a w G v20 h1 h2 h3 => hKK a w ⟨G, v20, h1, h2, h3⟩
        replace h := hz22
        refine condE (b := !(x19.1 == p1)) hE (by kernel_rfl) (fun hc => ?_) (fun hc => ?_)
        · replace h := ifT hc h
          refine wp_region_from ?_
          obtain ⟨i24, hi24, h⟩ := bs h
          obtain ⟨o25, ho25, h⟩ := bs h
          obtain ⟨x26, hx26, h⟩ := bs h
          refine segO 8 [.pt i24, .ob fs47 o25, .ix K52 x26] [(25, .tl v4 K52 l5), (32, .kv K52 x26)] (Os := [_, _, _]) ⟨hi24, (ob47 (s := σ) ho25), (IxAt.of (k := K52) hx26), trivial⟩ hE hH (by kernel_rfl) (fun a hE => ?_)
          refine stepBuildS (d := (some 33)) K52 [x26] hE hH (by kernel_rfl) (by kernel_rfl) (fun a w G hl2 hE hH => ?_)
          have hle := Gh.le_trans hle hl2
          obtain ⟨q27, h⟩ := gd h
          refine stepApp (e := 0) (bt := 48) (ys := [x26]) (e' := 52) (d := (some 34)) 0 hE hH (by kernel_rfl) rfl (by kernel_rfl) q27 (fun v28 a w G hl3 hE hH => ?_)
          have hle := Gh.le_trans hle hl3
          refine segO 1 [] [(4, .tl v28 K52 (l5 ++ [x26]))] (Os := []) trivial hE hH (by kernel_rfl) (fun a hE => ?_)
          refine wpFrom_end (by kernel_rfl) ?_
          cases h
          exact hj23 _ _ _ v28 hle (hE.subC (by kernel_rfl)) hH
        · replace h := ifF hc h
          refine wp_skip ?_
          cases h
          exact hj23 _ _ _ v4 hle (hE.subC (by kernel_rfl)) hH
    · replace h := ifF hc h
      refine wp_exit ?_
      refine Exit.then_exit ?_
      refine Exit.then_exit ?_
      cases h
      exact hx8 _ rfl _ _ _ v4 hle (hE.subC (by kernel_rfl)) hH
  refine key _ _ _ hz29 _ _ _ (.slice none 0 0) hle (hE.subC (by kernel_rfl)) hH ?_
  · intro z30 hz a w G v4 hle hE hH
    subst hz
    rw [hQ]
    refine Exit.in_eq ?_
    refine Exit.then_normal (hK2 _ _ ?_)
    refine wp_region_from ?_
    obtain ⟨i31, hi31, h⟩ := bs h
    refine segO 4 [.pt i31] [(36, .tl v4 K52 z29.1), (38, .fldA 47 i31 1)] (Os := [_]) ⟨hi31, trivial⟩ hE hH (by kernel_rfl) (fun a hE => ?_)
    obtain ⟨o32, ho32, h⟩ := bs h
    refine stepStO (t := 47) (j := i31) (off := 1) (.list K52) z29.1 (x' := (o32.1, z29.1, o32.2.2.1, o32.2.2.2.1, ())) hE hH (by kernel_rfl) (ob47 (s := σ) ho32) (by kernel_rfl) (upd47 (s := σ)) (fun w G hl4 hE hH => ?_)
    have hle := Gh.le_trans hle hl4
    refine wpFrom_end (by kernel_rfl) ?_
    have hH := hH.drop (fun _ _ _ => rfl)
    cases h
    exact end0 rfl hE hle hH

def f63 (p0 : Option Nat) (p1 : List UInt8) (p2 : List UInt8) (σ : St) : Option (Int × St) :=
  p0 >>= fun i4 =>
  (σ.t47[i4]?) >>= fun o5 =>
  if o5.2.2.2.1 = true then
  some (11, σ)
  else
  f102 p1 >>= fun r9 =>
  if (!r9) = true then
  some (2, σ)
  else
  f34 p0 p1 σ >>= fun r14 =>
  (if (decide (r14 ≥ 0)) = true then
  p0 >>= fun i61 =>
  (σ.t47[i61]?) >>= fun o62 =>
  (ix o62.2.1 r14) >>= fun x63 =>
  some x63
  else
  some (p1, [], [], ()) : Option K52.den) >>= fun z18 =>
  if (decide (r14 < 0)) = true then
  p0 >>= fun i23 =>
  (σ.t47[i23]?) >>= fun o24 =>
  if (decide ((o24.2.1.length : Int) ≥ 128)) = true then
  some (10, σ)
  else
  if (decide ((p2.length : Int) > (IntKind.wrap .i64 ((IntKind.wrap .i64 (65536 - (z18.2.1.length : Int))) - (z18.2.2.1.length : Int))))) = true then
  some (10, σ)
  else
  p0 >>= fun i31 =>
  (σ.t47[i31]?) >>= fun o32 =>
  f75 p0 σ >>= fun r33 =>
  if (decide ((p2.length : Int) > (IntKind.wrap .i64 (o32.1 - r33)))) = true then
  some (10, σ)
  else
  if z18.2.2.1.length + p2.length ≤ 9223372036854775807 then
  f103 p0 (z18.1, z18.2.1, z18.2.2.1 ++ p2, ()) σ >>= fun r38 =>
  f104 p0 r38.2 >>= fun r41 =>
  if r41.1 = true then
  some (11, r41.2)
  else
  some (0, r41.2)
  else none
  else
  if (decide ((p2.length : Int) > (IntKind.wrap .i64 ((IntKind.wrap .i64 (65536 - (z18.2.1.length : Int))) - (z18.2.2.1.length : Int))))) = true then
  some (10, σ)
  else
  p0 >>= fun i48 =>
  (σ.t47[i48]?) >>= fun o49 =>
  f75 p0 σ >>= fun r50 =>
  if (decide ((p2.length : Int) > (IntKind.wrap .i64 (o49.1 - r50)))) = true then
  some (10, σ)
  else
  if z18.2.2.1.length + p2.length ≤ 9223372036854775807 then
  f103 p0 (z18.1, z18.2.1, z18.2.2.1 ++ p2, ()) σ >>= fun r55 =>
  f104 p0 r55.2 >>= fun r58 =>
  if r58.1 = true then
  some (11, r58.2)
  else
  some (0, r58.2)
  else none

theorem f63_ok {p0 : Option Nat} {p1 : List UInt8} {p2 : List UInt8} {σ : St} {p : Int × St} (h : f63 p0 p1 p2 σ = some p) : Spec Try.prog 63 [.kv (.ptr 47) p0, .kv .str p1, .kv .str p2] (tabs σ) (.kv .i p.1) (tabs p.2) := by
  refine Spec.intro Try.func63 (by kernel_rfl) rfl (by kernel_rfl) (fun a w G0 Ls hE hH hN => ?_)
  have hle : G0.le G0 := Gh.le_refl G0
  unfold f63 at h
  refine wp_seq_k (fun K hK1 => ?_)
  refine wp_region_from ?_
  refine segO 1 [] [(6, .kv .i 0)] (Os := []) trivial hE hH (by kernel_rfl) (fun a hE => ?_)
  refine wpFrom_end (by kernel_rfl) ?_
  refine Exit.then_normal (hK1 _ _ ?_)
  refine wp_seq_k (fun K hK2 => ?_)
  refine wp_seq_k (fun K hK3 => ?_)
  refine wp_region_from ?_
  obtain ⟨i4, hi4, h⟩ := bs h
  obtain ⟨o5, ho5, h⟩ := bs h
  refine segO 4 [.pt i4, .ob fs47 o5] [(12, .kv .bool o5.2.2.2.1)] (Os := [_, _]) ⟨hi4, (ob47 (s := σ) ho5), trivial⟩ hE hH (by kernel_rfl) (fun a hE => ?_)
  refine wpFrom_end (by kernel_rfl) ?_
  refine Exit.then_normal (hK3 _ _ ?_)
  refine condE (b := o5.2.2.2.1) hE (by kernel_rfl) (fun hc => ?_) (fun hc => ?_)
  · replace h := ifT hc h
    refine wp_seq_k (fun K hK6 => ?_)
    refine wp_region_from ?_
    refine segO 1 [] [(6, .kv .i 11)] (Os := []) trivial hE hH (by kernel_rfl) (fun a hE => ?_)
    refine wpFrom_end (by kernel_rfl) ?_
    refine Exit.then_normal (hK6 _ _ ?_)
    refine wp_ret ?_
    refine Exit.then_ret ?_
    cases h
    exact ret1 rfl hE hle hH (by kernel_rfl)
  · replace h := ifF hc h
    refine wp_skip ?_
    refine Exit.then_normal (hK2 _ _ ?_)
    refine wp_seq_k (fun K hK7 => ?_)
    refine wp_seq_k (fun K hK8 => ?_)
    refine wp_region_from ?_
    refine segO 1 [] [(13, .kv .str p1)] (Os := []) trivial hE hH (by kernel_rfl) (fun a hE => ?_)
    obtain ⟨r9, hr9, h⟩ := bs h
    refine stepCall (d := (some 14)) (f102_ok hr9) hE hH hN (by kernel_rfl) (by kernel_rfl) trivial (fun a w G hl1 hE hH => ?_)
    have hle := Gh.le_trans hle hl1
    refine segO 1 [] [(15, .kv .bool (!r9))] (Os := []) trivial hE hH (by kernel_rfl) (fun a hE => ?_)
    refine wpFrom_end (by kernel_rfl) ?_
    refine Exit.then_normal (hK8 _ _ ?_)
    refine condE (b := !r9) hE (by kernel_rfl) (fun hc => ?_) (fun hc => ?_)
    · replace h := ifT hc h
      refine wp_seq_k (fun K hK10 => ?_)
      refine wp_region_from ?_
      refine segO 1 [] [(6, .kv .i 2)] (Os := []) trivial hE hH (by kernel_rfl) (fun a hE => ?_)
      refine wpFrom_end (by kernel_rfl) ?_
      refine Exit.then_normal (hK10 _ _ ?_)
      refine wp_ret ?_
      refine Exit.then_ret ?_
      cases h
      exact ret1 rfl hE hle hH (by kernel_rfl)
    · replace h := ifF hc h
      refine wp_skip ?_
      refine Exit.then_normal (hK7 _ _ ?_)
      refine wp_seq_k (fun K hK11 => ?_)
      refine wp_region_from ?_
      refine segO 1 [] [(16, .kv .str p1)] (Os := []) trivial hE hH (by kernel_rfl) (fun a hE => ?_)
      refine stepBuild (d := (some 17)) K52 (p1, [], [], ()) rfl hE (by kernel_rfl) (by kernel_rfl) (fun a hE => ?_)
      refine stepAlloc (e := 52) (d := (some 7)) K52  hE hH (by kernel_rfl) (by kernel_rfl) (fun b12 a w G hl2 hE hH => ?_)
      have hle := Gh.le_trans hle hl2
      refine stepStB (b := b12) (off := 0) 0 K52 (p1, [], [], ()) (x' := (p1, [], [], ())) hE hH (by kernel_rfl) rfl (by kernel_rfl) (fun w G hl3 hE hH => ?_)
      have hle := Gh.le_trans hle hl3
      refine wpFrom_end (by kernel_rfl) ?_
      refine Exit.then_normal (hK11 _ _ ?_)
      refine wp_seq_k (fun K hK13 => ?_)
      refine wp_region_from ?_
      refine segO 2 [] [(18, .kv (.ptr 47) p0), (19, .kv .str p1)] (Os := []) trivial hE hH (by kernel_rfl) (fun a hE => ?_)
      obtain ⟨r14, hr14, h⟩ := bs h
      refine stepCall (d := (some 20)) (f34_ok hr14) hE hH (NoHole.cons (fun _ _ _ => rfl) hN) (by kernel_rfl) (by kernel_rfl) trivial (fun a w G hl4 hE hH => ?_)
      have hle := Gh.le_trans hle hl4
      refine segO 1 [] [(8, .kv .i r14)] (Os := []) trivial hE hH (by kernel_rfl) (fun a hE => ?_)
      refine wpFrom_end (by kernel_rfl) ?_
      refine Exit.then_normal (hK13 _ _ ?_)
      refine wp_seq_k (fun K hK15 => ?_)
      refine wp_seq_k (fun K hK16 => ?_)
      refine wp_region_from ?_
      refine segO 2 [] [(22, .kv .bool (decide (r14 ≥ 0)))] (Os := []) trivial hE hH (by kernel_rfl) (fun a hE => ?_)
      refine wpFrom_end (by kernel_rfl) ?_
      refine Exit.then_normal (hK16 _ _ ?_)
      obtain ⟨z18, hz18, h⟩ := bs h
      refine join_intro (I := fun a w => ∃ (G : Gh), G0.le G ∧ EnvR G 75 a [(0, .kv (.ptr 47) p0), (2, .kv .str p2), (6, .kv .i 0), (7, .val (.pointer (some ⟨b12, 0, none⟩))), (8, .kv .i r14)] ∧ Holds w G (tabs σ) (LS.box b12 K52 z18 :: Ls)) trivial ?_ ?_
      · intro a w hI
        obtain ⟨G, hle, hE, hH⟩ := hI
        refine Exit.then_normal (hK15 _ _ ?_)
        refine wp_seq_k (fun K hK20 => ?_)
        refine wp_seq_k (fun K hK21 => ?_)
        by_cases hc : (decide (r14 < 0)) = true
        · replace h := ifT hc h
          have c22 := hc
          obtain ⟨i23, hi23, h⟩ := bs h
          obtain ⟨o24, ho24, h⟩ := bs h
          by_cases hc : (decide ((o24.2.1.length : Int) ≥ 128)) = true
          · replace h := ifT hc h
            have c25 := hc
            refine region_par 33 [] [(0, 0), (0, 0), (0, 0), (0, 0), (0, 0), (0, 0), (0, 0), (0, 0), (0, 0), (0, 0), (0, 0), (0, 0), (0, 0), (0, 0), (0, 0), (0, 0), (0, 0), (0, 0), (0, 0), (0, 0), (0, 0), (0, 0), (0, 0), (0, 0), (0, 0), (0, 0), (0, 0), (0, 0), (0, 0), (0, 0), (0, 0), (0, 0), (0, 0)] [.kv .i r14, .kv .bool (decide (r14 < 0)), .kv .bool true, .kv (.ptr 47) p0, .kv (.ptr 47) (some i23), .fldA 47 i23 1, .kv (.list K52) o24.2.1, .kv .i (o24.2.1.length : Int), .kv .bool (decide ((o24.2.1.length : Int) ≥ 128)), .kv .bool (decide ((o24.2.1.length : Int) ≥ 128)), .kv .bool true, .undef, .undef, .undef, .undef, .undef, .undef, .undef, .undef, .undef, .undef, .undef, .kv .bool true, .kv .bool true, .undef, .undef, .undef, .undef, .undef, .undef, .undef, .undef, .undef] (fun _ => tabs σ) (fun _ => LS.box b12 K52 z18 :: Ls) (by kernel_rfl) (by kernel_rfl) hE hH
                    ⟨⟨⟨⟨⟨⟨⟨⟨⟨⟨⟨⟨⟨⟨⟨⟨⟨⟨⟨⟨⟨⟨⟨⟨⟨⟨⟨⟨⟨⟨⟨⟨⟨trivial,
                    anyk (fun k => obR [] (Os := []) trivial (by kernel_rfl) (by kernel_rfl))⟩,
                    anyk (fun k => obR [] (Os := []) trivial (by kernel_rfl) (by kernel_rfl))⟩,
                    anyk (fun k => obRe [] (Os := []) trivial (by kernel_rfl) (by kernel_rfl) (eb2 c22 rfl))⟩,
                    anyk (fun k => obR [] (Os := []) trivial (by kernel_rfl) (by kernel_rfl))⟩,
                    anyk (fun k => obR [.pt i23] (Os := [_]) ⟨hi23, trivial⟩ (by kernel_rfl) (by kernel_rfl))⟩,
                    anyk (fun k => obR [] (Os := []) trivial (by kernel_rfl) (by kernel_rfl))⟩,
                    anyk (fun k => obR [.ob fs47 o24] (Os := [_]) ⟨(ob47 (s := σ) ho24), trivial⟩ (by kernel_rfl) (by kernel_rfl))⟩,
                    anyk (fun k => obR [] (Os := []) trivial (by kernel_rfl) (by kernel_rfl))⟩,
                    anyk (fun k => obR [] (Os := []) trivial (by kernel_rfl) (by kernel_rfl))⟩,
                    anyk (fun k => obR [] (Os := []) trivial (by kernel_rfl) (by kernel_rfl))⟩,
                    anyk (fun k => obRe [] (Os := []) trivial (by kernel_rfl) (by kernel_rfl) (eb2 c25 rfl))⟩,
                    anyk (fun k => obR [] (Os := []) trivial (by kernel_rfl) (by kernel_rfl))⟩,
                    anyk (fun k => obR [] (Os := []) trivial (by kernel_rfl) (by kernel_rfl))⟩,
                    anyk (fun k => obR [] (Os := []) trivial (by kernel_rfl) (by kernel_rfl))⟩,
                    anyk (fun k => obR [] (Os := []) trivial (by kernel_rfl) (by kernel_rfl))⟩,
                    anyk (fun k => obR [] (Os := []) trivial (by kernel_rfl) (by kernel_rfl))⟩,
                    anyk (fun k => obR [] (Os := []) trivial (by kernel_rfl) (by kernel_rfl))⟩,
                    anyk (fun k => obR [] (Os := []) trivial (by kernel_rfl) (by kernel_rfl))⟩,
                    anyk (fun k => obR [] (Os := []) trivial (by kernel_rfl) (by kernel_rfl))⟩,
                    anyk (fun k => obR [] (Os := []) trivial (by kernel_rfl) (by kernel_rfl))⟩,
                    anyk (fun k => obR [] (Os := []) trivial (by kernel_rfl) (by kernel_rfl))⟩,
                    anyk (fun k => obR [] (Os := []) trivial (by kernel_rfl) (by kernel_rfl))⟩,
                    anyk (fun k => obR [] (Os := []) trivial (by kernel_rfl) (by kernel_rfl))⟩,
                    anyk (fun k => obR [] (Os := []) trivial (by kernel_rfl) (by kernel_rfl))⟩,
                    anyk (fun k => obR [] (Os := []) trivial (by kernel_rfl) (by kernel_rfl))⟩,
                    anyk (fun k => obR [] (Os := []) trivial (by kernel_rfl) (by kernel_rfl))⟩,
                    anyk (fun k => obR [] (Os := []) trivial (by kernel_rfl) (by kernel_rfl))⟩,
                    anyk (fun k => obR [] (Os := []) trivial (by kernel_rfl) (by kernel_rfl))⟩,
                    anyk (fun k => obR [] (Os := []) trivial (by kernel_rfl) (by kernel_rfl))⟩,
                    anyk (fun k => obR [] (Os := []) trivial (by kernel_rfl) (by kernel_rfl))⟩,
                    anyk (fun k => obR [] (Os := []) trivial (by kernel_rfl) (by kernel_rfl))⟩,
                    anyk (fun k => obR [] (Os := []) trivial (by kernel_rfl) (by kernel_rfl))⟩,
                    anyk (fun k => obR [] (Os := []) trivial (by kernel_rfl) (by kernel_rfl))⟩ (fun a w G hl6 hE hH => ?_)
            have hle := Gh.le_trans hle hl6
            refine segO 2 [] [(64, .kv .bool true)] (Os := []) trivial hE hH (by kernel_rfl) (fun a hE => ?_)
            refine wpFrom_end (by kernel_rfl) ?_
            refine Exit.then_normal (hK21 _ _ ?_)
            refine condT hE (by kernel_rfl) rfl ?_
            refine wp_seq_k (fun K hK26 => ?_)
            refine wp_region_from ?_
            refine segO 1 [] [(6, .kv .i 10)] (Os := []) trivial hE hH (by kernel_rfl) (fun a hE => ?_)
            refine wpFrom_end (by kernel_rfl) ?_
            refine Exit.then_normal (hK26 _ _ ?_)
            refine wp_ret ?_
            refine Exit.then_ret ?_
            have hH := hH.drop (fun _ _ _ => rfl)
            cases h
            exact ret1 rfl hE hle hH (by kernel_rfl)
          · replace h := ifN hc h
            have c27 := hc
            by_cases hc : (decide ((p2.length : Int) > (IntKind.wrap .i64 ((IntKind.wrap .i64 (65536 - (z18.2.1.length : Int))) - (z18.2.2.1.length : Int))))) = true
            · replace h := ifT hc h
              have c28 := hc
              refine region_par 33 [] [(0, 0), (0, 0), (0, 0), (0, 0), (0, 0), (0, 0), (0, 0), (0, 0), (0, 0), (0, 0), (0, 0), (0, 0), (0, 0), (0, 0), (0, 0), (0, 0), (0, 0), (0, 0), (0, 0), (0, 0), (0, 0), (0, 0), (0, 0), (0, 0), (0, 0), (0, 0), (0, 0), (0, 0), (0, 0), (0, 0), (0, 0), (0, 0), (0, 0)] [.kv .i r14, .kv .bool (decide (r14 < 0)), .kv .bool true, .kv (.ptr 47) p0, .kv (.ptr 47) (some i23), .fldA 47 i23 1, .kv (.list K52) o24.2.1, .kv .i (o24.2.1.length : Int), .kv .bool (decide ((o24.2.1.length : Int) ≥ 128)), .kv .bool (decide ((o24.2.1.length : Int) ≥ 128)), .kv .bool false, .kv .str p2, .kv .i (p2.length : Int), .val (.pointer (some ⟨b12, 1, none⟩)), .kv .str z18.2.1, .kv .i (z18.2.1.length : Int), .kv .i (IntKind.wrap .i64 (65536 - (z18.2.1.length : Int))), .val (.pointer (some ⟨b12, 2, none⟩)), .kv .str z18.2.2.1, .kv .i (z18.2.2.1.length : Int), .kv .i (IntKind.wrap .i64 ((IntKind.wrap .i64 (65536 - (z18.2.1.length : Int))) - (z18.2.2.1.length : Int))), .kv .bool (decide ((p2.length : Int) > (IntKind.wrap .i64 ((IntKind.wrap .i64 (65536 - (z18.2.1.length : Int))) - (z18.2.2.1.length : Int))))), .kv .bool (decide ((p2.length : Int) > (IntKind.wrap .i64 ((IntKind.wrap .i64 (65536 - (z18.2.1.length : Int))) - (z18.2.2.1.length : Int))))), .kv .bool true, .undef, .undef, .undef, .undef, .undef, .undef, .undef, .undef, .undef] (fun _ => tabs σ) (fun _ => LS.box b12 K52 z18 :: Ls) (by kernel_rfl) (by kernel_rfl) hE hH
                      ⟨⟨⟨⟨⟨⟨⟨⟨⟨⟨⟨⟨⟨⟨⟨⟨⟨⟨⟨⟨⟨⟨⟨⟨⟨⟨⟨⟨⟨⟨⟨⟨⟨trivial,
                      anyk (fun k => obR [] (Os := []) trivial (by kernel_rfl) (by kernel_rfl))⟩,
                      anyk (fun k => obR [] (Os := []) trivial (by kernel_rfl) (by kernel_rfl))⟩,
                      anyk (fun k => obRe [] (Os := []) trivial (by kernel_rfl) (by kernel_rfl) (eb2 c22 rfl))⟩,
                      anyk (fun k => obR [] (Os := []) trivial (by kernel_rfl) (by kernel_rfl))⟩,
                      anyk (fun k => obR [.pt i23] (Os := [_]) ⟨hi23, trivial⟩ (by kernel_rfl) (by kernel_rfl))⟩,
                      anyk (fun k => obR [] (Os := []) trivial (by kernel_rfl) (by kernel_rfl))⟩,
                      anyk (fun k => obR [.ob fs47 o24] (Os := [_]) ⟨(ob47 (s := σ) ho24), trivial⟩ (by kernel_rfl) (by kernel_rfl))⟩,
                      anyk (fun k => obR [] (Os := []) trivial (by kernel_rfl) (by kernel_rfl))⟩,
                      anyk (fun k => obR [] (Os := []) trivial (by kernel_rfl) (by kernel_rfl))⟩,
                      anyk (fun k => obR [] (Os := []) trivial (by kernel_rfl) (by kernel_rfl))⟩,
                      anyk (fun k => obRe [] (Os := []) trivial (by kernel_rfl) (by kernel_rfl) (eb2 (bf c27) rfl))⟩,
                      anyk (fun k => obR [] (Os := []) trivial (by kernel_rfl) (by kernel_rfl))⟩,
                      anyk (fun k => obR [] (Os := []) trivial (by kernel_rfl) (by kernel_rfl))⟩,
                      anyk (fun k => obR [] (Os := []) trivial (by kernel_rfl) (by kernel_rfl))⟩,
                      anyk (fun k => obR [.bx 0 K52 z18] (Os := [_]) ⟨(rfl : (LS.box b12 K52 z18 :: Ls)[0]? = some (LS.box b12 K52 z18)), trivial⟩ (by kernel_rfl) (by kernel_rfl))⟩,
                      anyk (fun k => obR [] (Os := []) trivial (by kernel_rfl) (by kernel_rfl))⟩,
                      anyk (fun k => obR [] (Os := []) trivial (by kernel_rfl) (by kernel_rfl))⟩,
                      anyk (fun k => obR [] (Os := []) trivial (by kernel_rfl) (by kernel_rfl))⟩,
                      anyk (fun k => obR [.bx 0 K52 z18] (Os := [_]) ⟨(rfl : (LS.box b12 K52 z18 :: Ls)[0]? = some (LS.box b12 K52 z18)), trivial⟩ (by kernel_rfl) (by kernel_rfl))⟩,
                      anyk (fun k => obR [] (Os := []) trivial (by kernel_rfl) (by kernel_rfl))⟩,
                      anyk (fun k => obR [] (Os := []) trivial (by kernel_rfl) (by kernel_rfl))⟩,
                      anyk (fun k => obR [] (Os := []) trivial (by kernel_rfl) (by kernel_rfl))⟩,
                      anyk (fun k => obR [] (Os := []) trivial (by kernel_rfl) (by kernel_rfl))⟩,
                      anyk (fun k => obRe [] (Os := []) trivial (by kernel_rfl) (by kernel_rfl) (eb2 c28 rfl))⟩,
                      anyk (fun k => obR [] (Os := []) trivial (by kernel_rfl) (by kernel_rfl))⟩,
                      anyk (fun k => obR [] (Os := []) trivial (by kernel_rfl) (by kernel_rfl))⟩,
                      anyk (fun k => obR [] (Os := []) trivial (by kernel_rfl) (by kernel_rfl))⟩,
                      anyk (fun k => obR [] (Os := []) trivial (by kernel_rfl) (by kernel_rfl))⟩,
                      anyk (fun k => obR [] (Os := []) trivial (by kernel_rfl) (by kernel_rfl))⟩,
                      anyk (fun k => obR [] (Os := []) trivial (by kernel_rfl) (by kernel_rfl))⟩,
                      anyk (fun k => obR [] (Os := []) trivial (by kernel_rfl) (by kernel_rfl))⟩,
                      anyk (fun k => obR [] (Os := []) trivial (by kernel_rfl) (by kernel_rfl))⟩,
                      anyk (fun k => obR [] (Os := []) trivial (by kernel_rfl) (by kernel_rfl))⟩ (fun a w G hl7 hE hH => ?_)
              have hle := Gh.le_trans hle hl7
              refine segO 2 [] [(64, .kv .bool true)] (Os := []) trivial hE hH (by kernel_rfl) (fun a hE => ?_)
              refine wpFrom_end (by kernel_rfl) ?_
              refine Exit.then_normal (hK21 _ _ ?_)
              refine condT hE (by kernel_rfl) rfl ?_
              refine wp_seq_k (fun K hK29 => ?_)
              refine wp_region_from ?_
              refine segO 1 [] [(6, .kv .i 10)] (Os := []) trivial hE hH (by kernel_rfl) (fun a hE => ?_)
              refine wpFrom_end (by kernel_rfl) ?_
              refine Exit.then_normal (hK29 _ _ ?_)
              refine wp_ret ?_
              refine Exit.then_ret ?_
              have hH := hH.drop (fun _ _ _ => rfl)
              cases h
              exact ret1 rfl hE hle hH (by kernel_rfl)
            · replace h := ifN hc h
              have c30 := hc
              obtain ⟨i31, hi31, h⟩ := bs h
              obtain ⟨o32, ho32, h⟩ := bs h
              obtain ⟨r33, hr33, h⟩ := bs h
              refine region_par 33 [31] [(0, 0), (0, 0), (0, 0), (0, 0), (0, 0), (0, 0), (0, 0), (0, 0), (0, 0), (0, 0), (0, 0), (0, 0), (0, 0), (0, 0), (0, 0), (0, 0), (0, 0), (0, 0), (0, 0), (0, 0), (0, 0), (0, 0), (0, 0), (0, 0), (0, 1), (0, 1), (0, 1), (0, 1), (0, 1), (0, 1), (0, 0), (0, 0), (1, 1)] [.kv .i r14, .kv .bool (decide (r14 < 0)), .kv .bool true, .kv (.ptr 47) p0, .kv (.ptr 47) (some i23), .fldA 47 i23 1, .kv (.list K52) o24.2.1, .kv .i (o24.2.1.length : Int), .kv .bool (decide ((o24.2.1.length : Int) ≥ 128)), .kv .bool (decide ((o24.2.1.length : Int) ≥ 128)), .kv .bool false, .kv .str p2, .kv .i (p2.length : Int), .val (.pointer (some ⟨b12, 1, none⟩)), .kv .str z18.2.1, .kv .i (z18.2.1.length : Int), .kv .i (IntKind.wrap .i64 (65536 - (z18.2.1.length : Int))), .val (.pointer (some ⟨b12, 2, none⟩)), .kv .str z18.2.2.1, .kv .i (z18.2.2.1.length : Int), .kv .i (IntKind.wrap .i64 ((IntKind.wrap .i64 (65536 - (z18.2.1.length : Int))) - (z18.2.2.1.length : Int))), .kv .bool (decide ((p2.length : Int) > (IntKind.wrap .i64 ((IntKind.wrap .i64 (65536 - (z18.2.1.length : Int))) - (z18.2.2.1.length : Int))))), .kv .bool (decide ((p2.length : Int) > (IntKind.wrap .i64 ((IntKind.wrap .i64 (65536 - (z18.2.1.length : Int))) - (z18.2.2.1.length : Int))))), .kv .bool false, .kv .str p2, .kv .i (p2.length : Int), .kv (.ptr 47) p0, .kv (.ptr 47) (some i31), .fldA 47 i31 0, .kv .i o32.1, .kv (.ptr 47) p0, .kv .i r33, .kv .i (IntKind.wrap .i64 (o32.1 - r33))] (fun _ => tabs σ) (fun _ => LS.box b12 K52 z18 :: Ls) (by kernel_rfl) (by kernel_rfl) hE hH
                      ⟨⟨⟨⟨⟨⟨⟨⟨⟨⟨⟨⟨⟨⟨⟨⟨⟨⟨⟨⟨⟨⟨⟨⟨⟨⟨⟨⟨⟨⟨⟨⟨⟨trivial,
                      anyk (fun k => obR [] (Os := []) trivial (by kernel_rfl) (by kernel_rfl))⟩,
                      anyk (fun k => obR [] (Os := []) trivial (by kernel_rfl) (by kernel_rfl))⟩,
                      anyk (fun k => obRe [] (Os := []) trivial (by kernel_rfl) (by kernel_rfl) (eb2 c22 rfl))⟩,
                      anyk (fun k => obR [] (Os := []) trivial (by kernel_rfl) (by kernel_rfl))⟩,
                      anyk (fun k => obR [.pt i23] (Os := [_]) ⟨hi23, trivial⟩ (by kernel_rfl) (by kernel_rfl))⟩,
                      anyk (fun k => obR [] (Os := []) trivial (by kernel_rfl) (by kernel_rfl))⟩,
                      anyk (fun k => obR [.ob fs47 o24] (Os := [_]) ⟨(ob47 (s := σ) ho24), trivial⟩ (by kernel_rfl) (by kernel_rfl))⟩,
                      anyk (fun k => obR [] (Os := []) trivial (by kernel_rfl) (by kernel_rfl))⟩,
                      anyk (fun k => obR [] (Os := []) trivial (by kernel_rfl) (by kernel_rfl))⟩,
                      anyk (fun k => obR [] (Os := []) trivial (by kernel_rfl) (by kernel_rfl))⟩,
                      anyk (fun k => obRe [] (Os := []) trivial (by kernel_rfl) (by kernel_rfl) (eb2 (bf c27) rfl))⟩,
                      anyk (fun k => obR [] (Os := []) trivial (by kernel_rfl) (by kernel_rfl))⟩,
                      anyk (fun k => obR [] (Os := []) trivial (by kernel_rfl) (by kernel_rfl))⟩,
                      anyk (fun k => obR [] (Os := []) trivial (by kernel_rfl) (by kernel_rfl))⟩,
                      anyk (fun k => obR [.bx 0 K52 z18] (Os := [_]) ⟨(rfl : (LS.box b12 K52 z18 :: Ls)[0]? = some (LS.box b12 K52 z18)), trivial⟩ (by kernel_rfl) (by kernel_rfl))⟩,
                      anyk (fun k => obR [] (Os := []) trivial (by kernel_rfl) (by kernel_rfl))⟩,
                      anyk (fun k => obR [] (Os := []) trivial (by kernel_rfl) (by kernel_rfl))⟩,
                      anyk (fun k => obR [] (Os := []) trivial (by kernel_rfl) (by kernel_rfl))⟩,
                      anyk (fun k => obR [.bx 0 K52 z18] (Os := [_]) ⟨(rfl : (LS.box b12 K52 z18 :: Ls)[0]? = some (LS.box b12 K52 z18)), trivial⟩ (by kernel_rfl) (by kernel_rfl))⟩,
                      anyk (fun k => obR [] (Os := []) trivial (by kernel_rfl) (by kernel_rfl))⟩,
                      anyk (fun k => obR [] (Os := []) trivial (by kernel_rfl) (by kernel_rfl))⟩,
                      anyk (fun k => obR [] (Os := []) trivial (by kernel_rfl) (by kernel_rfl))⟩,
                      anyk (fun k => obR [] (Os := []) trivial (by kernel_rfl) (by kernel_rfl))⟩,
                      anyk (fun k => obRe [] (Os := []) trivial (by kernel_rfl) (by kernel_rfl) (eb2 (bf c30) rfl))⟩,
                      anyk (fun k => obR [] (Os := []) trivial (by kernel_rfl) (by kernel_rfl))⟩,
                      anyk (fun k => obR [] (Os := []) trivial (by kernel_rfl) (by kernel_rfl))⟩,
                      anyk (fun k => obR [] (Os := []) trivial (by kernel_rfl) (by kernel_rfl))⟩,
                      anyk (fun k => obR [.pt i31] (Os := [_]) ⟨hi31, trivial⟩ (by kernel_rfl) (by kernel_rfl))⟩,
                      anyk (fun k => obR [] (Os := []) trivial (by kernel_rfl) (by kernel_rfl))⟩,
                      anyk (fun k => obR [.ob fs47 o32] (Os := [_]) ⟨(ob47 (s := σ) ho32), trivial⟩ (by kernel_rfl) (by kernel_rfl))⟩,
                      anyk (fun k => obR [] (Os := []) trivial (by kernel_rfl) (by kernel_rfl))⟩,
                      one (obC (k := 0) (d := (some 61)) (f75_ok hr33) rfl (NoHole.cons (fun _ _ _ => rfl) hN) (by kernel_rfl) (by kernel_rfl) rfl trivial)⟩,
                      anyk (fun k => obR [] (Os := []) trivial (by kernel_rfl) (by kernel_rfl))⟩ (fun a w G hl8 hE hH => ?_)
              have hle := Gh.le_trans hle hl8
              refine segO 2 [] [(64, .kv .bool (decide ((p2.length : Int) > (IntKind.wrap .i64 (o32.1 - r33)))))] (Os := []) trivial hE hH (by kernel_rfl) (fun a hE => ?_)
              refine wpFrom_end (by kernel_rfl) ?_
              refine Exit.then_normal (hK21 _ _ ?_)
              refine condE (b := decide ((p2.length : Int) > (IntKind.wrap .i64 (o32.1 - r33)))) hE (by kernel_rfl) (fun hc => ?_) (fun hc => ?_)
              · replace h := ifT hc h
                refine wp_seq_k (fun K hK34 => ?_)
                refine wp_region_from ?_
                refine segO 1 [] [(6, .kv .i 10)] (Os := []) trivial hE hH (by kernel_rfl) (fun a hE => ?_)
                refine wpFrom_end (by kernel_rfl) ?_
                refine Exit.then_normal (hK34 _ _ ?_)
                refine wp_ret ?_
                refine Exit.then_ret ?_
                have hH := hH.drop (fun _ _ _ => rfl)
                cases h
                exact ret1 rfl hE hle hH (by kernel_rfl)
              · replace h := ifF hc h
                refine wp_skip ?_
                refine Exit.then_normal (hK20 _ _ ?_)
                refine wp_seq_k (fun K hK35 => ?_)
                refine wp_region_from ?_
                obtain ⟨q36, h⟩ := gd h
                refine segO 5 [.bx 0 K52 z18] [(68, .kv .str (z18.2.2.1 ++ p2)), (69, .val (.pointer (some ⟨b12, 2, none⟩)))] (Os := [_, _]) ⟨(rfl : (LS.box b12 K52 z18 :: Ls)[0]? = some (LS.box b12 K52 z18)), q36, trivial⟩ hE hH (by kernel_rfl) (fun a hE => ?_)
                refine stepStB (b := b12) (off := 2) 0 .str (z18.2.2.1 ++ p2) (x' := (z18.1, z18.2.1, z18.2.2.1 ++ p2, ())) hE hH (by kernel_rfl) rfl (by kernel_rfl) (fun w G hl9 hE hH => ?_)
                have hle := Gh.le_trans hle hl9
                refine wpFrom_end (by kernel_rfl) ?_
                refine Exit.then_normal (hK35 _ _ ?_)
                refine wp_seq_k (fun K hK37 => ?_)
                refine wp_region_from ?_
                refine segO 2 [.bx 0 K52 (z18.1, z18.2.1, z18.2.2.1 ++ p2, ())] [(70, .kv (.ptr 47) p0), (71, .kv K52 (z18.1, z18.2.1, z18.2.2.1 ++ p2, ()))] (Os := [_]) ⟨(rfl : (LS.box b12 K52 (z18.1, z18.2.1, z18.2.2.1 ++ p2, ()) :: Ls)[0]? = some (LS.box b12 K52 (z18.1, z18.2.1, z18.2.2.1 ++ p2, ()))), trivial⟩ hE hH (by kernel_rfl) (fun a hE => ?_)
                obtain ⟨r38, hr38, h⟩ := bs h
                refine stepCall (d := (some 72)) (f103_ok hr38) hE hH (NoHole.cons (fun _ _ _ => rfl) hN) (by kernel_rfl) (by kernel_rfl) trivial (fun a w G hl10 hE hH => ?_)
                have hle := Gh.le_trans hle hl10
                refine wpFrom_end (by kernel_rfl) ?_
                refine Exit.then_normal (hK37 _ _ ?_)
                refine wp_seq_k (fun K hK39 => ?_)
                refine wp_seq_k (fun K hK40 => ?_)
                refine wp_region_from ?_
                refine segO 1 [] [(73, .kv (.ptr 47) p0)] (Os := []) trivial hE hH (by kernel_rfl) (fun a hE => ?_)
                obtain ⟨r41, hr41, h⟩ := bs h
                refine stepCall (d := (some 74)) (f104_ok hr41) hE hH (NoHole.cons (fun _ _ _ => rfl) hN) (by kernel_rfl) (by kernel_rfl) trivial (fun a w G hl11 hE hH => ?_)
                have hle := Gh.le_trans hle hl11
                refine wpFrom_end (by kernel_rfl) ?_
                refine Exit.then_normal (hK40 _ _ ?_)
                refine condE (b := r41.1) hE (by kernel_rfl) (fun hc => ?_) (fun hc => ?_)
                · replace h := ifT hc h
                  refine wp_seq_k (fun K hK42 => ?_)
                  refine wp_region_from ?_
                  refine segO 1 [] [(6, .kv .i 11)] (Os := []) trivial hE hH (by kernel_rfl) (fun a hE => ?_)
                  refine wpFrom_end (by kernel_rfl) ?_
                  refine Exit.then_normal (hK42 _ _ ?_)
                  refine wp_ret ?_
                  refine Exit.then_ret ?_
                  have hH := hH.drop (fun _ _ _ => rfl)
                  cases h
                  exact ret1 rfl hE hle hH (by kernel_rfl)
                · replace h := ifF hc h
                  refine wp_skip ?_
                  refine Exit.then_normal (hK39 _ _ ?_)
                  refine wp_seq_k (fun K hK43 => ?_)
                  refine wp_region_from ?_
                  refine segO 1 [] [(6, .kv .i 0)] (Os := []) trivial hE hH (by kernel_rfl) (fun a hE => ?_)
                  refine wpFrom_end (by kernel_rfl) ?_
                  refine Exit.then_normal (hK43 _ _ ?_)
                  refine wp_ret ?_
                  have hH := hH.drop (fun _ _ _ => rfl)
                  cases h
                  exact ret1 rfl hE hle hH (by kernel_rfl)
        · replace h := ifN hc h
          have c44 := hc
          by_cases hc : (decide ((p2.length : Int) > (IntKind.wrap .i64 ((IntKind.wrap .i64 (65536 - (z18.2.1.length : Int))) - (z18.2.2.1.length : Int))))) = true
          · replace h := ifT hc h
            have c45 := hc
            refine region_par 33 [] [(0, 0), (0, 0), (0, 0), (0, 0), (0, 0), (0, 0), (0, 0), (0, 0), (0, 0), (0, 0), (0, 0), (0, 0), (0, 0), (0, 0), (0, 0), (0, 0), (0, 0), (0, 0), (0, 0), (0, 0), (0, 0), (0, 0), (0, 0), (0, 0), (0, 0), (0, 0), (0, 0), (0, 0), (0, 0), (0, 0), (0, 0), (0, 0), (0, 0)] [.kv .i r14, .kv .bool (decide (r14 < 0)), .kv .bool false, .undef, .undef, .undef, .undef, .undef, .undef, .kv .bool false, .kv .bool false, .kv .str p2, .kv .i (p2.length : Int), .val (.pointer (some ⟨b12, 1, none⟩)), .kv .str z18.2.1, .kv .i (z18.2.1.length : Int), .kv .i (IntKind.wrap .i64 (65536 - (z18.2.1.length : Int))), .val (.pointer (some ⟨b12, 2, none⟩)), .kv .str z18.2.2.1, .kv .i (z18.2.2.1.length : Int), .kv .i (IntKind.wrap .i64 ((IntKind.wrap .i64 (65536 - (z18.2.1.length : Int))) - (z18.2.2.1.length : Int))), .kv .bool (decide ((p2.length : Int) > (IntKind.wrap .i64 ((IntKind.wrap .i64 (65536 - (z18.2.1.length : Int))) - (z18.2.2.1.length : Int))))), .kv .bool (decide ((p2.length : Int) > (IntKind.wrap .i64 ((IntKind.wrap .i64 (65536 - (z18.2.1.length : Int))) - (z18.2.2.1.length : Int))))), .kv .bool true, .undef, .undef, .undef, .undef, .undef, .undef, .undef, .undef, .undef] (fun _ => tabs σ) (fun _ => LS.box b12 K52 z18 :: Ls) (by kernel_rfl) (by kernel_rfl) hE hH
                    ⟨⟨⟨⟨⟨⟨⟨⟨⟨⟨⟨⟨⟨⟨⟨⟨⟨⟨⟨⟨⟨⟨⟨⟨⟨⟨⟨⟨⟨⟨⟨⟨⟨trivial,
                    anyk (fun k => obR [] (Os := []) trivial (by kernel_rfl) (by kernel_rfl))⟩,
                    anyk (fun k => obR [] (Os := []) trivial (by kernel_rfl) (by kernel_rfl))⟩,
                    anyk (fun k => obRe [] (Os := []) trivial (by kernel_rfl) (by kernel_rfl) (eb2 (bf c44) rfl))⟩,
                    anyk (fun k => obR [] (Os := []) trivial (by kernel_rfl) (by kernel_rfl))⟩,
                    anyk (fun k => obR [] (Os := []) trivial (by kernel_rfl) (by kernel_rfl))⟩,
                    anyk (fun k => obR [] (Os := []) trivial (by kernel_rfl) (by kernel_rfl))⟩,
                    anyk (fun k => obR [] (Os := []) trivial (by kernel_rfl) (by kernel_rfl))⟩,
                    anyk (fun k => obR [] (Os := []) trivial (by kernel_rfl) (by kernel_rfl))⟩,
                    anyk (fun k => obR [] (Os := []) trivial (by kernel_rfl) (by kernel_rfl))⟩,
                    anyk (fun k => obR [] (Os := []) trivial (by kernel_rfl) (by kernel_rfl))⟩,
                    anyk (fun k => obR [] (Os := []) trivial (by kernel_rfl) (by kernel_rfl))⟩,
                    anyk (fun k => obR [] (Os := []) trivial (by kernel_rfl) (by kernel_rfl))⟩,
                    anyk (fun k => obR [] (Os := []) trivial (by kernel_rfl) (by kernel_rfl))⟩,
                    anyk (fun k => obR [] (Os := []) trivial (by kernel_rfl) (by kernel_rfl))⟩,
                    anyk (fun k => obR [.bx 0 K52 z18] (Os := [_]) ⟨(rfl : (LS.box b12 K52 z18 :: Ls)[0]? = some (LS.box b12 K52 z18)), trivial⟩ (by kernel_rfl) (by kernel_rfl))⟩,
                    anyk (fun k => obR [] (Os := []) trivial (by kernel_rfl) (by kernel_rfl))⟩,
                    anyk (fun k => obR [] (Os := []) trivial (by kernel_rfl) (by kernel_rfl))⟩,
                    anyk (fun k => obR [] (Os := []) trivial (by kernel_rfl) (by kernel_rfl))⟩,
                    anyk (fun k => obR [.bx 0 K52 z18] (Os := [_]) ⟨(rfl : (LS.box b12 K52 z18 :: Ls)[0]? = some (LS.box b12 K52 z18)), trivial⟩ (by kernel_rfl) (by kernel_rfl))⟩,
                    anyk (fun k => obR [] (Os := []) trivial (by kernel_rfl) (by kernel_rfl))⟩,
                    anyk (fun k => obR [] (Os := []) trivial (by kernel_rfl) (by kernel_rfl))⟩,
                    anyk (fun k => obR [] (Os := []) trivial (by kernel_rfl) (by kernel_rfl))⟩,
                    anyk (fun k => obR [] (Os := []) trivial (by kernel_rfl) (by kernel_rfl))⟩,
                    anyk (fun k => obRe [] (Os := []) trivial (by kernel_rfl) (by kernel_rfl) (eb2 c45 rfl))⟩,
                    anyk (fun k => obR [] (Os := []) trivial (by kernel_rfl) (by kernel_rfl))⟩,
                    anyk (fun k => obR [] (Os := []) trivial (by kernel_rfl) (by kernel_rfl))⟩,
                    anyk (fun k => obR [] (Os := []) trivial (by kernel_rfl) (by kernel_rfl))⟩,
                    anyk (fun k => obR [] (Os := []) trivial (by kernel_rfl) (by kernel_rfl))⟩,
                    anyk (fun k => obR [] (Os := []) trivial (by kernel_rfl) (by kernel_rfl))⟩,
                    anyk (fun k => obR [] (Os := []) trivial (by kernel_rfl) (by kernel_rfl))⟩,
                    anyk (fun k => obR [] (Os := []) trivial (by kernel_rfl) (by kernel_rfl))⟩,
                    anyk (fun k => obR [] (Os := []) trivial (by kernel_rfl) (by kernel_rfl))⟩,
                    anyk (fun k => obR [] (Os := []) trivial (by kernel_rfl) (by kernel_rfl))⟩ (fun a w G hl12 hE hH => ?_)
            have hle := Gh.le_trans hle hl12
            refine segO 2 [] [(64, .kv .bool true)] (Os := []) trivial hE hH (by kernel_rfl) (fun a hE => ?_)
            refine wpFrom_end (by kernel_rfl) ?_
            refine Exit.then_normal (hK21 _ _ ?_)
            refine condT hE (by kernel_rfl) rfl ?_
            refine wp_seq_k (fun K hK46 => ?_)
            refine wp_region_from ?_
            refine segO 1 [] [(6, .kv .i 10)] (Os := []) trivial hE hH (by kernel_rfl) (fun a hE => ?_)
            refine wpFrom_end (by kernel_rfl) ?_
            refine Exit.then_normal (hK46 _ _ ?_)
            refine wp_ret ?_
            refine Exit.then_ret ?_
            have hH := hH.drop (fun _ _ _ => rfl)
            cases h
            exact ret1 rfl hE hle hH (by kernel_rfl)
          · replace h := ifN hc h
            have c47 := hc
            obtain ⟨i48, hi48, h⟩ := bs h
            obtain ⟨o49, ho49, h⟩ := bs h
            obtain ⟨r50, hr50, h⟩ := bs h
            refine region_par 33 [31] [(0, 0), (0, 0), (0, 0), (0, 0), (0, 0), (0, 0), (0, 0), (0, 0), (0, 0), (0, 0), (0, 0), (0, 0), (0, 0), (0, 0), (0, 0), (0, 0), (0, 0), (0, 0), (0, 0), (0, 0), (0, 0), (0, 0), (0, 0), (0, 0), (0, 1), (0, 1), (0, 1), (0, 1), (0, 1), (0, 1), (0, 0), (0, 0), (1, 1)] [.kv .i r14, .kv .bool (decide (r14 < 0)), .kv .bool false, .undef, .undef, .undef, .undef, .undef, .undef, .kv .bool false, .kv .bool false, .kv .str p2, .kv .i (p2.length : Int), .val (.pointer (some ⟨b12, 1, none⟩)), .kv .str z18.2.1, .kv .i (z18.2.1.length : Int), .kv .i (IntKind.wrap .i64 (65536 - (z18.2.1.length : Int))), .val (.pointer (some ⟨b12, 2, none⟩)), .kv .str z18.2.2.1, .kv .i (z18.2.2.1.length : Int), .kv .i (IntKind.wrap .i64 ((IntKind.wrap .i64 (65536 - (z18.2.1.length : Int))) - (z18.2.2.1.length : Int))), .kv .bool (decide ((p2.length : Int) > (IntKind.wrap .i64 ((IntKind.wrap .i64 (65536 - (z18.2.1.length : Int))) - (z18.2.2.1.length : Int))))), .kv .bool (decide ((p2.length : Int) > (IntKind.wrap .i64 ((IntKind.wrap .i64 (65536 - (z18.2.1.length : Int))) - (z18.2.2.1.length : Int))))), .kv .bool false, .kv .str p2, .kv .i (p2.length : Int), .kv (.ptr 47) p0, .kv (.ptr 47) (some i48), .fldA 47 i48 0, .kv .i o49.1, .kv (.ptr 47) p0, .kv .i r50, .kv .i (IntKind.wrap .i64 (o49.1 - r50))] (fun _ => tabs σ) (fun _ => LS.box b12 K52 z18 :: Ls) (by kernel_rfl) (by kernel_rfl) hE hH
                    ⟨⟨⟨⟨⟨⟨⟨⟨⟨⟨⟨⟨⟨⟨⟨⟨⟨⟨⟨⟨⟨⟨⟨⟨⟨⟨⟨⟨⟨⟨⟨⟨⟨trivial,
                    anyk (fun k => obR [] (Os := []) trivial (by kernel_rfl) (by kernel_rfl))⟩,
                    anyk (fun k => obR [] (Os := []) trivial (by kernel_rfl) (by kernel_rfl))⟩,
                    anyk (fun k => obRe [] (Os := []) trivial (by kernel_rfl) (by kernel_rfl) (eb2 (bf c44) rfl))⟩,
                    anyk (fun k => obR [] (Os := []) trivial (by kernel_rfl) (by kernel_rfl))⟩,
                    anyk (fun k => obR [] (Os := []) trivial (by kernel_rfl) (by kernel_rfl))⟩,
                    anyk (fun k => obR [] (Os := []) trivial (by kernel_rfl) (by kernel_rfl))⟩,
                    anyk (fun k => obR [] (Os := []) trivial (by kernel_rfl) (by kernel_rfl))⟩,
                    anyk (fun k => obR [] (Os := []) trivial (by kernel_rfl) (by kernel_rfl))⟩,
                    anyk (fun k => obR [] (Os := []) trivial (by kernel_rfl) (by kernel_rfl))⟩,
                    anyk (fun k => obR [] (Os := []) trivial (by kernel_rfl) (by kernel_rfl))⟩,
                    anyk (fun k => obR [] (Os := []) trivial (by kernel_rfl) (by kernel_rfl))⟩,
                    anyk (fun k => obR [] (Os := []) trivial (by kernel_rfl) (by kernel_rfl))⟩,
                    anyk (fun k => obR [] (Os := []) trivial (by kernel_rfl) (by kernel_rfl))⟩,
                    anyk (fun k => obR [] (Os := []) trivial (by kernel_rfl) (by kernel_rfl))⟩,
                    anyk (fun k => obR [.bx 0 K52 z18] (Os := [_]) ⟨(rfl : (LS.box b12 K52 z18 :: Ls)[0]? = some (LS.box b12 K52 z18)), trivial⟩ (by kernel_rfl) (by kernel_rfl))⟩,
                    anyk (fun k => obR [] (Os := []) trivial (by kernel_rfl) (by kernel_rfl))⟩,
                    anyk (fun k => obR [] (Os := []) trivial (by kernel_rfl) (by kernel_rfl))⟩,
                    anyk (fun k => obR [] (Os := []) trivial (by kernel_rfl) (by kernel_rfl))⟩,
                    anyk (fun k => obR [.bx 0 K52 z18] (Os := [_]) ⟨(rfl : (LS.box b12 K52 z18 :: Ls)[0]? = some (LS.box b12 K52 z18)), trivial⟩ (by kernel_rfl) (by kernel_rfl))⟩,
                    anyk (fun k => obR [] (Os := []) trivial (by kernel_rfl) (by kernel_rfl))⟩,
                    anyk (fun k => obR [] (Os := []) trivial (by kernel_rfl) (by kernel_rfl))⟩,
                    anyk (fun k => obR [] (Os := []) trivial (by kernel_rfl) (by kernel_rfl))⟩,
                    anyk (fun k => obR [] (Os := []) trivial (by kernel_rfl) (by kernel_rfl))⟩,
                    anyk (fun k => obRe [] (Os := []) trivial (by kernel_rfl) (by kernel_rfl) (eb2 (bf c47) rfl))⟩,
                    anyk (fun k => obR [] (Os := []) trivial (by kernel_rfl) (by kernel_rfl))⟩,
                    anyk (fun k => obR [] (Os := []) trivial (by kernel_rfl) (by kernel_rfl))⟩,
                    anyk (fun k => obR [] (Os := []) trivial (by kernel_rfl) (by kernel_rfl))⟩,
                    anyk (fun k => obR [.pt i48] (Os := [_]) ⟨hi48, trivial⟩ (by kernel_rfl) (by kernel_rfl))⟩,
                    anyk (fun k => obR [] (Os := []) trivial (by kernel_rfl) (by kernel_rfl))⟩,
                    anyk (fun k => obR [.ob fs47 o49] (Os := [_]) ⟨(ob47 (s := σ) ho49), trivial⟩ (by kernel_rfl) (by kernel_rfl))⟩,
                    anyk (fun k => obR [] (Os := []) trivial (by kernel_rfl) (by kernel_rfl))⟩,
                    one (obC (k := 0) (d := (some 61)) (f75_ok hr50) rfl (NoHole.cons (fun _ _ _ => rfl) hN) (by kernel_rfl) (by kernel_rfl) rfl trivial)⟩,
                    anyk (fun k => obR [] (Os := []) trivial (by kernel_rfl) (by kernel_rfl))⟩ (fun a w G hl13 hE hH => ?_)
            have hle := Gh.le_trans hle hl13
            refine segO 2 [] [(64, .kv .bool (decide ((p2.length : Int) > (IntKind.wrap .i64 (o49.1 - r50)))))] (Os := []) trivial hE hH (by kernel_rfl) (fun a hE => ?_)
            refine wpFrom_end (by kernel_rfl) ?_
            refine Exit.then_normal (hK21 _ _ ?_)
            refine condE (b := decide ((p2.length : Int) > (IntKind.wrap .i64 (o49.1 - r50)))) hE (by kernel_rfl) (fun hc => ?_) (fun hc => ?_)
            · replace h := ifT hc h
              refine wp_seq_k (fun K hK51 => ?_)
              refine wp_region_from ?_
              refine segO 1 [] [(6, .kv .i 10)] (Os := []) trivial hE hH (by kernel_rfl) (fun a hE => ?_)
              refine wpFrom_end (by kernel_rfl) ?_
              refine Exit.then_normal (hK51 _ _ ?_)
              refine wp_ret ?_
              refine Exit.then_ret ?_
              have hH := hH.drop (fun _ _ _ => rfl)
              cases h
              exact ret1 rfl hE hle hH (by kernel_rfl)
            · replace h := ifF hc h
              refine wp_skip ?_
              refine Exit.then_normal (hK20 _ _ ?_)
              refine wp_seq_k (fun K hK52 => ?_)
              refine wp_region_from ?_
              obtain ⟨q53, h⟩ := gd h
              refine segO 5 [.bx 0 K52 z18] [(68, .kv .str (z18.2.2.1 ++ p2)), (69, .val (.pointer (some ⟨b12, 2, none⟩)))] (Os := [_, _]) ⟨(rfl : (LS.box b12 K52 z18 :: Ls)[0]? = some (LS.box b12 K52 z18)), q53, trivial⟩ hE hH (by kernel_rfl) (fun a hE => ?_)
              refine stepStB (b := b12) (off := 2) 0 .str (z18.2.2.1 ++ p2) (x' := (z18.1, z18.2.1, z18.2.2.1 ++ p2, ())) hE hH (by kernel_rfl) rfl (by kernel_rfl) (fun w G hl14 hE hH => ?_)
              have hle := Gh.le_trans hle hl14
              refine wpFrom_end (by kernel_rfl) ?_
              refine Exit.then_normal (hK52 _ _ ?_)
              refine wp_seq_k (fun K hK54 => ?_)
              refine wp_region_from ?_
              refine segO 2 [.bx 0 K52 (z18.1, z18.2.1, z18.2.2.1 ++ p2, ())] [(70, .kv (.ptr 47) p0), (71, .kv K52 (z18.1, z18.2.1, z18.2.2.1 ++ p2, ()))] (Os := [_]) ⟨(rfl : (LS.box b12 K52 (z18.1, z18.2.1, z18.2.2.1 ++ p2, ()) :: Ls)[0]? = some (LS.box b12 K52 (z18.1, z18.2.1, z18.2.2.1 ++ p2, ()))), trivial⟩ hE hH (by kernel_rfl) (fun a hE => ?_)
              obtain ⟨r55, hr55, h⟩ := bs h
              refine stepCall (d := (some 72)) (f103_ok hr55) hE hH (NoHole.cons (fun _ _ _ => rfl) hN) (by kernel_rfl) (by kernel_rfl) trivial (fun a w G hl15 hE hH => ?_)
              have hle := Gh.le_trans hle hl15
              refine wpFrom_end (by kernel_rfl) ?_
              refine Exit.then_normal (hK54 _ _ ?_)
              refine wp_seq_k (fun K hK56 => ?_)
              refine wp_seq_k (fun K hK57 => ?_)
              refine wp_region_from ?_
              refine segO 1 [] [(73, .kv (.ptr 47) p0)] (Os := []) trivial hE hH (by kernel_rfl) (fun a hE => ?_)
              obtain ⟨r58, hr58, h⟩ := bs h
              refine stepCall (d := (some 74)) (f104_ok hr58) hE hH (NoHole.cons (fun _ _ _ => rfl) hN) (by kernel_rfl) (by kernel_rfl) trivial (fun a w G hl16 hE hH => ?_)
              have hle := Gh.le_trans hle hl16
              refine wpFrom_end (by kernel_rfl) ?_
              refine Exit.then_normal (hK57 _ _ ?_)
              refine condE (b := r58.1) hE (by kernel_rfl) (fun hc => ?_) (fun hc => ?_)
              · replace h := ifT hc h
                refine wp_seq_k (fun K hK59 => ?_)
                refine wp_region_from ?_
                refine segO 1 [] [(6, .kv .i 11)] (Os := []) trivial hE hH (by kernel_rfl) (fun a hE => ?_)
                refine wpFrom_end (by kernel_rfl) ?_
                refine Exit.then_normal (hK59 _ _ ?_)
                refine wp_ret ?_
                refine Exit.then_ret ?_
                have hH := hH.drop (fun _ _ _ => rfl)
                cases h
                exact ret1 rfl hE hle hH (by kernel_rfl)
              · replace h := ifF hc h
                refine wp_skip ?_
                refine Exit.then_normal (hK56 _ _ ?_)
                refine wp_seq_k (fun K hK60 => ?_)
                refine wp_region_from ?_
                refine segO 1 [] [(6, .kv .i 0)] (Os := []) trivial hE hH (by kernel_rfl) (fun a hE => ?_)
                refine wpFrom_end (by kernel_rfl) ?_
                refine Exit.then_normal (hK60 _ _ ?_)
                refine wp_ret ?_
                have hH := hH.drop (fun _ _ _ => rfl)
                cases h
                exact ret1 rfl hE hle hH (by kernel_rfl)
      · intro KK hKK ho
        have hj19 : ∀ (a : Act) (w : World) (G : Gh), G0.le G → EnvR G 75 a [(0, .kv (.ptr 47) p0), (2, .kv .str p2), (6, .kv .i 0), (7, .val (.pointer (some ⟨b12, 0, none⟩))), (8, .kv .i r14)] → Holds w G (tabs σ) (LS.box b12 K52 z18 :: Ls) → KK .normal a w := fun a w G  h1 h2 h3 => hKK a w ⟨G, h1, h2, h3⟩
        replace h := hz18
        refine condE (b := decide (r14 ≥ 0)) hE (by kernel_rfl) (fun hc => ?_) (fun hc => ?_)
        · replace h := ifT hc h
          refine wp_region_from ?_
          obtain ⟨i61, hi61, h⟩ := bs h
          obtain ⟨o62, ho62, h⟩ := bs h
          obtain ⟨x63, hx63, h⟩ := bs h
          refine segO 7 [.pt i61, .ob fs47 o62, .ix K52 x63] [(29, .kv K52 x63)] (Os := [_, _, _]) ⟨hi61, (ob47 (s := σ) ho62), (IxAt.of (k := K52) hx63), trivial⟩ hE hH (by kernel_rfl) (fun a hE => ?_)
          refine stepStB (b := b12) (off := 0) 0 K52 x63 (x' := x63) hE hH (by kernel_rfl) rfl (by kernel_rfl) (fun w G hl17 hE hH => ?_)
          have hle := Gh.le_trans hle hl17
          refine wpFrom_end (by kernel_rfl) ?_
          cases h
          exact hj19 _ _ _  hle (hE.subC (by kernel_rfl)) hH
        · replace h := ifF hc h
          refine wp_skip ?_
          cases h
          exact hj19 _ _ _  hle (hE.subC (by kernel_rfl)) hH

def f68 (p0 : Option Nat) (p1 : Int) (σ : St) : Option (Int × St) :=
  p0 >>= fun i4 =>
  (σ.t47[i4]?) >>= fun o5 =>
  if o5.2.2.2.1 = true then
  some (11, σ)
  else
  if (decide (p1 < 1)) = true then
  some (2, σ)
  else
  p0 >>= fun i11 =>
  (σ.t47[i11]?) >>= fun o12 =>
  some (0, (σ.set47 i11 (o12.1, o12.2.1, p1, o12.2.2.2.1, ())))

theorem f68_ok {p0 : Option Nat} {p1 : Int} {σ : St} {p : Int × St} (h : f68 p0 p1 σ = some p) : Spec Try.prog 68 [.kv (.ptr 47) p0, .kv .i p1] (tabs σ) (.kv .i p.1) (tabs p.2) := by
  refine Spec.intro Try.func68 (by kernel_rfl) rfl (by kernel_rfl) (fun a w G0 Ls hE hH hN => ?_)
  have hle : G0.le G0 := Gh.le_refl G0
  unfold f68 at h
  refine wp_seq_k (fun K hK1 => ?_)
  refine wp_region_from ?_
  refine segO 1 [] [(4, .kv .i 0)] (Os := []) trivial hE hH (by kernel_rfl) (fun a hE => ?_)
  refine wpFrom_end (by kernel_rfl) ?_
  refine Exit.then_normal (hK1 _ _ ?_)
  refine wp_seq_k (fun K hK2 => ?_)
  refine wp_seq_k (fun K hK3 => ?_)
  refine wp_region_from ?_
  obtain ⟨i4, hi4, h⟩ := bs h
  obtain ⟨o5, ho5, h⟩ := bs h
  refine segO 4 [.pt i4, .ob fs47 o5] [(8, .kv .bool o5.2.2.2.1)] (Os := [_, _]) ⟨hi4, (ob47 (s := σ) ho5), trivial⟩ hE hH (by kernel_rfl) (fun a hE => ?_)
  refine wpFrom_end (by kernel_rfl) ?_
  refine Exit.then_normal (hK3 _ _ ?_)
  refine condE (b := o5.2.2.2.1) hE (by kernel_rfl) (fun hc => ?_) (fun hc => ?_)
  · replace h := ifT hc h
    refine wp_seq_k (fun K hK6 => ?_)
    refine wp_region_from ?_
    refine segO 1 [] [(4, .kv .i 11)] (Os := []) trivial hE hH (by kernel_rfl) (fun a hE => ?_)
    refine wpFrom_end (by kernel_rfl) ?_
    refine Exit.then_normal (hK6 _ _ ?_)
    refine wp_ret ?_
    refine Exit.then_ret ?_
    cases h
    exact ret1 rfl hE hle hH (by kernel_rfl)
  · replace h := ifF hc h
    refine wp_skip ?_
    refine Exit.then_normal (hK2 _ _ ?_)
    refine wp_seq_k (fun K hK7 => ?_)
    refine wp_seq_k (fun K hK8 => ?_)
    refine wp_region_from ?_
    refine segO 2 [] [(10, .kv .bool (decide (p1 < 1)))] (Os := []) trivial hE hH (by kernel_rfl) (fun a hE => ?_)
    refine wpFrom_end (by kernel_rfl) ?_
    refine Exit.then_normal (hK8 _ _ ?_)
    refine condE (b := decide (p1 < 1)) hE (by kernel_rfl) (fun hc => ?_) (fun hc => ?_)
    · replace h := ifT hc h
      refine wp_seq_k (fun K hK9 => ?_)
      refine wp_region_from ?_
      refine segO 1 [] [(4, .kv .i 2)] (Os := []) trivial hE hH (by kernel_rfl) (fun a hE => ?_)
      refine wpFrom_end (by kernel_rfl) ?_
      refine Exit.then_normal (hK9 _ _ ?_)
      refine wp_ret ?_
      refine Exit.then_ret ?_
      cases h
      exact ret1 rfl hE hle hH (by kernel_rfl)
    · replace h := ifF hc h
      refine wp_skip ?_
      refine Exit.then_normal (hK7 _ _ ?_)
      refine wp_seq_k (fun K hK10 => ?_)
      refine wp_region_from ?_
      obtain ⟨i11, hi11, h⟩ := bs h
      refine segO 4 [.pt i11] [(12, .kv .i p1), (14, .fldA 47 i11 2)] (Os := [_]) ⟨hi11, trivial⟩ hE hH (by kernel_rfl) (fun a hE => ?_)
      obtain ⟨o12, ho12, h⟩ := bs h
      refine stepStO (t := 47) (j := i11) (off := 2) .i p1 (x' := (o12.1, o12.2.1, p1, o12.2.2.2.1, ())) hE hH (by kernel_rfl) (ob47 (s := σ) ho12) (by kernel_rfl) (upd47 (s := σ)) (fun w G hl1 hE hH => ?_)
      have hle := Gh.le_trans hle hl1
      refine wpFrom_end (by kernel_rfl) ?_
      refine Exit.then_normal (hK10 _ _ ?_)
      refine wp_seq_k (fun K hK13 => ?_)
      refine wp_region_from ?_
      refine segO 1 [] [(4, .kv .i 0)] (Os := []) trivial hE hH (by kernel_rfl) (fun a hE => ?_)
      refine wpFrom_end (by kernel_rfl) ?_
      refine Exit.then_normal (hK13 _ _ ?_)
      refine wp_ret ?_
      cases h
      exact ret1 rfl hE hle hH (by kernel_rfl)

def f51_l0 (p0 : List (List UInt8)) (p1 : List (List UInt8)) (x7 : Int) : Option (Sum Int Bool) :=
  if (decide (x7 < (p0.length : Int))) = true then
  (ix p0 x7) >>= fun x16 =>
  (ix p1 x7) >>= fun x17 =>
  if (!(x16 == x17)) = true then
  some (.inr false)
  else
  f51_l0 p0 p1 (IntKind.wrap .i64 (x7 + 1))
  else
  some (.inl x7)
  partial_fixpoint

def f51 (p0 : List (List UInt8)) (p1 : List (List UInt8)) : Option Bool :=
  if ((p0.length : Int) != (p1.length : Int)) = true then
  some false
  else
  f51_l0 p0 p1 0 >>= fun rr20 => (match rr20 with
  | .inr yy => some yy
  | .inl z19 =>
  some true)

theorem f51_ok {p0 : List (List UInt8)} {p1 : List (List UInt8)} {σ : St} {p : Bool} (h : f51 p0 p1 = some p) : Spec Try.prog 51 [.kv (.list .str) p0, .kv (.list .str) p1] (tabs σ) (.kv .bool p) (tabs σ) := by
  refine Spec.intro Try.func51 (by kernel_rfl) rfl (by kernel_rfl) (fun a w G0 Ls hE hH hN => ?_)
  have hle : G0.le G0 := Gh.le_refl G0
  unfold f51 at h
  refine wp_seq_k (fun K hK1 => ?_)
  refine wp_region_from ?_
  refine segO 1 [] [(4, .kv .bool false)] (Os := []) trivial hE hH (by kernel_rfl) (fun a hE => ?_)
  refine wpFrom_end (by kernel_rfl) ?_
  refine Exit.then_normal (hK1 _ _ ?_)
  refine wp_seq_k (fun K hK2 => ?_)
  refine wp_seq_k (fun K hK3 => ?_)
  refine wp_region_from ?_
  refine segO 5 [] [(10, .kv .bool ((p0.length : Int) != (p1.length : Int)))] (Os := []) trivial hE hH (by kernel_rfl) (fun a hE => ?_)
  refine wpFrom_end (by kernel_rfl) ?_
  refine Exit.then_normal (hK3 _ _ ?_)
  refine condE (b := (p0.length : Int) != (p1.length : Int)) hE (by kernel_rfl) (fun hc => ?_) (fun hc => ?_)
  · replace h := ifT hc h
    refine wp_seq_k (fun K hK4 => ?_)
    refine wp_region_from ?_
    refine segO 1 [] [(4, .kv .bool false)] (Os := []) trivial hE hH (by kernel_rfl) (fun a hE => ?_)
    refine wpFrom_end (by kernel_rfl) ?_
    refine Exit.then_normal (hK4 _ _ ?_)
    refine wp_ret ?_
    refine Exit.then_ret ?_
    cases h
    exact ret1 rfl hE hle hH (by kernel_rfl)
  · replace h := ifF hc h
    refine wp_skip ?_
    refine Exit.then_normal (hK2 _ _ ?_)
    refine wp_seq_k (fun K hK5 => ?_)
    refine wp_seq_k (fun K hK6 => ?_)
    refine wp_region_from ?_
    refine segO 1 [] [(5, .kv .i 0)] (Os := []) trivial hE hH (by kernel_rfl) (fun a hE => ?_)
    refine wpFrom_end (by kernel_rfl) ?_
    refine Exit.then_normal (hK6 _ _ ?_)
    refine wp_block ?_
    obtain ⟨rr20, hrr20, h⟩ := bs h
    refine loop_intro (fun Q8 c hQ hc => ?_)
    have key : ∀ (x7 : Int) (rr : Sum Int Bool), f51_l0 p0 p1 x7 = some rr → ∀ (a : Act) (w : World) (G : Gh), G0.le G → EnvR G 26 a [(0, .kv (.list .str) p0), (1, .kv (.list .str) p1), (4, .kv .bool false), (5, .kv .i x7)] → Holds w G (tabs σ) (Ls) → (∀ z19 : Int, rr = .inl z19 → ∀ (a : Act) (w : World) (G : Gh), G0.le G → EnvR G 26 a [(0, .kv (.list .str) p0), (1, .kv (.list .str) p1), (4, .kv .bool false), (5, .kv .i z19)] → Holds w G (tabs σ) (Ls) → Q8 (.exit 0) a w) → (∀ yy : Bool, rr = .inr yy → ∀ (a : Act) (w : World), PostB Try.prog Try.f51 G0 (.kv .bool yy) (tabs σ) Ls .ret a w → Q8 .ret a w) → Rnd Try.prog c Q8 a w := by
      refine f51_l0.partial_correctness p0 p1 _ ?_
      intro self ih11 x7 rr h a w G  hle hE hH hx9 hret10
      refine rnd_step' hc ?_
      refine wp_seq_k (fun K hK12 => ?_)
      refine wp_seq_k (fun K hK13 => ?_)
      refine wp_region_from ?_
      refine segO 4 [] [(14, .kv .bool (decide (x7 < (p0.length : Int))))] (Os := []) trivial hE hH (by kernel_rfl) (fun a hE => ?_)
      refine wpFrom_end (by kernel_rfl) ?_
      refine Exit.then_normal (hK13 _ _ ?_)
      refine condE (b := decide (x7 < (p0.length : Int))) hE (by kernel_rfl) (fun hc => ?_) (fun hc => ?_)
      · replace h := ifT hc h
        refine wp_skip ?_
        refine Exit.then_normal (hK12 _ _ ?_)
        refine wp_seq_k (fun K hK14 => ?_)
        refine wp_block ?_
        refine wp_seq_k (fun K hK15 => ?_)
        obtain ⟨x16, hx16, h⟩ := bs h
        obtain ⟨x17, hx17, h⟩ := bs h
        refine region_par 8 [] [(0, 0), (0, 0), (0, 0), (0, 0), (0, 0), (0, 0), (0, 0), (0, 0)] [.kv (.list .str) p0, .kv .i x7, .elA .str x16 0, .kv .str x16, .kv (.list .str) p1, .kv .i x7, .elA .str x17 0, .kv .str x17] (fun _ => tabs σ) (fun _ => Ls) (by kernel_rfl) (by kernel_rfl) hE hH
                ⟨⟨⟨⟨⟨⟨⟨⟨trivial,
                anyk (fun k => obR [] (Os := []) trivial (by kernel_rfl) (by kernel_rfl))⟩,
                anyk (fun k => obR [] (Os := []) trivial (by kernel_rfl) (by kernel_rfl))⟩,
                anyk (fun k => obR [.ix .str x16] (Os := [_]) ⟨(IxAt.of (k := .str) hx16), trivial⟩ (by kernel_rfl) (by kernel_rfl))⟩,
                anyk (fun k => obR [] (Os := []) trivial (by kernel_rfl) (by kernel_rfl))⟩,
                anyk (fun k => obR [] (Os := []) trivial (by kernel_rfl) (by kernel_rfl))⟩,
                anyk (fun k => obR [] (Os := []) trivial (by kernel_rfl) (by kernel_rfl))⟩,
                anyk (fun k => obR [.ix .str x17] (Os := [_]) ⟨(IxAt.of (k := .str) hx17), trivial⟩ (by kernel_rfl) (by kernel_rfl))⟩,
                anyk (fun k => obR [] (Os := []) trivial (by kernel_rfl) (by kernel_rfl))⟩ (fun a w G hl1 hE hH => ?_)
        have hle := Gh.le_trans hle hl1
        refine segO 1 [] [(25, .kv .bool (!(x16 == x17)))] (Os := []) trivial hE hH (by kernel_rfl) (fun a hE => ?_)
        refine wpFrom_end (by kernel_rfl) ?_
        refine Exit.then_normal (hK15 _ _ ?_)
        refine condE (b := !(x16 == x17)) hE (by kernel_rfl) (fun hc => ?_) (fun hc => ?_)
        · replace h := ifT hc h
          refine wp_seq_k (fun K hK18 => ?_)
          refine wp_region_from ?_
          refine segO 1 [] [(4, .kv .bool false)] (Os := []) trivial hE hH (by kernel_rfl) (fun a hE => ?_)
          refine wpFrom_end (by kernel_rfl) ?_
          refine Exit.then_normal (hK18 _ _ ?_)
          refine wp_ret ?_
          refine Exit.in_ret ?_
          refine Exit.then_ret ?_
          refine Exit.then_ret ?_
          cases h
          exact hret10 _ rfl _ _ (ret1 rfl hE hle hH (by kernel_rfl))
        · replace h := ifF hc h
          refine wp_skip ?_
          refine Exit.in_normal ?_
          refine Exit.then_normal (hK14 _ _ ?_)
          refine wp_region_from ?_
          refine segO 3 [] [(5, .kv .i (IntKind.wrap .i64 (x7 + 1)))] (Os := []) trivial hE hH (by kernel_rfl) (fun a hE => ?_)
          refine wpFrom_end (by kernel_rfl) ?_
          refine Exit.then_normal ?_
          exact ih11 _ _ h _ _ _  hle (hE.subC (by kernel_rfl)) hH hx9 hret10
      · replace h := ifF hc h
        refine wp_exit ?_
        refine Exit.then_exit ?_
        refine Exit.then_exit ?_
        cases h
        exact hx9 _ rfl _ _ _  hle (hE.subC (by kernel_rfl)) hH
    refine key _ _ hrr20 _ _ _  hle (hE.subC (by kernel_rfl)) hH ?_ ?_
    · intro z19 hz a w G  hle hE hH
      subst hz
      rw [hQ]
      dsimp only at h
      refine Exit.in_eq ?_
      refine Exit.then_normal (hK5 _ _ ?_)
      refine wp_seq_k (fun K hK21 => ?_)
      refine wp_region_from ?_
      refine segO 1 [] [(4, .kv .bool true)] (Os := []) trivial hE hH (by kernel_rfl) (fun a hE => ?_)
      refine wpFrom_end (by kernel_rfl) ?_
      refine Exit.then_normal (hK21 _ _ ?_)
      refine wp_ret ?_
      cases h
      exact ret1 rfl hE hle hH (by kernel_rfl)
    · intro yy hz a w hp
      subst hz
      dsimp only at h
      cases h
      rw [hQ]
      refine Exit.in_ret ?_
      refine Exit.then_ret ?_
      exact hp

def f105 (p0 : Option Nat) (p1 : List UInt8) (σ : St) : Option (K52.den × Int) :=
  p0 >>= fun i5 =>
  (σ.t47[i5]?) >>= fun o6 =>
  if o6.2.2.2.1 = true then
  some (([], [], [], ()), 11)
  else
  f34 p0 p1 σ >>= fun r9 =>
  if (decide (r9 < 0)) = true then
  some (([], [], [], ()), 8)
  else
  p0 >>= fun i14 =>
  (σ.t47[i14]?) >>= fun o15 =>
  (ix o15.2.1 r9) >>= fun x16 =>
  some (x16, 0)

theorem f105_ok {p0 : Option Nat} {p1 : List UInt8} {σ : St} {p : K52.den × Int} (h : f105 p0 p1 σ = some p) : Spec Try.prog 105 [.kv (.ptr 47) p0, .kv .str p1] (tabs σ) (.tup [⟨K52, p.1⟩, ⟨.i, p.2⟩]) (tabs σ) := by
  refine Spec.intro Try.func105 (by kernel_rfl) rfl (by kernel_rfl) (fun a w G0 Ls hE hH hN => ?_)
  have hle : G0.le G0 := Gh.le_refl G0
  unfold f105 at h
  refine wp_seq_k (fun K hK1 => ?_)
  refine wp_region_from ?_
  refine stepAlloc (e := 52) (d := (some 4)) K52  hE hH (by kernel_rfl) (by kernel_rfl) (fun b2 a w G hl1 hE hH => ?_)
  have hle := Gh.le_trans hle hl1
  refine segO 1 [] [(5, .kv .i 0)] (Os := []) trivial hE hH (by kernel_rfl) (fun a hE => ?_)
  refine wpFrom_end (by kernel_rfl) ?_
  refine Exit.then_normal (hK1 _ _ ?_)
  refine wp_seq_k (fun K hK3 => ?_)
  refine wp_seq_k (fun K hK4 => ?_)
  refine wp_region_from ?_
  obtain ⟨i5, hi5, h⟩ := bs h
  obtain ⟨o6, ho6, h⟩ := bs h
  refine segO 4 [.pt i5, .ob fs47 o6] [(10, .kv .bool o6.2.2.2.1)] (Os := [_, _]) ⟨hi5, (ob47 (s := σ) ho6), trivial⟩ hE hH (by kernel_rfl) (fun a hE => ?_)
  refine wpFrom_end (by kernel_rfl) ?_
  refine Exit.then_normal (hK4 _ _ ?_)
  refine condE (b := o6.2.2.2.1) hE (by kernel_rfl) (fun hc => ?_) (fun hc => ?_)
  · replace h := ifT hc h
    refine wp_seq_k (fun K hK7 => ?_)
    refine wp_region_from ?_
    refine stepBuild (d := (some 11)) K52 ([], [], [], ()) rfl hE (by kernel_rfl) (by kernel_rfl) (fun a hE => ?_)
    refine stepStB (b := b2) (off := 0) 0 K52 ([], [], [], ()) (x' := ([], [], [], ())) hE hH (by kernel_rfl) rfl (by kernel_rfl) (fun w G hl2 hE hH => ?_)
    have hle := Gh.le_trans hle hl2
    refine segO 1 [] [(5, .kv .i 11)] (Os := []) trivial hE hH (by kernel_rfl) (fun a hE => ?_)
    refine wpFrom_end (by kernel_rfl) ?_
    refine Exit.then_normal (hK7 _ _ ?_)
    refine wp_ret ?_
    refine Exit.then_ret ?_
    cases h
    exact ret2c rfl hE hle hH (by kernel_rfl) (by kernel_rfl) (by kernel_rfl) (by kernel_rfl)
  · replace h := ifF hc h
    refine wp_skip ?_
    refine Exit.then_normal (hK3 _ _ ?_)
    refine wp_seq_k (fun K hK8 => ?_)
    refine wp_region_from ?_
    refine segO 2 [] [(12, .kv (.ptr 47) p0), (13, .kv .str p1)] (Os := []) trivial hE hH (by kernel_rfl) (fun a hE => ?_)
    obtain ⟨r9, hr9, h⟩ := bs h
    refine stepCall (d := (some 14)) (f34_ok hr9) hE hH (NoHole.cons (fun _ _ _ => rfl) hN) (by kernel_rfl) (by kernel_rfl) trivial (fun a w G hl3 hE hH => ?_)
    have hle := Gh.le_trans hle hl3
    refine segO 1 [] [(6, .kv .i r9)] (Os := []) trivial hE hH (by kernel_rfl) (fun a hE => ?_)
    refine wpFrom_end (by kernel_rfl) ?_
    refine Exit.then_normal (hK8 _ _ ?_)
    refine wp_seq_k (fun K hK10 => ?_)
    refine wp_seq_k (fun K hK11 => ?_)
    refine wp_region_from ?_
    refine segO 2 [] [(16, .kv .bool (decide (r9 < 0)))] (Os := []) trivial hE hH (by kernel_rfl) (fun a hE => ?_)
    refine wpFrom_end (by kernel_rfl) ?_
    refine Exit.then_normal (hK11 _ _ ?_)
    refine condE (b := decide (r9 < 0)) hE (by kernel_rfl) (fun hc => ?_) (fun hc => ?_)
    · replace h := ifT hc h
      refine wp_seq_k (fun K hK12 => ?_)
      refine wp_region_from ?_
      refine stepBuild (d := (some 17)) K52 ([], [], [], ()) rfl hE (by kernel_rfl) (by kernel_rfl) (fun a hE => ?_)
      refine stepStB (b := b2) (off := 0) 0 K52 ([], [], [], ()) (x' := ([], [], [], ())) hE hH (by kernel_rfl) rfl (by kernel_rfl) (fun w G hl4 hE hH => ?_)
      have hle := Gh.le_trans hle hl4
      refine segO 1 [] [(5, .kv .i 8)] (Os := []) trivial hE hH (by kernel_rfl) (fun a hE => ?_)
      refine wpFrom_end (by kernel_rfl) ?_
      refine Exit.then_normal (hK12 _ _ ?_)
      refine wp_ret ?_
      refine Exit.then_ret ?_
      cases h
      exact ret2c rfl hE hle hH (by kernel_rfl) (by kernel_rfl) (by kernel_rfl) (by kernel_rfl)
    · replace h := ifF hc h
      refine wp_skip ?_
      refine Exit.then_normal (hK10 _ _ ?_)
      refine wp_seq_k (fun K hK13 => ?_)
      refine wp_region_from ?_
      obtain ⟨i14, hi14, h⟩ := bs h
      obtain ⟨o15, ho15, h⟩ := bs h
      obtain ⟨x16, hx16, h⟩ := bs h
      refine segO 7 [.pt i14, .ob fs47 o15, .ix K52 x16] [(24, .kv K52 x16)] (Os := [_, _, _]) ⟨hi14, (ob47 (s := σ) ho15), (IxAt.of (k := K52) hx16), trivial⟩ hE hH (by kernel_rfl) (fun a hE => ?_)
      refine stepStB (b := b2) (off := 0) 0 K52 x16 (x' := x16) hE hH (by kernel_rfl) rfl (by kernel_rfl) (fun w G hl5 hE hH => ?_)
      have hle := Gh.le_trans hle hl5
      refine segO 1 [] [(5, .kv .i 0)] (Os := []) trivial hE hH (by kernel_rfl) (fun a hE => ?_)
      refine wpFrom_end (by kernel_rfl) ?_
      refine Exit.then_normal (hK13 _ _ ?_)
      refine wp_ret ?_
      cases h
      exact ret2c rfl hE hle hH (by kernel_rfl) (by kernel_rfl) (by kernel_rfl) (by kernel_rfl)

def f64 (p0 : Option Nat) (p1 : List UInt8) (σ : St) : Option (Int × St) :=
  f105 p0 p1 σ >>= fun r3 =>
  if (r3.2 != 0) = true then
  some (r3.2, σ)
  else
  f104 p0 σ >>= fun r10 =>
  if r10.1 = true then
  some (11, r10.2)
  else
  if r3.1.2.1.length + r3.1.2.2.1.length ≤ 9223372036854775807 then
  f103 p0 (p1, r3.1.2.1 ++ r3.1.2.2.1, [], ()) r10.2 >>= fun r14 =>
  some (0, r14.2)
  else none

theorem f64_ok {p0 : Option Nat} {p1 : List UInt8} {σ : St} {p : Int × St} (h : f64 p0 p1 σ = some p) : Spec Try.prog 64 [.kv (.ptr 47) p0, .kv .str p1] (tabs σ) (.kv .i p.1) (tabs p.2) := by
  refine Spec.intro Try.func64 (by kernel_rfl) rfl (by kernel_rfl) (fun a w G0 Ls hE hH hN => ?_)
  have hle : G0.le G0 := Gh.le_refl G0
  unfold f64 at h
  refine wp_seq_k (fun K hK1 => ?_)
  refine wp_region_from ?_
  refine segO 1 [] [(4, .kv .i 0)] (Os := []) trivial hE hH (by kernel_rfl) (fun a hE => ?_)
  refine wpFrom_end (by kernel_rfl) ?_
  refine Exit.then_normal (hK1 _ _ ?_)
  refine wp_seq_k (fun K hK2 => ?_)
  refine wp_region_from ?_
  refine segO 2 [] [(8, .kv (.ptr 47) p0), (9, .kv .str p1)] (Os := []) trivial hE hH (by kernel_rfl) (fun a hE => ?_)
  obtain ⟨r3, hr3, h⟩ := bs h
  refine stepCall (d := (some 10)) (f105_ok hr3) hE hH hN (by kernel_rfl) (by kernel_rfl) trivial (fun a w G hl1 hE hH => ?_)
  have hle := Gh.le_trans hle hl1
  refine segO 3 [] [(11, .kv K52 r3.1), (12, .kv .i r3.2)] (Os := []) trivial hE hH (by kernel_rfl) (fun a hE => ?_)
  refine stepAlloc (e := 52) (d := (some 5)) K52  hE hH (by kernel_rfl) (by kernel_rfl) (fun b4 a w G hl2 hE hH => ?_)
  have hle := Gh.le_trans hle hl2
  refine stepStB (b := b4) (off := 0) 0 K52 r3.1 (x' := r3.1) hE hH (by kernel_rfl) rfl (by kernel_rfl) (fun w G hl3 hE hH => ?_)
  have hle := Gh.le_trans hle hl3
  refine segO 1 [] [(6, .kv .i r3.2)] (Os := []) trivial hE hH (by kernel_rfl) (fun a hE => ?_)
  refine wpFrom_end (by kernel_rfl) ?_
  refine Exit.then_normal (hK2 _ _ ?_)
  refine wp_seq_k (fun K hK5 => ?_)
  refine wp_seq_k (fun K hK6 => ?_)
  refine wp_region_from ?_
  refine segO 2 [] [(14, .kv .bool (r3.2 != 0))] (Os := []) trivial hE hH (by kernel_rfl) (fun a hE => ?_)
  refine wpFrom_end (by kernel_rfl) ?_
  refine Exit.then_normal (hK6 _ _ ?_)
  refine condE (b := r3.2 != 0) hE (by kernel_rfl) (fun hc => ?_) (fun hc => ?_)
  · replace h := ifT hc h
    refine wp_seq_k (fun K hK7 => ?_)
    refine wp_region_from ?_
    refine segO 2 [] [(4, .kv .i r3.2)] (Os := []) trivial hE hH (by kernel_rfl) (fun a hE => ?_)
    refine wpFrom_end (by kernel_rfl) ?_
    refine Exit.then_normal (hK7 _ _ ?_)
    refine wp_ret ?_
    refine Exit.then_ret ?_
    have hH := hH.drop (fun _ _ _ => rfl)
    cases h
    exact ret1 rfl hE hle hH (by kernel_rfl)
  · replace h := ifF hc h
    refine wp_skip ?_
    refine Exit.then_normal (hK5 _ _ ?_)
    refine wp_seq_k (fun K hK8 => ?_)
    refine wp_seq_k (fun K hK9 => ?_)
    refine wp_region_from ?_
    refine segO 1 [] [(16, .kv (.ptr 47) p0)] (Os := []) trivial hE hH (by kernel_rfl) (fun a hE => ?_)
    obtain ⟨r10, hr10, h⟩ := bs h
    refine stepCall (d := (some 17)) (f104_ok hr10) hE hH (NoHole.cons (fun _ _ _ => rfl) hN) (by kernel_rfl) (by kernel_rfl) trivial (fun a w G hl4 hE hH => ?_)
    have hle := Gh.le_trans hle hl4
    refine wpFrom_end (by kernel_rfl) ?_
    refine Exit.then_normal (hK9 _ _ ?_)
    refine condE (b := r10.1) hE (by kernel_rfl) (fun hc => ?_) (fun hc => ?_)
    · replace h := ifT hc h
      refine wp_seq_k (fun K hK11 => ?_)
      refine wp_region_from ?_
      refine segO 1 [] [(4, .kv .i 11)] (Os := []) trivial hE hH (by kernel_rfl) (fun a hE => ?_)
      refine wpFrom_end (by kernel_rfl) ?_
      refine Exit.then_normal (hK11 _ _ ?_)
      refine wp_ret ?_
      refine Exit.then_ret ?_
      have hH := hH.drop (fun _ _ _ => rfl)
      cases h
      exact ret1 rfl hE hle hH (by kernel_rfl)
    · replace h := ifF hc h
      refine wp_skip ?_
      refine Exit.then_normal (hK8 _ _ ?_)
      refine wp_seq_k (fun K hK12 => ?_)
      refine wp_region_from ?_
      obtain ⟨q13, h⟩ := gd h
      refine segO 7 [.bx 0 K52 r3.1, .bx 0 K52 r3.1] [(18, .kv (.ptr 47) p0), (19, .kv .str p1), (24, .kv .str (r3.1.2.1 ++ r3.1.2.2.1))] (Os := [_, _, _]) ⟨(rfl : (LS.box b4 K52 r3.1 :: Ls)[0]? = some (LS.box b4 K52 r3.1)), (rfl : (LS.box b4 K52 r3.1 :: Ls)[0]? = some (LS.box b4 K52 r3.1)), q13, trivial⟩ hE hH (by kernel_rfl) (fun a hE => ?_)
      refine stepBuild (d := (some 25)) K52 (p1, r3.1.2.1 ++ r3.1.2.2.1, [], ()) rfl hE (by kernel_rfl) (by kernel_rfl) (fun a hE => ?_)
      obtain ⟨r14, hr14, h⟩ := bs h
      refine stepCall (d := (some 26)) (f103_ok hr14) hE hH (NoHole.cons (fun _ _ _ => rfl) hN) (by kernel_rfl) (by kernel_rfl) trivial (fun a w G hl5 hE hH => ?_)
      have hle := Gh.le_trans hle hl5
      refine wpFrom_end (by kernel_rfl) ?_
      refine Exit.then_normal (hK12 _ _ ?_)
      refine wp_seq_k (fun K hK15 => ?_)
      refine wp_region_from ?_
      refine segO 1 [] [(4, .kv .i 0)] (Os := []) trivial hE hH (by kernel_rfl) (fun a hE => ?_)
      refine wpFrom_end (by kernel_rfl) ?_
      refine Exit.then_normal (hK15 _ _ ?_)
      refine wp_ret ?_
      have hH := hH.drop (fun _ _ _ => rfl)
      cases h
      exact ret1 rfl hE hle hH (by kernel_rfl)

def f65 (p0 : Option Nat) (p1 : List UInt8) (p2 : Int) (σ : St) : Option (Int × St) :=
  f105 p0 p1 σ >>= fun r3 =>
  if (r3.2 != 0) = true then
  some (r3.2, σ)
  else
  if (decide (p2 < 0)) = true then
  some (3, σ)
  else
  if (decide (p2 > (IntKind.wrap .i64 ((r3.1.2.1.length : Int) + (r3.1.2.2.1.length : Int))))) = true then
  some (3, σ)
  else
  f104 p0 σ >>= fun r14 =>
  if r14.1 = true then
  some (11, r14.2)
  else
  if (decide (p2 ≤ (r3.1.2.1.length : Int))) = true then
  if (0 : Int) ≤ p2 ∧ p2 ≤ (r3.1.2.1.length : Int) then
  f103 p0 (p1, r3.1.2.1.take (Int.toNat p2), [], ()) r14.2 >>= fun r19 =>
  some (0, r19.2)
  else none
  else
  if (0 : Int) ≤ (IntKind.wrap .i64 (p2 - (r3.1.2.1.length : Int))) ∧ (IntKind.wrap .i64 (p2 - (r3.1.2.1.length : Int))) ≤ (r3.1.2.2.1.length : Int) then
  f103 p0 (p1, r3.1.2.1, r3.1.2.2.1.take (Int.toNat (IntKind.wrap .i64 (p2 - (r3.1.2.1.length : Int)))), ()) r14.2 >>= fun r22 =>
  some (0, r22.2)
  else none

theorem f65_ok {p0 : Option Nat} {p1 : List UInt8} {p2 : Int} {σ : St} {p : Int × St} (h : f65 p0 p1 p2 σ = some p) : Spec Try.prog 65 [.kv (.ptr 47) p0, .kv .str p1, .kv .i p2] (tabs σ) (.kv .i p.1) (tabs p.2) := by
  refine Spec.intro Try.func65 (by kernel_rfl) rfl (by kernel_rfl) (fun a w G0 Ls hE hH hN => ?_)
  have hle : G0.le G0 := Gh.le_refl G0
  unfold f65 at h
  refine wp_seq_k (fun K hK1 => ?_)
  refine wp_region_from ?_
  refine segO 1 [] [(6, .kv .i 0)] (Os := []) trivial hE hH (by kernel_rfl) (fun a hE => ?_)
  refine wpFrom_end (by kernel_rfl) ?_
  refine Exit.then_normal (hK1 _ _ ?_)
  refine wp_seq_k (fun K hK2 => ?_)
  refine wp_region_from ?_
  refine segO 2 [] [(10, .kv (.ptr 47) p0), (11, .kv .str p1)] (Os := []) trivial hE hH (by kernel_rfl) (fun a hE => ?_)
  obtain ⟨r3, hr3, h⟩ := bs h
  refine stepCall (d := (some 12)) (f105_ok hr3) hE hH hN (by kernel_rfl) (by kernel_rfl) trivial (fun a w G hl1 hE hH => ?_)
  have hle := Gh.le_trans hle hl1
  refine segO 3 [] [(13, .kv K52 r3.1), (14, .kv .i r3.2)] (Os := []) trivial hE hH (by kernel_rfl) (fun a hE => ?_)
  refine stepAlloc (e := 52) (d := (some 7)) K52  hE hH (by kernel_rfl) (by kernel_rfl) (fun b4 a w G hl2 hE hH => ?_)
  have hle := Gh.le_trans hle hl2
  refine stepStB (b := b4) (off := 0) 0 K52 r3.1 (x' := r3.1) hE hH (by kernel_rfl) rfl (by kernel_rfl) (fun w G hl3 hE hH => ?_)
  have hle := Gh.le_trans hle hl3
  refine segO 1 [] [(8, .kv .i r3.2)] (Os := []) trivial hE hH (by kernel_rfl) (fun a hE => ?_)
  refine wpFrom_end (by kernel_rfl) ?_
  refine Exit.then_normal (hK2 _ _ ?_)
  refine wp_seq_k (fun K hK5 => ?_)
  refine wp_seq_k (fun K hK6 => ?_)
  refine wp_region_from ?_
  refine segO 2 [] [(16, .kv .bool (r3.2 != 0))] (Os := []) trivial hE hH (by kernel_rfl) (fun a hE => ?_)
  refine wpFrom_end (by kernel_rfl) ?_
  refine Exit.then_normal (hK6 _ _ ?_)
  refine condE (b := r3.2 != 0) hE (by kernel_rfl) (fun hc => ?_) (fun hc => ?_)
  · replace h := ifT hc h
    refine wp_seq_k (fun K hK7 => ?_)
    refine wp_region_from ?_
    refine segO 2 [] [(6, .kv .i r3.2)] (Os := []) trivial hE hH (by kernel_rfl) (fun a hE => ?_)
    refine wpFrom_end (by kernel_rfl) ?_
    refine Exit.then_normal (hK7 _ _ ?_)
    refine wp_ret ?_
    refine Exit.then_ret ?_
    have hH := hH.drop (fun _ _ _ => rfl)
    cases h
    exact ret1 rfl hE hle hH (by kernel_rfl)
  · replace h := ifF hc h
    refine wp_skip ?_
    refine Exit.then_normal (hK5 _ _ ?_)
    refine wp_seq_k (fun K hK8 => ?_)
    refine wp_seq_k (fun K hK9 => ?_)
    refine wp_region_from ?_
    refine segO 3 [] [(20, .kv .bool (decide (p2 < 0)))] (Os := []) trivial hE hH (by kernel_rfl) (fun a hE => ?_)
    by_cases hc : (decide (p2 < 0)) = true
    · replace h := ifT hc h
      have hE := hE.setB 20 (by kernel_rfl) hc
      refine segO 10 [] [(30, .kv .bool true)] (Os := []) trivial hE hH (by kernel_rfl) (fun a hE => ?_)
      refine wpFrom_end (by kernel_rfl) ?_
      refine Exit.then_normal (hK9 _ _ ?_)
      refine condT hE (by kernel_rfl) rfl ?_
      refine wp_seq_k (fun K hK10 => ?_)
      refine wp_region_from ?_
      refine segO 1 [] [(6, .kv .i 3)] (Os := []) trivial hE hH (by kernel_rfl) (fun a hE => ?_)
      refine wpFrom_end (by kernel_rfl) ?_
      refine Exit.then_normal (hK10 _ _ ?_)
      refine wp_ret ?_
      refine Exit.then_ret ?_
      have hH := hH.drop (fun _ _ _ => rfl)
      cases h
      exact ret1 rfl hE hle hH (by kernel_rfl)
    · replace h := ifN hc h
      have hE := hE.setB 20 (by kernel_rfl) (bf hc)
      refine segO 10 [.bx 0 K52 r3.1, .bx 0 K52 r3.1] [(30, .kv .bool (decide (p2 > (IntKind.wrap .i64 ((r3.1.2.1.length : Int) + (r3.1.2.2.1.length : Int))))))] (Os := [_, _]) ⟨(rfl : (LS.box b4 K52 r3.1 :: Ls)[0]? = some (LS.box b4 K52 r3.1)), (rfl : (LS.box b4 K52 r3.1 :: Ls)[0]? = some (LS.box b4 K52 r3.1)), trivial⟩ hE hH (by kernel_rfl) (fun a hE => ?_)
      refine wpFrom_end (by kernel_rfl) ?_
      refine Exit.then_normal (hK9 _ _ ?_)
      refine condE (b := decide (p2 > (IntKind.wrap .i64 ((r3.1.2.1.length : Int) + (r3.1.2.2.1.length : Int))))) hE (by kernel_rfl) (fun hc => ?_) (fun hc => ?_)
      · replace h := ifT hc h
        refine wp_seq_k (fun K hK11 => ?_)
        refine wp_region_from ?_
        refine segO 1 [] [(6, .kv .i 3)] (Os := []) trivial hE hH (by kernel_rfl) (fun a hE => ?_)
        refine wpFrom_end (by kernel_rfl) ?_
        refine Exit.then_normal (hK11 _ _ ?_)
        refine wp_ret ?_
        refine Exit.then_ret ?_
        have hH := hH.drop (fun _ _ _ => rfl)
        cases h
        exact ret1 rfl hE hle hH (by kernel_rfl)
      · replace h := ifF hc h
        refine wp_skip ?_
        refine Exit.then_normal (hK8 _ _ ?_)
        refine wp_seq_k (fun K hK12 => ?_)
        refine wp_seq_k (fun K hK13 => ?_)
        refine wp_region_from ?_
        refine segO 1 [] [(31, .kv (.ptr 47) p0)] (Os := []) trivial hE hH (by kernel_rfl) (fun a hE => ?_)
        obtain ⟨r14, hr14, h⟩ := bs h
        refine stepCall (d := (some 32)) (f104_ok hr14) hE hH (NoHole.cons (fun _ _ _ => rfl) hN) (by kernel_rfl) (by kernel_rfl) trivial (fun a w G hl4 hE hH => ?_)
        have hle := Gh.le_trans hle hl4
        refine wpFrom_end (by kernel_rfl) ?_
        refine Exit.then_normal (hK13 _ _ ?_)
        refine condE (b := r14.1) hE (by kernel_rfl) (fun hc => ?_) (fun hc => ?_)
        · replace h := ifT hc h
          refine wp_seq_k (fun K hK15 => ?_)
          refine wp_region_from ?_
          refine segO 1 [] [(6, .kv .i 11)] (Os := []) trivial hE hH (by kernel_rfl) (fun a hE => ?_)
          refine wpFrom_end (by kernel_rfl) ?_
          refine Exit.then_normal (hK15 _ _ ?_)
          refine wp_ret ?_
          refine Exit.then_ret ?_
          have hH := hH.drop (fun _ _ _ => rfl)
          cases h
          exact ret1 rfl hE hle hH (by kernel_rfl)
        · replace h := ifF hc h
          refine wp_skip ?_
          refine Exit.then_normal (hK12 _ _ ?_)
          refine wp_seq_k (fun K hK16 => ?_)
          refine wp_seq_k (fun K hK17 => ?_)
          refine wp_region_from ?_
          refine segO 5 [.bx 0 K52 r3.1] [(37, .kv .bool (decide (p2 ≤ (r3.1.2.1.length : Int))))] (Os := [_]) ⟨(rfl : (LS.box b4 K52 r3.1 :: Ls)[0]? = some (LS.box b4 K52 r3.1)), trivial⟩ hE hH (by kernel_rfl) (fun a hE => ?_)
          refine wpFrom_end (by kernel_rfl) ?_
          refine Exit.then_normal (hK17 _ _ ?_)
          refine condE (b := decide (p2 ≤ (r3.1.2.1.length : Int))) hE (by kernel_rfl) (fun hc => ?_) (fun hc => ?_)
          · replace h := ifT hc h
            refine wp_region_from ?_
            obtain ⟨q18, h⟩ := gd h
            refine segO 6 [.bx 0 K52 r3.1] [(38, .kv (.ptr 47) p0), (39, .kv .str p1), (43, .kv .str (r3.1.2.1.take (Int.toNat p2)))] (Os := [_, _]) ⟨(rfl : (LS.box b4 K52 r3.1 :: Ls)[0]? = some (LS.box b4 K52 r3.1)), q18, trivial⟩ hE hH (by kernel_rfl) (fun a hE => ?_)
            refine stepBuild (d := (some 44)) K52 (p1, r3.1.2.1.take (Int.toNat p2), [], ()) rfl hE (by kernel_rfl) (by kernel_rfl) (fun a hE => ?_)
            obtain ⟨r19, hr19, h⟩ := bs h
            refine stepCall (d := (some 45)) (f103_ok hr19) hE hH (NoHole.cons (fun _ _ _ => rfl) hN) (by kernel_rfl) (by kernel_rfl) trivial (fun a w G hl5 hE hH => ?_)
            have hle := Gh.le_trans hle hl5
            refine wpFrom_end (by kernel_rfl) ?_
            refine Exit.then_normal (hK16 _ _ ?_)
            refine wp_seq_k (fun K hK20 => ?_)
            refine wp_region_from ?_
            refine segO 1 [] [(6, .kv .i 0)] (Os := []) trivial hE hH (by kernel_rfl) (fun a hE => ?_)
            refine wpFrom_end (by kernel_rfl) ?_
            refine Exit.then_normal (hK20 _ _ ?_)
            refine wp_ret ?_
            have hH := hH.drop (fun _ _ _ => rfl)
            cases h
            exact ret1 rfl hE hle hH (by kernel_rfl)
          · replace h := ifF hc h
            obtain ⟨q21, h⟩ := gd h
            refine region_par 13 [] [(0, 0), (0, 0), (0, 0), (0, 0), (0, 0), (0, 0), (0, 0), (0, 0), (0, 0), (0, 0), (0, 0), (0, 0), (0, 0)] [.kv (.ptr 47) p0, .kv .str p1, .val (.pointer (some ⟨b4, 1, none⟩)), .kv .str r3.1.2.1, .val (.pointer (some ⟨b4, 2, none⟩)), .kv .str r3.1.2.2.1, .kv .i p2, .val (.pointer (some ⟨b4, 1, none⟩)), .kv .str r3.1.2.1, .kv .i (r3.1.2.1.length : Int), .kv .i (IntKind.wrap .i64 (p2 - (r3.1.2.1.length : Int))), .kv .str (r3.1.2.2.1.take (Int.toNat (IntKind.wrap .i64 (p2 - (r3.1.2.1.length : Int))))), .kv K52 (p1, r3.1.2.1, r3.1.2.2.1.take (Int.toNat (IntKind.wrap .i64 (p2 - (r3.1.2.1.length : Int)))), ())] (fun _ => tabs r14.2) (fun _ => LS.box b4 K52 r3.1 :: Ls) (by kernel_rfl) (by kernel_rfl) hE hH
                    ⟨⟨⟨⟨⟨⟨⟨⟨⟨⟨⟨⟨⟨trivial,
                    anyk (fun k => obR [] (Os := []) trivial (by kernel_rfl) (by kernel_rfl))⟩,
                    anyk (fun k => obR [] (Os := []) trivial (by kernel_rfl) (by kernel_rfl))⟩,
                    anyk (fun k => obR [] (Os := []) trivial (by kernel_rfl) (by kernel_rfl))⟩,
                    anyk (fun k => obR [.bx 0 K52 r3.1] (Os := [_]) ⟨(rfl : (LS.box b4 K52 r3.1 :: Ls)[0]? = some (LS.box b4 K52 r3.1)), trivial⟩ (by kernel_rfl) (by kernel_rfl))⟩,
                    anyk (fun k => obR [] (Os := []) trivial (by kernel_rfl) (by kernel_rfl))⟩,
                    anyk (fun k => obR [.bx 0 K52 r3.1] (Os := [_]) ⟨(rfl : (LS.box b4 K52 r3.1 :: Ls)[0]? = some (LS.box b4 K52 r3.1)), trivial⟩ (by kernel_rfl) (by kernel_rfl))⟩,
                    anyk (fun k => obR [] (Os := []) trivial (by kernel_rfl) (by kernel_rfl))⟩,
                    anyk (fun k => obR [] (Os := []) trivial (by kernel_rfl) (by kernel_rfl))⟩,
                    anyk (fun k => obR [.bx 0 K52 r3.1] (Os := [_]) ⟨(rfl : (LS.box b4 K52 r3.1 :: Ls)[0]? = some (LS.box b4 K52 r3.1)), trivial⟩ (by kernel_rfl) (by kernel_rfl))⟩,
                    anyk (fun k => obR [] (Os := []) trivial (by kernel_rfl) (by kernel_rfl))⟩,
                    anyk (fun k => obR [] (Os := []) trivial (by kernel_rfl) (by kernel_rfl))⟩,
                    anyk (fun k => obR [] (Os := [_]) ⟨q21, trivial⟩ (by kernel_rfl) (by kernel_rfl))⟩,
                    anyk (fun k => obB (d := (some 58)) K52 (p1, r3.1.2.1, r3.1.2.2.1.take (Int.toNat (IntKind.wrap .i64 (p2 - (r3.1.2.1.length : Int)))), ()) rfl (by kernel_rfl) (by kernel_rfl) rfl)⟩ (fun a w G hl6 hE hH => ?_)
            have hle := Gh.le_trans hle hl6
            obtain ⟨r22, hr22, h⟩ := bs h
            refine stepCall (d := (some 59)) (f103_ok hr22) hE hH (NoHole.cons (fun _ _ _ => rfl) hN) (by kernel_rfl) (by kernel_rfl) trivial (fun a w G hl7 hE hH => ?_)
            have hle := Gh.le_trans hle hl7
            refine wpFrom_end (by kernel_rfl) ?_
            refine Exit.then_normal (hK16 _ _ ?_)
            refine wp_seq_k (fun K hK23 => ?_)
            refine wp_region_from ?_
            refine segO 1 [] [(6, .kv .i 0)] (Os := []) trivial hE hH (by kernel_rfl) (fun a hE => ?_)
            refine wpFrom_end (by kernel_rfl) ?_
            refine Exit.then_normal (hK23 _ _ ?_)
            refine wp_ret ?_
            have hH := hH.drop (fun _ _ _ => rfl)
            cases h
            exact ret1 rfl hE hle hH (by kernel_rfl)

def f66 (p0 : Option Nat) (p1 : List UInt8) (p2 : List UInt8) (σ : St) : Option (Int × St) :=
  p0 >>= fun i4 =>
  (σ.t47[i4]?) >>= fun o5 =>
  if o5.2.2.2.1 = true then
  some (11, σ)
  else
  f102 p1 >>= fun r9 =>
  if (!r9) = true then
  some (2, σ)
  else
  f102 p2 >>= fun r11 =>
  if (!r11) = true then
  some (2, σ)
  else
  f105 p0 p1 σ >>= fun r14 =>
  if (r14.2 != 0) = true then
  some (r14.2, σ)
  else
  if (!(r14.1.2.2.1 == [])) = true then
  some (12, σ)
  else
  f104 p0 σ >>= fun r24 =>
  if r24.1 = true then
  some (11, r24.2)
  else
  f106 p0 p1 r24.2 >>= fun r27 =>
  f103 p0 (p2, r14.1.2.1, [], ()) r27.2 >>= fun r29 =>
  some (0, r29.2)

theorem f66_ok {p0 : Option Nat} {p1 : List UInt8} {p2 : List UInt8} {σ : St} {p : Int × St} (h : f66 p0 p1 p2 σ = some p) : Spec Try.prog 66 [.kv (.ptr 47) p0, .kv .str p1, .kv .str p2] (tabs σ) (.kv .i p.1) (tabs p.2) := by
  refine Spec.intro Try.func66 (by kernel_rfl) rfl (by kernel_rfl) (fun a w G0 Ls hE hH hN => ?_)
  have hle : G0.le G0 := Gh.le_refl G0
  unfold f66 at h
  refine wp_seq_k (fun K hK1 => ?_)
  refine wp_region_from ?_
  refine segO 1 [] [(6, .kv .i 0)] (Os := []) trivial hE hH (by kernel_rfl) (fun a hE => ?_)
  refine wpFrom_end (by kernel_rfl) ?_
  refine Exit.then_normal (hK1 _ _ ?_)
  refine wp_seq_k (fun K hK2 => ?_)
  refine wp_seq_k (fun K hK3 => ?_)
  refine wp_region_from ?_
  obtain ⟨i4, hi4, h⟩ := bs h
  obtain ⟨o5, ho5, h⟩ := bs h
  refine segO 4 [.pt i4, .ob fs47 o5] [(12, .kv .bool o5.2.2.2.1)] (Os := [_, _]) ⟨hi4, (ob47 (s := σ) ho5), trivial⟩ hE hH (by kernel_rfl) (fun a hE => ?_)
  refine wpFrom_end (by kernel_rfl) ?_
  refine Exit.then_normal (hK3 _ _ ?_)
  refine condE (b := o5.2.2.2.1) hE (by kernel_rfl) (fun hc => ?_) (fun hc => ?_)
  · replace h := ifT hc h
    refine wp_seq_k (fun K hK6 => ?_)
    refine wp_region_from ?_
    refine segO 1 [] [(6, .kv .i 11)] (Os := []) trivial hE hH (by kernel_rfl) (fun a hE => ?_)
    refine wpFrom_end (by kernel_rfl) ?_
    refine Exit.then_normal (hK6 _ _ ?_)
    refine wp_ret ?_
    refine Exit.then_ret ?_
    cases h
    exact ret1 rfl hE hle hH (by kernel_rfl)
  · replace h := ifF hc h
    refine wp_skip ?_
    refine Exit.then_normal (hK2 _ _ ?_)
    refine wp_seq_k (fun K hK7 => ?_)
    refine wp_seq_k (fun K hK8 => ?_)
    refine wp_region_from ?_
    refine segO 1 [] [(13, .kv .str p1)] (Os := []) trivial hE hH (by kernel_rfl) (fun a hE => ?_)
    obtain ⟨r9, hr9, h⟩ := bs h
    refine stepCall (d := (some 14)) (f102_ok hr9) hE hH hN (by kernel_rfl) (by kernel_rfl) trivial (fun a w G hl1 hE hH => ?_)
    have hle := Gh.le_trans hle hl1
    refine segO 2 [] [(16, .kv .bool (!r9))] (Os := []) trivial hE hH (by kernel_rfl) (fun a hE => ?_)
    by_cases hc : (!r9) = true
    · replace h := ifT hc h
      have hE := hE.setB 16 (by kernel_rfl) hc
      refine segO 4 [] [(20, .kv .bool true)] (Os := []) trivial hE hH (by kernel_rfl) (fun a hE => ?_)
      refine wpFrom_end (by kernel_rfl) ?_
      refine Exit.then_normal (hK8 _ _ ?_)
      refine condT hE (by kernel_rfl) rfl ?_
      refine wp_seq_k (fun K hK10 => ?_)
      refine wp_region_from ?_
      refine segO 1 [] [(6, .kv .i 2)] (Os := []) trivial hE hH (by kernel_rfl) (fun a hE => ?_)
      refine wpFrom_end (by kernel_rfl) ?_
      refine Exit.then_normal (hK10 _ _ ?_)
      refine wp_ret ?_
      refine Exit.then_ret ?_
      cases h
      exact ret1 rfl hE hle hH (by kernel_rfl)
    · replace h := ifN hc h
      have hE := hE.setB 16 (by kernel_rfl) (bf hc)
      refine segO 1 [] [(17, .kv .str p2)] (Os := []) trivial hE hH (by kernel_rfl) (fun a hE => ?_)
      obtain ⟨r11, hr11, h⟩ := bs h
      refine stepCall (d := (some 18)) (f102_ok hr11) hE hH hN (by kernel_rfl) (by kernel_rfl) trivial (fun a w G hl2 hE hH => ?_)
      have hle := Gh.le_trans hle hl2
      refine segO 2 [] [(20, .kv .bool (!r11))] (Os := []) trivial hE hH (by kernel_rfl) (fun a hE => ?_)
      refine wpFrom_end (by kernel_rfl) ?_
      refine Exit.then_normal (hK8 _ _ ?_)
      refine condE (b := !r11) hE (by kernel_rfl) (fun hc => ?_) (fun hc => ?_)
      · replace h := ifT hc h
        refine wp_seq_k (fun K hK12 => ?_)
        refine wp_region_from ?_
        refine segO 1 [] [(6, .kv .i 2)] (Os := []) trivial hE hH (by kernel_rfl) (fun a hE => ?_)
        refine wpFrom_end (by kernel_rfl) ?_
        refine Exit.then_normal (hK12 _ _ ?_)
        refine wp_ret ?_
        refine Exit.then_ret ?_
        cases h
        exact ret1 rfl hE hle hH (by kernel_rfl)
      · replace h := ifF hc h
        refine wp_skip ?_
        refine Exit.then_normal (hK7 _ _ ?_)
        refine wp_seq_k (fun K hK13 => ?_)
        refine wp_region_from ?_
        refine segO 2 [] [(22, .kv (.ptr 47) p0), (23, .kv .str p1)] (Os := []) trivial hE hH (by kernel_rfl) (fun a hE => ?_)
        obtain ⟨r14, hr14, h⟩ := bs h
        refine stepCall (d := (some 24)) (f105_ok hr14) hE hH hN (by kernel_rfl) (by kernel_rfl) trivial (fun a w G hl3 hE hH => ?_)
        have hle := Gh.le_trans hle hl3
        refine segO 3 [] [(25, .kv K52 r14.1), (26, .kv .i r14.2)] (Os := []) trivial hE hH (by kernel_rfl) (fun a hE => ?_)
        refine stepAlloc (e := 52) (d := (some 7)) K52  hE hH (by kernel_rfl) (by kernel_rfl) (fun b15 a w G hl4 hE hH => ?_)
        have hle := Gh.le_trans hle hl4
        refine stepStB (b := b15) (off := 0) 0 K52 r14.1 (x' := r14.1) hE hH (by kernel_rfl) rfl (by kernel_rfl) (fun w G hl5 hE hH => ?_)
        have hle := Gh.le_trans hle hl5
        refine segO 1 [] [(8, .kv .i r14.2)] (Os := []) trivial hE hH (by kernel_rfl) (fun a hE => ?_)
        refine wpFrom_end (by kernel_rfl) ?_
        refine Exit.then_normal (hK13 _ _ ?_)
        refine wp_seq_k (fun K hK16 => ?_)
        refine wp_seq_k (fun K hK17 => ?_)
        refine wp_region_from ?_
        refine segO 2 [] [(28, .kv .bool (r14.2 != 0))] (Os := []) trivial hE hH (by kernel_rfl) (fun a hE => ?_)
        refine wpFrom_end (by kernel_rfl) ?_
        refine Exit.then_normal (hK17 _ _ ?_)
        refine condE (b := r14.2 != 0) hE (by kernel_rfl) (fun hc => ?_) (fun hc => ?_)
        · replace h := ifT hc h
          refine wp_seq_k (fun K hK18 => ?_)
          refine wp_region_from ?_
          refine segO 2 [] [(6, .kv .i r14.2)] (Os := []) trivial hE hH (by kernel_rfl) (fun a hE => ?_)
          refine wpFrom_end (by kernel_rfl) ?_
          refine Exit.then_normal (hK18 _ _ ?_)
          refine wp_ret ?_
          refine Exit.then_ret ?_
          have hH := hH.drop (fun _ _ _ => rfl)
          cases h
          exact ret1 rfl hE hle hH (by kernel_rfl)
        · replace h := ifF hc h
          refine wp_skip ?_
          refine Exit.then_normal (hK16 _ _ ?_)
          refine wp_seq_k (fun K hK19 => ?_)
          refine wp_seq_k (fun K hK20 => ?_)
          refine wp_region_from ?_
          refine segO 3 [.bx 0 K52 r14.1] [(32, .kv .bool (!(r14.1.2.2.1 == [])))] (Os := [_]) ⟨(rfl : (LS.box b15 K52 r14.1 :: Ls)[0]? = some (LS.box b15 K52 r14.1)), trivial⟩ hE hH (by kernel_rfl) (fun a hE => ?_)
          refine wpFrom_end (by kernel_rfl) ?_
          refine Exit.then_normal (hK20 _ _ ?_)
          refine condE (b := !(r14.1.2.2.1 == [])) hE (by kernel_rfl) (fun hc => ?_) (fun hc => ?_)
          · replace h := ifT hc h
            refine wp_seq_k (fun K hK21 => ?_)
            refine wp_region_from ?_
            refine segO 1 [] [(6, .kv .i 12)] (Os := []) trivial hE hH (by kernel_rfl) (fun a hE => ?_)
            refine wpFrom_end (by kernel_rfl) ?_
            refine Exit.then_normal (hK21 _ _ ?_)
            refine wp_ret ?_
            refine Exit.then_ret ?_
            have hH := hH.drop (fun _ _ _ => rfl)
            cases h
            exact ret1 rfl hE hle hH (by kernel_rfl)
          · replace h := ifF hc h
            refine wp_skip ?_
            refine Exit.then_normal (hK19 _ _ ?_)
            refine wp_seq_k (fun K hK22 => ?_)
            refine wp_seq_k (fun K hK23 => ?_)
            refine wp_region_from ?_
            refine segO 1 [] [(33, .kv (.ptr 47) p0)] (Os := []) trivial hE hH (by kernel_rfl) (fun a hE => ?_)
            obtain ⟨r24, hr24, h⟩ := bs h
            refine stepCall (d := (some 34)) (f104_ok hr24) hE hH (NoHole.cons (fun _ _ _ => rfl) hN) (by kernel_rfl) (by kernel_rfl) trivial (fun a w G hl6 hE hH => ?_)
            have hle := Gh.le_trans hle hl6
            refine wpFrom_end (by kernel_rfl) ?_
            refine Exit.then_normal (hK23 _ _ ?_)
            refine condE (b := r24.1) hE (by kernel_rfl) (fun hc => ?_) (fun hc => ?_)
            · replace h := ifT hc h
              refine wp_seq_k (fun K hK25 => ?_)
              refine wp_region_from ?_
              refine segO 1 [] [(6, .kv .i 11)] (Os := []) trivial hE hH (by kernel_rfl) (fun a hE => ?_)
              refine wpFrom_end (by kernel_rfl) ?_
              refine Exit.then_normal (hK25 _ _ ?_)
              refine wp_ret ?_
              refine Exit.then_ret ?_
              have hH := hH.drop (fun _ _ _ => rfl)
              cases h
              exact ret1 rfl hE hle hH (by kernel_rfl)
            · replace h := ifF hc h
              refine wp_skip ?_
              refine Exit.then_normal (hK22 _ _ ?_)
              refine wp_seq_k (fun K hK26 => ?_)
              refine wp_region_from ?_
              refine segO 2 [] [(35, .kv (.ptr 47) p0), (36, .kv .str p1)] (Os := []) trivial hE hH (by kernel_rfl) (fun a hE => ?_)
              obtain ⟨r27, hr27, h⟩ := bs h
              refine stepCall (d := (some 37)) (f106_ok hr27) hE hH (NoHole.cons (fun _ _ _ => rfl) hN) (by kernel_rfl) (by kernel_rfl) trivial (fun a w G hl7 hE hH => ?_)
              have hle := Gh.le_trans hle hl7
              refine wpFrom_end (by kernel_rfl) ?_
              refine Exit.then_normal (hK26 _ _ ?_)
              refine wp_seq_k (fun K hK28 => ?_)
              refine wp_region_from ?_
              refine segO 4 [.bx 0 K52 r14.1] [(38, .kv (.ptr 47) p0), (39, .kv .str p2), (41, .kv .str r14.1.2.1)] (Os := [_]) ⟨(rfl : (LS.box b15 K52 r14.1 :: Ls)[0]? = some (LS.box b15 K52 r14.1)), trivial⟩ hE hH (by kernel_rfl) (fun a hE => ?_)
              refine stepBuild (d := (some 42)) K52 (p2, r14.1.2.1, [], ()) rfl hE (by kernel_rfl) (by kernel_rfl) (fun a hE => ?_)
              obtain ⟨r29, hr29, h⟩ := bs h
              refine stepCall (d := (some 43)) (f103_ok hr29) hE hH (NoHole.cons (fun _ _ _ => rfl) hN) (by kernel_rfl) (by kernel_rfl) trivial (fun a w G hl8 hE hH => ?_)
              have hle := Gh.le_trans hle hl8
              refine wpFrom_end (by kernel_rfl) ?_
              refine Exit.then_normal (hK28 _ _ ?_)
              refine wp_seq_k (fun K hK30 => ?_)
              refine wp_region_from ?_
              refine segO 1 [] [(6, .kv .i 0)] (Os := []) trivial hE hH (by kernel_rfl) (fun a hE => ?_)
              refine wpFrom_end (by kernel_rfl) ?_
              refine Exit.then_normal (hK30 _ _ ?_)
              refine wp_ret ?_
              have hH := hH.drop (fun _ _ _ => rfl)
              cases h
              exact ret1 rfl hE hle hH (by kernel_rfl)

def f67 (p0 : Option Nat) (p1 : List UInt8) (σ : St) : Option (Int × St) :=
  f105 p0 p1 σ >>= fun r3 =>
  if (r3.2 != 0) = true then
  some (r3.2, σ)
  else
  f104 p0 σ >>= fun r10 =>
  if r10.1 = true then
  some (11, r10.2)
  else
  f106 p0 p1 r10.2 >>= fun r13 =>
  some (0, r13.2)

theorem f67_ok {p0 : Option Nat} {p1 : List UInt8} {σ : St} {p : Int × St} (h : f67 p0 p1 σ = some p) : Spec Try.prog 67 [.kv (.ptr 47) p0, .kv .str p1] (tabs σ) (.kv .i p.1) (tabs p.2) := by
  refine Spec.intro Try.func67 (by kernel_rfl) rfl (by kernel_rfl) (fun a w G0 Ls hE hH hN => ?_)
  have hle : G0.le G0 := Gh.le_refl G0
  unfold f67 at h
  refine wp_seq_k (fun K hK1 => ?_)
  refine wp_region_from ?_
  refine segO 1 [] [(4, .kv .i 0)] (Os := []) trivial hE hH (by kernel_rfl) (fun a hE => ?_)
  refine wpFrom_end (by kernel_rfl) ?_
  refine Exit.then_normal (hK1 _ _ ?_)
  refine wp_seq_k (fun K hK2 => ?_)
  refine wp_region_from ?_
  refine segO 2 [] [(8, .kv (.ptr 47) p0), (9, .kv .str p1)] (Os := []) trivial hE hH (by kernel_rfl) (fun a hE => ?_)
  obtain ⟨r3, hr3, h⟩ := bs h
  refine stepCall (d := (some 10)) (f105_ok hr3) hE hH hN (by kernel_rfl) (by kernel_rfl) trivial (fun a w G hl1 hE hH => ?_)
  have hle := Gh.le_trans hle hl1
  refine segO 3 [] [(11, .kv K52 r3.1), (12, .kv .i r3.2)] (Os := []) trivial hE hH (by kernel_rfl) (fun a hE => ?_)
  refine stepAlloc (e := 52) (d := (some 5)) K52  hE hH (by kernel_rfl) (by kernel_rfl) (fun b4 a w G hl2 hE hH => ?_)
  have hle := Gh.le_trans hle hl2
  refine stepStB (b := b4) (off := 0) 0 K52 r3.1 (x' := r3.1) hE hH (by kernel_rfl) rfl (by kernel_rfl) (fun w G hl3 hE hH => ?_)
  have hle := Gh.le_trans hle hl3
  refine segO 1 [] [(6, .kv .i r3.2)] (Os := []) trivial hE hH (by kernel_rfl) (fun a hE => ?_)
  refine wpFrom_end (by kernel_rfl) ?_
  refine Exit.then_normal (hK2 _ _ ?_)
  refine wp_seq_k (fun K hK5 => ?_)
  refine wp_seq_k (fun K hK6 => ?_)
  refine wp_region_from ?_
  refine segO 2 [] [(14, .kv .bool (r3.2 != 0))] (Os := []) trivial hE hH (by kernel_rfl) (fun a hE => ?_)
  refine wpFrom_end (by kernel_rfl) ?_
  refine Exit.then_normal (hK6 _ _ ?_)
  refine condE (b := r3.2 != 0) hE (by kernel_rfl) (fun hc => ?_) (fun hc => ?_)
  · replace h := ifT hc h
    refine wp_seq_k (fun K hK7 => ?_)
    refine wp_region_from ?_
    refine segO 2 [] [(4, .kv .i r3.2)] (Os := []) trivial hE hH (by kernel_rfl) (fun a hE => ?_)
    refine wpFrom_end (by kernel_rfl) ?_
    refine Exit.then_normal (hK7 _ _ ?_)
    refine wp_ret ?_
    refine Exit.then_ret ?_
    have hH := hH.drop (fun _ _ _ => rfl)
    cases h
    exact ret1 rfl hE hle hH (by kernel_rfl)
  · replace h := ifF hc h
    refine wp_skip ?_
    refine Exit.then_normal (hK5 _ _ ?_)
    refine wp_seq_k (fun K hK8 => ?_)
    refine wp_seq_k (fun K hK9 => ?_)
    refine wp_region_from ?_
    refine segO 1 [] [(16, .kv (.ptr 47) p0)] (Os := []) trivial hE hH (by kernel_rfl) (fun a hE => ?_)
    obtain ⟨r10, hr10, h⟩ := bs h
    refine stepCall (d := (some 17)) (f104_ok hr10) hE hH (NoHole.cons (fun _ _ _ => rfl) hN) (by kernel_rfl) (by kernel_rfl) trivial (fun a w G hl4 hE hH => ?_)
    have hle := Gh.le_trans hle hl4
    refine wpFrom_end (by kernel_rfl) ?_
    refine Exit.then_normal (hK9 _ _ ?_)
    refine condE (b := r10.1) hE (by kernel_rfl) (fun hc => ?_) (fun hc => ?_)
    · replace h := ifT hc h
      refine wp_seq_k (fun K hK11 => ?_)
      refine wp_region_from ?_
      refine segO 1 [] [(4, .kv .i 11)] (Os := []) trivial hE hH (by kernel_rfl) (fun a hE => ?_)
      refine wpFrom_end (by kernel_rfl) ?_
      refine Exit.then_normal (hK11 _ _ ?_)
      refine wp_ret ?_
      refine Exit.then_ret ?_
      have hH := hH.drop (fun _ _ _ => rfl)
      cases h
      exact ret1 rfl hE hle hH (by kernel_rfl)
    · replace h := ifF hc h
      refine wp_skip ?_
      refine Exit.then_normal (hK8 _ _ ?_)
      refine wp_seq_k (fun K hK12 => ?_)
      refine wp_region_from ?_
      refine segO 2 [] [(18, .kv (.ptr 47) p0), (19, .kv .str p1)] (Os := []) trivial hE hH (by kernel_rfl) (fun a hE => ?_)
      obtain ⟨r13, hr13, h⟩ := bs h
      refine stepCall (d := (some 20)) (f106_ok hr13) hE hH (NoHole.cons (fun _ _ _ => rfl) hN) (by kernel_rfl) (by kernel_rfl) trivial (fun a w G hl5 hE hH => ?_)
      have hle := Gh.le_trans hle hl5
      refine wpFrom_end (by kernel_rfl) ?_
      refine Exit.then_normal (hK12 _ _ ?_)
      refine wp_seq_k (fun K hK14 => ?_)
      refine wp_region_from ?_
      refine segO 1 [] [(4, .kv .i 0)] (Os := []) trivial hE hH (by kernel_rfl) (fun a hE => ?_)
      refine wpFrom_end (by kernel_rfl) ?_
      refine Exit.then_normal (hK14 _ _ ?_)
      refine wp_ret ?_
      have hH := hH.drop (fun _ _ _ => rfl)
      cases h
      exact ret1 rfl hE hle hH (by kernel_rfl)

def f69_l0 (p0 : Option Nat) (p1 : List Int) (σ : St) (l6 : List K52.den) (x7 : Int) (x8 : Int) : Option ((List K52.den) × Int × Int) :=
  p0 >>= fun i15 =>
  (σ.t47[i15]?) >>= fun o16 =>
  if (decide (x8 < (o16.2.1.length : Int))) = true then
  p0 >>= fun i19 =>
  (σ.t47[i19]?) >>= fun o20 =>
  (ix o20.2.1 x8) >>= fun x21 =>
  (if (!(x21.2.2.1 == [])) = true then
  if (decide (x7 < (p1.length : Int))) = true then
  (ix p1 x7) >>= fun x36 =>
  (if (decide (x36 > 0)) = true then
  (ix p1 x7) >>= fun x40 =>
  if (IntKind.wrap .i64 ((x21.2.2.1.length : Int) + 1)) ≠ 0 then
  some (Int.tmod x40 (IntKind.wrap .i64 ((x21.2.2.1.length : Int) + 1)))
  else none
  else
  some 0 : Option Int) >>= fun z38 =>
  some (IntKind.wrap .i64 (x7 + 1), z38)
  else
  some (IntKind.wrap .i64 (x7 + 1), 0)
  else
  some (x7, 0) : Option (Int × Int)) >>= fun z28 =>
  if (0 : Int) ≤ z28.2 ∧ z28.2 ≤ (x21.2.2.1.length : Int) then
  if x21.2.1.length + (x21.2.2.1.take (Int.toNat z28.2)).length ≤ 9223372036854775807 then
  if (l6.length + 1) * 48 ≤ 140737488355328 then
  f69_l0 p0 p1 σ (l6 ++ [(x21.1, x21.2.1 ++ (x21.2.2.1.take (Int.toNat z28.2)), [], ())]) z28.1 (IntKind.wrap .i64 (x8 + 1))
  else none
  else none
  else none
  else
  some ((l6, x7, x8))
  partial_fixpoint

def f69 (p0 : Option Nat) (p1 : List Int) (σ : St) : Option (Unit × St) :=
  f69_l0 p0 p1 σ [] 0 0 >>= fun z42 =>
  p0 >>= fun i45 =>
  (σ.t47[i45]?) >>= fun o46 =>
  p0 >>= fun i48 =>
  ((σ.set47 i45 (o46.1, z42.1, o46.2.2.1, o46.2.2.2.1, ())).t47[i48]?) >>= fun o49 =>
  p0 >>= fun i50 =>
  (((σ.set47 i45 (o46.1, z42.1, o46.2.2.1, o46.2.2.2.1, ())).set47 i48 (o49.1, o49.2.1, o49.2.2.1, false, ())).t47[i50]?) >>= fun o51 =>
  some ((), (((σ.set47 i45 (o46.1, z42.1, o46.2.2.1, o46.2.2.2.1, ())).set47 i48 (o49.1, o49.2.1, o49.2.2.1, false, ())).set47 i50 (o51.1, o51.2.1, 0, o51.2.2.2.1, ())))

theorem f69_ok {p0 : Option Nat} {p1 : List Int} {σ : St} {p : Unit × St} (h : f69 p0 p1 σ = some p) : Spec Try.prog 69 [.kv (.ptr 47) p0, .kv (.list .i) p1] (tabs σ) (.tup []) (tabs p.2) := by
  refine Spec.intro Try.func69 (by kernel_rfl) rfl (by kernel_rfl) (fun a w G0 Ls hE hH hN => ?_)
  have hle : G0.le G0 := Gh.le_refl G0
  unfold f69 at h
  refine wp_seq_k (fun K hK1 => ?_)
  refine wp_region_from ?_
  refine segO 1 [] [(4, .val (.slice none 0 0))] (Os := []) trivial hE hH (by kernel_rfl) (fun a hE => ?_)
  refine wpFrom_end (by kernel_rfl) ?_
  refine Exit.then_normal (hK1 _ _ ?_)
  refine wp_seq_k (fun K hK2 => ?_)
  refine wp_region_from ?_
  refine segO 1 [] [(5, .kv .i 0)] (Os := []) trivial hE hH (by kernel_rfl) (fun a hE => ?_)
  refine wpFrom_end (by kernel_rfl) ?_
  refine Exit.then_normal (hK2 _ _ ?_)
  refine wp_seq_k (fun K hK3 => ?_)
  refine wp_seq_k (fun K hK4 => ?_)
  refine wp_region_from ?_
  refine segO 1 [] [(6, .kv .i 0)] (Os := []) trivial hE hH (by kernel_rfl) (fun a hE => ?_)
  refine wpFrom_end (by kernel_rfl) ?_
  refine Exit.then_normal (hK4 _ _ ?_)
  refine wp_block ?_
  have hE := hE.nilTl 4 K52 (by kernel_rfl)
  have hH := hH.nilTk 52 48 K52
  obtain ⟨z42, hz42, h⟩ := bs h
  refine loop_intro (fun Q9 c hQ hc => ?_)
  have key : ∀ (l6 : List K52.den) (x7 : Int) (x8 : Int) (rr : (List K52.den) × Int × Int), f69_l0 p0 p1 σ l6 x7 x8 = some rr → ∀ (a : Act) (w : World) (G : Gh) (v5 : Value), G0.le G → EnvR G 73 a [(0, .kv (.ptr 47) p0), (1, .kv (.list .i) p1), (4, .tl v5 K52 l6), (5, .kv .i x7), (6, .kv .i x8)] → Holds w G (tabs σ) (LS.tk v5 52 48 K52 l6 :: Ls) → (∀ z43 : (List K52.den) × Int × Int, rr = z43 → ∀ (a : Act) (w : World) (G : Gh) (v5 : Value), G0.le G → EnvR G 73 a [(0, .kv (.ptr 47) p0), (1, .kv (.list .i) p1), (4, .tl v5 K52 z43.1), (5, .kv .i z43.2.1), (6, .kv .i z43.2.2)] → Holds w G (tabs σ) (LS.tk v5 52 48 K52 z43.1 :: Ls) → Q9 (.exit 0) a w) → Rnd Try.prog c Q9 a w := by
    refine f69_l0.partial_correctness p0 p1 σ _ ?_
    intro self ih12 l6 x7 x8 rr h a w G v5 hle hE hH hx10
    refine rnd_step' hc ?_
    refine wp_seq_k (fun K hK13 => ?_)
    refine wp_seq_k (fun K hK14 => ?_)
    refine wp_region_from ?_
    obtain ⟨i15, hi15, h⟩ := bs h
    obtain ⟨o16, ho16, h⟩ := bs h
    refine segO 7 [.pt i15, .ob fs47 o16] [(15, .kv .bool (decide (x8 < (o16.2.1.length : Int))))] (Os := [_, _]) ⟨hi15, (ob47 (s := σ) ho16), trivial⟩ hE hH (by kernel_rfl) (fun a hE => ?_)
    refine wpFrom_end (by kernel_rfl) ?_
    refine Exit.then_normal (hK14 _ _ ?_)
    refine condE (b := decide (x8 < (o16.2.1.length : Int))) hE (by kernel_rfl) (fun hc => ?_) (fun hc => ?_)
    · replace h := ifT hc h
      refine wp_skip ?_
      refine Exit.then_normal (hK13 _ _ ?_)
      refine wp_seq_k (fun K hK17 => ?_)
      refine wp_block ?_
      refine wp_seq_k (fun K hK18 => ?_)
      refine wp_region_from ?_
      obtain ⟨i19, hi19, h⟩ := bs h
      obtain ⟨o20, ho20, h⟩ := bs h
      obtain ⟨x21, hx21, h⟩ := bs h
      refine segO 7 [.pt i19, .ob fs47 o20, .ix K52 x21] [(24, .kv K52 x21)] (Os := [_, _, _]) ⟨hi19, (ob47 (s := σ) ho20), (IxAt.of (k := K52) hx21), trivial⟩ hE hH (by kernel_rfl) (fun a hE => ?_)
      refine stepAlloc (e := 52) (d := (some 7)) K52  hE hH (by kernel_rfl) (by kernel_rfl) (fun b22 a w G hl1 hE hH => ?_)
      have hle := Gh.le_trans hle hl1
      refine stepStB (b := b22) (off := 0) 0 K52 x21 (x' := x21) hE hH (by kernel_rfl) rfl (by kernel_rfl) (fun w G hl2 hE hH => ?_)
      have hle := Gh.le_trans hle hl2
      refine wpFrom_end (by kernel_rfl) ?_
      refine Exit.then_normal (hK18 _ _ ?_)
      refine wp_seq_k (fun K hK23 => ?_)
      refine wp_region_from ?_
      refine segO 1 [] [(8, .kv .i 0)] (Os := []) trivial hE hH (by kernel_rfl) (fun a hE => ?_)
      refine wpFrom_end (by kernel_rfl) ?_
      refine Exit.then_normal (hK23 _ _ ?_)
      refine wp_seq_k (fun K hK24 => ?_)
      refine wp_seq_k (fun K hK25 => ?_)
      refine wp_region_from ?_
      refine segO 3 [.bx 0 K52 x21] [(27, .kv .bool (!(x21.2.2.1 == [])))] (Os := [_]) ⟨(rfl : (LS.box b22 K52 x21 :: LS.tk v5 52 48 K52 l6 :: Ls)[0]? = some (LS.box b22 K52 x21)), trivial⟩ hE hH (by kernel_rfl) (fun a hE => ?_)
      refine wpFrom_end (by kernel_rfl) ?_
      refine Exit.then_normal (hK25 _ _ ?_)
      obtain ⟨z28, hz28, h⟩ := bs h
      refine join_intro (I := fun a w => ∃ (G : Gh), G0.le G ∧ EnvR G 73 a [(0, .kv (.ptr 47) p0), (1, .kv (.list .i) p1), (4, .tl v5 K52 l6), (5, .kv .i z28.1), (6, .kv .i x8), (7, .val (.pointer (some ⟨b22, 0, none⟩))), (8, .kv .i z28.2)] ∧ Holds w G (tabs σ) (LS.box b22 K52 x21 :: LS.tk v5 52 48 K52 l6 :: Ls)) trivial ?_ ?_
      · intro a w hI
        obtain ⟨G, hle, hE, hH⟩ := hI
        refine Exit.then_normal (hK24 _ _ ?_)
        obtain ⟨q30, h⟩ := gd h
        obtain ⟨q31, h⟩ := gd h
        refine region_par 12 [] [(0, 0), (0, 0), (0, 0), (0, 0), (0, 0), (0, 0), (0, 0), (0, 0), (0, 0), (0, 0), (0, 0), (0, 0)] [.tl v5 K52 l6, .val (.pointer (some ⟨b22, 0, none⟩)), .kv .str x21.1, .val (.pointer (some ⟨b22, 1, none⟩)), .kv .str x21.2.1, .val (.pointer (some ⟨b22, 2, none⟩)), .kv .str x21.2.2.1, .kv .i z28.2, .kv .str (x21.2.2.1.take (Int.toNat z28.2)), .kv .str (x21.2.1 ++ (x21.2.2.1.take (Int.toNat z28.2))), .kv K52 (x21.1, x21.2.1 ++ (x21.2.2.1.take (Int.toNat z28.2)), [], ()), .pl K52 [(x21.1, x21.2.1 ++ (x21.2.2.1.take (Int.toNat z28.2)), [], ())]] (fun _ => tabs σ) (fun _ => LS.box b22 K52 x21 :: LS.tk v5 52 48 K52 l6 :: Ls) (by kernel_rfl) (by kernel_rfl) hE hH
                ⟨⟨⟨⟨⟨⟨⟨⟨⟨⟨⟨⟨trivial,
                anyk (fun k => obR [] (Os := []) trivial (by kernel_rfl) (by kernel_rfl))⟩,
                anyk (fun k => obR [] (Os := []) trivial (by kernel_rfl) (by kernel_rfl))⟩,
                anyk (fun k => obR [.bx 0 K52 x21] (Os := [_]) ⟨(rfl : (LS.box b22 K52 x21 :: LS.tk v5 52 48 K52 l6 :: Ls)[0]? = some (LS.box b22 K52 x21)), trivial⟩ (by kernel_rfl) (by kernel_rfl))⟩,
                anyk (fun k => obR [] (Os := []) trivial (by kernel_rfl) (by kernel_rfl))⟩,
                anyk (fun k => obR [.bx 0 K52 x21] (Os := [_]) ⟨(rfl : (LS.box b22 K52 x21 :: LS.tk v5 52 48 K52 l6 :: Ls)[0]? = some (LS.box b22 K52 x21)), trivial⟩ (by kernel_rfl) (by kernel_rfl))⟩,
                anyk (fun k => obR [] (Os := []) trivial (by kernel_rfl) (by kernel_rfl))⟩,
                anyk (fun k => obR [.bx 0 K52 x21] (Os := [_]) ⟨(rfl : (LS.box b22 K52 x21 :: LS.tk v5 52 48 K52 l6 :: Ls)[0]? = some (LS.box b22 K52 x21)), trivial⟩ (by kernel_rfl) (by kernel_rfl))⟩,
                anyk (fun k => obR [] (Os := []) trivial (by kernel_rfl) (by kernel_rfl))⟩,
                anyk (fun k => obR [] (Os := [_]) ⟨q30, trivial⟩ (by kernel_rfl) (by kernel_rfl))⟩,
                anyk (fun k => obR [] (Os := [_]) ⟨q31, trivial⟩ (by kernel_rfl) (by kernel_rfl))⟩,
                anyk (fun k => obB (d := (some 60)) K52 (x21.1, x21.2.1 ++ (x21.2.2.1.take (Int.toNat z28.2)), [], ()) rfl (by kernel_rfl) (by kernel_rfl) rfl)⟩,
                anyk (fun k => obBS (d := (some 61)) K52 [(x21.1, x21.2.1 ++ (x21.2.2.1.take (Int.toNat z28.2)), [], ())] (by kernel_rfl) (by kernel_rfl) rfl)⟩ (fun a w G hl4 hE hH => ?_)
        have hle := Gh.le_trans hle hl4
        obtain ⟨q32, h⟩ := gd h
        refine stepApp (e := 0) (bt := 48) (ys := [(x21.1, x21.2.1 ++ (x21.2.2.1.take (Int.toNat z28.2)), [], ())]) (e' := 52) (d := (some 62)) 1 hE hH (by kernel_rfl) rfl (by kernel_rfl) q32 (fun v33 a w G hl5 hE hH => ?_)
        have hle := Gh.le_trans hle hl5
        refine segO 1 [] [(4, .tl v33 K52 (l6 ++ [(x21.1, x21.2.1 ++ (x21.2.2.1.take (Int.toNat z28.2)), [], ())]))] (Os := []) trivial hE hH (by kernel_rfl) (fun a hE => ?_)
        refine wpFrom_end (by kernel_rfl) ?_
        refine Exit.in_normal ?_
        refine Exit.then_normal (hK17 _ _ ?_)
        refine wp_region_from ?_
        refine segO 3 [] [(6, .kv .i (IntKind.wrap .i64 (x8 + 1)))] (Os := []) trivial hE hH (by kernel_rfl) (fun a hE => ?_)
        refine wpFrom_end (by kernel_rfl) ?_
        have hH := hH.drop (fun _ _ _ => rfl)
        refine Exit.then_normal ?_
        exact ih12 _ _ _ _ h _ _ _ v33 hle (hE.subC (by kernel_rfl)) hH hx10
      · intro KK hKK ho
        have hj29 : ∀ (a : Act) (w : World) (G : Gh), G0.le G → EnvR G 73 a [(0, .kv (.ptr 47) p0), (1, .kv (.list .i) p1), (4, .tl v5 K52 l6), (5, .kv .i z28.1), (6, .kv .i x8), (7, .val (.pointer (some ⟨b22, 0, none⟩))), (8, .kv .i z28.2)] → Holds w G (tabs σ) (LS.box b22 K52 x21 :: LS.tk v5 52 48 K52 l6 :: Ls) → KK .normal a w := fun a w G  h1 h2 h3 => hKK a w ⟨G, h1, h2, h3⟩
        replace h := hz28
        refine condE (b := !(x21.2.2.1 == [])) hE (by kernel_rfl) (fun hc => ?_) (fun hc => ?_)
        · replace h := ifT hc h
          refine wp_seq_k (fun K hK34 => ?_)
          refine wp_seq_k (fun K hK35 => ?_)
          refine wp_region_from ?_
          refine segO 5 [] [(32, .kv .bool (decide (x7 < (p1.length : Int))))] (Os := []) trivial hE hH (by kernel_rfl) (fun a hE => ?_)
          by_cases hc : (decide (x7 < (p1.length : Int))) = true
          · replace h := ifT hc h
            have hE := hE.setB 32 (by kernel_rfl) hc
            obtain ⟨x36, hx36, h⟩ := bs h
            refine segO 6 [.ix .i x36] [(38, .kv .bool (decide (x36 > 0)))] (Os := [_]) ⟨(IxAt.of (k := .i) hx36), trivial⟩ hE hH (by kernel_rfl) (fun a hE => ?_)
            refine wpFrom_end (by kernel_rfl) ?_
            refine Exit.then_normal (hK35 _ _ ?_)
            obtain ⟨z38, hz38, h⟩ := bs h
            refine join_intro (I := fun a w => ∃ (G : Gh), G0.le G ∧ EnvR G 73 a [(0, .kv (.ptr 47) p0), (1, .kv (.list .i) p1), (4, .tl v5 K52 l6), (5, .kv .i x7), (6, .kv .i x8), (7, .val (.pointer (some ⟨b22, 0, none⟩))), (8, .kv .i z38)] ∧ Holds w G (tabs σ) (LS.box b22 K52 x21 :: LS.tk v5 52 48 K52 l6 :: Ls)) trivial ?_ ?_
            · intro a w hI
              obtain ⟨G, hle, hE, hH⟩ := hI
              refine Exit.then_normal (hK34 _ _ ?_)
              refine wp_region_from ?_
              refine segO 3 [] [(5, .kv .i (IntKind.wrap .i64 (x7 + 1)))] (Os := []) trivial hE hH (by kernel_rfl) (fun a hE => ?_)
              refine wpFrom_end (by kernel_rfl) ?_
              cases h
              exact hj29 _ _ _  hle (hE.subC (by kernel_rfl)) hH
            · intro KK hKK ho
              have hj39 : ∀ (a : Act) (w : World) (G : Gh), G0.le G → EnvR G 73 a [(0, .kv (.ptr 47) p0), (1, .kv (.list .i) p1), (4, .tl v5 K52 l6), (5, .kv .i x7), (6, .kv .i x8), (7, .val (.pointer (some ⟨b22, 0, none⟩))), (8, .kv .i z38)] → Holds w G (tabs σ) (LS.box b22 K52 x21 :: LS.tk v5 52 48 K52 l6 :: Ls) → KK .normal a w := fun a w G  h1 h2 h3 => hKK a w ⟨G, h1, h2, h3⟩
              replace h := hz38
              refine condE (b := decide (x36 > 0)) hE (by kernel_rfl) (fun hc => ?_) (fun hc => ?_)
              · replace h := ifT hc h
                obtain ⟨x40, hx40, h⟩ := bs h
                refine region_par 8 [] [(0, 0), (0, 0), (0, 0), (0, 0), (0, 0), (0, 0), (0, 0), (0, 0)] [.kv (.list .i) p1, .kv .i x7, .elA .i x40 0, .kv .i x40, .val (.pointer (some ⟨b22, 2, none⟩)), .kv .str x21.2.2.1, .kv .i (x21.2.2.1.length : Int), .kv .i (IntKind.wrap .i64 ((x21.2.2.1.length : Int) + 1))] (fun _ => tabs σ) (fun _ => LS.box b22 K52 x21 :: LS.tk v5 52 48 K52 l6 :: Ls) (by kernel_rfl) (by kernel_rfl) hE hH
                        ⟨⟨⟨⟨⟨⟨⟨⟨trivial,
                        anyk (fun k => obR [] (Os := []) trivial (by kernel_rfl) (by kernel_rfl))⟩,
                        anyk (fun k => obR [] (Os := []) trivial (by kernel_rfl) (by kernel_rfl))⟩,
                        anyk (fun k => obR [.ix .i x40] (Os := [_]) ⟨(IxAt.of (k := .i) hx40), trivial⟩ (by kernel_rfl) (by kernel_rfl))⟩,
                        anyk (fun k => obR [] (Os := []) trivial (by kernel_rfl) (by kernel_rfl))⟩,
                        anyk (fun k => obR [] (Os := []) trivial (by kernel_rfl) (by kernel_rfl))⟩,
                        anyk (fun k => obR [.bx 0 K52 x21] (Os := [_]) ⟨(rfl : (LS.box b22 K52 x21 :: LS.tk v5 52 48 K52 l6 :: Ls)[0]? = some (LS.box b22 K52 x21)), trivial⟩ (by kernel_rfl) (by kernel_rfl))⟩,
                        anyk (fun k => obR [] (Os := []) trivial (by kernel_rfl) (by kernel_rfl))⟩,
                        anyk (fun k => obR [] (Os := []) trivial (by kernel_rfl) (by kernel_rfl))⟩ (fun a w G hl7 hE hH => ?_)
                have hle := Gh.le_trans hle hl7
                obtain ⟨q41, h⟩ := gd h
                refine segO 2 [] [(8, .kv .i (Int.tmod x40 (IntKind.wrap .i64 ((x21.2.2.1.length : Int) + 1))))] (Os := [_]) ⟨q41, trivial⟩ hE hH (by kernel_rfl) (fun a hE => ?_)
                refine wpFrom_end (by kernel_rfl) ?_
                cases h
                exact hj39 _ _ _  hle (hE.subC (by kernel_rfl)) hH
              · replace h := ifF hc h
                refine wp_skip ?_
                cases h
                exact hj39 _ _ _  hle (hE.subC (by kernel_rfl)) hH
          · replace h := ifN hc h
            have hE := hE.setB 32 (by kernel_rfl) (bf hc)
            refine segO 6 [] [(38, .kv .bool false)] (Os := []) trivial hE hH (by kernel_rfl) (fun a hE => ?_)
            refine wpFrom_end (by kernel_rfl) ?_
            refine Exit.then_normal (hK35 _ _ ?_)
            refine condF hE (by kernel_rfl) rfl ?_
            refine wp_skip ?_
            refine Exit.then_normal (hK34 _ _ ?_)
            refine wp_region_from ?_
            refine segO 3 [] [(5, .kv .i (IntKind.wrap .i64 (x7 + 1)))] (Os := []) trivial hE hH (by kernel_rfl) (fun a hE => ?_)
            refine wpFrom_end (by kernel_rfl) ?_
            cases h
            exact hj29 _ _ _  hle (hE.subC (by kernel_rfl)) hH
        · replace h := ifF hc h
          refine wp_skip ?_
          cases h
          exact hj29 _ _ _  hle (hE.subC (by kernel_rfl)) hH
    · replace h := ifF hc h
      refine wp_exit ?_
      refine Exit.then_exit ?_
      refine Exit.then_exit ?_
      cases h
      exact hx10 _ rfl _ _ _ v5 hle (hE.subC (by kernel_rfl)) hH
  refine key _ _ _ _ hz42 _ _ _ (.slice none 0 0) hle (hE.subC (by kernel_rfl)) hH ?_
  · intro z43 hz a w G v5 hle hE hH
    subst hz
    rw [hQ]
    refine Exit.in_eq ?_
    refine Exit.then_normal (hK3 _ _ ?_)
    refine wp_seq_k (fun K hK44 => ?_)
    refine wp_region_from ?_
    obtain ⟨i45, hi45, h⟩ := bs h
    refine segO 4 [.pt i45] [(64, .tl v5 K52 z42.1), (66, .fldA 47 i45 1)] (Os := [_]) ⟨hi45, trivial⟩ hE hH (by kernel_rfl) (fun a hE => ?_)
    obtain ⟨o46, ho46, h⟩ := bs h
    refine stepStO (t := 47) (j := i45) (off := 1) (.list K52) z42.1 (x' := (o46.1, z42.1, o46.2.2.1, o46.2.2.2.1, ())) hE hH (by kernel_rfl) (ob47 (s := σ) ho46) (by kernel_rfl) (upd47 (s := σ)) (fun w G hl8 hE hH => ?_)
    have hle := Gh.le_trans hle hl8
    refine wpFrom_end (by kernel_rfl) ?_
    refine Exit.then_normal (hK44 _ _ ?_)
    refine wp_seq_k (fun K hK47 => ?_)
    refine wp_region_from ?_
    obtain ⟨i48, hi48, h⟩ := bs h
    refine segO 3 [.pt i48] [(69, .fldA 47 i48 3)] (Os := [_]) ⟨hi48, trivial⟩ hE hH (by kernel_rfl) (fun a hE => ?_)
    obtain ⟨o49, ho49, h⟩ := bs h
    refine stepStO (t := 47) (j := i48) (off := 3) .bool false (x' := (o49.1, o49.2.1, o49.2.2.1, false, ())) hE hH (by kernel_rfl) (ob47 (s := (σ.set47 i45 (o46.1, z42.1, o46.2.2.1, o46.2.2.2.1, ()))) ho49) (by kernel_rfl) (upd47 (s := (σ.set47 i45 (o46.1, z42.1, o46.2.2.1, o46.2.2.2.1, ())))) (fun w G hl9 hE hH => ?_)
    have hle := Gh.le_trans hle hl9
    refine wpFrom_end (by kernel_rfl) ?_
    refine Exit.then_normal (hK47 _ _ ?_)
    refine wp_region_from ?_
    obtain ⟨i50, hi50, h⟩ := bs h
    refine segO 3 [.pt i50] [(72, .fldA 47 i50 2)] (Os := [_]) ⟨hi50, trivial⟩ hE hH (by kernel_rfl) (fun a hE => ?_)
    obtain ⟨o51, ho51, h⟩ := bs h
    refine stepStO (t := 47) (j := i50) (off := 2) .i 0 (x' := (o51.1, o51.2.1, 0, o51.2.2.2.1, ())) hE hH (by kernel_rfl) (ob47 (s := ((σ.set47 i45 (o46.1, z42.1, o46.2.2.1, o46.2.2.2.1, ())).set47 i48 (o49.1, o49.2.1, o49.2.2.1, false, ()))) ho51) (by kernel_rfl) (upd47 (s := ((σ.set47 i45 (o46.1, z42.1, o46.2.2.1, o46.2.2.2.1, ())).set47 i48 (o49.1, o49.2.1, o49.2.2.1, false, ())))) (fun w G hl10 hE hH => ?_)
    have hle := Gh.le_trans hle hl10
    refine wpFrom_end (by kernel_rfl) ?_
    have hH := hH.drop (fun _ _ _ => rfl)
    cases h
    exact end0 rfl hE hle hH

def f76 (p0 : Option Nat) (p1 : List UInt8) (σ : St) : Option ((List UInt8) × Int) :=
  f105 p0 p1 σ >>= fun r3 =>
  if (r3.2 != 0) = true then
  some ([], r3.2)
  else
  if r3.1.2.1.length + r3.1.2.2.1.length ≤ 9223372036854775807 then
  some (r3.1.2.1 ++ r3.1.2.2.1, 0)
  else none

theorem f76_ok {p0 : Option Nat} {p1 : List UInt8} {σ : St} {p : (List UInt8) × Int} (h : f76 p0 p1 σ = some p) : Spec Try.prog 76 [.kv (.ptr 47) p0, .kv .str p1] (tabs σ) (.tup [⟨.str, p.1⟩, ⟨.i, p.2⟩]) (tabs σ) := by
  refine Spec.intro Try.func76 (by kernel_rfl) rfl (by kernel_rfl) (fun a w G0 Ls hE hH hN => ?_)
  have hle : G0.le G0 := Gh.le_refl G0
  unfold f76 at h
  refine wp_seq_k (fun K hK1 => ?_)
  refine wp_region_from ?_
  refine segO 2 [] [(4, .kv .str []), (5, .kv .i 0)] (Os := []) trivial hE hH (by kernel_rfl) (fun a hE => ?_)
  refine wpFrom_end (by kernel_rfl) ?_
  refine Exit.then_normal (hK1 _ _ ?_)
  refine wp_seq_k (fun K hK2 => ?_)
  refine wp_region_from ?_
  refine segO 2 [] [(9, .kv (.ptr 47) p0), (10, .kv .str p1)] (Os := []) trivial hE hH (by kernel_rfl) (fun a hE => ?_)
  obtain ⟨r3, hr3, h⟩ := bs h
  refine stepCall (d := (some 11)) (f105_ok hr3) hE hH hN (by kernel_rfl) (by kernel_rfl) trivial (fun a w G hl1 hE hH => ?_)
  have hle := Gh.le_trans hle hl1
  refine segO 3 [] [(12, .kv K52 r3.1), (13, .kv .i r3.2)] (Os := []) trivial hE hH (by kernel_rfl) (fun a hE => ?_)
  refine stepAlloc (e := 52) (d := (some 6)) K52  hE hH (by kernel_rfl) (by kernel_rfl) (fun b4 a w G hl2 hE hH => ?_)
  have hle := Gh.le_trans hle hl2
  refine stepStB (b := b4) (off := 0) 0 K52 r3.1 (x' := r3.1) hE hH (by kernel_rfl) rfl (by kernel_rfl) (fun w G hl3 hE hH => ?_)
  have hle := Gh.le_trans hle hl3
  refine segO 1 [] [(7, .kv .i r3.2)] (Os := []) trivial hE hH (by kernel_rfl) (fun a hE => ?_)
  refine wpFrom_end (by kernel_rfl) ?_
  refine Exit.then_normal (hK2 _ _ ?_)
  refine wp_seq_k (fun K hK5 => ?_)
  refine wp_seq_k (fun K hK6 => ?_)
  refine wp_region_from ?_
  refine segO 2 [] [(15, .kv .bool (r3.2 != 0))] (Os := []) trivial hE hH (by kernel_rfl) (fun a hE => ?_)
  refine wpFrom_end (by kernel_rfl) ?_
  refine Exit.then_normal (hK6 _ _ ?_)
  refine condE (b := r3.2 != 0) hE (by kernel_rfl) (fun hc => ?_) (fun hc => ?_)
  · replace h := ifT hc h
    refine wp_seq_k (fun K hK7 => ?_)
    refine wp_region_from ?_
    refine segO 3 [] [(4, .kv .str []), (5, .kv .i r3.2)] (Os := []) trivial hE hH (by kernel_rfl) (fun a hE => ?_)
    refine wpFrom_end (by kernel_rfl) ?_
    refine Exit.then_normal (hK7 _ _ ?_)
    refine wp_ret ?_
    refine Exit.then_ret ?_
    have hH := hH.drop (fun _ _ _ => rfl)
    cases h
    exact ret2 rfl hE hle hH (by kernel_rfl)
  · replace h := ifF hc h
    refine wp_skip ?_
    refine Exit.then_normal (hK5 _ _ ?_)
    refine wp_seq_k (fun K hK8 => ?_)
    refine wp_region_from ?_
    obtain ⟨q9, h⟩ := gd h
    refine segO 7 [.bx 0 K52 r3.1, .bx 0 K52 r3.1] [(4, .kv .str (r3.1.2.1 ++ r3.1.2.2.1)), (5, .kv .i 0)] (Os := [_, _, _]) ⟨(rfl : (LS.box b4 K52 r3.1 :: Ls)[0]? = some (LS.box b4 K52 r3.1)), (rfl : (LS.box b4 K52 r3.1 :: Ls)[0]? = some (LS.box b4 K52 r3.1)), q9, trivial⟩ hE hH (by kernel_rfl) (fun a hE => ?_)
    refine wpFrom_end (by kernel_rfl) ?_
    refine Exit.then_normal (hK8 _ _ ?_)
    refine wp_ret ?_
    have hH := hH.drop (fun _ _ _ => rfl)
    cases h
    exact ret2 rfl hE hle hH (by kernel_rfl)
end Go.Proofs.Ytlfemhkabjafeaa.M

/- Plain law, part 0: names; small facts. -/
set_option linter.unusedVariables false
set_option linter.unusedSimpArgs false
namespace Go.Proofs.Ytlfemhkabjafeaa.M

theorem wrap_id {x : Int} (h1 : -9223372036854775808 ≤ x) (h2 : x < 9223372036854775808) : IntKind.wrap .i64 x = x := by
  rw [IntKind.wrap_i64]; omega

/-- May a file's name hold this byte? -/
def okc (c : UInt8) : Bool := (97 ≤ c.toNat && c.toNat ≤ 122) || (48 ≤ c.toNat && c.toNat ≤ 57) || c.toNat == 46 || c.toNat == 45 || c.toNat == 95

def okName (s : List UInt8) : Bool := s.all okc && (0 < s.length && s.length ≤ 24)

theorem btS_at {s : List UInt8} {n : Nat} (h : n < s.length) : btS s (n : Int) = (s[n].toNat : Int) := by
  simp [btS, h]

theorem f71_loop (s : List UInt8) (hs : s.length < 9223372036854775808) : ∀ (k n : Nat), n + k = s.length → f71_l0 s (n : Int) = some (cond ((s.drop n).all okc) (.inl (s.length : Int)) (.inr false))
  | 0, n, h => by
    rw [f71_l0]
    have : n = s.length := by omega
    subst this
    simp
  | k + 1, n, h => by
    rw [f71_l0]
    have hn : n < s.length := by omega
    have ih := f71_loop s hs k (n + 1) (by omega)
    have hw : IntKind.wrap .i64 ((n : Int) + 1) = ((n + 1 : Nat) : Int) := by rw [wrap_id (by omega) (by omega)]; omega
    rw [btS_at hn, hw, ih]
    have hd : s.drop n = s[n] :: s.drop (n + 1) := by simp
    rw [hd]
    simp only [List.all_cons]
    have h1 : ((n : Int) < (s.length : Int)) := by omega
    have h0 : (0 : Int) ≤ (n : Int) := by omega
    simp only [h1, h0, decide_true, if_true, and_self]
    by_cases hc : okc s[n] = true
    · have : ((((((decide ((s[n].toNat : Int) < 97)) || (decide ((s[n].toNat : Int) > 122))) && ((decide ((s[n].toNat : Int) < 48)) || (decide ((s[n].toNat : Int) > 57)))) && ((s[n].toNat : Int) != 46)) && ((s[n].toNat : Int) != 45)) && ((s[n].toNat : Int) != 95)) = false := by
        unfold okc at hc
        simp only [Bool.or_eq_true, Bool.and_eq_true, decide_eq_true_eq, beq_iff_eq] at hc
        rw [Bool.eq_false_iff]
        simp only [ne_eq, Bool.and_eq_true, Bool.or_eq_true, decide_eq_true_eq, bne_iff_ne]
        omega
      rw [this, hc]
      simp
    · have : ((((((decide ((s[n].toNat : Int) < 97)) || (decide ((s[n].toNat : Int) > 122))) && ((decide ((s[n].toNat : Int) < 48)) || (decide ((s[n].toNat : Int) > 57)))) && ((s[n].toNat : Int) != 46)) && ((s[n].toNat : Int) != 45)) && ((s[n].toNat : Int) != 95)) = true := by
        unfold okc at hc
        simp only [Bool.or_eq_true, Bool.and_eq_true, decide_eq_true_eq, beq_iff_eq] at hc
        simp only [Bool.and_eq_true, Bool.or_eq_true, decide_eq_true_eq, bne_iff_ne]
        omega
      rw [this]
      simp only [Bool.not_eq_true] at hc
      rw [hc]
      simp

theorem f71_eq (s : List UInt8) (hs : s.length < 9223372036854775808) : f71 s = some (okName s) := by
  unfold f71
  rw [show (0 : Int) = ((0 : Nat) : Int) from rfl, f71_loop s hs s.length 0 (by omega)]
  simp only [List.drop_zero]
  unfold okName
  by_cases h : s.all okc = true
  · rw [h]; simp
    congr 1
    exact decide_eq_decide.2 (by omega)
  · simp only [Bool.not_eq_true] at h
    rw [h]; simp
theorem f102_loop (s : List UInt8) (hs : s.length < 9223372036854775808) : ∀ (k n : Nat), n + k = s.length → f102_l0 s (n : Int) = some (cond ((s.drop n).all okc) (.inl (s.length : Int)) (.inr false))
  | 0, n, h => by
    rw [f102_l0]
    have : n = s.length := by omega
    subst this
    simp
  | k + 1, n, h => by
    rw [f102_l0]
    have hn : n < s.length := by omega
    have ih := f102_loop s hs k (n + 1) (by omega)
    have hw : IntKind.wrap .i64 ((n : Int) + 1) = ((n + 1 : Nat) : Int) := by rw [wrap_id (by omega) (by omega)]; omega
    rw [btS_at hn, hw, ih]
    have hd : s.drop n = s[n] :: s.drop (n + 1) := by simp
    rw [hd]
    simp only [List.all_cons]
    have h1 : ((n : Int) < (s.length : Int)) := by omega
    have h0 : (0 : Int) ≤ (n : Int) := by omega
    simp only [h1, h0, decide_true, if_true, and_self]
    by_cases hc : okc s[n] = true
    · have : (((((!((decide ((s[n].toNat : Int) ≥ 97)) && (decide ((s[n].toNat : Int) ≤ 122)))) && (!((decide ((s[n].toNat : Int) ≥ 48)) && (decide ((s[n].toNat : Int) ≤ 57))))) && ((s[n].toNat : Int) != 46)) && ((s[n].toNat : Int) != 45)) && ((s[n].toNat : Int) != 95)) = false := by
        unfold okc at hc
        simp only [Bool.or_eq_true, Bool.and_eq_true, decide_eq_true_eq, beq_iff_eq] at hc
        rw [Bool.eq_false_iff]
        simp only [ne_eq, Bool.and_eq_true, Bool.or_eq_true, Bool.not_eq_true', Bool.and_eq_false_iff, decide_eq_false_iff_not, decide_eq_true_eq, bne_iff_ne]
        omega
      rw [this, hc]
      simp
    · have : (((((!((decide ((s[n].toNat : Int) ≥ 97)) && (decide ((s[n].toNat : Int) ≤ 122)))) && (!((decide ((s[n].toNat : Int) ≥ 48)) && (decide ((s[n].toNat : Int) ≤ 57))))) && ((s[n].toNat : Int) != 46)) && ((s[n].toNat : Int) != 45)) && ((s[n].toNat : Int) != 95)) = true := by
        unfold okc at hc
        simp only [Bool.or_eq_true, Bool.and_eq_true, decide_eq_true_eq, beq_iff_eq] at hc
        simp only [Bool.and_eq_true, Bool.or_eq_true, Bool.not_eq_true', Bool.and_eq_false_iff, decide_eq_false_iff_not, decide_eq_true_eq, bne_iff_ne]
        omega
      rw [this]
      simp only [Bool.not_eq_true] at hc
      rw [hc]
      simp

theorem f102_eq (s : List UInt8) (hs : s.length < 9223372036854775808) : f102 s = some (okName s) := by
  unfold f102
  rw [show (0 : Int) = ((0 : Nat) : Int) from rfl, f102_loop s hs s.length 0 (by omega)]
  simp only [List.drop_zero]
  unfold okName
  by_cases h : s.all okc = true
  · rw [h]; simp
    congr 1
    all_goals exact decide_eq_decide.2 (by omega)
  · simp only [Bool.not_eq_true] at h
    rw [h]; simp
end Go.Proofs.Ytlfemhkabjafeaa.M

/- Printed by own program: twins and walks. -/
set_option linter.unusedVariables false
set_option maxRecDepth 100000
namespace Go.Proofs.Ytlfemhkabjafeaa.M
abbrev K67 : Kd := .pair .i (.pair .str .unit)
abbrev K80 : Kd := .pair .i (.pair .i (.pair .str (.pair (.list .i) .unit)))
abbrev K116 : Kd := .pair (.ptr 105) (.pair .str .unit)
abbrev K145 : Kd := .pair (.int .u8) (.pair (.int .u8) (.pair (.int .u8) (.pair (.int .u8) (.pair (.int .u8) (.pair (.int .u8) (.pair (.int .u8) (.pair (.int .u8) (.pair (.int .u8) (.pair (.int .u8) .unit)))))))))
end Go.Proofs.Ytlfemhkabjafeaa.M

/- Own library, part 22: arrays of bytes that are the call's own variables. -/
set_option linter.unusedVariables false
set_option linter.unusedSimpArgs false
namespace Go.Proofs.Ytlfemhkabjafeaa.M

/-- Arrays of so many bytes, as kinds: nested pairs. -/
def isArr : Nat → Kd → Bool
  | 0, .unit => true
  | n + 1, .pair (.int .u8) b => isArr n b
  | _, _ => false

def setA : (k : Kd) → k.den → Nat → Int → k.den
  | .pair (.int .u8) _, x, 0, z => (z, x.2)
  | .pair (.int .u8) b, x, n + 1, z => (x.1, setA b x.2 n z)
  | _, x, _, _ => x

def arrL : (k : Kd) → k.den → List Int
  | .pair (.int .u8) b, x => x.1 :: arrL b x.2
  | _, _ => []

theorem setK_arr : ∀ {n : Nat} {k : Kd} {x : k.den} {off : Nat} {z : Int}, isArr n k = true → off < n → setK k x off (.int .u8) z = some (setA k x off z)
  | 0, _, _, _, _, _, h => by omega
  | n + 1, k, x, off, z, hk, h => by
    unfold isArr at hk
    split at hk
    · rename_i h0; cases h0
    · rename_i m b h0
      cases h0
      cases off with
      | zero => simp [setK, setA, Kd.w, Nat.blt, Nat.ble]
      | succ o =>
        have ih := setK_arr (x := x.2) (off := o) (z := z) hk (by omega)
        simp [setK, setA, Kd.w, Nat.blt, Nat.ble, ih]
    · cases hk

theorem Kr_arr {G : Gh} : ∀ {n : Nat} {k : Kd} {x : k.den} {cs : List Value}, isArr n k = true → Kr G k x cs → cs = (arrL k x).map (Value.int .u8) ∧ (arrL k x).length = n
  | 0, k, x, cs, hk, h => by
    cases k <;> simp [isArr] at hk
    simp only [Kr] at h
    subst h
    exact ⟨rfl, rfl⟩
  | n + 1, k, x, cs, hk, h => by
    unfold isArr at hk
    split at hk
    · rename_i h0; cases h0
    · rename_i m b h0
      cases h0
      simp only [Kr] at h
      obtain ⟨c1, c2, rfl, rfl, h2⟩ := h
      obtain ⟨e1, e2⟩ := Kr_arr (x := x.2) hk h2
      exact ⟨by simp [arrL, ← e1], by simp [arrL, e2]⟩
    · cases hk

section
variable {P : Program} {w : World} {G : Gh} {T : Tabs} {Ls : List LS} {a : Act} {N : Nat} {E : Env} {ops : Array Oper} {Q : Exit → Act → World → Prop}

def ixaE (P : Program) (ops : Array Oper) (E : Env) (i : Nat) : Option (Nat × Nat × Int × Option Nat) :=
  match ops[i]? with
  | some o => (match goes ops (look E []) o, o.op with
    | true, .indexAddr t x y => (match P.underlying t, opnd (look E []) [] x, opnd (look E []) [] y with
      | some (.array m el), some (.val (.pointer (some ⟨b, 0, none⟩))), some (.kv (.int _) n) => (match sizeT P el with
        | some 1 => some (b, m, n, o.dst)
        | _ => none)
      | _, _, _ => none)
    | _, _ => none)
  | none => none

/-- The address of a byte of an own array. -/
theorem stepIxA {b m : Nat} {n : Int} {d : Option Nat} {i : Nat} (hE : EnvR G N a E) (hb : ixaE P ops E i = some (b, m, n, d)) (hq : 0 ≤ n ∧ n < (m : Int)) (hd : dstOK d N = true)
    (k : ∀ a', EnvR G N a' (putE d (.val (.pointer (some ⟨b, n.toNat, none⟩))) E) → wpFrom P ops Q (i + 1) a' w) : wpFrom P ops Q i a w := by
  unfold ixaE at hb
  split at hb
  · rename_i o ho
    split at hb
    · rename_i t x y hg hop
      split at hb
      · rename_i m' el b' kn n' hu hx hy
        split at hb
        · rename_i hs
          simp only [Option.some.injEq, Prod.mk.injEq] at hb
          obtain ⟨rfl, rfl, rfl, rfl⟩ := hb
          have h1 := opnd_ok (CurR_start hE) (by simp) hx
          have h2 := unI (opnd_ok (CurR_start hE) (by simp) hy)
          simp only [EnR] at h1
          refine wpFrom_value ho (goes_ok (CurR_start hE) hg) (v := .pointer (some ⟨b', n'.toNat, none⟩)) (w' := w) ?_ (k _ (hE.putO hd rfl))
          simp only [execOp, hop, h1, h2]
          refine run_val ?_
          have ha : (⟨b', 0, none⟩ : Addr).add (Int.toNat n') = ⟨b', Int.toNat n', none⟩ := by rw [addr_add, Nat.zero_add]
          simp [Instr.indexAt, asIntOf, underlying, hu, Instr.sureAddr, run_sizeOf hs, hq, ha]
        · cases hb
      · cases hb
    · cases hb
  · cases hb

def slaE (P : Program) (ops : Array Oper) (E : Env) (i : Nat) : Option (Nat × Nat × Int × Option Nat) :=
  match ops[i]? with
  | some o => (match goes ops (look E []) o, o.op with
    | true, .slice t x none (some y) none => (match P.underlying t, opnd (look E []) [] x, opnd (look E []) [] y with
      | some (.array m el), some (.val (.pointer (some ⟨b, 0, none⟩))), some (.kv (.int _) n) => (match sizeT P el with
        | some 1 => some (b, m, n, o.dst)
        | _ => none)
      | _, _, _ => none)
    | _, _ => none)
  | none => none

/-- The first bytes of an own array, as a slice. -/
theorem stepSlA {b m : Nat} {n : Int} {d : Option Nat} {i : Nat} (hE : EnvR G N a E) (hb : slaE P ops E i = some (b, m, n, d)) (hq : 0 ≤ n ∧ n ≤ (m : Int)) (hd : dstOK d N = true)
    (k : ∀ a', EnvR G N a' (putE d (.val (.slice (some ⟨b, 0, none⟩) n.toNat m)) E) → wpFrom P ops Q (i + 1) a' w) : wpFrom P ops Q i a w := by
  unfold slaE at hb
  split at hb
  · rename_i o ho
    split at hb
    · rename_i t x y hg hop
      split at hb
      · rename_i m' el b' kn n' hu hx hy
        split at hb
        · rename_i hs
          simp only [Option.some.injEq, Prod.mk.injEq] at hb
          obtain ⟨rfl, rfl, rfl, rfl⟩ := hb
          have h1 := opnd_ok (CurR_start hE) (by simp) hx
          have h2 := unI (opnd_ok (CurR_start hE) (by simp) hy)
          simp only [EnR] at h1
          refine wpFrom_value ho (goes_ok (CurR_start hE) hg) (v := .slice (some ⟨b', 0, none⟩) n'.toNat m') (w' := w) ?_ (k _ (hE.putO hd rfl))
          simp only [execOp, hop, h1, h2, Option.map_none, Option.map_some]
          refine run_val ?_
          have hbd := bounds_run (P := P) (w := w) (isS := false) (len := m') (cap := m') (lo := none) (hi := some n') (k1 := kn) (k2 := kn) (Nat.le_refl _) (by unfold slB; exact hq)
          simp only [Option.map_none, Option.map_some, Option.getD_none, Option.getD_some] at hbd
          unfold Instr.sliceAt
          rw [run_und hu]
          have ha : (⟨b', 0, none⟩ : Addr).add (0 * 1) = ⟨b', 0, none⟩ := by rw [addr_add]
          simp [Instr.sureAddr, hbd, run_sizeOf hs, ha]
        · cases hb
      · cases hb
    · cases hb
  · cases hb

def cnaE (P : Program) (ops : Array Oper) (E : Env) (i : Nat) : Option (Nat × Nat × Option Nat) :=
  match ops[i]? with
  | some o => (match goes ops (look E []) o, o.op with
    | true, .convert s t x => (match P.underlying s, P.underlying t, opnd (look E []) [] x with
      | some (.slice el), some .string, some (.val (.slice (some ⟨b, 0, none⟩) n _)) => (match P.underlying el with
        | some (.int .u8) => some (b, n, o.dst)
        | _ => none)
      | _, _, _ => none)
    | _, _ => none)
  | none => none

/-- The first bytes of an own array, as a text. -/
theorem stepCnA (j m : Nat) {b n : Nat} {d : Option Nat} {K : Kd} {x : K.den} {i : Nat} (hE : EnvR G N a E) (hH : Holds w G T Ls) (hb : cnaE P ops E i = some (b, n, d)) (hK : isArr m K = true) (hj : Ls[j]? = some (.box b K x)) (hn : n ≤ m) (hd : dstOK d N = true)
    (k : ∀ a', EnvR G N a' (putE d (.kv .str (bytesS ((arrL K x).take n))) E) → wpFrom P ops Q (i + 1) a' w) : wpFrom P ops Q i a w := by
  unfold cnaE at hb
  split at hb
  · rename_i o ho
    split at hb
    · rename_i s t y hg hop
      split at hb
      · rename_i el b' n' c hs ht hx
        split at hb
        · rename_i hu
          simp only [Option.some.injEq, Prod.mk.injEq] at hb
          obtain ⟨rfl, rfl, rfl⟩ := hb
          have h1 := opnd_ok (CurR_start hE) (by simp) hx
          simp only [EnR] at h1
          refine wpFrom_value ho (goes_ok (CurR_start hE) hg) (v := .string ⟨(bytesS ((arrL K x).take n')).toArray⟩) (w' := w) ?_ (k _ (hE.putO hd mkS))
          simp only [execOp, hop, h1]
          refine run_val ?_
          unfold convert
          rw [run_und hs, run_und ht]
          simp only []
          rw [run_und hu]
          rw [bytesS_eq]
          obtain ⟨_, ce, ty, hblk, hkr⟩ := hH.loc _ (List.mem_of_getElem? hj)
          obtain ⟨e1, e2⟩ := Kr_arr hK hkr
          have hl : (((arrL K x).take n').map (Value.int .u8)).length = n' := by simp [e2]; omega
          have hrun := run_loadCells_list (P := P) w ⟨b', 0, none⟩ (((arrL K x).take n').map (Value.int .u8)) (fun j v hj => by
            rw [addr_add, cell_at hblk, Nat.zero_add, ← Array.getElem?_toList, e1]
            rw [List.map_take] at hj
            have hjl := (List.getElem?_eq_some_iff.1 hj).1
            rw [List.length_take] at hjl
            rw [List.getElem?_take_of_lt (by omega)] at hj
            exact hj)
          rw [hl] at hrun
          exact run_bytesToString w ⟨b', 0, none⟩ n' c _ hrun
        · cases hb
      · cases hb
    · cases hb
  · cases hb
end
end Go.Proofs.Ytlfemhkabjafeaa.M

/- Own library, part 23: lists of their own in fields: they are taken out, grow, and are put back. -/
set_option linter.unusedVariables false
set_option linter.unusedSimpArgs false
namespace Go.Proofs.Ytlfemhkabjafeaa.M

structure KL where
  k : Kd
  xs : List k.den

/-- The list of its own at a cell offset: its field, the type and bytes of an element, the list. -/
def ownO : (fs : List Fk) → denFs fs → Nat → Nat → Option (Nat × Nat × Nat × KL)
  | [], _, _, _ => none
  | .own e bt k :: r, x, 0, f => some (f, e, bt, ⟨k, x.1⟩)
  | .own _ _ _ :: r, x, o + 1, f => ownO r x.2 o (f + 1)
  | .p k :: r, x, o, f => (match Nat.ble k.w o with
    | true => ownO r x.2 (o - k.w) (f + 1)
    | false => none)
  | .omap _ _ :: r, x, 0, f => none
  | .omap _ _ :: r, x, o + 1, f => ownO r x.2 o (f + 1)

def setO : (fs : List Fk) → denFs fs → Nat → (k : Kd) → List k.den → Option (denFs fs)
  | [], _, _, _, _ => none
  | .own e bt k :: r, x, 0, k', ys => if h : k' = k then some (h ▸ ys, x.2) else none
  | .own _ _ _ :: r, x, o + 1, k', ys => (match setO r x.2 o k' ys with
    | some y => some (x.1, y)
    | none => none)
  | .p k :: r, x, o, k', ys => (match Nat.ble k.w o with
    | true => (match setO r x.2 (o - k.w) k' ys with
      | some y => some (x.1, y)
      | none => none)
    | false => none)
  | .omap _ _ :: r, x, 0, k', ys => none
  | .omap _ _ :: r, x, o + 1, k', ys => (match setO r x.2 o k' ys with
    | some y => some (x.1, y)
    | none => none)

section
variable {w w' : World} {G G' : Gh} {T T' : Tabs} {L L' Ls : List LS}

theorem ObjR_from (hle : G.le G') {t i : Nat} : ∀ {f : Nat} {fs : List Fk} {x : denFs fs} {cs : List Value}, (∀ f', f ≤ f' → holeAt t i f' L' = holeAt t i f' L) →
    (∀ b f', f ≤ f' → (G.role b = .fld t i f' ∨ ∃ p, G.role b = .grow (.fld t i f') p) → w'.heap[b]? = w.heap[b]? ∧ G'.role b = G.role b) → ObjR w G L t i f fs x cs → ObjR w' G' L' t i f fs x cs
  | _, [], _, _, _, _, h => h
  | f, fk :: r, x, cs, hL, hs, ⟨c1, c2, hc, h1, h2⟩ => ⟨c1, c2, hc, by rw [hL f (Nat.le_refl _)]; exact FkR_keep hle (fun b hb => hs b f (Nat.le_refl _) hb) h1,
      ObjR_from hle (fun f' hf => hL f' (by omega)) (fun b f' hf hb => hs b f' (by omega) hb) h2⟩

theorem own_take {t i : Nat} : ∀ {fs : List Fk} {x : denFs fs} {off f g e bt : Nat} {q : KL} {cs : List Value}, ownO fs x off f = some (g, e, bt, q) → ObjR w G L t i f fs x cs → holeAt t i g L = none →
    f ≤ g ∧ ∃ v, cs[off]? = some v ∧ ownV G w (.fld t i g) e bt q.k q.xs v ∧
      ∀ {G' : Gh} {L' : List LS}, G.le G' → (∀ b, (∀ p, G.role b ≠ .grow (.fld t i g) p) → G'.role b = G.role b) → (∀ f', f' ≠ g → holeAt t i f' L' = holeAt t i f' L) → holeAt t i g L' = some v → ObjR w G' L' t i f fs x cs
  | [], _, _, _, _, _, _, _, _, h, _, _ => by simp [ownO] at h
  | .own e0 bt0 k0 :: r, x, 0, f, g, e, bt, q, cs, h, ho, hn => by
    simp only [ownO, Option.some.injEq, Prod.mk.injEq] at h
    obtain ⟨rfl, rfl, rfl, rfl⟩ := h
    obtain ⟨c1, c2, rfl, h1, h2⟩ := ho
    obtain ⟨v, rfl, hv⟩ := holeAt_none_own hn h1
    refine ⟨Nat.le_refl _, v, by simp, hv, fun {G'} {L'} hle hr hL hg => ?_⟩
    refine ⟨[v], c2, rfl, ?_, ?_⟩
    · rw [hg]; exact rfl
    · refine ObjR_from hle (fun f' hf => hL f' (by omega)) (fun b f' hf hb => ⟨rfl, hr b (fun p hp => ?_)⟩) h2
      rcases hb with hb | ⟨p', hb⟩ <;> rw [hb] at hp <;> simp at hp
      omega
  | .own e0 bt0 k0 :: r, x, o + 1, f, g, e, bt, q, cs, h, ho, hn => by
    simp only [ownO] at h
    obtain ⟨c1, c2, rfl, h1, h2⟩ := ho
    have hl : c1.length = 1 := FkR_len h1
    obtain ⟨hfg, v, k1, k2, k3⟩ := own_take h h2 hn
    refine ⟨by omega, v, by rw [List.getElem?_append_right (by omega)]; rw [hl]; simpa using k1, k2, fun {G'} {L'} hle hr hL hg => ?_⟩
    refine ⟨c1, c2, rfl, ?_, k3 hle hr hL hg⟩
    rw [hL f (by omega)]
    refine FkR_keep hle (fun b hb => ⟨rfl, hr b (fun p hp => ?_)⟩) h1
    rcases hb with hb | ⟨p', hb⟩ <;> rw [hb] at hp <;> simp at hp
    omega
  | .p k0 :: r, x, o, f, g, e, bt, q, cs, h, ho, hn => by
    simp only [ownO] at h
    split at h
    · rename_i hb
      have hge : k0.w ≤ o := Nat.le_of_ble_eq_true hb
      obtain ⟨c1, c2, rfl, h1, h2⟩ := ho
      have hl : c1.length = k0.w := FkR_len h1
      obtain ⟨hfg, v, k1, k2, k3⟩ := own_take h h2 hn
      refine ⟨by omega, v, by rw [List.getElem?_append_right (by omega)]; rw [hl]; exact k1, k2, fun {G'} {L'} hle hr hL hg => ?_⟩
      refine ⟨c1, c2, rfl, Kr_mono hle h1, k3 hle hr hL hg⟩
    · cases h
  | .omap kk kv :: r, x, 0, f, g, e, bt, q, cs, h, ho, hn => by simp [ownO] at h
  | .omap kk kv :: r, x, o + 1, f, g, e, bt, q, cs, h, ho, hn => by
    simp only [ownO] at h
    obtain ⟨c1, c2, rfl, h1, h2⟩ := ho
    have hl : c1.length = 1 := FkR_len h1
    obtain ⟨hfg, v, k1, k2, k3⟩ := own_take h h2 hn
    refine ⟨by omega, v, by rw [List.getElem?_append_right (by omega)]; rw [hl]; simpa using k1, k2, fun {G'} {L'} hle hr hL hg => ?_⟩
    refine ⟨c1, c2, rfl, ?_, k3 hle hr hL hg⟩
    rw [hL f (by omega)]
    refine FkR_keep hle (fun b hb => ⟨rfl, hr b (fun p hp => ?_)⟩) h1
    rcases hb with hb | ⟨p', hb⟩ <;> rw [hb] at hp <;> simp at hp
    omega

theorem own_put {t i : Nat} : ∀ {fs : List Fk} {x x' : denFs fs} {off f g e bt : Nat} {q : KL} {ys : List q.k.den} {cs : List Value}, ownO fs x off f = some (g, e, bt, q) → setO fs x off q.k ys = some x' → ObjR w G L t i f fs x cs →
    f ≤ g ∧ off < cs.length ∧ ∀ {w' : World} {G' : Gh} {L' : List LS} {v' : Value}, G.le G' → ownV G' w' (.fld t i g) e bt q.k ys v' → holeAt t i g L' = none → (∀ f', f' ≠ g → holeAt t i f' L' = holeAt t i f' L) →
      (∀ b f', f' ≠ g → (G.role b = .fld t i f' ∨ ∃ p, G.role b = .grow (.fld t i f') p) → w'.heap[b]? = w.heap[b]? ∧ G'.role b = G.role b) → ObjR w' G' L' t i f fs x' (cs.set off v')
  | [], _, _, _, _, _, _, _, _, _, _, h, _, _ => by simp [ownO] at h
  | .own e0 bt0 k0 :: r, x, x', 0, f, g, e, bt, q, ys, cs, h, hs, ho => by
    simp only [ownO, Option.some.injEq, Prod.mk.injEq] at h
    obtain ⟨rfl, rfl, rfl, rfl⟩ := h
    simp only [setO, dif_pos, Option.some.injEq] at hs
    subst hs
    obtain ⟨c1, c2, rfl, h1, h2⟩ := ho
    have hl : c1.length = 1 := FkR_len h1
    refine ⟨Nat.le_refl _, by simp; omega, fun {w'} {G'} {L'} {v'} hle hv hg hL hr => ?_⟩
    obtain ⟨u, rfl⟩ : ∃ u, c1 = [u] := by
      cases c1 with
      | nil => simp at hl
      | cons u r' => cases r' with | nil => exact ⟨u, rfl⟩ | cons _ _ => simp at hl
    refine ⟨[v'], c2, rfl, ?_, ?_⟩
    · rw [hg]; exact ⟨v', rfl, hv⟩
    · exact ObjR_from hle (fun f' hf => hL f' (by omega)) (fun b f' hf hb => hr b f' (by omega) hb) h2
  | .own e0 bt0 k0 :: r, x, x', o + 1, f, g, e, bt, q, ys, cs, h, hs, ho => by
    simp only [ownO] at h
    simp only [setO] at hs
    split at hs
    · rename_i y hy
      simp only [Option.some.injEq] at hs; subst hs
      obtain ⟨c1, c2, rfl, h1, h2⟩ := ho
      have hl : c1.length = 1 := FkR_len h1
      obtain ⟨hfg, hlt, k3⟩ := own_put h hy h2
      refine ⟨by omega, by simp; omega, fun {w'} {G'} {L'} {v'} hle hv hg hL hr => ?_⟩
      refine ⟨c1, c2.set o v', by rw [List.set_append_right _ _ (by omega)]; rw [hl]; rfl, ?_, k3 hle hv hg hL hr⟩
      rw [hL f (by omega)]
      exact FkR_keep hle (fun b hb => hr b f (by omega) hb) h1
    · cases hs
  | .p k0 :: r, x, x', o, f, g, e, bt, q, ys, cs, h, hs, ho => by
    simp only [ownO] at h
    simp only [setO] at hs
    split at h
    · rename_i hb
      rw [hb] at hs
      simp only at hs
      have hge : k0.w ≤ o := Nat.le_of_ble_eq_true hb
      split at hs
      · rename_i y hy
        simp only [Option.some.injEq] at hs; subst hs
        obtain ⟨c1, c2, rfl, h1, h2⟩ := ho
        have hl : c1.length = k0.w := FkR_len h1
        obtain ⟨hfg, hlt, k3⟩ := own_put h hy h2
        refine ⟨by omega, by simp; omega, fun {w'} {G'} {L'} {v'} hle hv hg hL hr => ?_⟩
        exact ⟨c1, c2.set (o - k0.w) v', by rw [List.set_append_right _ _ (by omega), hl], Kr_mono hle h1, k3 hle hv hg hL hr⟩
      · cases hs
    · cases h
  | .omap kk kv :: r, x, x', 0, f, g, e, bt, q, ys, cs, h, hs, ho => by simp [ownO] at h
  | .omap kk kv :: r, x, x', o + 1, f, g, e, bt, q, ys, cs, h, hs, ho => by
    simp only [ownO] at h
    simp only [setO] at hs
    split at hs
    · rename_i y hy
      simp only [Option.some.injEq] at hs; subst hs
      obtain ⟨c1, c2, rfl, h1, h2⟩ := ho
      have hl : c1.length = 1 := FkR_len h1
      obtain ⟨hfg, hlt, k3⟩ := own_put h hy h2
      refine ⟨by omega, by simp; omega, fun {w'} {G'} {L'} {v'} hle hv hg hL hr => ?_⟩
      refine ⟨c1, c2.set o v', by rw [List.set_append_right _ _ (by omega)]; rw [hl]; rfl, ?_, k3 hle hv hg hL hr⟩
      rw [hL f (by omega)]
      exact FkR_keep hle (fun b hb => hr b f (by omega) hb) h1
    · cases hs

/-! ### Roles -/
def Gh.own (G : Gh) (o : Option Nat) (r : Role) : Gh := { G with role := fun b => if o = some b then r else G.role b }

theorem Gh.le_own {o : Option Nat} {r : Role} (h : ∀ b, o = some b → (G.role b).le r) : G.le (G.own o r) := by
  refine ⟨rfl, fun b => ?_⟩
  simp only [Gh.own]
  split
  · rename_i hb; exact h b hb
  · exact Role.le_refl _

theorem Gh.own_role {o : Option Nat} {r : Role} {b : Nat} (h : o ≠ some b) : (G.own o r).role b = G.role b := by simp [Gh.own, h]
theorem Gh.own_same {o : Option Nat} {r : Role} {b : Nat} (h : o = some b) : (G.own o r).role b = r := by simp [Gh.own, h]

theorem holeAt_hole (t i g : Nat) (v : Value) (L : List LS) (t' i' f' : Nat) : holeAt t' i' f' (.hole t i g v :: L) = if t = t' ∧ i = i' ∧ g = f' then some v else holeAt t' i' f' L := by
  simp only [holeAt]

/-- A field's own list is taken out. -/
theorem Holds.take (h : Holds w G T Ls) {b t i off : Nat} {fs : List Fk} {x : denFs fs} {g e bt : Nat} {q : KL} (hr : G.role b = .obj t i) (ho : ObAt T t i fs x) (hown : ownO fs x off 0 = some (g, e, bt, q)) (hN : holeAt t i g Ls = none) :
    ∃ v G' ce ty, w.heap[b]? = some (.cells ce ty (0, 0)) ∧ ce[off]? = some v ∧ G.le G' ∧ VR G' (.list q.k) q.xs v ∧ Holds w G' T (.tk v e bt q.k q.xs :: .hole t i g v :: Ls) := by
  obtain ⟨ce, ty, hh, hob⟩ := h.at hr ho
  obtain ⟨_, v, hv0, hv, hk⟩ := own_take hown hob hN
  obtain ⟨cs, o1, o2, o3, o4⟩ := id hv
  have hblk : ∀ c, v.ownBlock = some c → G.role c = .grow (.fld t i g) cs := o4
  have hle : G.le (G.own v.ownBlock (.grow .loc cs)) := Gh.le_own (fun c hc => by rw [hblk c hc]; exact ⟨.loc, [], by simp⟩)
  have hL : ∀ t' i' f', holeAt t' i' f' (.tk v e bt q.k q.xs :: .hole t i g v :: Ls) = if t = t' ∧ i = i' ∧ g = f' then some v else holeAt t' i' f' Ls := fun t' i' f' => by
    rw [holeAt_cons (fun _ _ _ => rfl), holeAt_hole]
  have hnf : ∀ l ∈ Ls, ∀ c, l.blk = some c → v.ownBlock ≠ some c := by
    intro l hl c hc hvc
    have h1 := hblk c hvc
    rcases h.loc_role hl hc with h2 | ⟨p, h2⟩ <;> rw [h1] at h2 <;> simp at h2
  have hv' : ownV (G.own v.ownBlock (.grow .loc cs)) w .loc e bt q.k q.xs v := ⟨cs, o1, rowR_mono (fun x cs hx => Kr_mono hle hx) o2, o3, fun c hc => Gh.own_same hc⟩
  refine ⟨v, G.own v.ownBlock (.grow .loc cs), ce, ty, hh, by rw [← Array.getElem?_toList]; exact hv0, hle, ownV_list hv', ?_⟩
  have hbo : v.ownBlock ≠ some b := fun hvc => by rw [hblk b hvc] at hr; cases hr
  refine h.change (fun c => v.ownBlock = some c ∨ c = b) hle ⟨rfl, rfl, rfl⟩ ?_ (fun c hc => ⟨rfl, Gh.own_role (fun e => hc (.inl e))⟩) ?_ ?_ ?_ ?_ ?_ ?_ ?_ ?_
  · intro c hc
    rw [Gh.own_role (fun hvc => by have := h.free c hc; rw [hblk c hvc] at this; cases this)]
    exact h.free c hc
  · intro c hc
    rcases hc with hc | rfl
    · have := h.block c
      unfold BlockOK at this ⊢
      rw [hblk c hc] at this
      rw [Gh.own_same hc]
      exact this
    · unfold BlockOK
      rw [Gh.own_role hbo, hr]
      obtain ⟨xs0, q1, q2⟩ := ho
      refine ⟨_, x, ce, ty, q1, q2, hh, ?_⟩
      refine hk hle (fun c hc => Gh.own_role (fun hvc => hc cs (hblk c hvc))) (fun f' hf => ?_) ?_
      · rw [hL, if_neg (fun e => hf e.2.2.symm)]
      · rw [hL, if_pos ⟨rfl, rfl, rfl⟩]
  · intro c t' i' hc hrc tab y cs' h1 h2 h3
    by_cases he : t = t' ∧ i = i'
    · obtain ⟨rfl, rfl⟩ := he
      exact absurd (.inr (h.inj c b t i hrc hr)) hc
    · refine ⟨tab, y, h1, h2, ?_⟩
      refine ObjR_keep (w := w) hle (fun f => ?_) (fun b2 f hb2 => ⟨rfl, Gh.own_role (fun hvc => ?_)⟩) h3
      · rw [hL, if_neg (fun e => he ⟨e.1, e.2.1⟩)]
      · rw [hblk b2 hvc] at hb2
        rcases hb2 with hb2 | ⟨p, hb2⟩ <;> simp at hb2
        exact he ⟨hb2.1.1, hb2.1.2.1⟩
  · intro l hl
    rcases List.mem_cons.1 hl with rfl | hl
    · exact hv'
    rcases List.mem_cons.1 hl with rfl | hl
    · trivial
    · exact LSR_keep hle (fun c hc => ⟨rfl, Gh.own_role (hnf l hl c hc)⟩) (h.loc l hl)
  · have hnd := h.nd
    have e1 : ((.hole t i g v :: Ls : List LS).filterMap LS.blk) = Ls.filterMap LS.blk := List.filterMap_cons_none rfl
    cases hb : v.ownBlock with
    | none =>
      rw [List.filterMap_cons_none (show LS.blk (.tk v e bt q.k q.xs) = none from hb), e1]; exact hnd
    | some c =>
      rw [List.filterMap_cons_some (show LS.blk (.tk v e bt q.k q.xs) = some c from hb), e1, List.nodup_cons]
      refine ⟨fun hm => ?_, hnd⟩
      obtain ⟨l, hl, hlc⟩ := List.mem_filterMap.1 hm
      exact hnf l hl c hlc hb
  · intro t' tab i' h1 h2
    obtain ⟨c, hc⟩ := h.ex t' tab i' h1 h2
    exact ⟨c, by rw [Gh.own_role (fun hvc => by rw [hblk c hvc] at hc; cases hc)]; exact hc⟩
  · intro c c' t' i' h1 h2
    have n1 : v.ownBlock ≠ some c := fun hvc => by rw [Gh.own_same hvc] at h1; cases h1
    have n2 : v.ownBlock ≠ some c' := fun hvc => by rw [Gh.own_same hvc] at h2; cases h2
    rw [Gh.own_role n1] at h1
    rw [Gh.own_role n2] at h2
    exact h.inj c c' t' i' h1 h2
  · intro c c' t' i' f' h1 h2
    have n1 : v.ownBlock ≠ some c := fun hvc => by rw [Gh.own_same hvc] at h1; cases h1
    have n2 : v.ownBlock ≠ some c' := fun hvc => by rw [Gh.own_same hvc] at h2; cases h2
    rw [Gh.own_role n1] at h1
    rw [Gh.own_role n2] at h2
    exact h.finj c c' t' i' f' h1 h2
  · intro c t' i' f' h1
    have n1 : v.ownBlock ≠ some c := fun hvc => by rw [Gh.own_same hvc] at h1; cases h1
    rw [Gh.own_role n1] at h1
    exact h.fex c t' i' f' h1

theorem splice_one {cs : List Value} {v : Value} {off : Nat} (h : off < cs.length) : splice cs [v] off = cs.set off v := by
  unfold splice
  rw [List.set_eq_take_append_cons_drop, if_pos h]
  simp

/-- An own list is put into a field. -/
theorem Holds.putO (h : Holds w G T Ls) {b t i off : Nat} {fs : List Fk} {x x' : denFs fs} {g e bt : Nat} {q : KL} {ys : List q.k.den} {v' : Value} {ce : Array Value} {ty : TypeId} (hr : G.role b = .obj t i) (hh : w.heap[b]? = some (.cells ce ty (0, 0))) (ho : ObAt T t i fs x)
    (hown : ownO fs x off 0 = some (g, e, bt, q)) (hset : setO fs x off q.k ys = some x') (hT : UpdT T T' t i fs x') {L2 : List LS} (hm : .tk v' e bt q.k ys ∈ Ls) (hL2 : ∀ l ∈ L2, l ∈ Ls ∧ (∀ c, l.blk = some c → v'.ownBlock ≠ some c)) (hnd : (L2.filterMap LS.blk).Nodup)
    (hh1 : holeAt t i g L2 = none) (hh2 : ∀ t' i' f', ¬ (t = t' ∧ i = i' ∧ g = f') → holeAt t' i' f' L2 = holeAt t' i' f' Ls) :
    off < ce.size ∧ ∃ G', G.le G' ∧ Holds (w.setRow b (splice ce.toList [v'] off).toArray) G' T' L2 := by
  obtain ⟨ce', ty', hh', hob⟩ := h.at hr ho
  rw [hh] at hh'
  simp only [Option.some.injEq, Obj.cells.injEq] at hh'
  obtain ⟨rfl, rfl, _⟩ := hh'
  obtain ⟨_, hlt, hk⟩ := own_put hown hset hob
  refine ⟨by rw [← Array.length_toList]; exact hlt, ?_⟩
  obtain ⟨cs, o1, o2, o3, o4⟩ := h.loc _ hm
  have hle : G.le (G.own v'.ownBlock (.grow (.fld t i g) cs)) := Gh.le_own (fun c hc => by rw [o4 c hc]; exact ⟨.fld t i g, [], by simp⟩)
  have hbo : v'.ownBlock ≠ some b := fun hvc => by rw [o4 b hvc] at hr; cases hr
  have hsame : ∀ c, c ≠ b → (w.setRow b (splice ce.toList [v'] off).toArray).heap[c]? = w.heap[c]? := fun c hc => setRow_other w b c _ hc
  have hv' : ownV (G.own v'.ownBlock (.grow (.fld t i g) cs)) (w.setRow b (splice ce.toList [v'] off).toArray) (.fld t i g) e bt q.k ys v' :=
    ⟨cs, ownsRow_keep o1 (fun c hc => hsame c (fun e => hbo (by rw [← e]; exact hc))), rowR_mono (fun x cs hx => Kr_mono hle hx) o2, o3, fun c hc => Gh.own_same hc⟩
  obtain ⟨⟨xs, hT1, hT2⟩, hT3⟩ := hT
  obtain ⟨xs0, ho1, ho2⟩ := ho
  rw [hT1] at ho1
  simp only [Option.some.injEq, Tab.mk.injEq, heq_eq_eq, true_and] at ho1
  subst ho1
  have hltx := (List.getElem?_eq_some_iff.1 ho2).1
  refine ⟨_, hle, ?_⟩
  refine h.change (fun c => v'.ownBlock = some c ∨ c = b) hle ⟨rfl, rfl, rfl⟩ ?_ (fun c hc => ⟨hsame c (fun e => hc (.inr e)), Gh.own_role (fun e => hc (.inl e))⟩) ?_ ?_ ?_ hnd ?_ ?_ ?_ ?_
  · intro c hc
    simp at hc
    rw [Gh.own_role (fun hvc => by have := h.free c hc; rw [o4 c hvc] at this; cases this)]
    exact h.free c hc
  · intro c hc
    rcases hc with hc | rfl
    · have := h.block c
      unfold BlockOK at this ⊢
      rw [o4 c hc] at this
      rw [Gh.own_same hc, hsame c (fun e => hbo (by rw [← e]; exact hc))]
      exact this
    · unfold BlockOK
      rw [Gh.own_role hbo, hr]
      refine ⟨_, x', _, ty, hT2, by simp [hltx], setRow_heap w c ce _ ty _ hh, ?_⟩
      have hk' := hk (L' := L2) hle hv' hh1 (fun f' hf => hh2 _ _ _ (fun e => hf e.2.2.symm)) (fun c2 f' hf hc2 => ⟨hsame c2 (fun e => by
        rw [e, hr] at hc2; rcases hc2 with hc2 | ⟨p, hc2⟩ <;> cases hc2), Gh.own_role (fun hvc => by
        rw [o4 c2 hvc] at hc2; rcases hc2 with hc2 | ⟨p, hc2⟩ <;> simp at hc2)⟩)
      have e0 : (splice ce.toList [v'] off).toArray.toList = ce.toList.set off v' := by rw [splice_one hlt]
      rw [e0]
      exact hk'
  · intro c t' i' hc hrc tab y cs' h1 h2 h3
    by_cases he : t = t' ∧ i = i'
    · obtain ⟨rfl, rfl⟩ := he
      exact absurd (.inr (h.inj c b t i hrc hr)) hc
    · have h3' : ObjR (w.setRow b (splice ce.toList [v'] off).toArray) (G.own v'.ownBlock (.grow (.fld t i g) cs)) L2 t' i' 0 tab.fs y cs' := by
        refine ObjR_keep (w := w) hle (fun f => hh2 _ _ _ (fun e => he ⟨e.1, e.2.1⟩)) (fun b2 f hb2 => ⟨hsame b2 (fun e => ?_), Gh.own_role (fun hvc => ?_)⟩) h3
        · subst e; rcases hb2 with hb2 | ⟨p, hb2⟩ <;> rw [hr] at hb2 <;> cases hb2
        · rw [o4 b2 hvc] at hb2; rcases hb2 with hb2 | ⟨p, hb2⟩ <;> simp at hb2
      by_cases ht : t' = t
      · subst ht
        rw [hT1] at h1
        simp only [Option.some.injEq] at h1; subst h1
        refine ⟨⟨fs, xs.set i x'⟩, y, hT2, ?_, h3'⟩
        show (xs.set i x')[i']? = some y
        rw [List.getElem?_set_ne (fun e => he ⟨rfl, e⟩)]; exact h2
      · exact ⟨tab, y, by rw [hT3 t' ht]; exact h1, h2, h3'⟩
  · intro l hl
    obtain ⟨hl1, hl2⟩ := hL2 l hl
    refine LSR_keep hle (fun c hc => ⟨hsame c (fun e => ?_), Gh.own_role (hl2 c hc)⟩) (h.loc l hl1)
    subst e
    rcases h.loc_role hl1 hc with h2 | ⟨p, h2⟩ <;> rw [hr] at h2 <;> cases h2
  · intro t' tab i' h1 h2
    have key : ∃ c, G.role c = .obj t' i' := by
      by_cases ht : t' = t
      · subst ht
        rw [hT2] at h1
        simp only [Option.some.injEq] at h1; subst h1
        exact h.ex _ _ i' hT1 (by simpa using h2)
      · rw [hT3 t' ht] at h1
        exact h.ex t' tab i' h1 h2
    obtain ⟨c, hc⟩ := key
    exact ⟨c, by rw [Gh.own_role (fun hvc => by rw [o4 c hvc] at hc; cases hc)]; exact hc⟩
  · intro c c' t' i' h1 h2
    have n1 : v'.ownBlock ≠ some c := fun hvc => by rw [Gh.own_same hvc] at h1; cases h1
    have n2 : v'.ownBlock ≠ some c' := fun hvc => by rw [Gh.own_same hvc] at h2; cases h2
    rw [Gh.own_role n1] at h1
    rw [Gh.own_role n2] at h2
    exact h.inj c c' t' i' h1 h2
  · intro c c' t' i' f' h1 h2
    have n1 : v'.ownBlock ≠ some c := fun hvc => by rw [Gh.own_same hvc] at h1; cases h1
    have n2 : v'.ownBlock ≠ some c' := fun hvc => by rw [Gh.own_same hvc] at h2; cases h2
    rw [Gh.own_role n1] at h1
    rw [Gh.own_role n2] at h2
    exact h.finj c c' t' i' f' h1 h2
  · intro c t' i' f' h1
    have n1 : v'.ownBlock ≠ some c := fun hvc => by rw [Gh.own_same hvc] at h1; cases h1
    rw [Gh.own_role n1] at h1
    obtain ⟨tab, k1, k2⟩ := h.fex c t' i' f' h1
    by_cases ht : t' = t
    · subst ht
      rw [hT1] at k1
      simp only [Option.some.injEq] at k1; subst k1
      exact ⟨_, hT2, by simpa using k2⟩
    · exact ⟨tab, by rw [hT3 t' ht]; exact k1, k2⟩
end

/-! ### The steps -/
section
variable {P : Program} {w : World} {G : Gh} {T T' : Tabs} {Ls : List LS} {a : Act} {N : Nat} {E : Env} {ops : Array Oper} {Q : Exit → Act → World → Prop}

theorem run_loadCell {ty : TypeId} {b off : Nat} {ce : Array Value} {tb : TypeId} {fr : Nat × Nat} {v : Value} (h1 : sizeT P ty = some 1) (h2 : aggT P ty = some false)
    (hh : w.heap[b]? = some (.cells ce tb fr)) (h : ce[off]? = some v) : (Instr.loadAt ty (.pointer (some ⟨b, off, none⟩))).run P w = .ok v w := by
  have hc : w.cell? ⟨b, off, none⟩ = some v := by rw [cell_at hh]; exact h
  simp [Instr.loadAt, Instr.sureAddr, loadVar, run_isAgg h2, hc]

def ldoE (P : Program) (ops : Array Oper) (E : Env) (i : Nat) : Option (Nat × Nat × Nat × Option Nat) :=
  match ops[i]? with
  | some o => (match goes ops (look E []) o, o.op with
    | true, .load ty x => (match sizeT P ty, aggT P ty, opnd (look E []) [] x with
      | some 1, some false, some (.fldA t j off) => some (t, j, off, o.dst)
      | _, _, _ => none)
    | _, _ => none)
  | none => none

/-- A field's own list is taken out of it, where it is loaded. -/
theorem stepTake {t j off : Nat} {fs : List Fk} {x : denFs fs} {g e bt : Nat} {q : KL} {d : Option Nat} {i : Nat} (hE : EnvR G N a E) (hH : Holds w G T Ls) (hN : NoHole Ls) (hb : ldoE P ops E i = some (t, j, off, d)) (ho : ObAt T t j fs x) (hown : ownO fs x off 0 = some (g, e, bt, q)) (hd : dstOK d N = true)
    (k : ∀ v a' w' G', G.le G' → EnvR G' N a' (putE d (.tl v q.k q.xs) E) → Holds w' G' T (.tk v e bt q.k q.xs :: .hole t j g v :: Ls) → wpFrom P ops Q (i + 1) a' w') : wpFrom P ops Q i a w := by
  unfold ldoE at hb
  split at hb
  · rename_i o ho'
    split at hb
    · rename_i ty y hg hop
      split at hb
      · rename_i t' j' off' hs hag hx
        simp only [Option.some.injEq, Prod.mk.injEq] at hb
        obtain ⟨rfl, rfl, rfl, rfl⟩ := hb
        obtain ⟨b, hrb, hv⟩ := opnd_ok (CurR_start hE) (by simp) hx
        obtain ⟨v, G', ce, tb, hh, hc, hle, hvr, hH'⟩ := hH.take hrb ho hown (hN _ _ _)
        have hlt := (Array.getElem?_eq_some_iff.1 hc).1
        have hrun := run_loadCell (P := P) (w := w) hs hag hh hc
        refine wpFrom_value ho' (goes_ok (CurR_start hE) hg) (v := v) (w' := w) ?_ (k v _ _ _ hle ((hE.mono hle).putO hd ⟨rfl, hvr⟩) hH')
        simp only [execOp, hop, hv]
        exact run_val hrun
      · cases hb
    · cases hb
  · cases hb

def stoE (P : Program) (ops : Array Oper) (E : Env) (i : Nat) : Option (Nat × Nat × Nat × Value) :=
  match ops[i]? with
  | some o => (match goes ops (look E []) o, o.op, o.dst with
    | true, .store ty x y, none => (match sizeT P ty, opnd (look E []) [] x, opnd (look E []) [] y with
      | some 1, some (.fldA t j off), some (.tl v _ _) => some (t, j, off, v)
      | _, _, _ => none)
    | _, _, _ => none)
  | none => none

/-- An own list is stored into a field. -/
theorem stepPut {t j off : Nat} {fs : List Fk} {x x' : denFs fs} {g e bt : Nat} {q : KL} {ys : List q.k.den} {v : Value} {L2 : List LS} {i : Nat} (hE : EnvR G N a E) (hH : Holds w G T Ls) (hb : stoE P ops E i = some (t, j, off, v)) (ho : ObAt T t j fs x) (hown : ownO fs x off 0 = some (g, e, bt, q)) (hset : setO fs x off q.k ys = some x') (hT : UpdT T T' t j fs x')
    (hm : .tk v e bt q.k ys ∈ Ls) (hL2 : ∀ l ∈ L2, l ∈ Ls ∧ (∀ c, l.blk = some c → v.ownBlock ≠ some c)) (hnd : (L2.filterMap LS.blk).Nodup)
    (hh1 : holeAt t j g L2 = none) (hh2 : ∀ t' i' f', ¬ (t = t' ∧ j = i' ∧ g = f') → holeAt t' i' f' L2 = holeAt t' i' f' Ls)
    (k : ∀ w' G', G.le G' → EnvR G' N a E → Holds w' G' T' L2 → wpFrom P ops Q (i + 1) a w') : wpFrom P ops Q i a w := by
  unfold stoE at hb
  split at hb
  · rename_i o ho'
    split at hb
    · rename_i ty y z hg hop hdst
      split at hb
      · rename_i t' j' off' u k' xs hs hx hy
        simp only [Option.some.injEq, Prod.mk.injEq] at hb
        obtain ⟨rfl, rfl, rfl, rfl⟩ := hb
        obtain ⟨b, hrb, hv⟩ := opnd_ok (CurR_start hE) (by simp) hx
        obtain ⟨hz, hvl⟩ := opnd_ok (CurR_start hE) (by simp) hy
        obtain ⟨ce, tb, hh, hob⟩ := hH.at hrb ho
        obtain ⟨hlt, G', hle, hH'⟩ := hH.putO hrb hh ho hown hset hT hm hL2 hnd hh1 hh2
        refine stepS (G := G) ho' hg hdst hE ⟨_, G', ?_, hle, hH'⟩ k
        obtain ⟨B, c, hul, _⟩ := list_slice hvl
        have hcells : u.cells.toList = [u] := by rw [← hz, hul]; rfl
        rw [hz] at hvl
        have hst := run_storeAt (P := P) (k := .list k') (z := xs) (off := off') (v := u) hs hh hvl (by rw [hcells]; simp; omega)
        rw [hcells] at hst
        simp only [execOp, hop, hv, hz]
        exact run_unit hst
      · cases hb
    · cases hb
  · cases hb

theorem blk_apart {v : Value} {e bt : Nat} {k : Kd} {ys : List k.den} {L0 L2 : List LS} (hnd : ((.tk v e bt k ys :: L0 : List LS).filterMap LS.blk).Nodup) (hs : L2.Sublist L0) : (L2.filterMap LS.blk).Nodup ∧ ∀ l ∈ L2, ∀ c, l.blk = some c → v.ownBlock ≠ some c := by
  have h0 : (L0.filterMap LS.blk).Nodup := by
    cases hb : v.ownBlock with
    | none => rwa [List.filterMap_cons_none (show LS.blk (.tk v e bt k ys) = none from hb)] at hnd
    | some b => rw [List.filterMap_cons_some (show LS.blk (.tk v e bt k ys) = some b from hb)] at hnd; exact (List.nodup_cons.1 hnd).2
  refine ⟨(hs.filterMap _).nodup h0, fun l hl c hc hvc => ?_⟩
  rw [List.filterMap_cons_some (show LS.blk (.tk v e bt k ys) = some c from hvc)] at hnd
  exact (List.nodup_cons.1 hnd).1 (List.mem_filterMap.2 ⟨l, hs.subset hl, hc⟩)

/-- An own list is stored into the field that it was taken out of. -/
theorem stepPutH {t j off : Nat} {fs : List Fk} {x x' : denFs fs} {g e bt : Nat} {q : KL} {ys : List q.k.den} {v u : Value} {L2 : List LS} {i : Nat} (hE : EnvR G N a E) (hH : Holds w G T (.tk v e bt q.k ys :: .hole t j g u :: L2)) (hN : NoHole L2) (hb : stoE P ops E i = some (t, j, off, v)) (ho : ObAt T t j fs x) (hown : ownO fs x off 0 = some (g, e, bt, q)) (hset : setO fs x off q.k ys = some x') (hT : UpdT T T' t j fs x')
    (k : ∀ w' G', G.le G' → EnvR G' N a E → Holds w' G' T' L2 → wpFrom P ops Q (i + 1) a w') : wpFrom P ops Q i a w := by
  obtain ⟨h1, h2⟩ := blk_apart hH.nd (List.sublist_cons_self (.hole t j g u) L2)
  refine stepPut hE hH hb ho hown hset hT List.mem_cons_self (fun l hl => ⟨List.mem_cons_of_mem _ (List.mem_cons_of_mem _ hl), h2 l hl⟩) h1 (hN _ _ _) (fun t' i' f' hne => ?_) k
  rw [holeAt_cons (fun _ _ _ => rfl), holeAt_hole, if_neg hne]

/-- An own list is stored into a field, whose elder list is let go. -/
theorem stepPutN {t j off : Nat} {fs : List Fk} {x x' : denFs fs} {g e bt : Nat} {q : KL} {ys : List q.k.den} {v : Value} {L2 : List LS} {i : Nat} (hE : EnvR G N a E) (hH : Holds w G T (.tk v e bt q.k ys :: L2)) (hN : NoHole L2) (hb : stoE P ops E i = some (t, j, off, v)) (ho : ObAt T t j fs x) (hown : ownO fs x off 0 = some (g, e, bt, q)) (hset : setO fs x off q.k ys = some x') (hT : UpdT T T' t j fs x')
    (k : ∀ w' G', G.le G' → EnvR G' N a E → Holds w' G' T' L2 → wpFrom P ops Q (i + 1) a w') : wpFrom P ops Q i a w := by
  obtain ⟨h1, h2⟩ := blk_apart hH.nd (List.Sublist.refl L2)
  refine stepPut hE hH hb ho hown hset hT List.mem_cons_self (fun l hl => ⟨List.mem_cons_of_mem _ hl, h2 l hl⟩) h1 (hN _ _ _) (fun t' i' f' hne => ?_) k
  rw [holeAt_cons (fun _ _ _ => rfl)]

def alcE (P : Program) (ops : Array Oper) (E : Env) (i : Nat) : Option (TypeId × Option Nat) :=
  match ops[i]? with
  | some o => (match goes ops (look E []) o, o.op with
    | true, .alloc e => (match zeroOf P e with
      | some (.slice none 0 0) => some (e, o.dst)
      | _ => none)
    | _, _ => none)
  | none => none

theorem ownV_nil (G : Gh) (w : World) (o : Own) (e bt : Nat) (k : Kd) : ownV G w o e bt k [] (.slice none 0 0) :=
  ⟨[], World.ownsRow_nil w 0 e k.w, trivial, trivial, fun b hb => by simp [Value.ownBlock] at hb⟩

/-- A variable that is caught, and that is a list of its own. -/
theorem stepAllocO (k0 : Kd) (e0 bt : Nat) {t j : Nat} {e : TypeId} {d : Option Nat} {i : Nat} (hE : EnvR G N a E) (hH : Holds w G T Ls) (hN : NoHole Ls) (hb : alcE P ops E i = some (e, d)) (hd : dstOK d N = true)
    (hT : AddT T T' t j [.own e0 bt k0] ([], ()))
    (k : ∀ a' w' G', G.le G' → EnvR G' N a' (putE d (.fldA t j 0) E) → Holds w' G' T' Ls → wpFrom P ops Q (i + 1) a' w') : wpFrom P ops Q i a w := by
  unfold alcE at hb
  split at hb
  · rename_i o ho
    split at hb
    · rename_i e' hg hop
      split at hb
      · rename_i hz
        simp only [Option.some.injEq, Prod.mk.injEq] at hb
        obtain ⟨rfl, rfl⟩ := hb
        refine wpFrom_value ho (goes_ok (CurR_start hE) hg) (v := .pointer (some ⟨w.heap.size, 0, none⟩)) (w' := w.alloc (.cells (Value.slice none 0 0).cells e')) ?_
          (k _ _ _ (Gh.le_new hH _) ((hE.mono (Gh.le_new hH (.obj t j))).putO hd ⟨w.heap.size, Gh.set_same _ _ _, rfl⟩) (hH.newObj hT e' ⟨[.slice none 0 0], [], rfl, ?_, rfl⟩))
        · have hz' : (zeroValue e').run P w = .ok (.slice none 0 0) w := by
            unfold zeroOf at hz
            split at hz
            · rename_i it hit; simp [zeroValue, typeInfo, hit, hz]
            · simp at hz
          simp only [execOp, hop]
          exact run_val (by simp [Instr.alloc, newVar, newRow, hz'])
        · rw [hN t j 0]
          exact ⟨_, rfl, ownV_nil _ _ _ _ _ _⟩
      · cases hb
    · cases hb
  · cases hb
end
end Go.Proofs.Ytlfemhkabjafeaa.M

/- Own library, part 24: the library's sort upon an unseen list of numbers. -/
set_option linter.unusedVariables false
set_option linter.unusedSimpArgs false
namespace Go.Proofs.Ytlfemhkabjafeaa.M

section
variable {P : Program} {w : World} {G : Gh} {T T' : Tabs} {Ls Ls' : List LS} {a : Act} {N : Nat} {E : Env} {ops : Array Oper} {Q : Exit → Act → World → Prop}

theorem rowR_ints : ∀ {xs : List Int} {cs : List Value}, rowR (Kr G .i) 1 xs cs → cs.take xs.length = xs.map (Value.int .i64)
  | [], cs, _ => by simp
  | x :: xs, cs, ⟨h0, h1, h2⟩ => by
    cases cs with
    | nil => simp at h0
    | cons c cs =>
      simp only [List.take_succ_cons, List.take_zero] at h1
      have hc : c = (Value.int .i64 x) := by
        have := h1; simp only [Kr] at this
        simpa using this
      simp only [List.length_cons, List.take_succ_cons, List.map_cons]
      rw [rowR_ints (by simpa using h2), hc]

theorem rowR_ofInts : ∀ {xs : List Int}, rowR (Kr G .i) 1 xs (xs.map (Value.int .i64))
  | [] => trivial
  | x :: xs => ⟨by simp, by simp [Kr], by simpa using rowR_ofInts (xs := xs)⟩

/-- The list has been sorted in place; new blocks may have come. -/
theorem Holds.rawSortedI (h : Holds w G T Ls) {j g c e bt n : Nat} {xs ts : List Int} {os : Array Obj} (hj : Ls[j]? = some (.raw (.slice (some ⟨g, 0, none⟩) xs.length c) e bt .i xs)) (hl : ts.length = xs.length) :
    Holds (Go.Sort.grow (Go.Sort.putRow (Value.int .i64) (Go.Sort.ahead w n) g 0 ts.toArray) os) G T (Ls.set j (.raw (.slice (some ⟨g, 0, none⟩) xs.length c) e bt .i ts)) := by
  obtain ⟨cs, o1, o2, o3, o4⟩ := h.loc _ (List.mem_of_getElem? hj)
  obtain ⟨q1, q2, q3, q4, q5⟩ := grownBy_sortedI (w := w) (g := g) (n := n) (os := os) ts.toArray
  have hrg : G.role g = .loc := o4 g rfl
  have hglt : g < w.heap.size := h.lt (by rw [hrg]; simp)
  rcases o1.2 with ⟨hn, _⟩ | ⟨g', cap, cur, hv, hb0, hb, h1, h2, h3, h4⟩
  · simp at hn
  · simp only [Value.slice.injEq, Option.some.injEq, Addr.mk.injEq, and_true, true_and] at hv
    obtain ⟨rfl, rfl⟩ := hv
    have hown := ownsRow_sortedI (w := w) (n := n) (os := os) (ss := xs) (ts := ts) hl (Nat.zero_le _) hb h1 h2 (by simpa [Kd.w] using h3)
    have hsame : ∀ b, ¬ (b = g ∨ w.heap.size ≤ b) → (Go.Sort.grow (Go.Sort.putRow (Value.int .i64) (Go.Sort.ahead w n) g 0 ts.toArray) os).heap[b]? = w.heap[b]? := fun b hb' => q5 b (by omega) (fun he => by simp at he; exact hb' (.inl (by first | exact he | exact he.symm)))
    have hnb : ∀ b, G.role b ≠ .free → G.role b ≠ .loc → ¬ (b = g ∨ w.heap.size ≤ b) := by
      rintro b k1 k2 (rfl | hb')
      · exact k2 hrg
      · exact k1 (h.free b hb')
    refine h.change (fun b => b = g ∨ w.heap.size ≤ b) (Gh.le_refl G) ⟨q1, q2, q3⟩ (fun b hb' => h.free b (by omega)) (fun b hb' => ⟨hsame b hb', rfl⟩) ?_ ?_ ?_ ?_ h.ex h.inj h.finj h.fex
    · rintro b (rfl | hb')
      · unfold BlockOK; rw [hrg]; trivial
      · unfold BlockOK; rw [h.free b hb']; trivial
    · intro b t i _ _ tab x cs' k1 k2 k3
      refine ⟨tab, x, k1, k2, ObjR_keep (w := w) (L := Ls) (Gh.le_refl G) (holeAt_set hj (fun _ _ _ => rfl) (fun _ _ _ => rfl) t i) (fun b f hb' => ⟨hsame b (hnb b ?_ ?_), rfl⟩) k3⟩
      · rcases hb' with hb' | ⟨p, hb'⟩ <;> rw [hb'] <;> simp
      · rcases hb' with hb' | ⟨p, hb'⟩ <;> rw [hb'] <;> simp
    · intro l hl'
      rcases mem_set_other hj (b := g) rfl h.nd hl' with rfl | ⟨hl', hne⟩
      · refine ⟨ts.map (Value.int .i64), ?_, rowR_ofInts, o3, o4⟩
        rw [hl]; exact hown
      · refine LSR_keep (Gh.le_refl G) (fun b hb' => ⟨hsame b ?_, rfl⟩) (h.loc l hl')
        rintro (rfl | hge)
        · exact hne hb'
        · have := h.blk_lt hl' hb'; omega
    · exact nodup_set hj rfl h.nd


/-- The unseen list ahead is published. -/
theorem Holds.pub0 {v : Value} {e bt : Nat} {K : Kd} {xs : List K.den} (hH : Holds w G T (.raw v e bt K xs :: Ls)) : ∃ G', G.le G' ∧ VR G' (.list K) xs v ∧ Holds w G' T Ls := by
  have hnd := hH.nd
  refine hH.rawPub (Ls' := Ls) List.mem_cons_self (fun l hlm => ?_) (fun _ _ _ => rfl) ?_
  · cases hb : l.blk with
    | none => exact .inr ⟨rfl, List.mem_cons_of_mem _ hlm⟩
    | some b =>
      refine .inl ⟨List.mem_cons_of_mem _ hlm, fun he => ?_⟩
      rw [List.filterMap_cons_some (show LS.blk (.raw v e bt K xs) = some b from he.symm)] at hnd
      exact (List.nodup_cons.1 hnd).1 (List.mem_filterMap.2 ⟨l, hlm, hb⟩)
  · cases hb : LS.blk (.raw v e bt K xs) with
    | none => rwa [List.filterMap_cons_none hb] at hnd
    | some b => rw [List.filterMap_cons_some hb] at hnd; exact (List.nodup_cons.1 hnd).2

theorem one_val {v : Value} {args : List Value} (h : All2 (EnR G) [.val v] args) : args = [v] := by
  cases args with
  | nil => exact h.elim
  | cons u r =>
    cases r with
    | nil => have : u = v := h.1; rw [this]
    | cons _ _ => exact h.2.elim
end
end Go.Proofs.Ytlfemhkabjafeaa.M

/- Own library, part 25: new objects with lists of their own; an append of a list onto an empty one. -/
set_option linter.unusedVariables false
set_option linter.unusedSimpArgs false
namespace Go.Proofs.Ytlfemhkabjafeaa.M

section
variable {P : Program} {w : World} {G : Gh} {T T' : Tabs} {Ls : List LS} {a : Act} {N : Nat} {E : Env} {ops : Array Oper} {Q : Exit → Act → World → Prop}

/-- A pointer, by its value. -/
theorem EnvR.ptr (hE : EnvR G N a E) (s : Nat) {t : Nat} {p : Option Nat} (h : lk E s = some (.kv (.ptr t) p)) : ∃ u, EnvR G N a ((s, .val (.pointer u)) :: E) ∧ ptrR G t p u := by
  have h0 := hE.2.2 s _ h
  obtain ⟨u, hu, hp⟩ := unP h0
  refine ⟨u, ⟨hE.1, hE.2.1, fun r e2 ht => ?_⟩, hp⟩
  rw [lk_cons] at ht
  by_cases hst : s = r
  · subst hst
    simp at ht; subst ht
    exact hu
  · rw [if_neg hst] at ht; exact hE.2.2 r _ ht

/-- A struct's value becomes an object, whose own lists are empty. -/
theorem stepNewX (v : Value) {t j : Nat} {fs : List Fk} {x : denFs fs} {e : TypeId} {d : Option Nat} {i : Nat} (hE : EnvR G N a E) (hH : Holds w G T Ls) (hN : NoHole Ls) (hb : boxVE ops E i = some (v, e, d)) (hd : dstOK d N = true)
    (hob : ∀ (w2 : World) (G2 : Gh), G.le G2 → (∀ f, holeAt t j f Ls = none) → ObjR w2 G2 Ls t j 0 fs x v.cells.toList) (hT : AddT T T' t j fs x)
    (k : ∀ a' w' G', G.le G' → EnvR G' N a' (putE d (.fldA t j 0) E) → Holds w' G' T' Ls → wpFrom P ops Q (i + 1) a' w') : wpFrom P ops Q i a w := by
  unfold boxVE at hb
  split at hb
  · rename_i o ho
    split at hb
    · rename_i e' x0 hg hop
      split at hb
      · rename_i v' hy
        simp only [Option.some.injEq, Prod.mk.injEq] at hb
        obtain ⟨rfl, rfl, rfl⟩ := hb
        have hv : a.eval x0 = v' := opnd_ok (CurR_start hE) (by simp) hy
        refine wpFrom_value ho (goes_ok (CurR_start hE) hg) (v := .pointer (some ⟨w.heap.size, 0, none⟩)) (w' := w.alloc (.cells v'.cells e')) ?_
          (k _ _ _ (Gh.le_new hH _) ((hE.mono (Gh.le_new hH (.obj t j))).putO hd ⟨w.heap.size, Gh.set_same _ _ _, rfl⟩) (hH.newObj hT e' (hob _ _ (Gh.le_new hH _) (fun f => hN t j f))))
        simp only [execOp, hop, hv]
        exact run_val (by simp [Instr.box, newVar, newRow])
      · simp at hb
    · simp at hb
  · simp at hb

def bszE (P : Program) (ops : Array Oper) (E : Env) (i : Nat) : Option (TypeId × Option Nat) :=
  match ops[i]? with
  | some o => (match goes ops (look E []) o, o.op with
    | true, .buildSlice t 0 parts => (match P.underlying t, parts.toList with
      | some (.slice el), [] => (match sizeT P el, zeroOf P el with
        | some _, some _ => some (el, o.dst)
        | _, _ => none)
      | _, _ => none)
    | _, _ => none)
  | none => none

/-- A slice without elements. -/
theorem stepBuildZ {el : TypeId} {d : Option Nat} {i : Nat} (hE : EnvR G N a E) (hH : Holds w G T Ls) (hb : bszE P ops E i = some (el, d)) (hd : dstOK d N = true)
    (k : ∀ b a' w' G', G.le G' → G'.role b = .pub (.cells #[] el (0, 0)) → EnvR G' N a' (putE d (.val (.slice (some ⟨b, 0, none⟩) 0 0)) E) → Holds w' G' T Ls → wpFrom P ops Q (i + 1) a' w') : wpFrom P ops Q i a w := by
  unfold bszE at hb
  split at hb
  · rename_i o ho
    split at hb
    · rename_i t parts hg hop
      split at hb
      · rename_i el' hu hp
        split at hb
        · rename_i sz z hs hz
          simp only [Option.some.injEq, Prod.mk.injEq] at hb
          obtain ⟨rfl, rfl⟩ := hb
          refine wpFrom_value ho (goes_ok (CurR_start hE) hg) (v := .slice (some ⟨w.heap.size, 0, none⟩) 0 0) (w' := w.alloc (.cells #[] el')) ?_
            (k w.heap.size _ _ _ (Gh.le_new hH (.pub (.cells #[] el' (0, 0)))) (Gh.set_same _ _ _) ((hE.mono (Gh.le_new hH _)).putO hd rfl) ?_)
          · simp only [execOp, hop]
            refine run_val ?_
            unfold Instr.buildSlice
            rw [run_und hu]
            simp only [Sem.run_bind, run_sizeOf hs, Result.andThen_ok]
            have he : ∀ f : Nat → Value, (Array.range 0).map f = #[] := fun f => by apply Array.ext'; simp
            simp [hp, Instr.fill, newRow, he]
          · exact hH.allocPub _
        · simp at hb
      · simp at hb
    · simp at hb
  · simp at hb

theorem rowR_one {K : Kd} : ∀ {xs : List K.den} {cs : List Value}, rowR (Kr G K) K.w xs cs → ∀ u ∈ cs.take (xs.length * K.w), u.oneCell' = true
  | [], cs, _, u, hu => by simp at hu
  | x :: xs, cs, ⟨h1, h2, h3⟩, u, hu => by
    have e : (x :: xs).length * K.w = K.w + xs.length * K.w := by rw [List.length_cons, Nat.add_mul, Nat.one_mul, Nat.add_comm]
    rw [e, List.take_add] at hu
    rcases List.mem_append.1 hu with hu | hu
    · exact Kr_cells1 h2 u hu
    · exact rowR_one h3 u hu

theorem append_core0 {t ty e : TypeId} {inf : TypeInfo} {K : Kd} {bt g : Nat} {news : List Value} (ht : P.underlying t = some (.slice e)) (hi : P.info? e = some inf) (hok : infOK inf K bt = true)
    (hown : w.ownsRow 0 e K.w (.slice (some ⟨g, 0, none⟩) 0 0) 0 []) (ad : Addr) (m c : Nat) (hl : news.length = m * K.w) (hnews : ∀ j u, news[j]? = some u → w.cell? (ad.add j) = some u) (h1 : ∀ u ∈ news, u.oneCell' = true)
    (hm : 0 < m) (hB : m * bt ≤ 140737488355328) :
    ∃ v' w', (Builtin.append_ #[t, t] ty #[.slice (some ⟨g, 0, none⟩) 0 0, .slice (some ad) m c]).run P w = .ok v' w' ∧ w'.ownsRow 0 e K.w v' m news ∧ (w'.os = w.os ∧ w'.tape = w.tape ∧ w'.output = w.output) ∧
      v'.ownBlock = some w.heap.size ∧ w'.heap.size = w.heap.size + 1 ∧ ∀ b, b ≠ w.heap.size → w'.heap[b]? = w.heap[b]? := by
  unfold infOK at hok
  simp only [Bool.and_eq_true] at hok
  obtain ⟨k1, k2, k3, k4, k5⟩ := hok
  have hsize := Nat.eq_of_beq_eq_true k1
  have hby := Nat.eq_of_beq_eq_true k2
  have hsz : 0 < K.w := Nat.le_of_ble_eq_true k3
  have hb0 : 0 < bt := Nat.le_of_ble_eq_true k4
  cases hz : inf.zero with
  | none => rw [hz] at k5; simp at k5
  | some z =>
    rw [hz] at k5
    have hzs := Nat.eq_of_beq_eq_true k5
    have hmb : m ≤ m * bt := Nat.le_mul_of_pos_right _ hb0
    have h63 : 0 + m ≤ maxLen := by simp only [maxLen]; omega
    have hB' : (0 + m) * bt ≤ 140737488355328 := by rw [Nat.zero_add]; exact hB
    obtain ⟨v', w', hr, h2, h3, h4⟩ := run_append_own (P := P) w 0 t ty e inf z K.w bt ht hi hz hsize hby hzs hsz _ 0 [] hown ad m c news hl hnews h1 h63 hB' (Nat.zero_le _)
    rw [Nat.zero_add, List.nil_append] at h2
    refine ⟨v', w', hr, h2, ⟨h3.os, h3.tape, h3.output⟩, ?_⟩
    have hrg := run_append_grow (P := P) w t ty e inf z ht hi hz ⟨g, 0, none⟩ 0 0 [] (by simp) (fun j u hju => by simp at hju) ad m c news (by rw [hl, hsize]) hnews (by omega) (by omega) (growslice_fits (by omega) (by rw [hby]; exact hB'))
    rw [hrg] at hr
    simp only [Result.ok.injEq] at hr
    obtain ⟨hv, hw⟩ := hr
    refine ⟨by rw [← hv]; rfl, ?_, ?_⟩
    · rw [← hw]; simp
    · intro b hb
      rw [← hw]
      exact (heap_alloc_ne w.drew _ (by simpa using hb)).trans rfl

/-- An append of a list onto an empty one: a list of the call's own. -/
theorem stepAppN {b : Nat} {bt : Nat} {K : Kd} {ys : List K.den} {e' : TypeId} {d : Option Nat} {i : Nat} (hE : EnvR G N a E) (hH : Holds w G T Ls) (hbr : G.role b = .pub (.cells #[] e' (0, 0)))
    (hb : appE P ops E i K bt = some (.val (.slice (some ⟨b, 0, none⟩) 0 0), .kv (.list K) ys, e', d)) (hd : dstOK d N = true) (hne : 0 < ys.length) (hq : ys.length * bt ≤ 140737488355328)
    (k : ∀ v' a' w' G', G.le G' → EnvR G' N a' (putE d (.tl v' K ys) E) → Holds w' G' T (.tk v' e' bt K ys :: Ls) → wpFrom P ops Q (i + 1) a' w') : wpFrom P ops Q i a w := by
  unfold appE at hb
  split at hb
  · rename_i o ho
    split at hb
    · rename_i c hg hop
      split at hb
      · rename_i s x t u hcal hargs hts
        split at hb
        · rename_i el es ex htu hu hs hx
          split at hb
          · rename_i inf hinf
            have hok : infOK inf K bt = true := by
              cases hq : infOK inf K bt with
              | true => rfl
              | false => rw [hq] at hb; simp at hb
            rw [hok] at hb
            simp only [Option.some.injEq, Prod.mk.injEq] at hb
            obtain ⟨rfl, rfl, rfl, rfl⟩ := hb
            have htu' := Nat.eq_of_beq_eq_true htu
            subst htu'
            have hsv := opnd_ok (CurR_start hE) (by simp) hs
            have hv2 := opnd_ok (CurR_start hE) (by simp) hx
            simp only [EnR] at hsv
            obtain ⟨A, cp, hxv, hcp, hA⟩ := unL hv2
            rcases hA with rfl | ⟨b2, off, p, rfl, hp, hrow⟩
            · simp at hne
            obtain ⟨ce, ty2, fr, rest, hh2, hce⟩ := hH.pre_cells hp
            have hop' : o.op = .call { callee := .builtin .append, args := #[s, x], argTypes := #[t, t] } := by
              rw [hop]
              congr 1
              cases c with
              | mk ca ar at_ =>
                simp only at hcal hargs hts
                subst hcal
                congr 1
                · rw [← hargs]
                · rw [← hts]
            have hblk : w.heap[b]? = some (.cells #[] el (0, 0)) := by
              have := hH.block b; unfold BlockOK at this; rw [hbr] at this; exact this
            have hlen := rowR_len hrow
            have hnl : ((p.drop off).take (ys.length * K.w)).length = ys.length * K.w := by rw [List.length_take]; omega
            have hcell : ∀ jj uu, ((p.drop off).take (ys.length * K.w))[jj]? = some uu → w.cell? ((⟨b2, off, none⟩ : Addr).add jj) = some uu := fun jj uu hq2 => by
              rw [addr_add, cell_at hh2, ← Array.getElem?_toList, hce]
              have hjl := (List.getElem?_eq_some_iff.1 hq2).1
              rw [hnl] at hjl
              rw [List.getElem?_take_of_lt hjl, List.getElem?_drop] at hq2
              rw [List.getElem?_append_left (List.getElem?_eq_some_iff.1 hq2).1]; exact hq2
            have hown : w.ownsRow 0 el K.w (.slice (some ⟨b, 0, none⟩) 0 0) 0 [] := ⟨by simp, .inr ⟨b, 0, #[], rfl, Nat.zero_le _, hblk, Nat.le_refl _, Nat.zero_le _, by simp, by simp⟩⟩
            obtain ⟨v', w', hr, h2, h3, h4, h5, h6⟩ := append_core0 (P := P) (w := w) (ty := o.type) (bt := bt) hu hinf hok hown ⟨b2, off, none⟩ ys.length cp hnl hcell (rowR_one hrow) hne hq
            have hrow2 := rowR_cut hrow
            have hH1 := hH.nilTk el bt K
            obtain ⟨G', hle, hvr, hH'⟩ := hH1.appended (j := 0) (v' := v') (xs := []) (ys := ys) (cs := []) (news := (p.drop off).take (ys.length * K.w)) rfl (World.ownsRow_nil w 0 el K.w) trivial (fun b hb => by simp [Value.ownBlock] at hb) hrow2 (by simpa using h2) trivial h3 (.inr ⟨h4, h5, h6⟩)
            refine wpFrom_value ho (goes_ok (CurR_start hE) hg) (v := v') (w' := w') ?_ (k v' _ _ G' hle ((hE.mono hle).putO hd ⟨rfl, by simpa using hvr⟩) (by simpa using hH'))
            simp only [execOp, hop', resolve, invoke, builtin, Sem.run_bind, Sem.run_pure, Result.andThen_ok, List.map_toArray, List.map_cons, List.map_nil, hsv, hxv, hr]
          · simp at hb
        · simp at hb
      · simp at hb
    · simp at hb
  · simp at hb
end
end Go.Proofs.Ytlfemhkabjafeaa.M

/- Own library, part 26: contracts whose result is a list of its own, or that turn the caller's own variables; closures over exact variables. -/
set_option linter.unusedVariables false
set_option linter.unusedSimpArgs false
namespace Go.Proofs.Ytlfemhkabjafeaa.M

/-- What a call leaves, by a value that it comes to. -/
def PostF (G : Gh) (R : Value → En) (T' : Tabs) (F : Value → List LS) : Ending → World → Prop
  | .returned u, w' => ∃ v G', G.le G' ∧ EnR G' (R v) u ∧ Holds w' G' T' (F v)
  | .outgrown, _ => False
  | .panicked _, _ => False

section
variable {P : Program} {w : World} {G : Gh} {T T' : Tabs} {Ls : List LS} {a : Act} {N : Nat} {E : Env} {ops : Array Oper} {Q : Exit → Act → World → Prop}

abbrev PostX (P : Program) (fn : Func) (G : Gh) (R : Value → En) (T' : Tabs) (F : Value → List LS) : Exit → Act → World → Prop := bodyPost P fn (PostF G R T' F)

theorem introX {f : Nat} {fn : Func} {c : Code} {As : List En} {R : Value → En} {F : Value → List LS} {args : List Value} (hf : P.funcs[f]? = some fn) (hb : fn.body = some c) (hn : Nat.ble As.length fn.ntmps = true) (hA : All2 (EnR G) As args)
    (h : ∀ (a : Act), EnvR G fn.ntmps a (envOf 0 As) → c.wp P (PostX P fn G R T' F) a w) : Calls P f args.toArray w (PostF G R T' F) := by
  have hlen : As.length = args.length := hA.length
  have hle : args.length ≤ fn.ntmps := by rw [← hlen]; exact Nat.le_of_ble_eq_true hn
  refine calls_of_wp hf hb (h _ ⟨?_, rfl, ?_⟩)
  · simp; omega
  · refine envOf_ok hA (fun j hj => ?_)
    rw [Nat.zero_add, Array.getElem?_append_left (by simpa using hj)]
    simp

theorem retX0 {fn : Func} {G0 : Gh} {F : Value → List LS} (v : Value) (hr : fn.results = #[]) (hE : EnvR G N a E) (hle : G0.le G) (hH : Holds w G T (F v)) : PostX P fn G0 (fun _ => .tup []) T F .ret a w :=
  ⟨hE.2.1, .tuple #[], results_none hr _ _ _, v, G, hle, ⟨#[], rfl, trivial⟩, hH⟩

theorem endX0 {fn : Func} {G0 : Gh} {F : Value → List LS} (v : Value) (hr : fn.results = #[]) (hE : EnvR G N a E) (hle : G0.le G) (hH : Holds w G T (F v)) : PostX P fn G0 (fun _ => .tup []) T F .normal a w :=
  ⟨hE.2.1, .tuple #[], results_none hr _ _ _, v, G, hle, ⟨#[], rfl, trivial⟩, hH⟩

/-- A list of its own, and a number, are the results. -/
theorem retXO {fn : Func} {t1 t2 : Nat} {G0 : Gh} {F : Value → List LS} {k : IntKind} {n : Int} {v : Value} {K : Kd} {xs : List K.den} (hr : fn.results = #[.tmp t1, .tmp t2]) (hE : EnvR G N a E) (hle : G0.le G) (hH : Holds w G T (F v)) (h1 : lk E t1 = some (.tl v K xs)) (h2 : lk E t2 = some (.kv (.int k) n)) :
    PostX P fn G0 (fun v => .val (.tuple #[v, .int k n])) T F .ret a w := by
  refine ⟨hE.2.1, .tuple #[a.tmps.getD t1 Go.undef, a.tmps.getD t2 Go.undef], results_tmp2 hr _ _ _, v, G, hle, ?_, hH⟩
  have e1 := (hE.2.2 _ _ h1).1
  have e2 := unI (hE.2.2 _ _ h2)
  simp only [EnR]
  rw [e1, e2]

/-- A call of which one knows what it does at these arguments in this world. -/
theorem stepCallF {i f : Nat} {As : List En} {R : Value → En} {F : Value → List LS} {d : Option Nat} (hok : callable P f = true) (hC : ∀ args : List Value, All2 (EnR G) As args → Calls P f args.toArray w (PostF G R T' F)) (hE : EnvR G N a E)
    (hc : callE ops E i As = some (f, As, d)) (hd : dstOK d N = true)
    (k : ∀ v a' w' G', G.le G' → EnvR G' N a' (putE d (R v) E) → Holds w' G' T' (F v) → wpFrom P ops Q (i + 1) a' w') : wpFrom P ops Q i a w := by
  unfold callE at hc
  split at hc
  · rename_i o ho
    split at hc
    · rename_i hgo
      have hw := goes_ok (CurR_start hE) hgo
      split at hc
      · rename_i c hop
        split at hc
        · rename_i f' hcal
          split at hc
          · rename_i es hes
            simp only [Option.some.injEq, Prod.mk.injEq] at hc
            obtain ⟨rfl, rfl, rfl⟩ := hc
            rw [wpFrom_cons ho, if_pos hw]
            refine .inl ?_
            unfold Oper.wp
            have hr : (execOp a.eval o).run P w = .ok (.enter f' (c.args.toList.map a.eval).toArray) w := by
              have hargs : (c.args.map a.eval) = (c.args.toList.map a.eval).toArray := by
                apply Array.ext'; simp
              simp [execOp, hop, resolve, hcal, Act.eval, Deferred.ofValue, invoke, callFunc_enter hok]
              exact hargs
            rw [hr]
            refine (hC _ (enOps_ok (CurR_start hE) hes)).mono ?_
            intro e w' hp
            cases e with
            | returned u =>
              obtain ⟨v, G', hle, hv, hH'⟩ := hp
              exact k _ _ _ G' hle ((hE.mono hle).putO hd hv) hH'
            | panicked c => exact hp.elim
            | outgrown => exact False.elim hp
          · simp at hc
        · simp at hc
      · simp at hc
    · simp at hc
  · simp at hc

def callXE (ops : Array Oper) (E : Env) (i : Nat) (ws : List En) : Option (Nat × List Value × List En × Option Nat) :=
  match ops[i]? with
  | some o => (match goes ops (look E []) o with
    | true => (match o.op with
      | .call c => (match c.callee with
        | .value x => (match opnd (look E []) [] x with
          | some (.val (.func (.func f) first caps)) => (match first.toList, enOps (look E []) ws c.args.toList with
            | [], some es => some (f, caps.toList, es, o.dst)
            | _, _ => none)
          | _ => none)
        | _ => none)
      | _ => none)
    | false => none)
  | none => none

/-- A call of a function value that is known to the letter. -/
theorem stepCallX {i f : Nat} {vs : List Value} {As : List En} {R : Value → En} {F : Value → List LS} {d : Option Nat} (hok : callable P f = true) (hC : ∀ args : List Value, All2 (EnR G) As args → Calls P f (args ++ vs).toArray w (PostF G R T' F)) (hE : EnvR G N a E)
    (hc : callXE ops E i As = some (f, vs, As, d)) (hd : dstOK d N = true)
    (k : ∀ v a' w' G', G.le G' → EnvR G' N a' (putE d (R v) E) → Holds w' G' T' (F v) → wpFrom P ops Q (i + 1) a' w') : wpFrom P ops Q i a w := by
  unfold callXE at hc
  split at hc
  · rename_i o ho
    split at hc
    · rename_i hgo
      have hw := goes_ok (CurR_start hE) hgo
      split at hc
      · rename_i c hop
        split at hc
        · rename_i x hcal
          split at hc
          · rename_i f' first caps hx
            split at hc
            · rename_i es hfirst hes
              simp only [Option.some.injEq, Prod.mk.injEq] at hc
              obtain ⟨rfl, rfl, rfl, rfl⟩ := hc
              have hv := opnd_ok (CurR_start hE) (by simp) hx
              simp only [EnR] at hv
              have hf0 : first = #[] := by apply Array.ext'; simpa using hfirst
              subst hf0
              rw [wpFrom_cons ho, if_pos hw]
              refine .inl ?_
              unfold Oper.wp
              have hr : (execOp a.eval o).run P w = .ok (.enter f' (c.args.toList.map a.eval ++ caps.toList).toArray) w := by
                have hargs : (c.args.map a.eval) ++ caps = (c.args.toList.map a.eval ++ caps.toList).toArray := by
                  apply Array.ext'; simp
                simp [execOp, hop, resolve, hcal, hv, Deferred.ofValue, invoke, callFunc_enter hok, ← hargs]
              rw [hr]
              refine (hC _ (enOps_ok (CurR_start hE) hes)).mono ?_
              intro e w' hp
              cases e with
              | returned u =>
                obtain ⟨v, G', hle, hv, hH'⟩ := hp
                exact k _ _ _ G' hle ((hE.mono hle).putO hd hv) hH'
              | panicked c => exact hp.elim
              | outgrown => exact False.elim hp
            · simp at hc
          · simp at hc
        · simp at hc
      · simp at hc
    · simp at hc
  · simp at hc

def capsX (L : Nat → Option En) : List Operand → Option (List Value)
  | [] => some []
  | x :: xs => (match opnd L [] x with
    | some (.val v) => (match capsX L xs with
      | some l => some (v :: l)
      | none => none)
    | _ => none)

theorem capsX_ok {L : Nat → Option En} (hL : CurR G a L) : ∀ {xs : List Operand} {l : List Value}, capsX L xs = some l → xs.map a.eval = l
  | [], l, h => by simp [capsX] at h; subst h; rfl
  | x :: xs, l, h => by
    unfold capsX at h
    split at h
    · rename_i v hx
      split at h
      · rename_i l' hl
        simp only [Option.some.injEq] at h; subst h
        have := opnd_ok hL (by simp) hx
        simp only [EnR] at this
        rw [List.map_cons, this, capsX_ok hL hl]
      · simp at h
    · simp at h

def mfxE (ops : Array Oper) (E : Env) (i : Nat) : Option (Nat × List Value × Option Nat) :=
  match ops[i]? with
  | some o => (match goes ops (look E []) o, o.op with
    | true, .makeFunc (.func f) first caps => (match first.toList with
      | [] => (match capsX (look E []) caps.toList with
        | some l => some (f, l, o.dst)
        | none => none)
      | _ => none)
    | _, _ => none)
  | none => none

/-- A function value over exact variables. -/
theorem stepMFX {f : Nat} {l : List Value} {d : Option Nat} {i : Nat} (hE : EnvR G N a E) (hb : mfxE ops E i = some (f, l, d)) (hd : dstOK d N = true)
    (k : ∀ a', EnvR G N a' (putE d (.val (.func (.func f) #[] l.toArray)) E) → wpFrom P ops Q (i + 1) a' w) : wpFrom P ops Q i a w := by
  unfold mfxE at hb
  split at hb
  · rename_i o ho
    split at hb
    · rename_i f' first caps hg hop
      split at hb
      · rename_i hfirst
        split at hb
        · rename_i l' hl
          simp only [Option.some.injEq, Prod.mk.injEq] at hb
          obtain ⟨rfl, rfl, rfl⟩ := hb
          have hf : first = #[] := by
            apply Array.ext'; simpa using hfirst
          subst hf
          refine wpFrom_value ho (goes_ok (CurR_start hE) hg) (v := .func (.func f') #[] l'.toArray) (w' := w) ?_ (k _ (hE.putO hd rfl))
          have hc : caps.map a.eval = l'.toArray := by
            apply Array.ext'
            rw [Array.toList_map, capsX_ok (CurR_start hE) hl]
          simp only [execOp, hop]
          refine run_val ?_
          simp [Instr.makeFunc, hc]
        · simp at hb
      · simp at hb
    · simp at hb
  · simp at hb

/-! ### An exact variable that holds an unseen list -/
theorem stepAllocX {e : TypeId} {d : Option Nat} {i : Nat} (hE : EnvR G N a E) (hH : Holds w G T Ls) (hb : alcE P ops E i = some (e, d)) (hd : dstOK d N = true)
    (k : ∀ b a' w' G', G.le G' → EnvR G' N a' (putE d (.val (.pointer (some ⟨b, 0, none⟩))) E) → Holds w' G' T (.iter b (.cells #[.slice none 0 0] e (0, 0)) :: Ls) → wpFrom P ops Q (i + 1) a' w') : wpFrom P ops Q i a w := by
  unfold alcE at hb
  split at hb
  · rename_i o ho
    split at hb
    · rename_i e' hg hop
      split at hb
      · rename_i hz
        simp only [Option.some.injEq, Prod.mk.injEq] at hb
        obtain ⟨rfl, rfl⟩ := hb
        refine wpFrom_value ho (goes_ok (CurR_start hE) hg) (v := .pointer (some ⟨w.heap.size, 0, none⟩)) (w' := w.alloc (.cells (Value.slice none 0 0).cells e')) ?_
          (k w.heap.size _ _ _ (Gh.le_new hH .loc) ((hE.mono (Gh.le_new hH .loc)).putO hd rfl) (hH.allocLoc _ .loc (.iter w.heap.size (.cells #[.slice none 0 0] e' (0, 0))) (.inl rfl) ?_ ⟨Gh.set_same _ _ _, heap_alloc_new' w _⟩ rfl (fun _ _ _ => rfl)))
        · have hz' : (zeroValue e').run P w = .ok (.slice none 0 0) w := by
            unfold zeroOf at hz
            split at hz
            · rename_i it hit; simp [zeroValue, typeInfo, hit, hz]
            · simp at hz
          simp only [execOp, hop]
          exact run_val (by simp [Instr.alloc, newVar, newRow, hz'])
        · unfold BlockOK; rw [Gh.set_same]; trivial
      · cases hb
    · cases hb
  · cases hb

def ldxE (P : Program) (ops : Array Oper) (E : Env) (i : Nat) : Option (Nat × Option Nat) :=
  match ops[i]? with
  | some o => (match goes ops (look E []) o, o.op with
    | true, .load ty x => (match sizeT P ty, aggT P ty, opnd (look E []) [] x with
      | some 1, some false, some (.val (.pointer (some ⟨b, 0, none⟩))) => some (b, o.dst)
      | _, _, _ => none)
    | _, _ => none)
  | none => none

theorem stepLoadX (j : Nat) {b : Nat} {v : Value} {e : TypeId} {d : Option Nat} {i : Nat} (hE : EnvR G N a E) (hH : Holds w G T Ls) (hb : ldxE P ops E i = some (b, d)) (hj : Ls[j]? = some (.iter b (.cells #[v] e (0, 0)))) (hd : dstOK d N = true)
    (k : ∀ a', EnvR G N a' (putE d (.val v) E) → wpFrom P ops Q (i + 1) a' w) : wpFrom P ops Q i a w := by
  unfold ldxE at hb
  split at hb
  · rename_i o ho
    split at hb
    · rename_i ty x hg hop
      split at hb
      · rename_i b' hs hag hx
        simp only [Option.some.injEq, Prod.mk.injEq] at hb
        obtain ⟨rfl, rfl⟩ := hb
        have hv := opnd_ok (CurR_start hE) (by simp) hx
        simp only [EnR] at hv
        obtain ⟨_, hh⟩ := hH.loc _ (List.mem_of_getElem? hj)
        have hrun := run_loadCell (P := P) (w := w) (off := 0) (v := v) hs hag hh (by simp)
        refine wpFrom_value ho (goes_ok (CurR_start hE) hg) (v := v) (w' := w) ?_ (k _ (hE.putO hd rfl))
        simp only [execOp, hop, hv]
        exact run_val hrun
      · cases hb
    · cases hb
  · cases hb

def stxE (P : Program) (ops : Array Oper) (E : Env) (i : Nat) : Option (Nat × Value) :=
  match ops[i]? with
  | some o => (match goes ops (look E []) o, o.op, o.dst with
    | true, .store ty x y, none => (match sizeT P ty, opnd (look E []) [] x, opnd (look E []) [] y with
      | some 1, some (.val (.pointer (some ⟨b, 0, none⟩))), some (.val v) => some (b, v)
      | _, _, _ => none)
    | _, _, _ => none)
  | none => none

theorem raw_slice {v : Value} {e bt : Nat} {K : Kd} {xs : List K.den} (h : LSR w G (.raw v e bt K xs)) : v.cells.toList = [v] ∧ v.oneCell' = true := by
  obtain ⟨cs, o1, _⟩ := h
  rcases o1.2 with ⟨rfl, _⟩ | ⟨g, cap, cur, rfl, _⟩ <;> exact ⟨rfl, rfl⟩

theorem stepStoreX (j : Nat) {b : Nat} {v v0 : Value} {e : TypeId} {e2 bt : Nat} {K : Kd} {xs : List K.den} {i : Nat} (hE : EnvR G N a E) (hH : Holds w G T Ls) (hb : stxE P ops E i = some (b, v)) (hj : Ls[j]? = some (.iter b (.cells #[v0] e (0, 0)))) (hm : .raw v e2 bt K xs ∈ Ls)
    (k : ∀ w' G', G.le G' → EnvR G' N a E → Holds w' G' T (Ls.set j (.iter b (.cells #[v] e (0, 0)))) → wpFrom P ops Q (i + 1) a w') : wpFrom P ops Q i a w := by
  unfold stxE at hb
  split at hb
  · rename_i o ho
    split at hb
    · rename_i ty x y hg hop hdst
      split at hb
      · rename_i b' v' hs hx hy
        simp only [Option.some.injEq, Prod.mk.injEq] at hb
        obtain ⟨rfl, rfl⟩ := hb
        have hvx := opnd_ok (CurR_start hE) (by simp) hx
        have hvy := opnd_ok (CurR_start hE) (by simp) hy
        simp only [EnR] at hvx hvy
        obtain ⟨hr, hh⟩ := hH.loc _ (List.mem_of_getElem? hj)
        obtain ⟨hc1, hc2⟩ := raw_slice (hH.loc _ hm)
        have hst := run_storeCells_at P b' 0 e v'.cells.toList 0 #[v0] w hh (by rw [hc1]; simp) (by
          rw [hc1]; intro u hu
          have hu2 : u = v' := by simpa using hu
          rw [hu2]; exact hc2)
        simp only [Nat.add_zero] at hst
        have hrun : (Instr.storeAt ty (.pointer (some ⟨b', 0, none⟩)) v').run P w = .ok () (w.setRow b' #[v']) := by
          have hs2 : v'.cells.size = 1 := by rw [← Array.length_toList, hc1]; rfl
          have e3 : (splice (#[v0] : Array Value).toList v'.cells.toList 0).toArray = #[v'] := by rw [hc1]; rfl
          simp [Instr.storeAt, Instr.sureAddr, storeVar, run_sizeOf hs, hs2]
          rw [← e3]
          simpa [splice] using hst
        have hH' : Holds (w.setRow b' #[v']) G T (Ls.set j (.iter b' (.cells #[v'] e (0, 0)))) := by
          refine hH.row hh ?_ (.inr hr) (holeAt_set hj (fun _ _ _ => rfl) (fun _ _ _ => rfl)) (fun t i tab x0 _ h1 h2 => ⟨tab.xs, h1, h2⟩) ?_ (nodup_set hj rfl hH.nd) hH.ex (fun t tab h1 => ⟨tab, h1, rfl⟩)
          · unfold BlockOK; rw [hr]; trivial
          · intro l hl
            rcases mem_set_other hj rfl hH.nd hl with rfl | ⟨h1, h2⟩
            · exact .inr ⟨hr, setRow_heap w b' _ _ e _ hh⟩
            · exact .inl ⟨h1, h2⟩
        refine stepS (G := G) ho hg hdst hE ⟨_, G, ?_, Gh.le_refl G, hH'⟩ k
        simp only [execOp, hop, hvx, hvy]
        exact run_unit hrun
      · cases hb
    · cases hb
  · cases hb
end
end Go.Proofs.Ytlfemhkabjafeaa.M
