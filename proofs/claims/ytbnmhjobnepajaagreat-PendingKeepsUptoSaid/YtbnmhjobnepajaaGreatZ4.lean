/- Own texts, laid together: PH HU HL PN HF HD PT0 PT1 PT2 CP. -/
import Derived.KernelRfl
import Derived.Shelf.Slices.In.SortNone
import Derived.Shelf.Sort.Plain
import Derived.Sort.KeysCollected
import Derived.Test.YtbnmhjobnepajaaGreatProg
import Derived.Test.YtbnmhjobnepajaaGreatZ1
import Derived.Test.YtbnmhjobnepajaaGreatZ2
import Derived.Test.YtbnmhjobnepajaaGreatZ3
set_option linter.unusedVariables false
set_option linter.unusedSimpArgs false
set_option maxRecDepth 100000
namespace Go.Proofs.YtbnmhjobnepajaaGreat.M
open Go.Proofs
abbrev QO : Nat := 100023
abbrev Wn : Nat := 100027
abbrev U1 : Nat := 100003
abbrev U2 : Nat := 100009
abbrev GZ : Nat := 100091
abbrev jE : Nat := 126
abbrev di : Nat := 67
abbrev ax : Nat := 93
abbrev cZ : Nat := 69
abbrev bg : Nat := 48
abbrev jS : Nat := 77
abbrev mM : Nat := 82
abbrev jZ : Kd := .pair (.int .u8) (.pair (.int .u8) (.pair (.int .u8) (.pair (.int .u8) (.pair (.int .u8) (.pair (.int .u8) (.pair (.int .u8) (.pair (.int .u8) (.pair (.int .u8) (.pair (.int .u8) (.unit))))))))))
abbrev fJ : Kd := .pair .i (.pair .i (.pair .str (.pair .i (.pair (.list .i) (.pair .i (.unit))))))
abbrev Lu : Kd := .pair .str (.pair .i (.pair .i (.unit)))
abbrev aI : Kd := .pair .i (.pair .i (.unit))
abbrev SH : Kd := .pair .str (.pair .i (.unit))
abbrev bH : Kd := .pair .i (.pair .i (.pair fJ (.pair (.list aI) (.pair (.list .i) (.unit)))))
abbrev Dt : Kd := .pair .i (.pair (.list fJ) (.pair (.list aI) (.unit)))
abbrev lM : List Fk := [.p .i, .p (.list fJ), .p (.list aI)]
abbrev dV : List Fk := [.p .i, .omap .str (.ptr ax), .p .i, .p .bool]
abbrev vW : List Fk := [.p .i, .p (.ptr jS), .own 33 72 fJ, .own 58 16 aI]
abbrev dD : List Fk := [.p (.ptr di), .p .str, .p .i, .own 78 8 (.ptr mM), .p .i]
abbrev dW : List Fk := [.p .i, .own 9 16 .str, .p .i]
abbrev fD : List Fk := [.p .str, .p .i]
abbrev kC : List Fk := [.p .str, .p .i, .p .i]
abbrev Hz : List Fk := [.p .i]
abbrev KQ : List Fk := [.p .str]
abbrev Hy : List Fk := [.p (.ptr di)]
abbrev Nj : List Fk := [.p (.ptr cZ)]
abbrev yO : List Fk := [.p (.ptr ax)]
structure St where
  af : List (aA lM)
  ah : List (aA dV)
  ai : List (aA vW)
  ak : List (aA dD)
  ae : List (aA dW)
  aj : List (aA fD)
  au : List (aA kC)
  iE : List (aA Hz)
  tC : List (aA KQ)
  mG : List (aA Hy)
  bD : List (aA Nj)
  aG : List (aA yO)
noncomputable def St.aX (σ : St) (ys : List (aA lM)) : St := { σ with af := ys }
noncomputable def St.bG (σ : St) (ys : List (aA dV)) : St := { σ with ah := ys }
noncomputable def St.bW (σ : St) (ys : List (aA vW)) : St := { σ with ai := ys }
noncomputable def St.qE (σ : St) (ys : List (aA dD)) : St := { σ with ak := ys }
noncomputable def St.aZ (σ : St) (ys : List (aA dW)) : St := { σ with ae := ys }
noncomputable def St.gy (σ : St) (ys : List (aA fD)) : St := { σ with aj := ys }
noncomputable def St.bz (σ : St) (ys : List (aA kC)) : St := { σ with au := ys }
noncomputable def St.zi (σ : St) (ys : List (aA Hz)) : St := { σ with iE := ys }
noncomputable def St.IL (σ : St) (ys : List (aA KQ)) : St := { σ with tC := ys }
noncomputable def St.Fb (σ : St) (ys : List (aA Hy)) : St := { σ with mG := ys }
noncomputable def St.nR (σ : St) (ys : List (aA Nj)) : St := { σ with bD := ys }
noncomputable def St.jA (σ : St) (ys : List (aA yO)) : St := { σ with aG := ys }
noncomputable def TB : List (TbI St) := [⟨bg, lM, St.af, St.aX⟩, ⟨di, dV, St.ah, St.bG⟩, ⟨cZ, vW, St.ai, St.bW⟩, ⟨jS, dD, St.ak, St.qE⟩, ⟨mM, dW, St.ae, St.aZ⟩, ⟨ax, fD, St.aj, St.gy⟩, ⟨jE, kC, St.au, St.bz⟩, ⟨U1, Hz, St.iE, St.zi⟩, ⟨U2, KQ, St.tC, St.IL⟩, ⟨QO, Hy, St.mG, St.Fb⟩, ⟨Wn, Nj, St.bD, St.nR⟩, ⟨GZ, yO, St.aG, St.jA⟩]
theorem aN : rH TB := by
  simp only [rH, TB, List.forall_mem_cons, List.not_mem_nil, false_implies, implies_true, and_true]
  refine ⟨?_, ?_, ?_, ?_, ?_, ?_, ?_, ?_, ?_, ?_, ?_, ?_⟩ <;> (intro σ ys; refine ⟨rfl, ?_, ?_, ?_, ?_, ?_, ?_, ?_, ?_, ?_, ?_, ?_, ?_⟩ <;> first | (intro h; rfl) | (intro h; exact absurd rfl h))
noncomputable def KLs : List (Nat × Kd) := [(3, .i), (5, (.int .u8)), (9, .str), (33, fJ), (36, bH), (48, Dt), (58, aI), (78, (.ptr mM)), (93, SH), (126, Lu), (144, jZ)]
noncomputable def MLs : List (Nat × Kd × Kd) := [(65, .str, (.ptr ax))]
theorem yl {σ : St} {i : Nat} {x : aA dV} (h : σ.ah[i]? = some x) : pV (aV TB σ) di i dV x := ⟨_, rfl, h⟩
theorem Gy {σ : St} {i : Nat} {x : aA dD} (h : σ.ak[i]? = some x) : pV (aV TB σ) jS i dD x := ⟨_, rfl, h⟩
theorem RQ {σ : St} {i : Nat} {x : aA fD} (h : σ.aj[i]? = some x) : pV (aV TB σ) ax i fD x := ⟨_, rfl, h⟩
end Go.Proofs.YtbnmhjobnepajaaGreat.M


set_option maxRecDepth 100000
namespace Go.Proofs.YtbnmhjobnepajaaGreat.M
open Go.Proofs

theorem Gone.len {kk kv : Kd} {es : List MapEntry} {m done : List (kk.den × kv.den)} {seen : List Nat} (h : Gone es m seen done) : seen.length ≤ es.length := by
  obtain ⟨is, h1, rfl, rfl, h4⟩ := h
  rw [List.length_map]
  have := List.Nodup.length_le_of_subset h1 (l₂ := List.range es.length) (fun i hi => by simpa using h4 i hi)
  simpa using this

theorem wrap_wrap (x y : Int) : IntKind.wrap .i64 (IntKind.wrap .i64 x + y) = IntKind.wrap .i64 (x + y) := by
  rw [IntKind.wrap_i64, IntKind.wrap_i64, IntKind.wrap_i64]; omega

noncomputable def C9 : List (List UInt8 × Option Nat) → St → Option Nat
  | [], _ => some 0
  | (_, v) :: r, σ => v >>= fun i => σ.aj[i]? >>= fun o => C9 r σ >>= fun n => some (o.1.length + n)

theorem oz {p : List UInt8 × Option Nat} {r : List (List UInt8 × Option Nat)} {σ : St} {n : Nat} : C9 (p :: r) σ = some n ↔ ∃ i o q, p.2 = some i ∧ σ.aj[i]? = some o ∧ C9 r σ = some q ∧ n = o.1.length + q := by
  obtain ⟨k, v⟩ := p
  constructor
  · intro h
    obtain ⟨i, hi, h⟩ := bs h
    obtain ⟨o, ho, h⟩ := bs h
    obtain ⟨q, hq, h⟩ := bs h
    simp only [Option.some.injEq] at h
    exact ⟨i, o, q, hi, ho, hq, h.symm⟩
  · rintro ⟨i, o, q, h1, h2, h3, rfl⟩
    simp only at h1
    simp [C9, h1, h2, h3]

theorem GM {σ : St} {l l' : List (List UInt8 × Option Nat)} (h : l.Perm l') : ∀ {n : Nat}, C9 l σ = some n → C9 l' σ = some n := by
  induction h with
  | nil => exact fun h => h
  | cons p _ ih =>
    intro n hn
    obtain ⟨i, o, q, h1, h2, h3, rfl⟩ := oz.1 hn
    exact oz.2 ⟨i, o, q, h1, h2, ih h3, rfl⟩
  | swap p q r =>
    intro n hn
    obtain ⟨i, o, n1, h1, h2, h3, rfl⟩ := oz.1 hn
    obtain ⟨j, u, n2, k1, k2, k3, rfl⟩ := oz.1 h3
    exact oz.2 ⟨j, u, _, k1, k2, oz.2 ⟨i, o, _, h1, h2, k3, rfl⟩, by omega⟩
  | trans _ _ ih1 ih2 => exact fun hn => ih2 (ih1 hn)

theorem V8 {σ : St} {p : List UInt8 × Option Nat} {i : Nat} {o : aA fD} (h1 : p.2 = some i) (h2 : σ.aj[i]? = some o) : ∀ {l : List (List UInt8 × Option Nat)} {n : Nat}, C9 l σ = some n → C9 (l ++ [p]) σ = some (n + o.1.length) := by
  intro l n h
  refine GM (List.perm_append_comm (l₁ := [p]) (l₂ := l)) ?_
  exact oz.2 ⟨i, o, n, h1, h2, h, by omega⟩

theorem Qu {σ : St} {p : List UInt8 × Option Nat} : ∀ {l : List (List UInt8 × Option Nat)} {n : Nat}, C9 l σ = some n → p ∈ l → ∃ i o, p.2 = some i ∧ σ.aj[i]? = some o
  | q :: l, n, h, hp => by
    obtain ⟨i, o, q', h1, h2, h3, rfl⟩ := oz.1 h
    rcases List.mem_cons.1 hp with rfl | hp
    · exact ⟨i, o, h1, h2⟩
    · exact Qu h3 hp

noncomputable def gB (p0 : Option Nat) (σ : St) : Option Int :=
  if p0.isNone = true then some 0 else
  p0 >>= fun i => (σ.ah[i]?) >>= fun o => C9 o.2.1 σ >>= fun n => some (IntKind.wrap .i64 n)

theorem Fh {p0 : Option Nat} {σ : St} {p : Int} (h : gB p0 σ = some p) : Spec Tryz.prog 68 [.kv (.ptr 67) p0] (aV TB σ) (.kv .i p) (aV TB σ) := by
  refine Spec.intro Tryz.func68 (by kernel_rfl) rfl (by kernel_rfl) (fun a w G0 Ls hE hH hN => ?_)
  have hle : G0.le G0 := Gh.le_refl G0
  unfold gB at h
  refine wp_seq_k (fun K hK1 => ?_)
  refine aF ?_
  refine mY 1 [] [(2, .kv .i 0)] (Os := []) trivial hE hH (by kernel_rfl) (fun a hE => ?_)
  refine aU (by kernel_rfl) ?_
  refine Exit.aC (hK1 _ _ ?_)
  refine wp_seq_k (fun K hK2 => ?_)
  refine aF ?_
  refine mY 1 [] [(3, .kv .i 0)] (Os := []) trivial hE hH (by kernel_rfl) (fun a hE => ?_)
  refine aU (by kernel_rfl) ?_
  refine Exit.aC (hK2 _ _ ?_)
  refine wp_seq_k (fun K hK3 => ?_)
  refine wp_seq_k (fun K hK4 => ?_)
  refine aF ?_
  refine mY 2 [] [(7, .kv .bool p0.isNone)] (Os := []) trivial hE hH (by kernel_rfl) (fun a hE => ?_)
  refine aU (by kernel_rfl) ?_
  refine Exit.aC (hK4 _ _ ?_)
  refine Hg (b := p0.isNone) hE (by kernel_rfl) (fun hc => ?_) (fun hc => ?_)
  · replace h := ifT hc h
    refine wp_seq_k (fun K hK5 => ?_)
    refine aF ?_
    refine mY 2 [] [(2, .kv .i 0)] (Os := []) trivial hE hH (by kernel_rfl) (fun a hE => ?_)
    refine aU (by kernel_rfl) ?_
    refine Exit.aC (hK5 _ _ ?_)
    refine wp_ret ?_
    refine Exit.UO ?_
    cases h
    exact aaX rfl hE hle hH (by kernel_rfl)
  · replace h := ifF hc h
    refine wp_skip ?_
    refine Exit.aC (hK3 _ _ ?_)
    obtain ⟨i, hi, h⟩ := bs h
    obtain ⟨o, ho, h⟩ := bs h
    obtain ⟨n, hn, h⟩ := bs h
    refine wp_seq_k (fun K hK6 => ?_)
    refine wp_seq_k (fun K hK7 => ?_)
    refine aF ?_
    refine mY 4 [.pt i, .ob dV o] [(12, .fm 67 i 1)] (Os := [_, _]) ⟨hi, yl ho, trivial⟩ hE hH (by kernel_rfl) (fun a hE => ?_)
    refine Qq (kk := .str) (kv := .ptr 93) (m := o.2.1) (t := 67) (j := i) (f := 1) (d := some 13) hE hH (by kernel_rfl) (by kernel_rfl) (yl ho) rfl (fun r mr es cl a w G hl hE hH hh hr hm => ?_)
    have hle := Gh.le_trans hle hl
    refine aU (by kernel_rfl) ?_
    refine Exit.aC (hK7 _ _ ?_)
    refine wp_block ?_
    refine BV (fun Q c hQ hc => ?_)
    have key : ∀ (k : Nat) (seen : Array Nat) (done : List (List UInt8 × Option Nat)) (q : Nat), es.toList.length < seen.toList.length + k → Gone (kk := .str) (kv := .ptr 93) es.toList o.2.1 seen.toList done → C9 done σ = some q →
        ∀ (a : Act) (w : World), dI G 26 a [(3, .kv .i (IntKind.wrap .i64 q)), (13, .val (.pointer (some ⟨r, 0, none⟩)))] → Holds w G (aV TB σ) (.iter r (itO mr cl seen) :: Ls) → w.heap[mr]? = some (.map es cl) →
        (∀ a w seen, dI G 26 a [(3, .kv .i (IntKind.wrap .i64 n)), (13, .val (.pointer (some ⟨r, 0, none⟩)))] → Holds w G (aV TB σ) (.iter r (itO mr cl seen) :: Ls) → Q (.exit 0) a w) → Rnd Tryz.prog c Q a w := by
      intro k
      induction k with
      | zero =>
        intro seen done q hk hg
        have := hg.len
        omega
      | succ k ih =>
        intro seen done q hk hg hq a w hE hH hh hx
        refine Fa hc ?_
        refine wp_seq_k (fun K hK8 => ?_)
        refine aF ?_
        refine UL (kk := .str) (kv := .ptr 93) (m := o.2.1) (d := some 14) hE hH hh hm (by kernel_rfl) (by kernel_rfl) (fun hall a w hE hH => ?_) (fun ix e p hix hp hns a w hE hH hh => ?_)
        · refine mY 1 [] [(15, .kv .bool false)] (Os := []) trivial hE hH (by kernel_rfl) (fun a hE => ?_)
          refine aU (by kernel_rfl) ?_
          refine Exit.aC (hK8 _ _ ?_)
          refine wp_seq_k (fun K hK9 => ?_)
          refine Zk hE (by kernel_rfl) rfl ?_
          refine wp_exit ?_
          refine Exit.yG ?_
          refine Exit.yG ?_
          have hperm := hg.all (by rw [hm.1.length]) hm.2.2 hall
          have := GM hperm hq
          rw [hn] at this
          cases this
          exact hx _ _ _ (hE.Dl (by kernel_rfl)) hH
        · refine mY 1 [] [(15, .kv .bool true)] (Os := []) trivial hE hH (by kernel_rfl) (fun a hE => ?_)
          refine aU (by kernel_rfl) ?_
          refine Exit.aC (hK8 _ _ ?_)
          refine wp_seq_k (fun K hK9 => ?_)
          refine acJ hE (by kernel_rfl) rfl ?_
          refine wp_skip ?_
          refine Exit.aC (hK9 _ _ ?_)
          obtain ⟨i2, o2, hi2, ho2⟩ := Qu hn (List.mem_of_getElem? hp)
          refine wp_block ?_
          refine wp_seq_k (fun K hK10 => ?_)
          refine aF ?_
          refine Qp (kk := .str) (kv := .ptr 93) (m := o.2.1) (d := some 16) hE hH hh hm hix hp (by kernel_rfl) (by kernel_rfl) (fun a hE => ?_)
          refine mY 2 [] [(5, .kv (.ptr 93) p.2)] (Os := []) trivial hE hH (by kernel_rfl) (fun a hE => ?_)
          refine aU (by kernel_rfl) ?_
          refine Exit.aC (hK10 _ _ ?_)
          refine aF ?_
          refine mY 8 [.pt i2, .ob fD o2] [(3, .kv .i (IntKind.wrap .i64 (IntKind.wrap .i64 q + (o2.1.length : Int))))] (Os := [_, _]) ⟨hi2, RQ ho2, trivial⟩ hE hH (by kernel_rfl) (fun a hE => ?_)
          refine aU (by kernel_rfl) ?_
          refine Exit.yC ?_
          refine Exit.aC ?_
          rw [wrap_wrap] at hE
          refine ih (seen.push e.born) (done ++ [p]) (q + o2.1.length) ?_ ?_ (V8 hi2 ho2 hq) a w ((hE.re 3 (by kernel_rfl) (e' := .kv .i (IntKind.wrap .i64 ((q + o2.1.length : Nat) : Int))) (congrArg (fun z => En.kv .i (IntKind.wrap .i64 z)) (Int.natCast_add q o2.1.length).symm)).Dl (by kernel_rfl)) hH hh hx
          · simp at hk ⊢; omega
          · rw [Array.toList_push]; exact hg.next hix hp hns
    refine key (es.toList.length + 1) #[] [] 0 (by simp) Gone.nil rfl a w (hE.Dl (by kernel_rfl)) hH hh (fun a w seen hE hH => ?_)
    rw [hQ]
    have hH := hH.drop (fun _ _ _ => rfl)
    refine Exit.Xf ?_
    refine Exit.aC (hK6 _ _ ?_)
    refine wp_seq_k (fun K hK11 => ?_)
    refine aF ?_
    refine mY 2 [] [(2, .kv .i (IntKind.wrap .i64 n))] (Os := []) trivial hE hH (by kernel_rfl) (fun a hE => ?_)
    refine aU (by kernel_rfl) ?_
    refine Exit.aC (hK11 _ _ ?_)
    refine wp_ret ?_
    cases h
    exact aaX rfl hE hle hH (by kernel_rfl)
noncomputable def AO : Kn St := ⟨68, [.kv (.ptr di)], [.kv .i], .ro fun x σ => gB x.1 σ⟩
theorem FH : AO.ok Tryz.prog TB := Gz (by kernel_rfl) fun _ _ _ h => Fh h
end Go.Proofs.YtbnmhjobnepajaaGreat.M


set_option maxRecDepth 100000

namespace Go.Proofs
open Go.Shelf
noncomputable def Tryz.Ub : Go.Shelf.Ren := ⟨fun | 190 => 80 | 125 => 105 | 258 => 104 | 128 => 127 | 129 => 128 | 302 => 118 | 303 => 119 | 304 => 120 | 305 => 121 | 306 => 122 | 307 => 123 | 308 => 124 | 309 => 125 | 310 => 126 | 333 => 146 | 329 => 147 | 330 => 148 | 334 => 149 | 335 => 150 | 336 => 151 | 344 => 157 | n => n, fun | 31 => 80 | 9 => 9 | 3 => 3 | 46 => 143 | 0 => 0 | 51 => 140 | 53 => 142 | 4 => 4 | 183 => 163 | 182 => 162 | 131 => 168 | 5 => 5 | 218 => 183 | 222 => 187 | 228 => 191 | 229 => 192 | n => n, fun | n => n⟩
theorem Tryz.lays190 : Lays.n190 Tryz.prog Tryz.Ub := {
  mixed := by kernel_rfl
  f125 := Tryz.func105.trans (congrArg some (by kernel_rfl))
  f128 := Tryz.func127.trans (congrArg some (by kernel_rfl))
  f129 := Tryz.func128.trans (congrArg some (by kernel_rfl))
  f190 := Tryz.func80.trans (congrArg some (by kernel_rfl))
  f258 := Tryz.func104.trans (congrArg some (by kernel_rfl))
  f302 := Tryz.func118.trans (congrArg some (by kernel_rfl))
  f303 := Tryz.func119.trans (congrArg some (by kernel_rfl))
  f304 := Tryz.func120.trans (congrArg some (by kernel_rfl))
  f305 := Tryz.func121.trans (congrArg some (by kernel_rfl))
  f306 := Tryz.func122.trans (congrArg some (by kernel_rfl))
  f307 := Tryz.func123.trans (congrArg some (by kernel_rfl))
  f308 := Tryz.func124.trans (congrArg some (by kernel_rfl))
  f309 := Tryz.func125.trans (congrArg some (by kernel_rfl))
  f310 := Tryz.func126.trans (congrArg some (by kernel_rfl))
  f329 := Tryz.func147.trans (congrArg some (by kernel_rfl))
  f330 := Tryz.func148.trans (congrArg some (by kernel_rfl))
  f333 := Tryz.func146.trans (congrArg some (by kernel_rfl))
  f334 := Tryz.func149.trans (congrArg some (by kernel_rfl))
  f335 := Tryz.func150.trans (congrArg some (by kernel_rfl))
  f336 := Tryz.func151.trans (congrArg some (by kernel_rfl))
  f344 := Tryz.func157.trans (congrArg some (by kernel_rfl))
  t0 := Tryz.underlying0
  a0 := Tryz.isAgg0
  z0 := Tryz.sizeOf0
  v0 := Tryz.zeroValue0
  t3 := Tryz.underlying3
  a3 := Tryz.isAgg3
  z3 := Tryz.sizeOf3
  v3 := Tryz.zeroValue3
  t4 := Tryz.underlying4
  a4 := Tryz.isAgg4
  z4 := Tryz.sizeOf4
  v4 := Tryz.zeroValue4
  t5 := Tryz.underlying5
  a5 := Tryz.isAgg5
  z5 := Tryz.sizeOf5
  v5 := Tryz.zeroValue5
  t9 := Tryz.underlying9
  a9 := Tryz.isAgg9
  z9 := Tryz.sizeOf9
  v9 := Tryz.zeroValue9
  t31 := Tryz.underlying80
  a31 := Tryz.isAgg80
  z31 := Tryz.sizeOf80
  v31 := Tryz.zeroValue80
  t46 := Tryz.underlying143
  a46 := Tryz.isAgg143
  z46 := Tryz.sizeOf143
  v46 := Tryz.zeroValue143
  t51 := Tryz.underlying140
  a51 := Tryz.isAgg140
  z51 := Tryz.sizeOf140
  v51 := Tryz.zeroValue140
  t53 := Tryz.underlying142
  a53 := Tryz.isAgg142
  z53 := Tryz.sizeOf142
  v53 := Tryz.zeroValue142
  t131 := Tryz.underlying168
  a131 := Tryz.isAgg168
  z131 := Tryz.sizeOf168
  v131 := Tryz.zeroValue168
  t182 := Tryz.underlying162
  a182 := Tryz.isAgg162
  z182 := Tryz.sizeOf162
  v182 := Tryz.zeroValue162
  t183 := Tryz.underlying163
  a183 := Tryz.isAgg163
  z183 := Tryz.sizeOf163
  v183 := Tryz.zeroValue163
  t218 := Tryz.underlying183
  a218 := Tryz.isAgg183
  z218 := Tryz.sizeOf183
  v218 := Tryz.zeroValue183
  t222 := Tryz.underlying187
  a222 := Tryz.isAgg187
  z222 := Tryz.sizeOf187
  v222 := Tryz.zeroValue187
  t228 := Tryz.underlying191
  a228 := Tryz.isAgg191
  z228 := Tryz.sizeOf191
  v228 := Tryz.zeroValue191
  t229 := Tryz.underlying192
  a229 := Tryz.isAgg192
  z229 := Tryz.sizeOf192
  v229 := Tryz.zeroValue192 }

end Go.Proofs

namespace Go.Proofs.YtbnmhjobnepajaaGreat.M
open Go.Proofs (Tryz.prog Tryz.func47 Tryz.f47 Tryz.lays190)

noncomputable def sorted (l : List (List UInt8)) : List (List UInt8) := l.mergeSort (fun x y => decide (x ≤ y))

noncomputable def iH (p0 : Option Nat) (σ : St) : Option (List (List UInt8)) :=
  if p0.isNone = true then some [] else
  p0 >>= fun i => (σ.ah[i]?) >>= fun o => if (o.2.1.length + 1) * 16 ≤ 140737488355328 then some (sorted (o.2.1.map (·.1))) else none

theorem Gone.aew {kk kv : Kd} {es : List MapEntry} {m done : List (kk.den × kv.den)} {seen : List Nat} (h : Gone es m seen done) : done.length ≤ es.length := by
  have h0 := h.len
  obtain ⟨is, h1, rfl, rfl, h4⟩ := h
  rw [List.length_map] at h0
  exact Nat.le_trans (List.length_filterMap_le _ _) h0

theorem set_self {α : Type} : ∀ {l : List α} {j : Nat} {x : α}, l[j]? = some x → l.set j x = l
  | [], _, _, h => by simp at h
  | y :: l, 0, x, h => by simp at h; subst h; rfl
  | y :: l, j + 1, x, h => by rw [List.set_cons_succ, set_self (by simpa using h)]

section
variable {w : World} {G : Gh} {T : Tabs} {Ls : List LS} {a : Act} {N : Nat} {E : Env} {ops : Array Oper} {Q : Exit → Act → World → Prop}

theorem VY {j e bt : Nat} {v : Value} {xs : List (List UInt8)} (hH : Holds w G T Ls) (hj : Ls[j]? = some (.raw v e bt .str xs)) (hlen : xs.length < 4611686018427387904) :
    Calls Tryz.prog 80 #[v] w (SI G (.tup []) T (Ls.set j (.raw v e bt .str (sorted xs)))) := by
  obtain ⟨cs, o1, o2, o3, o4⟩ := hH.loc _ (List.mem_of_getElem? hj)
  rcases o1.2 with ⟨rfl, hn⟩ | ⟨g, cap, cur, rfl, hb0, hb, h1, h2, h3, h4⟩
  · have hx : xs = [] := List.eq_nil_of_length_eq_zero hn
    subst hx
    refine (Any.slices_Sort_string_none Tryz.lays190 none 0 w).mono ?_
    rintro e' w' ⟨rfl, rfl⟩
    refine ⟨G, Gh.le_refl G, ⟨#[], rfl, trivial⟩, ?_⟩
    have : Ls.set j (.raw (.slice none 0 0) e bt .str (sorted [])) = Ls := by
      have : sorted [] = [] := by simp [sorted]
      rw [this]
      exact set_self hj
    rw [this]; exact hH
  · have hst : cur.toList.take xs.length = xs.map encStr := by
      have := Qi o2
      simp only [Kd.w, Nat.mul_one] at h4
      rw [h4]
      rw [← this]
      have hcl := o1.1
      simp only [Kd.w, Nat.mul_one] at hcl
      rw [List.take_of_length_le (by omega)]
    refine (Any.slices_Sort_string Tryz.lays190 g 0 cap xs w (holds_of_block hb hst) (Array.getElem?_eq_some_iff.1 hb).1 hlen).mono ?_
    rintro e' w' ⟨rfl, n, os, rfl⟩
    exact ⟨G, Gh.le_refl G, ⟨#[], rfl, trivial⟩, hH.Yy hj (by simp)⟩
end

theorem xE {p0 : Option Nat} {σ : St} {p : List (List UInt8)} (h : iH p0 σ = some p) : Spec Tryz.prog 47 [.kv (.ptr 67) p0] (aV TB σ) (.kv (.list .str) p) (aV TB σ) := by
  refine Spec.intro Tryz.func47 (by kernel_rfl) rfl (by kernel_rfl) (fun a w G0 Ls hE hH hN => ?_)
  have hle : G0.le G0 := Gh.le_refl G0
  unfold iH at h
  refine wp_seq_k (fun K hK1 => ?_)
  refine aF ?_
  refine mY 1 [] [(2, .val (.slice none 0 0))] (Os := []) trivial hE hH (by kernel_rfl) (fun a hE => ?_)
  refine aU (by kernel_rfl) ?_
  refine Exit.aC (hK1 _ _ ?_)
  refine wp_seq_k (fun K hK2 => ?_)
  refine aF ?_
  refine mY 1 [] [(3, .val (.slice none 0 0))] (Os := []) trivial hE hH (by kernel_rfl) (fun a hE => ?_)
  refine aU (by kernel_rfl) ?_
  refine Exit.aC (hK2 _ _ ?_)
  refine wp_seq_k (fun K hK3 => ?_)
  refine wp_seq_k (fun K hK4 => ?_)
  refine aF ?_
  refine mY 2 [] [(6, .kv .bool p0.isNone)] (Os := []) trivial hE hH (by kernel_rfl) (fun a hE => ?_)
  refine aU (by kernel_rfl) ?_
  refine Exit.aC (hK4 _ _ ?_)
  refine Hg (b := p0.isNone) hE (by kernel_rfl) (fun hc => ?_) (fun hc => ?_)
  · replace h := ifT hc h
    refine wp_seq_k (fun K hK5 => ?_)
    refine aF ?_
    refine mY 2 [] [(2, .val (.slice none 0 0))] (Os := []) trivial hE hH (by kernel_rfl) (fun a hE => ?_)
    refine aU (by kernel_rfl) ?_
    refine Exit.aC (hK5 _ _ ?_)
    refine wp_ret ?_
    refine Exit.UO ?_
    cases h
    exact aaX rfl hE hle hH (by kernel_rfl)
  · replace h := ifF hc h
    refine wp_skip ?_
    refine Exit.aC (hK3 _ _ ?_)
    obtain ⟨i, hi, h⟩ := bs h
    obtain ⟨o, ho, h⟩ := bs h
    obtain ⟨hsz, h⟩ := gd h
    refine wp_seq_k (fun K hK6 => ?_)
    refine wp_seq_k (fun K hK7 => ?_)
    refine aF ?_
    refine mY 4 [.pt i, .ob dV o] [(11, .fm 67 i 1)] (Os := [_, _]) ⟨hi, yl ho, trivial⟩ hE hH (by kernel_rfl) (fun a hE => ?_)
    have hH := hH.aaM 9 16 .str
    refine Qq (kk := .str) (kv := .ptr 93) (m := o.2.1) (t := 67) (j := i) (f := 1) (d := some 12) hE hH (by kernel_rfl) (by kernel_rfl) (yl ho) rfl (fun r mr es cl a w G hl hE hH hh hr hm => ?_)
    have hle := Gh.le_trans hle hl
    refine aU (by kernel_rfl) ?_
    refine Exit.aC (hK7 _ _ ?_)
    refine wp_block ?_
    refine BV (fun Q c hQ hc => ?_)
    have key : ∀ (k : Nat) (seen : Array Nat) (done : List (List UInt8 × Option Nat)) (v : Value), es.toList.length < seen.toList.length + k → Gone (kk := .str) (kv := .ptr 93) es.toList o.2.1 seen.toList done →
        ∀ (a : Act) (w : World) (G : Gh), G0.le G → dI G 24 a [(3, .val v), (12, .val (.pointer (some ⟨r, 0, none⟩)))] → Holds w G (aV TB σ) (.iter r (itO mr cl seen) :: .raw v 9 16 .str (done.map (·.1)) :: Ls) → w.heap[mr]? = some (.map es cl) → G.role mr = .fld 67 i 1 → Aa G .str (.ptr 93) o.2.1 es.toList cl →
        (∀ (a : Act) (w : World) (G : Gh) (seen : Array Nat) (done : List (List UInt8 × Option Nat)) (v : Value), done.Perm o.2.1 → G0.le G → dI G 24 a [(3, .val v), (12, .val (.pointer (some ⟨r, 0, none⟩)))] → Holds w G (aV TB σ) (.iter r (itO mr cl seen) :: .raw v 9 16 .str (done.map (·.1)) :: Ls) → Q (.exit 0) a w) → Rnd Tryz.prog c Q a w := by
      intro k
      induction k with
      | zero =>
        intro seen done v hk hg
        have := hg.len
        omega
      | succ k ih =>
        intro seen done v hk hg a w G hle hE hH hh hr hm hx
        refine Fa hc ?_
        refine wp_seq_k (fun K hK8 => ?_)
        refine aF ?_
        refine UL (kk := .str) (kv := .ptr 93) (m := o.2.1) (d := some 13) hE hH hh hm (by kernel_rfl) (by kernel_rfl) (fun hall a w hE hH => ?_) (fun ix e p hix hp hns a w hE hH hh => ?_)
        · refine mY 1 [] [(14, .kv .bool false)] (Os := []) trivial hE hH (by kernel_rfl) (fun a hE => ?_)
          refine aU (by kernel_rfl) ?_
          refine Exit.aC (hK8 _ _ ?_)
          refine wp_seq_k (fun K hK9 => ?_)
          refine Zk hE (by kernel_rfl) rfl ?_
          refine wp_exit ?_
          refine Exit.yG ?_
          refine Exit.yG ?_
          exact hx _ _ _ _ _ _ (hg.all (by rw [hm.1.length]) hm.2.2 hall) hle (hE.Dl (by kernel_rfl)) hH
        · refine mY 1 [] [(14, .kv .bool true)] (Os := []) trivial hE hH (by kernel_rfl) (fun a hE => ?_)
          refine aU (by kernel_rfl) ?_
          refine Exit.aC (hK8 _ _ ?_)
          refine wp_seq_k (fun K hK9 => ?_)
          refine acJ hE (by kernel_rfl) rfl ?_
          refine wp_skip ?_
          refine Exit.aC (hK9 _ _ ?_)
          refine wp_block ?_
          refine wp_seq_k (fun K hK10 => ?_)
          refine aF ?_
          refine Qp (kk := .str) (kv := .ptr 93) (m := o.2.1) (d := some 15) hE hH hh hm hix hp (by kernel_rfl) (by kernel_rfl) (fun a hE => ?_)
          refine mY 2 [] [(4, .kv .str p.1)] (Os := []) trivial hE hH (by kernel_rfl) (fun a hE => ?_)
          refine aU (by kernel_rfl) ?_
          refine Exit.aC (hK10 _ _ ?_)
          refine aF ?_
          refine mY 2 [] [(17, .val v), (18, .kv .str p.1)] (Os := []) trivial hE hH (by kernel_rfl) (fun a hE => ?_)
          refine J6 (d := some 19) .str [p.1] hE hH (by kernel_rfl) (by kernel_rfl) (fun a w' G' hl hE hH hkeep => ?_)
          have hle := Gh.le_trans hle hl
          have hm := yD hl hm
          obtain ⟨hkeep1, hkeep2⟩ := hkeep mr (by rw [hr]; simp)
          rw [← hkeep1] at hh
          rw [← hkeep2] at hr
          refine UJ (e' := 9) (bt := 16) (K := .str) (xs := done.map (·.1)) (ys := [p.1]) (d := some 20) 1 hE hH (by kernel_rfl) rfl (by kernel_rfl) (by have h1 := hg.aew; rw [← hm.1.length] at h1; simp only [List.length_map, List.length_cons, List.length_nil]; omega) (fun v' a w'' G'' hl hE hH hfix hro => ?_)
          have hle := Gh.le_trans hle hl
          have hm := yD hl hm
          have hh2 := hfix mr _ _ _ hr
          have hr2 := hro mr (by rw [hr]; simp)
          rw [← hh2] at hh
          rw [← hr2] at hr
          refine mY 1 [] [(3, .val v')] (Os := []) trivial hE hH (by kernel_rfl) (fun a hE => ?_)
          refine aU (by kernel_rfl) ?_
          refine Exit.yC ?_
          refine Exit.aC ?_
          refine ih (seen.push e.born) (done ++ [p]) v' ?_ ?_ a _ _ hle (hE.Dl (by kernel_rfl)) ?_ hh hr hm hx
          · simp at hk ⊢; omega
          · rw [Array.toList_push]; exact hg.next hix hp hns
          · rw [List.map_append]; exact hH
    refine key (es.toList.length + 1) #[] [] (.slice none 0 0) (by simp) Gone.nil a w G hle (hE.Dl (by kernel_rfl)) hH hh hr hm (fun a w G seen done v hperm hle hE hH => ?_)
    rw [hQ]
    have hH := hH.drop (fun _ _ _ => rfl)
    refine Exit.Xf ?_
    refine Exit.aC (hK6 _ _ ?_)
    refine wp_seq_k (fun K hK11 => ?_)
    refine aF ?_
    refine mY 1 [] [(21, .val v)] (Os := []) trivial hE hH (by kernel_rfl) (fun a hE => ?_)
    refine Qo (f := 80) (As := [.val v]) (R := .tup []) (d := some 22) (T' := aV TB σ) (Ls' := .raw v 9 16 .str (sorted (done.map (·.1))) :: Ls) (by kernel_rfl) (fun args hA => ?_) hE (by kernel_rfl) (by kernel_rfl) trivial (fun a w G hl hE hH => ?_)
    · match args, hA with
      | [u], ⟨hu, _⟩ =>
        simp only [EnR] at hu
        subst hu
        exact VY (j := 0) hH rfl (by rw [List.length_map, hperm.length_eq]; omega)
    · have hle := Gh.le_trans hle hl
      refine aU (by kernel_rfl) ?_
      refine Exit.aC (hK11 _ _ ?_)
      have hnd := hH.nd
      obtain ⟨G', hl, hv, hH⟩ := hH.aaU (Ls' := Ls) List.mem_cons_self (fun l hlm => by
        cases hb : l.blk with
        | none => exact .inr ⟨rfl, List.mem_cons_of_mem _ hlm⟩
        | some b =>
          refine .inl ⟨List.mem_cons_of_mem _ hlm, fun he => ?_⟩
          rw [List.filterMap_cons_some (show LS.blk (.raw v 9 16 .str (sorted (done.map (·.1)))) = some b from he.symm)] at hnd
          exact (List.nodup_cons.1 hnd).1 (List.mem_filterMap.2 ⟨l, hlm, hb⟩)) (fun _ _ _ => rfl) (by
        cases hb : LS.blk (.raw v 9 16 .str (sorted (done.map (·.1)))) with
        | none => rwa [List.filterMap_cons_none hb] at hnd
        | some b => rw [List.filterMap_cons_some hb] at hnd; exact (List.nodup_cons.1 hnd).2)
      have hle := Gh.le_trans hle hl
      have hE := dI.more (v := v) (e := .kv (.list .str) (sorted (List.map (fun x : List UInt8 × Option Nat => x.1) done))) (hE.mono hl) 3 (by kernel_rfl) hv
      have hs : sorted (done.map (·.1)) = sorted (o.2.1.map (·.1)) := mergeSort_of_perm (hperm.map _)
      rw [hs] at hE
      cases h
      refine wp_seq_k (fun K hK12 => ?_)
      refine aF ?_
      refine mY 2 [] [(2, .kv (.list .str) (sorted (o.2.1.map (·.1))))] (Os := []) trivial hE hH (by kernel_rfl) (fun a hE => ?_)
      refine aU (by kernel_rfl) ?_
      refine Exit.aC (hK12 _ _ ?_)
      refine wp_ret ?_
      exact aaX rfl hE hle hH (by kernel_rfl)
noncomputable def Aw : Kn St := ⟨47, [.kv (.ptr di)], [.kv (.list .str)], .ro fun x σ => iH x.1 σ⟩
theorem Fz : Aw.ok Tryz.prog TB := Gz (by kernel_rfl) fun _ _ _ h => xE h
end Go.Proofs.YtbnmhjobnepajaaGreat.M


set_option maxRecDepth 100000
namespace Go.Proofs.YtbnmhjobnepajaaGreat.M
open Go.Proofs
noncomputable def sH (p0 : List UInt8) (s0 : Int × Int) : Option ((Int × Int) ⊕ (Int ⊕ Int)) :=
  if decide (s0.2 < (p0.length : Int)) = true then
  if 0 ≤ s0.2 ∧ s0.2 < (p0.length : Int) then
  if ((!(decide (btS p0 s0.2 < 48))) = true → 0 ≤ s0.2 ∧ s0.2 < (p0.length : Int)) then
  if ((decide (btS p0 s0.2 < 48) || decide (btS p0 s0.2 > 57)) || decide (s0.1 > 1099511627776)) = true then
  some (.inr (.inr (-1 : Int)))
  else
  if 0 ≤ s0.2 ∧ s0.2 < (p0.length : Int) then
  some (.inl (IntKind.wrap .i64 (IntKind.wrap .i64 (s0.1 * 10) + IntKind.wrap .i64 (IntKind.wrap .u8 (btS p0 s0.2 - 48))), IntKind.wrap .i64 (s0.2 + 1)))
  else
  none
  else
  none
  else
  none
  else
  some (.inr (.inl s0.1))

noncomputable def uG (p0 : List UInt8) : Option Int :=
  Option.bind (aY (sH p0) ((0 : Int), (0 : Int))) fun x1 =>
  jR x1 (fun x2 =>
  if ((!(p0 == [])) = true → (0 : Int) ≤ (0 : Int) ∧ 0 < (p0.length : Int)) then
  if (((p0 == []) || ((btS p0 (0 : Int) == 48) && (!(p0 == [48])))) || decide (x2 > 1099511627776)) = true then
  some (-1 : Int)
  else
  some x2
  else
  none) Option.some

noncomputable def Rz : Kn St := ⟨94, [.kv .str], [.kv .i], .ro fun x σ => uG x.1⟩

theorem KE : Rz.ok Tryz.prog TB := fQ ⟨Tryz.prog, TB, 49, KLs, MLs, [], [], [], []⟩ ⟨[], [], [], [(3, ⟨[(3, .kv .i), (7, .kv .i)], false, [⟨.ext 0, [(3, .kv .i)]⟩], true, []⟩)]⟩ aN trivial (fn := Tryz.f94) (by kernel_rfl) (by kernel_rfl) (by kernel_rfl)
end Go.Proofs.YtbnmhjobnepajaaGreat.M


set_option maxRecDepth 100000

namespace Go.Proofs
open Go.Shelf
noncomputable def Tryz.Ua : Go.Shelf.Ren := ⟨fun | 189 => 95 | 125 => 105 | 257 => 113 | 128 => 127 | 129 => 128 | 294 => 134 | 295 => 135 | 296 => 136 | 297 => 137 | 298 => 138 | 299 => 139 | 216 => 140 | 300 => 141 | 301 => 142 | 328 => 153 | 329 => 147 | 330 => 148 | 331 => 154 | 332 => 155 | 215 => 156 | 343 => 158 | n => n, fun | 28 => 31 | 3 => 3 | 46 => 143 | 0 => 0 | 51 => 140 | 53 => 142 | 4 => 4 | 183 => 163 | 182 => 162 | 131 => 168 | 5 => 5 | 9 => 9 | 218 => 183 | 222 => 187 | 228 => 191 | 229 => 192 | n => n, fun | n => n⟩
theorem Tryz.lays189 : Lays.n189 Tryz.prog Tryz.Ua := {
  mixed := by kernel_rfl
  f125 := Tryz.func105.trans (congrArg some (by kernel_rfl))
  f128 := Tryz.func127.trans (congrArg some (by kernel_rfl))
  f129 := Tryz.func128.trans (congrArg some (by kernel_rfl))
  f189 := Tryz.func95.trans (congrArg some (by kernel_rfl))
  f215 := Tryz.func156.trans (congrArg some (by kernel_rfl))
  f216 := Tryz.func140.trans (congrArg some (by kernel_rfl))
  f257 := Tryz.func113.trans (congrArg some (by kernel_rfl))
  f294 := Tryz.func134.trans (congrArg some (by kernel_rfl))
  f295 := Tryz.func135.trans (congrArg some (by kernel_rfl))
  f296 := Tryz.func136.trans (congrArg some (by kernel_rfl))
  f297 := Tryz.func137.trans (congrArg some (by kernel_rfl))
  f298 := Tryz.func138.trans (congrArg some (by kernel_rfl))
  f299 := Tryz.func139.trans (congrArg some (by kernel_rfl))
  f300 := Tryz.func141.trans (congrArg some (by kernel_rfl))
  f301 := Tryz.func142.trans (congrArg some (by kernel_rfl))
  f328 := Tryz.func153.trans (congrArg some (by kernel_rfl))
  f329 := Tryz.func147.trans (congrArg some (by kernel_rfl))
  f330 := Tryz.func148.trans (congrArg some (by kernel_rfl))
  f331 := Tryz.func154.trans (congrArg some (by kernel_rfl))
  f332 := Tryz.func155.trans (congrArg some (by kernel_rfl))
  f343 := Tryz.func158.trans (congrArg some (by kernel_rfl))
  t0 := Tryz.underlying0
  a0 := Tryz.isAgg0
  z0 := Tryz.sizeOf0
  v0 := Tryz.zeroValue0
  t3 := Tryz.underlying3
  a3 := Tryz.isAgg3
  z3 := Tryz.sizeOf3
  v3 := Tryz.zeroValue3
  t4 := Tryz.underlying4
  a4 := Tryz.isAgg4
  z4 := Tryz.sizeOf4
  v4 := Tryz.zeroValue4
  t5 := Tryz.underlying5
  a5 := Tryz.isAgg5
  z5 := Tryz.sizeOf5
  v5 := Tryz.zeroValue5
  t9 := Tryz.underlying9
  a9 := Tryz.isAgg9
  z9 := Tryz.sizeOf9
  v9 := Tryz.zeroValue9
  t28 := Tryz.underlying31
  a28 := Tryz.isAgg31
  z28 := Tryz.sizeOf31
  v28 := Tryz.zeroValue31
  t46 := Tryz.underlying143
  a46 := Tryz.isAgg143
  z46 := Tryz.sizeOf143
  v46 := Tryz.zeroValue143
  t51 := Tryz.underlying140
  a51 := Tryz.isAgg140
  z51 := Tryz.sizeOf140
  v51 := Tryz.zeroValue140
  t53 := Tryz.underlying142
  a53 := Tryz.isAgg142
  z53 := Tryz.sizeOf142
  v53 := Tryz.zeroValue142
  t131 := Tryz.underlying168
  a131 := Tryz.isAgg168
  z131 := Tryz.sizeOf168
  v131 := Tryz.zeroValue168
  t182 := Tryz.underlying162
  a182 := Tryz.isAgg162
  z182 := Tryz.sizeOf162
  v182 := Tryz.zeroValue162
  t183 := Tryz.underlying163
  a183 := Tryz.isAgg163
  z183 := Tryz.sizeOf163
  v183 := Tryz.zeroValue163
  t218 := Tryz.underlying183
  a218 := Tryz.isAgg183
  z218 := Tryz.sizeOf183
  v218 := Tryz.zeroValue183
  t222 := Tryz.underlying187
  a222 := Tryz.isAgg187
  z222 := Tryz.sizeOf187
  v222 := Tryz.zeroValue187
  t228 := Tryz.underlying191
  a228 := Tryz.isAgg191
  z228 := Tryz.sizeOf191
  v228 := Tryz.zeroValue191
  t229 := Tryz.underlying192
  a229 := Tryz.isAgg192
  z229 := Tryz.sizeOf192
  v229 := Tryz.zeroValue192 }

end Go.Proofs

namespace Go.Proofs.YtbnmhjobnepajaaGreat.M
open Go.Proofs (Tryz.prog Tryz.func95 Tryz.f95 Tryz.lays189)

noncomputable def vC (l : List Int) : List Int := l.mergeSort (fun x y => decide (x ≤ y))

section
variable {w : World} {G : Gh} {T : Tabs} {Ls : List LS} {a : Act} {N : Nat} {E : Env} {ops : Array Oper} {Q : Exit → Act → World → Prop}

theorem Su {j e bt : Nat} {v : Value} {xs : List Int} (hH : Holds w G T Ls) (hj : Ls[j]? = some (.raw v e bt .i xs)) (hlen : xs.length < 4611686018427387904) :
    Calls Tryz.prog 95 #[v] w (SI G (.tup []) T (Ls.set j (.raw v e bt .i (vC xs)))) := by
  obtain ⟨cs, o1, o2, o3, o4⟩ := hH.loc _ (List.mem_of_getElem? hj)
  rcases o1.2 with ⟨rfl, hn⟩ | ⟨g, cap, cur, rfl, hb0, hb, h1, h2, h3, h4⟩
  · have hx : xs = [] := List.eq_nil_of_length_eq_zero hn
    subst hx
    refine (Any.slices_Sort_int_none Tryz.lays189 none 0 w).mono ?_
    rintro e' w' ⟨rfl, rfl⟩
    refine ⟨G, Gh.le_refl G, ⟨#[], rfl, trivial⟩, ?_⟩
    have : Ls.set j (.raw (.slice none 0 0) e bt .i (vC [])) = Ls := by
      have : vC [] = [] := by simp [vC]
      rw [this]
      exact set_self hj
    rw [this]; exact hH
  · have hst : cur.toList.take xs.length = xs.map (Value.int .i64) := by
      have := Qh o2
      simp only [Kd.w, Nat.mul_one] at h4
      rw [h4]
      rw [← this]
      have hcl := o1.1
      simp only [Kd.w, Nat.mul_one] at hcl
      rw [List.take_of_length_le (by omega)]
    refine (Any.slices_Sort_int Tryz.lays189 g 0 cap xs w (holds_of_blockI hb hst) (Array.getElem?_eq_some_iff.1 hb).1 hlen).mono ?_
    rintro e' w' ⟨rfl, n, os, rfl⟩
    exact ⟨G, Gh.le_refl G, ⟨#[], rfl, trivial⟩, hH.VU hj (by simp)⟩
end

noncomputable def dJ (p0 : Option Nat) (σ : St) (r7 : List (List UInt8)) (l9 : List Int) (x10 : Int) : Option ((List Int) × Int) :=
  if (decide (x10 < (r7.length : Int))) = true then
  (ix r7 x10) >>= fun x19 =>
  p0 >>= fun i21 =>
  (σ.ak[i21]?) >>= fun o22 =>
  if (decide ((x19.length : Int) > (IntKind.wrap .i64 ((o22.2.1.length : Int) + 1)))) = true then
  if (0 : Int) ≤ (IntKind.wrap .i64 ((o22.2.1.length : Int) + 1)) ∧ (IntKind.wrap .i64 ((o22.2.1.length : Int) + 1)) ≤ (x19.length : Int) then
  if o22.2.1.length + [46].length ≤ 9223372036854775807 then
  if ((x19.take (Int.toNat (IntKind.wrap .i64 ((o22.2.1.length : Int) + 1)))) == (o22.2.1 ++ [46])) = true then
  if (0 : Int) ≤ (IntKind.wrap .i64 ((o22.2.1.length : Int) + 1)) ∧ (IntKind.wrap .i64 ((o22.2.1.length : Int) + 1)) ≤ (x19.length : Int) then
  uG (x19.drop (Int.toNat (IntKind.wrap .i64 ((o22.2.1.length : Int) + 1)))) >>= fun r29 =>
  if (decide (r29 ≥ 0)) = true then
  if (l9.length + 1) * 8 ≤ 140737488355328 then
  dJ p0 σ r7 (l9 ++ [r29]) (IntKind.wrap .i64 (x10 + 1))
  else none
  else
  dJ p0 σ r7 l9 (IntKind.wrap .i64 (x10 + 1))
  else none
  else
  dJ p0 σ r7 l9 (IntKind.wrap .i64 (x10 + 1))
  else none
  else none
  else
  dJ p0 σ r7 l9 (IntKind.wrap .i64 (x10 + 1))
  else
  some ((l9, x10))
  partial_fixpoint

noncomputable def jq (p0 : Option Nat) (σ : St) : Option (List Int) :=
  p0 >>= fun i5 =>
  (σ.ak[i5]?) >>= fun o6 =>
  iH o6.1 σ >>= fun r7 =>
  dJ p0 σ r7 [] 0 >>= fun z34 =>
  if z34.1.length < 4611686018427387904 then
  some (vC z34.1)
  else none

theorem Fj {p0 : Option Nat} {σ : St} {p : List Int} (h : jq p0 σ = some p) : Spec Tryz.prog 61 [.kv (.ptr 77) p0] (aV TB σ) (.kv (.list .i) p) (aV TB σ) := by
  refine Spec.intro Tryz.func61 (by kernel_rfl) rfl (by kernel_rfl) (fun a w G0 Ls hE hH hN => ?_)
  have hle : G0.le G0 := Gh.le_refl G0
  unfold jq at h
  refine wp_seq_k (fun K hK1 => ?_)
  refine aF ?_
  refine mY 1 [] [(2, .val (.slice none 0 0))] (Os := []) trivial hE hH (by kernel_rfl) (fun a hE => ?_)
  refine aU (by kernel_rfl) ?_
  refine Exit.aC (hK1 _ _ ?_)
  refine wp_seq_k (fun K hK2 => ?_)
  refine aF ?_
  refine mY 1 [] [(3, .val (.slice none 0 0))] (Os := []) trivial hE hH (by kernel_rfl) (fun a hE => ?_)
  refine aU (by kernel_rfl) ?_
  refine Exit.aC (hK2 _ _ ?_)
  refine wp_seq_k (fun K hK3 => ?_)
  refine wp_seq_k (fun K hK4 => ?_)
  refine aF ?_
  obtain ⟨i5, hi5, h⟩ := bs h
  obtain ⟨o6, ho6, h⟩ := bs h
  refine mY 4 [.pt i5, .ob dD o6] [(11, .kv (.ptr 67) o6.1)] (Os := [_, _]) ⟨hi5, (Gy (σ := σ) ho6), trivial⟩ hE hH (by kernel_rfl) (fun a hE => ?_)
  obtain ⟨r7, hr7, h⟩ := bs h
  refine UK (d := (some 12)) (xE hr7) hE hH hN (by kernel_rfl) (by kernel_rfl) trivial (fun a w G hl1 hE hH => ?_)
  have hle := Gh.le_trans hle hl1
  refine mY 2 [] [(13, .kv .i (r7.length : Int)), (14, .kv .i 0)] (Os := []) trivial hE hH (by kernel_rfl) (fun a hE => ?_)
  refine aU (by kernel_rfl) ?_
  refine Exit.aC (hK4 _ _ ?_)
  refine wp_block ?_
  have hH := hH.aaM 3 8 .i
  obtain ⟨z34, hz34, h⟩ := bs h
  refine BV (fun Q11 c hQ hc => ?_)
  have key : ∀ (l9 : List Int) (x10 : Int) (rr : (List Int) × Int), dJ p0 σ r7 l9 x10 = some rr → ∀ (a : Act) (w : World) (G : Gh) (v8 : Value), G0.le G → dI G 53 a [(0, .kv (.ptr 77) p0), (2, .val (.slice none 0 0)), (3, .val v8), (12, .kv (.list .str) r7), (13, .kv .i (r7.length : Int)), (14, .kv .i x10)] → Holds w G (aV TB σ) (LS.raw v8 3 8 .i l9 :: Ls) → (∀ z35 : (List Int) × Int, rr = z35 → ∀ (a : Act) (w : World) (G : Gh) (v8 : Value), G0.le G → dI G 53 a [(0, .kv (.ptr 77) p0), (2, .val (.slice none 0 0)), (3, .val v8), (12, .kv (.list .str) r7), (13, .kv .i (r7.length : Int)), (14, .kv .i z35.2)] → Holds w G (aV TB σ) (LS.raw v8 3 8 .i z35.1 :: Ls) → Q11 (.exit 0) a w) → Rnd Tryz.prog c Q11 a w := by
    refine dJ.partial_correctness p0 σ r7 _ ?_
    intro self ih14 l9 x10 rr h a w G v8 hle hE hH hx12
    refine Fa hc ?_
    refine wp_seq_k (fun K hK15 => ?_)
    refine aF ?_
    refine mY 1 [] [(15, .kv .bool (decide (x10 < (r7.length : Int))))] (Os := []) trivial hE hH (by kernel_rfl) (fun a hE => ?_)
    refine aU (by kernel_rfl) ?_
    refine Exit.aC (hK15 _ _ ?_)
    refine wp_seq_k (fun K hK16 => ?_)
    refine Hg (b := decide (x10 < (r7.length : Int))) hE (by kernel_rfl) (fun hc => ?_) (fun hc => ?_)
    · replace h := ifT hc h
      refine wp_skip ?_
      refine Exit.aC (hK16 _ _ ?_)
      refine wp_seq_k (fun K hK17 => ?_)
      refine wp_block ?_
      refine wp_seq_k (fun K hK18 => ?_)
      refine aF ?_
      obtain ⟨x19, hx19, h⟩ := bs h
      refine mY 3 [.ix .str x19] [(5, .kv .str x19)] (Os := [_]) ⟨(Lt.of (k := .str) hx19), trivial⟩ hE hH (by kernel_rfl) (fun a hE => ?_)
      refine aU (by kernel_rfl) ?_
      refine Exit.aC (hK18 _ _ ?_)
      refine wp_seq_k (fun K hK20 => ?_)
      refine aF ?_
      obtain ⟨i21, hi21, h⟩ := bs h
      obtain ⟨o22, ho22, h⟩ := bs h
      refine mY 7 [.pt i21, .ob dD o22] [(6, .kv .i (IntKind.wrap .i64 ((o22.2.1.length : Int) + 1)))] (Os := [_, _]) ⟨hi21, (Gy (σ := σ) ho22), trivial⟩ hE hH (by kernel_rfl) (fun a hE => ?_)
      refine aU (by kernel_rfl) ?_
      refine Exit.aC (hK20 _ _ ?_)
      refine wp_seq_k (fun K hK23 => ?_)
      by_cases hc : (decide ((x19.length : Int) > (IntKind.wrap .i64 ((o22.2.1.length : Int) + 1)))) = true
      · replace h := ifT hc h
        have c24 := hc
        obtain ⟨q25, h⟩ := gd h
        obtain ⟨q26, h⟩ := gd h
        refine N7 13 [] [(0, 0), (0, 0), (0, 0), (0, 0), (0, 0), (0, 0), (0, 0), (0, 0), (0, 0), (0, 0), (0, 0), (0, 0), (0, 0)] [.kv .str x19, .kv .i (x19.length : Int), .kv .i (IntKind.wrap .i64 ((o22.2.1.length : Int) + 1)), .kv .bool (decide ((x19.length : Int) > (IntKind.wrap .i64 ((o22.2.1.length : Int) + 1)))), .kv .bool true, .kv .str x19, .kv .i (IntKind.wrap .i64 ((o22.2.1.length : Int) + 1)), .kv .str (x19.take (Int.toNat (IntKind.wrap .i64 ((o22.2.1.length : Int) + 1)))), .kv (.ptr 77) p0, .kv (.ptr 77) (some i21), .fldA 77 i21 1, .kv .str o22.2.1, .kv .str (o22.2.1 ++ [46])] (fun _ => aV TB σ) (fun _ _ => LS.raw v8 3 8 .i l9 :: Ls) (by kernel_rfl) (by kernel_rfl) hE hH
                ⟨⟨⟨⟨⟨⟨⟨⟨⟨⟨⟨⟨⟨trivial,
                wM (fun k => obR [] (by kernel_rfl) (fun _ => ⟨[], trivial, by kernel_rfl⟩))⟩,
                wM (fun k => obR [] (by kernel_rfl) (fun _ => ⟨[], trivial, by kernel_rfl⟩))⟩,
                wM (fun k => obR [] (by kernel_rfl) (fun _ => ⟨[], trivial, by kernel_rfl⟩))⟩,
                wM (fun k => obR [] (by kernel_rfl) (fun _ => ⟨[], trivial, by kernel_rfl⟩))⟩,
                wM (fun k => ael [] (by kernel_rfl) (fun _ => ⟨[], trivial, by kernel_rfl⟩) (eb2 c24 rfl))⟩,
                wM (fun k => obR [] (by kernel_rfl) (fun _ => ⟨[], trivial, by kernel_rfl⟩))⟩,
                wM (fun k => obR [] (by kernel_rfl) (fun _ => ⟨[], trivial, by kernel_rfl⟩))⟩,
                wM (fun k => obR [] (by kernel_rfl) (fun _ => ⟨[_], ⟨q25, trivial⟩, by kernel_rfl⟩))⟩,
                wM (fun k => obR [] (by kernel_rfl) (fun _ => ⟨[], trivial, by kernel_rfl⟩))⟩,
                wM (fun k => obR [.pt i21] (by kernel_rfl) (fun _ => ⟨[_], ⟨hi21, trivial⟩, by kernel_rfl⟩))⟩,
                wM (fun k => obR [] (by kernel_rfl) (fun _ => ⟨[], trivial, by kernel_rfl⟩))⟩,
                wM (fun k => obR [.ob dD o22] (by kernel_rfl) (fun _ => ⟨[_], ⟨(Gy (σ := σ) ho22), trivial⟩, by kernel_rfl⟩))⟩,
                wM (fun k => obR [] (by kernel_rfl) (fun _ => ⟨[_], ⟨q26, trivial⟩, by kernel_rfl⟩))⟩ (fun a w G hl2 hE hH => ?_)
        have hle := Gh.le_trans hle hl2
        refine mY 2 [] [(38, .kv .bool ((x19.take (Int.toNat (IntKind.wrap .i64 ((o22.2.1.length : Int) + 1)))) == (o22.2.1 ++ [46])))] (Os := []) trivial hE hH (by kernel_rfl) (fun a hE => ?_)
        refine aU (by kernel_rfl) ?_
        refine Exit.aC (hK23 _ _ ?_)
        refine Hg (b := (x19.take (Int.toNat (IntKind.wrap .i64 ((o22.2.1.length : Int) + 1)))) == (o22.2.1 ++ [46])) hE (by kernel_rfl) (fun hc => ?_) (fun hc => ?_)
        · replace h := ifT hc h
          refine wp_seq_k (fun K hK27 => ?_)
          refine aF ?_
          obtain ⟨q28, h⟩ := gd h
          refine mY 3 [] [(41, .kv .str (x19.drop (Int.toNat (IntKind.wrap .i64 ((o22.2.1.length : Int) + 1)))))] (Os := [_]) ⟨q28, trivial⟩ hE hH (by kernel_rfl) (fun a hE => ?_)
          obtain ⟨r29, hr29, h⟩ := bs h
          refine UK (d := (some 42)) (VZ (k := .str) (kr := .i) (g := fun (x : List UInt8) (_ : St) => uG x) KE hr29) hE hH (aQ.cons (fun _ _ _ => rfl) hN) (by kernel_rfl) (by kernel_rfl) trivial (fun a w G hl3 hE hH => ?_)
          have hle := Gh.le_trans hle hl3
          refine mY 1 [] [(7, .kv .i r29)] (Os := []) trivial hE hH (by kernel_rfl) (fun a hE => ?_)
          refine aU (by kernel_rfl) ?_
          refine Exit.aC (hK27 _ _ ?_)
          refine wp_seq_k (fun K hK30 => ?_)
          refine aF ?_
          refine mY 2 [] [(44, .kv .bool (decide (r29 ≥ 0)))] (Os := []) trivial hE hH (by kernel_rfl) (fun a hE => ?_)
          refine aU (by kernel_rfl) ?_
          refine Exit.aC (hK30 _ _ ?_)
          refine Hg (b := decide (r29 ≥ 0)) hE (by kernel_rfl) (fun hc => ?_) (fun hc => ?_)
          · replace h := ifT hc h
            refine aF ?_
            refine mY 2 [] [(45, .val v8), (46, .kv .i r29)] (Os := []) trivial hE hH (by kernel_rfl) (fun a hE => ?_)
            refine V4 (d := (some 47)) .i [r29] hE hH (by kernel_rfl) (by kernel_rfl) (fun a w G hl4 hE hH => ?_)
            have hle := Gh.le_trans hle hl4
            obtain ⟨q31, h⟩ := gd h
            refine UJ (bt := 8) (ys := [r29]) (e' := 3) (d := (some 48)) 0 hE hH (by kernel_rfl) rfl (by kernel_rfl) q31 (fun v32 a w G hl5 hE hH _ _ => ?_)
            have hle := Gh.le_trans hle hl5
            refine mY 1 [] [(3, .val v32)] (Os := []) trivial hE hH (by kernel_rfl) (fun a hE => ?_)
            refine aU (by kernel_rfl) ?_
            refine Exit.yC ?_
            refine Exit.aC (hK17 _ _ ?_)
            refine aF ?_
            refine mY 2 [] [(14, .kv .i (IntKind.wrap .i64 (x10 + 1)))] (Os := []) trivial hE hH (by kernel_rfl) (fun a hE => ?_)
            refine aU (by kernel_rfl) ?_
            refine Exit.aC ?_
            exact ih14 _ _ _ h _ _ _ v32 hle (hE.Dl (by kernel_rfl)) hH hx12
          · replace h := ifF hc h
            refine wp_skip ?_
            refine Exit.yC ?_
            refine Exit.aC (hK17 _ _ ?_)
            refine aF ?_
            refine mY 2 [] [(14, .kv .i (IntKind.wrap .i64 (x10 + 1)))] (Os := []) trivial hE hH (by kernel_rfl) (fun a hE => ?_)
            refine aU (by kernel_rfl) ?_
            refine Exit.aC ?_
            exact ih14 _ _ _ h _ _ _ v8 hle (hE.Dl (by kernel_rfl)) hH hx12
        · replace h := ifF hc h
          refine wp_skip ?_
          refine Exit.yC ?_
          refine Exit.aC (hK17 _ _ ?_)
          refine aF ?_
          refine mY 2 [] [(14, .kv .i (IntKind.wrap .i64 (x10 + 1)))] (Os := []) trivial hE hH (by kernel_rfl) (fun a hE => ?_)
          refine aU (by kernel_rfl) ?_
          refine Exit.aC ?_
          exact ih14 _ _ _ h _ _ _ v8 hle (hE.Dl (by kernel_rfl)) hH hx12
      · replace h := ifN hc h
        have c33 := hc
        refine N7 13 [] [(0, 0), (0, 0), (0, 0), (0, 0), (0, 0), (0, 0), (0, 0), (0, 0), (0, 0), (0, 0), (0, 0), (0, 0), (0, 0)] [.kv .str x19, .kv .i (x19.length : Int), .kv .i (IntKind.wrap .i64 ((o22.2.1.length : Int) + 1)), .kv .bool (decide ((x19.length : Int) > (IntKind.wrap .i64 ((o22.2.1.length : Int) + 1)))), .kv .bool false, .undef, .undef, .undef, .undef, .undef, .undef, .undef, .undef] (fun _ => aV TB σ) (fun _ _ => LS.raw v8 3 8 .i l9 :: Ls) (by kernel_rfl) (by kernel_rfl) hE hH
                ⟨⟨⟨⟨⟨⟨⟨⟨⟨⟨⟨⟨⟨trivial,
                wM (fun k => obR [] (by kernel_rfl) (fun _ => ⟨[], trivial, by kernel_rfl⟩))⟩,
                wM (fun k => obR [] (by kernel_rfl) (fun _ => ⟨[], trivial, by kernel_rfl⟩))⟩,
                wM (fun k => obR [] (by kernel_rfl) (fun _ => ⟨[], trivial, by kernel_rfl⟩))⟩,
                wM (fun k => obR [] (by kernel_rfl) (fun _ => ⟨[], trivial, by kernel_rfl⟩))⟩,
                wM (fun k => ael [] (by kernel_rfl) (fun _ => ⟨[], trivial, by kernel_rfl⟩) (eb2 (bf c33) rfl))⟩,
                wM (fun k => obR [] (by kernel_rfl) (fun _ => ⟨[], trivial, by kernel_rfl⟩))⟩,
                wM (fun k => obR [] (by kernel_rfl) (fun _ => ⟨[], trivial, by kernel_rfl⟩))⟩,
                wM (fun k => obR [] (by kernel_rfl) (fun _ => ⟨[], trivial, by kernel_rfl⟩))⟩,
                wM (fun k => obR [] (by kernel_rfl) (fun _ => ⟨[], trivial, by kernel_rfl⟩))⟩,
                wM (fun k => obR [] (by kernel_rfl) (fun _ => ⟨[], trivial, by kernel_rfl⟩))⟩,
                wM (fun k => obR [] (by kernel_rfl) (fun _ => ⟨[], trivial, by kernel_rfl⟩))⟩,
                wM (fun k => obR [] (by kernel_rfl) (fun _ => ⟨[], trivial, by kernel_rfl⟩))⟩,
                wM (fun k => obR [] (by kernel_rfl) (fun _ => ⟨[], trivial, by kernel_rfl⟩))⟩ (fun a w G hl6 hE hH => ?_)
        have hle := Gh.le_trans hle hl6
        refine mY 2 [] [(38, .kv .bool false)] (Os := []) trivial hE hH (by kernel_rfl) (fun a hE => ?_)
        refine aU (by kernel_rfl) ?_
        refine Exit.aC (hK23 _ _ ?_)
        refine Zk hE (by kernel_rfl) rfl ?_
        refine wp_skip ?_
        refine Exit.yC ?_
        refine Exit.aC (hK17 _ _ ?_)
        refine aF ?_
        refine mY 2 [] [(14, .kv .i (IntKind.wrap .i64 (x10 + 1)))] (Os := []) trivial hE hH (by kernel_rfl) (fun a hE => ?_)
        refine aU (by kernel_rfl) ?_
        refine Exit.aC ?_
        exact ih14 _ _ _ h _ _ _ v8 hle (hE.Dl (by kernel_rfl)) hH hx12
    · replace h := ifF hc h
      refine wp_exit ?_
      refine Exit.yG ?_
      refine Exit.yG ?_
      cases h
      exact hx12 _ rfl _ _ _ v8 hle (hE.Dl (by kernel_rfl)) hH
  refine key _ _ _ hz34 _ _ _ (.slice none 0 0) hle (hE.Dl (by kernel_rfl)) hH ?_
  · intro z35 hz a w G v8 hle hE hH
    subst hz
    rw [hQ]
    refine Exit.Xf ?_
    refine Exit.aC (hK3 _ _ ?_)
    refine wp_seq_k (fun K hK36 => ?_)
    refine aF ?_
    refine mY 1 [] [(50, .val v8)] (Os := []) trivial hE hH (by kernel_rfl) (fun a hE => ?_)
    obtain ⟨q37, h⟩ := gd h
    refine Qo (f := 95) (As := [.val v8]) (R := .tup []) (d := (some 51)) (T' := aV TB σ) (Ls' := LS.raw v8 3 8 .i (vC z34.1) :: Ls) (by kernel_rfl) (fun args hA => ?_) hE (by kernel_rfl) (by kernel_rfl) trivial (fun a w G hl7 hE hH => ?_)
    · obtain rfl := acr hA
      exact Su (j := 0) hH rfl q37
    · have hle := Gh.le_trans hle hl7
      obtain ⟨G, hl8, hv38, hH⟩ := hH.aez
      have hle := Gh.le_trans hle hl8
      have hE := hE.mono hl8
      have hE := dI.more (v := v8) (e := .kv (.list .i) (vC z34.1)) hE 3 (by kernel_rfl) hv38
      have hE := dI.more (v := v8) (e := .kv (.list .i) (vC z34.1)) hE 50 (by kernel_rfl) hv38
      refine aU (by kernel_rfl) ?_
      refine Exit.aC (hK36 _ _ ?_)
      refine wp_seq_k (fun K hK39 => ?_)
      refine aF ?_
      refine mY 2 [] [(2, .kv (.list .i) (vC z34.1))] (Os := []) trivial hE hH (by kernel_rfl) (fun a hE => ?_)
      refine aU (by kernel_rfl) ?_
      refine Exit.aC (hK39 _ _ ?_)
      refine wp_ret ?_
      cases h
      exact aaX rfl hE hle hH (by kernel_rfl)
noncomputable def Bd : Kn St := ⟨61, [.kv (.ptr jS)], [.kv (.list .i)], .ro fun x σ => jq x.1 σ⟩
theorem FP : Bd.ok Tryz.prog TB := Gz (by kernel_rfl) fun _ _ _ h => Fj h
end Go.Proofs.YtbnmhjobnepajaaGreat.M


set_option maxRecDepth 100000
namespace Go.Proofs.YtbnmhjobnepajaaGreat.M
open Go.Proofs
noncomputable def GV (self : Int → Option (List UInt8)) (p0 : Int) : Option (List UInt8) :=
  if decide (p0 < 10) = true then
  some (cu [IntKind.wrap .u8 (IntKind.wrap .i64 (48 + p0))])
  else
  Option.bind (self (IntKind.wrap .i64 (p0.tdiv (10 : Int)))) fun x0 =>
  if (x0.length + (cu [IntKind.wrap .u8 (IntKind.wrap .i64 (48 + p0.tmod (10 : Int)))]).length) ≤ 9223372036854775807 then
  some (x0 ++ cu [IntKind.wrap .u8 (IntKind.wrap .i64 (48 + p0.tmod (10 : Int)))])
  else
  none
noncomputable def og (p0 : Int) : Option (List UInt8) :=
  if decide (p0 < 10) = true then
  some (cu [IntKind.wrap .u8 (IntKind.wrap .i64 (48 + p0))])
  else
  og (IntKind.wrap .i64 (p0.tdiv (10 : Int))) >>= fun x0 =>
  if (x0.length + (cu [IntKind.wrap .u8 (IntKind.wrap .i64 (48 + p0.tmod (10 : Int)))]).length) ≤ 9223372036854775807 then
  some (x0 ++ cu [IntKind.wrap .u8 (IntKind.wrap .i64 (48 + p0.tmod (10 : Int)))])
  else
  none
  partial_fixpoint
noncomputable def Ii : Kn St := ⟨71, [.kv .i], [.kv .str], .ro fun x σ => og x.1⟩
theorem Tt (self : Int → Option (List UInt8)) (h : Kn.ok Tryz.prog TB (⟨71, [.kv .i], [.kv .str], .ro fun x σ => self x.1⟩ : Kn St)) : Kn.ok Tryz.prog TB (⟨71, [.kv .i], [.kv .str], .ro fun x σ => GV self x.1⟩ : Kn St) :=
  fQ ⟨Tryz.prog, TB, 20, KLs, MLs, [], [], [], [⟨71, [.kv .i], [.kv .str], .ro fun x σ => self x.1⟩]⟩ ⟨[], [], [], []⟩ aN ⟨h, trivial⟩ (fn := Tryz.f71) (by kernel_rfl) (by kernel_rfl) (by kernel_rfl)
theorem KC : Ii.ok Tryz.prog TB := by
  have hc : callable Tryz.prog 71 = true := by kernel_rfl
  refine NR hc fun x y hx => ?_
  obtain ⟨n, ⟨⟩⟩ := x
  exact og.partial_correctness (fun n r => U0 Tryz.prog TB 71 [.kv .i] [.kv .str] (n, ()) r)
    (fun self ih n r h => VX (P := Tryz.prog) (TB := TB) (f := 71) (ps := [.kv .i]) (rs := [.kv .str]) (g := fun x => GV self x.1) (Tt self (NR hc fun x y hx => ih x.1 y hx)) (x := (n, ())) h) n y hx
end Go.Proofs.YtbnmhjobnepajaaGreat.M


set_option maxRecDepth 100000
namespace Go.Proofs.YtbnmhjobnepajaaGreat.M
open Go.Proofs
noncomputable def sO (p0 : Int) (σ : St) : Option (((Option Nat) × Int) × St) :=
  if (decide (p0 < 0) || decide (p0 > 1048576)) = true then
  some ((none, (2 : Int)), σ)
  else
  some ((some σ.ah.length, (0 : Int)), (σ.bG (σ.ah ++ [(p0, ([], ((0 : Int), (false, ()))))])))

noncomputable def Gv : Kn St := ⟨8, [.kv .i], [.kv (.ptr di), .kv .i], .rw fun x σ => sO x.1 σ⟩

theorem F7 : Gv.ok Tryz.prog TB := mX ⟨Tryz.prog, TB, 14, KLs, MLs, [], [], [], []⟩ ⟨[], [], [], []⟩ aN trivial (fn := Tryz.f8) (by kernel_rfl) (by kernel_rfl) (by kernel_rfl)
noncomputable def uF (p0 : List UInt8) (s0 : Int) : Option (Int ⊕ (Unit ⊕ Bool)) :=
  if decide (s0 < (p0.length : Int)) = true then
  if 0 ≤ s0 ∧ s0 < (p0.length : Int) then
  if ((!(decide (btS p0 s0 < 97))) = true → 0 ≤ s0 ∧ s0 < (p0.length : Int)) then
  if (decide (btS p0 s0 < 97) || decide (btS p0 s0 > 122)) = true then
  some (.inr (.inr false))
  else
  some (.inl (IntKind.wrap .i64 (s0 + 1)))
  else
  none
  else
  none
  else
  some (.inr (.inl ()))

noncomputable def zD (p0 : List UInt8) : Option Bool :=
  Option.bind (aY (uF p0) (0 : Int)) fun x1 =>
  jR x1 (fun x2 =>
  some (decide ((p0.length : Int) ≥ 1) && decide ((p0.length : Int) ≤ 8))) Option.some

noncomputable def JS : Kn St := ⟨34, [.kv .str], [.kv .bool], .ro fun x σ => zD x.1⟩

theorem Nw : JS.ok Tryz.prog TB := fQ ⟨Tryz.prog, TB, 28, KLs, MLs, [], [], [], []⟩ ⟨[], [], [], [(2, ⟨[(6, .kv .i)], false, [⟨.ext 0, []⟩], true, []⟩)]⟩ aN trivial (fn := Tryz.f34) (by kernel_rfl) (by kernel_rfl) (by kernel_rfl)
noncomputable def qJ (p0 : Option Nat) (σ : St) : Option Bool :=
  Option.bind (if (!p0.isNone) = true then
  p0
  else
  some 0) fun x0 =>
  Option.bind (if (!p0.isNone) = true then
  σ.ah[x0]?
  else
  some ((0 : Int), ([], ((0 : Int), (false, ()))))) fun x1 =>
  some ((!p0.isNone) && x1.2.2.2.1)

noncomputable def Au : Kn St := ⟨35, [.kv (.ptr di)], [.kv .bool], .ro fun x σ => qJ x.1 σ⟩

theorem Fv : Au.ok Tryz.prog TB := fQ ⟨Tryz.prog, TB, 11, KLs, MLs, [], [], [], []⟩ ⟨[], [], [], []⟩ aN trivial (fn := Tryz.f35) (by kernel_rfl) (by kernel_rfl) (by kernel_rfl)
noncomputable def nI (p0 : Option Nat) (σ : St) : Option (Option Nat) :=
  Option.bind p0 fun x0 =>
  Option.bind σ.ak[x0]? fun x1 =>
  if ((x1.2.2.2.1.length : Int) == 0) = true then
  some none
  else
  Option.bind p0 fun x2 =>
  Option.bind σ.ak[x2]? fun x3 =>
  Option.bind p0 fun x4 =>
  Option.bind σ.ak[x4]? fun x5 =>
  Option.bind (ix x3.2.2.2.1 (IntKind.wrap .i64 ((x5.2.2.2.1.length : Int) - 1))) fun x6 =>
  some x6

noncomputable def ve : Kn St := ⟨37, [.kv (.ptr jS)], [.kv (.ptr mM)], .ro fun x σ => nI x.1 σ⟩

theorem vg : ve.ok Tryz.prog TB := fQ ⟨Tryz.prog, TB, 21, KLs, MLs, [], [], [], []⟩ ⟨[], [], [], []⟩ aN trivial (fn := Tryz.f37) (by kernel_rfl) (by kernel_rfl) (by kernel_rfl)
noncomputable def jc (p0 : Option Nat) (σ : St) : Option Int :=
  Option.bind (if (!p0.isNone) = true then
  p0
  else
  some 0) fun x0 =>
  Option.bind (if (!p0.isNone) = true then
  σ.ak[x0]?
  else
  some (none, ([], ((0 : Int), ([], ((0 : Int), ())))))) fun x1 =>
  if (p0.isNone || ((x1.2.2.2.1.length : Int) == 0)) = true then
  some (0 : Int)
  else
  Option.bind (nI p0 σ) fun x2 =>
  Option.bind x2 fun x3 =>
  Option.bind σ.ae[x3]? fun x4 =>
  Option.bind x2 fun x5 =>
  Option.bind σ.ae[x5]? fun x6 =>
  some (IntKind.wrap .i64 (x4.1 + (x6.2.1.length : Int)))

noncomputable def nP : Kn St := ⟨30, [.kv (.ptr jS)], [.kv .i], .ro fun x σ => jc x.1 σ⟩

theorem mD : nP.ok Tryz.prog TB := fQ ⟨Tryz.prog, TB, 26, KLs, MLs, [], [], [], [ve]⟩ ⟨[], [], [], []⟩ aN ⟨vg, trivial⟩ (fn := Tryz.f30) (by kernel_rfl) (by kernel_rfl) (by kernel_rfl)
noncomputable def gY (p0 : Option Nat) (p1 : Option Nat) (σ : St) : Option (List UInt8) :=
  Option.bind p0 fun x0 =>
  Option.bind σ.ak[x0]? fun x1 =>
  if (x1.2.1.length + 1) ≤ 9223372036854775807 then
  Option.bind p1 fun x2 =>
  Option.bind σ.ae[x2]? fun x3 =>
  Option.bind (og x3.1) fun x4 =>
  if ((x1.2.1 ++ [46]).length + x4.length) ≤ 9223372036854775807 then
  some ((x1.2.1 ++ [46]) ++ x4)
  else
  none
  else
  none

noncomputable def qB : Kn St := ⟨40, [.kv (.ptr jS), .kv (.ptr mM)], [.kv .str], .ro fun x σ => gY x.1 x.2.1 σ⟩

theorem pM : qB.ok Tryz.prog TB := fQ ⟨Tryz.prog, TB, 16, KLs, MLs, [], [], [], [Ii]⟩ ⟨[], [], [], []⟩ aN ⟨KC, trivial⟩ (fn := Tryz.f40) (by kernel_rfl) (by kernel_rfl) (by kernel_rfl)
noncomputable def jU (p0 : Option Nat) (σ : St) : Option Int :=
  if p0.isNone = true then
  some (1 : Int)
  else
  Option.bind p0 fun x0 =>
  Option.bind σ.ah[x0]? fun x1 =>
  if x1.2.2.2.1 = true then
  some (11 : Int)
  else
  some (0 : Int)

noncomputable def pI : Kn St := ⟨51, [.kv (.ptr di)], [.kv .i], .ro fun x σ => jU x.1 σ⟩

theorem qi : pI.ok Tryz.prog TB := fQ ⟨Tryz.prog, TB, 11, KLs, MLs, [], [], [], []⟩ ⟨[], [], [], []⟩ aN trivial (fn := Tryz.f51) (by kernel_rfl) (by kernel_rfl) (by kernel_rfl)
noncomputable def jl (p0 : Option Nat) (p1 : List UInt8) (σ : St) : Option ((Option Nat) × Int) :=
  Option.bind (jU p0 σ) fun x0 =>
  if (x0 != 0) = true then
  some (none, x0)
  else
  Option.bind p0 fun x1 =>
  Option.bind σ.ah[x1]? fun x2 =>
  Option.bind σ.ah[x1]? fun x3 =>
  if ((dm Kd.str (Kd.ptr 93) p1 x3.2.1).getD none).isNone = true then
  some (none, (8 : Int))
  else
  some ((dm Kd.str (Kd.ptr 93) p1 x3.2.1).getD none, (0 : Int))

noncomputable def nK : Kn St := ⟨72, [.kv (.ptr di), .kv .str], [.kv (.ptr ax), .kv .i], .ro fun x σ => jl x.1 x.2.1 σ⟩

theorem nz : nK.ok Tryz.prog TB := fQ ⟨Tryz.prog, TB, 22, KLs, MLs, [], [], [], [pI]⟩ ⟨[], [], [], []⟩ aN ⟨qi, trivial⟩ (fn := Tryz.f72) (by kernel_rfl) (by kernel_rfl) (by kernel_rfl)
noncomputable def qK (p0 : Option Nat) (p1 : List UInt8) (σ : St) : Option ((List UInt8) × Int) :=
  Option.bind (jl p0 p1 σ) fun x0 =>
  if (x0.2 != 0) = true then
  some ([], x0.2)
  else
  Option.bind x0.1 fun x1 =>
  Option.bind σ.aj[x1]? fun x2 =>
  some (x2.1, (0 : Int))

noncomputable def Az : Kn St := ⟨96, [.kv (.ptr di), .kv .str], [.kv .str, .kv .i], .ro fun x σ => qK x.1 x.2.1 σ⟩

theorem FC : Az.ok Tryz.prog TB := fQ ⟨Tryz.prog, TB, 21, KLs, MLs, [], [], [], [nK]⟩ ⟨[], [], [], []⟩ aN ⟨nz, trivial⟩ (fn := Tryz.f96) (by kernel_rfl) (by kernel_rfl) (by kernel_rfl)
noncomputable def kP (p0 : List UInt8) (p1 : Int) (s0 : Int × Int) : Option ((Int × Int) ⊕ (Unit ⊕ (Int × Int × Int))) :=
  if decide (IntKind.wrap .i64 (p1 + s0.2) < (p0.length : Int)) = true then
  if 0 ≤ IntKind.wrap .i64 (p1 + s0.2) ∧ IntKind.wrap .i64 (p1 + s0.2) < (p0.length : Int) then
  if ((s0.2 == 9) && decide (btS p0 (IntKind.wrap .i64 (p1 + s0.2)) > 1)) = true then
  some (.inr (.inr ((0 : Int), ((0 : Int), (6 : Int)))))
  else
  if 0 ≤ IntKind.wrap .i64 (7 * s0.2) then
  if decide (btS p0 (IntKind.wrap .i64 (p1 + s0.2)) ≥ 128) = true then
  some (.inl (IntKind.wrap .u64 ((BitVec.ofInt 64 s0.1 ||| BitVec.ofInt 64 (IntKind.wrap .u64 (IntKind.wrap .u64 (IntKind.wrap .u8 ((BitVec.ofInt 8 (btS p0 (IntKind.wrap .i64 (p1 + s0.2))) &&& BitVec.ofInt 8 (127 : Int)).toNat : Int)) * (2 ^ min ((IntKind.wrap .i64 (7 * s0.2)).toNat) 64)))).toNat : Int), IntKind.wrap .i64 (s0.2 + 1)))
  else
  if ((btS p0 (IntKind.wrap .i64 (p1 + s0.2)) == 0) && decide (s0.2 > 0)) = true then
  some (.inr (.inr ((0 : Int), ((0 : Int), (6 : Int)))))
  else
  Option.bind (if (IntKind.wrap .u64 ((BitVec.ofInt 64 (IntKind.wrap .u64 ((BitVec.ofInt 64 s0.1 ||| BitVec.ofInt 64 (IntKind.wrap .u64 (IntKind.wrap .u64 (IntKind.wrap .u8 ((BitVec.ofInt 8 (btS p0 (IntKind.wrap .i64 (p1 + s0.2))) &&& BitVec.ofInt 8 (127 : Int)).toNat : Int)) * (2 ^ min ((IntKind.wrap .i64 (7 * s0.2)).toNat) 64)))).toNat : Int)) &&& BitVec.ofInt 64 (1 : Int)).toNat : Int) == 1) = true then
  some (IntKind.wrap .i64 ((BitVec.ofInt 64 (-1 : Int) ^^^ BitVec.ofInt 64 (IntKind.wrap .i64 ((IntKind.wrap .u64 ((BitVec.ofInt 64 s0.1 ||| BitVec.ofInt 64 (IntKind.wrap .u64 (IntKind.wrap .u64 (IntKind.wrap .u8 ((BitVec.ofInt 8 (btS p0 (IntKind.wrap .i64 (p1 + s0.2))) &&& BitVec.ofInt 8 (127 : Int)).toNat : Int)) * (2 ^ min ((IntKind.wrap .i64 (7 * s0.2)).toNat) 64)))).toNat : Int)).fdiv (2 : Int)))).toNat : Int))
  else
  some (IntKind.wrap .i64 ((IntKind.wrap .u64 ((BitVec.ofInt 64 s0.1 ||| BitVec.ofInt 64 (IntKind.wrap .u64 (IntKind.wrap .u64 (IntKind.wrap .u8 ((BitVec.ofInt 8 (btS p0 (IntKind.wrap .i64 (p1 + s0.2))) &&& BitVec.ofInt 8 (127 : Int)).toNat : Int)) * (2 ^ min ((IntKind.wrap .i64 (7 * s0.2)).toNat) 64)))).toNat : Int)).fdiv (2 : Int)))) fun x1 =>
  some (.inr (.inr (x1, (IntKind.wrap .i64 (IntKind.wrap .i64 (p1 + s0.2) + 1), (0 : Int)))))
  else
  none
  else
  none
  else
  some (.inr (.inl ()))

noncomputable def fK (p0 : List UInt8) (p1 : Int) : Option (Int × Int × Int) :=
  if (decide (p1 < 0) || decide (p1 > (p0.length : Int))) = true then
  some ((0 : Int), ((0 : Int), (3 : Int)))
  else
  Option.bind (aY (kP p0 p1) ((0 : Int), (0 : Int))) fun x2 =>
  jR x2 (fun x3 =>
  some ((0 : Int), ((0 : Int), (5 : Int)))) Option.some

noncomputable def kJ : Kn St := ⟨107, [.kv .str, .kv .i], [.kv .i, .kv .i, .kv .i], .ro fun x σ => fK x.1 x.2.1⟩

theorem kR : kJ.ok Tryz.prog TB := fQ ⟨Tryz.prog, TB, 67, KLs, MLs, [], [], [], []⟩ ⟨[], [(16, ⟨[], false, [⟨.nrm, [(10, .kv .i)]⟩], false, []⟩)], [], [(5, ⟨[(7, .kv (.int .u64)), (8, .kv .i)], false, [⟨.ext 0, []⟩], true, []⟩)]⟩ aN trivial (fn := Tryz.f107) (by kernel_rfl) (by kernel_rfl) (by kernel_rfl)
noncomputable def nV (s0 : Int × Int) : Option ((Int × Int) ⊕ Int) :=
  if decide (s0.2 < 8) = true then
  if (IntKind.wrap .u32 ((BitVec.ofInt 32 s0.1 &&& BitVec.ofInt 32 (1 : Int)).toNat : Int) == 1) = true then
  some (.inl (IntKind.wrap .u32 ((BitVec.ofInt 32 (s0.1.fdiv (2 : Int)) ^^^ BitVec.ofInt 32 (2197175160 : Int)).toNat : Int), IntKind.wrap .i64 (s0.2 + 1)))
  else
  some (.inl (s0.1.fdiv (2 : Int), IntKind.wrap .i64 (s0.2 + 1)))
  else
  some (.inr s0.1)

noncomputable def rZ (p0 : Int) (p1 : Int) : Option Int :=
  Option.bind (aY nV (IntKind.wrap .u32 ((BitVec.ofInt 32 p0 ^^^ BitVec.ofInt 32 (IntKind.wrap .u32 p1)).toNat : Int), (0 : Int))) fun x1 =>
  some x1

noncomputable def CJ : Kn St := ⟨144, [.kv (.int .u32), .kv (.int .u8)], [.kv (.int .u32)], .ro fun x σ => rZ x.1 x.2.1⟩

theorem Gq : CJ.ok Tryz.prog TB := fQ ⟨Tryz.prog, TB, 22, KLs, MLs, [], [], [], []⟩ ⟨[], [], [], [(3, ⟨[(0, .kv (.int .u32)), (10, .kv .i)], false, [⟨.ext 0, [(0, .kv (.int .u32))]⟩], false, []⟩)]⟩ aN trivial (fn := Tryz.f144) (by kernel_rfl) (by kernel_rfl) (by kernel_rfl)
noncomputable def rW (p1 : List UInt8) (s0 : Int × Int) : Option ((Int × Int) ⊕ Int) :=
  if decide (s0.2 < (p1.length : Int)) = true then
  if 0 ≤ s0.2 ∧ s0.2 < (p1.length : Int) then
  Option.bind (rZ s0.1 (btS p1 s0.2)) fun x1 =>
  some (.inl (x1, IntKind.wrap .i64 (s0.2 + 1)))
  else
  none
  else
  some (.inr s0.1)

noncomputable def xW (p0 : Int) (p1 : List UInt8) : Option Int :=
  Option.bind (aY (rW p1) (IntKind.wrap .u32 ((BitVec.ofInt 32 (4294967295 : Int) ^^^ BitVec.ofInt 32 p0).toNat : Int), (0 : Int))) fun x2 =>
  some (IntKind.wrap .u32 ((BitVec.ofInt 32 (4294967295 : Int) ^^^ BitVec.ofInt 32 x2).toNat : Int))

noncomputable def H7 : Kn St := ⟨115, [.kv (.int .u32), .kv .str], [.kv (.int .u32)], .ro fun x σ => xW x.1 x.2.1⟩

theorem Kv : H7.ok Tryz.prog TB := fQ ⟨Tryz.prog, TB, 22, KLs, MLs, [], [], [], [CJ]⟩ ⟨[], [], [], [(3, ⟨[(5, .kv (.int .u32)), (11, .kv .i)], false, [⟨.ext 0, [(5, .kv (.int .u32))]⟩], false, []⟩)]⟩ aN ⟨Gq, trivial⟩ (fn := Tryz.f115) (by kernel_rfl) (by kernel_rfl) (by kernel_rfl)
noncomputable def wO (p0 : List UInt8) : Option Int :=
  Option.bind (xW (0 : Int) p0) fun x0 =>
  some x0

noncomputable def Ee : Kn St := ⟨101, [.kv .str], [.kv (.int .u32)], .ro fun x σ => wO x.1⟩

theorem Ef : Ee.ok Tryz.prog TB := fQ ⟨Tryz.prog, TB, 5, KLs, MLs, [], [], [], [H7]⟩ ⟨[], [], [], []⟩ aN ⟨Kv, trivial⟩ (fn := Tryz.f101) (by kernel_rfl) (by kernel_rfl) (by kernel_rfl)
noncomputable def rM (p0 : Int) : Option (List UInt8) :=
  some (cu [IntKind.wrap .u8 p0, IntKind.wrap .u8 (p0.fdiv (256 : Int)), IntKind.wrap .u8 (p0.fdiv (65536 : Int)), IntKind.wrap .u8 (p0.fdiv (16777216 : Int))])

noncomputable def zW : Kn St := ⟨100, [.kv (.int .u32)], [.kv .str], .ro fun x σ => rM x.1⟩

theorem Ap : zW.ok Tryz.prog TB := fQ ⟨Tryz.prog, TB, 16, KLs, MLs, [], [], [], []⟩ ⟨[], [], [], []⟩ aN trivial (fn := Tryz.f100) (by kernel_rfl) (by kernel_rfl) (by kernel_rfl)
noncomputable def xX (p0 : List UInt8) : Option ((List UInt8) × Int) :=
  if decide (IntKind.wrap .i64 ((p0.length : Int) - 4) < 0) = true then
  some ([], (5 : Int))
  else
  if 0 ≤ IntKind.wrap .i64 ((p0.length : Int) - 4) ∧ IntKind.wrap .i64 ((p0.length : Int) - 4) ≤ (p0.length : Int) then
  Option.bind (wO (p0.take ((IntKind.wrap .i64 ((p0.length : Int) - 4)).toNat))) fun x0 =>
  Option.bind (rM x0) fun x1 =>
  if 0 ≤ IntKind.wrap .i64 ((p0.length : Int) - 4) ∧ IntKind.wrap .i64 ((p0.length : Int) - 4) ≤ (p0.length : Int) then
  if (!(x1 == p0.drop ((IntKind.wrap .i64 ((p0.length : Int) - 4)).toNat))) = true then
  some ([], (7 : Int))
  else
  if 0 ≤ IntKind.wrap .i64 ((p0.length : Int) - 4) ∧ IntKind.wrap .i64 ((p0.length : Int) - 4) ≤ (p0.length : Int) then
  some (p0.take ((IntKind.wrap .i64 ((p0.length : Int) - 4)).toNat), (0 : Int))
  else
  none
  else
  none
  else
  none

noncomputable def H8 : Kn St := ⟨143, [.kv .str], [.kv .str, .kv .i], .ro fun x σ => xX x.1⟩

theorem Kw : H8.ok Tryz.prog TB := fQ ⟨Tryz.prog, TB, 24, KLs, MLs, [], [], [], [Ee, zW]⟩ ⟨[], [], [], []⟩ aN ⟨Ef, Ap, trivial⟩ (fn := Tryz.f143) (by kernel_rfl) (by kernel_rfl) (by kernel_rfl)
noncomputable def nZ (s1 : Int × (Int × Int × Int × Int × Int × Int × Int × Int × Int × Int × Unit) × Int) : Option ((Int × (Int × Int × Int × Int × Int × Int × Int × Int × Int × Int × Unit) × Int) ⊕ (Int × (Int × Int × Int × Int × Int × Int × Int × Int × Int × Int × Unit) × Int)) :=
  if decide (s1.1 ≥ 128) = true then
  if 0 ≤ s1.2.2 ∧ s1.2.2 < 10 then
  some (.inl (s1.1.fdiv (128 : Int), (zh (Kd.pair (Kd.int Go.IntKind.u8) (Kd.pair (Kd.int Go.IntKind.u8) (Kd.pair (Kd.int Go.IntKind.u8) (Kd.pair (Kd.int Go.IntKind.u8) (Kd.pair (Kd.int Go.IntKind.u8) (Kd.pair (Kd.int Go.IntKind.u8) (Kd.pair (Kd.int Go.IntKind.u8) (Kd.pair (Kd.int Go.IntKind.u8) (Kd.pair (Kd.int Go.IntKind.u8) (Kd.pair (Kd.int Go.IntKind.u8) Kd.unit)))))))))) s1.2.1 s1.2.2.toNat (IntKind.wrap .u8 ((BitVec.ofInt 8 (IntKind.wrap .u8 s1.1) ||| BitVec.ofInt 8 (128 : Int)).toNat : Int)), IntKind.wrap .i64 (s1.2.2 + 1))))
  else
  none
  else
  some (.inr (s1.1, (s1.2.1, s1.2.2)))

noncomputable def eP (p0 : Int) : Option (List UInt8) :=
  Option.bind (if decide (p0 < 0) = true then
  some (IntKind.wrap .u64 ((BitVec.ofInt 64 (18446744073709551615 : Int) ^^^ BitVec.ofInt 64 (IntKind.wrap .u64 (IntKind.wrap .u64 p0 * 2))).toNat : Int))
  else
  some (IntKind.wrap .u64 (IntKind.wrap .u64 p0 * 2))) fun x0 =>
  Option.bind (aY nZ (x0, (((0 : Int), ((0 : Int), ((0 : Int), ((0 : Int), ((0 : Int), ((0 : Int), ((0 : Int), ((0 : Int), ((0 : Int), ((0 : Int), ())))))))))), (0 : Int)))) fun x2 =>
  if 0 ≤ x2.2.2 ∧ x2.2.2 < 10 then
  if 0 ≤ IntKind.wrap .i64 (x2.2.2 + 1) ∧ IntKind.wrap .i64 (x2.2.2 + 1) ≤ 10 then
  if (IntKind.wrap .i64 (x2.2.2 + 1)).toNat ≤ 10 then
  some (cu ([(zh (Kd.pair (Kd.int Go.IntKind.u8) (Kd.pair (Kd.int Go.IntKind.u8) (Kd.pair (Kd.int Go.IntKind.u8) (Kd.pair (Kd.int Go.IntKind.u8) (Kd.pair (Kd.int Go.IntKind.u8) (Kd.pair (Kd.int Go.IntKind.u8) (Kd.pair (Kd.int Go.IntKind.u8) (Kd.pair (Kd.int Go.IntKind.u8) (Kd.pair (Kd.int Go.IntKind.u8) (Kd.pair (Kd.int Go.IntKind.u8) Kd.unit)))))))))) x2.2.1 x2.2.2.toNat (IntKind.wrap .u8 x2.1)).1, ((zh (Kd.pair (Kd.int Go.IntKind.u8) (Kd.pair (Kd.int Go.IntKind.u8) (Kd.pair (Kd.int Go.IntKind.u8) (Kd.pair (Kd.int Go.IntKind.u8) (Kd.pair (Kd.int Go.IntKind.u8) (Kd.pair (Kd.int Go.IntKind.u8) (Kd.pair (Kd.int Go.IntKind.u8) (Kd.pair (Kd.int Go.IntKind.u8) (Kd.pair (Kd.int Go.IntKind.u8) (Kd.pair (Kd.int Go.IntKind.u8) Kd.unit)))))))))) x2.2.1 x2.2.2.toNat (IntKind.wrap .u8 x2.1)).2).1, (((zh (Kd.pair (Kd.int Go.IntKind.u8) (Kd.pair (Kd.int Go.IntKind.u8) (Kd.pair (Kd.int Go.IntKind.u8) (Kd.pair (Kd.int Go.IntKind.u8) (Kd.pair (Kd.int Go.IntKind.u8) (Kd.pair (Kd.int Go.IntKind.u8) (Kd.pair (Kd.int Go.IntKind.u8) (Kd.pair (Kd.int Go.IntKind.u8) (Kd.pair (Kd.int Go.IntKind.u8) (Kd.pair (Kd.int Go.IntKind.u8) Kd.unit)))))))))) x2.2.1 x2.2.2.toNat (IntKind.wrap .u8 x2.1)).2).2).1, ((((zh (Kd.pair (Kd.int Go.IntKind.u8) (Kd.pair (Kd.int Go.IntKind.u8) (Kd.pair (Kd.int Go.IntKind.u8) (Kd.pair (Kd.int Go.IntKind.u8) (Kd.pair (Kd.int Go.IntKind.u8) (Kd.pair (Kd.int Go.IntKind.u8) (Kd.pair (Kd.int Go.IntKind.u8) (Kd.pair (Kd.int Go.IntKind.u8) (Kd.pair (Kd.int Go.IntKind.u8) (Kd.pair (Kd.int Go.IntKind.u8) Kd.unit)))))))))) x2.2.1 x2.2.2.toNat (IntKind.wrap .u8 x2.1)).2).2).2).1, (((((zh (Kd.pair (Kd.int Go.IntKind.u8) (Kd.pair (Kd.int Go.IntKind.u8) (Kd.pair (Kd.int Go.IntKind.u8) (Kd.pair (Kd.int Go.IntKind.u8) (Kd.pair (Kd.int Go.IntKind.u8) (Kd.pair (Kd.int Go.IntKind.u8) (Kd.pair (Kd.int Go.IntKind.u8) (Kd.pair (Kd.int Go.IntKind.u8) (Kd.pair (Kd.int Go.IntKind.u8) (Kd.pair (Kd.int Go.IntKind.u8) Kd.unit)))))))))) x2.2.1 x2.2.2.toNat (IntKind.wrap .u8 x2.1)).2).2).2).2).1, ((((((zh (Kd.pair (Kd.int Go.IntKind.u8) (Kd.pair (Kd.int Go.IntKind.u8) (Kd.pair (Kd.int Go.IntKind.u8) (Kd.pair (Kd.int Go.IntKind.u8) (Kd.pair (Kd.int Go.IntKind.u8) (Kd.pair (Kd.int Go.IntKind.u8) (Kd.pair (Kd.int Go.IntKind.u8) (Kd.pair (Kd.int Go.IntKind.u8) (Kd.pair (Kd.int Go.IntKind.u8) (Kd.pair (Kd.int Go.IntKind.u8) Kd.unit)))))))))) x2.2.1 x2.2.2.toNat (IntKind.wrap .u8 x2.1)).2).2).2).2).2).1, (((((((zh (Kd.pair (Kd.int Go.IntKind.u8) (Kd.pair (Kd.int Go.IntKind.u8) (Kd.pair (Kd.int Go.IntKind.u8) (Kd.pair (Kd.int Go.IntKind.u8) (Kd.pair (Kd.int Go.IntKind.u8) (Kd.pair (Kd.int Go.IntKind.u8) (Kd.pair (Kd.int Go.IntKind.u8) (Kd.pair (Kd.int Go.IntKind.u8) (Kd.pair (Kd.int Go.IntKind.u8) (Kd.pair (Kd.int Go.IntKind.u8) Kd.unit)))))))))) x2.2.1 x2.2.2.toNat (IntKind.wrap .u8 x2.1)).2).2).2).2).2).2).1, ((((((((zh (Kd.pair (Kd.int Go.IntKind.u8) (Kd.pair (Kd.int Go.IntKind.u8) (Kd.pair (Kd.int Go.IntKind.u8) (Kd.pair (Kd.int Go.IntKind.u8) (Kd.pair (Kd.int Go.IntKind.u8) (Kd.pair (Kd.int Go.IntKind.u8) (Kd.pair (Kd.int Go.IntKind.u8) (Kd.pair (Kd.int Go.IntKind.u8) (Kd.pair (Kd.int Go.IntKind.u8) (Kd.pair (Kd.int Go.IntKind.u8) Kd.unit)))))))))) x2.2.1 x2.2.2.toNat (IntKind.wrap .u8 x2.1)).2).2).2).2).2).2).2).1, (((((((((zh (Kd.pair (Kd.int Go.IntKind.u8) (Kd.pair (Kd.int Go.IntKind.u8) (Kd.pair (Kd.int Go.IntKind.u8) (Kd.pair (Kd.int Go.IntKind.u8) (Kd.pair (Kd.int Go.IntKind.u8) (Kd.pair (Kd.int Go.IntKind.u8) (Kd.pair (Kd.int Go.IntKind.u8) (Kd.pair (Kd.int Go.IntKind.u8) (Kd.pair (Kd.int Go.IntKind.u8) (Kd.pair (Kd.int Go.IntKind.u8) Kd.unit)))))))))) x2.2.1 x2.2.2.toNat (IntKind.wrap .u8 x2.1)).2).2).2).2).2).2).2).2).1, ((((((((((zh (Kd.pair (Kd.int Go.IntKind.u8) (Kd.pair (Kd.int Go.IntKind.u8) (Kd.pair (Kd.int Go.IntKind.u8) (Kd.pair (Kd.int Go.IntKind.u8) (Kd.pair (Kd.int Go.IntKind.u8) (Kd.pair (Kd.int Go.IntKind.u8) (Kd.pair (Kd.int Go.IntKind.u8) (Kd.pair (Kd.int Go.IntKind.u8) (Kd.pair (Kd.int Go.IntKind.u8) (Kd.pair (Kd.int Go.IntKind.u8) Kd.unit)))))))))) x2.2.1 x2.2.2.toNat (IntKind.wrap .u8 x2.1)).2).2).2).2).2).2).2).2).2).1].take ((IntKind.wrap .i64 (x2.2.2 + 1)).toNat)))
  else
  none
  else
  none
  else
  none

noncomputable def kD : Kn St := ⟨66, [.kv .i], [.kv .str], .ro fun x σ => eP x.1⟩

theorem jv : kD.ok Tryz.prog TB := fQ ⟨Tryz.prog, TB, 32, KLs, MLs, [], [], [], []⟩ ⟨[], [(3, ⟨[], false, [⟨.nrm, [(3, .kv (.int .u64))]⟩], false, []⟩)], [], [(6, ⟨[(3, .kv (.int .u64)), (4, .box jZ), (5, .kv .i)], false, [⟨.ext 0, [(3, .kv (.int .u64)), (4, .box jZ), (5, .kv .i)]⟩], false, []⟩)]⟩ aN trivial (fn := Tryz.f66) (by kernel_rfl) (by kernel_rfl) (by kernel_rfl)
noncomputable def EU (p0 : List UInt8) (p1 : Int) (p2 : Int) : Option ((List UInt8) × Int × Bool) :=
  Option.bind (fK p0 p1) fun x0 =>
  if (((x0.2.2 != 0) || decide (x0.1 < 0)) || decide (x0.1 > IntKind.wrap .i64 ((p0.length : Int) - x0.2.1))) = true then
  some ([], ((0 : Int), false))
  else
  if 0 ≤ x0.2.1 ∧ x0.2.1 ≤ IntKind.wrap .i64 (x0.2.1 + x0.1) ∧ IntKind.wrap .i64 (x0.2.1 + x0.1) ≤ (p0.length : Int) then
  Option.bind (xX ((p0.take ((IntKind.wrap .i64 (x0.2.1 + x0.1)).toNat)).drop x0.2.1.toNat)) fun x1 =>
  if (x1.2 != 0) = true then
  some ([], ((0 : Int), false))
  else
  Option.bind (eP p2) fun x2 =>
  if ((!(decide ((x1.1.length : Int) < (x2.length : Int)))) = true → 0 ≤ (x2.length : Int) ∧ (x2.length : Int) ≤ (x1.1.length : Int)) then
  if ((decide ((x1.1.length : Int) < (x2.length : Int)) || (!(x1.1.take ((x2.length : Int).toNat) == x2))) || decide (IntKind.wrap .i64 ((x1.1.length : Int) - (x2.length : Int)) > 1024)) = true then
  some ([], ((0 : Int), false))
  else
  if 0 ≤ (x2.length : Int) ∧ (x2.length : Int) ≤ (x1.1.length : Int) then
  some (x1.1.drop ((x2.length : Int).toNat), (IntKind.wrap .i64 (x0.2.1 + x0.1), true))
  else
  none
  else
  none
  else
  none

noncomputable def PY : Kn St := ⟨114, [.kv .str, .kv .i, .kv .i], [.kv .str, .kv .i, .kv .bool], .ro fun x σ => EU x.1 x.2.1 x.2.2.1⟩

theorem RD : PY.ok Tryz.prog TB := fQ ⟨Tryz.prog, TB, 77, KLs, MLs, [], [], [], [kJ, H8, kD]⟩ ⟨[], [], [], []⟩ aN ⟨kR, Kw, jv, trivial⟩ (fn := Tryz.f114) (by kernel_rfl) (by kernel_rfl) (by kernel_rfl)
noncomputable def uD (p0 : List UInt8) (p1 : Int) (s0 : (List (List UInt8)) × Int) : Option (((List (List UInt8)) × Int) ⊕ ((List (List UInt8)) × Int)) :=
  if decide (p1 ≥ 0) = true then
  Option.bind (EU p0 s0.2 (IntKind.wrap .i64 (p1 + (s0.1.length : Int)))) fun x1 =>
  if (!x1.2.2) = true then
  some (.inr (s0.1, s0.2))
  else
  if ((s0.1.length + 1) * 16) ≤ 140737488355328 then
  some (.inl ((s0.1 ++ [x1.1]), x1.2.1))
  else
  none
  else
  some (.inr (s0.1, s0.2))

noncomputable def zC (p0 : List UInt8) (p1 : Int) : Option ((List (List UInt8)) × Int) :=
  Option.bind (aY (uD p0 p1) ([], (0 : Int))) fun x2 =>
  some (x2.1, x2.2)

noncomputable def JR : Kn St := ⟨97, [.kv .str, .kv .i], [.own 9 16 .str, .kv .i], .ro fun x σ => zC x.1 x.2.1⟩

theorem Nv : JR.ok Tryz.prog TB := fQ ⟨Tryz.prog, TB, 33, KLs, MLs, [], [17], [], [PY]⟩ ⟨[], [], [], [(3, ⟨[(6, .own 9 16 .str), (7, .kv .i)], false, [⟨.ext 0, [(6, .own 9 16 .str), (7, .kv .i)]⟩], false, []⟩)]⟩ aN ⟨RD, trivial⟩ (fn := Tryz.f97) (by kernel_rfl) (by kernel_rfl) (by kernel_rfl)
noncomputable def uC (p0 : Option Nat) (p1 : Int) (σ : St) : Option (((Option Nat) × Int × Int) × St) :=
  Option.bind p0 fun x0 =>
  Option.bind σ.ak[x0]? fun x1 =>
  Option.bind (gY p0 (some σ.ae.length) (σ.aZ (σ.ae ++ [(p1, ([], ((0 : Int), ())))]))) fun x2 =>
  Option.bind (qK x1.1 x2 (σ.aZ (σ.ae ++ [(p1, ([], ((0 : Int), ())))]))) fun x3 =>
  if (x3.2 != 0) = true then
  some ((none, ((0 : Int), x3.2)), (σ.aZ (σ.ae ++ [(p1, ([], ((0 : Int), ())))])))
  else
  Option.bind (zC x3.1 p1) fun x4 =>
  Option.bind ((σ.ae ++ [(p1, ([], ((0 : Int), ())))])[σ.ae.length]?) fun x5 =>
  Option.bind (((σ.ae ++ [(p1, ([], ((0 : Int), ())))]).set σ.ae.length (x5.1, (x4.1, x5.2.2)))[σ.ae.length]?) fun x6 =>
  Option.bind ((((σ.ae ++ [(p1, ([], ((0 : Int), ())))]).set σ.ae.length (x5.1, (x4.1, x5.2.2))).set σ.ae.length (x6.1, (x6.2.1, (x4.2, x6.2.2.2))))[σ.ae.length]?) fun x7 =>
  some ((some σ.ae.length, (IntKind.wrap .i64 ((x3.1.length : Int) - x7.2.2.1), (0 : Int))), (((σ.aZ (σ.ae ++ [(p1, ([], ((0 : Int), ())))])).aZ ((σ.ae ++ [(p1, ([], ((0 : Int), ())))]).set σ.ae.length (x5.1, (x4.1, x5.2.2)))).aZ (((σ.ae ++ [(p1, ([], ((0 : Int), ())))]).set σ.ae.length (x5.1, (x4.1, x5.2.2))).set σ.ae.length (x6.1, (x6.2.1, (x4.2, x6.2.2.2))))))

noncomputable def Es : Kn St := ⟨62, [.kv (.ptr jS), .kv .i], [.kv (.ptr mM), .kv .i, .kv .i], .rw fun x σ => uC x.1 x.2.1 σ⟩

theorem Ih : Es.ok Tryz.prog TB := mX ⟨Tryz.prog, TB, 47, KLs, MLs, [], [], [], [qB, Az, JR]⟩ ⟨[], [], [], []⟩ aN ⟨pM, FC, Nv, trivial⟩ (fn := Tryz.f62) (by kernel_rfl) (by kernel_rfl) (by kernel_rfl)
noncomputable def jG (p0 : Nat) (p1 : Nat) (σ : St) : Option (Unit × St) :=
  Option.bind σ.mG[p0]? fun x0 =>
  Option.bind x0.1 fun x1 =>
  Option.bind σ.ah[x1]? fun x2 =>
  Option.bind σ.tC[p1]? fun x3 =>
  Option.bind σ.ah[x1]? fun x4 =>
  some ((), (σ.bG (σ.ah.set x1 (x4.1, (y8 Kd.str (Kd.ptr 93) x3.1 x4.2.1, x4.2.2)))))

noncomputable def wU : Kn St := ⟨98, [.cap QO, .cap U2], [], .rw fun x σ => jG x.1 x.2.1 σ⟩

theorem AA : wU.ok Tryz.prog TB := mX ⟨Tryz.prog, TB, 7, KLs, MLs, [], [], [], []⟩ ⟨[], [], [], []⟩ aN trivial (fn := Tryz.f98) (by kernel_rfl) (by kernel_rfl) (by kernel_rfl)
noncomputable def eG (p0 : Option Nat) (p1 : Nat × Nat × Unit) (σ : St) : Option (Int × St) :=
  Option.bind p0 fun x0 =>
  Option.bind σ.ah[x0]? fun x1 =>
  if decide (x1.2.2.1 > 0) = true then
  Option.bind p0 fun x2 =>
  Option.bind σ.ah[x2]? fun x3 =>
  Option.bind p0 fun x4 =>
  Option.bind σ.ah[x4]? fun x5 =>
  Option.bind p0 fun x6 =>
  Option.bind ((σ.ah.set x4 (x5.1, (x5.2.1, (IntKind.wrap .i64 (x3.2.2.1 - 1), x5.2.2.2))))[x6]?) fun x7 =>
  if (x7.2.2.1 == 0) = true then
  Option.bind p0 fun x8 =>
  Option.bind ((σ.ah.set x4 (x5.1, (x5.2.1, (IntKind.wrap .i64 (x3.2.2.1 - 1), x5.2.2.2))))[x8]?) fun x9 =>
  some ((11 : Int), ((σ.bG (σ.ah.set x4 (x5.1, (x5.2.1, (IntKind.wrap .i64 (x3.2.2.1 - 1), x5.2.2.2))))).bG ((σ.ah.set x4 (x5.1, (x5.2.1, (IntKind.wrap .i64 (x3.2.2.1 - 1), x5.2.2.2)))).set x8 (x9.1, (x9.2.1, (x9.2.2.1, (true, x9.2.2.2.2)))))))
  else
  Option.bind (jG p1.1 p1.2.1 (σ.bG (σ.ah.set x4 (x5.1, (x5.2.1, (IntKind.wrap .i64 (x3.2.2.1 - 1), x5.2.2.2)))))) fun x10 =>
  some ((0 : Int), x10.2)
  else
  Option.bind (jG p1.1 p1.2.1 σ) fun x11 =>
  some ((0 : Int), x11.2)

noncomputable def kH : Kn St := ⟨69, [.kv (.ptr di), .clo 98 [QO, U2]], [.kv .i], .rw fun x σ => eG x.1 x.2.1 σ⟩

theorem pU : kH.ok Tryz.prog TB := mX ⟨Tryz.prog, TB, 27, KLs, MLs, [], [], [], [wU]⟩ ⟨[], [], [], []⟩ aN ⟨AA, trivial⟩ (fn := Tryz.f69) (by kernel_rfl) (by kernel_rfl) (by kernel_rfl)
noncomputable def nY (p0 : Option Nat) (p1 : List UInt8) (σ : St) : Option (Int × St) :=
  Option.bind ((σ.mG ++ [(p0, ())])[σ.mG.length]?) fun x0 =>
  Option.bind ((σ.tC ++ [(p1, ())])[σ.tC.length]?) fun x1 =>
  Option.bind (jl x0.1 x1.1 ((σ.Fb (σ.mG ++ [(p0, ())])).IL (σ.tC ++ [(p1, ())]))) fun x2 =>
  if (x2.2 != 0) = true then
  some (x2.2, ((σ.Fb (σ.mG ++ [(p0, ())])).IL (σ.tC ++ [(p1, ())])))
  else
  Option.bind ((σ.mG ++ [(p0, ())])[σ.mG.length]?) fun x3 =>
  Option.bind (eG x3.1 (σ.mG.length, (σ.tC.length, ())) ((σ.Fb (σ.mG ++ [(p0, ())])).IL (σ.tC ++ [(p1, ())]))) fun x4 =>
  some (x4.1, x4.2)

noncomputable def yR : Kn St := ⟨63, [.kv (.ptr di), .kv .str], [.kv .i], .rw fun x σ => nY x.1 x.2.1 σ⟩

theorem Df : yR.ok Tryz.prog TB := mX ⟨Tryz.prog, TB, 19, KLs, MLs, [2, 3], [], [], [nK, kH]⟩ ⟨[], [], [], []⟩ aN ⟨nz, pU, trivial⟩ (fn := Tryz.f63) (by kernel_rfl) (by kernel_rfl) (by kernel_rfl)
noncomputable def iZ (p0 : Nat) (p1 : Nat) (σ : St) : Option (Unit × St) :=
  Option.bind σ.aG[p0]? fun x0 =>
  Option.bind σ.aG[p0]? fun x1 =>
  Option.bind x1.1 fun x2 =>
  Option.bind σ.aj[x2]? fun x3 =>
  Option.bind σ.iE[p1]? fun x4 =>
  if 0 ≤ x4.1 ∧ x4.1 ≤ (x3.1.length : Int) then
  Option.bind σ.aG[p0]? fun x5 =>
  Option.bind x5.1 fun x6 =>
  Option.bind σ.aj[x6]? fun x7 =>
  Option.bind x0.1 fun x8 =>
  Option.bind σ.aj[x8]? fun x9 =>
  Option.bind σ.aG[p0]? fun x10 =>
  Option.bind σ.aG[p0]? fun x11 =>
  if x10.1 = x11.1 then
  Option.bind σ.iE[p1]? fun x12 =>
  Option.bind σ.iE[p1]? fun x13 =>
  if x12.1 = x13.1 then
  Option.bind x10.1 fun x14 =>
  Option.bind ((σ.aj.set x8 (x3.1.take x4.1.toNat, x9.2))[x14]?) fun x15 =>
  some ((), ((σ.gy (σ.aj.set x8 (x3.1.take x4.1.toNat, x9.2))).gy ((σ.aj.set x8 (x3.1.take x4.1.toNat, x9.2)).set x14 (x15.1, (if x12.1 < x7.2.1 then
  x12.1
  else
  x7.2.1, x15.2.2)))))
  else
  none
  else
  none
  else
  none

noncomputable def uV : Kn St := ⟨99, [.cap GZ, .cap U1], [], .rw fun x σ => iZ x.1 x.2.1 σ⟩

theorem zt : uV.ok Tryz.prog TB := mX ⟨Tryz.prog, TB, 20, KLs, MLs, [], [], [], []⟩ ⟨[], [], [], []⟩ aN trivial (fn := Tryz.f99) (by kernel_rfl) (by kernel_rfl) (by kernel_rfl)
noncomputable def dP (p0 : Option Nat) (p1 : Nat × Nat × Unit) (σ : St) : Option (Int × St) :=
  Option.bind p0 fun x0 =>
  Option.bind σ.ah[x0]? fun x1 =>
  if decide (x1.2.2.1 > 0) = true then
  Option.bind p0 fun x2 =>
  Option.bind σ.ah[x2]? fun x3 =>
  Option.bind p0 fun x4 =>
  Option.bind σ.ah[x4]? fun x5 =>
  Option.bind p0 fun x6 =>
  Option.bind ((σ.ah.set x4 (x5.1, (x5.2.1, (IntKind.wrap .i64 (x3.2.2.1 - 1), x5.2.2.2))))[x6]?) fun x7 =>
  if (x7.2.2.1 == 0) = true then
  Option.bind p0 fun x8 =>
  Option.bind ((σ.ah.set x4 (x5.1, (x5.2.1, (IntKind.wrap .i64 (x3.2.2.1 - 1), x5.2.2.2))))[x8]?) fun x9 =>
  some ((11 : Int), ((σ.bG (σ.ah.set x4 (x5.1, (x5.2.1, (IntKind.wrap .i64 (x3.2.2.1 - 1), x5.2.2.2))))).bG ((σ.ah.set x4 (x5.1, (x5.2.1, (IntKind.wrap .i64 (x3.2.2.1 - 1), x5.2.2.2)))).set x8 (x9.1, (x9.2.1, (x9.2.2.1, (true, x9.2.2.2.2)))))))
  else
  Option.bind (iZ p1.1 p1.2.1 (σ.bG (σ.ah.set x4 (x5.1, (x5.2.1, (IntKind.wrap .i64 (x3.2.2.1 - 1), x5.2.2.2)))))) fun x10 =>
  some ((0 : Int), x10.2)
  else
  Option.bind (iZ p1.1 p1.2.1 σ) fun x11 =>
  some ((0 : Int), x11.2)

noncomputable def jQ : Kn St := ⟨69, [.kv (.ptr di), .clo 99 [GZ, U1]], [.kv .i], .rw fun x σ => dP x.1 x.2.1 σ⟩

theorem oI : jQ.ok Tryz.prog TB := mX ⟨Tryz.prog, TB, 27, KLs, MLs, [], [], [], [uV]⟩ ⟨[], [], [], []⟩ aN ⟨zt, trivial⟩ (fn := Tryz.f69) (by kernel_rfl) (by kernel_rfl) (by kernel_rfl)
noncomputable def lW (p0 : Option Nat) (p1 : List UInt8) (p2 : Int) (σ : St) : Option (Int × St) :=
  Option.bind (jl p0 p1 (σ.zi (σ.iE ++ [(p2, ())]))) fun x0 =>
  Option.bind ((σ.aG ++ [(none, ())])[σ.aG.length]?) fun x1 =>
  if (x0.2 != 0) = true then
  some (x0.2, (((σ.zi (σ.iE ++ [(p2, ())])).jA (σ.aG ++ [(none, ())])).jA ((σ.aG ++ [(none, ())]).set σ.aG.length (x0.1, x1.2))))
  else
  Option.bind ((σ.iE ++ [(p2, ())])[σ.iE.length]?) fun x2 =>
  if (!(decide (x2.1 < 0))) = true then
  Option.bind ((σ.iE ++ [(p2, ())])[σ.iE.length]?) fun x3 =>
  Option.bind (((σ.aG ++ [(none, ())]).set σ.aG.length (x0.1, x1.2))[σ.aG.length]?) fun x4 =>
  Option.bind x4.1 fun x5 =>
  Option.bind σ.aj[x5]? fun x6 =>
  if decide (x3.1 > (x6.1.length : Int)) = true then
  some ((3 : Int), (((σ.zi (σ.iE ++ [(p2, ())])).jA (σ.aG ++ [(none, ())])).jA ((σ.aG ++ [(none, ())]).set σ.aG.length (x0.1, x1.2))))
  else
  Option.bind (dP p0 (σ.aG.length, (σ.iE.length, ())) (((σ.zi (σ.iE ++ [(p2, ())])).jA (σ.aG ++ [(none, ())])).jA ((σ.aG ++ [(none, ())]).set σ.aG.length (x0.1, x1.2)))) fun x7 =>
  some (x7.1, x7.2)
  else
  some ((3 : Int), (((σ.zi (σ.iE ++ [(p2, ())])).jA (σ.aG ++ [(none, ())])).jA ((σ.aG ++ [(none, ())]).set σ.aG.length (x0.1, x1.2))))

noncomputable def wV : Kn St := ⟨64, [.kv (.ptr di), .kv .str, .kv .i], [.kv .i], .rw fun x σ => lW x.1 x.2.1 x.2.2.1 σ⟩

theorem AL : wV.ok Tryz.prog TB := mX ⟨Tryz.prog, TB, 34, KLs, MLs, [7, 5], [], [], [nK, jQ]⟩ ⟨[], [], [], []⟩ aN ⟨nz, oI, trivial⟩ (fn := Tryz.f64) (by kernel_rfl) (by kernel_rfl) (by kernel_rfl)
noncomputable def lu (p0 : Nat) (σ : St) : Option (Unit × St) :=
  Option.bind σ.aG[p0]? fun x0 =>
  Option.bind σ.aG[p0]? fun x1 =>
  Option.bind x1.1 fun x2 =>
  Option.bind σ.aj[x2]? fun x3 =>
  Option.bind x0.1 fun x4 =>
  Option.bind σ.aj[x4]? fun x5 =>
  some ((), (σ.gy (σ.aj.set x4 (x5.1, ((x3.1.length : Int), x5.2.2)))))

noncomputable def yS : Kn St := ⟨73, [.cap GZ], [], .rw fun x σ => lu x.1 σ⟩

theorem Dh : yS.ok Tryz.prog TB := mX ⟨Tryz.prog, TB, 9, KLs, MLs, [], [], [], []⟩ ⟨[], [], [], []⟩ aN trivial (fn := Tryz.f73) (by kernel_rfl) (by kernel_rfl) (by kernel_rfl)
noncomputable def fC (p0 : Option Nat) (p1 : Nat × Unit) (σ : St) : Option (Int × St) :=
  Option.bind p0 fun x0 =>
  Option.bind σ.ah[x0]? fun x1 =>
  if decide (x1.2.2.1 > 0) = true then
  Option.bind p0 fun x2 =>
  Option.bind σ.ah[x2]? fun x3 =>
  Option.bind p0 fun x4 =>
  Option.bind σ.ah[x4]? fun x5 =>
  Option.bind p0 fun x6 =>
  Option.bind ((σ.ah.set x4 (x5.1, (x5.2.1, (IntKind.wrap .i64 (x3.2.2.1 - 1), x5.2.2.2))))[x6]?) fun x7 =>
  if (x7.2.2.1 == 0) = true then
  Option.bind p0 fun x8 =>
  Option.bind ((σ.ah.set x4 (x5.1, (x5.2.1, (IntKind.wrap .i64 (x3.2.2.1 - 1), x5.2.2.2))))[x8]?) fun x9 =>
  some ((11 : Int), ((σ.bG (σ.ah.set x4 (x5.1, (x5.2.1, (IntKind.wrap .i64 (x3.2.2.1 - 1), x5.2.2.2))))).bG ((σ.ah.set x4 (x5.1, (x5.2.1, (IntKind.wrap .i64 (x3.2.2.1 - 1), x5.2.2.2)))).set x8 (x9.1, (x9.2.1, (x9.2.2.1, (true, x9.2.2.2.2)))))))
  else
  Option.bind (lu p1.1 (σ.bG (σ.ah.set x4 (x5.1, (x5.2.1, (IntKind.wrap .i64 (x3.2.2.1 - 1), x5.2.2.2)))))) fun x10 =>
  some ((0 : Int), x10.2)
  else
  Option.bind (lu p1.1 σ) fun x11 =>
  some ((0 : Int), x11.2)

noncomputable def lG : Kn St := ⟨69, [.kv (.ptr di), .clo 73 [GZ]], [.kv .i], .rw fun x σ => fC x.1 x.2.1 σ⟩

theorem qP : lG.ok Tryz.prog TB := mX ⟨Tryz.prog, TB, 27, KLs, MLs, [], [], [], [yS]⟩ ⟨[], [], [], []⟩ aN ⟨Dh, trivial⟩ (fn := Tryz.f69) (by kernel_rfl) (by kernel_rfl) (by kernel_rfl)
noncomputable def qL (p0 : Option Nat) (p1 : List UInt8) (σ : St) : Option (Int × St) :=
  Option.bind (jl p0 p1 σ) fun x0 =>
  Option.bind ((σ.aG ++ [(none, ())])[σ.aG.length]?) fun x1 =>
  if (x0.2 != 0) = true then
  some (x0.2, ((σ.jA (σ.aG ++ [(none, ())])).jA ((σ.aG ++ [(none, ())]).set σ.aG.length (x0.1, x1.2))))
  else
  Option.bind (fC p0 (σ.aG.length, ()) ((σ.jA (σ.aG ++ [(none, ())])).jA ((σ.aG ++ [(none, ())]).set σ.aG.length (x0.1, x1.2)))) fun x2 =>
  some (x2.1, x2.2)

noncomputable def AB : Kn St := ⟨41, [.kv (.ptr di), .kv .str], [.kv .i], .rw fun x σ => qL x.1 x.2.1 σ⟩

theorem FD : AB.ok Tryz.prog TB := mX ⟨Tryz.prog, TB, 19, KLs, MLs, [5], [], [], [nK, lG]⟩ ⟨[], [], [], []⟩ aN ⟨nz, qP, trivial⟩ (fn := Tryz.f41) (by kernel_rfl) (by kernel_rfl) (by kernel_rfl)
noncomputable def jL (p0 : Option Nat) (σ : St) : Option (Int × St) :=
  if p0.isNone = true then
  some ((1 : Int), σ)
  else
  Option.bind (nI p0 σ) fun x0 =>
  Option.bind (if (!x0.isNone) = true then
  Option.bind p0 fun x1 =>
  Option.bind σ.ak[x1]? fun x2 =>
  Option.bind (gY p0 x0 σ) fun x3 =>
  Option.bind (qL x2.1 x3 σ) fun x4 =>
  if (x4.1 != 0) = true then
  some (.inr (x4.1, x4.2))
  else
  some (.inl x4.2)
  else
  some (.inl σ)) fun x5 =>
  jR x5 (fun x6 =>
  Option.bind (jc p0 x6) fun x7 =>
  Option.bind p0 fun x8 =>
  Option.bind x6.ak[x8]? fun x9 =>
  some ((0 : Int), (x6.qE (x6.ak.set x8 (x9.1, (x9.2.1, (x9.2.2.1, (x9.2.2.2.1, (x7, x9.2.2.2.2.2))))))))) Option.some

noncomputable def uY : Kn St := ⟨14, [.kv (.ptr jS)], [.kv .i], .rw fun x σ => jL x.1 σ⟩

theorem uZ : uY.ok Tryz.prog TB := mX ⟨Tryz.prog, TB, 27, KLs, MLs, [], [], [], [ve, qB, AB, nP]⟩ ⟨[], [(5, ⟨[], true, [⟨.nrm, []⟩], true, []⟩)], [], []⟩ aN ⟨vg, pM, FD, mD, trivial⟩ (fn := Tryz.f14) (by kernel_rfl) (by kernel_rfl) (by kernel_rfl)
noncomputable def mf (p0 : Option Nat) (x0 : List Int) (s1 : Int × Int × Int × St) : Option ((Int × Int × Int × St) ⊕ ((Int × Int × St) ⊕ (Int × St))) :=
  if decide (s1.2.2.1 < (x0.length : Int)) = true then
  Option.bind (ix x0 s1.2.2.1) fun x2 =>
  Option.bind (if (decide (s1.2.2.1 > 0) && (!(decide (s1.1 > 0)))) = true then
  jc p0 s1.2.2.2
  else
  some (0 : Int)) fun x3 =>
  if (decide (s1.2.2.1 > 0) && (decide (s1.1 > 0) || (x2 != x3))) = true then
  some (.inr (.inl (s1.1, (s1.2.1, s1.2.2.2))))
  else
  Option.bind (uC p0 x2 s1.2.2.2) fun x4 =>
  if (x4.1.2.2 != 0) = true then
  some (.inr (.inr (x4.1.2.2, x4.2)))
  else
  Option.bind p0 fun x5 =>
  Option.bind x4.2.ak[x5]? fun x6 =>
  if ((x6.2.2.2.1.length + 1) * 8) ≤ 140737488355328 then
  Option.bind p0 fun x7 =>
  Option.bind x4.2.ak[x7]? fun x8 =>
  if x5 = x7 ∧ true = true then
  some (.inl (x4.1.2.1, (IntKind.wrap .i64 (s1.2.2.1 + 1), (IntKind.wrap .i64 (s1.2.2.1 + 1), (x4.2.qE (x4.2.ak.set x7 (x8.1, (x8.2.1, (x8.2.2.1, ((x6.2.2.2.1 ++ [x4.1.1]), x8.2.2.2.2))))))))))
  else
  none
  else
  none
  else
  some (.inr (.inl (s1.1, (s1.2.1, s1.2.2.2))))

noncomputable def jM (p0 : Option Nat) (x0 : List Int) (x10 : Int × Int × St) (x12 : (Option Nat) × (List UInt8) × Int × (List (Option Nat)) × Int × Unit) (s13 : Int × St) : Option ((Int × St) ⊕ (St ⊕ (Int × St))) :=
  if decide (s13.1 ≥ x10.2.1) = true then
  Option.bind (ix x0 s13.1) fun x14 =>
  Option.bind (gY p0 (some s13.2.ae.length) (s13.2.aZ (s13.2.ae ++ [(x14, ([], ((0 : Int), ())))]))) fun x15 =>
  Option.bind (nY x12.1 x15 (s13.2.aZ (s13.2.ae ++ [(x14, ([], ((0 : Int), ())))]))) fun x16 =>
  if (x16.1 != 0) = true then
  some (.inr (.inr (x16.1, x16.2)))
  else
  some (.inl (IntKind.wrap .i64 (s13.1 - 1), x16.2))
  else
  some (.inr (.inl s13.2))

noncomputable def pG (p0 : Option Nat) (σ : St) : Option (Int × St) :=
  Option.bind (jq p0 σ) fun x0 =>
  Option.bind (aY (mf p0 x0) ((0 : Int), ((0 : Int), ((0 : Int), σ)))) fun x9 =>
  jR x9 (fun x10 =>
  Option.bind p0 fun x11 =>
  Option.bind x10.2.2.ak[x11]? fun x12 =>
  Option.bind (aY (jM p0 x0 x10 x12) (IntKind.wrap .i64 ((x0.length : Int) - 1), x10.2.2)) fun x17 =>
  jR x17 (fun x18 =>
  if (x10.2.1 == 0) = true then
  some ((0 : Int), x18)
  else
  Option.bind p0 fun x19 =>
  Option.bind x18.ak[x19]? fun x20 =>
  Option.bind (ix x20.2.2.2.1 (IntKind.wrap .i64 (x10.2.1 - 1))) fun x21 =>
  if decide (x10.1 > 0) = true then
  Option.bind p0 fun x22 =>
  Option.bind x18.ak[x22]? fun x23 =>
  Option.bind (gY p0 x21 x18) fun x24 =>
  Option.bind x21 fun x25 =>
  Option.bind x18.ae[x25]? fun x26 =>
  Option.bind (lW x23.1 x24 x26.2.2.1 x18) fun x27 =>
  if (x27.1 != 0) = true then
  some (x27.1, x27.2)
  else
  Option.bind (jL p0 x27.2) fun x28 =>
  some (x28.1, x28.2)
  else
  Option.bind (jL p0 x18) fun x29 =>
  some (x29.1, x29.2)) Option.some) Option.some

noncomputable def zK : Kn St := ⟨36, [.kv (.ptr jS)], [.kv .i], .rw fun x σ => pG x.1 σ⟩

theorem Et : zK.ok Tryz.prog TB := mX ⟨Tryz.prog, TB, 116, KLs, MLs, [], [], [51], [Bd, nP, Es, qB, yR, wV, uY]⟩ ⟨[], [], [], [(4, ⟨[(4, .kv .i), (5, .kv .i), (20, .kv .i)], true, [⟨.ext 0, [(4, .kv .i), (5, .kv .i)]⟩], true, []⟩), (15, ⟨[(12, .kv .i)], true, [⟨.ext 2, []⟩], true, []⟩)]⟩ aN ⟨FP, mD, Ih, pM, Df, AL, uZ, trivial⟩ (fn := Tryz.f36) (by kernel_rfl) (by kernel_rfl) (by kernel_rfl)
noncomputable def BJ (p0 : Option Nat) (p1 : List UInt8) (p2 : Int) (σ : St) : Option (((Option Nat) × Int) × St) :=
  if p0.isNone = true then
  some ((none, (1 : Int)), σ)
  else
  Option.bind (zD p1) fun x0 =>
  if (((!x0) || decide (p2 < 64)) || decide (p2 > 65536)) = true then
  some ((none, (2 : Int)), σ)
  else
  Option.bind (qJ p0 σ) fun x1 =>
  if x1 = true then
  some ((none, (11 : Int)), σ)
  else
  Option.bind (pG (some σ.ak.length) (σ.qE (σ.ak ++ [(p0, (p1, (p2, ([], ((0 : Int), ())))))]))) fun x2 =>
  if (x2.1 != 0) = true then
  some ((none, x2.1), x2.2)
  else
  some ((some σ.ak.length, (0 : Int)), x2.2)

noncomputable def Nu : Kn St := ⟨12, [.kv (.ptr di), .kv .str, .kv .i], [.kv (.ptr jS), .kv .i], .rw fun x σ => BJ x.1 x.2.1 x.2.2.1 σ⟩

theorem OJ : Nu.ok Tryz.prog TB := mX ⟨Tryz.prog, TB, 39, KLs, MLs, [], [], [], [JS, Au, zK]⟩ ⟨[], [], [], []⟩ aN ⟨Nw, Fv, Et, trivial⟩ (fn := Tryz.f12) (by kernel_rfl) (by kernel_rfl) (by kernel_rfl)
noncomputable def lU (p0 : Option Nat) (σ : St) : Option Int :=
  Option.bind (if (!p0.isNone) = true then
  p0
  else
  some 0) fun x0 =>
  Option.bind (if (!p0.isNone) = true then
  σ.ak[x0]?
  else
  some (none, ([], ((0 : Int), ([], ((0 : Int), ())))))) fun x1 =>
  if (p0.isNone || ((x1.2.2.2.1.length : Int) == 0)) = true then
  some (0 : Int)
  else
  Option.bind p0 fun x2 =>
  Option.bind σ.ak[x2]? fun x3 =>
  Option.bind (ix x3.2.2.2.1 (0 : Int)) fun x4 =>
  Option.bind x4 fun x5 =>
  Option.bind σ.ae[x5]? fun x6 =>
  some x6.1

noncomputable def xx : Kn St := ⟨29, [.kv (.ptr jS)], [.kv .i], .ro fun x σ => lU x.1 σ⟩

theorem y7 : xx.ok Tryz.prog TB := fQ ⟨Tryz.prog, TB, 22, KLs, MLs, [], [], [], []⟩ ⟨[], [], [], []⟩ aN trivial (fn := Tryz.f29) (by kernel_rfl) (by kernel_rfl) (by kernel_rfl)
noncomputable def pF (p0 : Option Nat) (p1 : Int) (σ : St) (s4 : Int) : Option (Int ⊕ Int) :=
  Option.bind p0 fun x5 =>
  Option.bind σ.ak[x5]? fun x6 =>
  Option.bind (ix x6.2.2.2.1 s4) fun x7 =>
  Option.bind x7 fun x8 =>
  Option.bind σ.ae[x8]? fun x9 =>
  if decide (x9.1 > p1) = true then
  some (.inl (IntKind.wrap .i64 (s4 - 1)))
  else
  some (.inr s4)

noncomputable def uB (p0 : Option Nat) (p1 : Int) (σ : St) : Option ((List UInt8) × Int) :=
  if p0.isNone = true then
  some ([], (1 : Int))
  else
  Option.bind (lU p0 σ) fun x0 =>
  if decide (p1 < x0) = true then
  some ([], (13 : Int))
  else
  Option.bind (jc p0 σ) fun x1 =>
  if decide (p1 ≥ x1) = true then
  some ([], (8 : Int))
  else
  Option.bind p0 fun x2 =>
  Option.bind σ.ak[x2]? fun x3 =>
  Option.bind (aY (pF p0 p1 σ) (IntKind.wrap .i64 ((x3.2.2.2.1.length : Int) - 1))) fun x10 =>
  Option.bind p0 fun x11 =>
  Option.bind σ.ak[x11]? fun x12 =>
  Option.bind (ix x12.2.2.2.1 x10) fun x13 =>
  Option.bind x13 fun x14 =>
  Option.bind σ.ae[x14]? fun x15 =>
  Option.bind p0 fun x16 =>
  Option.bind σ.ak[x16]? fun x17 =>
  Option.bind (ix x17.2.2.2.1 x10) fun x18 =>
  Option.bind x18 fun x19 =>
  Option.bind σ.ae[x19]? fun x20 =>
  Option.bind (ix x15.2.1 (IntKind.wrap .i64 (p1 - x20.1))) fun x21 =>
  some (x21, (0 : Int))

noncomputable def Ep : Kn St := ⟨31, [.kv (.ptr jS), .kv .i], [.kv .str, .kv .i], .ro fun x σ => uB x.1 x.2.1 σ⟩

theorem Ig : Ep.ok Tryz.prog TB := fQ ⟨Tryz.prog, TB, 64, KLs, MLs, [], [], [], [xx, nP]⟩ ⟨[], [], [], [(8, ⟨[(6, .kv .i)], false, [⟨.ext 1, [(6, .kv .i)]⟩], false, []⟩)]⟩ aN ⟨y7, mD, trivial⟩ (fn := Tryz.f31) (by kernel_rfl) (by kernel_rfl) (by kernel_rfl)
noncomputable def dB (p0 : Option Nat) (σ : St) : Option (Int × St) :=
  Option.bind p0 fun x0 =>
  Option.bind σ.au[x0]? fun x1 =>
  if (x1.2.2.1 != 0) = true then
  some ((0 : Int), σ)
  else
  Option.bind p0 fun x2 =>
  Option.bind σ.au[x2]? fun x3 =>
  Option.bind p0 fun x4 =>
  Option.bind σ.au[x4]? fun x5 =>
  Option.bind (fK x3.1 x5.2.1) fun x6 =>
  Option.bind p0 fun x7 =>
  Option.bind σ.au[x7]? fun x8 =>
  Option.bind p0 fun x9 =>
  Option.bind ((σ.au.set x7 (x8.1, (x6.2.1, x8.2.2)))[x9]?) fun x10 =>
  some (x6.1, ((σ.bz (σ.au.set x7 (x8.1, (x6.2.1, x8.2.2)))).bz ((σ.au.set x7 (x8.1, (x6.2.1, x8.2.2))).set x9 (x10.1, (x10.2.1, (x6.2.2, x10.2.2.2))))))

noncomputable def lN : Kn St := ⟨82, [.kv (.ptr jE)], [.kv .i], .rw fun x σ => dB x.1 σ⟩

theorem mV : lN.ok Tryz.prog TB := mX ⟨Tryz.prog, TB, 33, KLs, MLs, [], [], [], [kJ]⟩ ⟨[], [], [], []⟩ aN ⟨kR, trivial⟩ (fn := Tryz.f82) (by kernel_rfl) (by kernel_rfl) (by kernel_rfl)
noncomputable def qh (p0 : List UInt8) (p1 : Int) (p2 : Int) : Option (Int × Int × Int) :=
  Option.bind (fK p0 p1) fun x0 =>
  if (x0.2.2 != 0) = true then
  some ((0 : Int), ((0 : Int), x0.2.2))
  else
  if decide (x0.1 < 0) = true then
  some ((0 : Int), ((0 : Int), (6 : Int)))
  else
  if decide (x0.1 > p2) = true then
  some ((0 : Int), ((0 : Int), (4 : Int)))
  else
  some (x0.1, (x0.2.1, (0 : Int)))

noncomputable def y5 : Kn St := ⟨129, [.kv .str, .kv .i, .kv .i], [.kv .i, .kv .i, .kv .i], .ro fun x σ => qh x.1 x.2.1 x.2.2.1⟩

theorem zJ : y5.ok Tryz.prog TB := fQ ⟨Tryz.prog, TB, 32, KLs, MLs, [], [], [], [kJ]⟩ ⟨[], [], [], []⟩ aN ⟨kR, trivial⟩ (fn := Tryz.f129) (by kernel_rfl) (by kernel_rfl) (by kernel_rfl)
noncomputable def pz (p0 : List UInt8) (p1 : Int) : Option ((List UInt8) × Int × Int) :=
  Option.bind (qh p0 p1 (4096 : Int)) fun x0 =>
  if (x0.2.2 != 0) = true then
  some ([], ((0 : Int), x0.2.2))
  else
  if decide (x0.1 > IntKind.wrap .i64 ((p0.length : Int) - x0.2.1)) = true then
  some ([], ((0 : Int), (5 : Int)))
  else
  if 0 ≤ x0.2.1 ∧ x0.2.1 ≤ IntKind.wrap .i64 (x0.2.1 + x0.1) ∧ IntKind.wrap .i64 (x0.2.1 + x0.1) ≤ (p0.length : Int) then
  some ((p0.take ((IntKind.wrap .i64 (x0.2.1 + x0.1)).toNat)).drop x0.2.1.toNat, (IntKind.wrap .i64 (x0.2.1 + x0.1), (0 : Int)))
  else
  none

noncomputable def zH : Kn St := ⟨108, [.kv .str, .kv .i], [.kv .str, .kv .i, .kv .i], .ro fun x σ => pz x.1 x.2.1⟩

theorem Eo : zH.ok Tryz.prog TB := fQ ⟨Tryz.prog, TB, 37, KLs, MLs, [], [], [], [y5]⟩ ⟨[], [], [], []⟩ aN ⟨zJ, trivial⟩ (fn := Tryz.f108) (by kernel_rfl) (by kernel_rfl) (by kernel_rfl)
noncomputable def mZ (p0 : Option Nat) (σ : St) : Option ((List UInt8) × St) :=
  Option.bind p0 fun x0 =>
  Option.bind σ.au[x0]? fun x1 =>
  if (x1.2.2.1 != 0) = true then
  some ([], σ)
  else
  Option.bind p0 fun x2 =>
  Option.bind σ.au[x2]? fun x3 =>
  Option.bind p0 fun x4 =>
  Option.bind σ.au[x4]? fun x5 =>
  Option.bind (pz x3.1 x5.2.1) fun x6 =>
  Option.bind p0 fun x7 =>
  Option.bind σ.au[x7]? fun x8 =>
  Option.bind p0 fun x9 =>
  Option.bind ((σ.au.set x7 (x8.1, (x6.2.1, x8.2.2)))[x9]?) fun x10 =>
  some (x6.1, ((σ.bz (σ.au.set x7 (x8.1, (x6.2.1, x8.2.2)))).bz ((σ.au.set x7 (x8.1, (x6.2.1, x8.2.2))).set x9 (x10.1, (x10.2.1, (x6.2.2, x10.2.2.2))))))

noncomputable def xJ : Kn St := ⟨83, [.kv (.ptr jE)], [.kv .str], .rw fun x σ => mZ x.1 σ⟩

theorem BN : xJ.ok Tryz.prog TB := mX ⟨Tryz.prog, TB, 33, KLs, MLs, [], [], [], [zH]⟩ ⟨[], [], [], []⟩ aN ⟨Eo, trivial⟩ (fn := Tryz.f83) (by kernel_rfl) (by kernel_rfl) (by kernel_rfl)
noncomputable def dU (p0 : List UInt8) (x0 : Int × Int × Int) (s1 : Int × (List Int) × Int) : Option ((Int × (List Int) × Int) ⊕ ((Int × List Int) ⊕ ((List Int) × Int × Int))) :=
  if decide (s1.2.2 < x0.1) = true then
  Option.bind (fK p0 s1.1) fun x2 =>
  if (x2.2.2 != 0) = true then
  some (.inr (.inr ([], ((0 : Int), x2.2.2))))
  else
  if ((s1.2.1.length + 1) * 8) ≤ 140737488355328 then
  some (.inl (x2.2.1, ((s1.2.1 ++ [x2.1]), IntKind.wrap .i64 (s1.2.2 + 1))))
  else
  none
  else
  some (.inr (.inl (s1.1, s1.2.1)))

noncomputable def gX (p0 : List UInt8) (p1 : Int) (p2 : Unit) : Option ((List Int) × Int × Int) :=
  Option.bind (qh p0 p1 (256 : Int)) fun x0 =>
  if (x0.2.2 != 0) = true then
  some ([], ((0 : Int), x0.2.2))
  else
  Option.bind (aY (dU p0 x0) (x0.2.1, ([], (0 : Int)))) fun x3 =>
  jR x3 (fun x4 =>
  some (x4.2, (x4.1, (0 : Int)))) Option.some

noncomputable def kV : Kn St := ⟨130, [.kv .str, .kv .i, .clo 107 []], [.kv (.list .i), .kv .i, .kv .i], .ro fun x σ => gX x.1 x.2.1 x.2.2.1⟩

theorem qA : kV.ok Tryz.prog TB := fQ ⟨Tryz.prog, TB, 48, KLs, MLs, [], [46], [], [y5, kJ]⟩ ⟨[], [], [], [(6, ⟨[(10, .kv .i), (12, .own 3 8 .i), (27, .kv .i)], false, [⟨.ext 0, [(10, .kv .i), (12, .own 3 8 .i)]⟩], true, []⟩)]⟩ aN ⟨zJ, kR, trivial⟩ (fn := Tryz.f130) (by kernel_rfl) (by kernel_rfl) (by kernel_rfl)
noncomputable def lZ (p0 : List UInt8) (p1 : Int) : Option ((List Int) × Int × Int) :=
  Option.bind (gX p0 p1 ()) fun x0 =>
  some (x0.1, (x0.2.1, x0.2.2))

noncomputable def xh : Kn St := ⟨109, [.kv .str, .kv .i], [.kv (.list .i), .kv .i, .kv .i], .ro fun x σ => lZ x.1 x.2.1⟩

theorem Ba : xh.ok Tryz.prog TB := fQ ⟨Tryz.prog, TB, 13, KLs, MLs, [], [], [], [kV]⟩ ⟨[], [], [], []⟩ aN ⟨qA, trivial⟩ (fn := Tryz.f109) (by kernel_rfl) (by kernel_rfl) (by kernel_rfl)
noncomputable def kN (p0 : Option Nat) (σ : St) : Option ((List Int) × St) :=
  Option.bind p0 fun x0 =>
  Option.bind σ.au[x0]? fun x1 =>
  if (x1.2.2.1 != 0) = true then
  some ([], σ)
  else
  Option.bind p0 fun x2 =>
  Option.bind σ.au[x2]? fun x3 =>
  Option.bind p0 fun x4 =>
  Option.bind σ.au[x4]? fun x5 =>
  Option.bind (lZ x3.1 x5.2.1) fun x6 =>
  Option.bind p0 fun x7 =>
  Option.bind σ.au[x7]? fun x8 =>
  Option.bind p0 fun x9 =>
  Option.bind ((σ.au.set x7 (x8.1, (x6.2.1, x8.2.2)))[x9]?) fun x10 =>
  some (x6.1, ((σ.bz (σ.au.set x7 (x8.1, (x6.2.1, x8.2.2)))).bz ((σ.au.set x7 (x8.1, (x6.2.1, x8.2.2))).set x9 (x10.1, (x10.2.1, (x6.2.2, x10.2.2.2))))))

noncomputable def uU : Kn St := ⟨84, [.kv (.ptr jE)], [.kv (.list .i)], .rw fun x σ => kN x.1 σ⟩

theorem zq : uU.ok Tryz.prog TB := mX ⟨Tryz.prog, TB, 33, KLs, MLs, [], [], [], [xh]⟩ ⟨[], [], [], []⟩ aN ⟨Ba, trivial⟩ (fn := Tryz.f84) (by kernel_rfl) (by kernel_rfl) (by kernel_rfl)
noncomputable def gW (p0 : Int) (p1 : Int) (p2 : Int) : Option Bool :=
  some (decide (p0 ≥ p1) && decide (p0 ≤ p2))

noncomputable def nJ : Kn St := ⟨92, [.kv .i, .kv .i, .kv .i], [.kv .bool], .ro fun x σ => gW x.1 x.2.1 x.2.2.1⟩

theorem mi : nJ.ok Tryz.prog TB := fQ ⟨Tryz.prog, TB, 15, KLs, MLs, [], [], [], []⟩ ⟨[], [], [], []⟩ aN trivial (fn := Tryz.f92) (by kernel_rfl) (by kernel_rfl) (by kernel_rfl)
noncomputable def lC (p0 : List UInt8) (s0 : (List (List UInt8)) × Int × Int) : Option (((List (List UInt8)) × Int × Int) ⊕ ((List (List UInt8)) × Int)) :=
  if decide (s0.2.2 < (p0.length : Int)) = true then
  if 0 ≤ s0.2.2 ∧ s0.2.2 < (p0.length : Int) then
  if (btS p0 s0.2.2 == 47) = true then
  if 0 ≤ s0.2.1 ∧ s0.2.1 ≤ s0.2.2 ∧ s0.2.2 ≤ (p0.length : Int) then
  if ((s0.1.length + 1) * 16) ≤ 140737488355328 then
  some (.inl ((s0.1 ++ [(p0.take s0.2.2.toNat).drop s0.2.1.toNat]), (IntKind.wrap .i64 (s0.2.2 + 1), IntKind.wrap .i64 (s0.2.2 + 1))))
  else
  none
  else
  none
  else
  some (.inl (s0.1, (s0.2.1, IntKind.wrap .i64 (s0.2.2 + 1))))
  else
  none
  else
  some (.inr (s0.1, s0.2.1))

noncomputable def sF (p0 : List UInt8) : Option (List (List UInt8)) :=
  Option.bind (aY (lC p0) ([], ((0 : Int), (0 : Int)))) fun x1 =>
  if 0 ≤ x1.2 ∧ x1.2 ≤ (p0.length : Int) then
  if ((x1.1.length + 1) * 16) ≤ 140737488355328 then
  some (x1.1 ++ [p0.drop x1.2.toNat])
  else
  none
  else
  none

noncomputable def CX : Kn St := ⟨152, [.kv .str], [.kv (.list .str)], .ro fun x σ => sF x.1⟩

theorem Gw : CX.ok Tryz.prog TB := fQ ⟨Tryz.prog, TB, 31, KLs, MLs, [], [], [], []⟩ ⟨[], [], [], [(4, ⟨[(3, .own 9 16 .str), (4, .kv .i), (8, .kv .i)], false, [⟨.ext 0, [(3, .own 9 16 .str), (4, .kv .i)]⟩], false, []⟩)]⟩ aN trivial (fn := Tryz.f152) (by kernel_rfl) (by kernel_rfl) (by kernel_rfl)
noncomputable def sS (p0 : List UInt8) (s0 : Int) : Option (Int ⊕ (Unit ⊕ Bool)) :=
  if decide (s0 < (p0.length : Int)) = true then
  if 0 ≤ s0 ∧ s0 < (p0.length : Int) then
  if (decide (btS p0 s0 ≥ 97) && decide (btS p0 s0 ≤ 122)) = true then
  some (.inl (IntKind.wrap .i64 (s0 + 1)))
  else
  if (decide (btS p0 s0 ≥ 48) && decide (btS p0 s0 ≤ 57)) = true then
  some (.inl (IntKind.wrap .i64 (s0 + 1)))
  else
  if (btS p0 s0 == 45) = true then
  some (.inl (IntKind.wrap .i64 (s0 + 1)))
  else
  if (btS p0 s0 == 95) = true then
  some (.inl (IntKind.wrap .i64 (s0 + 1)))
  else
  some (.inr (.inr false))
  else
  none
  else
  some (.inr (.inl ()))

noncomputable def sG (p0 : List UInt8) : Option Bool :=
  if (p0 == []) = true then
  some false
  else
  Option.bind (aY (sS p0) (0 : Int)) fun x1 =>
  jR x1 (fun x2 =>
  some true) Option.some

noncomputable def CY : Kn St := ⟨133, [.kv .str], [.kv .bool], .ro fun x σ => sG x.1⟩

theorem Gx : CY.ok Tryz.prog TB := fQ ⟨Tryz.prog, TB, 33, KLs, MLs, [], [], [], []⟩ ⟨[], [], [], [(4, ⟨[(9, .kv .i)], false, [⟨.ext 0, []⟩], true, []⟩)]⟩ aN trivial (fn := Tryz.f133) (by kernel_rfl) (by kernel_rfl) (by kernel_rfl)
noncomputable def sQ (p0 : Int) (p1 : Int) (p2 : List UInt8) : Option Bool :=
  Option.bind (sG p2) fun x0 =>
  some x0

noncomputable def yT : Kn St := ⟨132, [.kv .i, .kv .i, .kv .str], [.kv .bool], .ro fun x σ => sQ x.1 x.2.1 x.2.2.1⟩

theorem Di : yT.ok Tryz.prog TB := fQ ⟨Tryz.prog, TB, 9, KLs, MLs, [], [], [], [CY]⟩ ⟨[], [], [], []⟩ aN ⟨Gx, trivial⟩ (fn := Tryz.f132) (by kernel_rfl) (by kernel_rfl) (by kernel_rfl)
noncomputable def iU (x0 : List (List UInt8)) (s1 : Int) : Option (Int ⊕ (Unit ⊕ Bool)) :=
  if decide (s1 < (x0.length : Int)) = true then
  Option.bind (ix x0 s1) fun x2 =>
  Option.bind (sQ s1 (x0.length : Int) x2) fun x3 =>
  if (!x3) = true then
  some (.inr (.inr false))
  else
  some (.inl (IntKind.wrap .i64 (s1 + 1)))
  else
  some (.inr (.inl ()))

noncomputable def jm (p0 : List UInt8) (p1 : Unit) : Option Bool :=
  if decide ((p0.length : Int) > 32) = true then
  some false
  else
  Option.bind (sF p0) fun x0 =>
  Option.bind (aY (iU x0) (0 : Int)) fun x4 =>
  jR x4 (fun x5 =>
  some (decide ((x0.length : Int) ≤ 4))) Option.some

noncomputable def nM : Kn St := ⟨131, [.kv .str, .clo 132 []], [.kv .bool], .ro fun x σ => jm x.1 x.2.1⟩

theorem uh : nM.ok Tryz.prog TB := fQ ⟨Tryz.prog, TB, 31, KLs, MLs, [], [], [], [CX, yT]⟩ ⟨[], [], [], [(5, ⟨[(15, .kv .i)], false, [⟨.ext 0, []⟩], true, []⟩)]⟩ aN ⟨Gw, Di, trivial⟩ (fn := Tryz.f131) (by kernel_rfl) (by kernel_rfl) (by kernel_rfl)
end Go.Proofs.YtbnmhjobnepajaaGreat.M


set_option maxRecDepth 100000
namespace Go.Proofs.YtbnmhjobnepajaaGreat.M
open Go.Proofs
noncomputable def qM (p0 : List UInt8) : Option Bool :=
  Option.bind (jm p0 ()) fun x0 =>
  some x0

noncomputable def AP : Kn St := ⟨112, [.kv .str], [.kv .bool], .ro fun x σ => qM x.1⟩

theorem FI : AP.ok Tryz.prog TB := fQ ⟨Tryz.prog, TB, 5, KLs, MLs, [], [], [], [nM]⟩ ⟨[], [], [], []⟩ aN ⟨uh, trivial⟩ (fn := Tryz.f112) (by kernel_rfl) (by kernel_rfl) (by kernel_rfl)
noncomputable def xZ (p0 : Int) (p1 : Int) (p2 : List UInt8) : Option Bool :=
  Option.bind (gW p0 (0 : Int) (5 : Int)) fun x0 =>
  Option.bind (if x0 = true then
  gW p1 (1 : Int) (1099511627776 : Int)
  else
  some false) fun x1 =>
  Option.bind (if (x0 && x1) = true then
  qM p2
  else
  some false) fun x2 =>
  some ((x0 && x1) && x2)

noncomputable def Ib : Kn St := ⟨91, [.kv .i, .kv .i, .kv .str], [.kv .bool], .ro fun x σ => xZ x.1 x.2.1 x.2.2.1⟩

theorem Kz : Ib.ok Tryz.prog TB := fQ ⟨Tryz.prog, TB, 17, KLs, MLs, [], [], [], [nJ, AP]⟩ ⟨[], [], [], []⟩ aN ⟨mi, FI, trivial⟩ (fn := Tryz.f91) (by kernel_rfl) (by kernel_rfl) (by kernel_rfl)
noncomputable def uz (p0 : List Int) (s0 : Int) : Option (Int ⊕ (Unit ⊕ Bool)) :=
  if decide (s0 < (p0.length : Int)) = true then
  Option.bind (ix p0 s0) fun x1 =>
  Option.bind (gW x1 (-1099511627776 : Int) (1099511627776 : Int)) fun x2 =>
  if (!x2) = true then
  some (.inr (.inr false))
  else
  some (.inl (IntKind.wrap .i64 (s0 + 1)))
  else
  some (.inr (.inl ()))

noncomputable def uy (p0 : List Int) (p1 : Int) : Option Bool :=
  Option.bind (aY (uz p0) (0 : Int)) fun x3 =>
  jR x3 (fun x4 =>
  some (decide ((p0.length : Int) ≤ p1))) Option.some

noncomputable def Ej : Kn St := ⟨93, [.kv (.list .i), .kv .i], [.kv .bool], .ro fun x σ => uy x.1 x.2.1⟩

theorem Ie : Ej.ok Tryz.prog TB := fQ ⟨Tryz.prog, TB, 21, KLs, MLs, [], [], [], [nJ]⟩ ⟨[], [], [], [(2, ⟨[(9, .kv .i)], false, [⟨.ext 0, []⟩], true, []⟩)]⟩ aN ⟨mi, trivial⟩ (fn := Tryz.f93) (by kernel_rfl) (by kernel_rfl) (by kernel_rfl)
noncomputable def wP (p0 : Int × Int × (List UInt8) × Int × (List Int) × Int × Unit) : Option Bool :=
  Option.bind (xZ p0.1 p0.2.1 p0.2.2.1) fun x0 =>
  Option.bind (if x0 = true then
  gW p0.2.2.2.1 (0 : Int) (11 : Int)
  else
  some false) fun x1 =>
  Option.bind (if (x0 && x1) = true then
  uy p0.2.2.2.2.1 (4 : Int)
  else
  some false) fun x2 =>
  Option.bind (if ((x0 && x1) && x2) = true then
  gW p0.2.2.2.2.2.1 (-1 : Int) (1099511627776 : Int)
  else
  some false) fun x3 =>
  some (((x0 && x1) && x2) && x3)

noncomputable def Eh : Kn St := ⟨60, [.kv fJ], [.kv .bool], .ro fun x σ => wP x.1⟩

theorem Ei : Eh.ok Tryz.prog TB := fQ ⟨Tryz.prog, TB, 25, KLs, MLs, [], [1000001], [], [Ib, nJ, Ej]⟩ ⟨[], [], [], []⟩ aN ⟨Kz, mi, Ie, trivial⟩ (fn := Tryz.f60) (by kernel_rfl) (by kernel_rfl) (by kernel_rfl)
noncomputable def gI (p0 : Option Nat) (p1 : Int × Int × (List UInt8) × Int × (List Int) × Int × Unit) (p2 : Unit) (σ : St) : Option (((Int × Int × (List UInt8) × Int × (List Int) × Int × Unit) × Int × Int) × St) :=
  Option.bind p0 fun x0 =>
  Option.bind σ.au[x0]? fun x1 =>
  Option.bind (if (x1.2.2.1 == 0) = true then
  wP p1
  else
  some false) fun x2 =>
  Option.bind (if ((x1.2.2.1 == 0) && (!x2)) = true then
  Option.bind p0 fun x3 =>
  Option.bind σ.au[x3]? fun x4 =>
  some (σ.bz (σ.au.set x3 (x4.1, (x4.2.1, ((6 : Int), x4.2.2.2)))))
  else
  some σ) fun x5 =>
  Option.bind p0 fun x6 =>
  Option.bind x5.au[x6]? fun x7 =>
  if (x7.2.2.1 != 0) = true then
  Option.bind p0 fun x8 =>
  Option.bind x5.au[x8]? fun x9 =>
  some ((((0 : Int), ((0 : Int), ([], ((0 : Int), ([], ((0 : Int), ())))))), ((0 : Int), x9.2.2.1)), x5)
  else
  Option.bind p0 fun x10 =>
  Option.bind x5.au[x10]? fun x11 =>
  some ((p1, (x11.2.1, (0 : Int))), x5)

noncomputable def nT : Kn St := ⟨85, [.kv (.ptr jE), .kv fJ, .clo 60 []], [.kv fJ, .kv .i, .kv .i], .rw fun x σ => gI x.1 x.2.1 x.2.2.1 σ⟩

theorem uQ : nT.ok Tryz.prog TB := mX ⟨Tryz.prog, TB, 39, KLs, MLs, [], [1000004, 2000009], [], [Eh]⟩ ⟨[], [(3, ⟨[], true, [⟨.nrm, []⟩], false, [6]⟩)], [], []⟩ aN ⟨Ei, trivial⟩ (fn := Tryz.f85) (by kernel_rfl) (by kernel_rfl) (by kernel_rfl)
noncomputable def su (p0 : List UInt8) (p1 : Int) (σ : St) : Option (((Int × Int × (List UInt8) × Int × (List Int) × Int × Unit) × Int × Int) × St) :=
  Option.bind (dB (some σ.au.length) (σ.bz (σ.au ++ [(p0, (p1, ((0 : Int), ())))]))) fun x0 =>
  Option.bind (dB (some σ.au.length) x0.2) fun x1 =>
  Option.bind (mZ (some σ.au.length) x1.2) fun x2 =>
  Option.bind (dB (some σ.au.length) x2.2) fun x3 =>
  Option.bind (kN (some σ.au.length) x3.2) fun x4 =>
  Option.bind (dB (some σ.au.length) x4.2) fun x5 =>
  Option.bind (gI (some σ.au.length) (x0.1, (x1.1, (x2.1, (x3.1, (x4.1, (x5.1, ())))))) () x5.2) fun x6 =>
  some ((x6.1.1, (x6.1.2.1, x6.1.2.2)), x6.2)

noncomputable def CO : Kn St := ⟨53, [.kv .str, .kv .i], [.kv fJ, .kv .i, .kv .i], .rw fun x σ => su x.1 x.2.1 σ⟩

theorem Gs : CO.ok Tryz.prog TB := mX ⟨Tryz.prog, TB, 32, KLs, MLs, [], [3000008], [], [lN, xJ, uU, nT]⟩ ⟨[], [], [], []⟩ aN ⟨mV, BN, zq, uQ, trivial⟩ (fn := Tryz.f53) (by kernel_rfl) (by kernel_rfl) (by kernel_rfl)
noncomputable def dZ (p0 : List UInt8) (p1 : Unit) (σ : St) : Option (((Int × Int × (List UInt8) × Int × (List Int) × Int × Unit) × Bool) × St) :=
  Option.bind (su p0 (0 : Int) σ) fun x0 =>
  some ((x0.1.1, ((x0.1.2.2 == 0) && (x0.1.2.1 == (p0.length : Int)))), x0.2)

noncomputable def jY : Kn St := ⟨52, [.kv .str, .clo 53 []], [.kv fJ, .kv .bool], .rw fun x σ => dZ x.1 x.2.1 σ⟩

theorem oQ : jY.ok Tryz.prog TB := mX ⟨Tryz.prog, TB, 25, KLs, MLs, [], [2000006], [], [CO]⟩ ⟨[], [], [], []⟩ aN ⟨Gs, trivial⟩ (fn := Tryz.f52) (by kernel_rfl) (by kernel_rfl) (by kernel_rfl)
noncomputable def dQ (p0 : Option Nat) (σ : St) : Option Int :=
  if p0.isNone = true then
  some (0 : Int)
  else
  Option.bind p0 fun x0 =>
  Option.bind σ.ai[x0]? fun x1 =>
  Option.bind p0 fun x2 =>
  Option.bind σ.ai[x2]? fun x3 =>
  some (IntKind.wrap .i64 (IntKind.wrap .i64 ((x1.2.2.2.1.length : Int) + (x3.2.2.1.length : Int)) + 1))

noncomputable def iP : Kn St := ⟨24, [.kv (.ptr cZ)], [.kv .i], .ro fun x σ => dQ x.1 σ⟩

theorem iQ : iP.ok Tryz.prog TB := fQ ⟨Tryz.prog, TB, 17, KLs, MLs, [], [], [], []⟩ ⟨[], [], [], []⟩ aN trivial (fn := Tryz.f24) (by kernel_rfl) (by kernel_rfl) (by kernel_rfl)
noncomputable def ng (p0 : Option Nat) (p1 : List UInt8) (σ : St) : Option (Bool × St) :=
  Option.bind (dZ p1 () σ) fun x0 =>
  if (!(!x0.1.2)) = true then
  Option.bind p0 fun x1 =>
  Option.bind x0.2.ai[x1]? fun x2 =>
  if (!(x0.1.1.1 != x2.1)) = true then
  Option.bind (dQ p0 x0.2) fun x3 =>
  if (x0.1.1.2.1 != x3) = true then
  some (false, x0.2)
  else
  Option.bind p0 fun x4 =>
  Option.bind x0.2.ai[x4]? fun x5 =>
  if ((x5.2.2.1.length + 1) * 72) ≤ 140737488355328 then
  Option.bind p0 fun x6 =>
  Option.bind x0.2.ai[x6]? fun x7 =>
  if x4 = x6 ∧ true = true then
  some (true, (x0.2.bW (x0.2.ai.set x6 (x7.1, (x7.2.1, ((x5.2.2.1 ++ [x0.1.1]), x7.2.2.2))))))
  else
  none
  else
  none
  else
  some (false, x0.2)
  else
  some (false, x0.2)

noncomputable def xM : Kn St := ⟨27, [.kv (.ptr cZ), .kv .str], [.kv .bool], .rw fun x σ => ng x.1 x.2.1 σ⟩

theorem BO : xM.ok Tryz.prog TB := mX ⟨Tryz.prog, TB, 40, KLs, MLs, [], [2000005], [34], [jY, iP]⟩ ⟨[], [], [], []⟩ aN ⟨oQ, iQ, trivial⟩ (fn := Tryz.f27) (by kernel_rfl) (by kernel_rfl) (by kernel_rfl)
noncomputable def nX (p0 : Option Nat) (σ : St) : Option ((Int × Int × Unit) × St) :=
  Option.bind (dB p0 σ) fun x0 =>
  Option.bind (dB p0 x0.2) fun x1 =>
  some ((x0.1, (x1.1, ())), x1.2)

noncomputable def uP : Kn St := ⟨88, [.kv (.ptr jE)], [.kv aI], .rw fun x σ => nX x.1 σ⟩

theorem zo : uP.ok Tryz.prog TB := mX ⟨Tryz.prog, TB, 8, KLs, MLs, [], [], [], [lN]⟩ ⟨[], [], [], []⟩ aN ⟨mV, trivial⟩ (fn := Tryz.f88) (by kernel_rfl) (by kernel_rfl) (by kernel_rfl)
noncomputable def bJ (p0 : Option Nat) (x0 : Int × St) (s7 : (List (Int × Int × Unit)) × Int × St) : Option (((List (Int × Int × Unit)) × Int × St) ⊕ ((List (Int × Int × Unit)) × St)) :=
  Option.bind (if decide (s7.2.1 < x0.1) = true then
  p0
  else
  some 0) fun x8 =>
  Option.bind (if decide (s7.2.1 < x0.1) = true then
  s7.2.2.au[x8]?
  else
  some ([], ((0 : Int), ((0 : Int), ())))) fun x9 =>
  if (decide (s7.2.1 < x0.1) && (x9.2.2.1 == 0)) = true then
  Option.bind (nX p0 s7.2.2) fun x10 =>
  if ((s7.1.length + 1) * 16) ≤ 140737488355328 then
  some (.inl ((s7.1 ++ [x10.1]), (IntKind.wrap .i64 (s7.2.1 + 1), x10.2)))
  else
  none
  else
  some (.inr (s7.1, s7.2.2))

noncomputable def dw (p0 : Option Nat) (p1 : Int) (p2 : Unit) (σ : St) : Option ((List (Int × Int × Unit)) × St) :=
  Option.bind (dB p0 σ) fun x0 =>
  Option.bind p0 fun x1 =>
  Option.bind x0.2.au[x1]? fun x2 =>
  Option.bind (if (x2.2.2.1 == 0) = true then
  gW x0.1 (0 : Int) p1
  else
  some false) fun x3 =>
  Option.bind (if ((x2.2.2.1 == 0) && (!x3)) = true then
  Option.bind p0 fun x4 =>
  Option.bind x0.2.au[x4]? fun x5 =>
  some (x0.2.bz (x0.2.au.set x4 (x5.1, (x5.2.1, ((6 : Int), x5.2.2.2)))))
  else
  some x0.2) fun x6 =>
  Option.bind (aY (bJ p0 x0) ([], ((0 : Int), x6))) fun x11 =>
  some (x11.1, x11.2)

noncomputable def iC : Kn St := ⟨87, [.kv (.ptr jE), .kv .i, .clo 88 []], [.kv (.list aI)], .rw fun x σ => dw x.1 x.2.1 x.2.2.1 σ⟩

theorem lT : iC.ok Tryz.prog TB := mX ⟨Tryz.prog, TB, 45, KLs, MLs, [], [44], [], [lN, nJ, uP]⟩ ⟨[], [(3, ⟨[], true, [⟨.nrm, []⟩], false, []⟩)], [], [(6, ⟨[(8, .own 58 16 aI), (9, .kv .i)], true, [⟨.ext 0, [(8, .own 58 16 aI)]⟩], false, []⟩)]⟩ aN ⟨mV, mi, zo, trivial⟩ (fn := Tryz.f87) (by kernel_rfl) (by kernel_rfl) (by kernel_rfl)
noncomputable def rD (p0 : List (Int × Int × Unit)) (s0 : Int) : Option (Int ⊕ (Unit ⊕ Bool)) :=
  if decide (s0 < (p0.length : Int)) = true then
  Option.bind (ix p0 s0) fun x1 =>
  Option.bind (gW x1.1 (1 : Int) (1099511627776 : Int)) fun x2 =>
  if (!(!x2)) = true then
  Option.bind (gW x1.2.1 (0 : Int) (63 : Int)) fun x3 =>
  if (!(!x3)) = true then
  if decide (s0 > 0) = true then
  Option.bind (ix p0 (IntKind.wrap .i64 (s0 - 1))) fun x4 =>
  if decide (x1.1 ≤ x4.1) = true then
  some (.inr (.inr false))
  else
  some (.inl (IntKind.wrap .i64 (s0 + 1)))
  else
  some (.inl (IntKind.wrap .i64 (s0 + 1)))
  else
  some (.inr (.inr false))
  else
  some (.inr (.inr false))
  else
  some (.inr (.inl ()))

noncomputable def nD (p0 : List (Int × Int × Unit)) : Option Bool :=
  Option.bind (aY (rD p0) (0 : Int)) fun x5 =>
  jR x5 (fun x6 =>
  some (decide ((p0.length : Int) ≤ 32))) Option.some

noncomputable def vY : Kn St := ⟨77, [.kv (.list aI)], [.kv .bool], .ro fun x σ => nD x.1⟩

theorem xK : vY.ok Tryz.prog TB := fQ ⟨Tryz.prog, TB, 41, KLs, MLs, [], [4000004], [], [nJ]⟩ ⟨[], [], [], [(2, ⟨[(7, .kv .i)], false, [⟨.ext 0, []⟩], true, []⟩)]⟩ aN ⟨mi, trivial⟩ (fn := Tryz.f77) (by kernel_rfl) (by kernel_rfl) (by kernel_rfl)
noncomputable def dN (p0 : Option Nat) (p1 : List (Int × Int × Unit)) (p2 : Unit) (σ : St) : Option (((List (Int × Int × Unit)) × Int × Int) × St) :=
  Option.bind p0 fun x0 =>
  Option.bind σ.au[x0]? fun x1 =>
  Option.bind (if (x1.2.2.1 == 0) = true then
  nD p1
  else
  some false) fun x2 =>
  Option.bind (if ((x1.2.2.1 == 0) && (!x2)) = true then
  Option.bind p0 fun x3 =>
  Option.bind σ.au[x3]? fun x4 =>
  some (σ.bz (σ.au.set x3 (x4.1, (x4.2.1, ((6 : Int), x4.2.2.2)))))
  else
  some σ) fun x5 =>
  Option.bind p0 fun x6 =>
  Option.bind x5.au[x6]? fun x7 =>
  if (x7.2.2.1 != 0) = true then
  Option.bind p0 fun x8 =>
  Option.bind x5.au[x8]? fun x9 =>
  some (([], ((0 : Int), x9.2.2.1)), x5)
  else
  Option.bind p0 fun x10 =>
  Option.bind x5.au[x10]? fun x11 =>
  some ((p1, (x11.2.1, (0 : Int))), x5)

noncomputable def jP : Kn St := ⟨86, [.kv (.ptr jE), .kv (.list aI), .clo 77 []], [.kv (.list aI), .kv .i, .kv .i], .rw fun x σ => dN x.1 x.2.1 x.2.2.1 σ⟩

theorem oH : jP.ok Tryz.prog TB := mX ⟨Tryz.prog, TB, 39, KLs, MLs, [], [], [], [vY]⟩ ⟨[], [(3, ⟨[], true, [⟨.nrm, []⟩], false, []⟩)], [], []⟩ aN ⟨xK, trivial⟩ (fn := Tryz.f86) (by kernel_rfl) (by kernel_rfl) (by kernel_rfl)
noncomputable def pX (p0 : List UInt8) (p1 : Int) (σ : St) : Option (((List (Int × Int × Unit)) × Int × Int) × St) :=
  Option.bind (dw (some σ.au.length) (32 : Int) () (σ.bz (σ.au ++ [(p0, (p1, ((0 : Int), ())))]))) fun x0 =>
  Option.bind (dN (some σ.au.length) x0.1 () x0.2) fun x1 =>
  some ((x1.1.1, (x1.1.2.1, x1.1.2.2)), x1.2)

noncomputable def wR : Kn St := ⟨55, [.kv .str, .kv .i], [.kv (.list aI), .kv .i, .kv .i], .rw fun x σ => pX x.1 x.2.1 σ⟩

theorem Aq : wR.ok Tryz.prog TB := mX ⟨Tryz.prog, TB, 19, KLs, MLs, [], [], [], [iC, jP]⟩ ⟨[], [], [], []⟩ aN ⟨lT, oH, trivial⟩ (fn := Tryz.f55) (by kernel_rfl) (by kernel_rfl) (by kernel_rfl)
noncomputable def dh (p0 : List UInt8) (p1 : Unit) (σ : St) : Option (((List (Int × Int × Unit)) × Bool) × St) :=
  Option.bind (pX p0 (0 : Int) σ) fun x0 =>
  some ((x0.1.1, ((x0.1.2.2 == 0) && (x0.1.2.1 == (p0.length : Int)))), x0.2)

noncomputable def ig : Kn St := ⟨54, [.kv .str, .clo 55 []], [.kv (.list aI), .kv .bool], .rw fun x σ => dh x.1 x.2.1 σ⟩

theorem lS : ig.ok Tryz.prog TB := mX ⟨Tryz.prog, TB, 25, KLs, MLs, [], [], [], [wR]⟩ ⟨[], [], [], []⟩ aN ⟨Aq, trivial⟩ (fn := Tryz.f54) (by kernel_rfl) (by kernel_rfl) (by kernel_rfl)
noncomputable def dC (p0 : Option Nat) (σ : St) : Option Int :=
  if p0.isNone = true then
  some (0 : Int)
  else
  Option.bind p0 fun x0 =>
  Option.bind σ.ai[x0]? fun x1 =>
  some (IntKind.wrap .i64 ((x1.2.2.2.1.length : Int) + 1))

noncomputable def gU : Kn St := ⟨23, [.kv (.ptr cZ)], [.kv .i], .ro fun x σ => dC x.1 σ⟩

theorem gZ : gU.ok Tryz.prog TB := fQ ⟨Tryz.prog, TB, 11, KLs, MLs, [], [], [], []⟩ ⟨[], [], [], []⟩ aN trivial (fn := Tryz.f23) (by kernel_rfl) (by kernel_rfl) (by kernel_rfl)
noncomputable def nG (p0 : Option Nat) (p1 : List (Int × Int × Unit)) (σ : St) (s0 : Int) : Option (Int ⊕ (Unit ⊕ Bool)) :=
  if decide (s0 < (p1.length : Int)) = true then
  Option.bind (ix p1 s0) fun x1 =>
  Option.bind (dC p0 σ) fun x2 =>
  if (x1.1 != IntKind.wrap .i64 (x2 + s0)) = true then
  some (.inr (.inr false))
  else
  some (.inl (IntKind.wrap .i64 (s0 + 1)))
  else
  some (.inr (.inl ()))

noncomputable def jH (p0 : Option Nat) (p1 : List (Int × Int × Unit)) (σ : St) : Option Bool :=
  Option.bind (aY (nG p0 p1 σ) (0 : Int)) fun x3 =>
  jR x3 (fun x4 =>
  Option.bind (if decide ((p1.length : Int) > 0) = true then
  p0
  else
  some 0) fun x5 =>
  Option.bind (if decide ((p1.length : Int) > 0) = true then
  σ.ai[x5]?
  else
  some ((0 : Int), (none, ([], ([], ()))))) fun x6 =>
  some (decide ((p1.length : Int) > 0) && decide ((p1.length : Int) ≤ (x6.2.2.1.length : Int)))) Option.some

noncomputable def qw : Kn St := ⟨44, [.kv (.ptr cZ), .kv (.list aI)], [.kv .bool], .ro fun x σ => jH x.1 x.2.1 σ⟩

theorem tV : qw.ok Tryz.prog TB := fQ ⟨Tryz.prog, TB, 35, KLs, MLs, [], [4000006], [], [gU]⟩ ⟨[], [], [], [(2, ⟨[(9, .kv .i)], false, [⟨.ext 0, []⟩], true, []⟩)]⟩ aN ⟨gZ, trivial⟩ (fn := Tryz.f44) (by kernel_rfl) (by kernel_rfl) (by kernel_rfl)
noncomputable def jI (p0 : Option Nat) (p1 : List (Int × Int × Unit)) (σ : St) : Option (Unit × St) :=
  Option.bind p0 fun x0 =>
  Option.bind σ.ai[x0]? fun x1 =>
  if ((x1.2.2.2.1.length + p1.length) * 16) ≤ 140737488355328 then
  Option.bind p0 fun x2 =>
  Option.bind σ.ai[x2]? fun x3 =>
  if x0 = x2 ∧ true = true then
  Option.bind p0 fun x4 =>
  Option.bind ((σ.ai.set x2 (x3.1, (x3.2.1, (x3.2.2.1, ((x1.2.2.2.1 ++ p1), x3.2.2.2.2)))))[x4]?) fun x5 =>
  if 0 ≤ (p1.length : Int) ∧ (p1.length : Int) ≤ (x5.2.2.1.length : Int) then
  if ((0 + (x5.2.2.1.drop ((p1.length : Int).toNat)).length) * 72) ≤ 140737488355328 then
  Option.bind p0 fun x6 =>
  Option.bind ((σ.ai.set x2 (x3.1, (x3.2.1, (x3.2.2.1, ((x1.2.2.2.1 ++ p1), x3.2.2.2.2)))))[x6]?) fun x7 =>
  some ((), ((σ.bW (σ.ai.set x2 (x3.1, (x3.2.1, (x3.2.2.1, ((x1.2.2.2.1 ++ p1), x3.2.2.2.2)))))).bW ((σ.ai.set x2 (x3.1, (x3.2.1, (x3.2.2.1, ((x1.2.2.2.1 ++ p1), x3.2.2.2.2))))).set x6 (x7.1, (x7.2.1, (([] ++ x5.2.2.1.drop ((p1.length : Int).toNat)), x7.2.2.2))))))
  else
  none
  else
  none
  else
  none
  else
  none

noncomputable def qy : Kn St := ⟨45, [.kv (.ptr cZ), .kv (.list aI)], [], .rw fun x σ => jI x.1 x.2.1 σ⟩

theorem tX : qy.ok Tryz.prog TB := mX ⟨Tryz.prog, TB, 25, KLs, MLs, [], [], [8], []⟩ ⟨[], [], [], []⟩ aN trivial (fn := Tryz.f45) (by kernel_rfl) (by kernel_rfl) (by kernel_rfl)
noncomputable def jD (p0 : Option Nat) (p1 : List UInt8) (σ : St) : Option (Bool × St) :=
  Option.bind (dh p1 () σ) fun x0 =>
  Option.bind (if (!(!x0.1.2)) = true then
  jH p0 x0.1.1 x0.2
  else
  some false) fun x1 =>
  if ((!x0.1.2) || (!x1)) = true then
  some (false, x0.2)
  else
  Option.bind (jI p0 x0.1.1 x0.2) fun x2 =>
  some (true, x2.2)

noncomputable def rQ : Kn St := ⟨28, [.kv (.ptr cZ), .kv .str], [.kv .bool], .rw fun x σ => jD x.1 x.2.1 σ⟩

theorem yh : rQ.ok Tryz.prog TB := mX ⟨Tryz.prog, TB, 23, KLs, MLs, [], [], [], [ig, qw, qy]⟩ ⟨[], [], [], []⟩ aN ⟨lS, tV, tX, trivial⟩ (fn := Tryz.f28) (by kernel_rfl) (by kernel_rfl) (by kernel_rfl)
noncomputable def jo (p0 : List UInt8) (p1 : Nat) (σ : St) : Option (Bool × St) :=
  if (p0 == []) = true then
  some (false, σ)
  else
  if (0 : Int) ≤ (0 : Int) ∧ 0 < (p0.length : Int) then
  if (btS p0 (0 : Int) == 99) = true then
  Option.bind σ.bD[p1]? fun x0 =>
  if (0 : Int) ≤ (1 : Int) ∧ 1 ≤ (p0.length : Int) then
  Option.bind (ng x0.1 (p0.drop 1) σ) fun x1 =>
  some (x1.1, x1.2)
  else
  none
  else
  if (0 : Int) ≤ (0 : Int) ∧ 0 < (p0.length : Int) then
  if (btS p0 (0 : Int) == 118) = true then
  Option.bind σ.bD[p1]? fun x2 =>
  if (0 : Int) ≤ (1 : Int) ∧ 1 ≤ (p0.length : Int) then
  Option.bind (jD x2.1 (p0.drop 1) σ) fun x3 =>
  some (x3.1, x3.2)
  else
  none
  else
  some (false, σ)
  else
  none
  else
  none

noncomputable def AQ : Kn St := ⟨26, [.kv .str, .cap Wn], [.kv .bool], .rw fun x σ => jo x.1 x.2.1 σ⟩

theorem FK : AQ.ok Tryz.prog TB := mX ⟨Tryz.prog, TB, 23, KLs, MLs, [], [], [], [xM, rQ]⟩ ⟨[], [], [], []⟩ aN ⟨BO, yh, trivial⟩ (fn := Tryz.f26) (by kernel_rfl) (by kernel_rfl) (by kernel_rfl)
noncomputable def gK (x0 : ((Option Nat) × Int) × St) (x3 : Int) (s4 : Int × St) : Option ((Int × St) ⊕ (St ⊕ (((Option Nat) × Int) × St))) :=
  if decide (s4.1 < x3) = true then
  Option.bind (uB x0.1.1 s4.1 s4.2) fun x5 =>
  Option.bind (jo x5.1 x0.2.bD.length s4.2) fun x6 =>
  if (!x6.1) = true then
  some (.inr (.inr ((none, (6 : Int)), x6.2)))
  else
  some (.inl (IntKind.wrap .i64 (s4.1 + 1), x6.2))
  else
  some (.inr (.inl s4.2))

noncomputable def fE (p0 : Option Nat) (p1 : Int) (σ : St) : Option (((Option Nat) × Int) × St) :=
  if p0.isNone = true then
  some ((none, (1 : Int)), σ)
  else
  if (decide (p1 < 0) || decide (p1 ≥ 6)) = true then
  some ((none, (14 : Int)), σ)
  else
  Option.bind (BJ p0 [99, 109, 100, 115] (2048 : Int) σ) fun x0 =>
  if (x0.1.2 != 0) = true then
  some ((none, x0.1.2), x0.2)
  else
  Option.bind ((x0.2.bD ++ [(none, ())])[x0.2.bD.length]?) fun x1 =>
  Option.bind (lU x0.1.1 (((x0.2.bW (x0.2.ai ++ [(p1, (x0.1.1, ([], ([], ()))))])).nR (x0.2.bD ++ [(none, ())])).nR ((x0.2.bD ++ [(none, ())]).set x0.2.bD.length (some x0.2.ai.length, x1.2)))) fun x2 =>
  if decide (x2 > 0) = true then
  some ((none, (6 : Int)), (((x0.2.bW (x0.2.ai ++ [(p1, (x0.1.1, ([], ([], ()))))])).nR (x0.2.bD ++ [(none, ())])).nR ((x0.2.bD ++ [(none, ())]).set x0.2.bD.length (some x0.2.ai.length, x1.2))))
  else
  Option.bind (jc x0.1.1 (((x0.2.bW (x0.2.ai ++ [(p1, (x0.1.1, ([], ([], ()))))])).nR (x0.2.bD ++ [(none, ())])).nR ((x0.2.bD ++ [(none, ())]).set x0.2.bD.length (some x0.2.ai.length, x1.2)))) fun x3 =>
  Option.bind (aY (gK x0 x3) ((0 : Int), (((x0.2.bW (x0.2.ai ++ [(p1, (x0.1.1, ([], ([], ()))))])).nR (x0.2.bD ++ [(none, ())])).nR ((x0.2.bD ++ [(none, ())]).set x0.2.bD.length (some x0.2.ai.length, x1.2))))) fun x7 =>
  jR x7 (fun x8 =>
  Option.bind x8.bD[x0.2.bD.length]? fun x9 =>
  some ((x9.1, (0 : Int)), x8)) Option.some

noncomputable def yU : Kn St := ⟨9, [.kv (.ptr di), .kv .i], [.kv (.ptr cZ), .kv .i], .rw fun x σ => fE x.1 x.2.1 σ⟩

theorem zG : yU.ok Tryz.prog TB := mX ⟨Tryz.prog, TB, 56, KLs, MLs, [8], [], [], [Nu, xx, nP, Ep, AQ]⟩ ⟨[], [], [], [(13, ⟨[(41, .kv .i)], true, [⟨.ext 1, []⟩], true, []⟩)]⟩ aN ⟨OJ, y7, mD, Ig, FK, trivial⟩ (fn := Tryz.f9) (by kernel_rfl) (by kernel_rfl) (by kernel_rfl)
noncomputable def pq (p1 : List Int) (s0 : (List Int) × Int) : Option (((List Int) × Int) ⊕ (List Int)) :=
  if decide (s0.2 < (p1.length : Int)) = true then
  Option.bind (ix p1 s0.2) fun x1 =>
  Option.bind (eP x1) fun x2 =>
  if ((s0.1.length + (kW x2).length) * 1) ≤ 140737488355328 then
  some (.inl ((s0.1 ++ kW x2), IntKind.wrap .i64 (s0.2 + 1)))
  else
  none
  else
  some (.inr s0.1)

noncomputable def jF (p0 : List Int) (p1 : List Int) : Option (List Int) :=
  Option.bind (aY (pq p1) (p0, (0 : Int))) fun x3 =>
  some x3

noncomputable def uS : Kn St := ⟨57, [.own 5 1 (.int .u8), .kv (.list .i)], [.own 5 1 (.int .u8)], .ro fun x σ => jF x.1 x.2.1⟩

theorem uT : uS.ok Tryz.prog TB := fQ ⟨Tryz.prog, TB, 19, KLs, MLs, [], [], [], [kD]⟩ ⟨[], [], [], [(2, ⟨[(0, .own 5 1 (.int .u8)), (9, .kv .i)], false, [⟨.ext 0, [(0, .own 5 1 (.int .u8))]⟩], false, []⟩)]⟩ aN ⟨jv, trivial⟩ (fn := Tryz.f57) (by kernel_rfl) (by kernel_rfl) (by kernel_rfl)
noncomputable def wJ (p0 : List UInt8) : Option ((List UInt8) × Int) :=
  if decide ((p0.length : Int) > 4096) = true then
  some ([], (4 : Int))
  else
  Option.bind (eP (p0.length : Int)) fun x0 =>
  if (x0.length + p0.length) ≤ 9223372036854775807 then
  some ((x0 ++ p0), (0 : Int))
  else
  none

noncomputable def F8 : Kn St := ⟨89, [.kv .str], [.kv .str, .kv .i], .ro fun x σ => wJ x.1⟩

theorem Jl : F8.ok Tryz.prog TB := fQ ⟨Tryz.prog, TB, 12, KLs, MLs, [], [], [], [kD]⟩ ⟨[], [], [], []⟩ aN ⟨jv, trivial⟩ (fn := Tryz.f89) (by kernel_rfl) (by kernel_rfl) (by kernel_rfl)
noncomputable def yc (p0 : List Int) (p1 : List UInt8) : Option (List Int) :=
  Option.bind (wJ p1) fun x0 =>
  if ((p0.length + (kW x0.1).length) * 1) ≤ 140737488355328 then
  some (p0 ++ kW x0.1)
  else
  none

noncomputable def Ic : Kn St := ⟨56, [.own 5 1 (.int .u8), .kv .str], [.own 5 1 (.int .u8)], .ro fun x σ => yc x.1 x.2.1⟩

theorem KA : Ic.ok Tryz.prog TB := fQ ⟨Tryz.prog, TB, 15, KLs, MLs, [], [], [], [F8]⟩ ⟨[], [], [], []⟩ aN ⟨Jl, trivial⟩ (fn := Tryz.f56) (by kernel_rfl) (by kernel_rfl) (by kernel_rfl)
noncomputable def sU (p0 : Int) : Option ((List UInt8) × Int) :=
  Option.bind (eP p0) fun x0 =>
  some (x0, (0 : Int))

noncomputable def yZ : Kn St := ⟨111, [.kv .i], [.kv .str, .kv .i], .ro fun x σ => sU x.1⟩

theorem Dk : yZ.ok Tryz.prog TB := fQ ⟨Tryz.prog, TB, 6, KLs, MLs, [], [], [], [kD]⟩ ⟨[], [], [], []⟩ aN ⟨jv, trivial⟩ (fn := Tryz.f111) (by kernel_rfl) (by kernel_rfl) (by kernel_rfl)
noncomputable def eu (p0 : List Int) (s1 : (List Int) × Int) : Option (((List Int) × Int) ⊕ ((List Int) ⊕ ((List UInt8) × Int))) :=
  if decide (s1.2 < (p0.length : Int)) = true then
  Option.bind (ix p0 s1.2) fun x2 =>
  Option.bind (sU x2) fun x3 =>
  if (x3.2 != 0) = true then
  some (.inr (.inr ([], x3.2)))
  else
  if (s1.1.length + (kW x3.1).length) ≤ 140737488355328 then
  some (.inl ((s1.1 ++ kW x3.1), IntKind.wrap .i64 (s1.2 + 1)))
  else
  none
  else
  some (.inr (.inl s1.1))

noncomputable def iD (p0 : List Int) (p1 : Unit) : Option ((List UInt8) × Int) :=
  if decide ((p0.length : Int) > 256) = true then
  some ([], (4 : Int))
  else
  Option.bind (eP (p0.length : Int)) fun x0 =>
  if x0.length ≤ 140737488355328 then
  Option.bind (aY (eu p0) (kW x0, (0 : Int))) fun x4 =>
  jR x4 (fun x5 =>
  some (cu x5, (0 : Int))) Option.some
  else
  none

noncomputable def lH : Kn St := ⟨110, [.kv (.list .i), .clo 111 []], [.kv .str, .kv .i], .ro fun x σ => iD x.1 x.2.1⟩

theorem qQ : lH.ok Tryz.prog TB := fQ ⟨Tryz.prog, TB, 39, KLs, MLs, [], [], [], [kD, yZ]⟩ ⟨[], [], [], [(5, ⟨[(6, .sby 5), (20, .kv .i)], false, [⟨.ext 0, [(6, .sby 5)]⟩], true, []⟩)]⟩ aN ⟨jv, Dk, trivial⟩ (fn := Tryz.f110) (by kernel_rfl) (by kernel_rfl) (by kernel_rfl)
noncomputable def qN (p0 : List Int) : Option ((List UInt8) × Int) :=
  Option.bind (iD p0 ()) fun x0 =>
  some (x0.1, x0.2)

noncomputable def A8 : Kn St := ⟨90, [.kv (.list .i)], [.kv .str, .kv .i], .ro fun x σ => qN x.1⟩

theorem FM : A8.ok Tryz.prog TB := fQ ⟨Tryz.prog, TB, 8, KLs, MLs, [], [], [], [lH]⟩ ⟨[], [], [], []⟩ aN ⟨qQ, trivial⟩ (fn := Tryz.f90) (by kernel_rfl) (by kernel_rfl) (by kernel_rfl)
noncomputable def sD (p0 : List Int) (p1 : List Int) : Option (List Int) :=
  Option.bind (qN p1) fun x0 =>
  if ((p0.length + (kW x0.1).length) * 1) ≤ 140737488355328 then
  some (p0 ++ kW x0.1)
  else
  none

noncomputable def CV : Kn St := ⟨58, [.own 5 1 (.int .u8), .kv (.list .i)], [.own 5 1 (.int .u8)], .ro fun x σ => sD x.1 x.2.1⟩

theorem Gt : CV.ok Tryz.prog TB := fQ ⟨Tryz.prog, TB, 15, KLs, MLs, [], [], [], [A8]⟩ ⟨[], [], [], []⟩ aN ⟨FM, trivial⟩ (fn := Tryz.f58) (by kernel_rfl) (by kernel_rfl) (by kernel_rfl)
noncomputable def uw (p0 : Bool) (p1 : List Int) : Option ((List UInt8) × Int) :=
  if (!p0) = true then
  some ([], (2 : Int))
  else
  some (cu p1, (0 : Int))

noncomputable def BM : Kn St := ⟨59, [.kv .bool, .kv (.list (.int .u8))], [.kv .str, .kv .i], .ro fun x σ => uw x.1 x.2.1⟩

theorem CU : BM.ok Tryz.prog TB := fQ ⟨Tryz.prog, TB, 10, KLs, MLs, [], [], [], []⟩ ⟨[], [], [], []⟩ aN trivial (fn := Tryz.f59) (by kernel_rfl) (by kernel_rfl) (by kernel_rfl)
noncomputable def uq (p0 : Int × Int × (List UInt8) × Int × (List Int) × Int × Unit) : Option ((List UInt8) × Int) :=
  Option.bind (jF [] [p0.1, p0.2.1]) fun x0 =>
  Option.bind (yc x0 p0.2.2.1) fun x1 =>
  Option.bind (jF x1 [p0.2.2.2.1]) fun x2 =>
  Option.bind (sD x2 p0.2.2.2.2.1) fun x3 =>
  Option.bind (wP p0) fun x4 =>
  Option.bind (jF x3 [p0.2.2.2.2.2.1]) fun x5 =>
  Option.bind (uw x4 x5) fun x6 =>
  some (x6.1, x6.2)

noncomputable def Eg : Kn St := ⟨32, [.kv fJ], [.kv .str, .kv .i], .ro fun x σ => uq x.1⟩

theorem Ia : Eg.ok Tryz.prog TB := fQ ⟨Tryz.prog, TB, 32, KLs, MLs, [], [1000001], [], [uS, Ic, CV, Eh, BM]⟩ ⟨[], [], [], []⟩ aN ⟨uT, KA, Gt, Ei, CU, trivial⟩ (fn := Tryz.f32) (by kernel_rfl) (by kernel_rfl) (by kernel_rfl)
noncomputable def xY (p0 : List UInt8) : Option (List UInt8) :=
  Option.bind (wO p0) fun x0 =>
  Option.bind (rM x0) fun x1 =>
  if (p0.length + x1.length) ≤ 9223372036854775807 then
  some (p0 ++ x1)
  else
  none

noncomputable def H9 : Kn St := ⟨65, [.kv .str], [.kv .str], .ro fun x σ => xY x.1⟩

theorem Ky : H9.ok Tryz.prog TB := fQ ⟨Tryz.prog, TB, 8, KLs, MLs, [], [], [], [Ee, zW]⟩ ⟨[], [], [], []⟩ aN ⟨Ef, Ap, trivial⟩ (fn := Tryz.f65) (by kernel_rfl) (by kernel_rfl) (by kernel_rfl)
noncomputable def uH (p0 : Int) (p1 : List UInt8) : Option (List UInt8) :=
  Option.bind (eP p0) fun x0 =>
  if (x0.length + p1.length) ≤ 9223372036854775807 then
  Option.bind (xY (x0 ++ p1)) fun x1 =>
  Option.bind (eP (x1.length : Int)) fun x2 =>
  if (x2.length + x1.length) ≤ 9223372036854775807 then
  some (x2 ++ x1)
  else
  none
  else
  none

noncomputable def Ij : Kn St := ⟨38, [.kv .i, .kv .str], [.kv .str], .ro fun x σ => uH x.1 x.2.1⟩

theorem KF : Ij.ok Tryz.prog TB := fQ ⟨Tryz.prog, TB, 16, KLs, MLs, [], [], [], [kD, H9]⟩ ⟨[], [], [], []⟩ aN ⟨jv, Ky, trivial⟩ (fn := Tryz.f38) (by kernel_rfl) (by kernel_rfl) (by kernel_rfl)
noncomputable def uA (p0 : List UInt8) (s0 : Int) : Option (Int ⊕ (Unit ⊕ Bool)) :=
  if decide (s0 < (p0.length : Int)) = true then
  if 0 ≤ s0 ∧ s0 < (p0.length : Int) then
  if (((((decide (btS p0 s0 < 97) || decide (btS p0 s0 > 122)) && (decide (btS p0 s0 < 48) || decide (btS p0 s0 > 57))) && (btS p0 s0 != 46)) && (btS p0 s0 != 45)) && (btS p0 s0 != 95)) = true then
  some (.inr (.inr false))
  else
  some (.inl (IntKind.wrap .i64 (s0 + 1)))
  else
  none
  else
  some (.inr (.inl ()))

noncomputable def zB (p0 : List UInt8) : Option Bool :=
  Option.bind (aY (uA p0) (0 : Int)) fun x1 =>
  jR x1 (fun x2 =>
  some (decide ((p0.length : Int) > 0) && decide ((p0.length : Int) ≤ 24))) Option.some

noncomputable def JQ : Kn St := ⟨67, [.kv .str], [.kv .bool], .ro fun x σ => zB x.1⟩

theorem Ns : JQ.ok Tryz.prog TB := fQ ⟨Tryz.prog, TB, 48, KLs, MLs, [], [], [], []⟩ ⟨[], [], [], [(2, ⟨[(7, .kv .i)], false, [⟨.ext 0, []⟩], true, []⟩)]⟩ aN trivial (fn := Tryz.f67) (by kernel_rfl) (by kernel_rfl) (by kernel_rfl)
noncomputable def pY : Option Unit :=
  some ()

noncomputable def wS : Kn St := ⟨70, [], [], .ro fun x σ => pY⟩

theorem Ar : wS.ok Tryz.prog TB := fQ ⟨Tryz.prog, TB, 0, KLs, MLs, [], [], [], []⟩ ⟨[], [], [], []⟩ aN trivial (fn := Tryz.f70) (by kernel_rfl) (by kernel_rfl) (by kernel_rfl)
noncomputable def dE (p0 : Option Nat) (p1 : Unit) (σ : St) : Option (Int × St) :=
  Option.bind p0 fun x0 =>
  Option.bind σ.ah[x0]? fun x1 =>
  if decide (x1.2.2.1 > 0) = true then
  Option.bind p0 fun x2 =>
  Option.bind σ.ah[x2]? fun x3 =>
  Option.bind p0 fun x4 =>
  Option.bind σ.ah[x4]? fun x5 =>
  Option.bind p0 fun x6 =>
  Option.bind ((σ.ah.set x4 (x5.1, (x5.2.1, (IntKind.wrap .i64 (x3.2.2.1 - 1), x5.2.2.2))))[x6]?) fun x7 =>
  if (x7.2.2.1 == 0) = true then
  Option.bind p0 fun x8 =>
  Option.bind ((σ.ah.set x4 (x5.1, (x5.2.1, (IntKind.wrap .i64 (x3.2.2.1 - 1), x5.2.2.2))))[x8]?) fun x9 =>
  some ((11 : Int), ((σ.bG (σ.ah.set x4 (x5.1, (x5.2.1, (IntKind.wrap .i64 (x3.2.2.1 - 1), x5.2.2.2))))).bG ((σ.ah.set x4 (x5.1, (x5.2.1, (IntKind.wrap .i64 (x3.2.2.1 - 1), x5.2.2.2)))).set x8 (x9.1, (x9.2.1, (x9.2.2.1, (true, x9.2.2.2.2)))))))
  else
  Option.bind pY fun x10 =>
  some ((0 : Int), (σ.bG (σ.ah.set x4 (x5.1, (x5.2.1, (IntKind.wrap .i64 (x3.2.2.1 - 1), x5.2.2.2))))))
  else
  Option.bind pY fun x11 =>
  some ((0 : Int), σ)

noncomputable def kG : Kn St := ⟨69, [.kv (.ptr di), .clo 70 []], [.kv .i], .rw fun x σ => dE x.1 x.2.1 σ⟩

theorem pR : kG.ok Tryz.prog TB := mX ⟨Tryz.prog, TB, 27, KLs, MLs, [], [], [], [wS]⟩ ⟨[], [], [], []⟩ aN ⟨Ar, trivial⟩ (fn := Tryz.f69) (by kernel_rfl) (by kernel_rfl) (by kernel_rfl)
noncomputable def lh (p0 : Option Nat) (p1 : List UInt8) (p2 : List UInt8) (σ : St) : Option (Int × St) :=
  Option.bind (jU p0 σ) fun x0 =>
  if (x0 != 0) = true then
  some (x0, σ)
  else
  Option.bind (zB p1) fun x1 =>
  if (!x1) = true then
  some ((2 : Int), σ)
  else
  Option.bind p0 fun x2 =>
  Option.bind σ.ah[x2]? fun x3 =>
  Option.bind σ.ah[x2]? fun x4 =>
  Option.bind (if (!(((dm Kd.str (Kd.ptr 93) p1 x4.2.1).getD none).isNone)) = true then
  Option.bind ((dm Kd.str (Kd.ptr 93) p1 x4.2.1).getD none) fun x5 =>
  Option.bind σ.aj[x5]? fun x6 =>
  some (x6.1.length : Int)
  else
  some (0 : Int)) fun x7 =>
  if ((dm Kd.str (Kd.ptr 93) p1 x4.2.1).getD none).isNone = true then
  Option.bind p0 fun x8 =>
  Option.bind σ.ah[x8]? fun x9 =>
  Option.bind σ.ah[x8]? fun x10 =>
  if (!(decide ((x10.2.1.length : Int) ≥ 128))) = true then
  if (!(decide ((p2.length : Int) > IntKind.wrap .i64 (65536 - x7)))) = true then
  Option.bind p0 fun x11 =>
  Option.bind σ.ah[x11]? fun x12 =>
  Option.bind (gB p0 σ) fun x13 =>
  if decide ((p2.length : Int) > IntKind.wrap .i64 (x12.1 - x13)) = true then
  some ((10 : Int), σ)
  else
  Option.bind (if ((dm Kd.str (Kd.ptr 93) p1 x4.2.1).getD none).isNone = true then
  Option.bind p0 fun x14 =>
  Option.bind σ.ah[x14]? fun x15 =>
  Option.bind σ.ah[x14]? fun x16 =>
  some (some σ.aj.length, ((σ.gy (σ.aj ++ [([], ((0 : Int), ()))])).bG (σ.ah.set x14 (x16.1, (oU Kd.str (Kd.ptr 93) p1 (some σ.aj.length) x16.2.1, x16.2.2)))))
  else
  some ((dm Kd.str (Kd.ptr 93) p1 x4.2.1).getD none, σ)) fun x17 =>
  Option.bind x17.1 fun x18 =>
  Option.bind x17.2.aj[x18]? fun x19 =>
  if (x19.1.length + p2.length) ≤ 9223372036854775807 then
  Option.bind x17.1 fun x20 =>
  Option.bind x17.2.aj[x20]? fun x21 =>
  Option.bind (dE p0 () (x17.2.gy (x17.2.aj.set x20 ((x19.1 ++ p2), x21.2)))) fun x22 =>
  some (x22.1, x22.2)
  else
  none
  else
  some ((10 : Int), σ)
  else
  some ((10 : Int), σ)
  else
  if (!(decide ((p2.length : Int) > IntKind.wrap .i64 (65536 - x7)))) = true then
  Option.bind p0 fun x23 =>
  Option.bind σ.ah[x23]? fun x24 =>
  Option.bind (gB p0 σ) fun x25 =>
  if decide ((p2.length : Int) > IntKind.wrap .i64 (x24.1 - x25)) = true then
  some ((10 : Int), σ)
  else
  Option.bind (if ((dm Kd.str (Kd.ptr 93) p1 x4.2.1).getD none).isNone = true then
  Option.bind p0 fun x26 =>
  Option.bind σ.ah[x26]? fun x27 =>
  Option.bind σ.ah[x26]? fun x28 =>
  some (some σ.aj.length, ((σ.gy (σ.aj ++ [([], ((0 : Int), ()))])).bG (σ.ah.set x26 (x28.1, (oU Kd.str (Kd.ptr 93) p1 (some σ.aj.length) x28.2.1, x28.2.2)))))
  else
  some ((dm Kd.str (Kd.ptr 93) p1 x4.2.1).getD none, σ)) fun x29 =>
  Option.bind x29.1 fun x30 =>
  Option.bind x29.2.aj[x30]? fun x31 =>
  if (x31.1.length + p2.length) ≤ 9223372036854775807 then
  Option.bind x29.1 fun x32 =>
  Option.bind x29.2.aj[x32]? fun x33 =>
  Option.bind (dE p0 () (x29.2.gy (x29.2.aj.set x32 ((x31.1 ++ p2), x33.2)))) fun x34 =>
  some (x34.1, x34.2)
  else
  none
  else
  some ((10 : Int), σ)

noncomputable def yQ : Kn St := ⟨39, [.kv (.ptr di), .kv .str, .kv .str], [.kv .i], .rw fun x σ => lh x.1 x.2.1 x.2.2.1 σ⟩

theorem Dc : yQ.ok Tryz.prog TB := mX ⟨Tryz.prog, TB, 80, KLs, MLs, [], [], [], [pI, JQ, AO, kG]⟩ ⟨[], [(9, ⟨[], false, [⟨.nrm, [(9, .kv .i)]⟩], false, []⟩), (13, ⟨[], true, [⟨.nrm, [(8, .kv (.ptr ax))]⟩], false, []⟩)], [], []⟩ aN ⟨qi, Ns, FH, pR, trivial⟩ (fn := Tryz.f39) (by kernel_rfl) (by kernel_rfl) (by kernel_rfl)
noncomputable def qO (p0 : Option Nat) (p1 : List UInt8) (σ : St) : Option ((Int × Int) × St) :=
  if p0.isNone = true then
  some (((0 : Int), (1 : Int)), σ)
  else
  if decide ((p1.length : Int) > 1024) = true then
  some (((0 : Int), (4 : Int)), σ)
  else
  Option.bind (jc p0 σ) fun x0 =>
  Option.bind (nI p0 σ) fun x1 =>
  if (!x1.isNone) = true then
  Option.bind x1 fun x2 =>
  Option.bind σ.ae[x2]? fun x3 =>
  Option.bind p0 fun x4 =>
  Option.bind σ.ak[x4]? fun x5 =>
  Option.bind (if decide (x3.2.2.1 ≥ x5.2.2.1) = true then
  Option.bind (jL p0 σ) fun x6 =>
  if (x6.1 != 0) = true then
  some (.inr (((0 : Int), x6.1), x6.2))
  else
  some (.inl (some x6.2.ae.length, (x6.2.aZ (x6.2.ae ++ [(x0, ([], ((0 : Int), ())))]))))
  else
  some (.inl (x1, σ))) fun x7 =>
  jR x7 (fun x8 =>
  Option.bind (uH x0 p1) fun x9 =>
  Option.bind p0 fun x10 =>
  Option.bind x8.2.ak[x10]? fun x11 =>
  Option.bind (gY p0 x8.1 x8.2) fun x12 =>
  Option.bind (lh x11.1 x12 x9 x8.2) fun x13 =>
  if (x13.1 != 0) = true then
  some (((0 : Int), x13.1), x13.2)
  else
  Option.bind x8.1 fun x14 =>
  Option.bind x13.2.ae[x14]? fun x15 =>
  if ((x15.2.1.length + 1) * 16) ≤ 140737488355328 then
  Option.bind x8.1 fun x16 =>
  Option.bind x13.2.ae[x16]? fun x17 =>
  if x14 = x16 ∧ true = true then
  Option.bind x8.1 fun x18 =>
  Option.bind ((x13.2.ae.set x16 (x17.1, ((x15.2.1 ++ [p1]), x17.2.2)))[x18]?) fun x19 =>
  Option.bind x8.1 fun x20 =>
  Option.bind ((x13.2.ae.set x16 (x17.1, ((x15.2.1 ++ [p1]), x17.2.2)))[x20]?) fun x21 =>
  if decide (x3.2.2.1 ≥ x5.2.2.1) = true then
  Option.bind p0 fun x22 =>
  Option.bind x13.2.ak[x22]? fun x23 =>
  if ((x23.2.2.2.1.length + 1) * 8) ≤ 140737488355328 then
  Option.bind p0 fun x24 =>
  Option.bind x13.2.ak[x24]? fun x25 =>
  if x22 = x24 ∧ true = true then
  some ((x0, (0 : Int)), (((x13.2.aZ (x13.2.ae.set x16 (x17.1, ((x15.2.1 ++ [p1]), x17.2.2)))).aZ ((x13.2.ae.set x16 (x17.1, ((x15.2.1 ++ [p1]), x17.2.2))).set x20 (x21.1, (x21.2.1, (IntKind.wrap .i64 (x19.2.2.1 + (x9.length : Int)), x21.2.2.2))))).qE (x13.2.ak.set x24 (x25.1, (x25.2.1, (x25.2.2.1, ((x23.2.2.2.1 ++ [x8.1]), x25.2.2.2.2)))))))
  else
  none
  else
  none
  else
  some ((x0, (0 : Int)), ((x13.2.aZ (x13.2.ae.set x16 (x17.1, ((x15.2.1 ++ [p1]), x17.2.2)))).aZ ((x13.2.ae.set x16 (x17.1, ((x15.2.1 ++ [p1]), x17.2.2))).set x20 (x21.1, (x21.2.1, (IntKind.wrap .i64 (x19.2.2.1 + (x9.length : Int)), x21.2.2.2))))))
  else
  none
  else
  none) Option.some
  else
  Option.bind (Option.bind (jL p0 σ) fun x26 =>
  if (x26.1 != 0) = true then
  some (.inr (((0 : Int), x26.1), x26.2))
  else
  some (.inl (some x26.2.ae.length, (x26.2.aZ (x26.2.ae ++ [(x0, ([], ((0 : Int), ())))]))))) fun x27 =>
  jR x27 (fun x28 =>
  Option.bind (uH x0 p1) fun x29 =>
  Option.bind p0 fun x30 =>
  Option.bind x28.2.ak[x30]? fun x31 =>
  Option.bind (gY p0 x28.1 x28.2) fun x32 =>
  Option.bind (lh x31.1 x32 x29 x28.2) fun x33 =>
  if (x33.1 != 0) = true then
  some (((0 : Int), x33.1), x33.2)
  else
  Option.bind x28.1 fun x34 =>
  Option.bind x33.2.ae[x34]? fun x35 =>
  if ((x35.2.1.length + 1) * 16) ≤ 140737488355328 then
  Option.bind x28.1 fun x36 =>
  Option.bind x33.2.ae[x36]? fun x37 =>
  if x34 = x36 ∧ true = true then
  Option.bind x28.1 fun x38 =>
  Option.bind ((x33.2.ae.set x36 (x37.1, ((x35.2.1 ++ [p1]), x37.2.2)))[x38]?) fun x39 =>
  Option.bind x28.1 fun x40 =>
  Option.bind ((x33.2.ae.set x36 (x37.1, ((x35.2.1 ++ [p1]), x37.2.2)))[x40]?) fun x41 =>
  Option.bind p0 fun x42 =>
  Option.bind x33.2.ak[x42]? fun x43 =>
  if ((x43.2.2.2.1.length + 1) * 8) ≤ 140737488355328 then
  Option.bind p0 fun x44 =>
  Option.bind x33.2.ak[x44]? fun x45 =>
  if x42 = x44 ∧ true = true then
  some ((x0, (0 : Int)), (((x33.2.aZ (x33.2.ae.set x36 (x37.1, ((x35.2.1 ++ [p1]), x37.2.2)))).aZ ((x33.2.ae.set x36 (x37.1, ((x35.2.1 ++ [p1]), x37.2.2))).set x40 (x41.1, (x41.2.1, (IntKind.wrap .i64 (x39.2.2.1 + (x29.length : Int)), x41.2.2.2))))).qE (x33.2.ak.set x44 (x45.1, (x45.2.1, (x45.2.2.1, ((x43.2.2.2.1 ++ [x28.1]), x45.2.2.2.2)))))))
  else
  none
  else
  none
  else
  none
  else
  none) Option.some

noncomputable def Bc : Kn St := ⟨13, [.kv (.ptr jS), .kv .str], [.kv .i, .kv .i], .rw fun x σ => qO x.1 x.2.1 σ⟩

theorem FN : Bc.ok Tryz.prog TB := mX ⟨Tryz.prog, TB, 91, KLs, MLs, [], [], [64, 84], [nP, ve, uY, Ij, qB, yQ]⟩ ⟨[], [(9, ⟨[], true, [⟨.nrm, [(7, .kv (.ptr mM))]⟩], true, []⟩)], [], []⟩ aN ⟨mD, vg, uZ, KF, pM, Dc, trivial⟩ (fn := Tryz.f13) (by kernel_rfl) (by kernel_rfl) (by kernel_rfl)
noncomputable def gQ (p0 : Option Nat) (p1 : List UInt8) (σ : St) : Option (Int × St) :=
  Option.bind p0 fun x0 =>
  Option.bind σ.ai[x0]? fun x1 =>
  Option.bind (qO x1.2.1 p1 σ) fun x2 =>
  if (x2.1.2 != 0) = true then
  some (x2.1.2, x2.2)
  else
  Option.bind p0 fun x3 =>
  Option.bind x2.2.ai[x3]? fun x4 =>
  Option.bind (jL x4.2.1 x2.2) fun x5 =>
  some (x5.1, x5.2)

noncomputable def oP : Kn St := ⟨33, [.kv (.ptr cZ), .kv .str], [.kv .i], .rw fun x σ => gQ x.1 x.2.1 σ⟩

theorem rU : oP.ok Tryz.prog TB := mX ⟨Tryz.prog, TB, 24, KLs, MLs, [], [], [], [Bc, uY]⟩ ⟨[], [], [], []⟩ aN ⟨FN, uZ, trivial⟩ (fn := Tryz.f33) (by kernel_rfl) (by kernel_rfl) (by kernel_rfl)
noncomputable def dR (p0 : Option Nat) (p1 : List UInt8) (p2 : Int) (p3 : List Int) (p4 : Int) (σ : St) : Option ((Int × Int) × St) :=
  if p0.isNone = true then
  some (((0 : Int), (1 : Int)), σ)
  else
  Option.bind (dQ p0 σ) fun x0 =>
  if ((0 + p3.length) * 8) ≤ 140737488355328 then
  Option.bind p0 fun x1 =>
  Option.bind σ.ai[x1]? fun x2 =>
  Option.bind (uq (x2.1, (x0, (p1, (p2, (([] ++ p3), (p4, ()))))))) fun x3 =>
  if (x3.2 != 0) = true then
  some (((0 : Int), x3.2), σ)
  else
  Option.bind p0 fun x4 =>
  Option.bind σ.ai[x4]? fun x5 =>
  if decide ((x5.2.2.1.length : Int) ≥ 32) = true then
  some (((0 : Int), (10 : Int)), σ)
  else
  if (1 + x3.1.length) ≤ 9223372036854775807 then
  Option.bind (gQ p0 (99 :: x3.1) σ) fun x6 =>
  if (x6.1 != 0) = true then
  some (((0 : Int), x6.1), x6.2)
  else
  Option.bind p0 fun x7 =>
  Option.bind x6.2.ai[x7]? fun x8 =>
  Option.bind p0 fun x9 =>
  Option.bind x6.2.ai[x9]? fun x10 =>
  Option.bind p0 fun x11 =>
  Option.bind x6.2.ai[x11]? fun x12 =>
  if (x10.2.2.1.length : Int) = (x8.2.2.1.length : Int) ∧ (x12.2.2.1.length : Int) = (x8.2.2.1.length : Int) then
  if 0 < 1 ∧ ((x8.2.2.1.length + 1) * 72) ≤ 140737488355328 then
  Option.bind p0 fun x13 =>
  Option.bind x6.2.ai[x13]? fun x14 =>
  some ((x0, (0 : Int)), (x6.2.bW (x6.2.ai.set x13 (x14.1, (x14.2.1, ((x8.2.2.1 ++ [(x2.1, (x0, (p1, (p2, (([] ++ p3), (p4, ()))))))]), x14.2.2.2))))))
  else
  none
  else
  none
  else
  none
  else
  none

noncomputable def oh : Kn St := ⟨11, [.kv (.ptr cZ), .kv .str, .kv .i, .kv (.list .i), .kv .i], [.kv .i, .kv .i], .rw fun x σ => dR x.1 x.2.1 x.2.2.1 x.2.2.2.1 x.2.2.2.2.1 σ⟩

theorem qW : oh.ok Tryz.prog TB := mX ⟨Tryz.prog, TB, 77, KLs, MLs, [], [4000012], [], [iP, Eg, oP]⟩ ⟨[], [], [], []⟩ aN ⟨iQ, Ia, rU, trivial⟩ (fn := Tryz.f11) (by kernel_rfl) (by kernel_rfl) (by kernel_rfl)
noncomputable def oO (p0 : List Int) (p1 : Int × Int × Unit) : Option (List Int) :=
  Option.bind (jF p0 [p1.1, p1.2.1]) fun x0 =>
  some x0

noncomputable def vK : Kn St := ⟨79, [.own 5 1 (.int .u8), .kv aI], [.own 5 1 (.int .u8)], .ro fun x σ => oO x.1 x.2.1⟩

theorem zX : vK.ok Tryz.prog TB := fQ ⟨Tryz.prog, TB, 12, KLs, MLs, [], [1000003], [], [uS]⟩ ⟨[], [], [], []⟩ aN ⟨uT, trivial⟩ (fn := Tryz.f79) (by kernel_rfl) (by kernel_rfl) (by kernel_rfl)
noncomputable def bT (p1 : List (Int × Int × Unit)) (s1 : (List Int) × Int) : Option (((List Int) × Int) ⊕ (List Int)) :=
  if decide (s1.2 < (p1.length : Int)) = true then
  Option.bind (ix p1 s1.2) fun x2 =>
  Option.bind (oO s1.1 x2) fun x3 =>
  some (.inl (x3, IntKind.wrap .i64 (s1.2 + 1)))
  else
  some (.inr s1.1)

noncomputable def eU (p0 : List Int) (p1 : List (Int × Int × Unit)) (p2 : Unit) : Option (List Int) :=
  Option.bind (jF p0 [(p1.length : Int)]) fun x0 =>
  Option.bind (aY (bT p1) (x0, (0 : Int))) fun x4 =>
  some x4

noncomputable def iO : Kn St := ⟨78, [.own 5 1 (.int .u8), .kv (.list aI), .clo 79 []], [.own 5 1 (.int .u8)], .ro fun x σ => eU x.1 x.2.1 x.2.2.1⟩

theorem mg : iO.ok Tryz.prog TB := fQ ⟨Tryz.prog, TB, 26, KLs, MLs, [], [5000008], [], [uS, vK]⟩ ⟨[], [], [], [(3, ⟨[(0, .own 5 1 (.int .u8)), (16, .kv .i)], false, [⟨.ext 0, [(0, .own 5 1 (.int .u8))]⟩], false, []⟩)]⟩ aN ⟨uT, zX, trivial⟩ (fn := Tryz.f78) (by kernel_rfl) (by kernel_rfl) (by kernel_rfl)
noncomputable def kE (p0 : List (Int × Int × Unit)) : Option ((List UInt8) × Int) :=
  Option.bind (nD p0) fun x0 =>
  Option.bind (eU [] p0 ()) fun x1 =>
  Option.bind (uw x0 x1) fun x2 =>
  some (x2.1, x2.2)

noncomputable def xI : Kn St := ⟨43, [.kv (.list aI)], [.kv .str, .kv .i], .ro fun x σ => kE x.1⟩

theorem BL : xI.ok Tryz.prog TB := fQ ⟨Tryz.prog, TB, 11, KLs, MLs, [], [], [], [vY, iO, BM]⟩ ⟨[], [], [], []⟩ aN ⟨xK, mg, CU, trivial⟩ (fn := Tryz.f43) (by kernel_rfl) (by kernel_rfl) (by kernel_rfl)
noncomputable def iI (p0 : Option Nat) (σ : St) (s1 : List (Int × Int × Unit)) : Option ((List (Int × Int × Unit)) ⊕ (List (Int × Int × Unit))) :=
  if decide ((s1.length : Int) > 0) = true then
  Option.bind (ix s1 (0 : Int)) fun x2 =>
  Option.bind (dC p0 σ) fun x3 =>
  if decide (x2.1 < x3) = true then
  if (0 : Int) ≤ (1 : Int) ∧ 1 ≤ (s1.length : Int) then
  some (.inl (s1.drop 1))
  else
  none
  else
  some (.inr s1)
  else
  some (.inr s1)

noncomputable def fB (p0 : Option Nat) (p1 : List (Int × Int × Unit)) (σ : St) : Option ((Int × Int) × St) :=
  if p0.isNone = true then
  some (((0 : Int), (1 : Int)), σ)
  else
  Option.bind (kE p1) fun x0 =>
  if (x0.2 != 0) = true then
  some (((0 : Int), x0.2), σ)
  else
  Option.bind (aY (iI p0 σ) p1) fun x4 =>
  if ((x4.length : Int) == 0) = true then
  some (((0 : Int), (0 : Int)), σ)
  else
  Option.bind (jH p0 x4 σ) fun x5 =>
  if (!x5) = true then
  some (((0 : Int), (3 : Int)), σ)
  else
  Option.bind (kE x4) fun x6 =>
  if (1 + x6.1.length) ≤ 9223372036854775807 then
  Option.bind (gQ p0 (118 :: x6.1) σ) fun x7 =>
  if (x7.1 != 0) = true then
  some (((0 : Int), x7.1), x7.2)
  else
  Option.bind (jI p0 x4 x7.2) fun x8 =>
  some (((x4.length : Int), (0 : Int)), x8.2)
  else
  none

noncomputable def qj : Kn St := ⟨17, [.kv (.ptr cZ), .kv (.list aI)], [.kv .i, .kv .i], .rw fun x σ => fB x.1 x.2.1 σ⟩

theorem tN : qj.ok Tryz.prog TB := mX ⟨Tryz.prog, TB, 61, KLs, MLs, [], [], [], [xI, gU, qw, oP, qy]⟩ ⟨[], [], [], [(6, ⟨[(1, .kv (.list aI))], false, [⟨.ext 0, [(1, .kv (.list aI))]⟩], false, []⟩)]⟩ aN ⟨BL, gZ, tV, rU, tX, trivial⟩ (fn := Tryz.f17) (by kernel_rfl) (by kernel_rfl) (by kernel_rfl)
noncomputable def ja (x1 : Int × (Option Nat) × (List (Int × Int × (List UInt8) × Int × (List Int) × Int × Unit)) × (List (Int × Int × Unit)) × Unit) (s2 : (List (Int × Int × (List UInt8) × Int × (List Int) × Int × Unit)) × Int) : Option (((List (Int × Int × (List UInt8) × Int × (List Int) × Int × Unit)) × Int) ⊕ (List (Int × Int × (List UInt8) × Int × (List Int) × Int × Unit))) :=
  if decide (s2.2 < (x1.2.2.1.length : Int)) = true then
  Option.bind (ix x1.2.2.1 s2.2) fun x3 =>
  if ((0 + x3.2.2.2.2.1.length) * 8) ≤ 140737488355328 then
  if ((s2.1.length + 1) * 72) ≤ 140737488355328 then
  some (.inl ((s2.1 ++ [(x3.1, (x3.2.1, (x3.2.2.1, (x3.2.2.2.1, (([] ++ x3.2.2.2.2.1), x3.2.2.2.2.2)))))]), IntKind.wrap .i64 (s2.2 + 1)))
  else
  none
  else
  none
  else
  some (.inr s2.1)

noncomputable def iK (p0 : Option Nat) (σ : St) : Option (List (Int × Int × (List UInt8) × Int × (List Int) × Int × Unit)) :=
  if p0.isNone = true then
  some []
  else
  Option.bind p0 fun x0 =>
  Option.bind σ.ai[x0]? fun x1 =>
  Option.bind (aY (ja x1) ([], (0 : Int))) fun x4 =>
  some x4

noncomputable def nO : Kn St := ⟨22, [.kv (.ptr cZ)], [.kv (.list fJ)], .ro fun x σ => iK x.1 σ⟩

theorem qp : nO.ok Tryz.prog TB := fQ ⟨Tryz.prog, TB, 29, KLs, MLs, [], [8, 28, 8000005], [], []⟩ ⟨[], [], [], [(5, ⟨[(3, .own 33 72 fJ), (14, .kv .i)], false, [⟨.ext 0, [(3, .own 33 72 fJ)]⟩], false, []⟩)]⟩ aN trivial (fn := Tryz.f22) (by kernel_rfl) (by kernel_rfl) (by kernel_rfl)
noncomputable def iJ (p0 : Option Nat) (σ : St) : Option (List (Int × Int × Unit)) :=
  if p0.isNone = true then
  some []
  else
  Option.bind p0 fun x0 =>
  Option.bind σ.ai[x0]? fun x1 =>
  if ((0 + x1.2.2.2.1.length) * 16) ≤ 140737488355328 then
  some ([] ++ x1.2.2.2.1)
  else
  none

noncomputable def nN : Kn St := ⟨21, [.kv (.ptr cZ)], [.kv (.list aI)], .ro fun x σ => iJ x.1 σ⟩

theorem qm : nN.ok Tryz.prog TB := fQ ⟨Tryz.prog, TB, 11, KLs, MLs, [], [], [], []⟩ ⟨[], [], [], []⟩ aN trivial (fn := Tryz.f21) (by kernel_rfl) (by kernel_rfl) (by kernel_rfl)
noncomputable def jJ (σ : St) : Option (Bool × St) :=
  Option.bind (sO (1048576 : Int) σ) fun x0 =>
  Option.bind (fE x0.1.1 (1 : Int) x0.2) fun x1 =>
  if ((x1.1.2 != 0) || x1.1.1.isNone) = true then
  some (false, x1.2)
  else
  Option.bind (dR x1.1.1 [97] (0 : Int) [(5 : Int)] (-1 : Int) x1.2) fun x2 =>
  Option.bind (dR x1.1.1 [97] (0 : Int) [] (-1 : Int) x2.2) fun x3 =>
  Option.bind (fB x1.1.1 [((1 : Int), ((0 : Int), ()))] x3.2) fun x4 =>
  Option.bind (fB x1.1.1 [((1 : Int), ((0 : Int), ()))] x4.2) fun x5 =>
  Option.bind (if ((((((x2.1.1 == 1) && (x3.1.1 == 2)) && (x4.1.1 == 1)) && (x4.1.2 == 0)) && (x5.1.1 == 0)) && (x5.1.2 == 0)) = true then
  iK x1.1.1 x5.2
  else
  some []) fun x6 =>
  Option.bind (if (((((((x2.1.1 == 1) && (x3.1.1 == 2)) && (x4.1.1 == 1)) && (x4.1.2 == 0)) && (x5.1.1 == 0)) && (x5.1.2 == 0)) && ((x6.length : Int) == 1)) = true then
  iJ x1.1.1 x5.2
  else
  some []) fun x7 =>
  Option.bind (if ((((((((x2.1.1 == 1) && (x3.1.1 == 2)) && (x4.1.1 == 1)) && (x4.1.2 == 0)) && (x5.1.1 == 0)) && (x5.1.2 == 0)) && ((x6.length : Int) == 1)) && ((x7.length : Int) == 1)) = true then
  dC x1.1.1 x5.2
  else
  some (0 : Int)) fun x8 =>
  Option.bind (if (((((((((x2.1.1 == 1) && (x3.1.1 == 2)) && (x4.1.1 == 1)) && (x4.1.2 == 0)) && (x5.1.1 == 0)) && (x5.1.2 == 0)) && ((x6.length : Int) == 1)) && ((x7.length : Int) == 1)) && (x8 == 2)) = true then
  dQ x1.1.1 x5.2
  else
  some (0 : Int)) fun x9 =>
  some (((((((((((x2.1.1 == 1) && (x3.1.1 == 2)) && (x4.1.1 == 1)) && (x4.1.2 == 0)) && (x5.1.1 == 0)) && (x5.1.2 == 0)) && ((x6.length : Int) == 1)) && ((x7.length : Int) == 1)) && (x8 == 2)) && (x9 == 3)), x5.2)

noncomputable def wW : Kn St := ⟨10, [], [.kv .bool], .rw fun x σ => jJ σ⟩

theorem AU : wW.ok Tryz.prog TB := mX ⟨Tryz.prog, TB, 97, KLs, MLs, [], [], [], [Gv, yU, oh, qj, nO, nN, gU, iP]⟩ ⟨[], [], [], []⟩ aN ⟨F7, zG, qW, tN, qp, qm, gZ, iQ, trivial⟩ (fn := Tryz.f10) (by kernel_rfl) (by kernel_rfl) (by kernel_rfl)
end Go.Proofs.YtbnmhjobnepajaaGreat.M


set_option maxRecDepth 100000
namespace Go.Proofs.YtbnmhjobnepajaaGreat.M
open Go.Proofs
noncomputable def eF (p0 : Int) (p1 : Int) (p2 : Int) : Option Bool :=
  some (decide (p0 ≥ p1) && decide (p0 ≤ p2))

noncomputable def lQ : Kn St := ⟨75, [.kv .i, .kv .i, .kv .i], [.kv .bool], .ro fun x σ => eF x.1 x.2.1 x.2.2.1⟩

theorem mW : lQ.ok Tryz.prog TB := fQ ⟨Tryz.prog, TB, 15, KLs, MLs, [], [], [], []⟩ ⟨[], [], [], []⟩ aN trivial (fn := Tryz.f75) (by kernel_rfl) (by kernel_rfl) (by kernel_rfl)
noncomputable def iL (p0 : List UInt8) (p1 : Int) (s0 : (List (List UInt8)) × (List UInt8) × Int) : Option (((List (List UInt8)) × (List UInt8) × Int) ⊕ ((List (List UInt8)) × List UInt8)) :=
  if decide (s0.2.2 < (p0.length : Int)) = true then
  if 0 ≤ s0.2.2 ∧ s0.2.2 < (p0.length : Int) then
  if (btS p0 s0.2.2 == p1) = true then
  if ((s0.1.length + 1) * 16) ≤ 140737488355328 then
  some (.inl ((s0.1 ++ [s0.2.1]), ([], IntKind.wrap .i64 (s0.2.2 + 1))))
  else
  none
  else
  if 0 ≤ s0.2.2 ∧ s0.2.2 ≤ IntKind.wrap .i64 (s0.2.2 + 1) ∧ IntKind.wrap .i64 (s0.2.2 + 1) ≤ (p0.length : Int) then
  if (s0.2.1.length + ((p0.take ((IntKind.wrap .i64 (s0.2.2 + 1)).toNat)).drop s0.2.2.toNat).length) ≤ 9223372036854775807 then
  some (.inl (s0.1, ((s0.2.1 ++ (p0.take ((IntKind.wrap .i64 (s0.2.2 + 1)).toNat)).drop s0.2.2.toNat), IntKind.wrap .i64 (s0.2.2 + 1))))
  else
  none
  else
  none
  else
  none
  else
  some (.inr (s0.1, s0.2.1))

noncomputable def qg (p0 : List UInt8) (p1 : Int) : Option (List (List UInt8)) :=
  Option.bind (aY (iL p0 p1) ([], ([], (0 : Int)))) fun x1 =>
  if ((x1.1.length + 1) * 16) ≤ 140737488355328 then
  some (x1.1 ++ [x1.2])
  else
  none

noncomputable def wZ : Kn St := ⟨145, [.kv .str, .kv (.int .u8)], [.kv (.list .str)], .ro fun x σ => qg x.1 x.2.1⟩

theorem AY : wZ.ok Tryz.prog TB := fQ ⟨Tryz.prog, TB, 34, KLs, MLs, [], [], [], []⟩ ⟨[], [], [], [(4, ⟨[(5, .own 9 16 .str), (6, .kv .str), (7, .kv .i)], false, [⟨.ext 0, [(5, .own 9 16 .str), (6, .kv .str)]⟩], false, []⟩)]⟩ aN trivial (fn := Tryz.f145) (by kernel_rfl) (by kernel_rfl) (by kernel_rfl)
noncomputable def lX (p0 : List UInt8) : Option (List (List UInt8)) :=
  Option.bind (qg p0 (47 : Int)) fun x0 =>
  some x0

noncomputable def xe : Kn St := ⟨116, [.kv .str], [.kv (.list .str)], .ro fun x σ => lX x.1⟩

theorem AZ : xe.ok Tryz.prog TB := fQ ⟨Tryz.prog, TB, 5, KLs, MLs, [], [], [], [wZ]⟩ ⟨[], [], [], []⟩ aN ⟨AY, trivial⟩ (fn := Tryz.f116) (by kernel_rfl) (by kernel_rfl) (by kernel_rfl)
noncomputable def nH (p0 : List UInt8) (s0 : Int) : Option (Int ⊕ (Unit ⊕ Bool)) :=
  if decide (s0 < (p0.length : Int)) = true then
  if 0 ≤ s0 ∧ s0 < (p0.length : Int) then
  if ((((decide (btS p0 s0 < 97) || decide (btS p0 s0 > 122)) && (decide (btS p0 s0 < 48) || decide (btS p0 s0 > 57))) && (btS p0 s0 != 45)) && (btS p0 s0 != 95)) = true then
  some (.inr (.inr false))
  else
  some (.inl (IntKind.wrap .i64 (s0 + 1)))
  else
  none
  else
  some (.inr (.inl ()))

noncomputable def lY (p0 : List UInt8) : Option Bool :=
  Option.bind (aY (nH p0) (0 : Int)) fun x1 =>
  jR x1 (fun x2 =>
  some (decide ((p0.length : Int) > 0))) Option.some

noncomputable def xg : Kn St := ⟨117, [.kv .str], [.kv .bool], .ro fun x σ => lY x.1⟩

theorem A7 : xg.ok Tryz.prog TB := fQ ⟨Tryz.prog, TB, 39, KLs, MLs, [], [], [], []⟩ ⟨[], [], [], [(2, ⟨[(3, .kv .i)], false, [⟨.ext 0, []⟩], true, []⟩)]⟩ aN trivial (fn := Tryz.f117) (by kernel_rfl) (by kernel_rfl) (by kernel_rfl)
noncomputable def mO (x0 : List (List UInt8)) (s1 : Int) : Option (Int ⊕ (Unit ⊕ Bool)) :=
  if decide (s1 < (x0.length : Int)) = true then
  Option.bind (ix x0 s1) fun x2 =>
  Option.bind (lY x2) fun x3 =>
  if (!x3) = true then
  some (.inr (.inr false))
  else
  some (.inl (IntKind.wrap .i64 (s1 + 1)))
  else
  some (.inr (.inl ()))

noncomputable def lK (p0 : List UInt8) : Option Bool :=
  if decide ((p0.length : Int) > 32) = true then
  some false
  else
  Option.bind (lX p0) fun x0 =>
  Option.bind (aY (mO x0) (0 : Int)) fun x4 =>
  jR x4 (fun x5 =>
  some (decide ((x0.length : Int) ≤ 4))) Option.some

noncomputable def vM : Kn St := ⟨102, [.kv .str], [.kv .bool], .ro fun x σ => lK x.1⟩

theorem zY : vM.ok Tryz.prog TB := fQ ⟨Tryz.prog, TB, 25, KLs, MLs, [], [], [], [xe, xg]⟩ ⟨[], [], [], [(5, ⟨[(4, .kv .i)], false, [⟨.ext 0, []⟩], true, []⟩)]⟩ aN ⟨AZ, A7, trivial⟩ (fn := Tryz.f102) (by kernel_rfl) (by kernel_rfl) (by kernel_rfl)
noncomputable def ni (p0 : Int) (p1 : Int) (p2 : List UInt8) : Option Bool :=
  Option.bind (eF p0 (0 : Int) (5 : Int)) fun x0 =>
  Option.bind (if x0 = true then
  eF p1 (1 : Int) (1099511627776 : Int)
  else
  some false) fun x1 =>
  Option.bind (if (x0 && x1) = true then
  lK p2
  else
  some false) fun x2 =>
  some ((x0 && x1) && x2)

noncomputable def xP : Kn St := ⟨74, [.kv .i, .kv .i, .kv .str], [.kv .bool], .ro fun x σ => ni x.1 x.2.1 x.2.2.1⟩

theorem BR : xP.ok Tryz.prog TB := fQ ⟨Tryz.prog, TB, 17, KLs, MLs, [], [], [], [lQ, vM]⟩ ⟨[], [], [], []⟩ aN ⟨mW, zY, trivial⟩ (fn := Tryz.f74) (by kernel_rfl) (by kernel_rfl) (by kernel_rfl)
noncomputable def qf (p0 : Int) : Option Bool :=
  some (decide (p0 ≥ (-1099511627776)) && decide (p0 ≤ 1099511627776))

noncomputable def wY : Kn St := ⟨103, [.kv .i], [.kv .bool], .ro fun x σ => qf x.1⟩

theorem AX : wY.ok Tryz.prog TB := fQ ⟨Tryz.prog, TB, 9, KLs, MLs, [], [], [], []⟩ ⟨[], [], [], []⟩ aN trivial (fn := Tryz.f103) (by kernel_rfl) (by kernel_rfl) (by kernel_rfl)
noncomputable def mP (p0 : List Int) (s0 : Int) : Option (Int ⊕ (Unit ⊕ Bool)) :=
  if decide (s0 < (p0.length : Int)) = true then
  Option.bind (ix p0 s0) fun x1 =>
  Option.bind (qf x1) fun x2 =>
  if (!x2) = true then
  some (.inr (.inr false))
  else
  some (.inl (IntKind.wrap .i64 (s0 + 1)))
  else
  some (.inr (.inl ()))

noncomputable def lL (p0 : List Int) (p1 : Int) : Option Bool :=
  Option.bind (aY (mP p0) (0 : Int)) fun x3 =>
  jR x3 (fun x4 =>
  some (decide ((p0.length : Int) ≤ p1))) Option.some

noncomputable def vN : Kn St := ⟨76, [.kv (.list .i), .kv .i], [.kv .bool], .ro fun x σ => lL x.1 x.2.1⟩

theorem zZ : vN.ok Tryz.prog TB := fQ ⟨Tryz.prog, TB, 22, KLs, MLs, [], [], [], [wY]⟩ ⟨[], [], [], [(2, ⟨[(5, .kv .i)], false, [⟨.ext 0, []⟩], true, []⟩)]⟩ aN ⟨AX, trivial⟩ (fn := Tryz.f76) (by kernel_rfl) (by kernel_rfl) (by kernel_rfl)
noncomputable def lD (p0 : Int × Int × (List UInt8) × Int × (List Int) × Int × Unit) : Option Bool :=
  Option.bind (ni p0.1 p0.2.1 p0.2.2.1) fun x0 =>
  Option.bind (if x0 = true then
  eF p0.2.2.2.1 (0 : Int) (11 : Int)
  else
  some false) fun x1 =>
  Option.bind (if (x0 && x1) = true then
  lL p0.2.2.2.2.1 (4 : Int)
  else
  some false) fun x2 =>
  Option.bind (if ((x0 && x1) && x2) = true then
  eF p0.2.2.2.2.2.1 (-1 : Int) (1099511627776 : Int)
  else
  some false) fun x3 =>
  some (((x0 && x1) && x2) && x3)

noncomputable def yV : Kn St := ⟨42, [.kv fJ], [.kv .bool], .ro fun x σ => lD x.1⟩

theorem Dj : yV.ok Tryz.prog TB := fQ ⟨Tryz.prog, TB, 25, KLs, MLs, [], [1000001], [], [xP, lQ, vN]⟩ ⟨[], [], [], []⟩ aN ⟨BR, mW, zZ, trivial⟩ (fn := Tryz.f42) (by kernel_rfl) (by kernel_rfl) (by kernel_rfl)
noncomputable def bU (p0 : Option Nat) (p1 : Int × Int × (List UInt8) × Int × (List Int) × Int × Unit) (σ : St) : Option ((Int × Int) × St) :=
  Option.bind p0 fun x0 =>
  Option.bind σ.af[x0]? fun x1 =>
  Option.bind p0 fun x2 =>
  Option.bind σ.af[x2]? fun x3 =>
  Option.bind (lD (x1.1, (IntKind.wrap .i64 ((x3.2.1.length : Int) + 1), p1.2.2))) fun x4 =>
  if (!x4) = true then
  some (((0 : Int), (2 : Int)), σ)
  else
  Option.bind p0 fun x5 =>
  Option.bind σ.af[x5]? fun x6 =>
  Option.bind p0 fun x7 =>
  Option.bind σ.af[x7]? fun x8 =>
  if decide (IntKind.wrap .i64 ((x6.2.1.length : Int) - (x8.2.2.1.length : Int)) ≥ 32) = true then
  some (((0 : Int), (10 : Int)), σ)
  else
  Option.bind p0 fun x9 =>
  Option.bind σ.af[x9]? fun x10 =>
  if ((0 + x10.2.1.length) * 72) ≤ 140737488355328 then
  if ((([] ++ x10.2.1).length + 1) * 72) ≤ 140737488355328 then
  Option.bind p0 fun x11 =>
  Option.bind σ.af[x11]? fun x12 =>
  some ((IntKind.wrap .i64 ((x3.2.1.length : Int) + 1), (0 : Int)), (σ.aX (σ.af.set x11 (x12.1, ((([] ++ x10.2.1) ++ [(x1.1, (IntKind.wrap .i64 ((x3.2.1.length : Int) + 1), p1.2.2))]), x12.2.2)))))
  else
  none
  else
  none

noncomputable def pK : Kn St := ⟨15, [.kv (.ptr bg), .kv fJ], [.kv .i, .kv .i], .rw fun x σ => bU x.1 x.2.1 σ⟩

theorem wu : pK.ok Tryz.prog TB := mX ⟨Tryz.prog, TB, 47, KLs, MLs, [], [3000003], [], [yV]⟩ ⟨[], [], [], []⟩ aN ⟨Dj, trivial⟩ (fn := Tryz.f15) (by kernel_rfl) (by kernel_rfl) (by kernel_rfl)
noncomputable def jV (p0 : Option Nat) (p1 : Int) (σ : St) (s0 : (List (Int × Int × Unit)) × Int) : Option (((List (Int × Int × Unit)) × Int) ⊕ (List (Int × Int × Unit))) :=
  Option.bind (if (decide (s0.2 < p1) && decide (s0.2 < 40)) = true then
  dC p0 σ
  else
  some (0 : Int)) fun x1 =>
  Option.bind (if (decide (s0.2 < p1) && decide (s0.2 < 40)) = true then
  dQ p0 σ
  else
  some (0 : Int)) fun x2 =>
  if ((decide (s0.2 < p1) && decide (s0.2 < 40)) && decide (IntKind.wrap .i64 (x1 + s0.2) < x2)) = true then
  Option.bind (dC p0 σ) fun x3 =>
  if ((s0.1.length + 1) * 16) ≤ 140737488355328 then
  some (.inl ((s0.1 ++ [(IntKind.wrap .i64 (x3 + s0.2), ((0 : Int), ()))]), IntKind.wrap .i64 (s0.2 + 1)))
  else
  none
  else
  some (.inr s0.1)

noncomputable def jK (p0 : Option Nat) (p1 : Int) (σ : St) : Option (List (Int × Int × Unit)) :=
  Option.bind (aY (jV p0 p1 σ) ([], (0 : Int))) fun x4 =>
  some x4

noncomputable def wX : Kn St := ⟨16, [.kv (.ptr cZ), .kv .i], [.kv (.list aI)], .ro fun x σ => jK x.1 x.2.1 σ⟩

theorem AV : wX.ok Tryz.prog TB := fQ ⟨Tryz.prog, TB, 34, KLs, MLs, [], [33], [], [gU, iP]⟩ ⟨[], [], [], [(3, ⟨[(5, .own 58 16 aI), (6, .kv .i)], false, [⟨.ext 0, [(5, .own 58 16 aI)]⟩], false, []⟩)]⟩ aN ⟨gZ, iQ, trivial⟩ (fn := Tryz.f16) (by kernel_rfl) (by kernel_rfl) (by kernel_rfl)
noncomputable def lF (p0 : List (Int × Int × Unit)) (s0 : Int) : Option (Int ⊕ (Unit ⊕ Bool)) :=
  if decide (s0 < (p0.length : Int)) = true then
  Option.bind (ix p0 s0) fun x1 =>
  Option.bind (eF x1.1 (1 : Int) (1099511627776 : Int)) fun x2 =>
  if (!(!x2)) = true then
  Option.bind (ix p0 s0) fun x3 =>
  Option.bind (eF x3.2.1 (0 : Int) (63 : Int)) fun x4 =>
  if (!(!x4)) = true then
  if decide (s0 > 0) = true then
  Option.bind (ix p0 s0) fun x5 =>
  Option.bind (ix p0 (IntKind.wrap .i64 (s0 - 1))) fun x6 =>
  if decide (x5.1 ≤ x6.1) = true then
  some (.inr (.inr false))
  else
  some (.inl (IntKind.wrap .i64 (s0 + 1)))
  else
  some (.inl (IntKind.wrap .i64 (s0 + 1)))
  else
  some (.inr (.inr false))
  else
  some (.inr (.inr false))
  else
  some (.inr (.inl ()))

noncomputable def jW (p0 : List (Int × Int × Unit)) : Option Bool :=
  Option.bind (aY (lF p0) (0 : Int)) fun x7 =>
  jR x7 (fun x8 =>
  some (decide ((p0.length : Int) ≤ 32))) Option.some

noncomputable def tY : Kn St := ⟨46, [.kv (.list aI)], [.kv .bool], .ro fun x σ => jW x.1⟩

theorem yX : tY.ok Tryz.prog TB := fQ ⟨Tryz.prog, TB, 47, KLs, MLs, [], [], [], [lQ]⟩ ⟨[], [], [], [(2, ⟨[(3, .kv .i)], false, [⟨.ext 0, []⟩], true, []⟩)]⟩ aN ⟨mW, trivial⟩ (fn := Tryz.f46) (by kernel_rfl) (by kernel_rfl) (by kernel_rfl)
noncomputable def fF (p0 : Option Nat) (p1 : List (Int × Int × Unit)) (σ : St) (s1 : (List (Int × Int × Unit)) × Int) : Option (((List (Int × Int × Unit)) × Int) ⊕ (List (Int × Int × Unit))) :=
  if decide (s1.2 < (p1.length : Int)) = true then
  Option.bind (ix p1 s1.2) fun x2 =>
  Option.bind p0 fun x3 =>
  Option.bind σ.af[x3]? fun x4 =>
  if decide (x2.1 > (x4.2.2.1.length : Int)) = true then
  Option.bind (ix p1 s1.2) fun x5 =>
  if ((s1.1.length + 1) * 16) ≤ 140737488355328 then
  some (.inl ((s1.1 ++ [x5]), IntKind.wrap .i64 (s1.2 + 1)))
  else
  none
  else
  some (.inl (s1.1, IntKind.wrap .i64 (s1.2 + 1)))
  else
  some (.inr s1.1)

noncomputable def iw (p0 : Option Nat) (σ : St) (x6 : List (Int × Int × Unit)) (s7 : Int) : Option (Int ⊕ (Unit ⊕ ((Int × Int) × St))) :=
  if decide (s7 < (x6.length : Int)) = true then
  Option.bind (ix x6 s7) fun x8 =>
  Option.bind p0 fun x9 =>
  Option.bind σ.af[x9]? fun x10 =>
  if (!(x8.1 != IntKind.wrap .i64 (IntKind.wrap .i64 ((x10.2.2.1.length : Int) + 1) + s7))) = true then
  Option.bind (ix x6 s7) fun x11 =>
  Option.bind p0 fun x12 =>
  Option.bind σ.af[x12]? fun x13 =>
  if decide (x11.1 > (x13.2.1.length : Int)) = true then
  some (.inr (.inr (((0 : Int), (3 : Int)), σ)))
  else
  some (.inl (IntKind.wrap .i64 (s7 + 1)))
  else
  some (.inr (.inr (((0 : Int), (3 : Int)), σ)))
  else
  some (.inr (.inl ()))

noncomputable def bK (p0 : Option Nat) (p1 : List (Int × Int × Unit)) (σ : St) : Option ((Int × Int) × St) :=
  Option.bind (jW p1) fun x0 =>
  if (!x0) = true then
  some (((0 : Int), (2 : Int)), σ)
  else
  Option.bind (aY (fF p0 p1 σ) ([], (0 : Int))) fun x6 =>
  Option.bind (aY (iw p0 σ x6) (0 : Int)) fun x14 =>
  jR x14 (fun x15 =>
  Option.bind p0 fun x16 =>
  Option.bind σ.af[x16]? fun x17 =>
  if ((0 + x17.2.2.1.length) * 16) ≤ 140737488355328 then
  if ((([] ++ x17.2.2.1).length + x6.length) * 16) ≤ 140737488355328 then
  Option.bind p0 fun x18 =>
  Option.bind σ.af[x18]? fun x19 =>
  some (((x6.length : Int), (0 : Int)), (σ.aX (σ.af.set x18 (x19.1, (x19.2.1, ((([] ++ x17.2.2.1) ++ x6), x19.2.2.2))))))
  else
  none
  else
  none) Option.some

noncomputable def qX : Kn St := ⟨18, [.kv (.ptr bg), .kv (.list aI)], [.kv .i, .kv .i], .rw fun x σ => bK x.1 x.2.1 σ⟩

theorem xw : qX.ok Tryz.prog TB := mX ⟨Tryz.prog, TB, 82, KLs, MLs, [], [37, 42, 57, 76, 80], [], [tY]⟩ ⟨[], [], [], [(5, ⟨[(6, .own 58 16 aI), (7, .kv .i)], false, [⟨.ext 0, [(6, .own 58 16 aI)]⟩], false, []⟩), (10, ⟨[(8, .kv .i)], false, [⟨.ext 2, []⟩], true, [6]⟩)]⟩ aN ⟨yX, trivial⟩ (fn := Tryz.f18) (by kernel_rfl) (by kernel_rfl) (by kernel_rfl)
noncomputable def lV (p0 : Option Nat) (x0 : List (List UInt8)) (s1 : (List Int) × Int × St) : Option (((List Int) × Int × St) ⊕ St) :=
  if decide (s1.2.1 < (x0.length : Int)) = true then
  Option.bind (ix x0 s1.2.1) fun x2 =>
  Option.bind p0 fun x3 =>
  Option.bind s1.2.2.ah[x3]? fun x4 =>
  Option.bind s1.2.2.ah[x3]? fun x5 =>
  Option.bind ((dm Kd.str (Kd.ptr 93) x2 x5.2.1).getD none) fun x6 =>
  Option.bind s1.2.2.aj[x6]? fun x7 =>
  Option.bind ((dm Kd.str (Kd.ptr 93) x2 x5.2.1).getD none) fun x8 =>
  Option.bind s1.2.2.aj[x8]? fun x9 =>
  if (IntKind.wrap .i64 ((x7.1.length : Int) - x9.2.1) == 0) = true then
  some (.inl (s1.1, (IntKind.wrap .i64 (s1.2.1 + 1), s1.2.2)))
  else
  Option.bind (if decide ((s1.1.length : Int) > 0) = true then
  Option.bind (ix s1.1 (0 : Int)) fun x10 =>
  if IntKind.wrap .i64 (IntKind.wrap .i64 ((x7.1.length : Int) - x9.2.1) + 1) ≠ 0 then
  if (0 : Int) ≤ (1 : Int) ∧ 1 ≤ (s1.1.length : Int) then
  some (s1.1.drop 1, (if 0 > x10 then
  (0 : Int)
  else
  x10).tmod (IntKind.wrap .i64 (IntKind.wrap .i64 ((x7.1.length : Int) - x9.2.1) + 1)))
  else
  none
  else
  none
  else
  some (s1.1, (0 : Int))) fun x11 =>
  Option.bind ((dm Kd.str (Kd.ptr 93) x2 x5.2.1).getD none) fun x12 =>
  Option.bind s1.2.2.aj[x12]? fun x13 =>
  Option.bind ((dm Kd.str (Kd.ptr 93) x2 x5.2.1).getD none) fun x14 =>
  Option.bind s1.2.2.aj[x14]? fun x15 =>
  if 0 ≤ IntKind.wrap .i64 (x15.2.1 + x11.2) ∧ IntKind.wrap .i64 (x15.2.1 + x11.2) ≤ (x13.1.length : Int) then
  Option.bind ((dm Kd.str (Kd.ptr 93) x2 x5.2.1).getD none) fun x16 =>
  Option.bind s1.2.2.aj[x16]? fun x17 =>
  Option.bind ((dm Kd.str (Kd.ptr 93) x2 x5.2.1).getD none) fun x18 =>
  Option.bind ((s1.2.2.aj.set x16 (x13.1.take ((IntKind.wrap .i64 (x15.2.1 + x11.2)).toNat), x17.2))[x18]?) fun x19 =>
  Option.bind ((dm Kd.str (Kd.ptr 93) x2 x5.2.1).getD none) fun x20 =>
  Option.bind ((s1.2.2.aj.set x16 (x13.1.take ((IntKind.wrap .i64 (x15.2.1 + x11.2)).toNat), x17.2))[x20]?) fun x21 =>
  some (.inl (x11.1, (IntKind.wrap .i64 (s1.2.1 + 1), ((s1.2.2.gy (s1.2.2.aj.set x16 (x13.1.take ((IntKind.wrap .i64 (x15.2.1 + x11.2)).toNat), x17.2))).gy ((s1.2.2.aj.set x16 (x13.1.take ((IntKind.wrap .i64 (x15.2.1 + x11.2)).toNat), x17.2)).set x20 (x21.1, ((x19.1.length : Int), x21.2.2)))))))
  else
  none
  else
  some (.inr s1.2.2)

noncomputable def gJ (p0 : Option Nat) (p1 : List Int) (σ : St) : Option (Int × St) :=
  if p0.isNone = true then
  some ((1 : Int), σ)
  else
  Option.bind (iH p0 σ) fun x0 =>
  Option.bind (aY (lV p0 x0) (p1, ((0 : Int), σ))) fun x22 =>
  Option.bind p0 fun x23 =>
  Option.bind x22.ah[x23]? fun x24 =>
  Option.bind p0 fun x25 =>
  Option.bind ((x22.ah.set x23 (x24.1, (x24.2.1, (x24.2.2.1, (false, x24.2.2.2.2)))))[x25]?) fun x26 =>
  some ((0 : Int), ((x22.bG (x22.ah.set x23 (x24.1, (x24.2.1, (x24.2.2.1, (false, x24.2.2.2.2)))))).bG ((x22.ah.set x23 (x24.1, (x24.2.1, (x24.2.2.1, (false, x24.2.2.2.2))))).set x25 (x26.1, (x26.2.1, ((0 : Int), x26.2.2.2))))))

noncomputable def zF : Kn St := ⟨19, [.kv (.ptr di), .kv (.list .i)], [.kv .i], .rw fun x σ => gJ x.1 x.2.1 σ⟩

theorem Em : zF.ok Tryz.prog TB := mX ⟨Tryz.prog, TB, 78, KLs, MLs, [], [], [], [Aw]⟩ ⟨[], [(11, ⟨[], false, [⟨.nrm, [(1, .kv (.list .i)), (9, .kv .i)]⟩], false, []⟩)], [], [(4, ⟨[(1, .kv (.list .i)), (15, .kv .i)], true, [⟨.ext 0, []⟩], false, []⟩)]⟩ aN ⟨Fz, trivial⟩ (fn := Tryz.f19) (by kernel_rfl) (by kernel_rfl) (by kernel_rfl)
noncomputable def iy (p0 : Option Nat) (σ : St) : Option (List (Int × Int × (List UInt8) × Int × (List Int) × Int × Unit)) :=
  Option.bind p0 fun x0 =>
  Option.bind σ.af[x0]? fun x1 =>
  Option.bind p0 fun x2 =>
  Option.bind σ.af[x2]? fun x3 =>
  if 0 ≤ (x3.2.2.1.length : Int) ∧ (x3.2.2.1.length : Int) ≤ (x1.2.1.length : Int) then
  some (x1.2.1.drop ((x3.2.2.1.length : Int).toNat))
  else
  none

noncomputable def oJ : Kn St := ⟨49, [.kv (.ptr bg)], [.kv (.list fJ)], .ro fun x σ => iy x.1 σ⟩

theorem vH : oJ.ok Tryz.prog TB := fQ ⟨Tryz.prog, TB, 13, KLs, MLs, [], [], [], []⟩ ⟨[], [], [], []⟩ aN trivial (fn := Tryz.f49) (by kernel_rfl) (by kernel_rfl) (by kernel_rfl)
noncomputable def jb (p0 : List Int) (p1 : List Int) (s0 : Int) : Option (Int ⊕ (Unit ⊕ Bool)) :=
  if decide (s0 < (p0.length : Int)) = true then
  Option.bind (ix p0 s0) fun x1 =>
  Option.bind (ix p1 s0) fun x2 =>
  if (x1 != x2) = true then
  some (.inr (.inr false))
  else
  some (.inl (IntKind.wrap .i64 (s0 + 1)))
  else
  some (.inr (.inl ()))

noncomputable def jd (p0 : List Int) (p1 : List Int) : Option Bool :=
  if ((p0.length : Int) != (p1.length : Int)) = true then
  some false
  else
  Option.bind (aY (jb p0 p1) (0 : Int)) fun x3 =>
  jR x3 (fun x4 =>
  some true) Option.some

noncomputable def xO : Kn St := ⟨106, [.kv (.list .i), .kv (.list .i)], [.kv .bool], .ro fun x σ => jd x.1 x.2.1⟩

theorem BQ : xO.ok Tryz.prog TB := fQ ⟨Tryz.prog, TB, 26, KLs, MLs, [], [], [], []⟩ ⟨[], [], [], [(4, ⟨[(5, .kv .i)], false, [⟨.ext 0, []⟩], true, []⟩)]⟩ aN trivial (fn := Tryz.f106) (by kernel_rfl) (by kernel_rfl) (by kernel_rfl)
noncomputable def dS (p0 : Int × Int × (List UInt8) × Int × (List Int) × Int × Unit) (p1 : Int × Int × (List UInt8) × Int × (List Int) × Int × Unit) : Option Bool :=
  Option.bind (if ((((p0.1 == p1.1) && (p0.2.1 == p1.2.1)) && (p0.2.2.1 == p1.2.2.1)) && (p0.2.2.2.1 == p1.2.2.2.1)) = true then
  jd p0.2.2.2.2.1 p1.2.2.2.2.1
  else
  some false) fun x0 =>
  some ((((((p0.1 == p1.1) && (p0.2.1 == p1.2.1)) && (p0.2.2.1 == p1.2.2.1)) && (p0.2.2.2.1 == p1.2.2.2.1)) && x0) && (p0.2.2.2.2.2.1 == p1.2.2.2.2.2.1))

noncomputable def uX : Kn St := ⟨81, [.kv fJ, .kv fJ], [.kv .bool], .ro fun x σ => dS x.1 x.2.1⟩

theorem zu : uX.ok Tryz.prog TB := fQ ⟨Tryz.prog, TB, 45, KLs, MLs, [], [1000002, 1000003], [], [xO]⟩ ⟨[], [], [], []⟩ aN ⟨BQ, trivial⟩ (fn := Tryz.f81) (by kernel_rfl) (by kernel_rfl) (by kernel_rfl)
noncomputable def gq (p0 : List (Int × Int × (List UInt8) × Int × (List Int) × Int × Unit)) (p1 : List (Int × Int × (List UInt8) × Int × (List Int) × Int × Unit)) (s0 : Int) : Option (Int ⊕ (Unit ⊕ Bool)) :=
  if decide (s0 < (p0.length : Int)) = true then
  Option.bind (ix p0 s0) fun x1 =>
  Option.bind (ix p1 s0) fun x2 =>
  Option.bind (dS x1 x2) fun x3 =>
  if (!x3) = true then
  some (.inr (.inr false))
  else
  some (.inl (IntKind.wrap .i64 (s0 + 1)))
  else
  some (.inr (.inl ()))

noncomputable def fU (p0 : List (Int × Int × (List UInt8) × Int × (List Int) × Int × Unit)) (p1 : List (Int × Int × (List UInt8) × Int × (List Int) × Int × Unit)) : Option Bool :=
  if ((p0.length : Int) != (p1.length : Int)) = true then
  some false
  else
  Option.bind (aY (gq p0 p1) (0 : Int)) fun x4 =>
  jR x4 (fun x5 =>
  some true) Option.some

noncomputable def tZ : Kn St := ⟨48, [.kv (.list fJ), .kv (.list fJ)], [.kv .bool], .ro fun x σ => fU x.1 x.2.1⟩

theorem yY : tZ.ok Tryz.prog TB := fQ ⟨Tryz.prog, TB, 27, KLs, MLs, [], [], [], [uX]⟩ ⟨[], [], [], [(4, ⟨[(5, .kv .i)], false, [⟨.ext 0, []⟩], true, []⟩)]⟩ aN ⟨zu, trivial⟩ (fn := Tryz.f48) (by kernel_rfl) (by kernel_rfl) (by kernel_rfl)
noncomputable def eX (p0 : List (Int × Int × Unit)) (p1 : List (Int × Int × Unit)) (s0 : Int) : Option (Int ⊕ (Unit ⊕ Bool)) :=
  if decide (s0 < (p0.length : Int)) = true then
  Option.bind (ix p0 s0) fun x1 =>
  Option.bind (ix p1 s0) fun x2 =>
  if (!((x1.1 == x2.1) && ((x1.2.1 == x2.2.1) && true))) = true then
  some (.inr (.inr false))
  else
  some (.inl (IntKind.wrap .i64 (s0 + 1)))
  else
  some (.inr (.inl ()))

noncomputable def ed (p0 : List (Int × Int × Unit)) (p1 : List (Int × Int × Unit)) : Option Bool :=
  if ((p0.length : Int) != (p1.length : Int)) = true then
  some false
  else
  Option.bind (aY (eX p0 p1) (0 : Int)) fun x3 =>
  jR x3 (fun x4 =>
  some true) Option.some

noncomputable def pJ : Kn St := ⟨50, [.kv (.list aI), .kv (.list aI)], [.kv .bool], .ro fun x σ => ed x.1 x.2.1⟩

theorem wo : pJ.ok Tryz.prog TB := fQ ⟨Tryz.prog, TB, 26, KLs, MLs, [], [], [], []⟩ ⟨[], [], [], [(4, ⟨[(5, .kv .i)], false, [⟨.ext 0, []⟩], true, []⟩)]⟩ aN trivial (fn := Tryz.f50) (by kernel_rfl) (by kernel_rfl) (by kernel_rfl)
noncomputable def eH (p0 : Option Nat) (p1 : Option Nat) (σ : St) : Option Bool :=
  Option.bind (iK p0 σ) fun x0 =>
  Option.bind (iy p1 σ) fun x1 =>
  Option.bind (fU x0 x1) fun x2 =>
  if x2 = true then
  Option.bind (iJ p0 σ) fun x3 =>
  Option.bind p1 fun x4 =>
  Option.bind σ.af[x4]? fun x5 =>
  Option.bind (ed x3 x5.2.2.1) fun x6 =>
  if x6 = true then
  Option.bind (dC p0 σ) fun x7 =>
  Option.bind p1 fun x8 =>
  Option.bind σ.af[x8]? fun x9 =>
  if (x7 == IntKind.wrap .i64 ((x9.2.2.1.length : Int) + 1)) = true then
  Option.bind (dQ p0 σ) fun x10 =>
  Option.bind p1 fun x11 =>
  Option.bind σ.af[x11]? fun x12 =>
  some (x10 == IntKind.wrap .i64 ((x12.2.1.length : Int) + 1))
  else
  some false
  else
  some false
  else
  some false

noncomputable def xN : Kn St := ⟨20, [.kv (.ptr cZ), .kv (.ptr bg)], [.kv .bool], .ro fun x σ => eH x.1 x.2.1 σ⟩

theorem BP : xN.ok Tryz.prog TB := fQ ⟨Tryz.prog, TB, 41, KLs, MLs, [], [], [], [nO, oJ, tZ, nN, pJ, gU, iP]⟩ ⟨[], [], [], []⟩ aN ⟨qp, vH, yY, qm, wo, gZ, iQ, trivial⟩ (fn := Tryz.f20) (by kernel_rfl) (by kernel_rfl) (by kernel_rfl)
noncomputable def oD (p0 : Option Nat) (p1 : Int) (σ : St) : Option (Int × St) :=
  Option.bind (jU p0 σ) fun x0 =>
  if (x0 != 0) = true then
  some (x0, σ)
  else
  if decide (p1 < 1) = true then
  some ((2 : Int), σ)
  else
  Option.bind p0 fun x1 =>
  Option.bind σ.ah[x1]? fun x2 =>
  some ((0 : Int), (σ.bG (σ.ah.set x1 (x2.1, (x2.2.1, (p1, x2.2.2.2))))))

noncomputable def CW : Kn St := ⟨25, [.kv (.ptr di), .kv .i], [.kv .i], .rw fun x σ => oD x.1 x.2.1 σ⟩

theorem Gu : CW.ok Tryz.prog TB := mX ⟨Tryz.prog, TB, 19, KLs, MLs, [], [], [], [pI]⟩ ⟨[], [], [], []⟩ aN ⟨qi, trivial⟩ (fn := Tryz.f25) (by kernel_rfl) (by kernel_rfl) (by kernel_rfl)
noncomputable def bC (p0 : List (Int × Int × (Int × Int × (List UInt8) × Int × (List Int) × Int × Unit) × (List (Int × Int × Unit)) × (List Int) × Unit)) (x3 : ((Option Nat) × Int) × St) (s5 : (Option Nat) × (Option Nat) × Int × St) : Option (((Option Nat) × (Option Nat) × Int × St) ⊕ ((Option Nat) × (Option Nat) × St)) :=
  if (decide (s5.2.2.1 < (p0.length : Int)) && decide (s5.2.2.1 < 60)) = true then
  Option.bind (ix p0 s5.2.2.1) fun x6 =>
  Option.bind (if (decide (x6.1 ≥ 0) && decide (x6.1 < 4)) = true then
  Option.bind (dR x3.1.1 x6.2.2.1.2.2.1 x6.2.2.1.2.2.2.1 x6.2.2.1.2.2.2.2.1 x6.2.2.1.2.2.2.2.2.1 s5.2.2.2) fun x7 =>
  Option.bind s5.1 fun x8 =>
  Option.bind x7.2.af[x8]? fun x9 =>
  Option.bind s5.1 fun x10 =>
  Option.bind x7.2.af[x10]? fun x11 =>
  Option.bind (bU (some x7.2.af.length) x6.2.2.1 (x7.2.aX (x7.2.af ++ [((2 : Int), (x9.2.1, (x11.2.2.1, ())))]))) fun x12 =>
  if (x7.1.2 == 11) = true then
  some (.inr (s5.1, (some x7.2.af.length, x12.2)))
  else
  Option.bind (if (x7.1.2 == 0) = true then
  some (some x7.2.af.length)
  else
  some s5.1) fun x13 =>
  some (.inl (x13, (some x7.2.af.length, x12.2)))
  else
  some (.inl (s5.1, (s5.2.1, s5.2.2.2)))) fun x14 =>
  jR x14 (fun x15 =>
  if ((x6.1 == 4) || (x6.1 == 5)) = true then
  Option.bind (if (x6.1 == 5) = true then
  Option.bind (jK x3.1.1 x6.2.1 x15.2.2) fun x16 =>
  some x16
  else
  some x6.2.2.2.1) fun x17 =>
  Option.bind (fB x3.1.1 x17 x15.2.2) fun x18 =>
  Option.bind x15.1 fun x19 =>
  Option.bind x18.2.af[x19]? fun x20 =>
  Option.bind x15.1 fun x21 =>
  Option.bind x18.2.af[x21]? fun x22 =>
  Option.bind (bK (some x18.2.af.length) x17 (x18.2.aX (x18.2.af ++ [((2 : Int), (x20.2.1, (x22.2.2.1, ())))]))) fun x23 =>
  if (x18.1.2 == 11) = true then
  some (.inr (x15.1, (some x18.2.af.length, x23.2)))
  else
  if (x18.1.2 == 0) = true then
  some (.inl (some x18.2.af.length, (some x18.2.af.length, (IntKind.wrap .i64 (s5.2.2.1 + 1), x23.2))))
  else
  some (.inl (x15.1, (some x18.2.af.length, (IntKind.wrap .i64 (s5.2.2.1 + 1), x23.2))))
  else
  some (.inl (x15.1, (x15.2.1, (IntKind.wrap .i64 (s5.2.2.1 + 1), x15.2.2))))) (fun x24 =>
  some (.inr (x24.1, (x24.2.1, x24.2.2))))
  else
  some (.inr (s5.1, (s5.2.1, s5.2.2.2)))

noncomputable def fO (p0 : List (Int × Int × (Int × Int × (List UInt8) × Int × (List Int) × Int × Unit) × (List (Int × Int × Unit)) × (List Int) × Unit)) (p1 : Int) (p2 : List Int) (σ : St) : Option (Bool × St) :=
  Option.bind (sO (1048576 : Int) σ) fun x0 =>
  Option.bind (if decide (p1 > 0) = true then
  Option.bind (oD x0.1.1 (IntKind.wrap .i64 p1) x0.2) fun x1 =>
  some x1.2
  else
  some x0.2) fun x2 =>
  Option.bind (fE x0.1.1 (2 : Int) x2) fun x3 =>
  Option.bind (if (!((x3.1.2 != 0) || x3.1.1.isNone)) = true then
  jJ ((x3.2.aX (x3.2.af ++ [((2 : Int), ([], ([], ())))])).aX ((x3.2.af ++ [((2 : Int), ([], ([], ())))]) ++ [((2 : Int), ([], ([], ())))]))
  else
  some (false, ((x3.2.aX (x3.2.af ++ [((2 : Int), ([], ([], ())))])).aX ((x3.2.af ++ [((2 : Int), ([], ([], ())))]) ++ [((2 : Int), ([], ([], ())))])))) fun x4 =>
  if (((x3.1.2 != 0) || x3.1.1.isNone) || (!x4.1)) = true then
  some (false, x4.2)
  else
  Option.bind (aY (bC p0 x3) (some x3.2.af.length, (some ((x3.2.af ++ [((2 : Int), ([], ([], ())))]).length), ((0 : Int), x4.2)))) fun x25 =>
  Option.bind (gJ x0.1.1 p2 x25.2.2) fun x26 =>
  Option.bind (fE x0.1.1 (2 : Int) x26.2) fun x27 =>
  Option.bind (if ((x27.1.2 == 0) && (!x27.1.1.isNone)) = true then
  eH x27.1.1 x25.1 x27.2
  else
  some false) fun x28 =>
  Option.bind (if (((x27.1.2 == 0) && (!x27.1.1.isNone)) && (!x28)) = true then
  eH x27.1.1 x25.2.1 x27.2
  else
  some false) fun x29 =>
  some ((((x27.1.2 == 0) && (!x27.1.1.isNone)) && (x28 || x29)), x27.2)

noncomputable def yj : Kn St := ⟨7, [.kv (.list bH), .kv (.int .u8), .kv (.list .i)], [.kv .bool], .rw fun x σ => fO x.1 x.2.1 x.2.2.1 σ⟩

theorem vZ : yj.ok Tryz.prog TB := mX ⟨Tryz.prog, TB, 174, KLs, MLs, [], [12000014], [], [Gv, CW, yU, wW, oh, pK, wX, qj, qX, zF, xN]⟩ ⟨[], [(3, ⟨[], true, [⟨.nrm, []⟩], false, []⟩), (18, ⟨[], false, [⟨.nrm, [(11, .kv (.ptr bg))]⟩], false, []⟩), (13, ⟨[], true, [⟨.nrm, [(11, .kv (.ptr bg)), (12, .kv (.ptr bg))]⟩, ⟨.ext 0, [(11, .kv (.ptr bg)), (12, .kv (.ptr bg))]⟩], false, []⟩), (22, ⟨[], false, [⟨.nrm, [(17, .kv (.list aI))]⟩], false, []⟩)], [], [(9, ⟨[(11, .kv (.ptr bg)), (12, .kv (.ptr bg)), (13, .kv .i)], true, [⟨.ext 0, [(11, .kv (.ptr bg)), (12, .kv (.ptr bg))]⟩], false, []⟩)]⟩ aN ⟨F7, Gu, zG, AU, qW, wu, AV, tN, xw, Em, BP, trivial⟩ (fn := Tryz.f7) (by kernel_rfl) (by kernel_rfl) (by kernel_rfl)
end Go.Proofs.YtbnmhjobnepajaaGreat.M


set_option maxRecDepth 100000

namespace Go.Proofs.YtbnmhjobnepajaaGreat.M

open Go.Proofs

noncomputable def St.aS (s : St) (i : Nat) (x : aA dV) : St := { s with ah := s.ah.set i x }

theorem ou {s : St} {i : Nat} {o x : aA dV} (h : s.ah[i]? = some o) : (s.aS i x).ah[i]? = some x := by simp [St.aS, (List.getElem?_eq_some_iff.1 h).1]

noncomputable def St.oK (s : St) (x : aA dV) : St := { s with ah := s.ah ++ [x] }

theorem OI {s : St} {x : aA dV} : (s.oK x).ah[s.ah.length]? = some x := by simp [St.oK]

noncomputable def St.aH (s : St) (i : Nat) (x : aA fD) : St := { s with aj := s.aj.set i x }

theorem tu {s : St} {i : Nat} {o x : aA fD} (h : s.aj[i]? = some o) : (s.aH i x).aj[i]? = some x := by simp [St.aH, (List.getElem?_eq_some_iff.1 h).1]

noncomputable def St.eY (s : St) (x : aA fD) : St := { s with aj := s.aj ++ [x] }

theorem FZ {s : St} {x : aA fD} : (s.eY x).aj[s.aj.length]? = some x := by simp [St.eY]

noncomputable def St.bu (s : St) (i : Nat) (x : aA dD) : St := { s with ak := s.ak.set i x }

theorem qU {s : St} {i : Nat} {o x : aA dD} (h : s.ak[i]? = some o) : (s.bu i x).ak[i]? = some x := by simp [St.bu, (List.getElem?_eq_some_iff.1 h).1]

noncomputable def St.iG (s : St) (x : aA dD) : St := { s with ak := s.ak ++ [x] }

theorem TW {s : St} {x : aA dD} : (s.iG x).ak[s.ak.length]? = some x := by simp [St.iG]

noncomputable def St.ay (s : St) (i : Nat) (x : aA dW) : St := { s with ae := s.ae.set i x }

theorem xq {s : St} {i : Nat} {o x : aA dW} (h : s.ae[i]? = some o) : (s.ay i x).ae[i]? = some x := by simp [St.ay, (List.getElem?_eq_some_iff.1 h).1]

noncomputable def St.az (s : St) (x : aA dW) : St := { s with ae := s.ae ++ [x] }

theorem oG {s : St} {x : aA dW} : (s.az x).ae[s.ae.length]? = some x := by simp [St.az]

noncomputable def St.cO (s : St) (x : aA Hz) : St := { s with iE := s.iE ++ [x] }

theorem aai {s : St} {x : aA Hz} : (s.cO x).iE[s.iE.length]? = some x := by simp [St.cO]

noncomputable def St.LJ (s : St) (x : aA KQ) : St := { s with tC := s.tC ++ [x] }

noncomputable def St.EP (s : St) (x : aA Hy) : St := { s with mG := s.mG ++ [x] }

noncomputable def St.dH (s : St) (i : Nat) (x : aA yO) : St := { s with aG := s.aG.set i x }

theorem EL {s : St} {i : Nat} {o x : aA yO} (h : s.aG[i]? = some o) : (s.dH i x).aG[i]? = some x := by simp [St.dH, (List.getElem?_eq_some_iff.1 h).1]

noncomputable def St.eQ (s : St) (x : aA yO) : St := { s with aG := s.aG ++ [x] }

theorem PV {s : St} {x : aA yO} : (s.eQ x).aG[s.aG.length]? = some x := by simp [St.eQ]

noncomputable def St.up (σ : St) := (σ.af, σ.ai, σ.au, σ.bD)

noncomputable def wI (p0 : List UInt8) (x5 : Int) (x6 : Int) : Option (Sum (Int × Int) Int) :=
  if (decide (x6 < (p0.length : Int))) = true then
  if (0 : Int) ≤ x6 ∧ x6 < (p0.length : Int) then
  if (decide ((btS p0 x6) < 48)) = true then
  some (.inr (-1))
  else
  if (0 : Int) ≤ x6 ∧ x6 < (p0.length : Int) then
  if ((decide ((btS p0 x6) > 57)) || (decide (x5 > 1099511627776))) = true then
  some (.inr (-1))
  else
  if (0 : Int) ≤ x6 ∧ x6 < (p0.length : Int) then
  wI p0 (IntKind.wrap .i64 ((IntKind.wrap .i64 (x5 * 10)) + (IntKind.wrap .i64 (IntKind.wrap .u8 ((btS p0 x6) - 48))))) (IntKind.wrap .i64 (x6 + 1))
  else none
  else none
  else none
  else
  some (.inl (x5, x6))
  partial_fixpoint

noncomputable def f140 (p0 : List UInt8) : Option Int :=
  wI p0 0 0 >>= fun rr23 => (match rr23 with
  | .inr yy => some yy
  | .inl z22 =>
  if (p0 == []) = true then
  some (-1)
  else
  if (0 : Int) ≤ 0 ∧ 0 < (p0.length : Int) then
  if ((((btS p0 0) == 48) && (!(p0 == [48]))) || (decide (z22.1 > 1099511627776))) = true then
  some (-1)
  else
  some z22.1
  else none)

noncomputable def f60 (p0 : Option Nat) (σ : St) : Option Int :=
  if p0.isNone = true then
  some 0
  else
  p0 >>= fun i6 =>
  (σ.ak[i6]?) >>= fun o7 =>
  some o7.2.2.2.2.1

noncomputable def f18 (p0 : Int) (σ : St) : Option (((Option Nat) × Int) × St) :=
  if ((decide (p0 < 0)) || (decide (p0 > 1048576))) = true then
  some ((none, 2), σ)
  else
  some ((some σ.ah.length, 0), (σ.oK (p0, [], 0, false, ())))

noncomputable def f70 (p0 : Option Nat) (σ : St) : Option Int :=
  if p0.isNone = true then
  some 1
  else
  p0 >>= fun i6 =>
  (σ.ah[i6]?) >>= fun o7 =>
  if o7.2.2.2.1 = true then
  some 11
  else
  some 0

noncomputable def yL (p0 : List UInt8) (x4 : Int) : Option (Sum Int Bool) :=
  if (decide (x4 < (p0.length : Int))) = true then
  if (0 : Int) ≤ x4 ∧ x4 < (p0.length : Int) then
  if ((((((decide ((btS p0 x4) < 97)) || (decide ((btS p0 x4) > 122))) && ((decide ((btS p0 x4) < 48)) || (decide ((btS p0 x4) > 57)))) && ((btS p0 x4) != 46)) && ((btS p0 x4) != 45)) && ((btS p0 x4) != 95)) = true then
  some (.inr false)
  else
  yL p0 (IntKind.wrap .i64 (x4 + 1))
  else none
  else
  some (.inl x4)
  partial_fixpoint

noncomputable def f71 (p0 : List UInt8) : Option Bool :=
  yL p0 0 >>= fun rr18 => (match rr18 with
  | .inr yy => some yy
  | .inl z17 =>
  some ((decide ((p0.length : Int) > 0)) && (decide ((p0.length : Int) ≤ 24))))

noncomputable def f72 (p0 : Option Nat) (p1 : St → Option (Unit × St)) (σ : St) : Option (Int × St) :=
  p0 >>= fun i4 =>
  (σ.ah[i4]?) >>= fun o5 =>
  if (decide (o5.2.2.1 > 0)) = true then
  p0 >>= fun i7 =>
  (σ.ah[i7]?) >>= fun o8 =>
  p0 >>= fun i9 =>
  (σ.ah[i9]?) >>= fun o10 =>
  p0 >>= fun i12 =>
  ((σ.aS i9 (o10.1, o10.2.1, IntKind.wrap .i64 (o8.2.2.1 - 1), o10.2.2.2.1, ())).ah[i12]?) >>= fun o13 =>
  if (o13.2.2.1 == 0) = true then
  p0 >>= fun i15 =>
  ((σ.aS i9 (o10.1, o10.2.1, IntKind.wrap .i64 (o8.2.2.1 - 1), o10.2.2.2.1, ())).ah[i15]?) >>= fun o16 =>
  some (11, ((σ.aS i9 (o10.1, o10.2.1, IntKind.wrap .i64 (o8.2.2.1 - 1), o10.2.2.2.1, ())).aS i15 (o16.1, o16.2.1, o16.2.2.1, true, ())))
  else
  p1 (σ.aS i9 (o10.1, o10.2.1, IntKind.wrap .i64 (o8.2.2.1 - 1), o10.2.2.2.1, ())) >>= fun r19 =>
  some (0, r19.2)
  else
  p1 σ >>= fun r22 =>
  some (0, r22.2)

noncomputable def f73  (σ : St) : Option (Unit × St) :=
  some ((), σ)

noncomputable def f24 (p0 : Option Nat) (p1 : List UInt8) (p2 : List UInt8) (σ : St) : Option (Int × St) :=
  f70 p0 σ >>= fun r4 =>
  if (r4 != 0) = true then
  some (r4, σ)
  else
  f71 p1 >>= fun r9 =>
  if (!r9) = true then
  some (2, σ)
  else
  p0 >>= fun i12 =>
  (σ.ah[i12]?) >>= fun o13 =>
  (if (!((dm .str (.ptr ax) p1 o13.2.1).getD (fZ (.ptr ax))).isNone) = true then
  ((dm .str (.ptr ax) p1 o13.2.1).getD (fZ (.ptr ax))) >>= fun i77 =>
  (σ.aj[i77]?) >>= fun o78 =>
  some (o78.1.length : Int)
  else
  some 0 : Option Int) >>= fun z18 =>
  if (((dm .str (.ptr ax) p1 o13.2.1).getD (fZ (.ptr ax))).isNone) = true then
  p0 >>= fun i23 =>
  (σ.ah[i23]?) >>= fun o24 =>
  if (decide ((o24.2.1.length : Int) ≥ 128)) = true then
  some (10, σ)
  else
  if (decide ((p2.length : Int) > (IntKind.wrap .i64 (65536 - z18)))) = true then
  some (10, σ)
  else
  p0 >>= fun i31 =>
  (σ.ah[i31]?) >>= fun o32 =>
  gB p0 σ >>= fun r33 =>
  if (decide ((p2.length : Int) > (IntKind.wrap .i64 (o32.1 - r33)))) = true then
  some (10, σ)
  else
  (if (((dm .str (.ptr ax) p1 o13.2.1).getD (fZ (.ptr ax))).isNone) = true then
  p0 >>= fun i50 =>
  ((σ.eY ([], 0, ())).ah[i50]?) >>= fun o51 =>
  some (some σ.aj.length, ((σ.eY ([], 0, ())).aS i50 (o51.1, oU .str (.ptr ax) p1 (some σ.aj.length) o51.2.1, o51.2.2.1, o51.2.2.2.1, ())))
  else
  some ((dm .str (.ptr ax) p1 o13.2.1).getD (fZ (.ptr ax)), σ) : Option ((Option Nat) × St)) >>= fun z39 =>
  z39.1 >>= fun i42 =>
  (z39.2.aj[i42]?) >>= fun o43 =>
  if o43.1.length + p2.length ≤ 9223372036854775807 then
  z39.1 >>= fun i45 =>
  (z39.2.aj[i45]?) >>= fun o46 =>
  f72 p0 f73 (z39.2.aH i45 (o43.1 ++ p2, o46.2.1, ())) >>= fun r48 =>
  some (r48.1, r48.2)
  else none
  else
  if (decide ((p2.length : Int) > (IntKind.wrap .i64 (65536 - z18)))) = true then
  some (10, σ)
  else
  p0 >>= fun i56 =>
  (σ.ah[i56]?) >>= fun o57 =>
  gB p0 σ >>= fun r58 =>
  if (decide ((p2.length : Int) > (IntKind.wrap .i64 (o57.1 - r58)))) = true then
  some (10, σ)
  else
  (if (((dm .str (.ptr ax) p1 o13.2.1).getD (fZ (.ptr ax))).isNone) = true then
  p0 >>= fun i75 =>
  ((σ.eY ([], 0, ())).ah[i75]?) >>= fun o76 =>
  some (some σ.aj.length, ((σ.eY ([], 0, ())).aS i75 (o76.1, oU .str (.ptr ax) p1 (some σ.aj.length) o76.2.1, o76.2.2.1, o76.2.2.2.1, ())))
  else
  some ((dm .str (.ptr ax) p1 o13.2.1).getD (fZ (.ptr ax)), σ) : Option ((Option Nat) × St)) >>= fun z64 =>
  z64.1 >>= fun i67 =>
  (z64.2.aj[i67]?) >>= fun o68 =>
  if o68.1.length + p2.length ≤ 9223372036854775807 then
  z64.1 >>= fun i70 =>
  (z64.2.aj[i70]?) >>= fun o71 =>
  f72 p0 f73 (z64.2.aH i70 (o68.1 ++ p2, o71.2.1, ())) >>= fun r73 =>
  some (r73.1, r73.2)
  else none

noncomputable def vT (p0 : Option Nat) (r7 : List (List UInt8)) (x8 : List Int) (x9 : Int) (σ10 : St) : Option ((List Int) × Int × St) :=
  if (decide (x9 < (r7.length : Int))) = true then
  (ix r7 x9) >>= fun x19 =>
  p0 >>= fun i21 =>
  (σ10.ah[i21]?) >>= fun o22 =>
  ((dm .str (.ptr ax) x19 o22.2.1).getD (fZ (.ptr ax))) >>= fun i24 =>
  (σ10.aj[i24]?) >>= fun o25 =>
  ((dm .str (.ptr ax) x19 o22.2.1).getD (fZ (.ptr ax))) >>= fun i26 =>
  (σ10.aj[i26]?) >>= fun o27 =>
  if ((IntKind.wrap .i64 ((o25.1.length : Int) - o27.2.1)) == 0) = true then
  vT p0 r7 x8 (IntKind.wrap .i64 (x9 + 1)) σ10
  else
  (if (decide ((x8.length : Int) > 0)) = true then
  (ix x8 0) >>= fun x49 =>
  if (IntKind.wrap .i64 ((IntKind.wrap .i64 ((o25.1.length : Int) - o27.2.1)) + 1)) ≠ 0 then
  if (0 : Int) ≤ 1 ∧ 1 ≤ (x8.length : Int) then
  some (x8.drop (Int.toNat 1), Int.tmod (if 0 > x49 then 0 else x49) (IntKind.wrap .i64 ((IntKind.wrap .i64 ((o25.1.length : Int) - o27.2.1)) + 1)))
  else none
  else none
  else
  some (x8, 0) : Option ((List Int) × Int)) >>= fun z35 =>
  ((dm .str (.ptr ax) x19 o22.2.1).getD (fZ (.ptr ax))) >>= fun i38 =>
  (σ10.aj[i38]?) >>= fun o39 =>
  ((dm .str (.ptr ax) x19 o22.2.1).getD (fZ (.ptr ax))) >>= fun i40 =>
  (σ10.aj[i40]?) >>= fun o41 =>
  if (0 : Int) ≤ (IntKind.wrap .i64 (o41.2.1 + z35.2)) ∧ (IntKind.wrap .i64 (o41.2.1 + z35.2)) ≤ (o39.1.length : Int) then
  ((dm .str (.ptr ax) x19 o22.2.1).getD (fZ (.ptr ax))) >>= fun i43 =>
  (σ10.aj[i43]?) >>= fun o44 =>
  ((dm .str (.ptr ax) x19 o22.2.1).getD (fZ (.ptr ax))) >>= fun i45 =>
  ((σ10.aH i43 (o39.1.take (Int.toNat (IntKind.wrap .i64 (o41.2.1 + z35.2))), o44.2.1, ())).aj[i45]?) >>= fun o46 =>
  ((dm .str (.ptr ax) x19 o22.2.1).getD (fZ (.ptr ax))) >>= fun i47 =>
  ((σ10.aH i43 (o39.1.take (Int.toNat (IntKind.wrap .i64 (o41.2.1 + z35.2))), o44.2.1, ())).aj[i47]?) >>= fun o48 =>
  vT p0 r7 z35.1 (IntKind.wrap .i64 (x9 + 1)) ((σ10.aH i43 (o39.1.take (Int.toNat (IntKind.wrap .i64 (o41.2.1 + z35.2))), o44.2.1, ())).aH i47 (o48.1, (o46.1.length : Int), ()))
  else none
  else
  some ((x8, x9, σ10))
  partial_fixpoint

noncomputable def f27 (p0 : Option Nat) (p1 : List Int) (σ : St) : Option (Int × St) :=
  if p0.isNone = true then
  some (1, σ)
  else
  iH p0 σ >>= fun r7 =>
  vT p0 r7 p1 0 σ >>= fun z52 =>
  p0 >>= fun i55 =>
  (z52.2.2.ah[i55]?) >>= fun o56 =>
  p0 >>= fun i57 =>
  ((z52.2.2.aS i55 (o56.1, o56.2.1, o56.2.2.1, false, ())).ah[i57]?) >>= fun o58 =>
  some (0, ((z52.2.2.aS i55 (o56.1, o56.2.1, o56.2.2.1, false, ())).aS i57 (o58.1, o58.2.1, 0, o58.2.2.2.1, ())))

noncomputable def f77 (p0 : Option Nat) (p1 : List UInt8) (σ : St) : Option ((Option Nat) × Int) :=
  f70 p0 σ >>= fun r4 =>
  if (r4 != 0) = true then
  some (none, r4)
  else
  p0 >>= fun i8 =>
  (σ.ah[i8]?) >>= fun o9 =>
  if (((dm .str (.ptr ax) p1 o9.2.1).getD (fZ (.ptr ax))).isNone) = true then
  some (none, 8)
  else
  some ((dm .str (.ptr ax) p1 o9.2.1).getD (fZ (.ptr ax)), 0)

noncomputable def f28 (p0 : Option Nat) (p1 : List UInt8) (σ : St) : Option ((List UInt8) × Int) :=
  f77 p0 p1 σ >>= fun r3 =>
  if (r3.2 != 0) = true then
  some ([], r3.2)
  else
  r3.1 >>= fun i8 =>
  (σ.aj[i8]?) >>= fun o9 =>
  some (o9.1, 0)

noncomputable def f31 (p0 : Option Nat) (σ : St) : Option Bool :=
  if (!p0.isNone) = true then
  p0 >>= fun i3 =>
  (σ.ah[i3]?) >>= fun o4 =>
  some o4.2.2.2.1
  else
  some false

noncomputable def f32 (p0 : Option Nat) (p1 : Int) (σ : St) : Option (Int × St) :=
  f70 p0 σ >>= fun r3 =>
  if (r3 != 0) = true then
  some (r3, σ)
  else
  if (decide (p1 < 1)) = true then
  some (2, σ)
  else
  p0 >>= fun i10 =>
  (σ.ah[i10]?) >>= fun o11 =>
  some (0, (σ.aS i10 (o11.1, o11.2.1, p1, o11.2.2.2.1, ())))

noncomputable def f78 (c0 : Nat) (σ : St) : Option (Unit × St) :=
  (σ.aG[c0]?) >>= fun o1 =>
  o1.1 >>= fun i2 =>
  (σ.aj[i2]?) >>= fun o3 =>
  o1.1 >>= fun i4 =>
  (σ.aj[i4]?) >>= fun o5 =>
  some ((), (σ.aH i4 (o5.1, (o3.1.length : Int), ())))

noncomputable def f33 (p0 : Option Nat) (p1 : List UInt8) (σ : St) : Option (Int × St) :=
  f77 p0 p1 σ >>= fun r3 =>
  if (r3.2 != 0) = true then
  some (r3.2, ((σ.eQ (none, ())).dH σ.aG.length (r3.1, ())))
  else
  f72 p0 (f78 σ.aG.length) ((σ.eQ (none, ())).dH σ.aG.length (r3.1, ())) >>= fun r8 =>
  some (r8.1, r8.2)

noncomputable def f79 (c0 : Nat) (c1 : Nat) (σ : St) : Option (Unit × St) :=
  (σ.aG[c0]?) >>= fun o1 =>
  o1.1 >>= fun i2 =>
  (σ.aj[i2]?) >>= fun o3 =>
  (σ.iE[c1]?) >>= fun o4 =>
  if (0 : Int) ≤ o4.1 ∧ o4.1 ≤ (o3.1.length : Int) then
  o1.1 >>= fun i6 =>
  (σ.aj[i6]?) >>= fun o7 =>
  o1.1 >>= fun i8 =>
  (σ.aj[i8]?) >>= fun o9 =>
  o1.1 >>= fun i10 =>
  ((σ.aH i8 (o3.1.take (Int.toNat o4.1), o9.2.1, ())).aj[i10]?) >>= fun o11 =>
  some ((), ((σ.aH i8 (o3.1.take (Int.toNat o4.1), o9.2.1, ())).aH i10 (o11.1, if o4.1 < o7.2.1 then o4.1 else o7.2.1, ())))
  else none

noncomputable def f35 (p0 : Option Nat) (p1 : List UInt8) (p2 : Int) (σ : St) : Option (Int × St) :=
  f77 p0 p1 (σ.cO (p2, ())) >>= fun r3 =>
  if (r3.2 != 0) = true then
  some (r3.2, (((σ.cO (p2, ())).eQ (none, ())).dH ((σ.cO (p2, ())).aG.length) (r3.1, ())))
  else
  if (decide (p2 < 0)) = true then
  some (3, (((σ.cO (p2, ())).eQ (none, ())).dH ((σ.cO (p2, ())).aG.length) (r3.1, ())))
  else
  r3.1 >>= fun i11 =>
  ((((σ.cO (p2, ())).eQ (none, ())).dH ((σ.cO (p2, ())).aG.length) (r3.1, ())).aj[i11]?) >>= fun o12 =>
  if (decide (p2 > (o12.1.length : Int))) = true then
  some (3, (((σ.cO (p2, ())).eQ (none, ())).dH ((σ.cO (p2, ())).aG.length) (r3.1, ())))
  else
  f72 p0 (f79 ((σ.cO (p2, ())).aG.length) σ.iE.length) (((σ.cO (p2, ())).eQ (none, ())).dH ((σ.cO (p2, ())).aG.length) (r3.1, ())) >>= fun r15 =>
  some (r15.1, r15.2)

noncomputable def f81 (c0 : Nat) (c1 : Nat) (σ : St) : Option (Unit × St) :=
  (σ.mG[c0]?) >>= fun o1 =>
  o1.1 >>= fun i2 =>
  (σ.ah[i2]?) >>= fun o3 =>
  (σ.tC[c1]?) >>= fun o4 =>
  some ((), (σ.aS i2 (o3.1, y8 .str (.ptr ax) o4.1 o3.2.1, o3.2.2.1, o3.2.2.2.1, ())))

noncomputable def f37 (p0 : Option Nat) (p1 : List UInt8) (σ : St) : Option (Int × St) :=
  f77 p0 p1 ((σ.EP (p0, ())).LJ (p1, ())) >>= fun r4 =>
  if (r4.2 != 0) = true then
  some (r4.2, ((σ.EP (p0, ())).LJ (p1, ())))
  else
  f72 p0 (f81 σ.mG.length ((σ.EP (p0, ())).tC.length)) ((σ.EP (p0, ())).LJ (p1, ())) >>= fun r8 =>
  some (r8.1, r8.2)

noncomputable def vU (p0 : List UInt8) (x4 : Int) : Option (Sum Int Bool) :=
  if (decide (x4 < (p0.length : Int))) = true then
  if (0 : Int) ≤ x4 ∧ x4 < (p0.length : Int) then
  if (decide ((btS p0 x4) < 97)) = true then
  some (.inr false)
  else
  if (0 : Int) ≤ x4 ∧ x4 < (p0.length : Int) then
  if (decide ((btS p0 x4) > 122)) = true then
  some (.inr false)
  else
  vU p0 (IntKind.wrap .i64 (x4 + 1))
  else none
  else none
  else
  some (.inl x4)
  partial_fixpoint

noncomputable def f95 (p0 : List UInt8) : Option Bool :=
  vU p0 0 >>= fun rr19 => (match rr19 with
  | .inr yy => some yy
  | .inl z18 =>
  some ((decide ((p0.length : Int) ≥ 1)) && (decide ((p0.length : Int) ≤ 8))))

noncomputable def f97 (p0 : Option Nat) (σ : St) : Option (Option Nat) :=
  p0 >>= fun i4 =>
  (σ.ak[i4]?) >>= fun o5 =>
  if ((o5.2.2.2.1.length : Int) == 0) = true then
  some none
  else
  (ix o5.2.2.2.1 (IntKind.wrap .i64 ((o5.2.2.2.1.length : Int) - 1))) >>= fun x8 =>
  some x8

noncomputable def f55 (p0 : Option Nat) (σ : St) : Option Int :=
  if p0.isNone = true then
  some 0
  else
  p0 >>= fun i5 =>
  (σ.ak[i5]?) >>= fun o6 =>
  if ((o6.2.2.2.1.length : Int) == 0) = true then
  some 0
  else
  f97 p0 σ >>= fun r9 =>
  r9 >>= fun i11 =>
  (σ.ae[i11]?) >>= fun o12 =>
  some (IntKind.wrap .i64 (o12.1 + (o12.2.1.length : Int)))

noncomputable def f98 (p0 : Option Nat) (p1 : Option Nat) (σ : St) : Option (List UInt8) :=
  p0 >>= fun i3 =>
  (σ.ak[i3]?) >>= fun o4 =>
  if o4.2.1.length + [46].length ≤ 9223372036854775807 then
  p1 >>= fun i6 =>
  (σ.ae[i6]?) >>= fun o7 =>
  og o7.1 >>= fun r8 =>
  if (o4.2.1 ++ [46]).length + r8.length ≤ 9223372036854775807 then
  some ((o4.2.1 ++ [46]) ++ r8)
  else none
  else none

noncomputable def f61 (p0 : Option Nat) (σ : St) : Option (Int × St) :=
  if p0.isNone = true then
  some (1, σ)
  else
  f97 p0 σ >>= fun r7 =>
  if (!r7.isNone) = true then
  p0 >>= fun i10 =>
  (σ.ak[i10]?) >>= fun o11 =>
  f98 p0 r7 σ >>= fun r12 =>
  f33 o11.1 r12 σ >>= fun r13 =>
  if (r13.1 != 0) = true then
  some (r13.1, r13.2)
  else
  f55 p0 r13.2 >>= fun r17 =>
  (r13.2.ak[i10]?) >>= fun o18 =>
  some (0, (r13.2.bu i10 (o18.1, o18.2.1, o18.2.2.1, o18.2.2.2.1, r17, ())))
  else
  f55 p0 σ >>= fun r21 =>
  p0 >>= fun i22 =>
  (σ.ak[i22]?) >>= fun o23 =>
  some (0, (σ.bu i22 (o23.1, o23.2.1, o23.2.2.1, o23.2.2.2.1, r21, ())))

noncomputable def f110 (p0 : Int) : Option (List UInt8) :=
  some (cu [IntKind.wrap .u8 (p0), IntKind.wrap .u8 (Int.fdiv p0 (2 ^ 8)), IntKind.wrap .u8 (Int.fdiv p0 (2 ^ 16)), IntKind.wrap .u8 (Int.fdiv p0 (2 ^ 24))])

noncomputable def qI  (x5 : Int) (x6 : Int) : Option (Int × Int) :=
  if (decide (x6 < 8)) = true then
  if ((IntKind.wrap .u32 ((BitVec.ofInt (IntKind.bits .u32) x5 &&& BitVec.ofInt (IntKind.bits .u32) 1).toNat)) == 1) = true then
  qI (IntKind.wrap .u32 ((BitVec.ofInt (IntKind.bits .u32) (Int.fdiv x5 (2 ^ 1)) ^^^ BitVec.ofInt (IntKind.bits .u32) 2197175160).toNat)) (IntKind.wrap .i64 (x6 + 1))
  else
  qI (Int.fdiv x5 (2 ^ 1)) (IntKind.wrap .i64 (x6 + 1))
  else
  some ((x5, x6))
  partial_fixpoint

noncomputable def f151 (p0 : Int) (p1 : Int) : Option Int :=
  qI  (IntKind.wrap .u32 ((BitVec.ofInt (IntKind.bits .u32) p0 ^^^ BitVec.ofInt (IntKind.bits .u32) (IntKind.wrap .u32 (p1))).toNat)) 0 >>= fun z17 =>
  some z17.1

noncomputable def wH (p1 : List UInt8) (x5 : Int) (x6 : Int) : Option (Int × Int) :=
  if (decide (x6 < (p1.length : Int))) = true then
  if (0 : Int) ≤ x6 ∧ x6 < (p1.length : Int) then
  f151 x5 (btS p1 x6) >>= fun r16 =>
  wH p1 r16 (IntKind.wrap .i64 (x6 + 1))
  else none
  else
  some ((x5, x6))
  partial_fixpoint

noncomputable def f138 (p0 : Int) (p1 : List UInt8) : Option Int :=
  wH p1 (IntKind.wrap .u32 ((BitVec.ofInt (IntKind.bits .u32) (if IntKind.signed .u32 = true then -1 else IntKind.max .u32) ^^^ BitVec.ofInt (IntKind.bits .u32) p0).toNat)) 0 >>= fun z17 =>
  some (IntKind.wrap .u32 ((BitVec.ofInt (IntKind.bits .u32) (if IntKind.signed .u32 = true then -1 else IntKind.max .u32) ^^^ BitVec.ofInt (IntKind.bits .u32) z17.1).toNat))

noncomputable def f111 (p0 : List UInt8) : Option Int :=
  f138 0 p0 >>= fun r3 =>
  some r3

noncomputable def f108 (p0 : List UInt8) : Option ((List UInt8) × Int) :=
  if (decide ((IntKind.wrap .i64 ((p0.length : Int) - 4)) < 0)) = true then
  some ([], 5)
  else
  if (0 : Int) ≤ (IntKind.wrap .i64 ((p0.length : Int) - 4)) ∧ (IntKind.wrap .i64 ((p0.length : Int) - 4)) ≤ (p0.length : Int) then
  f111 (p0.take (Int.toNat (IntKind.wrap .i64 ((p0.length : Int) - 4)))) >>= fun r8 =>
  f110 r8 >>= fun r9 =>
  if (0 : Int) ≤ (IntKind.wrap .i64 ((p0.length : Int) - 4)) ∧ (IntKind.wrap .i64 ((p0.length : Int) - 4)) ≤ (p0.length : Int) then
  if (!(r9 == (p0.drop (Int.toNat (IntKind.wrap .i64 ((p0.length : Int) - 4)))))) = true then
  some ([], 7)
  else
  if (0 : Int) ≤ (IntKind.wrap .i64 ((p0.length : Int) - 4)) ∧ (IntKind.wrap .i64 ((p0.length : Int) - 4)) ≤ (p0.length : Int) then
  some (p0.take (Int.toNat (IntKind.wrap .i64 ((p0.length : Int) - 4))), 0)
  else none
  else none
  else none

noncomputable def pg (p0 : List UInt8) (p1 : Int) (x8 : Int) (x9 : Int) : Option (Sum (Int × Int) (Int × Int × Int)) :=
  if (decide ((IntKind.wrap .i64 (p1 + x9)) < (p0.length : Int))) = true then
  if (0 : Int) ≤ (IntKind.wrap .i64 (p1 + x9)) ∧ (IntKind.wrap .i64 (p1 + x9)) < (p0.length : Int) then
  if ((x9 == 9) && (decide ((btS p0 (IntKind.wrap .i64 (p1 + x9))) > 1))) = true then
  some (.inr (0, 0, 6))
  else
  if (0 : Int) ≤ (IntKind.wrap .i64 (7 * x9)) then
  if (decide ((btS p0 (IntKind.wrap .i64 (p1 + x9))) ≥ 128)) = true then
  pg p0 p1 (IntKind.wrap .u64 ((BitVec.ofInt (IntKind.bits .u64) x8 ||| BitVec.ofInt (IntKind.bits .u64) (IntKind.wrap .u64 ((IntKind.wrap .u64 (IntKind.wrap .u8 ((BitVec.ofInt (IntKind.bits .u8) (btS p0 (IntKind.wrap .i64 (p1 + x9))) &&& BitVec.ofInt (IntKind.bits .u8) 127).toNat))) * 2 ^ (min (Int.toNat (IntKind.wrap .i64 (7 * x9))) (IntKind.bits .u64))))).toNat)) (IntKind.wrap .i64 (x9 + 1))
  else
  if (((btS p0 (IntKind.wrap .i64 (p1 + x9))) == 0) && (decide (x9 > 0))) = true then
  some (.inr (0, 0, 6))
  else
  (if ((IntKind.wrap .u64 ((BitVec.ofInt (IntKind.bits .u64) (IntKind.wrap .u64 ((BitVec.ofInt (IntKind.bits .u64) x8 ||| BitVec.ofInt (IntKind.bits .u64) (IntKind.wrap .u64 ((IntKind.wrap .u64 (IntKind.wrap .u8 ((BitVec.ofInt (IntKind.bits .u8) (btS p0 (IntKind.wrap .i64 (p1 + x9))) &&& BitVec.ofInt (IntKind.bits .u8) 127).toNat))) * 2 ^ (min (Int.toNat (IntKind.wrap .i64 (7 * x9))) (IntKind.bits .u64))))).toNat)) &&& BitVec.ofInt (IntKind.bits .u64) 1).toNat)) == 1) = true then
  some (IntKind.wrap .i64 ((BitVec.ofInt (IntKind.bits .i64) (if IntKind.signed .i64 = true then -1 else IntKind.max .i64) ^^^ BitVec.ofInt (IntKind.bits .i64) (IntKind.wrap .i64 (Int.fdiv (IntKind.wrap .u64 ((BitVec.ofInt (IntKind.bits .u64) x8 ||| BitVec.ofInt (IntKind.bits .u64) (IntKind.wrap .u64 ((IntKind.wrap .u64 (IntKind.wrap .u8 ((BitVec.ofInt (IntKind.bits .u8) (btS p0 (IntKind.wrap .i64 (p1 + x9))) &&& BitVec.ofInt (IntKind.bits .u8) 127).toNat))) * 2 ^ (min (Int.toNat (IntKind.wrap .i64 (7 * x9))) (IntKind.bits .u64))))).toNat)) (2 ^ 1)))).toNat))
  else
  some (IntKind.wrap .i64 (Int.fdiv (IntKind.wrap .u64 ((BitVec.ofInt (IntKind.bits .u64) x8 ||| BitVec.ofInt (IntKind.bits .u64) (IntKind.wrap .u64 ((IntKind.wrap .u64 (IntKind.wrap .u8 ((BitVec.ofInt (IntKind.bits .u8) (btS p0 (IntKind.wrap .i64 (p1 + x9))) &&& BitVec.ofInt (IntKind.bits .u8) 127).toNat))) * 2 ^ (min (Int.toNat (IntKind.wrap .i64 (7 * x9))) (IntKind.bits .u64))))).toNat)) (2 ^ 1))) : Option Int) >>= fun z33 =>
  some (.inr (z33, IntKind.wrap .i64 ((IntKind.wrap .i64 (p1 + x9)) + 1), 0))
  else none
  else none
  else
  some (.inl (x8, x9))
  partial_fixpoint

noncomputable def f113 (p0 : List UInt8) (p1 : Int) : Option (Int × Int × Int) :=
  if ((decide (p1 < 0)) || (decide (p1 > (p0.length : Int)))) = true then
  some (0, 0, 3)
  else
  pg p0 p1 0 0 >>= fun rr37 => (match rr37 with
  | .inr yy => some yy
  | .inl z36 =>
  some (0, 0, 5))

noncomputable def BH  (y12 : jZ.den) (x13 : Int) (x14 : Int) : Option (jZ.den × Int × Int) :=
  if (decide (x13 ≥ 128)) = true then
  if (0 : Int) ≤ x14 ∧ x14 < (10 : Nat) then
  BH (zh jZ y12 (Int.toNat x14) (IntKind.wrap .u8 ((BitVec.ofInt (IntKind.bits .u8) (IntKind.wrap .u8 (x13)) ||| BitVec.ofInt (IntKind.bits .u8) 128).toNat))) (Int.fdiv x13 (2 ^ 7)) (IntKind.wrap .i64 (x14 + 1))
  else none
  else
  some ((y12, x13, x14))
  partial_fixpoint

noncomputable def f90 (p0 : Int) : Option (List UInt8) :=
  (if (decide (p0 < 0)) = true then
  some (IntKind.wrap .u64 ((BitVec.ofInt (IntKind.bits .u64) (if IntKind.signed .u64 = true then -1 else IntKind.max .u64) ^^^ BitVec.ofInt (IntKind.bits .u64) (IntKind.wrap .u64 ((IntKind.wrap .u64 (p0)) * 2 ^ 1))).toNat))
  else
  some (IntKind.wrap .u64 ((IntKind.wrap .u64 (p0)) * 2 ^ 1)) : Option Int) >>= fun z6 =>
  BH  (0, 0, 0, 0, 0, 0, 0, 0, 0, 0, ()) z6 0 >>= fun z24 =>
  if (0 : Int) ≤ z24.2.2 ∧ z24.2.2 < (10 : Nat) then
  if (0 : Int) ≤ (IntKind.wrap .i64 (z24.2.2 + 1)) ∧ (IntKind.wrap .i64 (z24.2.2 + 1)) ≤ (10 : Nat) then
  some (cu ((Aj jZ (zh jZ z24.1 (Int.toNat z24.2.2) (IntKind.wrap .u8 (z24.2.1)))).take (Int.toNat (IntKind.wrap .i64 (z24.2.2 + 1)))))
  else none
  else none

noncomputable def f94 (p0 : List UInt8) (p1 : Int) (p2 : Int) : Option ((List UInt8) × Int × Bool) :=
  f113 p0 p1 >>= fun r3 =>
  if (((r3.2.2 != 0) || (decide (r3.1 < 0))) || (decide (r3.1 > (IntKind.wrap .i64 ((p0.length : Int) - r3.2.1))))) = true then
  some ([], 0, false)
  else
  if (0 : Int) ≤ r3.2.1 ∧ r3.2.1 ≤ (IntKind.wrap .i64 (r3.2.1 + r3.1)) ∧ (IntKind.wrap .i64 (r3.2.1 + r3.1)) ≤ (p0.length : Int) then
  f108 ((p0.take (Int.toNat (IntKind.wrap .i64 (r3.2.1 + r3.1)))).drop (Int.toNat r3.2.1)) >>= fun r9 =>
  if (r9.2 != 0) = true then
  some ([], 0, false)
  else
  f90 p2 >>= fun r14 =>
  if (decide ((r9.1.length : Int) < (r14.length : Int))) = true then
  some ([], 0, false)
  else
  if (0 : Int) ≤ (r14.length : Int) ∧ (r14.length : Int) ≤ (r9.1.length : Int) then
  if ((!((r9.1.take (Int.toNat (r14.length : Int))) == r14)) || (decide ((IntKind.wrap .i64 ((r9.1.length : Int) - (r14.length : Int))) > 1024))) = true then
  some ([], 0, false)
  else
  if (0 : Int) ≤ (r14.length : Int) ∧ (r14.length : Int) ≤ (r9.1.length : Int) then
  some (r9.1.drop (Int.toNat (r14.length : Int)), IntKind.wrap .i64 (r3.2.1 + r3.1), true)
  else none
  else none
  else none

noncomputable def zT (p0 : List UInt8) (p1 : Int) (l7 : List (List UInt8)) (x8 : Int) : Option ((List (List UInt8)) × Int) :=
  if (decide (p1 ≥ 0)) = true then
  f94 p0 x8 (IntKind.wrap .i64 (p1 + (l7.length : Int))) >>= fun r16 =>
  if (!r16.2.2) = true then
  some ((l7, x8))
  else
  if (l7.length + 1) * 16 ≤ 140737488355328 then
  zT p0 p1 (l7 ++ [r16.1]) r16.2.1
  else none
  else
  some ((l7, x8))
  partial_fixpoint

noncomputable def f49 (p0 : List UInt8) (p1 : Int) : Option ((List (List UInt8)) × Int) :=
  zT p0 p1 [] 0 >>= fun z22 =>
  some (z22.1, z22.2)

noncomputable def f115 (p0 : Option Nat) (p1 : Int) (σ : St) : Option (((Option Nat) × Int × Int) × St) :=
  p0 >>= fun i4 =>
  ((σ.az (p1, [], 0, ())).ak[i4]?) >>= fun o5 =>
  f98 p0 (some σ.ae.length) (σ.az (p1, [], 0, ())) >>= fun r6 =>
  f28 o5.1 r6 (σ.az (p1, [], 0, ())) >>= fun r7 =>
  if (r7.2 != 0) = true then
  some ((none, 0, r7.2), (σ.az (p1, [], 0, ())))
  else
  f49 r7.1 p1 >>= fun r12 =>
  some ((some σ.ae.length, IntKind.wrap .i64 ((r7.1.length : Int) - r12.2), 0), (((σ.az (p1, [], 0, ())).ay σ.ae.length (p1, r12.1, 0, ())).ay σ.ae.length (p1, r12.1, r12.2, ())))

noncomputable def rC (p0 : Option Nat) (r3 : List Int) (x7 : Int) (x8 : Int) (x9 : Int) (σ10 : St) : Option (Sum (Int × Int × Int × St) (Int × St)) :=
  if (decide (x9 < (r3.length : Int))) = true then
  (ix r3 x9) >>= fun x19 =>
  if (decide (x9 > 0)) = true then
  if (decide (x7 > 0)) = true then
  some (.inl (x7, x8, x9, σ10))
  else
  f55 p0 σ10 >>= fun r22 =>
  if (x19 != r22) = true then
  some (.inl (x7, x8, x9, σ10))
  else
  f115 p0 x19 σ10 >>= fun r24 =>
  if (r24.1.2.2 != 0) = true then
  some (.inr (r24.1.2.2, r24.2))
  else
  p0 >>= fun i29 =>
  (r24.2.ak[i29]?) >>= fun o30 =>
  if (o30.2.2.2.1.length + 1) * 8 ≤ 140737488355328 then
  rC p0 r3 r24.1.2.1 (IntKind.wrap .i64 (x9 + 1)) (IntKind.wrap .i64 (x9 + 1)) (r24.2.bu i29 (o30.1, o30.2.1, o30.2.2.1, o30.2.2.2.1 ++ [r24.1.1], o30.2.2.2.2.1, ()))
  else none
  else
  f115 p0 x19 σ10 >>= fun r35 =>
  if (r35.1.2.2 != 0) = true then
  some (.inr (r35.1.2.2, r35.2))
  else
  p0 >>= fun i40 =>
  (r35.2.ak[i40]?) >>= fun o41 =>
  if (o41.2.2.2.1.length + 1) * 8 ≤ 140737488355328 then
  rC p0 r3 r35.1.2.1 (IntKind.wrap .i64 (x9 + 1)) (IntKind.wrap .i64 (x9 + 1)) (r35.2.bu i40 (o41.1, o41.2.1, o41.2.2.1, o41.2.2.2.1 ++ [r35.1.1], o41.2.2.2.2.1, ()))
  else none
  else
  some (.inl (x7, x8, x9, σ10))
  partial_fixpoint

noncomputable def BI (p0 : Option Nat) (r3 : List Int) (z45 : Int × Int × Int × St) (o49 : aA dD) (x52 : Int) (σ53 : St) : Option (Sum (Int × St) (Int × St)) :=
  if (decide (x52 ≥ z45.2.1)) = true then
  (ix r3 x52) >>= fun x62 =>
  f98 p0 (some σ53.ae.length) (σ53.az (x62, [], 0, ())) >>= fun r63 =>
  f37 o49.1 r63 (σ53.az (x62, [], 0, ())) >>= fun r64 =>
  if (r64.1 != 0) = true then
  some (.inr (r64.1, r64.2))
  else
  BI p0 r3 z45 o49 (IntKind.wrap .i64 (x52 - 1)) r64.2
  else
  some (.inl (x52, σ53))
  partial_fixpoint

noncomputable def f96 (p0 : Option Nat) (σ : St) : Option (Int × St) :=
  jq p0 σ >>= fun r3 =>
  rC p0 r3 0 0 0 σ >>= fun rr46 => (match rr46 with
  | .inr yy => some yy
  | .inl z45 =>
  p0 >>= fun i48 =>
  (z45.2.2.2.ak[i48]?) >>= fun o49 =>
  BI p0 r3 z45 o49 (IntKind.wrap .i64 ((r3.length : Int) - 1)) z45.2.2.2 >>= fun rr68 => (match rr68 with
  | .inr yy => some yy
  | .inl z67 =>
  if (z45.2.1 == 0) = true then
  some (0, z67.2)
  else
  p0 >>= fun i73 =>
  (z67.2.ak[i73]?) >>= fun o74 =>
  (ix o74.2.2.2.1 (IntKind.wrap .i64 (z45.2.1 - 1))) >>= fun x75 =>
  if (decide (z45.1 > 0)) = true then
  f98 p0 x75 z67.2 >>= fun r79 =>
  x75 >>= fun i80 =>
  (z67.2.ae[i80]?) >>= fun o81 =>
  f35 o74.1 r79 o81.2.2.1 z67.2 >>= fun r82 =>
  if (r82.1 != 0) = true then
  some (r82.1, r82.2)
  else
  f61 p0 r82.2 >>= fun r86 =>
  some (r86.1, r86.2)
  else
  f61 p0 z67.2 >>= fun r88 =>
  some (r88.1, r88.2)))

noncomputable def f53 (p0 : Option Nat) (p1 : List UInt8) (p2 : Int) (σ : St) : Option (((Option Nat) × Int) × St) :=
  if p0.isNone = true then
  some ((none, 1), σ)
  else
  f95 p1 >>= fun r6 =>
  if (((!r6) || (decide (p2 < 64))) || (decide (p2 > 65536))) = true then
  some ((none, 2), σ)
  else
  f31 p0 σ >>= fun r9 =>
  if r9 = true then
  some ((none, 11), σ)
  else
  f96 (some σ.ak.length) (σ.iG (p0, p1, p2, [], 0, ())) >>= fun r15 =>
  if (r15.1 != 0) = true then
  some ((none, r15.1), r15.2)
  else
  some ((some σ.ak.length, 0), r15.2)

noncomputable def f54 (p0 : Option Nat) (σ : St) : Option Int :=
  if p0.isNone = true then
  some 0
  else
  p0 >>= fun i5 =>
  (σ.ak[i5]?) >>= fun o6 =>
  if ((o6.2.2.2.1.length : Int) == 0) = true then
  some 0
  else
  (ix o6.2.2.2.1 0) >>= fun x9 =>
  x9 >>= fun i10 =>
  (σ.ae[i10]?) >>= fun o11 =>
  some o11.1

noncomputable def zU (p0 : Option Nat) (p1 : Int) (σ : St) (x15 : Int) : Option Int :=
  p0 >>= fun i22 =>
  (σ.ak[i22]?) >>= fun o23 =>
  (ix o23.2.2.2.1 x15) >>= fun x24 =>
  x24 >>= fun i25 =>
  (σ.ae[i25]?) >>= fun o26 =>
  if (decide (o26.1 > p1)) = true then
  zU p0 p1 σ (IntKind.wrap .i64 (x15 - 1))
  else
  some (x15)
  partial_fixpoint

noncomputable def f58 (p0 : Option Nat) (p1 : Int) (σ : St) : Option ((List UInt8) × Int) :=
  if p0.isNone = true then
  some ([], 1)
  else
  f54 p0 σ >>= fun r6 =>
  if (decide (p1 < r6)) = true then
  some ([], 13)
  else
  f55 p0 σ >>= fun r9 =>
  if (decide (p1 ≥ r9)) = true then
  some ([], 8)
  else
  p0 >>= fun i12 =>
  (σ.ak[i12]?) >>= fun o13 =>
  zU p0 p1 σ (IntKind.wrap .i64 ((o13.2.2.2.1.length : Int) - 1)) >>= fun z27 =>
  p0 >>= fun i30 =>
  (σ.ak[i30]?) >>= fun o31 =>
  (ix o31.2.2.2.1 z27) >>= fun x32 =>
  x32 >>= fun i33 =>
  (σ.ae[i33]?) >>= fun o34 =>
  (ix o31.2.2.2.1 z27) >>= fun x35 =>
  x35 >>= fun i36 =>
  (σ.ae[i36]?) >>= fun o37 =>
  (ix o34.2.1 (IntKind.wrap .i64 (p1 - o37.1))) >>= fun x38 =>
  some (x38, 0)

noncomputable def f89 (p0 : List UInt8) : Option (List UInt8) :=
  f111 p0 >>= fun r3 =>
  f110 r3 >>= fun r4 =>
  if p0.length + r4.length ≤ 9223372036854775807 then
  some (p0 ++ r4)
  else none

noncomputable def f99 (p0 : Int) (p1 : List UInt8) : Option (List UInt8) :=
  f90 p0 >>= fun r3 =>
  if r3.length + p1.length ≤ 9223372036854775807 then
  f89 (r3 ++ p1) >>= fun r5 =>
  f90 (r5.length : Int) >>= fun r7 =>
  if r7.length + r5.length ≤ 9223372036854775807 then
  some (r7 ++ r5)
  else none
  else none

noncomputable def f59 (p0 : Option Nat) (p1 : List UInt8) (σ : St) : Option ((Int × Int) × St) :=
  if p0.isNone = true then
  some ((0, 1), σ)
  else
  if (decide ((p1.length : Int) > 1024)) = true then
  some ((0, 4), σ)
  else
  f55 p0 σ >>= fun r8 =>
  f97 p0 σ >>= fun r10 =>
  if r10.isNone = true then
  f61 p0 σ >>= fun r17 =>
  if (r17.1 != 0) = true then
  some ((0, r17.1), r17.2)
  else
  f99 r8 p1 >>= fun r21 =>
  p0 >>= fun i24 =>
  ((r17.2.az (r8, [], 0, ())).ak[i24]?) >>= fun o25 =>
  f98 p0 (some r17.2.ae.length) (r17.2.az (r8, [], 0, ())) >>= fun r26 =>
  f24 o25.1 r26 r21 (r17.2.az (r8, [], 0, ())) >>= fun r27 =>
  if (r27.1 != 0) = true then
  some ((0, r27.1), r27.2)
  else
  (r27.2.ae[r17.2.ae.length]?) >>= fun o31 =>
  if (o31.2.1.length + 1) * 16 ≤ 140737488355328 then
  (((r27.2.ay r17.2.ae.length (o31.1, o31.2.1 ++ [p1], o31.2.2.1, ())).ay r17.2.ae.length (o31.1, (o31.2.1 ++ [p1]), IntKind.wrap .i64 (o31.2.2.1 + (r21.length : Int)), ())).ak[i24]?) >>= fun o38 =>
  if (o38.2.2.2.1.length + 1) * 8 ≤ 140737488355328 then
  some ((r8, 0), (((r27.2.ay r17.2.ae.length (o31.1, o31.2.1 ++ [p1], o31.2.2.1, ())).ay r17.2.ae.length (o31.1, (o31.2.1 ++ [p1]), IntKind.wrap .i64 (o31.2.2.1 + (r21.length : Int)), ())).bu i24 (o38.1, o38.2.1, o38.2.2.1, o38.2.2.2.1 ++ [some r17.2.ae.length], o38.2.2.2.2.1, ())))
  else none
  else none
  else
  r10 >>= fun i44 =>
  (σ.ae[i44]?) >>= fun o45 =>
  p0 >>= fun i46 =>
  (σ.ak[i46]?) >>= fun o47 =>
  if (decide (o45.2.2.1 ≥ o47.2.2.1)) = true then
  f61 p0 σ >>= fun r52 =>
  if (r52.1 != 0) = true then
  some ((0, r52.1), r52.2)
  else
  f99 r8 p1 >>= fun r56 =>
  ((r52.2.az (r8, [], 0, ())).ak[i46]?) >>= fun o59 =>
  f98 p0 (some r52.2.ae.length) (r52.2.az (r8, [], 0, ())) >>= fun r60 =>
  f24 o59.1 r60 r56 (r52.2.az (r8, [], 0, ())) >>= fun r61 =>
  if (r61.1 != 0) = true then
  some ((0, r61.1), r61.2)
  else
  (r61.2.ae[r52.2.ae.length]?) >>= fun o65 =>
  if (o65.2.1.length + 1) * 16 ≤ 140737488355328 then
  (if (decide (o45.2.2.1 ≥ o47.2.2.1)) = true then
  (((r61.2.ay r52.2.ae.length (o65.1, o65.2.1 ++ [p1], o65.2.2.1, ())).ay r52.2.ae.length (o65.1, (o65.2.1 ++ [p1]), IntKind.wrap .i64 (o65.2.2.1 + (r56.length : Int)), ())).ak[i46]?) >>= fun o76 =>
  if (o76.2.2.2.1.length + 1) * 8 ≤ 140737488355328 then
  some (((r61.2.ay r52.2.ae.length (o65.1, o65.2.1 ++ [p1], o65.2.2.1, ())).ay r52.2.ae.length (o65.1, (o65.2.1 ++ [p1]), IntKind.wrap .i64 (o65.2.2.1 + (r56.length : Int)), ())).bu i46 (o76.1, o76.2.1, o76.2.2.1, o76.2.2.2.1 ++ [some r52.2.ae.length], o76.2.2.2.2.1, ()))
  else none
  else
  some ((r61.2.ay r52.2.ae.length (o65.1, o65.2.1 ++ [p1], o65.2.2.1, ())).ay r52.2.ae.length (o65.1, (o65.2.1 ++ [p1]), IntKind.wrap .i64 (o65.2.2.1 + (r56.length : Int)), ())) : Option St) >>= fun z73 =>
  some ((r8, 0), z73)
  else none
  else
  f99 r8 p1 >>= fun r81 =>
  f98 p0 r10 σ >>= fun r84 =>
  f24 o47.1 r84 r81 σ >>= fun r85 =>
  if (r85.1 != 0) = true then
  some ((0, r85.1), r85.2)
  else
  (r85.2.ae[i44]?) >>= fun o89 =>
  if (o89.2.1.length + 1) * 16 ≤ 140737488355328 then
  (if (decide (o45.2.2.1 ≥ o47.2.2.1)) = true then
  (((r85.2.ay i44 (o89.1, o89.2.1 ++ [p1], o89.2.2.1, ())).ay i44 (o89.1, (o89.2.1 ++ [p1]), IntKind.wrap .i64 (o89.2.2.1 + (r81.length : Int)), ())).ak[i46]?) >>= fun o100 =>
  if (o100.2.2.2.1.length + 1) * 8 ≤ 140737488355328 then
  some (((r85.2.ay i44 (o89.1, o89.2.1 ++ [p1], o89.2.2.1, ())).ay i44 (o89.1, (o89.2.1 ++ [p1]), IntKind.wrap .i64 (o89.2.2.1 + (r81.length : Int)), ())).bu i46 (o100.1, o100.2.1, o100.2.2.1, o100.2.2.2.1 ++ [r10], o100.2.2.2.2.1, ()))
  else none
  else
  some ((r85.2.ay i44 (o89.1, o89.2.1 ++ [p1], o89.2.2.1, ())).ay i44 (o89.1, (o89.2.1 ++ [p1]), IntKind.wrap .i64 (o89.2.2.1 + (r81.length : Int)), ())) : Option St) >>= fun z97 =>
  some ((r8, 0), z97)
  else none

end Go.Proofs.YtbnmhjobnepajaaGreat.M

