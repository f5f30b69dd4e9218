/- Own texts, laid together: PH HU HL PN HF HD PT0 PT1 PT2 CP CQ PV0. -/
import Derived.KernelRfl
import Derived.Shelf.Slices.In.SortNone
import Derived.Shelf.Sort.Plain
import Derived.Sort.KeysCollected
import Derived.Test.YtbnmhjobnepajaaGreatProg
import Derived.Test.YtbnmhjobnepajaaGreatZ1
import Derived.Test.YtbnmhjobnepajaaGreatZ2
import Derived.Test.YtbnmhjobnepajaaGreatZ3
set_option linter.unusedVariables false
set_option linter.unusedSimpArgs false
set_option maxRecDepth 100000
namespace Go.Proofs.YtbnmhjobnepajaaGreat.M
open Go.Proofs
abbrev OB : Nat := 100023
abbrev Um : Nat := 100027
abbrev Sv : Nat := 100003
abbrev Sz : Nat := 100009
abbrev EC : Nat := 100091
abbrev ja : Nat := 126
abbrev di : Nat := 67
abbrev au : Nat := 93
abbrev bn : Nat := 69
abbrev Aw : Nat := 48
abbrev jl : Nat := 77
abbrev kZ : Nat := 82
abbrev jw : Kd := .pair (.int .u8) (.pair (.int .u8) (.pair (.int .u8) (.pair (.int .u8) (.pair (.int .u8) (.pair (.int .u8) (.pair (.int .u8) (.pair (.int .u8) (.pair (.int .u8) (.pair (.int .u8) (.unit))))))))))
abbrev jk : Kd := .pair .i (.pair .i (.pair .str (.pair .i (.pair (.list .i) (.pair .i (.unit))))))
abbrev Jm : Kd := .pair .str (.pair .i (.pair .i (.unit)))
abbrev aS : Kd := .pair .i (.pair .i (.unit))
abbrev P5 : Kd := .pair .str (.pair .i (.unit))
abbrev bD : Kd := .pair .i (.pair .i (.pair jk (.pair (.list aS) (.pair (.list .i) (.unit)))))
abbrev Ar : Kd := .pair .i (.pair (.list jk) (.pair (.list aS) (.unit)))
abbrev nG : List Fk := [.p .i, .p (.list jk), .p (.list aS)]
abbrev dM : List Fk := [.p .i, .omap .str (.ptr au), .p .i, .p .bool]
abbrev uk : List Fk := [.p .i, .p (.ptr jl), .own 33 72 jk, .own 58 16 aS]
abbrev dh : List Fk := [.p (.ptr di), .p .str, .p .i, .own 78 8 (.ptr kZ), .p .i]
abbrev dN : List Fk := [.p .i, .own 9 16 .str, .p .i]
abbrev eH : List Fk := [.p .str, .p .i]
abbrev jB : List Fk := [.p .str, .p .i, .p .i]
abbrev EZ : List Fk := [.p .i]
abbrev IX : List Fk := [.p .str]
abbrev EY : List Fk := [.p (.ptr di)]
abbrev J5 : List Fk := [.p (.ptr bn)]
abbrev wX : List Fk := [.p (.ptr au)]
structure St where
  aH : List (az nG)
  af : List (az dM)
  ah : List (az uk)
  aj : List (az dh)
  ae : List (az dN)
  ai : List (az eH)
  ak : List (az jB)
  gJ : List (az EZ)
  qV : List (az IX)
  kW : List (az EY)
  bu : List (az J5)
  aF : List (az wX)
noncomputable def St.zT (σ : St) (ys : List (az nG)) : St := { σ with aH := ys }
noncomputable def St.bF (σ : St) (ys : List (az dM)) : St := { σ with af := ys }
noncomputable def St.bP (σ : St) (ys : List (az uk)) : St := { σ with ah := ys }
noncomputable def St.oN (σ : St) (ys : List (az dh)) : St := { σ with aj := ys }
noncomputable def St.aX (σ : St) (ys : List (az dN)) : St := { σ with ae := ys }
noncomputable def St.fE (σ : St) (ys : List (az eH)) : St := { σ with ai := ys }
noncomputable def St.bg (σ : St) (ys : List (az jB)) : St := { σ with ak := ys }
noncomputable def St.xB (σ : St) (ys : List (az EZ)) : St := { σ with gJ := ys }
noncomputable def St.F7 (σ : St) (ys : List (az IX)) : St := { σ with qV := ys }
noncomputable def St.CW (σ : St) (ys : List (az EY)) : St := { σ with kW := ys }
noncomputable def St.lV (σ : St) (ys : List (az J5)) : St := { σ with bu := ys }
noncomputable def St.iW (σ : St) (ys : List (az wX)) : St := { σ with aF := ys }
noncomputable def TB : List (TbI St) := [⟨Aw, nG, St.aH, St.zT⟩, ⟨di, dM, St.af, St.bF⟩, ⟨bn, uk, St.ah, St.bP⟩, ⟨jl, dh, St.aj, St.oN⟩, ⟨kZ, dN, St.ae, St.aX⟩, ⟨au, eH, St.ai, St.fE⟩, ⟨ja, jB, St.ak, St.bg⟩, ⟨Sv, EZ, St.gJ, St.xB⟩, ⟨Sz, IX, St.qV, St.F7⟩, ⟨OB, EY, St.kW, St.CW⟩, ⟨Um, J5, St.bu, St.lV⟩, ⟨EC, wX, St.aF, St.iW⟩]
theorem aV : qg TB := by
  simp only [qg, TB, List.forall_mem_cons, List.not_mem_nil, false_implies, implies_true, and_true]
  refine ⟨?_, ?_, ?_, ?_, ?_, ?_, ?_, ?_, ?_, ?_, ?_, ?_⟩ <;> (intro σ ys; refine ⟨rfl, ?_, ?_, ?_, ?_, ?_, ?_, ?_, ?_, ?_, ?_, ?_, ?_⟩ <;> first | (intro h; rfl) | (intro h; exact absurd rfl h))
noncomputable def KLs : List (Nat × Kd) := [(3, .i), (5, (.int .u8)), (9, .str), (33, jk), (36, bD), (48, Ar), (58, aS), (78, (.ptr kZ)), (93, P5), (126, Jm), (144, jw)]
noncomputable def MLs : List (Nat × Kd × Kd) := [(65, .str, (.ptr au))]
theorem wu {σ : St} {i : Nat} {x : az dM} (h : σ.af[i]? = some x) : og (aU TB σ) di i dM x := ⟨_, rfl, h⟩
theorem Ej {σ : St} {i : Nat} {x : az dh} (h : σ.aj[i]? = some x) : og (aU TB σ) jl i dh x := ⟨_, rfl, h⟩
theorem PE {σ : St} {i : Nat} {x : az eH} (h : σ.ai[i]? = some x) : og (aU TB σ) au i eH x := ⟨_, rfl, h⟩
end Go.Proofs.YtbnmhjobnepajaaGreat.M


set_option maxRecDepth 100000
namespace Go.Proofs.YtbnmhjobnepajaaGreat.M
open Go.Proofs

theorem Gone.len {kk kv : Kd} {es : List MapEntry} {m done : List (kk.den × kv.den)} {seen : List Nat} (h : Gone es m seen done) : seen.length ≤ es.length := by
  obtain ⟨is, h1, rfl, rfl, h4⟩ := h
  rw [List.length_map]
  have := List.Nodup.length_le_of_subset h1 (l₂ := List.range es.length) (fun i hi => by simpa using h4 i hi)
  simpa using this

theorem wrap_wrap (x y : Int) : IntKind.wrap .i64 (IntKind.wrap .i64 x + y) = IntKind.wrap .i64 (x + y) := by
  rw [IntKind.wrap_i64, IntKind.wrap_i64, IntKind.wrap_i64]; omega

noncomputable def Ae : List (List UInt8 × Option Nat) → St → Option Nat
  | [], _ => some 0
  | (_, v) :: r, σ => v >>= fun i => σ.ai[i]? >>= fun o => Ae r σ >>= fun n => some (o.1.length + n)

theorem mQ {p : List UInt8 × Option Nat} {r : List (List UInt8 × Option Nat)} {σ : St} {n : Nat} : Ae (p :: r) σ = some n ↔ ∃ i o q, p.2 = some i ∧ σ.ai[i]? = some o ∧ Ae r σ = some q ∧ n = o.1.length + q := by
  obtain ⟨k, v⟩ := p
  constructor
  · intro h
    obtain ⟨i, hi, h⟩ := bs h
    obtain ⟨o, ho, h⟩ := bs h
    obtain ⟨q, hq, h⟩ := bs h
    simp only [Option.some.injEq] at h
    exact ⟨i, o, q, hi, ho, hq, h.symm⟩
  · rintro ⟨i, o, q, h1, h2, h3, rfl⟩
    simp only at h1
    simp [Ae, h1, h2, h3]

theorem Eu {σ : St} {l l' : List (List UInt8 × Option Nat)} (h : l.Perm l') : ∀ {n : Nat}, Ae l σ = some n → Ae l' σ = some n := by
  induction h with
  | nil => exact fun h => h
  | cons p _ ih =>
    intro n hn
    obtain ⟨i, o, q, h1, h2, h3, rfl⟩ := mQ.1 hn
    exact mQ.2 ⟨i, o, q, h1, h2, ih h3, rfl⟩
  | swap p q r =>
    intro n hn
    obtain ⟨i, o, n1, h1, h2, h3, rfl⟩ := mQ.1 hn
    obtain ⟨j, u, n2, k1, k2, k3, rfl⟩ := mQ.1 h3
    exact mQ.2 ⟨j, u, _, k1, k2, mQ.2 ⟨i, o, _, h1, h2, k3, rfl⟩, by omega⟩
  | trans _ _ ih1 ih2 => exact fun hn => ih2 (ih1 hn)

theorem Ug {σ : St} {p : List UInt8 × Option Nat} {i : Nat} {o : az eH} (h1 : p.2 = some i) (h2 : σ.ai[i]? = some o) : ∀ {l : List (List UInt8 × Option Nat)} {n : Nat}, Ae l σ = some n → Ae (l ++ [p]) σ = some (n + o.1.length) := by
  intro l n h
  refine Eu (List.perm_append_comm (l₁ := [p]) (l₂ := l)) ?_
  exact mQ.2 ⟨i, o, n, h1, h2, h, by omega⟩

theorem Oe {σ : St} {p : List UInt8 × Option Nat} : ∀ {l : List (List UInt8 × Option Nat)} {n : Nat}, Ae l σ = some n → p ∈ l → ∃ i o, p.2 = some i ∧ σ.ai[i]? = some o
  | q :: l, n, h, hp => by
    obtain ⟨i, o, q', h1, h2, h3, rfl⟩ := mQ.1 h
    rcases List.mem_cons.1 hp with rfl | hp
    · exact ⟨i, o, h1, h2⟩
    · exact Oe h3 hp

noncomputable def fG (p0 : Option Nat) (σ : St) : Option Int :=
  if p0.isNone = true then some 0 else
  p0 >>= fun i => (σ.af[i]?) >>= fun o => Ae o.2.1 σ >>= fun n => some (IntKind.wrap .i64 n)

theorem CZ {p0 : Option Nat} {σ : St} {p : Int} (h : fG p0 σ = some p) : Spec Tryz.prog 68 [.kv (.ptr 67) p0] (aU TB σ) (.kv .i p) (aU TB σ) := by
  refine Spec.intro Tryz.func68 (by kernel_rfl) rfl (by kernel_rfl) (fun a w G0 Ls hE hH hN => ?_)
  have hle : G0.le G0 := Gh.le_refl G0
  unfold fG at h
  refine wp_seq_k (fun K hK1 => ?_)
  refine aC ?_
  refine lC 1 [] [(2, .kv .i 0)] (Os := []) trivial hE hH (by kernel_rfl) (fun a hE => ?_)
  refine aP (by kernel_rfl) ?_
  refine Exit.aB (hK1 _ _ ?_)
  refine wp_seq_k (fun K hK2 => ?_)
  refine aC ?_
  refine lC 1 [] [(3, .kv .i 0)] (Os := []) trivial hE hH (by kernel_rfl) (fun a hE => ?_)
  refine aP (by kernel_rfl) ?_
  refine Exit.aB (hK2 _ _ ?_)
  refine wp_seq_k (fun K hK3 => ?_)
  refine wp_seq_k (fun K hK4 => ?_)
  refine aC ?_
  refine lC 2 [] [(7, .kv .bool p0.isNone)] (Os := []) trivial hE hH (by kernel_rfl) (fun a hE => ?_)
  refine aP (by kernel_rfl) ?_
  refine Exit.aB (hK4 _ _ ?_)
  refine EL (b := p0.isNone) hE (by kernel_rfl) (fun hc => ?_) (fun hc => ?_)
  · replace h := ifT hc h
    refine wp_seq_k (fun K hK5 => ?_)
    refine aC ?_
    refine lC 2 [] [(2, .kv .i 0)] (Os := []) trivial hE hH (by kernel_rfl) (fun a hE => ?_)
    refine aP (by kernel_rfl) ?_
    refine Exit.aB (hK5 _ _ ?_)
    refine wp_ret ?_
    refine Exit.RP ?_
    cases h
    exact Y9 rfl hE hle hH (by kernel_rfl)
  · replace h := ifF hc h
    refine wp_skip ?_
    refine Exit.aB (hK3 _ _ ?_)
    obtain ⟨i, hi, h⟩ := bs h
    obtain ⟨o, ho, h⟩ := bs h
    obtain ⟨n, hn, h⟩ := bs h
    refine wp_seq_k (fun K hK6 => ?_)
    refine wp_seq_k (fun K hK7 => ?_)
    refine aC ?_
    refine lC 4 [.pt i, .ob dM o] [(12, .fm 67 i 1)] (Os := [_, _]) ⟨hi, wu ho, trivial⟩ hE hH (by kernel_rfl) (fun a hE => ?_)
    refine Oa (kk := .str) (kv := .ptr 93) (m := o.2.1) (t := 67) (j := i) (f := 1) (d := some 13) hE hH (by kernel_rfl) (by kernel_rfl) (wu ho) rfl (fun r mr es cl a w G hl hE hH hh hr hm => ?_)
    have hle := Gh.le_trans hle hl
    refine aP (by kernel_rfl) ?_
    refine Exit.aB (hK7 _ _ ?_)
    refine wp_block ?_
    refine zK (fun Q c hQ hc => ?_)
    have key : ∀ (k : Nat) (seen : Array Nat) (done : List (List UInt8 × Option Nat)) (q : Nat), es.toList.length < seen.toList.length + k → Gone (kk := .str) (kv := .ptr 93) es.toList o.2.1 seen.toList done → Ae done σ = some q →
        ∀ (a : Act) (w : World), dD G 26 a [(3, .kv .i (IntKind.wrap .i64 q)), (13, .val (.pointer (some ⟨r, 0, none⟩)))] → Holds w G (aU TB σ) (.iter r (itO mr cl seen) :: Ls) → w.heap[mr]? = some (.map es cl) →
        (∀ a w seen, dD G 26 a [(3, .kv .i (IntKind.wrap .i64 n)), (13, .val (.pointer (some ⟨r, 0, none⟩)))] → Holds w G (aU TB σ) (.iter r (itO mr cl seen) :: Ls) → Q (.exit 0) a w) → Rnd Tryz.prog c Q a w := by
      intro k
      induction k with
      | zero =>
        intro seen done q hk hg
        have := hg.len
        omega
      | succ k ih =>
        intro seen done q hk hg hq a w hE hH hh hx
        refine CV hc ?_
        refine wp_seq_k (fun K hK8 => ?_)
        refine aC ?_
        refine RI (kk := .str) (kv := .ptr 93) (m := o.2.1) (d := some 14) hE hH hh hm (by kernel_rfl) (by kernel_rfl) (fun hall a w hE hH => ?_) (fun ix e p hix hp hns a w hE hH hh => ?_)
        · refine lC 1 [] [(15, .kv .bool false)] (Os := []) trivial hE hH (by kernel_rfl) (fun a hE => ?_)
          refine aP (by kernel_rfl) ?_
          refine Exit.aB (hK8 _ _ ?_)
          refine wp_seq_k (fun K hK9 => ?_)
          refine XB hE (by kernel_rfl) rfl ?_
          refine wp_exit ?_
          refine Exit.wO ?_
          refine Exit.wO ?_
          have hperm := hg.all (by rw [hm.1.length]) hm.2.2 hall
          have := Eu hperm hq
          rw [hn] at this
          cases this
          exact hx _ _ _ (hE.Am (by kernel_rfl)) hH
        · refine lC 1 [] [(15, .kv .bool true)] (Os := []) trivial hE hH (by kernel_rfl) (fun a hE => ?_)
          refine aP (by kernel_rfl) ?_
          refine Exit.aB (hK8 _ _ ?_)
          refine wp_seq_k (fun K hK9 => ?_)
          refine aaS hE (by kernel_rfl) rfl ?_
          refine wp_skip ?_
          refine Exit.aB (hK9 _ _ ?_)
          obtain ⟨i2, o2, hi2, ho2⟩ := Oe hn (List.mem_of_getElem? hp)
          refine wp_block ?_
          refine wp_seq_k (fun K hK10 => ?_)
          refine aC ?_
          refine N9 (kk := .str) (kv := .ptr 93) (m := o.2.1) (d := some 16) hE hH hh hm hix hp (by kernel_rfl) (by kernel_rfl) (fun a hE => ?_)
          refine lC 2 [] [(5, .kv (.ptr 93) p.2)] (Os := []) trivial hE hH (by kernel_rfl) (fun a hE => ?_)
          refine aP (by kernel_rfl) ?_
          refine Exit.aB (hK10 _ _ ?_)
          refine aC ?_
          refine lC 8 [.pt i2, .ob eH o2] [(3, .kv .i (IntKind.wrap .i64 (IntKind.wrap .i64 q + (o2.1.length : Int))))] (Os := [_, _]) ⟨hi2, PE ho2, trivial⟩ hE hH (by kernel_rfl) (fun a hE => ?_)
          refine aP (by kernel_rfl) ?_
          refine Exit.wJ ?_
          refine Exit.aB ?_
          rw [wrap_wrap] at hE
          refine ih (seen.push e.born) (done ++ [p]) (q + o2.1.length) ?_ ?_ (Ug hi2 ho2 hq) a w ((hE.re 3 (by kernel_rfl) (e' := .kv .i (IntKind.wrap .i64 ((q + o2.1.length : Nat) : Int))) (congrArg (fun z => En.kv .i (IntKind.wrap .i64 z)) (Int.natCast_add q o2.1.length).symm)).Am (by kernel_rfl)) hH hh hx
          · simp at hk ⊢; omega
          · rw [Array.toList_push]; exact hg.next hix hp hns
    refine key (es.toList.length + 1) #[] [] 0 (by simp) Gone.nil rfl a w (hE.Am (by kernel_rfl)) hH hh (fun a w seen hE hH => ?_)
    rw [hQ]
    have hH := hH.drop (fun _ _ _ => rfl)
    refine Exit.UZ ?_
    refine Exit.aB (hK6 _ _ ?_)
    refine wp_seq_k (fun K hK11 => ?_)
    refine aC ?_
    refine lC 2 [] [(2, .kv .i (IntKind.wrap .i64 n))] (Os := []) trivial hE hH (by kernel_rfl) (fun a hE => ?_)
    refine aP (by kernel_rfl) ?_
    refine Exit.aB (hK11 _ _ ?_)
    refine wp_ret ?_
    cases h
    exact Y9 rfl hE hle hH (by kernel_rfl)
noncomputable def yS : Kn St := ⟨68, [.kv (.ptr di)], [.kv .i], .ro fun x σ => fG x.1 σ⟩
theorem Dl : yS.ok Tryz.prog TB := Em (by kernel_rfl) fun _ _ _ h => CZ h
end Go.Proofs.YtbnmhjobnepajaaGreat.M


set_option maxRecDepth 100000

namespace Go.Proofs
open Go.Shelf
noncomputable def Tryz.QU : Go.Shelf.Ren := ⟨fun | 190 => 80 | 125 => 105 | 258 => 104 | 128 => 127 | 129 => 128 | 302 => 118 | 303 => 119 | 304 => 120 | 305 => 121 | 306 => 122 | 307 => 123 | 308 => 124 | 309 => 125 | 310 => 126 | 333 => 146 | 329 => 147 | 330 => 148 | 334 => 149 | 335 => 150 | 336 => 151 | 344 => 157 | n => n, fun | 31 => 80 | 9 => 9 | 3 => 3 | 46 => 143 | 0 => 0 | 51 => 140 | 53 => 142 | 4 => 4 | 183 => 163 | 182 => 162 | 131 => 168 | 5 => 5 | 218 => 183 | 222 => 187 | 228 => 191 | 229 => 192 | n => n, fun | n => n⟩
theorem Tryz.lays190 : Lays.n190 Tryz.prog Tryz.QU := {
  mixed := by kernel_rfl
  f125 := Tryz.func105.trans (congrArg some (by kernel_rfl))
  f128 := Tryz.func127.trans (congrArg some (by kernel_rfl))
  f129 := Tryz.func128.trans (congrArg some (by kernel_rfl))
  f190 := Tryz.func80.trans (congrArg some (by kernel_rfl))
  f258 := Tryz.func104.trans (congrArg some (by kernel_rfl))
  f302 := Tryz.func118.trans (congrArg some (by kernel_rfl))
  f303 := Tryz.func119.trans (congrArg some (by kernel_rfl))
  f304 := Tryz.func120.trans (congrArg some (by kernel_rfl))
  f305 := Tryz.func121.trans (congrArg some (by kernel_rfl))
  f306 := Tryz.func122.trans (congrArg some (by kernel_rfl))
  f307 := Tryz.func123.trans (congrArg some (by kernel_rfl))
  f308 := Tryz.func124.trans (congrArg some (by kernel_rfl))
  f309 := Tryz.func125.trans (congrArg some (by kernel_rfl))
  f310 := Tryz.func126.trans (congrArg some (by kernel_rfl))
  f329 := Tryz.func147.trans (congrArg some (by kernel_rfl))
  f330 := Tryz.func148.trans (congrArg some (by kernel_rfl))
  f333 := Tryz.func146.trans (congrArg some (by kernel_rfl))
  f334 := Tryz.func149.trans (congrArg some (by kernel_rfl))
  f335 := Tryz.func150.trans (congrArg some (by kernel_rfl))
  f336 := Tryz.func151.trans (congrArg some (by kernel_rfl))
  f344 := Tryz.func157.trans (congrArg some (by kernel_rfl))
  t0 := Tryz.underlying0
  a0 := Tryz.isAgg0
  z0 := Tryz.sizeOf0
  v0 := Tryz.zeroValue0
  t3 := Tryz.underlying3
  a3 := Tryz.isAgg3
  z3 := Tryz.sizeOf3
  v3 := Tryz.zeroValue3
  t4 := Tryz.underlying4
  a4 := Tryz.isAgg4
  z4 := Tryz.sizeOf4
  v4 := Tryz.zeroValue4
  t5 := Tryz.underlying5
  a5 := Tryz.isAgg5
  z5 := Tryz.sizeOf5
  v5 := Tryz.zeroValue5
  t9 := Tryz.underlying9
  a9 := Tryz.isAgg9
  z9 := Tryz.sizeOf9
  v9 := Tryz.zeroValue9
  t31 := Tryz.underlying80
  a31 := Tryz.isAgg80
  z31 := Tryz.sizeOf80
  v31 := Tryz.zeroValue80
  t46 := Tryz.underlying143
  a46 := Tryz.isAgg143
  z46 := Tryz.sizeOf143
  v46 := Tryz.zeroValue143
  t51 := Tryz.underlying140
  a51 := Tryz.isAgg140
  z51 := Tryz.sizeOf140
  v51 := Tryz.zeroValue140
  t53 := Tryz.underlying142
  a53 := Tryz.isAgg142
  z53 := Tryz.sizeOf142
  v53 := Tryz.zeroValue142
  t131 := Tryz.underlying168
  a131 := Tryz.isAgg168
  z131 := Tryz.sizeOf168
  v131 := Tryz.zeroValue168
  t182 := Tryz.underlying162
  a182 := Tryz.isAgg162
  z182 := Tryz.sizeOf162
  v182 := Tryz.zeroValue162
  t183 := Tryz.underlying163
  a183 := Tryz.isAgg163
  z183 := Tryz.sizeOf163
  v183 := Tryz.zeroValue163
  t218 := Tryz.underlying183
  a218 := Tryz.isAgg183
  z218 := Tryz.sizeOf183
  v218 := Tryz.zeroValue183
  t222 := Tryz.underlying187
  a222 := Tryz.isAgg187
  z222 := Tryz.sizeOf187
  v222 := Tryz.zeroValue187
  t228 := Tryz.underlying191
  a228 := Tryz.isAgg191
  z228 := Tryz.sizeOf191
  v228 := Tryz.zeroValue191
  t229 := Tryz.underlying192
  a229 := Tryz.isAgg192
  z229 := Tryz.sizeOf192
  v229 := Tryz.zeroValue192 }

end Go.Proofs

namespace Go.Proofs.YtbnmhjobnepajaaGreat.M
open Go.Proofs (Tryz.prog Tryz.func47 Tryz.f47 Tryz.lays190)

noncomputable def sorted (l : List (List UInt8)) : List (List UInt8) := l.mergeSort (fun x y => decide (x ≤ y))

noncomputable def gQ (p0 : Option Nat) (σ : St) : Option (List (List UInt8)) :=
  if p0.isNone = true then some [] else
  p0 >>= fun i => (σ.af[i]?) >>= fun o => if (o.2.1.length + 1) * 16 ≤ 140737488355328 then some (sorted (o.2.1.map (·.1))) else none

theorem Gone.acL {kk kv : Kd} {es : List MapEntry} {m done : List (kk.den × kv.den)} {seen : List Nat} (h : Gone es m seen done) : done.length ≤ es.length := by
  have h0 := h.len
  obtain ⟨is, h1, rfl, rfl, h4⟩ := h
  rw [List.length_map] at h0
  exact Nat.le_trans (List.length_filterMap_le _ _) h0

theorem set_self {α : Type} : ∀ {l : List α} {j : Nat} {x : α}, l[j]? = some x → l.set j x = l
  | [], _, _, h => by simp at h
  | y :: l, 0, x, h => by simp at h; subst h; rfl
  | y :: l, j + 1, x, h => by rw [List.set_cons_succ, set_self (by simpa using h)]

section
variable {w : World} {G : Gh} {T : Tabs} {Ls : List LS} {a : Act} {N : Nat} {E : Env} {ops : Array Oper} {Q : Exit → Act → World → Prop}

theorem TZ {j e bt : Nat} {v : Value} {xs : List (List UInt8)} (hH : Holds w G T Ls) (hj : Ls[j]? = some (.raw v e bt .str xs)) (hlen : xs.length < 4611686018427387904) :
    Calls Tryz.prog 80 #[v] w (P6 G (.tup []) T (Ls.set j (.raw v e bt .str (sorted xs)))) := by
  obtain ⟨cs, o1, o2, o3, o4⟩ := hH.loc _ (List.mem_of_getElem? hj)
  rcases o1.2 with ⟨rfl, hn⟩ | ⟨g, cap, cur, rfl, hb0, hb, h1, h2, h3, h4⟩
  · have hx : xs = [] := List.eq_nil_of_length_eq_zero hn
    subst hx
    refine (Any.slices_Sort_string_none Tryz.lays190 none 0 w).mono ?_
    rintro e' w' ⟨rfl, rfl⟩
    refine ⟨G, Gh.le_refl G, ⟨#[], rfl, trivial⟩, ?_⟩
    have : Ls.set j (.raw (.slice none 0 0) e bt .str (sorted [])) = Ls := by
      have : sorted [] = [] := by simp [sorted]
      rw [this]
      exact set_self hj
    rw [this]; exact hH
  · have hst : cur.toList.take xs.length = xs.map encStr := by
      have := NU o2
      simp only [Kd.w, Nat.mul_one] at h4
      rw [h4]
      rw [← this]
      have hcl := o1.1
      simp only [Kd.w, Nat.mul_one] at hcl
      rw [List.take_of_length_le (by omega)]
    refine (Any.slices_Sort_string Tryz.lays190 g 0 cap xs w (holds_of_block hb hst) (Array.getElem?_eq_some_iff.1 hb).1 hlen).mono ?_
    rintro e' w' ⟨rfl, n, os, rfl⟩
    exact ⟨G, Gh.le_refl G, ⟨#[], rfl, trivial⟩, hH.WA hj (by simp)⟩
end

theorem vG {p0 : Option Nat} {σ : St} {p : List (List UInt8)} (h : gQ p0 σ = some p) : Spec Tryz.prog 47 [.kv (.ptr 67) p0] (aU TB σ) (.kv (.list .str) p) (aU TB σ) := by
  refine Spec.intro Tryz.func47 (by kernel_rfl) rfl (by kernel_rfl) (fun a w G0 Ls hE hH hN => ?_)
  have hle : G0.le G0 := Gh.le_refl G0
  unfold gQ at h
  refine wp_seq_k (fun K hK1 => ?_)
  refine aC ?_
  refine lC 1 [] [(2, .val (.slice none 0 0))] (Os := []) trivial hE hH (by kernel_rfl) (fun a hE => ?_)
  refine aP (by kernel_rfl) ?_
  refine Exit.aB (hK1 _ _ ?_)
  refine wp_seq_k (fun K hK2 => ?_)
  refine aC ?_
  refine lC 1 [] [(3, .val (.slice none 0 0))] (Os := []) trivial hE hH (by kernel_rfl) (fun a hE => ?_)
  refine aP (by kernel_rfl) ?_
  refine Exit.aB (hK2 _ _ ?_)
  refine wp_seq_k (fun K hK3 => ?_)
  refine wp_seq_k (fun K hK4 => ?_)
  refine aC ?_
  refine lC 2 [] [(6, .kv .bool p0.isNone)] (Os := []) trivial hE hH (by kernel_rfl) (fun a hE => ?_)
  refine aP (by kernel_rfl) ?_
  refine Exit.aB (hK4 _ _ ?_)
  refine EL (b := p0.isNone) hE (by kernel_rfl) (fun hc => ?_) (fun hc => ?_)
  · replace h := ifT hc h
    refine wp_seq_k (fun K hK5 => ?_)
    refine aC ?_
    refine lC 2 [] [(2, .val (.slice none 0 0))] (Os := []) trivial hE hH (by kernel_rfl) (fun a hE => ?_)
    refine aP (by kernel_rfl) ?_
    refine Exit.aB (hK5 _ _ ?_)
    refine wp_ret ?_
    refine Exit.RP ?_
    cases h
    exact Y9 rfl hE hle hH (by kernel_rfl)
  · replace h := ifF hc h
    refine wp_skip ?_
    refine Exit.aB (hK3 _ _ ?_)
    obtain ⟨i, hi, h⟩ := bs h
    obtain ⟨o, ho, h⟩ := bs h
    obtain ⟨hsz, h⟩ := gd h
    refine wp_seq_k (fun K hK6 => ?_)
    refine wp_seq_k (fun K hK7 => ?_)
    refine aC ?_
    refine lC 4 [.pt i, .ob dM o] [(11, .fm 67 i 1)] (Os := [_, _]) ⟨hi, wu ho, trivial⟩ hE hH (by kernel_rfl) (fun a hE => ?_)
    have hH := hH.YX 9 16 .str
    refine Oa (kk := .str) (kv := .ptr 93) (m := o.2.1) (t := 67) (j := i) (f := 1) (d := some 12) hE hH (by kernel_rfl) (by kernel_rfl) (wu ho) rfl (fun r mr es cl a w G hl hE hH hh hr hm => ?_)
    have hle := Gh.le_trans hle hl
    refine aP (by kernel_rfl) ?_
    refine Exit.aB (hK7 _ _ ?_)
    refine wp_block ?_
    refine zK (fun Q c hQ hc => ?_)
    have key : ∀ (k : Nat) (seen : Array Nat) (done : List (List UInt8 × Option Nat)) (v : Value), es.toList.length < seen.toList.length + k → Gone (kk := .str) (kv := .ptr 93) es.toList o.2.1 seen.toList done →
        ∀ (a : Act) (w : World) (G : Gh), G0.le G → dD G 24 a [(3, .val v), (12, .val (.pointer (some ⟨r, 0, none⟩)))] → Holds w G (aU TB σ) (.iter r (itO mr cl seen) :: .raw v 9 16 .str (done.map (·.1)) :: Ls) → w.heap[mr]? = some (.map es cl) → G.role mr = .fld 67 i 1 → yz G .str (.ptr 93) o.2.1 es.toList cl →
        (∀ (a : Act) (w : World) (G : Gh) (seen : Array Nat) (done : List (List UInt8 × Option Nat)) (v : Value), done.Perm o.2.1 → G0.le G → dD G 24 a [(3, .val v), (12, .val (.pointer (some ⟨r, 0, none⟩)))] → Holds w G (aU TB σ) (.iter r (itO mr cl seen) :: .raw v 9 16 .str (done.map (·.1)) :: Ls) → Q (.exit 0) a w) → Rnd Tryz.prog c Q a w := by
      intro k
      induction k with
      | zero =>
        intro seen done v hk hg
        have := hg.len
        omega
      | succ k ih =>
        intro seen done v hk hg a w G hle hE hH hh hr hm hx
        refine CV hc ?_
        refine wp_seq_k (fun K hK8 => ?_)
        refine aC ?_
        refine RI (kk := .str) (kv := .ptr 93) (m := o.2.1) (d := some 13) hE hH hh hm (by kernel_rfl) (by kernel_rfl) (fun hall a w hE hH => ?_) (fun ix e p hix hp hns a w hE hH hh => ?_)
        · refine lC 1 [] [(14, .kv .bool false)] (Os := []) trivial hE hH (by kernel_rfl) (fun a hE => ?_)
          refine aP (by kernel_rfl) ?_
          refine Exit.aB (hK8 _ _ ?_)
          refine wp_seq_k (fun K hK9 => ?_)
          refine XB hE (by kernel_rfl) rfl ?_
          refine wp_exit ?_
          refine Exit.wO ?_
          refine Exit.wO ?_
          exact hx _ _ _ _ _ _ (hg.all (by rw [hm.1.length]) hm.2.2 hall) hle (hE.Am (by kernel_rfl)) hH
        · refine lC 1 [] [(14, .kv .bool true)] (Os := []) trivial hE hH (by kernel_rfl) (fun a hE => ?_)
          refine aP (by kernel_rfl) ?_
          refine Exit.aB (hK8 _ _ ?_)
          refine wp_seq_k (fun K hK9 => ?_)
          refine aaS hE (by kernel_rfl) rfl ?_
          refine wp_skip ?_
          refine Exit.aB (hK9 _ _ ?_)
          refine wp_block ?_
          refine wp_seq_k (fun K hK10 => ?_)
          refine aC ?_
          refine N9 (kk := .str) (kv := .ptr 93) (m := o.2.1) (d := some 15) hE hH hh hm hix hp (by kernel_rfl) (by kernel_rfl) (fun a hE => ?_)
          refine lC 2 [] [(4, .kv .str p.1)] (Os := []) trivial hE hH (by kernel_rfl) (fun a hE => ?_)
          refine aP (by kernel_rfl) ?_
          refine Exit.aB (hK10 _ _ ?_)
          refine aC ?_
          refine lC 2 [] [(17, .val v), (18, .kv .str p.1)] (Os := []) trivial hE hH (by kernel_rfl) (fun a hE => ?_)
          refine Il (d := some 19) .str [p.1] hE hH (by kernel_rfl) (by kernel_rfl) (fun a w' G' hl hE hH hkeep => ?_)
          have hle := Gh.le_trans hle hl
          have hm := wK hl hm
          obtain ⟨hkeep1, hkeep2⟩ := hkeep mr (by rw [hr]; simp)
          rw [← hkeep1] at hh
          rw [← hkeep2] at hr
          refine RG (e' := 9) (bt := 16) (K := .str) (xs := done.map (·.1)) (ys := [p.1]) (d := some 20) 1 hE hH (by kernel_rfl) rfl (by kernel_rfl) (by have h1 := hg.acL; rw [← hm.1.length] at h1; simp only [List.length_map, List.length_cons, List.length_nil]; omega) (fun v' a w'' G'' hl hE hH hfix hro => ?_)
          have hle := Gh.le_trans hle hl
          have hm := wK hl hm
          have hh2 := hfix mr _ _ _ hr
          have hr2 := hro mr (by rw [hr]; simp)
          rw [← hh2] at hh
          rw [← hr2] at hr
          refine lC 1 [] [(3, .val v')] (Os := []) trivial hE hH (by kernel_rfl) (fun a hE => ?_)
          refine aP (by kernel_rfl) ?_
          refine Exit.wJ ?_
          refine Exit.aB ?_
          refine ih (seen.push e.born) (done ++ [p]) v' ?_ ?_ a _ _ hle (hE.Am (by kernel_rfl)) ?_ hh hr hm hx
          · simp at hk ⊢; omega
          · rw [Array.toList_push]; exact hg.next hix hp hns
          · rw [List.map_append]; exact hH
    refine key (es.toList.length + 1) #[] [] (.slice none 0 0) (by simp) Gone.nil a w G hle (hE.Am (by kernel_rfl)) hH hh hr hm (fun a w G seen done v hperm hle hE hH => ?_)
    rw [hQ]
    have hH := hH.drop (fun _ _ _ => rfl)
    refine Exit.UZ ?_
    refine Exit.aB (hK6 _ _ ?_)
    refine wp_seq_k (fun K hK11 => ?_)
    refine aC ?_
    refine lC 1 [] [(21, .val v)] (Os := []) trivial hE hH (by kernel_rfl) (fun a hE => ?_)
    refine N8 (f := 80) (As := [.val v]) (R := .tup []) (d := some 22) (T' := aU TB σ) (Ls' := .raw v 9 16 .str (sorted (done.map (·.1))) :: Ls) (by kernel_rfl) (fun args hA => ?_) hE (by kernel_rfl) (by kernel_rfl) trivial (fun a w G hl hE hH => ?_)
    · match args, hA with
      | [u], ⟨hu, _⟩ =>
        simp only [EnR] at hu
        subst hu
        exact TZ (j := 0) hH rfl (by rw [List.length_map, hperm.length_eq]; omega)
    · have hle := Gh.le_trans hle hl
      refine aP (by kernel_rfl) ?_
      refine Exit.aB (hK11 _ _ ?_)
      have hnd := hH.nd
      obtain ⟨G', hl, hv, hH⟩ := hH.Y6 (Ls' := Ls) List.mem_cons_self (fun l hlm => by
        cases hb : l.blk with
        | none => exact .inr ⟨rfl, List.mem_cons_of_mem _ hlm⟩
        | some b =>
          refine .inl ⟨List.mem_cons_of_mem _ hlm, fun he => ?_⟩
          rw [List.filterMap_cons_some (show LS.blk (.raw v 9 16 .str (sorted (done.map (·.1)))) = some b from he.symm)] at hnd
          exact (List.nodup_cons.1 hnd).1 (List.mem_filterMap.2 ⟨l, hlm, hb⟩)) (fun _ _ _ => rfl) (by
        cases hb : LS.blk (.raw v 9 16 .str (sorted (done.map (·.1)))) with
        | none => rwa [List.filterMap_cons_none hb] at hnd
        | some b => rw [List.filterMap_cons_some hb] at hnd; exact (List.nodup_cons.1 hnd).2)
      have hle := Gh.le_trans hle hl
      have hE := dD.more (v := v) (e := .kv (.list .str) (sorted (List.map (fun x : List UInt8 × Option Nat => x.1) done))) (hE.mono hl) 3 (by kernel_rfl) hv
      have hs : sorted (done.map (·.1)) = sorted (o.2.1.map (·.1)) := mergeSort_of_perm (hperm.map _)
      rw [hs] at hE
      cases h
      refine wp_seq_k (fun K hK12 => ?_)
      refine aC ?_
      refine lC 2 [] [(2, .kv (.list .str) (sorted (o.2.1.map (·.1))))] (Os := []) trivial hE hH (by kernel_rfl) (fun a hE => ?_)
      refine aP (by kernel_rfl) ?_
      refine Exit.aB (hK12 _ _ ?_)
      refine wp_ret ?_
      exact Y9 rfl hE hle hH (by kernel_rfl)
noncomputable def yN : Kn St := ⟨47, [.kv (.ptr di)], [.kv (.list .str)], .ro fun x σ => gQ x.1 σ⟩
theorem Di : yN.ok Tryz.prog TB := Em (by kernel_rfl) fun _ _ _ h => vG h
end Go.Proofs.YtbnmhjobnepajaaGreat.M


set_option maxRecDepth 100000
namespace Go.Proofs.YtbnmhjobnepajaaGreat.M
open Go.Proofs
noncomputable def qG (p0 : List UInt8) (s0 : Int × Int) : Option ((Int × Int) ⊕ (Int ⊕ Int)) :=
  if decide (s0.2 < (p0.length : Int)) = true then
  if 0 ≤ s0.2 ∧ s0.2 < (p0.length : Int) then
  if ((!(decide (btS p0 s0.2 < 48))) = true → 0 ≤ s0.2 ∧ s0.2 < (p0.length : Int)) then
  if ((decide (btS p0 s0.2 < 48) || decide (btS p0 s0.2 > 57)) || decide (s0.1 > 1099511627776)) = true then
  some (.inr (.inr (-1 : Int)))
  else
  if 0 ≤ s0.2 ∧ s0.2 < (p0.length : Int) then
  some (.inl (IntKind.wrap .i64 (IntKind.wrap .i64 (s0.1 * 10) + IntKind.wrap .i64 (IntKind.wrap .u8 (btS p0 s0.2 - 48))), IntKind.wrap .i64 (s0.2 + 1)))
  else
  none
  else
  none
  else
  none
  else
  some (.inr (.inl s0.1))

noncomputable def su (p0 : List UInt8) : Option Int :=
  Option.bind (bC (qG p0) ((0 : Int), (0 : Int))) fun x1 =>
  ku x1 (fun x2 =>
  if ((!(p0 == [])) = true → (0 : Int) ≤ (0 : Int) ∧ 0 < (p0.length : Int)) then
  if (((p0 == []) || ((btS p0 (0 : Int) == 48) && (!(p0 == [48])))) || decide (x2 > 1099511627776)) = true then
  some (-1 : Int)
  else
  some x2
  else
  none) Option.some

noncomputable def Pm : Kn St := ⟨94, [.kv .str], [.kv .i], .ro fun x σ => su x.1⟩

theorem IJ : Pm.ok Tryz.prog TB := iI ⟨Tryz.prog, TB, 49, KLs, MLs, [], [], [], []⟩ ⟨[], [], [], [(3, ⟨[(3, .kv .i), (7, .kv .i)], false, [⟨.ext 0, [(3, .kv .i)]⟩], true, []⟩)]⟩ aV trivial (fn := Tryz.f94) (by kernel_rfl) (by kernel_rfl) (by kernel_rfl)
end Go.Proofs.YtbnmhjobnepajaaGreat.M


set_option maxRecDepth 100000

namespace Go.Proofs
open Go.Shelf
noncomputable def Tryz.QT : Go.Shelf.Ren := ⟨fun | 189 => 95 | 125 => 105 | 257 => 113 | 128 => 127 | 129 => 128 | 294 => 134 | 295 => 135 | 296 => 136 | 297 => 137 | 298 => 138 | 299 => 139 | 216 => 140 | 300 => 141 | 301 => 142 | 328 => 153 | 329 => 147 | 330 => 148 | 331 => 154 | 332 => 155 | 215 => 156 | 343 => 158 | n => n, fun | 28 => 31 | 3 => 3 | 46 => 143 | 0 => 0 | 51 => 140 | 53 => 142 | 4 => 4 | 183 => 163 | 182 => 162 | 131 => 168 | 5 => 5 | 9 => 9 | 218 => 183 | 222 => 187 | 228 => 191 | 229 => 192 | n => n, fun | n => n⟩
theorem Tryz.lays189 : Lays.n189 Tryz.prog Tryz.QT := {
  mixed := by kernel_rfl
  f125 := Tryz.func105.trans (congrArg some (by kernel_rfl))
  f128 := Tryz.func127.trans (congrArg some (by kernel_rfl))
  f129 := Tryz.func128.trans (congrArg some (by kernel_rfl))
  f189 := Tryz.func95.trans (congrArg some (by kernel_rfl))
  f215 := Tryz.func156.trans (congrArg some (by kernel_rfl))
  f216 := Tryz.func140.trans (congrArg some (by kernel_rfl))
  f257 := Tryz.func113.trans (congrArg some (by kernel_rfl))
  f294 := Tryz.func134.trans (congrArg some (by kernel_rfl))
  f295 := Tryz.func135.trans (congrArg some (by kernel_rfl))
  f296 := Tryz.func136.trans (congrArg some (by kernel_rfl))
  f297 := Tryz.func137.trans (congrArg some (by kernel_rfl))
  f298 := Tryz.func138.trans (congrArg some (by kernel_rfl))
  f299 := Tryz.func139.trans (congrArg some (by kernel_rfl))
  f300 := Tryz.func141.trans (congrArg some (by kernel_rfl))
  f301 := Tryz.func142.trans (congrArg some (by kernel_rfl))
  f328 := Tryz.func153.trans (congrArg some (by kernel_rfl))
  f329 := Tryz.func147.trans (congrArg some (by kernel_rfl))
  f330 := Tryz.func148.trans (congrArg some (by kernel_rfl))
  f331 := Tryz.func154.trans (congrArg some (by kernel_rfl))
  f332 := Tryz.func155.trans (congrArg some (by kernel_rfl))
  f343 := Tryz.func158.trans (congrArg some (by kernel_rfl))
  t0 := Tryz.underlying0
  a0 := Tryz.isAgg0
  z0 := Tryz.sizeOf0
  v0 := Tryz.zeroValue0
  t3 := Tryz.underlying3
  a3 := Tryz.isAgg3
  z3 := Tryz.sizeOf3
  v3 := Tryz.zeroValue3
  t4 := Tryz.underlying4
  a4 := Tryz.isAgg4
  z4 := Tryz.sizeOf4
  v4 := Tryz.zeroValue4
  t5 := Tryz.underlying5
  a5 := Tryz.isAgg5
  z5 := Tryz.sizeOf5
  v5 := Tryz.zeroValue5
  t9 := Tryz.underlying9
  a9 := Tryz.isAgg9
  z9 := Tryz.sizeOf9
  v9 := Tryz.zeroValue9
  t28 := Tryz.underlying31
  a28 := Tryz.isAgg31
  z28 := Tryz.sizeOf31
  v28 := Tryz.zeroValue31
  t46 := Tryz.underlying143
  a46 := Tryz.isAgg143
  z46 := Tryz.sizeOf143
  v46 := Tryz.zeroValue143
  t51 := Tryz.underlying140
  a51 := Tryz.isAgg140
  z51 := Tryz.sizeOf140
  v51 := Tryz.zeroValue140
  t53 := Tryz.underlying142
  a53 := Tryz.isAgg142
  z53 := Tryz.sizeOf142
  v53 := Tryz.zeroValue142
  t131 := Tryz.underlying168
  a131 := Tryz.isAgg168
  z131 := Tryz.sizeOf168
  v131 := Tryz.zeroValue168
  t182 := Tryz.underlying162
  a182 := Tryz.isAgg162
  z182 := Tryz.sizeOf162
  v182 := Tryz.zeroValue162
  t183 := Tryz.underlying163
  a183 := Tryz.isAgg163
  z183 := Tryz.sizeOf163
  v183 := Tryz.zeroValue163
  t218 := Tryz.underlying183
  a218 := Tryz.isAgg183
  z218 := Tryz.sizeOf183
  v218 := Tryz.zeroValue183
  t222 := Tryz.underlying187
  a222 := Tryz.isAgg187
  z222 := Tryz.sizeOf187
  v222 := Tryz.zeroValue187
  t228 := Tryz.underlying191
  a228 := Tryz.isAgg191
  z228 := Tryz.sizeOf191
  v228 := Tryz.zeroValue191
  t229 := Tryz.underlying192
  a229 := Tryz.isAgg192
  z229 := Tryz.sizeOf192
  v229 := Tryz.zeroValue192 }

end Go.Proofs

namespace Go.Proofs.YtbnmhjobnepajaaGreat.M
open Go.Proofs (Tryz.prog Tryz.func95 Tryz.f95 Tryz.lays189)

noncomputable def tK (l : List Int) : List Int := l.mergeSort (fun x y => decide (x ≤ y))

section
variable {w : World} {G : Gh} {T : Tabs} {Ls : List LS} {a : Act} {N : Nat} {E : Env} {ops : Array Oper} {Q : Exit → Act → World → Prop}

theorem PU {j e bt : Nat} {v : Value} {xs : List Int} (hH : Holds w G T Ls) (hj : Ls[j]? = some (.raw v e bt .i xs)) (hlen : xs.length < 4611686018427387904) :
    Calls Tryz.prog 95 #[v] w (P6 G (.tup []) T (Ls.set j (.raw v e bt .i (tK xs)))) := by
  obtain ⟨cs, o1, o2, o3, o4⟩ := hH.loc _ (List.mem_of_getElem? hj)
  rcases o1.2 with ⟨rfl, hn⟩ | ⟨g, cap, cur, rfl, hb0, hb, h1, h2, h3, h4⟩
  · have hx : xs = [] := List.eq_nil_of_length_eq_zero hn
    subst hx
    refine (Any.slices_Sort_int_none Tryz.lays189 none 0 w).mono ?_
    rintro e' w' ⟨rfl, rfl⟩
    refine ⟨G, Gh.le_refl G, ⟨#[], rfl, trivial⟩, ?_⟩
    have : Ls.set j (.raw (.slice none 0 0) e bt .i (tK [])) = Ls := by
      have : tK [] = [] := by simp [tK]
      rw [this]
      exact set_self hj
    rw [this]; exact hH
  · have hst : cur.toList.take xs.length = xs.map (Value.int .i64) := by
      have := NT o2
      simp only [Kd.w, Nat.mul_one] at h4
      rw [h4]
      rw [← this]
      have hcl := o1.1
      simp only [Kd.w, Nat.mul_one] at hcl
      rw [List.take_of_length_le (by omega)]
    refine (Any.slices_Sort_int Tryz.lays189 g 0 cap xs w (holds_of_blockI hb hst) (Array.getElem?_eq_some_iff.1 hb).1 hlen).mono ?_
    rintro e' w' ⟨rfl, n, os, rfl⟩
    exact ⟨G, Gh.le_refl G, ⟨#[], rfl, trivial⟩, hH.TU hj (by simp)⟩
end

noncomputable def dE (p0 : Option Nat) (σ : St) (r7 : List (List UInt8)) (l9 : List Int) (x10 : Int) : Option ((List Int) × Int) :=
  if (decide (x10 < (r7.length : Int))) = true then
  (ix r7 x10) >>= fun x19 =>
  p0 >>= fun i21 =>
  (σ.aj[i21]?) >>= fun o22 =>
  if (decide ((x19.length : Int) > (IntKind.wrap .i64 ((o22.2.1.length : Int) + 1)))) = true then
  if (0 : Int) ≤ (IntKind.wrap .i64 ((o22.2.1.length : Int) + 1)) ∧ (IntKind.wrap .i64 ((o22.2.1.length : Int) + 1)) ≤ (x19.length : Int) then
  if o22.2.1.length + [46].length ≤ 9223372036854775807 then
  if ((x19.take (Int.toNat (IntKind.wrap .i64 ((o22.2.1.length : Int) + 1)))) == (o22.2.1 ++ [46])) = true then
  if (0 : Int) ≤ (IntKind.wrap .i64 ((o22.2.1.length : Int) + 1)) ∧ (IntKind.wrap .i64 ((o22.2.1.length : Int) + 1)) ≤ (x19.length : Int) then
  su (x19.drop (Int.toNat (IntKind.wrap .i64 ((o22.2.1.length : Int) + 1)))) >>= fun r29 =>
  if (decide (r29 ≥ 0)) = true then
  if (l9.length + 1) * 8 ≤ 140737488355328 then
  dE p0 σ r7 (l9 ++ [r29]) (IntKind.wrap .i64 (x10 + 1))
  else none
  else
  dE p0 σ r7 l9 (IntKind.wrap .i64 (x10 + 1))
  else none
  else
  dE p0 σ r7 l9 (IntKind.wrap .i64 (x10 + 1))
  else none
  else none
  else
  dE p0 σ r7 l9 (IntKind.wrap .i64 (x10 + 1))
  else
  some ((l9, x10))
  partial_fixpoint

noncomputable def iR (p0 : Option Nat) (σ : St) : Option (List Int) :=
  p0 >>= fun i5 =>
  (σ.aj[i5]?) >>= fun o6 =>
  gQ o6.1 σ >>= fun r7 =>
  dE p0 σ r7 [] 0 >>= fun z34 =>
  if z34.1.length < 4611686018427387904 then
  some (tK z34.1)
  else none

theorem C9 {p0 : Option Nat} {σ : St} {p : List Int} (h : iR p0 σ = some p) : Spec Tryz.prog 61 [.kv (.ptr 77) p0] (aU TB σ) (.kv (.list .i) p) (aU TB σ) := by
  refine Spec.intro Tryz.func61 (by kernel_rfl) rfl (by kernel_rfl) (fun a w G0 Ls hE hH hN => ?_)
  have hle : G0.le G0 := Gh.le_refl G0
  unfold iR at h
  refine wp_seq_k (fun K hK1 => ?_)
  refine aC ?_
  refine lC 1 [] [(2, .val (.slice none 0 0))] (Os := []) trivial hE hH (by kernel_rfl) (fun a hE => ?_)
  refine aP (by kernel_rfl) ?_
  refine Exit.aB (hK1 _ _ ?_)
  refine wp_seq_k (fun K hK2 => ?_)
  refine aC ?_
  refine lC 1 [] [(3, .val (.slice none 0 0))] (Os := []) trivial hE hH (by kernel_rfl) (fun a hE => ?_)
  refine aP (by kernel_rfl) ?_
  refine Exit.aB (hK2 _ _ ?_)
  refine wp_seq_k (fun K hK3 => ?_)
  refine wp_seq_k (fun K hK4 => ?_)
  refine aC ?_
  obtain ⟨i5, hi5, h⟩ := bs h
  obtain ⟨o6, ho6, h⟩ := bs h
  refine lC 4 [.pt i5, .ob dh o6] [(11, .kv (.ptr 67) o6.1)] (Os := [_, _]) ⟨hi5, (Ej (σ := σ) ho6), trivial⟩ hE hH (by kernel_rfl) (fun a hE => ?_)
  obtain ⟨r7, hr7, h⟩ := bs h
  refine RH (d := (some 12)) (vG hr7) hE hH hN (by kernel_rfl) (by kernel_rfl) trivial (fun a w G hl1 hE hH => ?_)
  have hle := Gh.le_trans hle hl1
  refine lC 2 [] [(13, .kv .i (r7.length : Int)), (14, .kv .i 0)] (Os := []) trivial hE hH (by kernel_rfl) (fun a hE => ?_)
  refine aP (by kernel_rfl) ?_
  refine Exit.aB (hK4 _ _ ?_)
  refine wp_block ?_
  have hH := hH.YX 3 8 .i
  obtain ⟨z34, hz34, h⟩ := bs h
  refine zK (fun Q11 c hQ hc => ?_)
  have key : ∀ (l9 : List Int) (x10 : Int) (rr : (List Int) × Int), dE p0 σ r7 l9 x10 = some rr → ∀ (a : Act) (w : World) (G : Gh) (v8 : Value), G0.le G → dD G 53 a [(0, .kv (.ptr 77) p0), (2, .val (.slice none 0 0)), (3, .val v8), (12, .kv (.list .str) r7), (13, .kv .i (r7.length : Int)), (14, .kv .i x10)] → Holds w G (aU TB σ) (LS.raw v8 3 8 .i l9 :: Ls) → (∀ z35 : (List Int) × Int, rr = z35 → ∀ (a : Act) (w : World) (G : Gh) (v8 : Value), G0.le G → dD G 53 a [(0, .kv (.ptr 77) p0), (2, .val (.slice none 0 0)), (3, .val v8), (12, .kv (.list .str) r7), (13, .kv .i (r7.length : Int)), (14, .kv .i z35.2)] → Holds w G (aU TB σ) (LS.raw v8 3 8 .i z35.1 :: Ls) → Q11 (.exit 0) a w) → Rnd Tryz.prog c Q11 a w := by
    refine dE.partial_correctness p0 σ r7 _ ?_
    intro self ih14 l9 x10 rr h a w G v8 hle hE hH hx12
    refine CV hc ?_
    refine wp_seq_k (fun K hK15 => ?_)
    refine aC ?_
    refine lC 1 [] [(15, .kv .bool (decide (x10 < (r7.length : Int))))] (Os := []) trivial hE hH (by kernel_rfl) (fun a hE => ?_)
    refine aP (by kernel_rfl) ?_
    refine Exit.aB (hK15 _ _ ?_)
    refine wp_seq_k (fun K hK16 => ?_)
    refine EL (b := decide (x10 < (r7.length : Int))) hE (by kernel_rfl) (fun hc => ?_) (fun hc => ?_)
    · replace h := ifT hc h
      refine wp_skip ?_
      refine Exit.aB (hK16 _ _ ?_)
      refine wp_seq_k (fun K hK17 => ?_)
      refine wp_block ?_
      refine wp_seq_k (fun K hK18 => ?_)
      refine aC ?_
      obtain ⟨x19, hx19, h⟩ := bs h
      refine lC 3 [.ix .str x19] [(5, .kv .str x19)] (Os := [_]) ⟨(Jl.of (k := .str) hx19), trivial⟩ hE hH (by kernel_rfl) (fun a hE => ?_)
      refine aP (by kernel_rfl) ?_
      refine Exit.aB (hK18 _ _ ?_)
      refine wp_seq_k (fun K hK20 => ?_)
      refine aC ?_
      obtain ⟨i21, hi21, h⟩ := bs h
      obtain ⟨o22, ho22, h⟩ := bs h
      refine lC 7 [.pt i21, .ob dh o22] [(6, .kv .i (IntKind.wrap .i64 ((o22.2.1.length : Int) + 1)))] (Os := [_, _]) ⟨hi21, (Ej (σ := σ) ho22), trivial⟩ hE hH (by kernel_rfl) (fun a hE => ?_)
      refine aP (by kernel_rfl) ?_
      refine Exit.aB (hK20 _ _ ?_)
      refine wp_seq_k (fun K hK23 => ?_)
      by_cases hc : (decide ((x19.length : Int) > (IntKind.wrap .i64 ((o22.2.1.length : Int) + 1)))) = true
      · replace h := ifT hc h
        have c24 := hc
        obtain ⟨q25, h⟩ := gd h
        obtain ⟨q26, h⟩ := gd h
        refine KX 13 [] [(0, 0), (0, 0), (0, 0), (0, 0), (0, 0), (0, 0), (0, 0), (0, 0), (0, 0), (0, 0), (0, 0), (0, 0), (0, 0)] [.kv .str x19, .kv .i (x19.length : Int), .kv .i (IntKind.wrap .i64 ((o22.2.1.length : Int) + 1)), .kv .bool (decide ((x19.length : Int) > (IntKind.wrap .i64 ((o22.2.1.length : Int) + 1)))), .kv .bool true, .kv .str x19, .kv .i (IntKind.wrap .i64 ((o22.2.1.length : Int) + 1)), .kv .str (x19.take (Int.toNat (IntKind.wrap .i64 ((o22.2.1.length : Int) + 1)))), .kv (.ptr 77) p0, .kv (.ptr 77) (some i21), .fldA 77 i21 1, .kv .str o22.2.1, .kv .str (o22.2.1 ++ [46])] (fun _ => aU TB σ) (fun _ _ => LS.raw v8 3 8 .i l9 :: Ls) (by kernel_rfl) (by kernel_rfl) hE hH
                ⟨⟨⟨⟨⟨⟨⟨⟨⟨⟨⟨⟨⟨trivial,
                uI (fun k => obR [] (by kernel_rfl) (fun _ => ⟨[], trivial, by kernel_rfl⟩))⟩,
                uI (fun k => obR [] (by kernel_rfl) (fun _ => ⟨[], trivial, by kernel_rfl⟩))⟩,
                uI (fun k => obR [] (by kernel_rfl) (fun _ => ⟨[], trivial, by kernel_rfl⟩))⟩,
                uI (fun k => obR [] (by kernel_rfl) (fun _ => ⟨[], trivial, by kernel_rfl⟩))⟩,
                uI (fun k => acA [] (by kernel_rfl) (fun _ => ⟨[], trivial, by kernel_rfl⟩) (eb2 c24 rfl))⟩,
                uI (fun k => obR [] (by kernel_rfl) (fun _ => ⟨[], trivial, by kernel_rfl⟩))⟩,
                uI (fun k => obR [] (by kernel_rfl) (fun _ => ⟨[], trivial, by kernel_rfl⟩))⟩,
                uI (fun k => obR [] (by kernel_rfl) (fun _ => ⟨[_], ⟨q25, trivial⟩, by kernel_rfl⟩))⟩,
                uI (fun k => obR [] (by kernel_rfl) (fun _ => ⟨[], trivial, by kernel_rfl⟩))⟩,
                uI (fun k => obR [.pt i21] (by kernel_rfl) (fun _ => ⟨[_], ⟨hi21, trivial⟩, by kernel_rfl⟩))⟩,
                uI (fun k => obR [] (by kernel_rfl) (fun _ => ⟨[], trivial, by kernel_rfl⟩))⟩,
                uI (fun k => obR [.ob dh o22] (by kernel_rfl) (fun _ => ⟨[_], ⟨(Ej (σ := σ) ho22), trivial⟩, by kernel_rfl⟩))⟩,
                uI (fun k => obR [] (by kernel_rfl) (fun _ => ⟨[_], ⟨q26, trivial⟩, by kernel_rfl⟩))⟩ (fun a w G hl2 hE hH => ?_)
        have hle := Gh.le_trans hle hl2
        refine lC 2 [] [(38, .kv .bool ((x19.take (Int.toNat (IntKind.wrap .i64 ((o22.2.1.length : Int) + 1)))) == (o22.2.1 ++ [46])))] (Os := []) trivial hE hH (by kernel_rfl) (fun a hE => ?_)
        refine aP (by kernel_rfl) ?_
        refine Exit.aB (hK23 _ _ ?_)
        refine EL (b := (x19.take (Int.toNat (IntKind.wrap .i64 ((o22.2.1.length : Int) + 1)))) == (o22.2.1 ++ [46])) hE (by kernel_rfl) (fun hc => ?_) (fun hc => ?_)
        · replace h := ifT hc h
          refine wp_seq_k (fun K hK27 => ?_)
          refine aC ?_
          obtain ⟨q28, h⟩ := gd h
          refine lC 3 [] [(41, .kv .str (x19.drop (Int.toNat (IntKind.wrap .i64 ((o22.2.1.length : Int) + 1)))))] (Os := [_]) ⟨q28, trivial⟩ hE hH (by kernel_rfl) (fun a hE => ?_)
          obtain ⟨r29, hr29, h⟩ := bs h
          refine RH (d := (some 42)) (Ua (k := .str) (kr := .i) (g := fun (x : List UInt8) (_ : St) => su x) IJ hr29) hE hH (aN.cons (fun _ _ _ => rfl) hN) (by kernel_rfl) (by kernel_rfl) trivial (fun a w G hl3 hE hH => ?_)
          have hle := Gh.le_trans hle hl3
          refine lC 1 [] [(7, .kv .i r29)] (Os := []) trivial hE hH (by kernel_rfl) (fun a hE => ?_)
          refine aP (by kernel_rfl) ?_
          refine Exit.aB (hK27 _ _ ?_)
          refine wp_seq_k (fun K hK30 => ?_)
          refine aC ?_
          refine lC 2 [] [(44, .kv .bool (decide (r29 ≥ 0)))] (Os := []) trivial hE hH (by kernel_rfl) (fun a hE => ?_)
          refine aP (by kernel_rfl) ?_
          refine Exit.aB (hK30 _ _ ?_)
          refine EL (b := decide (r29 ≥ 0)) hE (by kernel_rfl) (fun hc => ?_) (fun hc => ?_)
          · replace h := ifT hc h
            refine aC ?_
            refine lC 2 [] [(45, .val v8), (46, .kv .i r29)] (Os := []) trivial hE hH (by kernel_rfl) (fun a hE => ?_)
            refine Uc (d := (some 47)) .i [r29] hE hH (by kernel_rfl) (by kernel_rfl) (fun a w G hl4 hE hH => ?_)
            have hle := Gh.le_trans hle hl4
            obtain ⟨q31, h⟩ := gd h
            refine RG (bt := 8) (ys := [r29]) (e' := 3) (d := (some 48)) 0 hE hH (by kernel_rfl) rfl (by kernel_rfl) q31 (fun v32 a w G hl5 hE hH _ _ => ?_)
            have hle := Gh.le_trans hle hl5
            refine lC 1 [] [(3, .val v32)] (Os := []) trivial hE hH (by kernel_rfl) (fun a hE => ?_)
            refine aP (by kernel_rfl) ?_
            refine Exit.wJ ?_
            refine Exit.aB (hK17 _ _ ?_)
            refine aC ?_
            refine lC 2 [] [(14, .kv .i (IntKind.wrap .i64 (x10 + 1)))] (Os := []) trivial hE hH (by kernel_rfl) (fun a hE => ?_)
            refine aP (by kernel_rfl) ?_
            refine Exit.aB ?_
            exact ih14 _ _ _ h _ _ _ v32 hle (hE.Am (by kernel_rfl)) hH hx12
          · replace h := ifF hc h
            refine wp_skip ?_
            refine Exit.wJ ?_
            refine Exit.aB (hK17 _ _ ?_)
            refine aC ?_
            refine lC 2 [] [(14, .kv .i (IntKind.wrap .i64 (x10 + 1)))] (Os := []) trivial hE hH (by kernel_rfl) (fun a hE => ?_)
            refine aP (by kernel_rfl) ?_
            refine Exit.aB ?_
            exact ih14 _ _ _ h _ _ _ v8 hle (hE.Am (by kernel_rfl)) hH hx12
        · replace h := ifF hc h
          refine wp_skip ?_
          refine Exit.wJ ?_
          refine Exit.aB (hK17 _ _ ?_)
          refine aC ?_
          refine lC 2 [] [(14, .kv .i (IntKind.wrap .i64 (x10 + 1)))] (Os := []) trivial hE hH (by kernel_rfl) (fun a hE => ?_)
          refine aP (by kernel_rfl) ?_
          refine Exit.aB ?_
          exact ih14 _ _ _ h _ _ _ v8 hle (hE.Am (by kernel_rfl)) hH hx12
      · replace h := ifN hc h
        have c33 := hc
        refine KX 13 [] [(0, 0), (0, 0), (0, 0), (0, 0), (0, 0), (0, 0), (0, 0), (0, 0), (0, 0), (0, 0), (0, 0), (0, 0), (0, 0)] [.kv .str x19, .kv .i (x19.length : Int), .kv .i (IntKind.wrap .i64 ((o22.2.1.length : Int) + 1)), .kv .bool (decide ((x19.length : Int) > (IntKind.wrap .i64 ((o22.2.1.length : Int) + 1)))), .kv .bool false, .undef, .undef, .undef, .undef, .undef, .undef, .undef, .undef] (fun _ => aU TB σ) (fun _ _ => LS.raw v8 3 8 .i l9 :: Ls) (by kernel_rfl) (by kernel_rfl) hE hH
                ⟨⟨⟨⟨⟨⟨⟨⟨⟨⟨⟨⟨⟨trivial,
                uI (fun k => obR [] (by kernel_rfl) (fun _ => ⟨[], trivial, by kernel_rfl⟩))⟩,
                uI (fun k => obR [] (by kernel_rfl) (fun _ => ⟨[], trivial, by kernel_rfl⟩))⟩,
                uI (fun k => obR [] (by kernel_rfl) (fun _ => ⟨[], trivial, by kernel_rfl⟩))⟩,
                uI (fun k => obR [] (by kernel_rfl) (fun _ => ⟨[], trivial, by kernel_rfl⟩))⟩,
                uI (fun k => acA [] (by kernel_rfl) (fun _ => ⟨[], trivial, by kernel_rfl⟩) (eb2 (bf c33) rfl))⟩,
                uI (fun k => obR [] (by kernel_rfl) (fun _ => ⟨[], trivial, by kernel_rfl⟩))⟩,
                uI (fun k => obR [] (by kernel_rfl) (fun _ => ⟨[], trivial, by kernel_rfl⟩))⟩,
                uI (fun k => obR [] (by kernel_rfl) (fun _ => ⟨[], trivial, by kernel_rfl⟩))⟩,
                uI (fun k => obR [] (by kernel_rfl) (fun _ => ⟨[], trivial, by kernel_rfl⟩))⟩,
                uI (fun k => obR [] (by kernel_rfl) (fun _ => ⟨[], trivial, by kernel_rfl⟩))⟩,
                uI (fun k => obR [] (by kernel_rfl) (fun _ => ⟨[], trivial, by kernel_rfl⟩))⟩,
                uI (fun k => obR [] (by kernel_rfl) (fun _ => ⟨[], trivial, by kernel_rfl⟩))⟩,
                uI (fun k => obR [] (by kernel_rfl) (fun _ => ⟨[], trivial, by kernel_rfl⟩))⟩ (fun a w G hl6 hE hH => ?_)
        have hle := Gh.le_trans hle hl6
        refine lC 2 [] [(38, .kv .bool false)] (Os := []) trivial hE hH (by kernel_rfl) (fun a hE => ?_)
        refine aP (by kernel_rfl) ?_
        refine Exit.aB (hK23 _ _ ?_)
        refine XB hE (by kernel_rfl) rfl ?_
        refine wp_skip ?_
        refine Exit.wJ ?_
        refine Exit.aB (hK17 _ _ ?_)
        refine aC ?_
        refine lC 2 [] [(14, .kv .i (IntKind.wrap .i64 (x10 + 1)))] (Os := []) trivial hE hH (by kernel_rfl) (fun a hE => ?_)
        refine aP (by kernel_rfl) ?_
        refine Exit.aB ?_
        exact ih14 _ _ _ h _ _ _ v8 hle (hE.Am (by kernel_rfl)) hH hx12
    · replace h := ifF hc h
      refine wp_exit ?_
      refine Exit.wO ?_
      refine Exit.wO ?_
      cases h
      exact hx12 _ rfl _ _ _ v8 hle (hE.Am (by kernel_rfl)) hH
  refine key _ _ _ hz34 _ _ _ (.slice none 0 0) hle (hE.Am (by kernel_rfl)) hH ?_
  · intro z35 hz a w G v8 hle hE hH
    subst hz
    rw [hQ]
    refine Exit.UZ ?_
    refine Exit.aB (hK3 _ _ ?_)
    refine wp_seq_k (fun K hK36 => ?_)
    refine aC ?_
    refine lC 1 [] [(50, .val v8)] (Os := []) trivial hE hH (by kernel_rfl) (fun a hE => ?_)
    obtain ⟨q37, h⟩ := gd h
    refine N8 (f := 95) (As := [.val v8]) (R := .tup []) (d := (some 51)) (T' := aU TB σ) (Ls' := LS.raw v8 3 8 .i (tK z34.1) :: Ls) (by kernel_rfl) (fun args hA => ?_) hE (by kernel_rfl) (by kernel_rfl) trivial (fun a w G hl7 hE hH => ?_)
    · obtain rfl := aaA hA
      exact PU (j := 0) hH rfl q37
    · have hle := Gh.le_trans hle hl7
      obtain ⟨G, hl8, hv38, hH⟩ := hH.acO
      have hle := Gh.le_trans hle hl8
      have hE := hE.mono hl8
      have hE := dD.more (v := v8) (e := .kv (.list .i) (tK z34.1)) hE 3 (by kernel_rfl) hv38
      have hE := dD.more (v := v8) (e := .kv (.list .i) (tK z34.1)) hE 50 (by kernel_rfl) hv38
      refine aP (by kernel_rfl) ?_
      refine Exit.aB (hK36 _ _ ?_)
      refine wp_seq_k (fun K hK39 => ?_)
      refine aC ?_
      refine lC 2 [] [(2, .kv (.list .i) (tK z34.1))] (Os := []) trivial hE hH (by kernel_rfl) (fun a hE => ?_)
      refine aP (by kernel_rfl) ?_
      refine Exit.aB (hK39 _ _ ?_)
      refine wp_ret ?_
      cases h
      exact Y9 rfl hE hle hH (by kernel_rfl)
noncomputable def y7 : Kn St := ⟨61, [.kv (.ptr jl)], [.kv (.list .i)], .ro fun x σ => iR x.1 σ⟩
theorem Du : y7.ok Tryz.prog TB := Em (by kernel_rfl) fun _ _ _ h => C9 h
end Go.Proofs.YtbnmhjobnepajaaGreat.M


set_option maxRecDepth 100000
namespace Go.Proofs.YtbnmhjobnepajaaGreat.M
open Go.Proofs
noncomputable def Ez (self : Int → Option (List UInt8)) (p0 : Int) : Option (List UInt8) :=
  if decide (p0 < 10) = true then
  some (bT [IntKind.wrap .u8 (IntKind.wrap .i64 (48 + p0))])
  else
  Option.bind (self (IntKind.wrap .i64 (p0.tdiv (10 : Int)))) fun x0 =>
  if (x0.length + (bT [IntKind.wrap .u8 (IntKind.wrap .i64 (48 + p0.tmod (10 : Int)))]).length) ≤ 9223372036854775807 then
  some (x0 ++ bT [IntKind.wrap .u8 (IntKind.wrap .i64 (48 + p0.tmod (10 : Int)))])
  else
  none
noncomputable def mF (p0 : Int) : Option (List UInt8) :=
  if decide (p0 < 10) = true then
  some (bT [IntKind.wrap .u8 (IntKind.wrap .i64 (48 + p0))])
  else
  mF (IntKind.wrap .i64 (p0.tdiv (10 : Int))) >>= fun x0 =>
  if (x0.length + (bT [IntKind.wrap .u8 (IntKind.wrap .i64 (48 + p0.tmod (10 : Int)))]).length) ≤ 9223372036854775807 then
  some (x0 ++ bT [IntKind.wrap .u8 (IntKind.wrap .i64 (48 + p0.tmod (10 : Int)))])
  else
  none
  partial_fixpoint
noncomputable def Fz : Kn St := ⟨71, [.kv .i], [.kv .str], .ro fun x σ => mF x.1⟩
theorem Qp (self : Int → Option (List UInt8)) (h : Kn.ok Tryz.prog TB (⟨71, [.kv .i], [.kv .str], .ro fun x σ => self x.1⟩ : Kn St)) : Kn.ok Tryz.prog TB (⟨71, [.kv .i], [.kv .str], .ro fun x σ => Ez self x.1⟩ : Kn St) :=
  iI ⟨Tryz.prog, TB, 20, KLs, MLs, [], [], [], [⟨71, [.kv .i], [.kv .str], .ro fun x σ => self x.1⟩]⟩ ⟨[], [], [], []⟩ aV ⟨h, trivial⟩ (fn := Tryz.f71) (by kernel_rfl) (by kernel_rfl) (by kernel_rfl)
theorem II : Fz.ok Tryz.prog TB := by
  have hc : callable Tryz.prog 71 = true := by kernel_rfl
  refine KN hc fun x y hx => ?_
  obtain ⟨n, ⟨⟩⟩ := x
  exact mF.partial_correctness (fun n r => Sr Tryz.prog TB 71 [.kv .i] [.kv .str] (n, ()) r)
    (fun self ih n r h => TY (P := Tryz.prog) (TB := TB) (f := 71) (ps := [.kv .i]) (rs := [.kv .str]) (g := fun x => Ez self x.1) (Qp self (KN hc fun x y hx => ih x.1 y hx)) (x := (n, ())) h) n y hx
end Go.Proofs.YtbnmhjobnepajaaGreat.M


set_option maxRecDepth 100000
namespace Go.Proofs.YtbnmhjobnepajaaGreat.M
open Go.Proofs
noncomputable def qK (p0 : Int) (σ : St) : Option (((Option Nat) × Int) × St) :=
  if (decide (p0 < 0) || decide (p0 > 1048576)) = true then
  some ((none, (2 : Int)), σ)
  else
  some ((some σ.af.length, (0 : Int)), (σ.bF (σ.af ++ [(p0, ([], ((0 : Int), (false, ()))))])))

noncomputable def Eg : Kn St := ⟨8, [.kv .i], [.kv (.ptr di), .kv .i], .rw fun x σ => qK x.1 σ⟩

theorem DK : Eg.ok Tryz.prog TB := mM ⟨Tryz.prog, TB, 14, KLs, MLs, [], [], [], []⟩ ⟨[], [], [], []⟩ aV trivial (fn := Tryz.f8) (by kernel_rfl) (by kernel_rfl) (by kernel_rfl)
noncomputable def rZ (p0 : List UInt8) (s0 : Int) : Option (Int ⊕ (Unit ⊕ Bool)) :=
  if decide (s0 < (p0.length : Int)) = true then
  if 0 ≤ s0 ∧ s0 < (p0.length : Int) then
  if ((!(decide (btS p0 s0 < 97))) = true → 0 ≤ s0 ∧ s0 < (p0.length : Int)) then
  if (decide (btS p0 s0 < 97) || decide (btS p0 s0 > 122)) = true then
  some (.inr (.inr false))
  else
  some (.inl (IntKind.wrap .i64 (s0 + 1)))
  else
  none
  else
  none
  else
  some (.inr (.inl ()))

noncomputable def xR (p0 : List UInt8) : Option Bool :=
  Option.bind (bC (rZ p0) (0 : Int)) fun x1 =>
  ku x1 (fun x2 =>
  some (decide ((p0.length : Int) ≥ 1) && decide ((p0.length : Int) ≤ 8))) Option.some

noncomputable def H9 : Kn St := ⟨34, [.kv .str], [.kv .bool], .ro fun x σ => xR x.1⟩

theorem Kv : H9.ok Tryz.prog TB := iI ⟨Tryz.prog, TB, 28, KLs, MLs, [], [], [], []⟩ ⟨[], [], [], [(2, ⟨[(6, .kv .i)], false, [⟨.ext 0, []⟩], true, []⟩)]⟩ aV trivial (fn := Tryz.f34) (by kernel_rfl) (by kernel_rfl) (by kernel_rfl)
noncomputable def oU (p0 : Option Nat) (σ : St) : Option Bool :=
  Option.bind (if (!p0.isNone) = true then
  p0
  else
  some 0) fun x0 =>
  Option.bind (if (!p0.isNone) = true then
  σ.af[x0]?
  else
  some ((0 : Int), ([], ((0 : Int), (false, ()))))) fun x1 =>
  some ((!p0.isNone) && x1.2.2.2.1)

noncomputable def yM : Kn St := ⟨35, [.kv (.ptr di)], [.kv .bool], .ro fun x σ => oU x.1 σ⟩

theorem Dh : yM.ok Tryz.prog TB := iI ⟨Tryz.prog, TB, 11, KLs, MLs, [], [], [], []⟩ ⟨[], [], [], []⟩ aV trivial (fn := Tryz.f35) (by kernel_rfl) (by kernel_rfl) (by kernel_rfl)
noncomputable def lL (p0 : Option Nat) (σ : St) : Option (Option Nat) :=
  Option.bind p0 fun x0 =>
  Option.bind σ.aj[x0]? fun x1 =>
  if ((x1.2.2.2.1.length : Int) == 0) = true then
  some none
  else
  Option.bind p0 fun x2 =>
  Option.bind σ.aj[x2]? fun x3 =>
  Option.bind p0 fun x4 =>
  Option.bind σ.aj[x4]? fun x5 =>
  Option.bind (ix x3.2.2.2.1 (IntKind.wrap .i64 ((x5.2.2.2.1.length : Int) - 1))) fun x6 =>
  some x6

noncomputable def tC : Kn St := ⟨37, [.kv (.ptr jl)], [.kv (.ptr kZ)], .ro fun x σ => lL x.1 σ⟩

theorem tH : tC.ok Tryz.prog TB := iI ⟨Tryz.prog, TB, 21, KLs, MLs, [], [], [], []⟩ ⟨[], [], [], []⟩ aV trivial (fn := Tryz.f37) (by kernel_rfl) (by kernel_rfl) (by kernel_rfl)
noncomputable def iE (p0 : Option Nat) (σ : St) : Option Int :=
  Option.bind (if (!p0.isNone) = true then
  p0
  else
  some 0) fun x0 =>
  Option.bind (if (!p0.isNone) = true then
  σ.aj[x0]?
  else
  some (none, ([], ((0 : Int), ([], ((0 : Int), ())))))) fun x1 =>
  if (p0.isNone || ((x1.2.2.2.1.length : Int) == 0)) = true then
  some (0 : Int)
  else
  Option.bind (lL p0 σ) fun x2 =>
  Option.bind x2 fun x3 =>
  Option.bind σ.ae[x3]? fun x4 =>
  Option.bind x2 fun x5 =>
  Option.bind σ.ae[x5]? fun x6 =>
  some (IntKind.wrap .i64 (x4.1 + (x6.2.1.length : Int)))

noncomputable def lU : Kn St := ⟨30, [.kv (.ptr jl)], [.kv .i], .ro fun x σ => iE x.1 σ⟩

theorem kU : lU.ok Tryz.prog TB := iI ⟨Tryz.prog, TB, 26, KLs, MLs, [], [], [], [tC]⟩ ⟨[], [], [], []⟩ aV ⟨tH, trivial⟩ (fn := Tryz.f30) (by kernel_rfl) (by kernel_rfl) (by kernel_rfl)
noncomputable def gq (p0 : Option Nat) (p1 : Option Nat) (σ : St) : Option (List UInt8) :=
  Option.bind p0 fun x0 =>
  Option.bind σ.aj[x0]? fun x1 =>
  if (x1.2.1.length + 1) ≤ 9223372036854775807 then
  Option.bind p1 fun x2 =>
  Option.bind σ.ae[x2]? fun x3 =>
  Option.bind (mF x3.1) fun x4 =>
  if ((x1.2.1 ++ [46]).length + x4.length) ≤ 9223372036854775807 then
  some ((x1.2.1 ++ [46]) ++ x4)
  else
  none
  else
  none

noncomputable def oL : Kn St := ⟨40, [.kv (.ptr jl), .kv (.ptr kZ)], [.kv .str], .ro fun x σ => gq x.1 x.2.1 σ⟩

theorem nV : oL.ok Tryz.prog TB := iI ⟨Tryz.prog, TB, 16, KLs, MLs, [], [], [], [Fz]⟩ ⟨[], [], [], []⟩ aV ⟨II, trivial⟩ (fn := Tryz.f40) (by kernel_rfl) (by kernel_rfl) (by kernel_rfl)
noncomputable def kM (p0 : Option Nat) (σ : St) : Option Int :=
  if p0.isNone = true then
  some (1 : Int)
  else
  Option.bind p0 fun x0 =>
  Option.bind σ.af[x0]? fun x1 =>
  if x1.2.2.2.1 = true then
  some (11 : Int)
  else
  some (0 : Int)

noncomputable def sZ : Kn St := ⟨51, [.kv (.ptr di)], [.kv .i], .ro fun x σ => kM x.1 σ⟩

theorem uS : sZ.ok Tryz.prog TB := iI ⟨Tryz.prog, TB, 11, KLs, MLs, [], [], [], []⟩ ⟨[], [], [], []⟩ aV trivial (fn := Tryz.f51) (by kernel_rfl) (by kernel_rfl) (by kernel_rfl)
noncomputable def iO (p0 : Option Nat) (p1 : List UInt8) (σ : St) : Option ((Option Nat) × Int) :=
  Option.bind (kM p0 σ) fun x0 =>
  if (x0 != 0) = true then
  some (none, x0)
  else
  Option.bind p0 fun x1 =>
  Option.bind σ.af[x1]? fun x2 =>
  Option.bind σ.af[x1]? fun x3 =>
  if ((bZ Kd.str (Kd.ptr 93) p1 x3.2.1).getD none).isNone = true then
  some (none, (8 : Int))
  else
  some ((bZ Kd.str (Kd.ptr 93) p1 x3.2.1).getD none, (0 : Int))

noncomputable def lN : Kn St := ⟨72, [.kv (.ptr di), .kv .str], [.kv (.ptr au), .kv .i], .ro fun x σ => iO x.1 x.2.1 σ⟩

theorem lH : lN.ok Tryz.prog TB := iI ⟨Tryz.prog, TB, 22, KLs, MLs, [], [], [], [sZ]⟩ ⟨[], [], [], []⟩ aV ⟨uS, trivial⟩ (fn := Tryz.f72) (by kernel_rfl) (by kernel_rfl) (by kernel_rfl)
noncomputable def oV (p0 : Option Nat) (p1 : List UInt8) (σ : St) : Option ((List UInt8) × Int) :=
  Option.bind (iO p0 p1 σ) fun x0 =>
  if (x0.2 != 0) = true then
  some ([], x0.2)
  else
  Option.bind x0.1 fun x1 =>
  Option.bind σ.ai[x1]? fun x2 =>
  some (x2.1, (0 : Int))

noncomputable def yO : Kn St := ⟨96, [.kv (.ptr di), .kv .str], [.kv .str, .kv .i], .ro fun x σ => oV x.1 x.2.1 σ⟩

theorem Dj : yO.ok Tryz.prog TB := iI ⟨Tryz.prog, TB, 21, KLs, MLs, [], [], [], [lN]⟩ ⟨[], [], [], []⟩ aV ⟨lH, trivial⟩ (fn := Tryz.f96) (by kernel_rfl) (by kernel_rfl) (by kernel_rfl)
noncomputable def jL (p0 : List UInt8) (p1 : Int) (s0 : Int × Int) : Option ((Int × Int) ⊕ (Unit ⊕ (Int × Int × Int))) :=
  if decide (IntKind.wrap .i64 (p1 + s0.2) < (p0.length : Int)) = true then
  if 0 ≤ IntKind.wrap .i64 (p1 + s0.2) ∧ IntKind.wrap .i64 (p1 + s0.2) < (p0.length : Int) then
  if ((s0.2 == 9) && decide (btS p0 (IntKind.wrap .i64 (p1 + s0.2)) > 1)) = true then
  some (.inr (.inr ((0 : Int), ((0 : Int), (6 : Int)))))
  else
  if 0 ≤ IntKind.wrap .i64 (7 * s0.2) then
  if decide (btS p0 (IntKind.wrap .i64 (p1 + s0.2)) ≥ 128) = true then
  some (.inl (IntKind.wrap .u64 ((BitVec.ofInt 64 s0.1 ||| BitVec.ofInt 64 (IntKind.wrap .u64 (IntKind.wrap .u64 (IntKind.wrap .u8 ((BitVec.ofInt 8 (btS p0 (IntKind.wrap .i64 (p1 + s0.2))) &&& BitVec.ofInt 8 (127 : Int)).toNat : Int)) * (2 ^ min ((IntKind.wrap .i64 (7 * s0.2)).toNat) 64)))).toNat : Int), IntKind.wrap .i64 (s0.2 + 1)))
  else
  if ((btS p0 (IntKind.wrap .i64 (p1 + s0.2)) == 0) && decide (s0.2 > 0)) = true then
  some (.inr (.inr ((0 : Int), ((0 : Int), (6 : Int)))))
  else
  Option.bind (if (IntKind.wrap .u64 ((BitVec.ofInt 64 (IntKind.wrap .u64 ((BitVec.ofInt 64 s0.1 ||| BitVec.ofInt 64 (IntKind.wrap .u64 (IntKind.wrap .u64 (IntKind.wrap .u8 ((BitVec.ofInt 8 (btS p0 (IntKind.wrap .i64 (p1 + s0.2))) &&& BitVec.ofInt 8 (127 : Int)).toNat : Int)) * (2 ^ min ((IntKind.wrap .i64 (7 * s0.2)).toNat) 64)))).toNat : Int)) &&& BitVec.ofInt 64 (1 : Int)).toNat : Int) == 1) = true then
  some (IntKind.wrap .i64 ((BitVec.ofInt 64 (-1 : Int) ^^^ BitVec.ofInt 64 (IntKind.wrap .i64 ((IntKind.wrap .u64 ((BitVec.ofInt 64 s0.1 ||| BitVec.ofInt 64 (IntKind.wrap .u64 (IntKind.wrap .u64 (IntKind.wrap .u8 ((BitVec.ofInt 8 (btS p0 (IntKind.wrap .i64 (p1 + s0.2))) &&& BitVec.ofInt 8 (127 : Int)).toNat : Int)) * (2 ^ min ((IntKind.wrap .i64 (7 * s0.2)).toNat) 64)))).toNat : Int)).fdiv (2 : Int)))).toNat : Int))
  else
  some (IntKind.wrap .i64 ((IntKind.wrap .u64 ((BitVec.ofInt 64 s0.1 ||| BitVec.ofInt 64 (IntKind.wrap .u64 (IntKind.wrap .u64 (IntKind.wrap .u8 ((BitVec.ofInt 8 (btS p0 (IntKind.wrap .i64 (p1 + s0.2))) &&& BitVec.ofInt 8 (127 : Int)).toNat : Int)) * (2 ^ min ((IntKind.wrap .i64 (7 * s0.2)).toNat) 64)))).toNat : Int)).fdiv (2 : Int)))) fun x1 =>
  some (.inr (.inr (x1, (IntKind.wrap .i64 (IntKind.wrap .i64 (p1 + s0.2) + 1), (0 : Int)))))
  else
  none
  else
  none
  else
  some (.inr (.inl ()))

noncomputable def eQ (p0 : List UInt8) (p1 : Int) : Option (Int × Int × Int) :=
  if (decide (p1 < 0) || decide (p1 > (p0.length : Int))) = true then
  some ((0 : Int), ((0 : Int), (3 : Int)))
  else
  Option.bind (bC (jL p0 p1) ((0 : Int), (0 : Int))) fun x2 =>
  ku x2 (fun x3 =>
  some ((0 : Int), ((0 : Int), (5 : Int)))) Option.some

noncomputable def jH : Kn St := ⟨107, [.kv .str, .kv .i], [.kv .i, .kv .i, .kv .i], .ro fun x σ => eQ x.1 x.2.1⟩

theorem jO : jH.ok Tryz.prog TB := iI ⟨Tryz.prog, TB, 67, KLs, MLs, [], [], [], []⟩ ⟨[], [(16, ⟨[], false, [⟨.nrm, [(10, .kv .i)]⟩], false, []⟩)], [], [(5, ⟨[(7, .kv (.int .u64)), (8, .kv .i)], false, [⟨.ext 0, []⟩], true, []⟩)]⟩ aV trivial (fn := Tryz.f107) (by kernel_rfl) (by kernel_rfl) (by kernel_rfl)
noncomputable def mf (s0 : Int × Int) : Option ((Int × Int) ⊕ Int) :=
  if decide (s0.2 < 8) = true then
  if (IntKind.wrap .u32 ((BitVec.ofInt 32 s0.1 &&& BitVec.ofInt 32 (1 : Int)).toNat : Int) == 1) = true then
  some (.inl (IntKind.wrap .u32 ((BitVec.ofInt 32 (s0.1.fdiv (2 : Int)) ^^^ BitVec.ofInt 32 (2197175160 : Int)).toNat : Int), IntKind.wrap .i64 (s0.2 + 1)))
  else
  some (.inl (s0.1.fdiv (2 : Int), IntKind.wrap .i64 (s0.2 + 1)))
  else
  some (.inr s0.1)

noncomputable def qA (p0 : Int) (p1 : Int) : Option Int :=
  Option.bind (bC mf (IntKind.wrap .u32 ((BitVec.ofInt 32 p0 ^^^ BitVec.ofInt 32 (IntKind.wrap .u32 p1)).toNat : Int), (0 : Int))) fun x1 =>
  some x1

noncomputable def zW : Kn St := ⟨144, [.kv (.int .u32), .kv (.int .u8)], [.kv (.int .u32)], .ro fun x σ => qA x.1 x.2.1⟩

theorem Ed : zW.ok Tryz.prog TB := iI ⟨Tryz.prog, TB, 22, KLs, MLs, [], [], [], []⟩ ⟨[], [], [], [(3, ⟨[(0, .kv (.int .u32)), (10, .kv .i)], false, [⟨.ext 0, [(0, .kv (.int .u32))]⟩], false, []⟩)]⟩ aV trivial (fn := Tryz.f144) (by kernel_rfl) (by kernel_rfl) (by kernel_rfl)
noncomputable def qy (p1 : List UInt8) (s0 : Int × Int) : Option ((Int × Int) ⊕ Int) :=
  if decide (s0.2 < (p1.length : Int)) = true then
  if 0 ≤ s0.2 ∧ s0.2 < (p1.length : Int) then
  Option.bind (qA s0.1 (btS p1 s0.2)) fun x1 =>
  some (.inl (x1, IntKind.wrap .i64 (s0.2 + 1)))
  else
  none
  else
  some (.inr s0.1)

noncomputable def vT (p0 : Int) (p1 : List UInt8) : Option Int :=
  Option.bind (bC (qy p1) (IntKind.wrap .u32 ((BitVec.ofInt 32 (4294967295 : Int) ^^^ BitVec.ofInt 32 p0).toNat : Int), (0 : Int))) fun x2 =>
  some (IntKind.wrap .u32 ((BitVec.ofInt 32 (4294967295 : Int) ^^^ BitVec.ofInt 32 x2).toNat : Int))

noncomputable def Fb : Kn St := ⟨115, [.kv (.int .u32), .kv .str], [.kv (.int .u32)], .ro fun x σ => vT x.1 x.2.1⟩

theorem IA : Fb.ok Tryz.prog TB := iI ⟨Tryz.prog, TB, 22, KLs, MLs, [], [], [], [zW]⟩ ⟨[], [], [], [(3, ⟨[(5, .kv (.int .u32)), (11, .kv .i)], false, [⟨.ext 0, [(5, .kv (.int .u32))]⟩], false, []⟩)]⟩ aV ⟨Ed, trivial⟩ (fn := Tryz.f115) (by kernel_rfl) (by kernel_rfl) (by kernel_rfl)
noncomputable def uJ (p0 : List UInt8) : Option Int :=
  Option.bind (vT (0 : Int) p0) fun x0 =>
  some x0

noncomputable def Bl : Kn St := ⟨101, [.kv .str], [.kv (.int .u32)], .ro fun x σ => uJ x.1⟩

theorem Bo : Bl.ok Tryz.prog TB := iI ⟨Tryz.prog, TB, 5, KLs, MLs, [], [], [], [Fb]⟩ ⟨[], [], [], []⟩ aV ⟨IA, trivial⟩ (fn := Tryz.f101) (by kernel_rfl) (by kernel_rfl) (by kernel_rfl)
noncomputable def qi (p0 : Int) : Option (List UInt8) :=
  some (bT [IntKind.wrap .u8 p0, IntKind.wrap .u8 (p0.fdiv (256 : Int)), IntKind.wrap .u8 (p0.fdiv (65536 : Int)), IntKind.wrap .u8 (p0.fdiv (16777216 : Int))])

noncomputable def yw : Kn St := ⟨100, [.kv (.int .u32)], [.kv .str], .ro fun x σ => qi x.1⟩

theorem yJ : yw.ok Tryz.prog TB := iI ⟨Tryz.prog, TB, 16, KLs, MLs, [], [], [], []⟩ ⟨[], [], [], []⟩ aV trivial (fn := Tryz.f100) (by kernel_rfl) (by kernel_rfl) (by kernel_rfl)
noncomputable def vU (p0 : List UInt8) : Option ((List UInt8) × Int) :=
  if decide (IntKind.wrap .i64 ((p0.length : Int) - 4) < 0) = true then
  some ([], (5 : Int))
  else
  if 0 ≤ IntKind.wrap .i64 ((p0.length : Int) - 4) ∧ IntKind.wrap .i64 ((p0.length : Int) - 4) ≤ (p0.length : Int) then
  Option.bind (uJ (p0.take ((IntKind.wrap .i64 ((p0.length : Int) - 4)).toNat))) fun x0 =>
  Option.bind (qi x0) fun x1 =>
  if 0 ≤ IntKind.wrap .i64 ((p0.length : Int) - 4) ∧ IntKind.wrap .i64 ((p0.length : Int) - 4) ≤ (p0.length : Int) then
  if (!(x1 == p0.drop ((IntKind.wrap .i64 ((p0.length : Int) - 4)).toNat))) = true then
  some ([], (7 : Int))
  else
  if 0 ≤ IntKind.wrap .i64 ((p0.length : Int) - 4) ∧ IntKind.wrap .i64 ((p0.length : Int) - 4) ≤ (p0.length : Int) then
  some (p0.take ((IntKind.wrap .i64 ((p0.length : Int) - 4)).toNat), (0 : Int))
  else
  none
  else
  none
  else
  none

noncomputable def Fe : Kn St := ⟨143, [.kv .str], [.kv .str, .kv .i], .ro fun x σ => vU x.1⟩

theorem IB : Fe.ok Tryz.prog TB := iI ⟨Tryz.prog, TB, 24, KLs, MLs, [], [], [], [Bl, yw]⟩ ⟨[], [], [], []⟩ aV ⟨Bo, yJ, trivial⟩ (fn := Tryz.f143) (by kernel_rfl) (by kernel_rfl) (by kernel_rfl)
noncomputable def mD (s1 : Int × (Int × Int × Int × Int × Int × Int × Int × Int × Int × Int × Unit) × Int) : Option ((Int × (Int × Int × Int × Int × Int × Int × Int × Int × Int × Int × Unit) × Int) ⊕ (Int × (Int × Int × Int × Int × Int × Int × Int × Int × Int × Int × Unit) × Int)) :=
  if decide (s1.1 ≥ 128) = true then
  if 0 ≤ s1.2.2 ∧ s1.2.2 < 10 then
  some (.inl (s1.1.fdiv (128 : Int), (xA (Kd.pair (Kd.int Go.IntKind.u8) (Kd.pair (Kd.int Go.IntKind.u8) (Kd.pair (Kd.int Go.IntKind.u8) (Kd.pair (Kd.int Go.IntKind.u8) (Kd.pair (Kd.int Go.IntKind.u8) (Kd.pair (Kd.int Go.IntKind.u8) (Kd.pair (Kd.int Go.IntKind.u8) (Kd.pair (Kd.int Go.IntKind.u8) (Kd.pair (Kd.int Go.IntKind.u8) (Kd.pair (Kd.int Go.IntKind.u8) Kd.unit)))))))))) s1.2.1 s1.2.2.toNat (IntKind.wrap .u8 ((BitVec.ofInt 8 (IntKind.wrap .u8 s1.1) ||| BitVec.ofInt 8 (128 : Int)).toNat : Int)), IntKind.wrap .i64 (s1.2.2 + 1))))
  else
  none
  else
  some (.inr (s1.1, (s1.2.1, s1.2.2)))

noncomputable def dV (p0 : Int) : Option (List UInt8) :=
  Option.bind (if decide (p0 < 0) = true then
  some (IntKind.wrap .u64 ((BitVec.ofInt 64 (18446744073709551615 : Int) ^^^ BitVec.ofInt 64 (IntKind.wrap .u64 (IntKind.wrap .u64 p0 * 2))).toNat : Int))
  else
  some (IntKind.wrap .u64 (IntKind.wrap .u64 p0 * 2))) fun x0 =>
  Option.bind (bC mD (x0, (((0 : Int), ((0 : Int), ((0 : Int), ((0 : Int), ((0 : Int), ((0 : Int), ((0 : Int), ((0 : Int), ((0 : Int), ((0 : Int), ())))))))))), (0 : Int)))) fun x2 =>
  if 0 ≤ x2.2.2 ∧ x2.2.2 < 10 then
  if 0 ≤ IntKind.wrap .i64 (x2.2.2 + 1) ∧ IntKind.wrap .i64 (x2.2.2 + 1) ≤ 10 then
  if (IntKind.wrap .i64 (x2.2.2 + 1)).toNat ≤ 10 then
  some (bT ([(xA (Kd.pair (Kd.int Go.IntKind.u8) (Kd.pair (Kd.int Go.IntKind.u8) (Kd.pair (Kd.int Go.IntKind.u8) (Kd.pair (Kd.int Go.IntKind.u8) (Kd.pair (Kd.int Go.IntKind.u8) (Kd.pair (Kd.int Go.IntKind.u8) (Kd.pair (Kd.int Go.IntKind.u8) (Kd.pair (Kd.int Go.IntKind.u8) (Kd.pair (Kd.int Go.IntKind.u8) (Kd.pair (Kd.int Go.IntKind.u8) Kd.unit)))))))))) x2.2.1 x2.2.2.toNat (IntKind.wrap .u8 x2.1)).1, ((xA (Kd.pair (Kd.int Go.IntKind.u8) (Kd.pair (Kd.int Go.IntKind.u8) (Kd.pair (Kd.int Go.IntKind.u8) (Kd.pair (Kd.int Go.IntKind.u8) (Kd.pair (Kd.int Go.IntKind.u8) (Kd.pair (Kd.int Go.IntKind.u8) (Kd.pair (Kd.int Go.IntKind.u8) (Kd.pair (Kd.int Go.IntKind.u8) (Kd.pair (Kd.int Go.IntKind.u8) (Kd.pair (Kd.int Go.IntKind.u8) Kd.unit)))))))))) x2.2.1 x2.2.2.toNat (IntKind.wrap .u8 x2.1)).2).1, (((xA (Kd.pair (Kd.int Go.IntKind.u8) (Kd.pair (Kd.int Go.IntKind.u8) (Kd.pair (Kd.int Go.IntKind.u8) (Kd.pair (Kd.int Go.IntKind.u8) (Kd.pair (Kd.int Go.IntKind.u8) (Kd.pair (Kd.int Go.IntKind.u8) (Kd.pair (Kd.int Go.IntKind.u8) (Kd.pair (Kd.int Go.IntKind.u8) (Kd.pair (Kd.int Go.IntKind.u8) (Kd.pair (Kd.int Go.IntKind.u8) Kd.unit)))))))))) x2.2.1 x2.2.2.toNat (IntKind.wrap .u8 x2.1)).2).2).1, ((((xA (Kd.pair (Kd.int Go.IntKind.u8) (Kd.pair (Kd.int Go.IntKind.u8) (Kd.pair (Kd.int Go.IntKind.u8) (Kd.pair (Kd.int Go.IntKind.u8) (Kd.pair (Kd.int Go.IntKind.u8) (Kd.pair (Kd.int Go.IntKind.u8) (Kd.pair (Kd.int Go.IntKind.u8) (Kd.pair (Kd.int Go.IntKind.u8) (Kd.pair (Kd.int Go.IntKind.u8) (Kd.pair (Kd.int Go.IntKind.u8) Kd.unit)))))))))) x2.2.1 x2.2.2.toNat (IntKind.wrap .u8 x2.1)).2).2).2).1, (((((xA (Kd.pair (Kd.int Go.IntKind.u8) (Kd.pair (Kd.int Go.IntKind.u8) (Kd.pair (Kd.int Go.IntKind.u8) (Kd.pair (Kd.int Go.IntKind.u8) (Kd.pair (Kd.int Go.IntKind.u8) (Kd.pair (Kd.int Go.IntKind.u8) (Kd.pair (Kd.int Go.IntKind.u8) (Kd.pair (Kd.int Go.IntKind.u8) (Kd.pair (Kd.int Go.IntKind.u8) (Kd.pair (Kd.int Go.IntKind.u8) Kd.unit)))))))))) x2.2.1 x2.2.2.toNat (IntKind.wrap .u8 x2.1)).2).2).2).2).1, ((((((xA (Kd.pair (Kd.int Go.IntKind.u8) (Kd.pair (Kd.int Go.IntKind.u8) (Kd.pair (Kd.int Go.IntKind.u8) (Kd.pair (Kd.int Go.IntKind.u8) (Kd.pair (Kd.int Go.IntKind.u8) (Kd.pair (Kd.int Go.IntKind.u8) (Kd.pair (Kd.int Go.IntKind.u8) (Kd.pair (Kd.int Go.IntKind.u8) (Kd.pair (Kd.int Go.IntKind.u8) (Kd.pair (Kd.int Go.IntKind.u8) Kd.unit)))))))))) x2.2.1 x2.2.2.toNat (IntKind.wrap .u8 x2.1)).2).2).2).2).2).1, (((((((xA (Kd.pair (Kd.int Go.IntKind.u8) (Kd.pair (Kd.int Go.IntKind.u8) (Kd.pair (Kd.int Go.IntKind.u8) (Kd.pair (Kd.int Go.IntKind.u8) (Kd.pair (Kd.int Go.IntKind.u8) (Kd.pair (Kd.int Go.IntKind.u8) (Kd.pair (Kd.int Go.IntKind.u8) (Kd.pair (Kd.int Go.IntKind.u8) (Kd.pair (Kd.int Go.IntKind.u8) (Kd.pair (Kd.int Go.IntKind.u8) Kd.unit)))))))))) x2.2.1 x2.2.2.toNat (IntKind.wrap .u8 x2.1)).2).2).2).2).2).2).1, ((((((((xA (Kd.pair (Kd.int Go.IntKind.u8) (Kd.pair (Kd.int Go.IntKind.u8) (Kd.pair (Kd.int Go.IntKind.u8) (Kd.pair (Kd.int Go.IntKind.u8) (Kd.pair (Kd.int Go.IntKind.u8) (Kd.pair (Kd.int Go.IntKind.u8) (Kd.pair (Kd.int Go.IntKind.u8) (Kd.pair (Kd.int Go.IntKind.u8) (Kd.pair (Kd.int Go.IntKind.u8) (Kd.pair (Kd.int Go.IntKind.u8) Kd.unit)))))))))) x2.2.1 x2.2.2.toNat (IntKind.wrap .u8 x2.1)).2).2).2).2).2).2).2).1, (((((((((xA (Kd.pair (Kd.int Go.IntKind.u8) (Kd.pair (Kd.int Go.IntKind.u8) (Kd.pair (Kd.int Go.IntKind.u8) (Kd.pair (Kd.int Go.IntKind.u8) (Kd.pair (Kd.int Go.IntKind.u8) (Kd.pair (Kd.int Go.IntKind.u8) (Kd.pair (Kd.int Go.IntKind.u8) (Kd.pair (Kd.int Go.IntKind.u8) (Kd.pair (Kd.int Go.IntKind.u8) (Kd.pair (Kd.int Go.IntKind.u8) Kd.unit)))))))))) x2.2.1 x2.2.2.toNat (IntKind.wrap .u8 x2.1)).2).2).2).2).2).2).2).2).1, ((((((((((xA (Kd.pair (Kd.int Go.IntKind.u8) (Kd.pair (Kd.int Go.IntKind.u8) (Kd.pair (Kd.int Go.IntKind.u8) (Kd.pair (Kd.int Go.IntKind.u8) (Kd.pair (Kd.int Go.IntKind.u8) (Kd.pair (Kd.int Go.IntKind.u8) (Kd.pair (Kd.int Go.IntKind.u8) (Kd.pair (Kd.int Go.IntKind.u8) (Kd.pair (Kd.int Go.IntKind.u8) (Kd.pair (Kd.int Go.IntKind.u8) Kd.unit)))))))))) x2.2.1 x2.2.2.toNat (IntKind.wrap .u8 x2.1)).2).2).2).2).2).2).2).2).2).1].take ((IntKind.wrap .i64 (x2.2.2 + 1)).toNat)))
  else
  none
  else
  none
  else
  none

noncomputable def jC : Kn St := ⟨66, [.kv .i], [.kv .str], .ro fun x σ => dV x.1⟩

theorem iT : jC.ok Tryz.prog TB := iI ⟨Tryz.prog, TB, 32, KLs, MLs, [], [], [], []⟩ ⟨[], [(3, ⟨[], false, [⟨.nrm, [(3, .kv (.int .u64))]⟩], false, []⟩)], [], [(6, ⟨[(3, .kv (.int .u64)), (4, .box jw), (5, .kv .i)], false, [⟨.ext 0, [(3, .kv (.int .u64)), (4, .box jw), (5, .kv .i)]⟩], false, []⟩)]⟩ aV trivial (fn := Tryz.f66) (by kernel_rfl) (by kernel_rfl) (by kernel_rfl)
noncomputable def Cf (p0 : List UInt8) (p1 : Int) (p2 : Int) : Option ((List UInt8) × Int × Bool) :=
  Option.bind (eQ p0 p1) fun x0 =>
  if (((x0.2.2 != 0) || decide (x0.1 < 0)) || decide (x0.1 > IntKind.wrap .i64 ((p0.length : Int) - x0.2.1))) = true then
  some ([], ((0 : Int), false))
  else
  if 0 ≤ x0.2.1 ∧ x0.2.1 ≤ IntKind.wrap .i64 (x0.2.1 + x0.1) ∧ IntKind.wrap .i64 (x0.2.1 + x0.1) ≤ (p0.length : Int) then
  Option.bind (vU ((p0.take ((IntKind.wrap .i64 (x0.2.1 + x0.1)).toNat)).drop x0.2.1.toNat)) fun x1 =>
  if (x1.2 != 0) = true then
  some ([], ((0 : Int), false))
  else
  Option.bind (dV p2) fun x2 =>
  if ((!(decide ((x1.1.length : Int) < (x2.length : Int)))) = true → 0 ≤ (x2.length : Int) ∧ (x2.length : Int) ≤ (x1.1.length : Int)) then
  if ((decide ((x1.1.length : Int) < (x2.length : Int)) || (!(x1.1.take ((x2.length : Int).toNat) == x2))) || decide (IntKind.wrap .i64 ((x1.1.length : Int) - (x2.length : Int)) > 1024)) = true then
  some ([], ((0 : Int), false))
  else
  if 0 ≤ (x2.length : Int) ∧ (x2.length : Int) ≤ (x1.1.length : Int) then
  some (x1.1.drop ((x2.length : Int).toNat), (IntKind.wrap .i64 (x0.2.1 + x0.1), true))
  else
  none
  else
  none
  else
  none

noncomputable def Nz : Kn St := ⟨114, [.kv .str, .kv .i, .kv .i], [.kv .str, .kv .i, .kv .bool], .ro fun x σ => Cf x.1 x.2.1 x.2.2.1⟩

theorem Pn : Nz.ok Tryz.prog TB := iI ⟨Tryz.prog, TB, 77, KLs, MLs, [], [], [], [jH, Fe, jC]⟩ ⟨[], [], [], []⟩ aV ⟨jO, IB, iT, trivial⟩ (fn := Tryz.f114) (by kernel_rfl) (by kernel_rfl) (by kernel_rfl)
noncomputable def rW (p0 : List UInt8) (p1 : Int) (s0 : (List (List UInt8)) × Int) : Option (((List (List UInt8)) × Int) ⊕ ((List (List UInt8)) × Int)) :=
  if decide (p1 ≥ 0) = true then
  Option.bind (Cf p0 s0.2 (IntKind.wrap .i64 (p1 + (s0.1.length : Int)))) fun x1 =>
  if (!x1.2.2) = true then
  some (.inr (s0.1, s0.2))
  else
  if ((s0.1.length + 1) * 16) ≤ 140737488355328 then
  some (.inl ((s0.1 ++ [x1.1]), x1.2.1))
  else
  none
  else
  some (.inr (s0.1, s0.2))

noncomputable def xQ (p0 : List UInt8) (p1 : Int) : Option ((List (List UInt8)) × Int) :=
  Option.bind (bC (rW p0 p1) ([], (0 : Int))) fun x2 =>
  some (x2.1, x2.2)

noncomputable def H8 : Kn St := ⟨97, [.kv .str, .kv .i], [.own 9 16 .str, .kv .i], .ro fun x σ => xQ x.1 x.2.1⟩

theorem Ku : H8.ok Tryz.prog TB := iI ⟨Tryz.prog, TB, 33, KLs, MLs, [], [17], [], [Nz]⟩ ⟨[], [], [], [(3, ⟨[(6, .own 9 16 .str), (7, .kv .i)], false, [⟨.ext 0, [(6, .own 9 16 .str), (7, .kv .i)]⟩], false, []⟩)]⟩ aV ⟨Pn, trivial⟩ (fn := Tryz.f97) (by kernel_rfl) (by kernel_rfl) (by kernel_rfl)
noncomputable def rV (p0 : Option Nat) (p1 : Int) (σ : St) : Option (((Option Nat) × Int × Int) × St) :=
  Option.bind p0 fun x0 =>
  Option.bind σ.aj[x0]? fun x1 =>
  Option.bind (gq p0 (some σ.ae.length) (σ.aX (σ.ae ++ [(p1, ([], ((0 : Int), ())))]))) fun x2 =>
  Option.bind (oV x1.1 x2 (σ.aX (σ.ae ++ [(p1, ([], ((0 : Int), ())))]))) fun x3 =>
  if (x3.2 != 0) = true then
  some ((none, ((0 : Int), x3.2)), (σ.aX (σ.ae ++ [(p1, ([], ((0 : Int), ())))])))
  else
  Option.bind (xQ x3.1 p1) fun x4 =>
  Option.bind ((σ.ae ++ [(p1, ([], ((0 : Int), ())))])[σ.ae.length]?) fun x5 =>
  Option.bind (((σ.ae ++ [(p1, ([], ((0 : Int), ())))]).set σ.ae.length (x5.1, (x4.1, x5.2.2)))[σ.ae.length]?) fun x6 =>
  Option.bind ((((σ.ae ++ [(p1, ([], ((0 : Int), ())))]).set σ.ae.length (x5.1, (x4.1, x5.2.2))).set σ.ae.length (x6.1, (x6.2.1, (x4.2, x6.2.2.2))))[σ.ae.length]?) fun x7 =>
  some ((some σ.ae.length, (IntKind.wrap .i64 ((x3.1.length : Int) - x7.2.2.1), (0 : Int))), (((σ.aX (σ.ae ++ [(p1, ([], ((0 : Int), ())))])).aX ((σ.ae ++ [(p1, ([], ((0 : Int), ())))]).set σ.ae.length (x5.1, (x4.1, x5.2.2)))).aX (((σ.ae ++ [(p1, ([], ((0 : Int), ())))]).set σ.ae.length (x5.1, (x4.1, x5.2.2))).set σ.ae.length (x6.1, (x6.2.1, (x4.2, x6.2.2.2))))))

noncomputable def BF : Kn St := ⟨62, [.kv (.ptr jl), .kv .i], [.kv (.ptr kZ), .kv .i, .kv .i], .rw fun x σ => rV x.1 x.2.1 σ⟩

theorem Fv : BF.ok Tryz.prog TB := mM ⟨Tryz.prog, TB, 47, KLs, MLs, [], [], [], [oL, yO, H8]⟩ ⟨[], [], [], []⟩ aV ⟨nV, Dj, Ku, trivial⟩ (fn := Tryz.f62) (by kernel_rfl) (by kernel_rfl) (by kernel_rfl)
noncomputable def jc (p0 : Nat) (p1 : Nat) (σ : St) : Option (Unit × St) :=
  Option.bind σ.kW[p0]? fun x0 =>
  Option.bind x0.1 fun x1 =>
  Option.bind σ.af[x1]? fun x2 =>
  Option.bind σ.qV[p1]? fun x3 =>
  Option.bind σ.af[x1]? fun x4 =>
  some ((), (σ.bF (σ.af.set x1 (x4.1, (xw Kd.str (Kd.ptr 93) x3.1 x4.2.1, x4.2.2)))))

noncomputable def uP : Kn St := ⟨98, [.cap OB, .cap Sz], [], .rw fun x σ => jc x.1 x.2.1 σ⟩

theorem yP : uP.ok Tryz.prog TB := mM ⟨Tryz.prog, TB, 7, KLs, MLs, [], [], [], []⟩ ⟨[], [], [], []⟩ aV trivial (fn := Tryz.f98) (by kernel_rfl) (by kernel_rfl) (by kernel_rfl)
noncomputable def dU (p0 : Option Nat) (p1 : Nat × Nat × Unit) (σ : St) : Option (Int × St) :=
  Option.bind p0 fun x0 =>
  Option.bind σ.af[x0]? fun x1 =>
  if decide (x1.2.2.1 > 0) = true then
  Option.bind p0 fun x2 =>
  Option.bind σ.af[x2]? fun x3 =>
  Option.bind p0 fun x4 =>
  Option.bind σ.af[x4]? fun x5 =>
  Option.bind p0 fun x6 =>
  Option.bind ((σ.af.set x4 (x5.1, (x5.2.1, (IntKind.wrap .i64 (x3.2.2.1 - 1), x5.2.2.2))))[x6]?) fun x7 =>
  if (x7.2.2.1 == 0) = true then
  Option.bind p0 fun x8 =>
  Option.bind ((σ.af.set x4 (x5.1, (x5.2.1, (IntKind.wrap .i64 (x3.2.2.1 - 1), x5.2.2.2))))[x8]?) fun x9 =>
  some ((11 : Int), ((σ.bF (σ.af.set x4 (x5.1, (x5.2.1, (IntKind.wrap .i64 (x3.2.2.1 - 1), x5.2.2.2))))).bF ((σ.af.set x4 (x5.1, (x5.2.1, (IntKind.wrap .i64 (x3.2.2.1 - 1), x5.2.2.2)))).set x8 (x9.1, (x9.2.1, (x9.2.2.1, (true, x9.2.2.2.2)))))))
  else
  Option.bind (jc p1.1 p1.2.1 (σ.bF (σ.af.set x4 (x5.1, (x5.2.1, (IntKind.wrap .i64 (x3.2.2.1 - 1), x5.2.2.2)))))) fun x10 =>
  some ((0 : Int), x10.2)
  else
  Option.bind (jc p1.1 p1.2.1 σ) fun x11 =>
  some ((0 : Int), x11.2)

noncomputable def jG : Kn St := ⟨69, [.kv (.ptr di), .clo 98 [OB, Sz]], [.kv .i], .rw fun x σ => dU x.1 x.2.1 σ⟩

theorem nZ : jG.ok Tryz.prog TB := mM ⟨Tryz.prog, TB, 27, KLs, MLs, [], [], [], [uP]⟩ ⟨[], [], [], []⟩ aV ⟨yP, trivial⟩ (fn := Tryz.f69) (by kernel_rfl) (by kernel_rfl) (by kernel_rfl)
noncomputable def mi (p0 : Option Nat) (p1 : List UInt8) (σ : St) : Option (Int × St) :=
  Option.bind ((σ.kW ++ [(p0, ())])[σ.kW.length]?) fun x0 =>
  Option.bind ((σ.qV ++ [(p1, ())])[σ.qV.length]?) fun x1 =>
  Option.bind (iO x0.1 x1.1 ((σ.CW (σ.kW ++ [(p0, ())])).F7 (σ.qV ++ [(p1, ())]))) fun x2 =>
  if (x2.2 != 0) = true then
  some (x2.2, ((σ.CW (σ.kW ++ [(p0, ())])).F7 (σ.qV ++ [(p1, ())])))
  else
  Option.bind ((σ.kW ++ [(p0, ())])[σ.kW.length]?) fun x3 =>
  Option.bind (dU x3.1 (σ.kW.length, (σ.qV.length, ())) ((σ.CW (σ.kW ++ [(p0, ())])).F7 (σ.qV ++ [(p1, ())]))) fun x4 =>
  some (x4.1, x4.2)

noncomputable def xe : Kn St := ⟨63, [.kv (.ptr di), .kv .str], [.kv .i], .rw fun x σ => mi x.1 x.2.1 σ⟩

theorem Ah : xe.ok Tryz.prog TB := mM ⟨Tryz.prog, TB, 19, KLs, MLs, [2, 3], [], [], [lN, jG]⟩ ⟨[], [], [], []⟩ aV ⟨lH, nZ, trivial⟩ (fn := Tryz.f63) (by kernel_rfl) (by kernel_rfl) (by kernel_rfl)
noncomputable def iy (p0 : Nat) (p1 : Nat) (σ : St) : Option (Unit × St) :=
  Option.bind σ.aF[p0]? fun x0 =>
  Option.bind σ.aF[p0]? fun x1 =>
  Option.bind x1.1 fun x2 =>
  Option.bind σ.ai[x2]? fun x3 =>
  Option.bind σ.gJ[p1]? fun x4 =>
  if 0 ≤ x4.1 ∧ x4.1 ≤ (x3.1.length : Int) then
  Option.bind σ.aF[p0]? fun x5 =>
  Option.bind x5.1 fun x6 =>
  Option.bind σ.ai[x6]? fun x7 =>
  Option.bind x0.1 fun x8 =>
  Option.bind σ.ai[x8]? fun x9 =>
  Option.bind σ.aF[p0]? fun x10 =>
  Option.bind σ.aF[p0]? fun x11 =>
  if x10.1 = x11.1 then
  Option.bind σ.gJ[p1]? fun x12 =>
  Option.bind σ.gJ[p1]? fun x13 =>
  if x12.1 = x13.1 then
  Option.bind x10.1 fun x14 =>
  Option.bind ((σ.ai.set x8 (x3.1.take x4.1.toNat, x9.2))[x14]?) fun x15 =>
  some ((), ((σ.fE (σ.ai.set x8 (x3.1.take x4.1.toNat, x9.2))).fE ((σ.ai.set x8 (x3.1.take x4.1.toNat, x9.2)).set x14 (x15.1, (if x12.1 < x7.2.1 then
  x12.1
  else
  x7.2.1, x15.2.2)))))
  else
  none
  else
  none
  else
  none

noncomputable def sW : Kn St := ⟨99, [.cap EC, .cap Sv], [], .rw fun x σ => iy x.1 x.2.1 σ⟩

theorem xJ : sW.ok Tryz.prog TB := mM ⟨Tryz.prog, TB, 20, KLs, MLs, [], [], [], []⟩ ⟨[], [], [], []⟩ aV trivial (fn := Tryz.f99) (by kernel_rfl) (by kernel_rfl) (by kernel_rfl)
noncomputable def dJ (p0 : Option Nat) (p1 : Nat × Nat × Unit) (σ : St) : Option (Int × St) :=
  Option.bind p0 fun x0 =>
  Option.bind σ.af[x0]? fun x1 =>
  if decide (x1.2.2.1 > 0) = true then
  Option.bind p0 fun x2 =>
  Option.bind σ.af[x2]? fun x3 =>
  Option.bind p0 fun x4 =>
  Option.bind σ.af[x4]? fun x5 =>
  Option.bind p0 fun x6 =>
  Option.bind ((σ.af.set x4 (x5.1, (x5.2.1, (IntKind.wrap .i64 (x3.2.2.1 - 1), x5.2.2.2))))[x6]?) fun x7 =>
  if (x7.2.2.1 == 0) = true then
  Option.bind p0 fun x8 =>
  Option.bind ((σ.af.set x4 (x5.1, (x5.2.1, (IntKind.wrap .i64 (x3.2.2.1 - 1), x5.2.2.2))))[x8]?) fun x9 =>
  some ((11 : Int), ((σ.bF (σ.af.set x4 (x5.1, (x5.2.1, (IntKind.wrap .i64 (x3.2.2.1 - 1), x5.2.2.2))))).bF ((σ.af.set x4 (x5.1, (x5.2.1, (IntKind.wrap .i64 (x3.2.2.1 - 1), x5.2.2.2)))).set x8 (x9.1, (x9.2.1, (x9.2.2.1, (true, x9.2.2.2.2)))))))
  else
  Option.bind (iy p1.1 p1.2.1 (σ.bF (σ.af.set x4 (x5.1, (x5.2.1, (IntKind.wrap .i64 (x3.2.2.1 - 1), x5.2.2.2)))))) fun x10 =>
  some ((0 : Int), x10.2)
  else
  Option.bind (iy p1.1 p1.2.1 σ) fun x11 =>
  some ((0 : Int), x11.2)

noncomputable def ji : Kn St := ⟨69, [.kv (.ptr di), .clo 99 [EC, Sv]], [.kv .i], .rw fun x σ => dJ x.1 x.2.1 σ⟩

theorem mZ : ji.ok Tryz.prog TB := mM ⟨Tryz.prog, TB, 27, KLs, MLs, [], [], [], [sW]⟩ ⟨[], [], [], []⟩ aV ⟨xJ, trivial⟩ (fn := Tryz.f69) (by kernel_rfl) (by kernel_rfl) (by kernel_rfl)
noncomputable def kL (p0 : Option Nat) (p1 : List UInt8) (p2 : Int) (σ : St) : Option (Int × St) :=
  Option.bind (iO p0 p1 (σ.xB (σ.gJ ++ [(p2, ())]))) fun x0 =>
  Option.bind ((σ.aF ++ [(none, ())])[σ.aF.length]?) fun x1 =>
  if (x0.2 != 0) = true then
  some (x0.2, (((σ.xB (σ.gJ ++ [(p2, ())])).iW (σ.aF ++ [(none, ())])).iW ((σ.aF ++ [(none, ())]).set σ.aF.length (x0.1, x1.2))))
  else
  Option.bind ((σ.gJ ++ [(p2, ())])[σ.gJ.length]?) fun x2 =>
  if (!(decide (x2.1 < 0))) = true then
  Option.bind ((σ.gJ ++ [(p2, ())])[σ.gJ.length]?) fun x3 =>
  Option.bind (((σ.aF ++ [(none, ())]).set σ.aF.length (x0.1, x1.2))[σ.aF.length]?) fun x4 =>
  Option.bind x4.1 fun x5 =>
  Option.bind σ.ai[x5]? fun x6 =>
  if decide (x3.1 > (x6.1.length : Int)) = true then
  some ((3 : Int), (((σ.xB (σ.gJ ++ [(p2, ())])).iW (σ.aF ++ [(none, ())])).iW ((σ.aF ++ [(none, ())]).set σ.aF.length (x0.1, x1.2))))
  else
  Option.bind (dJ p0 (σ.aF.length, (σ.gJ.length, ())) (((σ.xB (σ.gJ ++ [(p2, ())])).iW (σ.aF ++ [(none, ())])).iW ((σ.aF ++ [(none, ())]).set σ.aF.length (x0.1, x1.2)))) fun x7 =>
  some (x7.1, x7.2)
  else
  some ((3 : Int), (((σ.xB (σ.gJ ++ [(p2, ())])).iW (σ.aF ++ [(none, ())])).iW ((σ.aF ++ [(none, ())]).set σ.aF.length (x0.1, x1.2))))

noncomputable def uQ : Kn St := ⟨64, [.kv (.ptr di), .kv .str, .kv .i], [.kv .i], .rw fun x σ => kL x.1 x.2.1 x.2.2.1 σ⟩

theorem yR : uQ.ok Tryz.prog TB := mM ⟨Tryz.prog, TB, 34, KLs, MLs, [7, 5], [], [], [lN, ji]⟩ ⟨[], [], [], []⟩ aV ⟨lH, mZ, trivial⟩ (fn := Tryz.f64) (by kernel_rfl) (by kernel_rfl) (by kernel_rfl)
noncomputable def jW (p0 : Nat) (σ : St) : Option (Unit × St) :=
  Option.bind σ.aF[p0]? fun x0 =>
  Option.bind σ.aF[p0]? fun x1 =>
  Option.bind x1.1 fun x2 =>
  Option.bind σ.ai[x2]? fun x3 =>
  Option.bind x0.1 fun x4 =>
  Option.bind σ.ai[x4]? fun x5 =>
  some ((), (σ.fE (σ.ai.set x4 (x5.1, ((x3.1.length : Int), x5.2.2)))))

noncomputable def xg : Kn St := ⟨73, [.cap EC], [], .rw fun x σ => jW x.1 σ⟩

theorem Ai : xg.ok Tryz.prog TB := mM ⟨Tryz.prog, TB, 9, KLs, MLs, [], [], [], []⟩ ⟨[], [], [], []⟩ aV trivial (fn := Tryz.f73) (by kernel_rfl) (by kernel_rfl) (by kernel_rfl)
noncomputable def eF (p0 : Option Nat) (p1 : Nat × Unit) (σ : St) : Option (Int × St) :=
  Option.bind p0 fun x0 =>
  Option.bind σ.af[x0]? fun x1 =>
  if decide (x1.2.2.1 > 0) = true then
  Option.bind p0 fun x2 =>
  Option.bind σ.af[x2]? fun x3 =>
  Option.bind p0 fun x4 =>
  Option.bind σ.af[x4]? fun x5 =>
  Option.bind p0 fun x6 =>
  Option.bind ((σ.af.set x4 (x5.1, (x5.2.1, (IntKind.wrap .i64 (x3.2.2.1 - 1), x5.2.2.2))))[x6]?) fun x7 =>
  if (x7.2.2.1 == 0) = true then
  Option.bind p0 fun x8 =>
  Option.bind ((σ.af.set x4 (x5.1, (x5.2.1, (IntKind.wrap .i64 (x3.2.2.1 - 1), x5.2.2.2))))[x8]?) fun x9 =>
  some ((11 : Int), ((σ.bF (σ.af.set x4 (x5.1, (x5.2.1, (IntKind.wrap .i64 (x3.2.2.1 - 1), x5.2.2.2))))).bF ((σ.af.set x4 (x5.1, (x5.2.1, (IntKind.wrap .i64 (x3.2.2.1 - 1), x5.2.2.2)))).set x8 (x9.1, (x9.2.1, (x9.2.2.1, (true, x9.2.2.2.2)))))))
  else
  Option.bind (jW p1.1 (σ.bF (σ.af.set x4 (x5.1, (x5.2.1, (IntKind.wrap .i64 (x3.2.2.1 - 1), x5.2.2.2)))))) fun x10 =>
  some ((0 : Int), x10.2)
  else
  Option.bind (jW p1.1 σ) fun x11 =>
  some ((0 : Int), x11.2)

noncomputable def jY : Kn St := ⟨69, [.kv (.ptr di), .clo 73 [EC]], [.kv .i], .rw fun x σ => eF x.1 x.2.1 σ⟩

theorem pz : jY.ok Tryz.prog TB := mM ⟨Tryz.prog, TB, 27, KLs, MLs, [], [], [], [xg]⟩ ⟨[], [], [], []⟩ aV ⟨Ai, trivial⟩ (fn := Tryz.f69) (by kernel_rfl) (by kernel_rfl) (by kernel_rfl)
noncomputable def oW (p0 : Option Nat) (p1 : List UInt8) (σ : St) : Option (Int × St) :=
  Option.bind (iO p0 p1 σ) fun x0 =>
  Option.bind ((σ.aF ++ [(none, ())])[σ.aF.length]?) fun x1 =>
  if (x0.2 != 0) = true then
  some (x0.2, ((σ.iW (σ.aF ++ [(none, ())])).iW ((σ.aF ++ [(none, ())]).set σ.aF.length (x0.1, x1.2))))
  else
  Option.bind (eF p0 (σ.aF.length, ()) ((σ.iW (σ.aF ++ [(none, ())])).iW ((σ.aF ++ [(none, ())]).set σ.aF.length (x0.1, x1.2)))) fun x2 =>
  some (x2.1, x2.2)

noncomputable def yQ : Kn St := ⟨41, [.kv (.ptr di), .kv .str], [.kv .i], .rw fun x σ => oW x.1 x.2.1 σ⟩

theorem Dk : yQ.ok Tryz.prog TB := mM ⟨Tryz.prog, TB, 19, KLs, MLs, [5], [], [], [lN, jY]⟩ ⟨[], [], [], []⟩ aV ⟨lH, pz, trivial⟩ (fn := Tryz.f41) (by kernel_rfl) (by kernel_rfl) (by kernel_rfl)
noncomputable def jf (p0 : Option Nat) (σ : St) : Option (Int × St) :=
  if p0.isNone = true then
  some ((1 : Int), σ)
  else
  Option.bind (lL p0 σ) fun x0 =>
  Option.bind (if (!x0.isNone) = true then
  Option.bind p0 fun x1 =>
  Option.bind σ.aj[x1]? fun x2 =>
  Option.bind (gq p0 x0 σ) fun x3 =>
  Option.bind (oW x2.1 x3 σ) fun x4 =>
  if (x4.1 != 0) = true then
  some (.inr (x4.1, x4.2))
  else
  some (.inl x4.2)
  else
  some (.inl σ)) fun x5 =>
  ku x5 (fun x6 =>
  Option.bind (iE p0 x6) fun x7 =>
  Option.bind p0 fun x8 =>
  Option.bind x6.aj[x8]? fun x9 =>
  some ((0 : Int), (x6.oN (x6.aj.set x8 (x9.1, (x9.2.1, (x9.2.2.1, (x9.2.2.2.1, (x7, x9.2.2.2.2.2))))))))) Option.some

noncomputable def tq : Kn St := ⟨14, [.kv (.ptr jl)], [.kv .i], .rw fun x σ => jf x.1 σ⟩

theorem tu : tq.ok Tryz.prog TB := mM ⟨Tryz.prog, TB, 27, KLs, MLs, [], [], [], [tC, oL, yQ, lU]⟩ ⟨[], [(5, ⟨[], true, [⟨.nrm, []⟩], true, []⟩)], [], []⟩ aV ⟨tH, nV, Dk, kU, trivial⟩ (fn := Tryz.f14) (by kernel_rfl) (by kernel_rfl) (by kernel_rfl)
noncomputable def kR (p0 : Option Nat) (x0 : List Int) (s1 : Int × Int × Int × St) : Option ((Int × Int × Int × St) ⊕ ((Int × Int × St) ⊕ (Int × St))) :=
  if decide (s1.2.2.1 < (x0.length : Int)) = true then
  Option.bind (ix x0 s1.2.2.1) fun x2 =>
  Option.bind (if (decide (s1.2.2.1 > 0) && (!(decide (s1.1 > 0)))) = true then
  iE p0 s1.2.2.2
  else
  some (0 : Int)) fun x3 =>
  if (decide (s1.2.2.1 > 0) && (decide (s1.1 > 0) || (x2 != x3))) = true then
  some (.inr (.inl (s1.1, (s1.2.1, s1.2.2.2))))
  else
  Option.bind (rV p0 x2 s1.2.2.2) fun x4 =>
  if (x4.1.2.2 != 0) = true then
  some (.inr (.inr (x4.1.2.2, x4.2)))
  else
  Option.bind p0 fun x5 =>
  Option.bind x4.2.aj[x5]? fun x6 =>
  if ((x6.2.2.2.1.length + 1) * 8) ≤ 140737488355328 then
  Option.bind p0 fun x7 =>
  Option.bind x4.2.aj[x7]? fun x8 =>
  if x5 = x7 ∧ true = true then
  some (.inl (x4.1.2.1, (IntKind.wrap .i64 (s1.2.2.1 + 1), (IntKind.wrap .i64 (s1.2.2.1 + 1), (x4.2.oN (x4.2.aj.set x7 (x8.1, (x8.2.1, (x8.2.2.1, ((x6.2.2.2.1 ++ [x4.1.1]), x8.2.2.2.2))))))))))
  else
  none
  else
  none
  else
  some (.inr (.inl (s1.1, (s1.2.1, s1.2.2.2))))

noncomputable def jg (p0 : Option Nat) (x0 : List Int) (x10 : Int × Int × St) (x12 : (Option Nat) × (List UInt8) × Int × (List (Option Nat)) × Int × Unit) (s13 : Int × St) : Option ((Int × St) ⊕ (St ⊕ (Int × St))) :=
  if decide (s13.1 ≥ x10.2.1) = true then
  Option.bind (ix x0 s13.1) fun x14 =>
  Option.bind (gq p0 (some s13.2.ae.length) (s13.2.aX (s13.2.ae ++ [(x14, ([], ((0 : Int), ())))]))) fun x15 =>
  Option.bind (mi x12.1 x15 (s13.2.aX (s13.2.ae ++ [(x14, ([], ((0 : Int), ())))]))) fun x16 =>
  if (x16.1 != 0) = true then
  some (.inr (.inr (x16.1, x16.2)))
  else
  some (.inl (IntKind.wrap .i64 (s13.1 - 1), x16.2))
  else
  some (.inr (.inl s13.2))

noncomputable def nU (p0 : Option Nat) (σ : St) : Option (Int × St) :=
  Option.bind (iR p0 σ) fun x0 =>
  Option.bind (bC (kR p0 x0) ((0 : Int), ((0 : Int), ((0 : Int), σ)))) fun x9 =>
  ku x9 (fun x10 =>
  Option.bind p0 fun x11 =>
  Option.bind x10.2.2.aj[x11]? fun x12 =>
  Option.bind (bC (jg p0 x0 x10 x12) (IntKind.wrap .i64 ((x0.length : Int) - 1), x10.2.2)) fun x17 =>
  ku x17 (fun x18 =>
  if (x10.2.1 == 0) = true then
  some ((0 : Int), x18)
  else
  Option.bind p0 fun x19 =>
  Option.bind x18.aj[x19]? fun x20 =>
  Option.bind (ix x20.2.2.2.1 (IntKind.wrap .i64 (x10.2.1 - 1))) fun x21 =>
  if decide (x10.1 > 0) = true then
  Option.bind p0 fun x22 =>
  Option.bind x18.aj[x22]? fun x23 =>
  Option.bind (gq p0 x21 x18) fun x24 =>
  Option.bind x21 fun x25 =>
  Option.bind x18.ae[x25]? fun x26 =>
  Option.bind (kL x23.1 x24 x26.2.2.1 x18) fun x27 =>
  if (x27.1 != 0) = true then
  some (x27.1, x27.2)
  else
  Option.bind (jf p0 x27.2) fun x28 =>
  some (x28.1, x28.2)
  else
  Option.bind (jf p0 x18) fun x29 =>
  some (x29.1, x29.2)) Option.some) Option.some

noncomputable def xZ : Kn St := ⟨36, [.kv (.ptr jl)], [.kv .i], .rw fun x σ => nU x.1 σ⟩

theorem BG : xZ.ok Tryz.prog TB := mM ⟨Tryz.prog, TB, 116, KLs, MLs, [], [], [51], [y7, lU, BF, oL, xe, uQ, tq]⟩ ⟨[], [], [], [(4, ⟨[(4, .kv .i), (5, .kv .i), (20, .kv .i)], true, [⟨.ext 0, [(4, .kv .i), (5, .kv .i)]⟩], true, []⟩), (15, ⟨[(12, .kv .i)], true, [⟨.ext 2, []⟩], true, []⟩)]⟩ aV ⟨Du, kU, Fv, nV, Ah, yR, tu, trivial⟩ (fn := Tryz.f36) (by kernel_rfl) (by kernel_rfl) (by kernel_rfl)
noncomputable def zC (p0 : Option Nat) (p1 : List UInt8) (p2 : Int) (σ : St) : Option (((Option Nat) × Int) × St) :=
  if p0.isNone = true then
  some ((none, (1 : Int)), σ)
  else
  Option.bind (xR p1) fun x0 =>
  if (((!x0) || decide (p2 < 64)) || decide (p2 > 65536)) = true then
  some ((none, (2 : Int)), σ)
  else
  Option.bind (oU p0 σ) fun x1 =>
  if x1 = true then
  some ((none, (11 : Int)), σ)
  else
  Option.bind (nU (some σ.aj.length) (σ.oN (σ.aj ++ [(p0, (p1, (p2, ([], ((0 : Int), ())))))]))) fun x2 =>
  if (x2.1 != 0) = true then
  some ((none, x2.1), x2.2)
  else
  some ((some σ.aj.length, (0 : Int)), x2.2)

noncomputable def Kt : Kn St := ⟨12, [.kv (.ptr di), .kv .str, .kv .i], [.kv (.ptr jl), .kv .i], .rw fun x σ => zC x.1 x.2.1 x.2.2.1 σ⟩

theorem LX : Kt.ok Tryz.prog TB := mM ⟨Tryz.prog, TB, 39, KLs, MLs, [], [], [], [H9, yM, xZ]⟩ ⟨[], [], [], []⟩ aV ⟨Kv, Dh, BG, trivial⟩ (fn := Tryz.f12) (by kernel_rfl) (by kernel_rfl) (by kernel_rfl)
noncomputable def kG (p0 : Option Nat) (σ : St) : Option Int :=
  Option.bind (if (!p0.isNone) = true then
  p0
  else
  some 0) fun x0 =>
  Option.bind (if (!p0.isNone) = true then
  σ.aj[x0]?
  else
  some (none, ([], ((0 : Int), ([], ((0 : Int), ())))))) fun x1 =>
  if (p0.isNone || ((x1.2.2.2.1.length : Int) == 0)) = true then
  some (0 : Int)
  else
  Option.bind p0 fun x2 =>
  Option.bind σ.aj[x2]? fun x3 =>
  Option.bind (ix x3.2.2.2.1 (0 : Int)) fun x4 =>
  Option.bind x4 fun x5 =>
  Option.bind σ.ae[x5]? fun x6 =>
  some x6.1

noncomputable def vk : Kn St := ⟨29, [.kv (.ptr jl)], [.kv .i], .ro fun x σ => kG x.1 σ⟩

theorem xu : vk.ok Tryz.prog TB := iI ⟨Tryz.prog, TB, 22, KLs, MLs, [], [], [], []⟩ ⟨[], [], [], []⟩ aV trivial (fn := Tryz.f29) (by kernel_rfl) (by kernel_rfl) (by kernel_rfl)
noncomputable def nT (p0 : Option Nat) (p1 : Int) (σ : St) (s4 : Int) : Option (Int ⊕ Int) :=
  Option.bind p0 fun x5 =>
  Option.bind σ.aj[x5]? fun x6 =>
  Option.bind (ix x6.2.2.2.1 s4) fun x7 =>
  Option.bind x7 fun x8 =>
  Option.bind σ.ae[x8]? fun x9 =>
  if decide (x9.1 > p1) = true then
  some (.inl (IntKind.wrap .i64 (s4 - 1)))
  else
  some (.inr s4)

noncomputable def rU (p0 : Option Nat) (p1 : Int) (σ : St) : Option ((List UInt8) × Int) :=
  if p0.isNone = true then
  some ([], (1 : Int))
  else
  Option.bind (kG p0 σ) fun x0 =>
  if decide (p1 < x0) = true then
  some ([], (13 : Int))
  else
  Option.bind (iE p0 σ) fun x1 =>
  if decide (p1 ≥ x1) = true then
  some ([], (8 : Int))
  else
  Option.bind p0 fun x2 =>
  Option.bind σ.aj[x2]? fun x3 =>
  Option.bind (bC (nT p0 p1 σ) (IntKind.wrap .i64 ((x3.2.2.2.1.length : Int) - 1))) fun x10 =>
  Option.bind p0 fun x11 =>
  Option.bind σ.aj[x11]? fun x12 =>
  Option.bind (ix x12.2.2.2.1 x10) fun x13 =>
  Option.bind x13 fun x14 =>
  Option.bind σ.ae[x14]? fun x15 =>
  Option.bind p0 fun x16 =>
  Option.bind σ.aj[x16]? fun x17 =>
  Option.bind (ix x17.2.2.2.1 x10) fun x18 =>
  Option.bind x18 fun x19 =>
  Option.bind σ.ae[x19]? fun x20 =>
  Option.bind (ix x15.2.1 (IntKind.wrap .i64 (p1 - x20.1))) fun x21 =>
  some (x21, (0 : Int))

noncomputable def BD : Kn St := ⟨31, [.kv (.ptr jl), .kv .i], [.kv .str, .kv .i], .ro fun x σ => rU x.1 x.2.1 σ⟩

theorem Fq : BD.ok Tryz.prog TB := iI ⟨Tryz.prog, TB, 64, KLs, MLs, [], [], [], [vk, lU]⟩ ⟨[], [], [], [(8, ⟨[(6, .kv .i)], false, [⟨.ext 1, [(6, .kv .i)]⟩], false, []⟩)]⟩ aV ⟨xu, kU, trivial⟩ (fn := Tryz.f31) (by kernel_rfl) (by kernel_rfl) (by kernel_rfl)
noncomputable def cZ (p0 : Option Nat) (σ : St) : Option (Int × St) :=
  Option.bind p0 fun x0 =>
  Option.bind σ.ak[x0]? fun x1 =>
  if (x1.2.2.1 != 0) = true then
  some ((0 : Int), σ)
  else
  Option.bind p0 fun x2 =>
  Option.bind σ.ak[x2]? fun x3 =>
  Option.bind p0 fun x4 =>
  Option.bind σ.ak[x4]? fun x5 =>
  Option.bind (eQ x3.1 x5.2.1) fun x6 =>
  Option.bind p0 fun x7 =>
  Option.bind σ.ak[x7]? fun x8 =>
  Option.bind p0 fun x9 =>
  Option.bind ((σ.ak.set x7 (x8.1, (x6.2.1, x8.2.2)))[x9]?) fun x10 =>
  some (x6.1, ((σ.bg (σ.ak.set x7 (x8.1, (x6.2.1, x8.2.2)))).bg ((σ.ak.set x7 (x8.1, (x6.2.1, x8.2.2))).set x9 (x10.1, (x10.2.1, (x6.2.2, x10.2.2.2))))))

noncomputable def kz : Kn St := ⟨82, [.kv (.ptr ja)], [.kv .i], .rw fun x σ => cZ x.1 σ⟩

theorem lu : kz.ok Tryz.prog TB := mM ⟨Tryz.prog, TB, 33, KLs, MLs, [], [], [], [jH]⟩ ⟨[], [], [], []⟩ aV ⟨jO, trivial⟩ (fn := Tryz.f82) (by kernel_rfl) (by kernel_rfl) (by kernel_rfl)
noncomputable def oz (p0 : List UInt8) (p1 : Int) (p2 : Int) : Option (Int × Int × Int) :=
  Option.bind (eQ p0 p1) fun x0 =>
  if (x0.2.2 != 0) = true then
  some ((0 : Int), ((0 : Int), x0.2.2))
  else
  if decide (x0.1 < 0) = true then
  some ((0 : Int), ((0 : Int), (6 : Int)))
  else
  if decide (x0.1 > p2) = true then
  some ((0 : Int), ((0 : Int), (4 : Int)))
  else
  some (x0.1, (x0.2.1, (0 : Int)))

noncomputable def xq : Kn St := ⟨129, [.kv .str, .kv .i, .kv .i], [.kv .i, .kv .i, .kv .i], .ro fun x σ => oz x.1 x.2.1 x.2.2.1⟩

theorem xY : xq.ok Tryz.prog TB := iI ⟨Tryz.prog, TB, 32, KLs, MLs, [], [], [], [jH]⟩ ⟨[], [], [], []⟩ aV ⟨jO, trivial⟩ (fn := Tryz.f129) (by kernel_rfl) (by kernel_rfl) (by kernel_rfl)
noncomputable def nS (p0 : List UInt8) (p1 : Int) : Option ((List UInt8) × Int × Int) :=
  Option.bind (oz p0 p1 (4096 : Int)) fun x0 =>
  if (x0.2.2 != 0) = true then
  some ([], ((0 : Int), x0.2.2))
  else
  if decide (x0.1 > IntKind.wrap .i64 ((p0.length : Int) - x0.2.1)) = true then
  some ([], ((0 : Int), (5 : Int)))
  else
  if 0 ≤ x0.2.1 ∧ x0.2.1 ≤ IntKind.wrap .i64 (x0.2.1 + x0.1) ∧ IntKind.wrap .i64 (x0.2.1 + x0.1) ≤ (p0.length : Int) then
  some ((p0.take ((IntKind.wrap .i64 (x0.2.1 + x0.1)).toNat)).drop x0.2.1.toNat, (IntKind.wrap .i64 (x0.2.1 + x0.1), (0 : Int)))
  else
  none

noncomputable def xX : Kn St := ⟨108, [.kv .str, .kv .i], [.kv .str, .kv .i, .kv .i], .ro fun x σ => nS x.1 x.2.1⟩

theorem BC : xX.ok Tryz.prog TB := iI ⟨Tryz.prog, TB, 37, KLs, MLs, [], [], [], [xq]⟩ ⟨[], [], [], []⟩ aV ⟨xY, trivial⟩ (fn := Tryz.f108) (by kernel_rfl) (by kernel_rfl) (by kernel_rfl)
noncomputable def lD (p0 : Option Nat) (σ : St) : Option ((List UInt8) × St) :=
  Option.bind p0 fun x0 =>
  Option.bind σ.ak[x0]? fun x1 =>
  if (x1.2.2.1 != 0) = true then
  some ([], σ)
  else
  Option.bind p0 fun x2 =>
  Option.bind σ.ak[x2]? fun x3 =>
  Option.bind p0 fun x4 =>
  Option.bind σ.ak[x4]? fun x5 =>
  Option.bind (nS x3.1 x5.2.1) fun x6 =>
  Option.bind p0 fun x7 =>
  Option.bind σ.ak[x7]? fun x8 =>
  Option.bind p0 fun x9 =>
  Option.bind ((σ.ak.set x7 (x8.1, (x6.2.1, x8.2.2)))[x9]?) fun x10 =>
  some (x6.1, ((σ.bg (σ.ak.set x7 (x8.1, (x6.2.1, x8.2.2)))).bg ((σ.ak.set x7 (x8.1, (x6.2.1, x8.2.2))).set x9 (x10.1, (x10.2.1, (x6.2.2, x10.2.2.2))))))

noncomputable def vK : Kn St := ⟨83, [.kv (.ptr ja)], [.kv .str], .rw fun x σ => lD x.1 σ⟩

theorem zG : vK.ok Tryz.prog TB := mM ⟨Tryz.prog, TB, 33, KLs, MLs, [], [], [], [xX]⟩ ⟨[], [], [], []⟩ aV ⟨BC, trivial⟩ (fn := Tryz.f83) (by kernel_rfl) (by kernel_rfl) (by kernel_rfl)
noncomputable def dL (p0 : List UInt8) (x0 : Int × Int × Int) (s1 : Int × (List Int) × Int) : Option ((Int × (List Int) × Int) ⊕ ((Int × List Int) ⊕ ((List Int) × Int × Int))) :=
  if decide (s1.2.2 < x0.1) = true then
  Option.bind (eQ p0 s1.1) fun x2 =>
  if (x2.2.2 != 0) = true then
  some (.inr (.inr ([], ((0 : Int), x2.2.2))))
  else
  if ((s1.2.1.length + 1) * 8) ≤ 140737488355328 then
  some (.inl (x2.2.1, ((s1.2.1 ++ [x2.1]), IntKind.wrap .i64 (s1.2.2 + 1))))
  else
  none
  else
  some (.inr (.inl (s1.1, s1.2.1)))

noncomputable def gm (p0 : List UInt8) (p1 : Int) (p2 : Unit) : Option ((List Int) × Int × Int) :=
  Option.bind (oz p0 p1 (256 : Int)) fun x0 =>
  if (x0.2.2 != 0) = true then
  some ([], ((0 : Int), x0.2.2))
  else
  Option.bind (bC (dL p0 x0) (x0.2.1, ([], (0 : Int)))) fun x3 =>
  ku x3 (fun x4 =>
  some (x4.2, (x4.1, (0 : Int)))) Option.some

noncomputable def jR : Kn St := ⟨130, [.kv .str, .kv .i, .clo 107 []], [.kv (.list .i), .kv .i, .kv .i], .ro fun x σ => gm x.1 x.2.1 x.2.2.1⟩

theorem oK : jR.ok Tryz.prog TB := iI ⟨Tryz.prog, TB, 48, KLs, MLs, [], [46], [], [xq, jH]⟩ ⟨[], [], [], [(6, ⟨[(10, .kv .i), (12, .own 3 8 .i), (27, .kv .i)], false, [⟨.ext 0, [(10, .kv .i), (12, .own 3 8 .i)]⟩], true, []⟩)]⟩ aV ⟨xY, jO, trivial⟩ (fn := Tryz.f130) (by kernel_rfl) (by kernel_rfl) (by kernel_rfl)
noncomputable def kQ (p0 : List UInt8) (p1 : Int) : Option ((List Int) × Int × Int) :=
  Option.bind (gm p0 p1 ()) fun x0 =>
  some (x0.1, (x0.2.1, x0.2.2))

noncomputable def uX : Kn St := ⟨109, [.kv .str, .kv .i], [.kv (.list .i), .kv .i, .kv .i], .ro fun x σ => kQ x.1 x.2.1⟩

theorem yZ : uX.ok Tryz.prog TB := iI ⟨Tryz.prog, TB, 13, KLs, MLs, [], [], [], [jR]⟩ ⟨[], [], [], []⟩ aV ⟨oK, trivial⟩ (fn := Tryz.f109) (by kernel_rfl) (by kernel_rfl) (by kernel_rfl)
noncomputable def jK (p0 : Option Nat) (σ : St) : Option ((List Int) × St) :=
  Option.bind p0 fun x0 =>
  Option.bind σ.ak[x0]? fun x1 =>
  if (x1.2.2.1 != 0) = true then
  some ([], σ)
  else
  Option.bind p0 fun x2 =>
  Option.bind σ.ak[x2]? fun x3 =>
  Option.bind p0 fun x4 =>
  Option.bind σ.ak[x4]? fun x5 =>
  Option.bind (kQ x3.1 x5.2.1) fun x6 =>
  Option.bind p0 fun x7 =>
  Option.bind σ.ak[x7]? fun x8 =>
  Option.bind p0 fun x9 =>
  Option.bind ((σ.ak.set x7 (x8.1, (x6.2.1, x8.2.2)))[x9]?) fun x10 =>
  some (x6.1, ((σ.bg (σ.ak.set x7 (x8.1, (x6.2.1, x8.2.2)))).bg ((σ.ak.set x7 (x8.1, (x6.2.1, x8.2.2))).set x9 (x10.1, (x10.2.1, (x6.2.2, x10.2.2.2))))))

noncomputable def sV : Kn St := ⟨84, [.kv (.ptr ja)], [.kv (.list .i)], .rw fun x σ => jK x.1 σ⟩

theorem xI : sV.ok Tryz.prog TB := mM ⟨Tryz.prog, TB, 33, KLs, MLs, [], [], [], [uX]⟩ ⟨[], [], [], []⟩ aV ⟨yZ, trivial⟩ (fn := Tryz.f84) (by kernel_rfl) (by kernel_rfl) (by kernel_rfl)
noncomputable def fV (p0 : Int) (p1 : Int) (p2 : Int) : Option Bool :=
  some (decide (p0 ≥ p1) && decide (p0 ≤ p2))

noncomputable def lM : Kn St := ⟨92, [.kv .i, .kv .i, .kv .i], [.kv .bool], .ro fun x σ => fV x.1 x.2.1 x.2.2.1⟩

theorem kT : lM.ok Tryz.prog TB := iI ⟨Tryz.prog, TB, 15, KLs, MLs, [], [], [], []⟩ ⟨[], [], [], []⟩ aV trivial (fn := Tryz.f92) (by kernel_rfl) (by kernel_rfl) (by kernel_rfl)
noncomputable def jX (p0 : List UInt8) (s0 : (List (List UInt8)) × Int × Int) : Option (((List (List UInt8)) × Int × Int) ⊕ ((List (List UInt8)) × Int)) :=
  if decide (s0.2.2 < (p0.length : Int)) = true then
  if 0 ≤ s0.2.2 ∧ s0.2.2 < (p0.length : Int) then
  if (btS p0 s0.2.2 == 47) = true then
  if 0 ≤ s0.2.1 ∧ s0.2.1 ≤ s0.2.2 ∧ s0.2.2 ≤ (p0.length : Int) then
  if ((s0.1.length + 1) * 16) ≤ 140737488355328 then
  some (.inl ((s0.1 ++ [(p0.take s0.2.2.toNat).drop s0.2.1.toNat]), (IntKind.wrap .i64 (s0.2.2 + 1), IntKind.wrap .i64 (s0.2.2 + 1))))
  else
  none
  else
  none
  else
  some (.inl (s0.1, (s0.2.1, IntKind.wrap .i64 (s0.2.2 + 1))))
  else
  none
  else
  some (.inr (s0.1, s0.2.1))

noncomputable def qE (p0 : List UInt8) : Option (List (List UInt8)) :=
  Option.bind (bC (jX p0) ([], ((0 : Int), (0 : Int)))) fun x1 =>
  if 0 ≤ x1.2 ∧ x1.2 ≤ (p0.length : Int) then
  if ((x1.1.length + 1) * 16) ≤ 140737488355328 then
  some (x1.1 ++ [p0.drop x1.2.toNat])
  else
  none
  else
  none

noncomputable def Aa : Kn St := ⟨152, [.kv .str], [.kv (.list .str)], .ro fun x σ => qE x.1⟩

theorem Eh : Aa.ok Tryz.prog TB := iI ⟨Tryz.prog, TB, 31, KLs, MLs, [], [], [], []⟩ ⟨[], [], [], [(4, ⟨[(3, .own 9 16 .str), (4, .kv .i), (8, .kv .i)], false, [⟨.ext 0, [(3, .own 9 16 .str), (4, .kv .i)]⟩], false, []⟩)]⟩ aV trivial (fn := Tryz.f152) (by kernel_rfl) (by kernel_rfl) (by kernel_rfl)
noncomputable def qM (p0 : List UInt8) (s0 : Int) : Option (Int ⊕ (Unit ⊕ Bool)) :=
  if decide (s0 < (p0.length : Int)) = true then
  if 0 ≤ s0 ∧ s0 < (p0.length : Int) then
  if (decide (btS p0 s0 ≥ 97) && decide (btS p0 s0 ≤ 122)) = true then
  some (.inl (IntKind.wrap .i64 (s0 + 1)))
  else
  if (decide (btS p0 s0 ≥ 48) && decide (btS p0 s0 ≤ 57)) = true then
  some (.inl (IntKind.wrap .i64 (s0 + 1)))
  else
  if (btS p0 s0 == 45) = true then
  some (.inl (IntKind.wrap .i64 (s0 + 1)))
  else
  if (btS p0 s0 == 95) = true then
  some (.inl (IntKind.wrap .i64 (s0 + 1)))
  else
  some (.inr (.inr false))
  else
  none
  else
  some (.inr (.inl ()))

noncomputable def qF (p0 : List UInt8) : Option Bool :=
  if (p0 == []) = true then
  some false
  else
  Option.bind (bC (qM p0) (0 : Int)) fun x1 =>
  ku x1 (fun x2 =>
  some true) Option.some

noncomputable def Ac : Kn St := ⟨133, [.kv .str], [.kv .bool], .ro fun x σ => qF x.1⟩

theorem Ei : Ac.ok Tryz.prog TB := iI ⟨Tryz.prog, TB, 33, KLs, MLs, [], [], [], []⟩ ⟨[], [], [], [(4, ⟨[(9, .kv .i)], false, [⟨.ext 0, []⟩], true, []⟩)]⟩ aV trivial (fn := Tryz.f133) (by kernel_rfl) (by kernel_rfl) (by kernel_rfl)
noncomputable def qL (p0 : Int) (p1 : Int) (p2 : List UInt8) : Option Bool :=
  Option.bind (qF p2) fun x0 =>
  some x0

noncomputable def xh : Kn St := ⟨132, [.kv .i, .kv .i, .kv .str], [.kv .bool], .ro fun x σ => qL x.1 x.2.1 x.2.2.1⟩

theorem Aj : xh.ok Tryz.prog TB := iI ⟨Tryz.prog, TB, 9, KLs, MLs, [], [], [], [Ac]⟩ ⟨[], [], [], []⟩ aV ⟨Ei, trivial⟩ (fn := Tryz.f132) (by kernel_rfl) (by kernel_rfl) (by kernel_rfl)
noncomputable def ik (x0 : List (List UInt8)) (s1 : Int) : Option (Int ⊕ (Unit ⊕ Bool)) :=
  if decide (s1 < (x0.length : Int)) = true then
  Option.bind (ix x0 s1) fun x2 =>
  Option.bind (qL s1 (x0.length : Int) x2) fun x3 =>
  if (!x3) = true then
  some (.inr (.inr false))
  else
  some (.inl (IntKind.wrap .i64 (s1 + 1)))
  else
  some (.inr (.inl ()))

noncomputable def iP (p0 : List UInt8) (p1 : Unit) : Option Bool :=
  if decide ((p0.length : Int) > 32) = true then
  some false
  else
  Option.bind (qE p0) fun x0 =>
  Option.bind (bC (ik x0) (0 : Int)) fun x4 =>
  ku x4 (fun x5 =>
  some (decide ((x0.length : Int) ≤ 4))) Option.some

noncomputable def lQ : Kn St := ⟨131, [.kv .str, .clo 132 []], [.kv .bool], .ro fun x σ => iP x.1 x.2.1⟩

theorem rC : lQ.ok Tryz.prog TB := iI ⟨Tryz.prog, TB, 31, KLs, MLs, [], [], [], [Aa, xh]⟩ ⟨[], [], [], [(5, ⟨[(15, .kv .i)], false, [⟨.ext 0, []⟩], true, []⟩)]⟩ aV ⟨Eh, Aj, trivial⟩ (fn := Tryz.f131) (by kernel_rfl) (by kernel_rfl) (by kernel_rfl)
end Go.Proofs.YtbnmhjobnepajaaGreat.M


set_option maxRecDepth 100000
namespace Go.Proofs.YtbnmhjobnepajaaGreat.M
open Go.Proofs
noncomputable def oZ (p0 : List UInt8) : Option Bool :=
  Option.bind (iP p0 ()) fun x0 =>
  some x0

noncomputable def yT : Kn St := ⟨112, [.kv .str], [.kv .bool], .ro fun x σ => oZ x.1⟩

theorem Dn : yT.ok Tryz.prog TB := iI ⟨Tryz.prog, TB, 5, KLs, MLs, [], [], [], [lQ]⟩ ⟨[], [], [], []⟩ aV ⟨rC, trivial⟩ (fn := Tryz.f112) (by kernel_rfl) (by kernel_rfl) (by kernel_rfl)
noncomputable def vW (p0 : Int) (p1 : Int) (p2 : List UInt8) : Option Bool :=
  Option.bind (fV p0 (0 : Int) (5 : Int)) fun x0 =>
  Option.bind (if x0 = true then
  fV p1 (1 : Int) (1099511627776 : Int)
  else
  some false) fun x1 =>
  Option.bind (if (x0 && x1) = true then
  oZ p2
  else
  some false) fun x2 =>
  some ((x0 && x1) && x2)

noncomputable def Fh : Kn St := ⟨91, [.kv .i, .kv .i, .kv .str], [.kv .bool], .ro fun x σ => vW x.1 x.2.1 x.2.2.1⟩

theorem IE : Fh.ok Tryz.prog TB := iI ⟨Tryz.prog, TB, 17, KLs, MLs, [], [], [], [lM, yT]⟩ ⟨[], [], [], []⟩ aV ⟨kT, Dn, trivial⟩ (fn := Tryz.f91) (by kernel_rfl) (by kernel_rfl) (by kernel_rfl)
noncomputable def rP (p0 : List Int) (s0 : Int) : Option (Int ⊕ (Unit ⊕ Bool)) :=
  if decide (s0 < (p0.length : Int)) = true then
  Option.bind (ix p0 s0) fun x1 =>
  Option.bind (fV x1 (-1099511627776 : Int) (1099511627776 : Int)) fun x2 =>
  if (!x2) = true then
  some (.inr (.inr false))
  else
  some (.inl (IntKind.wrap .i64 (s0 + 1)))
  else
  some (.inr (.inl ()))

noncomputable def rO (p0 : List Int) (p1 : Int) : Option Bool :=
  Option.bind (bC (rP p0) (0 : Int)) fun x3 =>
  ku x3 (fun x4 =>
  some (decide ((p0.length : Int) ≤ p1))) Option.some

noncomputable def BA : Kn St := ⟨93, [.kv (.list .i), .kv .i], [.kv .bool], .ro fun x σ => rO x.1 x.2.1⟩

theorem Fp : BA.ok Tryz.prog TB := iI ⟨Tryz.prog, TB, 21, KLs, MLs, [], [], [], [lM]⟩ ⟨[], [], [], [(2, ⟨[(9, .kv .i)], false, [⟨.ext 0, []⟩], true, []⟩)]⟩ aV ⟨kT, trivial⟩ (fn := Tryz.f93) (by kernel_rfl) (by kernel_rfl) (by kernel_rfl)
noncomputable def uK (p0 : Int × Int × (List UInt8) × Int × (List Int) × Int × Unit) : Option Bool :=
  Option.bind (vW p0.1 p0.2.1 p0.2.2.1) fun x0 =>
  Option.bind (if x0 = true then
  fV p0.2.2.2.1 (0 : Int) (11 : Int)
  else
  some false) fun x1 =>
  Option.bind (if (x0 && x1) = true then
  rO p0.2.2.2.2.1 (4 : Int)
  else
  some false) fun x2 =>
  Option.bind (if ((x0 && x1) && x2) = true then
  fV p0.2.2.2.2.2.1 (-1 : Int) (1099511627776 : Int)
  else
  some false) fun x3 =>
  some (((x0 && x1) && x2) && x3)

noncomputable def Bv : Kn St := ⟨60, [.kv jk], [.kv .bool], .ro fun x σ => uK x.1⟩

theorem Bz : Bv.ok Tryz.prog TB := iI ⟨Tryz.prog, TB, 25, KLs, MLs, [], [1000001], [], [Fh, lM, BA]⟩ ⟨[], [], [], []⟩ aV ⟨IE, kT, Fp, trivial⟩ (fn := Tryz.f60) (by kernel_rfl) (by kernel_rfl) (by kernel_rfl)
noncomputable def fK (p0 : Option Nat) (p1 : Int × Int × (List UInt8) × Int × (List Int) × Int × Unit) (p2 : Unit) (σ : St) : Option (((Int × Int × (List UInt8) × Int × (List Int) × Int × Unit) × Int × Int) × St) :=
  Option.bind p0 fun x0 =>
  Option.bind σ.ak[x0]? fun x1 =>
  Option.bind (if (x1.2.2.1 == 0) = true then
  uK p1
  else
  some false) fun x2 =>
  Option.bind (if ((x1.2.2.1 == 0) && (!x2)) = true then
  Option.bind p0 fun x3 =>
  Option.bind σ.ak[x3]? fun x4 =>
  some (σ.bg (σ.ak.set x3 (x4.1, (x4.2.1, ((6 : Int), x4.2.2.2)))))
  else
  some σ) fun x5 =>
  Option.bind p0 fun x6 =>
  Option.bind x5.ak[x6]? fun x7 =>
  if (x7.2.2.1 != 0) = true then
  Option.bind p0 fun x8 =>
  Option.bind x5.ak[x8]? fun x9 =>
  some ((((0 : Int), ((0 : Int), ([], ((0 : Int), ([], ((0 : Int), ())))))), ((0 : Int), x9.2.2.1)), x5)
  else
  Option.bind p0 fun x10 =>
  Option.bind x5.ak[x10]? fun x11 =>
  some ((p1, (x11.2.1, (0 : Int))), x5)

noncomputable def lX : Kn St := ⟨85, [.kv (.ptr ja), .kv jk, .clo 60 []], [.kv jk, .kv .i, .kv .i], .rw fun x σ => fK x.1 x.2.1 x.2.2.1 σ⟩

theorem sQ : lX.ok Tryz.prog TB := mM ⟨Tryz.prog, TB, 39, KLs, MLs, [], [1000004, 2000009], [], [Bv]⟩ ⟨[], [(3, ⟨[], true, [⟨.nrm, []⟩], false, [6]⟩)], [], []⟩ aV ⟨Bz, trivial⟩ (fn := Tryz.f85) (by kernel_rfl) (by kernel_rfl) (by kernel_rfl)
noncomputable def qB (p0 : List UInt8) (p1 : Int) (σ : St) : Option (((Int × Int × (List UInt8) × Int × (List Int) × Int × Unit) × Int × Int) × St) :=
  Option.bind (cZ (some σ.ak.length) (σ.bg (σ.ak ++ [(p0, (p1, ((0 : Int), ())))]))) fun x0 =>
  Option.bind (cZ (some σ.ak.length) x0.2) fun x1 =>
  Option.bind (lD (some σ.ak.length) x1.2) fun x2 =>
  Option.bind (cZ (some σ.ak.length) x2.2) fun x3 =>
  Option.bind (jK (some σ.ak.length) x3.2) fun x4 =>
  Option.bind (cZ (some σ.ak.length) x4.2) fun x5 =>
  Option.bind (fK (some σ.ak.length) (x0.1, (x1.1, (x2.1, (x3.1, (x4.1, (x5.1, ())))))) () x5.2) fun x6 =>
  some ((x6.1.1, (x6.1.2.1, x6.1.2.2)), x6.2)

noncomputable def zX : Kn St := ⟨53, [.kv .str, .kv .i], [.kv jk, .kv .i, .kv .i], .rw fun x σ => qB x.1 x.2.1 σ⟩

theorem Ee : zX.ok Tryz.prog TB := mM ⟨Tryz.prog, TB, 32, KLs, MLs, [], [3000008], [], [kz, vK, sV, lX]⟩ ⟨[], [], [], []⟩ aV ⟨lu, zG, xI, sQ, trivial⟩ (fn := Tryz.f53) (by kernel_rfl) (by kernel_rfl) (by kernel_rfl)
noncomputable def dR (p0 : List UInt8) (p1 : Unit) (σ : St) : Option (((Int × Int × (List UInt8) × Int × (List Int) × Int × Unit) × Bool) × St) :=
  Option.bind (qB p0 (0 : Int) σ) fun x0 =>
  some ((x0.1.1, ((x0.1.2.2 == 0) && (x0.1.2.1 == (p0.length : Int)))), x0.2)

noncomputable def jv : Kn St := ⟨52, [.kv .str, .clo 53 []], [.kv jk, .kv .bool], .rw fun x σ => dR x.1 x.2.1 σ⟩

theorem nI : jv.ok Tryz.prog TB := mM ⟨Tryz.prog, TB, 25, KLs, MLs, [], [2000006], [], [zX]⟩ ⟨[], [], [], []⟩ aV ⟨Ee, trivial⟩ (fn := Tryz.f52) (by kernel_rfl) (by kernel_rfl) (by kernel_rfl)
noncomputable def dB (p0 : Option Nat) (σ : St) : Option Int :=
  if p0.isNone = true then
  some (0 : Int)
  else
  Option.bind p0 fun x0 =>
  Option.bind σ.ah[x0]? fun x1 =>
  Option.bind p0 fun x2 =>
  Option.bind σ.ah[x2]? fun x3 =>
  some (IntKind.wrap .i64 (IntKind.wrap .i64 ((x1.2.2.2.1.length : Int) + (x3.2.2.1.length : Int)) + 1))

noncomputable def gX : Kn St := ⟨24, [.kv (.ptr bn)], [.kv .i], .ro fun x σ => dB x.1 σ⟩

theorem gY : gX.ok Tryz.prog TB := iI ⟨Tryz.prog, TB, 17, KLs, MLs, [], [], [], []⟩ ⟨[], [], [], []⟩ aV trivial (fn := Tryz.f24) (by kernel_rfl) (by kernel_rfl) (by kernel_rfl)
noncomputable def lF (p0 : Option Nat) (p1 : List UInt8) (σ : St) : Option (Bool × St) :=
  Option.bind (dR p1 () σ) fun x0 =>
  if (!(!x0.1.2)) = true then
  Option.bind p0 fun x1 =>
  Option.bind x0.2.ah[x1]? fun x2 =>
  if (!(x0.1.1.1 != x2.1)) = true then
  Option.bind (dB p0 x0.2) fun x3 =>
  if (x0.1.1.2.1 != x3) = true then
  some (false, x0.2)
  else
  Option.bind p0 fun x4 =>
  Option.bind x0.2.ah[x4]? fun x5 =>
  if ((x5.2.2.1.length + 1) * 72) ≤ 140737488355328 then
  Option.bind p0 fun x6 =>
  Option.bind x0.2.ah[x6]? fun x7 =>
  if x4 = x6 ∧ true = true then
  some (true, (x0.2.bP (x0.2.ah.set x6 (x7.1, (x7.2.1, ((x5.2.2.1 ++ [x0.1.1]), x7.2.2.2))))))
  else
  none
  else
  none
  else
  some (false, x0.2)
  else
  some (false, x0.2)

noncomputable def vN : Kn St := ⟨27, [.kv (.ptr bn), .kv .str], [.kv .bool], .rw fun x σ => lF x.1 x.2.1 σ⟩

theorem zH : vN.ok Tryz.prog TB := mM ⟨Tryz.prog, TB, 40, KLs, MLs, [], [2000005], [34], [jv, gX]⟩ ⟨[], [], [], []⟩ aV ⟨nI, gY, trivial⟩ (fn := Tryz.f27) (by kernel_rfl) (by kernel_rfl) (by kernel_rfl)
noncomputable def mg (p0 : Option Nat) (σ : St) : Option ((Int × Int × Unit) × St) :=
  Option.bind (cZ p0 σ) fun x0 =>
  Option.bind (cZ p0 x0.2) fun x1 =>
  some ((x0.1, (x1.1, ())), x1.2)

noncomputable def sO : Kn St := ⟨88, [.kv (.ptr ja)], [.kv aS], .rw fun x σ => mg x.1 σ⟩

theorem xH : sO.ok Tryz.prog TB := mM ⟨Tryz.prog, TB, 8, KLs, MLs, [], [], [], [kz]⟩ ⟨[], [], [], []⟩ aV ⟨lu, trivial⟩ (fn := Tryz.f88) (by kernel_rfl) (by kernel_rfl) (by kernel_rfl)
noncomputable def bG (p0 : Option Nat) (x0 : Int × St) (s7 : (List (Int × Int × Unit)) × Int × St) : Option (((List (Int × Int × Unit)) × Int × St) ⊕ ((List (Int × Int × Unit)) × St)) :=
  Option.bind (if decide (s7.2.1 < x0.1) = true then
  p0
  else
  some 0) fun x8 =>
  Option.bind (if decide (s7.2.1 < x0.1) = true then
  s7.2.2.ak[x8]?
  else
  some ([], ((0 : Int), ((0 : Int), ())))) fun x9 =>
  if (decide (s7.2.1 < x0.1) && (x9.2.2.1 == 0)) = true then
  Option.bind (mg p0 s7.2.2) fun x10 =>
  if ((s7.1.length + 1) * 16) ≤ 140737488355328 then
  some (.inl ((s7.1 ++ [x10.1]), (IntKind.wrap .i64 (s7.2.1 + 1), x10.2)))
  else
  none
  else
  some (.inr (s7.1, s7.2.2))

noncomputable def cu (p0 : Option Nat) (p1 : Int) (p2 : Unit) (σ : St) : Option ((List (Int × Int × Unit)) × St) :=
  Option.bind (cZ p0 σ) fun x0 =>
  Option.bind p0 fun x1 =>
  Option.bind x0.2.ak[x1]? fun x2 =>
  Option.bind (if (x2.2.2.1 == 0) = true then
  fV x0.1 (0 : Int) p1
  else
  some false) fun x3 =>
  Option.bind (if ((x2.2.2.1 == 0) && (!x3)) = true then
  Option.bind p0 fun x4 =>
  Option.bind x0.2.ak[x4]? fun x5 =>
  some (x0.2.bg (x0.2.ak.set x4 (x5.1, (x5.2.1, ((6 : Int), x5.2.2.2)))))
  else
  some x0.2) fun x6 =>
  Option.bind (bC (bG p0 x0) ([], ((0 : Int), x6))) fun x11 =>
  some (x11.1, x11.2)

noncomputable def gG : Kn St := ⟨87, [.kv (.ptr ja), .kv .i, .clo 88 []], [.kv (.list aS)], .rw fun x σ => cu x.1 x.2.1 x.2.2.1 σ⟩

theorem kF : gG.ok Tryz.prog TB := mM ⟨Tryz.prog, TB, 45, KLs, MLs, [], [44], [], [kz, lM, sO]⟩ ⟨[], [(3, ⟨[], true, [⟨.nrm, []⟩], false, []⟩)], [], [(6, ⟨[(8, .own 58 16 aS), (9, .kv .i)], true, [⟨.ext 0, [(8, .own 58 16 aS)]⟩], false, []⟩)]⟩ aV ⟨lu, kT, xH, trivial⟩ (fn := Tryz.f87) (by kernel_rfl) (by kernel_rfl) (by kernel_rfl)
noncomputable def pW (p0 : List (Int × Int × Unit)) (s0 : Int) : Option (Int ⊕ (Unit ⊕ Bool)) :=
  if decide (s0 < (p0.length : Int)) = true then
  Option.bind (ix p0 s0) fun x1 =>
  Option.bind (fV x1.1 (1 : Int) (1099511627776 : Int)) fun x2 =>
  if (!(!x2)) = true then
  Option.bind (fV x1.2.1 (0 : Int) (63 : Int)) fun x3 =>
  if (!(!x3)) = true then
  if decide (s0 > 0) = true then
  Option.bind (ix p0 (IntKind.wrap .i64 (s0 - 1))) fun x4 =>
  if decide (x1.1 ≤ x4.1) = true then
  some (.inr (.inr false))
  else
  some (.inl (IntKind.wrap .i64 (s0 + 1)))
  else
  some (.inl (IntKind.wrap .i64 (s0 + 1)))
  else
  some (.inr (.inr false))
  else
  some (.inr (.inr false))
  else
  some (.inr (.inl ()))

noncomputable def lJ (p0 : List (Int × Int × Unit)) : Option Bool :=
  Option.bind (bC (pW p0) (0 : Int)) fun x5 =>
  ku x5 (fun x6 =>
  some (decide ((p0.length : Int) ≤ 32))) Option.some

noncomputable def uo : Kn St := ⟨77, [.kv (.list aS)], [.kv .bool], .ro fun x σ => lJ x.1⟩

theorem vM : uo.ok Tryz.prog TB := iI ⟨Tryz.prog, TB, 41, KLs, MLs, [], [4000004], [], [lM]⟩ ⟨[], [], [], [(2, ⟨[(7, .kv .i)], false, [⟨.ext 0, []⟩], true, []⟩)]⟩ aV ⟨kT, trivial⟩ (fn := Tryz.f77) (by kernel_rfl) (by kernel_rfl) (by kernel_rfl)
noncomputable def dI (p0 : Option Nat) (p1 : List (Int × Int × Unit)) (p2 : Unit) (σ : St) : Option (((List (Int × Int × Unit)) × Int × Int) × St) :=
  Option.bind p0 fun x0 =>
  Option.bind σ.ak[x0]? fun x1 =>
  Option.bind (if (x1.2.2.1 == 0) = true then
  lJ p1
  else
  some false) fun x2 =>
  Option.bind (if ((x1.2.2.1 == 0) && (!x2)) = true then
  Option.bind p0 fun x3 =>
  Option.bind σ.ak[x3]? fun x4 =>
  some (σ.bg (σ.ak.set x3 (x4.1, (x4.2.1, ((6 : Int), x4.2.2.2)))))
  else
  some σ) fun x5 =>
  Option.bind p0 fun x6 =>
  Option.bind x5.ak[x6]? fun x7 =>
  if (x7.2.2.1 != 0) = true then
  Option.bind p0 fun x8 =>
  Option.bind x5.ak[x8]? fun x9 =>
  some (([], ((0 : Int), x9.2.2.1)), x5)
  else
  Option.bind p0 fun x10 =>
  Option.bind x5.ak[x10]? fun x11 =>
  some ((p1, (x11.2.1, (0 : Int))), x5)

noncomputable def jh : Kn St := ⟨86, [.kv (.ptr ja), .kv (.list aS), .clo 77 []], [.kv (.list aS), .kv .i, .kv .i], .rw fun x σ => dI x.1 x.2.1 x.2.2.1 σ⟩

theorem mY : jh.ok Tryz.prog TB := mM ⟨Tryz.prog, TB, 39, KLs, MLs, [], [], [], [uo]⟩ ⟨[], [(3, ⟨[], true, [⟨.nrm, []⟩], false, []⟩)], [], []⟩ aV ⟨vM, trivial⟩ (fn := Tryz.f86) (by kernel_rfl) (by kernel_rfl) (by kernel_rfl)
noncomputable def oq (p0 : List UInt8) (p1 : Int) (σ : St) : Option (((List (Int × Int × Unit)) × Int × Int) × St) :=
  Option.bind (cu (some σ.ak.length) (32 : Int) () (σ.bg (σ.ak ++ [(p0, (p1, ((0 : Int), ())))]))) fun x0 =>
  Option.bind (dI (some σ.ak.length) x0.1 () x0.2) fun x1 =>
  some ((x1.1.1, (x1.1.2.1, x1.1.2.2)), x1.2)

noncomputable def uN : Kn St := ⟨55, [.kv .str, .kv .i], [.kv (.list aS), .kv .i, .kv .i], .rw fun x σ => oq x.1 x.2.1 σ⟩

theorem yK : uN.ok Tryz.prog TB := mM ⟨Tryz.prog, TB, 19, KLs, MLs, [], [], [], [gG, jh]⟩ ⟨[], [], [], []⟩ aV ⟨kF, mY, trivial⟩ (fn := Tryz.f55) (by kernel_rfl) (by kernel_rfl) (by kernel_rfl)
noncomputable def bV (p0 : List UInt8) (p1 : Unit) (σ : St) : Option (((List (Int × Int × Unit)) × Bool) × St) :=
  Option.bind (oq p0 (0 : Int) σ) fun x0 =>
  some ((x0.1.1, ((x0.1.2.2 == 0) && (x0.1.2.1 == (p0.length : Int)))), x0.2)

noncomputable def gy : Kn St := ⟨54, [.kv .str, .clo 55 []], [.kv (.list aS), .kv .bool], .rw fun x σ => bV x.1 x.2.1 σ⟩

theorem kC : gy.ok Tryz.prog TB := mM ⟨Tryz.prog, TB, 25, KLs, MLs, [], [], [], [uN]⟩ ⟨[], [], [], []⟩ aV ⟨yK, trivial⟩ (fn := Tryz.f54) (by kernel_rfl) (by kernel_rfl) (by kernel_rfl)
noncomputable def bH (p0 : Option Nat) (σ : St) : Option Int :=
  if p0.isNone = true then
  some (0 : Int)
  else
  Option.bind p0 fun x0 =>
  Option.bind σ.ah[x0]? fun x1 =>
  some (IntKind.wrap .i64 ((x1.2.2.2.1.length : Int) + 1))

noncomputable def fU : Kn St := ⟨23, [.kv (.ptr bn)], [.kv .i], .ro fun x σ => bH x.1 σ⟩

theorem gu : fU.ok Tryz.prog TB := iI ⟨Tryz.prog, TB, 11, KLs, MLs, [], [], [], []⟩ ⟨[], [], [], []⟩ aV trivial (fn := Tryz.f23) (by kernel_rfl) (by kernel_rfl) (by kernel_rfl)
noncomputable def lK (p0 : Option Nat) (p1 : List (Int × Int × Unit)) (σ : St) (s0 : Int) : Option (Int ⊕ (Unit ⊕ Bool)) :=
  if decide (s0 < (p1.length : Int)) = true then
  Option.bind (ix p1 s0) fun x1 =>
  Option.bind (bH p0 σ) fun x2 =>
  if (x1.1 != IntKind.wrap .i64 (x2 + s0)) = true then
  some (.inr (.inr false))
  else
  some (.inl (IntKind.wrap .i64 (s0 + 1)))
  else
  some (.inr (.inl ()))

noncomputable def jd (p0 : Option Nat) (p1 : List (Int × Int × Unit)) (σ : St) : Option Bool :=
  Option.bind (bC (lK p0 p1 σ) (0 : Int)) fun x3 =>
  ku x3 (fun x4 =>
  Option.bind (if decide ((p1.length : Int) > 0) = true then
  p0
  else
  some 0) fun x5 =>
  Option.bind (if decide ((p1.length : Int) > 0) = true then
  σ.ah[x5]?
  else
  some ((0 : Int), (none, ([], ([], ()))))) fun x6 =>
  some (decide ((p1.length : Int) > 0) && decide ((p1.length : Int) ≤ (x6.2.2.1.length : Int)))) Option.some

noncomputable def oI : Kn St := ⟨44, [.kv (.ptr bn), .kv (.list aS)], [.kv .bool], .ro fun x σ => jd x.1 x.2.1 σ⟩

theorem qZ : oI.ok Tryz.prog TB := iI ⟨Tryz.prog, TB, 35, KLs, MLs, [], [4000006], [], [fU]⟩ ⟨[], [], [], [(2, ⟨[(9, .kv .i)], false, [⟨.ext 0, []⟩], true, []⟩)]⟩ aV ⟨gu, trivial⟩ (fn := Tryz.f44) (by kernel_rfl) (by kernel_rfl) (by kernel_rfl)
noncomputable def je (p0 : Option Nat) (p1 : List (Int × Int × Unit)) (σ : St) : Option (Unit × St) :=
  Option.bind p0 fun x0 =>
  Option.bind σ.ah[x0]? fun x1 =>
  if ((x1.2.2.2.1.length + p1.length) * 16) ≤ 140737488355328 then
  Option.bind p0 fun x2 =>
  Option.bind σ.ah[x2]? fun x3 =>
  if x0 = x2 ∧ true = true then
  Option.bind p0 fun x4 =>
  Option.bind ((σ.ah.set x2 (x3.1, (x3.2.1, (x3.2.2.1, ((x1.2.2.2.1 ++ p1), x3.2.2.2.2)))))[x4]?) fun x5 =>
  if 0 ≤ (p1.length : Int) ∧ (p1.length : Int) ≤ (x5.2.2.1.length : Int) then
  if ((0 + (x5.2.2.1.drop ((p1.length : Int).toNat)).length) * 72) ≤ 140737488355328 then
  Option.bind p0 fun x6 =>
  Option.bind ((σ.ah.set x2 (x3.1, (x3.2.1, (x3.2.2.1, ((x1.2.2.2.1 ++ p1), x3.2.2.2.2)))))[x6]?) fun x7 =>
  some ((), ((σ.bP (σ.ah.set x2 (x3.1, (x3.2.1, (x3.2.2.1, ((x1.2.2.2.1 ++ p1), x3.2.2.2.2)))))).bP ((σ.ah.set x2 (x3.1, (x3.2.1, (x3.2.2.1, ((x1.2.2.2.1 ++ p1), x3.2.2.2.2))))).set x6 (x7.1, (x7.2.1, (([] ++ x5.2.2.1.drop ((p1.length : Int).toNat)), x7.2.2.2))))))
  else
  none
  else
  none
  else
  none
  else
  none

noncomputable def oJ : Kn St := ⟨45, [.kv (.ptr bn), .kv (.list aS)], [], .rw fun x σ => je x.1 x.2.1 σ⟩

theorem rf : oJ.ok Tryz.prog TB := mM ⟨Tryz.prog, TB, 25, KLs, MLs, [], [], [8], []⟩ ⟨[], [], [], []⟩ aV trivial (fn := Tryz.f45) (by kernel_rfl) (by kernel_rfl) (by kernel_rfl)
noncomputable def iZ (p0 : Option Nat) (p1 : List UInt8) (σ : St) : Option (Bool × St) :=
  Option.bind (bV p1 () σ) fun x0 =>
  Option.bind (if (!(!x0.1.2)) = true then
  jd p0 x0.1.1 x0.2
  else
  some false) fun x1 =>
  if ((!x0.1.2) || (!x1)) = true then
  some (false, x0.2)
  else
  Option.bind (je p0 x0.1.1 x0.2) fun x2 =>
  some (true, x2.2)

noncomputable def qm : Kn St := ⟨28, [.kv (.ptr bn), .kv .str], [.kv .bool], .rw fun x σ => iZ x.1 x.2.1 σ⟩

theorem wo : qm.ok Tryz.prog TB := mM ⟨Tryz.prog, TB, 23, KLs, MLs, [], [], [], [gy, oI, oJ]⟩ ⟨[], [], [], []⟩ aV ⟨kC, qZ, rf, trivial⟩ (fn := Tryz.f28) (by kernel_rfl) (by kernel_rfl) (by kernel_rfl)
noncomputable def iQ (p0 : List UInt8) (p1 : Nat) (σ : St) : Option (Bool × St) :=
  if (p0 == []) = true then
  some (false, σ)
  else
  if (0 : Int) ≤ (0 : Int) ∧ 0 < (p0.length : Int) then
  if (btS p0 (0 : Int) == 99) = true then
  Option.bind σ.bu[p1]? fun x0 =>
  if (0 : Int) ≤ (1 : Int) ∧ 1 ≤ (p0.length : Int) then
  Option.bind (lF x0.1 (p0.drop 1) σ) fun x1 =>
  some (x1.1, x1.2)
  else
  none
  else
  if (0 : Int) ≤ (0 : Int) ∧ 0 < (p0.length : Int) then
  if (btS p0 (0 : Int) == 118) = true then
  Option.bind σ.bu[p1]? fun x2 =>
  if (0 : Int) ≤ (1 : Int) ∧ 1 ≤ (p0.length : Int) then
  Option.bind (iZ x2.1 (p0.drop 1) σ) fun x3 =>
  some (x3.1, x3.2)
  else
  none
  else
  some (false, σ)
  else
  none
  else
  none

noncomputable def yU : Kn St := ⟨26, [.kv .str, .cap Um], [.kv .bool], .rw fun x σ => iQ x.1 x.2.1 σ⟩

theorem Dp : yU.ok Tryz.prog TB := mM ⟨Tryz.prog, TB, 23, KLs, MLs, [], [], [], [vN, qm]⟩ ⟨[], [], [], []⟩ aV ⟨zH, wo, trivial⟩ (fn := Tryz.f26) (by kernel_rfl) (by kernel_rfl) (by kernel_rfl)
noncomputable def fM (x0 : ((Option Nat) × Int) × St) (x3 : Int) (s4 : Int × St) : Option ((Int × St) ⊕ (St ⊕ (((Option Nat) × Int) × St))) :=
  if decide (s4.1 < x3) = true then
  Option.bind (rU x0.1.1 s4.1 s4.2) fun x5 =>
  Option.bind (iQ x5.1 x0.2.bu.length s4.2) fun x6 =>
  if (!x6.1) = true then
  some (.inr (.inr ((none, (6 : Int)), x6.2)))
  else
  some (.inl (IntKind.wrap .i64 (s4.1 + 1), x6.2))
  else
  some (.inr (.inl s4.2))

noncomputable def fZ (p0 : Option Nat) (p1 : Int) (σ : St) : Option (((Option Nat) × Int) × St) :=
  if p0.isNone = true then
  some ((none, (1 : Int)), σ)
  else
  if (decide (p1 < 0) || decide (p1 ≥ 6)) = true then
  some ((none, (14 : Int)), σ)
  else
  Option.bind (zC p0 [99, 109, 100, 115] (2048 : Int) σ) fun x0 =>
  if (x0.1.2 != 0) = true then
  some ((none, x0.1.2), x0.2)
  else
  Option.bind ((x0.2.bu ++ [(none, ())])[x0.2.bu.length]?) fun x1 =>
  Option.bind (kG x0.1.1 (((x0.2.bP (x0.2.ah ++ [(p1, (x0.1.1, ([], ([], ()))))])).lV (x0.2.bu ++ [(none, ())])).lV ((x0.2.bu ++ [(none, ())]).set x0.2.bu.length (some x0.2.ah.length, x1.2)))) fun x2 =>
  if decide (x2 > 0) = true then
  some ((none, (6 : Int)), (((x0.2.bP (x0.2.ah ++ [(p1, (x0.1.1, ([], ([], ()))))])).lV (x0.2.bu ++ [(none, ())])).lV ((x0.2.bu ++ [(none, ())]).set x0.2.bu.length (some x0.2.ah.length, x1.2))))
  else
  Option.bind (iE x0.1.1 (((x0.2.bP (x0.2.ah ++ [(p1, (x0.1.1, ([], ([], ()))))])).lV (x0.2.bu ++ [(none, ())])).lV ((x0.2.bu ++ [(none, ())]).set x0.2.bu.length (some x0.2.ah.length, x1.2)))) fun x3 =>
  Option.bind (bC (fM x0 x3) ((0 : Int), (((x0.2.bP (x0.2.ah ++ [(p1, (x0.1.1, ([], ([], ()))))])).lV (x0.2.bu ++ [(none, ())])).lV ((x0.2.bu ++ [(none, ())]).set x0.2.bu.length (some x0.2.ah.length, x1.2))))) fun x7 =>
  ku x7 (fun x8 =>
  Option.bind x8.bu[x0.2.bu.length]? fun x9 =>
  some ((x9.1, (0 : Int)), x8)) Option.some

noncomputable def xk : Kn St := ⟨9, [.kv (.ptr di), .kv .i], [.kv (.ptr bn), .kv .i], .rw fun x σ => fZ x.1 x.2.1 σ⟩

theorem xW : xk.ok Tryz.prog TB := mM ⟨Tryz.prog, TB, 56, KLs, MLs, [8], [], [], [Kt, vk, lU, BD, yU]⟩ ⟨[], [], [], [(13, ⟨[(41, .kv .i)], true, [⟨.ext 1, []⟩], true, []⟩)]⟩ aV ⟨LX, xu, kU, Fq, Dp, trivial⟩ (fn := Tryz.f9) (by kernel_rfl) (by kernel_rfl) (by kernel_rfl)
noncomputable def nR (p1 : List Int) (s0 : (List Int) × Int) : Option (((List Int) × Int) ⊕ (List Int)) :=
  if decide (s0.2 < (p1.length : Int)) = true then
  Option.bind (ix p1 s0.2) fun x1 =>
  Option.bind (dV x1) fun x2 =>
  if ((s0.1.length + (jS x2).length) * 1) ≤ 140737488355328 then
  some (.inl ((s0.1 ++ jS x2), IntKind.wrap .i64 (s0.2 + 1)))
  else
  none
  else
  some (.inr s0.1)

noncomputable def jb (p0 : List Int) (p1 : List Int) : Option (List Int) :=
  Option.bind (bC (nR p1) (p0, (0 : Int))) fun x3 =>
  some x3

noncomputable def sS : Kn St := ⟨57, [.own 5 1 (.int .u8), .kv (.list .i)], [.own 5 1 (.int .u8)], .ro fun x σ => jb x.1 x.2.1⟩

theorem sU : sS.ok Tryz.prog TB := iI ⟨Tryz.prog, TB, 19, KLs, MLs, [], [], [], [jC]⟩ ⟨[], [], [], [(2, ⟨[(0, .own 5 1 (.int .u8)), (9, .kv .i)], false, [⟨.ext 0, [(0, .own 5 1 (.int .u8))]⟩], false, []⟩)]⟩ aV ⟨iT, trivial⟩ (fn := Tryz.f57) (by kernel_rfl) (by kernel_rfl) (by kernel_rfl)
noncomputable def uF (p0 : List UInt8) : Option ((List UInt8) × Int) :=
  if decide ((p0.length : Int) > 4096) = true then
  some ([], (4 : Int))
  else
  Option.bind (dV (p0.length : Int)) fun x0 =>
  if (x0.length + p0.length) ≤ 9223372036854775807 then
  some ((x0 ++ p0), (0 : Int))
  else
  none

noncomputable def DL : Kn St := ⟨89, [.kv .str], [.kv .str, .kv .i], .ro fun x σ => uF x.1⟩

theorem GN : DL.ok Tryz.prog TB := iI ⟨Tryz.prog, TB, 12, KLs, MLs, [], [], [], [jC]⟩ ⟨[], [], [], []⟩ aV ⟨iT, trivial⟩ (fn := Tryz.f89) (by kernel_rfl) (by kernel_rfl) (by kernel_rfl)
noncomputable def vX (p0 : List Int) (p1 : List UInt8) : Option (List Int) :=
  Option.bind (uF p1) fun x0 =>
  if ((p0.length + (jS x0.1).length) * 1) ≤ 140737488355328 then
  some (p0 ++ jS x0.1)
  else
  none

noncomputable def Fj : Kn St := ⟨56, [.own 5 1 (.int .u8), .kv .str], [.own 5 1 (.int .u8)], .ro fun x σ => vX x.1 x.2.1⟩

theorem IG : Fj.ok Tryz.prog TB := iI ⟨Tryz.prog, TB, 15, KLs, MLs, [], [], [], [DL]⟩ ⟨[], [], [], []⟩ aV ⟨GN, trivial⟩ (fn := Tryz.f56) (by kernel_rfl) (by kernel_rfl) (by kernel_rfl)
noncomputable def qN (p0 : Int) : Option ((List UInt8) × Int) :=
  Option.bind (dV p0) fun x0 =>
  some (x0, (0 : Int))

noncomputable def xn : Kn St := ⟨111, [.kv .i], [.kv .str, .kv .i], .ro fun x σ => qN x.1⟩

theorem Ak : xn.ok Tryz.prog TB := iI ⟨Tryz.prog, TB, 6, KLs, MLs, [], [], [], [jC]⟩ ⟨[], [], [], []⟩ aV ⟨iT, trivial⟩ (fn := Tryz.f111) (by kernel_rfl) (by kernel_rfl) (by kernel_rfl)
noncomputable def dS (p0 : List Int) (s1 : (List Int) × Int) : Option (((List Int) × Int) ⊕ ((List Int) ⊕ ((List UInt8) × Int))) :=
  if decide (s1.2 < (p0.length : Int)) = true then
  Option.bind (ix p0 s1.2) fun x2 =>
  Option.bind (qN x2) fun x3 =>
  if (x3.2 != 0) = true then
  some (.inr (.inr ([], x3.2)))
  else
  if (s1.1.length + (jS x3.1).length) ≤ 140737488355328 then
  some (.inl ((s1.1 ++ jS x3.1), IntKind.wrap .i64 (s1.2 + 1)))
  else
  none
  else
  some (.inr (.inl s1.1))

noncomputable def gI (p0 : List Int) (p1 : Unit) : Option ((List UInt8) × Int) :=
  if decide ((p0.length : Int) > 256) = true then
  some ([], (4 : Int))
  else
  Option.bind (dV (p0.length : Int)) fun x0 =>
  if x0.length ≤ 140737488355328 then
  Option.bind (bC (dS p0) (jS x0, (0 : Int))) fun x4 =>
  ku x4 (fun x5 =>
  some (bT x5, (0 : Int))) Option.some
  else
  none

noncomputable def jZ : Kn St := ⟨110, [.kv (.list .i), .clo 111 []], [.kv .str, .kv .i], .ro fun x σ => gI x.1 x.2.1⟩

theorem pF : jZ.ok Tryz.prog TB := iI ⟨Tryz.prog, TB, 39, KLs, MLs, [], [], [], [jC, xn]⟩ ⟨[], [], [], [(5, ⟨[(6, .sby 5), (20, .kv .i)], false, [⟨.ext 0, [(6, .sby 5)]⟩], true, []⟩)]⟩ aV ⟨iT, Ak, trivial⟩ (fn := Tryz.f110) (by kernel_rfl) (by kernel_rfl) (by kernel_rfl)
noncomputable def pg (p0 : List Int) : Option ((List UInt8) × Int) :=
  Option.bind (gI p0 ()) fun x0 =>
  some (x0.1, x0.2)

noncomputable def yY : Kn St := ⟨90, [.kv (.list .i)], [.kv .str, .kv .i], .ro fun x σ => pg x.1⟩

theorem Dq : yY.ok Tryz.prog TB := iI ⟨Tryz.prog, TB, 8, KLs, MLs, [], [], [], [jZ]⟩ ⟨[], [], [], []⟩ aV ⟨pF, trivial⟩ (fn := Tryz.f90) (by kernel_rfl) (by kernel_rfl) (by kernel_rfl)
noncomputable def qC (p0 : List Int) (p1 : List Int) : Option (List Int) :=
  Option.bind (pg p1) fun x0 =>
  if ((p0.length + (jS x0.1).length) * 1) ≤ 140737488355328 then
  some (p0 ++ jS x0.1)
  else
  none

noncomputable def zZ : Kn St := ⟨58, [.own 5 1 (.int .u8), .kv (.list .i)], [.own 5 1 (.int .u8)], .ro fun x σ => qC x.1 x.2.1⟩

theorem Ef : zZ.ok Tryz.prog TB := iI ⟨Tryz.prog, TB, 15, KLs, MLs, [], [], [], [yY]⟩ ⟨[], [], [], []⟩ aV ⟨Dq, trivial⟩ (fn := Tryz.f58) (by kernel_rfl) (by kernel_rfl) (by kernel_rfl)
noncomputable def rM (p0 : Bool) (p1 : List Int) : Option ((List UInt8) × Int) :=
  if (!p0) = true then
  some ([], (2 : Int))
  else
  some (bT p1, (0 : Int))

noncomputable def zF : Kn St := ⟨59, [.kv .bool, .kv (.list (.int .u8))], [.kv .str, .kv .i], .ro fun x σ => rM x.1 x.2.1⟩

theorem zY : zF.ok Tryz.prog TB := iI ⟨Tryz.prog, TB, 10, KLs, MLs, [], [], [], []⟩ ⟨[], [], [], []⟩ aV trivial (fn := Tryz.f59) (by kernel_rfl) (by kernel_rfl) (by kernel_rfl)
noncomputable def rJ (p0 : Int × Int × (List UInt8) × Int × (List Int) × Int × Unit) : Option ((List UInt8) × Int) :=
  Option.bind (jb [] [p0.1, p0.2.1]) fun x0 =>
  Option.bind (vX x0 p0.2.2.1) fun x1 =>
  Option.bind (jb x1 [p0.2.2.2.1]) fun x2 =>
  Option.bind (qC x2 p0.2.2.2.2.1) fun x3 =>
  Option.bind (uK p0) fun x4 =>
  Option.bind (jb x3 [p0.2.2.2.2.2.1]) fun x5 =>
  Option.bind (rM x4 x5) fun x6 =>
  some (x6.1, x6.2)

noncomputable def Bq : Kn St := ⟨32, [.kv jk], [.kv .str, .kv .i], .ro fun x σ => rJ x.1⟩

theorem Fg : Bq.ok Tryz.prog TB := iI ⟨Tryz.prog, TB, 32, KLs, MLs, [], [1000001], [], [sS, Fj, zZ, Bv, zF]⟩ ⟨[], [], [], []⟩ aV ⟨sU, IG, Ef, Bz, zY, trivial⟩ (fn := Tryz.f32) (by kernel_rfl) (by kernel_rfl) (by kernel_rfl)
noncomputable def vV (p0 : List UInt8) : Option (List UInt8) :=
  Option.bind (uJ p0) fun x0 =>
  Option.bind (qi x0) fun x1 =>
  if (p0.length + x1.length) ≤ 9223372036854775807 then
  some (p0 ++ x1)
  else
  none

noncomputable def Ff : Kn St := ⟨65, [.kv .str], [.kv .str], .ro fun x σ => vV x.1⟩

theorem IC : Ff.ok Tryz.prog TB := iI ⟨Tryz.prog, TB, 8, KLs, MLs, [], [], [], [Bl, yw]⟩ ⟨[], [], [], []⟩ aV ⟨Bo, yJ, trivial⟩ (fn := Tryz.f65) (by kernel_rfl) (by kernel_rfl) (by kernel_rfl)
noncomputable def sD (p0 : Int) (p1 : List UInt8) : Option (List UInt8) :=
  Option.bind (dV p0) fun x0 =>
  if (x0.length + p1.length) ≤ 9223372036854775807 then
  Option.bind (vV (x0 ++ p1)) fun x1 =>
  Option.bind (dV (x1.length : Int)) fun x2 =>
  if (x2.length + x1.length) ≤ 9223372036854775807 then
  some (x2 ++ x1)
  else
  none
  else
  none

noncomputable def FC : Kn St := ⟨38, [.kv .i, .kv .str], [.kv .str], .ro fun x σ => sD x.1 x.2.1⟩

theorem IK : FC.ok Tryz.prog TB := iI ⟨Tryz.prog, TB, 16, KLs, MLs, [], [], [], [jC, Ff]⟩ ⟨[], [], [], []⟩ aV ⟨iT, IC, trivial⟩ (fn := Tryz.f38) (by kernel_rfl) (by kernel_rfl) (by kernel_rfl)
noncomputable def rQ (p0 : List UInt8) (s0 : Int) : Option (Int ⊕ (Unit ⊕ Bool)) :=
  if decide (s0 < (p0.length : Int)) = true then
  if 0 ≤ s0 ∧ s0 < (p0.length : Int) then
  if (((((decide (btS p0 s0 < 97) || decide (btS p0 s0 > 122)) && (decide (btS p0 s0 < 48) || decide (btS p0 s0 > 57))) && (btS p0 s0 != 46)) && (btS p0 s0 != 45)) && (btS p0 s0 != 95)) = true then
  some (.inr (.inr false))
  else
  some (.inl (IntKind.wrap .i64 (s0 + 1)))
  else
  none
  else
  some (.inr (.inl ()))

noncomputable def xP (p0 : List UInt8) : Option Bool :=
  Option.bind (bC (rQ p0) (0 : Int)) fun x1 =>
  ku x1 (fun x2 =>
  some (decide ((p0.length : Int) > 0) && decide ((p0.length : Int) ≤ 24))) Option.some

noncomputable def H7 : Kn St := ⟨67, [.kv .str], [.kv .bool], .ro fun x σ => xP x.1⟩

theorem Kq : H7.ok Tryz.prog TB := iI ⟨Tryz.prog, TB, 48, KLs, MLs, [], [], [], []⟩ ⟨[], [], [], [(2, ⟨[(7, .kv .i)], false, [⟨.ext 0, []⟩], true, []⟩)]⟩ aV trivial (fn := Tryz.f67) (by kernel_rfl) (by kernel_rfl) (by kernel_rfl)
noncomputable def ou : Option Unit :=
  some ()

noncomputable def uO : Kn St := ⟨70, [], [], .ro fun x σ => ou⟩

theorem yL : uO.ok Tryz.prog TB := iI ⟨Tryz.prog, TB, 0, KLs, MLs, [], [], [], []⟩ ⟨[], [], [], []⟩ aV trivial (fn := Tryz.f70) (by kernel_rfl) (by kernel_rfl) (by kernel_rfl)
noncomputable def dm (p0 : Option Nat) (p1 : Unit) (σ : St) : Option (Int × St) :=
  Option.bind p0 fun x0 =>
  Option.bind σ.af[x0]? fun x1 =>
  if decide (x1.2.2.1 > 0) = true then
  Option.bind p0 fun x2 =>
  Option.bind σ.af[x2]? fun x3 =>
  Option.bind p0 fun x4 =>
  Option.bind σ.af[x4]? fun x5 =>
  Option.bind p0 fun x6 =>
  Option.bind ((σ.af.set x4 (x5.1, (x5.2.1, (IntKind.wrap .i64 (x3.2.2.1 - 1), x5.2.2.2))))[x6]?) fun x7 =>
  if (x7.2.2.1 == 0) = true then
  Option.bind p0 fun x8 =>
  Option.bind ((σ.af.set x4 (x5.1, (x5.2.1, (IntKind.wrap .i64 (x3.2.2.1 - 1), x5.2.2.2))))[x8]?) fun x9 =>
  some ((11 : Int), ((σ.bF (σ.af.set x4 (x5.1, (x5.2.1, (IntKind.wrap .i64 (x3.2.2.1 - 1), x5.2.2.2))))).bF ((σ.af.set x4 (x5.1, (x5.2.1, (IntKind.wrap .i64 (x3.2.2.1 - 1), x5.2.2.2)))).set x8 (x9.1, (x9.2.1, (x9.2.2.1, (true, x9.2.2.2.2)))))))
  else
  Option.bind ou fun x10 =>
  some ((0 : Int), (σ.bF (σ.af.set x4 (x5.1, (x5.2.1, (IntKind.wrap .i64 (x3.2.2.1 - 1), x5.2.2.2))))))
  else
  Option.bind ou fun x11 =>
  some ((0 : Int), σ)

noncomputable def jF : Kn St := ⟨69, [.kv (.ptr di), .clo 70 []], [.kv .i], .rw fun x σ => dm x.1 x.2.1 σ⟩

theorem nY : jF.ok Tryz.prog TB := mM ⟨Tryz.prog, TB, 27, KLs, MLs, [], [], [], [uO]⟩ ⟨[], [], [], []⟩ aV ⟨yL, trivial⟩ (fn := Tryz.f69) (by kernel_rfl) (by kernel_rfl) (by kernel_rfl)
noncomputable def jV (p0 : Option Nat) (p1 : List UInt8) (p2 : List UInt8) (σ : St) : Option (Int × St) :=
  Option.bind (kM p0 σ) fun x0 =>
  if (x0 != 0) = true then
  some (x0, σ)
  else
  Option.bind (xP p1) fun x1 =>
  if (!x1) = true then
  some ((2 : Int), σ)
  else
  Option.bind p0 fun x2 =>
  Option.bind σ.af[x2]? fun x3 =>
  Option.bind σ.af[x2]? fun x4 =>
  Option.bind (if (!(((bZ Kd.str (Kd.ptr 93) p1 x4.2.1).getD none).isNone)) = true then
  Option.bind ((bZ Kd.str (Kd.ptr 93) p1 x4.2.1).getD none) fun x5 =>
  Option.bind σ.ai[x5]? fun x6 =>
  some (x6.1.length : Int)
  else
  some (0 : Int)) fun x7 =>
  if ((bZ Kd.str (Kd.ptr 93) p1 x4.2.1).getD none).isNone = true then
  Option.bind p0 fun x8 =>
  Option.bind σ.af[x8]? fun x9 =>
  Option.bind σ.af[x8]? fun x10 =>
  if (!(decide ((x10.2.1.length : Int) ≥ 128))) = true then
  if (!(decide ((p2.length : Int) > IntKind.wrap .i64 (65536 - x7)))) = true then
  Option.bind p0 fun x11 =>
  Option.bind σ.af[x11]? fun x12 =>
  Option.bind (fG p0 σ) fun x13 =>
  if decide ((p2.length : Int) > IntKind.wrap .i64 (x12.1 - x13)) = true then
  some ((10 : Int), σ)
  else
  Option.bind (if ((bZ Kd.str (Kd.ptr 93) p1 x4.2.1).getD none).isNone = true then
  Option.bind p0 fun x14 =>
  Option.bind σ.af[x14]? fun x15 =>
  Option.bind σ.af[x14]? fun x16 =>
  some (some σ.ai.length, ((σ.fE (σ.ai ++ [([], ((0 : Int), ()))])).bF (σ.af.set x14 (x16.1, (nJ Kd.str (Kd.ptr 93) p1 (some σ.ai.length) x16.2.1, x16.2.2)))))
  else
  some ((bZ Kd.str (Kd.ptr 93) p1 x4.2.1).getD none, σ)) fun x17 =>
  Option.bind x17.1 fun x18 =>
  Option.bind x17.2.ai[x18]? fun x19 =>
  if (x19.1.length + p2.length) ≤ 9223372036854775807 then
  Option.bind x17.1 fun x20 =>
  Option.bind x17.2.ai[x20]? fun x21 =>
  Option.bind (dm p0 () (x17.2.fE (x17.2.ai.set x20 ((x19.1 ++ p2), x21.2)))) fun x22 =>
  some (x22.1, x22.2)
  else
  none
  else
  some ((10 : Int), σ)
  else
  some ((10 : Int), σ)
  else
  if (!(decide ((p2.length : Int) > IntKind.wrap .i64 (65536 - x7)))) = true then
  Option.bind p0 fun x23 =>
  Option.bind σ.af[x23]? fun x24 =>
  Option.bind (fG p0 σ) fun x25 =>
  if decide ((p2.length : Int) > IntKind.wrap .i64 (x24.1 - x25)) = true then
  some ((10 : Int), σ)
  else
  Option.bind (if ((bZ Kd.str (Kd.ptr 93) p1 x4.2.1).getD none).isNone = true then
  Option.bind p0 fun x26 =>
  Option.bind σ.af[x26]? fun x27 =>
  Option.bind σ.af[x26]? fun x28 =>
  some (some σ.ai.length, ((σ.fE (σ.ai ++ [([], ((0 : Int), ()))])).bF (σ.af.set x26 (x28.1, (nJ Kd.str (Kd.ptr 93) p1 (some σ.ai.length) x28.2.1, x28.2.2)))))
  else
  some ((bZ Kd.str (Kd.ptr 93) p1 x4.2.1).getD none, σ)) fun x29 =>
  Option.bind x29.1 fun x30 =>
  Option.bind x29.2.ai[x30]? fun x31 =>
  if (x31.1.length + p2.length) ≤ 9223372036854775807 then
  Option.bind x29.1 fun x32 =>
  Option.bind x29.2.ai[x32]? fun x33 =>
  Option.bind (dm p0 () (x29.2.fE (x29.2.ai.set x32 ((x31.1 ++ p2), x33.2)))) fun x34 =>
  some (x34.1, x34.2)
  else
  none
  else
  some ((10 : Int), σ)

noncomputable def wZ : Kn St := ⟨39, [.kv (.ptr di), .kv .str, .kv .str], [.kv .i], .rw fun x σ => jV x.1 x.2.1 x.2.2.1 σ⟩

theorem Af : wZ.ok Tryz.prog TB := mM ⟨Tryz.prog, TB, 80, KLs, MLs, [], [], [], [sZ, H7, yS, jF]⟩ ⟨[], [(9, ⟨[], false, [⟨.nrm, [(9, .kv .i)]⟩], false, []⟩), (13, ⟨[], true, [⟨.nrm, [(8, .kv (.ptr au))]⟩], false, []⟩)], [], []⟩ aV ⟨uS, Kq, Dl, nY, trivial⟩ (fn := Tryz.f39) (by kernel_rfl) (by kernel_rfl) (by kernel_rfl)
noncomputable def pq (p0 : Option Nat) (p1 : List UInt8) (σ : St) : Option ((Int × Int) × St) :=
  if p0.isNone = true then
  some (((0 : Int), (1 : Int)), σ)
  else
  if decide ((p1.length : Int) > 1024) = true then
  some (((0 : Int), (4 : Int)), σ)
  else
  Option.bind (iE p0 σ) fun x0 =>
  Option.bind (lL p0 σ) fun x1 =>
  if (!x1.isNone) = true then
  Option.bind x1 fun x2 =>
  Option.bind σ.ae[x2]? fun x3 =>
  Option.bind p0 fun x4 =>
  Option.bind σ.aj[x4]? fun x5 =>
  Option.bind (if decide (x3.2.2.1 ≥ x5.2.2.1) = true then
  Option.bind (jf p0 σ) fun x6 =>
  if (x6.1 != 0) = true then
  some (.inr (((0 : Int), x6.1), x6.2))
  else
  some (.inl (some x6.2.ae.length, (x6.2.aX (x6.2.ae ++ [(x0, ([], ((0 : Int), ())))]))))
  else
  some (.inl (x1, σ))) fun x7 =>
  ku x7 (fun x8 =>
  Option.bind (sD x0 p1) fun x9 =>
  Option.bind p0 fun x10 =>
  Option.bind x8.2.aj[x10]? fun x11 =>
  Option.bind (gq p0 x8.1 x8.2) fun x12 =>
  Option.bind (jV x11.1 x12 x9 x8.2) fun x13 =>
  if (x13.1 != 0) = true then
  some (((0 : Int), x13.1), x13.2)
  else
  Option.bind x8.1 fun x14 =>
  Option.bind x13.2.ae[x14]? fun x15 =>
  if ((x15.2.1.length + 1) * 16) ≤ 140737488355328 then
  Option.bind x8.1 fun x16 =>
  Option.bind x13.2.ae[x16]? fun x17 =>
  if x14 = x16 ∧ true = true then
  Option.bind x8.1 fun x18 =>
  Option.bind ((x13.2.ae.set x16 (x17.1, ((x15.2.1 ++ [p1]), x17.2.2)))[x18]?) fun x19 =>
  Option.bind x8.1 fun x20 =>
  Option.bind ((x13.2.ae.set x16 (x17.1, ((x15.2.1 ++ [p1]), x17.2.2)))[x20]?) fun x21 =>
  if decide (x3.2.2.1 ≥ x5.2.2.1) = true then
  Option.bind p0 fun x22 =>
  Option.bind x13.2.aj[x22]? fun x23 =>
  if ((x23.2.2.2.1.length + 1) * 8) ≤ 140737488355328 then
  Option.bind p0 fun x24 =>
  Option.bind x13.2.aj[x24]? fun x25 =>
  if x22 = x24 ∧ true = true then
  some ((x0, (0 : Int)), (((x13.2.aX (x13.2.ae.set x16 (x17.1, ((x15.2.1 ++ [p1]), x17.2.2)))).aX ((x13.2.ae.set x16 (x17.1, ((x15.2.1 ++ [p1]), x17.2.2))).set x20 (x21.1, (x21.2.1, (IntKind.wrap .i64 (x19.2.2.1 + (x9.length : Int)), x21.2.2.2))))).oN (x13.2.aj.set x24 (x25.1, (x25.2.1, (x25.2.2.1, ((x23.2.2.2.1 ++ [x8.1]), x25.2.2.2.2)))))))
  else
  none
  else
  none
  else
  some ((x0, (0 : Int)), ((x13.2.aX (x13.2.ae.set x16 (x17.1, ((x15.2.1 ++ [p1]), x17.2.2)))).aX ((x13.2.ae.set x16 (x17.1, ((x15.2.1 ++ [p1]), x17.2.2))).set x20 (x21.1, (x21.2.1, (IntKind.wrap .i64 (x19.2.2.1 + (x9.length : Int)), x21.2.2.2))))))
  else
  none
  else
  none) Option.some
  else
  Option.bind (Option.bind (jf p0 σ) fun x26 =>
  if (x26.1 != 0) = true then
  some (.inr (((0 : Int), x26.1), x26.2))
  else
  some (.inl (some x26.2.ae.length, (x26.2.aX (x26.2.ae ++ [(x0, ([], ((0 : Int), ())))]))))) fun x27 =>
  ku x27 (fun x28 =>
  Option.bind (sD x0 p1) fun x29 =>
  Option.bind p0 fun x30 =>
  Option.bind x28.2.aj[x30]? fun x31 =>
  Option.bind (gq p0 x28.1 x28.2) fun x32 =>
  Option.bind (jV x31.1 x32 x29 x28.2) fun x33 =>
  if (x33.1 != 0) = true then
  some (((0 : Int), x33.1), x33.2)
  else
  Option.bind x28.1 fun x34 =>
  Option.bind x33.2.ae[x34]? fun x35 =>
  if ((x35.2.1.length + 1) * 16) ≤ 140737488355328 then
  Option.bind x28.1 fun x36 =>
  Option.bind x33.2.ae[x36]? fun x37 =>
  if x34 = x36 ∧ true = true then
  Option.bind x28.1 fun x38 =>
  Option.bind ((x33.2.ae.set x36 (x37.1, ((x35.2.1 ++ [p1]), x37.2.2)))[x38]?) fun x39 =>
  Option.bind x28.1 fun x40 =>
  Option.bind ((x33.2.ae.set x36 (x37.1, ((x35.2.1 ++ [p1]), x37.2.2)))[x40]?) fun x41 =>
  Option.bind p0 fun x42 =>
  Option.bind x33.2.aj[x42]? fun x43 =>
  if ((x43.2.2.2.1.length + 1) * 8) ≤ 140737488355328 then
  Option.bind p0 fun x44 =>
  Option.bind x33.2.aj[x44]? fun x45 =>
  if x42 = x44 ∧ true = true then
  some ((x0, (0 : Int)), (((x33.2.aX (x33.2.ae.set x36 (x37.1, ((x35.2.1 ++ [p1]), x37.2.2)))).aX ((x33.2.ae.set x36 (x37.1, ((x35.2.1 ++ [p1]), x37.2.2))).set x40 (x41.1, (x41.2.1, (IntKind.wrap .i64 (x39.2.2.1 + (x29.length : Int)), x41.2.2.2))))).oN (x33.2.aj.set x44 (x45.1, (x45.2.1, (x45.2.2.1, ((x43.2.2.2.1 ++ [x28.1]), x45.2.2.2.2)))))))
  else
  none
  else
  none
  else
  none
  else
  none) Option.some

noncomputable def y5 : Kn St := ⟨13, [.kv (.ptr jl), .kv .str], [.kv .i, .kv .i], .rw fun x σ => pq x.1 x.2.1 σ⟩

theorem Dt : y5.ok Tryz.prog TB := mM ⟨Tryz.prog, TB, 91, KLs, MLs, [], [], [64, 84], [lU, tC, tq, FC, oL, wZ]⟩ ⟨[], [(9, ⟨[], true, [⟨.nrm, [(7, .kv (.ptr kZ))]⟩], true, []⟩)], [], []⟩ aV ⟨kU, tH, tu, IK, nV, Af, trivial⟩ (fn := Tryz.f13) (by kernel_rfl) (by kernel_rfl) (by kernel_rfl)
noncomputable def fQ (p0 : Option Nat) (p1 : List UInt8) (σ : St) : Option (Int × St) :=
  Option.bind p0 fun x0 =>
  Option.bind σ.ah[x0]? fun x1 =>
  Option.bind (pq x1.2.1 p1 σ) fun x2 =>
  if (x2.1.2 != 0) = true then
  some (x2.1.2, x2.2)
  else
  Option.bind p0 fun x3 =>
  Option.bind x2.2.ah[x3]? fun x4 =>
  Option.bind (jf x4.2.1 x2.2) fun x5 =>
  some (x5.1, x5.2)

noncomputable def nH : Kn St := ⟨33, [.kv (.ptr bn), .kv .str], [.kv .i], .rw fun x σ => fQ x.1 x.2.1 σ⟩

theorem qp : nH.ok Tryz.prog TB := mM ⟨Tryz.prog, TB, 24, KLs, MLs, [], [], [], [y5, tq]⟩ ⟨[], [], [], []⟩ aV ⟨Dt, tu, trivial⟩ (fn := Tryz.f33) (by kernel_rfl) (by kernel_rfl) (by kernel_rfl)
noncomputable def eG (p0 : Option Nat) (p1 : List UInt8) (p2 : Int) (p3 : List Int) (p4 : Int) (σ : St) : Option ((Int × Int) × St) :=
  if p0.isNone = true then
  some (((0 : Int), (1 : Int)), σ)
  else
  Option.bind (dB p0 σ) fun x0 =>
  if ((0 + p3.length) * 8) ≤ 140737488355328 then
  Option.bind p0 fun x1 =>
  Option.bind σ.ah[x1]? fun x2 =>
  Option.bind (rJ (x2.1, (x0, (p1, (p2, (([] ++ p3), (p4, ()))))))) fun x3 =>
  if (x3.2 != 0) = true then
  some (((0 : Int), x3.2), σ)
  else
  Option.bind p0 fun x4 =>
  Option.bind σ.ah[x4]? fun x5 =>
  if decide ((x5.2.2.1.length : Int) ≥ 32) = true then
  some (((0 : Int), (10 : Int)), σ)
  else
  if (1 + x3.1.length) ≤ 9223372036854775807 then
  Option.bind (fQ p0 (99 :: x3.1) σ) fun x6 =>
  if (x6.1 != 0) = true then
  some (((0 : Int), x6.1), x6.2)
  else
  Option.bind p0 fun x7 =>
  Option.bind x6.2.ah[x7]? fun x8 =>
  Option.bind p0 fun x9 =>
  Option.bind x6.2.ah[x9]? fun x10 =>
  Option.bind p0 fun x11 =>
  Option.bind x6.2.ah[x11]? fun x12 =>
  if (x10.2.2.1.length : Int) = (x8.2.2.1.length : Int) ∧ (x12.2.2.1.length : Int) = (x8.2.2.1.length : Int) then
  if 0 < 1 ∧ ((x8.2.2.1.length + 1) * 72) ≤ 140737488355328 then
  Option.bind p0 fun x13 =>
  Option.bind x6.2.ah[x13]? fun x14 =>
  some ((x0, (0 : Int)), (x6.2.bP (x6.2.ah.set x13 (x14.1, (x14.2.1, ((x8.2.2.1 ++ [(x2.1, (x0, (p1, (p2, (([] ++ p3), (p4, ()))))))]), x14.2.2.2))))))
  else
  none
  else
  none
  else
  none
  else
  none

noncomputable def mG : Kn St := ⟨11, [.kv (.ptr bn), .kv .str, .kv .i, .kv (.list .i), .kv .i], [.kv .i, .kv .i], .rw fun x σ => eG x.1 x.2.1 x.2.2.1 x.2.2.2.1 x.2.2.2.2.1 σ⟩

theorem pK : mG.ok Tryz.prog TB := mM ⟨Tryz.prog, TB, 77, KLs, MLs, [], [4000012], [], [gX, Bq, nH]⟩ ⟨[], [], [], []⟩ aV ⟨gY, Fg, qp, trivial⟩ (fn := Tryz.f11) (by kernel_rfl) (by kernel_rfl) (by kernel_rfl)
noncomputable def nD (p0 : List Int) (p1 : Int × Int × Unit) : Option (List Int) :=
  Option.bind (jb p0 [p1.1, p1.2.1]) fun x0 =>
  some x0

noncomputable def tY : Kn St := ⟨79, [.own 5 1 (.int .u8), .kv aS], [.own 5 1 (.int .u8)], .ro fun x σ => nD x.1 x.2.1⟩

theorem yx : tY.ok Tryz.prog TB := iI ⟨Tryz.prog, TB, 12, KLs, MLs, [], [1000003], [], [sS]⟩ ⟨[], [], [], []⟩ aV ⟨sU, trivial⟩ (fn := Tryz.f79) (by kernel_rfl) (by kernel_rfl) (by kernel_rfl)
noncomputable def bK (p1 : List (Int × Int × Unit)) (s1 : (List Int) × Int) : Option (((List Int) × Int) ⊕ (List Int)) :=
  if decide (s1.2 < (p1.length : Int)) = true then
  Option.bind (ix p1 s1.2) fun x2 =>
  Option.bind (nD s1.1 x2) fun x3 =>
  some (.inl (x3, IntKind.wrap .i64 (s1.2 + 1)))
  else
  some (.inr s1.1)

noncomputable def dX (p0 : List Int) (p1 : List (Int × Int × Unit)) (p2 : Unit) : Option (List Int) :=
  Option.bind (jb p0 [(p1.length : Int)]) fun x0 =>
  Option.bind (bC (bK p1) (x0, (0 : Int))) fun x4 =>
  some x4

noncomputable def gW : Kn St := ⟨78, [.own 5 1 (.int .u8), .kv (.list aS), .clo 79 []], [.own 5 1 (.int .u8)], .ro fun x σ => dX x.1 x.2.1 x.2.2.1⟩

theorem kS : gW.ok Tryz.prog TB := iI ⟨Tryz.prog, TB, 26, KLs, MLs, [], [5000008], [], [sS, tY]⟩ ⟨[], [], [], [(3, ⟨[(0, .own 5 1 (.int .u8)), (16, .kv .i)], false, [⟨.ext 0, [(0, .own 5 1 (.int .u8))]⟩], false, []⟩)]⟩ aV ⟨sU, yx, trivial⟩ (fn := Tryz.f78) (by kernel_rfl) (by kernel_rfl) (by kernel_rfl)
noncomputable def jD (p0 : List (Int × Int × Unit)) : Option ((List UInt8) × Int) :=
  Option.bind (lJ p0) fun x0 =>
  Option.bind (dX [] p0 ()) fun x1 =>
  Option.bind (rM x0 x1) fun x2 =>
  some (x2.1, x2.2)

noncomputable def vJ : Kn St := ⟨43, [.kv (.list aS)], [.kv .str, .kv .i], .ro fun x σ => jD x.1⟩

theorem zD : vJ.ok Tryz.prog TB := iI ⟨Tryz.prog, TB, 11, KLs, MLs, [], [], [], [uo, gW, zF]⟩ ⟨[], [], [], []⟩ aV ⟨vM, kS, zY, trivial⟩ (fn := Tryz.f43) (by kernel_rfl) (by kernel_rfl) (by kernel_rfl)
noncomputable def gU (p0 : Option Nat) (σ : St) (s1 : List (Int × Int × Unit)) : Option ((List (Int × Int × Unit)) ⊕ (List (Int × Int × Unit))) :=
  if decide ((s1.length : Int) > 0) = true then
  Option.bind (ix s1 (0 : Int)) fun x2 =>
  Option.bind (bH p0 σ) fun x3 =>
  if decide (x2.1 < x3) = true then
  if (0 : Int) ≤ (1 : Int) ∧ 1 ≤ (s1.length : Int) then
  some (.inl (s1.drop 1))
  else
  none
  else
  some (.inr s1)
  else
  some (.inr s1)

noncomputable def dK (p0 : Option Nat) (p1 : List (Int × Int × Unit)) (σ : St) : Option ((Int × Int) × St) :=
  if p0.isNone = true then
  some (((0 : Int), (1 : Int)), σ)
  else
  Option.bind (jD p1) fun x0 =>
  if (x0.2 != 0) = true then
  some (((0 : Int), x0.2), σ)
  else
  Option.bind (bC (gU p0 σ) p1) fun x4 =>
  if ((x4.length : Int) == 0) = true then
  some (((0 : Int), (0 : Int)), σ)
  else
  Option.bind (jd p0 x4 σ) fun x5 =>
  if (!x5) = true then
  some (((0 : Int), (3 : Int)), σ)
  else
  Option.bind (jD x4) fun x6 =>
  if (1 + x6.1.length) ≤ 9223372036854775807 then
  Option.bind (fQ p0 (118 :: x6.1) σ) fun x7 =>
  if (x7.1 != 0) = true then
  some (((0 : Int), x7.1), x7.2)
  else
  Option.bind (je p0 x4 x7.2) fun x8 =>
  some (((x4.length : Int), (0 : Int)), x8.2)
  else
  none

noncomputable def oD : Kn St := ⟨17, [.kv (.ptr bn), .kv (.list aS)], [.kv .i, .kv .i], .rw fun x σ => dK x.1 x.2.1 σ⟩

theorem qY : oD.ok Tryz.prog TB := mM ⟨Tryz.prog, TB, 61, KLs, MLs, [], [], [], [vJ, fU, oI, nH, oJ]⟩ ⟨[], [], [], [(6, ⟨[(1, .kv (.list aS))], false, [⟨.ext 0, [(1, .kv (.list aS))]⟩], false, []⟩)]⟩ aV ⟨zD, gu, qZ, qp, rf, trivial⟩ (fn := Tryz.f17) (by kernel_rfl) (by kernel_rfl) (by kernel_rfl)
noncomputable def iC (x1 : Int × (Option Nat) × (List (Int × Int × (List UInt8) × Int × (List Int) × Int × Unit)) × (List (Int × Int × Unit)) × Unit) (s2 : (List (Int × Int × (List UInt8) × Int × (List Int) × Int × Unit)) × Int) : Option (((List (Int × Int × (List UInt8) × Int × (List Int) × Int × Unit)) × Int) ⊕ (List (Int × Int × (List UInt8) × Int × (List Int) × Int × Unit))) :=
  if decide (s2.2 < (x1.2.2.1.length : Int)) = true then
  Option.bind (ix x1.2.2.1 s2.2) fun x3 =>
  if ((0 + x3.2.2.2.2.1.length) * 8) ≤ 140737488355328 then
  if ((s2.1.length + 1) * 72) ≤ 140737488355328 then
  some (.inl ((s2.1 ++ [(x3.1, (x3.2.1, (x3.2.2.1, (x3.2.2.2.1, (([] ++ x3.2.2.2.2.1), x3.2.2.2.2.2)))))]), IntKind.wrap .i64 (s2.2 + 1)))
  else
  none
  else
  none
  else
  some (.inr s2.1)

noncomputable def eY (p0 : Option Nat) (σ : St) : Option (List (Int × Int × (List UInt8) × Int × (List Int) × Int × Unit)) :=
  if p0.isNone = true then
  some []
  else
  Option.bind p0 fun x0 =>
  Option.bind σ.ah[x0]? fun x1 =>
  Option.bind (bC (iC x1) ([], (0 : Int))) fun x4 =>
  some x4

noncomputable def lT : Kn St := ⟨22, [.kv (.ptr bn)], [.kv (.list jk)], .ro fun x σ => eY x.1 σ⟩

theorem oH : lT.ok Tryz.prog TB := iI ⟨Tryz.prog, TB, 29, KLs, MLs, [], [8, 28, 8000005], [], []⟩ ⟨[], [], [], [(5, ⟨[(3, .own 33 72 jk), (14, .kv .i)], false, [⟨.ext 0, [(3, .own 33 72 jk)]⟩], false, []⟩)]⟩ aV trivial (fn := Tryz.f22) (by kernel_rfl) (by kernel_rfl) (by kernel_rfl)
noncomputable def dY (p0 : Option Nat) (σ : St) : Option (List (Int × Int × Unit)) :=
  if p0.isNone = true then
  some []
  else
  Option.bind p0 fun x0 =>
  Option.bind σ.ah[x0]? fun x1 =>
  if ((0 + x1.2.2.2.1.length) * 16) ≤ 140737488355328 then
  some ([] ++ x1.2.2.2.1)
  else
  none

noncomputable def lS : Kn St := ⟨21, [.kv (.ptr bn)], [.kv (.list aS)], .ro fun x σ => dY x.1 σ⟩

theorem oG : lS.ok Tryz.prog TB := iI ⟨Tryz.prog, TB, 11, KLs, MLs, [], [], [], []⟩ ⟨[], [], [], []⟩ aV trivial (fn := Tryz.f21) (by kernel_rfl) (by kernel_rfl) (by kernel_rfl)
noncomputable def kN (σ : St) : Option (Bool × St) :=
  Option.bind (qK (1048576 : Int) σ) fun x0 =>
  Option.bind (fZ x0.1.1 (1 : Int) x0.2) fun x1 =>
  if ((x1.1.2 != 0) || x1.1.1.isNone) = true then
  some (false, x1.2)
  else
  Option.bind (eG x1.1.1 [97] (0 : Int) [(5 : Int)] (-1 : Int) x1.2) fun x2 =>
  Option.bind (eG x1.1.1 [97] (0 : Int) [] (-1 : Int) x2.2) fun x3 =>
  Option.bind (dK x1.1.1 [((1 : Int), ((0 : Int), ()))] x3.2) fun x4 =>
  Option.bind (dK x1.1.1 [((1 : Int), ((0 : Int), ()))] x4.2) fun x5 =>
  Option.bind (if ((((((x2.1.1 == 1) && (x3.1.1 == 2)) && (x4.1.1 == 1)) && (x4.1.2 == 0)) && (x5.1.1 == 0)) && (x5.1.2 == 0)) = true then
  eY x1.1.1 x5.2
  else
  some []) fun x6 =>
  Option.bind (if (((((((x2.1.1 == 1) && (x3.1.1 == 2)) && (x4.1.1 == 1)) && (x4.1.2 == 0)) && (x5.1.1 == 0)) && (x5.1.2 == 0)) && ((x6.length : Int) == 1)) = true then
  dY x1.1.1 x5.2
  else
  some []) fun x7 =>
  Option.bind (if ((((((((x2.1.1 == 1) && (x3.1.1 == 2)) && (x4.1.1 == 1)) && (x4.1.2 == 0)) && (x5.1.1 == 0)) && (x5.1.2 == 0)) && ((x6.length : Int) == 1)) && ((x7.length : Int) == 1)) = true then
  bH x1.1.1 x5.2
  else
  some (0 : Int)) fun x8 =>
  Option.bind (if (((((((((x2.1.1 == 1) && (x3.1.1 == 2)) && (x4.1.1 == 1)) && (x4.1.2 == 0)) && (x5.1.1 == 0)) && (x5.1.2 == 0)) && ((x6.length : Int) == 1)) && ((x7.length : Int) == 1)) && (x8 == 2)) = true then
  dB x1.1.1 x5.2
  else
  some (0 : Int)) fun x9 =>
  some (((((((((((x2.1.1 == 1) && (x3.1.1 == 2)) && (x4.1.1 == 1)) && (x4.1.2 == 0)) && (x5.1.1 == 0)) && (x5.1.2 == 0)) && ((x6.length : Int) == 1)) && ((x7.length : Int) == 1)) && (x8 == 2)) && (x9 == 3)), x5.2)

noncomputable def uU : Kn St := ⟨10, [], [.kv .bool], .rw fun x σ => kN σ⟩

theorem yV : uU.ok Tryz.prog TB := mM ⟨Tryz.prog, TB, 97, KLs, MLs, [], [], [], [Eg, xk, mG, oD, lT, lS, fU, gX]⟩ ⟨[], [], [], []⟩ aV ⟨DK, xW, pK, qY, oH, oG, gu, gY, trivial⟩ (fn := Tryz.f10) (by kernel_rfl) (by kernel_rfl) (by kernel_rfl)
end Go.Proofs.YtbnmhjobnepajaaGreat.M


set_option maxRecDepth 100000
namespace Go.Proofs.YtbnmhjobnepajaaGreat.M
open Go.Proofs
noncomputable def jo (p0 : Option Nat) (p1 : Int) (σ : St) (s0 : (List (Int × Int × Unit)) × Int) : Option (((List (Int × Int × Unit)) × Int) ⊕ (List (Int × Int × Unit))) :=
  Option.bind (if (decide (s0.2 < p1) && decide (s0.2 < 40)) = true then
  bH p0 σ
  else
  some (0 : Int)) fun x1 =>
  Option.bind (if (decide (s0.2 < p1) && decide (s0.2 < 40)) = true then
  dB p0 σ
  else
  some (0 : Int)) fun x2 =>
  if ((decide (s0.2 < p1) && decide (s0.2 < 40)) && decide (IntKind.wrap .i64 (x1 + s0.2) < x2)) = true then
  Option.bind (bH p0 σ) fun x3 =>
  if ((s0.1.length + 1) * 16) ≤ 140737488355328 then
  some (.inl ((s0.1 ++ [(IntKind.wrap .i64 (x3 + s0.2), ((0 : Int), ()))]), IntKind.wrap .i64 (s0.2 + 1)))
  else
  none
  else
  some (.inr s0.1)

noncomputable def kP (p0 : Option Nat) (p1 : Int) (σ : St) : Option (List (Int × Int × Unit)) :=
  Option.bind (bC (jo p0 p1 σ) ([], (0 : Int))) fun x4 =>
  some x4

noncomputable def uV : Kn St := ⟨16, [.kv (.ptr bn), .kv .i], [.kv (.list aS)], .ro fun x σ => kP x.1 x.2.1 σ⟩

theorem yX : uV.ok Tryz.prog TB := iI ⟨Tryz.prog, TB, 34, KLs, MLs, [], [33], [], [fU, gX]⟩ ⟨[], [], [], [(3, ⟨[(5, .own 58 16 aS), (6, .kv .i)], false, [⟨.ext 0, [(5, .own 58 16 aS)]⟩], false, []⟩)]⟩ aV ⟨gu, gY, trivial⟩ (fn := Tryz.f16) (by kernel_rfl) (by kernel_rfl) (by kernel_rfl)
noncomputable def kK (p0 : Option Nat) (x0 : List (List UInt8)) (s1 : (List Int) × Int × St) : Option (((List Int) × Int × St) ⊕ St) :=
  if decide (s1.2.1 < (x0.length : Int)) = true then
  Option.bind (ix x0 s1.2.1) fun x2 =>
  Option.bind p0 fun x3 =>
  Option.bind s1.2.2.af[x3]? fun x4 =>
  Option.bind s1.2.2.af[x3]? fun x5 =>
  Option.bind ((bZ Kd.str (Kd.ptr 93) x2 x5.2.1).getD none) fun x6 =>
  Option.bind s1.2.2.ai[x6]? fun x7 =>
  Option.bind ((bZ Kd.str (Kd.ptr 93) x2 x5.2.1).getD none) fun x8 =>
  Option.bind s1.2.2.ai[x8]? fun x9 =>
  if (IntKind.wrap .i64 ((x7.1.length : Int) - x9.2.1) == 0) = true then
  some (.inl (s1.1, (IntKind.wrap .i64 (s1.2.1 + 1), s1.2.2)))
  else
  Option.bind (if decide ((s1.1.length : Int) > 0) = true then
  Option.bind (ix s1.1 (0 : Int)) fun x10 =>
  if IntKind.wrap .i64 (IntKind.wrap .i64 ((x7.1.length : Int) - x9.2.1) + 1) ≠ 0 then
  if (0 : Int) ≤ (1 : Int) ∧ 1 ≤ (s1.1.length : Int) then
  some (s1.1.drop 1, (if 0 > x10 then
  (0 : Int)
  else
  x10).tmod (IntKind.wrap .i64 (IntKind.wrap .i64 ((x7.1.length : Int) - x9.2.1) + 1)))
  else
  none
  else
  none
  else
  some (s1.1, (0 : Int))) fun x11 =>
  Option.bind ((bZ Kd.str (Kd.ptr 93) x2 x5.2.1).getD none) fun x12 =>
  Option.bind s1.2.2.ai[x12]? fun x13 =>
  Option.bind ((bZ Kd.str (Kd.ptr 93) x2 x5.2.1).getD none) fun x14 =>
  Option.bind s1.2.2.ai[x14]? fun x15 =>
  if 0 ≤ IntKind.wrap .i64 (x15.2.1 + x11.2) ∧ IntKind.wrap .i64 (x15.2.1 + x11.2) ≤ (x13.1.length : Int) then
  Option.bind ((bZ Kd.str (Kd.ptr 93) x2 x5.2.1).getD none) fun x16 =>
  Option.bind s1.2.2.ai[x16]? fun x17 =>
  Option.bind ((bZ Kd.str (Kd.ptr 93) x2 x5.2.1).getD none) fun x18 =>
  Option.bind ((s1.2.2.ai.set x16 (x13.1.take ((IntKind.wrap .i64 (x15.2.1 + x11.2)).toNat), x17.2))[x18]?) fun x19 =>
  Option.bind ((bZ Kd.str (Kd.ptr 93) x2 x5.2.1).getD none) fun x20 =>
  Option.bind ((s1.2.2.ai.set x16 (x13.1.take ((IntKind.wrap .i64 (x15.2.1 + x11.2)).toNat), x17.2))[x20]?) fun x21 =>
  some (.inl (x11.1, (IntKind.wrap .i64 (s1.2.1 + 1), ((s1.2.2.fE (s1.2.2.ai.set x16 (x13.1.take ((IntKind.wrap .i64 (x15.2.1 + x11.2)).toNat), x17.2))).fE ((s1.2.2.ai.set x16 (x13.1.take ((IntKind.wrap .i64 (x15.2.1 + x11.2)).toNat), x17.2)).set x20 (x21.1, ((x19.1.length : Int), x21.2.2)))))))
  else
  none
  else
  some (.inr s1.2.2)

noncomputable def kJ (p0 : Option Nat) (p1 : List Int) (σ : St) : Option (Int × St) :=
  if p0.isNone = true then
  some ((1 : Int), σ)
  else
  Option.bind (gQ p0 σ) fun x0 =>
  Option.bind (bC (kK p0 x0) (p1, ((0 : Int), σ))) fun x22 =>
  Option.bind p0 fun x23 =>
  Option.bind x22.af[x23]? fun x24 =>
  Option.bind p0 fun x25 =>
  Option.bind ((x22.af.set x23 (x24.1, (x24.2.1, (x24.2.2.1, (false, x24.2.2.2.2)))))[x25]?) fun x26 =>
  some ((0 : Int), ((x22.bF (x22.af.set x23 (x24.1, (x24.2.1, (x24.2.2.1, (false, x24.2.2.2.2)))))).bF ((x22.af.set x23 (x24.1, (x24.2.1, (x24.2.2.1, (false, x24.2.2.2.2))))).set x25 (x26.1, (x26.2.1, ((0 : Int), x26.2.2.2))))))

noncomputable def xU : Kn St := ⟨19, [.kv (.ptr di), .kv (.list .i)], [.kv .i], .rw fun x σ => kJ x.1 x.2.1 σ⟩

theorem BB : xU.ok Tryz.prog TB := mM ⟨Tryz.prog, TB, 78, KLs, MLs, [], [], [], [yN]⟩ ⟨[], [(11, ⟨[], false, [⟨.nrm, [(1, .kv (.list .i)), (9, .kv .i)]⟩], false, []⟩)], [], [(4, ⟨[(1, .kv (.list .i)), (15, .kv .i)], true, [⟨.ext 0, []⟩], false, []⟩)]⟩ aV ⟨Di, trivial⟩ (fn := Tryz.f19) (by kernel_rfl) (by kernel_rfl) (by kernel_rfl)
noncomputable def fO (x17 : (Option Nat) × St) (x18 : List (Int × Int × Unit)) (s20 : Int) : Option (Int ⊕ (Unit ⊕ (((Option Nat) × Int × St) ⊕ (St ⊕ (Bool × St))))) :=
  if decide (s20 < (x18.length : Int)) = true then
  Option.bind (ix x18 s20) fun x21 =>
  if (x21.1 != IntKind.wrap .i64 (s20 + 1)) = true then
  some (.inr (.inr (.inr (.inr (false, x17.2)))))
  else
  some (.inl (IntKind.wrap .i64 (s20 + 1)))
  else
  some (.inr (.inl ()))

noncomputable def fP (x17 : (Option Nat) × St) (x18 : List (Int × Int × Unit)) (x19 : List (Int × Int × (List UInt8) × Int × (List Int) × Int × Unit)) (s24 : Int) : Option (Int ⊕ (Unit ⊕ (((Option Nat) × Int × St) ⊕ (St ⊕ (Bool × St))))) :=
  if decide (s24 < (x19.length : Int)) = true then
  Option.bind (ix x19 s24) fun x25 =>
  Option.bind (if (!(x25.2.1 != IntKind.wrap .i64 (IntKind.wrap .i64 ((x18.length : Int) + 1) + s24))) = true then
  ix x19 s24
  else
  some ((0 : Int), ((0 : Int), ([], ((0 : Int), ([], ((0 : Int), ()))))))) fun x26 =>
  if ((x25.2.1 != IntKind.wrap .i64 (IntKind.wrap .i64 ((x18.length : Int) + 1) + s24)) || (x26.1 != 0)) = true then
  some (.inr (.inr (.inr (.inr (false, x17.2)))))
  else
  some (.inl (IntKind.wrap .i64 (s24 + 1)))
  else
  some (.inr (.inl ()))

noncomputable def eu (p0 : List (Int × Int × (Int × Int × (List UInt8) × Int × (List Int) × Int × Unit) × (List (Int × Int × Unit)) × (List Int) × Unit)) (x0 : ((Option Nat) × Int) × St) (s3 : (Option Nat) × Int × St) : Option (((Option Nat) × Int × St) ⊕ (St ⊕ (Bool × St))) :=
  if (decide (s3.2.1 < (p0.length : Int)) && decide (s3.2.1 < 60)) = true then
  Option.bind (ix p0 s3.2.1) fun x4 =>
  Option.bind (dY s3.1 s3.2.2) fun x5 =>
  Option.bind (if (decide (x4.1 ≥ 0) && decide (x4.1 < 4)) = true then
  Option.bind (eG s3.1 x4.2.2.1.2.2.1 x4.2.2.1.2.2.2.1 x4.2.2.1.2.2.2.2.1 x4.2.2.1.2.2.2.2.2.1 s3.2.2) fun x6 =>
  some (.inl (s3.1, x6.2))
  else
  Option.bind (if (x4.1 == 4) = true then
  Option.bind (dK s3.1 x4.2.2.2.1 s3.2.2) fun x7 =>
  some (.inl (s3.1, x7.2))
  else
  Option.bind (if (x4.1 == 5) = true then
  Option.bind (kP s3.1 x4.2.1 s3.2.2) fun x8 =>
  Option.bind (dK s3.1 x8 s3.2.2) fun x9 =>
  some (.inl (s3.1, x9.2))
  else
  Option.bind (kJ x0.1.1 x4.2.2.2.2.1 s3.2.2) fun x10 =>
  Option.bind (fZ x0.1.1 (0 : Int) x10.2) fun x11 =>
  if ((x11.1.2 != 0) || x11.1.1.isNone) = true then
  some (.inr (.inr (.inr (.inr (.inr (false, x11.2))))))
  else
  some (.inl (x11.1.1, x11.2))) fun x12 =>
  ku x12 (fun x13 =>
  some (.inl (x13.1, x13.2))) Option.some) fun x14 =>
  ku x14 (fun x15 =>
  some (.inl (x15.1, x15.2))) Option.some) fun x16 =>
  ku x16 (fun x17 =>
  Option.bind (dY x17.1 x17.2) fun x18 =>
  Option.bind (eY x17.1 x17.2) fun x19 =>
  Option.bind (bC (fO x17 x18) (0 : Int)) fun x22 =>
  ku x22 (fun x23 =>
  Option.bind (bC (fP x17 x18 x19) (0 : Int)) fun x27 =>
  ku x27 (fun x28 =>
  Option.bind (if (!(decide ((x18.length : Int) < (x5.length : Int)) || decide ((x19.length : Int) > 32))) = true then
  bH x17.1 x17.2
  else
  some (0 : Int)) fun x29 =>
  Option.bind (if (!((decide ((x18.length : Int) < (x5.length : Int)) || decide ((x19.length : Int) > 32)) || (x29 != IntKind.wrap .i64 ((x18.length : Int) + 1)))) = true then
  dB x17.1 x17.2
  else
  some (0 : Int)) fun x30 =>
  if (((decide ((x18.length : Int) < (x5.length : Int)) || decide ((x19.length : Int) > 32)) || (x29 != IntKind.wrap .i64 ((x18.length : Int) + 1))) || (x30 != IntKind.wrap .i64 (IntKind.wrap .i64 ((x18.length : Int) + (x19.length : Int)) + 1))) = true then
  some (.inr (.inr (false, x17.2)))
  else
  some (.inl (x17.1, (IntKind.wrap .i64 (s3.2.1 + 1), x17.2)))) Option.some) Option.some) Option.some
  else
  some (.inr (.inl s3.2.2))

noncomputable def iD (p0 : List (Int × Int × (Int × Int × (List UInt8) × Int × (List Int) × Int × Unit) × (List (Int × Int × Unit)) × (List Int) × Unit)) (σ : St) : Option (Bool × St) :=
  Option.bind (qK (1048576 : Int) σ) fun x0 =>
  Option.bind (fZ x0.1.1 (0 : Int) x0.2) fun x1 =>
  Option.bind (if (!((x1.1.2 != 0) || x1.1.1.isNone)) = true then
  kN x1.2
  else
  some (false, x1.2)) fun x2 =>
  if (((x1.1.2 != 0) || x1.1.1.isNone) || (!x2.1)) = true then
  some (false, x2.2)
  else
  Option.bind (bC (eu p0 x0) (x1.1.1, ((0 : Int), x2.2))) fun x31 =>
  ku x31 (fun x32 =>
  some (true, x32)) Option.some

noncomputable def xm : Kn St := ⟨5, [.kv (.list bD)], [.kv .bool], .rw fun x σ => iD x.1 σ⟩

theorem uT : xm.ok Tryz.prog TB := mM ⟨Tryz.prog, TB, 177, KLs, MLs, [], [9000008], [], [Eg, xk, uU, lS, mG, oD, uV, xU, lT, fU, gX]⟩ ⟨[], [(19, ⟨[], true, [⟨.nrm, [(5, .kv (.ptr bn))]⟩], true, []⟩), (17, ⟨[], true, [⟨.nrm, [(5, .kv (.ptr bn))]⟩], true, []⟩), (15, ⟨[], true, [⟨.nrm, [(5, .kv (.ptr bn))]⟩], true, []⟩)], [], [(22, ⟨[(12, .kv .i)], false, [⟨.ext 3, []⟩], true, []⟩), (27, ⟨[(13, .kv .i)], false, [⟨.ext 5, []⟩], true, []⟩), (6, ⟨[(5, .kv (.ptr bn)), (7, .kv .i)], true, [⟨.ext 0, []⟩], true, []⟩)]⟩ aV ⟨DK, xW, yV, oG, pK, qY, yX, BB, oH, gu, gY, trivial⟩ (fn := Tryz.f5) (by kernel_rfl) (by kernel_rfl) (by kernel_rfl)
end Go.Proofs.YtbnmhjobnepajaaGreat.M


set_option maxRecDepth 100000

namespace Go.Proofs.YtbnmhjobnepajaaGreat.M

open Go.Proofs

noncomputable def St.aQ (s : St) (i : Nat) (x : az dM) : St := { s with af := s.af.set i x }

theorem mP {s : St} {i : Nat} {o x : az dM} (h : s.af[i]? = some o) : (s.aQ i x).af[i]? = some x := by simp [St.aQ, (List.getElem?_eq_some_iff.1 h).1]

noncomputable def St.ni (s : St) (x : az dM) : St := { s with af := s.af ++ [x] }

theorem LW {s : St} {x : az dM} : (s.ni x).af[s.af.length]? = some x := by simp [St.ni]

noncomputable def St.aG (s : St) (i : Nat) (x : az eH) : St := { s with ai := s.ai.set i x }

theorem qU {s : St} {i : Nat} {o x : az eH} (h : s.ai[i]? = some o) : (s.aG i x).ai[i]? = some x := by simp [St.aG, (List.getElem?_eq_some_iff.1 h).1]

noncomputable def St.dZ (s : St) (x : az eH) : St := { s with ai := s.ai ++ [x] }

theorem DF {s : St} {x : az eH} : (s.dZ x).ai[s.ai.length]? = some x := by simp [St.dZ]

noncomputable def St.aZ (s : St) (i : Nat) (x : az dh) : St := { s with aj := s.aj.set i x }

theorem pI {s : St} {i : Nat} {o x : az dh} (h : s.aj[i]? = some o) : (s.aZ i x).aj[i]? = some x := by simp [St.aZ, (List.getElem?_eq_some_iff.1 h).1]

noncomputable def St.gK (s : St) (x : az dh) : St := { s with aj := s.aj ++ [x] }

theorem QP {s : St} {x : az dh} : (s.gK x).aj[s.aj.length]? = some x := by simp [St.gK]

noncomputable def St.ax (s : St) (i : Nat) (x : az dN) : St := { s with ae := s.ae.set i x }

theorem ve {s : St} {i : Nat} {o x : az dN} (h : s.ae[i]? = some o) : (s.ax i x).ae[i]? = some x := by simp [St.ax, (List.getElem?_eq_some_iff.1 h).1]

noncomputable def St.ay (s : St) (x : az dN) : St := { s with ae := s.ae ++ [x] }

theorem mX {s : St} {x : az dN} : (s.ay x).ae[s.ae.length]? = some x := by simp [St.ay]

noncomputable def St.bU (s : St) (x : az EZ) : St := { s with gJ := s.gJ ++ [x] }

theorem Yu {s : St} {x : az EZ} : (s.bU x).gJ[s.gJ.length]? = some x := by simp [St.bU]

noncomputable def St.Jq (s : St) (x : az IX) : St := { s with qV := s.qV ++ [x] }

noncomputable def St.Cb (s : St) (x : az EY) : St := { s with kW := s.kW ++ [x] }

noncomputable def St.dC (s : St) (i : Nat) (x : az wX) : St := { s with aF := s.aF.set i x }

theorem BU {s : St} {i : Nat} {o x : az wX} (h : s.aF[i]? = some o) : (s.dC i x).aF[i]? = some x := by simp [St.dC, (List.getElem?_eq_some_iff.1 h).1]

noncomputable def St.dW (s : St) (x : az wX) : St := { s with aF := s.aF ++ [x] }

theorem Nw {s : St} {x : az wX} : (s.dW x).aF[s.aF.length]? = some x := by simp [St.dW]

noncomputable def St.up (σ : St) := (σ.aH, σ.ah, σ.ak, σ.bu)

noncomputable def uD (p0 : List UInt8) (x5 : Int) (x6 : Int) : Option (Sum (Int × Int) Int) :=
  if (decide (x6 < (p0.length : Int))) = true then
  if (0 : Int) ≤ x6 ∧ x6 < (p0.length : Int) then
  if (decide ((btS p0 x6) < 48)) = true then
  some (.inr (-1))
  else
  if (0 : Int) ≤ x6 ∧ x6 < (p0.length : Int) then
  if ((decide ((btS p0 x6) > 57)) || (decide (x5 > 1099511627776))) = true then
  some (.inr (-1))
  else
  if (0 : Int) ≤ x6 ∧ x6 < (p0.length : Int) then
  uD p0 (IntKind.wrap .i64 ((IntKind.wrap .i64 (x5 * 10)) + (IntKind.wrap .i64 (IntKind.wrap .u8 ((btS p0 x6) - 48))))) (IntKind.wrap .i64 (x6 + 1))
  else none
  else none
  else none
  else
  some (.inl (x5, x6))
  partial_fixpoint

noncomputable def f140 (p0 : List UInt8) : Option Int :=
  uD p0 0 0 >>= fun rr23 => (match rr23 with
  | .inr yy => some yy
  | .inl z22 =>
  if (p0 == []) = true then
  some (-1)
  else
  if (0 : Int) ≤ 0 ∧ 0 < (p0.length : Int) then
  if ((((btS p0 0) == 48) && (!(p0 == [48]))) || (decide (z22.1 > 1099511627776))) = true then
  some (-1)
  else
  some z22.1
  else none)

noncomputable def f60 (p0 : Option Nat) (σ : St) : Option Int :=
  if p0.isNone = true then
  some 0
  else
  p0 >>= fun i6 =>
  (σ.aj[i6]?) >>= fun o7 =>
  some o7.2.2.2.2.1

noncomputable def f18 (p0 : Int) (σ : St) : Option (((Option Nat) × Int) × St) :=
  if ((decide (p0 < 0)) || (decide (p0 > 1048576))) = true then
  some ((none, 2), σ)
  else
  some ((some σ.af.length, 0), (σ.ni (p0, [], 0, false, ())))

noncomputable def f70 (p0 : Option Nat) (σ : St) : Option Int :=
  if p0.isNone = true then
  some 1
  else
  p0 >>= fun i6 =>
  (σ.af[i6]?) >>= fun o7 =>
  if o7.2.2.2.1 = true then
  some 11
  else
  some 0

noncomputable def wS (p0 : List UInt8) (x4 : Int) : Option (Sum Int Bool) :=
  if (decide (x4 < (p0.length : Int))) = true then
  if (0 : Int) ≤ x4 ∧ x4 < (p0.length : Int) then
  if ((((((decide ((btS p0 x4) < 97)) || (decide ((btS p0 x4) > 122))) && ((decide ((btS p0 x4) < 48)) || (decide ((btS p0 x4) > 57)))) && ((btS p0 x4) != 46)) && ((btS p0 x4) != 45)) && ((btS p0 x4) != 95)) = true then
  some (.inr false)
  else
  wS p0 (IntKind.wrap .i64 (x4 + 1))
  else none
  else
  some (.inl x4)
  partial_fixpoint

noncomputable def f71 (p0 : List UInt8) : Option Bool :=
  wS p0 0 >>= fun rr18 => (match rr18 with
  | .inr yy => some yy
  | .inl z17 =>
  some ((decide ((p0.length : Int) > 0)) && (decide ((p0.length : Int) ≤ 24))))

noncomputable def f72 (p0 : Option Nat) (p1 : St → Option (Unit × St)) (σ : St) : Option (Int × St) :=
  p0 >>= fun i4 =>
  (σ.af[i4]?) >>= fun o5 =>
  if (decide (o5.2.2.1 > 0)) = true then
  p0 >>= fun i7 =>
  (σ.af[i7]?) >>= fun o8 =>
  p0 >>= fun i9 =>
  (σ.af[i9]?) >>= fun o10 =>
  p0 >>= fun i12 =>
  ((σ.aQ i9 (o10.1, o10.2.1, IntKind.wrap .i64 (o8.2.2.1 - 1), o10.2.2.2.1, ())).af[i12]?) >>= fun o13 =>
  if (o13.2.2.1 == 0) = true then
  p0 >>= fun i15 =>
  ((σ.aQ i9 (o10.1, o10.2.1, IntKind.wrap .i64 (o8.2.2.1 - 1), o10.2.2.2.1, ())).af[i15]?) >>= fun o16 =>
  some (11, ((σ.aQ i9 (o10.1, o10.2.1, IntKind.wrap .i64 (o8.2.2.1 - 1), o10.2.2.2.1, ())).aQ i15 (o16.1, o16.2.1, o16.2.2.1, true, ())))
  else
  p1 (σ.aQ i9 (o10.1, o10.2.1, IntKind.wrap .i64 (o8.2.2.1 - 1), o10.2.2.2.1, ())) >>= fun r19 =>
  some (0, r19.2)
  else
  p1 σ >>= fun r22 =>
  some (0, r22.2)

noncomputable def f73  (σ : St) : Option (Unit × St) :=
  some ((), σ)

noncomputable def f24 (p0 : Option Nat) (p1 : List UInt8) (p2 : List UInt8) (σ : St) : Option (Int × St) :=
  f70 p0 σ >>= fun r4 =>
  if (r4 != 0) = true then
  some (r4, σ)
  else
  f71 p1 >>= fun r9 =>
  if (!r9) = true then
  some (2, σ)
  else
  p0 >>= fun i12 =>
  (σ.af[i12]?) >>= fun o13 =>
  (if (!((bZ .str (.ptr au) p1 o13.2.1).getD (fB (.ptr au))).isNone) = true then
  ((bZ .str (.ptr au) p1 o13.2.1).getD (fB (.ptr au))) >>= fun i77 =>
  (σ.ai[i77]?) >>= fun o78 =>
  some (o78.1.length : Int)
  else
  some 0 : Option Int) >>= fun z18 =>
  if (((bZ .str (.ptr au) p1 o13.2.1).getD (fB (.ptr au))).isNone) = true then
  p0 >>= fun i23 =>
  (σ.af[i23]?) >>= fun o24 =>
  if (decide ((o24.2.1.length : Int) ≥ 128)) = true then
  some (10, σ)
  else
  if (decide ((p2.length : Int) > (IntKind.wrap .i64 (65536 - z18)))) = true then
  some (10, σ)
  else
  p0 >>= fun i31 =>
  (σ.af[i31]?) >>= fun o32 =>
  fG p0 σ >>= fun r33 =>
  if (decide ((p2.length : Int) > (IntKind.wrap .i64 (o32.1 - r33)))) = true then
  some (10, σ)
  else
  (if (((bZ .str (.ptr au) p1 o13.2.1).getD (fB (.ptr au))).isNone) = true then
  p0 >>= fun i50 =>
  ((σ.dZ ([], 0, ())).af[i50]?) >>= fun o51 =>
  some (some σ.ai.length, ((σ.dZ ([], 0, ())).aQ i50 (o51.1, nJ .str (.ptr au) p1 (some σ.ai.length) o51.2.1, o51.2.2.1, o51.2.2.2.1, ())))
  else
  some ((bZ .str (.ptr au) p1 o13.2.1).getD (fB (.ptr au)), σ) : Option ((Option Nat) × St)) >>= fun z39 =>
  z39.1 >>= fun i42 =>
  (z39.2.ai[i42]?) >>= fun o43 =>
  if o43.1.length + p2.length ≤ 9223372036854775807 then
  z39.1 >>= fun i45 =>
  (z39.2.ai[i45]?) >>= fun o46 =>
  f72 p0 f73 (z39.2.aG i45 (o43.1 ++ p2, o46.2.1, ())) >>= fun r48 =>
  some (r48.1, r48.2)
  else none
  else
  if (decide ((p2.length : Int) > (IntKind.wrap .i64 (65536 - z18)))) = true then
  some (10, σ)
  else
  p0 >>= fun i56 =>
  (σ.af[i56]?) >>= fun o57 =>
  fG p0 σ >>= fun r58 =>
  if (decide ((p2.length : Int) > (IntKind.wrap .i64 (o57.1 - r58)))) = true then
  some (10, σ)
  else
  (if (((bZ .str (.ptr au) p1 o13.2.1).getD (fB (.ptr au))).isNone) = true then
  p0 >>= fun i75 =>
  ((σ.dZ ([], 0, ())).af[i75]?) >>= fun o76 =>
  some (some σ.ai.length, ((σ.dZ ([], 0, ())).aQ i75 (o76.1, nJ .str (.ptr au) p1 (some σ.ai.length) o76.2.1, o76.2.2.1, o76.2.2.2.1, ())))
  else
  some ((bZ .str (.ptr au) p1 o13.2.1).getD (fB (.ptr au)), σ) : Option ((Option Nat) × St)) >>= fun z64 =>
  z64.1 >>= fun i67 =>
  (z64.2.ai[i67]?) >>= fun o68 =>
  if o68.1.length + p2.length ≤ 9223372036854775807 then
  z64.1 >>= fun i70 =>
  (z64.2.ai[i70]?) >>= fun o71 =>
  f72 p0 f73 (z64.2.aG i70 (o68.1 ++ p2, o71.2.1, ())) >>= fun r73 =>
  some (r73.1, r73.2)
  else none

noncomputable def uh (p0 : Option Nat) (r7 : List (List UInt8)) (x8 : List Int) (x9 : Int) (σ10 : St) : Option ((List Int) × Int × St) :=
  if (decide (x9 < (r7.length : Int))) = true then
  (ix r7 x9) >>= fun x19 =>
  p0 >>= fun i21 =>
  (σ10.af[i21]?) >>= fun o22 =>
  ((bZ .str (.ptr au) x19 o22.2.1).getD (fB (.ptr au))) >>= fun i24 =>
  (σ10.ai[i24]?) >>= fun o25 =>
  ((bZ .str (.ptr au) x19 o22.2.1).getD (fB (.ptr au))) >>= fun i26 =>
  (σ10.ai[i26]?) >>= fun o27 =>
  if ((IntKind.wrap .i64 ((o25.1.length : Int) - o27.2.1)) == 0) = true then
  uh p0 r7 x8 (IntKind.wrap .i64 (x9 + 1)) σ10
  else
  (if (decide ((x8.length : Int) > 0)) = true then
  (ix x8 0) >>= fun x49 =>
  if (IntKind.wrap .i64 ((IntKind.wrap .i64 ((o25.1.length : Int) - o27.2.1)) + 1)) ≠ 0 then
  if (0 : Int) ≤ 1 ∧ 1 ≤ (x8.length : Int) then
  some (x8.drop (Int.toNat 1), Int.tmod (if 0 > x49 then 0 else x49) (IntKind.wrap .i64 ((IntKind.wrap .i64 ((o25.1.length : Int) - o27.2.1)) + 1)))
  else none
  else none
  else
  some (x8, 0) : Option ((List Int) × Int)) >>= fun z35 =>
  ((bZ .str (.ptr au) x19 o22.2.1).getD (fB (.ptr au))) >>= fun i38 =>
  (σ10.ai[i38]?) >>= fun o39 =>
  ((bZ .str (.ptr au) x19 o22.2.1).getD (fB (.ptr au))) >>= fun i40 =>
  (σ10.ai[i40]?) >>= fun o41 =>
  if (0 : Int) ≤ (IntKind.wrap .i64 (o41.2.1 + z35.2)) ∧ (IntKind.wrap .i64 (o41.2.1 + z35.2)) ≤ (o39.1.length : Int) then
  ((bZ .str (.ptr au) x19 o22.2.1).getD (fB (.ptr au))) >>= fun i43 =>
  (σ10.ai[i43]?) >>= fun o44 =>
  ((bZ .str (.ptr au) x19 o22.2.1).getD (fB (.ptr au))) >>= fun i45 =>
  ((σ10.aG i43 (o39.1.take (Int.toNat (IntKind.wrap .i64 (o41.2.1 + z35.2))), o44.2.1, ())).ai[i45]?) >>= fun o46 =>
  ((bZ .str (.ptr au) x19 o22.2.1).getD (fB (.ptr au))) >>= fun i47 =>
  ((σ10.aG i43 (o39.1.take (Int.toNat (IntKind.wrap .i64 (o41.2.1 + z35.2))), o44.2.1, ())).ai[i47]?) >>= fun o48 =>
  uh p0 r7 z35.1 (IntKind.wrap .i64 (x9 + 1)) ((σ10.aG i43 (o39.1.take (Int.toNat (IntKind.wrap .i64 (o41.2.1 + z35.2))), o44.2.1, ())).aG i47 (o48.1, (o46.1.length : Int), ()))
  else none
  else
  some ((x8, x9, σ10))
  partial_fixpoint

noncomputable def f27 (p0 : Option Nat) (p1 : List Int) (σ : St) : Option (Int × St) :=
  if p0.isNone = true then
  some (1, σ)
  else
  gQ p0 σ >>= fun r7 =>
  uh p0 r7 p1 0 σ >>= fun z52 =>
  p0 >>= fun i55 =>
  (z52.2.2.af[i55]?) >>= fun o56 =>
  p0 >>= fun i57 =>
  ((z52.2.2.aQ i55 (o56.1, o56.2.1, o56.2.2.1, false, ())).af[i57]?) >>= fun o58 =>
  some (0, ((z52.2.2.aQ i55 (o56.1, o56.2.1, o56.2.2.1, false, ())).aQ i57 (o58.1, o58.2.1, 0, o58.2.2.2.1, ())))

noncomputable def f77 (p0 : Option Nat) (p1 : List UInt8) (σ : St) : Option ((Option Nat) × Int) :=
  f70 p0 σ >>= fun r4 =>
  if (r4 != 0) = true then
  some (none, r4)
  else
  p0 >>= fun i8 =>
  (σ.af[i8]?) >>= fun o9 =>
  if (((bZ .str (.ptr au) p1 o9.2.1).getD (fB (.ptr au))).isNone) = true then
  some (none, 8)
  else
  some ((bZ .str (.ptr au) p1 o9.2.1).getD (fB (.ptr au)), 0)

noncomputable def f28 (p0 : Option Nat) (p1 : List UInt8) (σ : St) : Option ((List UInt8) × Int) :=
  f77 p0 p1 σ >>= fun r3 =>
  if (r3.2 != 0) = true then
  some ([], r3.2)
  else
  r3.1 >>= fun i8 =>
  (σ.ai[i8]?) >>= fun o9 =>
  some (o9.1, 0)

noncomputable def f31 (p0 : Option Nat) (σ : St) : Option Bool :=
  if (!p0.isNone) = true then
  p0 >>= fun i3 =>
  (σ.af[i3]?) >>= fun o4 =>
  some o4.2.2.2.1
  else
  some false

noncomputable def f78 (c0 : Nat) (σ : St) : Option (Unit × St) :=
  (σ.aF[c0]?) >>= fun o1 =>
  o1.1 >>= fun i2 =>
  (σ.ai[i2]?) >>= fun o3 =>
  o1.1 >>= fun i4 =>
  (σ.ai[i4]?) >>= fun o5 =>
  some ((), (σ.aG i4 (o5.1, (o3.1.length : Int), ())))

noncomputable def f33 (p0 : Option Nat) (p1 : List UInt8) (σ : St) : Option (Int × St) :=
  f77 p0 p1 σ >>= fun r3 =>
  if (r3.2 != 0) = true then
  some (r3.2, ((σ.dW (none, ())).dC σ.aF.length (r3.1, ())))
  else
  f72 p0 (f78 σ.aF.length) ((σ.dW (none, ())).dC σ.aF.length (r3.1, ())) >>= fun r8 =>
  some (r8.1, r8.2)

noncomputable def f79 (c0 : Nat) (c1 : Nat) (σ : St) : Option (Unit × St) :=
  (σ.aF[c0]?) >>= fun o1 =>
  o1.1 >>= fun i2 =>
  (σ.ai[i2]?) >>= fun o3 =>
  (σ.gJ[c1]?) >>= fun o4 =>
  if (0 : Int) ≤ o4.1 ∧ o4.1 ≤ (o3.1.length : Int) then
  o1.1 >>= fun i6 =>
  (σ.ai[i6]?) >>= fun o7 =>
  o1.1 >>= fun i8 =>
  (σ.ai[i8]?) >>= fun o9 =>
  o1.1 >>= fun i10 =>
  ((σ.aG i8 (o3.1.take (Int.toNat o4.1), o9.2.1, ())).ai[i10]?) >>= fun o11 =>
  some ((), ((σ.aG i8 (o3.1.take (Int.toNat o4.1), o9.2.1, ())).aG i10 (o11.1, if o4.1 < o7.2.1 then o4.1 else o7.2.1, ())))
  else none

noncomputable def f35 (p0 : Option Nat) (p1 : List UInt8) (p2 : Int) (σ : St) : Option (Int × St) :=
  f77 p0 p1 (σ.bU (p2, ())) >>= fun r3 =>
  if (r3.2 != 0) = true then
  some (r3.2, (((σ.bU (p2, ())).dW (none, ())).dC ((σ.bU (p2, ())).aF.length) (r3.1, ())))
  else
  if (decide (p2 < 0)) = true then
  some (3, (((σ.bU (p2, ())).dW (none, ())).dC ((σ.bU (p2, ())).aF.length) (r3.1, ())))
  else
  r3.1 >>= fun i11 =>
  ((((σ.bU (p2, ())).dW (none, ())).dC ((σ.bU (p2, ())).aF.length) (r3.1, ())).ai[i11]?) >>= fun o12 =>
  if (decide (p2 > (o12.1.length : Int))) = true then
  some (3, (((σ.bU (p2, ())).dW (none, ())).dC ((σ.bU (p2, ())).aF.length) (r3.1, ())))
  else
  f72 p0 (f79 ((σ.bU (p2, ())).aF.length) σ.gJ.length) (((σ.bU (p2, ())).dW (none, ())).dC ((σ.bU (p2, ())).aF.length) (r3.1, ())) >>= fun r15 =>
  some (r15.1, r15.2)

noncomputable def f81 (c0 : Nat) (c1 : Nat) (σ : St) : Option (Unit × St) :=
  (σ.kW[c0]?) >>= fun o1 =>
  o1.1 >>= fun i2 =>
  (σ.af[i2]?) >>= fun o3 =>
  (σ.qV[c1]?) >>= fun o4 =>
  some ((), (σ.aQ i2 (o3.1, xw .str (.ptr au) o4.1 o3.2.1, o3.2.2.1, o3.2.2.2.1, ())))

noncomputable def f37 (p0 : Option Nat) (p1 : List UInt8) (σ : St) : Option (Int × St) :=
  f77 p0 p1 ((σ.Cb (p0, ())).Jq (p1, ())) >>= fun r4 =>
  if (r4.2 != 0) = true then
  some (r4.2, ((σ.Cb (p0, ())).Jq (p1, ())))
  else
  f72 p0 (f81 σ.kW.length ((σ.Cb (p0, ())).qV.length)) ((σ.Cb (p0, ())).Jq (p1, ())) >>= fun r8 =>
  some (r8.1, r8.2)

noncomputable def ui (p0 : List UInt8) (x4 : Int) : Option (Sum Int Bool) :=
  if (decide (x4 < (p0.length : Int))) = true then
  if (0 : Int) ≤ x4 ∧ x4 < (p0.length : Int) then
  if (decide ((btS p0 x4) < 97)) = true then
  some (.inr false)
  else
  if (0 : Int) ≤ x4 ∧ x4 < (p0.length : Int) then
  if (decide ((btS p0 x4) > 122)) = true then
  some (.inr false)
  else
  ui p0 (IntKind.wrap .i64 (x4 + 1))
  else none
  else none
  else
  some (.inl x4)
  partial_fixpoint

noncomputable def f95 (p0 : List UInt8) : Option Bool :=
  ui p0 0 >>= fun rr19 => (match rr19 with
  | .inr yy => some yy
  | .inl z18 =>
  some ((decide ((p0.length : Int) ≥ 1)) && (decide ((p0.length : Int) ≤ 8))))

noncomputable def f97 (p0 : Option Nat) (σ : St) : Option (Option Nat) :=
  p0 >>= fun i4 =>
  (σ.aj[i4]?) >>= fun o5 =>
  if ((o5.2.2.2.1.length : Int) == 0) = true then
  some none
  else
  (ix o5.2.2.2.1 (IntKind.wrap .i64 ((o5.2.2.2.1.length : Int) - 1))) >>= fun x8 =>
  some x8

noncomputable def f55 (p0 : Option Nat) (σ : St) : Option Int :=
  if p0.isNone = true then
  some 0
  else
  p0 >>= fun i5 =>
  (σ.aj[i5]?) >>= fun o6 =>
  if ((o6.2.2.2.1.length : Int) == 0) = true then
  some 0
  else
  f97 p0 σ >>= fun r9 =>
  r9 >>= fun i11 =>
  (σ.ae[i11]?) >>= fun o12 =>
  some (IntKind.wrap .i64 (o12.1 + (o12.2.1.length : Int)))

noncomputable def f98 (p0 : Option Nat) (p1 : Option Nat) (σ : St) : Option (List UInt8) :=
  p0 >>= fun i3 =>
  (σ.aj[i3]?) >>= fun o4 =>
  if o4.2.1.length + [46].length ≤ 9223372036854775807 then
  p1 >>= fun i6 =>
  (σ.ae[i6]?) >>= fun o7 =>
  mF o7.1 >>= fun r8 =>
  if (o4.2.1 ++ [46]).length + r8.length ≤ 9223372036854775807 then
  some ((o4.2.1 ++ [46]) ++ r8)
  else none
  else none

noncomputable def f61 (p0 : Option Nat) (σ : St) : Option (Int × St) :=
  if p0.isNone = true then
  some (1, σ)
  else
  f97 p0 σ >>= fun r7 =>
  if (!r7.isNone) = true then
  p0 >>= fun i10 =>
  (σ.aj[i10]?) >>= fun o11 =>
  f98 p0 r7 σ >>= fun r12 =>
  f33 o11.1 r12 σ >>= fun r13 =>
  if (r13.1 != 0) = true then
  some (r13.1, r13.2)
  else
  f55 p0 r13.2 >>= fun r17 =>
  (r13.2.aj[i10]?) >>= fun o18 =>
  some (0, (r13.2.aZ i10 (o18.1, o18.2.1, o18.2.2.1, o18.2.2.2.1, r17, ())))
  else
  f55 p0 σ >>= fun r21 =>
  p0 >>= fun i22 =>
  (σ.aj[i22]?) >>= fun o23 =>
  some (0, (σ.aZ i22 (o23.1, o23.2.1, o23.2.2.1, o23.2.2.2.1, r21, ())))

noncomputable def f110 (p0 : Int) : Option (List UInt8) :=
  some (bT [IntKind.wrap .u8 (p0), IntKind.wrap .u8 (Int.fdiv p0 (2 ^ 8)), IntKind.wrap .u8 (Int.fdiv p0 (2 ^ 16)), IntKind.wrap .u8 (Int.fdiv p0 (2 ^ 24))])

noncomputable def oQ  (x5 : Int) (x6 : Int) : Option (Int × Int) :=
  if (decide (x6 < 8)) = true then
  if ((IntKind.wrap .u32 ((BitVec.ofInt (IntKind.bits .u32) x5 &&& BitVec.ofInt (IntKind.bits .u32) 1).toNat)) == 1) = true then
  oQ (IntKind.wrap .u32 ((BitVec.ofInt (IntKind.bits .u32) (Int.fdiv x5 (2 ^ 1)) ^^^ BitVec.ofInt (IntKind.bits .u32) 2197175160).toNat)) (IntKind.wrap .i64 (x6 + 1))
  else
  oQ (Int.fdiv x5 (2 ^ 1)) (IntKind.wrap .i64 (x6 + 1))
  else
  some ((x5, x6))
  partial_fixpoint

noncomputable def f151 (p0 : Int) (p1 : Int) : Option Int :=
  oQ  (IntKind.wrap .u32 ((BitVec.ofInt (IntKind.bits .u32) p0 ^^^ BitVec.ofInt (IntKind.bits .u32) (IntKind.wrap .u32 (p1))).toNat)) 0 >>= fun z17 =>
  some z17.1

noncomputable def uC (p1 : List UInt8) (x5 : Int) (x6 : Int) : Option (Int × Int) :=
  if (decide (x6 < (p1.length : Int))) = true then
  if (0 : Int) ≤ x6 ∧ x6 < (p1.length : Int) then
  f151 x5 (btS p1 x6) >>= fun r16 =>
  uC p1 r16 (IntKind.wrap .i64 (x6 + 1))
  else none
  else
  some ((x5, x6))
  partial_fixpoint

noncomputable def f138 (p0 : Int) (p1 : List UInt8) : Option Int :=
  uC p1 (IntKind.wrap .u32 ((BitVec.ofInt (IntKind.bits .u32) (if IntKind.signed .u32 = true then -1 else IntKind.max .u32) ^^^ BitVec.ofInt (IntKind.bits .u32) p0).toNat)) 0 >>= fun z17 =>
  some (IntKind.wrap .u32 ((BitVec.ofInt (IntKind.bits .u32) (if IntKind.signed .u32 = true then -1 else IntKind.max .u32) ^^^ BitVec.ofInt (IntKind.bits .u32) z17.1).toNat))

noncomputable def f111 (p0 : List UInt8) : Option Int :=
  f138 0 p0 >>= fun r3 =>
  some r3

noncomputable def f108 (p0 : List UInt8) : Option ((List UInt8) × Int) :=
  if (decide ((IntKind.wrap .i64 ((p0.length : Int) - 4)) < 0)) = true then
  some ([], 5)
  else
  if (0 : Int) ≤ (IntKind.wrap .i64 ((p0.length : Int) - 4)) ∧ (IntKind.wrap .i64 ((p0.length : Int) - 4)) ≤ (p0.length : Int) then
  f111 (p0.take (Int.toNat (IntKind.wrap .i64 ((p0.length : Int) - 4)))) >>= fun r8 =>
  f110 r8 >>= fun r9 =>
  if (0 : Int) ≤ (IntKind.wrap .i64 ((p0.length : Int) - 4)) ∧ (IntKind.wrap .i64 ((p0.length : Int) - 4)) ≤ (p0.length : Int) then
  if (!(r9 == (p0.drop (Int.toNat (IntKind.wrap .i64 ((p0.length : Int) - 4)))))) = true then
  some ([], 7)
  else
  if (0 : Int) ≤ (IntKind.wrap .i64 ((p0.length : Int) - 4)) ∧ (IntKind.wrap .i64 ((p0.length : Int) - 4)) ≤ (p0.length : Int) then
  some (p0.take (Int.toNat (IntKind.wrap .i64 ((p0.length : Int) - 4))), 0)
  else none
  else none
  else none

noncomputable def nP (p0 : List UInt8) (p1 : Int) (x8 : Int) (x9 : Int) : Option (Sum (Int × Int) (Int × Int × Int)) :=
  if (decide ((IntKind.wrap .i64 (p1 + x9)) < (p0.length : Int))) = true then
  if (0 : Int) ≤ (IntKind.wrap .i64 (p1 + x9)) ∧ (IntKind.wrap .i64 (p1 + x9)) < (p0.length : Int) then
  if ((x9 == 9) && (decide ((btS p0 (IntKind.wrap .i64 (p1 + x9))) > 1))) = true then
  some (.inr (0, 0, 6))
  else
  if (0 : Int) ≤ (IntKind.wrap .i64 (7 * x9)) then
  if (decide ((btS p0 (IntKind.wrap .i64 (p1 + x9))) ≥ 128)) = true then
  nP p0 p1 (IntKind.wrap .u64 ((BitVec.ofInt (IntKind.bits .u64) x8 ||| BitVec.ofInt (IntKind.bits .u64) (IntKind.wrap .u64 ((IntKind.wrap .u64 (IntKind.wrap .u8 ((BitVec.ofInt (IntKind.bits .u8) (btS p0 (IntKind.wrap .i64 (p1 + x9))) &&& BitVec.ofInt (IntKind.bits .u8) 127).toNat))) * 2 ^ (min (Int.toNat (IntKind.wrap .i64 (7 * x9))) (IntKind.bits .u64))))).toNat)) (IntKind.wrap .i64 (x9 + 1))
  else
  if (((btS p0 (IntKind.wrap .i64 (p1 + x9))) == 0) && (decide (x9 > 0))) = true then
  some (.inr (0, 0, 6))
  else
  (if ((IntKind.wrap .u64 ((BitVec.ofInt (IntKind.bits .u64) (IntKind.wrap .u64 ((BitVec.ofInt (IntKind.bits .u64) x8 ||| BitVec.ofInt (IntKind.bits .u64) (IntKind.wrap .u64 ((IntKind.wrap .u64 (IntKind.wrap .u8 ((BitVec.ofInt (IntKind.bits .u8) (btS p0 (IntKind.wrap .i64 (p1 + x9))) &&& BitVec.ofInt (IntKind.bits .u8) 127).toNat))) * 2 ^ (min (Int.toNat (IntKind.wrap .i64 (7 * x9))) (IntKind.bits .u64))))).toNat)) &&& BitVec.ofInt (IntKind.bits .u64) 1).toNat)) == 1) = true then
  some (IntKind.wrap .i64 ((BitVec.ofInt (IntKind.bits .i64) (if IntKind.signed .i64 = true then -1 else IntKind.max .i64) ^^^ BitVec.ofInt (IntKind.bits .i64) (IntKind.wrap .i64 (Int.fdiv (IntKind.wrap .u64 ((BitVec.ofInt (IntKind.bits .u64) x8 ||| BitVec.ofInt (IntKind.bits .u64) (IntKind.wrap .u64 ((IntKind.wrap .u64 (IntKind.wrap .u8 ((BitVec.ofInt (IntKind.bits .u8) (btS p0 (IntKind.wrap .i64 (p1 + x9))) &&& BitVec.ofInt (IntKind.bits .u8) 127).toNat))) * 2 ^ (min (Int.toNat (IntKind.wrap .i64 (7 * x9))) (IntKind.bits .u64))))).toNat)) (2 ^ 1)))).toNat))
  else
  some (IntKind.wrap .i64 (Int.fdiv (IntKind.wrap .u64 ((BitVec.ofInt (IntKind.bits .u64) x8 ||| BitVec.ofInt (IntKind.bits .u64) (IntKind.wrap .u64 ((IntKind.wrap .u64 (IntKind.wrap .u8 ((BitVec.ofInt (IntKind.bits .u8) (btS p0 (IntKind.wrap .i64 (p1 + x9))) &&& BitVec.ofInt (IntKind.bits .u8) 127).toNat))) * 2 ^ (min (Int.toNat (IntKind.wrap .i64 (7 * x9))) (IntKind.bits .u64))))).toNat)) (2 ^ 1))) : Option Int) >>= fun z33 =>
  some (.inr (z33, IntKind.wrap .i64 ((IntKind.wrap .i64 (p1 + x9)) + 1), 0))
  else none
  else none
  else
  some (.inl (x8, x9))
  partial_fixpoint

noncomputable def f113 (p0 : List UInt8) (p1 : Int) : Option (Int × Int × Int) :=
  if ((decide (p1 < 0)) || (decide (p1 > (p0.length : Int)))) = true then
  some (0, 0, 3)
  else
  nP p0 p1 0 0 >>= fun rr37 => (match rr37 with
  | .inr yy => some yy
  | .inl z36 =>
  some (0, 0, 5))

noncomputable def zA  (y12 : jw.den) (x13 : Int) (x14 : Int) : Option (jw.den × Int × Int) :=
  if (decide (x13 ≥ 128)) = true then
  if (0 : Int) ≤ x14 ∧ x14 < (10 : Nat) then
  zA (xA jw y12 (Int.toNat x14) (IntKind.wrap .u8 ((BitVec.ofInt (IntKind.bits .u8) (IntKind.wrap .u8 (x13)) ||| BitVec.ofInt (IntKind.bits .u8) 128).toNat))) (Int.fdiv x13 (2 ^ 7)) (IntKind.wrap .i64 (x14 + 1))
  else none
  else
  some ((y12, x13, x14))
  partial_fixpoint

noncomputable def f90 (p0 : Int) : Option (List UInt8) :=
  (if (decide (p0 < 0)) = true then
  some (IntKind.wrap .u64 ((BitVec.ofInt (IntKind.bits .u64) (if IntKind.signed .u64 = true then -1 else IntKind.max .u64) ^^^ BitVec.ofInt (IntKind.bits .u64) (IntKind.wrap .u64 ((IntKind.wrap .u64 (p0)) * 2 ^ 1))).toNat))
  else
  some (IntKind.wrap .u64 ((IntKind.wrap .u64 (p0)) * 2 ^ 1)) : Option Int) >>= fun z6 =>
  zA  (0, 0, 0, 0, 0, 0, 0, 0, 0, 0, ()) z6 0 >>= fun z24 =>
  if (0 : Int) ≤ z24.2.2 ∧ z24.2.2 < (10 : Nat) then
  if (0 : Int) ≤ (IntKind.wrap .i64 (z24.2.2 + 1)) ∧ (IntKind.wrap .i64 (z24.2.2 + 1)) ≤ (10 : Nat) then
  some (bT ((yH jw (xA jw z24.1 (Int.toNat z24.2.2) (IntKind.wrap .u8 (z24.2.1)))).take (Int.toNat (IntKind.wrap .i64 (z24.2.2 + 1)))))
  else none
  else none

noncomputable def f94 (p0 : List UInt8) (p1 : Int) (p2 : Int) : Option ((List UInt8) × Int × Bool) :=
  f113 p0 p1 >>= fun r3 =>
  if (((r3.2.2 != 0) || (decide (r3.1 < 0))) || (decide (r3.1 > (IntKind.wrap .i64 ((p0.length : Int) - r3.2.1))))) = true then
  some ([], 0, false)
  else
  if (0 : Int) ≤ r3.2.1 ∧ r3.2.1 ≤ (IntKind.wrap .i64 (r3.2.1 + r3.1)) ∧ (IntKind.wrap .i64 (r3.2.1 + r3.1)) ≤ (p0.length : Int) then
  f108 ((p0.take (Int.toNat (IntKind.wrap .i64 (r3.2.1 + r3.1)))).drop (Int.toNat r3.2.1)) >>= fun r9 =>
  if (r9.2 != 0) = true then
  some ([], 0, false)
  else
  f90 p2 >>= fun r14 =>
  if (decide ((r9.1.length : Int) < (r14.length : Int))) = true then
  some ([], 0, false)
  else
  if (0 : Int) ≤ (r14.length : Int) ∧ (r14.length : Int) ≤ (r9.1.length : Int) then
  if ((!((r9.1.take (Int.toNat (r14.length : Int))) == r14)) || (decide ((IntKind.wrap .i64 ((r9.1.length : Int) - (r14.length : Int))) > 1024))) = true then
  some ([], 0, false)
  else
  if (0 : Int) ≤ (r14.length : Int) ∧ (r14.length : Int) ≤ (r9.1.length : Int) then
  some (r9.1.drop (Int.toNat (r14.length : Int)), IntKind.wrap .i64 (r3.2.1 + r3.1), true)
  else none
  else none
  else none

noncomputable def yt (p0 : List UInt8) (p1 : Int) (l7 : List (List UInt8)) (x8 : Int) : Option ((List (List UInt8)) × Int) :=
  if (decide (p1 ≥ 0)) = true then
  f94 p0 x8 (IntKind.wrap .i64 (p1 + (l7.length : Int))) >>= fun r16 =>
  if (!r16.2.2) = true then
  some ((l7, x8))
  else
  if (l7.length + 1) * 16 ≤ 140737488355328 then
  yt p0 p1 (l7 ++ [r16.1]) r16.2.1
  else none
  else
  some ((l7, x8))
  partial_fixpoint

noncomputable def f49 (p0 : List UInt8) (p1 : Int) : Option ((List (List UInt8)) × Int) :=
  yt p0 p1 [] 0 >>= fun z22 =>
  some (z22.1, z22.2)

noncomputable def f115 (p0 : Option Nat) (p1 : Int) (σ : St) : Option (((Option Nat) × Int × Int) × St) :=
  p0 >>= fun i4 =>
  ((σ.ay (p1, [], 0, ())).aj[i4]?) >>= fun o5 =>
  f98 p0 (some σ.ae.length) (σ.ay (p1, [], 0, ())) >>= fun r6 =>
  f28 o5.1 r6 (σ.ay (p1, [], 0, ())) >>= fun r7 =>
  if (r7.2 != 0) = true then
  some ((none, 0, r7.2), (σ.ay (p1, [], 0, ())))
  else
  f49 r7.1 p1 >>= fun r12 =>
  some ((some σ.ae.length, IntKind.wrap .i64 ((r7.1.length : Int) - r12.2), 0), (((σ.ay (p1, [], 0, ())).ax σ.ae.length (p1, r12.1, 0, ())).ax σ.ae.length (p1, r12.1, r12.2, ())))

noncomputable def pV (p0 : Option Nat) (r3 : List Int) (x7 : Int) (x8 : Int) (x9 : Int) (σ10 : St) : Option (Sum (Int × Int × Int × St) (Int × St)) :=
  if (decide (x9 < (r3.length : Int))) = true then
  (ix r3 x9) >>= fun x19 =>
  if (decide (x9 > 0)) = true then
  if (decide (x7 > 0)) = true then
  some (.inl (x7, x8, x9, σ10))
  else
  f55 p0 σ10 >>= fun r22 =>
  if (x19 != r22) = true then
  some (.inl (x7, x8, x9, σ10))
  else
  f115 p0 x19 σ10 >>= fun r24 =>
  if (r24.1.2.2 != 0) = true then
  some (.inr (r24.1.2.2, r24.2))
  else
  p0 >>= fun i29 =>
  (r24.2.aj[i29]?) >>= fun o30 =>
  if (o30.2.2.2.1.length + 1) * 8 ≤ 140737488355328 then
  pV p0 r3 r24.1.2.1 (IntKind.wrap .i64 (x9 + 1)) (IntKind.wrap .i64 (x9 + 1)) (r24.2.aZ i29 (o30.1, o30.2.1, o30.2.2.1, o30.2.2.2.1 ++ [r24.1.1], o30.2.2.2.2.1, ()))
  else none
  else
  f115 p0 x19 σ10 >>= fun r35 =>
  if (r35.1.2.2 != 0) = true then
  some (.inr (r35.1.2.2, r35.2))
  else
  p0 >>= fun i40 =>
  (r35.2.aj[i40]?) >>= fun o41 =>
  if (o41.2.2.2.1.length + 1) * 8 ≤ 140737488355328 then
  pV p0 r3 r35.1.2.1 (IntKind.wrap .i64 (x9 + 1)) (IntKind.wrap .i64 (x9 + 1)) (r35.2.aZ i40 (o41.1, o41.2.1, o41.2.2.1, o41.2.2.2.1 ++ [r35.1.1], o41.2.2.2.2.1, ()))
  else none
  else
  some (.inl (x7, x8, x9, σ10))
  partial_fixpoint

noncomputable def zB (p0 : Option Nat) (r3 : List Int) (z45 : Int × Int × Int × St) (o49 : az dh) (x52 : Int) (σ53 : St) : Option (Sum (Int × St) (Int × St)) :=
  if (decide (x52 ≥ z45.2.1)) = true then
  (ix r3 x52) >>= fun x62 =>
  f98 p0 (some σ53.ae.length) (σ53.ay (x62, [], 0, ())) >>= fun r63 =>
  f37 o49.1 r63 (σ53.ay (x62, [], 0, ())) >>= fun r64 =>
  if (r64.1 != 0) = true then
  some (.inr (r64.1, r64.2))
  else
  zB p0 r3 z45 o49 (IntKind.wrap .i64 (x52 - 1)) r64.2
  else
  some (.inl (x52, σ53))
  partial_fixpoint

noncomputable def f96 (p0 : Option Nat) (σ : St) : Option (Int × St) :=
  iR p0 σ >>= fun r3 =>
  pV p0 r3 0 0 0 σ >>= fun rr46 => (match rr46 with
  | .inr yy => some yy
  | .inl z45 =>
  p0 >>= fun i48 =>
  (z45.2.2.2.aj[i48]?) >>= fun o49 =>
  zB p0 r3 z45 o49 (IntKind.wrap .i64 ((r3.length : Int) - 1)) z45.2.2.2 >>= fun rr68 => (match rr68 with
  | .inr yy => some yy
  | .inl z67 =>
  if (z45.2.1 == 0) = true then
  some (0, z67.2)
  else
  p0 >>= fun i73 =>
  (z67.2.aj[i73]?) >>= fun o74 =>
  (ix o74.2.2.2.1 (IntKind.wrap .i64 (z45.2.1 - 1))) >>= fun x75 =>
  if (decide (z45.1 > 0)) = true then
  f98 p0 x75 z67.2 >>= fun r79 =>
  x75 >>= fun i80 =>
  (z67.2.ae[i80]?) >>= fun o81 =>
  f35 o74.1 r79 o81.2.2.1 z67.2 >>= fun r82 =>
  if (r82.1 != 0) = true then
  some (r82.1, r82.2)
  else
  f61 p0 r82.2 >>= fun r86 =>
  some (r86.1, r86.2)
  else
  f61 p0 z67.2 >>= fun r88 =>
  some (r88.1, r88.2)))

noncomputable def f53 (p0 : Option Nat) (p1 : List UInt8) (p2 : Int) (σ : St) : Option (((Option Nat) × Int) × St) :=
  if p0.isNone = true then
  some ((none, 1), σ)
  else
  f95 p1 >>= fun r6 =>
  if (((!r6) || (decide (p2 < 64))) || (decide (p2 > 65536))) = true then
  some ((none, 2), σ)
  else
  f31 p0 σ >>= fun r9 =>
  if r9 = true then
  some ((none, 11), σ)
  else
  f96 (some σ.aj.length) (σ.gK (p0, p1, p2, [], 0, ())) >>= fun r15 =>
  if (r15.1 != 0) = true then
  some ((none, r15.1), r15.2)
  else
  some ((some σ.aj.length, 0), r15.2)

noncomputable def f54 (p0 : Option Nat) (σ : St) : Option Int :=
  if p0.isNone = true then
  some 0
  else
  p0 >>= fun i5 =>
  (σ.aj[i5]?) >>= fun o6 =>
  if ((o6.2.2.2.1.length : Int) == 0) = true then
  some 0
  else
  (ix o6.2.2.2.1 0) >>= fun x9 =>
  x9 >>= fun i10 =>
  (σ.ae[i10]?) >>= fun o11 =>
  some o11.1

noncomputable def yu (p0 : Option Nat) (p1 : Int) (σ : St) (x15 : Int) : Option Int :=
  p0 >>= fun i22 =>
  (σ.aj[i22]?) >>= fun o23 =>
  (ix o23.2.2.2.1 x15) >>= fun x24 =>
  x24 >>= fun i25 =>
  (σ.ae[i25]?) >>= fun o26 =>
  if (decide (o26.1 > p1)) = true then
  yu p0 p1 σ (IntKind.wrap .i64 (x15 - 1))
  else
  some (x15)
  partial_fixpoint

noncomputable def f58 (p0 : Option Nat) (p1 : Int) (σ : St) : Option ((List UInt8) × Int) :=
  if p0.isNone = true then
  some ([], 1)
  else
  f54 p0 σ >>= fun r6 =>
  if (decide (p1 < r6)) = true then
  some ([], 13)
  else
  f55 p0 σ >>= fun r9 =>
  if (decide (p1 ≥ r9)) = true then
  some ([], 8)
  else
  p0 >>= fun i12 =>
  (σ.aj[i12]?) >>= fun o13 =>
  yu p0 p1 σ (IntKind.wrap .i64 ((o13.2.2.2.1.length : Int) - 1)) >>= fun z27 =>
  p0 >>= fun i30 =>
  (σ.aj[i30]?) >>= fun o31 =>
  (ix o31.2.2.2.1 z27) >>= fun x32 =>
  x32 >>= fun i33 =>
  (σ.ae[i33]?) >>= fun o34 =>
  (ix o31.2.2.2.1 z27) >>= fun x35 =>
  x35 >>= fun i36 =>
  (σ.ae[i36]?) >>= fun o37 =>
  (ix o34.2.1 (IntKind.wrap .i64 (p1 - o37.1))) >>= fun x38 =>
  some (x38, 0)

noncomputable def f89 (p0 : List UInt8) : Option (List UInt8) :=
  f111 p0 >>= fun r3 =>
  f110 r3 >>= fun r4 =>
  if p0.length + r4.length ≤ 9223372036854775807 then
  some (p0 ++ r4)
  else none

noncomputable def f99 (p0 : Int) (p1 : List UInt8) : Option (List UInt8) :=
  f90 p0 >>= fun r3 =>
  if r3.length + p1.length ≤ 9223372036854775807 then
  f89 (r3 ++ p1) >>= fun r5 =>
  f90 (r5.length : Int) >>= fun r7 =>
  if r7.length + r5.length ≤ 9223372036854775807 then
  some (r7 ++ r5)
  else none
  else none

noncomputable def f59 (p0 : Option Nat) (p1 : List UInt8) (σ : St) : Option ((Int × Int) × St) :=
  if p0.isNone = true then
  some ((0, 1), σ)
  else
  if (decide ((p1.length : Int) > 1024)) = true then
  some ((0, 4), σ)
  else
  f55 p0 σ >>= fun r8 =>
  f97 p0 σ >>= fun r10 =>
  if r10.isNone = true then
  f61 p0 σ >>= fun r17 =>
  if (r17.1 != 0) = true then
  some ((0, r17.1), r17.2)
  else
  f99 r8 p1 >>= fun r21 =>
  p0 >>= fun i24 =>
  ((r17.2.ay (r8, [], 0, ())).aj[i24]?) >>= fun o25 =>
  f98 p0 (some r17.2.ae.length) (r17.2.ay (r8, [], 0, ())) >>= fun r26 =>
  f24 o25.1 r26 r21 (r17.2.ay (r8, [], 0, ())) >>= fun r27 =>
  if (r27.1 != 0) = true then
  some ((0, r27.1), r27.2)
  else
  (r27.2.ae[r17.2.ae.length]?) >>= fun o31 =>
  if (o31.2.1.length + 1) * 16 ≤ 140737488355328 then
  (((r27.2.ax r17.2.ae.length (o31.1, o31.2.1 ++ [p1], o31.2.2.1, ())).ax r17.2.ae.length (o31.1, (o31.2.1 ++ [p1]), IntKind.wrap .i64 (o31.2.2.1 + (r21.length : Int)), ())).aj[i24]?) >>= fun o38 =>
  if (o38.2.2.2.1.length + 1) * 8 ≤ 140737488355328 then
  some ((r8, 0), (((r27.2.ax r17.2.ae.length (o31.1, o31.2.1 ++ [p1], o31.2.2.1, ())).ax r17.2.ae.length (o31.1, (o31.2.1 ++ [p1]), IntKind.wrap .i64 (o31.2.2.1 + (r21.length : Int)), ())).aZ i24 (o38.1, o38.2.1, o38.2.2.1, o38.2.2.2.1 ++ [some r17.2.ae.length], o38.2.2.2.2.1, ())))
  else none
  else none
  else
  r10 >>= fun i44 =>
  (σ.ae[i44]?) >>= fun o45 =>
  p0 >>= fun i46 =>
  (σ.aj[i46]?) >>= fun o47 =>
  if (decide (o45.2.2.1 ≥ o47.2.2.1)) = true then
  f61 p0 σ >>= fun r52 =>
  if (r52.1 != 0) = true then
  some ((0, r52.1), r52.2)
  else
  f99 r8 p1 >>= fun r56 =>
  ((r52.2.ay (r8, [], 0, ())).aj[i46]?) >>= fun o59 =>
  f98 p0 (some r52.2.ae.length) (r52.2.ay (r8, [], 0, ())) >>= fun r60 =>
  f24 o59.1 r60 r56 (r52.2.ay (r8, [], 0, ())) >>= fun r61 =>
  if (r61.1 != 0) = true then
  some ((0, r61.1), r61.2)
  else
  (r61.2.ae[r52.2.ae.length]?) >>= fun o65 =>
  if (o65.2.1.length + 1) * 16 ≤ 140737488355328 then
  (if (decide (o45.2.2.1 ≥ o47.2.2.1)) = true then
  (((r61.2.ax r52.2.ae.length (o65.1, o65.2.1 ++ [p1], o65.2.2.1, ())).ax r52.2.ae.length (o65.1, (o65.2.1 ++ [p1]), IntKind.wrap .i64 (o65.2.2.1 + (r56.length : Int)), ())).aj[i46]?) >>= fun o76 =>
  if (o76.2.2.2.1.length + 1) * 8 ≤ 140737488355328 then
  some (((r61.2.ax r52.2.ae.length (o65.1, o65.2.1 ++ [p1], o65.2.2.1, ())).ax r52.2.ae.length (o65.1, (o65.2.1 ++ [p1]), IntKind.wrap .i64 (o65.2.2.1 + (r56.length : Int)), ())).aZ i46 (o76.1, o76.2.1, o76.2.2.1, o76.2.2.2.1 ++ [some r52.2.ae.length], o76.2.2.2.2.1, ()))
  else none
  else
  some ((r61.2.ax r52.2.ae.length (o65.1, o65.2.1 ++ [p1], o65.2.2.1, ())).ax r52.2.ae.length (o65.1, (o65.2.1 ++ [p1]), IntKind.wrap .i64 (o65.2.2.1 + (r56.length : Int)), ())) : Option St) >>= fun z73 =>
  some ((r8, 0), z73)
  else none
  else
  f99 r8 p1 >>= fun r81 =>
  f98 p0 r10 σ >>= fun r84 =>
  f24 o47.1 r84 r81 σ >>= fun r85 =>
  if (r85.1 != 0) = true then
  some ((0, r85.1), r85.2)
  else
  (r85.2.ae[i44]?) >>= fun o89 =>
  if (o89.2.1.length + 1) * 16 ≤ 140737488355328 then
  (if (decide (o45.2.2.1 ≥ o47.2.2.1)) = true then
  (((r85.2.ax i44 (o89.1, o89.2.1 ++ [p1], o89.2.2.1, ())).ax i44 (o89.1, (o89.2.1 ++ [p1]), IntKind.wrap .i64 (o89.2.2.1 + (r81.length : Int)), ())).aj[i46]?) >>= fun o100 =>
  if (o100.2.2.2.1.length + 1) * 8 ≤ 140737488355328 then
  some (((r85.2.ax i44 (o89.1, o89.2.1 ++ [p1], o89.2.2.1, ())).ax i44 (o89.1, (o89.2.1 ++ [p1]), IntKind.wrap .i64 (o89.2.2.1 + (r81.length : Int)), ())).aZ i46 (o100.1, o100.2.1, o100.2.2.1, o100.2.2.2.1 ++ [r10], o100.2.2.2.2.1, ()))
  else none
  else
  some ((r85.2.ax i44 (o89.1, o89.2.1 ++ [p1], o89.2.2.1, ())).ax i44 (o89.1, (o89.2.1 ++ [p1]), IntKind.wrap .i64 (o89.2.2.1 + (r81.length : Int)), ())) : Option St) >>= fun z97 =>
  some ((r8, 0), z97)
  else none

end Go.Proofs.YtbnmhjobnepajaaGreat.M


set_option maxRecDepth 100000
namespace Go.Proofs.YtbnmhjobnepajaaGreat.M
open Go.Proofs
section
variable {α β γ δ s : Type}
theorem bmb {o : Option α} {F : α → Option δ} {F' : α → Option γ} {c : δ → β} {k : γ → Option β} (h : ∀ a, (F a).map c = (F' a).bind k) : (o.bind F).map c = (o.bind F').bind k := by cases o <;> simp [h]
theorem bmd {o : Option α} {F : α → Option δ} {F' : α → α → Option γ} {c : δ → β} {k : γ → Option β} (h : ∀ a, (F a).map c = (F' a a).bind k) : (o.bind F).map c = (o.bind fun a => o.bind fun b => F' a b).bind k := by cases o <;> simp [h]
theorem itm {p q : Prop} [Decidable p] [Decidable q] {a b : Option δ} {a' b' : Option γ} {c : δ → β} {k : γ → Option β} (hc : p ↔ q) (h1 : p → a.map c = a'.bind k) (h2 : ¬p → b.map c = b'.bind k) : (if p then a else b).map c = (if q then a' else b').bind k := by
  by_cases h : p
  · rw [if_pos h, if_pos (hc.1 h)]; exact h1 h
  · rw [if_neg h, if_neg fun hq => h (hc.2 hq)]; exact h2 h
theorem itb {p q : Prop} [Decidable p] [Decidable q] {a b a' b' : Option β} (hc : p ↔ q) (h1 : p → a = a') (h2 : ¬p → b = b') : (if p then a else b) = if q then a' else b' := by
  by_cases h : p
  · rw [if_pos h, if_pos (hc.1 h)]; exact h1 h
  · rw [if_neg h, if_neg fun hq => h (hc.2 hq)]; exact h2 h
theorem itn {p : Bool} {a b a' b' : Option β} (h1 : p = false → a = b') (h2 : p = true → b = a') : (if (!p) = true then a else b) = if p = true then a' else b' := by
  cases p
  · exact h1 rfl
  · exact h2 rfl
theorem bbb {o : Option α} {F F' : α → Option β} (h : ∀ a, F a = F' a) : o.bind F = o.bind F' := by cases o <;> simp [h]
theorem bbd {o : Option α} {F : α → Option β} {F' : α → α → Option β} (h : ∀ a, F' a a = F a) : (o.bind fun a => o.bind fun b => F' a b) = o.bind F := by cases o <;> simp [h]
theorem bb2 {o o' : Option α} {F F' : α → Option β} (ho : o = o') (h : ∀ a, F a = F' a) : o.bind F = o'.bind F' := by subst ho; cases o <;> simp [h]
theorem lY {o : Option α} {c : α → γ} {F : γ → Option β} {F' : α → Option β} (h : ∀ a, F (c a) = F' a) : (o.map c).bind F = o.bind F' := by cases o <;> simp [h]
theorem qI {f : s → Option (s ⊕ γ)} {g : s → Option δ} {c : δ → γ} (B : (s → Option δ) → s → Option δ) (hst : ∀ self x, (B self x).map c = (f x).bind (Sum.elim (fun y => (self y).map c) some)) (hg : ∀ x, g x = B g x)
    (hl : ∀ (M : s → δ → Prop), (∀ self, (∀ x r, self x = some r → M x r) → ∀ x r, B self x = some r → M x r) → ∀ x r, g x = some r → M x r) (x : s) : bC f x = (g x).map c := by
  have un : ∀ x, bC f x = (f x).bind (Sum.elim (fun y => bC f y) some) := by
    intro x
    rw [bC]
    show (f x).bind _ = _
    cases f x with
    | none => rfl
    | some y => cases y <;> rfl
  refine Option.ext fun r => ⟨fun h => ?_, fun h => ?_⟩
  · refine bC.partial_correctness f (fun x r => (g x).map c = some r) (fun self ih x r hr => ?_) x r h
    rw [hg, hst]
    cases hf : f x with
    | none => rw [hf] at hr; cases hr
    | some y =>
      rw [hf] at hr
      cases y with
      | inl y => exact ih y r hr
      | inr y => exact hr
  · cases hgx : g x with
    | none => rw [hgx] at h; cases h
    | some d =>
      rw [hgx] at h
      simp only [Option.map_some, Option.some.injEq] at h
      subst h
      refine hl (fun x d => bC f x = some (c d)) (fun self ih x r hr => ?_) x d hgx
      have h1 := hst self x
      rw [hr] at h1
      rw [un]
      cases hf : f x with
      | none => rw [hf] at h1; cases h1
      | some y =>
        rw [hf] at h1
        cases y with
        | inl y =>
          cases hs : self y with
          | none => simp [hs] at h1
          | some z =>
            simp only [Option.bind_some, Sum.elim_inl, hs, Option.map_some, Option.some.injEq] at h1
            show bC f y = _
            rw [ih y z hs, h1]
        | inr y => exact h1.symm
end
theorem eq_18 : qK = f18 := by
  funext a0 a1
  unfold qK f18
  try simp only []
  rfl
theorem Dy : kM = f70 := by
  funext a0 a1
  unfold kM f70
  try simp only [eq_18]
  rfl
noncomputable def Ot (p0 : List UInt8) (self : (Int) → Option (Sum Int Bool)) (s : (Int)) : Option (Sum Int Bool) :=
  if (decide (s < (p0.length : Int))) = true then
  if (0 : Int) ≤ s ∧ s < (p0.length : Int) then
  if ((((((decide ((btS p0 s) < 97)) || (decide ((btS p0 s) > 122))) && ((decide ((btS p0 s) < 48)) || (decide ((btS p0 s) > 57)))) && ((btS p0 s) != 46)) && ((btS p0 s) != 45)) && ((btS p0 s) != 95)) = true then
  some (.inr false)
  else
  self (IntKind.wrap .i64 (s + 1))
  else none
  else
  some (.inl s)
theorem Zm (p0 : List UInt8) (self : (Int) → Option (Sum Int Bool)) (s : (Int)) : (Ot p0 self s).map (Sum.map (fun _ => ()) id) = (rQ p0 s).bind (Sum.elim (fun y => (self y).map (Sum.map (fun _ => ()) id)) some) := by
  unfold Ot rQ
  repeat' (first | rfl | refine bmd fun _ => ?_ | refine bmb fun _ => ?_ | refine itm Iff.rfl (fun _ => ?_) (fun _ => ?_))
theorem YN (p0 : List UInt8) (s : (Int)) : bC (rQ p0) s = (wS p0 s).map (Sum.map (fun _ => ()) id) :=
  qI (g := fun s => wS p0 s) (Ot p0) (Zm p0) (fun s => by show wS p0 s = _; rw [wS]; rfl)
    (fun M h s r => wS.partial_correctness p0 (fun a0 r => M (a0) r) (fun self ih a0 r hx => h (fun s => self s) (fun s r hr => ih s r hr) (a0) r hx) s r) s
theorem ER : xP = f71 := by
  funext p0
  unfold xP f71
  rw [YN]
  cases wS p0 0 with
  | none => rfl
  | some x => cases x <;> rfl
theorem abm : dm = fun p _ => f72 p f73 := by
  funext p x σ
  unfold dm
  rfl
theorem eq_24 : jV = f24 := by
  funext p x y σ
  unfold jV f24
  simp only [Dy, ER, abm]
  refine bbb fun r => itb Iff.rfl (fun _ => rfl) fun _ => bbb fun r9 => itb Iff.rfl (fun _ => rfl) fun _ => bbb fun i => bbd fun o => bbb fun z => ?_
  refine itb Iff.rfl (fun h => ?_) (fun h => ?_)
  · refine bbb fun i => bbd fun o => itn (fun _ => itn (fun _ => ?_) fun _ => rfl) fun _ => rfl
    refine bbb fun i => bbb fun o => bbb fun r => itb Iff.rfl (fun _ => rfl) fun _ => ?_
    refine bb2 (itb Iff.rfl (fun _ => bbb fun i => bbd fun o => rfl) fun _ => rfl) fun z => rfl
  · refine itn (fun _ => ?_) fun _ => rfl
    refine bbb fun i => bbb fun o => bbb fun r => itb Iff.rfl (fun _ => rfl) fun _ => ?_
    refine bb2 (itb Iff.rfl (fun _ => bbb fun i => bbd fun o => rfl) fun _ => rfl) fun z => rfl
noncomputable def Ol (p0 : Option Nat) (r7 : List (List UInt8)) (self : (List Int) × (Int) × (St) → Option ((List Int) × Int × St)) (s : (List Int) × (Int) × (St)) : Option ((List Int) × Int × St) :=
  if (decide (s.2.1 < (r7.length : Int))) = true then
  (ix r7 s.2.1) >>= fun x19 =>
  p0 >>= fun i21 =>
  (s.2.2.af[i21]?) >>= fun o22 =>
  ((bZ .str (.ptr au) x19 o22.2.1).getD (fB (.ptr au))) >>= fun i24 =>
  (s.2.2.ai[i24]?) >>= fun o25 =>
  ((bZ .str (.ptr au) x19 o22.2.1).getD (fB (.ptr au))) >>= fun i26 =>
  (s.2.2.ai[i26]?) >>= fun o27 =>
  if ((IntKind.wrap .i64 ((o25.1.length : Int) - o27.2.1)) == 0) = true then
  self (s.1, (IntKind.wrap .i64 (s.2.1 + 1)), s.2.2)
  else
  (if (decide ((s.1.length : Int) > 0)) = true then
  (ix s.1 0) >>= fun x49 =>
  if (IntKind.wrap .i64 ((IntKind.wrap .i64 ((o25.1.length : Int) - o27.2.1)) + 1)) ≠ 0 then
  if (0 : Int) ≤ 1 ∧ 1 ≤ (s.1.length : Int) then
  some (s.1.drop (Int.toNat 1), Int.tmod (if 0 > x49 then 0 else x49) (IntKind.wrap .i64 ((IntKind.wrap .i64 ((o25.1.length : Int) - o27.2.1)) + 1)))
  else none
  else none
  else
  some (s.1, 0) : Option ((List Int) × Int)) >>= fun z35 =>
  ((bZ .str (.ptr au) x19 o22.2.1).getD (fB (.ptr au))) >>= fun i38 =>
  (s.2.2.ai[i38]?) >>= fun o39 =>
  ((bZ .str (.ptr au) x19 o22.2.1).getD (fB (.ptr au))) >>= fun i40 =>
  (s.2.2.ai[i40]?) >>= fun o41 =>
  if (0 : Int) ≤ (IntKind.wrap .i64 (o41.2.1 + z35.2)) ∧ (IntKind.wrap .i64 (o41.2.1 + z35.2)) ≤ (o39.1.length : Int) then
  ((bZ .str (.ptr au) x19 o22.2.1).getD (fB (.ptr au))) >>= fun i43 =>
  (s.2.2.ai[i43]?) >>= fun o44 =>
  ((bZ .str (.ptr au) x19 o22.2.1).getD (fB (.ptr au))) >>= fun i45 =>
  ((s.2.2.aG i43 (o39.1.take (Int.toNat (IntKind.wrap .i64 (o41.2.1 + z35.2))), o44.2.1, ())).ai[i45]?) >>= fun o46 =>
  ((bZ .str (.ptr au) x19 o22.2.1).getD (fB (.ptr au))) >>= fun i47 =>
  ((s.2.2.aG i43 (o39.1.take (Int.toNat (IntKind.wrap .i64 (o41.2.1 + z35.2))), o44.2.1, ())).ai[i47]?) >>= fun o48 =>
  self (z35.1, (IntKind.wrap .i64 (s.2.1 + 1)), ((s.2.2.aG i43 (o39.1.take (Int.toNat (IntKind.wrap .i64 (o41.2.1 + z35.2))), o44.2.1, ())).aG i47 (o48.1, (o46.1.length : Int), ())))
  else none
  else
  some ((s.1, s.2.1, s.2.2))
theorem Zj (p0 : Option Nat) (r7 : List (List UInt8)) (self : (List Int) × (Int) × (St) → Option ((List Int) × Int × St)) (s : (List Int) × (Int) × (St)) : (Ol p0 r7 self s).map (fun r => r.2.2) = (kK p0 r7 s).bind (Sum.elim (fun y => (self y).map (fun r => r.2.2)) some) := by
  unfold Ol kK
  repeat' (first | rfl | refine bmd fun _ => ?_ | refine bmb fun _ => ?_ | refine itm Iff.rfl (fun _ => ?_) (fun _ => ?_))
theorem YK (p0 : Option Nat) (r7 : List (List UInt8)) (s : (List Int) × (Int) × (St)) : bC (kK p0 r7) s = (uh p0 r7 s.1 s.2.1 s.2.2).map (fun r => r.2.2) :=
  qI (g := fun s => uh p0 r7 s.1 s.2.1 s.2.2) (Ol p0 r7) (Zj p0 r7) (fun s => by show uh p0 r7 s.1 s.2.1 s.2.2 = _; rw [uh]; rfl)
    (fun M h s r => uh.partial_correctness p0 r7 (fun a0 a1 a2 r => M (a0, a1, a2) r) (fun self ih a0 a1 a2 r hx => h (fun s => self s.1 s.2.1 s.2.2) (fun s r hr => ih s.1 s.2.1 s.2.2 r hr) (a0, a1, a2) r hx) s.1 s.2.1 s.2.2 r) s
theorem eq_27 : kJ = f27 := by
  funext p0 p1 σ
  unfold kJ f27
  simp only [YK]
  split
  · rfl
  refine bbb fun r => ?_
  refine lY fun z => ?_
  cases p0 <;> rfl
theorem Bc : iO = f77 := by
  funext p x σ
  unfold iO f77
  rw [Dy]
  refine bbb fun r => ?_
  split
  · rfl
  · exact bbb fun i => bbd fun o => rfl
theorem eq_28 : oV = f28 := by
  funext a0 a1 a2
  unfold oV f28
  try simp only [eq_18, Dy, ER, eq_24, eq_27, Bc]
  rfl
theorem eq_31 : oU = f31 := by
  funext p σ
  unfold oU f31
  cases p <;> simp
theorem aci : jW = f78 := by
  funext c σ
  unfold jW f78
  cases h : σ.aF[c]? <;> simp [St.fE, St.aG]
theorem abn : eF = fun p x => f72 p (f78 x.1) := by
  funext p x σ
  unfold eF
  rw [aci]; rfl
theorem eq_33 : oW = f33 := by
  funext p x σ
  unfold oW f33
  simp only [Bc, abn]
  cases h : f77 p x σ <;> simp [St.iW, St.dW, St.dC]
theorem acj : iy = f79 := by
  funext c d σ
  unfold iy f79
  cases h : σ.aF[c]? with
  | none => simp
  | some o =>
    obtain ⟨q, _⟩ := o
    cases q with
    | none => simp
    | some i =>
      cases h2 : σ.ai[i]? with
      | none => simp [h2]
      | some f =>
        cases h3 : σ.gJ[d]? with
        | none => simp [h2]
        | some y => simp [h2, St.fE, St.aG]
theorem abo : dJ = fun p x => f72 p (f79 x.1 x.2.1) := by
  funext p x σ
  unfold dJ
  rw [acj]; rfl
theorem eq_35 : kL = f35 := by
  funext p x y σ
  unfold kL f35
  simp only [Bc, abo]
  show (f77 p x (σ.bU (y, ()))).bind _ = _
  cases h : f77 p x (σ.bU (y, ())) <;> simp [St.iW, St.dW, St.dC, St.xB, St.bU]
  split
  · by_cases h5 : y < 0
    · rw [if_neg (by omega), if_pos h5]
    · rw [if_pos (by omega), if_neg h5]
  · rfl
theorem ack : jc = f81 := by
  funext c d σ
  unfold jc f81
  refine bbb fun o => bbb fun i => ?_
  cases h : σ.af[i]? with
  | none => simp
  | some o3 => simp [St.bF, St.aQ]
theorem abp : dU = fun p x => f72 p (f81 x.1 x.2.1) := by
  funext p x σ
  unfold dU
  rw [ack]; rfl
theorem eq_37 : mi = f37 := by
  funext p x σ
  unfold mi f37
  simp only [Bc, abp, List.getElem?_concat_length, Option.bind_some]
  rfl
noncomputable def Ov (p0 : List UInt8) (self : (Int) → Option (Sum Int Bool)) (s : (Int)) : Option (Sum Int Bool) :=
  if (decide (s < (p0.length : Int))) = true then
  if (0 : Int) ≤ s ∧ s < (p0.length : Int) then
  if (decide ((btS p0 s) < 97)) = true then
  some (.inr false)
  else
  if (0 : Int) ≤ s ∧ s < (p0.length : Int) then
  if (decide ((btS p0 s) > 122)) = true then
  some (.inr false)
  else
  self (IntKind.wrap .i64 (s + 1))
  else none
  else none
  else
  some (.inl s)
theorem Zo (p0 : List UInt8) (self : (Int) → Option (Sum Int Bool)) (s : (Int)) : (Ov p0 self s).map (Sum.map (fun _ => ()) id) = (rZ p0 s).bind (Sum.elim (fun y => (self y).map (Sum.map (fun _ => ()) id)) some) := by
  unfold Ov rZ
  repeat' (first | rfl | refine bmd fun _ => ?_ | refine bmb fun _ => ?_ | refine itm Iff.rfl (fun _ => ?_) (fun _ => ?_))
  rename_i h1 h2
  by_cases h3 : btS p0 s < 97
  · simp [h3]
  · simp only [h3, decide_false, Bool.false_eq_true, if_false, Bool.not_false, h2, and_self, implies_true, if_true, Bool.false_or]
    repeat' (first | rfl | refine bmd fun _ => ?_ | refine bmb fun _ => ?_ | refine itm Iff.rfl (fun _ => ?_) (fun _ => ?_))
theorem YP (p0 : List UInt8) (s : (Int)) : bC (rZ p0) s = (ui p0 s).map (Sum.map (fun _ => ()) id) :=
  qI (g := fun s => ui p0 s) (Ov p0) (Zo p0) (fun s => by show ui p0 s = _; rw [ui]; rfl)
    (fun M h s r => ui.partial_correctness p0 (fun a0 r => M (a0) r) (fun self ih a0 r hx => h (fun s => self s) (fun s r hr => ih s r hr) (a0) r hx) s r) s
theorem JL : xR = f95 := by
  funext p0
  unfold xR f95
  rw [YP]
  cases ui p0 0 with
  | none => rfl
  | some x => cases x <;> rfl
noncomputable def Jh (p0 : List UInt8) (self : (Int) × (Int) → Option (Sum (Int × Int) Int)) (s : (Int) × (Int)) : Option (Sum (Int × Int) Int) :=
  if (decide (s.2 < (p0.length : Int))) = true then
  if (0 : Int) ≤ s.2 ∧ s.2 < (p0.length : Int) then
  if (decide ((btS p0 s.2) < 48)) = true then
  some (.inr (-1))
  else
  if (0 : Int) ≤ s.2 ∧ s.2 < (p0.length : Int) then
  if ((decide ((btS p0 s.2) > 57)) || (decide (s.1 > 1099511627776))) = true then
  some (.inr (-1))
  else
  if (0 : Int) ≤ s.2 ∧ s.2 < (p0.length : Int) then
  self ((IntKind.wrap .i64 ((IntKind.wrap .i64 (s.1 * 10)) + (IntKind.wrap .i64 (IntKind.wrap .u8 ((btS p0 s.2) - 48))))), (IntKind.wrap .i64 (s.2 + 1)))
  else none
  else none
  else none
  else
  some (.inl (s.1, s.2))
theorem WJ (p0 : List UInt8) (self : (Int) × (Int) → Option (Sum (Int × Int) Int)) (s : (Int) × (Int)) : (Jh p0 self s).map (Sum.map (fun r => r.1) id) = (qG p0 s).bind (Sum.elim (fun y => (self y).map (Sum.map (fun r => r.1) id)) some) := by
  unfold Jh qG
  repeat' (first | rfl | refine bmd fun _ => ?_ | refine bmb fun _ => ?_ | refine itm Iff.rfl (fun _ => ?_) (fun _ => ?_))
  rename_i h1 h2
  by_cases h3 : btS p0 s.2 < 48
  · simp [h3]
  · simp only [h3, decide_false, Bool.false_eq_true, if_false, Bool.not_false, h2, and_self, implies_true, if_true, Bool.false_or]
    repeat' (first | rfl | refine bmd fun _ => ?_ | refine bmb fun _ => ?_ | refine itm Iff.rfl (fun _ => ?_) (fun _ => ?_))
theorem Wh (p0 : List UInt8) (s : (Int) × (Int)) : bC (qG p0) s = (uD p0 s.1 s.2).map (Sum.map (fun r => r.1) id) :=
  qI (g := fun s => uD p0 s.1 s.2) (Jh p0) (WJ p0) (fun s => by show uD p0 s.1 s.2 = _; rw [uD]; rfl)
    (fun M h s r => uD.partial_correctness p0 (fun a0 a1 r => M (a0, a1) r) (fun self ih a0 a1 r hx => h (fun s => self s.1 s.2) (fun s r hr => ih s.1 s.2 r hr) (a0, a1) r hx) s.1 s.2 r) s
theorem Ba : su = f140 := by
  funext p0
  unfold su f140
  rw [Wh]
  refine lY fun x => ?_
  cases x with
  | inr y => rfl
  | inl y =>
    show (if _ then _ else _) = _
    cases h : p0 == [] with
    | true => simp
    | false => simp [ku]
theorem Dz : lL = f97 := by
  funext p σ
  unfold lL f97
  rcases p with _ | i
  · rfl
  cases h2 : σ.aj[i]? with
  | none => simp [h2]
  | some o => simp [h2]
theorem zU : iE = f55 := by
  funext p σ
  unfold iE f55
  rw [Dz]
  rcases p with _ | i
  · rfl
  cases h2 : σ.aj[i]? with
  | none => simp [h2]
  | some o =>
    simp only [Option.isNone_some, Bool.not_false, if_true, Option.bind_some, h2, Bool.false_or, Bool.false_eq_true, if_false]
    show _ = Option.bind (some i) fun i => Option.bind σ.aj[i]? fun o => _
    simp only [Option.bind_some, h2]
    split
    · rfl
    refine bbb fun r => ?_
    cases r with
    | none => rfl
    | some j => exact bbd fun _ => rfl
theorem Bd : gq = f98 := by
  funext a0 a1 a2
  unfold gq f98
  try simp only [eq_18, Dy, ER, eq_24, eq_27, Bc, eq_28, eq_31, eq_33, eq_35, eq_37, JL, Ba, Dz, zU]
  rfl
theorem Dx : jf = f61 := by
  funext p0 σ
  unfold jf f61
  simp only [Bd, eq_33, Dz, zU]
  rcases p0 with _ | i
  · rfl
  refine itb Iff.rfl (fun _ => rfl) fun _ => bbb fun r7 => ?_
  by_cases h : (!r7.isNone) = true
  · simp only [if_pos h]
    show (Option.bind (Option.bind (some i) _) _) = Option.bind (some i) _
    simp only [Option.bind_some, Option.bind_assoc]
    refine bbb fun o => bbb fun r12 => bbb fun r13 => ?_
    by_cases h2 : (r13.1 != 0) = true
    · simp only [if_pos h2]; rfl
    · simp only [if_neg h2]; rfl
  · simp only [if_neg h]; rfl
theorem JI : qi = f110 := by
  funext a0
  unfold qi f110
  try simp only [eq_18, Dy, ER, eq_24, eq_27, Bc, eq_28, eq_31, eq_33, eq_35, eq_37, JL, Ba, Dz, zU, Bd, Dx]
  rfl
noncomputable def Ji  (self : (Int) × (Int) → Option (Int × Int)) (s : (Int) × (Int)) : Option (Int × Int) :=
  if (decide (s.2 < 8)) = true then
  if ((IntKind.wrap .u32 ((BitVec.ofInt (IntKind.bits .u32) s.1 &&& BitVec.ofInt (IntKind.bits .u32) 1).toNat)) == 1) = true then
  self ((IntKind.wrap .u32 ((BitVec.ofInt (IntKind.bits .u32) (Int.fdiv s.1 (2 ^ 1)) ^^^ BitVec.ofInt (IntKind.bits .u32) 2197175160).toNat)), (IntKind.wrap .i64 (s.2 + 1)))
  else
  self ((Int.fdiv s.1 (2 ^ 1)), (IntKind.wrap .i64 (s.2 + 1)))
  else
  some ((s.1, s.2))
theorem WL  (self : (Int) × (Int) → Option (Int × Int)) (s : (Int) × (Int)) : (Ji  self s).map (fun r => r.1) = (mf s).bind (Sum.elim (fun y => (self y).map (fun r => r.1)) some) := by
  unfold Ji mf
  repeat' (first | rfl | refine bmd fun _ => ?_ | refine bmb fun _ => ?_ | refine itm Iff.rfl (fun _ => ?_) (fun _ => ?_))
theorem Wi  (s : (Int) × (Int)) : bC (mf) s = (oQ s.1 s.2).map (fun r => r.1) :=
  qI (g := fun s => oQ s.1 s.2) (Ji ) (WL ) (fun s => by show oQ s.1 s.2 = _; rw [oQ]; rfl)
    (fun M h s r => oQ.partial_correctness  (fun a0 a1 r => M (a0, a1) r) (fun self ih a0 a1 r hx => h (fun s => self s.1 s.2) (fun s r hr => ih s.1 s.2 r hr) (a0, a1) r hx) s.1 s.2 r) s
theorem Gx : qA = f151 := by
  funext p0 p1
  unfold qA f151
  rw [Wi]
  show Option.bind (Option.map _ (oQ (IntKind.wrap .u32 ((BitVec.ofInt (IntKind.bits .u32) p0 ^^^ BitVec.ofInt (IntKind.bits .u32) (IntKind.wrap .u32 (p1))).toNat)) 0)) _ = _
  cases oQ (IntKind.wrap .u32 ((BitVec.ofInt (IntKind.bits .u32) p0 ^^^ BitVec.ofInt (IntKind.bits .u32) (IntKind.wrap .u32 (p1))).toNat)) 0 <;> rfl
noncomputable def Jg (p1 : List UInt8) (self : (Int) × (Int) → Option (Int × Int)) (s : (Int) × (Int)) : Option (Int × Int) :=
  if (decide (s.2 < (p1.length : Int))) = true then
  if (0 : Int) ≤ s.2 ∧ s.2 < (p1.length : Int) then
  f151 s.1 (btS p1 s.2) >>= fun r16 =>
  self (r16, (IntKind.wrap .i64 (s.2 + 1)))
  else none
  else
  some ((s.1, s.2))
theorem WI (p1 : List UInt8) (self : (Int) × (Int) → Option (Int × Int)) (s : (Int) × (Int)) : (Jg p1 self s).map (fun r => r.1) = (qy p1 s).bind (Sum.elim (fun y => (self y).map (fun r => r.1)) some) := by
  unfold Jg qy
  rw [Gx]
  repeat' (first | rfl | refine bmd fun _ => ?_ | refine bmb fun _ => ?_ | refine itm Iff.rfl (fun _ => ?_) (fun _ => ?_))
theorem We (p1 : List UInt8) (s : (Int) × (Int)) : bC (qy p1) s = (uC p1 s.1 s.2).map (fun r => r.1) :=
  qI (g := fun s => uC p1 s.1 s.2) (Jg p1) (WI p1) (fun s => by show uC p1 s.1 s.2 = _; rw [uC]; rfl)
    (fun M h s r => uC.partial_correctness p1 (fun a0 a1 r => M (a0, a1) r) (fun self ih a0 a1 r hx => h (fun s => self s.1 s.2) (fun s r hr => ih s.1 s.2 r hr) (a0, a1) r hx) s.1 s.2 r) s
theorem JK : vT = f138 := by
  funext p0 p1
  unfold vT f138
  rw [We]
  exact lY fun _ => rfl
theorem OW : uJ = f111 := by
  funext a0
  unfold uJ f111
  try simp only [eq_18, Dy, ER, eq_24, eq_27, Bc, eq_28, eq_31, eq_33, eq_35, eq_37, JL, Ba, Dz, zU, Bd, Dx, JI, Gx, JK]
  rfl
theorem OV : vU = f108 := by
  funext a0
  unfold vU f108
  try simp only [eq_18, Dy, ER, eq_24, eq_27, Bc, eq_28, eq_31, eq_33, eq_35, eq_37, JL, Ba, Dz, zU, Bd, Dx, JI, Gx, JK, OW]
  rfl
noncomputable def Jf (p0 : List UInt8) (p1 : Int) (self : (Int) × (Int) → Option (Sum (Int × Int) (Int × Int × Int))) (s : (Int) × (Int)) : Option (Sum (Int × Int) (Int × Int × Int)) :=
  if (decide ((IntKind.wrap .i64 (p1 + s.2)) < (p0.length : Int))) = true then
  if (0 : Int) ≤ (IntKind.wrap .i64 (p1 + s.2)) ∧ (IntKind.wrap .i64 (p1 + s.2)) < (p0.length : Int) then
  if ((s.2 == 9) && (decide ((btS p0 (IntKind.wrap .i64 (p1 + s.2))) > 1))) = true then
  some (.inr (0, 0, 6))
  else
  if (0 : Int) ≤ (IntKind.wrap .i64 (7 * s.2)) then
  if (decide ((btS p0 (IntKind.wrap .i64 (p1 + s.2))) ≥ 128)) = true then
  self ((IntKind.wrap .u64 ((BitVec.ofInt (IntKind.bits .u64) s.1 ||| BitVec.ofInt (IntKind.bits .u64) (IntKind.wrap .u64 ((IntKind.wrap .u64 (IntKind.wrap .u8 ((BitVec.ofInt (IntKind.bits .u8) (btS p0 (IntKind.wrap .i64 (p1 + s.2))) &&& BitVec.ofInt (IntKind.bits .u8) 127).toNat))) * 2 ^ (min (Int.toNat (IntKind.wrap .i64 (7 * s.2))) (IntKind.bits .u64))))).toNat)), (IntKind.wrap .i64 (s.2 + 1)))
  else
  if (((btS p0 (IntKind.wrap .i64 (p1 + s.2))) == 0) && (decide (s.2 > 0))) = true then
  some (.inr (0, 0, 6))
  else
  (if ((IntKind.wrap .u64 ((BitVec.ofInt (IntKind.bits .u64) (IntKind.wrap .u64 ((BitVec.ofInt (IntKind.bits .u64) s.1 ||| BitVec.ofInt (IntKind.bits .u64) (IntKind.wrap .u64 ((IntKind.wrap .u64 (IntKind.wrap .u8 ((BitVec.ofInt (IntKind.bits .u8) (btS p0 (IntKind.wrap .i64 (p1 + s.2))) &&& BitVec.ofInt (IntKind.bits .u8) 127).toNat))) * 2 ^ (min (Int.toNat (IntKind.wrap .i64 (7 * s.2))) (IntKind.bits .u64))))).toNat)) &&& BitVec.ofInt (IntKind.bits .u64) 1).toNat)) == 1) = true then
  some (IntKind.wrap .i64 ((BitVec.ofInt (IntKind.bits .i64) (if IntKind.signed .i64 = true then -1 else IntKind.max .i64) ^^^ BitVec.ofInt (IntKind.bits .i64) (IntKind.wrap .i64 (Int.fdiv (IntKind.wrap .u64 ((BitVec.ofInt (IntKind.bits .u64) s.1 ||| BitVec.ofInt (IntKind.bits .u64) (IntKind.wrap .u64 ((IntKind.wrap .u64 (IntKind.wrap .u8 ((BitVec.ofInt (IntKind.bits .u8) (btS p0 (IntKind.wrap .i64 (p1 + s.2))) &&& BitVec.ofInt (IntKind.bits .u8) 127).toNat))) * 2 ^ (min (Int.toNat (IntKind.wrap .i64 (7 * s.2))) (IntKind.bits .u64))))).toNat)) (2 ^ 1)))).toNat))
  else
  some (IntKind.wrap .i64 (Int.fdiv (IntKind.wrap .u64 ((BitVec.ofInt (IntKind.bits .u64) s.1 ||| BitVec.ofInt (IntKind.bits .u64) (IntKind.wrap .u64 ((IntKind.wrap .u64 (IntKind.wrap .u8 ((BitVec.ofInt (IntKind.bits .u8) (btS p0 (IntKind.wrap .i64 (p1 + s.2))) &&& BitVec.ofInt (IntKind.bits .u8) 127).toNat))) * 2 ^ (min (Int.toNat (IntKind.wrap .i64 (7 * s.2))) (IntKind.bits .u64))))).toNat)) (2 ^ 1))) : Option Int) >>= fun z33 =>
  some (.inr (z33, IntKind.wrap .i64 ((IntKind.wrap .i64 (p1 + s.2)) + 1), 0))
  else none
  else none
  else
  some (.inl (s.1, s.2))
theorem WH (p0 : List UInt8) (p1 : Int) (self : (Int) × (Int) → Option (Sum (Int × Int) (Int × Int × Int))) (s : (Int) × (Int)) : (Jf p0 p1 self s).map (Sum.map (fun _ => ()) id) = (jL p0 p1 s).bind (Sum.elim (fun y => (self y).map (Sum.map (fun _ => ()) id)) some) := by
  unfold Jf jL
  repeat' (first | rfl | refine bmd fun _ => ?_ | refine bmb fun _ => ?_ | refine itm Iff.rfl (fun _ => ?_) (fun _ => ?_))
theorem V9 (p0 : List UInt8) (p1 : Int) (s : (Int) × (Int)) : bC (jL p0 p1) s = (nP p0 p1 s.1 s.2).map (Sum.map (fun _ => ()) id) :=
  qI (g := fun s => nP p0 p1 s.1 s.2) (Jf p0 p1) (WH p0 p1) (fun s => by show nP p0 p1 s.1 s.2 = _; rw [nP]; rfl)
    (fun M h s r => nP.partial_correctness p0 p1 (fun a0 a1 r => M (a0, a1) r) (fun self ih a0 a1 r hx => h (fun s => self s.1 s.2) (fun s r hr => ih s.1 s.2 r hr) (a0, a1) r hx) s.1 s.2 r) s
theorem JJ : eQ = f113 := by
  funext p0 p1
  unfold eQ f113
  simp only [V9]
  split
  · rfl
  refine lY fun x => ?_
  cases x <;> rfl
noncomputable def Ou  (self : (Int) × (jw.den) × (Int) → Option (jw.den × Int × Int)) (s : (Int) × (jw.den) × (Int)) : Option (jw.den × Int × Int) :=
  if (decide (s.1 ≥ 128)) = true then
  if (0 : Int) ≤ s.2.2 ∧ s.2.2 < (10 : Nat) then
  self ((Int.fdiv s.1 (2 ^ 7)), (xA jw s.2.1 (Int.toNat s.2.2) (IntKind.wrap .u8 ((BitVec.ofInt (IntKind.bits .u8) (IntKind.wrap .u8 (s.1)) ||| BitVec.ofInt (IntKind.bits .u8) 128).toNat))), (IntKind.wrap .i64 (s.2.2 + 1)))
  else none
  else
  some ((s.2.1, s.1, s.2.2))
theorem Zn  (self : (Int) × (jw.den) × (Int) → Option (jw.den × Int × Int)) (s : (Int) × (jw.den) × (Int)) : (Ou  self s).map (fun r => (r.2.1, r.1, r.2.2)) = (mD s).bind (Sum.elim (fun y => (self y).map (fun r => (r.2.1, r.1, r.2.2))) some) := by
  unfold Ou mD
  repeat' (first | rfl | refine bmd fun _ => ?_ | refine bmb fun _ => ?_ | refine itm Iff.rfl (fun _ => ?_) (fun _ => ?_))
theorem YO  (s : (Int) × (jw.den) × (Int)) : bC (mD) s = (zA s.2.1 s.1 s.2.2).map (fun r => (r.2.1, r.1, r.2.2)) :=
  qI (g := fun s => zA s.2.1 s.1 s.2.2) (Ou ) (Zn ) (fun s => by show zA s.2.1 s.1 s.2.2 = _; rw [zA]; rfl)
    (fun M h s r => zA.partial_correctness  (fun a0 a1 a2 r => M (a1, a0, a2) r) (fun self ih a0 a1 a2 r hx => h (fun s => self s.2.1 s.1 s.2.2) (fun s r hr => ih s.2.1 s.1 s.2.2 r hr) (a1, a0, a2) r hx) s.2.1 s.1 s.2.2 r) s
theorem Qw : dV = f90 := by
  funext p0
  unfold dV f90
  refine bbb fun z => ?_
  rw [YO]
  refine lY fun z => ?_
  refine itb Iff.rfl (fun h => ?_) (fun _ => rfl)
  refine itb Iff.rfl (fun h2 => ?_) (fun _ => rfl)
  rw [if_pos (by obtain ⟨h3, h4⟩ := h2; omega)]
  rfl
theorem UL : Cf = f94 := by
  funext p0 p1 p2
  unfold Cf f94
  simp only [JJ, OV, Qw]
  refine bbb fun r3 => itb Iff.rfl (fun _ => rfl) fun _ => itb Iff.rfl (fun _ => ?_) (fun _ => rfl)
  refine bbb fun r9 => itb Iff.rfl (fun _ => rfl) fun _ => bbb fun r14 => ?_
  by_cases h : (r9.1.length : Int) < (r14.length : Int)
  · simp [h]
  · have h1 : (r14.length : Int) ≤ (r9.1.length : Int) := by omega
    simp [h, h1]
noncomputable def Om (p0 : List UInt8) (p1 : Int) (self : (List (List UInt8)) × (Int) → Option ((List (List UInt8)) × Int)) (s : (List (List UInt8)) × (Int)) : Option ((List (List UInt8)) × Int) :=
  if (decide (p1 ≥ 0)) = true then
  f94 p0 s.2 (IntKind.wrap .i64 (p1 + (s.1.length : Int))) >>= fun r16 =>
  if (!r16.2.2) = true then
  some ((s.1, s.2))
  else
  if (s.1.length + 1) * 16 ≤ 140737488355328 then
  self ((s.1 ++ [r16.1]), r16.2.1)
  else none
  else
  some ((s.1, s.2))
theorem Zk (p0 : List UInt8) (p1 : Int) (self : (List (List UInt8)) × (Int) → Option ((List (List UInt8)) × Int)) (s : (List (List UInt8)) × (Int)) : (Om p0 p1 self s).map (fun r => r) = (rW p0 p1 s).bind (Sum.elim (fun y => (self y).map (fun r => r)) some) := by
  unfold Om rW
  rw [UL]
  repeat' (first | rfl | refine bmd fun _ => ?_ | refine bmb fun _ => ?_ | refine itm Iff.rfl (fun _ => ?_) (fun _ => ?_))
theorem YL (p0 : List UInt8) (p1 : Int) (s : (List (List UInt8)) × (Int)) : bC (rW p0 p1) s = (yt p0 p1 s.1 s.2).map (fun r => r) :=
  qI (g := fun s => yt p0 p1 s.1 s.2) (Om p0 p1) (Zk p0 p1) (fun s => by show yt p0 p1 s.1 s.2 = _; rw [yt]; rfl)
    (fun M h s r => yt.partial_correctness p0 p1 (fun a0 a1 r => M (a0, a1) r) (fun self ih a0 a1 r hx => h (fun s => self s.1 s.2) (fun s r hr => ih s.1 s.2 r hr) (a0, a1) r hx) s.1 s.2 r) s
theorem UJ : xQ = f49 := by
  funext p0 p1
  unfold xQ f49
  rw [YL]
  exact lY fun _ => rfl
theorem OX : rV = f115 := by
  funext p0 p1 σ
  unfold rV f115
  simp only [Bd, eq_28, UJ]
  cases p0 <;> simp [St.aX, St.ay, St.ax]
noncomputable def Ox (p0 : Option Nat) (r3 : List Int) (self : (Int) × (Int) × (Int) × (St) → Option (Sum (Int × Int × Int × St) (Int × St))) (s : (Int) × (Int) × (Int) × (St)) : Option (Sum (Int × Int × Int × St) (Int × St)) :=
  if (decide (s.2.2.1 < (r3.length : Int))) = true then
  (ix r3 s.2.2.1) >>= fun x19 =>
  if (decide (s.2.2.1 > 0)) = true then
  if (decide (s.1 > 0)) = true then
  some (.inl (s.1, s.2.1, s.2.2.1, s.2.2.2))
  else
  f55 p0 s.2.2.2 >>= fun r22 =>
  if (x19 != r22) = true then
  some (.inl (s.1, s.2.1, s.2.2.1, s.2.2.2))
  else
  f115 p0 x19 s.2.2.2 >>= fun r24 =>
  if (r24.1.2.2 != 0) = true then
  some (.inr (r24.1.2.2, r24.2))
  else
  p0 >>= fun i29 =>
  (r24.2.aj[i29]?) >>= fun o30 =>
  if (o30.2.2.2.1.length + 1) * 8 ≤ 140737488355328 then
  self (r24.1.2.1, (IntKind.wrap .i64 (s.2.2.1 + 1)), (IntKind.wrap .i64 (s.2.2.1 + 1)), (r24.2.aZ i29 (o30.1, o30.2.1, o30.2.2.1, o30.2.2.2.1 ++ [r24.1.1], o30.2.2.2.2.1, ())))
  else none
  else
  f115 p0 x19 s.2.2.2 >>= fun r35 =>
  if (r35.1.2.2 != 0) = true then
  some (.inr (r35.1.2.2, r35.2))
  else
  p0 >>= fun i40 =>
  (r35.2.aj[i40]?) >>= fun o41 =>
  if (o41.2.2.2.1.length + 1) * 8 ≤ 140737488355328 then
  self (r35.1.2.1, (IntKind.wrap .i64 (s.2.2.1 + 1)), (IntKind.wrap .i64 (s.2.2.1 + 1)), (r35.2.aZ i40 (o41.1, o41.2.1, o41.2.2.1, o41.2.2.2.1 ++ [r35.1.1], o41.2.2.2.2.1, ())))
  else none
  else
  some (.inl (s.1, s.2.1, s.2.2.1, s.2.2.2))
theorem Zp (p0 : Option Nat) (r3 : List Int) (self : (Int) × (Int) × (Int) × (St) → Option (Sum (Int × Int × Int × St) (Int × St))) (s : (Int) × (Int) × (Int) × (St)) : (Ox p0 r3 self s).map (Sum.map (fun r => (r.1, r.2.1, r.2.2.2)) id) = (kR p0 r3 s).bind (Sum.elim (fun y => (self y).map (Sum.map (fun r => (r.1, r.2.1, r.2.2.2)) id)) some) := by
  unfold Ox kR
  simp only [zU, OX]
  refine itm Iff.rfl (fun _ => ?_) (fun _ => rfl)
  refine bmb fun x => ?_
  have tail : ∀ r : ((Option Nat) × Int × Int) × St, Option.map (Sum.map (fun r : Int × Int × Int × St => (r.1, r.2.1, r.2.2.2)) id) (if (r.1.2.2 != 0) = true then some (.inr (r.1.2.2, r.2)) else p0 >>= fun i29 => (r.2.aj[i29]?) >>= fun o30 => if (o30.2.2.2.1.length + 1) * 8 ≤ 140737488355328 then self (r.1.2.1, (IntKind.wrap .i64 (s.2.2.1 + 1)), (IntKind.wrap .i64 (s.2.2.1 + 1)), (r.2.aZ i29 (o30.1, o30.2.1, o30.2.2.1, o30.2.2.2.1 ++ [r.1.1], o30.2.2.2.2.1, ()))) else none) =
      Option.bind (if (r.1.2.2 != 0) = true then some (.inr (.inr (r.1.2.2, r.2))) else Option.bind p0 fun x5 => Option.bind r.2.aj[x5]? fun x6 => if ((x6.2.2.2.1.length + 1) * 8) ≤ 140737488355328 then Option.bind p0 fun x7 => Option.bind r.2.aj[x7]? fun x8 => if x5 = x7 ∧ true = true then some (.inl (r.1.2.1, (IntKind.wrap .i64 (s.2.2.1 + 1), (IntKind.wrap .i64 (s.2.2.1 + 1), (r.2.oN (r.2.aj.set x7 (x8.1, (x8.2.1, (x8.2.2.1, ((x6.2.2.2.1 ++ [r.1.1]), x8.2.2.2.2)))))))))) else none else none) (Sum.elim (fun y => (self y).map (Sum.map (fun r : Int × Int × Int × St => (r.1, r.2.1, r.2.2.2)) id)) some) := by
    intro r
    refine itm Iff.rfl (fun _ => rfl) (fun _ => ?_)
    rcases p0 with _ | i
    · rfl
    show Option.map _ (Option.bind (some i) _) = Option.bind (Option.bind (some i) _) _
    simp only [Option.bind_some]
    cases h : r.2.aj[i]? with
    | none => rfl
    | some o =>
      show Option.map _ (ite _ _ _) = Option.bind (ite _ _ _) _
      refine itm Iff.rfl (fun _ => ?_) (fun _ => rfl)
      simp only [and_self, if_true]; rfl
  by_cases h9 : s.2.2.1 > 0
  · by_cases h7 : s.1 > 0
    · simp [h9, h7]
    · simp only [h9, h7, decide_true, decide_false, if_true, Bool.not_false, Bool.and_self, Bool.false_eq_true, if_false, Bool.false_or, Bool.true_and]
      refine bmb fun r22 => itm Iff.rfl (fun _ => rfl) fun _ => ?_
      exact bmb fun r => by have t := tail r; simp only [and_true] at t ⊢; exact t
  · simp only [h9, decide_false, Bool.false_eq_true, if_false, Bool.false_and]
    show Option.map _ (Option.bind _ _) = Option.bind (Option.bind (some 0) _) _
    rw [Option.bind_some]
    exact bmb fun r => by have t := tail r; simp only [and_true] at t ⊢; exact t
theorem YQ (p0 : Option Nat) (r3 : List Int) (s : (Int) × (Int) × (Int) × (St)) : bC (kR p0 r3) s = (pV p0 r3 s.1 s.2.1 s.2.2.1 s.2.2.2).map (Sum.map (fun r => (r.1, r.2.1, r.2.2.2)) id) :=
  qI (g := fun s => pV p0 r3 s.1 s.2.1 s.2.2.1 s.2.2.2) (Ox p0 r3) (Zp p0 r3) (fun s => by show pV p0 r3 s.1 s.2.1 s.2.2.1 s.2.2.2 = _; rw [pV]; rfl)
    (fun M h s r => pV.partial_correctness p0 r3 (fun a0 a1 a2 a3 r => M (a0, a1, a2, a3) r) (fun self ih a0 a1 a2 a3 r hx => h (fun s => self s.1 s.2.1 s.2.2.1 s.2.2.2) (fun s r hr => ih s.1 s.2.1 s.2.2.1 s.2.2.2 r hr) (a0, a1, a2, a3) r hx) s.1 s.2.1 s.2.2.1 s.2.2.2 r) s
noncomputable def Oy (p0 : Option Nat) (r3 : List Int) (z45 : Int × Int × Int × St) (o49 : az dh) (self : (Int) × (St) → Option (Sum (Int × St) (Int × St))) (s : (Int) × (St)) : Option (Sum (Int × St) (Int × St)) :=
  if (decide (s.1 ≥ z45.2.1)) = true then
  (ix r3 s.1) >>= fun x62 =>
  f98 p0 (some s.2.ae.length) (s.2.ay (x62, [], 0, ())) >>= fun r63 =>
  f37 o49.1 r63 (s.2.ay (x62, [], 0, ())) >>= fun r64 =>
  if (r64.1 != 0) = true then
  some (.inr (r64.1, r64.2))
  else
  self ((IntKind.wrap .i64 (s.1 - 1)), r64.2)
  else
  some (.inl (s.1, s.2))
theorem Zq (p0 : Option Nat) (r3 : List Int) (z45 : Int × Int × Int × St) (o49 : az dh) (self : (Int) × (St) → Option (Sum (Int × St) (Int × St))) (s : (Int) × (St)) : (Oy p0 r3 z45 o49 self s).map (Sum.map (fun r => r.2) id) = (jg p0 r3 (z45.1, z45.2.1, z45.2.2.2) o49 s).bind (Sum.elim (fun y => (self y).map (Sum.map (fun r => r.2) id)) some) := by
  unfold Oy jg
  simp only [Bd, eq_37]
  repeat' (first | rfl | refine bmd fun _ => ?_ | refine bmb fun _ => ?_ | refine itm Iff.rfl (fun _ => ?_) (fun _ => ?_))
theorem YR (p0 : Option Nat) (r3 : List Int) (z45 : Int × Int × Int × St) (o49 : az dh) (s : (Int) × (St)) : bC (jg p0 r3 (z45.1, z45.2.1, z45.2.2.2) o49) s = (zB p0 r3 z45 o49 s.1 s.2).map (Sum.map (fun r => r.2) id) :=
  qI (g := fun s => zB p0 r3 z45 o49 s.1 s.2) (Oy p0 r3 z45 o49) (Zq p0 r3 z45 o49) (fun s => by show zB p0 r3 z45 o49 s.1 s.2 = _; rw [zB]; rfl)
    (fun M h s r => zB.partial_correctness p0 r3 z45 o49 (fun a0 a1 r => M (a0, a1) r) (fun self ih a0 a1 r hx => h (fun s => self s.1 s.2) (fun s r hr => ih s.1 s.2 r hr) (a0, a1) r hx) s.1 s.2 r) s
theorem X0 : nU = f96 := by
  funext p0 σ
  unfold nU f96
  simp only [YQ]
  refine bbb fun r3 => ?_
  refine lY fun x => ?_
  cases x with
  | inr y => rfl
  | inl z =>
    rcases p0 with _ | i
    · rfl
    refine bbb fun o => ?_
    show Option.bind (bC (jg (some i) r3 (z.1, z.2.1, z.2.2.2) o) (_, _)) _ = _
    rw [YR]
    refine lY fun x => ?_
    cases x with
    | inr y => rfl
    | inl y =>
      refine itb Iff.rfl (fun _ => rfl) fun _ => ?_
      show Option.bind (some i) _ = Option.bind (some i) _
      simp only [Option.bind_some]
      cases h : y.2.aj[i]? with
      | none => rfl
      | some q =>
        show Option.bind (ix q.2.2.2.1 _) _ = Option.bind (ix q.2.2.2.1 _) _
        refine bbb fun x75 => itb Iff.rfl (fun _ => ?_) (fun _ => ?_)
        · show Option.bind (gq _ _ _) _ = _
          simp only [Bd, eq_35, Dx]
          rfl
        · simp only [Dx]; rfl
theorem XY : zC = f53 := by
  funext a0 a1 a2 a3
  unfold zC f53
  try simp only [eq_18, Dy, ER, eq_24, eq_27, Bc, eq_28, eq_31, eq_33, eq_35, eq_37, JL, Ba, Dz, zU, Bd, Dx, JI, Gx, JK, OW, OV, JJ, Qw, UL, UJ, OX, X0]
  rfl
theorem UK : kG = f54 := by
  funext p σ
  unfold kG f54
  rcases p with _ | i
  · rfl
  cases h2 : σ.aj[i]? with
  | none => simp [h2]
  | some o => simp [h2]
noncomputable def Oo (p0 : Option Nat) (p1 : Int) (σ : St) (self : (Int) → Option (Int)) (s : (Int)) : Option (Int) :=
  p0 >>= fun i22 =>
  (σ.aj[i22]?) >>= fun o23 =>
  (ix o23.2.2.2.1 s) >>= fun x24 =>
  x24 >>= fun i25 =>
  (σ.ae[i25]?) >>= fun o26 =>
  if (decide (o26.1 > p1)) = true then
  self (IntKind.wrap .i64 (s - 1))
  else
  some (s)
theorem Zl (p0 : Option Nat) (p1 : Int) (σ : St) (self : (Int) → Option (Int)) (s : (Int)) : (Oo p0 p1 σ self s).map (fun r => r) = (nT p0 p1 σ s).bind (Sum.elim (fun y => (self y).map (fun r => r)) some) := by
  unfold Oo nT
  repeat' (first | rfl | refine bmd fun _ => ?_ | refine bmb fun _ => ?_ | refine itm Iff.rfl (fun _ => ?_) (fun _ => ?_))
theorem YM (p0 : Option Nat) (p1 : Int) (σ : St) (s : (Int)) : bC (nT p0 p1 σ) s = (yu p0 p1 σ s).map (fun r => r) :=
  qI (g := fun s => yu p0 p1 σ s) (Oo p0 p1 σ) (Zl p0 p1 σ) (fun s => by show yu p0 p1 σ s = _; rw [yu]; rfl)
    (fun M h s r => yu.partial_correctness p0 p1 σ (fun a0 r => M (a0) r) (fun self ih a0 r hx => h (fun s => self s) (fun s r hr => ih s r hr) (a0) r hx) s r) s
theorem XZ : rU = f58 := by
  funext p0 p1 σ
  unfold rU f58
  simp only [UK, zU, YM, Option.map_id']
  split
  · rfl
  refine bbb fun r6 => ?_
  split
  · rfl
  refine bbb fun r9 => ?_
  split
  · rfl
  refine bbb fun i => bbb fun o => bbb fun z => ?_
  rcases p0 with _ | j
  · rfl
  cases h : σ.aj[j]? with
  | none => simp [h]
  | some q => simp [h]
theorem acm : vV = f89 := by
  funext a0
  unfold vV f89
  try simp only [eq_18, Dy, ER, eq_24, eq_27, Bc, eq_28, eq_31, eq_33, eq_35, eq_37, JL, Ba, Dz, zU, Bd, Dx, JI, Gx, JK, OW, OV, JJ, Qw, UL, UJ, OX, X0, XY, UK, XZ]
  rfl
theorem acn : sD = f99 := by
  funext a0 a1
  unfold sD f99
  try simp only [eq_18, Dy, ER, eq_24, eq_27, Bc, eq_28, eq_31, eq_33, eq_35, eq_37, JL, Ba, Dz, zU, Bd, Dx, JI, Gx, JK, OW, OV, JJ, Qw, UL, UJ, OX, X0, XY, UK, XZ, acm]
  rfl
theorem ach : pq = f59 := by
  funext p0 p1 σ
  unfold pq f59
  simp only [zU, Dz, Dx, acn, Bd, eq_24]
  rcases p0 with _ | i
  · rfl
  refine itb Iff.rfl (fun _ => rfl) fun _ => itb Iff.rfl (fun _ => rfl) fun _ => bbb fun r8 => bbb fun r10 => ?_
  cases r10 with
  | none =>
    simp only [Option.isNone_none, Bool.not_true, Bool.false_eq_true, if_false, if_true, Option.bind_assoc]
    refine bbb fun r17 => ?_
    by_cases h : (r17.1 != 0) = true
    · simp only [if_pos h]; rfl
    · simp only [if_neg h, Option.bind_some, ku]
      refine bbb fun r21 => ?_
      show Option.bind ((r17.2.aX (r17.2.ae ++ [(r8, [], 0, ())])).aj[i]?) _ = Option.bind ((r17.2.aX (r17.2.ae ++ [(r8, [], 0, ())])).aj[i]?) _
      refine bbb fun o25 => bbb fun r26 => bbb fun r27 => itb Iff.rfl (fun _ => rfl) fun _ => ?_
      cases h2 : r27.2.ae[r17.2.ae.length]? with
      | none => rfl
      | some o31 =>
        have h3 : r17.2.ae.length < r27.2.ae.length := (List.getElem?_eq_some_iff.1 h2).1
        simp only [Option.bind_some]
        refine itb Iff.rfl (fun _ => ?_) (fun _ => rfl)
        simp only [and_self, if_true, List.getElem?_set_self h3, Option.bind_some]
        show Option.bind r27.2.aj[i]? _ = Option.bind r27.2.aj[i]? _
        cases h4 : r27.2.aj[i]? with
        | none => rfl
        | some o38 =>
          simp only [Option.bind_some]
          refine itb Iff.rfl (fun _ => ?_) (fun _ => rfl)
          rfl
  | some j =>
    simp only [Option.isNone_some, Bool.not_false, Bool.false_eq_true, if_false, if_true, Option.bind_some]
    refine (bbb fun o45 => ?_ : Option.bind σ.ae[j]? _ = Option.bind σ.ae[j]? _)
    show Option.bind σ.aj[i]? _ = Option.bind σ.aj[i]? _
    cases h0 : σ.aj[i]? with
    | none => rfl
    | some o47 =>
    simp only [Option.bind_some]
    show _ = (if _ then _ else _)
    by_cases hd : decide (o45.2.2.1 ≥ o47.2.2.1) = true
    · simp only [if_pos hd, Option.bind_assoc]
      refine bbb fun r52 => ?_
      by_cases h : (r52.1 != 0) = true
      · simp only [if_pos h]; rfl
      · simp only [if_neg h, Option.bind_some, ku]
        refine bbb fun r21 => ?_
        refine bbb fun o25 => bbb fun r26 => bbb fun r27 => itb Iff.rfl (fun _ => rfl) fun _ => ?_
        cases h2 : r27.2.ae[r52.2.ae.length]? with
        | none => rfl
        | some o31 =>
          have h3 : r52.2.ae.length < r27.2.ae.length := (List.getElem?_eq_some_iff.1 h2).1
          simp only [Option.bind_some]
          refine itb Iff.rfl (fun _ => ?_) (fun _ => rfl)
          simp only [and_self, if_true, List.getElem?_set_self h3, Option.bind_some]
          show Option.bind r27.2.aj[i]? _ = Option.bind (Option.bind r27.2.aj[i]? _) _
          cases h4 : r27.2.aj[i]? with
          | none => rfl
          | some o38 =>
            simp only [Option.bind_some]
            show (if _ then _ else _) = Option.bind (if _ then _ else _) _
            split <;> rfl
    · simp only [if_neg hd, Option.bind_some, ku]
      refine bbb fun r81 => ?_
      rw [h0]
      simp only [Option.bind_some]
      refine bbb fun r26 => bbb fun r27 => itb Iff.rfl (fun _ => rfl) fun _ => ?_
      cases h2 : r27.2.ae[j]? with
      | none => rfl
      | some o31 =>
        have h3 : j < r27.2.ae.length := (List.getElem?_eq_some_iff.1 h2).1
        simp only [Option.bind_some]
        refine itb Iff.rfl (fun _ => ?_) (fun _ => rfl)
        simp only [and_self, if_true, List.getElem?_set_self h3, Option.bind_some]
        rfl
end Go.Proofs.YtbnmhjobnepajaaGreat.M


namespace Go.Proofs.YtbnmhjobnepajaaGreat.M

theorem aO {x : Int} (h1 : -9223372036854775808 ≤ x) (h2 : x < 9223372036854775808) : IntKind.wrap .i64 x = x := by
  rw [IntKind.wrap_i64]; omega

noncomputable def okc (c : UInt8) : Bool := (97 ≤ c.toNat && c.toNat ≤ 122) || (48 ≤ c.toNat && c.toNat ≤ 57) || c.toNat == 46 || c.toNat == 45 || c.toNat == 95

noncomputable def G6 (s : List UInt8) : Bool := s.all okc && (0 < s.length && s.length ≤ 24)

theorem AU {s : List UInt8} {n : Nat} (h : n < s.length) : btS s (n : Int) = (s[n].toNat : Int) := by
  simp [btS, h]

theorem QG (s : List UInt8) (hs : s.length < 9223372036854775808) : ∀ (k n : Nat), n + k = s.length → wS s (n : Int) = some (cond ((s.drop n).all okc) (.inl (s.length : Int)) (.inr false))
  | 0, n, h => by
    rw [wS]
    have : n = s.length := by omega
    subst this
    simp
  | k + 1, n, h => by
    rw [wS]
    have hn : n < s.length := by omega
    have ih := QG s hs k (n + 1) (by omega)
    have hw : IntKind.wrap .i64 ((n : Int) + 1) = ((n + 1 : Nat) : Int) := by rw [aO (by omega) (by omega)]; omega
    rw [AU hn, hw, ih]
    have hd : s.drop n = s[n] :: s.drop (n + 1) := by simp
    rw [hd]
    simp only [List.all_cons]
    have h1 : ((n : Int) < (s.length : Int)) := by omega
    have h0 : (0 : Int) ≤ (n : Int) := by omega
    simp only [h1, h0, decide_true, if_true, and_self]
    by_cases hc : okc s[n] = true
    · have : ((((((decide ((s[n].toNat : Int) < 97)) || (decide ((s[n].toNat : Int) > 122))) && ((decide ((s[n].toNat : Int) < 48)) || (decide ((s[n].toNat : Int) > 57)))) && ((s[n].toNat : Int) != 46)) && ((s[n].toNat : Int) != 45)) && ((s[n].toNat : Int) != 95)) = false := by
        unfold okc at hc
        simp only [Bool.or_eq_true, Bool.and_eq_true, decide_eq_true_eq, beq_iff_eq] at hc
        rw [Bool.eq_false_iff]
        simp only [ne_eq, Bool.and_eq_true, Bool.or_eq_true, decide_eq_true_eq, bne_iff_ne]
        omega
      rw [this, hc]
      simp
    · have : ((((((decide ((s[n].toNat : Int) < 97)) || (decide ((s[n].toNat : Int) > 122))) && ((decide ((s[n].toNat : Int) < 48)) || (decide ((s[n].toNat : Int) > 57)))) && ((s[n].toNat : Int) != 46)) && ((s[n].toNat : Int) != 45)) && ((s[n].toNat : Int) != 95)) = true := by
        unfold okc at hc
        simp only [Bool.or_eq_true, Bool.and_eq_true, decide_eq_true_eq, beq_iff_eq] at hc
        simp only [Bool.and_eq_true, Bool.or_eq_true, decide_eq_true_eq, bne_iff_ne]
        omega
      rw [this]
      simp only [Bool.not_eq_true] at hc
      rw [hc]
      simp

theorem abE (s : List UInt8) (hs : s.length < 9223372036854775808) : f71 s = some (G6 s) := by
  unfold f71
  rw [show (0 : Int) = ((0 : Nat) : Int) from rfl, QG s hs s.length 0 (by omega)]
  simp only [List.drop_zero]
  unfold G6
  by_cases h : s.all okc = true
  · rw [h]; simp
    congr 1
    exact decide_eq_decide.2 (by omega)
  · simp only [Bool.not_eq_true] at h
    rw [h]; simp
theorem oC {α : Type} {l : List α} {n : Nat} (h : n < l.length) : ix l (n : Int) = some l[n] := by
  simp [ix, h]

end Go.Proofs.YtbnmhjobnepajaaGreat.M

