/- Own texts, laid together: PH HU HL PN HF HD PT0 PT1 PT2 CP. -/
import Derived.KernelRfl
import Derived.Shelf.Slices.In.SortNone
import Derived.Shelf.Sort.Plain
import Derived.Sort.KeysCollected
import Derived.Test.YtbnmhjobnepajaaGreatProg
import Derived.Test.YtbnmhjobnepajaaGreatZ1
import Derived.Test.YtbnmhjobnepajaaGreatZ2
import Derived.Test.YtbnmhjobnepajaaGreatZ3
set_option linter.unusedVariables false
set_option linter.unusedSimpArgs false
set_option maxRecDepth 100000
namespace Go.Proofs.YtbnmhjobnepajaaGreat.M
open Go.Proofs
abbrev Qr : Nat := 100023
abbrev VS : Nat := 100027
abbrev UG : Nat := 100003
abbrev UH : Nat := 100009
abbrev Gw : Nat := 100091
abbrev jm : Nat := 126
abbrev di : Nat := 67
abbrev ax : Nat := 93
abbrev bu : Nat := 69
abbrev jo : Nat := 48
abbrev jH : Nat := 77
abbrev mF : Nat := 82
abbrev jQ : Kd := .pair (.int .u8) (.pair (.int .u8) (.pair (.int .u8) (.pair (.int .u8) (.pair (.int .u8) (.pair (.int .u8) (.pair (.int .u8) (.pair (.int .u8) (.pair (.int .u8) (.pair (.int .u8) (.unit))))))))))
abbrev eY : Kd := .pair .i (.pair .i (.pair .str (.pair .i (.pair (.list .i) (.pair .i (.unit))))))
abbrev KX : Kd := .pair .str (.pair .i (.pair .i (.unit)))
abbrev aI : Kd := .pair .i (.pair .i (.unit))
abbrev RH : Kd := .pair .str (.pair .i (.unit))
abbrev bD : Kd := .pair .i (.pair .i (.pair eY (.pair (.list aI) (.pair (.list .i) (.unit)))))
abbrev CY : Kd := .pair .i (.pair (.list eY) (.pair (.list aI) (.unit)))
abbrev lC : List Fk := [.p .i, .p (.list eY), .p (.list aI)]
abbrev dN : List Fk := [.p .i, .omap .str (.ptr ax), .p .i, .p .bool]
abbrev vN : List Fk := [.p .i, .p (.ptr jH), .own 33 72 eY, .own 58 16 aI]
abbrev dh : List Fk := [.p (.ptr di), .p .str, .p .i, .own 78 8 (.ptr mF), .p .i]
abbrev dP : List Fk := [.p .i, .own 9 16 .str, .p .i]
abbrev eP : List Fk := [.p .str, .p .i]
abbrev jT : List Fk := [.p .str, .p .i, .p .i]
abbrev G9 : List Fk := [.p .i]
abbrev Kw : List Fk := [.p .str]
abbrev G8 : List Fk := [.p (.ptr di)]
abbrev MJ : List Fk := [.p (.ptr bu)]
abbrev yI : List Fk := [.p (.ptr ax)]
structure St where
  ak : List (aA lC)
  af : List (aA dN)
  ah : List (aA vN)
  aj : List (aA dh)
  ae : List (aA dP)
  ai : List (aA eP)
  au : List (aA jT)
  gV : List (aA G9)
  sV : List (aA Kw)
  mi : List (aA G8)
  bz : List (aA MJ)
  aG : List (aA yI)
noncomputable def St.dB (σ : St) (ys : List (aA lC)) : St := { σ with ak := ys }
noncomputable def St.bF (σ : St) (ys : List (aA dN)) : St := { σ with af := ys }
noncomputable def St.bM (σ : St) (ys : List (aA vN)) : St := { σ with ah := ys }
noncomputable def St.qA (σ : St) (ys : List (aA dh)) : St := { σ with aj := ys }
noncomputable def St.aX (σ : St) (ys : List (aA dP)) : St := { σ with ae := ys }
noncomputable def St.fM (σ : St) (ys : List (aA eP)) : St := { σ with ai := ys }
noncomputable def St.bn (σ : St) (ys : List (aA jT)) : St := { σ with au := ys }
noncomputable def St.y7 (σ : St) (ys : List (aA G9)) : St := { σ with gV := ys }
noncomputable def St.Iq (σ : St) (ys : List (aA Kw)) : St := { σ with sV := ys }
noncomputable def St.EO (σ : St) (ys : List (aA G8)) : St := { σ with mi := ys }
noncomputable def St.nO (σ : St) (ys : List (aA MJ)) : St := { σ with bz := ys }
noncomputable def St.jh (σ : St) (ys : List (aA yI)) : St := { σ with aG := ys }
noncomputable def TB : List (TbI St) := [⟨jo, lC, St.ak, St.dB⟩, ⟨di, dN, St.af, St.bF⟩, ⟨bu, vN, St.ah, St.bM⟩, ⟨jH, dh, St.aj, St.qA⟩, ⟨mF, dP, St.ae, St.aX⟩, ⟨ax, eP, St.ai, St.fM⟩, ⟨jm, jT, St.au, St.bn⟩, ⟨UG, G9, St.gV, St.y7⟩, ⟨UH, Kw, St.sV, St.Iq⟩, ⟨Qr, G8, St.mi, St.EO⟩, ⟨VS, MJ, St.bz, St.nO⟩, ⟨Gw, yI, St.aG, St.jh⟩]
theorem aK : rC TB := by
  simp only [rC, TB, List.forall_mem_cons, List.not_mem_nil, false_implies, implies_true, and_true]
  refine ⟨?_, ?_, ?_, ?_, ?_, ?_, ?_, ?_, ?_, ?_, ?_, ?_⟩ <;> (intro σ ys; refine ⟨rfl, ?_, ?_, ?_, ?_, ?_, ?_, ?_, ?_, ?_, ?_, ?_, ?_⟩ <;> first | (intro h; rfl) | (intro h; exact absurd rfl h))
noncomputable def KLs : List (Nat × Kd) := [(3, .i), (5, (.int .u8)), (9, .str), (33, eY), (36, bD), (48, CY), (58, aI), (78, (.ptr mF)), (93, RH), (126, KX), (144, jQ)]
noncomputable def MLs : List (Nat × Kd × Kd) := [(65, .str, (.ptr ax))]
theorem xY {σ : St} {i : Nat} {x : aA dN} (h : σ.af[i]? = some x) : pR (aV TB σ) di i dN x := ⟨_, rfl, h⟩
theorem Gg {σ : St} {i : Nat} {x : aA dh} (h : σ.aj[i]? = some x) : pR (aV TB σ) jH i dh x := ⟨_, rfl, h⟩
theorem Rj {σ : St} {i : Nat} {x : aA eP} (h : σ.ai[i]? = some x) : pR (aV TB σ) ax i eP x := ⟨_, rfl, h⟩
end Go.Proofs.YtbnmhjobnepajaaGreat.M


set_option maxRecDepth 100000
namespace Go.Proofs.YtbnmhjobnepajaaGreat.M
open Go.Proofs

theorem Gone.len {kk kv : Kd} {es : List MapEntry} {m done : List (kk.den × kv.den)} {seen : List Nat} (h : Gone es m seen done) : seen.length ≤ es.length := by
  obtain ⟨is, h1, rfl, rfl, h4⟩ := h
  rw [List.length_map]
  have := List.Nodup.length_le_of_subset h1 (l₂ := List.range es.length) (fun i hi => by simpa using h4 i hi)
  simpa using this

theorem wrap_wrap (x y : Int) : IntKind.wrap .i64 (IntKind.wrap .i64 x + y) = IntKind.wrap .i64 (x + y) := by
  rw [IntKind.wrap_i64, IntKind.wrap_i64, IntKind.wrap_i64]; omega

noncomputable def Cm : List (List UInt8 × Option Nat) → St → Option Nat
  | [], _ => some 0
  | (_, v) :: r, σ => v >>= fun i => σ.ai[i]? >>= fun o => Cm r σ >>= fun n => some (o.1.length + n)

theorem oz {p : List UInt8 × Option Nat} {r : List (List UInt8 × Option Nat)} {σ : St} {n : Nat} : Cm (p :: r) σ = some n ↔ ∃ i o q, p.2 = some i ∧ σ.ai[i]? = some o ∧ Cm r σ = some q ∧ n = o.1.length + q := by
  obtain ⟨k, v⟩ := p
  constructor
  · intro h
    obtain ⟨i, hi, h⟩ := bs h
    obtain ⟨o, ho, h⟩ := bs h
    obtain ⟨q, hq, h⟩ := bs h
    simp only [Option.some.injEq] at h
    exact ⟨i, o, q, hi, ho, hq, h.symm⟩
  · rintro ⟨i, o, q, h1, h2, h3, rfl⟩
    simp only at h1
    simp [Cm, h1, h2, h3]

theorem Gp {σ : St} {l l' : List (List UInt8 × Option Nat)} (h : l.Perm l') : ∀ {n : Nat}, Cm l σ = some n → Cm l' σ = some n := by
  induction h with
  | nil => exact fun h => h
  | cons p _ ih =>
    intro n hn
    obtain ⟨i, o, q, h1, h2, h3, rfl⟩ := oz.1 hn
    exact oz.2 ⟨i, o, q, h1, h2, ih h3, rfl⟩
  | swap p q r =>
    intro n hn
    obtain ⟨i, o, n1, h1, h2, h3, rfl⟩ := oz.1 hn
    obtain ⟨j, u, n2, k1, k2, k3, rfl⟩ := oz.1 h3
    exact oz.2 ⟨j, u, _, k1, k2, oz.2 ⟨i, o, _, h1, h2, k3, rfl⟩, by omega⟩
  | trans _ _ ih1 ih2 => exact fun hn => ih2 (ih1 hn)

theorem VK {σ : St} {p : List UInt8 × Option Nat} {i : Nat} {o : aA eP} (h1 : p.2 = some i) (h2 : σ.ai[i]? = some o) : ∀ {l : List (List UInt8 × Option Nat)} {n : Nat}, Cm l σ = some n → Cm (l ++ [p]) σ = some (n + o.1.length) := by
  intro l n h
  refine Gp (List.perm_append_comm (l₁ := [p]) (l₂ := l)) ?_
  exact oz.2 ⟨i, o, n, h1, h2, h, by omega⟩

theorem P9 {σ : St} {p : List UInt8 × Option Nat} : ∀ {l : List (List UInt8 × Option Nat)} {n : Nat}, Cm l σ = some n → p ∈ l → ∃ i o, p.2 = some i ∧ σ.ai[i]? = some o
  | q :: l, n, h, hp => by
    obtain ⟨i, o, q', h1, h2, h3, rfl⟩ := oz.1 h
    rcases List.mem_cons.1 hp with rfl | hp
    · exact ⟨i, o, h1, h2⟩
    · exact P9 h3 hp

noncomputable def fP (p0 : Option Nat) (σ : St) : Option Int :=
  if p0.isNone = true then some 0 else
  p0 >>= fun i => (σ.af[i]?) >>= fun o => Cm o.2.1 σ >>= fun n => some (IntKind.wrap .i64 n)

theorem ES {p0 : Option Nat} {σ : St} {p : Int} (h : fP p0 σ = some p) : Spec Tryz.prog 68 [.kv (.ptr 67) p0] (aV TB σ) (.kv .i p) (aV TB σ) := by
  refine Spec.intro Tryz.func68 (by kernel_rfl) rfl (by kernel_rfl) (fun a w G0 Ls hE hH hN => ?_)
  have hle : G0.le G0 := Gh.le_refl G0
  unfold fP at h
  refine wp_seq_k (fun K hK1 => ?_)
  refine aF ?_
  refine mQ 1 [] [(2, .kv .i 0)] (Os := []) trivial hE hH (by kernel_rfl) (fun a hE => ?_)
  refine aS (by kernel_rfl) ?_
  refine Exit.aC (hK1 _ _ ?_)
  refine wp_seq_k (fun K hK2 => ?_)
  refine aF ?_
  refine mQ 1 [] [(3, .kv .i 0)] (Os := []) trivial hE hH (by kernel_rfl) (fun a hE => ?_)
  refine aS (by kernel_rfl) ?_
  refine Exit.aC (hK2 _ _ ?_)
  refine wp_seq_k (fun K hK3 => ?_)
  refine wp_seq_k (fun K hK4 => ?_)
  refine aF ?_
  refine mQ 2 [] [(7, .kv .bool p0.isNone)] (Os := []) trivial hE hH (by kernel_rfl) (fun a hE => ?_)
  refine aS (by kernel_rfl) ?_
  refine Exit.aC (hK4 _ _ ?_)
  refine GM (b := p0.isNone) hE (by kernel_rfl) (fun hc => ?_) (fun hc => ?_)
  · replace h := ifT hc h
    refine wp_seq_k (fun K hK5 => ?_)
    refine aF ?_
    refine mQ 2 [] [(2, .kv .i 0)] (Os := []) trivial hE hH (by kernel_rfl) (fun a hE => ?_)
    refine aS (by kernel_rfl) ?_
    refine Exit.aC (hK5 _ _ ?_)
    refine wp_ret ?_
    refine Exit.Uu ?_
    cases h
    exact aaH rfl hE hle hH (by kernel_rfl)
  · replace h := ifF hc h
    refine wp_skip ?_
    refine Exit.aC (hK3 _ _ ?_)
    obtain ⟨i, hi, h⟩ := bs h
    obtain ⟨o, ho, h⟩ := bs h
    obtain ⟨n, hn, h⟩ := bs h
    refine wp_seq_k (fun K hK6 => ?_)
    refine wp_seq_k (fun K hK7 => ?_)
    refine aF ?_
    refine mQ 4 [.pt i, .ob dN o] [(12, .fm 67 i 1)] (Os := [_, _]) ⟨hi, xY ho, trivial⟩ hE hH (by kernel_rfl) (fun a hE => ?_)
    refine P6 (kk := .str) (kv := .ptr 93) (m := o.2.1) (t := 67) (j := i) (f := 1) (d := some 13) hE hH (by kernel_rfl) (by kernel_rfl) (xY ho) rfl (fun r mr es cl a w G hl hE hH hh hr hm => ?_)
    have hle := Gh.le_trans hle hl
    refine aS (by kernel_rfl) ?_
    refine Exit.aC (hK7 _ _ ?_)
    refine wp_block ?_
    refine BK (fun Q c hQ hc => ?_)
    have key : ∀ (k : Nat) (seen : Array Nat) (done : List (List UInt8 × Option Nat)) (q : Nat), es.toList.length < seen.toList.length + k → Gone (kk := .str) (kv := .ptr 93) es.toList o.2.1 seen.toList done → Cm done σ = some q →
        ∀ (a : Act) (w : World), dE G 26 a [(3, .kv .i (IntKind.wrap .i64 q)), (13, .val (.pointer (some ⟨r, 0, none⟩)))] → Holds w G (aV TB σ) (.iter r (itO mr cl seen) :: Ls) → w.heap[mr]? = some (.map es cl) →
        (∀ a w seen, dE G 26 a [(3, .kv .i (IntKind.wrap .i64 n)), (13, .val (.pointer (some ⟨r, 0, none⟩)))] → Holds w G (aV TB σ) (.iter r (itO mr cl seen) :: Ls) → Q (.exit 0) a w) → Rnd Tryz.prog c Q a w := by
      intro k
      induction k with
      | zero =>
        intro seen done q hk hg
        have := hg.len
        omega
      | succ k ih =>
        intro seen done q hk hg hq a w hE hH hh hx
        refine EN hc ?_
        refine wp_seq_k (fun K hK8 => ?_)
        refine aF ?_
        refine Ur (kk := .str) (kv := .ptr 93) (m := o.2.1) (d := some 14) hE hH hh hm (by kernel_rfl) (by kernel_rfl) (fun hall a w hE hH => ?_) (fun ix e p hix hp hns a w hE hH hh => ?_)
        · refine mQ 1 [] [(15, .kv .bool false)] (Os := []) trivial hE hH (by kernel_rfl) (fun a hE => ?_)
          refine aS (by kernel_rfl) ?_
          refine Exit.aC (hK8 _ _ ?_)
          refine wp_seq_k (fun K hK9 => ?_)
          refine Y2 hE (by kernel_rfl) rfl ?_
          refine wp_exit ?_
          refine Exit.yA ?_
          refine Exit.yA ?_
          have hperm := hg.all (by rw [hm.1.length]) hm.2.2 hall
          have := Gp hperm hq
          rw [hn] at this
          cases this
          exact hx _ _ _ (hE.CV (by kernel_rfl)) hH
        · refine mQ 1 [] [(15, .kv .bool true)] (Os := []) trivial hE hH (by kernel_rfl) (fun a hE => ?_)
          refine aS (by kernel_rfl) ?_
          refine Exit.aC (hK8 _ _ ?_)
          refine wp_seq_k (fun K hK9 => ?_)
          refine acs hE (by kernel_rfl) rfl ?_
          refine wp_skip ?_
          refine Exit.aC (hK9 _ _ ?_)
          obtain ⟨i2, o2, hi2, ho2⟩ := P9 hn (List.mem_of_getElem? hp)
          refine wp_block ?_
          refine wp_seq_k (fun K hK10 => ?_)
          refine aF ?_
          refine P5 (kk := .str) (kv := .ptr 93) (m := o.2.1) (d := some 16) hE hH hh hm hix hp (by kernel_rfl) (by kernel_rfl) (fun a hE => ?_)
          refine mQ 2 [] [(5, .kv (.ptr 93) p.2)] (Os := []) trivial hE hH (by kernel_rfl) (fun a hE => ?_)
          refine aS (by kernel_rfl) ?_
          refine Exit.aC (hK10 _ _ ?_)
          refine aF ?_
          refine mQ 8 [.pt i2, .ob eP o2] [(3, .kv .i (IntKind.wrap .i64 (IntKind.wrap .i64 q + (o2.1.length : Int))))] (Os := [_, _]) ⟨hi2, Rj ho2, trivial⟩ hE hH (by kernel_rfl) (fun a hE => ?_)
          refine aS (by kernel_rfl) ?_
          refine Exit.yu ?_
          refine Exit.aC ?_
          rw [wrap_wrap] at hE
          refine ih (seen.push e.born) (done ++ [p]) (q + o2.1.length) ?_ ?_ (VK hi2 ho2 hq) a w ((hE.re 3 (by kernel_rfl) (e' := .kv .i (IntKind.wrap .i64 ((q + o2.1.length : Nat) : Int))) (congrArg (fun z => En.kv .i (IntKind.wrap .i64 z)) (Int.natCast_add q o2.1.length).symm)).CV (by kernel_rfl)) hH hh hx
          · simp at hk ⊢; omega
          · rw [Array.toList_push]; exact hg.next hix hp hns
    refine key (es.toList.length + 1) #[] [] 0 (by simp) Gone.nil rfl a w (hE.CV (by kernel_rfl)) hH hh (fun a w seen hE hH => ?_)
    rw [hQ]
    have hH := hH.drop (fun _ _ _ => rfl)
    refine Exit.WH ?_
    refine Exit.aC (hK6 _ _ ?_)
    refine wp_seq_k (fun K hK11 => ?_)
    refine aF ?_
    refine mQ 2 [] [(2, .kv .i (IntKind.wrap .i64 n))] (Os := []) trivial hE hH (by kernel_rfl) (fun a hE => ?_)
    refine aS (by kernel_rfl) ?_
    refine Exit.aC (hK11 _ _ ?_)
    refine wp_ret ?_
    cases h
    exact aaH rfl hE hle hH (by kernel_rfl)
noncomputable def Ar : Kn St := ⟨68, [.kv (.ptr di)], [.kv .i], .ro fun x σ => fP x.1 σ⟩
theorem E8 : Ar.ok Tryz.prog TB := Gi (by kernel_rfl) fun _ _ _ h => ES h
end Go.Proofs.YtbnmhjobnepajaaGreat.M


set_option maxRecDepth 100000

namespace Go.Proofs
open Go.Shelf
noncomputable def Tryz.TF : Go.Shelf.Ren := ⟨fun | 190 => 80 | 125 => 105 | 258 => 104 | 128 => 127 | 129 => 128 | 302 => 118 | 303 => 119 | 304 => 120 | 305 => 121 | 306 => 122 | 307 => 123 | 308 => 124 | 309 => 125 | 310 => 126 | 333 => 146 | 329 => 147 | 330 => 148 | 334 => 149 | 335 => 150 | 336 => 151 | 344 => 157 | n => n, fun | 31 => 80 | 9 => 9 | 3 => 3 | 46 => 143 | 0 => 0 | 51 => 140 | 53 => 142 | 4 => 4 | 183 => 163 | 182 => 162 | 131 => 168 | 5 => 5 | 218 => 183 | 222 => 187 | 228 => 191 | 229 => 192 | n => n, fun | n => n⟩
theorem Tryz.lays190 : Lays.n190 Tryz.prog Tryz.TF := {
  mixed := by kernel_rfl
  f125 := Tryz.func105.trans (congrArg some (by kernel_rfl))
  f128 := Tryz.func127.trans (congrArg some (by kernel_rfl))
  f129 := Tryz.func128.trans (congrArg some (by kernel_rfl))
  f190 := Tryz.func80.trans (congrArg some (by kernel_rfl))
  f258 := Tryz.func104.trans (congrArg some (by kernel_rfl))
  f302 := Tryz.func118.trans (congrArg some (by kernel_rfl))
  f303 := Tryz.func119.trans (congrArg some (by kernel_rfl))
  f304 := Tryz.func120.trans (congrArg some (by kernel_rfl))
  f305 := Tryz.func121.trans (congrArg some (by kernel_rfl))
  f306 := Tryz.func122.trans (congrArg some (by kernel_rfl))
  f307 := Tryz.func123.trans (congrArg some (by kernel_rfl))
  f308 := Tryz.func124.trans (congrArg some (by kernel_rfl))
  f309 := Tryz.func125.trans (congrArg some (by kernel_rfl))
  f310 := Tryz.func126.trans (congrArg some (by kernel_rfl))
  f329 := Tryz.func147.trans (congrArg some (by kernel_rfl))
  f330 := Tryz.func148.trans (congrArg some (by kernel_rfl))
  f333 := Tryz.func146.trans (congrArg some (by kernel_rfl))
  f334 := Tryz.func149.trans (congrArg some (by kernel_rfl))
  f335 := Tryz.func150.trans (congrArg some (by kernel_rfl))
  f336 := Tryz.func151.trans (congrArg some (by kernel_rfl))
  f344 := Tryz.func157.trans (congrArg some (by kernel_rfl))
  t0 := Tryz.underlying0
  a0 := Tryz.isAgg0
  z0 := Tryz.sizeOf0
  v0 := Tryz.zeroValue0
  t3 := Tryz.underlying3
  a3 := Tryz.isAgg3
  z3 := Tryz.sizeOf3
  v3 := Tryz.zeroValue3
  t4 := Tryz.underlying4
  a4 := Tryz.isAgg4
  z4 := Tryz.sizeOf4
  v4 := Tryz.zeroValue4
  t5 := Tryz.underlying5
  a5 := Tryz.isAgg5
  z5 := Tryz.sizeOf5
  v5 := Tryz.zeroValue5
  t9 := Tryz.underlying9
  a9 := Tryz.isAgg9
  z9 := Tryz.sizeOf9
  v9 := Tryz.zeroValue9
  t31 := Tryz.underlying80
  a31 := Tryz.isAgg80
  z31 := Tryz.sizeOf80
  v31 := Tryz.zeroValue80
  t46 := Tryz.underlying143
  a46 := Tryz.isAgg143
  z46 := Tryz.sizeOf143
  v46 := Tryz.zeroValue143
  t51 := Tryz.underlying140
  a51 := Tryz.isAgg140
  z51 := Tryz.sizeOf140
  v51 := Tryz.zeroValue140
  t53 := Tryz.underlying142
  a53 := Tryz.isAgg142
  z53 := Tryz.sizeOf142
  v53 := Tryz.zeroValue142
  t131 := Tryz.underlying168
  a131 := Tryz.isAgg168
  z131 := Tryz.sizeOf168
  v131 := Tryz.zeroValue168
  t182 := Tryz.underlying162
  a182 := Tryz.isAgg162
  z182 := Tryz.sizeOf162
  v182 := Tryz.zeroValue162
  t183 := Tryz.underlying163
  a183 := Tryz.isAgg163
  z183 := Tryz.sizeOf163
  v183 := Tryz.zeroValue163
  t218 := Tryz.underlying183
  a218 := Tryz.isAgg183
  z218 := Tryz.sizeOf183
  v218 := Tryz.zeroValue183
  t222 := Tryz.underlying187
  a222 := Tryz.isAgg187
  z222 := Tryz.sizeOf187
  v222 := Tryz.zeroValue187
  t228 := Tryz.underlying191
  a228 := Tryz.isAgg191
  z228 := Tryz.sizeOf191
  v228 := Tryz.zeroValue191
  t229 := Tryz.underlying192
  a229 := Tryz.isAgg192
  z229 := Tryz.sizeOf192
  v229 := Tryz.zeroValue192 }

end Go.Proofs

namespace Go.Proofs.YtbnmhjobnepajaaGreat.M
open Go.Proofs (Tryz.prog Tryz.func47 Tryz.f47 Tryz.lays190)

noncomputable def sorted (l : List (List UInt8)) : List (List UInt8) := l.mergeSort (fun x y => decide (x ≤ y))

noncomputable def gX (p0 : Option Nat) (σ : St) : Option (List (List UInt8)) :=
  if p0.isNone = true then some [] else
  p0 >>= fun i => (σ.af[i]?) >>= fun o => if (o.2.1.length + 1) * 16 ≤ 140737488355328 then some (sorted (o.2.1.map (·.1))) else none

theorem Gone.aef {kk kv : Kd} {es : List MapEntry} {m done : List (kk.den × kv.den)} {seen : List Nat} (h : Gone es m seen done) : done.length ≤ es.length := by
  have h0 := h.len
  obtain ⟨is, h1, rfl, rfl, h4⟩ := h
  rw [List.length_map] at h0
  exact Nat.le_trans (List.length_filterMap_le _ _) h0

theorem set_self {α : Type} : ∀ {l : List α} {j : Nat} {x : α}, l[j]? = some x → l.set j x = l
  | [], _, _, h => by simp at h
  | y :: l, 0, x, h => by simp at h; subst h; rfl
  | y :: l, j + 1, x, h => by rw [List.set_cons_succ, set_self (by simpa using h)]

section
variable {w : World} {G : Gh} {T : Tabs} {Ls : List LS} {a : Act} {N : Nat} {E : Env} {ops : Array Oper} {Q : Exit → Act → World → Prop}

theorem VC {j e bt : Nat} {v : Value} {xs : List (List UInt8)} (hH : Holds w G T Ls) (hj : Ls[j]? = some (.raw v e bt .str xs)) (hlen : xs.length < 4611686018427387904) :
    Calls Tryz.prog 80 #[v] w (RI G (.tup []) T (Ls.set j (.raw v e bt .str (sorted xs)))) := by
  obtain ⟨cs, o1, o2, o3, o4⟩ := hH.loc _ (List.mem_of_getElem? hj)
  rcases o1.2 with ⟨rfl, hn⟩ | ⟨g, cap, cur, rfl, hb0, hb, h1, h2, h3, h4⟩
  · have hx : xs = [] := List.eq_nil_of_length_eq_zero hn
    subst hx
    refine (Any.slices_Sort_string_none Tryz.lays190 none 0 w).mono ?_
    rintro e' w' ⟨rfl, rfl⟩
    refine ⟨G, Gh.le_refl G, ⟨#[], rfl, trivial⟩, ?_⟩
    have : Ls.set j (.raw (.slice none 0 0) e bt .str (sorted [])) = Ls := by
      have : sorted [] = [] := by simp [sorted]
      rw [this]
      exact set_self hj
    rw [this]; exact hH
  · have hst : cur.toList.take xs.length = xs.map encStr := by
      have := PR o2
      simp only [Kd.w, Nat.mul_one] at h4
      rw [h4]
      rw [← this]
      have hcl := o1.1
      simp only [Kd.w, Nat.mul_one] at hcl
      rw [List.take_of_length_le (by omega)]
    refine (Any.slices_Sort_string Tryz.lays190 g 0 cap xs w (holds_of_block hb hst) (Array.getElem?_eq_some_iff.1 hb).1 hlen).mono ?_
    rintro e' w' ⟨rfl, n, os, rfl⟩
    exact ⟨G, Gh.le_refl G, ⟨#[], rfl, trivial⟩, hH.Yf hj (by simp)⟩
end

theorem xw {p0 : Option Nat} {σ : St} {p : List (List UInt8)} (h : gX p0 σ = some p) : Spec Tryz.prog 47 [.kv (.ptr 67) p0] (aV TB σ) (.kv (.list .str) p) (aV TB σ) := by
  refine Spec.intro Tryz.func47 (by kernel_rfl) rfl (by kernel_rfl) (fun a w G0 Ls hE hH hN => ?_)
  have hle : G0.le G0 := Gh.le_refl G0
  unfold gX at h
  refine wp_seq_k (fun K hK1 => ?_)
  refine aF ?_
  refine mQ 1 [] [(2, .val (.slice none 0 0))] (Os := []) trivial hE hH (by kernel_rfl) (fun a hE => ?_)
  refine aS (by kernel_rfl) ?_
  refine Exit.aC (hK1 _ _ ?_)
  refine wp_seq_k (fun K hK2 => ?_)
  refine aF ?_
  refine mQ 1 [] [(3, .val (.slice none 0 0))] (Os := []) trivial hE hH (by kernel_rfl) (fun a hE => ?_)
  refine aS (by kernel_rfl) ?_
  refine Exit.aC (hK2 _ _ ?_)
  refine wp_seq_k (fun K hK3 => ?_)
  refine wp_seq_k (fun K hK4 => ?_)
  refine aF ?_
  refine mQ 2 [] [(6, .kv .bool p0.isNone)] (Os := []) trivial hE hH (by kernel_rfl) (fun a hE => ?_)
  refine aS (by kernel_rfl) ?_
  refine Exit.aC (hK4 _ _ ?_)
  refine GM (b := p0.isNone) hE (by kernel_rfl) (fun hc => ?_) (fun hc => ?_)
  · replace h := ifT hc h
    refine wp_seq_k (fun K hK5 => ?_)
    refine aF ?_
    refine mQ 2 [] [(2, .val (.slice none 0 0))] (Os := []) trivial hE hH (by kernel_rfl) (fun a hE => ?_)
    refine aS (by kernel_rfl) ?_
    refine Exit.aC (hK5 _ _ ?_)
    refine wp_ret ?_
    refine Exit.Uu ?_
    cases h
    exact aaH rfl hE hle hH (by kernel_rfl)
  · replace h := ifF hc h
    refine wp_skip ?_
    refine Exit.aC (hK3 _ _ ?_)
    obtain ⟨i, hi, h⟩ := bs h
    obtain ⟨o, ho, h⟩ := bs h
    obtain ⟨hsz, h⟩ := gd h
    refine wp_seq_k (fun K hK6 => ?_)
    refine wp_seq_k (fun K hK7 => ?_)
    refine aF ?_
    refine mQ 4 [.pt i, .ob dN o] [(11, .fm 67 i 1)] (Os := [_, _]) ⟨hi, xY ho, trivial⟩ hE hH (by kernel_rfl) (fun a hE => ?_)
    have hH := hH.aav 9 16 .str
    refine P6 (kk := .str) (kv := .ptr 93) (m := o.2.1) (t := 67) (j := i) (f := 1) (d := some 12) hE hH (by kernel_rfl) (by kernel_rfl) (xY ho) rfl (fun r mr es cl a w G hl hE hH hh hr hm => ?_)
    have hle := Gh.le_trans hle hl
    refine aS (by kernel_rfl) ?_
    refine Exit.aC (hK7 _ _ ?_)
    refine wp_block ?_
    refine BK (fun Q c hQ hc => ?_)
    have key : ∀ (k : Nat) (seen : Array Nat) (done : List (List UInt8 × Option Nat)) (v : Value), es.toList.length < seen.toList.length + k → Gone (kk := .str) (kv := .ptr 93) es.toList o.2.1 seen.toList done →
        ∀ (a : Act) (w : World) (G : Gh), G0.le G → dE G 24 a [(3, .val v), (12, .val (.pointer (some ⟨r, 0, none⟩)))] → Holds w G (aV TB σ) (.iter r (itO mr cl seen) :: .raw v 9 16 .str (done.map (·.1)) :: Ls) → w.heap[mr]? = some (.map es cl) → G.role mr = .fld 67 i 1 → zU G .str (.ptr 93) o.2.1 es.toList cl →
        (∀ (a : Act) (w : World) (G : Gh) (seen : Array Nat) (done : List (List UInt8 × Option Nat)) (v : Value), done.Perm o.2.1 → G0.le G → dE G 24 a [(3, .val v), (12, .val (.pointer (some ⟨r, 0, none⟩)))] → Holds w G (aV TB σ) (.iter r (itO mr cl seen) :: .raw v 9 16 .str (done.map (·.1)) :: Ls) → Q (.exit 0) a w) → Rnd Tryz.prog c Q a w := by
      intro k
      induction k with
      | zero =>
        intro seen done v hk hg
        have := hg.len
        omega
      | succ k ih =>
        intro seen done v hk hg a w G hle hE hH hh hr hm hx
        refine EN hc ?_
        refine wp_seq_k (fun K hK8 => ?_)
        refine aF ?_
        refine Ur (kk := .str) (kv := .ptr 93) (m := o.2.1) (d := some 13) hE hH hh hm (by kernel_rfl) (by kernel_rfl) (fun hall a w hE hH => ?_) (fun ix e p hix hp hns a w hE hH hh => ?_)
        · refine mQ 1 [] [(14, .kv .bool false)] (Os := []) trivial hE hH (by kernel_rfl) (fun a hE => ?_)
          refine aS (by kernel_rfl) ?_
          refine Exit.aC (hK8 _ _ ?_)
          refine wp_seq_k (fun K hK9 => ?_)
          refine Y2 hE (by kernel_rfl) rfl ?_
          refine wp_exit ?_
          refine Exit.yA ?_
          refine Exit.yA ?_
          exact hx _ _ _ _ _ _ (hg.all (by rw [hm.1.length]) hm.2.2 hall) hle (hE.CV (by kernel_rfl)) hH
        · refine mQ 1 [] [(14, .kv .bool true)] (Os := []) trivial hE hH (by kernel_rfl) (fun a hE => ?_)
          refine aS (by kernel_rfl) ?_
          refine Exit.aC (hK8 _ _ ?_)
          refine wp_seq_k (fun K hK9 => ?_)
          refine acs hE (by kernel_rfl) rfl ?_
          refine wp_skip ?_
          refine Exit.aC (hK9 _ _ ?_)
          refine wp_block ?_
          refine wp_seq_k (fun K hK10 => ?_)
          refine aF ?_
          refine P5 (kk := .str) (kv := .ptr 93) (m := o.2.1) (d := some 15) hE hH hh hm hix hp (by kernel_rfl) (by kernel_rfl) (fun a hE => ?_)
          refine mQ 2 [] [(4, .kv .str p.1)] (Os := []) trivial hE hH (by kernel_rfl) (fun a hE => ?_)
          refine aS (by kernel_rfl) ?_
          refine Exit.aC (hK10 _ _ ?_)
          refine aF ?_
          refine mQ 2 [] [(17, .val v), (18, .kv .str p.1)] (Os := []) trivial hE hH (by kernel_rfl) (fun a hE => ?_)
          refine JO (d := some 19) .str [p.1] hE hH (by kernel_rfl) (by kernel_rfl) (fun a w' G' hl hE hH hkeep => ?_)
          have hle := Gh.le_trans hle hl
          have hm := yw hl hm
          obtain ⟨hkeep1, hkeep2⟩ := hkeep mr (by rw [hr]; simp)
          rw [← hkeep1] at hh
          rw [← hkeep2] at hr
          refine Un (e' := 9) (bt := 16) (K := .str) (xs := done.map (·.1)) (ys := [p.1]) (d := some 20) 1 hE hH (by kernel_rfl) rfl (by kernel_rfl) (by have h1 := hg.aef; rw [← hm.1.length] at h1; simp only [List.length_map, List.length_cons, List.length_nil]; omega) (fun v' a w'' G'' hl hE hH hfix hro => ?_)
          have hle := Gh.le_trans hle hl
          have hm := yw hl hm
          have hh2 := hfix mr _ _ _ hr
          have hr2 := hro mr (by rw [hr]; simp)
          rw [← hh2] at hh
          rw [← hr2] at hr
          refine mQ 1 [] [(3, .val v')] (Os := []) trivial hE hH (by kernel_rfl) (fun a hE => ?_)
          refine aS (by kernel_rfl) ?_
          refine Exit.yu ?_
          refine Exit.aC ?_
          refine ih (seen.push e.born) (done ++ [p]) v' ?_ ?_ a _ _ hle (hE.CV (by kernel_rfl)) ?_ hh hr hm hx
          · simp at hk ⊢; omega
          · rw [Array.toList_push]; exact hg.next hix hp hns
          · rw [List.map_append]; exact hH
    refine key (es.toList.length + 1) #[] [] (.slice none 0 0) (by simp) Gone.nil a w G hle (hE.CV (by kernel_rfl)) hH hh hr hm (fun a w G seen done v hperm hle hE hH => ?_)
    rw [hQ]
    have hH := hH.drop (fun _ _ _ => rfl)
    refine Exit.WH ?_
    refine Exit.aC (hK6 _ _ ?_)
    refine wp_seq_k (fun K hK11 => ?_)
    refine aF ?_
    refine mQ 1 [] [(21, .val v)] (Os := []) trivial hE hH (by kernel_rfl) (fun a hE => ?_)
    refine PZ (f := 80) (As := [.val v]) (R := .tup []) (d := some 22) (T' := aV TB σ) (Ls' := .raw v 9 16 .str (sorted (done.map (·.1))) :: Ls) (by kernel_rfl) (fun args hA => ?_) hE (by kernel_rfl) (by kernel_rfl) trivial (fun a w G hl hE hH => ?_)
    · match args, hA with
      | [u], ⟨hu, _⟩ =>
        simp only [EnR] at hu
        subst hu
        exact VC (j := 0) hH rfl (by rw [List.length_map, hperm.length_eq]; omega)
    · have hle := Gh.le_trans hle hl
      refine aS (by kernel_rfl) ?_
      refine Exit.aC (hK11 _ _ ?_)
      have hnd := hH.nd
      obtain ⟨G', hl, hv, hH⟩ := hH.aaE (Ls' := Ls) List.mem_cons_self (fun l hlm => by
        cases hb : l.blk with
        | none => exact .inr ⟨rfl, List.mem_cons_of_mem _ hlm⟩
        | some b =>
          refine .inl ⟨List.mem_cons_of_mem _ hlm, fun he => ?_⟩
          rw [List.filterMap_cons_some (show LS.blk (.raw v 9 16 .str (sorted (done.map (·.1)))) = some b from he.symm)] at hnd
          exact (List.nodup_cons.1 hnd).1 (List.mem_filterMap.2 ⟨l, hlm, hb⟩)) (fun _ _ _ => rfl) (by
        cases hb : LS.blk (.raw v 9 16 .str (sorted (done.map (·.1)))) with
        | none => rwa [List.filterMap_cons_none hb] at hnd
        | some b => rw [List.filterMap_cons_some hb] at hnd; exact (List.nodup_cons.1 hnd).2)
      have hle := Gh.le_trans hle hl
      have hE := dE.more (v := v) (e := .kv (.list .str) (sorted (List.map (fun x : List UInt8 × Option Nat => x.1) done))) (hE.mono hl) 3 (by kernel_rfl) hv
      have hs : sorted (done.map (·.1)) = sorted (o.2.1.map (·.1)) := mergeSort_of_perm (hperm.map _)
      rw [hs] at hE
      cases h
      refine wp_seq_k (fun K hK12 => ?_)
      refine aF ?_
      refine mQ 2 [] [(2, .kv (.list .str) (sorted (o.2.1.map (·.1))))] (Os := []) trivial hE hH (by kernel_rfl) (fun a hE => ?_)
      refine aS (by kernel_rfl) ?_
      refine Exit.aC (hK12 _ _ ?_)
      refine wp_ret ?_
      exact aaH rfl hE hle hH (by kernel_rfl)
noncomputable def Aj : Kn St := ⟨47, [.kv (.ptr di)], [.kv (.list .str)], .ro fun x σ => gX x.1 σ⟩
theorem EY : Aj.ok Tryz.prog TB := Gi (by kernel_rfl) fun _ _ _ h => xw h
end Go.Proofs.YtbnmhjobnepajaaGreat.M


set_option maxRecDepth 100000
namespace Go.Proofs.YtbnmhjobnepajaaGreat.M
open Go.Proofs
noncomputable def rW (p0 : List UInt8) (s0 : Int × Int) : Option ((Int × Int) ⊕ (Int ⊕ Int)) :=
  if decide (s0.2 < (p0.length : Int)) = true then
  if 0 ≤ s0.2 ∧ s0.2 < (p0.length : Int) then
  if ((!(decide (btS p0 s0.2 < 48))) = true → 0 ≤ s0.2 ∧ s0.2 < (p0.length : Int)) then
  if ((decide (btS p0 s0.2 < 48) || decide (btS p0 s0.2 > 57)) || decide (s0.1 > 1099511627776)) = true then
  some (.inr (.inr (-1 : Int)))
  else
  if 0 ≤ s0.2 ∧ s0.2 < (p0.length : Int) then
  some (.inl (IntKind.wrap .i64 (IntKind.wrap .i64 (s0.1 * 10) + IntKind.wrap .i64 (IntKind.wrap .u8 (btS p0 s0.2 - 48))), IntKind.wrap .i64 (s0.2 + 1)))
  else
  none
  else
  none
  else
  none
  else
  some (.inr (.inl s0.1))

noncomputable def uy (p0 : List UInt8) : Option Int :=
  Option.bind (aY (rW p0) ((0 : Int), (0 : Int))) fun x1 =>
  kC x1 (fun x2 =>
  if ((!(p0 == [])) = true → (0 : Int) ≤ (0 : Int) ∧ 0 < (p0.length : Int)) then
  if (((p0 == []) || ((btS p0 (0 : Int) == 48) && (!(p0 == [48])))) || decide (x2 > 1099511627776)) = true then
  some (-1 : Int)
  else
  some x2
  else
  none) Option.some

noncomputable def QZ : Kn St := ⟨94, [.kv .str], [.kv .i], .ro fun x σ => uy x.1⟩

theorem J6 : QZ.ok Tryz.prog TB := fD ⟨Tryz.prog, TB, 49, KLs, MLs, [], [], [], []⟩ ⟨[], [], [], [(3, ⟨[(3, .kv .i), (7, .kv .i)], false, [⟨.ext 0, [(3, .kv .i)]⟩], true, []⟩)]⟩ aK trivial (fn := Tryz.f94) (by kernel_rfl) (by kernel_rfl) (by kernel_rfl)
end Go.Proofs.YtbnmhjobnepajaaGreat.M


set_option maxRecDepth 100000

namespace Go.Proofs
open Go.Shelf
noncomputable def Tryz.TE : Go.Shelf.Ren := ⟨fun | 189 => 95 | 125 => 105 | 257 => 113 | 128 => 127 | 129 => 128 | 294 => 134 | 295 => 135 | 296 => 136 | 297 => 137 | 298 => 138 | 299 => 139 | 216 => 140 | 300 => 141 | 301 => 142 | 328 => 153 | 329 => 147 | 330 => 148 | 331 => 154 | 332 => 155 | 215 => 156 | 343 => 158 | n => n, fun | 28 => 31 | 3 => 3 | 46 => 143 | 0 => 0 | 51 => 140 | 53 => 142 | 4 => 4 | 183 => 163 | 182 => 162 | 131 => 168 | 5 => 5 | 9 => 9 | 218 => 183 | 222 => 187 | 228 => 191 | 229 => 192 | n => n, fun | n => n⟩
theorem Tryz.lays189 : Lays.n189 Tryz.prog Tryz.TE := {
  mixed := by kernel_rfl
  f125 := Tryz.func105.trans (congrArg some (by kernel_rfl))
  f128 := Tryz.func127.trans (congrArg some (by kernel_rfl))
  f129 := Tryz.func128.trans (congrArg some (by kernel_rfl))
  f189 := Tryz.func95.trans (congrArg some (by kernel_rfl))
  f215 := Tryz.func156.trans (congrArg some (by kernel_rfl))
  f216 := Tryz.func140.trans (congrArg some (by kernel_rfl))
  f257 := Tryz.func113.trans (congrArg some (by kernel_rfl))
  f294 := Tryz.func134.trans (congrArg some (by kernel_rfl))
  f295 := Tryz.func135.trans (congrArg some (by kernel_rfl))
  f296 := Tryz.func136.trans (congrArg some (by kernel_rfl))
  f297 := Tryz.func137.trans (congrArg some (by kernel_rfl))
  f298 := Tryz.func138.trans (congrArg some (by kernel_rfl))
  f299 := Tryz.func139.trans (congrArg some (by kernel_rfl))
  f300 := Tryz.func141.trans (congrArg some (by kernel_rfl))
  f301 := Tryz.func142.trans (congrArg some (by kernel_rfl))
  f328 := Tryz.func153.trans (congrArg some (by kernel_rfl))
  f329 := Tryz.func147.trans (congrArg some (by kernel_rfl))
  f330 := Tryz.func148.trans (congrArg some (by kernel_rfl))
  f331 := Tryz.func154.trans (congrArg some (by kernel_rfl))
  f332 := Tryz.func155.trans (congrArg some (by kernel_rfl))
  f343 := Tryz.func158.trans (congrArg some (by kernel_rfl))
  t0 := Tryz.underlying0
  a0 := Tryz.isAgg0
  z0 := Tryz.sizeOf0
  v0 := Tryz.zeroValue0
  t3 := Tryz.underlying3
  a3 := Tryz.isAgg3
  z3 := Tryz.sizeOf3
  v3 := Tryz.zeroValue3
  t4 := Tryz.underlying4
  a4 := Tryz.isAgg4
  z4 := Tryz.sizeOf4
  v4 := Tryz.zeroValue4
  t5 := Tryz.underlying5
  a5 := Tryz.isAgg5
  z5 := Tryz.sizeOf5
  v5 := Tryz.zeroValue5
  t9 := Tryz.underlying9
  a9 := Tryz.isAgg9
  z9 := Tryz.sizeOf9
  v9 := Tryz.zeroValue9
  t28 := Tryz.underlying31
  a28 := Tryz.isAgg31
  z28 := Tryz.sizeOf31
  v28 := Tryz.zeroValue31
  t46 := Tryz.underlying143
  a46 := Tryz.isAgg143
  z46 := Tryz.sizeOf143
  v46 := Tryz.zeroValue143
  t51 := Tryz.underlying140
  a51 := Tryz.isAgg140
  z51 := Tryz.sizeOf140
  v51 := Tryz.zeroValue140
  t53 := Tryz.underlying142
  a53 := Tryz.isAgg142
  z53 := Tryz.sizeOf142
  v53 := Tryz.zeroValue142
  t131 := Tryz.underlying168
  a131 := Tryz.isAgg168
  z131 := Tryz.sizeOf168
  v131 := Tryz.zeroValue168
  t182 := Tryz.underlying162
  a182 := Tryz.isAgg162
  z182 := Tryz.sizeOf162
  v182 := Tryz.zeroValue162
  t183 := Tryz.underlying163
  a183 := Tryz.isAgg163
  z183 := Tryz.sizeOf163
  v183 := Tryz.zeroValue163
  t218 := Tryz.underlying183
  a218 := Tryz.isAgg183
  z218 := Tryz.sizeOf183
  v218 := Tryz.zeroValue183
  t222 := Tryz.underlying187
  a222 := Tryz.isAgg187
  z222 := Tryz.sizeOf187
  v222 := Tryz.zeroValue187
  t228 := Tryz.underlying191
  a228 := Tryz.isAgg191
  z228 := Tryz.sizeOf191
  v228 := Tryz.zeroValue191
  t229 := Tryz.underlying192
  a229 := Tryz.isAgg192
  z229 := Tryz.sizeOf192
  v229 := Tryz.zeroValue192 }

end Go.Proofs

namespace Go.Proofs.YtbnmhjobnepajaaGreat.M
open Go.Proofs (Tryz.prog Tryz.func95 Tryz.f95 Tryz.lays189)

noncomputable def uY (l : List Int) : List Int := l.mergeSort (fun x y => decide (x ≤ y))

section
variable {w : World} {G : Gh} {T : Tabs} {Ls : List LS} {a : Act} {N : Nat} {E : Env} {ops : Array Oper} {Q : Exit → Act → World → Prop}

theorem Rx {j e bt : Nat} {v : Value} {xs : List Int} (hH : Holds w G T Ls) (hj : Ls[j]? = some (.raw v e bt .i xs)) (hlen : xs.length < 4611686018427387904) :
    Calls Tryz.prog 95 #[v] w (RI G (.tup []) T (Ls.set j (.raw v e bt .i (uY xs)))) := by
  obtain ⟨cs, o1, o2, o3, o4⟩ := hH.loc _ (List.mem_of_getElem? hj)
  rcases o1.2 with ⟨rfl, hn⟩ | ⟨g, cap, cur, rfl, hb0, hb, h1, h2, h3, h4⟩
  · have hx : xs = [] := List.eq_nil_of_length_eq_zero hn
    subst hx
    refine (Any.slices_Sort_int_none Tryz.lays189 none 0 w).mono ?_
    rintro e' w' ⟨rfl, rfl⟩
    refine ⟨G, Gh.le_refl G, ⟨#[], rfl, trivial⟩, ?_⟩
    have : Ls.set j (.raw (.slice none 0 0) e bt .i (uY [])) = Ls := by
      have : uY [] = [] := by simp [uY]
      rw [this]
      exact set_self hj
    rw [this]; exact hH
  · have hst : cur.toList.take xs.length = xs.map (Value.int .i64) := by
      have := PQ o2
      simp only [Kd.w, Nat.mul_one] at h4
      rw [h4]
      rw [← this]
      have hcl := o1.1
      simp only [Kd.w, Nat.mul_one] at hcl
      rw [List.take_of_length_le (by omega)]
    refine (Any.slices_Sort_int Tryz.lays189 g 0 cap xs w (holds_of_blockI hb hst) (Array.getElem?_eq_some_iff.1 hb).1 hlen).mono ?_
    rintro e' w' ⟨rfl, n, os, rfl⟩
    exact ⟨G, Gh.le_refl G, ⟨#[], rfl, trivial⟩, hH.Vy hj (by simp)⟩
end

noncomputable def dF (p0 : Option Nat) (σ : St) (r7 : List (List UInt8)) (l9 : List Int) (x10 : Int) : Option ((List Int) × Int) :=
  if (decide (x10 < (r7.length : Int))) = true then
  (ix r7 x10) >>= fun x19 =>
  p0 >>= fun i21 =>
  (σ.aj[i21]?) >>= fun o22 =>
  if (decide ((x19.length : Int) > (IntKind.wrap .i64 ((o22.2.1.length : Int) + 1)))) = true then
  if (0 : Int) ≤ (IntKind.wrap .i64 ((o22.2.1.length : Int) + 1)) ∧ (IntKind.wrap .i64 ((o22.2.1.length : Int) + 1)) ≤ (x19.length : Int) then
  if o22.2.1.length + [46].length ≤ 9223372036854775807 then
  if ((x19.take (Int.toNat (IntKind.wrap .i64 ((o22.2.1.length : Int) + 1)))) == (o22.2.1 ++ [46])) = true then
  if (0 : Int) ≤ (IntKind.wrap .i64 ((o22.2.1.length : Int) + 1)) ∧ (IntKind.wrap .i64 ((o22.2.1.length : Int) + 1)) ≤ (x19.length : Int) then
  uy (x19.drop (Int.toNat (IntKind.wrap .i64 ((o22.2.1.length : Int) + 1)))) >>= fun r29 =>
  if (decide (r29 ≥ 0)) = true then
  if (l9.length + 1) * 8 ≤ 140737488355328 then
  dF p0 σ r7 (l9 ++ [r29]) (IntKind.wrap .i64 (x10 + 1))
  else none
  else
  dF p0 σ r7 l9 (IntKind.wrap .i64 (x10 + 1))
  else none
  else
  dF p0 σ r7 l9 (IntKind.wrap .i64 (x10 + 1))
  else none
  else none
  else
  dF p0 σ r7 l9 (IntKind.wrap .i64 (x10 + 1))
  else
  some ((l9, x10))
  partial_fixpoint

noncomputable def jd (p0 : Option Nat) (σ : St) : Option (List Int) :=
  p0 >>= fun i5 =>
  (σ.aj[i5]?) >>= fun o6 =>
  gX o6.1 σ >>= fun r7 =>
  dF p0 σ r7 [] 0 >>= fun z34 =>
  if z34.1.length < 4611686018427387904 then
  some (uY z34.1)
  else none

theorem ET {p0 : Option Nat} {σ : St} {p : List Int} (h : jd p0 σ = some p) : Spec Tryz.prog 61 [.kv (.ptr 77) p0] (aV TB σ) (.kv (.list .i) p) (aV TB σ) := by
  refine Spec.intro Tryz.func61 (by kernel_rfl) rfl (by kernel_rfl) (fun a w G0 Ls hE hH hN => ?_)
  have hle : G0.le G0 := Gh.le_refl G0
  unfold jd at h
  refine wp_seq_k (fun K hK1 => ?_)
  refine aF ?_
  refine mQ 1 [] [(2, .val (.slice none 0 0))] (Os := []) trivial hE hH (by kernel_rfl) (fun a hE => ?_)
  refine aS (by kernel_rfl) ?_
  refine Exit.aC (hK1 _ _ ?_)
  refine wp_seq_k (fun K hK2 => ?_)
  refine aF ?_
  refine mQ 1 [] [(3, .val (.slice none 0 0))] (Os := []) trivial hE hH (by kernel_rfl) (fun a hE => ?_)
  refine aS (by kernel_rfl) ?_
  refine Exit.aC (hK2 _ _ ?_)
  refine wp_seq_k (fun K hK3 => ?_)
  refine wp_seq_k (fun K hK4 => ?_)
  refine aF ?_
  obtain ⟨i5, hi5, h⟩ := bs h
  obtain ⟨o6, ho6, h⟩ := bs h
  refine mQ 4 [.pt i5, .ob dh o6] [(11, .kv (.ptr 67) o6.1)] (Os := [_, _]) ⟨hi5, (Gg (σ := σ) ho6), trivial⟩ hE hH (by kernel_rfl) (fun a hE => ?_)
  obtain ⟨r7, hr7, h⟩ := bs h
  refine Uo (d := (some 12)) (xw hr7) hE hH hN (by kernel_rfl) (by kernel_rfl) trivial (fun a w G hl1 hE hH => ?_)
  have hle := Gh.le_trans hle hl1
  refine mQ 2 [] [(13, .kv .i (r7.length : Int)), (14, .kv .i 0)] (Os := []) trivial hE hH (by kernel_rfl) (fun a hE => ?_)
  refine aS (by kernel_rfl) ?_
  refine Exit.aC (hK4 _ _ ?_)
  refine wp_block ?_
  have hH := hH.aav 3 8 .i
  obtain ⟨z34, hz34, h⟩ := bs h
  refine BK (fun Q11 c hQ hc => ?_)
  have key : ∀ (l9 : List Int) (x10 : Int) (rr : (List Int) × Int), dF p0 σ r7 l9 x10 = some rr → ∀ (a : Act) (w : World) (G : Gh) (v8 : Value), G0.le G → dE G 53 a [(0, .kv (.ptr 77) p0), (2, .val (.slice none 0 0)), (3, .val v8), (12, .kv (.list .str) r7), (13, .kv .i (r7.length : Int)), (14, .kv .i x10)] → Holds w G (aV TB σ) (LS.raw v8 3 8 .i l9 :: Ls) → (∀ z35 : (List Int) × Int, rr = z35 → ∀ (a : Act) (w : World) (G : Gh) (v8 : Value), G0.le G → dE G 53 a [(0, .kv (.ptr 77) p0), (2, .val (.slice none 0 0)), (3, .val v8), (12, .kv (.list .str) r7), (13, .kv .i (r7.length : Int)), (14, .kv .i z35.2)] → Holds w G (aV TB σ) (LS.raw v8 3 8 .i z35.1 :: Ls) → Q11 (.exit 0) a w) → Rnd Tryz.prog c Q11 a w := by
    refine dF.partial_correctness p0 σ r7 _ ?_
    intro self ih14 l9 x10 rr h a w G v8 hle hE hH hx12
    refine EN hc ?_
    refine wp_seq_k (fun K hK15 => ?_)
    refine aF ?_
    refine mQ 1 [] [(15, .kv .bool (decide (x10 < (r7.length : Int))))] (Os := []) trivial hE hH (by kernel_rfl) (fun a hE => ?_)
    refine aS (by kernel_rfl) ?_
    refine Exit.aC (hK15 _ _ ?_)
    refine wp_seq_k (fun K hK16 => ?_)
    refine GM (b := decide (x10 < (r7.length : Int))) hE (by kernel_rfl) (fun hc => ?_) (fun hc => ?_)
    · replace h := ifT hc h
      refine wp_skip ?_
      refine Exit.aC (hK16 _ _ ?_)
      refine wp_seq_k (fun K hK17 => ?_)
      refine wp_block ?_
      refine wp_seq_k (fun K hK18 => ?_)
      refine aF ?_
      obtain ⟨x19, hx19, h⟩ := bs h
      refine mQ 3 [.ix .str x19] [(5, .kv .str x19)] (Os := [_]) ⟨(KW.of (k := .str) hx19), trivial⟩ hE hH (by kernel_rfl) (fun a hE => ?_)
      refine aS (by kernel_rfl) ?_
      refine Exit.aC (hK18 _ _ ?_)
      refine wp_seq_k (fun K hK20 => ?_)
      refine aF ?_
      obtain ⟨i21, hi21, h⟩ := bs h
      obtain ⟨o22, ho22, h⟩ := bs h
      refine mQ 7 [.pt i21, .ob dh o22] [(6, .kv .i (IntKind.wrap .i64 ((o22.2.1.length : Int) + 1)))] (Os := [_, _]) ⟨hi21, (Gg (σ := σ) ho22), trivial⟩ hE hH (by kernel_rfl) (fun a hE => ?_)
      refine aS (by kernel_rfl) ?_
      refine Exit.aC (hK20 _ _ ?_)
      refine wp_seq_k (fun K hK23 => ?_)
      by_cases hc : (decide ((x19.length : Int) > (IntKind.wrap .i64 ((o22.2.1.length : Int) + 1)))) = true
      · replace h := ifT hc h
        have c24 := hc
        obtain ⟨q25, h⟩ := gd h
        obtain ⟨q26, h⟩ := gd h
        refine NG 13 [] [(0, 0), (0, 0), (0, 0), (0, 0), (0, 0), (0, 0), (0, 0), (0, 0), (0, 0), (0, 0), (0, 0), (0, 0), (0, 0)] [.kv .str x19, .kv .i (x19.length : Int), .kv .i (IntKind.wrap .i64 ((o22.2.1.length : Int) + 1)), .kv .bool (decide ((x19.length : Int) > (IntKind.wrap .i64 ((o22.2.1.length : Int) + 1)))), .kv .bool true, .kv .str x19, .kv .i (IntKind.wrap .i64 ((o22.2.1.length : Int) + 1)), .kv .str (x19.take (Int.toNat (IntKind.wrap .i64 ((o22.2.1.length : Int) + 1)))), .kv (.ptr 77) p0, .kv (.ptr 77) (some i21), .fldA 77 i21 1, .kv .str o22.2.1, .kv .str (o22.2.1 ++ [46])] (fun _ => aV TB σ) (fun _ _ => LS.raw v8 3 8 .i l9 :: Ls) (by kernel_rfl) (by kernel_rfl) hE hH
                ⟨⟨⟨⟨⟨⟨⟨⟨⟨⟨⟨⟨⟨trivial,
                wE (fun k => obR [] (by kernel_rfl) (fun _ => ⟨[], trivial, by kernel_rfl⟩))⟩,
                wE (fun k => obR [] (by kernel_rfl) (fun _ => ⟨[], trivial, by kernel_rfl⟩))⟩,
                wE (fun k => obR [] (by kernel_rfl) (fun _ => ⟨[], trivial, by kernel_rfl⟩))⟩,
                wE (fun k => obR [] (by kernel_rfl) (fun _ => ⟨[], trivial, by kernel_rfl⟩))⟩,
                wE (fun k => ad4 [] (by kernel_rfl) (fun _ => ⟨[], trivial, by kernel_rfl⟩) (eb2 c24 rfl))⟩,
                wE (fun k => obR [] (by kernel_rfl) (fun _ => ⟨[], trivial, by kernel_rfl⟩))⟩,
                wE (fun k => obR [] (by kernel_rfl) (fun _ => ⟨[], trivial, by kernel_rfl⟩))⟩,
                wE (fun k => obR [] (by kernel_rfl) (fun _ => ⟨[_], ⟨q25, trivial⟩, by kernel_rfl⟩))⟩,
                wE (fun k => obR [] (by kernel_rfl) (fun _ => ⟨[], trivial, by kernel_rfl⟩))⟩,
                wE (fun k => obR [.pt i21] (by kernel_rfl) (fun _ => ⟨[_], ⟨hi21, trivial⟩, by kernel_rfl⟩))⟩,
                wE (fun k => obR [] (by kernel_rfl) (fun _ => ⟨[], trivial, by kernel_rfl⟩))⟩,
                wE (fun k => obR [.ob dh o22] (by kernel_rfl) (fun _ => ⟨[_], ⟨(Gg (σ := σ) ho22), trivial⟩, by kernel_rfl⟩))⟩,
                wE (fun k => obR [] (by kernel_rfl) (fun _ => ⟨[_], ⟨q26, trivial⟩, by kernel_rfl⟩))⟩ (fun a w G hl2 hE hH => ?_)
        have hle := Gh.le_trans hle hl2
        refine mQ 2 [] [(38, .kv .bool ((x19.take (Int.toNat (IntKind.wrap .i64 ((o22.2.1.length : Int) + 1)))) == (o22.2.1 ++ [46])))] (Os := []) trivial hE hH (by kernel_rfl) (fun a hE => ?_)
        refine aS (by kernel_rfl) ?_
        refine Exit.aC (hK23 _ _ ?_)
        refine GM (b := (x19.take (Int.toNat (IntKind.wrap .i64 ((o22.2.1.length : Int) + 1)))) == (o22.2.1 ++ [46])) hE (by kernel_rfl) (fun hc => ?_) (fun hc => ?_)
        · replace h := ifT hc h
          refine wp_seq_k (fun K hK27 => ?_)
          refine aF ?_
          obtain ⟨q28, h⟩ := gd h
          refine mQ 3 [] [(41, .kv .str (x19.drop (Int.toNat (IntKind.wrap .i64 ((o22.2.1.length : Int) + 1)))))] (Os := [_]) ⟨q28, trivial⟩ hE hH (by kernel_rfl) (fun a hE => ?_)
          obtain ⟨r29, hr29, h⟩ := bs h
          refine Uo (d := (some 42)) (VD (k := .str) (kr := .i) (g := fun (x : List UInt8) (_ : St) => uy x) J6 hr29) hE hH (aP.cons (fun _ _ _ => rfl) hN) (by kernel_rfl) (by kernel_rfl) trivial (fun a w G hl3 hE hH => ?_)
          have hle := Gh.le_trans hle hl3
          refine mQ 1 [] [(7, .kv .i r29)] (Os := []) trivial hE hH (by kernel_rfl) (fun a hE => ?_)
          refine aS (by kernel_rfl) ?_
          refine Exit.aC (hK27 _ _ ?_)
          refine wp_seq_k (fun K hK30 => ?_)
          refine aF ?_
          refine mQ 2 [] [(44, .kv .bool (decide (r29 ≥ 0)))] (Os := []) trivial hE hH (by kernel_rfl) (fun a hE => ?_)
          refine aS (by kernel_rfl) ?_
          refine Exit.aC (hK30 _ _ ?_)
          refine GM (b := decide (r29 ≥ 0)) hE (by kernel_rfl) (fun hc => ?_) (fun hc => ?_)
          · replace h := ifT hc h
            refine aF ?_
            refine mQ 2 [] [(45, .val v8), (46, .kv .i r29)] (Os := []) trivial hE hH (by kernel_rfl) (fun a hE => ?_)
            refine VF (d := (some 47)) .i [r29] hE hH (by kernel_rfl) (by kernel_rfl) (fun a w G hl4 hE hH => ?_)
            have hle := Gh.le_trans hle hl4
            obtain ⟨q31, h⟩ := gd h
            refine Un (bt := 8) (ys := [r29]) (e' := 3) (d := (some 48)) 0 hE hH (by kernel_rfl) rfl (by kernel_rfl) q31 (fun v32 a w G hl5 hE hH _ _ => ?_)
            have hle := Gh.le_trans hle hl5
            refine mQ 1 [] [(3, .val v32)] (Os := []) trivial hE hH (by kernel_rfl) (fun a hE => ?_)
            refine aS (by kernel_rfl) ?_
            refine Exit.yu ?_
            refine Exit.aC (hK17 _ _ ?_)
            refine aF ?_
            refine mQ 2 [] [(14, .kv .i (IntKind.wrap .i64 (x10 + 1)))] (Os := []) trivial hE hH (by kernel_rfl) (fun a hE => ?_)
            refine aS (by kernel_rfl) ?_
            refine Exit.aC ?_
            exact ih14 _ _ _ h _ _ _ v32 hle (hE.CV (by kernel_rfl)) hH hx12
          · replace h := ifF hc h
            refine wp_skip ?_
            refine Exit.yu ?_
            refine Exit.aC (hK17 _ _ ?_)
            refine aF ?_
            refine mQ 2 [] [(14, .kv .i (IntKind.wrap .i64 (x10 + 1)))] (Os := []) trivial hE hH (by kernel_rfl) (fun a hE => ?_)
            refine aS (by kernel_rfl) ?_
            refine Exit.aC ?_
            exact ih14 _ _ _ h _ _ _ v8 hle (hE.CV (by kernel_rfl)) hH hx12
        · replace h := ifF hc h
          refine wp_skip ?_
          refine Exit.yu ?_
          refine Exit.aC (hK17 _ _ ?_)
          refine aF ?_
          refine mQ 2 [] [(14, .kv .i (IntKind.wrap .i64 (x10 + 1)))] (Os := []) trivial hE hH (by kernel_rfl) (fun a hE => ?_)
          refine aS (by kernel_rfl) ?_
          refine Exit.aC ?_
          exact ih14 _ _ _ h _ _ _ v8 hle (hE.CV (by kernel_rfl)) hH hx12
      · replace h := ifN hc h
        have c33 := hc
        refine NG 13 [] [(0, 0), (0, 0), (0, 0), (0, 0), (0, 0), (0, 0), (0, 0), (0, 0), (0, 0), (0, 0), (0, 0), (0, 0), (0, 0)] [.kv .str x19, .kv .i (x19.length : Int), .kv .i (IntKind.wrap .i64 ((o22.2.1.length : Int) + 1)), .kv .bool (decide ((x19.length : Int) > (IntKind.wrap .i64 ((o22.2.1.length : Int) + 1)))), .kv .bool false, .undef, .undef, .undef, .undef, .undef, .undef, .undef, .undef] (fun _ => aV TB σ) (fun _ _ => LS.raw v8 3 8 .i l9 :: Ls) (by kernel_rfl) (by kernel_rfl) hE hH
                ⟨⟨⟨⟨⟨⟨⟨⟨⟨⟨⟨⟨⟨trivial,
                wE (fun k => obR [] (by kernel_rfl) (fun _ => ⟨[], trivial, by kernel_rfl⟩))⟩,
                wE (fun k => obR [] (by kernel_rfl) (fun _ => ⟨[], trivial, by kernel_rfl⟩))⟩,
                wE (fun k => obR [] (by kernel_rfl) (fun _ => ⟨[], trivial, by kernel_rfl⟩))⟩,
                wE (fun k => obR [] (by kernel_rfl) (fun _ => ⟨[], trivial, by kernel_rfl⟩))⟩,
                wE (fun k => ad4 [] (by kernel_rfl) (fun _ => ⟨[], trivial, by kernel_rfl⟩) (eb2 (bf c33) rfl))⟩,
                wE (fun k => obR [] (by kernel_rfl) (fun _ => ⟨[], trivial, by kernel_rfl⟩))⟩,
                wE (fun k => obR [] (by kernel_rfl) (fun _ => ⟨[], trivial, by kernel_rfl⟩))⟩,
                wE (fun k => obR [] (by kernel_rfl) (fun _ => ⟨[], trivial, by kernel_rfl⟩))⟩,
                wE (fun k => obR [] (by kernel_rfl) (fun _ => ⟨[], trivial, by kernel_rfl⟩))⟩,
                wE (fun k => obR [] (by kernel_rfl) (fun _ => ⟨[], trivial, by kernel_rfl⟩))⟩,
                wE (fun k => obR [] (by kernel_rfl) (fun _ => ⟨[], trivial, by kernel_rfl⟩))⟩,
                wE (fun k => obR [] (by kernel_rfl) (fun _ => ⟨[], trivial, by kernel_rfl⟩))⟩,
                wE (fun k => obR [] (by kernel_rfl) (fun _ => ⟨[], trivial, by kernel_rfl⟩))⟩ (fun a w G hl6 hE hH => ?_)
        have hle := Gh.le_trans hle hl6
        refine mQ 2 [] [(38, .kv .bool false)] (Os := []) trivial hE hH (by kernel_rfl) (fun a hE => ?_)
        refine aS (by kernel_rfl) ?_
        refine Exit.aC (hK23 _ _ ?_)
        refine Y2 hE (by kernel_rfl) rfl ?_
        refine wp_skip ?_
        refine Exit.yu ?_
        refine Exit.aC (hK17 _ _ ?_)
        refine aF ?_
        refine mQ 2 [] [(14, .kv .i (IntKind.wrap .i64 (x10 + 1)))] (Os := []) trivial hE hH (by kernel_rfl) (fun a hE => ?_)
        refine aS (by kernel_rfl) ?_
        refine Exit.aC ?_
        exact ih14 _ _ _ h _ _ _ v8 hle (hE.CV (by kernel_rfl)) hH hx12
    · replace h := ifF hc h
      refine wp_exit ?_
      refine Exit.yA ?_
      refine Exit.yA ?_
      cases h
      exact hx12 _ rfl _ _ _ v8 hle (hE.CV (by kernel_rfl)) hH
  refine key _ _ _ hz34 _ _ _ (.slice none 0 0) hle (hE.CV (by kernel_rfl)) hH ?_
  · intro z35 hz a w G v8 hle hE hH
    subst hz
    rw [hQ]
    refine Exit.WH ?_
    refine Exit.aC (hK3 _ _ ?_)
    refine wp_seq_k (fun K hK36 => ?_)
    refine aF ?_
    refine mQ 1 [] [(50, .val v8)] (Os := []) trivial hE hH (by kernel_rfl) (fun a hE => ?_)
    obtain ⟨q37, h⟩ := gd h
    refine PZ (f := 95) (As := [.val v8]) (R := .tup []) (d := (some 51)) (T' := aV TB σ) (Ls' := LS.raw v8 3 8 .i (uY z34.1) :: Ls) (by kernel_rfl) (fun args hA => ?_) hE (by kernel_rfl) (by kernel_rfl) trivial (fun a w G hl7 hE hH => ?_)
    · obtain rfl := ab7 hA
      exact Rx (j := 0) hH rfl q37
    · have hle := Gh.le_trans hle hl7
      obtain ⟨G, hl8, hv38, hH⟩ := hH.aei
      have hle := Gh.le_trans hle hl8
      have hE := hE.mono hl8
      have hE := dE.more (v := v8) (e := .kv (.list .i) (uY z34.1)) hE 3 (by kernel_rfl) hv38
      have hE := dE.more (v := v8) (e := .kv (.list .i) (uY z34.1)) hE 50 (by kernel_rfl) hv38
      refine aS (by kernel_rfl) ?_
      refine Exit.aC (hK36 _ _ ?_)
      refine wp_seq_k (fun K hK39 => ?_)
      refine aF ?_
      refine mQ 2 [] [(2, .kv (.list .i) (uY z34.1))] (Os := []) trivial hE hH (by kernel_rfl) (fun a hE => ?_)
      refine aS (by kernel_rfl) ?_
      refine Exit.aC (hK39 _ _ ?_)
      refine wp_ret ?_
      cases h
      exact aaH rfl hE hle hH (by kernel_rfl)
noncomputable def AX : Kn St := ⟨61, [.kv (.ptr jH)], [.kv (.list .i)], .ro fun x σ => jd x.1 σ⟩
theorem Fg : AX.ok Tryz.prog TB := Gi (by kernel_rfl) fun _ _ _ h => ET h
end Go.Proofs.YtbnmhjobnepajaaGreat.M


set_option maxRecDepth 100000
namespace Go.Proofs.YtbnmhjobnepajaaGreat.M
open Go.Proofs
noncomputable def Gu (self : Int → Option (List UInt8)) (p0 : Int) : Option (List UInt8) :=
  if decide (p0 < 10) = true then
  some (bQ [IntKind.wrap .u8 (IntKind.wrap .i64 (48 + p0))])
  else
  Option.bind (self (IntKind.wrap .i64 (p0.tdiv (10 : Int)))) fun x0 =>
  if (x0.length + (bQ [IntKind.wrap .u8 (IntKind.wrap .i64 (48 + p0.tmod (10 : Int)))]).length) ≤ 9223372036854775807 then
  some (x0 ++ bQ [IntKind.wrap .u8 (IntKind.wrap .i64 (48 + p0.tmod (10 : Int)))])
  else
  none
noncomputable def nZ (p0 : Int) : Option (List UInt8) :=
  if decide (p0 < 10) = true then
  some (bQ [IntKind.wrap .u8 (IntKind.wrap .i64 (48 + p0))])
  else
  nZ (IntKind.wrap .i64 (p0.tdiv (10 : Int))) >>= fun x0 =>
  if (x0.length + (bQ [IntKind.wrap .u8 (IntKind.wrap .i64 (48 + p0.tmod (10 : Int)))]).length) ≤ 9223372036854775807 then
  some (x0 ++ bQ [IntKind.wrap .u8 (IntKind.wrap .i64 (48 + p0.tmod (10 : Int)))])
  else
  none
  partial_fixpoint
noncomputable def Hy : Kn St := ⟨71, [.kv .i], [.kv .str], .ro fun x σ => nZ x.1⟩
theorem SH (self : Int → Option (List UInt8)) (h : Kn.ok Tryz.prog TB (⟨71, [.kv .i], [.kv .str], .ro fun x σ => self x.1⟩ : Kn St)) : Kn.ok Tryz.prog TB (⟨71, [.kv .i], [.kv .str], .ro fun x σ => Gu self x.1⟩ : Kn St) :=
  fD ⟨Tryz.prog, TB, 20, KLs, MLs, [], [], [], [⟨71, [.kv .i], [.kv .str], .ro fun x σ => self x.1⟩]⟩ ⟨[], [], [], []⟩ aK ⟨h, trivial⟩ (fn := Tryz.f71) (by kernel_rfl) (by kernel_rfl) (by kernel_rfl)
theorem J5 : Hy.ok Tryz.prog TB := by
  have hc : callable Tryz.prog 71 = true := by kernel_rfl
  refine Ns hc fun x y hx => ?_
  obtain ⟨n, ⟨⟩⟩ := x
  exact nZ.partial_correctness (fun n r => UE Tryz.prog TB 71 [.kv .i] [.kv .str] (n, ()) r)
    (fun self ih n r h => VB (P := Tryz.prog) (TB := TB) (f := 71) (ps := [.kv .i]) (rs := [.kv .str]) (g := fun x => Gu self x.1) (SH self (Ns hc fun x y hx => ih x.1 y hx)) (x := (n, ())) h) n y hx
end Go.Proofs.YtbnmhjobnepajaaGreat.M


set_option maxRecDepth 100000
namespace Go.Proofs.YtbnmhjobnepajaaGreat.M
open Go.Proofs
noncomputable def sG (p0 : Int) (σ : St) : Option (((Option Nat) × Int) × St) :=
  if (decide (p0 < 0) || decide (p0 > 1048576)) = true then
  some ((none, (2 : Int)), σ)
  else
  some ((some σ.af.length, (0 : Int)), (σ.bF (σ.af ++ [(p0, ([], ((0 : Int), (false, ()))))])))

noncomputable def F8 : Kn St := ⟨8, [.kv .i], [.kv (.ptr di), .kv .i], .rw fun x σ => sG x.1 σ⟩

theorem FM : F8.ok Tryz.prog TB := nN ⟨Tryz.prog, TB, 14, KLs, MLs, [], [], [], []⟩ ⟨[], [], [], []⟩ aK trivial (fn := Tryz.f8) (by kernel_rfl) (by kernel_rfl) (by kernel_rfl)
noncomputable def uw (p0 : List UInt8) (s0 : Int) : Option (Int ⊕ (Unit ⊕ Bool)) :=
  if decide (s0 < (p0.length : Int)) = true then
  if 0 ≤ s0 ∧ s0 < (p0.length : Int) then
  if ((!(decide (btS p0 s0 < 97))) = true → 0 ≤ s0 ∧ s0 < (p0.length : Int)) then
  if (decide (btS p0 s0 < 97) || decide (btS p0 s0 > 122)) = true then
  some (.inr (.inr false))
  else
  some (.inl (IntKind.wrap .i64 (s0 + 1)))
  else
  none
  else
  none
  else
  some (.inr (.inl ()))

noncomputable def zx (p0 : List UInt8) : Option Bool :=
  Option.bind (aY (uw p0) (0 : Int)) fun x1 =>
  kC x1 (fun x2 =>
  some (decide ((p0.length : Int) ≥ 1) && decide ((p0.length : Int) ≤ 8))) Option.some

noncomputable def JD : Kn St := ⟨34, [.kv .str], [.kv .bool], .ro fun x σ => zx x.1⟩

theorem MW : JD.ok Tryz.prog TB := fD ⟨Tryz.prog, TB, 28, KLs, MLs, [], [], [], []⟩ ⟨[], [], [], [(2, ⟨[(6, .kv .i)], false, [⟨.ext 0, []⟩], true, []⟩)]⟩ aK trivial (fn := Tryz.f34) (by kernel_rfl) (by kernel_rfl) (by kernel_rfl)
noncomputable def qF (p0 : Option Nat) (σ : St) : Option Bool :=
  Option.bind (if (!p0.isNone) = true then
  p0
  else
  some 0) fun x0 =>
  Option.bind (if (!p0.isNone) = true then
  σ.af[x0]?
  else
  some ((0 : Int), ([], ((0 : Int), (false, ()))))) fun x1 =>
  some ((!p0.isNone) && x1.2.2.2.1)

noncomputable def Ai : Kn St := ⟨35, [.kv (.ptr di)], [.kv .bool], .ro fun x σ => qF x.1 σ⟩

theorem EX : Ai.ok Tryz.prog TB := fD ⟨Tryz.prog, TB, 11, KLs, MLs, [], [], [], []⟩ ⟨[], [], [], []⟩ aK trivial (fn := Tryz.f35) (by kernel_rfl) (by kernel_rfl) (by kernel_rfl)
noncomputable def nD (p0 : Option Nat) (σ : St) : Option (Option Nat) :=
  Option.bind p0 fun x0 =>
  Option.bind σ.aj[x0]? fun x1 =>
  if ((x1.2.2.2.1.length : Int) == 0) = true then
  some none
  else
  Option.bind p0 fun x2 =>
  Option.bind σ.aj[x2]? fun x3 =>
  Option.bind p0 fun x4 =>
  Option.bind σ.aj[x4]? fun x5 =>
  Option.bind (ix x3.2.2.2.1 (IntKind.wrap .i64 ((x5.2.2.2.1.length : Int) - 1))) fun x6 =>
  some x6

noncomputable def uT : Kn St := ⟨37, [.kv (.ptr jH)], [.kv (.ptr mF)], .ro fun x σ => nD x.1 σ⟩

theorem uU : uT.ok Tryz.prog TB := fD ⟨Tryz.prog, TB, 21, KLs, MLs, [], [], [], []⟩ ⟨[], [], [], []⟩ aK trivial (fn := Tryz.f37) (by kernel_rfl) (by kernel_rfl) (by kernel_rfl)
noncomputable def iP (p0 : Option Nat) (σ : St) : Option Int :=
  Option.bind (if (!p0.isNone) = true then
  p0
  else
  some 0) fun x0 =>
  Option.bind (if (!p0.isNone) = true then
  σ.aj[x0]?
  else
  some (none, ([], ((0 : Int), ([], ((0 : Int), ())))))) fun x1 =>
  if (p0.isNone || ((x1.2.2.2.1.length : Int) == 0)) = true then
  some (0 : Int)
  else
  Option.bind (nD p0 σ) fun x2 =>
  Option.bind x2 fun x3 =>
  Option.bind σ.ae[x3]? fun x4 =>
  Option.bind x2 fun x5 =>
  Option.bind σ.ae[x5]? fun x6 =>
  some (IntKind.wrap .i64 (x4.1 + (x6.2.1.length : Int)))

noncomputable def nM : Kn St := ⟨30, [.kv (.ptr jH)], [.kv .i], .ro fun x σ => iP x.1 σ⟩

theorem mf : nM.ok Tryz.prog TB := fD ⟨Tryz.prog, TB, 26, KLs, MLs, [], [], [], [uT]⟩ ⟨[], [], [], []⟩ aK ⟨uU, trivial⟩ (fn := Tryz.f30) (by kernel_rfl) (by kernel_rfl) (by kernel_rfl)
noncomputable def gy (p0 : Option Nat) (p1 : Option Nat) (σ : St) : Option (List UInt8) :=
  Option.bind p0 fun x0 =>
  Option.bind σ.aj[x0]? fun x1 =>
  if (x1.2.1.length + 1) ≤ 9223372036854775807 then
  Option.bind p1 fun x2 =>
  Option.bind σ.ae[x2]? fun x3 =>
  Option.bind (nZ x3.1) fun x4 =>
  if ((x1.2.1 ++ [46]).length + x4.length) ≤ 9223372036854775807 then
  some ((x1.2.1 ++ [46]) ++ x4)
  else
  none
  else
  none

noncomputable def qw : Kn St := ⟨40, [.kv (.ptr jH), .kv (.ptr mF)], [.kv .str], .ro fun x σ => gy x.1 x.2.1 σ⟩

theorem pJ : qw.ok Tryz.prog TB := fD ⟨Tryz.prog, TB, 16, KLs, MLs, [], [], [], [Hy]⟩ ⟨[], [], [], []⟩ aK ⟨J5, trivial⟩ (fn := Tryz.f40) (by kernel_rfl) (by kernel_rfl) (by kernel_rfl)
noncomputable def lS (p0 : Option Nat) (σ : St) : Option Int :=
  if p0.isNone = true then
  some (1 : Int)
  else
  Option.bind p0 fun x0 =>
  Option.bind σ.af[x0]? fun x1 =>
  if x1.2.2.2.1 = true then
  some (11 : Int)
  else
  some (0 : Int)

noncomputable def uO : Kn St := ⟨51, [.kv (.ptr di)], [.kv .i], .ro fun x σ => lS x.1 σ⟩

theorem wO : uO.ok Tryz.prog TB := fD ⟨Tryz.prog, TB, 11, KLs, MLs, [], [], [], []⟩ ⟨[], [], [], []⟩ aK trivial (fn := Tryz.f51) (by kernel_rfl) (by kernel_rfl) (by kernel_rfl)
noncomputable def iZ (p0 : Option Nat) (p1 : List UInt8) (σ : St) : Option ((Option Nat) × Int) :=
  Option.bind (lS p0 σ) fun x0 =>
  if (x0 != 0) = true then
  some (none, x0)
  else
  Option.bind p0 fun x1 =>
  Option.bind σ.af[x1]? fun x2 =>
  Option.bind σ.af[x1]? fun x3 =>
  if ((bW Kd.str (Kd.ptr 93) p1 x3.2.1).getD none).isNone = true then
  some (none, (8 : Int))
  else
  some ((bW Kd.str (Kd.ptr 93) p1 x3.2.1).getD none, (0 : Int))

noncomputable def nH : Kn St := ⟨72, [.kv (.ptr di), .kv .str], [.kv (.ptr ax), .kv .i], .ro fun x σ => iZ x.1 x.2.1 σ⟩

theorem ng : nH.ok Tryz.prog TB := fD ⟨Tryz.prog, TB, 22, KLs, MLs, [], [], [], [uO]⟩ ⟨[], [], [], []⟩ aK ⟨wO, trivial⟩ (fn := Tryz.f72) (by kernel_rfl) (by kernel_rfl) (by kernel_rfl)
noncomputable def qG (p0 : Option Nat) (p1 : List UInt8) (σ : St) : Option ((List UInt8) × Int) :=
  Option.bind (iZ p0 p1 σ) fun x0 =>
  if (x0.2 != 0) = true then
  some ([], x0.2)
  else
  Option.bind x0.1 fun x1 =>
  Option.bind σ.ai[x1]? fun x2 =>
  some (x2.1, (0 : Int))

noncomputable def Ak : Kn St := ⟨96, [.kv (.ptr di), .kv .str], [.kv .str, .kv .i], .ro fun x σ => qG x.1 x.2.1 σ⟩

theorem EZ : Ak.ok Tryz.prog TB := fD ⟨Tryz.prog, TB, 21, KLs, MLs, [], [], [], [nH]⟩ ⟨[], [], [], []⟩ aK ⟨ng, trivial⟩ (fn := Tryz.f96) (by kernel_rfl) (by kernel_rfl) (by kernel_rfl)
noncomputable def kG (p0 : List UInt8) (p1 : Int) (s0 : Int × Int) : Option ((Int × Int) ⊕ (Unit ⊕ (Int × Int × Int))) :=
  if decide (IntKind.wrap .i64 (p1 + s0.2) < (p0.length : Int)) = true then
  if 0 ≤ IntKind.wrap .i64 (p1 + s0.2) ∧ IntKind.wrap .i64 (p1 + s0.2) < (p0.length : Int) then
  if ((s0.2 == 9) && decide (btS p0 (IntKind.wrap .i64 (p1 + s0.2)) > 1)) = true then
  some (.inr (.inr ((0 : Int), ((0 : Int), (6 : Int)))))
  else
  if 0 ≤ IntKind.wrap .i64 (7 * s0.2) then
  if decide (btS p0 (IntKind.wrap .i64 (p1 + s0.2)) ≥ 128) = true then
  some (.inl (IntKind.wrap .u64 ((BitVec.ofInt 64 s0.1 ||| BitVec.ofInt 64 (IntKind.wrap .u64 (IntKind.wrap .u64 (IntKind.wrap .u8 ((BitVec.ofInt 8 (btS p0 (IntKind.wrap .i64 (p1 + s0.2))) &&& BitVec.ofInt 8 (127 : Int)).toNat : Int)) * (2 ^ min ((IntKind.wrap .i64 (7 * s0.2)).toNat) 64)))).toNat : Int), IntKind.wrap .i64 (s0.2 + 1)))
  else
  if ((btS p0 (IntKind.wrap .i64 (p1 + s0.2)) == 0) && decide (s0.2 > 0)) = true then
  some (.inr (.inr ((0 : Int), ((0 : Int), (6 : Int)))))
  else
  Option.bind (if (IntKind.wrap .u64 ((BitVec.ofInt 64 (IntKind.wrap .u64 ((BitVec.ofInt 64 s0.1 ||| BitVec.ofInt 64 (IntKind.wrap .u64 (IntKind.wrap .u64 (IntKind.wrap .u8 ((BitVec.ofInt 8 (btS p0 (IntKind.wrap .i64 (p1 + s0.2))) &&& BitVec.ofInt 8 (127 : Int)).toNat : Int)) * (2 ^ min ((IntKind.wrap .i64 (7 * s0.2)).toNat) 64)))).toNat : Int)) &&& BitVec.ofInt 64 (1 : Int)).toNat : Int) == 1) = true then
  some (IntKind.wrap .i64 ((BitVec.ofInt 64 (-1 : Int) ^^^ BitVec.ofInt 64 (IntKind.wrap .i64 ((IntKind.wrap .u64 ((BitVec.ofInt 64 s0.1 ||| BitVec.ofInt 64 (IntKind.wrap .u64 (IntKind.wrap .u64 (IntKind.wrap .u8 ((BitVec.ofInt 8 (btS p0 (IntKind.wrap .i64 (p1 + s0.2))) &&& BitVec.ofInt 8 (127 : Int)).toNat : Int)) * (2 ^ min ((IntKind.wrap .i64 (7 * s0.2)).toNat) 64)))).toNat : Int)).fdiv (2 : Int)))).toNat : Int))
  else
  some (IntKind.wrap .i64 ((IntKind.wrap .u64 ((BitVec.ofInt 64 s0.1 ||| BitVec.ofInt 64 (IntKind.wrap .u64 (IntKind.wrap .u64 (IntKind.wrap .u8 ((BitVec.ofInt 8 (btS p0 (IntKind.wrap .i64 (p1 + s0.2))) &&& BitVec.ofInt 8 (127 : Int)).toNat : Int)) * (2 ^ min ((IntKind.wrap .i64 (7 * s0.2)).toNat) 64)))).toNat : Int)).fdiv (2 : Int)))) fun x1 =>
  some (.inr (.inr (x1, (IntKind.wrap .i64 (IntKind.wrap .i64 (p1 + s0.2) + 1), (0 : Int)))))
  else
  none
  else
  none
  else
  some (.inr (.inl ()))

noncomputable def fA (p0 : List UInt8) (p1 : Int) : Option (Int × Int × Int) :=
  if (decide (p1 < 0) || decide (p1 > (p0.length : Int))) = true then
  some ((0 : Int), ((0 : Int), (3 : Int)))
  else
  Option.bind (aY (kG p0 p1) ((0 : Int), (0 : Int))) fun x2 =>
  kC x2 (fun x3 =>
  some ((0 : Int), ((0 : Int), (5 : Int)))) Option.some

noncomputable def ku : Kn St := ⟨107, [.kv .str, .kv .i], [.kv .i, .kv .i, .kv .i], .ro fun x σ => fA x.1 x.2.1⟩

theorem kJ : ku.ok Tryz.prog TB := fD ⟨Tryz.prog, TB, 67, KLs, MLs, [], [], [], []⟩ ⟨[], [(16, ⟨[], false, [⟨.nrm, [(10, .kv .i)]⟩], false, []⟩)], [], [(5, ⟨[(7, .kv (.int .u64)), (8, .kv .i)], false, [⟨.ext 0, []⟩], true, []⟩)]⟩ aK trivial (fn := Tryz.f107) (by kernel_rfl) (by kernel_rfl) (by kernel_rfl)
noncomputable def nT (s0 : Int × Int) : Option ((Int × Int) ⊕ Int) :=
  if decide (s0.2 < 8) = true then
  if (IntKind.wrap .u32 ((BitVec.ofInt 32 s0.1 &&& BitVec.ofInt 32 (1 : Int)).toNat : Int) == 1) = true then
  some (.inl (IntKind.wrap .u32 ((BitVec.ofInt 32 (s0.1.fdiv (2 : Int)) ^^^ BitVec.ofInt 32 (2197175160 : Int)).toNat : Int), IntKind.wrap .i64 (s0.2 + 1)))
  else
  some (.inl (s0.1.fdiv (2 : Int), IntKind.wrap .i64 (s0.2 + 1)))
  else
  some (.inr s0.1)

noncomputable def rO (p0 : Int) (p1 : Int) : Option Int :=
  Option.bind (aY nT (IntKind.wrap .u32 ((BitVec.ofInt 32 p0 ^^^ BitVec.ofInt 32 (IntKind.wrap .u32 p1)).toNat : Int), (0 : Int))) fun x1 =>
  some x1

noncomputable def BZ : Kn St := ⟨144, [.kv (.int .u32), .kv (.int .u8)], [.kv (.int .u32)], .ro fun x σ => rO x.1 x.2.1⟩

theorem F5 : BZ.ok Tryz.prog TB := fD ⟨Tryz.prog, TB, 22, KLs, MLs, [], [], [], []⟩ ⟨[], [], [], [(3, ⟨[(0, .kv (.int .u32)), (10, .kv .i)], false, [⟨.ext 0, [(0, .kv (.int .u32))]⟩], false, []⟩)]⟩ aK trivial (fn := Tryz.f144) (by kernel_rfl) (by kernel_rfl) (by kernel_rfl)
noncomputable def rM (p1 : List UInt8) (s0 : Int × Int) : Option ((Int × Int) ⊕ Int) :=
  if decide (s0.2 < (p1.length : Int)) = true then
  if 0 ≤ s0.2 ∧ s0.2 < (p1.length : Int) then
  Option.bind (rO s0.1 (btS p1 s0.2)) fun x1 =>
  some (.inl (x1, IntKind.wrap .i64 (s0.2 + 1)))
  else
  none
  else
  some (.inr s0.1)

noncomputable def xN (p0 : Int) (p1 : List UInt8) : Option Int :=
  Option.bind (aY (rM p1) (IntKind.wrap .u32 ((BitVec.ofInt 32 (4294967295 : Int) ^^^ BitVec.ofInt 32 p0).toNat : Int), (0 : Int))) fun x2 =>
  some (IntKind.wrap .u32 ((BitVec.ofInt 32 (4294967295 : Int) ^^^ BitVec.ofInt 32 x2).toNat : Int))

noncomputable def Hg : Kn St := ⟨115, [.kv (.int .u32), .kv .str], [.kv (.int .u32)], .ro fun x σ => xN x.1 x.2.1⟩

theorem JX : Hg.ok Tryz.prog TB := fD ⟨Tryz.prog, TB, 22, KLs, MLs, [], [], [], [BZ]⟩ ⟨[], [], [], [(3, ⟨[(5, .kv (.int .u32)), (11, .kv .i)], false, [⟨.ext 0, [(5, .kv (.int .u32))]⟩], false, []⟩)]⟩ aK ⟨F5, trivial⟩ (fn := Tryz.f115) (by kernel_rfl) (by kernel_rfl) (by kernel_rfl)
noncomputable def wG (p0 : List UInt8) : Option Int :=
  Option.bind (xN (0 : Int) p0) fun x0 =>
  some x0

noncomputable def DJ : Kn St := ⟨101, [.kv .str], [.kv (.int .u32)], .ro fun x σ => wG x.1⟩

theorem DK : DJ.ok Tryz.prog TB := fD ⟨Tryz.prog, TB, 5, KLs, MLs, [], [], [], [Hg]⟩ ⟨[], [], [], []⟩ aK ⟨JX, trivial⟩ (fn := Tryz.f101) (by kernel_rfl) (by kernel_rfl) (by kernel_rfl)
noncomputable def rE (p0 : Int) : Option (List UInt8) :=
  some (bQ [IntKind.wrap .u8 p0, IntKind.wrap .u8 (p0.fdiv (256 : Int)), IntKind.wrap .u8 (p0.fdiv (65536 : Int)), IntKind.wrap .u8 (p0.fdiv (16777216 : Int))])

noncomputable def zO : Kn St := ⟨100, [.kv (.int .u32)], [.kv .str], .ro fun x σ => rE x.1⟩

theorem Ae : zO.ok Tryz.prog TB := fD ⟨Tryz.prog, TB, 16, KLs, MLs, [], [], [], []⟩ ⟨[], [], [], []⟩ aK trivial (fn := Tryz.f100) (by kernel_rfl) (by kernel_rfl) (by kernel_rfl)
noncomputable def xO (p0 : List UInt8) : Option ((List UInt8) × Int) :=
  if decide (IntKind.wrap .i64 ((p0.length : Int) - 4) < 0) = true then
  some ([], (5 : Int))
  else
  if 0 ≤ IntKind.wrap .i64 ((p0.length : Int) - 4) ∧ IntKind.wrap .i64 ((p0.length : Int) - 4) ≤ (p0.length : Int) then
  Option.bind (wG (p0.take ((IntKind.wrap .i64 ((p0.length : Int) - 4)).toNat))) fun x0 =>
  Option.bind (rE x0) fun x1 =>
  if 0 ≤ IntKind.wrap .i64 ((p0.length : Int) - 4) ∧ IntKind.wrap .i64 ((p0.length : Int) - 4) ≤ (p0.length : Int) then
  if (!(x1 == p0.drop ((IntKind.wrap .i64 ((p0.length : Int) - 4)).toNat))) = true then
  some ([], (7 : Int))
  else
  if 0 ≤ IntKind.wrap .i64 ((p0.length : Int) - 4) ∧ IntKind.wrap .i64 ((p0.length : Int) - 4) ≤ (p0.length : Int) then
  some (p0.take ((IntKind.wrap .i64 ((p0.length : Int) - 4)).toNat), (0 : Int))
  else
  none
  else
  none
  else
  none

noncomputable def Hl : Kn St := ⟨143, [.kv .str], [.kv .str, .kv .i], .ro fun x σ => xO x.1⟩

theorem JY : Hl.ok Tryz.prog TB := fD ⟨Tryz.prog, TB, 24, KLs, MLs, [], [], [], [DJ, zO]⟩ ⟨[], [], [], []⟩ aK ⟨DK, Ae, trivial⟩ (fn := Tryz.f143) (by kernel_rfl) (by kernel_rfl) (by kernel_rfl)
noncomputable def nY (s1 : Int × (Int × Int × Int × Int × Int × Int × Int × Int × Int × Int × Unit) × Int) : Option ((Int × (Int × Int × Int × Int × Int × Int × Int × Int × Int × Int × Unit) × Int) ⊕ (Int × (Int × Int × Int × Int × Int × Int × Int × Int × Int × Int × Unit) × Int)) :=
  if decide (s1.1 ≥ 128) = true then
  if 0 ≤ s1.2.2 ∧ s1.2.2 < 10 then
  some (.inl (s1.1.fdiv (128 : Int), (y5 (Kd.pair (Kd.int Go.IntKind.u8) (Kd.pair (Kd.int Go.IntKind.u8) (Kd.pair (Kd.int Go.IntKind.u8) (Kd.pair (Kd.int Go.IntKind.u8) (Kd.pair (Kd.int Go.IntKind.u8) (Kd.pair (Kd.int Go.IntKind.u8) (Kd.pair (Kd.int Go.IntKind.u8) (Kd.pair (Kd.int Go.IntKind.u8) (Kd.pair (Kd.int Go.IntKind.u8) (Kd.pair (Kd.int Go.IntKind.u8) Kd.unit)))))))))) s1.2.1 s1.2.2.toNat (IntKind.wrap .u8 ((BitVec.ofInt 8 (IntKind.wrap .u8 s1.1) ||| BitVec.ofInt 8 (128 : Int)).toNat : Int)), IntKind.wrap .i64 (s1.2.2 + 1))))
  else
  none
  else
  some (.inr (s1.1, (s1.2.1, s1.2.2)))

noncomputable def dX (p0 : Int) : Option (List UInt8) :=
  Option.bind (if decide (p0 < 0) = true then
  some (IntKind.wrap .u64 ((BitVec.ofInt 64 (18446744073709551615 : Int) ^^^ BitVec.ofInt 64 (IntKind.wrap .u64 (IntKind.wrap .u64 p0 * 2))).toNat : Int))
  else
  some (IntKind.wrap .u64 (IntKind.wrap .u64 p0 * 2))) fun x0 =>
  Option.bind (aY nY (x0, (((0 : Int), ((0 : Int), ((0 : Int), ((0 : Int), ((0 : Int), ((0 : Int), ((0 : Int), ((0 : Int), ((0 : Int), ((0 : Int), ())))))))))), (0 : Int)))) fun x2 =>
  if 0 ≤ x2.2.2 ∧ x2.2.2 < 10 then
  if 0 ≤ IntKind.wrap .i64 (x2.2.2 + 1) ∧ IntKind.wrap .i64 (x2.2.2 + 1) ≤ 10 then
  if (IntKind.wrap .i64 (x2.2.2 + 1)).toNat ≤ 10 then
  some (bQ ([(y5 (Kd.pair (Kd.int Go.IntKind.u8) (Kd.pair (Kd.int Go.IntKind.u8) (Kd.pair (Kd.int Go.IntKind.u8) (Kd.pair (Kd.int Go.IntKind.u8) (Kd.pair (Kd.int Go.IntKind.u8) (Kd.pair (Kd.int Go.IntKind.u8) (Kd.pair (Kd.int Go.IntKind.u8) (Kd.pair (Kd.int Go.IntKind.u8) (Kd.pair (Kd.int Go.IntKind.u8) (Kd.pair (Kd.int Go.IntKind.u8) Kd.unit)))))))))) x2.2.1 x2.2.2.toNat (IntKind.wrap .u8 x2.1)).1, ((y5 (Kd.pair (Kd.int Go.IntKind.u8) (Kd.pair (Kd.int Go.IntKind.u8) (Kd.pair (Kd.int Go.IntKind.u8) (Kd.pair (Kd.int Go.IntKind.u8) (Kd.pair (Kd.int Go.IntKind.u8) (Kd.pair (Kd.int Go.IntKind.u8) (Kd.pair (Kd.int Go.IntKind.u8) (Kd.pair (Kd.int Go.IntKind.u8) (Kd.pair (Kd.int Go.IntKind.u8) (Kd.pair (Kd.int Go.IntKind.u8) Kd.unit)))))))))) x2.2.1 x2.2.2.toNat (IntKind.wrap .u8 x2.1)).2).1, (((y5 (Kd.pair (Kd.int Go.IntKind.u8) (Kd.pair (Kd.int Go.IntKind.u8) (Kd.pair (Kd.int Go.IntKind.u8) (Kd.pair (Kd.int Go.IntKind.u8) (Kd.pair (Kd.int Go.IntKind.u8) (Kd.pair (Kd.int Go.IntKind.u8) (Kd.pair (Kd.int Go.IntKind.u8) (Kd.pair (Kd.int Go.IntKind.u8) (Kd.pair (Kd.int Go.IntKind.u8) (Kd.pair (Kd.int Go.IntKind.u8) Kd.unit)))))))))) x2.2.1 x2.2.2.toNat (IntKind.wrap .u8 x2.1)).2).2).1, ((((y5 (Kd.pair (Kd.int Go.IntKind.u8) (Kd.pair (Kd.int Go.IntKind.u8) (Kd.pair (Kd.int Go.IntKind.u8) (Kd.pair (Kd.int Go.IntKind.u8) (Kd.pair (Kd.int Go.IntKind.u8) (Kd.pair (Kd.int Go.IntKind.u8) (Kd.pair (Kd.int Go.IntKind.u8) (Kd.pair (Kd.int Go.IntKind.u8) (Kd.pair (Kd.int Go.IntKind.u8) (Kd.pair (Kd.int Go.IntKind.u8) Kd.unit)))))))))) x2.2.1 x2.2.2.toNat (IntKind.wrap .u8 x2.1)).2).2).2).1, (((((y5 (Kd.pair (Kd.int Go.IntKind.u8) (Kd.pair (Kd.int Go.IntKind.u8) (Kd.pair (Kd.int Go.IntKind.u8) (Kd.pair (Kd.int Go.IntKind.u8) (Kd.pair (Kd.int Go.IntKind.u8) (Kd.pair (Kd.int Go.IntKind.u8) (Kd.pair (Kd.int Go.IntKind.u8) (Kd.pair (Kd.int Go.IntKind.u8) (Kd.pair (Kd.int Go.IntKind.u8) (Kd.pair (Kd.int Go.IntKind.u8) Kd.unit)))))))))) x2.2.1 x2.2.2.toNat (IntKind.wrap .u8 x2.1)).2).2).2).2).1, ((((((y5 (Kd.pair (Kd.int Go.IntKind.u8) (Kd.pair (Kd.int Go.IntKind.u8) (Kd.pair (Kd.int Go.IntKind.u8) (Kd.pair (Kd.int Go.IntKind.u8) (Kd.pair (Kd.int Go.IntKind.u8) (Kd.pair (Kd.int Go.IntKind.u8) (Kd.pair (Kd.int Go.IntKind.u8) (Kd.pair (Kd.int Go.IntKind.u8) (Kd.pair (Kd.int Go.IntKind.u8) (Kd.pair (Kd.int Go.IntKind.u8) Kd.unit)))))))))) x2.2.1 x2.2.2.toNat (IntKind.wrap .u8 x2.1)).2).2).2).2).2).1, (((((((y5 (Kd.pair (Kd.int Go.IntKind.u8) (Kd.pair (Kd.int Go.IntKind.u8) (Kd.pair (Kd.int Go.IntKind.u8) (Kd.pair (Kd.int Go.IntKind.u8) (Kd.pair (Kd.int Go.IntKind.u8) (Kd.pair (Kd.int Go.IntKind.u8) (Kd.pair (Kd.int Go.IntKind.u8) (Kd.pair (Kd.int Go.IntKind.u8) (Kd.pair (Kd.int Go.IntKind.u8) (Kd.pair (Kd.int Go.IntKind.u8) Kd.unit)))))))))) x2.2.1 x2.2.2.toNat (IntKind.wrap .u8 x2.1)).2).2).2).2).2).2).1, ((((((((y5 (Kd.pair (Kd.int Go.IntKind.u8) (Kd.pair (Kd.int Go.IntKind.u8) (Kd.pair (Kd.int Go.IntKind.u8) (Kd.pair (Kd.int Go.IntKind.u8) (Kd.pair (Kd.int Go.IntKind.u8) (Kd.pair (Kd.int Go.IntKind.u8) (Kd.pair (Kd.int Go.IntKind.u8) (Kd.pair (Kd.int Go.IntKind.u8) (Kd.pair (Kd.int Go.IntKind.u8) (Kd.pair (Kd.int Go.IntKind.u8) Kd.unit)))))))))) x2.2.1 x2.2.2.toNat (IntKind.wrap .u8 x2.1)).2).2).2).2).2).2).2).1, (((((((((y5 (Kd.pair (Kd.int Go.IntKind.u8) (Kd.pair (Kd.int Go.IntKind.u8) (Kd.pair (Kd.int Go.IntKind.u8) (Kd.pair (Kd.int Go.IntKind.u8) (Kd.pair (Kd.int Go.IntKind.u8) (Kd.pair (Kd.int Go.IntKind.u8) (Kd.pair (Kd.int Go.IntKind.u8) (Kd.pair (Kd.int Go.IntKind.u8) (Kd.pair (Kd.int Go.IntKind.u8) (Kd.pair (Kd.int Go.IntKind.u8) Kd.unit)))))))))) x2.2.1 x2.2.2.toNat (IntKind.wrap .u8 x2.1)).2).2).2).2).2).2).2).2).1, ((((((((((y5 (Kd.pair (Kd.int Go.IntKind.u8) (Kd.pair (Kd.int Go.IntKind.u8) (Kd.pair (Kd.int Go.IntKind.u8) (Kd.pair (Kd.int Go.IntKind.u8) (Kd.pair (Kd.int Go.IntKind.u8) (Kd.pair (Kd.int Go.IntKind.u8) (Kd.pair (Kd.int Go.IntKind.u8) (Kd.pair (Kd.int Go.IntKind.u8) (Kd.pair (Kd.int Go.IntKind.u8) (Kd.pair (Kd.int Go.IntKind.u8) Kd.unit)))))))))) x2.2.1 x2.2.2.toNat (IntKind.wrap .u8 x2.1)).2).2).2).2).2).2).2).2).2).1].take ((IntKind.wrap .i64 (x2.2.2 + 1)).toNat)))
  else
  none
  else
  none
  else
  none

noncomputable def jU : Kn St := ⟨66, [.kv .i], [.kv .str], .ro fun x σ => dX x.1⟩

theorem je : jU.ok Tryz.prog TB := fD ⟨Tryz.prog, TB, 32, KLs, MLs, [], [], [], []⟩ ⟨[], [(3, ⟨[], false, [⟨.nrm, [(3, .kv (.int .u64))]⟩], false, []⟩)], [], [(6, ⟨[(3, .kv (.int .u64)), (4, .box jQ), (5, .kv .i)], false, [⟨.ext 0, [(3, .kv (.int .u64)), (4, .box jQ), (5, .kv .i)]⟩], false, []⟩)]⟩ aK trivial (fn := Tryz.f66) (by kernel_rfl) (by kernel_rfl) (by kernel_rfl)
noncomputable def EE (p0 : List UInt8) (p1 : Int) (p2 : Int) : Option ((List UInt8) × Int × Bool) :=
  Option.bind (fA p0 p1) fun x0 =>
  if (((x0.2.2 != 0) || decide (x0.1 < 0)) || decide (x0.1 > IntKind.wrap .i64 ((p0.length : Int) - x0.2.1))) = true then
  some ([], ((0 : Int), false))
  else
  if 0 ≤ x0.2.1 ∧ x0.2.1 ≤ IntKind.wrap .i64 (x0.2.1 + x0.1) ∧ IntKind.wrap .i64 (x0.2.1 + x0.1) ≤ (p0.length : Int) then
  Option.bind (xO ((p0.take ((IntKind.wrap .i64 (x0.2.1 + x0.1)).toNat)).drop x0.2.1.toNat)) fun x1 =>
  if (x1.2 != 0) = true then
  some ([], ((0 : Int), false))
  else
  Option.bind (dX p2) fun x2 =>
  if ((!(decide ((x1.1.length : Int) < (x2.length : Int)))) = true → 0 ≤ (x2.length : Int) ∧ (x2.length : Int) ≤ (x1.1.length : Int)) then
  if ((decide ((x1.1.length : Int) < (x2.length : Int)) || (!(x1.1.take ((x2.length : Int).toNat) == x2))) || decide (IntKind.wrap .i64 ((x1.1.length : Int) - (x2.length : Int)) > 1024)) = true then
  some ([], ((0 : Int), false))
  else
  if 0 ≤ (x2.length : Int) ∧ (x2.length : Int) ≤ (x1.1.length : Int) then
  some (x1.1.drop ((x2.length : Int).toNat), (IntKind.wrap .i64 (x0.2.1 + x0.1), true))
  else
  none
  else
  none
  else
  none

noncomputable def Po : Kn St := ⟨114, [.kv .str, .kv .i, .kv .i], [.kv .str, .kv .i, .kv .bool], .ro fun x σ => EE x.1 x.2.1 x.2.2.1⟩

theorem Q3 : Po.ok Tryz.prog TB := fD ⟨Tryz.prog, TB, 77, KLs, MLs, [], [], [], [ku, Hl, jU]⟩ ⟨[], [], [], []⟩ aK ⟨kJ, JY, je, trivial⟩ (fn := Tryz.f114) (by kernel_rfl) (by kernel_rfl) (by kernel_rfl)
noncomputable def uq (p0 : List UInt8) (p1 : Int) (s0 : (List (List UInt8)) × Int) : Option (((List (List UInt8)) × Int) ⊕ ((List (List UInt8)) × Int)) :=
  if decide (p1 ≥ 0) = true then
  Option.bind (EE p0 s0.2 (IntKind.wrap .i64 (p1 + (s0.1.length : Int)))) fun x1 =>
  if (!x1.2.2) = true then
  some (.inr (s0.1, s0.2))
  else
  if ((s0.1.length + 1) * 16) ≤ 140737488355328 then
  some (.inl ((s0.1 ++ [x1.1]), x1.2.1))
  else
  none
  else
  some (.inr (s0.1, s0.2))

noncomputable def zu (p0 : List UInt8) (p1 : Int) : Option ((List (List UInt8)) × Int) :=
  Option.bind (aY (uq p0 p1) ([], (0 : Int))) fun x2 =>
  some (x2.1, x2.2)

noncomputable def JC : Kn St := ⟨97, [.kv .str, .kv .i], [.own 9 16 .str, .kv .i], .ro fun x σ => zu x.1 x.2.1⟩

theorem MV : JC.ok Tryz.prog TB := fD ⟨Tryz.prog, TB, 33, KLs, MLs, [], [17], [], [Po]⟩ ⟨[], [], [], [(3, ⟨[(6, .own 9 16 .str), (7, .kv .i)], false, [⟨.ext 0, [(6, .own 9 16 .str), (7, .kv .i)]⟩], false, []⟩)]⟩ aK ⟨Q3, trivial⟩ (fn := Tryz.f97) (by kernel_rfl) (by kernel_rfl) (by kernel_rfl)
noncomputable def uo (p0 : Option Nat) (p1 : Int) (σ : St) : Option (((Option Nat) × Int × Int) × St) :=
  Option.bind p0 fun x0 =>
  Option.bind σ.aj[x0]? fun x1 =>
  Option.bind (gy p0 (some σ.ae.length) (σ.aX (σ.ae ++ [(p1, ([], ((0 : Int), ())))]))) fun x2 =>
  Option.bind (qG x1.1 x2 (σ.aX (σ.ae ++ [(p1, ([], ((0 : Int), ())))]))) fun x3 =>
  if (x3.2 != 0) = true then
  some ((none, ((0 : Int), x3.2)), (σ.aX (σ.ae ++ [(p1, ([], ((0 : Int), ())))])))
  else
  Option.bind (zu x3.1 p1) fun x4 =>
  Option.bind ((σ.ae ++ [(p1, ([], ((0 : Int), ())))])[σ.ae.length]?) fun x5 =>
  Option.bind (((σ.ae ++ [(p1, ([], ((0 : Int), ())))]).set σ.ae.length (x5.1, (x4.1, x5.2.2)))[σ.ae.length]?) fun x6 =>
  Option.bind ((((σ.ae ++ [(p1, ([], ((0 : Int), ())))]).set σ.ae.length (x5.1, (x4.1, x5.2.2))).set σ.ae.length (x6.1, (x6.2.1, (x4.2, x6.2.2.2))))[σ.ae.length]?) fun x7 =>
  some ((some σ.ae.length, (IntKind.wrap .i64 ((x3.1.length : Int) - x7.2.2.1), (0 : Int))), (((σ.aX (σ.ae ++ [(p1, ([], ((0 : Int), ())))])).aX ((σ.ae ++ [(p1, ([], ((0 : Int), ())))]).set σ.ae.length (x5.1, (x4.1, x5.2.2)))).aX (((σ.ae ++ [(p1, ([], ((0 : Int), ())))]).set σ.ae.length (x5.1, (x4.1, x5.2.2))).set σ.ae.length (x6.1, (x6.2.1, (x4.2, x6.2.2.2))))))

noncomputable def Ea : Kn St := ⟨62, [.kv (.ptr jH), .kv .i], [.kv (.ptr mF), .kv .i, .kv .i], .rw fun x σ => uo x.1 x.2.1 σ⟩

theorem Hw : Ea.ok Tryz.prog TB := nN ⟨Tryz.prog, TB, 47, KLs, MLs, [], [], [], [qw, Ak, JC]⟩ ⟨[], [], [], []⟩ aK ⟨pJ, EZ, MV, trivial⟩ (fn := Tryz.f62) (by kernel_rfl) (by kernel_rfl) (by kernel_rfl)
noncomputable def jv (p0 : Nat) (p1 : Nat) (σ : St) : Option (Unit × St) :=
  Option.bind σ.mi[p0]? fun x0 =>
  Option.bind x0.1 fun x1 =>
  Option.bind σ.af[x1]? fun x2 =>
  Option.bind σ.sV[p1]? fun x3 =>
  Option.bind σ.af[x1]? fun x4 =>
  some ((), (σ.bF (σ.af.set x1 (x4.1, (yX Kd.str (Kd.ptr 93) x3.1 x4.2.1, x4.2.2)))))

noncomputable def wL : Kn St := ⟨98, [.cap Qr, .cap UH], [], .rw fun x σ => jv x.1 x.2.1 σ⟩

theorem Am : wL.ok Tryz.prog TB := nN ⟨Tryz.prog, TB, 7, KLs, MLs, [], [], [], []⟩ ⟨[], [], [], []⟩ aK trivial (fn := Tryz.f98) (by kernel_rfl) (by kernel_rfl) (by kernel_rfl)
noncomputable def dW (p0 : Option Nat) (p1 : Nat × Nat × Unit) (σ : St) : Option (Int × St) :=
  Option.bind p0 fun x0 =>
  Option.bind σ.af[x0]? fun x1 =>
  if decide (x1.2.2.1 > 0) = true then
  Option.bind p0 fun x2 =>
  Option.bind σ.af[x2]? fun x3 =>
  Option.bind p0 fun x4 =>
  Option.bind σ.af[x4]? fun x5 =>
  Option.bind p0 fun x6 =>
  Option.bind ((σ.af.set x4 (x5.1, (x5.2.1, (IntKind.wrap .i64 (x3.2.2.1 - 1), x5.2.2.2))))[x6]?) fun x7 =>
  if (x7.2.2.1 == 0) = true then
  Option.bind p0 fun x8 =>
  Option.bind ((σ.af.set x4 (x5.1, (x5.2.1, (IntKind.wrap .i64 (x3.2.2.1 - 1), x5.2.2.2))))[x8]?) fun x9 =>
  some ((11 : Int), ((σ.bF (σ.af.set x4 (x5.1, (x5.2.1, (IntKind.wrap .i64 (x3.2.2.1 - 1), x5.2.2.2))))).bF ((σ.af.set x4 (x5.1, (x5.2.1, (IntKind.wrap .i64 (x3.2.2.1 - 1), x5.2.2.2)))).set x8 (x9.1, (x9.2.1, (x9.2.2.1, (true, x9.2.2.2.2)))))))
  else
  Option.bind (jv p1.1 p1.2.1 (σ.bF (σ.af.set x4 (x5.1, (x5.2.1, (IntKind.wrap .i64 (x3.2.2.1 - 1), x5.2.2.2)))))) fun x10 =>
  some ((0 : Int), x10.2)
  else
  Option.bind (jv p1.1 p1.2.1 σ) fun x11 =>
  some ((0 : Int), x11.2)

noncomputable def jZ : Kn St := ⟨69, [.kv (.ptr di), .clo 98 [Qr, UH]], [.kv .i], .rw fun x σ => dW x.1 x.2.1 σ⟩

theorem pO : jZ.ok Tryz.prog TB := nN ⟨Tryz.prog, TB, 27, KLs, MLs, [], [], [], [wL]⟩ ⟨[], [], [], []⟩ aK ⟨Am, trivial⟩ (fn := Tryz.f69) (by kernel_rfl) (by kernel_rfl) (by kernel_rfl)
noncomputable def nV (p0 : Option Nat) (p1 : List UInt8) (σ : St) : Option (Int × St) :=
  Option.bind ((σ.mi ++ [(p0, ())])[σ.mi.length]?) fun x0 =>
  Option.bind ((σ.sV ++ [(p1, ())])[σ.sV.length]?) fun x1 =>
  Option.bind (iZ x0.1 x1.1 ((σ.EO (σ.mi ++ [(p0, ())])).Iq (σ.sV ++ [(p1, ())]))) fun x2 =>
  if (x2.2 != 0) = true then
  some (x2.2, ((σ.EO (σ.mi ++ [(p0, ())])).Iq (σ.sV ++ [(p1, ())])))
  else
  Option.bind ((σ.mi ++ [(p0, ())])[σ.mi.length]?) fun x3 =>
  Option.bind (dW x3.1 (σ.mi.length, (σ.sV.length, ())) ((σ.EO (σ.mi ++ [(p0, ())])).Iq (σ.sV ++ [(p1, ())]))) fun x4 =>
  some (x4.1, x4.2)

noncomputable def yL : Kn St := ⟨63, [.kv (.ptr di), .kv .str], [.kv .i], .rw fun x σ => nV x.1 x.2.1 σ⟩

theorem CE : yL.ok Tryz.prog TB := nN ⟨Tryz.prog, TB, 19, KLs, MLs, [2, 3], [], [], [nH, jZ]⟩ ⟨[], [], [], []⟩ aK ⟨ng, pO, trivial⟩ (fn := Tryz.f63) (by kernel_rfl) (by kernel_rfl) (by kernel_rfl)
noncomputable def iM (p0 : Nat) (p1 : Nat) (σ : St) : Option (Unit × St) :=
  Option.bind σ.aG[p0]? fun x0 =>
  Option.bind σ.aG[p0]? fun x1 =>
  Option.bind x1.1 fun x2 =>
  Option.bind σ.ai[x2]? fun x3 =>
  Option.bind σ.gV[p1]? fun x4 =>
  if 0 ≤ x4.1 ∧ x4.1 ≤ (x3.1.length : Int) then
  Option.bind σ.aG[p0]? fun x5 =>
  Option.bind x5.1 fun x6 =>
  Option.bind σ.ai[x6]? fun x7 =>
  Option.bind x0.1 fun x8 =>
  Option.bind σ.ai[x8]? fun x9 =>
  Option.bind σ.aG[p0]? fun x10 =>
  Option.bind σ.aG[p0]? fun x11 =>
  if x10.1 = x11.1 then
  Option.bind σ.gV[p1]? fun x12 =>
  Option.bind σ.gV[p1]? fun x13 =>
  if x12.1 = x13.1 then
  Option.bind x10.1 fun x14 =>
  Option.bind ((σ.ai.set x8 (x3.1.take x4.1.toNat, x9.2))[x14]?) fun x15 =>
  some ((), ((σ.fM (σ.ai.set x8 (x3.1.take x4.1.toNat, x9.2))).fM ((σ.ai.set x8 (x3.1.take x4.1.toNat, x9.2)).set x14 (x15.1, (if x12.1 < x7.2.1 then
  x12.1
  else
  x7.2.1, x15.2.2)))))
  else
  none
  else
  none
  else
  none

noncomputable def uN : Kn St := ⟨99, [.cap Gw, .cap UG], [], .rw fun x σ => iM x.1 x.2.1 σ⟩

theorem zi : uN.ok Tryz.prog TB := nN ⟨Tryz.prog, TB, 20, KLs, MLs, [], [], [], []⟩ ⟨[], [], [], []⟩ aK trivial (fn := Tryz.f99) (by kernel_rfl) (by kernel_rfl) (by kernel_rfl)
noncomputable def dK (p0 : Option Nat) (p1 : Nat × Nat × Unit) (σ : St) : Option (Int × St) :=
  Option.bind p0 fun x0 =>
  Option.bind σ.af[x0]? fun x1 =>
  if decide (x1.2.2.1 > 0) = true then
  Option.bind p0 fun x2 =>
  Option.bind σ.af[x2]? fun x3 =>
  Option.bind p0 fun x4 =>
  Option.bind σ.af[x4]? fun x5 =>
  Option.bind p0 fun x6 =>
  Option.bind ((σ.af.set x4 (x5.1, (x5.2.1, (IntKind.wrap .i64 (x3.2.2.1 - 1), x5.2.2.2))))[x6]?) fun x7 =>
  if (x7.2.2.1 == 0) = true then
  Option.bind p0 fun x8 =>
  Option.bind ((σ.af.set x4 (x5.1, (x5.2.1, (IntKind.wrap .i64 (x3.2.2.1 - 1), x5.2.2.2))))[x8]?) fun x9 =>
  some ((11 : Int), ((σ.bF (σ.af.set x4 (x5.1, (x5.2.1, (IntKind.wrap .i64 (x3.2.2.1 - 1), x5.2.2.2))))).bF ((σ.af.set x4 (x5.1, (x5.2.1, (IntKind.wrap .i64 (x3.2.2.1 - 1), x5.2.2.2)))).set x8 (x9.1, (x9.2.1, (x9.2.2.1, (true, x9.2.2.2.2)))))))
  else
  Option.bind (iM p1.1 p1.2.1 (σ.bF (σ.af.set x4 (x5.1, (x5.2.1, (IntKind.wrap .i64 (x3.2.2.1 - 1), x5.2.2.2)))))) fun x10 =>
  some ((0 : Int), x10.2)
  else
  Option.bind (iM p1.1 p1.2.1 σ) fun x11 =>
  some ((0 : Int), x11.2)

noncomputable def jF : Kn St := ⟨69, [.kv (.ptr di), .clo 99 [Gw, UG]], [.kv .i], .rw fun x σ => dK x.1 x.2.1 σ⟩

theorem oH : jF.ok Tryz.prog TB := nN ⟨Tryz.prog, TB, 27, KLs, MLs, [], [], [], [uN]⟩ ⟨[], [], [], []⟩ aK ⟨zi, trivial⟩ (fn := Tryz.f69) (by kernel_rfl) (by kernel_rfl) (by kernel_rfl)
noncomputable def lQ (p0 : Option Nat) (p1 : List UInt8) (p2 : Int) (σ : St) : Option (Int × St) :=
  Option.bind (iZ p0 p1 (σ.y7 (σ.gV ++ [(p2, ())]))) fun x0 =>
  Option.bind ((σ.aG ++ [(none, ())])[σ.aG.length]?) fun x1 =>
  if (x0.2 != 0) = true then
  some (x0.2, (((σ.y7 (σ.gV ++ [(p2, ())])).jh (σ.aG ++ [(none, ())])).jh ((σ.aG ++ [(none, ())]).set σ.aG.length (x0.1, x1.2))))
  else
  Option.bind ((σ.gV ++ [(p2, ())])[σ.gV.length]?) fun x2 =>
  if (!(decide (x2.1 < 0))) = true then
  Option.bind ((σ.gV ++ [(p2, ())])[σ.gV.length]?) fun x3 =>
  Option.bind (((σ.aG ++ [(none, ())]).set σ.aG.length (x0.1, x1.2))[σ.aG.length]?) fun x4 =>
  Option.bind x4.1 fun x5 =>
  Option.bind σ.ai[x5]? fun x6 =>
  if decide (x3.1 > (x6.1.length : Int)) = true then
  some ((3 : Int), (((σ.y7 (σ.gV ++ [(p2, ())])).jh (σ.aG ++ [(none, ())])).jh ((σ.aG ++ [(none, ())]).set σ.aG.length (x0.1, x1.2))))
  else
  Option.bind (dK p0 (σ.aG.length, (σ.gV.length, ())) (((σ.y7 (σ.gV ++ [(p2, ())])).jh (σ.aG ++ [(none, ())])).jh ((σ.aG ++ [(none, ())]).set σ.aG.length (x0.1, x1.2)))) fun x7 =>
  some (x7.1, x7.2)
  else
  some ((3 : Int), (((σ.y7 (σ.gV ++ [(p2, ())])).jh (σ.aG ++ [(none, ())])).jh ((σ.aG ++ [(none, ())]).set σ.aG.length (x0.1, x1.2))))

noncomputable def wM : Kn St := ⟨64, [.kv (.ptr di), .kv .str, .kv .i], [.kv .i], .rw fun x σ => lQ x.1 x.2.1 x.2.2.1 σ⟩

theorem Aq : wM.ok Tryz.prog TB := nN ⟨Tryz.prog, TB, 34, KLs, MLs, [7, 5], [], [], [nH, jF]⟩ ⟨[], [], [], []⟩ aK ⟨ng, oH, trivial⟩ (fn := Tryz.f64) (by kernel_rfl) (by kernel_rfl) (by kernel_rfl)
noncomputable def kS (p0 : Nat) (σ : St) : Option (Unit × St) :=
  Option.bind σ.aG[p0]? fun x0 =>
  Option.bind σ.aG[p0]? fun x1 =>
  Option.bind x1.1 fun x2 =>
  Option.bind σ.ai[x2]? fun x3 =>
  Option.bind x0.1 fun x4 =>
  Option.bind σ.ai[x4]? fun x5 =>
  some ((), (σ.fM (σ.ai.set x4 (x5.1, ((x3.1.length : Int), x5.2.2)))))

noncomputable def yM : Kn St := ⟨73, [.cap Gw], [], .rw fun x σ => kS x.1 σ⟩

theorem CG : yM.ok Tryz.prog TB := nN ⟨Tryz.prog, TB, 9, KLs, MLs, [], [], [], []⟩ ⟨[], [], [], []⟩ aK trivial (fn := Tryz.f73) (by kernel_rfl) (by kernel_rfl) (by kernel_rfl)
noncomputable def eG (p0 : Option Nat) (p1 : Nat × Unit) (σ : St) : Option (Int × St) :=
  Option.bind p0 fun x0 =>
  Option.bind σ.af[x0]? fun x1 =>
  if decide (x1.2.2.1 > 0) = true then
  Option.bind p0 fun x2 =>
  Option.bind σ.af[x2]? fun x3 =>
  Option.bind p0 fun x4 =>
  Option.bind σ.af[x4]? fun x5 =>
  Option.bind p0 fun x6 =>
  Option.bind ((σ.af.set x4 (x5.1, (x5.2.1, (IntKind.wrap .i64 (x3.2.2.1 - 1), x5.2.2.2))))[x6]?) fun x7 =>
  if (x7.2.2.1 == 0) = true then
  Option.bind p0 fun x8 =>
  Option.bind ((σ.af.set x4 (x5.1, (x5.2.1, (IntKind.wrap .i64 (x3.2.2.1 - 1), x5.2.2.2))))[x8]?) fun x9 =>
  some ((11 : Int), ((σ.bF (σ.af.set x4 (x5.1, (x5.2.1, (IntKind.wrap .i64 (x3.2.2.1 - 1), x5.2.2.2))))).bF ((σ.af.set x4 (x5.1, (x5.2.1, (IntKind.wrap .i64 (x3.2.2.1 - 1), x5.2.2.2)))).set x8 (x9.1, (x9.2.1, (x9.2.2.1, (true, x9.2.2.2.2)))))))
  else
  Option.bind (kS p1.1 (σ.bF (σ.af.set x4 (x5.1, (x5.2.1, (IntKind.wrap .i64 (x3.2.2.1 - 1), x5.2.2.2)))))) fun x10 =>
  some ((0 : Int), x10.2)
  else
  Option.bind (kS p1.1 σ) fun x11 =>
  some ((0 : Int), x11.2)

noncomputable def kX : Kn St := ⟨69, [.kv (.ptr di), .clo 73 [Gw]], [.kv .i], .rw fun x σ => eG x.1 x.2.1 σ⟩

theorem qL : kX.ok Tryz.prog TB := nN ⟨Tryz.prog, TB, 27, KLs, MLs, [], [], [], [yM]⟩ ⟨[], [], [], []⟩ aK ⟨CG, trivial⟩ (fn := Tryz.f69) (by kernel_rfl) (by kernel_rfl) (by kernel_rfl)
noncomputable def qH (p0 : Option Nat) (p1 : List UInt8) (σ : St) : Option (Int × St) :=
  Option.bind (iZ p0 p1 σ) fun x0 =>
  Option.bind ((σ.aG ++ [(none, ())])[σ.aG.length]?) fun x1 =>
  if (x0.2 != 0) = true then
  some (x0.2, ((σ.jh (σ.aG ++ [(none, ())])).jh ((σ.aG ++ [(none, ())]).set σ.aG.length (x0.1, x1.2))))
  else
  Option.bind (eG p0 (σ.aG.length, ()) ((σ.jh (σ.aG ++ [(none, ())])).jh ((σ.aG ++ [(none, ())]).set σ.aG.length (x0.1, x1.2)))) fun x2 =>
  some (x2.1, x2.2)

noncomputable def Ap : Kn St := ⟨41, [.kv (.ptr di), .kv .str], [.kv .i], .rw fun x σ => qH x.1 x.2.1 σ⟩

theorem E5 : Ap.ok Tryz.prog TB := nN ⟨Tryz.prog, TB, 19, KLs, MLs, [5], [], [], [nH, kX]⟩ ⟨[], [], [], []⟩ aK ⟨ng, qL, trivial⟩ (fn := Tryz.f41) (by kernel_rfl) (by kernel_rfl) (by kernel_rfl)
noncomputable def jC (p0 : Option Nat) (σ : St) : Option (Int × St) :=
  if p0.isNone = true then
  some ((1 : Int), σ)
  else
  Option.bind (nD p0 σ) fun x0 =>
  Option.bind (if (!x0.isNone) = true then
  Option.bind p0 fun x1 =>
  Option.bind σ.aj[x1]? fun x2 =>
  Option.bind (gy p0 x0 σ) fun x3 =>
  Option.bind (qH x2.1 x3 σ) fun x4 =>
  if (x4.1 != 0) = true then
  some (.inr (x4.1, x4.2))
  else
  some (.inl x4.2)
  else
  some (.inl σ)) fun x5 =>
  kC x5 (fun x6 =>
  Option.bind (iP p0 x6) fun x7 =>
  Option.bind p0 fun x8 =>
  Option.bind x6.aj[x8]? fun x9 =>
  some ((0 : Int), (x6.qA (x6.aj.set x8 (x9.1, (x9.2.1, (x9.2.2.1, (x9.2.2.2.1, (x7, x9.2.2.2.2.2))))))))) Option.some

noncomputable def uQ : Kn St := ⟨14, [.kv (.ptr jH)], [.kv .i], .rw fun x σ => jC x.1 σ⟩

theorem uS : uQ.ok Tryz.prog TB := nN ⟨Tryz.prog, TB, 27, KLs, MLs, [], [], [], [uT, qw, Ap, nM]⟩ ⟨[], [(5, ⟨[], true, [⟨.nrm, []⟩], true, []⟩)], [], []⟩ aK ⟨uU, pJ, E5, mf, trivial⟩ (fn := Tryz.f14) (by kernel_rfl) (by kernel_rfl) (by kernel_rfl)
noncomputable def lW (p0 : Option Nat) (x0 : List Int) (s1 : Int × Int × Int × St) : Option ((Int × Int × Int × St) ⊕ ((Int × Int × St) ⊕ (Int × St))) :=
  if decide (s1.2.2.1 < (x0.length : Int)) = true then
  Option.bind (ix x0 s1.2.2.1) fun x2 =>
  Option.bind (if (decide (s1.2.2.1 > 0) && (!(decide (s1.1 > 0)))) = true then
  iP p0 s1.2.2.2
  else
  some (0 : Int)) fun x3 =>
  if (decide (s1.2.2.1 > 0) && (decide (s1.1 > 0) || (x2 != x3))) = true then
  some (.inr (.inl (s1.1, (s1.2.1, s1.2.2.2))))
  else
  Option.bind (uo p0 x2 s1.2.2.2) fun x4 =>
  if (x4.1.2.2 != 0) = true then
  some (.inr (.inr (x4.1.2.2, x4.2)))
  else
  Option.bind p0 fun x5 =>
  Option.bind x4.2.aj[x5]? fun x6 =>
  if ((x6.2.2.2.1.length + 1) * 8) ≤ 140737488355328 then
  Option.bind p0 fun x7 =>
  Option.bind x4.2.aj[x7]? fun x8 =>
  if x5 = x7 ∧ true = true then
  some (.inl (x4.1.2.1, (IntKind.wrap .i64 (s1.2.2.1 + 1), (IntKind.wrap .i64 (s1.2.2.1 + 1), (x4.2.qA (x4.2.aj.set x7 (x8.1, (x8.2.1, (x8.2.2.1, ((x6.2.2.2.1 ++ [x4.1.1]), x8.2.2.2.2))))))))))
  else
  none
  else
  none
  else
  some (.inr (.inl (s1.1, (s1.2.1, s1.2.2.2))))

noncomputable def jD (p0 : Option Nat) (x0 : List Int) (x10 : Int × Int × St) (x12 : (Option Nat) × (List UInt8) × Int × (List (Option Nat)) × Int × Unit) (s13 : Int × St) : Option ((Int × St) ⊕ (St ⊕ (Int × St))) :=
  if decide (s13.1 ≥ x10.2.1) = true then
  Option.bind (ix x0 s13.1) fun x14 =>
  Option.bind (gy p0 (some s13.2.ae.length) (s13.2.aX (s13.2.ae ++ [(x14, ([], ((0 : Int), ())))]))) fun x15 =>
  Option.bind (nV x12.1 x15 (s13.2.aX (s13.2.ae ++ [(x14, ([], ((0 : Int), ())))]))) fun x16 =>
  if (x16.1 != 0) = true then
  some (.inr (.inr (x16.1, x16.2)))
  else
  some (.inl (IntKind.wrap .i64 (s13.1 - 1), x16.2))
  else
  some (.inr (.inl s13.2))

noncomputable def pF (p0 : Option Nat) (σ : St) : Option (Int × St) :=
  Option.bind (jd p0 σ) fun x0 =>
  Option.bind (aY (lW p0 x0) ((0 : Int), ((0 : Int), ((0 : Int), σ)))) fun x9 =>
  kC x9 (fun x10 =>
  Option.bind p0 fun x11 =>
  Option.bind x10.2.2.aj[x11]? fun x12 =>
  Option.bind (aY (jD p0 x0 x10 x12) (IntKind.wrap .i64 ((x0.length : Int) - 1), x10.2.2)) fun x17 =>
  kC x17 (fun x18 =>
  if (x10.2.1 == 0) = true then
  some ((0 : Int), x18)
  else
  Option.bind p0 fun x19 =>
  Option.bind x18.aj[x19]? fun x20 =>
  Option.bind (ix x20.2.2.2.1 (IntKind.wrap .i64 (x10.2.1 - 1))) fun x21 =>
  if decide (x10.1 > 0) = true then
  Option.bind p0 fun x22 =>
  Option.bind x18.aj[x22]? fun x23 =>
  Option.bind (gy p0 x21 x18) fun x24 =>
  Option.bind x21 fun x25 =>
  Option.bind x18.ae[x25]? fun x26 =>
  Option.bind (lQ x23.1 x24 x26.2.2.1 x18) fun x27 =>
  if (x27.1 != 0) = true then
  some (x27.1, x27.2)
  else
  Option.bind (jC p0 x27.2) fun x28 =>
  some (x28.1, x28.2)
  else
  Option.bind (jC p0 x18) fun x29 =>
  some (x29.1, x29.2)) Option.some) Option.some

noncomputable def zD : Kn St := ⟨36, [.kv (.ptr jH)], [.kv .i], .rw fun x σ => pF x.1 σ⟩

theorem Eb : zD.ok Tryz.prog TB := nN ⟨Tryz.prog, TB, 116, KLs, MLs, [], [], [51], [AX, nM, Ea, qw, yL, wM, uQ]⟩ ⟨[], [], [], [(4, ⟨[(4, .kv .i), (5, .kv .i), (20, .kv .i)], true, [⟨.ext 0, [(4, .kv .i), (5, .kv .i)]⟩], true, []⟩), (15, ⟨[(12, .kv .i)], true, [⟨.ext 2, []⟩], true, []⟩)]⟩ aK ⟨Fg, mf, Hw, pJ, CE, Aq, uS, trivial⟩ (fn := Tryz.f36) (by kernel_rfl) (by kernel_rfl) (by kernel_rfl)
noncomputable def Bz (p0 : Option Nat) (p1 : List UInt8) (p2 : Int) (σ : St) : Option (((Option Nat) × Int) × St) :=
  if p0.isNone = true then
  some ((none, (1 : Int)), σ)
  else
  Option.bind (zx p1) fun x0 =>
  if (((!x0) || decide (p2 < 64)) || decide (p2 > 65536)) = true then
  some ((none, (2 : Int)), σ)
  else
  Option.bind (qF p0 σ) fun x1 =>
  if x1 = true then
  some ((none, (11 : Int)), σ)
  else
  Option.bind (pF (some σ.aj.length) (σ.qA (σ.aj ++ [(p0, (p1, (p2, ([], ((0 : Int), ())))))]))) fun x2 =>
  if (x2.1 != 0) = true then
  some ((none, x2.1), x2.2)
  else
  some ((some σ.aj.length, (0 : Int)), x2.2)

noncomputable def MS : Kn St := ⟨12, [.kv (.ptr di), .kv .str, .kv .i], [.kv (.ptr jH), .kv .i], .rw fun x σ => Bz x.1 x.2.1 x.2.2.1 σ⟩

theorem Oj : MS.ok Tryz.prog TB := nN ⟨Tryz.prog, TB, 39, KLs, MLs, [], [], [], [JD, Ai, zD]⟩ ⟨[], [], [], []⟩ aK ⟨MW, EX, Eb, trivial⟩ (fn := Tryz.f12) (by kernel_rfl) (by kernel_rfl) (by kernel_rfl)
noncomputable def lL (p0 : Option Nat) (σ : St) : Option Int :=
  Option.bind (if (!p0.isNone) = true then
  p0
  else
  some 0) fun x0 =>
  Option.bind (if (!p0.isNone) = true then
  σ.aj[x0]?
  else
  some (none, ([], ((0 : Int), ([], ((0 : Int), ())))))) fun x1 =>
  if (p0.isNone || ((x1.2.2.2.1.length : Int) == 0)) = true then
  some (0 : Int)
  else
  Option.bind p0 fun x2 =>
  Option.bind σ.aj[x2]? fun x3 =>
  Option.bind (ix x3.2.2.2.1 (0 : Int)) fun x4 =>
  Option.bind x4 fun x5 =>
  Option.bind σ.ae[x5]? fun x6 =>
  some x6.1

noncomputable def xk : Kn St := ⟨29, [.kv (.ptr jH)], [.kv .i], .ro fun x σ => lL x.1 σ⟩

theorem yV : xk.ok Tryz.prog TB := fD ⟨Tryz.prog, TB, 22, KLs, MLs, [], [], [], []⟩ ⟨[], [], [], []⟩ aK trivial (fn := Tryz.f29) (by kernel_rfl) (by kernel_rfl) (by kernel_rfl)
noncomputable def pz (p0 : Option Nat) (p1 : Int) (σ : St) (s4 : Int) : Option (Int ⊕ Int) :=
  Option.bind p0 fun x5 =>
  Option.bind σ.aj[x5]? fun x6 =>
  Option.bind (ix x6.2.2.2.1 s4) fun x7 =>
  Option.bind x7 fun x8 =>
  Option.bind σ.ae[x8]? fun x9 =>
  if decide (x9.1 > p1) = true then
  some (.inl (IntKind.wrap .i64 (s4 - 1)))
  else
  some (.inr s4)

noncomputable def um (p0 : Option Nat) (p1 : Int) (σ : St) : Option ((List UInt8) × Int) :=
  if p0.isNone = true then
  some ([], (1 : Int))
  else
  Option.bind (lL p0 σ) fun x0 =>
  if decide (p1 < x0) = true then
  some ([], (13 : Int))
  else
  Option.bind (iP p0 σ) fun x1 =>
  if decide (p1 ≥ x1) = true then
  some ([], (8 : Int))
  else
  Option.bind p0 fun x2 =>
  Option.bind σ.aj[x2]? fun x3 =>
  Option.bind (aY (pz p0 p1 σ) (IntKind.wrap .i64 ((x3.2.2.2.1.length : Int) - 1))) fun x10 =>
  Option.bind p0 fun x11 =>
  Option.bind σ.aj[x11]? fun x12 =>
  Option.bind (ix x12.2.2.2.1 x10) fun x13 =>
  Option.bind x13 fun x14 =>
  Option.bind σ.ae[x14]? fun x15 =>
  Option.bind p0 fun x16 =>
  Option.bind σ.aj[x16]? fun x17 =>
  Option.bind (ix x17.2.2.2.1 x10) fun x18 =>
  Option.bind x18 fun x19 =>
  Option.bind σ.ae[x19]? fun x20 =>
  Option.bind (ix x15.2.1 (IntKind.wrap .i64 (p1 - x20.1))) fun x21 =>
  some (x21, (0 : Int))

noncomputable def DZ : Kn St := ⟨31, [.kv (.ptr jH), .kv .i], [.kv .str, .kv .i], .ro fun x σ => um x.1 x.2.1 σ⟩

theorem Hu : DZ.ok Tryz.prog TB := fD ⟨Tryz.prog, TB, 64, KLs, MLs, [], [], [], [xk, nM]⟩ ⟨[], [], [], [(8, ⟨[(6, .kv .i)], false, [⟨.ext 1, [(6, .kv .i)]⟩], false, []⟩)]⟩ aK ⟨yV, mf, trivial⟩ (fn := Tryz.f31) (by kernel_rfl) (by kernel_rfl) (by kernel_rfl)
noncomputable def cO (p0 : Option Nat) (σ : St) : Option (Int × St) :=
  Option.bind p0 fun x0 =>
  Option.bind σ.au[x0]? fun x1 =>
  if (x1.2.2.1 != 0) = true then
  some ((0 : Int), σ)
  else
  Option.bind p0 fun x2 =>
  Option.bind σ.au[x2]? fun x3 =>
  Option.bind p0 fun x4 =>
  Option.bind σ.au[x4]? fun x5 =>
  Option.bind (fA x3.1 x5.2.1) fun x6 =>
  Option.bind p0 fun x7 =>
  Option.bind σ.au[x7]? fun x8 =>
  Option.bind p0 fun x9 =>
  Option.bind ((σ.au.set x7 (x8.1, (x6.2.1, x8.2.2)))[x9]?) fun x10 =>
  some (x6.1, ((σ.bn (σ.au.set x7 (x8.1, (x6.2.1, x8.2.2)))).bn ((σ.au.set x7 (x8.1, (x6.2.1, x8.2.2))).set x9 (x10.1, (x10.2.1, (x6.2.2, x10.2.2.2))))))

noncomputable def lD : Kn St := ⟨82, [.kv (.ptr jm)], [.kv .i], .rw fun x σ => cO x.1 σ⟩

theorem mO : lD.ok Tryz.prog TB := nN ⟨Tryz.prog, TB, 33, KLs, MLs, [], [], [], [ku]⟩ ⟨[], [], [], []⟩ aK ⟨kJ, trivial⟩ (fn := Tryz.f82) (by kernel_rfl) (by kernel_rfl) (by kernel_rfl)
noncomputable def qf (p0 : List UInt8) (p1 : Int) (p2 : Int) : Option (Int × Int × Int) :=
  Option.bind (fA p0 p1) fun x0 =>
  if (x0.2.2 != 0) = true then
  some ((0 : Int), ((0 : Int), x0.2.2))
  else
  if decide (x0.1 < 0) = true then
  some ((0 : Int), ((0 : Int), (6 : Int)))
  else
  if decide (x0.1 > p2) = true then
  some ((0 : Int), ((0 : Int), (4 : Int)))
  else
  some (x0.1, (x0.2.1, (0 : Int)))

noncomputable def yU : Kn St := ⟨129, [.kv .str, .kv .i, .kv .i], [.kv .i, .kv .i, .kv .i], .ro fun x σ => qf x.1 x.2.1 x.2.2.1⟩

theorem zC : yU.ok Tryz.prog TB := fD ⟨Tryz.prog, TB, 32, KLs, MLs, [], [], [], [ku]⟩ ⟨[], [], [], []⟩ aK ⟨kJ, trivial⟩ (fn := Tryz.f129) (by kernel_rfl) (by kernel_rfl) (by kernel_rfl)
noncomputable def pq (p0 : List UInt8) (p1 : Int) : Option ((List UInt8) × Int × Int) :=
  Option.bind (qf p0 p1 (4096 : Int)) fun x0 =>
  if (x0.2.2 != 0) = true then
  some ([], ((0 : Int), x0.2.2))
  else
  if decide (x0.1 > IntKind.wrap .i64 ((p0.length : Int) - x0.2.1)) = true then
  some ([], ((0 : Int), (5 : Int)))
  else
  if 0 ≤ x0.2.1 ∧ x0.2.1 ≤ IntKind.wrap .i64 (x0.2.1 + x0.1) ∧ IntKind.wrap .i64 (x0.2.1 + x0.1) ≤ (p0.length : Int) then
  some ((p0.take ((IntKind.wrap .i64 (x0.2.1 + x0.1)).toNat)).drop x0.2.1.toNat, (IntKind.wrap .i64 (x0.2.1 + x0.1), (0 : Int)))
  else
  none

noncomputable def zB : Kn St := ⟨108, [.kv .str, .kv .i], [.kv .str, .kv .i, .kv .i], .ro fun x σ => pq x.1 x.2.1⟩

theorem DY : zB.ok Tryz.prog TB := fD ⟨Tryz.prog, TB, 37, KLs, MLs, [], [], [], [yU]⟩ ⟨[], [], [], []⟩ aK ⟨zC, trivial⟩ (fn := Tryz.f108) (by kernel_rfl) (by kernel_rfl) (by kernel_rfl)
noncomputable def mV (p0 : Option Nat) (σ : St) : Option ((List UInt8) × St) :=
  Option.bind p0 fun x0 =>
  Option.bind σ.au[x0]? fun x1 =>
  if (x1.2.2.1 != 0) = true then
  some ([], σ)
  else
  Option.bind p0 fun x2 =>
  Option.bind σ.au[x2]? fun x3 =>
  Option.bind p0 fun x4 =>
  Option.bind σ.au[x4]? fun x5 =>
  Option.bind (pq x3.1 x5.2.1) fun x6 =>
  Option.bind p0 fun x7 =>
  Option.bind σ.au[x7]? fun x8 =>
  Option.bind p0 fun x9 =>
  Option.bind ((σ.au.set x7 (x8.1, (x6.2.1, x8.2.2)))[x9]?) fun x10 =>
  some (x6.1, ((σ.bn (σ.au.set x7 (x8.1, (x6.2.1, x8.2.2)))).bn ((σ.au.set x7 (x8.1, (x6.2.1, x8.2.2))).set x9 (x10.1, (x10.2.1, (x6.2.2, x10.2.2.2))))))

noncomputable def xB : Kn St := ⟨83, [.kv (.ptr jm)], [.kv .str], .rw fun x σ => mV x.1 σ⟩

theorem BD : xB.ok Tryz.prog TB := nN ⟨Tryz.prog, TB, 33, KLs, MLs, [], [], [], [zB]⟩ ⟨[], [], [], []⟩ aK ⟨DY, trivial⟩ (fn := Tryz.f83) (by kernel_rfl) (by kernel_rfl) (by kernel_rfl)
noncomputable def dM (p0 : List UInt8) (x0 : Int × Int × Int) (s1 : Int × (List Int) × Int) : Option ((Int × (List Int) × Int) ⊕ ((Int × List Int) ⊕ ((List Int) × Int × Int))) :=
  if decide (s1.2.2 < x0.1) = true then
  Option.bind (fA p0 s1.1) fun x2 =>
  if (x2.2.2 != 0) = true then
  some (.inr (.inr ([], ((0 : Int), x2.2.2))))
  else
  if ((s1.2.1.length + 1) * 8) ≤ 140737488355328 then
  some (.inl (x2.2.1, ((s1.2.1 ++ [x2.1]), IntKind.wrap .i64 (s1.2.2 + 1))))
  else
  none
  else
  some (.inr (.inl (s1.1, s1.2.1)))

noncomputable def gu (p0 : List UInt8) (p1 : Int) (p2 : Unit) : Option ((List Int) × Int × Int) :=
  Option.bind (qf p0 p1 (256 : Int)) fun x0 =>
  if (x0.2.2 != 0) = true then
  some ([], ((0 : Int), x0.2.2))
  else
  Option.bind (aY (dM p0 x0) (x0.2.1, ([], (0 : Int)))) fun x3 =>
  kC x3 (fun x4 =>
  some (x4.2, (x4.1, (0 : Int)))) Option.some

noncomputable def kM : Kn St := ⟨130, [.kv .str, .kv .i, .clo 107 []], [.kv (.list .i), .kv .i, .kv .i], .ro fun x σ => gu x.1 x.2.1 x.2.2.1⟩

theorem qp : kM.ok Tryz.prog TB := fD ⟨Tryz.prog, TB, 48, KLs, MLs, [], [46], [], [yU, ku]⟩ ⟨[], [], [], [(6, ⟨[(10, .kv .i), (12, .own 3 8 .i), (27, .kv .i)], false, [⟨.ext 0, [(10, .kv .i), (12, .own 3 8 .i)]⟩], true, []⟩)]⟩ aK ⟨zC, kJ, trivial⟩ (fn := Tryz.f130) (by kernel_rfl) (by kernel_rfl) (by kernel_rfl)
noncomputable def lV (p0 : List UInt8) (p1 : Int) : Option ((List Int) × Int × Int) :=
  Option.bind (gu p0 p1 ()) fun x0 =>
  some (x0.1, (x0.2.1, x0.2.2))

noncomputable def wX : Kn St := ⟨109, [.kv .str, .kv .i], [.kv (.list .i), .kv .i, .kv .i], .ro fun x σ => lV x.1 x.2.1⟩

theorem AU : wX.ok Tryz.prog TB := fD ⟨Tryz.prog, TB, 13, KLs, MLs, [], [], [], [kM]⟩ ⟨[], [], [], []⟩ aK ⟨qp, trivial⟩ (fn := Tryz.f109) (by kernel_rfl) (by kernel_rfl) (by kernel_rfl)
noncomputable def kE (p0 : Option Nat) (σ : St) : Option ((List Int) × St) :=
  Option.bind p0 fun x0 =>
  Option.bind σ.au[x0]? fun x1 =>
  if (x1.2.2.1 != 0) = true then
  some ([], σ)
  else
  Option.bind p0 fun x2 =>
  Option.bind σ.au[x2]? fun x3 =>
  Option.bind p0 fun x4 =>
  Option.bind σ.au[x4]? fun x5 =>
  Option.bind (lV x3.1 x5.2.1) fun x6 =>
  Option.bind p0 fun x7 =>
  Option.bind σ.au[x7]? fun x8 =>
  Option.bind p0 fun x9 =>
  Option.bind ((σ.au.set x7 (x8.1, (x6.2.1, x8.2.2)))[x9]?) fun x10 =>
  some (x6.1, ((σ.bn (σ.au.set x7 (x8.1, (x6.2.1, x8.2.2)))).bn ((σ.au.set x7 (x8.1, (x6.2.1, x8.2.2))).set x9 (x10.1, (x10.2.1, (x6.2.2, x10.2.2.2))))))

noncomputable def uM : Kn St := ⟨84, [.kv (.ptr jm)], [.kv (.list .i)], .rw fun x σ => kE x.1 σ⟩

theorem zh : uM.ok Tryz.prog TB := nN ⟨Tryz.prog, TB, 33, KLs, MLs, [], [], [], [wX]⟩ ⟨[], [], [], []⟩ aK ⟨AU, trivial⟩ (fn := Tryz.f84) (by kernel_rfl) (by kernel_rfl) (by kernel_rfl)
noncomputable def gq (p0 : Int) (p1 : Int) (p2 : Int) : Option Bool :=
  some (decide (p0 ≥ p1) && decide (p0 ≤ p2))

noncomputable def nG : Kn St := ⟨92, [.kv .i, .kv .i, .kv .i], [.kv .bool], .ro fun x σ => gq x.1 x.2.1 x.2.2.1⟩

theorem lZ : nG.ok Tryz.prog TB := fD ⟨Tryz.prog, TB, 15, KLs, MLs, [], [], [], []⟩ ⟨[], [], [], []⟩ aK trivial (fn := Tryz.f92) (by kernel_rfl) (by kernel_rfl) (by kernel_rfl)
noncomputable def kT (p0 : List UInt8) (s0 : (List (List UInt8)) × Int × Int) : Option (((List (List UInt8)) × Int × Int) ⊕ ((List (List UInt8)) × Int)) :=
  if decide (s0.2.2 < (p0.length : Int)) = true then
  if 0 ≤ s0.2.2 ∧ s0.2.2 < (p0.length : Int) then
  if (btS p0 s0.2.2 == 47) = true then
  if 0 ≤ s0.2.1 ∧ s0.2.1 ≤ s0.2.2 ∧ s0.2.2 ≤ (p0.length : Int) then
  if ((s0.1.length + 1) * 16) ≤ 140737488355328 then
  some (.inl ((s0.1 ++ [(p0.take s0.2.2.toNat).drop s0.2.1.toNat]), (IntKind.wrap .i64 (s0.2.2 + 1), IntKind.wrap .i64 (s0.2.2 + 1))))
  else
  none
  else
  none
  else
  some (.inl (s0.1, (s0.2.1, IntKind.wrap .i64 (s0.2.2 + 1))))
  else
  none
  else
  some (.inr (s0.1, s0.2.1))

noncomputable def rU (p0 : List UInt8) : Option (List (List UInt8)) :=
  Option.bind (aY (kT p0) ([], ((0 : Int), (0 : Int)))) fun x1 =>
  if 0 ≤ x1.2 ∧ x1.2 ≤ (p0.length : Int) then
  if ((x1.1.length + 1) * 16) ≤ 140737488355328 then
  some (x1.1 ++ [p0.drop x1.2.toNat])
  else
  none
  else
  none

noncomputable def Cf : Kn St := ⟨152, [.kv .str], [.kv (.list .str)], .ro fun x σ => rU x.1⟩

theorem F9 : Cf.ok Tryz.prog TB := fD ⟨Tryz.prog, TB, 31, KLs, MLs, [], [], [], []⟩ ⟨[], [], [], [(4, ⟨[(3, .own 9 16 .str), (4, .kv .i), (8, .kv .i)], false, [⟨.ext 0, [(3, .own 9 16 .str), (4, .kv .i)]⟩], false, []⟩)]⟩ aK trivial (fn := Tryz.f152) (by kernel_rfl) (by kernel_rfl) (by kernel_rfl)
noncomputable def sJ (p0 : List UInt8) (s0 : Int) : Option (Int ⊕ (Unit ⊕ Bool)) :=
  if decide (s0 < (p0.length : Int)) = true then
  if 0 ≤ s0 ∧ s0 < (p0.length : Int) then
  if (decide (btS p0 s0 ≥ 97) && decide (btS p0 s0 ≤ 122)) = true then
  some (.inl (IntKind.wrap .i64 (s0 + 1)))
  else
  if (decide (btS p0 s0 ≥ 48) && decide (btS p0 s0 ≤ 57)) = true then
  some (.inl (IntKind.wrap .i64 (s0 + 1)))
  else
  if (btS p0 s0 == 45) = true then
  some (.inl (IntKind.wrap .i64 (s0 + 1)))
  else
  if (btS p0 s0 == 95) = true then
  some (.inl (IntKind.wrap .i64 (s0 + 1)))
  else
  some (.inr (.inr false))
  else
  none
  else
  some (.inr (.inl ()))

noncomputable def rV (p0 : List UInt8) : Option Bool :=
  if (p0 == []) = true then
  some false
  else
  Option.bind (aY (sJ p0) (0 : Int)) fun x1 =>
  kC x1 (fun x2 =>
  some true) Option.some

noncomputable def Ci : Kn St := ⟨133, [.kv .str], [.kv .bool], .ro fun x σ => rV x.1⟩

theorem Gf : Ci.ok Tryz.prog TB := fD ⟨Tryz.prog, TB, 33, KLs, MLs, [], [], [], []⟩ ⟨[], [], [], [(4, ⟨[(9, .kv .i)], false, [⟨.ext 0, []⟩], true, []⟩)]⟩ aK trivial (fn := Tryz.f133) (by kernel_rfl) (by kernel_rfl) (by kernel_rfl)
noncomputable def sH (p0 : Int) (p1 : Int) (p2 : List UInt8) : Option Bool :=
  Option.bind (rV p2) fun x0 =>
  some x0

noncomputable def yN : Kn St := ⟨132, [.kv .i, .kv .i, .kv .str], [.kv .bool], .ro fun x σ => sH x.1 x.2.1 x.2.2.1⟩

theorem CJ : yN.ok Tryz.prog TB := fD ⟨Tryz.prog, TB, 9, KLs, MLs, [], [], [], [Ci]⟩ ⟨[], [], [], []⟩ aK ⟨Gf, trivial⟩ (fn := Tryz.f132) (by kernel_rfl) (by kernel_rfl) (by kernel_rfl)
noncomputable def iJ (x0 : List (List UInt8)) (s1 : Int) : Option (Int ⊕ (Unit ⊕ Bool)) :=
  if decide (s1 < (x0.length : Int)) = true then
  Option.bind (ix x0 s1) fun x2 =>
  Option.bind (sH s1 (x0.length : Int) x2) fun x3 =>
  if (!x3) = true then
  some (.inr (.inr false))
  else
  some (.inl (IntKind.wrap .i64 (s1 + 1)))
  else
  some (.inr (.inl ()))

noncomputable def ja (p0 : List UInt8) (p1 : Unit) : Option Bool :=
  if decide ((p0.length : Int) > 32) = true then
  some false
  else
  Option.bind (rU p0) fun x0 =>
  Option.bind (aY (iJ x0) (0 : Int)) fun x4 =>
  kC x4 (fun x5 =>
  some (decide ((x0.length : Int) ≤ 4))) Option.some

noncomputable def nI : Kn St := ⟨131, [.kv .str, .clo 132 []], [.kv .bool], .ro fun x σ => ja x.1 x.2.1⟩

theorem tN : nI.ok Tryz.prog TB := fD ⟨Tryz.prog, TB, 31, KLs, MLs, [], [], [], [Cf, yN]⟩ ⟨[], [], [], [(5, ⟨[(15, .kv .i)], false, [⟨.ext 0, []⟩], true, []⟩)]⟩ aK ⟨F9, CJ, trivial⟩ (fn := Tryz.f131) (by kernel_rfl) (by kernel_rfl) (by kernel_rfl)
end Go.Proofs.YtbnmhjobnepajaaGreat.M


set_option maxRecDepth 100000
namespace Go.Proofs.YtbnmhjobnepajaaGreat.M
open Go.Proofs
noncomputable def qI (p0 : List UInt8) : Option Bool :=
  Option.bind (ja p0 ()) fun x0 =>
  some x0

noncomputable def Au : Kn St := ⟨112, [.kv .str], [.kv .bool], .ro fun x σ => qI x.1⟩

theorem Fa : Au.ok Tryz.prog TB := fD ⟨Tryz.prog, TB, 5, KLs, MLs, [], [], [], [nI]⟩ ⟨[], [], [], []⟩ aK ⟨tN, trivial⟩ (fn := Tryz.f112) (by kernel_rfl) (by kernel_rfl) (by kernel_rfl)
noncomputable def xQ (p0 : Int) (p1 : Int) (p2 : List UInt8) : Option Bool :=
  Option.bind (gq p0 (0 : Int) (5 : Int)) fun x0 =>
  Option.bind (if x0 = true then
  gq p1 (1 : Int) (1099511627776 : Int)
  else
  some false) fun x1 =>
  Option.bind (if (x0 && x1) = true then
  qI p2
  else
  some false) fun x2 =>
  some ((x0 && x1) && x2)

noncomputable def Hq : Kn St := ⟨91, [.kv .i, .kv .i, .kv .str], [.kv .bool], .ro fun x σ => xQ x.1 x.2.1 x.2.2.1⟩

theorem J3 : Hq.ok Tryz.prog TB := fD ⟨Tryz.prog, TB, 17, KLs, MLs, [], [], [], [nG, Au]⟩ ⟨[], [], [], []⟩ aK ⟨lZ, Fa, trivial⟩ (fn := Tryz.f91) (by kernel_rfl) (by kernel_rfl) (by kernel_rfl)
noncomputable def uj (p0 : List Int) (s0 : Int) : Option (Int ⊕ (Unit ⊕ Bool)) :=
  if decide (s0 < (p0.length : Int)) = true then
  Option.bind (ix p0 s0) fun x1 =>
  Option.bind (gq x1 (-1099511627776 : Int) (1099511627776 : Int)) fun x2 =>
  if (!x2) = true then
  some (.inr (.inr false))
  else
  some (.inl (IntKind.wrap .i64 (s0 + 1)))
  else
  some (.inr (.inl ()))

noncomputable def ui (p0 : List Int) (p1 : Int) : Option Bool :=
  Option.bind (aY (uj p0) (0 : Int)) fun x3 =>
  kC x3 (fun x4 =>
  some (decide ((p0.length : Int) ≤ p1))) Option.some

noncomputable def DU : Kn St := ⟨93, [.kv (.list .i), .kv .i], [.kv .bool], .ro fun x σ => ui x.1 x.2.1⟩

theorem Ht : DU.ok Tryz.prog TB := fD ⟨Tryz.prog, TB, 21, KLs, MLs, [], [], [], [nG]⟩ ⟨[], [], [], [(2, ⟨[(9, .kv .i)], false, [⟨.ext 0, []⟩], true, []⟩)]⟩ aK ⟨lZ, trivial⟩ (fn := Tryz.f93) (by kernel_rfl) (by kernel_rfl) (by kernel_rfl)
noncomputable def wH (p0 : Int × Int × (List UInt8) × Int × (List Int) × Int × Unit) : Option Bool :=
  Option.bind (xQ p0.1 p0.2.1 p0.2.2.1) fun x0 =>
  Option.bind (if x0 = true then
  gq p0.2.2.2.1 (0 : Int) (11 : Int)
  else
  some false) fun x1 =>
  Option.bind (if (x0 && x1) = true then
  ui p0.2.2.2.2.1 (4 : Int)
  else
  some false) fun x2 =>
  Option.bind (if ((x0 && x1) && x2) = true then
  gq p0.2.2.2.2.2.1 (-1 : Int) (1099511627776 : Int)
  else
  some false) fun x3 =>
  some (((x0 && x1) && x2) && x3)

noncomputable def DN : Kn St := ⟨60, [.kv eY], [.kv .bool], .ro fun x σ => wH x.1⟩

theorem DR : DN.ok Tryz.prog TB := fD ⟨Tryz.prog, TB, 25, KLs, MLs, [], [1000001], [], [Hq, nG, DU]⟩ ⟨[], [], [], []⟩ aK ⟨J3, lZ, Ht, trivial⟩ (fn := Tryz.f60) (by kernel_rfl) (by kernel_rfl) (by kernel_rfl)
noncomputable def fU (p0 : Option Nat) (p1 : Int × Int × (List UInt8) × Int × (List Int) × Int × Unit) (p2 : Unit) (σ : St) : Option (((Int × Int × (List UInt8) × Int × (List Int) × Int × Unit) × Int × Int) × St) :=
  Option.bind p0 fun x0 =>
  Option.bind σ.au[x0]? fun x1 =>
  Option.bind (if (x1.2.2.1 == 0) = true then
  wH p1
  else
  some false) fun x2 =>
  Option.bind (if ((x1.2.2.1 == 0) && (!x2)) = true then
  Option.bind p0 fun x3 =>
  Option.bind σ.au[x3]? fun x4 =>
  some (σ.bn (σ.au.set x3 (x4.1, (x4.2.1, ((6 : Int), x4.2.2.2)))))
  else
  some σ) fun x5 =>
  Option.bind p0 fun x6 =>
  Option.bind x5.au[x6]? fun x7 =>
  if (x7.2.2.1 != 0) = true then
  Option.bind p0 fun x8 =>
  Option.bind x5.au[x8]? fun x9 =>
  some ((((0 : Int), ((0 : Int), ([], ((0 : Int), ([], ((0 : Int), ())))))), ((0 : Int), x9.2.2.1)), x5)
  else
  Option.bind p0 fun x10 =>
  Option.bind x5.au[x10]? fun x11 =>
  some ((p1, (x11.2.1, (0 : Int))), x5)

noncomputable def nR : Kn St := ⟨85, [.kv (.ptr jm), .kv eY, .clo 60 []], [.kv eY, .kv .i, .kv .i], .rw fun x σ => fU x.1 x.2.1 x.2.2.1 σ⟩

theorem uI : nR.ok Tryz.prog TB := nN ⟨Tryz.prog, TB, 39, KLs, MLs, [], [1000004, 2000009], [], [DN]⟩ ⟨[], [(3, ⟨[], true, [⟨.nrm, []⟩], false, [6]⟩)], [], []⟩ aK ⟨DR, trivial⟩ (fn := Tryz.f85) (by kernel_rfl) (by kernel_rfl) (by kernel_rfl)
noncomputable def rP (p0 : List UInt8) (p1 : Int) (σ : St) : Option (((Int × Int × (List UInt8) × Int × (List Int) × Int × Unit) × Int × Int) × St) :=
  Option.bind (cO (some σ.au.length) (σ.bn (σ.au ++ [(p0, (p1, ((0 : Int), ())))]))) fun x0 =>
  Option.bind (cO (some σ.au.length) x0.2) fun x1 =>
  Option.bind (mV (some σ.au.length) x1.2) fun x2 =>
  Option.bind (cO (some σ.au.length) x2.2) fun x3 =>
  Option.bind (kE (some σ.au.length) x3.2) fun x4 =>
  Option.bind (cO (some σ.au.length) x4.2) fun x5 =>
  Option.bind (fU (some σ.au.length) (x0.1, (x1.1, (x2.1, (x3.1, (x4.1, (x5.1, ())))))) () x5.2) fun x6 =>
  some ((x6.1.1, (x6.1.2.1, x6.1.2.2)), x6.2)

noncomputable def Cb : Kn St := ⟨53, [.kv .str, .kv .i], [.kv eY, .kv .i, .kv .i], .rw fun x σ => rP x.1 x.2.1 σ⟩

theorem F6 : Cb.ok Tryz.prog TB := nN ⟨Tryz.prog, TB, 32, KLs, MLs, [], [3000008], [], [lD, xB, uM, nR]⟩ ⟨[], [], [], []⟩ aK ⟨mO, BD, zh, uI, trivial⟩ (fn := Tryz.f53) (by kernel_rfl) (by kernel_rfl) (by kernel_rfl)
noncomputable def dS (p0 : List UInt8) (p1 : Unit) (σ : St) : Option (((Int × Int × (List UInt8) × Int × (List Int) × Int × Unit) × Bool) × St) :=
  Option.bind (rP p0 (0 : Int) σ) fun x0 =>
  some ((x0.1.1, ((x0.1.2.2 == 0) && (x0.1.2.1 == (p0.length : Int)))), x0.2)

noncomputable def jO : Kn St := ⟨52, [.kv .str, .clo 53 []], [.kv eY, .kv .bool], .rw fun x σ => dS x.1 x.2.1 σ⟩

theorem oP : jO.ok Tryz.prog TB := nN ⟨Tryz.prog, TB, 25, KLs, MLs, [], [2000006], [], [Cb]⟩ ⟨[], [], [], []⟩ aK ⟨F6, trivial⟩ (fn := Tryz.f52) (by kernel_rfl) (by kernel_rfl) (by kernel_rfl)
noncomputable def dL (p0 : Option Nat) (σ : St) : Option Int :=
  if p0.isNone = true then
  some (0 : Int)
  else
  Option.bind p0 fun x0 =>
  Option.bind σ.ah[x0]? fun x1 =>
  Option.bind p0 fun x2 =>
  Option.bind σ.ah[x2]? fun x3 =>
  some (IntKind.wrap .i64 (IntKind.wrap .i64 ((x1.2.2.2.1.length : Int) + (x3.2.2.1.length : Int)) + 1))

noncomputable def iy : Kn St := ⟨24, [.kv (.ptr bu)], [.kv .i], .ro fun x σ => dL x.1 σ⟩

theorem iC : iy.ok Tryz.prog TB := fD ⟨Tryz.prog, TB, 17, KLs, MLs, [], [], [], []⟩ ⟨[], [], [], []⟩ aK trivial (fn := Tryz.f24) (by kernel_rfl) (by kernel_rfl) (by kernel_rfl)
noncomputable def mW (p0 : Option Nat) (p1 : List UInt8) (σ : St) : Option (Bool × St) :=
  Option.bind (dS p1 () σ) fun x0 =>
  if (!(!x0.1.2)) = true then
  Option.bind p0 fun x1 =>
  Option.bind x0.2.ah[x1]? fun x2 =>
  if (!(x0.1.1.1 != x2.1)) = true then
  Option.bind (dL p0 x0.2) fun x3 =>
  if (x0.1.1.2.1 != x3) = true then
  some (false, x0.2)
  else
  Option.bind p0 fun x4 =>
  Option.bind x0.2.ah[x4]? fun x5 =>
  if ((x5.2.2.1.length + 1) * 72) ≤ 140737488355328 then
  Option.bind p0 fun x6 =>
  Option.bind x0.2.ah[x6]? fun x7 =>
  if x4 = x6 ∧ true = true then
  some (true, (x0.2.bM (x0.2.ah.set x6 (x7.1, (x7.2.1, ((x5.2.2.1 ++ [x0.1.1]), x7.2.2.2))))))
  else
  none
  else
  none
  else
  some (false, x0.2)
  else
  some (false, x0.2)

noncomputable def xE : Kn St := ⟨27, [.kv (.ptr bu), .kv .str], [.kv .bool], .rw fun x σ => mW x.1 x.2.1 σ⟩

theorem BF : xE.ok Tryz.prog TB := nN ⟨Tryz.prog, TB, 40, KLs, MLs, [], [2000005], [34], [jO, iy]⟩ ⟨[], [], [], []⟩ aK ⟨oP, iC, trivial⟩ (fn := Tryz.f27) (by kernel_rfl) (by kernel_rfl) (by kernel_rfl)
noncomputable def nU (p0 : Option Nat) (σ : St) : Option ((Int × Int × Unit) × St) :=
  Option.bind (cO p0 σ) fun x0 =>
  Option.bind (cO p0 x0.2) fun x1 =>
  some ((x0.1, (x1.1, ())), x1.2)

noncomputable def uH : Kn St := ⟨88, [.kv (.ptr jm)], [.kv aI], .rw fun x σ => nU x.1 σ⟩

theorem zg : uH.ok Tryz.prog TB := nN ⟨Tryz.prog, TB, 8, KLs, MLs, [], [], [], [lD]⟩ ⟨[], [], [], []⟩ aK ⟨mO, trivial⟩ (fn := Tryz.f88) (by kernel_rfl) (by kernel_rfl) (by kernel_rfl)
noncomputable def bG (p0 : Option Nat) (x0 : Int × St) (s7 : (List (Int × Int × Unit)) × Int × St) : Option (((List (Int × Int × Unit)) × Int × St) ⊕ ((List (Int × Int × Unit)) × St)) :=
  Option.bind (if decide (s7.2.1 < x0.1) = true then
  p0
  else
  some 0) fun x8 =>
  Option.bind (if decide (s7.2.1 < x0.1) = true then
  s7.2.2.au[x8]?
  else
  some ([], ((0 : Int), ((0 : Int), ())))) fun x9 =>
  if (decide (s7.2.1 < x0.1) && (x9.2.2.1 == 0)) = true then
  Option.bind (nU p0 s7.2.2) fun x10 =>
  if ((s7.1.length + 1) * 16) ≤ 140737488355328 then
  some (.inl ((s7.1 ++ [x10.1]), (IntKind.wrap .i64 (s7.2.1 + 1), x10.2)))
  else
  none
  else
  some (.inr (s7.1, s7.2.2))

noncomputable def bZ (p0 : Option Nat) (p1 : Int) (p2 : Unit) (σ : St) : Option ((List (Int × Int × Unit)) × St) :=
  Option.bind (cO p0 σ) fun x0 =>
  Option.bind p0 fun x1 =>
  Option.bind x0.2.au[x1]? fun x2 =>
  Option.bind (if (x2.2.2.1 == 0) = true then
  gq x0.1 (0 : Int) p1
  else
  some false) fun x3 =>
  Option.bind (if ((x2.2.2.1 == 0) && (!x3)) = true then
  Option.bind p0 fun x4 =>
  Option.bind x0.2.au[x4]? fun x5 =>
  some (x0.2.bn (x0.2.au.set x4 (x5.1, (x5.2.1, ((6 : Int), x5.2.2.2)))))
  else
  some x0.2) fun x6 =>
  Option.bind (aY (bG p0 x0) ([], ((0 : Int), x6))) fun x11 =>
  some (x11.1, x11.2)

noncomputable def gQ : Kn St := ⟨87, [.kv (.ptr jm), .kv .i, .clo 88 []], [.kv (.list aI)], .rw fun x σ => bZ x.1 x.2.1 x.2.2.1 σ⟩

theorem lK : gQ.ok Tryz.prog TB := nN ⟨Tryz.prog, TB, 45, KLs, MLs, [], [44], [], [lD, nG, uH]⟩ ⟨[], [(3, ⟨[], true, [⟨.nrm, []⟩], false, []⟩)], [], [(6, ⟨[(8, .own 58 16 aI), (9, .kv .i)], true, [⟨.ext 0, [(8, .own 58 16 aI)]⟩], false, []⟩)]⟩ aK ⟨mO, lZ, zg, trivial⟩ (fn := Tryz.f87) (by kernel_rfl) (by kernel_rfl) (by kernel_rfl)
noncomputable def qZ (p0 : List (Int × Int × Unit)) (s0 : Int) : Option (Int ⊕ (Unit ⊕ Bool)) :=
  if decide (s0 < (p0.length : Int)) = true then
  Option.bind (ix p0 s0) fun x1 =>
  Option.bind (gq x1.1 (1 : Int) (1099511627776 : Int)) fun x2 =>
  if (!(!x2)) = true then
  Option.bind (gq x1.2.1 (0 : Int) (63 : Int)) fun x3 =>
  if (!(!x3)) = true then
  if decide (s0 > 0) = true then
  Option.bind (ix p0 (IntKind.wrap .i64 (s0 - 1))) fun x4 =>
  if decide (x1.1 ≤ x4.1) = true then
  some (.inr (.inr false))
  else
  some (.inl (IntKind.wrap .i64 (s0 + 1)))
  else
  some (.inl (IntKind.wrap .i64 (s0 + 1)))
  else
  some (.inr (.inr false))
  else
  some (.inr (.inr false))
  else
  some (.inr (.inl ()))

noncomputable def ny (p0 : List (Int × Int × Unit)) : Option Bool :=
  Option.bind (aY (qZ p0) (0 : Int)) fun x5 =>
  kC x5 (fun x6 =>
  some (decide ((p0.length : Int) ≤ 32))) Option.some

noncomputable def vP : Kn St := ⟨77, [.kv (.list aI)], [.kv .bool], .ro fun x σ => ny x.1⟩

theorem xC : vP.ok Tryz.prog TB := fD ⟨Tryz.prog, TB, 41, KLs, MLs, [], [4000004], [], [nG]⟩ ⟨[], [], [], [(2, ⟨[(7, .kv .i)], false, [⟨.ext 0, []⟩], true, []⟩)]⟩ aK ⟨lZ, trivial⟩ (fn := Tryz.f77) (by kernel_rfl) (by kernel_rfl) (by kernel_rfl)
noncomputable def dJ (p0 : Option Nat) (p1 : List (Int × Int × Unit)) (p2 : Unit) (σ : St) : Option (((List (Int × Int × Unit)) × Int × Int) × St) :=
  Option.bind p0 fun x0 =>
  Option.bind σ.au[x0]? fun x1 =>
  Option.bind (if (x1.2.2.1 == 0) = true then
  ny p1
  else
  some false) fun x2 =>
  Option.bind (if ((x1.2.2.1 == 0) && (!x2)) = true then
  Option.bind p0 fun x3 =>
  Option.bind σ.au[x3]? fun x4 =>
  some (σ.bn (σ.au.set x3 (x4.1, (x4.2.1, ((6 : Int), x4.2.2.2)))))
  else
  some σ) fun x5 =>
  Option.bind p0 fun x6 =>
  Option.bind x5.au[x6]? fun x7 =>
  if (x7.2.2.1 != 0) = true then
  Option.bind p0 fun x8 =>
  Option.bind x5.au[x8]? fun x9 =>
  some (([], ((0 : Int), x9.2.2.1)), x5)
  else
  Option.bind p0 fun x10 =>
  Option.bind x5.au[x10]? fun x11 =>
  some ((p1, (x11.2.1, (0 : Int))), x5)

noncomputable def jE : Kn St := ⟨86, [.kv (.ptr jm), .kv (.list aI), .clo 77 []], [.kv (.list aI), .kv .i, .kv .i], .rw fun x σ => dJ x.1 x.2.1 x.2.2.1 σ⟩

theorem oG : jE.ok Tryz.prog TB := nN ⟨Tryz.prog, TB, 39, KLs, MLs, [], [], [], [vP]⟩ ⟨[], [(3, ⟨[], true, [⟨.nrm, []⟩], false, []⟩)], [], []⟩ aK ⟨xC, trivial⟩ (fn := Tryz.f86) (by kernel_rfl) (by kernel_rfl) (by kernel_rfl)
noncomputable def pV (p0 : List UInt8) (p1 : Int) (σ : St) : Option (((List (Int × Int × Unit)) × Int × Int) × St) :=
  Option.bind (bZ (some σ.au.length) (32 : Int) () (σ.bn (σ.au ++ [(p0, (p1, ((0 : Int), ())))]))) fun x0 =>
  Option.bind (dJ (some σ.au.length) x0.1 () x0.2) fun x1 =>
  some ((x1.1.1, (x1.1.2.1, x1.1.2.2)), x1.2)

noncomputable def wJ : Kn St := ⟨55, [.kv .str, .kv .i], [.kv (.list aI), .kv .i, .kv .i], .rw fun x σ => pV x.1 x.2.1 σ⟩

theorem Af : wJ.ok Tryz.prog TB := nN ⟨Tryz.prog, TB, 19, KLs, MLs, [], [], [], [gQ, jE]⟩ ⟨[], [], [], []⟩ aK ⟨lK, oG, trivial⟩ (fn := Tryz.f55) (by kernel_rfl) (by kernel_rfl) (by kernel_rfl)
noncomputable def bV (p0 : List UInt8) (p1 : Unit) (σ : St) : Option (((List (Int × Int × Unit)) × Bool) × St) :=
  Option.bind (pV p0 (0 : Int) σ) fun x0 =>
  some ((x0.1.1, ((x0.1.2.2 == 0) && (x0.1.2.1 == (p0.length : Int)))), x0.2)

noncomputable def gB : Kn St := ⟨54, [.kv .str, .clo 55 []], [.kv (.list aI), .kv .bool], .rw fun x σ => bV x.1 x.2.1 σ⟩

theorem lG : gB.ok Tryz.prog TB := nN ⟨Tryz.prog, TB, 25, KLs, MLs, [], [], [], [wJ]⟩ ⟨[], [], [], []⟩ aK ⟨Af, trivial⟩ (fn := Tryz.f54) (by kernel_rfl) (by kernel_rfl) (by kernel_rfl)
noncomputable def cZ (p0 : Option Nat) (σ : St) : Option Int :=
  if p0.isNone = true then
  some (0 : Int)
  else
  Option.bind p0 fun x0 =>
  Option.bind σ.ah[x0]? fun x1 =>
  some (IntKind.wrap .i64 ((x1.2.2.2.1.length : Int) + 1))

noncomputable def gm : Kn St := ⟨23, [.kv (.ptr bu)], [.kv .i], .ro fun x σ => cZ x.1 σ⟩

theorem gz : gm.ok Tryz.prog TB := fD ⟨Tryz.prog, TB, 11, KLs, MLs, [], [], [], []⟩ ⟨[], [], [], []⟩ aK trivial (fn := Tryz.f23) (by kernel_rfl) (by kernel_rfl) (by kernel_rfl)
noncomputable def nz (p0 : Option Nat) (p1 : List (Int × Int × Unit)) (σ : St) (s0 : Int) : Option (Int ⊕ (Unit ⊕ Bool)) :=
  if decide (s0 < (p1.length : Int)) = true then
  Option.bind (ix p1 s0) fun x1 =>
  Option.bind (cZ p0 σ) fun x2 =>
  if (x1.1 != IntKind.wrap .i64 (x2 + s0)) = true then
  some (.inr (.inr false))
  else
  some (.inl (IntKind.wrap .i64 (s0 + 1)))
  else
  some (.inr (.inl ()))

noncomputable def jw (p0 : Option Nat) (p1 : List (Int × Int × Unit)) (σ : St) : Option Bool :=
  Option.bind (aY (nz p0 p1 σ) (0 : Int)) fun x3 =>
  kC x3 (fun x4 =>
  Option.bind (if decide ((p1.length : Int) > 0) = true then
  p0
  else
  some 0) fun x5 =>
  Option.bind (if decide ((p1.length : Int) > 0) = true then
  σ.ah[x5]?
  else
  some ((0 : Int), (none, ([], ([], ()))))) fun x6 =>
  some (decide ((p1.length : Int) > 0) && decide ((p1.length : Int) ≤ (x6.2.2.1.length : Int)))) Option.some

noncomputable def qj : Kn St := ⟨44, [.kv (.ptr bu), .kv (.list aI)], [.kv .bool], .ro fun x σ => jw x.1 x.2.1 σ⟩

theorem tu : qj.ok Tryz.prog TB := fD ⟨Tryz.prog, TB, 35, KLs, MLs, [], [4000006], [], [gm]⟩ ⟨[], [], [], [(2, ⟨[(9, .kv .i)], false, [⟨.ext 0, []⟩], true, []⟩)]⟩ aK ⟨gz, trivial⟩ (fn := Tryz.f44) (by kernel_rfl) (by kernel_rfl) (by kernel_rfl)
noncomputable def jy (p0 : Option Nat) (p1 : List (Int × Int × Unit)) (σ : St) : Option (Unit × St) :=
  Option.bind p0 fun x0 =>
  Option.bind σ.ah[x0]? fun x1 =>
  if ((x1.2.2.2.1.length + p1.length) * 16) ≤ 140737488355328 then
  Option.bind p0 fun x2 =>
  Option.bind σ.ah[x2]? fun x3 =>
  if x0 = x2 ∧ true = true then
  Option.bind p0 fun x4 =>
  Option.bind ((σ.ah.set x2 (x3.1, (x3.2.1, (x3.2.2.1, ((x1.2.2.2.1 ++ p1), x3.2.2.2.2)))))[x4]?) fun x5 =>
  if 0 ≤ (p1.length : Int) ∧ (p1.length : Int) ≤ (x5.2.2.1.length : Int) then
  if ((0 + (x5.2.2.1.drop ((p1.length : Int).toNat)).length) * 72) ≤ 140737488355328 then
  Option.bind p0 fun x6 =>
  Option.bind ((σ.ah.set x2 (x3.1, (x3.2.1, (x3.2.2.1, ((x1.2.2.2.1 ++ p1), x3.2.2.2.2)))))[x6]?) fun x7 =>
  some ((), ((σ.bM (σ.ah.set x2 (x3.1, (x3.2.1, (x3.2.2.1, ((x1.2.2.2.1 ++ p1), x3.2.2.2.2)))))).bM ((σ.ah.set x2 (x3.1, (x3.2.1, (x3.2.2.1, ((x1.2.2.2.1 ++ p1), x3.2.2.2.2))))).set x6 (x7.1, (x7.2.1, (([] ++ x5.2.2.1.drop ((p1.length : Int).toNat)), x7.2.2.2))))))
  else
  none
  else
  none
  else
  none
  else
  none

noncomputable def qm : Kn St := ⟨45, [.kv (.ptr bu), .kv (.list aI)], [], .rw fun x σ => jy x.1 x.2.1 σ⟩

theorem tC : qm.ok Tryz.prog TB := nN ⟨Tryz.prog, TB, 25, KLs, MLs, [], [], [8], []⟩ ⟨[], [], [], []⟩ aK trivial (fn := Tryz.f45) (by kernel_rfl) (by kernel_rfl) (by kernel_rfl)
noncomputable def jl (p0 : Option Nat) (p1 : List UInt8) (σ : St) : Option (Bool × St) :=
  Option.bind (bV p1 () σ) fun x0 =>
  Option.bind (if (!(!x0.1.2)) = true then
  jw p0 x0.1.1 x0.2
  else
  some false) fun x1 =>
  if ((!x0.1.2) || (!x1)) = true then
  some (false, x0.2)
  else
  Option.bind (jy p0 x0.1.1 x0.2) fun x2 =>
  some (true, x2.2)

noncomputable def rG : Kn St := ⟨28, [.kv (.ptr bu), .kv .str], [.kv .bool], .rw fun x σ => jl x.1 x.2.1 σ⟩

theorem xX : rG.ok Tryz.prog TB := nN ⟨Tryz.prog, TB, 23, KLs, MLs, [], [], [], [gB, qj, qm]⟩ ⟨[], [], [], []⟩ aK ⟨lG, tu, tC, trivial⟩ (fn := Tryz.f28) (by kernel_rfl) (by kernel_rfl) (by kernel_rfl)
noncomputable def jb (p0 : List UInt8) (p1 : Nat) (σ : St) : Option (Bool × St) :=
  if (p0 == []) = true then
  some (false, σ)
  else
  if (0 : Int) ≤ (0 : Int) ∧ 0 < (p0.length : Int) then
  if (btS p0 (0 : Int) == 99) = true then
  Option.bind σ.bz[p1]? fun x0 =>
  if (0 : Int) ≤ (1 : Int) ∧ 1 ≤ (p0.length : Int) then
  Option.bind (mW x0.1 (p0.drop 1) σ) fun x1 =>
  some (x1.1, x1.2)
  else
  none
  else
  if (0 : Int) ≤ (0 : Int) ∧ 0 < (p0.length : Int) then
  if (btS p0 (0 : Int) == 118) = true then
  Option.bind σ.bz[p1]? fun x2 =>
  if (0 : Int) ≤ (1 : Int) ∧ 1 ≤ (p0.length : Int) then
  Option.bind (jl x2.1 (p0.drop 1) σ) fun x3 =>
  some (x3.1, x3.2)
  else
  none
  else
  some (false, σ)
  else
  none
  else
  none

noncomputable def Aw : Kn St := ⟨26, [.kv .str, .cap VS], [.kv .bool], .rw fun x σ => jb x.1 x.2.1 σ⟩

theorem Fb : Aw.ok Tryz.prog TB := nN ⟨Tryz.prog, TB, 23, KLs, MLs, [], [], [], [xE, rG]⟩ ⟨[], [], [], []⟩ aK ⟨BF, xX, trivial⟩ (fn := Tryz.f26) (by kernel_rfl) (by kernel_rfl) (by kernel_rfl)
noncomputable def fV (x0 : ((Option Nat) × Int) × St) (x3 : Int) (s4 : Int × St) : Option ((Int × St) ⊕ (St ⊕ (((Option Nat) × Int) × St))) :=
  if decide (s4.1 < x3) = true then
  Option.bind (um x0.1.1 s4.1 s4.2) fun x5 =>
  Option.bind (jb x5.1 x0.2.bz.length s4.2) fun x6 =>
  if (!x6.1) = true then
  some (.inr (.inr ((none, (6 : Int)), x6.2)))
  else
  some (.inl (IntKind.wrap .i64 (s4.1 + 1), x6.2))
  else
  some (.inr (.inl s4.2))

noncomputable def eQ (p0 : Option Nat) (p1 : Int) (σ : St) : Option (((Option Nat) × Int) × St) :=
  if p0.isNone = true then
  some ((none, (1 : Int)), σ)
  else
  if (decide (p1 < 0) || decide (p1 ≥ 6)) = true then
  some ((none, (14 : Int)), σ)
  else
  Option.bind (Bz p0 [99, 109, 100, 115] (2048 : Int) σ) fun x0 =>
  if (x0.1.2 != 0) = true then
  some ((none, x0.1.2), x0.2)
  else
  Option.bind ((x0.2.bz ++ [(none, ())])[x0.2.bz.length]?) fun x1 =>
  Option.bind (lL x0.1.1 (((x0.2.bM (x0.2.ah ++ [(p1, (x0.1.1, ([], ([], ()))))])).nO (x0.2.bz ++ [(none, ())])).nO ((x0.2.bz ++ [(none, ())]).set x0.2.bz.length (some x0.2.ah.length, x1.2)))) fun x2 =>
  if decide (x2 > 0) = true then
  some ((none, (6 : Int)), (((x0.2.bM (x0.2.ah ++ [(p1, (x0.1.1, ([], ([], ()))))])).nO (x0.2.bz ++ [(none, ())])).nO ((x0.2.bz ++ [(none, ())]).set x0.2.bz.length (some x0.2.ah.length, x1.2))))
  else
  Option.bind (iP x0.1.1 (((x0.2.bM (x0.2.ah ++ [(p1, (x0.1.1, ([], ([], ()))))])).nO (x0.2.bz ++ [(none, ())])).nO ((x0.2.bz ++ [(none, ())]).set x0.2.bz.length (some x0.2.ah.length, x1.2)))) fun x3 =>
  Option.bind (aY (fV x0 x3) ((0 : Int), (((x0.2.bM (x0.2.ah ++ [(p1, (x0.1.1, ([], ([], ()))))])).nO (x0.2.bz ++ [(none, ())])).nO ((x0.2.bz ++ [(none, ())]).set x0.2.bz.length (some x0.2.ah.length, x1.2))))) fun x7 =>
  kC x7 (fun x8 =>
  Option.bind x8.bz[x0.2.bz.length]? fun x9 =>
  some ((x9.1, (0 : Int)), x8)) Option.some

noncomputable def yO : Kn St := ⟨9, [.kv (.ptr di), .kv .i], [.kv (.ptr bu), .kv .i], .rw fun x σ => eQ x.1 x.2.1 σ⟩

theorem zA : yO.ok Tryz.prog TB := nN ⟨Tryz.prog, TB, 56, KLs, MLs, [8], [], [], [MS, xk, nM, DZ, Aw]⟩ ⟨[], [], [], [(13, ⟨[(41, .kv .i)], true, [⟨.ext 1, []⟩], true, []⟩)]⟩ aK ⟨Oj, yV, mf, Hu, Fb, trivial⟩ (fn := Tryz.f9) (by kernel_rfl) (by kernel_rfl) (by kernel_rfl)
noncomputable def pg (p1 : List Int) (s0 : (List Int) × Int) : Option (((List Int) × Int) ⊕ (List Int)) :=
  if decide (s0.2 < (p1.length : Int)) = true then
  Option.bind (ix p1 s0.2) fun x1 =>
  Option.bind (dX x1) fun x2 =>
  if ((s0.1.length + (kN x2).length) * 1) ≤ 140737488355328 then
  some (.inl ((s0.1 ++ kN x2), IntKind.wrap .i64 (s0.2 + 1)))
  else
  none
  else
  some (.inr s0.1)

noncomputable def jq (p0 : List Int) (p1 : List Int) : Option (List Int) :=
  Option.bind (aY (pg p1) (p0, (0 : Int))) fun x3 =>
  some x3

noncomputable def uJ : Kn St := ⟨57, [.own 5 1 (.int .u8), .kv (.list .i)], [.own 5 1 (.int .u8)], .ro fun x σ => jq x.1 x.2.1⟩

theorem uK : uJ.ok Tryz.prog TB := fD ⟨Tryz.prog, TB, 19, KLs, MLs, [], [], [], [jU]⟩ ⟨[], [], [], [(2, ⟨[(0, .own 5 1 (.int .u8)), (9, .kv .i)], false, [⟨.ext 0, [(0, .own 5 1 (.int .u8))]⟩], false, []⟩)]⟩ aK ⟨je, trivial⟩ (fn := Tryz.f57) (by kernel_rfl) (by kernel_rfl) (by kernel_rfl)
noncomputable def wz (p0 : List UInt8) : Option ((List UInt8) × Int) :=
  if decide ((p0.length : Int) > 4096) = true then
  some ([], (4 : Int))
  else
  Option.bind (dX (p0.length : Int)) fun x0 =>
  if (x0.length + p0.length) ≤ 9223372036854775807 then
  some ((x0 ++ p0), (0 : Int))
  else
  none

noncomputable def FN : Kn St := ⟨89, [.kv .str], [.kv .str, .kv .i], .ro fun x σ => wz x.1⟩

theorem I7 : FN.ok Tryz.prog TB := fD ⟨Tryz.prog, TB, 12, KLs, MLs, [], [], [], [jU]⟩ ⟨[], [], [], []⟩ aK ⟨je, trivial⟩ (fn := Tryz.f89) (by kernel_rfl) (by kernel_rfl) (by kernel_rfl)
noncomputable def xR (p0 : List Int) (p1 : List UInt8) : Option (List Int) :=
  Option.bind (wz p1) fun x0 =>
  if ((p0.length + (kN x0.1).length) * 1) ≤ 140737488355328 then
  some (p0 ++ kN x0.1)
  else
  none

noncomputable def Hr : Kn St := ⟨56, [.own 5 1 (.int .u8), .kv .str], [.own 5 1 (.int .u8)], .ro fun x σ => xR x.1 x.2.1⟩

theorem J4 : Hr.ok Tryz.prog TB := fD ⟨Tryz.prog, TB, 15, KLs, MLs, [], [], [], [FN]⟩ ⟨[], [], [], []⟩ aK ⟨I7, trivial⟩ (fn := Tryz.f56) (by kernel_rfl) (by kernel_rfl) (by kernel_rfl)
noncomputable def sK (p0 : Int) : Option ((List UInt8) × Int) :=
  Option.bind (dX p0) fun x0 =>
  some (x0, (0 : Int))

noncomputable def yT : Kn St := ⟨111, [.kv .i], [.kv .str, .kv .i], .ro fun x σ => sK x.1⟩

theorem CU : yT.ok Tryz.prog TB := fD ⟨Tryz.prog, TB, 6, KLs, MLs, [], [], [], [jU]⟩ ⟨[], [], [], []⟩ aK ⟨je, trivial⟩ (fn := Tryz.f111) (by kernel_rfl) (by kernel_rfl) (by kernel_rfl)
noncomputable def dU (p0 : List Int) (s1 : (List Int) × Int) : Option (((List Int) × Int) ⊕ ((List Int) ⊕ ((List UInt8) × Int))) :=
  if decide (s1.2 < (p0.length : Int)) = true then
  Option.bind (ix p0 s1.2) fun x2 =>
  Option.bind (sK x2) fun x3 =>
  if (x3.2 != 0) = true then
  some (.inr (.inr ([], x3.2)))
  else
  if (s1.1.length + (kN x3.1).length) ≤ 140737488355328 then
  some (.inl ((s1.1 ++ kN x3.1), IntKind.wrap .i64 (s1.2 + 1)))
  else
  none
  else
  some (.inr (.inl s1.1))

noncomputable def gU (p0 : List Int) (p1 : Unit) : Option ((List UInt8) × Int) :=
  if decide ((p0.length : Int) > 256) = true then
  some ([], (4 : Int))
  else
  Option.bind (dX (p0.length : Int)) fun x0 =>
  if x0.length ≤ 140737488355328 then
  Option.bind (aY (dU p0) (kN x0, (0 : Int))) fun x4 =>
  kC x4 (fun x5 =>
  some (bQ x5, (0 : Int))) Option.some
  else
  none

noncomputable def kY : Kn St := ⟨110, [.kv (.list .i), .clo 111 []], [.kv .str, .kv .i], .ro fun x σ => gU x.1 x.2.1⟩

theorem qM : kY.ok Tryz.prog TB := fD ⟨Tryz.prog, TB, 39, KLs, MLs, [], [], [], [jU, yT]⟩ ⟨[], [], [], [(5, ⟨[(6, .sby 5), (20, .kv .i)], false, [⟨.ext 0, [(6, .sby 5)]⟩], true, []⟩)]⟩ aK ⟨je, CU, trivial⟩ (fn := Tryz.f110) (by kernel_rfl) (by kernel_rfl) (by kernel_rfl)
noncomputable def qJ (p0 : List Int) : Option ((List UInt8) × Int) :=
  Option.bind (gU p0 ()) fun x0 =>
  some (x0.1, x0.2)

noncomputable def AQ : Kn St := ⟨90, [.kv (.list .i)], [.kv .str, .kv .i], .ro fun x σ => qJ x.1⟩

theorem Fe : AQ.ok Tryz.prog TB := fD ⟨Tryz.prog, TB, 8, KLs, MLs, [], [], [], [kY]⟩ ⟨[], [], [], []⟩ aK ⟨qM, trivial⟩ (fn := Tryz.f90) (by kernel_rfl) (by kernel_rfl) (by kernel_rfl)
noncomputable def rQ (p0 : List Int) (p1 : List Int) : Option (List Int) :=
  Option.bind (qJ p1) fun x0 =>
  if ((p0.length + (kN x0.1).length) * 1) ≤ 140737488355328 then
  some (p0 ++ kN x0.1)
  else
  none

noncomputable def Ce : Kn St := ⟨58, [.own 5 1 (.int .u8), .kv (.list .i)], [.own 5 1 (.int .u8)], .ro fun x σ => rQ x.1 x.2.1⟩

theorem F7 : Ce.ok Tryz.prog TB := fD ⟨Tryz.prog, TB, 15, KLs, MLs, [], [], [], [AQ]⟩ ⟨[], [], [], []⟩ aK ⟨Fe, trivial⟩ (fn := Tryz.f58) (by kernel_rfl) (by kernel_rfl) (by kernel_rfl)
noncomputable def uh (p0 : Bool) (p1 : List Int) : Option ((List UInt8) × Int) :=
  if (!p0) = true then
  some ([], (2 : Int))
  else
  some (bQ p1, (0 : Int))

noncomputable def BC : Kn St := ⟨59, [.kv .bool, .kv (.list (.int .u8))], [.kv .str, .kv .i], .ro fun x σ => uh x.1 x.2.1⟩

theorem Cc : BC.ok Tryz.prog TB := fD ⟨Tryz.prog, TB, 10, KLs, MLs, [], [], [], []⟩ ⟨[], [], [], []⟩ aK trivial (fn := Tryz.f59) (by kernel_rfl) (by kernel_rfl) (by kernel_rfl)
noncomputable def ug (p0 : Int × Int × (List UInt8) × Int × (List Int) × Int × Unit) : Option ((List UInt8) × Int) :=
  Option.bind (jq [] [p0.1, p0.2.1]) fun x0 =>
  Option.bind (xR x0 p0.2.2.1) fun x1 =>
  Option.bind (jq x1 [p0.2.2.2.1]) fun x2 =>
  Option.bind (rQ x2 p0.2.2.2.2.1) fun x3 =>
  Option.bind (wH p0) fun x4 =>
  Option.bind (jq x3 [p0.2.2.2.2.2.1]) fun x5 =>
  Option.bind (uh x4 x5) fun x6 =>
  some (x6.1, x6.2)

noncomputable def DL : Kn St := ⟨32, [.kv eY], [.kv .str, .kv .i], .ro fun x σ => ug x.1⟩

theorem Ho : DL.ok Tryz.prog TB := fD ⟨Tryz.prog, TB, 32, KLs, MLs, [], [1000001], [], [uJ, Hr, Ce, DN, BC]⟩ ⟨[], [], [], []⟩ aK ⟨uK, J4, F7, DR, Cc, trivial⟩ (fn := Tryz.f32) (by kernel_rfl) (by kernel_rfl) (by kernel_rfl)
noncomputable def xP (p0 : List UInt8) : Option (List UInt8) :=
  Option.bind (wG p0) fun x0 =>
  Option.bind (rE x0) fun x1 =>
  if (p0.length + x1.length) ≤ 9223372036854775807 then
  some (p0 ++ x1)
  else
  none

noncomputable def Hm : Kn St := ⟨65, [.kv .str], [.kv .str], .ro fun x σ => xP x.1⟩

theorem JZ : Hm.ok Tryz.prog TB := fD ⟨Tryz.prog, TB, 8, KLs, MLs, [], [], [], [DJ, zO]⟩ ⟨[], [], [], []⟩ aK ⟨DK, Ae, trivial⟩ (fn := Tryz.f65) (by kernel_rfl) (by kernel_rfl) (by kernel_rfl)
noncomputable def uz (p0 : Int) (p1 : List UInt8) : Option (List UInt8) :=
  Option.bind (dX p0) fun x0 =>
  if (x0.length + p1.length) ≤ 9223372036854775807 then
  Option.bind (xP (x0 ++ p1)) fun x1 =>
  Option.bind (dX (x1.length : Int)) fun x2 =>
  if (x2.length + x1.length) ≤ 9223372036854775807 then
  some (x2 ++ x1)
  else
  none
  else
  none

noncomputable def Hz : Kn St := ⟨38, [.kv .i, .kv .str], [.kv .str], .ro fun x σ => uz x.1 x.2.1⟩

theorem J7 : Hz.ok Tryz.prog TB := fD ⟨Tryz.prog, TB, 16, KLs, MLs, [], [], [], [jU, Hm]⟩ ⟨[], [], [], []⟩ aK ⟨je, JZ, trivial⟩ (fn := Tryz.f38) (by kernel_rfl) (by kernel_rfl) (by kernel_rfl)
noncomputable def uk (p0 : List UInt8) (s0 : Int) : Option (Int ⊕ (Unit ⊕ Bool)) :=
  if decide (s0 < (p0.length : Int)) = true then
  if 0 ≤ s0 ∧ s0 < (p0.length : Int) then
  if (((((decide (btS p0 s0 < 97) || decide (btS p0 s0 > 122)) && (decide (btS p0 s0 < 48) || decide (btS p0 s0 > 57))) && (btS p0 s0 != 46)) && (btS p0 s0 != 45)) && (btS p0 s0 != 95)) = true then
  some (.inr (.inr false))
  else
  some (.inl (IntKind.wrap .i64 (s0 + 1)))
  else
  none
  else
  some (.inr (.inl ()))

noncomputable def zt (p0 : List UInt8) : Option Bool :=
  Option.bind (aY (uk p0) (0 : Int)) fun x1 =>
  kC x1 (fun x2 =>
  some (decide ((p0.length : Int) > 0) && decide ((p0.length : Int) ≤ 24))) Option.some

noncomputable def JB : Kn St := ⟨67, [.kv .str], [.kv .bool], .ro fun x σ => zt x.1⟩

theorem MR : JB.ok Tryz.prog TB := fD ⟨Tryz.prog, TB, 48, KLs, MLs, [], [], [], []⟩ ⟨[], [], [], [(2, ⟨[(7, .kv .i)], false, [⟨.ext 0, []⟩], true, []⟩)]⟩ aK trivial (fn := Tryz.f67) (by kernel_rfl) (by kernel_rfl) (by kernel_rfl)
noncomputable def pW : Option Unit :=
  some ()

noncomputable def wK : Kn St := ⟨70, [], [], .ro fun x σ => pW⟩

theorem Ah : wK.ok Tryz.prog TB := fD ⟨Tryz.prog, TB, 0, KLs, MLs, [], [], [], []⟩ ⟨[], [], [], []⟩ aK trivial (fn := Tryz.f70) (by kernel_rfl) (by kernel_rfl) (by kernel_rfl)
noncomputable def dm (p0 : Option Nat) (p1 : Unit) (σ : St) : Option (Int × St) :=
  Option.bind p0 fun x0 =>
  Option.bind σ.af[x0]? fun x1 =>
  if decide (x1.2.2.1 > 0) = true then
  Option.bind p0 fun x2 =>
  Option.bind σ.af[x2]? fun x3 =>
  Option.bind p0 fun x4 =>
  Option.bind σ.af[x4]? fun x5 =>
  Option.bind p0 fun x6 =>
  Option.bind ((σ.af.set x4 (x5.1, (x5.2.1, (IntKind.wrap .i64 (x3.2.2.1 - 1), x5.2.2.2))))[x6]?) fun x7 =>
  if (x7.2.2.1 == 0) = true then
  Option.bind p0 fun x8 =>
  Option.bind ((σ.af.set x4 (x5.1, (x5.2.1, (IntKind.wrap .i64 (x3.2.2.1 - 1), x5.2.2.2))))[x8]?) fun x9 =>
  some ((11 : Int), ((σ.bF (σ.af.set x4 (x5.1, (x5.2.1, (IntKind.wrap .i64 (x3.2.2.1 - 1), x5.2.2.2))))).bF ((σ.af.set x4 (x5.1, (x5.2.1, (IntKind.wrap .i64 (x3.2.2.1 - 1), x5.2.2.2)))).set x8 (x9.1, (x9.2.1, (x9.2.2.1, (true, x9.2.2.2.2)))))))
  else
  Option.bind pW fun x10 =>
  some ((0 : Int), (σ.bF (σ.af.set x4 (x5.1, (x5.2.1, (IntKind.wrap .i64 (x3.2.2.1 - 1), x5.2.2.2))))))
  else
  Option.bind pW fun x11 =>
  some ((0 : Int), σ)

noncomputable def jY : Kn St := ⟨69, [.kv (.ptr di), .clo 70 []], [.kv .i], .rw fun x σ => dm x.1 x.2.1 σ⟩

theorem pM : jY.ok Tryz.prog TB := nN ⟨Tryz.prog, TB, 27, KLs, MLs, [], [], [], [wK]⟩ ⟨[], [], [], []⟩ aK ⟨Ah, trivial⟩ (fn := Tryz.f69) (by kernel_rfl) (by kernel_rfl) (by kernel_rfl)
noncomputable def kR (p0 : Option Nat) (p1 : List UInt8) (p2 : List UInt8) (σ : St) : Option (Int × St) :=
  Option.bind (lS p0 σ) fun x0 =>
  if (x0 != 0) = true then
  some (x0, σ)
  else
  Option.bind (zt p1) fun x1 =>
  if (!x1) = true then
  some ((2 : Int), σ)
  else
  Option.bind p0 fun x2 =>
  Option.bind σ.af[x2]? fun x3 =>
  Option.bind σ.af[x2]? fun x4 =>
  Option.bind (if (!(((bW Kd.str (Kd.ptr 93) p1 x4.2.1).getD none).isNone)) = true then
  Option.bind ((bW Kd.str (Kd.ptr 93) p1 x4.2.1).getD none) fun x5 =>
  Option.bind σ.ai[x5]? fun x6 =>
  some (x6.1.length : Int)
  else
  some (0 : Int)) fun x7 =>
  if ((bW Kd.str (Kd.ptr 93) p1 x4.2.1).getD none).isNone = true then
  Option.bind p0 fun x8 =>
  Option.bind σ.af[x8]? fun x9 =>
  Option.bind σ.af[x8]? fun x10 =>
  if (!(decide ((x10.2.1.length : Int) ≥ 128))) = true then
  if (!(decide ((p2.length : Int) > IntKind.wrap .i64 (65536 - x7)))) = true then
  Option.bind p0 fun x11 =>
  Option.bind σ.af[x11]? fun x12 =>
  Option.bind (fP p0 σ) fun x13 =>
  if decide ((p2.length : Int) > IntKind.wrap .i64 (x12.1 - x13)) = true then
  some ((10 : Int), σ)
  else
  Option.bind (if ((bW Kd.str (Kd.ptr 93) p1 x4.2.1).getD none).isNone = true then
  Option.bind p0 fun x14 =>
  Option.bind σ.af[x14]? fun x15 =>
  Option.bind σ.af[x14]? fun x16 =>
  some (some σ.ai.length, ((σ.fM (σ.ai ++ [([], ((0 : Int), ()))])).bF (σ.af.set x14 (x16.1, (oQ Kd.str (Kd.ptr 93) p1 (some σ.ai.length) x16.2.1, x16.2.2)))))
  else
  some ((bW Kd.str (Kd.ptr 93) p1 x4.2.1).getD none, σ)) fun x17 =>
  Option.bind x17.1 fun x18 =>
  Option.bind x17.2.ai[x18]? fun x19 =>
  if (x19.1.length + p2.length) ≤ 9223372036854775807 then
  Option.bind x17.1 fun x20 =>
  Option.bind x17.2.ai[x20]? fun x21 =>
  Option.bind (dm p0 () (x17.2.fM (x17.2.ai.set x20 ((x19.1 ++ p2), x21.2)))) fun x22 =>
  some (x22.1, x22.2)
  else
  none
  else
  some ((10 : Int), σ)
  else
  some ((10 : Int), σ)
  else
  if (!(decide ((p2.length : Int) > IntKind.wrap .i64 (65536 - x7)))) = true then
  Option.bind p0 fun x23 =>
  Option.bind σ.af[x23]? fun x24 =>
  Option.bind (fP p0 σ) fun x25 =>
  if decide ((p2.length : Int) > IntKind.wrap .i64 (x24.1 - x25)) = true then
  some ((10 : Int), σ)
  else
  Option.bind (if ((bW Kd.str (Kd.ptr 93) p1 x4.2.1).getD none).isNone = true then
  Option.bind p0 fun x26 =>
  Option.bind σ.af[x26]? fun x27 =>
  Option.bind σ.af[x26]? fun x28 =>
  some (some σ.ai.length, ((σ.fM (σ.ai ++ [([], ((0 : Int), ()))])).bF (σ.af.set x26 (x28.1, (oQ Kd.str (Kd.ptr 93) p1 (some σ.ai.length) x28.2.1, x28.2.2)))))
  else
  some ((bW Kd.str (Kd.ptr 93) p1 x4.2.1).getD none, σ)) fun x29 =>
  Option.bind x29.1 fun x30 =>
  Option.bind x29.2.ai[x30]? fun x31 =>
  if (x31.1.length + p2.length) ≤ 9223372036854775807 then
  Option.bind x29.1 fun x32 =>
  Option.bind x29.2.ai[x32]? fun x33 =>
  Option.bind (dm p0 () (x29.2.fM (x29.2.ai.set x32 ((x31.1 ++ p2), x33.2)))) fun x34 =>
  some (x34.1, x34.2)
  else
  none
  else
  some ((10 : Int), σ)

noncomputable def yK : Kn St := ⟨39, [.kv (.ptr di), .kv .str, .kv .str], [.kv .i], .rw fun x σ => kR x.1 x.2.1 x.2.2.1 σ⟩

theorem CB : yK.ok Tryz.prog TB := nN ⟨Tryz.prog, TB, 80, KLs, MLs, [], [], [], [uO, JB, Ar, jY]⟩ ⟨[], [(9, ⟨[], false, [⟨.nrm, [(9, .kv .i)]⟩], false, []⟩), (13, ⟨[], true, [⟨.nrm, [(8, .kv (.ptr ax))]⟩], false, []⟩)], [], []⟩ aK ⟨wO, MR, E8, pM, trivial⟩ (fn := Tryz.f39) (by kernel_rfl) (by kernel_rfl) (by kernel_rfl)
noncomputable def qK (p0 : Option Nat) (p1 : List UInt8) (σ : St) : Option ((Int × Int) × St) :=
  if p0.isNone = true then
  some (((0 : Int), (1 : Int)), σ)
  else
  if decide ((p1.length : Int) > 1024) = true then
  some (((0 : Int), (4 : Int)), σ)
  else
  Option.bind (iP p0 σ) fun x0 =>
  Option.bind (nD p0 σ) fun x1 =>
  if (!x1.isNone) = true then
  Option.bind x1 fun x2 =>
  Option.bind σ.ae[x2]? fun x3 =>
  Option.bind p0 fun x4 =>
  Option.bind σ.aj[x4]? fun x5 =>
  Option.bind (if decide (x3.2.2.1 ≥ x5.2.2.1) = true then
  Option.bind (jC p0 σ) fun x6 =>
  if (x6.1 != 0) = true then
  some (.inr (((0 : Int), x6.1), x6.2))
  else
  some (.inl (some x6.2.ae.length, (x6.2.aX (x6.2.ae ++ [(x0, ([], ((0 : Int), ())))]))))
  else
  some (.inl (x1, σ))) fun x7 =>
  kC x7 (fun x8 =>
  Option.bind (uz x0 p1) fun x9 =>
  Option.bind p0 fun x10 =>
  Option.bind x8.2.aj[x10]? fun x11 =>
  Option.bind (gy p0 x8.1 x8.2) fun x12 =>
  Option.bind (kR x11.1 x12 x9 x8.2) fun x13 =>
  if (x13.1 != 0) = true then
  some (((0 : Int), x13.1), x13.2)
  else
  Option.bind x8.1 fun x14 =>
  Option.bind x13.2.ae[x14]? fun x15 =>
  if ((x15.2.1.length + 1) * 16) ≤ 140737488355328 then
  Option.bind x8.1 fun x16 =>
  Option.bind x13.2.ae[x16]? fun x17 =>
  if x14 = x16 ∧ true = true then
  Option.bind x8.1 fun x18 =>
  Option.bind ((x13.2.ae.set x16 (x17.1, ((x15.2.1 ++ [p1]), x17.2.2)))[x18]?) fun x19 =>
  Option.bind x8.1 fun x20 =>
  Option.bind ((x13.2.ae.set x16 (x17.1, ((x15.2.1 ++ [p1]), x17.2.2)))[x20]?) fun x21 =>
  if decide (x3.2.2.1 ≥ x5.2.2.1) = true then
  Option.bind p0 fun x22 =>
  Option.bind x13.2.aj[x22]? fun x23 =>
  if ((x23.2.2.2.1.length + 1) * 8) ≤ 140737488355328 then
  Option.bind p0 fun x24 =>
  Option.bind x13.2.aj[x24]? fun x25 =>
  if x22 = x24 ∧ true = true then
  some ((x0, (0 : Int)), (((x13.2.aX (x13.2.ae.set x16 (x17.1, ((x15.2.1 ++ [p1]), x17.2.2)))).aX ((x13.2.ae.set x16 (x17.1, ((x15.2.1 ++ [p1]), x17.2.2))).set x20 (x21.1, (x21.2.1, (IntKind.wrap .i64 (x19.2.2.1 + (x9.length : Int)), x21.2.2.2))))).qA (x13.2.aj.set x24 (x25.1, (x25.2.1, (x25.2.2.1, ((x23.2.2.2.1 ++ [x8.1]), x25.2.2.2.2)))))))
  else
  none
  else
  none
  else
  some ((x0, (0 : Int)), ((x13.2.aX (x13.2.ae.set x16 (x17.1, ((x15.2.1 ++ [p1]), x17.2.2)))).aX ((x13.2.ae.set x16 (x17.1, ((x15.2.1 ++ [p1]), x17.2.2))).set x20 (x21.1, (x21.2.1, (IntKind.wrap .i64 (x19.2.2.1 + (x9.length : Int)), x21.2.2.2))))))
  else
  none
  else
  none) Option.some
  else
  Option.bind (Option.bind (jC p0 σ) fun x26 =>
  if (x26.1 != 0) = true then
  some (.inr (((0 : Int), x26.1), x26.2))
  else
  some (.inl (some x26.2.ae.length, (x26.2.aX (x26.2.ae ++ [(x0, ([], ((0 : Int), ())))]))))) fun x27 =>
  kC x27 (fun x28 =>
  Option.bind (uz x0 p1) fun x29 =>
  Option.bind p0 fun x30 =>
  Option.bind x28.2.aj[x30]? fun x31 =>
  Option.bind (gy p0 x28.1 x28.2) fun x32 =>
  Option.bind (kR x31.1 x32 x29 x28.2) fun x33 =>
  if (x33.1 != 0) = true then
  some (((0 : Int), x33.1), x33.2)
  else
  Option.bind x28.1 fun x34 =>
  Option.bind x33.2.ae[x34]? fun x35 =>
  if ((x35.2.1.length + 1) * 16) ≤ 140737488355328 then
  Option.bind x28.1 fun x36 =>
  Option.bind x33.2.ae[x36]? fun x37 =>
  if x34 = x36 ∧ true = true then
  Option.bind x28.1 fun x38 =>
  Option.bind ((x33.2.ae.set x36 (x37.1, ((x35.2.1 ++ [p1]), x37.2.2)))[x38]?) fun x39 =>
  Option.bind x28.1 fun x40 =>
  Option.bind ((x33.2.ae.set x36 (x37.1, ((x35.2.1 ++ [p1]), x37.2.2)))[x40]?) fun x41 =>
  Option.bind p0 fun x42 =>
  Option.bind x33.2.aj[x42]? fun x43 =>
  if ((x43.2.2.2.1.length + 1) * 8) ≤ 140737488355328 then
  Option.bind p0 fun x44 =>
  Option.bind x33.2.aj[x44]? fun x45 =>
  if x42 = x44 ∧ true = true then
  some ((x0, (0 : Int)), (((x33.2.aX (x33.2.ae.set x36 (x37.1, ((x35.2.1 ++ [p1]), x37.2.2)))).aX ((x33.2.ae.set x36 (x37.1, ((x35.2.1 ++ [p1]), x37.2.2))).set x40 (x41.1, (x41.2.1, (IntKind.wrap .i64 (x39.2.2.1 + (x29.length : Int)), x41.2.2.2))))).qA (x33.2.aj.set x44 (x45.1, (x45.2.1, (x45.2.2.1, ((x43.2.2.2.1 ++ [x28.1]), x45.2.2.2.2)))))))
  else
  none
  else
  none
  else
  none
  else
  none) Option.some

noncomputable def AV : Kn St := ⟨13, [.kv (.ptr jH), .kv .str], [.kv .i, .kv .i], .rw fun x σ => qK x.1 x.2.1 σ⟩

theorem Ff : AV.ok Tryz.prog TB := nN ⟨Tryz.prog, TB, 91, KLs, MLs, [], [], [64, 84], [nM, uT, uQ, Hz, qw, yK]⟩ ⟨[], [(9, ⟨[], true, [⟨.nrm, [(7, .kv (.ptr mF))]⟩], true, []⟩)], [], []⟩ aK ⟨mf, uU, uS, J7, pJ, CB, trivial⟩ (fn := Tryz.f13) (by kernel_rfl) (by kernel_rfl) (by kernel_rfl)
noncomputable def fZ (p0 : Option Nat) (p1 : List UInt8) (σ : St) : Option (Int × St) :=
  Option.bind p0 fun x0 =>
  Option.bind σ.ah[x0]? fun x1 =>
  Option.bind (qK x1.2.1 p1 σ) fun x2 =>
  if (x2.1.2 != 0) = true then
  some (x2.1.2, x2.2)
  else
  Option.bind p0 fun x3 =>
  Option.bind x2.2.ah[x3]? fun x4 =>
  Option.bind (jC x4.2.1 x2.2) fun x5 =>
  some (x5.1, x5.2)

noncomputable def oO : Kn St := ⟨33, [.kv (.ptr bu), .kv .str], [.kv .i], .rw fun x σ => fZ x.1 x.2.1 σ⟩

theorem rH : oO.ok Tryz.prog TB := nN ⟨Tryz.prog, TB, 24, KLs, MLs, [], [], [], [AV, uQ]⟩ ⟨[], [], [], []⟩ aK ⟨Ff, uS, trivial⟩ (fn := Tryz.f33) (by kernel_rfl) (by kernel_rfl) (by kernel_rfl)
noncomputable def eH (p0 : Option Nat) (p1 : List UInt8) (p2 : Int) (p3 : List Int) (p4 : Int) (σ : St) : Option ((Int × Int) × St) :=
  if p0.isNone = true then
  some (((0 : Int), (1 : Int)), σ)
  else
  Option.bind (dL p0 σ) fun x0 =>
  if ((0 + p3.length) * 8) ≤ 140737488355328 then
  Option.bind p0 fun x1 =>
  Option.bind σ.ah[x1]? fun x2 =>
  Option.bind (ug (x2.1, (x0, (p1, (p2, (([] ++ p3), (p4, ()))))))) fun x3 =>
  if (x3.2 != 0) = true then
  some (((0 : Int), x3.2), σ)
  else
  Option.bind p0 fun x4 =>
  Option.bind σ.ah[x4]? fun x5 =>
  if decide ((x5.2.2.1.length : Int) ≥ 32) = true then
  some (((0 : Int), (10 : Int)), σ)
  else
  if (1 + x3.1.length) ≤ 9223372036854775807 then
  Option.bind (fZ p0 (99 :: x3.1) σ) fun x6 =>
  if (x6.1 != 0) = true then
  some (((0 : Int), x6.1), x6.2)
  else
  Option.bind p0 fun x7 =>
  Option.bind x6.2.ah[x7]? fun x8 =>
  Option.bind p0 fun x9 =>
  Option.bind x6.2.ah[x9]? fun x10 =>
  Option.bind p0 fun x11 =>
  Option.bind x6.2.ah[x11]? fun x12 =>
  if (x10.2.2.1.length : Int) = (x8.2.2.1.length : Int) ∧ (x12.2.2.1.length : Int) = (x8.2.2.1.length : Int) then
  if 0 < 1 ∧ ((x8.2.2.1.length + 1) * 72) ≤ 140737488355328 then
  Option.bind p0 fun x13 =>
  Option.bind x6.2.ah[x13]? fun x14 =>
  some ((x0, (0 : Int)), (x6.2.bM (x6.2.ah.set x13 (x14.1, (x14.2.1, ((x8.2.2.1 ++ [(x2.1, (x0, (p1, (p2, (([] ++ p3), (p4, ()))))))]), x14.2.2.2))))))
  else
  none
  else
  none
  else
  none
  else
  none

noncomputable def og : Kn St := ⟨11, [.kv (.ptr bu), .kv .str, .kv .i, .kv (.list .i), .kv .i], [.kv .i, .kv .i], .rw fun x σ => eH x.1 x.2.1 x.2.2.1 x.2.2.2.1 x.2.2.2.2.1 σ⟩

theorem qQ : og.ok Tryz.prog TB := nN ⟨Tryz.prog, TB, 77, KLs, MLs, [], [4000012], [], [iy, DL, oO]⟩ ⟨[], [], [], []⟩ aK ⟨iC, Ho, rH, trivial⟩ (fn := Tryz.f11) (by kernel_rfl) (by kernel_rfl) (by kernel_rfl)
noncomputable def oN (p0 : List Int) (p1 : Int × Int × Unit) : Option (List Int) :=
  Option.bind (jq p0 [p1.1, p1.2.1]) fun x0 =>
  some x0

noncomputable def vz : Kn St := ⟨79, [.own 5 1 (.int .u8), .kv aI], [.own 5 1 (.int .u8)], .ro fun x σ => oN x.1 x.2.1⟩

theorem zQ : vz.ok Tryz.prog TB := fD ⟨Tryz.prog, TB, 12, KLs, MLs, [], [1000003], [], [uJ]⟩ ⟨[], [], [], []⟩ aK ⟨uK, trivial⟩ (fn := Tryz.f79) (by kernel_rfl) (by kernel_rfl) (by kernel_rfl)
noncomputable def bJ (p1 : List (Int × Int × Unit)) (s1 : (List Int) × Int) : Option (((List Int) × Int) ⊕ (List Int)) :=
  if decide (s1.2 < (p1.length : Int)) = true then
  Option.bind (ix p1 s1.2) fun x2 =>
  Option.bind (oN s1.1 x2) fun x3 =>
  some (.inl (x3, IntKind.wrap .i64 (s1.2 + 1)))
  else
  some (.inr s1.1)

noncomputable def dZ (p0 : List Int) (p1 : List (Int × Int × Unit)) (p2 : Unit) : Option (List Int) :=
  Option.bind (jq p0 [(p1.length : Int)]) fun x0 =>
  Option.bind (aY (bJ p1) (x0, (0 : Int))) fun x4 =>
  some x4

noncomputable def iw : Kn St := ⟨78, [.own 5 1 (.int .u8), .kv (.list aI), .clo 79 []], [.own 5 1 (.int .u8)], .ro fun x σ => dZ x.1 x.2.1 x.2.2.1⟩

theorem lY : iw.ok Tryz.prog TB := fD ⟨Tryz.prog, TB, 26, KLs, MLs, [], [5000008], [], [uJ, vz]⟩ ⟨[], [], [], [(3, ⟨[(0, .own 5 1 (.int .u8)), (16, .kv .i)], false, [⟨.ext 0, [(0, .own 5 1 (.int .u8))]⟩], false, []⟩)]⟩ aK ⟨uK, zQ, trivial⟩ (fn := Tryz.f78) (by kernel_rfl) (by kernel_rfl) (by kernel_rfl)
noncomputable def jV (p0 : List (Int × Int × Unit)) : Option ((List UInt8) × Int) :=
  Option.bind (ny p0) fun x0 =>
  Option.bind (dZ [] p0 ()) fun x1 =>
  Option.bind (uh x0 x1) fun x2 =>
  some (x2.1, x2.2)

noncomputable def xA : Kn St := ⟨43, [.kv (.list aI)], [.kv .str, .kv .i], .ro fun x σ => jV x.1⟩

theorem BB : xA.ok Tryz.prog TB := fD ⟨Tryz.prog, TB, 11, KLs, MLs, [], [], [], [vP, iw, BC]⟩ ⟨[], [], [], []⟩ aK ⟨xC, lY, Cc, trivial⟩ (fn := Tryz.f43) (by kernel_rfl) (by kernel_rfl) (by kernel_rfl)
noncomputable def gY (p0 : Option Nat) (σ : St) (s1 : List (Int × Int × Unit)) : Option ((List (Int × Int × Unit)) ⊕ (List (Int × Int × Unit))) :=
  if decide ((s1.length : Int) > 0) = true then
  Option.bind (ix s1 (0 : Int)) fun x2 =>
  Option.bind (cZ p0 σ) fun x3 =>
  if decide (x2.1 < x3) = true then
  if (0 : Int) ≤ (1 : Int) ∧ 1 ≤ (s1.length : Int) then
  some (.inl (s1.drop 1))
  else
  none
  else
  some (.inr s1)
  else
  some (.inr s1)

noncomputable def fH (p0 : Option Nat) (p1 : List (Int × Int × Unit)) (σ : St) : Option ((Int × Int) × St) :=
  if p0.isNone = true then
  some (((0 : Int), (1 : Int)), σ)
  else
  Option.bind (jV p1) fun x0 =>
  if (x0.2 != 0) = true then
  some (((0 : Int), x0.2), σ)
  else
  Option.bind (aY (gY p0 σ) p1) fun x4 =>
  if ((x4.length : Int) == 0) = true then
  some (((0 : Int), (0 : Int)), σ)
  else
  Option.bind (jw p0 x4 σ) fun x5 =>
  if (!x5) = true then
  some (((0 : Int), (3 : Int)), σ)
  else
  Option.bind (jV x4) fun x6 =>
  if (1 + x6.1.length) ≤ 9223372036854775807 then
  Option.bind (fZ p0 (118 :: x6.1) σ) fun x7 =>
  if (x7.1 != 0) = true then
  some (((0 : Int), x7.1), x7.2)
  else
  Option.bind (jy p0 x4 x7.2) fun x8 =>
  some (((x4.length : Int), (0 : Int)), x8.2)
  else
  none

noncomputable def qg : Kn St := ⟨17, [.kv (.ptr bu), .kv (.list aI)], [.kv .i, .kv .i], .rw fun x σ => fH x.1 x.2.1 σ⟩

theorem tq : qg.ok Tryz.prog TB := nN ⟨Tryz.prog, TB, 61, KLs, MLs, [], [], [], [xA, gm, qj, oO, qm]⟩ ⟨[], [], [], [(6, ⟨[(1, .kv (.list aI))], false, [⟨.ext 0, [(1, .kv (.list aI))]⟩], false, []⟩)]⟩ aK ⟨BB, gz, tu, rH, tC, trivial⟩ (fn := Tryz.f17) (by kernel_rfl) (by kernel_rfl) (by kernel_rfl)
noncomputable def iO (x1 : Int × (Option Nat) × (List (Int × Int × (List UInt8) × Int × (List Int) × Int × Unit)) × (List (Int × Int × Unit)) × Unit) (s2 : (List (Int × Int × (List UInt8) × Int × (List Int) × Int × Unit)) × Int) : Option (((List (Int × Int × (List UInt8) × Int × (List Int) × Int × Unit)) × Int) ⊕ (List (Int × Int × (List UInt8) × Int × (List Int) × Int × Unit))) :=
  if decide (s2.2 < (x1.2.2.1.length : Int)) = true then
  Option.bind (ix x1.2.2.1 s2.2) fun x3 =>
  if ((0 + x3.2.2.2.2.1.length) * 8) ≤ 140737488355328 then
  if ((s2.1.length + 1) * 72) ≤ 140737488355328 then
  some (.inl ((s2.1 ++ [(x3.1, (x3.2.1, (x3.2.2.1, (x3.2.2.2.1, (([] ++ x3.2.2.2.2.1), x3.2.2.2.2.2)))))]), IntKind.wrap .i64 (s2.2 + 1)))
  else
  none
  else
  none
  else
  some (.inr s2.1)

noncomputable def ig (p0 : Option Nat) (σ : St) : Option (List (Int × Int × (List UInt8) × Int × (List Int) × Int × Unit)) :=
  if p0.isNone = true then
  some []
  else
  Option.bind p0 fun x0 =>
  Option.bind σ.ah[x0]? fun x1 =>
  Option.bind (aY (iO x1) ([], (0 : Int))) fun x4 =>
  some x4

noncomputable def nK : Kn St := ⟨22, [.kv (.ptr bu)], [.kv (.list eY)], .ro fun x σ => ig x.1 σ⟩

theorem qi : nK.ok Tryz.prog TB := fD ⟨Tryz.prog, TB, 29, KLs, MLs, [], [8, 28, 8000005], [], []⟩ ⟨[], [], [], [(5, ⟨[(3, .own 33 72 eY), (14, .kv .i)], false, [⟨.ext 0, [(3, .own 33 72 eY)]⟩], false, []⟩)]⟩ aK trivial (fn := Tryz.f22) (by kernel_rfl) (by kernel_rfl) (by kernel_rfl)
noncomputable def gZ (p0 : Option Nat) (σ : St) : Option (List (Int × Int × Unit)) :=
  if p0.isNone = true then
  some []
  else
  Option.bind p0 fun x0 =>
  Option.bind σ.ah[x0]? fun x1 =>
  if ((0 + x1.2.2.2.1.length) * 16) ≤ 140737488355328 then
  some ([] ++ x1.2.2.2.1)
  else
  none

noncomputable def nJ : Kn St := ⟨21, [.kv (.ptr bu)], [.kv (.list aI)], .ro fun x σ => gZ x.1 σ⟩

theorem qh : nJ.ok Tryz.prog TB := fD ⟨Tryz.prog, TB, 11, KLs, MLs, [], [], [], []⟩ ⟨[], [], [], []⟩ aK trivial (fn := Tryz.f21) (by kernel_rfl) (by kernel_rfl) (by kernel_rfl)
noncomputable def jA (σ : St) : Option (Bool × St) :=
  Option.bind (sG (1048576 : Int) σ) fun x0 =>
  Option.bind (eQ x0.1.1 (1 : Int) x0.2) fun x1 =>
  if ((x1.1.2 != 0) || x1.1.1.isNone) = true then
  some (false, x1.2)
  else
  Option.bind (eH x1.1.1 [97] (0 : Int) [(5 : Int)] (-1 : Int) x1.2) fun x2 =>
  Option.bind (eH x1.1.1 [97] (0 : Int) [] (-1 : Int) x2.2) fun x3 =>
  Option.bind (fH x1.1.1 [((1 : Int), ((0 : Int), ()))] x3.2) fun x4 =>
  Option.bind (fH x1.1.1 [((1 : Int), ((0 : Int), ()))] x4.2) fun x5 =>
  Option.bind (if ((((((x2.1.1 == 1) && (x3.1.1 == 2)) && (x4.1.1 == 1)) && (x4.1.2 == 0)) && (x5.1.1 == 0)) && (x5.1.2 == 0)) = true then
  ig x1.1.1 x5.2
  else
  some []) fun x6 =>
  Option.bind (if (((((((x2.1.1 == 1) && (x3.1.1 == 2)) && (x4.1.1 == 1)) && (x4.1.2 == 0)) && (x5.1.1 == 0)) && (x5.1.2 == 0)) && ((x6.length : Int) == 1)) = true then
  gZ x1.1.1 x5.2
  else
  some []) fun x7 =>
  Option.bind (if ((((((((x2.1.1 == 1) && (x3.1.1 == 2)) && (x4.1.1 == 1)) && (x4.1.2 == 0)) && (x5.1.1 == 0)) && (x5.1.2 == 0)) && ((x6.length : Int) == 1)) && ((x7.length : Int) == 1)) = true then
  cZ x1.1.1 x5.2
  else
  some (0 : Int)) fun x8 =>
  Option.bind (if (((((((((x2.1.1 == 1) && (x3.1.1 == 2)) && (x4.1.1 == 1)) && (x4.1.2 == 0)) && (x5.1.1 == 0)) && (x5.1.2 == 0)) && ((x6.length : Int) == 1)) && ((x7.length : Int) == 1)) && (x8 == 2)) = true then
  dL x1.1.1 x5.2
  else
  some (0 : Int)) fun x9 =>
  some (((((((((((x2.1.1 == 1) && (x3.1.1 == 2)) && (x4.1.1 == 1)) && (x4.1.2 == 0)) && (x5.1.1 == 0)) && (x5.1.2 == 0)) && ((x6.length : Int) == 1)) && ((x7.length : Int) == 1)) && (x8 == 2)) && (x9 == 3)), x5.2)

noncomputable def wQ : Kn St := ⟨10, [], [.kv .bool], .rw fun x σ => jA σ⟩

theorem Az : wQ.ok Tryz.prog TB := nN ⟨Tryz.prog, TB, 97, KLs, MLs, [], [], [], [F8, yO, og, qg, nK, nJ, gm, iy]⟩ ⟨[], [], [], []⟩ aK ⟨FM, zA, qQ, tq, qi, qh, gz, iC, trivial⟩ (fn := Tryz.f10) (by kernel_rfl) (by kernel_rfl) (by kernel_rfl)
end Go.Proofs.YtbnmhjobnepajaaGreat.M


set_option maxRecDepth 100000
namespace Go.Proofs.YtbnmhjobnepajaaGreat.M
open Go.Proofs
noncomputable def dV (p0 : Int) (p1 : Int) (p2 : Int) : Option Bool :=
  some (decide (p0 ≥ p1) && decide (p0 ≤ p2))

noncomputable def lF : Kn St := ⟨75, [.kv .i, .kv .i, .kv .i], [.kv .bool], .ro fun x σ => dV x.1 x.2.1 x.2.2.1⟩

theorem mP : lF.ok Tryz.prog TB := fD ⟨Tryz.prog, TB, 15, KLs, MLs, [], [], [], []⟩ ⟨[], [], [], []⟩ aK trivial (fn := Tryz.f75) (by kernel_rfl) (by kernel_rfl) (by kernel_rfl)
noncomputable def ik (p0 : List UInt8) (p1 : Int) (s0 : (List (List UInt8)) × (List UInt8) × Int) : Option (((List (List UInt8)) × (List UInt8) × Int) ⊕ ((List (List UInt8)) × List UInt8)) :=
  if decide (s0.2.2 < (p0.length : Int)) = true then
  if 0 ≤ s0.2.2 ∧ s0.2.2 < (p0.length : Int) then
  if (btS p0 s0.2.2 == p1) = true then
  if ((s0.1.length + 1) * 16) ≤ 140737488355328 then
  some (.inl ((s0.1 ++ [s0.2.1]), ([], IntKind.wrap .i64 (s0.2.2 + 1))))
  else
  none
  else
  if 0 ≤ s0.2.2 ∧ s0.2.2 ≤ IntKind.wrap .i64 (s0.2.2 + 1) ∧ IntKind.wrap .i64 (s0.2.2 + 1) ≤ (p0.length : Int) then
  if (s0.2.1.length + ((p0.take ((IntKind.wrap .i64 (s0.2.2 + 1)).toNat)).drop s0.2.2.toNat).length) ≤ 9223372036854775807 then
  some (.inl (s0.1, ((s0.2.1 ++ (p0.take ((IntKind.wrap .i64 (s0.2.2 + 1)).toNat)).drop s0.2.2.toNat), IntKind.wrap .i64 (s0.2.2 + 1))))
  else
  none
  else
  none
  else
  none
  else
  some (.inr (s0.1, s0.2.1))

noncomputable def pY (p0 : List UInt8) (p1 : Int) : Option (List (List UInt8)) :=
  Option.bind (aY (ik p0 p1) ([], ([], (0 : Int)))) fun x1 =>
  if ((x1.1.length + 1) * 16) ≤ 140737488355328 then
  some (x1.1 ++ [x1.2])
  else
  none

noncomputable def wU : Kn St := ⟨145, [.kv .str, .kv (.int .u8)], [.kv (.list .str)], .ro fun x σ => pY x.1 x.2.1⟩

theorem AL : wU.ok Tryz.prog TB := fD ⟨Tryz.prog, TB, 34, KLs, MLs, [], [], [], []⟩ ⟨[], [], [], [(4, ⟨[(5, .own 9 16 .str), (6, .kv .str), (7, .kv .i)], false, [⟨.ext 0, [(5, .own 9 16 .str), (6, .kv .str)]⟩], false, []⟩)]⟩ aK trivial (fn := Tryz.f145) (by kernel_rfl) (by kernel_rfl) (by kernel_rfl)
noncomputable def lT (p0 : List UInt8) : Option (List (List UInt8)) :=
  Option.bind (pY p0 (47 : Int)) fun x0 =>
  some x0

noncomputable def wV : Kn St := ⟨116, [.kv .str], [.kv (.list .str)], .ro fun x σ => lT x.1⟩

theorem AO : wV.ok Tryz.prog TB := fD ⟨Tryz.prog, TB, 5, KLs, MLs, [], [], [], [wU]⟩ ⟨[], [], [], []⟩ aK ⟨AL, trivial⟩ (fn := Tryz.f116) (by kernel_rfl) (by kernel_rfl) (by kernel_rfl)
noncomputable def nC (p0 : List UInt8) (s0 : Int) : Option (Int ⊕ (Unit ⊕ Bool)) :=
  if decide (s0 < (p0.length : Int)) = true then
  if 0 ≤ s0 ∧ s0 < (p0.length : Int) then
  if ((((decide (btS p0 s0 < 97) || decide (btS p0 s0 > 122)) && (decide (btS p0 s0 < 48) || decide (btS p0 s0 > 57))) && (btS p0 s0 != 45)) && (btS p0 s0 != 95)) = true then
  some (.inr (.inr false))
  else
  some (.inl (IntKind.wrap .i64 (s0 + 1)))
  else
  none
  else
  some (.inr (.inl ()))

noncomputable def lU (p0 : List UInt8) : Option Bool :=
  Option.bind (aY (nC p0) (0 : Int)) fun x1 =>
  kC x1 (fun x2 =>
  some (decide ((p0.length : Int) > 0))) Option.some

noncomputable def wW : Kn St := ⟨117, [.kv .str], [.kv .bool], .ro fun x σ => lU x.1⟩

theorem AP : wW.ok Tryz.prog TB := fD ⟨Tryz.prog, TB, 39, KLs, MLs, [], [], [], []⟩ ⟨[], [], [], [(2, ⟨[(3, .kv .i)], false, [⟨.ext 0, []⟩], true, []⟩)]⟩ aK trivial (fn := Tryz.f117) (by kernel_rfl) (by kernel_rfl) (by kernel_rfl)
noncomputable def mG (x0 : List (List UInt8)) (s1 : Int) : Option (Int ⊕ (Unit ⊕ Bool)) :=
  if decide (s1 < (x0.length : Int)) = true then
  Option.bind (ix x0 s1) fun x2 =>
  Option.bind (lU x2) fun x3 =>
  if (!x3) = true then
  some (.inr (.inr false))
  else
  some (.inl (IntKind.wrap .i64 (s1 + 1)))
  else
  some (.inr (.inl ()))

noncomputable def lh (p0 : List UInt8) : Option Bool :=
  if decide ((p0.length : Int) > 32) = true then
  some false
  else
  Option.bind (lT p0) fun x0 =>
  Option.bind (aY (mG x0) (0 : Int)) fun x4 =>
  kC x4 (fun x5 =>
  some (decide ((x0.length : Int) ≤ 4))) Option.some

noncomputable def vC : Kn St := ⟨102, [.kv .str], [.kv .bool], .ro fun x σ => lh x.1⟩

theorem zS : vC.ok Tryz.prog TB := fD ⟨Tryz.prog, TB, 25, KLs, MLs, [], [], [], [wV, wW]⟩ ⟨[], [], [], [(5, ⟨[(4, .kv .i)], false, [⟨.ext 0, []⟩], true, []⟩)]⟩ aK ⟨AO, AP, trivial⟩ (fn := Tryz.f102) (by kernel_rfl) (by kernel_rfl) (by kernel_rfl)
noncomputable def mY (p0 : Int) (p1 : Int) (p2 : List UInt8) : Option Bool :=
  Option.bind (dV p0 (0 : Int) (5 : Int)) fun x0 =>
  Option.bind (if x0 = true then
  dV p1 (1 : Int) (1099511627776 : Int)
  else
  some false) fun x1 =>
  Option.bind (if (x0 && x1) = true then
  lh p2
  else
  some false) fun x2 =>
  some ((x0 && x1) && x2)

noncomputable def xI : Kn St := ⟨74, [.kv .i, .kv .i, .kv .str], [.kv .bool], .ro fun x σ => mY x.1 x.2.1 x.2.2.1⟩

theorem BI : xI.ok Tryz.prog TB := fD ⟨Tryz.prog, TB, 17, KLs, MLs, [], [], [], [lF, vC]⟩ ⟨[], [], [], []⟩ aK ⟨mP, zS, trivial⟩ (fn := Tryz.f74) (by kernel_rfl) (by kernel_rfl) (by kernel_rfl)
noncomputable def pX (p0 : Int) : Option Bool :=
  some (decide (p0 ≥ (-1099511627776)) && decide (p0 ≤ 1099511627776))

noncomputable def wS : Kn St := ⟨103, [.kv .i], [.kv .bool], .ro fun x σ => pX x.1⟩

theorem AB : wS.ok Tryz.prog TB := fD ⟨Tryz.prog, TB, 9, KLs, MLs, [], [], [], []⟩ ⟨[], [], [], []⟩ aK trivial (fn := Tryz.f103) (by kernel_rfl) (by kernel_rfl) (by kernel_rfl)
noncomputable def mJ (p0 : List Int) (s0 : Int) : Option (Int ⊕ (Unit ⊕ Bool)) :=
  if decide (s0 < (p0.length : Int)) = true then
  Option.bind (ix p0 s0) fun x1 =>
  Option.bind (pX x1) fun x2 =>
  if (!x2) = true then
  some (.inr (.inr false))
  else
  some (.inl (IntKind.wrap .i64 (s0 + 1)))
  else
  some (.inr (.inl ()))

noncomputable def lu (p0 : List Int) (p1 : Int) : Option Bool :=
  Option.bind (aY (mJ p0) (0 : Int)) fun x3 =>
  kC x3 (fun x4 =>
  some (decide ((p0.length : Int) ≤ p1))) Option.some

noncomputable def vF : Kn St := ⟨76, [.kv (.list .i), .kv .i], [.kv .bool], .ro fun x σ => lu x.1 x.2.1⟩

theorem zT : vF.ok Tryz.prog TB := fD ⟨Tryz.prog, TB, 22, KLs, MLs, [], [], [], [wS]⟩ ⟨[], [], [], [(2, ⟨[(5, .kv .i)], false, [⟨.ext 0, []⟩], true, []⟩)]⟩ aK ⟨AB, trivial⟩ (fn := Tryz.f76) (by kernel_rfl) (by kernel_rfl) (by kernel_rfl)
noncomputable def kU (p0 : Int × Int × (List UInt8) × Int × (List Int) × Int × Unit) : Option Bool :=
  Option.bind (mY p0.1 p0.2.1 p0.2.2.1) fun x0 =>
  Option.bind (if x0 = true then
  dV p0.2.2.2.1 (0 : Int) (11 : Int)
  else
  some false) fun x1 =>
  Option.bind (if (x0 && x1) = true then
  lu p0.2.2.2.2.1 (4 : Int)
  else
  some false) fun x2 =>
  Option.bind (if ((x0 && x1) && x2) = true then
  dV p0.2.2.2.2.2.1 (-1 : Int) (1099511627776 : Int)
  else
  some false) fun x3 =>
  some (((x0 && x1) && x2) && x3)

noncomputable def yQ : Kn St := ⟨42, [.kv eY], [.kv .bool], .ro fun x σ => kU x.1⟩

theorem CO : yQ.ok Tryz.prog TB := fD ⟨Tryz.prog, TB, 25, KLs, MLs, [], [1000001], [], [xI, lF, vF]⟩ ⟨[], [], [], []⟩ aK ⟨BI, mP, zT, trivial⟩ (fn := Tryz.f42) (by kernel_rfl) (by kernel_rfl) (by kernel_rfl)
noncomputable def iI (p0 : Option Nat) (p1 : Int × Int × (List UInt8) × Int × (List Int) × Int × Unit) (σ : St) : Option ((Int × Int) × St) :=
  Option.bind p0 fun x0 =>
  Option.bind σ.ak[x0]? fun x1 =>
  Option.bind p0 fun x2 =>
  Option.bind σ.ak[x2]? fun x3 =>
  Option.bind (kU (x1.1, (IntKind.wrap .i64 ((x3.2.1.length : Int) + 1), p1.2.2))) fun x4 =>
  if (!x4) = true then
  some (((0 : Int), (2 : Int)), σ)
  else
  Option.bind p0 fun x5 =>
  Option.bind σ.ak[x5]? fun x6 =>
  Option.bind p0 fun x7 =>
  Option.bind σ.ak[x7]? fun x8 =>
  if decide (IntKind.wrap .i64 ((x6.2.1.length : Int) - (x8.2.2.1.length : Int)) ≥ 32) = true then
  some (((0 : Int), (10 : Int)), σ)
  else
  Option.bind p0 fun x9 =>
  Option.bind σ.ak[x9]? fun x10 =>
  if ((0 + x10.2.1.length) * 72) ≤ 140737488355328 then
  if ((([] ++ x10.2.1).length + 1) * 72) ≤ 140737488355328 then
  Option.bind p0 fun x11 =>
  Option.bind σ.ak[x11]? fun x12 =>
  some ((IntKind.wrap .i64 ((x3.2.1.length : Int) + 1), (0 : Int)), (σ.dB (σ.ak.set x11 (x12.1, ((([] ++ x10.2.1) ++ [(x1.1, (IntKind.wrap .i64 ((x3.2.1.length : Int) + 1), p1.2.2))]), x12.2.2)))))
  else
  none
  else
  none

noncomputable def pI : Kn St := ⟨15, [.kv (.ptr jo), .kv eY], [.kv .i, .kv .i], .rw fun x σ => iI x.1 x.2.1 σ⟩

theorem vT : pI.ok Tryz.prog TB := nN ⟨Tryz.prog, TB, 47, KLs, MLs, [], [3000003], [], [yQ]⟩ ⟨[], [], [], []⟩ aK ⟨CO, trivial⟩ (fn := Tryz.f15) (by kernel_rfl) (by kernel_rfl) (by kernel_rfl)
noncomputable def jJ (p0 : Option Nat) (p1 : Int) (σ : St) (s0 : (List (Int × Int × Unit)) × Int) : Option (((List (Int × Int × Unit)) × Int) ⊕ (List (Int × Int × Unit))) :=
  Option.bind (if (decide (s0.2 < p1) && decide (s0.2 < 40)) = true then
  cZ p0 σ
  else
  some (0 : Int)) fun x1 =>
  Option.bind (if (decide (s0.2 < p1) && decide (s0.2 < 40)) = true then
  dL p0 σ
  else
  some (0 : Int)) fun x2 =>
  if ((decide (s0.2 < p1) && decide (s0.2 < 40)) && decide (IntKind.wrap .i64 (x1 + s0.2) < x2)) = true then
  Option.bind (cZ p0 σ) fun x3 =>
  if ((s0.1.length + 1) * 16) ≤ 140737488355328 then
  some (.inl ((s0.1 ++ [(IntKind.wrap .i64 (x3 + s0.2), ((0 : Int), ()))]), IntKind.wrap .i64 (s0.2 + 1)))
  else
  none
  else
  some (.inr s0.1)

noncomputable def jB (p0 : Option Nat) (p1 : Int) (σ : St) : Option (List (Int × Int × Unit)) :=
  Option.bind (aY (jJ p0 p1 σ) ([], (0 : Int))) fun x4 =>
  some x4

noncomputable def wR : Kn St := ⟨16, [.kv (.ptr bu), .kv .i], [.kv (.list aI)], .ro fun x σ => jB x.1 x.2.1 σ⟩

theorem AA : wR.ok Tryz.prog TB := fD ⟨Tryz.prog, TB, 34, KLs, MLs, [], [33], [], [gm, iy]⟩ ⟨[], [], [], [(3, ⟨[(5, .own 58 16 aI), (6, .kv .i)], false, [⟨.ext 0, [(5, .own 58 16 aI)]⟩], false, []⟩)]⟩ aK ⟨gz, iC, trivial⟩ (fn := Tryz.f16) (by kernel_rfl) (by kernel_rfl) (by kernel_rfl)
noncomputable def kV (p0 : List (Int × Int × Unit)) (s0 : Int) : Option (Int ⊕ (Unit ⊕ Bool)) :=
  if decide (s0 < (p0.length : Int)) = true then
  Option.bind (ix p0 s0) fun x1 =>
  Option.bind (dV x1.1 (1 : Int) (1099511627776 : Int)) fun x2 =>
  if (!(!x2)) = true then
  Option.bind (ix p0 s0) fun x3 =>
  Option.bind (dV x3.2.1 (0 : Int) (63 : Int)) fun x4 =>
  if (!(!x4)) = true then
  if decide (s0 > 0) = true then
  Option.bind (ix p0 s0) fun x5 =>
  Option.bind (ix p0 (IntKind.wrap .i64 (s0 - 1))) fun x6 =>
  if decide (x5.1 ≤ x6.1) = true then
  some (.inr (.inr false))
  else
  some (.inl (IntKind.wrap .i64 (s0 + 1)))
  else
  some (.inl (IntKind.wrap .i64 (s0 + 1)))
  else
  some (.inr (.inr false))
  else
  some (.inr (.inr false))
  else
  some (.inr (.inl ()))

noncomputable def jK (p0 : List (Int × Int × Unit)) : Option Bool :=
  Option.bind (aY (kV p0) (0 : Int)) fun x7 =>
  kC x7 (fun x8 =>
  some (decide ((p0.length : Int) ≤ 32))) Option.some

noncomputable def tH : Kn St := ⟨46, [.kv (.list aI)], [.kv .bool], .ro fun x σ => jK x.1⟩

theorem yR : tH.ok Tryz.prog TB := fD ⟨Tryz.prog, TB, 47, KLs, MLs, [], [], [], [lF]⟩ ⟨[], [], [], [(2, ⟨[(3, .kv .i)], false, [⟨.ext 0, []⟩], true, []⟩)]⟩ aK ⟨mP, trivial⟩ (fn := Tryz.f46) (by kernel_rfl) (by kernel_rfl) (by kernel_rfl)
noncomputable def eU (p0 : Option Nat) (p1 : List (Int × Int × Unit)) (σ : St) (s1 : (List (Int × Int × Unit)) × Int) : Option (((List (Int × Int × Unit)) × Int) ⊕ (List (Int × Int × Unit))) :=
  if decide (s1.2 < (p1.length : Int)) = true then
  Option.bind (ix p1 s1.2) fun x2 =>
  Option.bind p0 fun x3 =>
  Option.bind σ.ak[x3]? fun x4 =>
  if decide (x2.1 > (x4.2.2.1.length : Int)) = true then
  Option.bind (ix p1 s1.2) fun x5 =>
  if ((s1.1.length + 1) * 16) ≤ 140737488355328 then
  some (.inl ((s1.1 ++ [x5]), IntKind.wrap .i64 (s1.2 + 1)))
  else
  none
  else
  some (.inl (s1.1, IntKind.wrap .i64 (s1.2 + 1)))
  else
  some (.inr s1.1)

noncomputable def gJ (p0 : Option Nat) (σ : St) (x6 : List (Int × Int × Unit)) (s7 : Int) : Option (Int ⊕ (Unit ⊕ ((Int × Int) × St))) :=
  if decide (s7 < (x6.length : Int)) = true then
  Option.bind (ix x6 s7) fun x8 =>
  Option.bind p0 fun x9 =>
  Option.bind σ.ak[x9]? fun x10 =>
  if (!(x8.1 != IntKind.wrap .i64 (IntKind.wrap .i64 ((x10.2.2.1.length : Int) + 1) + s7))) = true then
  Option.bind (ix x6 s7) fun x11 =>
  Option.bind p0 fun x12 =>
  Option.bind σ.ak[x12]? fun x13 =>
  if decide (x11.1 > (x13.2.1.length : Int)) = true then
  some (.inr (.inr (((0 : Int), (3 : Int)), σ)))
  else
  some (.inl (IntKind.wrap .i64 (s7 + 1)))
  else
  some (.inr (.inr (((0 : Int), (3 : Int)), σ)))
  else
  some (.inr (.inl ()))

noncomputable def iU (p0 : Option Nat) (p1 : List (Int × Int × Unit)) (σ : St) : Option ((Int × Int) × St) :=
  Option.bind (jK p1) fun x0 =>
  if (!x0) = true then
  some (((0 : Int), (2 : Int)), σ)
  else
  Option.bind (aY (eU p0 p1 σ) ([], (0 : Int))) fun x6 =>
  Option.bind (aY (gJ p0 σ x6) (0 : Int)) fun x14 =>
  kC x14 (fun x15 =>
  Option.bind p0 fun x16 =>
  Option.bind σ.ak[x16]? fun x17 =>
  if ((0 + x17.2.2.1.length) * 16) ≤ 140737488355328 then
  if ((([] ++ x17.2.2.1).length + x6.length) * 16) ≤ 140737488355328 then
  Option.bind p0 fun x18 =>
  Option.bind σ.ak[x18]? fun x19 =>
  some (((x6.length : Int), (0 : Int)), (σ.dB (σ.ak.set x18 (x19.1, (x19.2.1, ((([] ++ x17.2.2.1) ++ x6), x19.2.2.2))))))
  else
  none
  else
  none) Option.some

noncomputable def qR : Kn St := ⟨18, [.kv (.ptr jo), .kv (.list aI)], [.kv .i, .kv .i], .rw fun x σ => iU x.1 x.2.1 σ⟩

theorem xh : qR.ok Tryz.prog TB := nN ⟨Tryz.prog, TB, 82, KLs, MLs, [], [37, 42, 57, 76, 80], [], [tH]⟩ ⟨[], [], [], [(5, ⟨[(6, .own 58 16 aI), (7, .kv .i)], false, [⟨.ext 0, [(6, .own 58 16 aI)]⟩], false, []⟩), (10, ⟨[(8, .kv .i)], false, [⟨.ext 2, []⟩], true, [6]⟩)]⟩ aK ⟨yR, trivial⟩ (fn := Tryz.f18) (by kernel_rfl) (by kernel_rfl) (by kernel_rfl)
noncomputable def lN (p0 : Option Nat) (x0 : List (List UInt8)) (s1 : (List Int) × Int × St) : Option (((List Int) × Int × St) ⊕ St) :=
  if decide (s1.2.1 < (x0.length : Int)) = true then
  Option.bind (ix x0 s1.2.1) fun x2 =>
  Option.bind p0 fun x3 =>
  Option.bind s1.2.2.af[x3]? fun x4 =>
  Option.bind s1.2.2.af[x3]? fun x5 =>
  Option.bind ((bW Kd.str (Kd.ptr 93) x2 x5.2.1).getD none) fun x6 =>
  Option.bind s1.2.2.ai[x6]? fun x7 =>
  Option.bind ((bW Kd.str (Kd.ptr 93) x2 x5.2.1).getD none) fun x8 =>
  Option.bind s1.2.2.ai[x8]? fun x9 =>
  if (IntKind.wrap .i64 ((x7.1.length : Int) - x9.2.1) == 0) = true then
  some (.inl (s1.1, (IntKind.wrap .i64 (s1.2.1 + 1), s1.2.2)))
  else
  Option.bind (if decide ((s1.1.length : Int) > 0) = true then
  Option.bind (ix s1.1 (0 : Int)) fun x10 =>
  if IntKind.wrap .i64 (IntKind.wrap .i64 ((x7.1.length : Int) - x9.2.1) + 1) ≠ 0 then
  if (0 : Int) ≤ (1 : Int) ∧ 1 ≤ (s1.1.length : Int) then
  some (s1.1.drop 1, (if 0 > x10 then
  (0 : Int)
  else
  x10).tmod (IntKind.wrap .i64 (IntKind.wrap .i64 ((x7.1.length : Int) - x9.2.1) + 1)))
  else
  none
  else
  none
  else
  some (s1.1, (0 : Int))) fun x11 =>
  Option.bind ((bW Kd.str (Kd.ptr 93) x2 x5.2.1).getD none) fun x12 =>
  Option.bind s1.2.2.ai[x12]? fun x13 =>
  Option.bind ((bW Kd.str (Kd.ptr 93) x2 x5.2.1).getD none) fun x14 =>
  Option.bind s1.2.2.ai[x14]? fun x15 =>
  if 0 ≤ IntKind.wrap .i64 (x15.2.1 + x11.2) ∧ IntKind.wrap .i64 (x15.2.1 + x11.2) ≤ (x13.1.length : Int) then
  Option.bind ((bW Kd.str (Kd.ptr 93) x2 x5.2.1).getD none) fun x16 =>
  Option.bind s1.2.2.ai[x16]? fun x17 =>
  Option.bind ((bW Kd.str (Kd.ptr 93) x2 x5.2.1).getD none) fun x18 =>
  Option.bind ((s1.2.2.ai.set x16 (x13.1.take ((IntKind.wrap .i64 (x15.2.1 + x11.2)).toNat), x17.2))[x18]?) fun x19 =>
  Option.bind ((bW Kd.str (Kd.ptr 93) x2 x5.2.1).getD none) fun x20 =>
  Option.bind ((s1.2.2.ai.set x16 (x13.1.take ((IntKind.wrap .i64 (x15.2.1 + x11.2)).toNat), x17.2))[x20]?) fun x21 =>
  some (.inl (x11.1, (IntKind.wrap .i64 (s1.2.1 + 1), ((s1.2.2.fM (s1.2.2.ai.set x16 (x13.1.take ((IntKind.wrap .i64 (x15.2.1 + x11.2)).toNat), x17.2))).fM ((s1.2.2.ai.set x16 (x13.1.take ((IntKind.wrap .i64 (x15.2.1 + x11.2)).toNat), x17.2)).set x20 (x21.1, ((x19.1.length : Int), x21.2.2)))))))
  else
  none
  else
  some (.inr s1.2.2)

noncomputable def lM (p0 : Option Nat) (p1 : List Int) (σ : St) : Option (Int × St) :=
  if p0.isNone = true then
  some ((1 : Int), σ)
  else
  Option.bind (gX p0 σ) fun x0 =>
  Option.bind (aY (lN p0 x0) (p1, ((0 : Int), σ))) fun x22 =>
  Option.bind p0 fun x23 =>
  Option.bind x22.af[x23]? fun x24 =>
  Option.bind p0 fun x25 =>
  Option.bind ((x22.af.set x23 (x24.1, (x24.2.1, (x24.2.2.1, (false, x24.2.2.2.2)))))[x25]?) fun x26 =>
  some ((0 : Int), ((x22.bF (x22.af.set x23 (x24.1, (x24.2.1, (x24.2.2.1, (false, x24.2.2.2.2)))))).bF ((x22.af.set x23 (x24.1, (x24.2.1, (x24.2.2.1, (false, x24.2.2.2.2))))).set x25 (x26.1, (x26.2.1, ((0 : Int), x26.2.2.2))))))

noncomputable def zy : Kn St := ⟨19, [.kv (.ptr di), .kv (.list .i)], [.kv .i], .rw fun x σ => lM x.1 x.2.1 σ⟩

theorem DW : zy.ok Tryz.prog TB := nN ⟨Tryz.prog, TB, 78, KLs, MLs, [], [], [], [Aj]⟩ ⟨[], [(11, ⟨[], false, [⟨.nrm, [(1, .kv (.list .i)), (9, .kv .i)]⟩], false, []⟩)], [], [(4, ⟨[(1, .kv (.list .i)), (15, .kv .i)], true, [⟨.ext 0, []⟩], false, []⟩)]⟩ aK ⟨EY, trivial⟩ (fn := Tryz.f19) (by kernel_rfl) (by kernel_rfl) (by kernel_rfl)
noncomputable def gK (p0 : Option Nat) (σ : St) : Option (List (Int × Int × (List UInt8) × Int × (List Int) × Int × Unit)) :=
  Option.bind p0 fun x0 =>
  Option.bind σ.ak[x0]? fun x1 =>
  Option.bind p0 fun x2 =>
  Option.bind σ.ak[x2]? fun x3 =>
  if 0 ≤ (x3.2.2.1.length : Int) ∧ (x3.2.2.1.length : Int) ≤ (x1.2.1.length : Int) then
  some (x1.2.1.drop ((x3.2.2.1.length : Int).toNat))
  else
  none

noncomputable def oI : Kn St := ⟨49, [.kv (.ptr jo)], [.kv (.list eY)], .ro fun x σ => gK x.1 σ⟩

theorem vg : oI.ok Tryz.prog TB := fD ⟨Tryz.prog, TB, 13, KLs, MLs, [], [], [], []⟩ ⟨[], [], [], []⟩ aK trivial (fn := Tryz.f49) (by kernel_rfl) (by kernel_rfl) (by kernel_rfl)
noncomputable def nX (p0 : List Int) (p1 : List Int) (s0 : Int) : Option (Int ⊕ (Unit ⊕ Bool)) :=
  if decide (s0 < (p0.length : Int)) = true then
  Option.bind (ix p0 s0) fun x1 =>
  Option.bind (ix p1 s0) fun x2 =>
  if (x1 != x2) = true then
  some (.inr (.inr false))
  else
  some (.inl (IntKind.wrap .i64 (s0 + 1)))
  else
  some (.inr (.inl ()))

noncomputable def mX (p0 : List Int) (p1 : List Int) : Option Bool :=
  if ((p0.length : Int) != (p1.length : Int)) = true then
  some false
  else
  Option.bind (aY (nX p0 p1) (0 : Int)) fun x3 =>
  kC x3 (fun x4 =>
  some true) Option.some

noncomputable def xH : Kn St := ⟨106, [.kv (.list .i), .kv (.list .i)], [.kv .bool], .ro fun x σ => mX x.1 x.2.1⟩

theorem BH : xH.ok Tryz.prog TB := fD ⟨Tryz.prog, TB, 26, KLs, MLs, [], [], [], []⟩ ⟨[], [], [], [(4, ⟨[(5, .kv .i)], false, [⟨.ext 0, []⟩], true, []⟩)]⟩ aK trivial (fn := Tryz.f106) (by kernel_rfl) (by kernel_rfl) (by kernel_rfl)
noncomputable def kF (p0 : Int × Int × (List UInt8) × Int × (List Int) × Int × Unit) (p1 : Int × Int × (List UInt8) × Int × (List Int) × Int × Unit) : Option Bool :=
  Option.bind (if ((((p0.1 == p1.1) && (p0.2.1 == p1.2.1)) && (p0.2.2.1 == p1.2.2.1)) && (p0.2.2.2.1 == p1.2.2.2.1)) = true then
  mX p0.2.2.2.2.1 p1.2.2.2.2.1
  else
  some false) fun x0 =>
  some ((((((p0.1 == p1.1) && (p0.2.1 == p1.2.1)) && (p0.2.2.1 == p1.2.2.1)) && (p0.2.2.2.1 == p1.2.2.2.1)) && x0) && (p0.2.2.2.2.2.1 == p1.2.2.2.2.2.1))

noncomputable def uP : Kn St := ⟨81, [.kv eY, .kv eY], [.kv .bool], .ro fun x σ => kF x.1 x.2.1⟩

theorem zk : uP.ok Tryz.prog TB := fD ⟨Tryz.prog, TB, 45, KLs, MLs, [], [1000002, 1000003], [], [xH]⟩ ⟨[], [], [], []⟩ aK ⟨BH, trivial⟩ (fn := Tryz.f81) (by kernel_rfl) (by kernel_rfl) (by kernel_rfl)
noncomputable def kW (p0 : List (Int × Int × (List UInt8) × Int × (List Int) × Int × Unit)) (p1 : List (Int × Int × (List UInt8) × Int × (List Int) × Int × Unit)) (s0 : Int) : Option (Int ⊕ (Unit ⊕ Bool)) :=
  if decide (s0 < (p0.length : Int)) = true then
  Option.bind (ix p0 s0) fun x1 =>
  Option.bind (ix p1 s0) fun x2 =>
  Option.bind (kF x1 x2) fun x3 =>
  if (!x3) = true then
  some (.inr (.inr false))
  else
  some (.inl (IntKind.wrap .i64 (s0 + 1)))
  else
  some (.inr (.inl ()))

noncomputable def jL (p0 : List (Int × Int × (List UInt8) × Int × (List Int) × Int × Unit)) (p1 : List (Int × Int × (List UInt8) × Int × (List Int) × Int × Unit)) : Option Bool :=
  if ((p0.length : Int) != (p1.length : Int)) = true then
  some false
  else
  Option.bind (aY (kW p0 p1) (0 : Int)) fun x4 =>
  kC x4 (fun x5 =>
  some true) Option.some

noncomputable def tJ : Kn St := ⟨48, [.kv (.list eY), .kv (.list eY)], [.kv .bool], .ro fun x σ => jL x.1 x.2.1⟩

theorem yS : tJ.ok Tryz.prog TB := fD ⟨Tryz.prog, TB, 27, KLs, MLs, [], [], [], [uP]⟩ ⟨[], [], [], [(4, ⟨[(5, .kv .i)], false, [⟨.ext 0, []⟩], true, []⟩)]⟩ aK ⟨zk, trivial⟩ (fn := Tryz.f48) (by kernel_rfl) (by kernel_rfl) (by kernel_rfl)
noncomputable def jc (p0 : List (Int × Int × Unit)) (p1 : List (Int × Int × Unit)) (s0 : Int) : Option (Int ⊕ (Unit ⊕ Bool)) :=
  if decide (s0 < (p0.length : Int)) = true then
  Option.bind (ix p0 s0) fun x1 =>
  Option.bind (ix p1 s0) fun x2 =>
  if (!((x1.1 == x2.1) && ((x1.2.1 == x2.2.1) && true))) = true then
  some (.inr (.inr false))
  else
  some (.inl (IntKind.wrap .i64 (s0 + 1)))
  else
  some (.inr (.inl ()))

noncomputable def iH (p0 : List (Int × Int × Unit)) (p1 : List (Int × Int × Unit)) : Option Bool :=
  if ((p0.length : Int) != (p1.length : Int)) = true then
  some false
  else
  Option.bind (aY (jc p0 p1) (0 : Int)) fun x3 =>
  kC x3 (fun x4 =>
  some true) Option.some

noncomputable def pG : Kn St := ⟨50, [.kv (.list aI), .kv (.list aI)], [.kv .bool], .ro fun x σ => iH x.1 x.2.1⟩

theorem vS : pG.ok Tryz.prog TB := fD ⟨Tryz.prog, TB, 26, KLs, MLs, [], [], [], []⟩ ⟨[], [], [], [(4, ⟨[(5, .kv .i)], false, [⟨.ext 0, []⟩], true, []⟩)]⟩ aK trivial (fn := Tryz.f50) (by kernel_rfl) (by kernel_rfl) (by kernel_rfl)
noncomputable def jW (p0 : Option Nat) (p1 : Option Nat) (σ : St) : Option Bool :=
  Option.bind (ig p0 σ) fun x0 =>
  Option.bind (gK p1 σ) fun x1 =>
  Option.bind (jL x0 x1) fun x2 =>
  if x2 = true then
  Option.bind (gZ p0 σ) fun x3 =>
  Option.bind p1 fun x4 =>
  Option.bind σ.ak[x4]? fun x5 =>
  Option.bind (iH x3 x5.2.2.1) fun x6 =>
  if x6 = true then
  Option.bind (cZ p0 σ) fun x7 =>
  Option.bind p1 fun x8 =>
  Option.bind σ.ak[x8]? fun x9 =>
  if (x7 == IntKind.wrap .i64 ((x9.2.2.1.length : Int) + 1)) = true then
  Option.bind (dL p0 σ) fun x10 =>
  Option.bind p1 fun x11 =>
  Option.bind σ.ak[x11]? fun x12 =>
  some (x10 == IntKind.wrap .i64 ((x12.2.1.length : Int) + 1))
  else
  some false
  else
  some false
  else
  some false

noncomputable def xG : Kn St := ⟨20, [.kv (.ptr bu), .kv (.ptr jo)], [.kv .bool], .ro fun x σ => jW x.1 x.2.1 σ⟩

theorem BG : xG.ok Tryz.prog TB := fD ⟨Tryz.prog, TB, 41, KLs, MLs, [], [], [], [nK, oI, tJ, nJ, pG, gm, iy]⟩ ⟨[], [], [], []⟩ aK ⟨qi, vg, yS, qh, vS, gz, iC, trivial⟩ (fn := Tryz.f20) (by kernel_rfl) (by kernel_rfl) (by kernel_rfl)
noncomputable def eF (p0 : Int) (p1 : List (Int × Int × (Int × Int × (List UInt8) × Int × (List Int) × Int × Unit) × (List (Int × Int × Unit)) × (List Int) × Unit)) (x0 : ((Option Nat) × Int) × St) (x1 : ((Option Nat) × Int) × St) (s4 : (Option Nat) × Int × St) : Option (((Option Nat) × Int × St) ⊕ (St ⊕ (Bool × St))) :=
  if (decide (s4.2.1 < (p1.length : Int)) && decide (s4.2.1 < 60)) = true then
  Option.bind (ix p1 s4.2.1) fun x5 =>
  Option.bind (if (decide (x5.1 ≥ 0) && decide (x5.1 < 4)) = true then
  Option.bind (eH s4.1 x5.2.2.1.2.2.1 x5.2.2.1.2.2.2.1 x5.2.2.1.2.2.2.2.1 x5.2.2.1.2.2.2.2.2.1 s4.2.2) fun x6 =>
  Option.bind (iI (some x1.2.ak.length) x5.2.2.1 x6.2) fun x7 =>
  if ((x6.1.1 != x7.1.1) || (x6.1.2 != x7.1.2)) = true then
  some (.inr (.inr (.inr (false, x7.2))))
  else
  some (.inl (s4.1, x7.2))
  else
  Option.bind (if ((x5.1 == 4) || (x5.1 == 5)) = true then
  Option.bind (if (x5.1 == 5) = true then
  Option.bind (jB s4.1 x5.2.1 s4.2.2) fun x8 =>
  some x8
  else
  some x5.2.2.2.1) fun x9 =>
  Option.bind (fH s4.1 x9 s4.2.2) fun x10 =>
  Option.bind (iU (some x1.2.ak.length) x9 x10.2) fun x11 =>
  if ((x10.1.1 != x11.1.1) || (x10.1.2 != x11.1.2)) = true then
  some (.inr (.inr (.inr (.inr (false, x11.2)))))
  else
  some (.inl (s4.1, x11.2))
  else
  Option.bind (lM x0.1.1 x5.2.2.2.2.1 s4.2.2) fun x12 =>
  Option.bind (eQ x0.1.1 p0 x12.2) fun x13 =>
  if ((x13.1.2 != 0) || x13.1.1.isNone) = true then
  some (.inr (.inr (.inr (.inr (false, x13.2)))))
  else
  some (.inl (x13.1.1, x13.2))) fun x14 =>
  kC x14 (fun x15 =>
  some (.inl (x15.1, x15.2))) Option.some) fun x16 =>
  kC x16 (fun x17 =>
  Option.bind (jW x17.1 (some x1.2.ak.length) x17.2) fun x18 =>
  if (!x18) = true then
  some (.inr (.inr (false, x17.2)))
  else
  some (.inl (x17.1, (IntKind.wrap .i64 (s4.2.1 + 1), x17.2)))) Option.some
  else
  some (.inr (.inl s4.2.2))

noncomputable def fJ (p0 : Int) (p1 : List (Int × Int × (Int × Int × (List UInt8) × Int × (List Int) × Int × Unit) × (List (Int × Int × Unit)) × (List Int) × Unit)) (σ : St) : Option (Bool × St) :=
  Option.bind (sG (1048576 : Int) σ) fun x0 =>
  Option.bind (eQ x0.1.1 p0 x0.2) fun x1 =>
  if (decide (p0 < 0) || decide (p0 > 5)) = true then
  Option.bind (jA x1.2) fun x2 =>
  some (((x2.1 && x1.1.1.isNone) && (x1.1.2 == 14)), x2.2)
  else
  Option.bind (if (!((x1.1.2 != 0) || x1.1.1.isNone)) = true then
  jA (x1.2.dB (x1.2.ak ++ [(p0, ([], ([], ())))]))
  else
  some (false, (x1.2.dB (x1.2.ak ++ [(p0, ([], ([], ())))])))) fun x3 =>
  if (((x1.1.2 != 0) || x1.1.1.isNone) || (!x3.1)) = true then
  some (false, x3.2)
  else
  Option.bind (aY (eF p0 p1 x0 x1) (x1.1.1, ((0 : Int), x3.2))) fun x19 =>
  kC x19 (fun x20 =>
  some (true, x20)) Option.some

noncomputable def yP : Kn St := ⟨4, [.kv .i, .kv (.list bD)], [.kv .bool], .rw fun x σ => fJ x.1 x.2.1 σ⟩

theorem wP : yP.ok Tryz.prog TB := nN ⟨Tryz.prog, TB, 172, KLs, MLs, [], [12000011], [], [F8, yO, wQ, og, pI, wR, qg, qR, zy, xG]⟩ ⟨[], [(24, ⟨[], false, [⟨.nrm, [(16, .kv (.list aI))]⟩], false, []⟩), (22, ⟨[], true, [⟨.nrm, [(7, .kv (.ptr bu))]⟩], true, []⟩), (17, ⟨[], true, [⟨.nrm, [(7, .kv (.ptr bu))]⟩], true, []⟩)], [], [(9, ⟨[(7, .kv (.ptr bu)), (10, .kv .i)], true, [⟨.ext 0, []⟩], true, []⟩)]⟩ aK ⟨FM, zA, Az, qQ, vT, AA, tq, xh, DW, BG, trivial⟩ (fn := Tryz.f4) (by kernel_rfl) (by kernel_rfl) (by kernel_rfl)
end Go.Proofs.YtbnmhjobnepajaaGreat.M


set_option maxRecDepth 100000

namespace Go.Proofs.YtbnmhjobnepajaaGreat.M

open Go.Proofs

noncomputable def St.aU (s : St) (i : Nat) (x : aA dN) : St := { s with af := s.af.set i x }

theorem ou {s : St} {i : Nat} {o x : aA dN} (h : s.af[i]? = some o) : (s.aU i x).af[i]? = some x := by simp [St.aU, (List.getElem?_eq_some_iff.1 h).1]

noncomputable def St.oJ (s : St) (x : aA dN) : St := { s with af := s.af ++ [x] }

theorem Oi {s : St} {x : aA dN} : (s.oJ x).af[s.af.length]? = some x := by simp [St.oJ]

noncomputable def St.aH (s : St) (i : Nat) (x : aA eP) : St := { s with ai := s.ai.set i x }

theorem sU {s : St} {i : Nat} {o x : aA eP} (h : s.ai[i]? = some o) : (s.aH i x).ai[i]? = some x := by simp [St.aH, (List.getElem?_eq_some_iff.1 h).1]

noncomputable def St.ed (s : St) (x : aA eP) : St := { s with ai := s.ai ++ [x] }

theorem FH {s : St} {x : aA eP} : (s.ed x).ai[s.ai.length]? = some x := by simp [St.ed]

noncomputable def St.bg (s : St) (i : Nat) (x : aA dh) : St := { s with aj := s.aj.set i x }

theorem qO {s : St} {i : Nat} {o x : aA dh} (h : s.aj[i]? = some o) : (s.bg i x).aj[i]? = some x := by simp [St.bg, (List.getElem?_eq_some_iff.1 h).1]

noncomputable def St.gW (s : St) (x : aA dh) : St := { s with aj := s.aj ++ [x] }

theorem TA {s : St} {x : aA dh} : (s.gW x).aj[s.aj.length]? = some x := by simp [St.gW]

noncomputable def St.ay (s : St) (i : Nat) (x : aA dP) : St := { s with ae := s.ae.set i x }

theorem xe {s : St} {i : Nat} {o x : aA dP} (h : s.ae[i]? = some o) : (s.ay i x).ae[i]? = some x := by simp [St.ay, (List.getElem?_eq_some_iff.1 h).1]

noncomputable def St.az (s : St) (x : aA dP) : St := { s with ae := s.ae ++ [x] }

theorem oD {s : St} {x : aA dP} : (s.az x).ae[s.ae.length]? = some x := by simp [St.az]

noncomputable def St.bU (s : St) (x : aA G9) : St := { s with gV := s.gV ++ [x] }

theorem ZV {s : St} {x : aA G9} : (s.bU x).gV[s.gV.length]? = some x := by simp [St.bU]

noncomputable def St.Lc (s : St) (x : aA Kw) : St := { s with sV := s.sV ++ [x] }

noncomputable def St.Ey (s : St) (x : aA G8) : St := { s with mi := s.mi ++ [x] }

noncomputable def St.dC (s : St) (i : Nat) (x : aA yI) : St := { s with aG := s.aG.set i x }

theorem Es {s : St} {i : Nat} {o x : aA yI} (h : s.aG[i]? = some o) : (s.dC i x).aG[i]? = some x := by simp [St.dC, (List.getElem?_eq_some_iff.1 h).1]

noncomputable def St.dY (s : St) (x : aA yI) : St := { s with aG := s.aG ++ [x] }

theorem Pm {s : St} {x : aA yI} : (s.dY x).aG[s.aG.length]? = some x := by simp [St.dY]

noncomputable def St.up (σ : St) := (σ.ak, σ.ah, σ.au, σ.bz)

noncomputable def wu (p0 : List UInt8) (x5 : Int) (x6 : Int) : Option (Sum (Int × Int) Int) :=
  if (decide (x6 < (p0.length : Int))) = true then
  if (0 : Int) ≤ x6 ∧ x6 < (p0.length : Int) then
  if (decide ((btS p0 x6) < 48)) = true then
  some (.inr (-1))
  else
  if (0 : Int) ≤ x6 ∧ x6 < (p0.length : Int) then
  if ((decide ((btS p0 x6) > 57)) || (decide (x5 > 1099511627776))) = true then
  some (.inr (-1))
  else
  if (0 : Int) ≤ x6 ∧ x6 < (p0.length : Int) then
  wu p0 (IntKind.wrap .i64 ((IntKind.wrap .i64 (x5 * 10)) + (IntKind.wrap .i64 (IntKind.wrap .u8 ((btS p0 x6) - 48))))) (IntKind.wrap .i64 (x6 + 1))
  else none
  else none
  else none
  else
  some (.inl (x5, x6))
  partial_fixpoint

noncomputable def f140 (p0 : List UInt8) : Option Int :=
  wu p0 0 0 >>= fun rr23 => (match rr23 with
  | .inr yy => some yy
  | .inl z22 =>
  if (p0 == []) = true then
  some (-1)
  else
  if (0 : Int) ≤ 0 ∧ 0 < (p0.length : Int) then
  if ((((btS p0 0) == 48) && (!(p0 == [48]))) || (decide (z22.1 > 1099511627776))) = true then
  some (-1)
  else
  some z22.1
  else none)

noncomputable def f60 (p0 : Option Nat) (σ : St) : Option Int :=
  if p0.isNone = true then
  some 0
  else
  p0 >>= fun i6 =>
  (σ.aj[i6]?) >>= fun o7 =>
  some o7.2.2.2.2.1

noncomputable def f18 (p0 : Int) (σ : St) : Option (((Option Nat) × Int) × St) :=
  if ((decide (p0 < 0)) || (decide (p0 > 1048576))) = true then
  some ((none, 2), σ)
  else
  some ((some σ.af.length, 0), (σ.oJ (p0, [], 0, false, ())))

noncomputable def f70 (p0 : Option Nat) (σ : St) : Option Int :=
  if p0.isNone = true then
  some 1
  else
  p0 >>= fun i6 =>
  (σ.af[i6]?) >>= fun o7 =>
  if o7.2.2.2.1 = true then
  some 11
  else
  some 0

noncomputable def yF (p0 : List UInt8) (x4 : Int) : Option (Sum Int Bool) :=
  if (decide (x4 < (p0.length : Int))) = true then
  if (0 : Int) ≤ x4 ∧ x4 < (p0.length : Int) then
  if ((((((decide ((btS p0 x4) < 97)) || (decide ((btS p0 x4) > 122))) && ((decide ((btS p0 x4) < 48)) || (decide ((btS p0 x4) > 57)))) && ((btS p0 x4) != 46)) && ((btS p0 x4) != 45)) && ((btS p0 x4) != 95)) = true then
  some (.inr false)
  else
  yF p0 (IntKind.wrap .i64 (x4 + 1))
  else none
  else
  some (.inl x4)
  partial_fixpoint

noncomputable def f71 (p0 : List UInt8) : Option Bool :=
  yF p0 0 >>= fun rr18 => (match rr18 with
  | .inr yy => some yy
  | .inl z17 =>
  some ((decide ((p0.length : Int) > 0)) && (decide ((p0.length : Int) ≤ 24))))

noncomputable def f72 (p0 : Option Nat) (p1 : St → Option (Unit × St)) (σ : St) : Option (Int × St) :=
  p0 >>= fun i4 =>
  (σ.af[i4]?) >>= fun o5 =>
  if (decide (o5.2.2.1 > 0)) = true then
  p0 >>= fun i7 =>
  (σ.af[i7]?) >>= fun o8 =>
  p0 >>= fun i9 =>
  (σ.af[i9]?) >>= fun o10 =>
  p0 >>= fun i12 =>
  ((σ.aU i9 (o10.1, o10.2.1, IntKind.wrap .i64 (o8.2.2.1 - 1), o10.2.2.2.1, ())).af[i12]?) >>= fun o13 =>
  if (o13.2.2.1 == 0) = true then
  p0 >>= fun i15 =>
  ((σ.aU i9 (o10.1, o10.2.1, IntKind.wrap .i64 (o8.2.2.1 - 1), o10.2.2.2.1, ())).af[i15]?) >>= fun o16 =>
  some (11, ((σ.aU i9 (o10.1, o10.2.1, IntKind.wrap .i64 (o8.2.2.1 - 1), o10.2.2.2.1, ())).aU i15 (o16.1, o16.2.1, o16.2.2.1, true, ())))
  else
  p1 (σ.aU i9 (o10.1, o10.2.1, IntKind.wrap .i64 (o8.2.2.1 - 1), o10.2.2.2.1, ())) >>= fun r19 =>
  some (0, r19.2)
  else
  p1 σ >>= fun r22 =>
  some (0, r22.2)

noncomputable def f73  (σ : St) : Option (Unit × St) :=
  some ((), σ)

noncomputable def f24 (p0 : Option Nat) (p1 : List UInt8) (p2 : List UInt8) (σ : St) : Option (Int × St) :=
  f70 p0 σ >>= fun r4 =>
  if (r4 != 0) = true then
  some (r4, σ)
  else
  f71 p1 >>= fun r9 =>
  if (!r9) = true then
  some (2, σ)
  else
  p0 >>= fun i12 =>
  (σ.af[i12]?) >>= fun o13 =>
  (if (!((bW .str (.ptr ax) p1 o13.2.1).getD (fF (.ptr ax))).isNone) = true then
  ((bW .str (.ptr ax) p1 o13.2.1).getD (fF (.ptr ax))) >>= fun i77 =>
  (σ.ai[i77]?) >>= fun o78 =>
  some (o78.1.length : Int)
  else
  some 0 : Option Int) >>= fun z18 =>
  if (((bW .str (.ptr ax) p1 o13.2.1).getD (fF (.ptr ax))).isNone) = true then
  p0 >>= fun i23 =>
  (σ.af[i23]?) >>= fun o24 =>
  if (decide ((o24.2.1.length : Int) ≥ 128)) = true then
  some (10, σ)
  else
  if (decide ((p2.length : Int) > (IntKind.wrap .i64 (65536 - z18)))) = true then
  some (10, σ)
  else
  p0 >>= fun i31 =>
  (σ.af[i31]?) >>= fun o32 =>
  fP p0 σ >>= fun r33 =>
  if (decide ((p2.length : Int) > (IntKind.wrap .i64 (o32.1 - r33)))) = true then
  some (10, σ)
  else
  (if (((bW .str (.ptr ax) p1 o13.2.1).getD (fF (.ptr ax))).isNone) = true then
  p0 >>= fun i50 =>
  ((σ.ed ([], 0, ())).af[i50]?) >>= fun o51 =>
  some (some σ.ai.length, ((σ.ed ([], 0, ())).aU i50 (o51.1, oQ .str (.ptr ax) p1 (some σ.ai.length) o51.2.1, o51.2.2.1, o51.2.2.2.1, ())))
  else
  some ((bW .str (.ptr ax) p1 o13.2.1).getD (fF (.ptr ax)), σ) : Option ((Option Nat) × St)) >>= fun z39 =>
  z39.1 >>= fun i42 =>
  (z39.2.ai[i42]?) >>= fun o43 =>
  if o43.1.length + p2.length ≤ 9223372036854775807 then
  z39.1 >>= fun i45 =>
  (z39.2.ai[i45]?) >>= fun o46 =>
  f72 p0 f73 (z39.2.aH i45 (o43.1 ++ p2, o46.2.1, ())) >>= fun r48 =>
  some (r48.1, r48.2)
  else none
  else
  if (decide ((p2.length : Int) > (IntKind.wrap .i64 (65536 - z18)))) = true then
  some (10, σ)
  else
  p0 >>= fun i56 =>
  (σ.af[i56]?) >>= fun o57 =>
  fP p0 σ >>= fun r58 =>
  if (decide ((p2.length : Int) > (IntKind.wrap .i64 (o57.1 - r58)))) = true then
  some (10, σ)
  else
  (if (((bW .str (.ptr ax) p1 o13.2.1).getD (fF (.ptr ax))).isNone) = true then
  p0 >>= fun i75 =>
  ((σ.ed ([], 0, ())).af[i75]?) >>= fun o76 =>
  some (some σ.ai.length, ((σ.ed ([], 0, ())).aU i75 (o76.1, oQ .str (.ptr ax) p1 (some σ.ai.length) o76.2.1, o76.2.2.1, o76.2.2.2.1, ())))
  else
  some ((bW .str (.ptr ax) p1 o13.2.1).getD (fF (.ptr ax)), σ) : Option ((Option Nat) × St)) >>= fun z64 =>
  z64.1 >>= fun i67 =>
  (z64.2.ai[i67]?) >>= fun o68 =>
  if o68.1.length + p2.length ≤ 9223372036854775807 then
  z64.1 >>= fun i70 =>
  (z64.2.ai[i70]?) >>= fun o71 =>
  f72 p0 f73 (z64.2.aH i70 (o68.1 ++ p2, o71.2.1, ())) >>= fun r73 =>
  some (r73.1, r73.2)
  else none

noncomputable def vJ (p0 : Option Nat) (r7 : List (List UInt8)) (x8 : List Int) (x9 : Int) (σ10 : St) : Option ((List Int) × Int × St) :=
  if (decide (x9 < (r7.length : Int))) = true then
  (ix r7 x9) >>= fun x19 =>
  p0 >>= fun i21 =>
  (σ10.af[i21]?) >>= fun o22 =>
  ((bW .str (.ptr ax) x19 o22.2.1).getD (fF (.ptr ax))) >>= fun i24 =>
  (σ10.ai[i24]?) >>= fun o25 =>
  ((bW .str (.ptr ax) x19 o22.2.1).getD (fF (.ptr ax))) >>= fun i26 =>
  (σ10.ai[i26]?) >>= fun o27 =>
  if ((IntKind.wrap .i64 ((o25.1.length : Int) - o27.2.1)) == 0) = true then
  vJ p0 r7 x8 (IntKind.wrap .i64 (x9 + 1)) σ10
  else
  (if (decide ((x8.length : Int) > 0)) = true then
  (ix x8 0) >>= fun x49 =>
  if (IntKind.wrap .i64 ((IntKind.wrap .i64 ((o25.1.length : Int) - o27.2.1)) + 1)) ≠ 0 then
  if (0 : Int) ≤ 1 ∧ 1 ≤ (x8.length : Int) then
  some (x8.drop (Int.toNat 1), Int.tmod (if 0 > x49 then 0 else x49) (IntKind.wrap .i64 ((IntKind.wrap .i64 ((o25.1.length : Int) - o27.2.1)) + 1)))
  else none
  else none
  else
  some (x8, 0) : Option ((List Int) × Int)) >>= fun z35 =>
  ((bW .str (.ptr ax) x19 o22.2.1).getD (fF (.ptr ax))) >>= fun i38 =>
  (σ10.ai[i38]?) >>= fun o39 =>
  ((bW .str (.ptr ax) x19 o22.2.1).getD (fF (.ptr ax))) >>= fun i40 =>
  (σ10.ai[i40]?) >>= fun o41 =>
  if (0 : Int) ≤ (IntKind.wrap .i64 (o41.2.1 + z35.2)) ∧ (IntKind.wrap .i64 (o41.2.1 + z35.2)) ≤ (o39.1.length : Int) then
  ((bW .str (.ptr ax) x19 o22.2.1).getD (fF (.ptr ax))) >>= fun i43 =>
  (σ10.ai[i43]?) >>= fun o44 =>
  ((bW .str (.ptr ax) x19 o22.2.1).getD (fF (.ptr ax))) >>= fun i45 =>
  ((σ10.aH i43 (o39.1.take (Int.toNat (IntKind.wrap .i64 (o41.2.1 + z35.2))), o44.2.1, ())).ai[i45]?) >>= fun o46 =>
  ((bW .str (.ptr ax) x19 o22.2.1).getD (fF (.ptr ax))) >>= fun i47 =>
  ((σ10.aH i43 (o39.1.take (Int.toNat (IntKind.wrap .i64 (o41.2.1 + z35.2))), o44.2.1, ())).ai[i47]?) >>= fun o48 =>
  vJ p0 r7 z35.1 (IntKind.wrap .i64 (x9 + 1)) ((σ10.aH i43 (o39.1.take (Int.toNat (IntKind.wrap .i64 (o41.2.1 + z35.2))), o44.2.1, ())).aH i47 (o48.1, (o46.1.length : Int), ()))
  else none
  else
  some ((x8, x9, σ10))
  partial_fixpoint

noncomputable def f27 (p0 : Option Nat) (p1 : List Int) (σ : St) : Option (Int × St) :=
  if p0.isNone = true then
  some (1, σ)
  else
  gX p0 σ >>= fun r7 =>
  vJ p0 r7 p1 0 σ >>= fun z52 =>
  p0 >>= fun i55 =>
  (z52.2.2.af[i55]?) >>= fun o56 =>
  p0 >>= fun i57 =>
  ((z52.2.2.aU i55 (o56.1, o56.2.1, o56.2.2.1, false, ())).af[i57]?) >>= fun o58 =>
  some (0, ((z52.2.2.aU i55 (o56.1, o56.2.1, o56.2.2.1, false, ())).aU i57 (o58.1, o58.2.1, 0, o58.2.2.2.1, ())))

noncomputable def f77 (p0 : Option Nat) (p1 : List UInt8) (σ : St) : Option ((Option Nat) × Int) :=
  f70 p0 σ >>= fun r4 =>
  if (r4 != 0) = true then
  some (none, r4)
  else
  p0 >>= fun i8 =>
  (σ.af[i8]?) >>= fun o9 =>
  if (((bW .str (.ptr ax) p1 o9.2.1).getD (fF (.ptr ax))).isNone) = true then
  some (none, 8)
  else
  some ((bW .str (.ptr ax) p1 o9.2.1).getD (fF (.ptr ax)), 0)

noncomputable def f28 (p0 : Option Nat) (p1 : List UInt8) (σ : St) : Option ((List UInt8) × Int) :=
  f77 p0 p1 σ >>= fun r3 =>
  if (r3.2 != 0) = true then
  some ([], r3.2)
  else
  r3.1 >>= fun i8 =>
  (σ.ai[i8]?) >>= fun o9 =>
  some (o9.1, 0)

noncomputable def f31 (p0 : Option Nat) (σ : St) : Option Bool :=
  if (!p0.isNone) = true then
  p0 >>= fun i3 =>
  (σ.af[i3]?) >>= fun o4 =>
  some o4.2.2.2.1
  else
  some false

noncomputable def f78 (c0 : Nat) (σ : St) : Option (Unit × St) :=
  (σ.aG[c0]?) >>= fun o1 =>
  o1.1 >>= fun i2 =>
  (σ.ai[i2]?) >>= fun o3 =>
  o1.1 >>= fun i4 =>
  (σ.ai[i4]?) >>= fun o5 =>
  some ((), (σ.aH i4 (o5.1, (o3.1.length : Int), ())))

noncomputable def f33 (p0 : Option Nat) (p1 : List UInt8) (σ : St) : Option (Int × St) :=
  f77 p0 p1 σ >>= fun r3 =>
  if (r3.2 != 0) = true then
  some (r3.2, ((σ.dY (none, ())).dC σ.aG.length (r3.1, ())))
  else
  f72 p0 (f78 σ.aG.length) ((σ.dY (none, ())).dC σ.aG.length (r3.1, ())) >>= fun r8 =>
  some (r8.1, r8.2)

noncomputable def f79 (c0 : Nat) (c1 : Nat) (σ : St) : Option (Unit × St) :=
  (σ.aG[c0]?) >>= fun o1 =>
  o1.1 >>= fun i2 =>
  (σ.ai[i2]?) >>= fun o3 =>
  (σ.gV[c1]?) >>= fun o4 =>
  if (0 : Int) ≤ o4.1 ∧ o4.1 ≤ (o3.1.length : Int) then
  o1.1 >>= fun i6 =>
  (σ.ai[i6]?) >>= fun o7 =>
  o1.1 >>= fun i8 =>
  (σ.ai[i8]?) >>= fun o9 =>
  o1.1 >>= fun i10 =>
  ((σ.aH i8 (o3.1.take (Int.toNat o4.1), o9.2.1, ())).ai[i10]?) >>= fun o11 =>
  some ((), ((σ.aH i8 (o3.1.take (Int.toNat o4.1), o9.2.1, ())).aH i10 (o11.1, if o4.1 < o7.2.1 then o4.1 else o7.2.1, ())))
  else none

noncomputable def f35 (p0 : Option Nat) (p1 : List UInt8) (p2 : Int) (σ : St) : Option (Int × St) :=
  f77 p0 p1 (σ.bU (p2, ())) >>= fun r3 =>
  if (r3.2 != 0) = true then
  some (r3.2, (((σ.bU (p2, ())).dY (none, ())).dC ((σ.bU (p2, ())).aG.length) (r3.1, ())))
  else
  if (decide (p2 < 0)) = true then
  some (3, (((σ.bU (p2, ())).dY (none, ())).dC ((σ.bU (p2, ())).aG.length) (r3.1, ())))
  else
  r3.1 >>= fun i11 =>
  ((((σ.bU (p2, ())).dY (none, ())).dC ((σ.bU (p2, ())).aG.length) (r3.1, ())).ai[i11]?) >>= fun o12 =>
  if (decide (p2 > (o12.1.length : Int))) = true then
  some (3, (((σ.bU (p2, ())).dY (none, ())).dC ((σ.bU (p2, ())).aG.length) (r3.1, ())))
  else
  f72 p0 (f79 ((σ.bU (p2, ())).aG.length) σ.gV.length) (((σ.bU (p2, ())).dY (none, ())).dC ((σ.bU (p2, ())).aG.length) (r3.1, ())) >>= fun r15 =>
  some (r15.1, r15.2)

noncomputable def f81 (c0 : Nat) (c1 : Nat) (σ : St) : Option (Unit × St) :=
  (σ.mi[c0]?) >>= fun o1 =>
  o1.1 >>= fun i2 =>
  (σ.af[i2]?) >>= fun o3 =>
  (σ.sV[c1]?) >>= fun o4 =>
  some ((), (σ.aU i2 (o3.1, yX .str (.ptr ax) o4.1 o3.2.1, o3.2.2.1, o3.2.2.2.1, ())))

noncomputable def f37 (p0 : Option Nat) (p1 : List UInt8) (σ : St) : Option (Int × St) :=
  f77 p0 p1 ((σ.Ey (p0, ())).Lc (p1, ())) >>= fun r4 =>
  if (r4.2 != 0) = true then
  some (r4.2, ((σ.Ey (p0, ())).Lc (p1, ())))
  else
  f72 p0 (f81 σ.mi.length ((σ.Ey (p0, ())).sV.length)) ((σ.Ey (p0, ())).Lc (p1, ())) >>= fun r8 =>
  some (r8.1, r8.2)

noncomputable def vK (p0 : List UInt8) (x4 : Int) : Option (Sum Int Bool) :=
  if (decide (x4 < (p0.length : Int))) = true then
  if (0 : Int) ≤ x4 ∧ x4 < (p0.length : Int) then
  if (decide ((btS p0 x4) < 97)) = true then
  some (.inr false)
  else
  if (0 : Int) ≤ x4 ∧ x4 < (p0.length : Int) then
  if (decide ((btS p0 x4) > 122)) = true then
  some (.inr false)
  else
  vK p0 (IntKind.wrap .i64 (x4 + 1))
  else none
  else none
  else
  some (.inl x4)
  partial_fixpoint

noncomputable def f95 (p0 : List UInt8) : Option Bool :=
  vK p0 0 >>= fun rr19 => (match rr19 with
  | .inr yy => some yy
  | .inl z18 =>
  some ((decide ((p0.length : Int) ≥ 1)) && (decide ((p0.length : Int) ≤ 8))))

noncomputable def f97 (p0 : Option Nat) (σ : St) : Option (Option Nat) :=
  p0 >>= fun i4 =>
  (σ.aj[i4]?) >>= fun o5 =>
  if ((o5.2.2.2.1.length : Int) == 0) = true then
  some none
  else
  (ix o5.2.2.2.1 (IntKind.wrap .i64 ((o5.2.2.2.1.length : Int) - 1))) >>= fun x8 =>
  some x8

noncomputable def f55 (p0 : Option Nat) (σ : St) : Option Int :=
  if p0.isNone = true then
  some 0
  else
  p0 >>= fun i5 =>
  (σ.aj[i5]?) >>= fun o6 =>
  if ((o6.2.2.2.1.length : Int) == 0) = true then
  some 0
  else
  f97 p0 σ >>= fun r9 =>
  r9 >>= fun i11 =>
  (σ.ae[i11]?) >>= fun o12 =>
  some (IntKind.wrap .i64 (o12.1 + (o12.2.1.length : Int)))

noncomputable def f98 (p0 : Option Nat) (p1 : Option Nat) (σ : St) : Option (List UInt8) :=
  p0 >>= fun i3 =>
  (σ.aj[i3]?) >>= fun o4 =>
  if o4.2.1.length + [46].length ≤ 9223372036854775807 then
  p1 >>= fun i6 =>
  (σ.ae[i6]?) >>= fun o7 =>
  nZ o7.1 >>= fun r8 =>
  if (o4.2.1 ++ [46]).length + r8.length ≤ 9223372036854775807 then
  some ((o4.2.1 ++ [46]) ++ r8)
  else none
  else none

noncomputable def f61 (p0 : Option Nat) (σ : St) : Option (Int × St) :=
  if p0.isNone = true then
  some (1, σ)
  else
  f97 p0 σ >>= fun r7 =>
  if (!r7.isNone) = true then
  p0 >>= fun i10 =>
  (σ.aj[i10]?) >>= fun o11 =>
  f98 p0 r7 σ >>= fun r12 =>
  f33 o11.1 r12 σ >>= fun r13 =>
  if (r13.1 != 0) = true then
  some (r13.1, r13.2)
  else
  f55 p0 r13.2 >>= fun r17 =>
  (r13.2.aj[i10]?) >>= fun o18 =>
  some (0, (r13.2.bg i10 (o18.1, o18.2.1, o18.2.2.1, o18.2.2.2.1, r17, ())))
  else
  f55 p0 σ >>= fun r21 =>
  p0 >>= fun i22 =>
  (σ.aj[i22]?) >>= fun o23 =>
  some (0, (σ.bg i22 (o23.1, o23.2.1, o23.2.2.1, o23.2.2.2.1, r21, ())))

noncomputable def f110 (p0 : Int) : Option (List UInt8) :=
  some (bQ [IntKind.wrap .u8 (p0), IntKind.wrap .u8 (Int.fdiv p0 (2 ^ 8)), IntKind.wrap .u8 (Int.fdiv p0 (2 ^ 16)), IntKind.wrap .u8 (Int.fdiv p0 (2 ^ 24))])

noncomputable def qE  (x5 : Int) (x6 : Int) : Option (Int × Int) :=
  if (decide (x6 < 8)) = true then
  if ((IntKind.wrap .u32 ((BitVec.ofInt (IntKind.bits .u32) x5 &&& BitVec.ofInt (IntKind.bits .u32) 1).toNat)) == 1) = true then
  qE (IntKind.wrap .u32 ((BitVec.ofInt (IntKind.bits .u32) (Int.fdiv x5 (2 ^ 1)) ^^^ BitVec.ofInt (IntKind.bits .u32) 2197175160).toNat)) (IntKind.wrap .i64 (x6 + 1))
  else
  qE (Int.fdiv x5 (2 ^ 1)) (IntKind.wrap .i64 (x6 + 1))
  else
  some ((x5, x6))
  partial_fixpoint

noncomputable def f151 (p0 : Int) (p1 : Int) : Option Int :=
  qE  (IntKind.wrap .u32 ((BitVec.ofInt (IntKind.bits .u32) p0 ^^^ BitVec.ofInt (IntKind.bits .u32) (IntKind.wrap .u32 (p1))).toNat)) 0 >>= fun z17 =>
  some z17.1

noncomputable def wo (p1 : List UInt8) (x5 : Int) (x6 : Int) : Option (Int × Int) :=
  if (decide (x6 < (p1.length : Int))) = true then
  if (0 : Int) ≤ x6 ∧ x6 < (p1.length : Int) then
  f151 x5 (btS p1 x6) >>= fun r16 =>
  wo p1 r16 (IntKind.wrap .i64 (x6 + 1))
  else none
  else
  some ((x5, x6))
  partial_fixpoint

noncomputable def f138 (p0 : Int) (p1 : List UInt8) : Option Int :=
  wo p1 (IntKind.wrap .u32 ((BitVec.ofInt (IntKind.bits .u32) (if IntKind.signed .u32 = true then -1 else IntKind.max .u32) ^^^ BitVec.ofInt (IntKind.bits .u32) p0).toNat)) 0 >>= fun z17 =>
  some (IntKind.wrap .u32 ((BitVec.ofInt (IntKind.bits .u32) (if IntKind.signed .u32 = true then -1 else IntKind.max .u32) ^^^ BitVec.ofInt (IntKind.bits .u32) z17.1).toNat))

noncomputable def f111 (p0 : List UInt8) : Option Int :=
  f138 0 p0 >>= fun r3 =>
  some r3

noncomputable def f108 (p0 : List UInt8) : Option ((List UInt8) × Int) :=
  if (decide ((IntKind.wrap .i64 ((p0.length : Int) - 4)) < 0)) = true then
  some ([], 5)
  else
  if (0 : Int) ≤ (IntKind.wrap .i64 ((p0.length : Int) - 4)) ∧ (IntKind.wrap .i64 ((p0.length : Int) - 4)) ≤ (p0.length : Int) then
  f111 (p0.take (Int.toNat (IntKind.wrap .i64 ((p0.length : Int) - 4)))) >>= fun r8 =>
  f110 r8 >>= fun r9 =>
  if (0 : Int) ≤ (IntKind.wrap .i64 ((p0.length : Int) - 4)) ∧ (IntKind.wrap .i64 ((p0.length : Int) - 4)) ≤ (p0.length : Int) then
  if (!(r9 == (p0.drop (Int.toNat (IntKind.wrap .i64 ((p0.length : Int) - 4)))))) = true then
  some ([], 7)
  else
  if (0 : Int) ≤ (IntKind.wrap .i64 ((p0.length : Int) - 4)) ∧ (IntKind.wrap .i64 ((p0.length : Int) - 4)) ≤ (p0.length : Int) then
  some (p0.take (Int.toNat (IntKind.wrap .i64 ((p0.length : Int) - 4))), 0)
  else none
  else none
  else none

noncomputable def oZ (p0 : List UInt8) (p1 : Int) (x8 : Int) (x9 : Int) : Option (Sum (Int × Int) (Int × Int × Int)) :=
  if (decide ((IntKind.wrap .i64 (p1 + x9)) < (p0.length : Int))) = true then
  if (0 : Int) ≤ (IntKind.wrap .i64 (p1 + x9)) ∧ (IntKind.wrap .i64 (p1 + x9)) < (p0.length : Int) then
  if ((x9 == 9) && (decide ((btS p0 (IntKind.wrap .i64 (p1 + x9))) > 1))) = true then
  some (.inr (0, 0, 6))
  else
  if (0 : Int) ≤ (IntKind.wrap .i64 (7 * x9)) then
  if (decide ((btS p0 (IntKind.wrap .i64 (p1 + x9))) ≥ 128)) = true then
  oZ p0 p1 (IntKind.wrap .u64 ((BitVec.ofInt (IntKind.bits .u64) x8 ||| BitVec.ofInt (IntKind.bits .u64) (IntKind.wrap .u64 ((IntKind.wrap .u64 (IntKind.wrap .u8 ((BitVec.ofInt (IntKind.bits .u8) (btS p0 (IntKind.wrap .i64 (p1 + x9))) &&& BitVec.ofInt (IntKind.bits .u8) 127).toNat))) * 2 ^ (min (Int.toNat (IntKind.wrap .i64 (7 * x9))) (IntKind.bits .u64))))).toNat)) (IntKind.wrap .i64 (x9 + 1))
  else
  if (((btS p0 (IntKind.wrap .i64 (p1 + x9))) == 0) && (decide (x9 > 0))) = true then
  some (.inr (0, 0, 6))
  else
  (if ((IntKind.wrap .u64 ((BitVec.ofInt (IntKind.bits .u64) (IntKind.wrap .u64 ((BitVec.ofInt (IntKind.bits .u64) x8 ||| BitVec.ofInt (IntKind.bits .u64) (IntKind.wrap .u64 ((IntKind.wrap .u64 (IntKind.wrap .u8 ((BitVec.ofInt (IntKind.bits .u8) (btS p0 (IntKind.wrap .i64 (p1 + x9))) &&& BitVec.ofInt (IntKind.bits .u8) 127).toNat))) * 2 ^ (min (Int.toNat (IntKind.wrap .i64 (7 * x9))) (IntKind.bits .u64))))).toNat)) &&& BitVec.ofInt (IntKind.bits .u64) 1).toNat)) == 1) = true then
  some (IntKind.wrap .i64 ((BitVec.ofInt (IntKind.bits .i64) (if IntKind.signed .i64 = true then -1 else IntKind.max .i64) ^^^ BitVec.ofInt (IntKind.bits .i64) (IntKind.wrap .i64 (Int.fdiv (IntKind.wrap .u64 ((BitVec.ofInt (IntKind.bits .u64) x8 ||| BitVec.ofInt (IntKind.bits .u64) (IntKind.wrap .u64 ((IntKind.wrap .u64 (IntKind.wrap .u8 ((BitVec.ofInt (IntKind.bits .u8) (btS p0 (IntKind.wrap .i64 (p1 + x9))) &&& BitVec.ofInt (IntKind.bits .u8) 127).toNat))) * 2 ^ (min (Int.toNat (IntKind.wrap .i64 (7 * x9))) (IntKind.bits .u64))))).toNat)) (2 ^ 1)))).toNat))
  else
  some (IntKind.wrap .i64 (Int.fdiv (IntKind.wrap .u64 ((BitVec.ofInt (IntKind.bits .u64) x8 ||| BitVec.ofInt (IntKind.bits .u64) (IntKind.wrap .u64 ((IntKind.wrap .u64 (IntKind.wrap .u8 ((BitVec.ofInt (IntKind.bits .u8) (btS p0 (IntKind.wrap .i64 (p1 + x9))) &&& BitVec.ofInt (IntKind.bits .u8) 127).toNat))) * 2 ^ (min (Int.toNat (IntKind.wrap .i64 (7 * x9))) (IntKind.bits .u64))))).toNat)) (2 ^ 1))) : Option Int) >>= fun z33 =>
  some (.inr (z33, IntKind.wrap .i64 ((IntKind.wrap .i64 (p1 + x9)) + 1), 0))
  else none
  else none
  else
  some (.inl (x8, x9))
  partial_fixpoint

noncomputable def f113 (p0 : List UInt8) (p1 : Int) : Option (Int × Int × Int) :=
  if ((decide (p1 < 0)) || (decide (p1 > (p0.length : Int)))) = true then
  some (0, 0, 3)
  else
  oZ p0 p1 0 0 >>= fun rr37 => (match rr37 with
  | .inr yy => some yy
  | .inl z36 =>
  some (0, 0, 5))

noncomputable def Bq  (y12 : jQ.den) (x13 : Int) (x14 : Int) : Option (jQ.den × Int × Int) :=
  if (decide (x13 ≥ 128)) = true then
  if (0 : Int) ≤ x14 ∧ x14 < (10 : Nat) then
  Bq (y5 jQ y12 (Int.toNat x14) (IntKind.wrap .u8 ((BitVec.ofInt (IntKind.bits .u8) (IntKind.wrap .u8 (x13)) ||| BitVec.ofInt (IntKind.bits .u8) 128).toNat))) (Int.fdiv x13 (2 ^ 7)) (IntKind.wrap .i64 (x14 + 1))
  else none
  else
  some ((y12, x13, x14))
  partial_fixpoint

noncomputable def f90 (p0 : Int) : Option (List UInt8) :=
  (if (decide (p0 < 0)) = true then
  some (IntKind.wrap .u64 ((BitVec.ofInt (IntKind.bits .u64) (if IntKind.signed .u64 = true then -1 else IntKind.max .u64) ^^^ BitVec.ofInt (IntKind.bits .u64) (IntKind.wrap .u64 ((IntKind.wrap .u64 (p0)) * 2 ^ 1))).toNat))
  else
  some (IntKind.wrap .u64 ((IntKind.wrap .u64 (p0)) * 2 ^ 1)) : Option Int) >>= fun z6 =>
  Bq  (0, 0, 0, 0, 0, 0, 0, 0, 0, 0, ()) z6 0 >>= fun z24 =>
  if (0 : Int) ≤ z24.2.2 ∧ z24.2.2 < (10 : Nat) then
  if (0 : Int) ≤ (IntKind.wrap .i64 (z24.2.2 + 1)) ∧ (IntKind.wrap .i64 (z24.2.2 + 1)) ≤ (10 : Nat) then
  some (bQ ((Ac jQ (y5 jQ z24.1 (Int.toNat z24.2.2) (IntKind.wrap .u8 (z24.2.1)))).take (Int.toNat (IntKind.wrap .i64 (z24.2.2 + 1)))))
  else none
  else none

noncomputable def f94 (p0 : List UInt8) (p1 : Int) (p2 : Int) : Option ((List UInt8) × Int × Bool) :=
  f113 p0 p1 >>= fun r3 =>
  if (((r3.2.2 != 0) || (decide (r3.1 < 0))) || (decide (r3.1 > (IntKind.wrap .i64 ((p0.length : Int) - r3.2.1))))) = true then
  some ([], 0, false)
  else
  if (0 : Int) ≤ r3.2.1 ∧ r3.2.1 ≤ (IntKind.wrap .i64 (r3.2.1 + r3.1)) ∧ (IntKind.wrap .i64 (r3.2.1 + r3.1)) ≤ (p0.length : Int) then
  f108 ((p0.take (Int.toNat (IntKind.wrap .i64 (r3.2.1 + r3.1)))).drop (Int.toNat r3.2.1)) >>= fun r9 =>
  if (r9.2 != 0) = true then
  some ([], 0, false)
  else
  f90 p2 >>= fun r14 =>
  if (decide ((r9.1.length : Int) < (r14.length : Int))) = true then
  some ([], 0, false)
  else
  if (0 : Int) ≤ (r14.length : Int) ∧ (r14.length : Int) ≤ (r9.1.length : Int) then
  if ((!((r9.1.take (Int.toNat (r14.length : Int))) == r14)) || (decide ((IntKind.wrap .i64 ((r9.1.length : Int) - (r14.length : Int))) > 1024))) = true then
  some ([], 0, false)
  else
  if (0 : Int) ≤ (r14.length : Int) ∧ (r14.length : Int) ≤ (r9.1.length : Int) then
  some (r9.1.drop (Int.toNat (r14.length : Int)), IntKind.wrap .i64 (r3.2.1 + r3.1), true)
  else none
  else none
  else none

noncomputable def zM (p0 : List UInt8) (p1 : Int) (l7 : List (List UInt8)) (x8 : Int) : Option ((List (List UInt8)) × Int) :=
  if (decide (p1 ≥ 0)) = true then
  f94 p0 x8 (IntKind.wrap .i64 (p1 + (l7.length : Int))) >>= fun r16 =>
  if (!r16.2.2) = true then
  some ((l7, x8))
  else
  if (l7.length + 1) * 16 ≤ 140737488355328 then
  zM p0 p1 (l7 ++ [r16.1]) r16.2.1
  else none
  else
  some ((l7, x8))
  partial_fixpoint

noncomputable def f49 (p0 : List UInt8) (p1 : Int) : Option ((List (List UInt8)) × Int) :=
  zM p0 p1 [] 0 >>= fun z22 =>
  some (z22.1, z22.2)

noncomputable def f115 (p0 : Option Nat) (p1 : Int) (σ : St) : Option (((Option Nat) × Int × Int) × St) :=
  p0 >>= fun i4 =>
  ((σ.az (p1, [], 0, ())).aj[i4]?) >>= fun o5 =>
  f98 p0 (some σ.ae.length) (σ.az (p1, [], 0, ())) >>= fun r6 =>
  f28 o5.1 r6 (σ.az (p1, [], 0, ())) >>= fun r7 =>
  if (r7.2 != 0) = true then
  some ((none, 0, r7.2), (σ.az (p1, [], 0, ())))
  else
  f49 r7.1 p1 >>= fun r12 =>
  some ((some σ.ae.length, IntKind.wrap .i64 ((r7.1.length : Int) - r12.2), 0), (((σ.az (p1, [], 0, ())).ay σ.ae.length (p1, r12.1, 0, ())).ay σ.ae.length (p1, r12.1, r12.2, ())))

noncomputable def qY (p0 : Option Nat) (r3 : List Int) (x7 : Int) (x8 : Int) (x9 : Int) (σ10 : St) : Option (Sum (Int × Int × Int × St) (Int × St)) :=
  if (decide (x9 < (r3.length : Int))) = true then
  (ix r3 x9) >>= fun x19 =>
  if (decide (x9 > 0)) = true then
  if (decide (x7 > 0)) = true then
  some (.inl (x7, x8, x9, σ10))
  else
  f55 p0 σ10 >>= fun r22 =>
  if (x19 != r22) = true then
  some (.inl (x7, x8, x9, σ10))
  else
  f115 p0 x19 σ10 >>= fun r24 =>
  if (r24.1.2.2 != 0) = true then
  some (.inr (r24.1.2.2, r24.2))
  else
  p0 >>= fun i29 =>
  (r24.2.aj[i29]?) >>= fun o30 =>
  if (o30.2.2.2.1.length + 1) * 8 ≤ 140737488355328 then
  qY p0 r3 r24.1.2.1 (IntKind.wrap .i64 (x9 + 1)) (IntKind.wrap .i64 (x9 + 1)) (r24.2.bg i29 (o30.1, o30.2.1, o30.2.2.1, o30.2.2.2.1 ++ [r24.1.1], o30.2.2.2.2.1, ()))
  else none
  else
  f115 p0 x19 σ10 >>= fun r35 =>
  if (r35.1.2.2 != 0) = true then
  some (.inr (r35.1.2.2, r35.2))
  else
  p0 >>= fun i40 =>
  (r35.2.aj[i40]?) >>= fun o41 =>
  if (o41.2.2.2.1.length + 1) * 8 ≤ 140737488355328 then
  qY p0 r3 r35.1.2.1 (IntKind.wrap .i64 (x9 + 1)) (IntKind.wrap .i64 (x9 + 1)) (r35.2.bg i40 (o41.1, o41.2.1, o41.2.2.1, o41.2.2.2.1 ++ [r35.1.1], o41.2.2.2.2.1, ()))
  else none
  else
  some (.inl (x7, x8, x9, σ10))
  partial_fixpoint

noncomputable def Bv (p0 : Option Nat) (r3 : List Int) (z45 : Int × Int × Int × St) (o49 : aA dh) (x52 : Int) (σ53 : St) : Option (Sum (Int × St) (Int × St)) :=
  if (decide (x52 ≥ z45.2.1)) = true then
  (ix r3 x52) >>= fun x62 =>
  f98 p0 (some σ53.ae.length) (σ53.az (x62, [], 0, ())) >>= fun r63 =>
  f37 o49.1 r63 (σ53.az (x62, [], 0, ())) >>= fun r64 =>
  if (r64.1 != 0) = true then
  some (.inr (r64.1, r64.2))
  else
  Bv p0 r3 z45 o49 (IntKind.wrap .i64 (x52 - 1)) r64.2
  else
  some (.inl (x52, σ53))
  partial_fixpoint

noncomputable def f96 (p0 : Option Nat) (σ : St) : Option (Int × St) :=
  jd p0 σ >>= fun r3 =>
  qY p0 r3 0 0 0 σ >>= fun rr46 => (match rr46 with
  | .inr yy => some yy
  | .inl z45 =>
  p0 >>= fun i48 =>
  (z45.2.2.2.aj[i48]?) >>= fun o49 =>
  Bv p0 r3 z45 o49 (IntKind.wrap .i64 ((r3.length : Int) - 1)) z45.2.2.2 >>= fun rr68 => (match rr68 with
  | .inr yy => some yy
  | .inl z67 =>
  if (z45.2.1 == 0) = true then
  some (0, z67.2)
  else
  p0 >>= fun i73 =>
  (z67.2.aj[i73]?) >>= fun o74 =>
  (ix o74.2.2.2.1 (IntKind.wrap .i64 (z45.2.1 - 1))) >>= fun x75 =>
  if (decide (z45.1 > 0)) = true then
  f98 p0 x75 z67.2 >>= fun r79 =>
  x75 >>= fun i80 =>
  (z67.2.ae[i80]?) >>= fun o81 =>
  f35 o74.1 r79 o81.2.2.1 z67.2 >>= fun r82 =>
  if (r82.1 != 0) = true then
  some (r82.1, r82.2)
  else
  f61 p0 r82.2 >>= fun r86 =>
  some (r86.1, r86.2)
  else
  f61 p0 z67.2 >>= fun r88 =>
  some (r88.1, r88.2)))

noncomputable def f53 (p0 : Option Nat) (p1 : List UInt8) (p2 : Int) (σ : St) : Option (((Option Nat) × Int) × St) :=
  if p0.isNone = true then
  some ((none, 1), σ)
  else
  f95 p1 >>= fun r6 =>
  if (((!r6) || (decide (p2 < 64))) || (decide (p2 > 65536))) = true then
  some ((none, 2), σ)
  else
  f31 p0 σ >>= fun r9 =>
  if r9 = true then
  some ((none, 11), σ)
  else
  f96 (some σ.aj.length) (σ.gW (p0, p1, p2, [], 0, ())) >>= fun r15 =>
  if (r15.1 != 0) = true then
  some ((none, r15.1), r15.2)
  else
  some ((some σ.aj.length, 0), r15.2)

noncomputable def f54 (p0 : Option Nat) (σ : St) : Option Int :=
  if p0.isNone = true then
  some 0
  else
  p0 >>= fun i5 =>
  (σ.aj[i5]?) >>= fun o6 =>
  if ((o6.2.2.2.1.length : Int) == 0) = true then
  some 0
  else
  (ix o6.2.2.2.1 0) >>= fun x9 =>
  x9 >>= fun i10 =>
  (σ.ae[i10]?) >>= fun o11 =>
  some o11.1

noncomputable def zN (p0 : Option Nat) (p1 : Int) (σ : St) (x15 : Int) : Option Int :=
  p0 >>= fun i22 =>
  (σ.aj[i22]?) >>= fun o23 =>
  (ix o23.2.2.2.1 x15) >>= fun x24 =>
  x24 >>= fun i25 =>
  (σ.ae[i25]?) >>= fun o26 =>
  if (decide (o26.1 > p1)) = true then
  zN p0 p1 σ (IntKind.wrap .i64 (x15 - 1))
  else
  some (x15)
  partial_fixpoint

noncomputable def f58 (p0 : Option Nat) (p1 : Int) (σ : St) : Option ((List UInt8) × Int) :=
  if p0.isNone = true then
  some ([], 1)
  else
  f54 p0 σ >>= fun r6 =>
  if (decide (p1 < r6)) = true then
  some ([], 13)
  else
  f55 p0 σ >>= fun r9 =>
  if (decide (p1 ≥ r9)) = true then
  some ([], 8)
  else
  p0 >>= fun i12 =>
  (σ.aj[i12]?) >>= fun o13 =>
  zN p0 p1 σ (IntKind.wrap .i64 ((o13.2.2.2.1.length : Int) - 1)) >>= fun z27 =>
  p0 >>= fun i30 =>
  (σ.aj[i30]?) >>= fun o31 =>
  (ix o31.2.2.2.1 z27) >>= fun x32 =>
  x32 >>= fun i33 =>
  (σ.ae[i33]?) >>= fun o34 =>
  (ix o31.2.2.2.1 z27) >>= fun x35 =>
  x35 >>= fun i36 =>
  (σ.ae[i36]?) >>= fun o37 =>
  (ix o34.2.1 (IntKind.wrap .i64 (p1 - o37.1))) >>= fun x38 =>
  some (x38, 0)

noncomputable def f89 (p0 : List UInt8) : Option (List UInt8) :=
  f111 p0 >>= fun r3 =>
  f110 r3 >>= fun r4 =>
  if p0.length + r4.length ≤ 9223372036854775807 then
  some (p0 ++ r4)
  else none

noncomputable def f99 (p0 : Int) (p1 : List UInt8) : Option (List UInt8) :=
  f90 p0 >>= fun r3 =>
  if r3.length + p1.length ≤ 9223372036854775807 then
  f89 (r3 ++ p1) >>= fun r5 =>
  f90 (r5.length : Int) >>= fun r7 =>
  if r7.length + r5.length ≤ 9223372036854775807 then
  some (r7 ++ r5)
  else none
  else none

noncomputable def f59 (p0 : Option Nat) (p1 : List UInt8) (σ : St) : Option ((Int × Int) × St) :=
  if p0.isNone = true then
  some ((0, 1), σ)
  else
  if (decide ((p1.length : Int) > 1024)) = true then
  some ((0, 4), σ)
  else
  f55 p0 σ >>= fun r8 =>
  f97 p0 σ >>= fun r10 =>
  if r10.isNone = true then
  f61 p0 σ >>= fun r17 =>
  if (r17.1 != 0) = true then
  some ((0, r17.1), r17.2)
  else
  f99 r8 p1 >>= fun r21 =>
  p0 >>= fun i24 =>
  ((r17.2.az (r8, [], 0, ())).aj[i24]?) >>= fun o25 =>
  f98 p0 (some r17.2.ae.length) (r17.2.az (r8, [], 0, ())) >>= fun r26 =>
  f24 o25.1 r26 r21 (r17.2.az (r8, [], 0, ())) >>= fun r27 =>
  if (r27.1 != 0) = true then
  some ((0, r27.1), r27.2)
  else
  (r27.2.ae[r17.2.ae.length]?) >>= fun o31 =>
  if (o31.2.1.length + 1) * 16 ≤ 140737488355328 then
  (((r27.2.ay r17.2.ae.length (o31.1, o31.2.1 ++ [p1], o31.2.2.1, ())).ay r17.2.ae.length (o31.1, (o31.2.1 ++ [p1]), IntKind.wrap .i64 (o31.2.2.1 + (r21.length : Int)), ())).aj[i24]?) >>= fun o38 =>
  if (o38.2.2.2.1.length + 1) * 8 ≤ 140737488355328 then
  some ((r8, 0), (((r27.2.ay r17.2.ae.length (o31.1, o31.2.1 ++ [p1], o31.2.2.1, ())).ay r17.2.ae.length (o31.1, (o31.2.1 ++ [p1]), IntKind.wrap .i64 (o31.2.2.1 + (r21.length : Int)), ())).bg i24 (o38.1, o38.2.1, o38.2.2.1, o38.2.2.2.1 ++ [some r17.2.ae.length], o38.2.2.2.2.1, ())))
  else none
  else none
  else
  r10 >>= fun i44 =>
  (σ.ae[i44]?) >>= fun o45 =>
  p0 >>= fun i46 =>
  (σ.aj[i46]?) >>= fun o47 =>
  if (decide (o45.2.2.1 ≥ o47.2.2.1)) = true then
  f61 p0 σ >>= fun r52 =>
  if (r52.1 != 0) = true then
  some ((0, r52.1), r52.2)
  else
  f99 r8 p1 >>= fun r56 =>
  ((r52.2.az (r8, [], 0, ())).aj[i46]?) >>= fun o59 =>
  f98 p0 (some r52.2.ae.length) (r52.2.az (r8, [], 0, ())) >>= fun r60 =>
  f24 o59.1 r60 r56 (r52.2.az (r8, [], 0, ())) >>= fun r61 =>
  if (r61.1 != 0) = true then
  some ((0, r61.1), r61.2)
  else
  (r61.2.ae[r52.2.ae.length]?) >>= fun o65 =>
  if (o65.2.1.length + 1) * 16 ≤ 140737488355328 then
  (if (decide (o45.2.2.1 ≥ o47.2.2.1)) = true then
  (((r61.2.ay r52.2.ae.length (o65.1, o65.2.1 ++ [p1], o65.2.2.1, ())).ay r52.2.ae.length (o65.1, (o65.2.1 ++ [p1]), IntKind.wrap .i64 (o65.2.2.1 + (r56.length : Int)), ())).aj[i46]?) >>= fun o76 =>
  if (o76.2.2.2.1.length + 1) * 8 ≤ 140737488355328 then
  some (((r61.2.ay r52.2.ae.length (o65.1, o65.2.1 ++ [p1], o65.2.2.1, ())).ay r52.2.ae.length (o65.1, (o65.2.1 ++ [p1]), IntKind.wrap .i64 (o65.2.2.1 + (r56.length : Int)), ())).bg i46 (o76.1, o76.2.1, o76.2.2.1, o76.2.2.2.1 ++ [some r52.2.ae.length], o76.2.2.2.2.1, ()))
  else none
  else
  some ((r61.2.ay r52.2.ae.length (o65.1, o65.2.1 ++ [p1], o65.2.2.1, ())).ay r52.2.ae.length (o65.1, (o65.2.1 ++ [p1]), IntKind.wrap .i64 (o65.2.2.1 + (r56.length : Int)), ())) : Option St) >>= fun z73 =>
  some ((r8, 0), z73)
  else none
  else
  f99 r8 p1 >>= fun r81 =>
  f98 p0 r10 σ >>= fun r84 =>
  f24 o47.1 r84 r81 σ >>= fun r85 =>
  if (r85.1 != 0) = true then
  some ((0, r85.1), r85.2)
  else
  (r85.2.ae[i44]?) >>= fun o89 =>
  if (o89.2.1.length + 1) * 16 ≤ 140737488355328 then
  (if (decide (o45.2.2.1 ≥ o47.2.2.1)) = true then
  (((r85.2.ay i44 (o89.1, o89.2.1 ++ [p1], o89.2.2.1, ())).ay i44 (o89.1, (o89.2.1 ++ [p1]), IntKind.wrap .i64 (o89.2.2.1 + (r81.length : Int)), ())).aj[i46]?) >>= fun o100 =>
  if (o100.2.2.2.1.length + 1) * 8 ≤ 140737488355328 then
  some (((r85.2.ay i44 (o89.1, o89.2.1 ++ [p1], o89.2.2.1, ())).ay i44 (o89.1, (o89.2.1 ++ [p1]), IntKind.wrap .i64 (o89.2.2.1 + (r81.length : Int)), ())).bg i46 (o100.1, o100.2.1, o100.2.2.1, o100.2.2.2.1 ++ [r10], o100.2.2.2.2.1, ()))
  else none
  else
  some ((r85.2.ay i44 (o89.1, o89.2.1 ++ [p1], o89.2.2.1, ())).ay i44 (o89.1, (o89.2.1 ++ [p1]), IntKind.wrap .i64 (o89.2.2.1 + (r81.length : Int)), ())) : Option St) >>= fun z97 =>
  some ((r8, 0), z97)
  else none

end Go.Proofs.YtbnmhjobnepajaaGreat.M

