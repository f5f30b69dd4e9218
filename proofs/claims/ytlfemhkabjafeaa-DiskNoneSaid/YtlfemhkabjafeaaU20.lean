/- The walk of (*Disk).Used: a range over the map of files. -/
import Derived.Test.YtlfemhkabjafeaaP0
import Derived.Test.YtlfemhkabjafeaaProg
set_option linter.unusedVariables false
set_option maxRecDepth 100000
namespace Go.Proofs.Ytlfemhkabjafeaa.M
open Go.Proofs (Try.prog Try.func20 Try.f20)

theorem Gone.len {kk kv : Kd} {es : List MapEntry} {m done : List (kk.den × kv.den)} {seen : List Nat} (h : Gone es m seen done) : seen.length ≤ es.length := by
  obtain ⟨is, h1, rfl, rfl, h4⟩ := h
  rw [List.length_map]
  have := List.Nodup.length_le_of_subset h1 (l₂ := List.range es.length) (fun i hi => by simpa using h4 i hi)
  simpa using this

theorem wrap_wrap (x y : Int) : IntKind.wrap .i64 (IntKind.wrap .i64 x + y) = IntKind.wrap .i64 (x + y) := by
  rw [IntKind.wrap_i64, IntKind.wrap_i64, IntKind.wrap_i64]; omega

/-- The bytes of files: together. -/
def usedS : List (List UInt8 × Option Nat) → St → Option Nat
  | [], _ => some 0
  | (_, v) :: r, σ => v >>= fun i => σ.t108[i]? >>= fun o => usedS r σ >>= fun n => some (o.1.length + n)

theorem usedS_cons {p : List UInt8 × Option Nat} {r : List (List UInt8 × Option Nat)} {σ : St} {n : Nat} : usedS (p :: r) σ = some n ↔ ∃ i o q, p.2 = some i ∧ σ.t108[i]? = some o ∧ usedS r σ = some q ∧ n = o.1.length + q := by
  obtain ⟨k, v⟩ := p
  constructor
  · intro h
    obtain ⟨i, hi, h⟩ := bs h
    obtain ⟨o, ho, h⟩ := bs h
    obtain ⟨q, hq, h⟩ := bs h
    simp only [Option.some.injEq] at h
    exact ⟨i, o, q, hi, ho, hq, h.symm⟩
  · rintro ⟨i, o, q, h1, h2, h3, rfl⟩
    simp only at h1
    simp [usedS, h1, h2, h3]

theorem usedS_perm {σ : St} {l l' : List (List UInt8 × Option Nat)} (h : l.Perm l') : ∀ {n : Nat}, usedS l σ = some n → usedS l' σ = some n := by
  induction h with
  | nil => exact fun h => h
  | cons p _ ih =>
    intro n hn
    obtain ⟨i, o, q, h1, h2, h3, rfl⟩ := usedS_cons.1 hn
    exact usedS_cons.2 ⟨i, o, q, h1, h2, ih h3, rfl⟩
  | swap p q r =>
    intro n hn
    obtain ⟨i, o, n1, h1, h2, h3, rfl⟩ := usedS_cons.1 hn
    obtain ⟨j, u, n2, k1, k2, k3, rfl⟩ := usedS_cons.1 h3
    exact usedS_cons.2 ⟨j, u, _, k1, k2, usedS_cons.2 ⟨i, o, _, h1, h2, k3, rfl⟩, by omega⟩
  | trans _ _ ih1 ih2 => exact fun hn => ih2 (ih1 hn)

theorem usedS_snoc {σ : St} {p : List UInt8 × Option Nat} {i : Nat} {o : denFs fs108} (h1 : p.2 = some i) (h2 : σ.t108[i]? = some o) : ∀ {l : List (List UInt8 × Option Nat)} {n : Nat}, usedS l σ = some n → usedS (l ++ [p]) σ = some (n + o.1.length) := by
  intro l n h
  refine usedS_perm (List.perm_append_comm (l₁ := [p]) (l₂ := l)) ?_
  exact usedS_cons.2 ⟨i, o, n, h1, h2, h, by omega⟩

theorem usedS_mem {σ : St} {p : List UInt8 × Option Nat} : ∀ {l : List (List UInt8 × Option Nat)} {n : Nat}, usedS l σ = some n → p ∈ l → ∃ i o, p.2 = some i ∧ σ.t108[i]? = some o
  | q :: l, n, h, hp => by
    obtain ⟨i, o, q', h1, h2, h3, rfl⟩ := usedS_cons.1 h
    rcases List.mem_cons.1 hp with rfl | hp
    · exact ⟨i, o, h1, h2⟩
    · exact usedS_mem h3 hp

def f20 (p0 : Option Nat) (σ : St) : Option Int :=
  if p0.isNone = true then some 0 else
  p0 >>= fun i => (σ.t105[i]?) >>= fun o => usedS o.2.1 σ >>= fun n => some (IntKind.wrap .i64 n)

theorem f20_ok {p0 : Option Nat} {σ : St} {p : Int} (h : f20 p0 σ = some p) : Spec Try.prog 20 [.kv (.ptr 105) p0] (tabs σ) (.kv .i p) (tabs σ) := by
  refine Spec.intro Try.func20 (by kernel_rfl) rfl (by kernel_rfl) (fun a w G0 Ls hE hH hN => ?_)
  have hle : G0.le G0 := Gh.le_refl G0
  unfold f20 at h
  refine wp_seq_k (fun K hK1 => ?_)
  refine wp_region_from ?_
  refine segO 1 [] [(2, .kv .i 0)] (Os := []) trivial hE hH (by kernel_rfl) (fun a hE => ?_)
  refine wpFrom_end (by kernel_rfl) ?_
  refine Exit.then_normal (hK1 _ _ ?_)
  refine wp_seq_k (fun K hK2 => ?_)
  refine wp_region_from ?_
  refine segO 1 [] [(3, .kv .i 0)] (Os := []) trivial hE hH (by kernel_rfl) (fun a hE => ?_)
  refine wpFrom_end (by kernel_rfl) ?_
  refine Exit.then_normal (hK2 _ _ ?_)
  refine wp_seq_k (fun K hK3 => ?_)
  refine wp_seq_k (fun K hK4 => ?_)
  refine wp_region_from ?_
  refine segO 2 [] [(7, .kv .bool p0.isNone)] (Os := []) trivial hE hH (by kernel_rfl) (fun a hE => ?_)
  refine wpFrom_end (by kernel_rfl) ?_
  refine Exit.then_normal (hK4 _ _ ?_)
  refine condE (b := p0.isNone) hE (by kernel_rfl) (fun hc => ?_) (fun hc => ?_)
  · replace h := ifT hc h
    refine wp_seq_k (fun K hK5 => ?_)
    refine wp_region_from ?_
    refine segO 2 [] [(2, .kv .i 0)] (Os := []) trivial hE hH (by kernel_rfl) (fun a hE => ?_)
    refine wpFrom_end (by kernel_rfl) ?_
    refine Exit.then_normal (hK5 _ _ ?_)
    refine wp_ret ?_
    refine Exit.then_ret ?_
    cases h
    exact ret1 rfl hE hle hH (by kernel_rfl)
  · replace h := ifF hc h
    refine wp_skip ?_
    refine Exit.then_normal (hK3 _ _ ?_)
    obtain ⟨i, hi, h⟩ := bs h
    obtain ⟨o, ho, h⟩ := bs h
    obtain ⟨n, hn, h⟩ := bs h
    refine wp_seq_k (fun K hK6 => ?_)
    refine wp_seq_k (fun K hK7 => ?_)
    refine wp_region_from ?_
    refine segO 4 [.pt i, .ob fs105 o] [(12, .fm 105 i 1)] (Os := [_, _]) ⟨hi, ob105 ho, trivial⟩ hE hH (by kernel_rfl) (fun a hE => ?_)
    refine stepRange (kk := .str) (kv := .ptr 108) (m := o.2.1) (t := 105) (j := i) (f := 1) (d := some 13) hE hH (by kernel_rfl) (by kernel_rfl) (ob105 ho) rfl (fun r mr es cl a w G hl hE hH hh hr hm => ?_)
    have hle := Gh.le_trans hle hl
    refine wpFrom_end (by kernel_rfl) ?_
    refine Exit.then_normal (hK7 _ _ ?_)
    refine wp_block ?_
    refine loop_intro (fun Q c hQ hc => ?_)
    have key : ∀ (k : Nat) (seen : Array Nat) (done : List (List UInt8 × Option Nat)) (q : Nat), es.toList.length < seen.toList.length + k → Gone (kk := .str) (kv := .ptr 108) es.toList o.2.1 seen.toList done → usedS done σ = some q →
        ∀ (a : Act) (w : World), EnvR G 26 a [(3, .kv .i (IntKind.wrap .i64 q)), (13, .val (.pointer (some ⟨r, 0, none⟩)))] → Holds w G (tabs σ) (.iter r (itO mr cl seen) :: Ls) → w.heap[mr]? = some (.map es cl) →
        (∀ a w seen, EnvR G 26 a [(3, .kv .i (IntKind.wrap .i64 n)), (13, .val (.pointer (some ⟨r, 0, none⟩)))] → Holds w G (tabs σ) (.iter r (itO mr cl seen) :: Ls) → Q (.exit 0) a w) → Rnd Try.prog c Q a w := by
      intro k
      induction k with
      | zero =>
        intro seen done q hk hg
        have := hg.len
        omega
      | succ k ih =>
        intro seen done q hk hg hq a w hE hH hh hx
        refine rnd_step' hc ?_
        refine wp_seq_k (fun K hK8 => ?_)
        refine wp_region_from ?_
        refine stepNext (kk := .str) (kv := .ptr 108) (m := o.2.1) (d := some 14) hE hH hh hm (by kernel_rfl) (by kernel_rfl) (fun hall a w hE hH => ?_) (fun ix e p hix hp hns a w hE hH hh => ?_)
        · refine segO 1 [] [(15, .kv .bool false)] (Os := []) trivial hE hH (by kernel_rfl) (fun a hE => ?_)
          refine wpFrom_end (by kernel_rfl) ?_
          refine Exit.then_normal (hK8 _ _ ?_)
          refine wp_seq_k (fun K hK9 => ?_)
          refine condF hE (by kernel_rfl) rfl ?_
          refine wp_exit ?_
          refine Exit.then_exit ?_
          refine Exit.then_exit ?_
          have hperm := hg.all (by rw [hm.1.length]) hm.2.2 hall
          have := usedS_perm hperm hq
          rw [hn] at this
          cases this
          exact hx _ _ _ (hE.subC (by kernel_rfl)) hH
        · refine segO 1 [] [(15, .kv .bool true)] (Os := []) trivial hE hH (by kernel_rfl) (fun a hE => ?_)
          refine wpFrom_end (by kernel_rfl) ?_
          refine Exit.then_normal (hK8 _ _ ?_)
          refine wp_seq_k (fun K hK9 => ?_)
          refine condT hE (by kernel_rfl) rfl ?_
          refine wp_skip ?_
          refine Exit.then_normal (hK9 _ _ ?_)
          obtain ⟨i2, o2, hi2, ho2⟩ := usedS_mem hn (List.mem_of_getElem? hp)
          refine wp_block ?_
          refine wp_seq_k (fun K hK10 => ?_)
          refine wp_region_from ?_
          refine stepEntry (kk := .str) (kv := .ptr 108) (m := o.2.1) (d := some 16) hE hH hh hm hix hp (by kernel_rfl) (by kernel_rfl) (fun a hE => ?_)
          refine segO 2 [] [(5, .kv (.ptr 108) p.2)] (Os := []) trivial hE hH (by kernel_rfl) (fun a hE => ?_)
          refine wpFrom_end (by kernel_rfl) ?_
          refine Exit.then_normal (hK10 _ _ ?_)
          refine wp_region_from ?_
          refine segO 8 [.pt i2, .ob fs108 o2] [(3, .kv .i (IntKind.wrap .i64 (IntKind.wrap .i64 q + (o2.1.length : Int))))] (Os := [_, _]) ⟨hi2, ob108 ho2, trivial⟩ hE hH (by kernel_rfl) (fun a hE => ?_)
          refine wpFrom_end (by kernel_rfl) ?_
          refine Exit.in_normal ?_
          refine Exit.then_normal ?_
          rw [wrap_wrap] at hE
          refine ih (seen.push e.born) (done ++ [p]) (q + o2.1.length) ?_ ?_ (usedS_snoc hi2 ho2 hq) a w ((hE.re 3 (by kernel_rfl) (e' := .kv .i (IntKind.wrap .i64 ((q + o2.1.length : Nat) : Int))) (congrArg (fun z => En.kv .i (IntKind.wrap .i64 z)) (Int.natCast_add q o2.1.length).symm)).subC (by kernel_rfl)) hH hh hx
          · simp at hk ⊢; omega
          · rw [Array.toList_push]; exact hg.next hix hp hns
    refine key (es.toList.length + 1) #[] [] 0 (by simp) Gone.nil rfl a w (hE.subC (by kernel_rfl)) hH hh (fun a w seen hE hH => ?_)
    rw [hQ]
    have hH := hH.drop (fun _ _ _ => rfl)
    refine Exit.in_eq ?_
    refine Exit.then_normal (hK6 _ _ ?_)
    refine wp_seq_k (fun K hK11 => ?_)
    refine wp_region_from ?_
    refine segO 2 [] [(2, .kv .i (IntKind.wrap .i64 n))] (Os := []) trivial hE hH (by kernel_rfl) (fun a hE => ?_)
    refine wpFrom_end (by kernel_rfl) ?_
    refine Exit.then_normal (hK11 _ _ ?_)
    refine wp_ret ?_
    cases h
    exact ret1 rfl hE hle hH (by kernel_rfl)
end Go.Proofs.Ytlfemhkabjafeaa.M
