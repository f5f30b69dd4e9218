/- Own texts, laid together: PH HU HL PN HF HD PT0 PT1 PT2 CP. -/
import Derived.KernelRfl
import Derived.Shelf.Slices.In.SortNone
import Derived.Shelf.Sort.Plain
import Derived.Sort.KeysCollected
import Derived.Test.YtbnmhjobnepajaaGreatProg
import Derived.Test.YtbnmhjobnepajaaGreatZ1
import Derived.Test.YtbnmhjobnepajaaGreatZ2
import Derived.Test.YtbnmhjobnepajaaGreatZ3
set_option linter.unusedVariables false
set_option linter.unusedSimpArgs false
set_option maxRecDepth 100000
namespace Go.Proofs.YtbnmhjobnepajaaGreat.M
open Go.Proofs
abbrev T_c_t23 : Nat := 100023
abbrev T_c_t27 : Nat := 100027
abbrev T_c_t3 : Nat := 100003
abbrev T_c_t9 : Nat := 100009
abbrev T_c_t91 : Nat := 100091
abbrev T_codec_reader : Nat := 126
abbrev T_disk_Disk : Nat := 67
abbrev T_disk_file : Nat := 93
abbrev T_pending_Queue : Nat := 69
abbrev T_surmiseref25_Queue : Nat := 48
abbrev T_wal_Log : Nat := 77
abbrev T_wal_segment : Nat := 82
abbrev K_t144 : Kd := .pair (.int .u8) (.pair (.int .u8) (.pair (.int .u8) (.pair (.int .u8) (.pair (.int .u8) (.pair (.int .u8) (.pair (.int .u8) (.pair (.int .u8) (.pair (.int .u8) (.pair (.int .u8) (.unit))))))))))
abbrev K_api_Cmd : Kd := .pair .i (.pair .i (.pair .str (.pair .i (.pair (.list .i) (.pair .i (.unit))))))
abbrev K_codec_reader : Kd := .pair .str (.pair .i (.pair .i (.unit)))
abbrev K_api_Verdict : Kd := .pair .i (.pair .i (.unit))
abbrev K_disk_file : Kd := .pair .str (.pair .i (.unit))
abbrev K_surmiselaw25_Act : Kd := .pair .i (.pair .i (.pair K_api_Cmd (.pair (.list K_api_Verdict) (.pair (.list .i) (.unit)))))
abbrev K_surmiseref25_Queue : Kd := .pair .i (.pair (.list K_api_Cmd) (.pair (.list K_api_Verdict) (.unit)))
abbrev fs_surmiseref25_Queue : List Fk := [.p .i, .p (.list K_api_Cmd), .p (.list K_api_Verdict)]
abbrev fs_disk_Disk : List Fk := [.p .i, .omap .str (.ptr T_disk_file), .p .i, .p .bool]
abbrev fs_pending_Queue : List Fk := [.p .i, .p (.ptr T_wal_Log), .own 33 72 K_api_Cmd, .own 58 16 K_api_Verdict]
abbrev fs_wal_Log : List Fk := [.p (.ptr T_disk_Disk), .p .str, .p .i, .own 78 8 (.ptr T_wal_segment), .p .i]
abbrev fs_wal_segment : List Fk := [.p .i, .own 9 16 .str, .p .i]
abbrev fs_disk_file : List Fk := [.p .str, .p .i]
abbrev fs_codec_reader : List Fk := [.p .str, .p .i, .p .i]
abbrev fs_c_t3 : List Fk := [.p .i]
abbrev fs_c_t9 : List Fk := [.p .str]
abbrev fs_c_t23 : List Fk := [.p (.ptr T_disk_Disk)]
abbrev fs_c_t27 : List Fk := [.p (.ptr T_pending_Queue)]
abbrev fs_c_t91 : List Fk := [.p (.ptr T_disk_file)]
structure St where
  t_surmiseref25_Queue : List (denFs fs_surmiseref25_Queue)
  t_disk_Disk : List (denFs fs_disk_Disk)
  t_pending_Queue : List (denFs fs_pending_Queue)
  t_wal_Log : List (denFs fs_wal_Log)
  t_wal_segment : List (denFs fs_wal_segment)
  t_disk_file : List (denFs fs_disk_file)
  t_codec_reader : List (denFs fs_codec_reader)
  t_c_t3 : List (denFs fs_c_t3)
  t_c_t9 : List (denFs fs_c_t9)
  t_c_t23 : List (denFs fs_c_t23)
  t_c_t27 : List (denFs fs_c_t27)
  t_c_t91 : List (denFs fs_c_t91)
noncomputable def St.set_surmiseref25_Queue (σ : St) (ys : List (denFs fs_surmiseref25_Queue)) : St := { σ with t_surmiseref25_Queue := ys }
noncomputable def St.set_disk_Disk (σ : St) (ys : List (denFs fs_disk_Disk)) : St := { σ with t_disk_Disk := ys }
noncomputable def St.set_pending_Queue (σ : St) (ys : List (denFs fs_pending_Queue)) : St := { σ with t_pending_Queue := ys }
noncomputable def St.set_wal_Log (σ : St) (ys : List (denFs fs_wal_Log)) : St := { σ with t_wal_Log := ys }
noncomputable def St.set_wal_segment (σ : St) (ys : List (denFs fs_wal_segment)) : St := { σ with t_wal_segment := ys }
noncomputable def St.set_disk_file (σ : St) (ys : List (denFs fs_disk_file)) : St := { σ with t_disk_file := ys }
noncomputable def St.set_codec_reader (σ : St) (ys : List (denFs fs_codec_reader)) : St := { σ with t_codec_reader := ys }
noncomputable def St.set_c_t3 (σ : St) (ys : List (denFs fs_c_t3)) : St := { σ with t_c_t3 := ys }
noncomputable def St.set_c_t9 (σ : St) (ys : List (denFs fs_c_t9)) : St := { σ with t_c_t9 := ys }
noncomputable def St.set_c_t23 (σ : St) (ys : List (denFs fs_c_t23)) : St := { σ with t_c_t23 := ys }
noncomputable def St.set_c_t27 (σ : St) (ys : List (denFs fs_c_t27)) : St := { σ with t_c_t27 := ys }
noncomputable def St.set_c_t91 (σ : St) (ys : List (denFs fs_c_t91)) : St := { σ with t_c_t91 := ys }
noncomputable def TB : List (TbI St) := [⟨T_surmiseref25_Queue, fs_surmiseref25_Queue, St.t_surmiseref25_Queue, St.set_surmiseref25_Queue⟩, ⟨T_disk_Disk, fs_disk_Disk, St.t_disk_Disk, St.set_disk_Disk⟩, ⟨T_pending_Queue, fs_pending_Queue, St.t_pending_Queue, St.set_pending_Queue⟩, ⟨T_wal_Log, fs_wal_Log, St.t_wal_Log, St.set_wal_Log⟩, ⟨T_wal_segment, fs_wal_segment, St.t_wal_segment, St.set_wal_segment⟩, ⟨T_disk_file, fs_disk_file, St.t_disk_file, St.set_disk_file⟩, ⟨T_codec_reader, fs_codec_reader, St.t_codec_reader, St.set_codec_reader⟩, ⟨T_c_t3, fs_c_t3, St.t_c_t3, St.set_c_t3⟩, ⟨T_c_t9, fs_c_t9, St.t_c_t9, St.set_c_t9⟩, ⟨T_c_t23, fs_c_t23, St.t_c_t23, St.set_c_t23⟩, ⟨T_c_t27, fs_c_t27, St.t_c_t27, St.set_c_t27⟩, ⟨T_c_t91, fs_c_t91, St.t_c_t91, St.set_c_t91⟩]
theorem TB_ok : TbsOK TB := by
  simp only [TbsOK, TB, List.forall_mem_cons, List.not_mem_nil, false_implies, implies_true, and_true]
  refine ⟨?_, ?_, ?_, ?_, ?_, ?_, ?_, ?_, ?_, ?_, ?_, ?_⟩ <;> (intro σ ys; refine ⟨rfl, ?_, ?_, ?_, ?_, ?_, ?_, ?_, ?_, ?_, ?_, ?_, ?_⟩ <;> first | (intro h; rfl) | (intro h; exact absurd rfl h))
noncomputable def KLs : List (Nat × Kd) := [(3, .i), (5, (.int .u8)), (9, .str), (33, K_api_Cmd), (36, K_surmiselaw25_Act), (48, K_surmiseref25_Queue), (58, K_api_Verdict), (78, (.ptr T_wal_segment)), (93, K_disk_file), (126, K_codec_reader), (144, K_t144)]
noncomputable def MLs : List (Nat × Kd × Kd) := [(65, .str, (.ptr T_disk_file))]
theorem ob_disk_Disk {σ : St} {i : Nat} {x : denFs fs_disk_Disk} (h : σ.t_disk_Disk[i]? = some x) : ObAt (tabsB TB σ) T_disk_Disk i fs_disk_Disk x := ⟨_, rfl, h⟩
theorem ob_wal_Log {σ : St} {i : Nat} {x : denFs fs_wal_Log} (h : σ.t_wal_Log[i]? = some x) : ObAt (tabsB TB σ) T_wal_Log i fs_wal_Log x := ⟨_, rfl, h⟩
theorem ob_disk_file {σ : St} {i : Nat} {x : denFs fs_disk_file} (h : σ.t_disk_file[i]? = some x) : ObAt (tabsB TB σ) T_disk_file i fs_disk_file x := ⟨_, rfl, h⟩
end Go.Proofs.YtbnmhjobnepajaaGreat.M


set_option maxRecDepth 100000
namespace Go.Proofs.YtbnmhjobnepajaaGreat.M
open Go.Proofs

theorem Gone.len {kk kv : Kd} {es : List MapEntry} {m done : List (kk.den × kv.den)} {seen : List Nat} (h : Gone es m seen done) : seen.length ≤ es.length := by
  obtain ⟨is, h1, rfl, rfl, h4⟩ := h
  rw [List.length_map]
  have := List.Nodup.length_le_of_subset h1 (l₂ := List.range es.length) (fun i hi => by simpa using h4 i hi)
  simpa using this

theorem wrap_wrap (x y : Int) : IntKind.wrap .i64 (IntKind.wrap .i64 x + y) = IntKind.wrap .i64 (x + y) := by
  rw [IntKind.wrap_i64, IntKind.wrap_i64, IntKind.wrap_i64]; omega

def usedS : List (List UInt8 × Option Nat) → St → Option Nat
  | [], _ => some 0
  | (_, v) :: r, σ => v >>= fun i => σ.t_disk_file[i]? >>= fun o => usedS r σ >>= fun n => some (o.1.length + n)

theorem usedS_cons {p : List UInt8 × Option Nat} {r : List (List UInt8 × Option Nat)} {σ : St} {n : Nat} : usedS (p :: r) σ = some n ↔ ∃ i o q, p.2 = some i ∧ σ.t_disk_file[i]? = some o ∧ usedS r σ = some q ∧ n = o.1.length + q := by
  obtain ⟨k, v⟩ := p
  constructor
  · intro h
    obtain ⟨i, hi, h⟩ := bs h
    obtain ⟨o, ho, h⟩ := bs h
    obtain ⟨q, hq, h⟩ := bs h
    simp only [Option.some.injEq] at h
    exact ⟨i, o, q, hi, ho, hq, h.symm⟩
  · rintro ⟨i, o, q, h1, h2, h3, rfl⟩
    simp only at h1
    simp [usedS, h1, h2, h3]

theorem usedS_perm {σ : St} {l l' : List (List UInt8 × Option Nat)} (h : l.Perm l') : ∀ {n : Nat}, usedS l σ = some n → usedS l' σ = some n := by
  induction h with
  | nil => exact fun h => h
  | cons p _ ih =>
    intro n hn
    obtain ⟨i, o, q, h1, h2, h3, rfl⟩ := usedS_cons.1 hn
    exact usedS_cons.2 ⟨i, o, q, h1, h2, ih h3, rfl⟩
  | swap p q r =>
    intro n hn
    obtain ⟨i, o, n1, h1, h2, h3, rfl⟩ := usedS_cons.1 hn
    obtain ⟨j, u, n2, k1, k2, k3, rfl⟩ := usedS_cons.1 h3
    exact usedS_cons.2 ⟨j, u, _, k1, k2, usedS_cons.2 ⟨i, o, _, h1, h2, k3, rfl⟩, by omega⟩
  | trans _ _ ih1 ih2 => exact fun hn => ih2 (ih1 hn)

theorem usedS_snoc {σ : St} {p : List UInt8 × Option Nat} {i : Nat} {o : denFs fs_disk_file} (h1 : p.2 = some i) (h2 : σ.t_disk_file[i]? = some o) : ∀ {l : List (List UInt8 × Option Nat)} {n : Nat}, usedS l σ = some n → usedS (l ++ [p]) σ = some (n + o.1.length) := by
  intro l n h
  refine usedS_perm (List.perm_append_comm (l₁ := [p]) (l₂ := l)) ?_
  exact usedS_cons.2 ⟨i, o, n, h1, h2, h, by omega⟩

theorem usedS_mem {σ : St} {p : List UInt8 × Option Nat} : ∀ {l : List (List UInt8 × Option Nat)} {n : Nat}, usedS l σ = some n → p ∈ l → ∃ i o, p.2 = some i ∧ σ.t_disk_file[i]? = some o
  | q :: l, n, h, hp => by
    obtain ⟨i, o, q', h1, h2, h3, rfl⟩ := usedS_cons.1 h
    rcases List.mem_cons.1 hp with rfl | hp
    · exact ⟨i, o, h1, h2⟩
    · exact usedS_mem h3 hp

def f_disk_Disk_Used (p0 : Option Nat) (σ : St) : Option Int :=
  if p0.isNone = true then some 0 else
  p0 >>= fun i => (σ.t_disk_Disk[i]?) >>= fun o => usedS o.2.1 σ >>= fun n => some (IntKind.wrap .i64 n)

theorem f_disk_Disk_Used_ok {p0 : Option Nat} {σ : St} {p : Int} (h : f_disk_Disk_Used p0 σ = some p) : Spec Tryz.prog 68 [.kv (.ptr 67) p0] (tabsB TB σ) (.kv .i p) (tabsB TB σ) := by
  refine Spec.intro Tryz.func68 (by kernel_rfl) rfl (by kernel_rfl) (fun a w G0 Ls hE hH hN => ?_)
  have hle : G0.le G0 := Gh.le_refl G0
  unfold f_disk_Disk_Used at h
  refine wp_seq_k (fun K hK1 => ?_)
  refine wp_region_from ?_
  refine segO 1 [] [(2, .kv .i 0)] (Os := []) trivial hE hH (by kernel_rfl) (fun a hE => ?_)
  refine wpFrom_end (by kernel_rfl) ?_
  refine Exit.then_normal (hK1 _ _ ?_)
  refine wp_seq_k (fun K hK2 => ?_)
  refine wp_region_from ?_
  refine segO 1 [] [(3, .kv .i 0)] (Os := []) trivial hE hH (by kernel_rfl) (fun a hE => ?_)
  refine wpFrom_end (by kernel_rfl) ?_
  refine Exit.then_normal (hK2 _ _ ?_)
  refine wp_seq_k (fun K hK3 => ?_)
  refine wp_seq_k (fun K hK4 => ?_)
  refine wp_region_from ?_
  refine segO 2 [] [(7, .kv .bool p0.isNone)] (Os := []) trivial hE hH (by kernel_rfl) (fun a hE => ?_)
  refine wpFrom_end (by kernel_rfl) ?_
  refine Exit.then_normal (hK4 _ _ ?_)
  refine condE (b := p0.isNone) hE (by kernel_rfl) (fun hc => ?_) (fun hc => ?_)
  · replace h := ifT hc h
    refine wp_seq_k (fun K hK5 => ?_)
    refine wp_region_from ?_
    refine segO 2 [] [(2, .kv .i 0)] (Os := []) trivial hE hH (by kernel_rfl) (fun a hE => ?_)
    refine wpFrom_end (by kernel_rfl) ?_
    refine Exit.then_normal (hK5 _ _ ?_)
    refine wp_ret ?_
    refine Exit.then_ret ?_
    cases h
    exact ret1 rfl hE hle hH (by kernel_rfl)
  · replace h := ifF hc h
    refine wp_skip ?_
    refine Exit.then_normal (hK3 _ _ ?_)
    obtain ⟨i, hi, h⟩ := bs h
    obtain ⟨o, ho, h⟩ := bs h
    obtain ⟨n, hn, h⟩ := bs h
    refine wp_seq_k (fun K hK6 => ?_)
    refine wp_seq_k (fun K hK7 => ?_)
    refine wp_region_from ?_
    refine segO 4 [.pt i, .ob fs_disk_Disk o] [(12, .fm 67 i 1)] (Os := [_, _]) ⟨hi, ob_disk_Disk ho, trivial⟩ hE hH (by kernel_rfl) (fun a hE => ?_)
    refine stepRange (kk := .str) (kv := .ptr 93) (m := o.2.1) (t := 67) (j := i) (f := 1) (d := some 13) hE hH (by kernel_rfl) (by kernel_rfl) (ob_disk_Disk ho) rfl (fun r mr es cl a w G hl hE hH hh hr hm => ?_)
    have hle := Gh.le_trans hle hl
    refine wpFrom_end (by kernel_rfl) ?_
    refine Exit.then_normal (hK7 _ _ ?_)
    refine wp_block ?_
    refine loop_intro (fun Q c hQ hc => ?_)
    have key : ∀ (k : Nat) (seen : Array Nat) (done : List (List UInt8 × Option Nat)) (q : Nat), es.toList.length < seen.toList.length + k → Gone (kk := .str) (kv := .ptr 93) es.toList o.2.1 seen.toList done → usedS done σ = some q →
        ∀ (a : Act) (w : World), EnvR G 26 a [(3, .kv .i (IntKind.wrap .i64 q)), (13, .val (.pointer (some ⟨r, 0, none⟩)))] → Holds w G (tabsB TB σ) (.iter r (itO mr cl seen) :: Ls) → w.heap[mr]? = some (.map es cl) →
        (∀ a w seen, EnvR G 26 a [(3, .kv .i (IntKind.wrap .i64 n)), (13, .val (.pointer (some ⟨r, 0, none⟩)))] → Holds w G (tabsB TB σ) (.iter r (itO mr cl seen) :: Ls) → Q (.exit 0) a w) → Rnd Tryz.prog c Q a w := by
      intro k
      induction k with
      | zero =>
        intro seen done q hk hg
        have := hg.len
        omega
      | succ k ih =>
        intro seen done q hk hg hq a w hE hH hh hx
        refine rnd_step' hc ?_
        refine wp_seq_k (fun K hK8 => ?_)
        refine wp_region_from ?_
        refine stepNext (kk := .str) (kv := .ptr 93) (m := o.2.1) (d := some 14) hE hH hh hm (by kernel_rfl) (by kernel_rfl) (fun hall a w hE hH => ?_) (fun ix e p hix hp hns a w hE hH hh => ?_)
        · refine segO 1 [] [(15, .kv .bool false)] (Os := []) trivial hE hH (by kernel_rfl) (fun a hE => ?_)
          refine wpFrom_end (by kernel_rfl) ?_
          refine Exit.then_normal (hK8 _ _ ?_)
          refine wp_seq_k (fun K hK9 => ?_)
          refine condF hE (by kernel_rfl) rfl ?_
          refine wp_exit ?_
          refine Exit.then_exit ?_
          refine Exit.then_exit ?_
          have hperm := hg.all (by rw [hm.1.length]) hm.2.2 hall
          have := usedS_perm hperm hq
          rw [hn] at this
          cases this
          exact hx _ _ _ (hE.subC (by kernel_rfl)) hH
        · refine segO 1 [] [(15, .kv .bool true)] (Os := []) trivial hE hH (by kernel_rfl) (fun a hE => ?_)
          refine wpFrom_end (by kernel_rfl) ?_
          refine Exit.then_normal (hK8 _ _ ?_)
          refine wp_seq_k (fun K hK9 => ?_)
          refine condT hE (by kernel_rfl) rfl ?_
          refine wp_skip ?_
          refine Exit.then_normal (hK9 _ _ ?_)
          obtain ⟨i2, o2, hi2, ho2⟩ := usedS_mem hn (List.mem_of_getElem? hp)
          refine wp_block ?_
          refine wp_seq_k (fun K hK10 => ?_)
          refine wp_region_from ?_
          refine stepEntry (kk := .str) (kv := .ptr 93) (m := o.2.1) (d := some 16) hE hH hh hm hix hp (by kernel_rfl) (by kernel_rfl) (fun a hE => ?_)
          refine segO 2 [] [(5, .kv (.ptr 93) p.2)] (Os := []) trivial hE hH (by kernel_rfl) (fun a hE => ?_)
          refine wpFrom_end (by kernel_rfl) ?_
          refine Exit.then_normal (hK10 _ _ ?_)
          refine wp_region_from ?_
          refine segO 8 [.pt i2, .ob fs_disk_file o2] [(3, .kv .i (IntKind.wrap .i64 (IntKind.wrap .i64 q + (o2.1.length : Int))))] (Os := [_, _]) ⟨hi2, ob_disk_file ho2, trivial⟩ hE hH (by kernel_rfl) (fun a hE => ?_)
          refine wpFrom_end (by kernel_rfl) ?_
          refine Exit.in_normal ?_
          refine Exit.then_normal ?_
          rw [wrap_wrap] at hE
          refine ih (seen.push e.born) (done ++ [p]) (q + o2.1.length) ?_ ?_ (usedS_snoc hi2 ho2 hq) a w ((hE.re 3 (by kernel_rfl) (e' := .kv .i (IntKind.wrap .i64 ((q + o2.1.length : Nat) : Int))) (congrArg (fun z => En.kv .i (IntKind.wrap .i64 z)) (Int.natCast_add q o2.1.length).symm)).subC (by kernel_rfl)) hH hh hx
          · simp at hk ⊢; omega
          · rw [Array.toList_push]; exact hg.next hix hp hns
    refine key (es.toList.length + 1) #[] [] 0 (by simp) Gone.nil rfl a w (hE.subC (by kernel_rfl)) hH hh (fun a w seen hE hH => ?_)
    rw [hQ]
    have hH := hH.drop (fun _ _ _ => rfl)
    refine Exit.in_eq ?_
    refine Exit.then_normal (hK6 _ _ ?_)
    refine wp_seq_k (fun K hK11 => ?_)
    refine wp_region_from ?_
    refine segO 2 [] [(2, .kv .i (IntKind.wrap .i64 n))] (Os := []) trivial hE hH (by kernel_rfl) (fun a hE => ?_)
    refine wpFrom_end (by kernel_rfl) ?_
    refine Exit.then_normal (hK11 _ _ ?_)
    refine wp_ret ?_
    cases h
    exact ret1 rfl hE hle hH (by kernel_rfl)
def k_disk_Disk_Used : Kn St := ⟨68, [.kv (.ptr T_disk_Disk)], [.kv .i], .ro fun x σ => f_disk_Disk_Used x.1 σ⟩
theorem k_disk_Disk_Used_ok : k_disk_Disk_Used.ok Tryz.prog TB := ok_of_spec (by kernel_rfl) fun _ _ _ h => f_disk_Disk_Used_ok h
end Go.Proofs.YtbnmhjobnepajaaGreat.M


set_option maxRecDepth 100000

namespace Go.Proofs
open Go.Shelf
end Go.Proofs

namespace Go.Proofs.YtbnmhjobnepajaaGreat.M
open Go.Proofs (Tryz.prog Tryz.func47 Tryz.f47 Tryz.lays190)

def sorted (l : List (List UInt8)) : List (List UInt8) := l.mergeSort (fun x y => decide (x ≤ y))

def f_disk_Disk_List (p0 : Option Nat) (σ : St) : Option (List (List UInt8)) :=
  if p0.isNone = true then some [] else
  p0 >>= fun i => (σ.t_disk_Disk[i]?) >>= fun o => if (o.2.1.length + 1) * 16 ≤ 140737488355328 then some (sorted (o.2.1.map (·.1))) else none

theorem Gone.len2 {kk kv : Kd} {es : List MapEntry} {m done : List (kk.den × kv.den)} {seen : List Nat} (h : Gone es m seen done) : done.length ≤ es.length := by
  have h0 := h.len
  obtain ⟨is, h1, rfl, rfl, h4⟩ := h
  rw [List.length_map] at h0
  exact Nat.le_trans (List.length_filterMap_le _ _) h0

theorem set_self {α : Type} : ∀ {l : List α} {j : Nat} {x : α}, l[j]? = some x → l.set j x = l
  | [], _, _, h => by simp at h
  | y :: l, 0, x, h => by simp at h; subst h; rfl
  | y :: l, j + 1, x, h => by rw [List.set_cons_succ, set_self (by simpa using h)]

section
variable {w : World} {G : Gh} {T : Tabs} {Ls : List LS} {a : Act} {N : Nat} {E : Env} {ops : Array Oper} {Q : Exit → Act → World → Prop}

theorem sort_calls {j e bt : Nat} {v : Value} {xs : List (List UInt8)} (hH : Holds w G T Ls) (hj : Ls[j]? = some (.raw v e bt .str xs)) (hlen : xs.length < 4611686018427387904) :
    Calls Tryz.prog 80 #[v] w (PostC G (.tup []) T (Ls.set j (.raw v e bt .str (sorted xs)))) := by
  obtain ⟨cs, o1, o2, o3, o4⟩ := hH.loc _ (List.mem_of_getElem? hj)
  rcases o1.2 with ⟨rfl, hn⟩ | ⟨g, cap, cur, rfl, hb0, hb, h1, h2, h3, h4⟩
  · have hx : xs = [] := List.eq_nil_of_length_eq_zero hn
    subst hx
    refine (Any.slices_Sort_string_none Tryz.lays190 none 0 w).mono ?_
    rintro e' w' ⟨rfl, rfl⟩
    refine ⟨G, Gh.le_refl G, ⟨#[], rfl, trivial⟩, ?_⟩
    have : Ls.set j (.raw (.slice none 0 0) e bt .str (sorted [])) = Ls := by
      have : sorted [] = [] := by simp [sorted]
      rw [this]
      exact set_self hj
    rw [this]; exact hH
  · have hst : cur.toList.take xs.length = xs.map encStr := by
      have := rowR_strs o2
      simp only [Kd.w, Nat.mul_one] at h4
      rw [h4]
      rw [← this]
      have hcl := o1.1
      simp only [Kd.w, Nat.mul_one] at hcl
      rw [List.take_of_length_le (by omega)]
    refine (Any.slices_Sort_string Tryz.lays190 g 0 cap xs w (holds_of_block hb hst) (Array.getElem?_eq_some_iff.1 hb).1 hlen).mono ?_
    rintro e' w' ⟨rfl, n, os, rfl⟩
    exact ⟨G, Gh.le_refl G, ⟨#[], rfl, trivial⟩, hH.rawSorted hj (by simp)⟩
end

theorem f_disk_Disk_List_ok {p0 : Option Nat} {σ : St} {p : List (List UInt8)} (h : f_disk_Disk_List p0 σ = some p) : Spec Tryz.prog 47 [.kv (.ptr 67) p0] (tabsB TB σ) (.kv (.list .str) p) (tabsB TB σ) := by
  refine Spec.intro Tryz.func47 (by kernel_rfl) rfl (by kernel_rfl) (fun a w G0 Ls hE hH hN => ?_)
  have hle : G0.le G0 := Gh.le_refl G0
  unfold f_disk_Disk_List at h
  refine wp_seq_k (fun K hK1 => ?_)
  refine wp_region_from ?_
  refine segO 1 [] [(2, .val (.slice none 0 0))] (Os := []) trivial hE hH (by kernel_rfl) (fun a hE => ?_)
  refine wpFrom_end (by kernel_rfl) ?_
  refine Exit.then_normal (hK1 _ _ ?_)
  refine wp_seq_k (fun K hK2 => ?_)
  refine wp_region_from ?_
  refine segO 1 [] [(3, .val (.slice none 0 0))] (Os := []) trivial hE hH (by kernel_rfl) (fun a hE => ?_)
  refine wpFrom_end (by kernel_rfl) ?_
  refine Exit.then_normal (hK2 _ _ ?_)
  refine wp_seq_k (fun K hK3 => ?_)
  refine wp_seq_k (fun K hK4 => ?_)
  refine wp_region_from ?_
  refine segO 2 [] [(6, .kv .bool p0.isNone)] (Os := []) trivial hE hH (by kernel_rfl) (fun a hE => ?_)
  refine wpFrom_end (by kernel_rfl) ?_
  refine Exit.then_normal (hK4 _ _ ?_)
  refine condE (b := p0.isNone) hE (by kernel_rfl) (fun hc => ?_) (fun hc => ?_)
  · replace h := ifT hc h
    refine wp_seq_k (fun K hK5 => ?_)
    refine wp_region_from ?_
    refine segO 2 [] [(2, .val (.slice none 0 0))] (Os := []) trivial hE hH (by kernel_rfl) (fun a hE => ?_)
    refine wpFrom_end (by kernel_rfl) ?_
    refine Exit.then_normal (hK5 _ _ ?_)
    refine wp_ret ?_
    refine Exit.then_ret ?_
    cases h
    exact ret1 rfl hE hle hH (by kernel_rfl)
  · replace h := ifF hc h
    refine wp_skip ?_
    refine Exit.then_normal (hK3 _ _ ?_)
    obtain ⟨i, hi, h⟩ := bs h
    obtain ⟨o, ho, h⟩ := bs h
    obtain ⟨hsz, h⟩ := gd h
    refine wp_seq_k (fun K hK6 => ?_)
    refine wp_seq_k (fun K hK7 => ?_)
    refine wp_region_from ?_
    refine segO 4 [.pt i, .ob fs_disk_Disk o] [(11, .fm 67 i 1)] (Os := [_, _]) ⟨hi, ob_disk_Disk ho, trivial⟩ hE hH (by kernel_rfl) (fun a hE => ?_)
    have hH := hH.nilRaw 9 16 .str
    refine stepRange (kk := .str) (kv := .ptr 93) (m := o.2.1) (t := 67) (j := i) (f := 1) (d := some 12) hE hH (by kernel_rfl) (by kernel_rfl) (ob_disk_Disk ho) rfl (fun r mr es cl a w G hl hE hH hh hr hm => ?_)
    have hle := Gh.le_trans hle hl
    refine wpFrom_end (by kernel_rfl) ?_
    refine Exit.then_normal (hK7 _ _ ?_)
    refine wp_block ?_
    refine loop_intro (fun Q c hQ hc => ?_)
    have key : ∀ (k : Nat) (seen : Array Nat) (done : List (List UInt8 × Option Nat)) (v : Value), es.toList.length < seen.toList.length + k → Gone (kk := .str) (kv := .ptr 93) es.toList o.2.1 seen.toList done →
        ∀ (a : Act) (w : World) (G : Gh), G0.le G → EnvR G 24 a [(3, .val v), (12, .val (.pointer (some ⟨r, 0, none⟩)))] → Holds w G (tabsB TB σ) (.iter r (itO mr cl seen) :: .raw v 9 16 .str (done.map (·.1)) :: Ls) → w.heap[mr]? = some (.map es cl) → G.role mr = .fld 67 i 1 → mapR G .str (.ptr 93) o.2.1 es.toList cl →
        (∀ (a : Act) (w : World) (G : Gh) (seen : Array Nat) (done : List (List UInt8 × Option Nat)) (v : Value), done.Perm o.2.1 → G0.le G → EnvR G 24 a [(3, .val v), (12, .val (.pointer (some ⟨r, 0, none⟩)))] → Holds w G (tabsB TB σ) (.iter r (itO mr cl seen) :: .raw v 9 16 .str (done.map (·.1)) :: Ls) → Q (.exit 0) a w) → Rnd Tryz.prog c Q a w := by
      intro k
      induction k with
      | zero =>
        intro seen done v hk hg
        have := hg.len
        omega
      | succ k ih =>
        intro seen done v hk hg a w G hle hE hH hh hr hm hx
        refine rnd_step' hc ?_
        refine wp_seq_k (fun K hK8 => ?_)
        refine wp_region_from ?_
        refine stepNext (kk := .str) (kv := .ptr 93) (m := o.2.1) (d := some 13) hE hH hh hm (by kernel_rfl) (by kernel_rfl) (fun hall a w hE hH => ?_) (fun ix e p hix hp hns a w hE hH hh => ?_)
        · refine segO 1 [] [(14, .kv .bool false)] (Os := []) trivial hE hH (by kernel_rfl) (fun a hE => ?_)
          refine wpFrom_end (by kernel_rfl) ?_
          refine Exit.then_normal (hK8 _ _ ?_)
          refine wp_seq_k (fun K hK9 => ?_)
          refine condF hE (by kernel_rfl) rfl ?_
          refine wp_exit ?_
          refine Exit.then_exit ?_
          refine Exit.then_exit ?_
          exact hx _ _ _ _ _ _ (hg.all (by rw [hm.1.length]) hm.2.2 hall) hle (hE.subC (by kernel_rfl)) hH
        · refine segO 1 [] [(14, .kv .bool true)] (Os := []) trivial hE hH (by kernel_rfl) (fun a hE => ?_)
          refine wpFrom_end (by kernel_rfl) ?_
          refine Exit.then_normal (hK8 _ _ ?_)
          refine wp_seq_k (fun K hK9 => ?_)
          refine condT hE (by kernel_rfl) rfl ?_
          refine wp_skip ?_
          refine Exit.then_normal (hK9 _ _ ?_)
          refine wp_block ?_
          refine wp_seq_k (fun K hK10 => ?_)
          refine wp_region_from ?_
          refine stepEntry (kk := .str) (kv := .ptr 93) (m := o.2.1) (d := some 15) hE hH hh hm hix hp (by kernel_rfl) (by kernel_rfl) (fun a hE => ?_)
          refine segO 2 [] [(4, .kv .str p.1)] (Os := []) trivial hE hH (by kernel_rfl) (fun a hE => ?_)
          refine wpFrom_end (by kernel_rfl) ?_
          refine Exit.then_normal (hK10 _ _ ?_)
          refine wp_region_from ?_
          refine segO 2 [] [(17, .val v), (18, .kv .str p.1)] (Os := []) trivial hE hH (by kernel_rfl) (fun a hE => ?_)
          refine stepBuildS' (d := some 19) .str [p.1] hE hH (by kernel_rfl) (by kernel_rfl) (fun a w' G' hl hE hH hkeep => ?_)
          have hle := Gh.le_trans hle hl
          have hm := mapR_mono hl hm
          obtain ⟨hkeep1, hkeep2⟩ := hkeep mr (by rw [hr]; simp)
          rw [← hkeep1] at hh
          rw [← hkeep2] at hr
          refine stepAppR (e' := 9) (bt := 16) (K := .str) (xs := done.map (·.1)) (ys := [p.1]) (d := some 20) 1 hE hH (by kernel_rfl) rfl (by kernel_rfl) (by have h1 := hg.len2; rw [← hm.1.length] at h1; simp only [List.length_map, List.length_cons, List.length_nil]; omega) (fun v' a w'' G'' hl hE hH hfix hro => ?_)
          have hle := Gh.le_trans hle hl
          have hm := mapR_mono hl hm
          have hh2 := hfix mr _ _ _ hr
          have hr2 := hro mr (by rw [hr]; simp)
          rw [← hh2] at hh
          rw [← hr2] at hr
          refine segO 1 [] [(3, .val v')] (Os := []) trivial hE hH (by kernel_rfl) (fun a hE => ?_)
          refine wpFrom_end (by kernel_rfl) ?_
          refine Exit.in_normal ?_
          refine Exit.then_normal ?_
          refine ih (seen.push e.born) (done ++ [p]) v' ?_ ?_ a _ _ hle (hE.subC (by kernel_rfl)) ?_ hh hr hm hx
          · simp at hk ⊢; omega
          · rw [Array.toList_push]; exact hg.next hix hp hns
          · rw [List.map_append]; exact hH
    refine key (es.toList.length + 1) #[] [] (.slice none 0 0) (by simp) Gone.nil a w G hle (hE.subC (by kernel_rfl)) hH hh hr hm (fun a w G seen done v hperm hle hE hH => ?_)
    rw [hQ]
    have hH := hH.drop (fun _ _ _ => rfl)
    refine Exit.in_eq ?_
    refine Exit.then_normal (hK6 _ _ ?_)
    refine wp_seq_k (fun K hK11 => ?_)
    refine wp_region_from ?_
    refine segO 1 [] [(21, .val v)] (Os := []) trivial hE hH (by kernel_rfl) (fun a hE => ?_)
    refine stepCallV (f := 80) (As := [.val v]) (R := .tup []) (d := some 22) (T' := tabsB TB σ) (Ls' := .raw v 9 16 .str (sorted (done.map (·.1))) :: Ls) (by kernel_rfl) (fun args hA => ?_) hE (by kernel_rfl) (by kernel_rfl) trivial (fun a w G hl hE hH => ?_)
    · match args, hA with
      | [u], ⟨hu, _⟩ =>
        simp only [EnR] at hu
        subst hu
        exact sort_calls (j := 0) hH rfl (by rw [List.length_map, hperm.length_eq]; omega)
    · have hle := Gh.le_trans hle hl
      refine wpFrom_end (by kernel_rfl) ?_
      refine Exit.then_normal (hK11 _ _ ?_)
      have hnd := hH.nd
      obtain ⟨G', hl, hv, hH⟩ := hH.rawPub (Ls' := Ls) List.mem_cons_self (fun l hlm => by
        cases hb : l.blk with
        | none => exact .inr ⟨rfl, List.mem_cons_of_mem _ hlm⟩
        | some b =>
          refine .inl ⟨List.mem_cons_of_mem _ hlm, fun he => ?_⟩
          rw [List.filterMap_cons_some (show LS.blk (.raw v 9 16 .str (sorted (done.map (·.1)))) = some b from he.symm)] at hnd
          exact (List.nodup_cons.1 hnd).1 (List.mem_filterMap.2 ⟨l, hlm, hb⟩)) (fun _ _ _ => rfl) (by
        cases hb : LS.blk (.raw v 9 16 .str (sorted (done.map (·.1)))) with
        | none => rwa [List.filterMap_cons_none hb] at hnd
        | some b => rw [List.filterMap_cons_some hb] at hnd; exact (List.nodup_cons.1 hnd).2)
      have hle := Gh.le_trans hle hl
      have hE := EnvR.more (v := v) (e := .kv (.list .str) (sorted (List.map (fun x : List UInt8 × Option Nat => x.1) done))) (hE.mono hl) 3 (by kernel_rfl) hv
      have hs : sorted (done.map (·.1)) = sorted (o.2.1.map (·.1)) := mergeSort_of_perm (hperm.map _)
      rw [hs] at hE
      cases h
      refine wp_seq_k (fun K hK12 => ?_)
      refine wp_region_from ?_
      refine segO 2 [] [(2, .kv (.list .str) (sorted (o.2.1.map (·.1))))] (Os := []) trivial hE hH (by kernel_rfl) (fun a hE => ?_)
      refine wpFrom_end (by kernel_rfl) ?_
      refine Exit.then_normal (hK12 _ _ ?_)
      refine wp_ret ?_
      exact ret1 rfl hE hle hH (by kernel_rfl)
def k_disk_Disk_List : Kn St := ⟨47, [.kv (.ptr T_disk_Disk)], [.kv (.list .str)], .ro fun x σ => f_disk_Disk_List x.1 σ⟩
theorem k_disk_Disk_List_ok : k_disk_Disk_List.ok Tryz.prog TB := ok_of_spec (by kernel_rfl) fun _ _ _ h => f_disk_Disk_List_ok h
end Go.Proofs.YtbnmhjobnepajaaGreat.M


set_option maxRecDepth 100000
namespace Go.Proofs.YtbnmhjobnepajaaGreat.M
open Go.Proofs
noncomputable def f_wal_number_l0 (p0 : List UInt8) (s0 : Int × Int) : Option ((Int × Int) ⊕ (Int ⊕ Int)) :=
  if decide (s0.2 < (p0.length : Int)) = true then
  if 0 ≤ s0.2 ∧ s0.2 < (p0.length : Int) then
  if ((!(decide (btS p0 s0.2 < 48))) = true → 0 ≤ s0.2 ∧ s0.2 < (p0.length : Int)) then
  if ((decide (btS p0 s0.2 < 48) || decide (btS p0 s0.2 > 57)) || decide (s0.1 > 1099511627776)) = true then
  some (.inr (.inr (-1 : Int)))
  else
  if 0 ≤ s0.2 ∧ s0.2 < (p0.length : Int) then
  some (.inl (IntKind.wrap .i64 (IntKind.wrap .i64 (s0.1 * 10) + IntKind.wrap .i64 (IntKind.wrap .u8 (btS p0 s0.2 - 48))), IntKind.wrap .i64 (s0.2 + 1)))
  else
  none
  else
  none
  else
  none
  else
  some (.inr (.inl s0.1))

noncomputable def f_wal_number (p0 : List UInt8) : Option Int :=
  Option.bind (loopM (f_wal_number_l0 p0) ((0 : Int), (0 : Int))) fun x1 =>
  sumO x1 (fun x2 =>
  if ((!(p0 == [])) = true → (0 : Int) ≤ (0 : Int) ∧ 0 < (p0.length : Int)) then
  if (((p0 == []) || ((btS p0 (0 : Int) == 48) && (!(p0 == [48])))) || decide (x2 > 1099511627776)) = true then
  some (-1 : Int)
  else
  some x2
  else
  none) Option.some

noncomputable def k_wal_number : Kn St := ⟨94, [.kv .str], [.kv .i], .ro fun x σ => f_wal_number x.1⟩

theorem k_wal_number_ok : k_wal_number.ok Tryz.prog TB := roOK ⟨Tryz.prog, TB, 49, KLs, MLs, [], [], [], []⟩ ⟨[], [], [], [(3, ⟨[(3, .kv .i), (7, .kv .i)], false, [⟨.ext 0, [(3, .kv .i)]⟩], true, []⟩)]⟩ TB_ok trivial (fn := Tryz.f94) (by kernel_rfl) (by kernel_rfl) (by kernel_rfl)
end Go.Proofs.YtbnmhjobnepajaaGreat.M


set_option maxRecDepth 100000

namespace Go.Proofs
open Go.Shelf
end Go.Proofs

namespace Go.Proofs.YtbnmhjobnepajaaGreat.M
open Go.Proofs (Tryz.prog Tryz.func95 Tryz.f95 Tryz.lays189)

def sortedI (l : List Int) : List Int := l.mergeSort (fun x y => decide (x ≤ y))

section
variable {w : World} {G : Gh} {T : Tabs} {Ls : List LS} {a : Act} {N : Nat} {E : Env} {ops : Array Oper} {Q : Exit → Act → World → Prop}

theorem sort87_calls {j e bt : Nat} {v : Value} {xs : List Int} (hH : Holds w G T Ls) (hj : Ls[j]? = some (.raw v e bt .i xs)) (hlen : xs.length < 4611686018427387904) :
    Calls Tryz.prog 95 #[v] w (PostC G (.tup []) T (Ls.set j (.raw v e bt .i (sortedI xs)))) := by
  obtain ⟨cs, o1, o2, o3, o4⟩ := hH.loc _ (List.mem_of_getElem? hj)
  rcases o1.2 with ⟨rfl, hn⟩ | ⟨g, cap, cur, rfl, hb0, hb, h1, h2, h3, h4⟩
  · have hx : xs = [] := List.eq_nil_of_length_eq_zero hn
    subst hx
    refine (Any.slices_Sort_int_none Tryz.lays189 none 0 w).mono ?_
    rintro e' w' ⟨rfl, rfl⟩
    refine ⟨G, Gh.le_refl G, ⟨#[], rfl, trivial⟩, ?_⟩
    have : Ls.set j (.raw (.slice none 0 0) e bt .i (sortedI [])) = Ls := by
      have : sortedI [] = [] := by simp [sortedI]
      rw [this]
      exact set_self hj
    rw [this]; exact hH
  · have hst : cur.toList.take xs.length = xs.map (Value.int .i64) := by
      have := rowR_ints o2
      simp only [Kd.w, Nat.mul_one] at h4
      rw [h4]
      rw [← this]
      have hcl := o1.1
      simp only [Kd.w, Nat.mul_one] at hcl
      rw [List.take_of_length_le (by omega)]
    refine (Any.slices_Sort_int Tryz.lays189 g 0 cap xs w (holds_of_blockI hb hst) (Array.getElem?_eq_some_iff.1 hb).1 hlen).mono ?_
    rintro e' w' ⟨rfl, n, os, rfl⟩
    exact ⟨G, Gh.le_refl G, ⟨#[], rfl, trivial⟩, hH.rawSortedI hj (by simp)⟩
end

def f_wal_Log_firsts_l0 (p0 : Option Nat) (σ : St) (r7 : List (List UInt8)) (l9 : List Int) (x10 : Int) : Option ((List Int) × Int) :=
  if (decide (x10 < (r7.length : Int))) = true then
  (ix r7 x10) >>= fun x19 =>
  p0 >>= fun i21 =>
  (σ.t_wal_Log[i21]?) >>= fun o22 =>
  if (decide ((x19.length : Int) > (IntKind.wrap .i64 ((o22.2.1.length : Int) + 1)))) = true then
  if (0 : Int) ≤ (IntKind.wrap .i64 ((o22.2.1.length : Int) + 1)) ∧ (IntKind.wrap .i64 ((o22.2.1.length : Int) + 1)) ≤ (x19.length : Int) then
  if o22.2.1.length + [46].length ≤ 9223372036854775807 then
  if ((x19.take (Int.toNat (IntKind.wrap .i64 ((o22.2.1.length : Int) + 1)))) == (o22.2.1 ++ [46])) = true then
  if (0 : Int) ≤ (IntKind.wrap .i64 ((o22.2.1.length : Int) + 1)) ∧ (IntKind.wrap .i64 ((o22.2.1.length : Int) + 1)) ≤ (x19.length : Int) then
  f_wal_number (x19.drop (Int.toNat (IntKind.wrap .i64 ((o22.2.1.length : Int) + 1)))) >>= fun r29 =>
  if (decide (r29 ≥ 0)) = true then
  if (l9.length + 1) * 8 ≤ 140737488355328 then
  f_wal_Log_firsts_l0 p0 σ r7 (l9 ++ [r29]) (IntKind.wrap .i64 (x10 + 1))
  else none
  else
  f_wal_Log_firsts_l0 p0 σ r7 l9 (IntKind.wrap .i64 (x10 + 1))
  else none
  else
  f_wal_Log_firsts_l0 p0 σ r7 l9 (IntKind.wrap .i64 (x10 + 1))
  else none
  else none
  else
  f_wal_Log_firsts_l0 p0 σ r7 l9 (IntKind.wrap .i64 (x10 + 1))
  else
  some ((l9, x10))
  partial_fixpoint

def f_wal_Log_firsts (p0 : Option Nat) (σ : St) : Option (List Int) :=
  p0 >>= fun i5 =>
  (σ.t_wal_Log[i5]?) >>= fun o6 =>
  f_disk_Disk_List o6.1 σ >>= fun r7 =>
  f_wal_Log_firsts_l0 p0 σ r7 [] 0 >>= fun z34 =>
  if z34.1.length < 4611686018427387904 then
  some (sortedI z34.1)
  else none

theorem f_wal_Log_firsts_ok {p0 : Option Nat} {σ : St} {p : List Int} (h : f_wal_Log_firsts p0 σ = some p) : Spec Tryz.prog 61 [.kv (.ptr 77) p0] (tabsB TB σ) (.kv (.list .i) p) (tabsB TB σ) := by
  refine Spec.intro Tryz.func61 (by kernel_rfl) rfl (by kernel_rfl) (fun a w G0 Ls hE hH hN => ?_)
  have hle : G0.le G0 := Gh.le_refl G0
  unfold f_wal_Log_firsts at h
  refine wp_seq_k (fun K hK1 => ?_)
  refine wp_region_from ?_
  refine segO 1 [] [(2, .val (.slice none 0 0))] (Os := []) trivial hE hH (by kernel_rfl) (fun a hE => ?_)
  refine wpFrom_end (by kernel_rfl) ?_
  refine Exit.then_normal (hK1 _ _ ?_)
  refine wp_seq_k (fun K hK2 => ?_)
  refine wp_region_from ?_
  refine segO 1 [] [(3, .val (.slice none 0 0))] (Os := []) trivial hE hH (by kernel_rfl) (fun a hE => ?_)
  refine wpFrom_end (by kernel_rfl) ?_
  refine Exit.then_normal (hK2 _ _ ?_)
  refine wp_seq_k (fun K hK3 => ?_)
  refine wp_seq_k (fun K hK4 => ?_)
  refine wp_region_from ?_
  obtain ⟨i5, hi5, h⟩ := bs h
  obtain ⟨o6, ho6, h⟩ := bs h
  refine segO 4 [.pt i5, .ob fs_wal_Log o6] [(11, .kv (.ptr 67) o6.1)] (Os := [_, _]) ⟨hi5, (ob_wal_Log (σ := σ) ho6), trivial⟩ hE hH (by kernel_rfl) (fun a hE => ?_)
  obtain ⟨r7, hr7, h⟩ := bs h
  refine stepCall (d := (some 12)) (f_disk_Disk_List_ok hr7) hE hH hN (by kernel_rfl) (by kernel_rfl) trivial (fun a w G hl1 hE hH => ?_)
  have hle := Gh.le_trans hle hl1
  refine segO 2 [] [(13, .kv .i (r7.length : Int)), (14, .kv .i 0)] (Os := []) trivial hE hH (by kernel_rfl) (fun a hE => ?_)
  refine wpFrom_end (by kernel_rfl) ?_
  refine Exit.then_normal (hK4 _ _ ?_)
  refine wp_block ?_
  have hH := hH.nilRaw 3 8 .i
  obtain ⟨z34, hz34, h⟩ := bs h
  refine loop_intro (fun Q11 c hQ hc => ?_)
  have key : ∀ (l9 : List Int) (x10 : Int) (rr : (List Int) × Int), f_wal_Log_firsts_l0 p0 σ r7 l9 x10 = some rr → ∀ (a : Act) (w : World) (G : Gh) (v8 : Value), G0.le G → EnvR G 53 a [(0, .kv (.ptr 77) p0), (2, .val (.slice none 0 0)), (3, .val v8), (12, .kv (.list .str) r7), (13, .kv .i (r7.length : Int)), (14, .kv .i x10)] → Holds w G (tabsB TB σ) (LS.raw v8 3 8 .i l9 :: Ls) → (∀ z35 : (List Int) × Int, rr = z35 → ∀ (a : Act) (w : World) (G : Gh) (v8 : Value), G0.le G → EnvR G 53 a [(0, .kv (.ptr 77) p0), (2, .val (.slice none 0 0)), (3, .val v8), (12, .kv (.list .str) r7), (13, .kv .i (r7.length : Int)), (14, .kv .i z35.2)] → Holds w G (tabsB TB σ) (LS.raw v8 3 8 .i z35.1 :: Ls) → Q11 (.exit 0) a w) → Rnd Tryz.prog c Q11 a w := by
    refine f_wal_Log_firsts_l0.partial_correctness p0 σ r7 _ ?_
    intro self ih14 l9 x10 rr h a w G v8 hle hE hH hx12
    refine rnd_step' hc ?_
    refine wp_seq_k (fun K hK15 => ?_)
    refine wp_region_from ?_
    refine segO 1 [] [(15, .kv .bool (decide (x10 < (r7.length : Int))))] (Os := []) trivial hE hH (by kernel_rfl) (fun a hE => ?_)
    refine wpFrom_end (by kernel_rfl) ?_
    refine Exit.then_normal (hK15 _ _ ?_)
    refine wp_seq_k (fun K hK16 => ?_)
    refine condE (b := decide (x10 < (r7.length : Int))) hE (by kernel_rfl) (fun hc => ?_) (fun hc => ?_)
    · replace h := ifT hc h
      refine wp_skip ?_
      refine Exit.then_normal (hK16 _ _ ?_)
      refine wp_seq_k (fun K hK17 => ?_)
      refine wp_block ?_
      refine wp_seq_k (fun K hK18 => ?_)
      refine wp_region_from ?_
      obtain ⟨x19, hx19, h⟩ := bs h
      refine segO 3 [.ix .str x19] [(5, .kv .str x19)] (Os := [_]) ⟨(IxAt.of (k := .str) hx19), trivial⟩ hE hH (by kernel_rfl) (fun a hE => ?_)
      refine wpFrom_end (by kernel_rfl) ?_
      refine Exit.then_normal (hK18 _ _ ?_)
      refine wp_seq_k (fun K hK20 => ?_)
      refine wp_region_from ?_
      obtain ⟨i21, hi21, h⟩ := bs h
      obtain ⟨o22, ho22, h⟩ := bs h
      refine segO 7 [.pt i21, .ob fs_wal_Log o22] [(6, .kv .i (IntKind.wrap .i64 ((o22.2.1.length : Int) + 1)))] (Os := [_, _]) ⟨hi21, (ob_wal_Log (σ := σ) ho22), trivial⟩ hE hH (by kernel_rfl) (fun a hE => ?_)
      refine wpFrom_end (by kernel_rfl) ?_
      refine Exit.then_normal (hK20 _ _ ?_)
      refine wp_seq_k (fun K hK23 => ?_)
      by_cases hc : (decide ((x19.length : Int) > (IntKind.wrap .i64 ((o22.2.1.length : Int) + 1)))) = true
      · replace h := ifT hc h
        have c24 := hc
        obtain ⟨q25, h⟩ := gd h
        obtain ⟨q26, h⟩ := gd h
        refine region_par 13 [] [(0, 0), (0, 0), (0, 0), (0, 0), (0, 0), (0, 0), (0, 0), (0, 0), (0, 0), (0, 0), (0, 0), (0, 0), (0, 0)] [.kv .str x19, .kv .i (x19.length : Int), .kv .i (IntKind.wrap .i64 ((o22.2.1.length : Int) + 1)), .kv .bool (decide ((x19.length : Int) > (IntKind.wrap .i64 ((o22.2.1.length : Int) + 1)))), .kv .bool true, .kv .str x19, .kv .i (IntKind.wrap .i64 ((o22.2.1.length : Int) + 1)), .kv .str (x19.take (Int.toNat (IntKind.wrap .i64 ((o22.2.1.length : Int) + 1)))), .kv (.ptr 77) p0, .kv (.ptr 77) (some i21), .fldA 77 i21 1, .kv .str o22.2.1, .kv .str (o22.2.1 ++ [46])] (fun _ => tabsB TB σ) (fun _ _ => LS.raw v8 3 8 .i l9 :: Ls) (by kernel_rfl) (by kernel_rfl) hE hH
                ⟨⟨⟨⟨⟨⟨⟨⟨⟨⟨⟨⟨⟨trivial,
                anyk (fun k => obR [] (by kernel_rfl) (fun _ => ⟨[], trivial, by kernel_rfl⟩))⟩,
                anyk (fun k => obR [] (by kernel_rfl) (fun _ => ⟨[], trivial, by kernel_rfl⟩))⟩,
                anyk (fun k => obR [] (by kernel_rfl) (fun _ => ⟨[], trivial, by kernel_rfl⟩))⟩,
                anyk (fun k => obR [] (by kernel_rfl) (fun _ => ⟨[], trivial, by kernel_rfl⟩))⟩,
                anyk (fun k => obRe [] (by kernel_rfl) (fun _ => ⟨[], trivial, by kernel_rfl⟩) (eb2 c24 rfl))⟩,
                anyk (fun k => obR [] (by kernel_rfl) (fun _ => ⟨[], trivial, by kernel_rfl⟩))⟩,
                anyk (fun k => obR [] (by kernel_rfl) (fun _ => ⟨[], trivial, by kernel_rfl⟩))⟩,
                anyk (fun k => obR [] (by kernel_rfl) (fun _ => ⟨[_], ⟨q25, trivial⟩, by kernel_rfl⟩))⟩,
                anyk (fun k => obR [] (by kernel_rfl) (fun _ => ⟨[], trivial, by kernel_rfl⟩))⟩,
                anyk (fun k => obR [.pt i21] (by kernel_rfl) (fun _ => ⟨[_], ⟨hi21, trivial⟩, by kernel_rfl⟩))⟩,
                anyk (fun k => obR [] (by kernel_rfl) (fun _ => ⟨[], trivial, by kernel_rfl⟩))⟩,
                anyk (fun k => obR [.ob fs_wal_Log o22] (by kernel_rfl) (fun _ => ⟨[_], ⟨(ob_wal_Log (σ := σ) ho22), trivial⟩, by kernel_rfl⟩))⟩,
                anyk (fun k => obR [] (by kernel_rfl) (fun _ => ⟨[_], ⟨q26, trivial⟩, by kernel_rfl⟩))⟩ (fun a w G hl2 hE hH => ?_)
        have hle := Gh.le_trans hle hl2
        refine segO 2 [] [(38, .kv .bool ((x19.take (Int.toNat (IntKind.wrap .i64 ((o22.2.1.length : Int) + 1)))) == (o22.2.1 ++ [46])))] (Os := []) trivial hE hH (by kernel_rfl) (fun a hE => ?_)
        refine wpFrom_end (by kernel_rfl) ?_
        refine Exit.then_normal (hK23 _ _ ?_)
        refine condE (b := (x19.take (Int.toNat (IntKind.wrap .i64 ((o22.2.1.length : Int) + 1)))) == (o22.2.1 ++ [46])) hE (by kernel_rfl) (fun hc => ?_) (fun hc => ?_)
        · replace h := ifT hc h
          refine wp_seq_k (fun K hK27 => ?_)
          refine wp_region_from ?_
          obtain ⟨q28, h⟩ := gd h
          refine segO 3 [] [(41, .kv .str (x19.drop (Int.toNat (IntKind.wrap .i64 ((o22.2.1.length : Int) + 1)))))] (Os := [_]) ⟨q28, trivial⟩ hE hH (by kernel_rfl) (fun a hE => ?_)
          obtain ⟨r29, hr29, h⟩ := bs h
          refine stepCall (d := (some 42)) (spec_of_ok (k := .str) (kr := .i) (g := fun (x : List UInt8) (_ : St) => f_wal_number x) k_wal_number_ok hr29) hE hH (NoHole.cons (fun _ _ _ => rfl) hN) (by kernel_rfl) (by kernel_rfl) trivial (fun a w G hl3 hE hH => ?_)
          have hle := Gh.le_trans hle hl3
          refine segO 1 [] [(7, .kv .i r29)] (Os := []) trivial hE hH (by kernel_rfl) (fun a hE => ?_)
          refine wpFrom_end (by kernel_rfl) ?_
          refine Exit.then_normal (hK27 _ _ ?_)
          refine wp_seq_k (fun K hK30 => ?_)
          refine wp_region_from ?_
          refine segO 2 [] [(44, .kv .bool (decide (r29 ≥ 0)))] (Os := []) trivial hE hH (by kernel_rfl) (fun a hE => ?_)
          refine wpFrom_end (by kernel_rfl) ?_
          refine Exit.then_normal (hK30 _ _ ?_)
          refine condE (b := decide (r29 ≥ 0)) hE (by kernel_rfl) (fun hc => ?_) (fun hc => ?_)
          · replace h := ifT hc h
            refine wp_region_from ?_
            refine segO 2 [] [(45, .val v8), (46, .kv .i r29)] (Os := []) trivial hE hH (by kernel_rfl) (fun a hE => ?_)
            refine stepBuildS (d := (some 47)) .i [r29] hE hH (by kernel_rfl) (by kernel_rfl) (fun a w G hl4 hE hH => ?_)
            have hle := Gh.le_trans hle hl4
            obtain ⟨q31, h⟩ := gd h
            refine stepAppR (bt := 8) (ys := [r29]) (e' := 3) (d := (some 48)) 0 hE hH (by kernel_rfl) rfl (by kernel_rfl) q31 (fun v32 a w G hl5 hE hH _ _ => ?_)
            have hle := Gh.le_trans hle hl5
            refine segO 1 [] [(3, .val v32)] (Os := []) trivial hE hH (by kernel_rfl) (fun a hE => ?_)
            refine wpFrom_end (by kernel_rfl) ?_
            refine Exit.in_normal ?_
            refine Exit.then_normal (hK17 _ _ ?_)
            refine wp_region_from ?_
            refine segO 2 [] [(14, .kv .i (IntKind.wrap .i64 (x10 + 1)))] (Os := []) trivial hE hH (by kernel_rfl) (fun a hE => ?_)
            refine wpFrom_end (by kernel_rfl) ?_
            refine Exit.then_normal ?_
            exact ih14 _ _ _ h _ _ _ v32 hle (hE.subC (by kernel_rfl)) hH hx12
          · replace h := ifF hc h
            refine wp_skip ?_
            refine Exit.in_normal ?_
            refine Exit.then_normal (hK17 _ _ ?_)
            refine wp_region_from ?_
            refine segO 2 [] [(14, .kv .i (IntKind.wrap .i64 (x10 + 1)))] (Os := []) trivial hE hH (by kernel_rfl) (fun a hE => ?_)
            refine wpFrom_end (by kernel_rfl) ?_
            refine Exit.then_normal ?_
            exact ih14 _ _ _ h _ _ _ v8 hle (hE.subC (by kernel_rfl)) hH hx12
        · replace h := ifF hc h
          refine wp_skip ?_
          refine Exit.in_normal ?_
          refine Exit.then_normal (hK17 _ _ ?_)
          refine wp_region_from ?_
          refine segO 2 [] [(14, .kv .i (IntKind.wrap .i64 (x10 + 1)))] (Os := []) trivial hE hH (by kernel_rfl) (fun a hE => ?_)
          refine wpFrom_end (by kernel_rfl) ?_
          refine Exit.then_normal ?_
          exact ih14 _ _ _ h _ _ _ v8 hle (hE.subC (by kernel_rfl)) hH hx12
      · replace h := ifN hc h
        have c33 := hc
        refine region_par 13 [] [(0, 0), (0, 0), (0, 0), (0, 0), (0, 0), (0, 0), (0, 0), (0, 0), (0, 0), (0, 0), (0, 0), (0, 0), (0, 0)] [.kv .str x19, .kv .i (x19.length : Int), .kv .i (IntKind.wrap .i64 ((o22.2.1.length : Int) + 1)), .kv .bool (decide ((x19.length : Int) > (IntKind.wrap .i64 ((o22.2.1.length : Int) + 1)))), .kv .bool false, .undef, .undef, .undef, .undef, .undef, .undef, .undef, .undef] (fun _ => tabsB TB σ) (fun _ _ => LS.raw v8 3 8 .i l9 :: Ls) (by kernel_rfl) (by kernel_rfl) hE hH
                ⟨⟨⟨⟨⟨⟨⟨⟨⟨⟨⟨⟨⟨trivial,
                anyk (fun k => obR [] (by kernel_rfl) (fun _ => ⟨[], trivial, by kernel_rfl⟩))⟩,
                anyk (fun k => obR [] (by kernel_rfl) (fun _ => ⟨[], trivial, by kernel_rfl⟩))⟩,
                anyk (fun k => obR [] (by kernel_rfl) (fun _ => ⟨[], trivial, by kernel_rfl⟩))⟩,
                anyk (fun k => obR [] (by kernel_rfl) (fun _ => ⟨[], trivial, by kernel_rfl⟩))⟩,
                anyk (fun k => obRe [] (by kernel_rfl) (fun _ => ⟨[], trivial, by kernel_rfl⟩) (eb2 (bf c33) rfl))⟩,
                anyk (fun k => obR [] (by kernel_rfl) (fun _ => ⟨[], trivial, by kernel_rfl⟩))⟩,
                anyk (fun k => obR [] (by kernel_rfl) (fun _ => ⟨[], trivial, by kernel_rfl⟩))⟩,
                anyk (fun k => obR [] (by kernel_rfl) (fun _ => ⟨[], trivial, by kernel_rfl⟩))⟩,
                anyk (fun k => obR [] (by kernel_rfl) (fun _ => ⟨[], trivial, by kernel_rfl⟩))⟩,
                anyk (fun k => obR [] (by kernel_rfl) (fun _ => ⟨[], trivial, by kernel_rfl⟩))⟩,
                anyk (fun k => obR [] (by kernel_rfl) (fun _ => ⟨[], trivial, by kernel_rfl⟩))⟩,
                anyk (fun k => obR [] (by kernel_rfl) (fun _ => ⟨[], trivial, by kernel_rfl⟩))⟩,
                anyk (fun k => obR [] (by kernel_rfl) (fun _ => ⟨[], trivial, by kernel_rfl⟩))⟩ (fun a w G hl6 hE hH => ?_)
        have hle := Gh.le_trans hle hl6
        refine segO 2 [] [(38, .kv .bool false)] (Os := []) trivial hE hH (by kernel_rfl) (fun a hE => ?_)
        refine wpFrom_end (by kernel_rfl) ?_
        refine Exit.then_normal (hK23 _ _ ?_)
        refine condF hE (by kernel_rfl) rfl ?_
        refine wp_skip ?_
        refine Exit.in_normal ?_
        refine Exit.then_normal (hK17 _ _ ?_)
        refine wp_region_from ?_
        refine segO 2 [] [(14, .kv .i (IntKind.wrap .i64 (x10 + 1)))] (Os := []) trivial hE hH (by kernel_rfl) (fun a hE => ?_)
        refine wpFrom_end (by kernel_rfl) ?_
        refine Exit.then_normal ?_
        exact ih14 _ _ _ h _ _ _ v8 hle (hE.subC (by kernel_rfl)) hH hx12
    · replace h := ifF hc h
      refine wp_exit ?_
      refine Exit.then_exit ?_
      refine Exit.then_exit ?_
      cases h
      exact hx12 _ rfl _ _ _ v8 hle (hE.subC (by kernel_rfl)) hH
  refine key _ _ _ hz34 _ _ _ (.slice none 0 0) hle (hE.subC (by kernel_rfl)) hH ?_
  · intro z35 hz a w G v8 hle hE hH
    subst hz
    rw [hQ]
    refine Exit.in_eq ?_
    refine Exit.then_normal (hK3 _ _ ?_)
    refine wp_seq_k (fun K hK36 => ?_)
    refine wp_region_from ?_
    refine segO 1 [] [(50, .val v8)] (Os := []) trivial hE hH (by kernel_rfl) (fun a hE => ?_)
    obtain ⟨q37, h⟩ := gd h
    refine stepCallV (f := 95) (As := [.val v8]) (R := .tup []) (d := (some 51)) (T' := tabsB TB σ) (Ls' := LS.raw v8 3 8 .i (sortedI z34.1) :: Ls) (by kernel_rfl) (fun args hA => ?_) hE (by kernel_rfl) (by kernel_rfl) trivial (fun a w G hl7 hE hH => ?_)
    · obtain rfl := one_val hA
      exact sort87_calls (j := 0) hH rfl q37
    · have hle := Gh.le_trans hle hl7
      obtain ⟨G, hl8, hv38, hH⟩ := hH.pub0
      have hle := Gh.le_trans hle hl8
      have hE := hE.mono hl8
      have hE := EnvR.more (v := v8) (e := .kv (.list .i) (sortedI z34.1)) hE 3 (by kernel_rfl) hv38
      have hE := EnvR.more (v := v8) (e := .kv (.list .i) (sortedI z34.1)) hE 50 (by kernel_rfl) hv38
      refine wpFrom_end (by kernel_rfl) ?_
      refine Exit.then_normal (hK36 _ _ ?_)
      refine wp_seq_k (fun K hK39 => ?_)
      refine wp_region_from ?_
      refine segO 2 [] [(2, .kv (.list .i) (sortedI z34.1))] (Os := []) trivial hE hH (by kernel_rfl) (fun a hE => ?_)
      refine wpFrom_end (by kernel_rfl) ?_
      refine Exit.then_normal (hK39 _ _ ?_)
      refine wp_ret ?_
      cases h
      exact ret1 rfl hE hle hH (by kernel_rfl)
def k_wal_Log_firsts : Kn St := ⟨61, [.kv (.ptr T_wal_Log)], [.kv (.list .i)], .ro fun x σ => f_wal_Log_firsts x.1 σ⟩
theorem k_wal_Log_firsts_ok : k_wal_Log_firsts.ok Tryz.prog TB := ok_of_spec (by kernel_rfl) fun _ _ _ h => f_wal_Log_firsts_ok h
end Go.Proofs.YtbnmhjobnepajaaGreat.M


set_option maxRecDepth 100000
namespace Go.Proofs.YtbnmhjobnepajaaGreat.M
open Go.Proofs
noncomputable def F_wal_digits (self : Int → Option (List UInt8)) (p0 : Int) : Option (List UInt8) :=
  if decide (p0 < 10) = true then
  some (bytesS [IntKind.wrap .u8 (IntKind.wrap .i64 (48 + p0))])
  else
  Option.bind (self (IntKind.wrap .i64 (p0.tdiv (10 : Int)))) fun x0 =>
  if (x0.length + (bytesS [IntKind.wrap .u8 (IntKind.wrap .i64 (48 + p0.tmod (10 : Int)))]).length) ≤ 9223372036854775807 then
  some (x0 ++ bytesS [IntKind.wrap .u8 (IntKind.wrap .i64 (48 + p0.tmod (10 : Int)))])
  else
  none
noncomputable def f_wal_digits (p0 : Int) : Option (List UInt8) :=
  if decide (p0 < 10) = true then
  some (bytesS [IntKind.wrap .u8 (IntKind.wrap .i64 (48 + p0))])
  else
  f_wal_digits (IntKind.wrap .i64 (p0.tdiv (10 : Int))) >>= fun x0 =>
  if (x0.length + (bytesS [IntKind.wrap .u8 (IntKind.wrap .i64 (48 + p0.tmod (10 : Int)))]).length) ≤ 9223372036854775807 then
  some (x0 ++ bytesS [IntKind.wrap .u8 (IntKind.wrap .i64 (48 + p0.tmod (10 : Int)))])
  else
  none
  partial_fixpoint
noncomputable def k_wal_digits : Kn St := ⟨71, [.kv .i], [.kv .str], .ro fun x σ => f_wal_digits x.1⟩
theorem digits_step (self : Int → Option (List UInt8)) (h : Kn.ok Tryz.prog TB (⟨71, [.kv .i], [.kv .str], .ro fun x σ => self x.1⟩ : Kn St)) : Kn.ok Tryz.prog TB (⟨71, [.kv .i], [.kv .str], .ro fun x σ => F_wal_digits self x.1⟩ : Kn St) :=
  roOK ⟨Tryz.prog, TB, 20, KLs, MLs, [], [], [], [⟨71, [.kv .i], [.kv .str], .ro fun x σ => self x.1⟩]⟩ ⟨[], [], [], []⟩ TB_ok ⟨h, trivial⟩ (fn := Tryz.f71) (by kernel_rfl) (by kernel_rfl) (by kernel_rfl)
theorem k_wal_digits_ok : k_wal_digits.ok Tryz.prog TB := by
  have hc : callable Tryz.prog 71 = true := by kernel_rfl
  refine ok_of_runs hc fun x y hx => ?_
  obtain ⟨n, ⟨⟩⟩ := x
  exact f_wal_digits.partial_correctness (fun n r => RunsRO Tryz.prog TB 71 [.kv .i] [.kv .str] (n, ()) r)
    (fun self ih n r h => runs_of_ok (P := Tryz.prog) (TB := TB) (f := 71) (ps := [.kv .i]) (rs := [.kv .str]) (g := fun x => F_wal_digits self x.1) (digits_step self (ok_of_runs hc fun x y hx => ih x.1 y hx)) (x := (n, ())) h) n y hx
end Go.Proofs.YtbnmhjobnepajaaGreat.M


set_option maxRecDepth 100000
namespace Go.Proofs.YtbnmhjobnepajaaGreat.M
open Go.Proofs
noncomputable def f_disk_New (p0 : Int) (σ : St) : Option (((Option Nat) × Int) × St) :=
  if (decide (p0 < 0) || decide (p0 > 1048576)) = true then
  some ((none, (2 : Int)), σ)
  else
  some ((some σ.t_disk_Disk.length, (0 : Int)), (σ.set_disk_Disk (σ.t_disk_Disk ++ [(p0, ([], ((0 : Int), (false, ()))))])))

noncomputable def k_disk_New : Kn St := ⟨8, [.kv .i], [.kv (.ptr T_disk_Disk), .kv .i], .rw fun x σ => f_disk_New x.1 σ⟩

theorem k_disk_New_ok : k_disk_New.ok Tryz.prog TB := rwOK ⟨Tryz.prog, TB, 14, KLs, MLs, [], [], [], []⟩ ⟨[], [], [], []⟩ TB_ok trivial (fn := Tryz.f8) (by kernel_rfl) (by kernel_rfl) (by kernel_rfl)
noncomputable def f_wal_named_l0 (p0 : List UInt8) (s0 : Int) : Option (Int ⊕ (Unit ⊕ Bool)) :=
  if decide (s0 < (p0.length : Int)) = true then
  if 0 ≤ s0 ∧ s0 < (p0.length : Int) then
  if ((!(decide (btS p0 s0 < 97))) = true → 0 ≤ s0 ∧ s0 < (p0.length : Int)) then
  if (decide (btS p0 s0 < 97) || decide (btS p0 s0 > 122)) = true then
  some (.inr (.inr false))
  else
  some (.inl (IntKind.wrap .i64 (s0 + 1)))
  else
  none
  else
  none
  else
  some (.inr (.inl ()))

noncomputable def f_wal_named (p0 : List UInt8) : Option Bool :=
  Option.bind (loopM (f_wal_named_l0 p0) (0 : Int)) fun x1 =>
  sumO x1 (fun x2 =>
  some (decide ((p0.length : Int) ≥ 1) && decide ((p0.length : Int) ≤ 8))) Option.some

noncomputable def k_wal_named : Kn St := ⟨34, [.kv .str], [.kv .bool], .ro fun x σ => f_wal_named x.1⟩

theorem k_wal_named_ok : k_wal_named.ok Tryz.prog TB := roOK ⟨Tryz.prog, TB, 28, KLs, MLs, [], [], [], []⟩ ⟨[], [], [], [(2, ⟨[(6, .kv .i)], false, [⟨.ext 0, []⟩], true, []⟩)]⟩ TB_ok trivial (fn := Tryz.f34) (by kernel_rfl) (by kernel_rfl) (by kernel_rfl)
noncomputable def f_disk_Disk_Down (p0 : Option Nat) (σ : St) : Option Bool :=
  Option.bind (if (!p0.isNone) = true then
  p0
  else
  some 0) fun x0 =>
  Option.bind (if (!p0.isNone) = true then
  σ.t_disk_Disk[x0]?
  else
  some ((0 : Int), ([], ((0 : Int), (false, ()))))) fun x1 =>
  some ((!p0.isNone) && x1.2.2.2.1)

noncomputable def k_disk_Disk_Down : Kn St := ⟨35, [.kv (.ptr T_disk_Disk)], [.kv .bool], .ro fun x σ => f_disk_Disk_Down x.1 σ⟩

theorem k_disk_Disk_Down_ok : k_disk_Disk_Down.ok Tryz.prog TB := roOK ⟨Tryz.prog, TB, 11, KLs, MLs, [], [], [], []⟩ ⟨[], [], [], []⟩ TB_ok trivial (fn := Tryz.f35) (by kernel_rfl) (by kernel_rfl) (by kernel_rfl)
noncomputable def f_wal_Log_last (p0 : Option Nat) (σ : St) : Option (Option Nat) :=
  Option.bind p0 fun x0 =>
  Option.bind σ.t_wal_Log[x0]? fun x1 =>
  if ((x1.2.2.2.1.length : Int) == 0) = true then
  some none
  else
  Option.bind p0 fun x2 =>
  Option.bind σ.t_wal_Log[x2]? fun x3 =>
  Option.bind p0 fun x4 =>
  Option.bind σ.t_wal_Log[x4]? fun x5 =>
  Option.bind (ix x3.2.2.2.1 (IntKind.wrap .i64 ((x5.2.2.2.1.length : Int) - 1))) fun x6 =>
  some x6

noncomputable def k_wal_Log_last : Kn St := ⟨37, [.kv (.ptr T_wal_Log)], [.kv (.ptr T_wal_segment)], .ro fun x σ => f_wal_Log_last x.1 σ⟩

theorem k_wal_Log_last_ok : k_wal_Log_last.ok Tryz.prog TB := roOK ⟨Tryz.prog, TB, 21, KLs, MLs, [], [], [], []⟩ ⟨[], [], [], []⟩ TB_ok trivial (fn := Tryz.f37) (by kernel_rfl) (by kernel_rfl) (by kernel_rfl)
noncomputable def f_wal_Log_Next (p0 : Option Nat) (σ : St) : Option Int :=
  Option.bind (if (!p0.isNone) = true then
  p0
  else
  some 0) fun x0 =>
  Option.bind (if (!p0.isNone) = true then
  σ.t_wal_Log[x0]?
  else
  some (none, ([], ((0 : Int), ([], ((0 : Int), ())))))) fun x1 =>
  if (p0.isNone || ((x1.2.2.2.1.length : Int) == 0)) = true then
  some (0 : Int)
  else
  Option.bind (f_wal_Log_last p0 σ) fun x2 =>
  Option.bind x2 fun x3 =>
  Option.bind σ.t_wal_segment[x3]? fun x4 =>
  Option.bind x2 fun x5 =>
  Option.bind σ.t_wal_segment[x5]? fun x6 =>
  some (IntKind.wrap .i64 (x4.1 + (x6.2.1.length : Int)))

noncomputable def k_wal_Log_Next : Kn St := ⟨30, [.kv (.ptr T_wal_Log)], [.kv .i], .ro fun x σ => f_wal_Log_Next x.1 σ⟩

theorem k_wal_Log_Next_ok : k_wal_Log_Next.ok Tryz.prog TB := roOK ⟨Tryz.prog, TB, 26, KLs, MLs, [], [], [], [k_wal_Log_last]⟩ ⟨[], [], [], []⟩ TB_ok ⟨k_wal_Log_last_ok, trivial⟩ (fn := Tryz.f30) (by kernel_rfl) (by kernel_rfl) (by kernel_rfl)
noncomputable def f_wal_Log_file (p0 : Option Nat) (p1 : Option Nat) (σ : St) : Option (List UInt8) :=
  Option.bind p0 fun x0 =>
  Option.bind σ.t_wal_Log[x0]? fun x1 =>
  if (x1.2.1.length + 1) ≤ 9223372036854775807 then
  Option.bind p1 fun x2 =>
  Option.bind σ.t_wal_segment[x2]? fun x3 =>
  Option.bind (f_wal_digits x3.1) fun x4 =>
  if ((x1.2.1 ++ [46]).length + x4.length) ≤ 9223372036854775807 then
  some ((x1.2.1 ++ [46]) ++ x4)
  else
  none
  else
  none

noncomputable def k_wal_Log_file : Kn St := ⟨40, [.kv (.ptr T_wal_Log), .kv (.ptr T_wal_segment)], [.kv .str], .ro fun x σ => f_wal_Log_file x.1 x.2.1 σ⟩

theorem k_wal_Log_file_ok : k_wal_Log_file.ok Tryz.prog TB := roOK ⟨Tryz.prog, TB, 16, KLs, MLs, [], [], [], [k_wal_digits]⟩ ⟨[], [], [], []⟩ TB_ok ⟨k_wal_digits_ok, trivial⟩ (fn := Tryz.f40) (by kernel_rfl) (by kernel_rfl) (by kernel_rfl)
noncomputable def f_disk_Disk_works (p0 : Option Nat) (σ : St) : Option Int :=
  if p0.isNone = true then
  some (1 : Int)
  else
  Option.bind p0 fun x0 =>
  Option.bind σ.t_disk_Disk[x0]? fun x1 =>
  if x1.2.2.2.1 = true then
  some (11 : Int)
  else
  some (0 : Int)

noncomputable def k_disk_Disk_works : Kn St := ⟨51, [.kv (.ptr T_disk_Disk)], [.kv .i], .ro fun x σ => f_disk_Disk_works x.1 σ⟩

theorem k_disk_Disk_works_ok : k_disk_Disk_works.ok Tryz.prog TB := roOK ⟨Tryz.prog, TB, 11, KLs, MLs, [], [], [], []⟩ ⟨[], [], [], []⟩ TB_ok trivial (fn := Tryz.f51) (by kernel_rfl) (by kernel_rfl) (by kernel_rfl)
noncomputable def f_disk_Disk_find (p0 : Option Nat) (p1 : List UInt8) (σ : St) : Option ((Option Nat) × Int) :=
  Option.bind (f_disk_Disk_works p0 σ) fun x0 =>
  if (x0 != 0) = true then
  some (none, x0)
  else
  Option.bind p0 fun x1 =>
  Option.bind σ.t_disk_Disk[x1]? fun x2 =>
  Option.bind σ.t_disk_Disk[x1]? fun x3 =>
  if ((mapGet Kd.str (Kd.ptr 93) p1 x3.2.1).getD none).isNone = true then
  some (none, (8 : Int))
  else
  some ((mapGet Kd.str (Kd.ptr 93) p1 x3.2.1).getD none, (0 : Int))

noncomputable def k_disk_Disk_find : Kn St := ⟨72, [.kv (.ptr T_disk_Disk), .kv .str], [.kv (.ptr T_disk_file), .kv .i], .ro fun x σ => f_disk_Disk_find x.1 x.2.1 σ⟩

theorem k_disk_Disk_find_ok : k_disk_Disk_find.ok Tryz.prog TB := roOK ⟨Tryz.prog, TB, 22, KLs, MLs, [], [], [], [k_disk_Disk_works]⟩ ⟨[], [], [], []⟩ TB_ok ⟨k_disk_Disk_works_ok, trivial⟩ (fn := Tryz.f72) (by kernel_rfl) (by kernel_rfl) (by kernel_rfl)
noncomputable def f_disk_Disk_Read (p0 : Option Nat) (p1 : List UInt8) (σ : St) : Option ((List UInt8) × Int) :=
  Option.bind (f_disk_Disk_find p0 p1 σ) fun x0 =>
  if (x0.2 != 0) = true then
  some ([], x0.2)
  else
  Option.bind x0.1 fun x1 =>
  Option.bind σ.t_disk_file[x1]? fun x2 =>
  some (x2.1, (0 : Int))

noncomputable def k_disk_Disk_Read : Kn St := ⟨96, [.kv (.ptr T_disk_Disk), .kv .str], [.kv .str, .kv .i], .ro fun x σ => f_disk_Disk_Read x.1 x.2.1 σ⟩

theorem k_disk_Disk_Read_ok : k_disk_Disk_Read.ok Tryz.prog TB := roOK ⟨Tryz.prog, TB, 21, KLs, MLs, [], [], [], [k_disk_Disk_find]⟩ ⟨[], [], [], []⟩ TB_ok ⟨k_disk_Disk_find_ok, trivial⟩ (fn := Tryz.f96) (by kernel_rfl) (by kernel_rfl) (by kernel_rfl)
noncomputable def f_varint_ReadNumber_l0 (p0 : List UInt8) (p1 : Int) (s0 : Int × Int) : Option ((Int × Int) ⊕ (Unit ⊕ (Int × Int × Int))) :=
  if decide (IntKind.wrap .i64 (p1 + s0.2) < (p0.length : Int)) = true then
  if 0 ≤ IntKind.wrap .i64 (p1 + s0.2) ∧ IntKind.wrap .i64 (p1 + s0.2) < (p0.length : Int) then
  if ((s0.2 == 9) && decide (btS p0 (IntKind.wrap .i64 (p1 + s0.2)) > 1)) = true then
  some (.inr (.inr ((0 : Int), ((0 : Int), (6 : Int)))))
  else
  if 0 ≤ IntKind.wrap .i64 (7 * s0.2) then
  if decide (btS p0 (IntKind.wrap .i64 (p1 + s0.2)) ≥ 128) = true then
  some (.inl (IntKind.wrap .u64 ((BitVec.ofInt 64 s0.1 ||| BitVec.ofInt 64 (IntKind.wrap .u64 (IntKind.wrap .u64 (IntKind.wrap .u8 ((BitVec.ofInt 8 (btS p0 (IntKind.wrap .i64 (p1 + s0.2))) &&& BitVec.ofInt 8 (127 : Int)).toNat : Int)) * (2 ^ min ((IntKind.wrap .i64 (7 * s0.2)).toNat) 64)))).toNat : Int), IntKind.wrap .i64 (s0.2 + 1)))
  else
  if ((btS p0 (IntKind.wrap .i64 (p1 + s0.2)) == 0) && decide (s0.2 > 0)) = true then
  some (.inr (.inr ((0 : Int), ((0 : Int), (6 : Int)))))
  else
  Option.bind (if (IntKind.wrap .u64 ((BitVec.ofInt 64 (IntKind.wrap .u64 ((BitVec.ofInt 64 s0.1 ||| BitVec.ofInt 64 (IntKind.wrap .u64 (IntKind.wrap .u64 (IntKind.wrap .u8 ((BitVec.ofInt 8 (btS p0 (IntKind.wrap .i64 (p1 + s0.2))) &&& BitVec.ofInt 8 (127 : Int)).toNat : Int)) * (2 ^ min ((IntKind.wrap .i64 (7 * s0.2)).toNat) 64)))).toNat : Int)) &&& BitVec.ofInt 64 (1 : Int)).toNat : Int) == 1) = true then
  some (IntKind.wrap .i64 ((BitVec.ofInt 64 (-1 : Int) ^^^ BitVec.ofInt 64 (IntKind.wrap .i64 ((IntKind.wrap .u64 ((BitVec.ofInt 64 s0.1 ||| BitVec.ofInt 64 (IntKind.wrap .u64 (IntKind.wrap .u64 (IntKind.wrap .u8 ((BitVec.ofInt 8 (btS p0 (IntKind.wrap .i64 (p1 + s0.2))) &&& BitVec.ofInt 8 (127 : Int)).toNat : Int)) * (2 ^ min ((IntKind.wrap .i64 (7 * s0.2)).toNat) 64)))).toNat : Int)).fdiv (2 : Int)))).toNat : Int))
  else
  some (IntKind.wrap .i64 ((IntKind.wrap .u64 ((BitVec.ofInt 64 s0.1 ||| BitVec.ofInt 64 (IntKind.wrap .u64 (IntKind.wrap .u64 (IntKind.wrap .u8 ((BitVec.ofInt 8 (btS p0 (IntKind.wrap .i64 (p1 + s0.2))) &&& BitVec.ofInt 8 (127 : Int)).toNat : Int)) * (2 ^ min ((IntKind.wrap .i64 (7 * s0.2)).toNat) 64)))).toNat : Int)).fdiv (2 : Int)))) fun x1 =>
  some (.inr (.inr (x1, (IntKind.wrap .i64 (IntKind.wrap .i64 (p1 + s0.2) + 1), (0 : Int)))))
  else
  none
  else
  none
  else
  some (.inr (.inl ()))

noncomputable def f_varint_ReadNumber (p0 : List UInt8) (p1 : Int) : Option (Int × Int × Int) :=
  if (decide (p1 < 0) || decide (p1 > (p0.length : Int))) = true then
  some ((0 : Int), ((0 : Int), (3 : Int)))
  else
  Option.bind (loopM (f_varint_ReadNumber_l0 p0 p1) ((0 : Int), (0 : Int))) fun x2 =>
  sumO x2 (fun x3 =>
  some ((0 : Int), ((0 : Int), (5 : Int)))) Option.some

noncomputable def k_varint_ReadNumber : Kn St := ⟨107, [.kv .str, .kv .i], [.kv .i, .kv .i, .kv .i], .ro fun x σ => f_varint_ReadNumber x.1 x.2.1⟩

theorem k_varint_ReadNumber_ok : k_varint_ReadNumber.ok Tryz.prog TB := roOK ⟨Tryz.prog, TB, 67, KLs, MLs, [], [], [], []⟩ ⟨[], [(16, ⟨[], false, [⟨.nrm, [(10, .kv .i)]⟩], false, []⟩)], [], [(5, ⟨[(7, .kv (.int .u64)), (8, .kv .i)], false, [⟨.ext 0, []⟩], true, []⟩)]⟩ TB_ok trivial (fn := Tryz.f107) (by kernel_rfl) (by kernel_rfl) (by kernel_rfl)
noncomputable def f_check_through_l0 (s0 : Int × Int) : Option ((Int × Int) ⊕ Int) :=
  if decide (s0.2 < 8) = true then
  if (IntKind.wrap .u32 ((BitVec.ofInt 32 s0.1 &&& BitVec.ofInt 32 (1 : Int)).toNat : Int) == 1) = true then
  some (.inl (IntKind.wrap .u32 ((BitVec.ofInt 32 (s0.1.fdiv (2 : Int)) ^^^ BitVec.ofInt 32 (2197175160 : Int)).toNat : Int), IntKind.wrap .i64 (s0.2 + 1)))
  else
  some (.inl (s0.1.fdiv (2 : Int), IntKind.wrap .i64 (s0.2 + 1)))
  else
  some (.inr s0.1)

noncomputable def f_check_through (p0 : Int) (p1 : Int) : Option Int :=
  Option.bind (loopM f_check_through_l0 (IntKind.wrap .u32 ((BitVec.ofInt 32 p0 ^^^ BitVec.ofInt 32 (IntKind.wrap .u32 p1)).toNat : Int), (0 : Int))) fun x1 =>
  some x1

noncomputable def k_check_through : Kn St := ⟨144, [.kv (.int .u32), .kv (.int .u8)], [.kv (.int .u32)], .ro fun x σ => f_check_through x.1 x.2.1⟩

theorem k_check_through_ok : k_check_through.ok Tryz.prog TB := roOK ⟨Tryz.prog, TB, 22, KLs, MLs, [], [], [], []⟩ ⟨[], [], [], [(3, ⟨[(0, .kv (.int .u32)), (10, .kv .i)], false, [⟨.ext 0, [(0, .kv (.int .u32))]⟩], false, []⟩)]⟩ TB_ok trivial (fn := Tryz.f144) (by kernel_rfl) (by kernel_rfl) (by kernel_rfl)
noncomputable def f_check_More_l0 (p1 : List UInt8) (s0 : Int × Int) : Option ((Int × Int) ⊕ Int) :=
  if decide (s0.2 < (p1.length : Int)) = true then
  if 0 ≤ s0.2 ∧ s0.2 < (p1.length : Int) then
  Option.bind (f_check_through s0.1 (btS p1 s0.2)) fun x1 =>
  some (.inl (x1, IntKind.wrap .i64 (s0.2 + 1)))
  else
  none
  else
  some (.inr s0.1)

noncomputable def f_check_More (p0 : Int) (p1 : List UInt8) : Option Int :=
  Option.bind (loopM (f_check_More_l0 p1) (IntKind.wrap .u32 ((BitVec.ofInt 32 (4294967295 : Int) ^^^ BitVec.ofInt 32 p0).toNat : Int), (0 : Int))) fun x2 =>
  some (IntKind.wrap .u32 ((BitVec.ofInt 32 (4294967295 : Int) ^^^ BitVec.ofInt 32 x2).toNat : Int))

noncomputable def k_check_More : Kn St := ⟨115, [.kv (.int .u32), .kv .str], [.kv (.int .u32)], .ro fun x σ => f_check_More x.1 x.2.1⟩

theorem k_check_More_ok : k_check_More.ok Tryz.prog TB := roOK ⟨Tryz.prog, TB, 22, KLs, MLs, [], [], [], [k_check_through]⟩ ⟨[], [], [], [(3, ⟨[(5, .kv (.int .u32)), (11, .kv .i)], false, [⟨.ext 0, [(5, .kv (.int .u32))]⟩], false, []⟩)]⟩ TB_ok ⟨k_check_through_ok, trivial⟩ (fn := Tryz.f115) (by kernel_rfl) (by kernel_rfl) (by kernel_rfl)
noncomputable def f_check_Sum (p0 : List UInt8) : Option Int :=
  Option.bind (f_check_More (0 : Int) p0) fun x0 =>
  some x0

noncomputable def k_check_Sum : Kn St := ⟨101, [.kv .str], [.kv (.int .u32)], .ro fun x σ => f_check_Sum x.1⟩

theorem k_check_Sum_ok : k_check_Sum.ok Tryz.prog TB := roOK ⟨Tryz.prog, TB, 5, KLs, MLs, [], [], [], [k_check_More]⟩ ⟨[], [], [], []⟩ TB_ok ⟨k_check_More_ok, trivial⟩ (fn := Tryz.f101) (by kernel_rfl) (by kernel_rfl) (by kernel_rfl)
noncomputable def f_check_bytes (p0 : Int) : Option (List UInt8) :=
  some (bytesS [IntKind.wrap .u8 p0, IntKind.wrap .u8 (p0.fdiv (256 : Int)), IntKind.wrap .u8 (p0.fdiv (65536 : Int)), IntKind.wrap .u8 (p0.fdiv (16777216 : Int))])

noncomputable def k_check_bytes : Kn St := ⟨100, [.kv (.int .u32)], [.kv .str], .ro fun x σ => f_check_bytes x.1⟩

theorem k_check_bytes_ok : k_check_bytes.ok Tryz.prog TB := roOK ⟨Tryz.prog, TB, 16, KLs, MLs, [], [], [], []⟩ ⟨[], [], [], []⟩ TB_ok trivial (fn := Tryz.f100) (by kernel_rfl) (by kernel_rfl) (by kernel_rfl)
noncomputable def f_check_Open (p0 : List UInt8) : Option ((List UInt8) × Int) :=
  if decide (IntKind.wrap .i64 ((p0.length : Int) - 4) < 0) = true then
  some ([], (5 : Int))
  else
  if 0 ≤ IntKind.wrap .i64 ((p0.length : Int) - 4) ∧ IntKind.wrap .i64 ((p0.length : Int) - 4) ≤ (p0.length : Int) then
  Option.bind (f_check_Sum (p0.take ((IntKind.wrap .i64 ((p0.length : Int) - 4)).toNat))) fun x0 =>
  Option.bind (f_check_bytes x0) fun x1 =>
  if 0 ≤ IntKind.wrap .i64 ((p0.length : Int) - 4) ∧ IntKind.wrap .i64 ((p0.length : Int) - 4) ≤ (p0.length : Int) then
  if (!(x1 == p0.drop ((IntKind.wrap .i64 ((p0.length : Int) - 4)).toNat))) = true then
  some ([], (7 : Int))
  else
  if 0 ≤ IntKind.wrap .i64 ((p0.length : Int) - 4) ∧ IntKind.wrap .i64 ((p0.length : Int) - 4) ≤ (p0.length : Int) then
  some (p0.take ((IntKind.wrap .i64 ((p0.length : Int) - 4)).toNat), (0 : Int))
  else
  none
  else
  none
  else
  none

noncomputable def k_check_Open : Kn St := ⟨143, [.kv .str], [.kv .str, .kv .i], .ro fun x σ => f_check_Open x.1⟩

theorem k_check_Open_ok : k_check_Open.ok Tryz.prog TB := roOK ⟨Tryz.prog, TB, 24, KLs, MLs, [], [], [], [k_check_Sum, k_check_bytes]⟩ ⟨[], [], [], []⟩ TB_ok ⟨k_check_Sum_ok, k_check_bytes_ok, trivial⟩ (fn := Tryz.f143) (by kernel_rfl) (by kernel_rfl) (by kernel_rfl)
noncomputable def f_varint_Number_l0 (s1 : Int × (Int × Int × Int × Int × Int × Int × Int × Int × Int × Int × Unit) × Int) : Option ((Int × (Int × Int × Int × Int × Int × Int × Int × Int × Int × Int × Unit) × Int) ⊕ (Int × (Int × Int × Int × Int × Int × Int × Int × Int × Int × Int × Unit) × Int)) :=
  if decide (s1.1 ≥ 128) = true then
  if 0 ≤ s1.2.2 ∧ s1.2.2 < 10 then
  some (.inl (s1.1.fdiv (128 : Int), (setA (Kd.pair (Kd.int Go.IntKind.u8) (Kd.pair (Kd.int Go.IntKind.u8) (Kd.pair (Kd.int Go.IntKind.u8) (Kd.pair (Kd.int Go.IntKind.u8) (Kd.pair (Kd.int Go.IntKind.u8) (Kd.pair (Kd.int Go.IntKind.u8) (Kd.pair (Kd.int Go.IntKind.u8) (Kd.pair (Kd.int Go.IntKind.u8) (Kd.pair (Kd.int Go.IntKind.u8) (Kd.pair (Kd.int Go.IntKind.u8) Kd.unit)))))))))) s1.2.1 s1.2.2.toNat (IntKind.wrap .u8 ((BitVec.ofInt 8 (IntKind.wrap .u8 s1.1) ||| BitVec.ofInt 8 (128 : Int)).toNat : Int)), IntKind.wrap .i64 (s1.2.2 + 1))))
  else
  none
  else
  some (.inr (s1.1, (s1.2.1, s1.2.2)))

noncomputable def f_varint_Number (p0 : Int) : Option (List UInt8) :=
  Option.bind (if decide (p0 < 0) = true then
  some (IntKind.wrap .u64 ((BitVec.ofInt 64 (18446744073709551615 : Int) ^^^ BitVec.ofInt 64 (IntKind.wrap .u64 (IntKind.wrap .u64 p0 * 2))).toNat : Int))
  else
  some (IntKind.wrap .u64 (IntKind.wrap .u64 p0 * 2))) fun x0 =>
  Option.bind (loopM f_varint_Number_l0 (x0, (((0 : Int), ((0 : Int), ((0 : Int), ((0 : Int), ((0 : Int), ((0 : Int), ((0 : Int), ((0 : Int), ((0 : Int), ((0 : Int), ())))))))))), (0 : Int)))) fun x2 =>
  if 0 ≤ x2.2.2 ∧ x2.2.2 < 10 then
  if 0 ≤ IntKind.wrap .i64 (x2.2.2 + 1) ∧ IntKind.wrap .i64 (x2.2.2 + 1) ≤ 10 then
  if (IntKind.wrap .i64 (x2.2.2 + 1)).toNat ≤ 10 then
  some (bytesS ([(setA (Kd.pair (Kd.int Go.IntKind.u8) (Kd.pair (Kd.int Go.IntKind.u8) (Kd.pair (Kd.int Go.IntKind.u8) (Kd.pair (Kd.int Go.IntKind.u8) (Kd.pair (Kd.int Go.IntKind.u8) (Kd.pair (Kd.int Go.IntKind.u8) (Kd.pair (Kd.int Go.IntKind.u8) (Kd.pair (Kd.int Go.IntKind.u8) (Kd.pair (Kd.int Go.IntKind.u8) (Kd.pair (Kd.int Go.IntKind.u8) Kd.unit)))))))))) x2.2.1 x2.2.2.toNat (IntKind.wrap .u8 x2.1)).1, ((setA (Kd.pair (Kd.int Go.IntKind.u8) (Kd.pair (Kd.int Go.IntKind.u8) (Kd.pair (Kd.int Go.IntKind.u8) (Kd.pair (Kd.int Go.IntKind.u8) (Kd.pair (Kd.int Go.IntKind.u8) (Kd.pair (Kd.int Go.IntKind.u8) (Kd.pair (Kd.int Go.IntKind.u8) (Kd.pair (Kd.int Go.IntKind.u8) (Kd.pair (Kd.int Go.IntKind.u8) (Kd.pair (Kd.int Go.IntKind.u8) Kd.unit)))))))))) x2.2.1 x2.2.2.toNat (IntKind.wrap .u8 x2.1)).2).1, (((setA (Kd.pair (Kd.int Go.IntKind.u8) (Kd.pair (Kd.int Go.IntKind.u8) (Kd.pair (Kd.int Go.IntKind.u8) (Kd.pair (Kd.int Go.IntKind.u8) (Kd.pair (Kd.int Go.IntKind.u8) (Kd.pair (Kd.int Go.IntKind.u8) (Kd.pair (Kd.int Go.IntKind.u8) (Kd.pair (Kd.int Go.IntKind.u8) (Kd.pair (Kd.int Go.IntKind.u8) (Kd.pair (Kd.int Go.IntKind.u8) Kd.unit)))))))))) x2.2.1 x2.2.2.toNat (IntKind.wrap .u8 x2.1)).2).2).1, ((((setA (Kd.pair (Kd.int Go.IntKind.u8) (Kd.pair (Kd.int Go.IntKind.u8) (Kd.pair (Kd.int Go.IntKind.u8) (Kd.pair (Kd.int Go.IntKind.u8) (Kd.pair (Kd.int Go.IntKind.u8) (Kd.pair (Kd.int Go.IntKind.u8) (Kd.pair (Kd.int Go.IntKind.u8) (Kd.pair (Kd.int Go.IntKind.u8) (Kd.pair (Kd.int Go.IntKind.u8) (Kd.pair (Kd.int Go.IntKind.u8) Kd.unit)))))))))) x2.2.1 x2.2.2.toNat (IntKind.wrap .u8 x2.1)).2).2).2).1, (((((setA (Kd.pair (Kd.int Go.IntKind.u8) (Kd.pair (Kd.int Go.IntKind.u8) (Kd.pair (Kd.int Go.IntKind.u8) (Kd.pair (Kd.int Go.IntKind.u8) (Kd.pair (Kd.int Go.IntKind.u8) (Kd.pair (Kd.int Go.IntKind.u8) (Kd.pair (Kd.int Go.IntKind.u8) (Kd.pair (Kd.int Go.IntKind.u8) (Kd.pair (Kd.int Go.IntKind.u8) (Kd.pair (Kd.int Go.IntKind.u8) Kd.unit)))))))))) x2.2.1 x2.2.2.toNat (IntKind.wrap .u8 x2.1)).2).2).2).2).1, ((((((setA (Kd.pair (Kd.int Go.IntKind.u8) (Kd.pair (Kd.int Go.IntKind.u8) (Kd.pair (Kd.int Go.IntKind.u8) (Kd.pair (Kd.int Go.IntKind.u8) (Kd.pair (Kd.int Go.IntKind.u8) (Kd.pair (Kd.int Go.IntKind.u8) (Kd.pair (Kd.int Go.IntKind.u8) (Kd.pair (Kd.int Go.IntKind.u8) (Kd.pair (Kd.int Go.IntKind.u8) (Kd.pair (Kd.int Go.IntKind.u8) Kd.unit)))))))))) x2.2.1 x2.2.2.toNat (IntKind.wrap .u8 x2.1)).2).2).2).2).2).1, (((((((setA (Kd.pair (Kd.int Go.IntKind.u8) (Kd.pair (Kd.int Go.IntKind.u8) (Kd.pair (Kd.int Go.IntKind.u8) (Kd.pair (Kd.int Go.IntKind.u8) (Kd.pair (Kd.int Go.IntKind.u8) (Kd.pair (Kd.int Go.IntKind.u8) (Kd.pair (Kd.int Go.IntKind.u8) (Kd.pair (Kd.int Go.IntKind.u8) (Kd.pair (Kd.int Go.IntKind.u8) (Kd.pair (Kd.int Go.IntKind.u8) Kd.unit)))))))))) x2.2.1 x2.2.2.toNat (IntKind.wrap .u8 x2.1)).2).2).2).2).2).2).1, ((((((((setA (Kd.pair (Kd.int Go.IntKind.u8) (Kd.pair (Kd.int Go.IntKind.u8) (Kd.pair (Kd.int Go.IntKind.u8) (Kd.pair (Kd.int Go.IntKind.u8) (Kd.pair (Kd.int Go.IntKind.u8) (Kd.pair (Kd.int Go.IntKind.u8) (Kd.pair (Kd.int Go.IntKind.u8) (Kd.pair (Kd.int Go.IntKind.u8) (Kd.pair (Kd.int Go.IntKind.u8) (Kd.pair (Kd.int Go.IntKind.u8) Kd.unit)))))))))) x2.2.1 x2.2.2.toNat (IntKind.wrap .u8 x2.1)).2).2).2).2).2).2).2).1, (((((((((setA (Kd.pair (Kd.int Go.IntKind.u8) (Kd.pair (Kd.int Go.IntKind.u8) (Kd.pair (Kd.int Go.IntKind.u8) (Kd.pair (Kd.int Go.IntKind.u8) (Kd.pair (Kd.int Go.IntKind.u8) (Kd.pair (Kd.int Go.IntKind.u8) (Kd.pair (Kd.int Go.IntKind.u8) (Kd.pair (Kd.int Go.IntKind.u8) (Kd.pair (Kd.int Go.IntKind.u8) (Kd.pair (Kd.int Go.IntKind.u8) Kd.unit)))))))))) x2.2.1 x2.2.2.toNat (IntKind.wrap .u8 x2.1)).2).2).2).2).2).2).2).2).1, ((((((((((setA (Kd.pair (Kd.int Go.IntKind.u8) (Kd.pair (Kd.int Go.IntKind.u8) (Kd.pair (Kd.int Go.IntKind.u8) (Kd.pair (Kd.int Go.IntKind.u8) (Kd.pair (Kd.int Go.IntKind.u8) (Kd.pair (Kd.int Go.IntKind.u8) (Kd.pair (Kd.int Go.IntKind.u8) (Kd.pair (Kd.int Go.IntKind.u8) (Kd.pair (Kd.int Go.IntKind.u8) (Kd.pair (Kd.int Go.IntKind.u8) Kd.unit)))))))))) x2.2.1 x2.2.2.toNat (IntKind.wrap .u8 x2.1)).2).2).2).2).2).2).2).2).2).1].take ((IntKind.wrap .i64 (x2.2.2 + 1)).toNat)))
  else
  none
  else
  none
  else
  none

noncomputable def k_varint_Number : Kn St := ⟨66, [.kv .i], [.kv .str], .ro fun x σ => f_varint_Number x.1⟩

theorem k_varint_Number_ok : k_varint_Number.ok Tryz.prog TB := roOK ⟨Tryz.prog, TB, 32, KLs, MLs, [], [], [], []⟩ ⟨[], [(3, ⟨[], false, [⟨.nrm, [(3, .kv (.int .u64))]⟩], false, []⟩)], [], [(6, ⟨[(3, .kv (.int .u64)), (4, .box K_t144), (5, .kv .i)], false, [⟨.ext 0, [(3, .kv (.int .u64)), (4, .box K_t144), (5, .kv .i)]⟩], false, []⟩)]⟩ TB_ok trivial (fn := Tryz.f66) (by kernel_rfl) (by kernel_rfl) (by kernel_rfl)
noncomputable def f_wal_one (p0 : List UInt8) (p1 : Int) (p2 : Int) : Option ((List UInt8) × Int × Bool) :=
  Option.bind (f_varint_ReadNumber p0 p1) fun x0 =>
  if (((x0.2.2 != 0) || decide (x0.1 < 0)) || decide (x0.1 > IntKind.wrap .i64 ((p0.length : Int) - x0.2.1))) = true then
  some ([], ((0 : Int), false))
  else
  if 0 ≤ x0.2.1 ∧ x0.2.1 ≤ IntKind.wrap .i64 (x0.2.1 + x0.1) ∧ IntKind.wrap .i64 (x0.2.1 + x0.1) ≤ (p0.length : Int) then
  Option.bind (f_check_Open ((p0.take ((IntKind.wrap .i64 (x0.2.1 + x0.1)).toNat)).drop x0.2.1.toNat)) fun x1 =>
  if (x1.2 != 0) = true then
  some ([], ((0 : Int), false))
  else
  Option.bind (f_varint_Number p2) fun x2 =>
  if ((!(decide ((x1.1.length : Int) < (x2.length : Int)))) = true → 0 ≤ (x2.length : Int) ∧ (x2.length : Int) ≤ (x1.1.length : Int)) then
  if ((decide ((x1.1.length : Int) < (x2.length : Int)) || (!(x1.1.take ((x2.length : Int).toNat) == x2))) || decide (IntKind.wrap .i64 ((x1.1.length : Int) - (x2.length : Int)) > 1024)) = true then
  some ([], ((0 : Int), false))
  else
  if 0 ≤ (x2.length : Int) ∧ (x2.length : Int) ≤ (x1.1.length : Int) then
  some (x1.1.drop ((x2.length : Int).toNat), (IntKind.wrap .i64 (x0.2.1 + x0.1), true))
  else
  none
  else
  none
  else
  none

noncomputable def k_wal_one : Kn St := ⟨114, [.kv .str, .kv .i, .kv .i], [.kv .str, .kv .i, .kv .bool], .ro fun x σ => f_wal_one x.1 x.2.1 x.2.2.1⟩

theorem k_wal_one_ok : k_wal_one.ok Tryz.prog TB := roOK ⟨Tryz.prog, TB, 77, KLs, MLs, [], [], [], [k_varint_ReadNumber, k_check_Open, k_varint_Number]⟩ ⟨[], [], [], []⟩ TB_ok ⟨k_varint_ReadNumber_ok, k_check_Open_ok, k_varint_Number_ok, trivial⟩ (fn := Tryz.f114) (by kernel_rfl) (by kernel_rfl) (by kernel_rfl)
noncomputable def f_wal_Parse_l0 (p0 : List UInt8) (p1 : Int) (s0 : (List (List UInt8)) × Int) : Option (((List (List UInt8)) × Int) ⊕ ((List (List UInt8)) × Int)) :=
  if decide (p1 ≥ 0) = true then
  Option.bind (f_wal_one p0 s0.2 (IntKind.wrap .i64 (p1 + (s0.1.length : Int)))) fun x1 =>
  if (!x1.2.2) = true then
  some (.inr (s0.1, s0.2))
  else
  if ((s0.1.length + 1) * 16) ≤ 140737488355328 then
  some (.inl ((s0.1 ++ [x1.1]), x1.2.1))
  else
  none
  else
  some (.inr (s0.1, s0.2))

noncomputable def f_wal_Parse (p0 : List UInt8) (p1 : Int) : Option ((List (List UInt8)) × Int) :=
  Option.bind (loopM (f_wal_Parse_l0 p0 p1) ([], (0 : Int))) fun x2 =>
  some (x2.1, x2.2)

noncomputable def k_wal_Parse : Kn St := ⟨97, [.kv .str, .kv .i], [.own 9 16 .str, .kv .i], .ro fun x σ => f_wal_Parse x.1 x.2.1⟩

theorem k_wal_Parse_ok : k_wal_Parse.ok Tryz.prog TB := roOK ⟨Tryz.prog, TB, 33, KLs, MLs, [], [17], [], [k_wal_one]⟩ ⟨[], [], [], [(3, ⟨[(6, .own 9 16 .str), (7, .kv .i)], false, [⟨.ext 0, [(6, .own 9 16 .str), (7, .kv .i)]⟩], false, []⟩)]⟩ TB_ok ⟨k_wal_one_ok, trivial⟩ (fn := Tryz.f97) (by kernel_rfl) (by kernel_rfl) (by kernel_rfl)
noncomputable def f_wal_Log_load (p0 : Option Nat) (p1 : Int) (σ : St) : Option (((Option Nat) × Int × Int) × St) :=
  Option.bind p0 fun x0 =>
  Option.bind σ.t_wal_Log[x0]? fun x1 =>
  Option.bind (f_wal_Log_file p0 (some σ.t_wal_segment.length) (σ.set_wal_segment (σ.t_wal_segment ++ [(p1, ([], ((0 : Int), ())))]))) fun x2 =>
  Option.bind (f_disk_Disk_Read x1.1 x2 (σ.set_wal_segment (σ.t_wal_segment ++ [(p1, ([], ((0 : Int), ())))]))) fun x3 =>
  if (x3.2 != 0) = true then
  some ((none, ((0 : Int), x3.2)), (σ.set_wal_segment (σ.t_wal_segment ++ [(p1, ([], ((0 : Int), ())))])))
  else
  Option.bind (f_wal_Parse x3.1 p1) fun x4 =>
  Option.bind ((σ.t_wal_segment ++ [(p1, ([], ((0 : Int), ())))])[σ.t_wal_segment.length]?) fun x5 =>
  Option.bind (((σ.t_wal_segment ++ [(p1, ([], ((0 : Int), ())))]).set σ.t_wal_segment.length (x5.1, (x4.1, x5.2.2)))[σ.t_wal_segment.length]?) fun x6 =>
  Option.bind ((((σ.t_wal_segment ++ [(p1, ([], ((0 : Int), ())))]).set σ.t_wal_segment.length (x5.1, (x4.1, x5.2.2))).set σ.t_wal_segment.length (x6.1, (x6.2.1, (x4.2, x6.2.2.2))))[σ.t_wal_segment.length]?) fun x7 =>
  some ((some σ.t_wal_segment.length, (IntKind.wrap .i64 ((x3.1.length : Int) - x7.2.2.1), (0 : Int))), (((σ.set_wal_segment (σ.t_wal_segment ++ [(p1, ([], ((0 : Int), ())))])).set_wal_segment ((σ.t_wal_segment ++ [(p1, ([], ((0 : Int), ())))]).set σ.t_wal_segment.length (x5.1, (x4.1, x5.2.2)))).set_wal_segment (((σ.t_wal_segment ++ [(p1, ([], ((0 : Int), ())))]).set σ.t_wal_segment.length (x5.1, (x4.1, x5.2.2))).set σ.t_wal_segment.length (x6.1, (x6.2.1, (x4.2, x6.2.2.2))))))

noncomputable def k_wal_Log_load : Kn St := ⟨62, [.kv (.ptr T_wal_Log), .kv .i], [.kv (.ptr T_wal_segment), .kv .i, .kv .i], .rw fun x σ => f_wal_Log_load x.1 x.2.1 σ⟩

theorem k_wal_Log_load_ok : k_wal_Log_load.ok Tryz.prog TB := rwOK ⟨Tryz.prog, TB, 47, KLs, MLs, [], [], [], [k_wal_Log_file, k_disk_Disk_Read, k_wal_Parse]⟩ ⟨[], [], [], []⟩ TB_ok ⟨k_wal_Log_file_ok, k_disk_Disk_Read_ok, k_wal_Parse_ok, trivial⟩ (fn := Tryz.f62) (by kernel_rfl) (by kernel_rfl) (by kernel_rfl)
noncomputable def f_disk_Disk_Remove_1 (p0 : Nat) (p1 : Nat) (σ : St) : Option (Unit × St) :=
  Option.bind σ.t_c_t23[p0]? fun x0 =>
  Option.bind x0.1 fun x1 =>
  Option.bind σ.t_disk_Disk[x1]? fun x2 =>
  Option.bind σ.t_c_t9[p1]? fun x3 =>
  Option.bind σ.t_disk_Disk[x1]? fun x4 =>
  some ((), (σ.set_disk_Disk (σ.t_disk_Disk.set x1 (x4.1, (mapDel Kd.str (Kd.ptr 93) x3.1 x4.2.1, x4.2.2)))))

noncomputable def k_disk_Disk_Remove_1 : Kn St := ⟨98, [.cap T_c_t23, .cap T_c_t9], [], .rw fun x σ => f_disk_Disk_Remove_1 x.1 x.2.1 σ⟩

theorem k_disk_Disk_Remove_1_ok : k_disk_Disk_Remove_1.ok Tryz.prog TB := rwOK ⟨Tryz.prog, TB, 7, KLs, MLs, [], [], [], []⟩ ⟨[], [], [], []⟩ TB_ok trivial (fn := Tryz.f98) (by kernel_rfl) (by kernel_rfl) (by kernel_rfl)
noncomputable def f_disk_Disk_write_disk_Disk_Remove_1 (p0 : Option Nat) (p1 : Nat × Nat × Unit) (σ : St) : Option (Int × St) :=
  Option.bind p0 fun x0 =>
  Option.bind σ.t_disk_Disk[x0]? fun x1 =>
  if decide (x1.2.2.1 > 0) = true then
  Option.bind p0 fun x2 =>
  Option.bind σ.t_disk_Disk[x2]? fun x3 =>
  Option.bind p0 fun x4 =>
  Option.bind σ.t_disk_Disk[x4]? fun x5 =>
  Option.bind p0 fun x6 =>
  Option.bind ((σ.t_disk_Disk.set x4 (x5.1, (x5.2.1, (IntKind.wrap .i64 (x3.2.2.1 - 1), x5.2.2.2))))[x6]?) fun x7 =>
  if (x7.2.2.1 == 0) = true then
  Option.bind p0 fun x8 =>
  Option.bind ((σ.t_disk_Disk.set x4 (x5.1, (x5.2.1, (IntKind.wrap .i64 (x3.2.2.1 - 1), x5.2.2.2))))[x8]?) fun x9 =>
  some ((11 : Int), ((σ.set_disk_Disk (σ.t_disk_Disk.set x4 (x5.1, (x5.2.1, (IntKind.wrap .i64 (x3.2.2.1 - 1), x5.2.2.2))))).set_disk_Disk ((σ.t_disk_Disk.set x4 (x5.1, (x5.2.1, (IntKind.wrap .i64 (x3.2.2.1 - 1), x5.2.2.2)))).set x8 (x9.1, (x9.2.1, (x9.2.2.1, (true, x9.2.2.2.2)))))))
  else
  Option.bind (f_disk_Disk_Remove_1 p1.1 p1.2.1 (σ.set_disk_Disk (σ.t_disk_Disk.set x4 (x5.1, (x5.2.1, (IntKind.wrap .i64 (x3.2.2.1 - 1), x5.2.2.2)))))) fun x10 =>
  some ((0 : Int), x10.2)
  else
  Option.bind (f_disk_Disk_Remove_1 p1.1 p1.2.1 σ) fun x11 =>
  some ((0 : Int), x11.2)

noncomputable def k_disk_Disk_write_disk_Disk_Remove_1 : Kn St := ⟨69, [.kv (.ptr T_disk_Disk), .clo 98 [T_c_t23, T_c_t9]], [.kv .i], .rw fun x σ => f_disk_Disk_write_disk_Disk_Remove_1 x.1 x.2.1 σ⟩

theorem k_disk_Disk_write_disk_Disk_Remove_1_ok : k_disk_Disk_write_disk_Disk_Remove_1.ok Tryz.prog TB := rwOK ⟨Tryz.prog, TB, 27, KLs, MLs, [], [], [], [k_disk_Disk_Remove_1]⟩ ⟨[], [], [], []⟩ TB_ok ⟨k_disk_Disk_Remove_1_ok, trivial⟩ (fn := Tryz.f69) (by kernel_rfl) (by kernel_rfl) (by kernel_rfl)
noncomputable def f_disk_Disk_Remove (p0 : Option Nat) (p1 : List UInt8) (σ : St) : Option (Int × St) :=
  Option.bind ((σ.t_c_t23 ++ [(p0, ())])[σ.t_c_t23.length]?) fun x0 =>
  Option.bind ((σ.t_c_t9 ++ [(p1, ())])[σ.t_c_t9.length]?) fun x1 =>
  Option.bind (f_disk_Disk_find x0.1 x1.1 ((σ.set_c_t23 (σ.t_c_t23 ++ [(p0, ())])).set_c_t9 (σ.t_c_t9 ++ [(p1, ())]))) fun x2 =>
  if (x2.2 != 0) = true then
  some (x2.2, ((σ.set_c_t23 (σ.t_c_t23 ++ [(p0, ())])).set_c_t9 (σ.t_c_t9 ++ [(p1, ())])))
  else
  Option.bind ((σ.t_c_t23 ++ [(p0, ())])[σ.t_c_t23.length]?) fun x3 =>
  Option.bind (f_disk_Disk_write_disk_Disk_Remove_1 x3.1 (σ.t_c_t23.length, (σ.t_c_t9.length, ())) ((σ.set_c_t23 (σ.t_c_t23 ++ [(p0, ())])).set_c_t9 (σ.t_c_t9 ++ [(p1, ())]))) fun x4 =>
  some (x4.1, x4.2)

noncomputable def k_disk_Disk_Remove : Kn St := ⟨63, [.kv (.ptr T_disk_Disk), .kv .str], [.kv .i], .rw fun x σ => f_disk_Disk_Remove x.1 x.2.1 σ⟩

theorem k_disk_Disk_Remove_ok : k_disk_Disk_Remove.ok Tryz.prog TB := rwOK ⟨Tryz.prog, TB, 19, KLs, MLs, [2, 3], [], [], [k_disk_Disk_find, k_disk_Disk_write_disk_Disk_Remove_1]⟩ ⟨[], [], [], []⟩ TB_ok ⟨k_disk_Disk_find_ok, k_disk_Disk_write_disk_Disk_Remove_1_ok, trivial⟩ (fn := Tryz.f63) (by kernel_rfl) (by kernel_rfl) (by kernel_rfl)
noncomputable def f_disk_Disk_Truncate_1 (p0 : Nat) (p1 : Nat) (σ : St) : Option (Unit × St) :=
  Option.bind σ.t_c_t91[p0]? fun x0 =>
  Option.bind σ.t_c_t91[p0]? fun x1 =>
  Option.bind x1.1 fun x2 =>
  Option.bind σ.t_disk_file[x2]? fun x3 =>
  Option.bind σ.t_c_t3[p1]? fun x4 =>
  if 0 ≤ x4.1 ∧ x4.1 ≤ (x3.1.length : Int) then
  Option.bind σ.t_c_t91[p0]? fun x5 =>
  Option.bind x5.1 fun x6 =>
  Option.bind σ.t_disk_file[x6]? fun x7 =>
  Option.bind x0.1 fun x8 =>
  Option.bind σ.t_disk_file[x8]? fun x9 =>
  Option.bind σ.t_c_t91[p0]? fun x10 =>
  Option.bind σ.t_c_t91[p0]? fun x11 =>
  if x10.1 = x11.1 then
  Option.bind σ.t_c_t3[p1]? fun x12 =>
  Option.bind σ.t_c_t3[p1]? fun x13 =>
  if x12.1 = x13.1 then
  Option.bind x10.1 fun x14 =>
  Option.bind ((σ.t_disk_file.set x8 (x3.1.take x4.1.toNat, x9.2))[x14]?) fun x15 =>
  some ((), ((σ.set_disk_file (σ.t_disk_file.set x8 (x3.1.take x4.1.toNat, x9.2))).set_disk_file ((σ.t_disk_file.set x8 (x3.1.take x4.1.toNat, x9.2)).set x14 (x15.1, (if x12.1 < x7.2.1 then
  x12.1
  else
  x7.2.1, x15.2.2)))))
  else
  none
  else
  none
  else
  none

noncomputable def k_disk_Disk_Truncate_1 : Kn St := ⟨99, [.cap T_c_t91, .cap T_c_t3], [], .rw fun x σ => f_disk_Disk_Truncate_1 x.1 x.2.1 σ⟩

theorem k_disk_Disk_Truncate_1_ok : k_disk_Disk_Truncate_1.ok Tryz.prog TB := rwOK ⟨Tryz.prog, TB, 20, KLs, MLs, [], [], [], []⟩ ⟨[], [], [], []⟩ TB_ok trivial (fn := Tryz.f99) (by kernel_rfl) (by kernel_rfl) (by kernel_rfl)
noncomputable def f_disk_Disk_write_disk_Disk_Truncate_1 (p0 : Option Nat) (p1 : Nat × Nat × Unit) (σ : St) : Option (Int × St) :=
  Option.bind p0 fun x0 =>
  Option.bind σ.t_disk_Disk[x0]? fun x1 =>
  if decide (x1.2.2.1 > 0) = true then
  Option.bind p0 fun x2 =>
  Option.bind σ.t_disk_Disk[x2]? fun x3 =>
  Option.bind p0 fun x4 =>
  Option.bind σ.t_disk_Disk[x4]? fun x5 =>
  Option.bind p0 fun x6 =>
  Option.bind ((σ.t_disk_Disk.set x4 (x5.1, (x5.2.1, (IntKind.wrap .i64 (x3.2.2.1 - 1), x5.2.2.2))))[x6]?) fun x7 =>
  if (x7.2.2.1 == 0) = true then
  Option.bind p0 fun x8 =>
  Option.bind ((σ.t_disk_Disk.set x4 (x5.1, (x5.2.1, (IntKind.wrap .i64 (x3.2.2.1 - 1), x5.2.2.2))))[x8]?) fun x9 =>
  some ((11 : Int), ((σ.set_disk_Disk (σ.t_disk_Disk.set x4 (x5.1, (x5.2.1, (IntKind.wrap .i64 (x3.2.2.1 - 1), x5.2.2.2))))).set_disk_Disk ((σ.t_disk_Disk.set x4 (x5.1, (x5.2.1, (IntKind.wrap .i64 (x3.2.2.1 - 1), x5.2.2.2)))).set x8 (x9.1, (x9.2.1, (x9.2.2.1, (true, x9.2.2.2.2)))))))
  else
  Option.bind (f_disk_Disk_Truncate_1 p1.1 p1.2.1 (σ.set_disk_Disk (σ.t_disk_Disk.set x4 (x5.1, (x5.2.1, (IntKind.wrap .i64 (x3.2.2.1 - 1), x5.2.2.2)))))) fun x10 =>
  some ((0 : Int), x10.2)
  else
  Option.bind (f_disk_Disk_Truncate_1 p1.1 p1.2.1 σ) fun x11 =>
  some ((0 : Int), x11.2)

noncomputable def k_disk_Disk_write_disk_Disk_Truncate_1 : Kn St := ⟨69, [.kv (.ptr T_disk_Disk), .clo 99 [T_c_t91, T_c_t3]], [.kv .i], .rw fun x σ => f_disk_Disk_write_disk_Disk_Truncate_1 x.1 x.2.1 σ⟩

theorem k_disk_Disk_write_disk_Disk_Truncate_1_ok : k_disk_Disk_write_disk_Disk_Truncate_1.ok Tryz.prog TB := rwOK ⟨Tryz.prog, TB, 27, KLs, MLs, [], [], [], [k_disk_Disk_Truncate_1]⟩ ⟨[], [], [], []⟩ TB_ok ⟨k_disk_Disk_Truncate_1_ok, trivial⟩ (fn := Tryz.f69) (by kernel_rfl) (by kernel_rfl) (by kernel_rfl)
noncomputable def f_disk_Disk_Truncate (p0 : Option Nat) (p1 : List UInt8) (p2 : Int) (σ : St) : Option (Int × St) :=
  Option.bind (f_disk_Disk_find p0 p1 (σ.set_c_t3 (σ.t_c_t3 ++ [(p2, ())]))) fun x0 =>
  Option.bind ((σ.t_c_t91 ++ [(none, ())])[σ.t_c_t91.length]?) fun x1 =>
  if (x0.2 != 0) = true then
  some (x0.2, (((σ.set_c_t3 (σ.t_c_t3 ++ [(p2, ())])).set_c_t91 (σ.t_c_t91 ++ [(none, ())])).set_c_t91 ((σ.t_c_t91 ++ [(none, ())]).set σ.t_c_t91.length (x0.1, x1.2))))
  else
  Option.bind ((σ.t_c_t3 ++ [(p2, ())])[σ.t_c_t3.length]?) fun x2 =>
  if (!(decide (x2.1 < 0))) = true then
  Option.bind ((σ.t_c_t3 ++ [(p2, ())])[σ.t_c_t3.length]?) fun x3 =>
  Option.bind (((σ.t_c_t91 ++ [(none, ())]).set σ.t_c_t91.length (x0.1, x1.2))[σ.t_c_t91.length]?) fun x4 =>
  Option.bind x4.1 fun x5 =>
  Option.bind σ.t_disk_file[x5]? fun x6 =>
  if decide (x3.1 > (x6.1.length : Int)) = true then
  some ((3 : Int), (((σ.set_c_t3 (σ.t_c_t3 ++ [(p2, ())])).set_c_t91 (σ.t_c_t91 ++ [(none, ())])).set_c_t91 ((σ.t_c_t91 ++ [(none, ())]).set σ.t_c_t91.length (x0.1, x1.2))))
  else
  Option.bind (f_disk_Disk_write_disk_Disk_Truncate_1 p0 (σ.t_c_t91.length, (σ.t_c_t3.length, ())) (((σ.set_c_t3 (σ.t_c_t3 ++ [(p2, ())])).set_c_t91 (σ.t_c_t91 ++ [(none, ())])).set_c_t91 ((σ.t_c_t91 ++ [(none, ())]).set σ.t_c_t91.length (x0.1, x1.2)))) fun x7 =>
  some (x7.1, x7.2)
  else
  some ((3 : Int), (((σ.set_c_t3 (σ.t_c_t3 ++ [(p2, ())])).set_c_t91 (σ.t_c_t91 ++ [(none, ())])).set_c_t91 ((σ.t_c_t91 ++ [(none, ())]).set σ.t_c_t91.length (x0.1, x1.2))))

noncomputable def k_disk_Disk_Truncate : Kn St := ⟨64, [.kv (.ptr T_disk_Disk), .kv .str, .kv .i], [.kv .i], .rw fun x σ => f_disk_Disk_Truncate x.1 x.2.1 x.2.2.1 σ⟩

theorem k_disk_Disk_Truncate_ok : k_disk_Disk_Truncate.ok Tryz.prog TB := rwOK ⟨Tryz.prog, TB, 34, KLs, MLs, [7, 5], [], [], [k_disk_Disk_find, k_disk_Disk_write_disk_Disk_Truncate_1]⟩ ⟨[], [], [], []⟩ TB_ok ⟨k_disk_Disk_find_ok, k_disk_Disk_write_disk_Disk_Truncate_1_ok, trivial⟩ (fn := Tryz.f64) (by kernel_rfl) (by kernel_rfl) (by kernel_rfl)
noncomputable def f_disk_Disk_Sync_1 (p0 : Nat) (σ : St) : Option (Unit × St) :=
  Option.bind σ.t_c_t91[p0]? fun x0 =>
  Option.bind σ.t_c_t91[p0]? fun x1 =>
  Option.bind x1.1 fun x2 =>
  Option.bind σ.t_disk_file[x2]? fun x3 =>
  Option.bind x0.1 fun x4 =>
  Option.bind σ.t_disk_file[x4]? fun x5 =>
  some ((), (σ.set_disk_file (σ.t_disk_file.set x4 (x5.1, ((x3.1.length : Int), x5.2.2)))))

noncomputable def k_disk_Disk_Sync_1 : Kn St := ⟨73, [.cap T_c_t91], [], .rw fun x σ => f_disk_Disk_Sync_1 x.1 σ⟩

theorem k_disk_Disk_Sync_1_ok : k_disk_Disk_Sync_1.ok Tryz.prog TB := rwOK ⟨Tryz.prog, TB, 9, KLs, MLs, [], [], [], []⟩ ⟨[], [], [], []⟩ TB_ok trivial (fn := Tryz.f73) (by kernel_rfl) (by kernel_rfl) (by kernel_rfl)
noncomputable def f_disk_Disk_write_disk_Disk_Sync_1 (p0 : Option Nat) (p1 : Nat × Unit) (σ : St) : Option (Int × St) :=
  Option.bind p0 fun x0 =>
  Option.bind σ.t_disk_Disk[x0]? fun x1 =>
  if decide (x1.2.2.1 > 0) = true then
  Option.bind p0 fun x2 =>
  Option.bind σ.t_disk_Disk[x2]? fun x3 =>
  Option.bind p0 fun x4 =>
  Option.bind σ.t_disk_Disk[x4]? fun x5 =>
  Option.bind p0 fun x6 =>
  Option.bind ((σ.t_disk_Disk.set x4 (x5.1, (x5.2.1, (IntKind.wrap .i64 (x3.2.2.1 - 1), x5.2.2.2))))[x6]?) fun x7 =>
  if (x7.2.2.1 == 0) = true then
  Option.bind p0 fun x8 =>
  Option.bind ((σ.t_disk_Disk.set x4 (x5.1, (x5.2.1, (IntKind.wrap .i64 (x3.2.2.1 - 1), x5.2.2.2))))[x8]?) fun x9 =>
  some ((11 : Int), ((σ.set_disk_Disk (σ.t_disk_Disk.set x4 (x5.1, (x5.2.1, (IntKind.wrap .i64 (x3.2.2.1 - 1), x5.2.2.2))))).set_disk_Disk ((σ.t_disk_Disk.set x4 (x5.1, (x5.2.1, (IntKind.wrap .i64 (x3.2.2.1 - 1), x5.2.2.2)))).set x8 (x9.1, (x9.2.1, (x9.2.2.1, (true, x9.2.2.2.2)))))))
  else
  Option.bind (f_disk_Disk_Sync_1 p1.1 (σ.set_disk_Disk (σ.t_disk_Disk.set x4 (x5.1, (x5.2.1, (IntKind.wrap .i64 (x3.2.2.1 - 1), x5.2.2.2)))))) fun x10 =>
  some ((0 : Int), x10.2)
  else
  Option.bind (f_disk_Disk_Sync_1 p1.1 σ) fun x11 =>
  some ((0 : Int), x11.2)

noncomputable def k_disk_Disk_write_disk_Disk_Sync_1 : Kn St := ⟨69, [.kv (.ptr T_disk_Disk), .clo 73 [T_c_t91]], [.kv .i], .rw fun x σ => f_disk_Disk_write_disk_Disk_Sync_1 x.1 x.2.1 σ⟩

theorem k_disk_Disk_write_disk_Disk_Sync_1_ok : k_disk_Disk_write_disk_Disk_Sync_1.ok Tryz.prog TB := rwOK ⟨Tryz.prog, TB, 27, KLs, MLs, [], [], [], [k_disk_Disk_Sync_1]⟩ ⟨[], [], [], []⟩ TB_ok ⟨k_disk_Disk_Sync_1_ok, trivial⟩ (fn := Tryz.f69) (by kernel_rfl) (by kernel_rfl) (by kernel_rfl)
noncomputable def f_disk_Disk_Sync (p0 : Option Nat) (p1 : List UInt8) (σ : St) : Option (Int × St) :=
  Option.bind (f_disk_Disk_find p0 p1 σ) fun x0 =>
  Option.bind ((σ.t_c_t91 ++ [(none, ())])[σ.t_c_t91.length]?) fun x1 =>
  if (x0.2 != 0) = true then
  some (x0.2, ((σ.set_c_t91 (σ.t_c_t91 ++ [(none, ())])).set_c_t91 ((σ.t_c_t91 ++ [(none, ())]).set σ.t_c_t91.length (x0.1, x1.2))))
  else
  Option.bind (f_disk_Disk_write_disk_Disk_Sync_1 p0 (σ.t_c_t91.length, ()) ((σ.set_c_t91 (σ.t_c_t91 ++ [(none, ())])).set_c_t91 ((σ.t_c_t91 ++ [(none, ())]).set σ.t_c_t91.length (x0.1, x1.2)))) fun x2 =>
  some (x2.1, x2.2)

noncomputable def k_disk_Disk_Sync : Kn St := ⟨41, [.kv (.ptr T_disk_Disk), .kv .str], [.kv .i], .rw fun x σ => f_disk_Disk_Sync x.1 x.2.1 σ⟩

theorem k_disk_Disk_Sync_ok : k_disk_Disk_Sync.ok Tryz.prog TB := rwOK ⟨Tryz.prog, TB, 19, KLs, MLs, [5], [], [], [k_disk_Disk_find, k_disk_Disk_write_disk_Disk_Sync_1]⟩ ⟨[], [], [], []⟩ TB_ok ⟨k_disk_Disk_find_ok, k_disk_Disk_write_disk_Disk_Sync_1_ok, trivial⟩ (fn := Tryz.f41) (by kernel_rfl) (by kernel_rfl) (by kernel_rfl)
noncomputable def f_wal_Log_Sync (p0 : Option Nat) (σ : St) : Option (Int × St) :=
  if p0.isNone = true then
  some ((1 : Int), σ)
  else
  Option.bind (f_wal_Log_last p0 σ) fun x0 =>
  Option.bind (if (!x0.isNone) = true then
  Option.bind p0 fun x1 =>
  Option.bind σ.t_wal_Log[x1]? fun x2 =>
  Option.bind (f_wal_Log_file p0 x0 σ) fun x3 =>
  Option.bind (f_disk_Disk_Sync x2.1 x3 σ) fun x4 =>
  if (x4.1 != 0) = true then
  some (.inr (x4.1, x4.2))
  else
  some (.inl x4.2)
  else
  some (.inl σ)) fun x5 =>
  sumO x5 (fun x6 =>
  Option.bind (f_wal_Log_Next p0 x6) fun x7 =>
  Option.bind p0 fun x8 =>
  Option.bind x6.t_wal_Log[x8]? fun x9 =>
  some ((0 : Int), (x6.set_wal_Log (x6.t_wal_Log.set x8 (x9.1, (x9.2.1, (x9.2.2.1, (x9.2.2.2.1, (x7, x9.2.2.2.2.2))))))))) Option.some

noncomputable def k_wal_Log_Sync : Kn St := ⟨14, [.kv (.ptr T_wal_Log)], [.kv .i], .rw fun x σ => f_wal_Log_Sync x.1 σ⟩

theorem k_wal_Log_Sync_ok : k_wal_Log_Sync.ok Tryz.prog TB := rwOK ⟨Tryz.prog, TB, 27, KLs, MLs, [], [], [], [k_wal_Log_last, k_wal_Log_file, k_disk_Disk_Sync, k_wal_Log_Next]⟩ ⟨[], [(5, ⟨[], true, [⟨.nrm, []⟩], true, []⟩)], [], []⟩ TB_ok ⟨k_wal_Log_last_ok, k_wal_Log_file_ok, k_disk_Disk_Sync_ok, k_wal_Log_Next_ok, trivial⟩ (fn := Tryz.f14) (by kernel_rfl) (by kernel_rfl) (by kernel_rfl)
noncomputable def f_wal_Log_recover_l0 (p0 : Option Nat) (x0 : List Int) (s1 : Int × Int × Int × St) : Option ((Int × Int × Int × St) ⊕ ((Int × Int × St) ⊕ (Int × St))) :=
  if decide (s1.2.2.1 < (x0.length : Int)) = true then
  Option.bind (ix x0 s1.2.2.1) fun x2 =>
  Option.bind (if (decide (s1.2.2.1 > 0) && (!(decide (s1.1 > 0)))) = true then
  f_wal_Log_Next p0 s1.2.2.2
  else
  some (0 : Int)) fun x3 =>
  if (decide (s1.2.2.1 > 0) && (decide (s1.1 > 0) || (x2 != x3))) = true then
  some (.inr (.inl (s1.1, (s1.2.1, s1.2.2.2))))
  else
  Option.bind (f_wal_Log_load p0 x2 s1.2.2.2) fun x4 =>
  if (x4.1.2.2 != 0) = true then
  some (.inr (.inr (x4.1.2.2, x4.2)))
  else
  Option.bind p0 fun x5 =>
  Option.bind x4.2.t_wal_Log[x5]? fun x6 =>
  if ((x6.2.2.2.1.length + 1) * 8) ≤ 140737488355328 then
  Option.bind p0 fun x7 =>
  Option.bind x4.2.t_wal_Log[x7]? fun x8 =>
  if x5 = x7 ∧ true = true then
  some (.inl (x4.1.2.1, (IntKind.wrap .i64 (s1.2.2.1 + 1), (IntKind.wrap .i64 (s1.2.2.1 + 1), (x4.2.set_wal_Log (x4.2.t_wal_Log.set x7 (x8.1, (x8.2.1, (x8.2.2.1, ((x6.2.2.2.1 ++ [x4.1.1]), x8.2.2.2.2))))))))))
  else
  none
  else
  none
  else
  some (.inr (.inl (s1.1, (s1.2.1, s1.2.2.2))))

noncomputable def f_wal_Log_recover_l1 (p0 : Option Nat) (x0 : List Int) (x10 : Int × Int × St) (x12 : (Option Nat) × (List UInt8) × Int × (List (Option Nat)) × Int × Unit) (s13 : Int × St) : Option ((Int × St) ⊕ (St ⊕ (Int × St))) :=
  if decide (s13.1 ≥ x10.2.1) = true then
  Option.bind (ix x0 s13.1) fun x14 =>
  Option.bind (f_wal_Log_file p0 (some s13.2.t_wal_segment.length) (s13.2.set_wal_segment (s13.2.t_wal_segment ++ [(x14, ([], ((0 : Int), ())))]))) fun x15 =>
  Option.bind (f_disk_Disk_Remove x12.1 x15 (s13.2.set_wal_segment (s13.2.t_wal_segment ++ [(x14, ([], ((0 : Int), ())))]))) fun x16 =>
  if (x16.1 != 0) = true then
  some (.inr (.inr (x16.1, x16.2)))
  else
  some (.inl (IntKind.wrap .i64 (s13.1 - 1), x16.2))
  else
  some (.inr (.inl s13.2))

noncomputable def f_wal_Log_recover (p0 : Option Nat) (σ : St) : Option (Int × St) :=
  Option.bind (f_wal_Log_firsts p0 σ) fun x0 =>
  Option.bind (loopM (f_wal_Log_recover_l0 p0 x0) ((0 : Int), ((0 : Int), ((0 : Int), σ)))) fun x9 =>
  sumO x9 (fun x10 =>
  Option.bind p0 fun x11 =>
  Option.bind x10.2.2.t_wal_Log[x11]? fun x12 =>
  Option.bind (loopM (f_wal_Log_recover_l1 p0 x0 x10 x12) (IntKind.wrap .i64 ((x0.length : Int) - 1), x10.2.2)) fun x17 =>
  sumO x17 (fun x18 =>
  if (x10.2.1 == 0) = true then
  some ((0 : Int), x18)
  else
  Option.bind p0 fun x19 =>
  Option.bind x18.t_wal_Log[x19]? fun x20 =>
  Option.bind (ix x20.2.2.2.1 (IntKind.wrap .i64 (x10.2.1 - 1))) fun x21 =>
  if decide (x10.1 > 0) = true then
  Option.bind p0 fun x22 =>
  Option.bind x18.t_wal_Log[x22]? fun x23 =>
  Option.bind (f_wal_Log_file p0 x21 x18) fun x24 =>
  Option.bind x21 fun x25 =>
  Option.bind x18.t_wal_segment[x25]? fun x26 =>
  Option.bind (f_disk_Disk_Truncate x23.1 x24 x26.2.2.1 x18) fun x27 =>
  if (x27.1 != 0) = true then
  some (x27.1, x27.2)
  else
  Option.bind (f_wal_Log_Sync p0 x27.2) fun x28 =>
  some (x28.1, x28.2)
  else
  Option.bind (f_wal_Log_Sync p0 x18) fun x29 =>
  some (x29.1, x29.2)) Option.some) Option.some

noncomputable def k_wal_Log_recover : Kn St := ⟨36, [.kv (.ptr T_wal_Log)], [.kv .i], .rw fun x σ => f_wal_Log_recover x.1 σ⟩

theorem k_wal_Log_recover_ok : k_wal_Log_recover.ok Tryz.prog TB := rwOK ⟨Tryz.prog, TB, 116, KLs, MLs, [], [], [51], [k_wal_Log_firsts, k_wal_Log_Next, k_wal_Log_load, k_wal_Log_file, k_disk_Disk_Remove, k_disk_Disk_Truncate, k_wal_Log_Sync]⟩ ⟨[], [], [], [(4, ⟨[(4, .kv .i), (5, .kv .i), (20, .kv .i)], true, [⟨.ext 0, [(4, .kv .i), (5, .kv .i)]⟩], true, []⟩), (15, ⟨[(12, .kv .i)], true, [⟨.ext 2, []⟩], true, []⟩)]⟩ TB_ok ⟨k_wal_Log_firsts_ok, k_wal_Log_Next_ok, k_wal_Log_load_ok, k_wal_Log_file_ok, k_disk_Disk_Remove_ok, k_disk_Disk_Truncate_ok, k_wal_Log_Sync_ok, trivial⟩ (fn := Tryz.f36) (by kernel_rfl) (by kernel_rfl) (by kernel_rfl)
noncomputable def f_wal_Open (p0 : Option Nat) (p1 : List UInt8) (p2 : Int) (σ : St) : Option (((Option Nat) × Int) × St) :=
  if p0.isNone = true then
  some ((none, (1 : Int)), σ)
  else
  Option.bind (f_wal_named p1) fun x0 =>
  if (((!x0) || decide (p2 < 64)) || decide (p2 > 65536)) = true then
  some ((none, (2 : Int)), σ)
  else
  Option.bind (f_disk_Disk_Down p0 σ) fun x1 =>
  if x1 = true then
  some ((none, (11 : Int)), σ)
  else
  Option.bind (f_wal_Log_recover (some σ.t_wal_Log.length) (σ.set_wal_Log (σ.t_wal_Log ++ [(p0, (p1, (p2, ([], ((0 : Int), ())))))]))) fun x2 =>
  if (x2.1 != 0) = true then
  some ((none, x2.1), x2.2)
  else
  some ((some σ.t_wal_Log.length, (0 : Int)), x2.2)

noncomputable def k_wal_Open : Kn St := ⟨12, [.kv (.ptr T_disk_Disk), .kv .str, .kv .i], [.kv (.ptr T_wal_Log), .kv .i], .rw fun x σ => f_wal_Open x.1 x.2.1 x.2.2.1 σ⟩

theorem k_wal_Open_ok : k_wal_Open.ok Tryz.prog TB := rwOK ⟨Tryz.prog, TB, 39, KLs, MLs, [], [], [], [k_wal_named, k_disk_Disk_Down, k_wal_Log_recover]⟩ ⟨[], [], [], []⟩ TB_ok ⟨k_wal_named_ok, k_disk_Disk_Down_ok, k_wal_Log_recover_ok, trivial⟩ (fn := Tryz.f12) (by kernel_rfl) (by kernel_rfl) (by kernel_rfl)
noncomputable def f_wal_Log_First (p0 : Option Nat) (σ : St) : Option Int :=
  Option.bind (if (!p0.isNone) = true then
  p0
  else
  some 0) fun x0 =>
  Option.bind (if (!p0.isNone) = true then
  σ.t_wal_Log[x0]?
  else
  some (none, ([], ((0 : Int), ([], ((0 : Int), ())))))) fun x1 =>
  if (p0.isNone || ((x1.2.2.2.1.length : Int) == 0)) = true then
  some (0 : Int)
  else
  Option.bind p0 fun x2 =>
  Option.bind σ.t_wal_Log[x2]? fun x3 =>
  Option.bind (ix x3.2.2.2.1 (0 : Int)) fun x4 =>
  Option.bind x4 fun x5 =>
  Option.bind σ.t_wal_segment[x5]? fun x6 =>
  some x6.1

noncomputable def k_wal_Log_First : Kn St := ⟨29, [.kv (.ptr T_wal_Log)], [.kv .i], .ro fun x σ => f_wal_Log_First x.1 σ⟩

theorem k_wal_Log_First_ok : k_wal_Log_First.ok Tryz.prog TB := roOK ⟨Tryz.prog, TB, 22, KLs, MLs, [], [], [], []⟩ ⟨[], [], [], []⟩ TB_ok trivial (fn := Tryz.f29) (by kernel_rfl) (by kernel_rfl) (by kernel_rfl)
noncomputable def f_wal_Log_Read_l0 (p0 : Option Nat) (p1 : Int) (σ : St) (s4 : Int) : Option (Int ⊕ Int) :=
  Option.bind p0 fun x5 =>
  Option.bind σ.t_wal_Log[x5]? fun x6 =>
  Option.bind (ix x6.2.2.2.1 s4) fun x7 =>
  Option.bind x7 fun x8 =>
  Option.bind σ.t_wal_segment[x8]? fun x9 =>
  if decide (x9.1 > p1) = true then
  some (.inl (IntKind.wrap .i64 (s4 - 1)))
  else
  some (.inr s4)

noncomputable def f_wal_Log_Read (p0 : Option Nat) (p1 : Int) (σ : St) : Option ((List UInt8) × Int) :=
  if p0.isNone = true then
  some ([], (1 : Int))
  else
  Option.bind (f_wal_Log_First p0 σ) fun x0 =>
  if decide (p1 < x0) = true then
  some ([], (13 : Int))
  else
  Option.bind (f_wal_Log_Next p0 σ) fun x1 =>
  if decide (p1 ≥ x1) = true then
  some ([], (8 : Int))
  else
  Option.bind p0 fun x2 =>
  Option.bind σ.t_wal_Log[x2]? fun x3 =>
  Option.bind (loopM (f_wal_Log_Read_l0 p0 p1 σ) (IntKind.wrap .i64 ((x3.2.2.2.1.length : Int) - 1))) fun x10 =>
  Option.bind p0 fun x11 =>
  Option.bind σ.t_wal_Log[x11]? fun x12 =>
  Option.bind (ix x12.2.2.2.1 x10) fun x13 =>
  Option.bind x13 fun x14 =>
  Option.bind σ.t_wal_segment[x14]? fun x15 =>
  Option.bind p0 fun x16 =>
  Option.bind σ.t_wal_Log[x16]? fun x17 =>
  Option.bind (ix x17.2.2.2.1 x10) fun x18 =>
  Option.bind x18 fun x19 =>
  Option.bind σ.t_wal_segment[x19]? fun x20 =>
  Option.bind (ix x15.2.1 (IntKind.wrap .i64 (p1 - x20.1))) fun x21 =>
  some (x21, (0 : Int))

noncomputable def k_wal_Log_Read : Kn St := ⟨31, [.kv (.ptr T_wal_Log), .kv .i], [.kv .str, .kv .i], .ro fun x σ => f_wal_Log_Read x.1 x.2.1 σ⟩

theorem k_wal_Log_Read_ok : k_wal_Log_Read.ok Tryz.prog TB := roOK ⟨Tryz.prog, TB, 64, KLs, MLs, [], [], [], [k_wal_Log_First, k_wal_Log_Next]⟩ ⟨[], [], [], [(8, ⟨[(6, .kv .i)], false, [⟨.ext 1, [(6, .kv .i)]⟩], false, []⟩)]⟩ TB_ok ⟨k_wal_Log_First_ok, k_wal_Log_Next_ok, trivial⟩ (fn := Tryz.f31) (by kernel_rfl) (by kernel_rfl) (by kernel_rfl)
noncomputable def f_codec_reader_number (p0 : Option Nat) (σ : St) : Option (Int × St) :=
  Option.bind p0 fun x0 =>
  Option.bind σ.t_codec_reader[x0]? fun x1 =>
  if (x1.2.2.1 != 0) = true then
  some ((0 : Int), σ)
  else
  Option.bind p0 fun x2 =>
  Option.bind σ.t_codec_reader[x2]? fun x3 =>
  Option.bind p0 fun x4 =>
  Option.bind σ.t_codec_reader[x4]? fun x5 =>
  Option.bind (f_varint_ReadNumber x3.1 x5.2.1) fun x6 =>
  Option.bind p0 fun x7 =>
  Option.bind σ.t_codec_reader[x7]? fun x8 =>
  Option.bind p0 fun x9 =>
  Option.bind ((σ.t_codec_reader.set x7 (x8.1, (x6.2.1, x8.2.2)))[x9]?) fun x10 =>
  some (x6.1, ((σ.set_codec_reader (σ.t_codec_reader.set x7 (x8.1, (x6.2.1, x8.2.2)))).set_codec_reader ((σ.t_codec_reader.set x7 (x8.1, (x6.2.1, x8.2.2))).set x9 (x10.1, (x10.2.1, (x6.2.2, x10.2.2.2))))))

noncomputable def k_codec_reader_number : Kn St := ⟨82, [.kv (.ptr T_codec_reader)], [.kv .i], .rw fun x σ => f_codec_reader_number x.1 σ⟩

theorem k_codec_reader_number_ok : k_codec_reader_number.ok Tryz.prog TB := rwOK ⟨Tryz.prog, TB, 33, KLs, MLs, [], [], [], [k_varint_ReadNumber]⟩ ⟨[], [], [], []⟩ TB_ok ⟨k_varint_ReadNumber_ok, trivial⟩ (fn := Tryz.f82) (by kernel_rfl) (by kernel_rfl) (by kernel_rfl)
noncomputable def f_varint_count (p0 : List UInt8) (p1 : Int) (p2 : Int) : Option (Int × Int × Int) :=
  Option.bind (f_varint_ReadNumber p0 p1) fun x0 =>
  if (x0.2.2 != 0) = true then
  some ((0 : Int), ((0 : Int), x0.2.2))
  else
  if decide (x0.1 < 0) = true then
  some ((0 : Int), ((0 : Int), (6 : Int)))
  else
  if decide (x0.1 > p2) = true then
  some ((0 : Int), ((0 : Int), (4 : Int)))
  else
  some (x0.1, (x0.2.1, (0 : Int)))

noncomputable def k_varint_count : Kn St := ⟨129, [.kv .str, .kv .i, .kv .i], [.kv .i, .kv .i, .kv .i], .ro fun x σ => f_varint_count x.1 x.2.1 x.2.2.1⟩

theorem k_varint_count_ok : k_varint_count.ok Tryz.prog TB := roOK ⟨Tryz.prog, TB, 32, KLs, MLs, [], [], [], [k_varint_ReadNumber]⟩ ⟨[], [], [], []⟩ TB_ok ⟨k_varint_ReadNumber_ok, trivial⟩ (fn := Tryz.f129) (by kernel_rfl) (by kernel_rfl) (by kernel_rfl)
noncomputable def f_varint_ReadText (p0 : List UInt8) (p1 : Int) : Option ((List UInt8) × Int × Int) :=
  Option.bind (f_varint_count p0 p1 (4096 : Int)) fun x0 =>
  if (x0.2.2 != 0) = true then
  some ([], ((0 : Int), x0.2.2))
  else
  if decide (x0.1 > IntKind.wrap .i64 ((p0.length : Int) - x0.2.1)) = true then
  some ([], ((0 : Int), (5 : Int)))
  else
  if 0 ≤ x0.2.1 ∧ x0.2.1 ≤ IntKind.wrap .i64 (x0.2.1 + x0.1) ∧ IntKind.wrap .i64 (x0.2.1 + x0.1) ≤ (p0.length : Int) then
  some ((p0.take ((IntKind.wrap .i64 (x0.2.1 + x0.1)).toNat)).drop x0.2.1.toNat, (IntKind.wrap .i64 (x0.2.1 + x0.1), (0 : Int)))
  else
  none

noncomputable def k_varint_ReadText : Kn St := ⟨108, [.kv .str, .kv .i], [.kv .str, .kv .i, .kv .i], .ro fun x σ => f_varint_ReadText x.1 x.2.1⟩

theorem k_varint_ReadText_ok : k_varint_ReadText.ok Tryz.prog TB := roOK ⟨Tryz.prog, TB, 37, KLs, MLs, [], [], [], [k_varint_count]⟩ ⟨[], [], [], []⟩ TB_ok ⟨k_varint_count_ok, trivial⟩ (fn := Tryz.f108) (by kernel_rfl) (by kernel_rfl) (by kernel_rfl)
noncomputable def f_codec_reader_text (p0 : Option Nat) (σ : St) : Option ((List UInt8) × St) :=
  Option.bind p0 fun x0 =>
  Option.bind σ.t_codec_reader[x0]? fun x1 =>
  if (x1.2.2.1 != 0) = true then
  some ([], σ)
  else
  Option.bind p0 fun x2 =>
  Option.bind σ.t_codec_reader[x2]? fun x3 =>
  Option.bind p0 fun x4 =>
  Option.bind σ.t_codec_reader[x4]? fun x5 =>
  Option.bind (f_varint_ReadText x3.1 x5.2.1) fun x6 =>
  Option.bind p0 fun x7 =>
  Option.bind σ.t_codec_reader[x7]? fun x8 =>
  Option.bind p0 fun x9 =>
  Option.bind ((σ.t_codec_reader.set x7 (x8.1, (x6.2.1, x8.2.2)))[x9]?) fun x10 =>
  some (x6.1, ((σ.set_codec_reader (σ.t_codec_reader.set x7 (x8.1, (x6.2.1, x8.2.2)))).set_codec_reader ((σ.t_codec_reader.set x7 (x8.1, (x6.2.1, x8.2.2))).set x9 (x10.1, (x10.2.1, (x6.2.2, x10.2.2.2))))))

noncomputable def k_codec_reader_text : Kn St := ⟨83, [.kv (.ptr T_codec_reader)], [.kv .str], .rw fun x σ => f_codec_reader_text x.1 σ⟩

theorem k_codec_reader_text_ok : k_codec_reader_text.ok Tryz.prog TB := rwOK ⟨Tryz.prog, TB, 33, KLs, MLs, [], [], [], [k_varint_ReadText]⟩ ⟨[], [], [], []⟩ TB_ok ⟨k_varint_ReadText_ok, trivial⟩ (fn := Tryz.f83) (by kernel_rfl) (by kernel_rfl) (by kernel_rfl)
noncomputable def f_varint_read_int_varint_ReadNumber_l0 (p0 : List UInt8) (x0 : Int × Int × Int) (s1 : Int × (List Int) × Int) : Option ((Int × (List Int) × Int) ⊕ ((Int × List Int) ⊕ ((List Int) × Int × Int))) :=
  if decide (s1.2.2 < x0.1) = true then
  Option.bind (f_varint_ReadNumber p0 s1.1) fun x2 =>
  if (x2.2.2 != 0) = true then
  some (.inr (.inr ([], ((0 : Int), x2.2.2))))
  else
  if ((s1.2.1.length + 1) * 8) ≤ 140737488355328 then
  some (.inl (x2.2.1, ((s1.2.1 ++ [x2.1]), IntKind.wrap .i64 (s1.2.2 + 1))))
  else
  none
  else
  some (.inr (.inl (s1.1, s1.2.1)))

noncomputable def f_varint_read_int_varint_ReadNumber (p0 : List UInt8) (p1 : Int) (p2 : Unit) : Option ((List Int) × Int × Int) :=
  Option.bind (f_varint_count p0 p1 (256 : Int)) fun x0 =>
  if (x0.2.2 != 0) = true then
  some ([], ((0 : Int), x0.2.2))
  else
  Option.bind (loopM (f_varint_read_int_varint_ReadNumber_l0 p0 x0) (x0.2.1, ([], (0 : Int)))) fun x3 =>
  sumO x3 (fun x4 =>
  some (x4.2, (x4.1, (0 : Int)))) Option.some

noncomputable def k_varint_read_int_varint_ReadNumber : Kn St := ⟨130, [.kv .str, .kv .i, .clo 107 []], [.kv (.list .i), .kv .i, .kv .i], .ro fun x σ => f_varint_read_int_varint_ReadNumber x.1 x.2.1 x.2.2.1⟩

theorem k_varint_read_int_varint_ReadNumber_ok : k_varint_read_int_varint_ReadNumber.ok Tryz.prog TB := roOK ⟨Tryz.prog, TB, 48, KLs, MLs, [], [46], [], [k_varint_count, k_varint_ReadNumber]⟩ ⟨[], [], [], [(6, ⟨[(10, .kv .i), (12, .own 3 8 .i), (27, .kv .i)], false, [⟨.ext 0, [(10, .kv .i), (12, .own 3 8 .i)]⟩], true, []⟩)]⟩ TB_ok ⟨k_varint_count_ok, k_varint_ReadNumber_ok, trivial⟩ (fn := Tryz.f130) (by kernel_rfl) (by kernel_rfl) (by kernel_rfl)
noncomputable def f_varint_ReadNumbers (p0 : List UInt8) (p1 : Int) : Option ((List Int) × Int × Int) :=
  Option.bind (f_varint_read_int_varint_ReadNumber p0 p1 ()) fun x0 =>
  some (x0.1, (x0.2.1, x0.2.2))

noncomputable def k_varint_ReadNumbers : Kn St := ⟨109, [.kv .str, .kv .i], [.kv (.list .i), .kv .i, .kv .i], .ro fun x σ => f_varint_ReadNumbers x.1 x.2.1⟩

theorem k_varint_ReadNumbers_ok : k_varint_ReadNumbers.ok Tryz.prog TB := roOK ⟨Tryz.prog, TB, 13, KLs, MLs, [], [], [], [k_varint_read_int_varint_ReadNumber]⟩ ⟨[], [], [], []⟩ TB_ok ⟨k_varint_read_int_varint_ReadNumber_ok, trivial⟩ (fn := Tryz.f109) (by kernel_rfl) (by kernel_rfl) (by kernel_rfl)
noncomputable def f_codec_reader_numbers (p0 : Option Nat) (σ : St) : Option ((List Int) × St) :=
  Option.bind p0 fun x0 =>
  Option.bind σ.t_codec_reader[x0]? fun x1 =>
  if (x1.2.2.1 != 0) = true then
  some ([], σ)
  else
  Option.bind p0 fun x2 =>
  Option.bind σ.t_codec_reader[x2]? fun x3 =>
  Option.bind p0 fun x4 =>
  Option.bind σ.t_codec_reader[x4]? fun x5 =>
  Option.bind (f_varint_ReadNumbers x3.1 x5.2.1) fun x6 =>
  Option.bind p0 fun x7 =>
  Option.bind σ.t_codec_reader[x7]? fun x8 =>
  Option.bind p0 fun x9 =>
  Option.bind ((σ.t_codec_reader.set x7 (x8.1, (x6.2.1, x8.2.2)))[x9]?) fun x10 =>
  some (x6.1, ((σ.set_codec_reader (σ.t_codec_reader.set x7 (x8.1, (x6.2.1, x8.2.2)))).set_codec_reader ((σ.t_codec_reader.set x7 (x8.1, (x6.2.1, x8.2.2))).set x9 (x10.1, (x10.2.1, (x6.2.2, x10.2.2.2))))))

noncomputable def k_codec_reader_numbers : Kn St := ⟨84, [.kv (.ptr T_codec_reader)], [.kv (.list .i)], .rw fun x σ => f_codec_reader_numbers x.1 σ⟩

theorem k_codec_reader_numbers_ok : k_codec_reader_numbers.ok Tryz.prog TB := rwOK ⟨Tryz.prog, TB, 33, KLs, MLs, [], [], [], [k_varint_ReadNumbers]⟩ ⟨[], [], [], []⟩ TB_ok ⟨k_varint_ReadNumbers_ok, trivial⟩ (fn := Tryz.f84) (by kernel_rfl) (by kernel_rfl) (by kernel_rfl)
noncomputable def f_codec_within (p0 : Int) (p1 : Int) (p2 : Int) : Option Bool :=
  some (decide (p0 ≥ p1) && decide (p0 ≤ p2))

noncomputable def k_codec_within : Kn St := ⟨92, [.kv .i, .kv .i, .kv .i], [.kv .bool], .ro fun x σ => f_codec_within x.1 x.2.1 x.2.2.1⟩

theorem k_codec_within_ok : k_codec_within.ok Tryz.prog TB := roOK ⟨Tryz.prog, TB, 15, KLs, MLs, [], [], [], []⟩ ⟨[], [], [], []⟩ TB_ok trivial (fn := Tryz.f92) (by kernel_rfl) (by kernel_rfl) (by kernel_rfl)
noncomputable def f_pattern_parts_l0 (p0 : List UInt8) (s0 : (List (List UInt8)) × Int × Int) : Option (((List (List UInt8)) × Int × Int) ⊕ ((List (List UInt8)) × Int)) :=
  if decide (s0.2.2 < (p0.length : Int)) = true then
  if 0 ≤ s0.2.2 ∧ s0.2.2 < (p0.length : Int) then
  if (btS p0 s0.2.2 == 47) = true then
  if 0 ≤ s0.2.1 ∧ s0.2.1 ≤ s0.2.2 ∧ s0.2.2 ≤ (p0.length : Int) then
  if ((s0.1.length + 1) * 16) ≤ 140737488355328 then
  some (.inl ((s0.1 ++ [(p0.take s0.2.2.toNat).drop s0.2.1.toNat]), (IntKind.wrap .i64 (s0.2.2 + 1), IntKind.wrap .i64 (s0.2.2 + 1))))
  else
  none
  else
  none
  else
  some (.inl (s0.1, (s0.2.1, IntKind.wrap .i64 (s0.2.2 + 1))))
  else
  none
  else
  some (.inr (s0.1, s0.2.1))

noncomputable def f_pattern_parts (p0 : List UInt8) : Option (List (List UInt8)) :=
  Option.bind (loopM (f_pattern_parts_l0 p0) ([], ((0 : Int), (0 : Int)))) fun x1 =>
  if 0 ≤ x1.2 ∧ x1.2 ≤ (p0.length : Int) then
  if ((x1.1.length + 1) * 16) ≤ 140737488355328 then
  some (x1.1 ++ [p0.drop x1.2.toNat])
  else
  none
  else
  none

noncomputable def k_pattern_parts : Kn St := ⟨152, [.kv .str], [.kv (.list .str)], .ro fun x σ => f_pattern_parts x.1⟩

theorem k_pattern_parts_ok : k_pattern_parts.ok Tryz.prog TB := roOK ⟨Tryz.prog, TB, 31, KLs, MLs, [], [], [], []⟩ ⟨[], [], [], [(4, ⟨[(3, .own 9 16 .str), (4, .kv .i), (8, .kv .i)], false, [⟨.ext 0, [(3, .own 9 16 .str), (4, .kv .i)]⟩], false, []⟩)]⟩ TB_ok trivial (fn := Tryz.f152) (by kernel_rfl) (by kernel_rfl) (by kernel_rfl)
noncomputable def f_pattern_plain_l0 (p0 : List UInt8) (s0 : Int) : Option (Int ⊕ (Unit ⊕ Bool)) :=
  if decide (s0 < (p0.length : Int)) = true then
  if 0 ≤ s0 ∧ s0 < (p0.length : Int) then
  if (decide (btS p0 s0 ≥ 97) && decide (btS p0 s0 ≤ 122)) = true then
  some (.inl (IntKind.wrap .i64 (s0 + 1)))
  else
  if (decide (btS p0 s0 ≥ 48) && decide (btS p0 s0 ≤ 57)) = true then
  some (.inl (IntKind.wrap .i64 (s0 + 1)))
  else
  if (btS p0 s0 == 45) = true then
  some (.inl (IntKind.wrap .i64 (s0 + 1)))
  else
  if (btS p0 s0 == 95) = true then
  some (.inl (IntKind.wrap .i64 (s0 + 1)))
  else
  some (.inr (.inr false))
  else
  none
  else
  some (.inr (.inl ()))

noncomputable def f_pattern_plain (p0 : List UInt8) : Option Bool :=
  if (p0 == []) = true then
  some false
  else
  Option.bind (loopM (f_pattern_plain_l0 p0) (0 : Int)) fun x1 =>
  sumO x1 (fun x2 =>
  some true) Option.some

noncomputable def k_pattern_plain : Kn St := ⟨133, [.kv .str], [.kv .bool], .ro fun x σ => f_pattern_plain x.1⟩

theorem k_pattern_plain_ok : k_pattern_plain.ok Tryz.prog TB := roOK ⟨Tryz.prog, TB, 33, KLs, MLs, [], [], [], []⟩ ⟨[], [], [], [(4, ⟨[(9, .kv .i)], false, [⟨.ext 0, []⟩], true, []⟩)]⟩ TB_ok trivial (fn := Tryz.f133) (by kernel_rfl) (by kernel_rfl) (by kernel_rfl)
noncomputable def f_pattern_Stream_1 (p0 : Int) (p1 : Int) (p2 : List UInt8) : Option Bool :=
  Option.bind (f_pattern_plain p2) fun x0 =>
  some x0

noncomputable def k_pattern_Stream_1 : Kn St := ⟨132, [.kv .i, .kv .i, .kv .str], [.kv .bool], .ro fun x σ => f_pattern_Stream_1 x.1 x.2.1 x.2.2.1⟩

theorem k_pattern_Stream_1_ok : k_pattern_Stream_1.ok Tryz.prog TB := roOK ⟨Tryz.prog, TB, 9, KLs, MLs, [], [], [], [k_pattern_plain]⟩ ⟨[], [], [], []⟩ TB_ok ⟨k_pattern_plain_ok, trivial⟩ (fn := Tryz.f132) (by kernel_rfl) (by kernel_rfl) (by kernel_rfl)
noncomputable def f_pattern_all_pattern_Stream_1_l0 (x0 : List (List UInt8)) (s1 : Int) : Option (Int ⊕ (Unit ⊕ Bool)) :=
  if decide (s1 < (x0.length : Int)) = true then
  Option.bind (ix x0 s1) fun x2 =>
  Option.bind (f_pattern_Stream_1 s1 (x0.length : Int) x2) fun x3 =>
  if (!x3) = true then
  some (.inr (.inr false))
  else
  some (.inl (IntKind.wrap .i64 (s1 + 1)))
  else
  some (.inr (.inl ()))

noncomputable def f_pattern_all_pattern_Stream_1 (p0 : List UInt8) (p1 : Unit) : Option Bool :=
  if decide ((p0.length : Int) > 32) = true then
  some false
  else
  Option.bind (f_pattern_parts p0) fun x0 =>
  Option.bind (loopM (f_pattern_all_pattern_Stream_1_l0 x0) (0 : Int)) fun x4 =>
  sumO x4 (fun x5 =>
  some (decide ((x0.length : Int) ≤ 4))) Option.some

noncomputable def k_pattern_all_pattern_Stream_1 : Kn St := ⟨131, [.kv .str, .clo 132 []], [.kv .bool], .ro fun x σ => f_pattern_all_pattern_Stream_1 x.1 x.2.1⟩

theorem k_pattern_all_pattern_Stream_1_ok : k_pattern_all_pattern_Stream_1.ok Tryz.prog TB := roOK ⟨Tryz.prog, TB, 31, KLs, MLs, [], [], [], [k_pattern_parts, k_pattern_Stream_1]⟩ ⟨[], [], [], [(5, ⟨[(15, .kv .i)], false, [⟨.ext 0, []⟩], true, []⟩)]⟩ TB_ok ⟨k_pattern_parts_ok, k_pattern_Stream_1_ok, trivial⟩ (fn := Tryz.f131) (by kernel_rfl) (by kernel_rfl) (by kernel_rfl)
end Go.Proofs.YtbnmhjobnepajaaGreat.M


set_option maxRecDepth 100000
namespace Go.Proofs.YtbnmhjobnepajaaGreat.M
open Go.Proofs
noncomputable def f_pattern_Stream (p0 : List UInt8) : Option Bool :=
  Option.bind (f_pattern_all_pattern_Stream_1 p0 ()) fun x0 =>
  some x0

noncomputable def k_pattern_Stream : Kn St := ⟨112, [.kv .str], [.kv .bool], .ro fun x σ => f_pattern_Stream x.1⟩

theorem k_pattern_Stream_ok : k_pattern_Stream.ok Tryz.prog TB := roOK ⟨Tryz.prog, TB, 5, KLs, MLs, [], [], [], [k_pattern_all_pattern_Stream_1]⟩ ⟨[], [], [], []⟩ TB_ok ⟨k_pattern_all_pattern_Stream_1_ok, trivial⟩ (fn := Tryz.f112) (by kernel_rfl) (by kernel_rfl) (by kernel_rfl)
noncomputable def f_codec_head (p0 : Int) (p1 : Int) (p2 : List UInt8) : Option Bool :=
  Option.bind (f_codec_within p0 (0 : Int) (5 : Int)) fun x0 =>
  Option.bind (if x0 = true then
  f_codec_within p1 (1 : Int) (1099511627776 : Int)
  else
  some false) fun x1 =>
  Option.bind (if (x0 && x1) = true then
  f_pattern_Stream p2
  else
  some false) fun x2 =>
  some ((x0 && x1) && x2)

noncomputable def k_codec_head : Kn St := ⟨91, [.kv .i, .kv .i, .kv .str], [.kv .bool], .ro fun x σ => f_codec_head x.1 x.2.1 x.2.2.1⟩

theorem k_codec_head_ok : k_codec_head.ok Tryz.prog TB := roOK ⟨Tryz.prog, TB, 17, KLs, MLs, [], [], [], [k_codec_within, k_pattern_Stream]⟩ ⟨[], [], [], []⟩ TB_ok ⟨k_codec_within_ok, k_pattern_Stream_ok, trivial⟩ (fn := Tryz.f91) (by kernel_rfl) (by kernel_rfl) (by kernel_rfl)
noncomputable def f_codec_values_l0 (p0 : List Int) (s0 : Int) : Option (Int ⊕ (Unit ⊕ Bool)) :=
  if decide (s0 < (p0.length : Int)) = true then
  Option.bind (ix p0 s0) fun x1 =>
  Option.bind (f_codec_within x1 (-1099511627776 : Int) (1099511627776 : Int)) fun x2 =>
  if (!x2) = true then
  some (.inr (.inr false))
  else
  some (.inl (IntKind.wrap .i64 (s0 + 1)))
  else
  some (.inr (.inl ()))

noncomputable def f_codec_values (p0 : List Int) (p1 : Int) : Option Bool :=
  Option.bind (loopM (f_codec_values_l0 p0) (0 : Int)) fun x3 =>
  sumO x3 (fun x4 =>
  some (decide ((p0.length : Int) ≤ p1))) Option.some

noncomputable def k_codec_values : Kn St := ⟨93, [.kv (.list .i), .kv .i], [.kv .bool], .ro fun x σ => f_codec_values x.1 x.2.1⟩

theorem k_codec_values_ok : k_codec_values.ok Tryz.prog TB := roOK ⟨Tryz.prog, TB, 21, KLs, MLs, [], [], [], [k_codec_within]⟩ ⟨[], [], [], [(2, ⟨[(9, .kv .i)], false, [⟨.ext 0, []⟩], true, []⟩)]⟩ TB_ok ⟨k_codec_within_ok, trivial⟩ (fn := Tryz.f93) (by kernel_rfl) (by kernel_rfl) (by kernel_rfl)
noncomputable def f_codec_cmd (p0 : Int × Int × (List UInt8) × Int × (List Int) × Int × Unit) : Option Bool :=
  Option.bind (f_codec_head p0.1 p0.2.1 p0.2.2.1) fun x0 =>
  Option.bind (if x0 = true then
  f_codec_within p0.2.2.2.1 (0 : Int) (11 : Int)
  else
  some false) fun x1 =>
  Option.bind (if (x0 && x1) = true then
  f_codec_values p0.2.2.2.2.1 (4 : Int)
  else
  some false) fun x2 =>
  Option.bind (if ((x0 && x1) && x2) = true then
  f_codec_within p0.2.2.2.2.2.1 (-1 : Int) (1099511627776 : Int)
  else
  some false) fun x3 =>
  some (((x0 && x1) && x2) && x3)

noncomputable def k_codec_cmd : Kn St := ⟨60, [.kv K_api_Cmd], [.kv .bool], .ro fun x σ => f_codec_cmd x.1⟩

theorem k_codec_cmd_ok : k_codec_cmd.ok Tryz.prog TB := roOK ⟨Tryz.prog, TB, 25, KLs, MLs, [], [1000001], [], [k_codec_head, k_codec_within, k_codec_values]⟩ ⟨[], [], [], []⟩ TB_ok ⟨k_codec_head_ok, k_codec_within_ok, k_codec_values_ok, trivial⟩ (fn := Tryz.f60) (by kernel_rfl) (by kernel_rfl) (by kernel_rfl)
noncomputable def f_codec_end_api_Cmd_codec_cmd (p0 : Option Nat) (p1 : Int × Int × (List UInt8) × Int × (List Int) × Int × Unit) (p2 : Unit) (σ : St) : Option (((Int × Int × (List UInt8) × Int × (List Int) × Int × Unit) × Int × Int) × St) :=
  Option.bind p0 fun x0 =>
  Option.bind σ.t_codec_reader[x0]? fun x1 =>
  Option.bind (if (x1.2.2.1 == 0) = true then
  f_codec_cmd p1
  else
  some false) fun x2 =>
  Option.bind (if ((x1.2.2.1 == 0) && (!x2)) = true then
  Option.bind p0 fun x3 =>
  Option.bind σ.t_codec_reader[x3]? fun x4 =>
  some (σ.set_codec_reader (σ.t_codec_reader.set x3 (x4.1, (x4.2.1, ((6 : Int), x4.2.2.2)))))
  else
  some σ) fun x5 =>
  Option.bind p0 fun x6 =>
  Option.bind x5.t_codec_reader[x6]? fun x7 =>
  if (x7.2.2.1 != 0) = true then
  Option.bind p0 fun x8 =>
  Option.bind x5.t_codec_reader[x8]? fun x9 =>
  some ((((0 : Int), ((0 : Int), ([], ((0 : Int), ([], ((0 : Int), ())))))), ((0 : Int), x9.2.2.1)), x5)
  else
  Option.bind p0 fun x10 =>
  Option.bind x5.t_codec_reader[x10]? fun x11 =>
  some ((p1, (x11.2.1, (0 : Int))), x5)

noncomputable def k_codec_end_api_Cmd_codec_cmd : Kn St := ⟨85, [.kv (.ptr T_codec_reader), .kv K_api_Cmd, .clo 60 []], [.kv K_api_Cmd, .kv .i, .kv .i], .rw fun x σ => f_codec_end_api_Cmd_codec_cmd x.1 x.2.1 x.2.2.1 σ⟩

theorem k_codec_end_api_Cmd_codec_cmd_ok : k_codec_end_api_Cmd_codec_cmd.ok Tryz.prog TB := rwOK ⟨Tryz.prog, TB, 39, KLs, MLs, [], [1000004, 2000009], [], [k_codec_cmd]⟩ ⟨[], [(3, ⟨[], true, [⟨.nrm, []⟩], false, [6]⟩)], [], []⟩ TB_ok ⟨k_codec_cmd_ok, trivial⟩ (fn := Tryz.f85) (by kernel_rfl) (by kernel_rfl) (by kernel_rfl)
noncomputable def f_codec_ReadCmd (p0 : List UInt8) (p1 : Int) (σ : St) : Option (((Int × Int × (List UInt8) × Int × (List Int) × Int × Unit) × Int × Int) × St) :=
  Option.bind (f_codec_reader_number (some σ.t_codec_reader.length) (σ.set_codec_reader (σ.t_codec_reader ++ [(p0, (p1, ((0 : Int), ())))]))) fun x0 =>
  Option.bind (f_codec_reader_number (some σ.t_codec_reader.length) x0.2) fun x1 =>
  Option.bind (f_codec_reader_text (some σ.t_codec_reader.length) x1.2) fun x2 =>
  Option.bind (f_codec_reader_number (some σ.t_codec_reader.length) x2.2) fun x3 =>
  Option.bind (f_codec_reader_numbers (some σ.t_codec_reader.length) x3.2) fun x4 =>
  Option.bind (f_codec_reader_number (some σ.t_codec_reader.length) x4.2) fun x5 =>
  Option.bind (f_codec_end_api_Cmd_codec_cmd (some σ.t_codec_reader.length) (x0.1, (x1.1, (x2.1, (x3.1, (x4.1, (x5.1, ())))))) () x5.2) fun x6 =>
  some ((x6.1.1, (x6.1.2.1, x6.1.2.2)), x6.2)

noncomputable def k_codec_ReadCmd : Kn St := ⟨53, [.kv .str, .kv .i], [.kv K_api_Cmd, .kv .i, .kv .i], .rw fun x σ => f_codec_ReadCmd x.1 x.2.1 σ⟩

theorem k_codec_ReadCmd_ok : k_codec_ReadCmd.ok Tryz.prog TB := rwOK ⟨Tryz.prog, TB, 32, KLs, MLs, [], [3000008], [], [k_codec_reader_number, k_codec_reader_text, k_codec_reader_numbers, k_codec_end_api_Cmd_codec_cmd]⟩ ⟨[], [], [], []⟩ TB_ok ⟨k_codec_reader_number_ok, k_codec_reader_text_ok, k_codec_reader_numbers_ok, k_codec_end_api_Cmd_codec_cmd_ok, trivial⟩ (fn := Tryz.f53) (by kernel_rfl) (by kernel_rfl) (by kernel_rfl)
noncomputable def f_pending_whole_api_Cmd_codec_ReadCmd (p0 : List UInt8) (p1 : Unit) (σ : St) : Option (((Int × Int × (List UInt8) × Int × (List Int) × Int × Unit) × Bool) × St) :=
  Option.bind (f_codec_ReadCmd p0 (0 : Int) σ) fun x0 =>
  some ((x0.1.1, ((x0.1.2.2 == 0) && (x0.1.2.1 == (p0.length : Int)))), x0.2)

noncomputable def k_pending_whole_api_Cmd_codec_ReadCmd : Kn St := ⟨52, [.kv .str, .clo 53 []], [.kv K_api_Cmd, .kv .bool], .rw fun x σ => f_pending_whole_api_Cmd_codec_ReadCmd x.1 x.2.1 σ⟩

theorem k_pending_whole_api_Cmd_codec_ReadCmd_ok : k_pending_whole_api_Cmd_codec_ReadCmd.ok Tryz.prog TB := rwOK ⟨Tryz.prog, TB, 25, KLs, MLs, [], [2000006], [], [k_codec_ReadCmd]⟩ ⟨[], [], [], []⟩ TB_ok ⟨k_codec_ReadCmd_ok, trivial⟩ (fn := Tryz.f52) (by kernel_rfl) (by kernel_rfl) (by kernel_rfl)
noncomputable def f_pending_Queue_Next (p0 : Option Nat) (σ : St) : Option Int :=
  if p0.isNone = true then
  some (0 : Int)
  else
  Option.bind p0 fun x0 =>
  Option.bind σ.t_pending_Queue[x0]? fun x1 =>
  Option.bind p0 fun x2 =>
  Option.bind σ.t_pending_Queue[x2]? fun x3 =>
  some (IntKind.wrap .i64 (IntKind.wrap .i64 ((x1.2.2.2.1.length : Int) + (x3.2.2.1.length : Int)) + 1))

noncomputable def k_pending_Queue_Next : Kn St := ⟨24, [.kv (.ptr T_pending_Queue)], [.kv .i], .ro fun x σ => f_pending_Queue_Next x.1 σ⟩

theorem k_pending_Queue_Next_ok : k_pending_Queue_Next.ok Tryz.prog TB := roOK ⟨Tryz.prog, TB, 17, KLs, MLs, [], [], [], []⟩ ⟨[], [], [], []⟩ TB_ok trivial (fn := Tryz.f24) (by kernel_rfl) (by kernel_rfl) (by kernel_rfl)
noncomputable def f_pending_Queue_cmd (p0 : Option Nat) (p1 : List UInt8) (σ : St) : Option (Bool × St) :=
  Option.bind (f_pending_whole_api_Cmd_codec_ReadCmd p1 () σ) fun x0 =>
  if (!(!x0.1.2)) = true then
  Option.bind p0 fun x1 =>
  Option.bind x0.2.t_pending_Queue[x1]? fun x2 =>
  if (!(x0.1.1.1 != x2.1)) = true then
  Option.bind (f_pending_Queue_Next p0 x0.2) fun x3 =>
  if (x0.1.1.2.1 != x3) = true then
  some (false, x0.2)
  else
  Option.bind p0 fun x4 =>
  Option.bind x0.2.t_pending_Queue[x4]? fun x5 =>
  if ((x5.2.2.1.length + 1) * 72) ≤ 140737488355328 then
  Option.bind p0 fun x6 =>
  Option.bind x0.2.t_pending_Queue[x6]? fun x7 =>
  if x4 = x6 ∧ true = true then
  some (true, (x0.2.set_pending_Queue (x0.2.t_pending_Queue.set x6 (x7.1, (x7.2.1, ((x5.2.2.1 ++ [x0.1.1]), x7.2.2.2))))))
  else
  none
  else
  none
  else
  some (false, x0.2)
  else
  some (false, x0.2)

noncomputable def k_pending_Queue_cmd : Kn St := ⟨27, [.kv (.ptr T_pending_Queue), .kv .str], [.kv .bool], .rw fun x σ => f_pending_Queue_cmd x.1 x.2.1 σ⟩

theorem k_pending_Queue_cmd_ok : k_pending_Queue_cmd.ok Tryz.prog TB := rwOK ⟨Tryz.prog, TB, 40, KLs, MLs, [], [2000005], [34], [k_pending_whole_api_Cmd_codec_ReadCmd, k_pending_Queue_Next]⟩ ⟨[], [], [], []⟩ TB_ok ⟨k_pending_whole_api_Cmd_codec_ReadCmd_ok, k_pending_Queue_Next_ok, trivial⟩ (fn := Tryz.f27) (by kernel_rfl) (by kernel_rfl) (by kernel_rfl)
noncomputable def f_codec_ReadVerdicts_1 (p0 : Option Nat) (σ : St) : Option ((Int × Int × Unit) × St) :=
  Option.bind (f_codec_reader_number p0 σ) fun x0 =>
  Option.bind (f_codec_reader_number p0 x0.2) fun x1 =>
  some ((x0.1, (x1.1, ())), x1.2)

noncomputable def k_codec_ReadVerdicts_1 : Kn St := ⟨88, [.kv (.ptr T_codec_reader)], [.kv K_api_Verdict], .rw fun x σ => f_codec_ReadVerdicts_1 x.1 σ⟩

theorem k_codec_ReadVerdicts_1_ok : k_codec_ReadVerdicts_1.ok Tryz.prog TB := rwOK ⟨Tryz.prog, TB, 8, KLs, MLs, [], [], [], [k_codec_reader_number]⟩ ⟨[], [], [], []⟩ TB_ok ⟨k_codec_reader_number_ok, trivial⟩ (fn := Tryz.f88) (by kernel_rfl) (by kernel_rfl) (by kernel_rfl)
noncomputable def f_codec_some_api_Verdict_codec_ReadVerdicts_1_l0 (p0 : Option Nat) (x0 : Int × St) (s7 : (List (Int × Int × Unit)) × Int × St) : Option (((List (Int × Int × Unit)) × Int × St) ⊕ ((List (Int × Int × Unit)) × St)) :=
  Option.bind (if decide (s7.2.1 < x0.1) = true then
  p0
  else
  some 0) fun x8 =>
  Option.bind (if decide (s7.2.1 < x0.1) = true then
  s7.2.2.t_codec_reader[x8]?
  else
  some ([], ((0 : Int), ((0 : Int), ())))) fun x9 =>
  if (decide (s7.2.1 < x0.1) && (x9.2.2.1 == 0)) = true then
  Option.bind (f_codec_ReadVerdicts_1 p0 s7.2.2) fun x10 =>
  if ((s7.1.length + 1) * 16) ≤ 140737488355328 then
  some (.inl ((s7.1 ++ [x10.1]), (IntKind.wrap .i64 (s7.2.1 + 1), x10.2)))
  else
  none
  else
  some (.inr (s7.1, s7.2.2))

noncomputable def f_codec_some_api_Verdict_codec_ReadVerdicts_1 (p0 : Option Nat) (p1 : Int) (p2 : Unit) (σ : St) : Option ((List (Int × Int × Unit)) × St) :=
  Option.bind (f_codec_reader_number p0 σ) fun x0 =>
  Option.bind p0 fun x1 =>
  Option.bind x0.2.t_codec_reader[x1]? fun x2 =>
  Option.bind (if (x2.2.2.1 == 0) = true then
  f_codec_within x0.1 (0 : Int) p1
  else
  some false) fun x3 =>
  Option.bind (if ((x2.2.2.1 == 0) && (!x3)) = true then
  Option.bind p0 fun x4 =>
  Option.bind x0.2.t_codec_reader[x4]? fun x5 =>
  some (x0.2.set_codec_reader (x0.2.t_codec_reader.set x4 (x5.1, (x5.2.1, ((6 : Int), x5.2.2.2)))))
  else
  some x0.2) fun x6 =>
  Option.bind (loopM (f_codec_some_api_Verdict_codec_ReadVerdicts_1_l0 p0 x0) ([], ((0 : Int), x6))) fun x11 =>
  some (x11.1, x11.2)

noncomputable def k_codec_some_api_Verdict_codec_ReadVerdicts_1 : Kn St := ⟨87, [.kv (.ptr T_codec_reader), .kv .i, .clo 88 []], [.kv (.list K_api_Verdict)], .rw fun x σ => f_codec_some_api_Verdict_codec_ReadVerdicts_1 x.1 x.2.1 x.2.2.1 σ⟩

theorem k_codec_some_api_Verdict_codec_ReadVerdicts_1_ok : k_codec_some_api_Verdict_codec_ReadVerdicts_1.ok Tryz.prog TB := rwOK ⟨Tryz.prog, TB, 45, KLs, MLs, [], [44], [], [k_codec_reader_number, k_codec_within, k_codec_ReadVerdicts_1]⟩ ⟨[], [(3, ⟨[], true, [⟨.nrm, []⟩], false, []⟩)], [], [(6, ⟨[(8, .own 58 16 K_api_Verdict), (9, .kv .i)], true, [⟨.ext 0, [(8, .own 58 16 K_api_Verdict)]⟩], false, []⟩)]⟩ TB_ok ⟨k_codec_reader_number_ok, k_codec_within_ok, k_codec_ReadVerdicts_1_ok, trivial⟩ (fn := Tryz.f87) (by kernel_rfl) (by kernel_rfl) (by kernel_rfl)
noncomputable def f_codec_verdicts_l0 (p0 : List (Int × Int × Unit)) (s0 : Int) : Option (Int ⊕ (Unit ⊕ Bool)) :=
  if decide (s0 < (p0.length : Int)) = true then
  Option.bind (ix p0 s0) fun x1 =>
  Option.bind (f_codec_within x1.1 (1 : Int) (1099511627776 : Int)) fun x2 =>
  if (!(!x2)) = true then
  Option.bind (f_codec_within x1.2.1 (0 : Int) (63 : Int)) fun x3 =>
  if (!(!x3)) = true then
  if decide (s0 > 0) = true then
  Option.bind (ix p0 (IntKind.wrap .i64 (s0 - 1))) fun x4 =>
  if decide (x1.1 ≤ x4.1) = true then
  some (.inr (.inr false))
  else
  some (.inl (IntKind.wrap .i64 (s0 + 1)))
  else
  some (.inl (IntKind.wrap .i64 (s0 + 1)))
  else
  some (.inr (.inr false))
  else
  some (.inr (.inr false))
  else
  some (.inr (.inl ()))

noncomputable def f_codec_verdicts (p0 : List (Int × Int × Unit)) : Option Bool :=
  Option.bind (loopM (f_codec_verdicts_l0 p0) (0 : Int)) fun x5 =>
  sumO x5 (fun x6 =>
  some (decide ((p0.length : Int) ≤ 32))) Option.some

noncomputable def k_codec_verdicts : Kn St := ⟨77, [.kv (.list K_api_Verdict)], [.kv .bool], .ro fun x σ => f_codec_verdicts x.1⟩

theorem k_codec_verdicts_ok : k_codec_verdicts.ok Tryz.prog TB := roOK ⟨Tryz.prog, TB, 41, KLs, MLs, [], [4000004], [], [k_codec_within]⟩ ⟨[], [], [], [(2, ⟨[(7, .kv .i)], false, [⟨.ext 0, []⟩], true, []⟩)]⟩ TB_ok ⟨k_codec_within_ok, trivial⟩ (fn := Tryz.f77) (by kernel_rfl) (by kernel_rfl) (by kernel_rfl)
noncomputable def f_codec_end_api_Verdict_codec_verdicts (p0 : Option Nat) (p1 : List (Int × Int × Unit)) (p2 : Unit) (σ : St) : Option (((List (Int × Int × Unit)) × Int × Int) × St) :=
  Option.bind p0 fun x0 =>
  Option.bind σ.t_codec_reader[x0]? fun x1 =>
  Option.bind (if (x1.2.2.1 == 0) = true then
  f_codec_verdicts p1
  else
  some false) fun x2 =>
  Option.bind (if ((x1.2.2.1 == 0) && (!x2)) = true then
  Option.bind p0 fun x3 =>
  Option.bind σ.t_codec_reader[x3]? fun x4 =>
  some (σ.set_codec_reader (σ.t_codec_reader.set x3 (x4.1, (x4.2.1, ((6 : Int), x4.2.2.2)))))
  else
  some σ) fun x5 =>
  Option.bind p0 fun x6 =>
  Option.bind x5.t_codec_reader[x6]? fun x7 =>
  if (x7.2.2.1 != 0) = true then
  Option.bind p0 fun x8 =>
  Option.bind x5.t_codec_reader[x8]? fun x9 =>
  some (([], ((0 : Int), x9.2.2.1)), x5)
  else
  Option.bind p0 fun x10 =>
  Option.bind x5.t_codec_reader[x10]? fun x11 =>
  some ((p1, (x11.2.1, (0 : Int))), x5)

noncomputable def k_codec_end_api_Verdict_codec_verdicts : Kn St := ⟨86, [.kv (.ptr T_codec_reader), .kv (.list K_api_Verdict), .clo 77 []], [.kv (.list K_api_Verdict), .kv .i, .kv .i], .rw fun x σ => f_codec_end_api_Verdict_codec_verdicts x.1 x.2.1 x.2.2.1 σ⟩

theorem k_codec_end_api_Verdict_codec_verdicts_ok : k_codec_end_api_Verdict_codec_verdicts.ok Tryz.prog TB := rwOK ⟨Tryz.prog, TB, 39, KLs, MLs, [], [], [], [k_codec_verdicts]⟩ ⟨[], [(3, ⟨[], true, [⟨.nrm, []⟩], false, []⟩)], [], []⟩ TB_ok ⟨k_codec_verdicts_ok, trivial⟩ (fn := Tryz.f86) (by kernel_rfl) (by kernel_rfl) (by kernel_rfl)
noncomputable def f_codec_ReadVerdicts (p0 : List UInt8) (p1 : Int) (σ : St) : Option (((List (Int × Int × Unit)) × Int × Int) × St) :=
  Option.bind (f_codec_some_api_Verdict_codec_ReadVerdicts_1 (some σ.t_codec_reader.length) (32 : Int) () (σ.set_codec_reader (σ.t_codec_reader ++ [(p0, (p1, ((0 : Int), ())))]))) fun x0 =>
  Option.bind (f_codec_end_api_Verdict_codec_verdicts (some σ.t_codec_reader.length) x0.1 () x0.2) fun x1 =>
  some ((x1.1.1, (x1.1.2.1, x1.1.2.2)), x1.2)

noncomputable def k_codec_ReadVerdicts : Kn St := ⟨55, [.kv .str, .kv .i], [.kv (.list K_api_Verdict), .kv .i, .kv .i], .rw fun x σ => f_codec_ReadVerdicts x.1 x.2.1 σ⟩

theorem k_codec_ReadVerdicts_ok : k_codec_ReadVerdicts.ok Tryz.prog TB := rwOK ⟨Tryz.prog, TB, 19, KLs, MLs, [], [], [], [k_codec_some_api_Verdict_codec_ReadVerdicts_1, k_codec_end_api_Verdict_codec_verdicts]⟩ ⟨[], [], [], []⟩ TB_ok ⟨k_codec_some_api_Verdict_codec_ReadVerdicts_1_ok, k_codec_end_api_Verdict_codec_verdicts_ok, trivial⟩ (fn := Tryz.f55) (by kernel_rfl) (by kernel_rfl) (by kernel_rfl)
noncomputable def f_pending_whole_api_Verdict_codec_ReadVerdicts (p0 : List UInt8) (p1 : Unit) (σ : St) : Option (((List (Int × Int × Unit)) × Bool) × St) :=
  Option.bind (f_codec_ReadVerdicts p0 (0 : Int) σ) fun x0 =>
  some ((x0.1.1, ((x0.1.2.2 == 0) && (x0.1.2.1 == (p0.length : Int)))), x0.2)

noncomputable def k_pending_whole_api_Verdict_codec_ReadVerdicts : Kn St := ⟨54, [.kv .str, .clo 55 []], [.kv (.list K_api_Verdict), .kv .bool], .rw fun x σ => f_pending_whole_api_Verdict_codec_ReadVerdicts x.1 x.2.1 σ⟩

theorem k_pending_whole_api_Verdict_codec_ReadVerdicts_ok : k_pending_whole_api_Verdict_codec_ReadVerdicts.ok Tryz.prog TB := rwOK ⟨Tryz.prog, TB, 25, KLs, MLs, [], [], [], [k_codec_ReadVerdicts]⟩ ⟨[], [], [], []⟩ TB_ok ⟨k_codec_ReadVerdicts_ok, trivial⟩ (fn := Tryz.f54) (by kernel_rfl) (by kernel_rfl) (by kernel_rfl)
noncomputable def f_pending_Queue_First (p0 : Option Nat) (σ : St) : Option Int :=
  if p0.isNone = true then
  some (0 : Int)
  else
  Option.bind p0 fun x0 =>
  Option.bind σ.t_pending_Queue[x0]? fun x1 =>
  some (IntKind.wrap .i64 ((x1.2.2.2.1.length : Int) + 1))

noncomputable def k_pending_Queue_First : Kn St := ⟨23, [.kv (.ptr T_pending_Queue)], [.kv .i], .ro fun x σ => f_pending_Queue_First x.1 σ⟩

theorem k_pending_Queue_First_ok : k_pending_Queue_First.ok Tryz.prog TB := roOK ⟨Tryz.prog, TB, 11, KLs, MLs, [], [], [], []⟩ ⟨[], [], [], []⟩ TB_ok trivial (fn := Tryz.f23) (by kernel_rfl) (by kernel_rfl) (by kernel_rfl)
noncomputable def f_pending_Queue_fits_l0 (p0 : Option Nat) (p1 : List (Int × Int × Unit)) (σ : St) (s0 : Int) : Option (Int ⊕ (Unit ⊕ Bool)) :=
  if decide (s0 < (p1.length : Int)) = true then
  Option.bind (ix p1 s0) fun x1 =>
  Option.bind (f_pending_Queue_First p0 σ) fun x2 =>
  if (x1.1 != IntKind.wrap .i64 (x2 + s0)) = true then
  some (.inr (.inr false))
  else
  some (.inl (IntKind.wrap .i64 (s0 + 1)))
  else
  some (.inr (.inl ()))

noncomputable def f_pending_Queue_fits (p0 : Option Nat) (p1 : List (Int × Int × Unit)) (σ : St) : Option Bool :=
  Option.bind (loopM (f_pending_Queue_fits_l0 p0 p1 σ) (0 : Int)) fun x3 =>
  sumO x3 (fun x4 =>
  Option.bind (if decide ((p1.length : Int) > 0) = true then
  p0
  else
  some 0) fun x5 =>
  Option.bind (if decide ((p1.length : Int) > 0) = true then
  σ.t_pending_Queue[x5]?
  else
  some ((0 : Int), (none, ([], ([], ()))))) fun x6 =>
  some (decide ((p1.length : Int) > 0) && decide ((p1.length : Int) ≤ (x6.2.2.1.length : Int)))) Option.some

noncomputable def k_pending_Queue_fits : Kn St := ⟨44, [.kv (.ptr T_pending_Queue), .kv (.list K_api_Verdict)], [.kv .bool], .ro fun x σ => f_pending_Queue_fits x.1 x.2.1 σ⟩

theorem k_pending_Queue_fits_ok : k_pending_Queue_fits.ok Tryz.prog TB := roOK ⟨Tryz.prog, TB, 35, KLs, MLs, [], [4000006], [], [k_pending_Queue_First]⟩ ⟨[], [], [], [(2, ⟨[(9, .kv .i)], false, [⟨.ext 0, []⟩], true, []⟩)]⟩ TB_ok ⟨k_pending_Queue_First_ok, trivial⟩ (fn := Tryz.f44) (by kernel_rfl) (by kernel_rfl) (by kernel_rfl)
noncomputable def f_pending_Queue_take (p0 : Option Nat) (p1 : List (Int × Int × Unit)) (σ : St) : Option (Unit × St) :=
  Option.bind p0 fun x0 =>
  Option.bind σ.t_pending_Queue[x0]? fun x1 =>
  if ((x1.2.2.2.1.length + p1.length) * 16) ≤ 140737488355328 then
  Option.bind p0 fun x2 =>
  Option.bind σ.t_pending_Queue[x2]? fun x3 =>
  if x0 = x2 ∧ true = true then
  Option.bind p0 fun x4 =>
  Option.bind ((σ.t_pending_Queue.set x2 (x3.1, (x3.2.1, (x3.2.2.1, ((x1.2.2.2.1 ++ p1), x3.2.2.2.2)))))[x4]?) fun x5 =>
  if 0 ≤ (p1.length : Int) ∧ (p1.length : Int) ≤ (x5.2.2.1.length : Int) then
  if ((0 + (x5.2.2.1.drop ((p1.length : Int).toNat)).length) * 72) ≤ 140737488355328 then
  Option.bind p0 fun x6 =>
  Option.bind ((σ.t_pending_Queue.set x2 (x3.1, (x3.2.1, (x3.2.2.1, ((x1.2.2.2.1 ++ p1), x3.2.2.2.2)))))[x6]?) fun x7 =>
  some ((), ((σ.set_pending_Queue (σ.t_pending_Queue.set x2 (x3.1, (x3.2.1, (x3.2.2.1, ((x1.2.2.2.1 ++ p1), x3.2.2.2.2)))))).set_pending_Queue ((σ.t_pending_Queue.set x2 (x3.1, (x3.2.1, (x3.2.2.1, ((x1.2.2.2.1 ++ p1), x3.2.2.2.2))))).set x6 (x7.1, (x7.2.1, (([] ++ x5.2.2.1.drop ((p1.length : Int).toNat)), x7.2.2.2))))))
  else
  none
  else
  none
  else
  none
  else
  none

noncomputable def k_pending_Queue_take : Kn St := ⟨45, [.kv (.ptr T_pending_Queue), .kv (.list K_api_Verdict)], [], .rw fun x σ => f_pending_Queue_take x.1 x.2.1 σ⟩

theorem k_pending_Queue_take_ok : k_pending_Queue_take.ok Tryz.prog TB := rwOK ⟨Tryz.prog, TB, 25, KLs, MLs, [], [], [8], []⟩ ⟨[], [], [], []⟩ TB_ok trivial (fn := Tryz.f45) (by kernel_rfl) (by kernel_rfl) (by kernel_rfl)
noncomputable def f_pending_Queue_verdicts (p0 : Option Nat) (p1 : List UInt8) (σ : St) : Option (Bool × St) :=
  Option.bind (f_pending_whole_api_Verdict_codec_ReadVerdicts p1 () σ) fun x0 =>
  Option.bind (if (!(!x0.1.2)) = true then
  f_pending_Queue_fits p0 x0.1.1 x0.2
  else
  some false) fun x1 =>
  if ((!x0.1.2) || (!x1)) = true then
  some (false, x0.2)
  else
  Option.bind (f_pending_Queue_take p0 x0.1.1 x0.2) fun x2 =>
  some (true, x2.2)

noncomputable def k_pending_Queue_verdicts : Kn St := ⟨28, [.kv (.ptr T_pending_Queue), .kv .str], [.kv .bool], .rw fun x σ => f_pending_Queue_verdicts x.1 x.2.1 σ⟩

theorem k_pending_Queue_verdicts_ok : k_pending_Queue_verdicts.ok Tryz.prog TB := rwOK ⟨Tryz.prog, TB, 23, KLs, MLs, [], [], [], [k_pending_whole_api_Verdict_codec_ReadVerdicts, k_pending_Queue_fits, k_pending_Queue_take]⟩ ⟨[], [], [], []⟩ TB_ok ⟨k_pending_whole_api_Verdict_codec_ReadVerdicts_ok, k_pending_Queue_fits_ok, k_pending_Queue_take_ok, trivial⟩ (fn := Tryz.f28) (by kernel_rfl) (by kernel_rfl) (by kernel_rfl)
noncomputable def f_pending_Open_1 (p0 : List UInt8) (p1 : Nat) (σ : St) : Option (Bool × St) :=
  if (p0 == []) = true then
  some (false, σ)
  else
  if (0 : Int) ≤ (0 : Int) ∧ 0 < (p0.length : Int) then
  if (btS p0 (0 : Int) == 99) = true then
  Option.bind σ.t_c_t27[p1]? fun x0 =>
  if (0 : Int) ≤ (1 : Int) ∧ 1 ≤ (p0.length : Int) then
  Option.bind (f_pending_Queue_cmd x0.1 (p0.drop 1) σ) fun x1 =>
  some (x1.1, x1.2)
  else
  none
  else
  if (0 : Int) ≤ (0 : Int) ∧ 0 < (p0.length : Int) then
  if (btS p0 (0 : Int) == 118) = true then
  Option.bind σ.t_c_t27[p1]? fun x2 =>
  if (0 : Int) ≤ (1 : Int) ∧ 1 ≤ (p0.length : Int) then
  Option.bind (f_pending_Queue_verdicts x2.1 (p0.drop 1) σ) fun x3 =>
  some (x3.1, x3.2)
  else
  none
  else
  some (false, σ)
  else
  none
  else
  none

noncomputable def k_pending_Open_1 : Kn St := ⟨26, [.kv .str, .cap T_c_t27], [.kv .bool], .rw fun x σ => f_pending_Open_1 x.1 x.2.1 σ⟩

theorem k_pending_Open_1_ok : k_pending_Open_1.ok Tryz.prog TB := rwOK ⟨Tryz.prog, TB, 23, KLs, MLs, [], [], [], [k_pending_Queue_cmd, k_pending_Queue_verdicts]⟩ ⟨[], [], [], []⟩ TB_ok ⟨k_pending_Queue_cmd_ok, k_pending_Queue_verdicts_ok, trivial⟩ (fn := Tryz.f26) (by kernel_rfl) (by kernel_rfl) (by kernel_rfl)
noncomputable def f_pending_Open_l0 (x0 : ((Option Nat) × Int) × St) (x3 : Int) (s4 : Int × St) : Option ((Int × St) ⊕ (St ⊕ (((Option Nat) × Int) × St))) :=
  if decide (s4.1 < x3) = true then
  Option.bind (f_wal_Log_Read x0.1.1 s4.1 s4.2) fun x5 =>
  Option.bind (f_pending_Open_1 x5.1 x0.2.t_c_t27.length s4.2) fun x6 =>
  if (!x6.1) = true then
  some (.inr (.inr ((none, (6 : Int)), x6.2)))
  else
  some (.inl (IntKind.wrap .i64 (s4.1 + 1), x6.2))
  else
  some (.inr (.inl s4.2))

noncomputable def f_pending_Open (p0 : Option Nat) (p1 : Int) (σ : St) : Option (((Option Nat) × Int) × St) :=
  if p0.isNone = true then
  some ((none, (1 : Int)), σ)
  else
  if (decide (p1 < 0) || decide (p1 ≥ 6)) = true then
  some ((none, (14 : Int)), σ)
  else
  Option.bind (f_wal_Open p0 [99, 109, 100, 115] (2048 : Int) σ) fun x0 =>
  if (x0.1.2 != 0) = true then
  some ((none, x0.1.2), x0.2)
  else
  Option.bind ((x0.2.t_c_t27 ++ [(none, ())])[x0.2.t_c_t27.length]?) fun x1 =>
  Option.bind (f_wal_Log_First x0.1.1 (((x0.2.set_pending_Queue (x0.2.t_pending_Queue ++ [(p1, (x0.1.1, ([], ([], ()))))])).set_c_t27 (x0.2.t_c_t27 ++ [(none, ())])).set_c_t27 ((x0.2.t_c_t27 ++ [(none, ())]).set x0.2.t_c_t27.length (some x0.2.t_pending_Queue.length, x1.2)))) fun x2 =>
  if decide (x2 > 0) = true then
  some ((none, (6 : Int)), (((x0.2.set_pending_Queue (x0.2.t_pending_Queue ++ [(p1, (x0.1.1, ([], ([], ()))))])).set_c_t27 (x0.2.t_c_t27 ++ [(none, ())])).set_c_t27 ((x0.2.t_c_t27 ++ [(none, ())]).set x0.2.t_c_t27.length (some x0.2.t_pending_Queue.length, x1.2))))
  else
  Option.bind (f_wal_Log_Next x0.1.1 (((x0.2.set_pending_Queue (x0.2.t_pending_Queue ++ [(p1, (x0.1.1, ([], ([], ()))))])).set_c_t27 (x0.2.t_c_t27 ++ [(none, ())])).set_c_t27 ((x0.2.t_c_t27 ++ [(none, ())]).set x0.2.t_c_t27.length (some x0.2.t_pending_Queue.length, x1.2)))) fun x3 =>
  Option.bind (loopM (f_pending_Open_l0 x0 x3) ((0 : Int), (((x0.2.set_pending_Queue (x0.2.t_pending_Queue ++ [(p1, (x0.1.1, ([], ([], ()))))])).set_c_t27 (x0.2.t_c_t27 ++ [(none, ())])).set_c_t27 ((x0.2.t_c_t27 ++ [(none, ())]).set x0.2.t_c_t27.length (some x0.2.t_pending_Queue.length, x1.2))))) fun x7 =>
  sumO x7 (fun x8 =>
  Option.bind x8.t_c_t27[x0.2.t_c_t27.length]? fun x9 =>
  some ((x9.1, (0 : Int)), x8)) Option.some

noncomputable def k_pending_Open : Kn St := ⟨9, [.kv (.ptr T_disk_Disk), .kv .i], [.kv (.ptr T_pending_Queue), .kv .i], .rw fun x σ => f_pending_Open x.1 x.2.1 σ⟩

theorem k_pending_Open_ok : k_pending_Open.ok Tryz.prog TB := rwOK ⟨Tryz.prog, TB, 56, KLs, MLs, [8], [], [], [k_wal_Open, k_wal_Log_First, k_wal_Log_Next, k_wal_Log_Read, k_pending_Open_1]⟩ ⟨[], [], [], [(13, ⟨[(41, .kv .i)], true, [⟨.ext 1, []⟩], true, []⟩)]⟩ TB_ok ⟨k_wal_Open_ok, k_wal_Log_First_ok, k_wal_Log_Next_ok, k_wal_Log_Read_ok, k_pending_Open_1_ok, trivial⟩ (fn := Tryz.f9) (by kernel_rfl) (by kernel_rfl) (by kernel_rfl)
noncomputable def f_codec_number_l0 (p1 : List Int) (s0 : (List Int) × Int) : Option (((List Int) × Int) ⊕ (List Int)) :=
  if decide (s0.2 < (p1.length : Int)) = true then
  Option.bind (ix p1 s0.2) fun x1 =>
  Option.bind (f_varint_Number x1) fun x2 =>
  if ((s0.1.length + (nums8 x2).length) * 1) ≤ 140737488355328 then
  some (.inl ((s0.1 ++ nums8 x2), IntKind.wrap .i64 (s0.2 + 1)))
  else
  none
  else
  some (.inr s0.1)

noncomputable def f_codec_number (p0 : List Int) (p1 : List Int) : Option (List Int) :=
  Option.bind (loopM (f_codec_number_l0 p1) (p0, (0 : Int))) fun x3 =>
  some x3

noncomputable def k_codec_number : Kn St := ⟨57, [.own 5 1 (.int .u8), .kv (.list .i)], [.own 5 1 (.int .u8)], .ro fun x σ => f_codec_number x.1 x.2.1⟩

theorem k_codec_number_ok : k_codec_number.ok Tryz.prog TB := roOK ⟨Tryz.prog, TB, 19, KLs, MLs, [], [], [], [k_varint_Number]⟩ ⟨[], [], [], [(2, ⟨[(0, .own 5 1 (.int .u8)), (9, .kv .i)], false, [⟨.ext 0, [(0, .own 5 1 (.int .u8))]⟩], false, []⟩)]⟩ TB_ok ⟨k_varint_Number_ok, trivial⟩ (fn := Tryz.f57) (by kernel_rfl) (by kernel_rfl) (by kernel_rfl)
noncomputable def f_varint_Text (p0 : List UInt8) : Option ((List UInt8) × Int) :=
  if decide ((p0.length : Int) > 4096) = true then
  some ([], (4 : Int))
  else
  Option.bind (f_varint_Number (p0.length : Int)) fun x0 =>
  if (x0.length + p0.length) ≤ 9223372036854775807 then
  some ((x0 ++ p0), (0 : Int))
  else
  none

noncomputable def k_varint_Text : Kn St := ⟨89, [.kv .str], [.kv .str, .kv .i], .ro fun x σ => f_varint_Text x.1⟩

theorem k_varint_Text_ok : k_varint_Text.ok Tryz.prog TB := roOK ⟨Tryz.prog, TB, 12, KLs, MLs, [], [], [], [k_varint_Number]⟩ ⟨[], [], [], []⟩ TB_ok ⟨k_varint_Number_ok, trivial⟩ (fn := Tryz.f89) (by kernel_rfl) (by kernel_rfl) (by kernel_rfl)
noncomputable def f_codec_text (p0 : List Int) (p1 : List UInt8) : Option (List Int) :=
  Option.bind (f_varint_Text p1) fun x0 =>
  if ((p0.length + (nums8 x0.1).length) * 1) ≤ 140737488355328 then
  some (p0 ++ nums8 x0.1)
  else
  none

noncomputable def k_codec_text : Kn St := ⟨56, [.own 5 1 (.int .u8), .kv .str], [.own 5 1 (.int .u8)], .ro fun x σ => f_codec_text x.1 x.2.1⟩

theorem k_codec_text_ok : k_codec_text.ok Tryz.prog TB := roOK ⟨Tryz.prog, TB, 15, KLs, MLs, [], [], [], [k_varint_Text]⟩ ⟨[], [], [], []⟩ TB_ok ⟨k_varint_Text_ok, trivial⟩ (fn := Tryz.f56) (by kernel_rfl) (by kernel_rfl) (by kernel_rfl)
noncomputable def f_varint_Numbers_1 (p0 : Int) : Option ((List UInt8) × Int) :=
  Option.bind (f_varint_Number p0) fun x0 =>
  some (x0, (0 : Int))

noncomputable def k_varint_Numbers_1 : Kn St := ⟨111, [.kv .i], [.kv .str, .kv .i], .ro fun x σ => f_varint_Numbers_1 x.1⟩

theorem k_varint_Numbers_1_ok : k_varint_Numbers_1.ok Tryz.prog TB := roOK ⟨Tryz.prog, TB, 6, KLs, MLs, [], [], [], [k_varint_Number]⟩ ⟨[], [], [], []⟩ TB_ok ⟨k_varint_Number_ok, trivial⟩ (fn := Tryz.f111) (by kernel_rfl) (by kernel_rfl) (by kernel_rfl)
noncomputable def f_varint_list_int_varint_Numbers_1_l0 (p0 : List Int) (s1 : (List Int) × Int) : Option (((List Int) × Int) ⊕ ((List Int) ⊕ ((List UInt8) × Int))) :=
  if decide (s1.2 < (p0.length : Int)) = true then
  Option.bind (ix p0 s1.2) fun x2 =>
  Option.bind (f_varint_Numbers_1 x2) fun x3 =>
  if (x3.2 != 0) = true then
  some (.inr (.inr ([], x3.2)))
  else
  if (s1.1.length + (nums8 x3.1).length) ≤ 140737488355328 then
  some (.inl ((s1.1 ++ nums8 x3.1), IntKind.wrap .i64 (s1.2 + 1)))
  else
  none
  else
  some (.inr (.inl s1.1))

noncomputable def f_varint_list_int_varint_Numbers_1 (p0 : List Int) (p1 : Unit) : Option ((List UInt8) × Int) :=
  if decide ((p0.length : Int) > 256) = true then
  some ([], (4 : Int))
  else
  Option.bind (f_varint_Number (p0.length : Int)) fun x0 =>
  if x0.length ≤ 140737488355328 then
  Option.bind (loopM (f_varint_list_int_varint_Numbers_1_l0 p0) (nums8 x0, (0 : Int))) fun x4 =>
  sumO x4 (fun x5 =>
  some (bytesS x5, (0 : Int))) Option.some
  else
  none

noncomputable def k_varint_list_int_varint_Numbers_1 : Kn St := ⟨110, [.kv (.list .i), .clo 111 []], [.kv .str, .kv .i], .ro fun x σ => f_varint_list_int_varint_Numbers_1 x.1 x.2.1⟩

theorem k_varint_list_int_varint_Numbers_1_ok : k_varint_list_int_varint_Numbers_1.ok Tryz.prog TB := roOK ⟨Tryz.prog, TB, 39, KLs, MLs, [], [], [], [k_varint_Number, k_varint_Numbers_1]⟩ ⟨[], [], [], [(5, ⟨[(6, .sby 5), (20, .kv .i)], false, [⟨.ext 0, [(6, .sby 5)]⟩], true, []⟩)]⟩ TB_ok ⟨k_varint_Number_ok, k_varint_Numbers_1_ok, trivial⟩ (fn := Tryz.f110) (by kernel_rfl) (by kernel_rfl) (by kernel_rfl)
noncomputable def f_varint_Numbers (p0 : List Int) : Option ((List UInt8) × Int) :=
  Option.bind (f_varint_list_int_varint_Numbers_1 p0 ()) fun x0 =>
  some (x0.1, x0.2)

noncomputable def k_varint_Numbers : Kn St := ⟨90, [.kv (.list .i)], [.kv .str, .kv .i], .ro fun x σ => f_varint_Numbers x.1⟩

theorem k_varint_Numbers_ok : k_varint_Numbers.ok Tryz.prog TB := roOK ⟨Tryz.prog, TB, 8, KLs, MLs, [], [], [], [k_varint_list_int_varint_Numbers_1]⟩ ⟨[], [], [], []⟩ TB_ok ⟨k_varint_list_int_varint_Numbers_1_ok, trivial⟩ (fn := Tryz.f90) (by kernel_rfl) (by kernel_rfl) (by kernel_rfl)
noncomputable def f_codec_numbers (p0 : List Int) (p1 : List Int) : Option (List Int) :=
  Option.bind (f_varint_Numbers p1) fun x0 =>
  if ((p0.length + (nums8 x0.1).length) * 1) ≤ 140737488355328 then
  some (p0 ++ nums8 x0.1)
  else
  none

noncomputable def k_codec_numbers : Kn St := ⟨58, [.own 5 1 (.int .u8), .kv (.list .i)], [.own 5 1 (.int .u8)], .ro fun x σ => f_codec_numbers x.1 x.2.1⟩

theorem k_codec_numbers_ok : k_codec_numbers.ok Tryz.prog TB := roOK ⟨Tryz.prog, TB, 15, KLs, MLs, [], [], [], [k_varint_Numbers]⟩ ⟨[], [], [], []⟩ TB_ok ⟨k_varint_Numbers_ok, trivial⟩ (fn := Tryz.f58) (by kernel_rfl) (by kernel_rfl) (by kernel_rfl)
noncomputable def f_codec_laid (p0 : Bool) (p1 : List Int) : Option ((List UInt8) × Int) :=
  if (!p0) = true then
  some ([], (2 : Int))
  else
  some (bytesS p1, (0 : Int))

noncomputable def k_codec_laid : Kn St := ⟨59, [.kv .bool, .kv (.list (.int .u8))], [.kv .str, .kv .i], .ro fun x σ => f_codec_laid x.1 x.2.1⟩

theorem k_codec_laid_ok : k_codec_laid.ok Tryz.prog TB := roOK ⟨Tryz.prog, TB, 10, KLs, MLs, [], [], [], []⟩ ⟨[], [], [], []⟩ TB_ok trivial (fn := Tryz.f59) (by kernel_rfl) (by kernel_rfl) (by kernel_rfl)
noncomputable def f_codec_PutCmd (p0 : Int × Int × (List UInt8) × Int × (List Int) × Int × Unit) : Option ((List UInt8) × Int) :=
  Option.bind (f_codec_number [] [p0.1, p0.2.1]) fun x0 =>
  Option.bind (f_codec_text x0 p0.2.2.1) fun x1 =>
  Option.bind (f_codec_number x1 [p0.2.2.2.1]) fun x2 =>
  Option.bind (f_codec_numbers x2 p0.2.2.2.2.1) fun x3 =>
  Option.bind (f_codec_cmd p0) fun x4 =>
  Option.bind (f_codec_number x3 [p0.2.2.2.2.2.1]) fun x5 =>
  Option.bind (f_codec_laid x4 x5) fun x6 =>
  some (x6.1, x6.2)

noncomputable def k_codec_PutCmd : Kn St := ⟨32, [.kv K_api_Cmd], [.kv .str, .kv .i], .ro fun x σ => f_codec_PutCmd x.1⟩

theorem k_codec_PutCmd_ok : k_codec_PutCmd.ok Tryz.prog TB := roOK ⟨Tryz.prog, TB, 32, KLs, MLs, [], [1000001], [], [k_codec_number, k_codec_text, k_codec_numbers, k_codec_cmd, k_codec_laid]⟩ ⟨[], [], [], []⟩ TB_ok ⟨k_codec_number_ok, k_codec_text_ok, k_codec_numbers_ok, k_codec_cmd_ok, k_codec_laid_ok, trivial⟩ (fn := Tryz.f32) (by kernel_rfl) (by kernel_rfl) (by kernel_rfl)
noncomputable def f_check_Seal (p0 : List UInt8) : Option (List UInt8) :=
  Option.bind (f_check_Sum p0) fun x0 =>
  Option.bind (f_check_bytes x0) fun x1 =>
  if (p0.length + x1.length) ≤ 9223372036854775807 then
  some (p0 ++ x1)
  else
  none

noncomputable def k_check_Seal : Kn St := ⟨65, [.kv .str], [.kv .str], .ro fun x σ => f_check_Seal x.1⟩

theorem k_check_Seal_ok : k_check_Seal.ok Tryz.prog TB := roOK ⟨Tryz.prog, TB, 8, KLs, MLs, [], [], [], [k_check_Sum, k_check_bytes]⟩ ⟨[], [], [], []⟩ TB_ok ⟨k_check_Sum_ok, k_check_bytes_ok, trivial⟩ (fn := Tryz.f65) (by kernel_rfl) (by kernel_rfl) (by kernel_rfl)
noncomputable def f_wal_record (p0 : Int) (p1 : List UInt8) : Option (List UInt8) :=
  Option.bind (f_varint_Number p0) fun x0 =>
  if (x0.length + p1.length) ≤ 9223372036854775807 then
  Option.bind (f_check_Seal (x0 ++ p1)) fun x1 =>
  Option.bind (f_varint_Number (x1.length : Int)) fun x2 =>
  if (x2.length + x1.length) ≤ 9223372036854775807 then
  some (x2 ++ x1)
  else
  none
  else
  none

noncomputable def k_wal_record : Kn St := ⟨38, [.kv .i, .kv .str], [.kv .str], .ro fun x σ => f_wal_record x.1 x.2.1⟩

theorem k_wal_record_ok : k_wal_record.ok Tryz.prog TB := roOK ⟨Tryz.prog, TB, 16, KLs, MLs, [], [], [], [k_varint_Number, k_check_Seal]⟩ ⟨[], [], [], []⟩ TB_ok ⟨k_varint_Number_ok, k_check_Seal_ok, trivial⟩ (fn := Tryz.f38) (by kernel_rfl) (by kernel_rfl) (by kernel_rfl)
noncomputable def f_disk_name_l0 (p0 : List UInt8) (s0 : Int) : Option (Int ⊕ (Unit ⊕ Bool)) :=
  if decide (s0 < (p0.length : Int)) = true then
  if 0 ≤ s0 ∧ s0 < (p0.length : Int) then
  if (((((decide (btS p0 s0 < 97) || decide (btS p0 s0 > 122)) && (decide (btS p0 s0 < 48) || decide (btS p0 s0 > 57))) && (btS p0 s0 != 46)) && (btS p0 s0 != 45)) && (btS p0 s0 != 95)) = true then
  some (.inr (.inr false))
  else
  some (.inl (IntKind.wrap .i64 (s0 + 1)))
  else
  none
  else
  some (.inr (.inl ()))

noncomputable def f_disk_name (p0 : List UInt8) : Option Bool :=
  Option.bind (loopM (f_disk_name_l0 p0) (0 : Int)) fun x1 =>
  sumO x1 (fun x2 =>
  some (decide ((p0.length : Int) > 0) && decide ((p0.length : Int) ≤ 24))) Option.some

noncomputable def k_disk_name : Kn St := ⟨67, [.kv .str], [.kv .bool], .ro fun x σ => f_disk_name x.1⟩

theorem k_disk_name_ok : k_disk_name.ok Tryz.prog TB := roOK ⟨Tryz.prog, TB, 48, KLs, MLs, [], [], [], []⟩ ⟨[], [], [], [(2, ⟨[(7, .kv .i)], false, [⟨.ext 0, []⟩], true, []⟩)]⟩ TB_ok trivial (fn := Tryz.f67) (by kernel_rfl) (by kernel_rfl) (by kernel_rfl)
noncomputable def f_disk_Disk_Append_1 : Option Unit :=
  some ()

noncomputable def k_disk_Disk_Append_1 : Kn St := ⟨70, [], [], .ro fun x σ => f_disk_Disk_Append_1⟩

theorem k_disk_Disk_Append_1_ok : k_disk_Disk_Append_1.ok Tryz.prog TB := roOK ⟨Tryz.prog, TB, 0, KLs, MLs, [], [], [], []⟩ ⟨[], [], [], []⟩ TB_ok trivial (fn := Tryz.f70) (by kernel_rfl) (by kernel_rfl) (by kernel_rfl)
noncomputable def f_disk_Disk_write_disk_Disk_Append_1 (p0 : Option Nat) (p1 : Unit) (σ : St) : Option (Int × St) :=
  Option.bind p0 fun x0 =>
  Option.bind σ.t_disk_Disk[x0]? fun x1 =>
  if decide (x1.2.2.1 > 0) = true then
  Option.bind p0 fun x2 =>
  Option.bind σ.t_disk_Disk[x2]? fun x3 =>
  Option.bind p0 fun x4 =>
  Option.bind σ.t_disk_Disk[x4]? fun x5 =>
  Option.bind p0 fun x6 =>
  Option.bind ((σ.t_disk_Disk.set x4 (x5.1, (x5.2.1, (IntKind.wrap .i64 (x3.2.2.1 - 1), x5.2.2.2))))[x6]?) fun x7 =>
  if (x7.2.2.1 == 0) = true then
  Option.bind p0 fun x8 =>
  Option.bind ((σ.t_disk_Disk.set x4 (x5.1, (x5.2.1, (IntKind.wrap .i64 (x3.2.2.1 - 1), x5.2.2.2))))[x8]?) fun x9 =>
  some ((11 : Int), ((σ.set_disk_Disk (σ.t_disk_Disk.set x4 (x5.1, (x5.2.1, (IntKind.wrap .i64 (x3.2.2.1 - 1), x5.2.2.2))))).set_disk_Disk ((σ.t_disk_Disk.set x4 (x5.1, (x5.2.1, (IntKind.wrap .i64 (x3.2.2.1 - 1), x5.2.2.2)))).set x8 (x9.1, (x9.2.1, (x9.2.2.1, (true, x9.2.2.2.2)))))))
  else
  Option.bind f_disk_Disk_Append_1 fun x10 =>
  some ((0 : Int), (σ.set_disk_Disk (σ.t_disk_Disk.set x4 (x5.1, (x5.2.1, (IntKind.wrap .i64 (x3.2.2.1 - 1), x5.2.2.2))))))
  else
  Option.bind f_disk_Disk_Append_1 fun x11 =>
  some ((0 : Int), σ)

noncomputable def k_disk_Disk_write_disk_Disk_Append_1 : Kn St := ⟨69, [.kv (.ptr T_disk_Disk), .clo 70 []], [.kv .i], .rw fun x σ => f_disk_Disk_write_disk_Disk_Append_1 x.1 x.2.1 σ⟩

theorem k_disk_Disk_write_disk_Disk_Append_1_ok : k_disk_Disk_write_disk_Disk_Append_1.ok Tryz.prog TB := rwOK ⟨Tryz.prog, TB, 27, KLs, MLs, [], [], [], [k_disk_Disk_Append_1]⟩ ⟨[], [], [], []⟩ TB_ok ⟨k_disk_Disk_Append_1_ok, trivial⟩ (fn := Tryz.f69) (by kernel_rfl) (by kernel_rfl) (by kernel_rfl)
noncomputable def f_disk_Disk_Append (p0 : Option Nat) (p1 : List UInt8) (p2 : List UInt8) (σ : St) : Option (Int × St) :=
  Option.bind (f_disk_Disk_works p0 σ) fun x0 =>
  if (x0 != 0) = true then
  some (x0, σ)
  else
  Option.bind (f_disk_name p1) fun x1 =>
  if (!x1) = true then
  some ((2 : Int), σ)
  else
  Option.bind p0 fun x2 =>
  Option.bind σ.t_disk_Disk[x2]? fun x3 =>
  Option.bind σ.t_disk_Disk[x2]? fun x4 =>
  Option.bind (if (!(((mapGet Kd.str (Kd.ptr 93) p1 x4.2.1).getD none).isNone)) = true then
  Option.bind ((mapGet Kd.str (Kd.ptr 93) p1 x4.2.1).getD none) fun x5 =>
  Option.bind σ.t_disk_file[x5]? fun x6 =>
  some (x6.1.length : Int)
  else
  some (0 : Int)) fun x7 =>
  if ((mapGet Kd.str (Kd.ptr 93) p1 x4.2.1).getD none).isNone = true then
  Option.bind p0 fun x8 =>
  Option.bind σ.t_disk_Disk[x8]? fun x9 =>
  Option.bind σ.t_disk_Disk[x8]? fun x10 =>
  if (!(decide ((x10.2.1.length : Int) ≥ 128))) = true then
  if (!(decide ((p2.length : Int) > IntKind.wrap .i64 (65536 - x7)))) = true then
  Option.bind p0 fun x11 =>
  Option.bind σ.t_disk_Disk[x11]? fun x12 =>
  Option.bind (f_disk_Disk_Used p0 σ) fun x13 =>
  if decide ((p2.length : Int) > IntKind.wrap .i64 (x12.1 - x13)) = true then
  some ((10 : Int), σ)
  else
  Option.bind (if ((mapGet Kd.str (Kd.ptr 93) p1 x4.2.1).getD none).isNone = true then
  Option.bind p0 fun x14 =>
  Option.bind σ.t_disk_Disk[x14]? fun x15 =>
  Option.bind σ.t_disk_Disk[x14]? fun x16 =>
  some (some σ.t_disk_file.length, ((σ.set_disk_file (σ.t_disk_file ++ [([], ((0 : Int), ()))])).set_disk_Disk (σ.t_disk_Disk.set x14 (x16.1, (mapSet Kd.str (Kd.ptr 93) p1 (some σ.t_disk_file.length) x16.2.1, x16.2.2)))))
  else
  some ((mapGet Kd.str (Kd.ptr 93) p1 x4.2.1).getD none, σ)) fun x17 =>
  Option.bind x17.1 fun x18 =>
  Option.bind x17.2.t_disk_file[x18]? fun x19 =>
  if (x19.1.length + p2.length) ≤ 9223372036854775807 then
  Option.bind x17.1 fun x20 =>
  Option.bind x17.2.t_disk_file[x20]? fun x21 =>
  Option.bind (f_disk_Disk_write_disk_Disk_Append_1 p0 () (x17.2.set_disk_file (x17.2.t_disk_file.set x20 ((x19.1 ++ p2), x21.2)))) fun x22 =>
  some (x22.1, x22.2)
  else
  none
  else
  some ((10 : Int), σ)
  else
  some ((10 : Int), σ)
  else
  if (!(decide ((p2.length : Int) > IntKind.wrap .i64 (65536 - x7)))) = true then
  Option.bind p0 fun x23 =>
  Option.bind σ.t_disk_Disk[x23]? fun x24 =>
  Option.bind (f_disk_Disk_Used p0 σ) fun x25 =>
  if decide ((p2.length : Int) > IntKind.wrap .i64 (x24.1 - x25)) = true then
  some ((10 : Int), σ)
  else
  Option.bind (if ((mapGet Kd.str (Kd.ptr 93) p1 x4.2.1).getD none).isNone = true then
  Option.bind p0 fun x26 =>
  Option.bind σ.t_disk_Disk[x26]? fun x27 =>
  Option.bind σ.t_disk_Disk[x26]? fun x28 =>
  some (some σ.t_disk_file.length, ((σ.set_disk_file (σ.t_disk_file ++ [([], ((0 : Int), ()))])).set_disk_Disk (σ.t_disk_Disk.set x26 (x28.1, (mapSet Kd.str (Kd.ptr 93) p1 (some σ.t_disk_file.length) x28.2.1, x28.2.2)))))
  else
  some ((mapGet Kd.str (Kd.ptr 93) p1 x4.2.1).getD none, σ)) fun x29 =>
  Option.bind x29.1 fun x30 =>
  Option.bind x29.2.t_disk_file[x30]? fun x31 =>
  if (x31.1.length + p2.length) ≤ 9223372036854775807 then
  Option.bind x29.1 fun x32 =>
  Option.bind x29.2.t_disk_file[x32]? fun x33 =>
  Option.bind (f_disk_Disk_write_disk_Disk_Append_1 p0 () (x29.2.set_disk_file (x29.2.t_disk_file.set x32 ((x31.1 ++ p2), x33.2)))) fun x34 =>
  some (x34.1, x34.2)
  else
  none
  else
  some ((10 : Int), σ)

noncomputable def k_disk_Disk_Append : Kn St := ⟨39, [.kv (.ptr T_disk_Disk), .kv .str, .kv .str], [.kv .i], .rw fun x σ => f_disk_Disk_Append x.1 x.2.1 x.2.2.1 σ⟩

theorem k_disk_Disk_Append_ok : k_disk_Disk_Append.ok Tryz.prog TB := rwOK ⟨Tryz.prog, TB, 80, KLs, MLs, [], [], [], [k_disk_Disk_works, k_disk_name, k_disk_Disk_Used, k_disk_Disk_write_disk_Disk_Append_1]⟩ ⟨[], [(9, ⟨[], false, [⟨.nrm, [(9, .kv .i)]⟩], false, []⟩), (13, ⟨[], true, [⟨.nrm, [(8, .kv (.ptr T_disk_file))]⟩], false, []⟩)], [], []⟩ TB_ok ⟨k_disk_Disk_works_ok, k_disk_name_ok, k_disk_Disk_Used_ok, k_disk_Disk_write_disk_Disk_Append_1_ok, trivial⟩ (fn := Tryz.f39) (by kernel_rfl) (by kernel_rfl) (by kernel_rfl)
noncomputable def f_wal_Log_Append (p0 : Option Nat) (p1 : List UInt8) (σ : St) : Option ((Int × Int) × St) :=
  if p0.isNone = true then
  some (((0 : Int), (1 : Int)), σ)
  else
  if decide ((p1.length : Int) > 1024) = true then
  some (((0 : Int), (4 : Int)), σ)
  else
  Option.bind (f_wal_Log_Next p0 σ) fun x0 =>
  Option.bind (f_wal_Log_last p0 σ) fun x1 =>
  if (!x1.isNone) = true then
  Option.bind x1 fun x2 =>
  Option.bind σ.t_wal_segment[x2]? fun x3 =>
  Option.bind p0 fun x4 =>
  Option.bind σ.t_wal_Log[x4]? fun x5 =>
  Option.bind (if decide (x3.2.2.1 ≥ x5.2.2.1) = true then
  Option.bind (f_wal_Log_Sync p0 σ) fun x6 =>
  if (x6.1 != 0) = true then
  some (.inr (((0 : Int), x6.1), x6.2))
  else
  some (.inl (some x6.2.t_wal_segment.length, (x6.2.set_wal_segment (x6.2.t_wal_segment ++ [(x0, ([], ((0 : Int), ())))]))))
  else
  some (.inl (x1, σ))) fun x7 =>
  sumO x7 (fun x8 =>
  Option.bind (f_wal_record x0 p1) fun x9 =>
  Option.bind p0 fun x10 =>
  Option.bind x8.2.t_wal_Log[x10]? fun x11 =>
  Option.bind (f_wal_Log_file p0 x8.1 x8.2) fun x12 =>
  Option.bind (f_disk_Disk_Append x11.1 x12 x9 x8.2) fun x13 =>
  if (x13.1 != 0) = true then
  some (((0 : Int), x13.1), x13.2)
  else
  Option.bind x8.1 fun x14 =>
  Option.bind x13.2.t_wal_segment[x14]? fun x15 =>
  if ((x15.2.1.length + 1) * 16) ≤ 140737488355328 then
  Option.bind x8.1 fun x16 =>
  Option.bind x13.2.t_wal_segment[x16]? fun x17 =>
  if x14 = x16 ∧ true = true then
  Option.bind x8.1 fun x18 =>
  Option.bind ((x13.2.t_wal_segment.set x16 (x17.1, ((x15.2.1 ++ [p1]), x17.2.2)))[x18]?) fun x19 =>
  Option.bind x8.1 fun x20 =>
  Option.bind ((x13.2.t_wal_segment.set x16 (x17.1, ((x15.2.1 ++ [p1]), x17.2.2)))[x20]?) fun x21 =>
  if decide (x3.2.2.1 ≥ x5.2.2.1) = true then
  Option.bind p0 fun x22 =>
  Option.bind x13.2.t_wal_Log[x22]? fun x23 =>
  if ((x23.2.2.2.1.length + 1) * 8) ≤ 140737488355328 then
  Option.bind p0 fun x24 =>
  Option.bind x13.2.t_wal_Log[x24]? fun x25 =>
  if x22 = x24 ∧ true = true then
  some ((x0, (0 : Int)), (((x13.2.set_wal_segment (x13.2.t_wal_segment.set x16 (x17.1, ((x15.2.1 ++ [p1]), x17.2.2)))).set_wal_segment ((x13.2.t_wal_segment.set x16 (x17.1, ((x15.2.1 ++ [p1]), x17.2.2))).set x20 (x21.1, (x21.2.1, (IntKind.wrap .i64 (x19.2.2.1 + (x9.length : Int)), x21.2.2.2))))).set_wal_Log (x13.2.t_wal_Log.set x24 (x25.1, (x25.2.1, (x25.2.2.1, ((x23.2.2.2.1 ++ [x8.1]), x25.2.2.2.2)))))))
  else
  none
  else
  none
  else
  some ((x0, (0 : Int)), ((x13.2.set_wal_segment (x13.2.t_wal_segment.set x16 (x17.1, ((x15.2.1 ++ [p1]), x17.2.2)))).set_wal_segment ((x13.2.t_wal_segment.set x16 (x17.1, ((x15.2.1 ++ [p1]), x17.2.2))).set x20 (x21.1, (x21.2.1, (IntKind.wrap .i64 (x19.2.2.1 + (x9.length : Int)), x21.2.2.2))))))
  else
  none
  else
  none) Option.some
  else
  Option.bind (Option.bind (f_wal_Log_Sync p0 σ) fun x26 =>
  if (x26.1 != 0) = true then
  some (.inr (((0 : Int), x26.1), x26.2))
  else
  some (.inl (some x26.2.t_wal_segment.length, (x26.2.set_wal_segment (x26.2.t_wal_segment ++ [(x0, ([], ((0 : Int), ())))]))))) fun x27 =>
  sumO x27 (fun x28 =>
  Option.bind (f_wal_record x0 p1) fun x29 =>
  Option.bind p0 fun x30 =>
  Option.bind x28.2.t_wal_Log[x30]? fun x31 =>
  Option.bind (f_wal_Log_file p0 x28.1 x28.2) fun x32 =>
  Option.bind (f_disk_Disk_Append x31.1 x32 x29 x28.2) fun x33 =>
  if (x33.1 != 0) = true then
  some (((0 : Int), x33.1), x33.2)
  else
  Option.bind x28.1 fun x34 =>
  Option.bind x33.2.t_wal_segment[x34]? fun x35 =>
  if ((x35.2.1.length + 1) * 16) ≤ 140737488355328 then
  Option.bind x28.1 fun x36 =>
  Option.bind x33.2.t_wal_segment[x36]? fun x37 =>
  if x34 = x36 ∧ true = true then
  Option.bind x28.1 fun x38 =>
  Option.bind ((x33.2.t_wal_segment.set x36 (x37.1, ((x35.2.1 ++ [p1]), x37.2.2)))[x38]?) fun x39 =>
  Option.bind x28.1 fun x40 =>
  Option.bind ((x33.2.t_wal_segment.set x36 (x37.1, ((x35.2.1 ++ [p1]), x37.2.2)))[x40]?) fun x41 =>
  Option.bind p0 fun x42 =>
  Option.bind x33.2.t_wal_Log[x42]? fun x43 =>
  if ((x43.2.2.2.1.length + 1) * 8) ≤ 140737488355328 then
  Option.bind p0 fun x44 =>
  Option.bind x33.2.t_wal_Log[x44]? fun x45 =>
  if x42 = x44 ∧ true = true then
  some ((x0, (0 : Int)), (((x33.2.set_wal_segment (x33.2.t_wal_segment.set x36 (x37.1, ((x35.2.1 ++ [p1]), x37.2.2)))).set_wal_segment ((x33.2.t_wal_segment.set x36 (x37.1, ((x35.2.1 ++ [p1]), x37.2.2))).set x40 (x41.1, (x41.2.1, (IntKind.wrap .i64 (x39.2.2.1 + (x29.length : Int)), x41.2.2.2))))).set_wal_Log (x33.2.t_wal_Log.set x44 (x45.1, (x45.2.1, (x45.2.2.1, ((x43.2.2.2.1 ++ [x28.1]), x45.2.2.2.2)))))))
  else
  none
  else
  none
  else
  none
  else
  none) Option.some

noncomputable def k_wal_Log_Append : Kn St := ⟨13, [.kv (.ptr T_wal_Log), .kv .str], [.kv .i, .kv .i], .rw fun x σ => f_wal_Log_Append x.1 x.2.1 σ⟩

theorem k_wal_Log_Append_ok : k_wal_Log_Append.ok Tryz.prog TB := rwOK ⟨Tryz.prog, TB, 91, KLs, MLs, [], [], [64, 84], [k_wal_Log_Next, k_wal_Log_last, k_wal_Log_Sync, k_wal_record, k_wal_Log_file, k_disk_Disk_Append]⟩ ⟨[], [(9, ⟨[], true, [⟨.nrm, [(7, .kv (.ptr T_wal_segment))]⟩], true, []⟩)], [], []⟩ TB_ok ⟨k_wal_Log_Next_ok, k_wal_Log_last_ok, k_wal_Log_Sync_ok, k_wal_record_ok, k_wal_Log_file_ok, k_disk_Disk_Append_ok, trivial⟩ (fn := Tryz.f13) (by kernel_rfl) (by kernel_rfl) (by kernel_rfl)
noncomputable def f_pending_Queue_write (p0 : Option Nat) (p1 : List UInt8) (σ : St) : Option (Int × St) :=
  Option.bind p0 fun x0 =>
  Option.bind σ.t_pending_Queue[x0]? fun x1 =>
  Option.bind (f_wal_Log_Append x1.2.1 p1 σ) fun x2 =>
  if (x2.1.2 != 0) = true then
  some (x2.1.2, x2.2)
  else
  Option.bind p0 fun x3 =>
  Option.bind x2.2.t_pending_Queue[x3]? fun x4 =>
  Option.bind (f_wal_Log_Sync x4.2.1 x2.2) fun x5 =>
  some (x5.1, x5.2)

noncomputable def k_pending_Queue_write : Kn St := ⟨33, [.kv (.ptr T_pending_Queue), .kv .str], [.kv .i], .rw fun x σ => f_pending_Queue_write x.1 x.2.1 σ⟩

theorem k_pending_Queue_write_ok : k_pending_Queue_write.ok Tryz.prog TB := rwOK ⟨Tryz.prog, TB, 24, KLs, MLs, [], [], [], [k_wal_Log_Append, k_wal_Log_Sync]⟩ ⟨[], [], [], []⟩ TB_ok ⟨k_wal_Log_Append_ok, k_wal_Log_Sync_ok, trivial⟩ (fn := Tryz.f33) (by kernel_rfl) (by kernel_rfl) (by kernel_rfl)
noncomputable def f_pending_Queue_Submit (p0 : Option Nat) (p1 : List UInt8) (p2 : Int) (p3 : List Int) (p4 : Int) (σ : St) : Option ((Int × Int) × St) :=
  if p0.isNone = true then
  some (((0 : Int), (1 : Int)), σ)
  else
  Option.bind (f_pending_Queue_Next p0 σ) fun x0 =>
  if ((0 + p3.length) * 8) ≤ 140737488355328 then
  Option.bind p0 fun x1 =>
  Option.bind σ.t_pending_Queue[x1]? fun x2 =>
  Option.bind (f_codec_PutCmd (x2.1, (x0, (p1, (p2, (([] ++ p3), (p4, ()))))))) fun x3 =>
  if (x3.2 != 0) = true then
  some (((0 : Int), x3.2), σ)
  else
  Option.bind p0 fun x4 =>
  Option.bind σ.t_pending_Queue[x4]? fun x5 =>
  if decide ((x5.2.2.1.length : Int) ≥ 32) = true then
  some (((0 : Int), (10 : Int)), σ)
  else
  if (1 + x3.1.length) ≤ 9223372036854775807 then
  Option.bind (f_pending_Queue_write p0 (99 :: x3.1) σ) fun x6 =>
  if (x6.1 != 0) = true then
  some (((0 : Int), x6.1), x6.2)
  else
  Option.bind p0 fun x7 =>
  Option.bind x6.2.t_pending_Queue[x7]? fun x8 =>
  Option.bind p0 fun x9 =>
  Option.bind x6.2.t_pending_Queue[x9]? fun x10 =>
  Option.bind p0 fun x11 =>
  Option.bind x6.2.t_pending_Queue[x11]? fun x12 =>
  if (x10.2.2.1.length : Int) = (x8.2.2.1.length : Int) ∧ (x12.2.2.1.length : Int) = (x8.2.2.1.length : Int) then
  if 0 < 1 ∧ ((x8.2.2.1.length + 1) * 72) ≤ 140737488355328 then
  Option.bind p0 fun x13 =>
  Option.bind x6.2.t_pending_Queue[x13]? fun x14 =>
  some ((x0, (0 : Int)), (x6.2.set_pending_Queue (x6.2.t_pending_Queue.set x13 (x14.1, (x14.2.1, ((x8.2.2.1 ++ [(x2.1, (x0, (p1, (p2, (([] ++ p3), (p4, ()))))))]), x14.2.2.2))))))
  else
  none
  else
  none
  else
  none
  else
  none

noncomputable def k_pending_Queue_Submit : Kn St := ⟨11, [.kv (.ptr T_pending_Queue), .kv .str, .kv .i, .kv (.list .i), .kv .i], [.kv .i, .kv .i], .rw fun x σ => f_pending_Queue_Submit x.1 x.2.1 x.2.2.1 x.2.2.2.1 x.2.2.2.2.1 σ⟩

theorem k_pending_Queue_Submit_ok : k_pending_Queue_Submit.ok Tryz.prog TB := rwOK ⟨Tryz.prog, TB, 77, KLs, MLs, [], [4000012], [], [k_pending_Queue_Next, k_codec_PutCmd, k_pending_Queue_write]⟩ ⟨[], [], [], []⟩ TB_ok ⟨k_pending_Queue_Next_ok, k_codec_PutCmd_ok, k_pending_Queue_write_ok, trivial⟩ (fn := Tryz.f11) (by kernel_rfl) (by kernel_rfl) (by kernel_rfl)
noncomputable def f_codec_PutVerdicts_1 (p0 : List Int) (p1 : Int × Int × Unit) : Option (List Int) :=
  Option.bind (f_codec_number p0 [p1.1, p1.2.1]) fun x0 =>
  some x0

noncomputable def k_codec_PutVerdicts_1 : Kn St := ⟨79, [.own 5 1 (.int .u8), .kv K_api_Verdict], [.own 5 1 (.int .u8)], .ro fun x σ => f_codec_PutVerdicts_1 x.1 x.2.1⟩

theorem k_codec_PutVerdicts_1_ok : k_codec_PutVerdicts_1.ok Tryz.prog TB := roOK ⟨Tryz.prog, TB, 12, KLs, MLs, [], [1000003], [], [k_codec_number]⟩ ⟨[], [], [], []⟩ TB_ok ⟨k_codec_number_ok, trivial⟩ (fn := Tryz.f79) (by kernel_rfl) (by kernel_rfl) (by kernel_rfl)
noncomputable def f_codec_list_api_Verdict_codec_PutVerdicts_1_l0 (p1 : List (Int × Int × Unit)) (s1 : (List Int) × Int) : Option (((List Int) × Int) ⊕ (List Int)) :=
  if decide (s1.2 < (p1.length : Int)) = true then
  Option.bind (ix p1 s1.2) fun x2 =>
  Option.bind (f_codec_PutVerdicts_1 s1.1 x2) fun x3 =>
  some (.inl (x3, IntKind.wrap .i64 (s1.2 + 1)))
  else
  some (.inr s1.1)

noncomputable def f_codec_list_api_Verdict_codec_PutVerdicts_1 (p0 : List Int) (p1 : List (Int × Int × Unit)) (p2 : Unit) : Option (List Int) :=
  Option.bind (f_codec_number p0 [(p1.length : Int)]) fun x0 =>
  Option.bind (loopM (f_codec_list_api_Verdict_codec_PutVerdicts_1_l0 p1) (x0, (0 : Int))) fun x4 =>
  some x4

noncomputable def k_codec_list_api_Verdict_codec_PutVerdicts_1 : Kn St := ⟨78, [.own 5 1 (.int .u8), .kv (.list K_api_Verdict), .clo 79 []], [.own 5 1 (.int .u8)], .ro fun x σ => f_codec_list_api_Verdict_codec_PutVerdicts_1 x.1 x.2.1 x.2.2.1⟩

theorem k_codec_list_api_Verdict_codec_PutVerdicts_1_ok : k_codec_list_api_Verdict_codec_PutVerdicts_1.ok Tryz.prog TB := roOK ⟨Tryz.prog, TB, 26, KLs, MLs, [], [5000008], [], [k_codec_number, k_codec_PutVerdicts_1]⟩ ⟨[], [], [], [(3, ⟨[(0, .own 5 1 (.int .u8)), (16, .kv .i)], false, [⟨.ext 0, [(0, .own 5 1 (.int .u8))]⟩], false, []⟩)]⟩ TB_ok ⟨k_codec_number_ok, k_codec_PutVerdicts_1_ok, trivial⟩ (fn := Tryz.f78) (by kernel_rfl) (by kernel_rfl) (by kernel_rfl)
noncomputable def f_codec_PutVerdicts (p0 : List (Int × Int × Unit)) : Option ((List UInt8) × Int) :=
  Option.bind (f_codec_verdicts p0) fun x0 =>
  Option.bind (f_codec_list_api_Verdict_codec_PutVerdicts_1 [] p0 ()) fun x1 =>
  Option.bind (f_codec_laid x0 x1) fun x2 =>
  some (x2.1, x2.2)

noncomputable def k_codec_PutVerdicts : Kn St := ⟨43, [.kv (.list K_api_Verdict)], [.kv .str, .kv .i], .ro fun x σ => f_codec_PutVerdicts x.1⟩

theorem k_codec_PutVerdicts_ok : k_codec_PutVerdicts.ok Tryz.prog TB := roOK ⟨Tryz.prog, TB, 11, KLs, MLs, [], [], [], [k_codec_verdicts, k_codec_list_api_Verdict_codec_PutVerdicts_1, k_codec_laid]⟩ ⟨[], [], [], []⟩ TB_ok ⟨k_codec_verdicts_ok, k_codec_list_api_Verdict_codec_PutVerdicts_1_ok, k_codec_laid_ok, trivial⟩ (fn := Tryz.f43) (by kernel_rfl) (by kernel_rfl) (by kernel_rfl)
noncomputable def f_pending_Queue_Done_l0 (p0 : Option Nat) (σ : St) (s1 : List (Int × Int × Unit)) : Option ((List (Int × Int × Unit)) ⊕ (List (Int × Int × Unit))) :=
  if decide ((s1.length : Int) > 0) = true then
  Option.bind (ix s1 (0 : Int)) fun x2 =>
  Option.bind (f_pending_Queue_First p0 σ) fun x3 =>
  if decide (x2.1 < x3) = true then
  if (0 : Int) ≤ (1 : Int) ∧ 1 ≤ (s1.length : Int) then
  some (.inl (s1.drop 1))
  else
  none
  else
  some (.inr s1)
  else
  some (.inr s1)

noncomputable def f_pending_Queue_Done (p0 : Option Nat) (p1 : List (Int × Int × Unit)) (σ : St) : Option ((Int × Int) × St) :=
  if p0.isNone = true then
  some (((0 : Int), (1 : Int)), σ)
  else
  Option.bind (f_codec_PutVerdicts p1) fun x0 =>
  if (x0.2 != 0) = true then
  some (((0 : Int), x0.2), σ)
  else
  Option.bind (loopM (f_pending_Queue_Done_l0 p0 σ) p1) fun x4 =>
  if ((x4.length : Int) == 0) = true then
  some (((0 : Int), (0 : Int)), σ)
  else
  Option.bind (f_pending_Queue_fits p0 x4 σ) fun x5 =>
  if (!x5) = true then
  some (((0 : Int), (3 : Int)), σ)
  else
  Option.bind (f_codec_PutVerdicts x4) fun x6 =>
  if (1 + x6.1.length) ≤ 9223372036854775807 then
  Option.bind (f_pending_Queue_write p0 (118 :: x6.1) σ) fun x7 =>
  if (x7.1 != 0) = true then
  some (((0 : Int), x7.1), x7.2)
  else
  Option.bind (f_pending_Queue_take p0 x4 x7.2) fun x8 =>
  some (((x4.length : Int), (0 : Int)), x8.2)
  else
  none

noncomputable def k_pending_Queue_Done : Kn St := ⟨17, [.kv (.ptr T_pending_Queue), .kv (.list K_api_Verdict)], [.kv .i, .kv .i], .rw fun x σ => f_pending_Queue_Done x.1 x.2.1 σ⟩

theorem k_pending_Queue_Done_ok : k_pending_Queue_Done.ok Tryz.prog TB := rwOK ⟨Tryz.prog, TB, 61, KLs, MLs, [], [], [], [k_codec_PutVerdicts, k_pending_Queue_First, k_pending_Queue_fits, k_pending_Queue_write, k_pending_Queue_take]⟩ ⟨[], [], [], [(6, ⟨[(1, .kv (.list K_api_Verdict))], false, [⟨.ext 0, [(1, .kv (.list K_api_Verdict))]⟩], false, []⟩)]⟩ TB_ok ⟨k_codec_PutVerdicts_ok, k_pending_Queue_First_ok, k_pending_Queue_fits_ok, k_pending_Queue_write_ok, k_pending_Queue_take_ok, trivial⟩ (fn := Tryz.f17) (by kernel_rfl) (by kernel_rfl) (by kernel_rfl)
noncomputable def f_pending_Queue_Waiting_l0 (x1 : Int × (Option Nat) × (List (Int × Int × (List UInt8) × Int × (List Int) × Int × Unit)) × (List (Int × Int × Unit)) × Unit) (s2 : (List (Int × Int × (List UInt8) × Int × (List Int) × Int × Unit)) × Int) : Option (((List (Int × Int × (List UInt8) × Int × (List Int) × Int × Unit)) × Int) ⊕ (List (Int × Int × (List UInt8) × Int × (List Int) × Int × Unit))) :=
  if decide (s2.2 < (x1.2.2.1.length : Int)) = true then
  Option.bind (ix x1.2.2.1 s2.2) fun x3 =>
  if ((0 + x3.2.2.2.2.1.length) * 8) ≤ 140737488355328 then
  if ((s2.1.length + 1) * 72) ≤ 140737488355328 then
  some (.inl ((s2.1 ++ [(x3.1, (x3.2.1, (x3.2.2.1, (x3.2.2.2.1, (([] ++ x3.2.2.2.2.1), x3.2.2.2.2.2)))))]), IntKind.wrap .i64 (s2.2 + 1)))
  else
  none
  else
  none
  else
  some (.inr s2.1)

noncomputable def f_pending_Queue_Waiting (p0 : Option Nat) (σ : St) : Option (List (Int × Int × (List UInt8) × Int × (List Int) × Int × Unit)) :=
  if p0.isNone = true then
  some []
  else
  Option.bind p0 fun x0 =>
  Option.bind σ.t_pending_Queue[x0]? fun x1 =>
  Option.bind (loopM (f_pending_Queue_Waiting_l0 x1) ([], (0 : Int))) fun x4 =>
  some x4

noncomputable def k_pending_Queue_Waiting : Kn St := ⟨22, [.kv (.ptr T_pending_Queue)], [.kv (.list K_api_Cmd)], .ro fun x σ => f_pending_Queue_Waiting x.1 σ⟩

theorem k_pending_Queue_Waiting_ok : k_pending_Queue_Waiting.ok Tryz.prog TB := roOK ⟨Tryz.prog, TB, 29, KLs, MLs, [], [8, 28, 8000005], [], []⟩ ⟨[], [], [], [(5, ⟨[(3, .own 33 72 K_api_Cmd), (14, .kv .i)], false, [⟨.ext 0, [(3, .own 33 72 K_api_Cmd)]⟩], false, []⟩)]⟩ TB_ok trivial (fn := Tryz.f22) (by kernel_rfl) (by kernel_rfl) (by kernel_rfl)
noncomputable def f_pending_Queue_Notices (p0 : Option Nat) (σ : St) : Option (List (Int × Int × Unit)) :=
  if p0.isNone = true then
  some []
  else
  Option.bind p0 fun x0 =>
  Option.bind σ.t_pending_Queue[x0]? fun x1 =>
  if ((0 + x1.2.2.2.1.length) * 16) ≤ 140737488355328 then
  some ([] ++ x1.2.2.2.1)
  else
  none

noncomputable def k_pending_Queue_Notices : Kn St := ⟨21, [.kv (.ptr T_pending_Queue)], [.kv (.list K_api_Verdict)], .ro fun x σ => f_pending_Queue_Notices x.1 σ⟩

theorem k_pending_Queue_Notices_ok : k_pending_Queue_Notices.ok Tryz.prog TB := roOK ⟨Tryz.prog, TB, 11, KLs, MLs, [], [], [], []⟩ ⟨[], [], [], []⟩ TB_ok trivial (fn := Tryz.f21) (by kernel_rfl) (by kernel_rfl) (by kernel_rfl)
noncomputable def f_surmiselaw25_awake (σ : St) : Option (Bool × St) :=
  Option.bind (f_disk_New (1048576 : Int) σ) fun x0 =>
  Option.bind (f_pending_Open x0.1.1 (1 : Int) x0.2) fun x1 =>
  if ((x1.1.2 != 0) || x1.1.1.isNone) = true then
  some (false, x1.2)
  else
  Option.bind (f_pending_Queue_Submit x1.1.1 [97] (0 : Int) [(5 : Int)] (-1 : Int) x1.2) fun x2 =>
  Option.bind (f_pending_Queue_Submit x1.1.1 [97] (0 : Int) [] (-1 : Int) x2.2) fun x3 =>
  Option.bind (f_pending_Queue_Done x1.1.1 [((1 : Int), ((0 : Int), ()))] x3.2) fun x4 =>
  Option.bind (f_pending_Queue_Done x1.1.1 [((1 : Int), ((0 : Int), ()))] x4.2) fun x5 =>
  Option.bind (if ((((((x2.1.1 == 1) && (x3.1.1 == 2)) && (x4.1.1 == 1)) && (x4.1.2 == 0)) && (x5.1.1 == 0)) && (x5.1.2 == 0)) = true then
  f_pending_Queue_Waiting x1.1.1 x5.2
  else
  some []) fun x6 =>
  Option.bind (if (((((((x2.1.1 == 1) && (x3.1.1 == 2)) && (x4.1.1 == 1)) && (x4.1.2 == 0)) && (x5.1.1 == 0)) && (x5.1.2 == 0)) && ((x6.length : Int) == 1)) = true then
  f_pending_Queue_Notices x1.1.1 x5.2
  else
  some []) fun x7 =>
  Option.bind (if ((((((((x2.1.1 == 1) && (x3.1.1 == 2)) && (x4.1.1 == 1)) && (x4.1.2 == 0)) && (x5.1.1 == 0)) && (x5.1.2 == 0)) && ((x6.length : Int) == 1)) && ((x7.length : Int) == 1)) = true then
  f_pending_Queue_First x1.1.1 x5.2
  else
  some (0 : Int)) fun x8 =>
  Option.bind (if (((((((((x2.1.1 == 1) && (x3.1.1 == 2)) && (x4.1.1 == 1)) && (x4.1.2 == 0)) && (x5.1.1 == 0)) && (x5.1.2 == 0)) && ((x6.length : Int) == 1)) && ((x7.length : Int) == 1)) && (x8 == 2)) = true then
  f_pending_Queue_Next x1.1.1 x5.2
  else
  some (0 : Int)) fun x9 =>
  some (((((((((((x2.1.1 == 1) && (x3.1.1 == 2)) && (x4.1.1 == 1)) && (x4.1.2 == 0)) && (x5.1.1 == 0)) && (x5.1.2 == 0)) && ((x6.length : Int) == 1)) && ((x7.length : Int) == 1)) && (x8 == 2)) && (x9 == 3)), x5.2)

noncomputable def k_surmiselaw25_awake : Kn St := ⟨10, [], [.kv .bool], .rw fun x σ => f_surmiselaw25_awake σ⟩

theorem k_surmiselaw25_awake_ok : k_surmiselaw25_awake.ok Tryz.prog TB := rwOK ⟨Tryz.prog, TB, 97, KLs, MLs, [], [], [], [k_disk_New, k_pending_Open, k_pending_Queue_Submit, k_pending_Queue_Done, k_pending_Queue_Waiting, k_pending_Queue_Notices, k_pending_Queue_First, k_pending_Queue_Next]⟩ ⟨[], [], [], []⟩ TB_ok ⟨k_disk_New_ok, k_pending_Open_ok, k_pending_Queue_Submit_ok, k_pending_Queue_Done_ok, k_pending_Queue_Waiting_ok, k_pending_Queue_Notices_ok, k_pending_Queue_First_ok, k_pending_Queue_Next_ok, trivial⟩ (fn := Tryz.f10) (by kernel_rfl) (by kernel_rfl) (by kernel_rfl)
end Go.Proofs.YtbnmhjobnepajaaGreat.M


set_option maxRecDepth 100000
namespace Go.Proofs.YtbnmhjobnepajaaGreat.M
open Go.Proofs
noncomputable def f_surmiseref10_within (p0 : Int) (p1 : Int) (p2 : Int) : Option Bool :=
  some (decide (p0 ≥ p1) && decide (p0 ≤ p2))

noncomputable def k_surmiseref10_within : Kn St := ⟨75, [.kv .i, .kv .i, .kv .i], [.kv .bool], .ro fun x σ => f_surmiseref10_within x.1 x.2.1 x.2.2.1⟩

theorem k_surmiseref10_within_ok : k_surmiseref10_within.ok Tryz.prog TB := roOK ⟨Tryz.prog, TB, 15, KLs, MLs, [], [], [], []⟩ ⟨[], [], [], []⟩ TB_ok trivial (fn := Tryz.f75) (by kernel_rfl) (by kernel_rfl) (by kernel_rfl)
noncomputable def f_surmiseref06_Split_l0 (p0 : List UInt8) (p1 : Int) (s0 : (List (List UInt8)) × (List UInt8) × Int) : Option (((List (List UInt8)) × (List UInt8) × Int) ⊕ ((List (List UInt8)) × List UInt8)) :=
  if decide (s0.2.2 < (p0.length : Int)) = true then
  if 0 ≤ s0.2.2 ∧ s0.2.2 < (p0.length : Int) then
  if (btS p0 s0.2.2 == p1) = true then
  if ((s0.1.length + 1) * 16) ≤ 140737488355328 then
  some (.inl ((s0.1 ++ [s0.2.1]), ([], IntKind.wrap .i64 (s0.2.2 + 1))))
  else
  none
  else
  if 0 ≤ s0.2.2 ∧ s0.2.2 ≤ IntKind.wrap .i64 (s0.2.2 + 1) ∧ IntKind.wrap .i64 (s0.2.2 + 1) ≤ (p0.length : Int) then
  if (s0.2.1.length + ((p0.take ((IntKind.wrap .i64 (s0.2.2 + 1)).toNat)).drop s0.2.2.toNat).length) ≤ 9223372036854775807 then
  some (.inl (s0.1, ((s0.2.1 ++ (p0.take ((IntKind.wrap .i64 (s0.2.2 + 1)).toNat)).drop s0.2.2.toNat), IntKind.wrap .i64 (s0.2.2 + 1))))
  else
  none
  else
  none
  else
  none
  else
  some (.inr (s0.1, s0.2.1))

noncomputable def f_surmiseref06_Split (p0 : List UInt8) (p1 : Int) : Option (List (List UInt8)) :=
  Option.bind (loopM (f_surmiseref06_Split_l0 p0 p1) ([], ([], (0 : Int)))) fun x1 =>
  if ((x1.1.length + 1) * 16) ≤ 140737488355328 then
  some (x1.1 ++ [x1.2])
  else
  none

noncomputable def k_surmiseref06_Split : Kn St := ⟨145, [.kv .str, .kv (.int .u8)], [.kv (.list .str)], .ro fun x σ => f_surmiseref06_Split x.1 x.2.1⟩

theorem k_surmiseref06_Split_ok : k_surmiseref06_Split.ok Tryz.prog TB := roOK ⟨Tryz.prog, TB, 34, KLs, MLs, [], [], [], []⟩ ⟨[], [], [], [(4, ⟨[(5, .own 9 16 .str), (6, .kv .str), (7, .kv .i)], false, [⟨.ext 0, [(5, .own 9 16 .str), (6, .kv .str)]⟩], false, []⟩)]⟩ TB_ok trivial (fn := Tryz.f145) (by kernel_rfl) (by kernel_rfl) (by kernel_rfl)
noncomputable def f_surmiseref08_Parts (p0 : List UInt8) : Option (List (List UInt8)) :=
  Option.bind (f_surmiseref06_Split p0 (47 : Int)) fun x0 =>
  some x0

noncomputable def k_surmiseref08_Parts : Kn St := ⟨116, [.kv .str], [.kv (.list .str)], .ro fun x σ => f_surmiseref08_Parts x.1⟩

theorem k_surmiseref08_Parts_ok : k_surmiseref08_Parts.ok Tryz.prog TB := roOK ⟨Tryz.prog, TB, 5, KLs, MLs, [], [], [], [k_surmiseref06_Split]⟩ ⟨[], [], [], []⟩ TB_ok ⟨k_surmiseref06_Split_ok, trivial⟩ (fn := Tryz.f116) (by kernel_rfl) (by kernel_rfl) (by kernel_rfl)
noncomputable def f_surmiseref08_Plain_l0 (p0 : List UInt8) (s0 : Int) : Option (Int ⊕ (Unit ⊕ Bool)) :=
  if decide (s0 < (p0.length : Int)) = true then
  if 0 ≤ s0 ∧ s0 < (p0.length : Int) then
  if ((((decide (btS p0 s0 < 97) || decide (btS p0 s0 > 122)) && (decide (btS p0 s0 < 48) || decide (btS p0 s0 > 57))) && (btS p0 s0 != 45)) && (btS p0 s0 != 95)) = true then
  some (.inr (.inr false))
  else
  some (.inl (IntKind.wrap .i64 (s0 + 1)))
  else
  none
  else
  some (.inr (.inl ()))

noncomputable def f_surmiseref08_Plain (p0 : List UInt8) : Option Bool :=
  Option.bind (loopM (f_surmiseref08_Plain_l0 p0) (0 : Int)) fun x1 =>
  sumO x1 (fun x2 =>
  some (decide ((p0.length : Int) > 0))) Option.some

noncomputable def k_surmiseref08_Plain : Kn St := ⟨117, [.kv .str], [.kv .bool], .ro fun x σ => f_surmiseref08_Plain x.1⟩

theorem k_surmiseref08_Plain_ok : k_surmiseref08_Plain.ok Tryz.prog TB := roOK ⟨Tryz.prog, TB, 39, KLs, MLs, [], [], [], []⟩ ⟨[], [], [], [(2, ⟨[(3, .kv .i)], false, [⟨.ext 0, []⟩], true, []⟩)]⟩ TB_ok trivial (fn := Tryz.f117) (by kernel_rfl) (by kernel_rfl) (by kernel_rfl)
noncomputable def f_surmiseref08_Stream_l0 (x0 : List (List UInt8)) (s1 : Int) : Option (Int ⊕ (Unit ⊕ Bool)) :=
  if decide (s1 < (x0.length : Int)) = true then
  Option.bind (ix x0 s1) fun x2 =>
  Option.bind (f_surmiseref08_Plain x2) fun x3 =>
  if (!x3) = true then
  some (.inr (.inr false))
  else
  some (.inl (IntKind.wrap .i64 (s1 + 1)))
  else
  some (.inr (.inl ()))

noncomputable def f_surmiseref08_Stream (p0 : List UInt8) : Option Bool :=
  if decide ((p0.length : Int) > 32) = true then
  some false
  else
  Option.bind (f_surmiseref08_Parts p0) fun x0 =>
  Option.bind (loopM (f_surmiseref08_Stream_l0 x0) (0 : Int)) fun x4 =>
  sumO x4 (fun x5 =>
  some (decide ((x0.length : Int) ≤ 4))) Option.some

noncomputable def k_surmiseref08_Stream : Kn St := ⟨102, [.kv .str], [.kv .bool], .ro fun x σ => f_surmiseref08_Stream x.1⟩

theorem k_surmiseref08_Stream_ok : k_surmiseref08_Stream.ok Tryz.prog TB := roOK ⟨Tryz.prog, TB, 25, KLs, MLs, [], [], [], [k_surmiseref08_Parts, k_surmiseref08_Plain]⟩ ⟨[], [], [], [(5, ⟨[(4, .kv .i)], false, [⟨.ext 0, []⟩], true, []⟩)]⟩ TB_ok ⟨k_surmiseref08_Parts_ok, k_surmiseref08_Plain_ok, trivial⟩ (fn := Tryz.f102) (by kernel_rfl) (by kernel_rfl) (by kernel_rfl)
noncomputable def f_surmiseref10_Head (p0 : Int) (p1 : Int) (p2 : List UInt8) : Option Bool :=
  Option.bind (f_surmiseref10_within p0 (0 : Int) (5 : Int)) fun x0 =>
  Option.bind (if x0 = true then
  f_surmiseref10_within p1 (1 : Int) (1099511627776 : Int)
  else
  some false) fun x1 =>
  Option.bind (if (x0 && x1) = true then
  f_surmiseref08_Stream p2
  else
  some false) fun x2 =>
  some ((x0 && x1) && x2)

noncomputable def k_surmiseref10_Head : Kn St := ⟨74, [.kv .i, .kv .i, .kv .str], [.kv .bool], .ro fun x σ => f_surmiseref10_Head x.1 x.2.1 x.2.2.1⟩

theorem k_surmiseref10_Head_ok : k_surmiseref10_Head.ok Tryz.prog TB := roOK ⟨Tryz.prog, TB, 17, KLs, MLs, [], [], [], [k_surmiseref10_within, k_surmiseref08_Stream]⟩ ⟨[], [], [], []⟩ TB_ok ⟨k_surmiseref10_within_ok, k_surmiseref08_Stream_ok, trivial⟩ (fn := Tryz.f74) (by kernel_rfl) (by kernel_rfl) (by kernel_rfl)
noncomputable def f_surmiseref03_Value (p0 : Int) : Option Bool :=
  some (decide (p0 ≥ (-1099511627776)) && decide (p0 ≤ 1099511627776))

noncomputable def k_surmiseref03_Value : Kn St := ⟨103, [.kv .i], [.kv .bool], .ro fun x σ => f_surmiseref03_Value x.1⟩

theorem k_surmiseref03_Value_ok : k_surmiseref03_Value.ok Tryz.prog TB := roOK ⟨Tryz.prog, TB, 9, KLs, MLs, [], [], [], []⟩ ⟨[], [], [], []⟩ TB_ok trivial (fn := Tryz.f103) (by kernel_rfl) (by kernel_rfl) (by kernel_rfl)
noncomputable def f_surmiseref10_Values_l0 (p0 : List Int) (s0 : Int) : Option (Int ⊕ (Unit ⊕ Bool)) :=
  if decide (s0 < (p0.length : Int)) = true then
  Option.bind (ix p0 s0) fun x1 =>
  Option.bind (f_surmiseref03_Value x1) fun x2 =>
  if (!x2) = true then
  some (.inr (.inr false))
  else
  some (.inl (IntKind.wrap .i64 (s0 + 1)))
  else
  some (.inr (.inl ()))

noncomputable def f_surmiseref10_Values (p0 : List Int) (p1 : Int) : Option Bool :=
  Option.bind (loopM (f_surmiseref10_Values_l0 p0) (0 : Int)) fun x3 =>
  sumO x3 (fun x4 =>
  some (decide ((p0.length : Int) ≤ p1))) Option.some

noncomputable def k_surmiseref10_Values : Kn St := ⟨76, [.kv (.list .i), .kv .i], [.kv .bool], .ro fun x σ => f_surmiseref10_Values x.1 x.2.1⟩

theorem k_surmiseref10_Values_ok : k_surmiseref10_Values.ok Tryz.prog TB := roOK ⟨Tryz.prog, TB, 22, KLs, MLs, [], [], [], [k_surmiseref03_Value]⟩ ⟨[], [], [], [(2, ⟨[(5, .kv .i)], false, [⟨.ext 0, []⟩], true, []⟩)]⟩ TB_ok ⟨k_surmiseref03_Value_ok, trivial⟩ (fn := Tryz.f76) (by kernel_rfl) (by kernel_rfl) (by kernel_rfl)
noncomputable def f_surmiseref10_Cmd (p0 : Int × Int × (List UInt8) × Int × (List Int) × Int × Unit) : Option Bool :=
  Option.bind (f_surmiseref10_Head p0.1 p0.2.1 p0.2.2.1) fun x0 =>
  Option.bind (if x0 = true then
  f_surmiseref10_within p0.2.2.2.1 (0 : Int) (11 : Int)
  else
  some false) fun x1 =>
  Option.bind (if (x0 && x1) = true then
  f_surmiseref10_Values p0.2.2.2.2.1 (4 : Int)
  else
  some false) fun x2 =>
  Option.bind (if ((x0 && x1) && x2) = true then
  f_surmiseref10_within p0.2.2.2.2.2.1 (-1 : Int) (1099511627776 : Int)
  else
  some false) fun x3 =>
  some (((x0 && x1) && x2) && x3)

noncomputable def k_surmiseref10_Cmd : Kn St := ⟨42, [.kv K_api_Cmd], [.kv .bool], .ro fun x σ => f_surmiseref10_Cmd x.1⟩

theorem k_surmiseref10_Cmd_ok : k_surmiseref10_Cmd.ok Tryz.prog TB := roOK ⟨Tryz.prog, TB, 25, KLs, MLs, [], [1000001], [], [k_surmiseref10_Head, k_surmiseref10_within, k_surmiseref10_Values]⟩ ⟨[], [], [], []⟩ TB_ok ⟨k_surmiseref10_Head_ok, k_surmiseref10_within_ok, k_surmiseref10_Values_ok, trivial⟩ (fn := Tryz.f42) (by kernel_rfl) (by kernel_rfl) (by kernel_rfl)
noncomputable def f_surmiseref25_Queue_Submit (p0 : Option Nat) (p1 : Int × Int × (List UInt8) × Int × (List Int) × Int × Unit) (σ : St) : Option ((Int × Int) × St) :=
  Option.bind p0 fun x0 =>
  Option.bind σ.t_surmiseref25_Queue[x0]? fun x1 =>
  Option.bind p0 fun x2 =>
  Option.bind σ.t_surmiseref25_Queue[x2]? fun x3 =>
  Option.bind (f_surmiseref10_Cmd (x1.1, (IntKind.wrap .i64 ((x3.2.1.length : Int) + 1), p1.2.2))) fun x4 =>
  if (!x4) = true then
  some (((0 : Int), (2 : Int)), σ)
  else
  Option.bind p0 fun x5 =>
  Option.bind σ.t_surmiseref25_Queue[x5]? fun x6 =>
  Option.bind p0 fun x7 =>
  Option.bind σ.t_surmiseref25_Queue[x7]? fun x8 =>
  if decide (IntKind.wrap .i64 ((x6.2.1.length : Int) - (x8.2.2.1.length : Int)) ≥ 32) = true then
  some (((0 : Int), (10 : Int)), σ)
  else
  Option.bind p0 fun x9 =>
  Option.bind σ.t_surmiseref25_Queue[x9]? fun x10 =>
  if ((0 + x10.2.1.length) * 72) ≤ 140737488355328 then
  if ((([] ++ x10.2.1).length + 1) * 72) ≤ 140737488355328 then
  Option.bind p0 fun x11 =>
  Option.bind σ.t_surmiseref25_Queue[x11]? fun x12 =>
  some ((IntKind.wrap .i64 ((x3.2.1.length : Int) + 1), (0 : Int)), (σ.set_surmiseref25_Queue (σ.t_surmiseref25_Queue.set x11 (x12.1, ((([] ++ x10.2.1) ++ [(x1.1, (IntKind.wrap .i64 ((x3.2.1.length : Int) + 1), p1.2.2))]), x12.2.2)))))
  else
  none
  else
  none

noncomputable def k_surmiseref25_Queue_Submit : Kn St := ⟨15, [.kv (.ptr T_surmiseref25_Queue), .kv K_api_Cmd], [.kv .i, .kv .i], .rw fun x σ => f_surmiseref25_Queue_Submit x.1 x.2.1 σ⟩

theorem k_surmiseref25_Queue_Submit_ok : k_surmiseref25_Queue_Submit.ok Tryz.prog TB := rwOK ⟨Tryz.prog, TB, 47, KLs, MLs, [], [3000003], [], [k_surmiseref10_Cmd]⟩ ⟨[], [], [], []⟩ TB_ok ⟨k_surmiseref10_Cmd_ok, trivial⟩ (fn := Tryz.f15) (by kernel_rfl) (by kernel_rfl) (by kernel_rfl)
noncomputable def f_surmiselaw25_first_l0 (p0 : Option Nat) (p1 : Int) (σ : St) (s0 : (List (Int × Int × Unit)) × Int) : Option (((List (Int × Int × Unit)) × Int) ⊕ (List (Int × Int × Unit))) :=
  Option.bind (if (decide (s0.2 < p1) && decide (s0.2 < 40)) = true then
  f_pending_Queue_First p0 σ
  else
  some (0 : Int)) fun x1 =>
  Option.bind (if (decide (s0.2 < p1) && decide (s0.2 < 40)) = true then
  f_pending_Queue_Next p0 σ
  else
  some (0 : Int)) fun x2 =>
  if ((decide (s0.2 < p1) && decide (s0.2 < 40)) && decide (IntKind.wrap .i64 (x1 + s0.2) < x2)) = true then
  Option.bind (f_pending_Queue_First p0 σ) fun x3 =>
  if ((s0.1.length + 1) * 16) ≤ 140737488355328 then
  some (.inl ((s0.1 ++ [(IntKind.wrap .i64 (x3 + s0.2), ((0 : Int), ()))]), IntKind.wrap .i64 (s0.2 + 1)))
  else
  none
  else
  some (.inr s0.1)

noncomputable def f_surmiselaw25_first (p0 : Option Nat) (p1 : Int) (σ : St) : Option (List (Int × Int × Unit)) :=
  Option.bind (loopM (f_surmiselaw25_first_l0 p0 p1 σ) ([], (0 : Int))) fun x4 =>
  some x4

noncomputable def k_surmiselaw25_first : Kn St := ⟨16, [.kv (.ptr T_pending_Queue), .kv .i], [.kv (.list K_api_Verdict)], .ro fun x σ => f_surmiselaw25_first x.1 x.2.1 σ⟩

theorem k_surmiselaw25_first_ok : k_surmiselaw25_first.ok Tryz.prog TB := roOK ⟨Tryz.prog, TB, 34, KLs, MLs, [], [33], [], [k_pending_Queue_First, k_pending_Queue_Next]⟩ ⟨[], [], [], [(3, ⟨[(5, .own 58 16 K_api_Verdict), (6, .kv .i)], false, [⟨.ext 0, [(5, .own 58 16 K_api_Verdict)]⟩], false, []⟩)]⟩ TB_ok ⟨k_pending_Queue_First_ok, k_pending_Queue_Next_ok, trivial⟩ (fn := Tryz.f16) (by kernel_rfl) (by kernel_rfl) (by kernel_rfl)
noncomputable def f_surmiseref10_Verdicts_l0 (p0 : List (Int × Int × Unit)) (s0 : Int) : Option (Int ⊕ (Unit ⊕ Bool)) :=
  if decide (s0 < (p0.length : Int)) = true then
  Option.bind (ix p0 s0) fun x1 =>
  Option.bind (f_surmiseref10_within x1.1 (1 : Int) (1099511627776 : Int)) fun x2 =>
  if (!(!x2)) = true then
  Option.bind (ix p0 s0) fun x3 =>
  Option.bind (f_surmiseref10_within x3.2.1 (0 : Int) (63 : Int)) fun x4 =>
  if (!(!x4)) = true then
  if decide (s0 > 0) = true then
  Option.bind (ix p0 s0) fun x5 =>
  Option.bind (ix p0 (IntKind.wrap .i64 (s0 - 1))) fun x6 =>
  if decide (x5.1 ≤ x6.1) = true then
  some (.inr (.inr false))
  else
  some (.inl (IntKind.wrap .i64 (s0 + 1)))
  else
  some (.inl (IntKind.wrap .i64 (s0 + 1)))
  else
  some (.inr (.inr false))
  else
  some (.inr (.inr false))
  else
  some (.inr (.inl ()))

noncomputable def f_surmiseref10_Verdicts (p0 : List (Int × Int × Unit)) : Option Bool :=
  Option.bind (loopM (f_surmiseref10_Verdicts_l0 p0) (0 : Int)) fun x7 =>
  sumO x7 (fun x8 =>
  some (decide ((p0.length : Int) ≤ 32))) Option.some

noncomputable def k_surmiseref10_Verdicts : Kn St := ⟨46, [.kv (.list K_api_Verdict)], [.kv .bool], .ro fun x σ => f_surmiseref10_Verdicts x.1⟩

theorem k_surmiseref10_Verdicts_ok : k_surmiseref10_Verdicts.ok Tryz.prog TB := roOK ⟨Tryz.prog, TB, 47, KLs, MLs, [], [], [], [k_surmiseref10_within]⟩ ⟨[], [], [], [(2, ⟨[(3, .kv .i)], false, [⟨.ext 0, []⟩], true, []⟩)]⟩ TB_ok ⟨k_surmiseref10_within_ok, trivial⟩ (fn := Tryz.f46) (by kernel_rfl) (by kernel_rfl) (by kernel_rfl)
noncomputable def f_surmiseref25_Queue_Done_l0 (p0 : Option Nat) (p1 : List (Int × Int × Unit)) (σ : St) (s1 : (List (Int × Int × Unit)) × Int) : Option (((List (Int × Int × Unit)) × Int) ⊕ (List (Int × Int × Unit))) :=
  if decide (s1.2 < (p1.length : Int)) = true then
  Option.bind (ix p1 s1.2) fun x2 =>
  Option.bind p0 fun x3 =>
  Option.bind σ.t_surmiseref25_Queue[x3]? fun x4 =>
  if decide (x2.1 > (x4.2.2.1.length : Int)) = true then
  Option.bind (ix p1 s1.2) fun x5 =>
  if ((s1.1.length + 1) * 16) ≤ 140737488355328 then
  some (.inl ((s1.1 ++ [x5]), IntKind.wrap .i64 (s1.2 + 1)))
  else
  none
  else
  some (.inl (s1.1, IntKind.wrap .i64 (s1.2 + 1)))
  else
  some (.inr s1.1)

noncomputable def f_surmiseref25_Queue_Done_l1 (p0 : Option Nat) (σ : St) (x6 : List (Int × Int × Unit)) (s7 : Int) : Option (Int ⊕ (Unit ⊕ ((Int × Int) × St))) :=
  if decide (s7 < (x6.length : Int)) = true then
  Option.bind (ix x6 s7) fun x8 =>
  Option.bind p0 fun x9 =>
  Option.bind σ.t_surmiseref25_Queue[x9]? fun x10 =>
  if (!(x8.1 != IntKind.wrap .i64 (IntKind.wrap .i64 ((x10.2.2.1.length : Int) + 1) + s7))) = true then
  Option.bind (ix x6 s7) fun x11 =>
  Option.bind p0 fun x12 =>
  Option.bind σ.t_surmiseref25_Queue[x12]? fun x13 =>
  if decide (x11.1 > (x13.2.1.length : Int)) = true then
  some (.inr (.inr (((0 : Int), (3 : Int)), σ)))
  else
  some (.inl (IntKind.wrap .i64 (s7 + 1)))
  else
  some (.inr (.inr (((0 : Int), (3 : Int)), σ)))
  else
  some (.inr (.inl ()))

noncomputable def f_surmiseref25_Queue_Done (p0 : Option Nat) (p1 : List (Int × Int × Unit)) (σ : St) : Option ((Int × Int) × St) :=
  Option.bind (f_surmiseref10_Verdicts p1) fun x0 =>
  if (!x0) = true then
  some (((0 : Int), (2 : Int)), σ)
  else
  Option.bind (loopM (f_surmiseref25_Queue_Done_l0 p0 p1 σ) ([], (0 : Int))) fun x6 =>
  Option.bind (loopM (f_surmiseref25_Queue_Done_l1 p0 σ x6) (0 : Int)) fun x14 =>
  sumO x14 (fun x15 =>
  Option.bind p0 fun x16 =>
  Option.bind σ.t_surmiseref25_Queue[x16]? fun x17 =>
  if ((0 + x17.2.2.1.length) * 16) ≤ 140737488355328 then
  if ((([] ++ x17.2.2.1).length + x6.length) * 16) ≤ 140737488355328 then
  Option.bind p0 fun x18 =>
  Option.bind σ.t_surmiseref25_Queue[x18]? fun x19 =>
  some (((x6.length : Int), (0 : Int)), (σ.set_surmiseref25_Queue (σ.t_surmiseref25_Queue.set x18 (x19.1, (x19.2.1, ((([] ++ x17.2.2.1) ++ x6), x19.2.2.2))))))
  else
  none
  else
  none) Option.some

noncomputable def k_surmiseref25_Queue_Done : Kn St := ⟨18, [.kv (.ptr T_surmiseref25_Queue), .kv (.list K_api_Verdict)], [.kv .i, .kv .i], .rw fun x σ => f_surmiseref25_Queue_Done x.1 x.2.1 σ⟩

theorem k_surmiseref25_Queue_Done_ok : k_surmiseref25_Queue_Done.ok Tryz.prog TB := rwOK ⟨Tryz.prog, TB, 82, KLs, MLs, [], [37, 42, 57, 76, 80], [], [k_surmiseref10_Verdicts]⟩ ⟨[], [], [], [(5, ⟨[(6, .own 58 16 K_api_Verdict), (7, .kv .i)], false, [⟨.ext 0, [(6, .own 58 16 K_api_Verdict)]⟩], false, []⟩), (10, ⟨[(8, .kv .i)], false, [⟨.ext 2, []⟩], true, [6]⟩)]⟩ TB_ok ⟨k_surmiseref10_Verdicts_ok, trivial⟩ (fn := Tryz.f18) (by kernel_rfl) (by kernel_rfl) (by kernel_rfl)
noncomputable def f_disk_Disk_Crash_l0 (p0 : Option Nat) (x0 : List (List UInt8)) (s1 : (List Int) × Int × St) : Option (((List Int) × Int × St) ⊕ St) :=
  if decide (s1.2.1 < (x0.length : Int)) = true then
  Option.bind (ix x0 s1.2.1) fun x2 =>
  Option.bind p0 fun x3 =>
  Option.bind s1.2.2.t_disk_Disk[x3]? fun x4 =>
  Option.bind s1.2.2.t_disk_Disk[x3]? fun x5 =>
  Option.bind ((mapGet Kd.str (Kd.ptr 93) x2 x5.2.1).getD none) fun x6 =>
  Option.bind s1.2.2.t_disk_file[x6]? fun x7 =>
  Option.bind ((mapGet Kd.str (Kd.ptr 93) x2 x5.2.1).getD none) fun x8 =>
  Option.bind s1.2.2.t_disk_file[x8]? fun x9 =>
  if (IntKind.wrap .i64 ((x7.1.length : Int) - x9.2.1) == 0) = true then
  some (.inl (s1.1, (IntKind.wrap .i64 (s1.2.1 + 1), s1.2.2)))
  else
  Option.bind (if decide ((s1.1.length : Int) > 0) = true then
  Option.bind (ix s1.1 (0 : Int)) fun x10 =>
  if IntKind.wrap .i64 (IntKind.wrap .i64 ((x7.1.length : Int) - x9.2.1) + 1) ≠ 0 then
  if (0 : Int) ≤ (1 : Int) ∧ 1 ≤ (s1.1.length : Int) then
  some (s1.1.drop 1, (if 0 > x10 then
  (0 : Int)
  else
  x10).tmod (IntKind.wrap .i64 (IntKind.wrap .i64 ((x7.1.length : Int) - x9.2.1) + 1)))
  else
  none
  else
  none
  else
  some (s1.1, (0 : Int))) fun x11 =>
  Option.bind ((mapGet Kd.str (Kd.ptr 93) x2 x5.2.1).getD none) fun x12 =>
  Option.bind s1.2.2.t_disk_file[x12]? fun x13 =>
  Option.bind ((mapGet Kd.str (Kd.ptr 93) x2 x5.2.1).getD none) fun x14 =>
  Option.bind s1.2.2.t_disk_file[x14]? fun x15 =>
  if 0 ≤ IntKind.wrap .i64 (x15.2.1 + x11.2) ∧ IntKind.wrap .i64 (x15.2.1 + x11.2) ≤ (x13.1.length : Int) then
  Option.bind ((mapGet Kd.str (Kd.ptr 93) x2 x5.2.1).getD none) fun x16 =>
  Option.bind s1.2.2.t_disk_file[x16]? fun x17 =>
  Option.bind ((mapGet Kd.str (Kd.ptr 93) x2 x5.2.1).getD none) fun x18 =>
  Option.bind ((s1.2.2.t_disk_file.set x16 (x13.1.take ((IntKind.wrap .i64 (x15.2.1 + x11.2)).toNat), x17.2))[x18]?) fun x19 =>
  Option.bind ((mapGet Kd.str (Kd.ptr 93) x2 x5.2.1).getD none) fun x20 =>
  Option.bind ((s1.2.2.t_disk_file.set x16 (x13.1.take ((IntKind.wrap .i64 (x15.2.1 + x11.2)).toNat), x17.2))[x20]?) fun x21 =>
  some (.inl (x11.1, (IntKind.wrap .i64 (s1.2.1 + 1), ((s1.2.2.set_disk_file (s1.2.2.t_disk_file.set x16 (x13.1.take ((IntKind.wrap .i64 (x15.2.1 + x11.2)).toNat), x17.2))).set_disk_file ((s1.2.2.t_disk_file.set x16 (x13.1.take ((IntKind.wrap .i64 (x15.2.1 + x11.2)).toNat), x17.2)).set x20 (x21.1, ((x19.1.length : Int), x21.2.2)))))))
  else
  none
  else
  some (.inr s1.2.2)

noncomputable def f_disk_Disk_Crash (p0 : Option Nat) (p1 : List Int) (σ : St) : Option (Int × St) :=
  if p0.isNone = true then
  some ((1 : Int), σ)
  else
  Option.bind (f_disk_Disk_List p0 σ) fun x0 =>
  Option.bind (loopM (f_disk_Disk_Crash_l0 p0 x0) (p1, ((0 : Int), σ))) fun x22 =>
  Option.bind p0 fun x23 =>
  Option.bind x22.t_disk_Disk[x23]? fun x24 =>
  Option.bind p0 fun x25 =>
  Option.bind ((x22.t_disk_Disk.set x23 (x24.1, (x24.2.1, (x24.2.2.1, (false, x24.2.2.2.2)))))[x25]?) fun x26 =>
  some ((0 : Int), ((x22.set_disk_Disk (x22.t_disk_Disk.set x23 (x24.1, (x24.2.1, (x24.2.2.1, (false, x24.2.2.2.2)))))).set_disk_Disk ((x22.t_disk_Disk.set x23 (x24.1, (x24.2.1, (x24.2.2.1, (false, x24.2.2.2.2))))).set x25 (x26.1, (x26.2.1, ((0 : Int), x26.2.2.2))))))

noncomputable def k_disk_Disk_Crash : Kn St := ⟨19, [.kv (.ptr T_disk_Disk), .kv (.list .i)], [.kv .i], .rw fun x σ => f_disk_Disk_Crash x.1 x.2.1 σ⟩

theorem k_disk_Disk_Crash_ok : k_disk_Disk_Crash.ok Tryz.prog TB := rwOK ⟨Tryz.prog, TB, 78, KLs, MLs, [], [], [], [k_disk_Disk_List]⟩ ⟨[], [(11, ⟨[], false, [⟨.nrm, [(1, .kv (.list .i)), (9, .kv .i)]⟩], false, []⟩)], [], [(4, ⟨[(1, .kv (.list .i)), (15, .kv .i)], true, [⟨.ext 0, []⟩], false, []⟩)]⟩ TB_ok ⟨k_disk_Disk_List_ok, trivial⟩ (fn := Tryz.f19) (by kernel_rfl) (by kernel_rfl) (by kernel_rfl)
noncomputable def f_surmiseref25_Queue_Waiting (p0 : Option Nat) (σ : St) : Option (List (Int × Int × (List UInt8) × Int × (List Int) × Int × Unit)) :=
  Option.bind p0 fun x0 =>
  Option.bind σ.t_surmiseref25_Queue[x0]? fun x1 =>
  Option.bind p0 fun x2 =>
  Option.bind σ.t_surmiseref25_Queue[x2]? fun x3 =>
  if 0 ≤ (x3.2.2.1.length : Int) ∧ (x3.2.2.1.length : Int) ≤ (x1.2.1.length : Int) then
  some (x1.2.1.drop ((x3.2.2.1.length : Int).toNat))
  else
  none

noncomputable def k_surmiseref25_Queue_Waiting : Kn St := ⟨49, [.kv (.ptr T_surmiseref25_Queue)], [.kv (.list K_api_Cmd)], .ro fun x σ => f_surmiseref25_Queue_Waiting x.1 σ⟩

theorem k_surmiseref25_Queue_Waiting_ok : k_surmiseref25_Queue_Waiting.ok Tryz.prog TB := roOK ⟨Tryz.prog, TB, 13, KLs, MLs, [], [], [], []⟩ ⟨[], [], [], []⟩ TB_ok trivial (fn := Tryz.f49) (by kernel_rfl) (by kernel_rfl) (by kernel_rfl)
noncomputable def f_surmiseref01_Ints_l0 (p0 : List Int) (p1 : List Int) (s0 : Int) : Option (Int ⊕ (Unit ⊕ Bool)) :=
  if decide (s0 < (p0.length : Int)) = true then
  Option.bind (ix p0 s0) fun x1 =>
  Option.bind (ix p1 s0) fun x2 =>
  if (x1 != x2) = true then
  some (.inr (.inr false))
  else
  some (.inl (IntKind.wrap .i64 (s0 + 1)))
  else
  some (.inr (.inl ()))

noncomputable def f_surmiseref01_Ints (p0 : List Int) (p1 : List Int) : Option Bool :=
  if ((p0.length : Int) != (p1.length : Int)) = true then
  some false
  else
  Option.bind (loopM (f_surmiseref01_Ints_l0 p0 p1) (0 : Int)) fun x3 =>
  sumO x3 (fun x4 =>
  some true) Option.some

noncomputable def k_surmiseref01_Ints : Kn St := ⟨106, [.kv (.list .i), .kv (.list .i)], [.kv .bool], .ro fun x σ => f_surmiseref01_Ints x.1 x.2.1⟩

theorem k_surmiseref01_Ints_ok : k_surmiseref01_Ints.ok Tryz.prog TB := roOK ⟨Tryz.prog, TB, 26, KLs, MLs, [], [], [], []⟩ ⟨[], [], [], [(4, ⟨[(5, .kv .i)], false, [⟨.ext 0, []⟩], true, []⟩)]⟩ TB_ok trivial (fn := Tryz.f106) (by kernel_rfl) (by kernel_rfl) (by kernel_rfl)
noncomputable def f_surmiseref10_SameCmd (p0 : Int × Int × (List UInt8) × Int × (List Int) × Int × Unit) (p1 : Int × Int × (List UInt8) × Int × (List Int) × Int × Unit) : Option Bool :=
  Option.bind (if ((((p0.1 == p1.1) && (p0.2.1 == p1.2.1)) && (p0.2.2.1 == p1.2.2.1)) && (p0.2.2.2.1 == p1.2.2.2.1)) = true then
  f_surmiseref01_Ints p0.2.2.2.2.1 p1.2.2.2.2.1
  else
  some false) fun x0 =>
  some ((((((p0.1 == p1.1) && (p0.2.1 == p1.2.1)) && (p0.2.2.1 == p1.2.2.1)) && (p0.2.2.2.1 == p1.2.2.2.1)) && x0) && (p0.2.2.2.2.2.1 == p1.2.2.2.2.2.1))

noncomputable def k_surmiseref10_SameCmd : Kn St := ⟨81, [.kv K_api_Cmd, .kv K_api_Cmd], [.kv .bool], .ro fun x σ => f_surmiseref10_SameCmd x.1 x.2.1⟩

theorem k_surmiseref10_SameCmd_ok : k_surmiseref10_SameCmd.ok Tryz.prog TB := roOK ⟨Tryz.prog, TB, 45, KLs, MLs, [], [1000002, 1000003], [], [k_surmiseref01_Ints]⟩ ⟨[], [], [], []⟩ TB_ok ⟨k_surmiseref01_Ints_ok, trivial⟩ (fn := Tryz.f81) (by kernel_rfl) (by kernel_rfl) (by kernel_rfl)
noncomputable def f_surmiseref11_SameCmds_l0 (p0 : List (Int × Int × (List UInt8) × Int × (List Int) × Int × Unit)) (p1 : List (Int × Int × (List UInt8) × Int × (List Int) × Int × Unit)) (s0 : Int) : Option (Int ⊕ (Unit ⊕ Bool)) :=
  if decide (s0 < (p0.length : Int)) = true then
  Option.bind (ix p0 s0) fun x1 =>
  Option.bind (ix p1 s0) fun x2 =>
  Option.bind (f_surmiseref10_SameCmd x1 x2) fun x3 =>
  if (!x3) = true then
  some (.inr (.inr false))
  else
  some (.inl (IntKind.wrap .i64 (s0 + 1)))
  else
  some (.inr (.inl ()))

noncomputable def f_surmiseref11_SameCmds (p0 : List (Int × Int × (List UInt8) × Int × (List Int) × Int × Unit)) (p1 : List (Int × Int × (List UInt8) × Int × (List Int) × Int × Unit)) : Option Bool :=
  if ((p0.length : Int) != (p1.length : Int)) = true then
  some false
  else
  Option.bind (loopM (f_surmiseref11_SameCmds_l0 p0 p1) (0 : Int)) fun x4 =>
  sumO x4 (fun x5 =>
  some true) Option.some

noncomputable def k_surmiseref11_SameCmds : Kn St := ⟨48, [.kv (.list K_api_Cmd), .kv (.list K_api_Cmd)], [.kv .bool], .ro fun x σ => f_surmiseref11_SameCmds x.1 x.2.1⟩

theorem k_surmiseref11_SameCmds_ok : k_surmiseref11_SameCmds.ok Tryz.prog TB := roOK ⟨Tryz.prog, TB, 27, KLs, MLs, [], [], [], [k_surmiseref10_SameCmd]⟩ ⟨[], [], [], [(4, ⟨[(5, .kv .i)], false, [⟨.ext 0, []⟩], true, []⟩)]⟩ TB_ok ⟨k_surmiseref10_SameCmd_ok, trivial⟩ (fn := Tryz.f48) (by kernel_rfl) (by kernel_rfl) (by kernel_rfl)
noncomputable def f_surmiseref10_SameVerdicts_l0 (p0 : List (Int × Int × Unit)) (p1 : List (Int × Int × Unit)) (s0 : Int) : Option (Int ⊕ (Unit ⊕ Bool)) :=
  if decide (s0 < (p0.length : Int)) = true then
  Option.bind (ix p0 s0) fun x1 =>
  Option.bind (ix p1 s0) fun x2 =>
  if (!((x1.1 == x2.1) && ((x1.2.1 == x2.2.1) && true))) = true then
  some (.inr (.inr false))
  else
  some (.inl (IntKind.wrap .i64 (s0 + 1)))
  else
  some (.inr (.inl ()))

noncomputable def f_surmiseref10_SameVerdicts (p0 : List (Int × Int × Unit)) (p1 : List (Int × Int × Unit)) : Option Bool :=
  if ((p0.length : Int) != (p1.length : Int)) = true then
  some false
  else
  Option.bind (loopM (f_surmiseref10_SameVerdicts_l0 p0 p1) (0 : Int)) fun x3 =>
  sumO x3 (fun x4 =>
  some true) Option.some

noncomputable def k_surmiseref10_SameVerdicts : Kn St := ⟨50, [.kv (.list K_api_Verdict), .kv (.list K_api_Verdict)], [.kv .bool], .ro fun x σ => f_surmiseref10_SameVerdicts x.1 x.2.1⟩

theorem k_surmiseref10_SameVerdicts_ok : k_surmiseref10_SameVerdicts.ok Tryz.prog TB := roOK ⟨Tryz.prog, TB, 26, KLs, MLs, [], [], [], []⟩ ⟨[], [], [], [(4, ⟨[(5, .kv .i)], false, [⟨.ext 0, []⟩], true, []⟩)]⟩ TB_ok trivial (fn := Tryz.f50) (by kernel_rfl) (by kernel_rfl) (by kernel_rfl)
noncomputable def f_surmiselaw25_same (p0 : Option Nat) (p1 : Option Nat) (σ : St) : Option Bool :=
  Option.bind (f_pending_Queue_Waiting p0 σ) fun x0 =>
  Option.bind (f_surmiseref25_Queue_Waiting p1 σ) fun x1 =>
  Option.bind (f_surmiseref11_SameCmds x0 x1) fun x2 =>
  if x2 = true then
  Option.bind (f_pending_Queue_Notices p0 σ) fun x3 =>
  Option.bind p1 fun x4 =>
  Option.bind σ.t_surmiseref25_Queue[x4]? fun x5 =>
  Option.bind (f_surmiseref10_SameVerdicts x3 x5.2.2.1) fun x6 =>
  if x6 = true then
  Option.bind (f_pending_Queue_First p0 σ) fun x7 =>
  Option.bind p1 fun x8 =>
  Option.bind σ.t_surmiseref25_Queue[x8]? fun x9 =>
  if (x7 == IntKind.wrap .i64 ((x9.2.2.1.length : Int) + 1)) = true then
  Option.bind (f_pending_Queue_Next p0 σ) fun x10 =>
  Option.bind p1 fun x11 =>
  Option.bind σ.t_surmiseref25_Queue[x11]? fun x12 =>
  some (x10 == IntKind.wrap .i64 ((x12.2.1.length : Int) + 1))
  else
  some false
  else
  some false
  else
  some false

noncomputable def k_surmiselaw25_same : Kn St := ⟨20, [.kv (.ptr T_pending_Queue), .kv (.ptr T_surmiseref25_Queue)], [.kv .bool], .ro fun x σ => f_surmiselaw25_same x.1 x.2.1 σ⟩

theorem k_surmiselaw25_same_ok : k_surmiselaw25_same.ok Tryz.prog TB := roOK ⟨Tryz.prog, TB, 41, KLs, MLs, [], [], [], [k_pending_Queue_Waiting, k_surmiseref25_Queue_Waiting, k_surmiseref11_SameCmds, k_pending_Queue_Notices, k_surmiseref10_SameVerdicts, k_pending_Queue_First, k_pending_Queue_Next]⟩ ⟨[], [], [], []⟩ TB_ok ⟨k_pending_Queue_Waiting_ok, k_surmiseref25_Queue_Waiting_ok, k_surmiseref11_SameCmds_ok, k_pending_Queue_Notices_ok, k_surmiseref10_SameVerdicts_ok, k_pending_Queue_First_ok, k_pending_Queue_Next_ok, trivial⟩ (fn := Tryz.f20) (by kernel_rfl) (by kernel_rfl) (by kernel_rfl)
noncomputable def f_surmiselaw25_PendingDoes_l0 (p0 : Int) (p1 : List (Int × Int × (Int × Int × (List UInt8) × Int × (List Int) × Int × Unit) × (List (Int × Int × Unit)) × (List Int) × Unit)) (x0 : ((Option Nat) × Int) × St) (x1 : ((Option Nat) × Int) × St) (s4 : (Option Nat) × Int × St) : Option (((Option Nat) × Int × St) ⊕ (St ⊕ (Bool × St))) :=
  if (decide (s4.2.1 < (p1.length : Int)) && decide (s4.2.1 < 60)) = true then
  Option.bind (ix p1 s4.2.1) fun x5 =>
  Option.bind (if (decide (x5.1 ≥ 0) && decide (x5.1 < 4)) = true then
  Option.bind (f_pending_Queue_Submit s4.1 x5.2.2.1.2.2.1 x5.2.2.1.2.2.2.1 x5.2.2.1.2.2.2.2.1 x5.2.2.1.2.2.2.2.2.1 s4.2.2) fun x6 =>
  Option.bind (f_surmiseref25_Queue_Submit (some x1.2.t_surmiseref25_Queue.length) x5.2.2.1 x6.2) fun x7 =>
  if ((x6.1.1 != x7.1.1) || (x6.1.2 != x7.1.2)) = true then
  some (.inr (.inr (.inr (false, x7.2))))
  else
  some (.inl (s4.1, x7.2))
  else
  Option.bind (if ((x5.1 == 4) || (x5.1 == 5)) = true then
  Option.bind (if (x5.1 == 5) = true then
  Option.bind (f_surmiselaw25_first s4.1 x5.2.1 s4.2.2) fun x8 =>
  some x8
  else
  some x5.2.2.2.1) fun x9 =>
  Option.bind (f_pending_Queue_Done s4.1 x9 s4.2.2) fun x10 =>
  Option.bind (f_surmiseref25_Queue_Done (some x1.2.t_surmiseref25_Queue.length) x9 x10.2) fun x11 =>
  if ((x10.1.1 != x11.1.1) || (x10.1.2 != x11.1.2)) = true then
  some (.inr (.inr (.inr (.inr (false, x11.2)))))
  else
  some (.inl (s4.1, x11.2))
  else
  Option.bind (f_disk_Disk_Crash x0.1.1 x5.2.2.2.2.1 s4.2.2) fun x12 =>
  Option.bind (f_pending_Open x0.1.1 p0 x12.2) fun x13 =>
  if ((x13.1.2 != 0) || x13.1.1.isNone) = true then
  some (.inr (.inr (.inr (.inr (false, x13.2)))))
  else
  some (.inl (x13.1.1, x13.2))) fun x14 =>
  sumO x14 (fun x15 =>
  some (.inl (x15.1, x15.2))) Option.some) fun x16 =>
  sumO x16 (fun x17 =>
  Option.bind (f_surmiselaw25_same x17.1 (some x1.2.t_surmiseref25_Queue.length) x17.2) fun x18 =>
  if (!x18) = true then
  some (.inr (.inr (false, x17.2)))
  else
  some (.inl (x17.1, (IntKind.wrap .i64 (s4.2.1 + 1), x17.2)))) Option.some
  else
  some (.inr (.inl s4.2.2))

noncomputable def f_surmiselaw25_PendingDoes (p0 : Int) (p1 : List (Int × Int × (Int × Int × (List UInt8) × Int × (List Int) × Int × Unit) × (List (Int × Int × Unit)) × (List Int) × Unit)) (σ : St) : Option (Bool × St) :=
  Option.bind (f_disk_New (1048576 : Int) σ) fun x0 =>
  Option.bind (f_pending_Open x0.1.1 p0 x0.2) fun x1 =>
  if (decide (p0 < 0) || decide (p0 > 5)) = true then
  Option.bind (f_surmiselaw25_awake x1.2) fun x2 =>
  some (((x2.1 && x1.1.1.isNone) && (x1.1.2 == 14)), x2.2)
  else
  Option.bind (if (!((x1.1.2 != 0) || x1.1.1.isNone)) = true then
  f_surmiselaw25_awake (x1.2.set_surmiseref25_Queue (x1.2.t_surmiseref25_Queue ++ [(p0, ([], ([], ())))]))
  else
  some (false, (x1.2.set_surmiseref25_Queue (x1.2.t_surmiseref25_Queue ++ [(p0, ([], ([], ())))])))) fun x3 =>
  if (((x1.1.2 != 0) || x1.1.1.isNone) || (!x3.1)) = true then
  some (false, x3.2)
  else
  Option.bind (loopM (f_surmiselaw25_PendingDoes_l0 p0 p1 x0 x1) (x1.1.1, ((0 : Int), x3.2))) fun x19 =>
  sumO x19 (fun x20 =>
  some (true, x20)) Option.some

noncomputable def k_surmiselaw25_PendingDoes : Kn St := ⟨4, [.kv .i, .kv (.list K_surmiselaw25_Act)], [.kv .bool], .rw fun x σ => f_surmiselaw25_PendingDoes x.1 x.2.1 σ⟩

theorem k_surmiselaw25_PendingDoes_ok : k_surmiselaw25_PendingDoes.ok Tryz.prog TB := rwOK ⟨Tryz.prog, TB, 172, KLs, MLs, [], [12000011], [], [k_disk_New, k_pending_Open, k_surmiselaw25_awake, k_pending_Queue_Submit, k_surmiseref25_Queue_Submit, k_surmiselaw25_first, k_pending_Queue_Done, k_surmiseref25_Queue_Done, k_disk_Disk_Crash, k_surmiselaw25_same]⟩ ⟨[], [(24, ⟨[], false, [⟨.nrm, [(16, .kv (.list K_api_Verdict))]⟩], false, []⟩), (22, ⟨[], true, [⟨.nrm, [(7, .kv (.ptr T_pending_Queue))]⟩], true, []⟩), (17, ⟨[], true, [⟨.nrm, [(7, .kv (.ptr T_pending_Queue))]⟩], true, []⟩)], [], [(9, ⟨[(7, .kv (.ptr T_pending_Queue)), (10, .kv .i)], true, [⟨.ext 0, []⟩], true, []⟩)]⟩ TB_ok ⟨k_disk_New_ok, k_pending_Open_ok, k_surmiselaw25_awake_ok, k_pending_Queue_Submit_ok, k_surmiseref25_Queue_Submit_ok, k_surmiselaw25_first_ok, k_pending_Queue_Done_ok, k_surmiseref25_Queue_Done_ok, k_disk_Disk_Crash_ok, k_surmiselaw25_same_ok, trivial⟩ (fn := Tryz.f4) (by kernel_rfl) (by kernel_rfl) (by kernel_rfl)
end Go.Proofs.YtbnmhjobnepajaaGreat.M


set_option maxRecDepth 100000

namespace Go.Proofs.YtbnmhjobnepajaaGreat.M

open Go.Proofs

noncomputable def St.set1_disk_Disk (s : St) (i : Nat) (x : denFs fs_disk_Disk) : St := { s with t_disk_Disk := s.t_disk_Disk.set i x }

theorem set1_disk_Disk_get {s : St} {i : Nat} {o x : denFs fs_disk_Disk} (h : s.t_disk_Disk[i]? = some o) : (s.set1_disk_Disk i x).t_disk_Disk[i]? = some x := by simp [St.set1_disk_Disk, (List.getElem?_eq_some_iff.1 h).1]

noncomputable def St.add_disk_Disk (s : St) (x : denFs fs_disk_Disk) : St := { s with t_disk_Disk := s.t_disk_Disk ++ [x] }

theorem got_disk_Disk {s : St} {x : denFs fs_disk_Disk} : (s.add_disk_Disk x).t_disk_Disk[s.t_disk_Disk.length]? = some x := by simp [St.add_disk_Disk]

noncomputable def St.set1_disk_file (s : St) (i : Nat) (x : denFs fs_disk_file) : St := { s with t_disk_file := s.t_disk_file.set i x }

theorem set1_disk_file_get {s : St} {i : Nat} {o x : denFs fs_disk_file} (h : s.t_disk_file[i]? = some o) : (s.set1_disk_file i x).t_disk_file[i]? = some x := by simp [St.set1_disk_file, (List.getElem?_eq_some_iff.1 h).1]

noncomputable def St.add_disk_file (s : St) (x : denFs fs_disk_file) : St := { s with t_disk_file := s.t_disk_file ++ [x] }

theorem got_disk_file {s : St} {x : denFs fs_disk_file} : (s.add_disk_file x).t_disk_file[s.t_disk_file.length]? = some x := by simp [St.add_disk_file]

noncomputable def St.set1_wal_Log (s : St) (i : Nat) (x : denFs fs_wal_Log) : St := { s with t_wal_Log := s.t_wal_Log.set i x }

theorem set1_wal_Log_get {s : St} {i : Nat} {o x : denFs fs_wal_Log} (h : s.t_wal_Log[i]? = some o) : (s.set1_wal_Log i x).t_wal_Log[i]? = some x := by simp [St.set1_wal_Log, (List.getElem?_eq_some_iff.1 h).1]

noncomputable def St.add_wal_Log (s : St) (x : denFs fs_wal_Log) : St := { s with t_wal_Log := s.t_wal_Log ++ [x] }

theorem got_wal_Log {s : St} {x : denFs fs_wal_Log} : (s.add_wal_Log x).t_wal_Log[s.t_wal_Log.length]? = some x := by simp [St.add_wal_Log]

noncomputable def St.set1_wal_segment (s : St) (i : Nat) (x : denFs fs_wal_segment) : St := { s with t_wal_segment := s.t_wal_segment.set i x }

theorem set1_wal_segment_get {s : St} {i : Nat} {o x : denFs fs_wal_segment} (h : s.t_wal_segment[i]? = some o) : (s.set1_wal_segment i x).t_wal_segment[i]? = some x := by simp [St.set1_wal_segment, (List.getElem?_eq_some_iff.1 h).1]

noncomputable def St.add_wal_segment (s : St) (x : denFs fs_wal_segment) : St := { s with t_wal_segment := s.t_wal_segment ++ [x] }

theorem got_wal_segment {s : St} {x : denFs fs_wal_segment} : (s.add_wal_segment x).t_wal_segment[s.t_wal_segment.length]? = some x := by simp [St.add_wal_segment]

noncomputable def St.add_c_t3 (s : St) (x : denFs fs_c_t3) : St := { s with t_c_t3 := s.t_c_t3 ++ [x] }

theorem got_c_t3 {s : St} {x : denFs fs_c_t3} : (s.add_c_t3 x).t_c_t3[s.t_c_t3.length]? = some x := by simp [St.add_c_t3]

noncomputable def St.add_c_t9 (s : St) (x : denFs fs_c_t9) : St := { s with t_c_t9 := s.t_c_t9 ++ [x] }

noncomputable def St.add_c_t23 (s : St) (x : denFs fs_c_t23) : St := { s with t_c_t23 := s.t_c_t23 ++ [x] }

noncomputable def St.set1_c_t91 (s : St) (i : Nat) (x : denFs fs_c_t91) : St := { s with t_c_t91 := s.t_c_t91.set i x }

theorem set1_c_t91_get {s : St} {i : Nat} {o x : denFs fs_c_t91} (h : s.t_c_t91[i]? = some o) : (s.set1_c_t91 i x).t_c_t91[i]? = some x := by simp [St.set1_c_t91, (List.getElem?_eq_some_iff.1 h).1]

noncomputable def St.add_c_t91 (s : St) (x : denFs fs_c_t91) : St := { s with t_c_t91 := s.t_c_t91 ++ [x] }

theorem got_c_t91 {s : St} {x : denFs fs_c_t91} : (s.add_c_t91 x).t_c_t91[s.t_c_t91.length]? = some x := by simp [St.add_c_t91]

noncomputable def St.up (σ : St) := (σ.t_surmiseref25_Queue, σ.t_pending_Queue, σ.t_codec_reader, σ.t_c_t27)

noncomputable def f140_l0 (p0 : List UInt8) (x5 : Int) (x6 : Int) : Option (Sum (Int × Int) Int) :=
  if (decide (x6 < (p0.length : Int))) = true then
  if (0 : Int) ≤ x6 ∧ x6 < (p0.length : Int) then
  if (decide ((btS p0 x6) < 48)) = true then
  some (.inr (-1))
  else
  if (0 : Int) ≤ x6 ∧ x6 < (p0.length : Int) then
  if ((decide ((btS p0 x6) > 57)) || (decide (x5 > 1099511627776))) = true then
  some (.inr (-1))
  else
  if (0 : Int) ≤ x6 ∧ x6 < (p0.length : Int) then
  f140_l0 p0 (IntKind.wrap .i64 ((IntKind.wrap .i64 (x5 * 10)) + (IntKind.wrap .i64 (IntKind.wrap .u8 ((btS p0 x6) - 48))))) (IntKind.wrap .i64 (x6 + 1))
  else none
  else none
  else none
  else
  some (.inl (x5, x6))
  partial_fixpoint

noncomputable def f140 (p0 : List UInt8) : Option Int :=
  f140_l0 p0 0 0 >>= fun rr23 => (match rr23 with
  | .inr yy => some yy
  | .inl z22 =>
  if (p0 == []) = true then
  some (-1)
  else
  if (0 : Int) ≤ 0 ∧ 0 < (p0.length : Int) then
  if ((((btS p0 0) == 48) && (!(p0 == [48]))) || (decide (z22.1 > 1099511627776))) = true then
  some (-1)
  else
  some z22.1
  else none)

noncomputable def f60 (p0 : Option Nat) (σ : St) : Option Int :=
  if p0.isNone = true then
  some 0
  else
  p0 >>= fun i6 =>
  (σ.t_wal_Log[i6]?) >>= fun o7 =>
  some o7.2.2.2.2.1

noncomputable def f18 (p0 : Int) (σ : St) : Option (((Option Nat) × Int) × St) :=
  if ((decide (p0 < 0)) || (decide (p0 > 1048576))) = true then
  some ((none, 2), σ)
  else
  some ((some σ.t_disk_Disk.length, 0), (σ.add_disk_Disk (p0, [], 0, false, ())))

noncomputable def f70 (p0 : Option Nat) (σ : St) : Option Int :=
  if p0.isNone = true then
  some 1
  else
  p0 >>= fun i6 =>
  (σ.t_disk_Disk[i6]?) >>= fun o7 =>
  if o7.2.2.2.1 = true then
  some 11
  else
  some 0

noncomputable def f71_l0 (p0 : List UInt8) (x4 : Int) : Option (Sum Int Bool) :=
  if (decide (x4 < (p0.length : Int))) = true then
  if (0 : Int) ≤ x4 ∧ x4 < (p0.length : Int) then
  if ((((((decide ((btS p0 x4) < 97)) || (decide ((btS p0 x4) > 122))) && ((decide ((btS p0 x4) < 48)) || (decide ((btS p0 x4) > 57)))) && ((btS p0 x4) != 46)) && ((btS p0 x4) != 45)) && ((btS p0 x4) != 95)) = true then
  some (.inr false)
  else
  f71_l0 p0 (IntKind.wrap .i64 (x4 + 1))
  else none
  else
  some (.inl x4)
  partial_fixpoint

noncomputable def f71 (p0 : List UInt8) : Option Bool :=
  f71_l0 p0 0 >>= fun rr18 => (match rr18 with
  | .inr yy => some yy
  | .inl z17 =>
  some ((decide ((p0.length : Int) > 0)) && (decide ((p0.length : Int) ≤ 24))))

noncomputable def f72 (p0 : Option Nat) (p1 : St → Option (Unit × St)) (σ : St) : Option (Int × St) :=
  p0 >>= fun i4 =>
  (σ.t_disk_Disk[i4]?) >>= fun o5 =>
  if (decide (o5.2.2.1 > 0)) = true then
  p0 >>= fun i7 =>
  (σ.t_disk_Disk[i7]?) >>= fun o8 =>
  p0 >>= fun i9 =>
  (σ.t_disk_Disk[i9]?) >>= fun o10 =>
  p0 >>= fun i12 =>
  ((σ.set1_disk_Disk i9 (o10.1, o10.2.1, IntKind.wrap .i64 (o8.2.2.1 - 1), o10.2.2.2.1, ())).t_disk_Disk[i12]?) >>= fun o13 =>
  if (o13.2.2.1 == 0) = true then
  p0 >>= fun i15 =>
  ((σ.set1_disk_Disk i9 (o10.1, o10.2.1, IntKind.wrap .i64 (o8.2.2.1 - 1), o10.2.2.2.1, ())).t_disk_Disk[i15]?) >>= fun o16 =>
  some (11, ((σ.set1_disk_Disk i9 (o10.1, o10.2.1, IntKind.wrap .i64 (o8.2.2.1 - 1), o10.2.2.2.1, ())).set1_disk_Disk i15 (o16.1, o16.2.1, o16.2.2.1, true, ())))
  else
  p1 (σ.set1_disk_Disk i9 (o10.1, o10.2.1, IntKind.wrap .i64 (o8.2.2.1 - 1), o10.2.2.2.1, ())) >>= fun r19 =>
  some (0, r19.2)
  else
  p1 σ >>= fun r22 =>
  some (0, r22.2)

noncomputable def f73  (σ : St) : Option (Unit × St) :=
  some ((), σ)

noncomputable def f24 (p0 : Option Nat) (p1 : List UInt8) (p2 : List UInt8) (σ : St) : Option (Int × St) :=
  f70 p0 σ >>= fun r4 =>
  if (r4 != 0) = true then
  some (r4, σ)
  else
  f71 p1 >>= fun r9 =>
  if (!r9) = true then
  some (2, σ)
  else
  p0 >>= fun i12 =>
  (σ.t_disk_Disk[i12]?) >>= fun o13 =>
  (if (!((mapGet .str (.ptr T_disk_file) p1 o13.2.1).getD (zeroK (.ptr T_disk_file))).isNone) = true then
  ((mapGet .str (.ptr T_disk_file) p1 o13.2.1).getD (zeroK (.ptr T_disk_file))) >>= fun i77 =>
  (σ.t_disk_file[i77]?) >>= fun o78 =>
  some (o78.1.length : Int)
  else
  some 0 : Option Int) >>= fun z18 =>
  if (((mapGet .str (.ptr T_disk_file) p1 o13.2.1).getD (zeroK (.ptr T_disk_file))).isNone) = true then
  p0 >>= fun i23 =>
  (σ.t_disk_Disk[i23]?) >>= fun o24 =>
  if (decide ((o24.2.1.length : Int) ≥ 128)) = true then
  some (10, σ)
  else
  if (decide ((p2.length : Int) > (IntKind.wrap .i64 (65536 - z18)))) = true then
  some (10, σ)
  else
  p0 >>= fun i31 =>
  (σ.t_disk_Disk[i31]?) >>= fun o32 =>
  f_disk_Disk_Used p0 σ >>= fun r33 =>
  if (decide ((p2.length : Int) > (IntKind.wrap .i64 (o32.1 - r33)))) = true then
  some (10, σ)
  else
  (if (((mapGet .str (.ptr T_disk_file) p1 o13.2.1).getD (zeroK (.ptr T_disk_file))).isNone) = true then
  p0 >>= fun i50 =>
  ((σ.add_disk_file ([], 0, ())).t_disk_Disk[i50]?) >>= fun o51 =>
  some (some σ.t_disk_file.length, ((σ.add_disk_file ([], 0, ())).set1_disk_Disk i50 (o51.1, mapSet .str (.ptr T_disk_file) p1 (some σ.t_disk_file.length) o51.2.1, o51.2.2.1, o51.2.2.2.1, ())))
  else
  some ((mapGet .str (.ptr T_disk_file) p1 o13.2.1).getD (zeroK (.ptr T_disk_file)), σ) : Option ((Option Nat) × St)) >>= fun z39 =>
  z39.1 >>= fun i42 =>
  (z39.2.t_disk_file[i42]?) >>= fun o43 =>
  if o43.1.length + p2.length ≤ 9223372036854775807 then
  z39.1 >>= fun i45 =>
  (z39.2.t_disk_file[i45]?) >>= fun o46 =>
  f72 p0 f73 (z39.2.set1_disk_file i45 (o43.1 ++ p2, o46.2.1, ())) >>= fun r48 =>
  some (r48.1, r48.2)
  else none
  else
  if (decide ((p2.length : Int) > (IntKind.wrap .i64 (65536 - z18)))) = true then
  some (10, σ)
  else
  p0 >>= fun i56 =>
  (σ.t_disk_Disk[i56]?) >>= fun o57 =>
  f_disk_Disk_Used p0 σ >>= fun r58 =>
  if (decide ((p2.length : Int) > (IntKind.wrap .i64 (o57.1 - r58)))) = true then
  some (10, σ)
  else
  (if (((mapGet .str (.ptr T_disk_file) p1 o13.2.1).getD (zeroK (.ptr T_disk_file))).isNone) = true then
  p0 >>= fun i75 =>
  ((σ.add_disk_file ([], 0, ())).t_disk_Disk[i75]?) >>= fun o76 =>
  some (some σ.t_disk_file.length, ((σ.add_disk_file ([], 0, ())).set1_disk_Disk i75 (o76.1, mapSet .str (.ptr T_disk_file) p1 (some σ.t_disk_file.length) o76.2.1, o76.2.2.1, o76.2.2.2.1, ())))
  else
  some ((mapGet .str (.ptr T_disk_file) p1 o13.2.1).getD (zeroK (.ptr T_disk_file)), σ) : Option ((Option Nat) × St)) >>= fun z64 =>
  z64.1 >>= fun i67 =>
  (z64.2.t_disk_file[i67]?) >>= fun o68 =>
  if o68.1.length + p2.length ≤ 9223372036854775807 then
  z64.1 >>= fun i70 =>
  (z64.2.t_disk_file[i70]?) >>= fun o71 =>
  f72 p0 f73 (z64.2.set1_disk_file i70 (o68.1 ++ p2, o71.2.1, ())) >>= fun r73 =>
  some (r73.1, r73.2)
  else none

noncomputable def f27_l0 (p0 : Option Nat) (r7 : List (List UInt8)) (x8 : List Int) (x9 : Int) (σ10 : St) : Option ((List Int) × Int × St) :=
  if (decide (x9 < (r7.length : Int))) = true then
  (ix r7 x9) >>= fun x19 =>
  p0 >>= fun i21 =>
  (σ10.t_disk_Disk[i21]?) >>= fun o22 =>
  ((mapGet .str (.ptr T_disk_file) x19 o22.2.1).getD (zeroK (.ptr T_disk_file))) >>= fun i24 =>
  (σ10.t_disk_file[i24]?) >>= fun o25 =>
  ((mapGet .str (.ptr T_disk_file) x19 o22.2.1).getD (zeroK (.ptr T_disk_file))) >>= fun i26 =>
  (σ10.t_disk_file[i26]?) >>= fun o27 =>
  if ((IntKind.wrap .i64 ((o25.1.length : Int) - o27.2.1)) == 0) = true then
  f27_l0 p0 r7 x8 (IntKind.wrap .i64 (x9 + 1)) σ10
  else
  (if (decide ((x8.length : Int) > 0)) = true then
  (ix x8 0) >>= fun x49 =>
  if (IntKind.wrap .i64 ((IntKind.wrap .i64 ((o25.1.length : Int) - o27.2.1)) + 1)) ≠ 0 then
  if (0 : Int) ≤ 1 ∧ 1 ≤ (x8.length : Int) then
  some (x8.drop (Int.toNat 1), Int.tmod (if 0 > x49 then 0 else x49) (IntKind.wrap .i64 ((IntKind.wrap .i64 ((o25.1.length : Int) - o27.2.1)) + 1)))
  else none
  else none
  else
  some (x8, 0) : Option ((List Int) × Int)) >>= fun z35 =>
  ((mapGet .str (.ptr T_disk_file) x19 o22.2.1).getD (zeroK (.ptr T_disk_file))) >>= fun i38 =>
  (σ10.t_disk_file[i38]?) >>= fun o39 =>
  ((mapGet .str (.ptr T_disk_file) x19 o22.2.1).getD (zeroK (.ptr T_disk_file))) >>= fun i40 =>
  (σ10.t_disk_file[i40]?) >>= fun o41 =>
  if (0 : Int) ≤ (IntKind.wrap .i64 (o41.2.1 + z35.2)) ∧ (IntKind.wrap .i64 (o41.2.1 + z35.2)) ≤ (o39.1.length : Int) then
  ((mapGet .str (.ptr T_disk_file) x19 o22.2.1).getD (zeroK (.ptr T_disk_file))) >>= fun i43 =>
  (σ10.t_disk_file[i43]?) >>= fun o44 =>
  ((mapGet .str (.ptr T_disk_file) x19 o22.2.1).getD (zeroK (.ptr T_disk_file))) >>= fun i45 =>
  ((σ10.set1_disk_file i43 (o39.1.take (Int.toNat (IntKind.wrap .i64 (o41.2.1 + z35.2))), o44.2.1, ())).t_disk_file[i45]?) >>= fun o46 =>
  ((mapGet .str (.ptr T_disk_file) x19 o22.2.1).getD (zeroK (.ptr T_disk_file))) >>= fun i47 =>
  ((σ10.set1_disk_file i43 (o39.1.take (Int.toNat (IntKind.wrap .i64 (o41.2.1 + z35.2))), o44.2.1, ())).t_disk_file[i47]?) >>= fun o48 =>
  f27_l0 p0 r7 z35.1 (IntKind.wrap .i64 (x9 + 1)) ((σ10.set1_disk_file i43 (o39.1.take (Int.toNat (IntKind.wrap .i64 (o41.2.1 + z35.2))), o44.2.1, ())).set1_disk_file i47 (o48.1, (o46.1.length : Int), ()))
  else none
  else
  some ((x8, x9, σ10))
  partial_fixpoint

noncomputable def f27 (p0 : Option Nat) (p1 : List Int) (σ : St) : Option (Int × St) :=
  if p0.isNone = true then
  some (1, σ)
  else
  f_disk_Disk_List p0 σ >>= fun r7 =>
  f27_l0 p0 r7 p1 0 σ >>= fun z52 =>
  p0 >>= fun i55 =>
  (z52.2.2.t_disk_Disk[i55]?) >>= fun o56 =>
  p0 >>= fun i57 =>
  ((z52.2.2.set1_disk_Disk i55 (o56.1, o56.2.1, o56.2.2.1, false, ())).t_disk_Disk[i57]?) >>= fun o58 =>
  some (0, ((z52.2.2.set1_disk_Disk i55 (o56.1, o56.2.1, o56.2.2.1, false, ())).set1_disk_Disk i57 (o58.1, o58.2.1, 0, o58.2.2.2.1, ())))

noncomputable def f77 (p0 : Option Nat) (p1 : List UInt8) (σ : St) : Option ((Option Nat) × Int) :=
  f70 p0 σ >>= fun r4 =>
  if (r4 != 0) = true then
  some (none, r4)
  else
  p0 >>= fun i8 =>
  (σ.t_disk_Disk[i8]?) >>= fun o9 =>
  if (((mapGet .str (.ptr T_disk_file) p1 o9.2.1).getD (zeroK (.ptr T_disk_file))).isNone) = true then
  some (none, 8)
  else
  some ((mapGet .str (.ptr T_disk_file) p1 o9.2.1).getD (zeroK (.ptr T_disk_file)), 0)

noncomputable def f28 (p0 : Option Nat) (p1 : List UInt8) (σ : St) : Option ((List UInt8) × Int) :=
  f77 p0 p1 σ >>= fun r3 =>
  if (r3.2 != 0) = true then
  some ([], r3.2)
  else
  r3.1 >>= fun i8 =>
  (σ.t_disk_file[i8]?) >>= fun o9 =>
  some (o9.1, 0)

noncomputable def f31 (p0 : Option Nat) (σ : St) : Option Bool :=
  if (!p0.isNone) = true then
  p0 >>= fun i3 =>
  (σ.t_disk_Disk[i3]?) >>= fun o4 =>
  some o4.2.2.2.1
  else
  some false

noncomputable def f78 (c0 : Nat) (σ : St) : Option (Unit × St) :=
  (σ.t_c_t91[c0]?) >>= fun o1 =>
  o1.1 >>= fun i2 =>
  (σ.t_disk_file[i2]?) >>= fun o3 =>
  o1.1 >>= fun i4 =>
  (σ.t_disk_file[i4]?) >>= fun o5 =>
  some ((), (σ.set1_disk_file i4 (o5.1, (o3.1.length : Int), ())))

noncomputable def f33 (p0 : Option Nat) (p1 : List UInt8) (σ : St) : Option (Int × St) :=
  f77 p0 p1 σ >>= fun r3 =>
  if (r3.2 != 0) = true then
  some (r3.2, ((σ.add_c_t91 (none, ())).set1_c_t91 σ.t_c_t91.length (r3.1, ())))
  else
  f72 p0 (f78 σ.t_c_t91.length) ((σ.add_c_t91 (none, ())).set1_c_t91 σ.t_c_t91.length (r3.1, ())) >>= fun r8 =>
  some (r8.1, r8.2)

noncomputable def f79 (c0 : Nat) (c1 : Nat) (σ : St) : Option (Unit × St) :=
  (σ.t_c_t91[c0]?) >>= fun o1 =>
  o1.1 >>= fun i2 =>
  (σ.t_disk_file[i2]?) >>= fun o3 =>
  (σ.t_c_t3[c1]?) >>= fun o4 =>
  if (0 : Int) ≤ o4.1 ∧ o4.1 ≤ (o3.1.length : Int) then
  o1.1 >>= fun i6 =>
  (σ.t_disk_file[i6]?) >>= fun o7 =>
  o1.1 >>= fun i8 =>
  (σ.t_disk_file[i8]?) >>= fun o9 =>
  o1.1 >>= fun i10 =>
  ((σ.set1_disk_file i8 (o3.1.take (Int.toNat o4.1), o9.2.1, ())).t_disk_file[i10]?) >>= fun o11 =>
  some ((), ((σ.set1_disk_file i8 (o3.1.take (Int.toNat o4.1), o9.2.1, ())).set1_disk_file i10 (o11.1, if o4.1 < o7.2.1 then o4.1 else o7.2.1, ())))
  else none

noncomputable def f35 (p0 : Option Nat) (p1 : List UInt8) (p2 : Int) (σ : St) : Option (Int × St) :=
  f77 p0 p1 (σ.add_c_t3 (p2, ())) >>= fun r3 =>
  if (r3.2 != 0) = true then
  some (r3.2, (((σ.add_c_t3 (p2, ())).add_c_t91 (none, ())).set1_c_t91 ((σ.add_c_t3 (p2, ())).t_c_t91.length) (r3.1, ())))
  else
  if (decide (p2 < 0)) = true then
  some (3, (((σ.add_c_t3 (p2, ())).add_c_t91 (none, ())).set1_c_t91 ((σ.add_c_t3 (p2, ())).t_c_t91.length) (r3.1, ())))
  else
  r3.1 >>= fun i11 =>
  ((((σ.add_c_t3 (p2, ())).add_c_t91 (none, ())).set1_c_t91 ((σ.add_c_t3 (p2, ())).t_c_t91.length) (r3.1, ())).t_disk_file[i11]?) >>= fun o12 =>
  if (decide (p2 > (o12.1.length : Int))) = true then
  some (3, (((σ.add_c_t3 (p2, ())).add_c_t91 (none, ())).set1_c_t91 ((σ.add_c_t3 (p2, ())).t_c_t91.length) (r3.1, ())))
  else
  f72 p0 (f79 ((σ.add_c_t3 (p2, ())).t_c_t91.length) σ.t_c_t3.length) (((σ.add_c_t3 (p2, ())).add_c_t91 (none, ())).set1_c_t91 ((σ.add_c_t3 (p2, ())).t_c_t91.length) (r3.1, ())) >>= fun r15 =>
  some (r15.1, r15.2)

noncomputable def f81 (c0 : Nat) (c1 : Nat) (σ : St) : Option (Unit × St) :=
  (σ.t_c_t23[c0]?) >>= fun o1 =>
  o1.1 >>= fun i2 =>
  (σ.t_disk_Disk[i2]?) >>= fun o3 =>
  (σ.t_c_t9[c1]?) >>= fun o4 =>
  some ((), (σ.set1_disk_Disk i2 (o3.1, mapDel .str (.ptr T_disk_file) o4.1 o3.2.1, o3.2.2.1, o3.2.2.2.1, ())))

noncomputable def f37 (p0 : Option Nat) (p1 : List UInt8) (σ : St) : Option (Int × St) :=
  f77 p0 p1 ((σ.add_c_t23 (p0, ())).add_c_t9 (p1, ())) >>= fun r4 =>
  if (r4.2 != 0) = true then
  some (r4.2, ((σ.add_c_t23 (p0, ())).add_c_t9 (p1, ())))
  else
  f72 p0 (f81 σ.t_c_t23.length ((σ.add_c_t23 (p0, ())).t_c_t9.length)) ((σ.add_c_t23 (p0, ())).add_c_t9 (p1, ())) >>= fun r8 =>
  some (r8.1, r8.2)

noncomputable def f95_l0 (p0 : List UInt8) (x4 : Int) : Option (Sum Int Bool) :=
  if (decide (x4 < (p0.length : Int))) = true then
  if (0 : Int) ≤ x4 ∧ x4 < (p0.length : Int) then
  if (decide ((btS p0 x4) < 97)) = true then
  some (.inr false)
  else
  if (0 : Int) ≤ x4 ∧ x4 < (p0.length : Int) then
  if (decide ((btS p0 x4) > 122)) = true then
  some (.inr false)
  else
  f95_l0 p0 (IntKind.wrap .i64 (x4 + 1))
  else none
  else none
  else
  some (.inl x4)
  partial_fixpoint

noncomputable def f95 (p0 : List UInt8) : Option Bool :=
  f95_l0 p0 0 >>= fun rr19 => (match rr19 with
  | .inr yy => some yy
  | .inl z18 =>
  some ((decide ((p0.length : Int) ≥ 1)) && (decide ((p0.length : Int) ≤ 8))))

noncomputable def f97 (p0 : Option Nat) (σ : St) : Option (Option Nat) :=
  p0 >>= fun i4 =>
  (σ.t_wal_Log[i4]?) >>= fun o5 =>
  if ((o5.2.2.2.1.length : Int) == 0) = true then
  some none
  else
  (ix o5.2.2.2.1 (IntKind.wrap .i64 ((o5.2.2.2.1.length : Int) - 1))) >>= fun x8 =>
  some x8

noncomputable def f55 (p0 : Option Nat) (σ : St) : Option Int :=
  if p0.isNone = true then
  some 0
  else
  p0 >>= fun i5 =>
  (σ.t_wal_Log[i5]?) >>= fun o6 =>
  if ((o6.2.2.2.1.length : Int) == 0) = true then
  some 0
  else
  f97 p0 σ >>= fun r9 =>
  r9 >>= fun i11 =>
  (σ.t_wal_segment[i11]?) >>= fun o12 =>
  some (IntKind.wrap .i64 (o12.1 + (o12.2.1.length : Int)))

noncomputable def f98 (p0 : Option Nat) (p1 : Option Nat) (σ : St) : Option (List UInt8) :=
  p0 >>= fun i3 =>
  (σ.t_wal_Log[i3]?) >>= fun o4 =>
  if o4.2.1.length + [46].length ≤ 9223372036854775807 then
  p1 >>= fun i6 =>
  (σ.t_wal_segment[i6]?) >>= fun o7 =>
  f_wal_digits o7.1 >>= fun r8 =>
  if (o4.2.1 ++ [46]).length + r8.length ≤ 9223372036854775807 then
  some ((o4.2.1 ++ [46]) ++ r8)
  else none
  else none

noncomputable def f61 (p0 : Option Nat) (σ : St) : Option (Int × St) :=
  if p0.isNone = true then
  some (1, σ)
  else
  f97 p0 σ >>= fun r7 =>
  if (!r7.isNone) = true then
  p0 >>= fun i10 =>
  (σ.t_wal_Log[i10]?) >>= fun o11 =>
  f98 p0 r7 σ >>= fun r12 =>
  f33 o11.1 r12 σ >>= fun r13 =>
  if (r13.1 != 0) = true then
  some (r13.1, r13.2)
  else
  f55 p0 r13.2 >>= fun r17 =>
  (r13.2.t_wal_Log[i10]?) >>= fun o18 =>
  some (0, (r13.2.set1_wal_Log i10 (o18.1, o18.2.1, o18.2.2.1, o18.2.2.2.1, r17, ())))
  else
  f55 p0 σ >>= fun r21 =>
  p0 >>= fun i22 =>
  (σ.t_wal_Log[i22]?) >>= fun o23 =>
  some (0, (σ.set1_wal_Log i22 (o23.1, o23.2.1, o23.2.2.1, o23.2.2.2.1, r21, ())))

noncomputable def f110 (p0 : Int) : Option (List UInt8) :=
  some (bytesS [IntKind.wrap .u8 (p0), IntKind.wrap .u8 (Int.fdiv p0 (2 ^ 8)), IntKind.wrap .u8 (Int.fdiv p0 (2 ^ 16)), IntKind.wrap .u8 (Int.fdiv p0 (2 ^ 24))])

noncomputable def f151_l0  (x5 : Int) (x6 : Int) : Option (Int × Int) :=
  if (decide (x6 < 8)) = true then
  if ((IntKind.wrap .u32 ((BitVec.ofInt (IntKind.bits .u32) x5 &&& BitVec.ofInt (IntKind.bits .u32) 1).toNat)) == 1) = true then
  f151_l0 (IntKind.wrap .u32 ((BitVec.ofInt (IntKind.bits .u32) (Int.fdiv x5 (2 ^ 1)) ^^^ BitVec.ofInt (IntKind.bits .u32) 2197175160).toNat)) (IntKind.wrap .i64 (x6 + 1))
  else
  f151_l0 (Int.fdiv x5 (2 ^ 1)) (IntKind.wrap .i64 (x6 + 1))
  else
  some ((x5, x6))
  partial_fixpoint

noncomputable def f151 (p0 : Int) (p1 : Int) : Option Int :=
  f151_l0  (IntKind.wrap .u32 ((BitVec.ofInt (IntKind.bits .u32) p0 ^^^ BitVec.ofInt (IntKind.bits .u32) (IntKind.wrap .u32 (p1))).toNat)) 0 >>= fun z17 =>
  some z17.1

noncomputable def f138_l0 (p1 : List UInt8) (x5 : Int) (x6 : Int) : Option (Int × Int) :=
  if (decide (x6 < (p1.length : Int))) = true then
  if (0 : Int) ≤ x6 ∧ x6 < (p1.length : Int) then
  f151 x5 (btS p1 x6) >>= fun r16 =>
  f138_l0 p1 r16 (IntKind.wrap .i64 (x6 + 1))
  else none
  else
  some ((x5, x6))
  partial_fixpoint

noncomputable def f138 (p0 : Int) (p1 : List UInt8) : Option Int :=
  f138_l0 p1 (IntKind.wrap .u32 ((BitVec.ofInt (IntKind.bits .u32) (if IntKind.signed .u32 = true then -1 else IntKind.max .u32) ^^^ BitVec.ofInt (IntKind.bits .u32) p0).toNat)) 0 >>= fun z17 =>
  some (IntKind.wrap .u32 ((BitVec.ofInt (IntKind.bits .u32) (if IntKind.signed .u32 = true then -1 else IntKind.max .u32) ^^^ BitVec.ofInt (IntKind.bits .u32) z17.1).toNat))

noncomputable def f111 (p0 : List UInt8) : Option Int :=
  f138 0 p0 >>= fun r3 =>
  some r3

noncomputable def f108 (p0 : List UInt8) : Option ((List UInt8) × Int) :=
  if (decide ((IntKind.wrap .i64 ((p0.length : Int) - 4)) < 0)) = true then
  some ([], 5)
  else
  if (0 : Int) ≤ (IntKind.wrap .i64 ((p0.length : Int) - 4)) ∧ (IntKind.wrap .i64 ((p0.length : Int) - 4)) ≤ (p0.length : Int) then
  f111 (p0.take (Int.toNat (IntKind.wrap .i64 ((p0.length : Int) - 4)))) >>= fun r8 =>
  f110 r8 >>= fun r9 =>
  if (0 : Int) ≤ (IntKind.wrap .i64 ((p0.length : Int) - 4)) ∧ (IntKind.wrap .i64 ((p0.length : Int) - 4)) ≤ (p0.length : Int) then
  if (!(r9 == (p0.drop (Int.toNat (IntKind.wrap .i64 ((p0.length : Int) - 4)))))) = true then
  some ([], 7)
  else
  if (0 : Int) ≤ (IntKind.wrap .i64 ((p0.length : Int) - 4)) ∧ (IntKind.wrap .i64 ((p0.length : Int) - 4)) ≤ (p0.length : Int) then
  some (p0.take (Int.toNat (IntKind.wrap .i64 ((p0.length : Int) - 4))), 0)
  else none
  else none
  else none

noncomputable def f113_l0 (p0 : List UInt8) (p1 : Int) (x8 : Int) (x9 : Int) : Option (Sum (Int × Int) (Int × Int × Int)) :=
  if (decide ((IntKind.wrap .i64 (p1 + x9)) < (p0.length : Int))) = true then
  if (0 : Int) ≤ (IntKind.wrap .i64 (p1 + x9)) ∧ (IntKind.wrap .i64 (p1 + x9)) < (p0.length : Int) then
  if ((x9 == 9) && (decide ((btS p0 (IntKind.wrap .i64 (p1 + x9))) > 1))) = true then
  some (.inr (0, 0, 6))
  else
  if (0 : Int) ≤ (IntKind.wrap .i64 (7 * x9)) then
  if (decide ((btS p0 (IntKind.wrap .i64 (p1 + x9))) ≥ 128)) = true then
  f113_l0 p0 p1 (IntKind.wrap .u64 ((BitVec.ofInt (IntKind.bits .u64) x8 ||| BitVec.ofInt (IntKind.bits .u64) (IntKind.wrap .u64 ((IntKind.wrap .u64 (IntKind.wrap .u8 ((BitVec.ofInt (IntKind.bits .u8) (btS p0 (IntKind.wrap .i64 (p1 + x9))) &&& BitVec.ofInt (IntKind.bits .u8) 127).toNat))) * 2 ^ (min (Int.toNat (IntKind.wrap .i64 (7 * x9))) (IntKind.bits .u64))))).toNat)) (IntKind.wrap .i64 (x9 + 1))
  else
  if (((btS p0 (IntKind.wrap .i64 (p1 + x9))) == 0) && (decide (x9 > 0))) = true then
  some (.inr (0, 0, 6))
  else
  (if ((IntKind.wrap .u64 ((BitVec.ofInt (IntKind.bits .u64) (IntKind.wrap .u64 ((BitVec.ofInt (IntKind.bits .u64) x8 ||| BitVec.ofInt (IntKind.bits .u64) (IntKind.wrap .u64 ((IntKind.wrap .u64 (IntKind.wrap .u8 ((BitVec.ofInt (IntKind.bits .u8) (btS p0 (IntKind.wrap .i64 (p1 + x9))) &&& BitVec.ofInt (IntKind.bits .u8) 127).toNat))) * 2 ^ (min (Int.toNat (IntKind.wrap .i64 (7 * x9))) (IntKind.bits .u64))))).toNat)) &&& BitVec.ofInt (IntKind.bits .u64) 1).toNat)) == 1) = true then
  some (IntKind.wrap .i64 ((BitVec.ofInt (IntKind.bits .i64) (if IntKind.signed .i64 = true then -1 else IntKind.max .i64) ^^^ BitVec.ofInt (IntKind.bits .i64) (IntKind.wrap .i64 (Int.fdiv (IntKind.wrap .u64 ((BitVec.ofInt (IntKind.bits .u64) x8 ||| BitVec.ofInt (IntKind.bits .u64) (IntKind.wrap .u64 ((IntKind.wrap .u64 (IntKind.wrap .u8 ((BitVec.ofInt (IntKind.bits .u8) (btS p0 (IntKind.wrap .i64 (p1 + x9))) &&& BitVec.ofInt (IntKind.bits .u8) 127).toNat))) * 2 ^ (min (Int.toNat (IntKind.wrap .i64 (7 * x9))) (IntKind.bits .u64))))).toNat)) (2 ^ 1)))).toNat))
  else
  some (IntKind.wrap .i64 (Int.fdiv (IntKind.wrap .u64 ((BitVec.ofInt (IntKind.bits .u64) x8 ||| BitVec.ofInt (IntKind.bits .u64) (IntKind.wrap .u64 ((IntKind.wrap .u64 (IntKind.wrap .u8 ((BitVec.ofInt (IntKind.bits .u8) (btS p0 (IntKind.wrap .i64 (p1 + x9))) &&& BitVec.ofInt (IntKind.bits .u8) 127).toNat))) * 2 ^ (min (Int.toNat (IntKind.wrap .i64 (7 * x9))) (IntKind.bits .u64))))).toNat)) (2 ^ 1))) : Option Int) >>= fun z33 =>
  some (.inr (z33, IntKind.wrap .i64 ((IntKind.wrap .i64 (p1 + x9)) + 1), 0))
  else none
  else none
  else
  some (.inl (x8, x9))
  partial_fixpoint

noncomputable def f113 (p0 : List UInt8) (p1 : Int) : Option (Int × Int × Int) :=
  if ((decide (p1 < 0)) || (decide (p1 > (p0.length : Int)))) = true then
  some (0, 0, 3)
  else
  f113_l0 p0 p1 0 0 >>= fun rr37 => (match rr37 with
  | .inr yy => some yy
  | .inl z36 =>
  some (0, 0, 5))

noncomputable def f90_l0  (y12 : K_t144.den) (x13 : Int) (x14 : Int) : Option (K_t144.den × Int × Int) :=
  if (decide (x13 ≥ 128)) = true then
  if (0 : Int) ≤ x14 ∧ x14 < (10 : Nat) then
  f90_l0 (setA K_t144 y12 (Int.toNat x14) (IntKind.wrap .u8 ((BitVec.ofInt (IntKind.bits .u8) (IntKind.wrap .u8 (x13)) ||| BitVec.ofInt (IntKind.bits .u8) 128).toNat))) (Int.fdiv x13 (2 ^ 7)) (IntKind.wrap .i64 (x14 + 1))
  else none
  else
  some ((y12, x13, x14))
  partial_fixpoint

noncomputable def f90 (p0 : Int) : Option (List UInt8) :=
  (if (decide (p0 < 0)) = true then
  some (IntKind.wrap .u64 ((BitVec.ofInt (IntKind.bits .u64) (if IntKind.signed .u64 = true then -1 else IntKind.max .u64) ^^^ BitVec.ofInt (IntKind.bits .u64) (IntKind.wrap .u64 ((IntKind.wrap .u64 (p0)) * 2 ^ 1))).toNat))
  else
  some (IntKind.wrap .u64 ((IntKind.wrap .u64 (p0)) * 2 ^ 1)) : Option Int) >>= fun z6 =>
  f90_l0  (0, 0, 0, 0, 0, 0, 0, 0, 0, 0, ()) z6 0 >>= fun z24 =>
  if (0 : Int) ≤ z24.2.2 ∧ z24.2.2 < (10 : Nat) then
  if (0 : Int) ≤ (IntKind.wrap .i64 (z24.2.2 + 1)) ∧ (IntKind.wrap .i64 (z24.2.2 + 1)) ≤ (10 : Nat) then
  some (bytesS ((arrL K_t144 (setA K_t144 z24.1 (Int.toNat z24.2.2) (IntKind.wrap .u8 (z24.2.1)))).take (Int.toNat (IntKind.wrap .i64 (z24.2.2 + 1)))))
  else none
  else none

noncomputable def f94 (p0 : List UInt8) (p1 : Int) (p2 : Int) : Option ((List UInt8) × Int × Bool) :=
  f113 p0 p1 >>= fun r3 =>
  if (((r3.2.2 != 0) || (decide (r3.1 < 0))) || (decide (r3.1 > (IntKind.wrap .i64 ((p0.length : Int) - r3.2.1))))) = true then
  some ([], 0, false)
  else
  if (0 : Int) ≤ r3.2.1 ∧ r3.2.1 ≤ (IntKind.wrap .i64 (r3.2.1 + r3.1)) ∧ (IntKind.wrap .i64 (r3.2.1 + r3.1)) ≤ (p0.length : Int) then
  f108 ((p0.take (Int.toNat (IntKind.wrap .i64 (r3.2.1 + r3.1)))).drop (Int.toNat r3.2.1)) >>= fun r9 =>
  if (r9.2 != 0) = true then
  some ([], 0, false)
  else
  f90 p2 >>= fun r14 =>
  if (decide ((r9.1.length : Int) < (r14.length : Int))) = true then
  some ([], 0, false)
  else
  if (0 : Int) ≤ (r14.length : Int) ∧ (r14.length : Int) ≤ (r9.1.length : Int) then
  if ((!((r9.1.take (Int.toNat (r14.length : Int))) == r14)) || (decide ((IntKind.wrap .i64 ((r9.1.length : Int) - (r14.length : Int))) > 1024))) = true then
  some ([], 0, false)
  else
  if (0 : Int) ≤ (r14.length : Int) ∧ (r14.length : Int) ≤ (r9.1.length : Int) then
  some (r9.1.drop (Int.toNat (r14.length : Int)), IntKind.wrap .i64 (r3.2.1 + r3.1), true)
  else none
  else none
  else none

noncomputable def f49_l0 (p0 : List UInt8) (p1 : Int) (l7 : List (List UInt8)) (x8 : Int) : Option ((List (List UInt8)) × Int) :=
  if (decide (p1 ≥ 0)) = true then
  f94 p0 x8 (IntKind.wrap .i64 (p1 + (l7.length : Int))) >>= fun r16 =>
  if (!r16.2.2) = true then
  some ((l7, x8))
  else
  if (l7.length + 1) * 16 ≤ 140737488355328 then
  f49_l0 p0 p1 (l7 ++ [r16.1]) r16.2.1
  else none
  else
  some ((l7, x8))
  partial_fixpoint

noncomputable def f49 (p0 : List UInt8) (p1 : Int) : Option ((List (List UInt8)) × Int) :=
  f49_l0 p0 p1 [] 0 >>= fun z22 =>
  some (z22.1, z22.2)

noncomputable def f115 (p0 : Option Nat) (p1 : Int) (σ : St) : Option (((Option Nat) × Int × Int) × St) :=
  p0 >>= fun i4 =>
  ((σ.add_wal_segment (p1, [], 0, ())).t_wal_Log[i4]?) >>= fun o5 =>
  f98 p0 (some σ.t_wal_segment.length) (σ.add_wal_segment (p1, [], 0, ())) >>= fun r6 =>
  f28 o5.1 r6 (σ.add_wal_segment (p1, [], 0, ())) >>= fun r7 =>
  if (r7.2 != 0) = true then
  some ((none, 0, r7.2), (σ.add_wal_segment (p1, [], 0, ())))
  else
  f49 r7.1 p1 >>= fun r12 =>
  some ((some σ.t_wal_segment.length, IntKind.wrap .i64 ((r7.1.length : Int) - r12.2), 0), (((σ.add_wal_segment (p1, [], 0, ())).set1_wal_segment σ.t_wal_segment.length (p1, r12.1, 0, ())).set1_wal_segment σ.t_wal_segment.length (p1, r12.1, r12.2, ())))

noncomputable def f96_l0 (p0 : Option Nat) (r3 : List Int) (x7 : Int) (x8 : Int) (x9 : Int) (σ10 : St) : Option (Sum (Int × Int × Int × St) (Int × St)) :=
  if (decide (x9 < (r3.length : Int))) = true then
  (ix r3 x9) >>= fun x19 =>
  if (decide (x9 > 0)) = true then
  if (decide (x7 > 0)) = true then
  some (.inl (x7, x8, x9, σ10))
  else
  f55 p0 σ10 >>= fun r22 =>
  if (x19 != r22) = true then
  some (.inl (x7, x8, x9, σ10))
  else
  f115 p0 x19 σ10 >>= fun r24 =>
  if (r24.1.2.2 != 0) = true then
  some (.inr (r24.1.2.2, r24.2))
  else
  p0 >>= fun i29 =>
  (r24.2.t_wal_Log[i29]?) >>= fun o30 =>
  if (o30.2.2.2.1.length + 1) * 8 ≤ 140737488355328 then
  f96_l0 p0 r3 r24.1.2.1 (IntKind.wrap .i64 (x9 + 1)) (IntKind.wrap .i64 (x9 + 1)) (r24.2.set1_wal_Log i29 (o30.1, o30.2.1, o30.2.2.1, o30.2.2.2.1 ++ [r24.1.1], o30.2.2.2.2.1, ()))
  else none
  else
  f115 p0 x19 σ10 >>= fun r35 =>
  if (r35.1.2.2 != 0) = true then
  some (.inr (r35.1.2.2, r35.2))
  else
  p0 >>= fun i40 =>
  (r35.2.t_wal_Log[i40]?) >>= fun o41 =>
  if (o41.2.2.2.1.length + 1) * 8 ≤ 140737488355328 then
  f96_l0 p0 r3 r35.1.2.1 (IntKind.wrap .i64 (x9 + 1)) (IntKind.wrap .i64 (x9 + 1)) (r35.2.set1_wal_Log i40 (o41.1, o41.2.1, o41.2.2.1, o41.2.2.2.1 ++ [r35.1.1], o41.2.2.2.2.1, ()))
  else none
  else
  some (.inl (x7, x8, x9, σ10))
  partial_fixpoint

noncomputable def f96_l1 (p0 : Option Nat) (r3 : List Int) (z45 : Int × Int × Int × St) (o49 : denFs fs_wal_Log) (x52 : Int) (σ53 : St) : Option (Sum (Int × St) (Int × St)) :=
  if (decide (x52 ≥ z45.2.1)) = true then
  (ix r3 x52) >>= fun x62 =>
  f98 p0 (some σ53.t_wal_segment.length) (σ53.add_wal_segment (x62, [], 0, ())) >>= fun r63 =>
  f37 o49.1 r63 (σ53.add_wal_segment (x62, [], 0, ())) >>= fun r64 =>
  if (r64.1 != 0) = true then
  some (.inr (r64.1, r64.2))
  else
  f96_l1 p0 r3 z45 o49 (IntKind.wrap .i64 (x52 - 1)) r64.2
  else
  some (.inl (x52, σ53))
  partial_fixpoint

noncomputable def f96 (p0 : Option Nat) (σ : St) : Option (Int × St) :=
  f_wal_Log_firsts p0 σ >>= fun r3 =>
  f96_l0 p0 r3 0 0 0 σ >>= fun rr46 => (match rr46 with
  | .inr yy => some yy
  | .inl z45 =>
  p0 >>= fun i48 =>
  (z45.2.2.2.t_wal_Log[i48]?) >>= fun o49 =>
  f96_l1 p0 r3 z45 o49 (IntKind.wrap .i64 ((r3.length : Int) - 1)) z45.2.2.2 >>= fun rr68 => (match rr68 with
  | .inr yy => some yy
  | .inl z67 =>
  if (z45.2.1 == 0) = true then
  some (0, z67.2)
  else
  p0 >>= fun i73 =>
  (z67.2.t_wal_Log[i73]?) >>= fun o74 =>
  (ix o74.2.2.2.1 (IntKind.wrap .i64 (z45.2.1 - 1))) >>= fun x75 =>
  if (decide (z45.1 > 0)) = true then
  f98 p0 x75 z67.2 >>= fun r79 =>
  x75 >>= fun i80 =>
  (z67.2.t_wal_segment[i80]?) >>= fun o81 =>
  f35 o74.1 r79 o81.2.2.1 z67.2 >>= fun r82 =>
  if (r82.1 != 0) = true then
  some (r82.1, r82.2)
  else
  f61 p0 r82.2 >>= fun r86 =>
  some (r86.1, r86.2)
  else
  f61 p0 z67.2 >>= fun r88 =>
  some (r88.1, r88.2)))

noncomputable def f53 (p0 : Option Nat) (p1 : List UInt8) (p2 : Int) (σ : St) : Option (((Option Nat) × Int) × St) :=
  if p0.isNone = true then
  some ((none, 1), σ)
  else
  f95 p1 >>= fun r6 =>
  if (((!r6) || (decide (p2 < 64))) || (decide (p2 > 65536))) = true then
  some ((none, 2), σ)
  else
  f31 p0 σ >>= fun r9 =>
  if r9 = true then
  some ((none, 11), σ)
  else
  f96 (some σ.t_wal_Log.length) (σ.add_wal_Log (p0, p1, p2, [], 0, ())) >>= fun r15 =>
  if (r15.1 != 0) = true then
  some ((none, r15.1), r15.2)
  else
  some ((some σ.t_wal_Log.length, 0), r15.2)

noncomputable def f54 (p0 : Option Nat) (σ : St) : Option Int :=
  if p0.isNone = true then
  some 0
  else
  p0 >>= fun i5 =>
  (σ.t_wal_Log[i5]?) >>= fun o6 =>
  if ((o6.2.2.2.1.length : Int) == 0) = true then
  some 0
  else
  (ix o6.2.2.2.1 0) >>= fun x9 =>
  x9 >>= fun i10 =>
  (σ.t_wal_segment[i10]?) >>= fun o11 =>
  some o11.1

noncomputable def f58_l0 (p0 : Option Nat) (p1 : Int) (σ : St) (x15 : Int) : Option Int :=
  p0 >>= fun i22 =>
  (σ.t_wal_Log[i22]?) >>= fun o23 =>
  (ix o23.2.2.2.1 x15) >>= fun x24 =>
  x24 >>= fun i25 =>
  (σ.t_wal_segment[i25]?) >>= fun o26 =>
  if (decide (o26.1 > p1)) = true then
  f58_l0 p0 p1 σ (IntKind.wrap .i64 (x15 - 1))
  else
  some (x15)
  partial_fixpoint

noncomputable def f58 (p0 : Option Nat) (p1 : Int) (σ : St) : Option ((List UInt8) × Int) :=
  if p0.isNone = true then
  some ([], 1)
  else
  f54 p0 σ >>= fun r6 =>
  if (decide (p1 < r6)) = true then
  some ([], 13)
  else
  f55 p0 σ >>= fun r9 =>
  if (decide (p1 ≥ r9)) = true then
  some ([], 8)
  else
  p0 >>= fun i12 =>
  (σ.t_wal_Log[i12]?) >>= fun o13 =>
  f58_l0 p0 p1 σ (IntKind.wrap .i64 ((o13.2.2.2.1.length : Int) - 1)) >>= fun z27 =>
  p0 >>= fun i30 =>
  (σ.t_wal_Log[i30]?) >>= fun o31 =>
  (ix o31.2.2.2.1 z27) >>= fun x32 =>
  x32 >>= fun i33 =>
  (σ.t_wal_segment[i33]?) >>= fun o34 =>
  (ix o31.2.2.2.1 z27) >>= fun x35 =>
  x35 >>= fun i36 =>
  (σ.t_wal_segment[i36]?) >>= fun o37 =>
  (ix o34.2.1 (IntKind.wrap .i64 (p1 - o37.1))) >>= fun x38 =>
  some (x38, 0)

noncomputable def f89 (p0 : List UInt8) : Option (List UInt8) :=
  f111 p0 >>= fun r3 =>
  f110 r3 >>= fun r4 =>
  if p0.length + r4.length ≤ 9223372036854775807 then
  some (p0 ++ r4)
  else none

noncomputable def f99 (p0 : Int) (p1 : List UInt8) : Option (List UInt8) :=
  f90 p0 >>= fun r3 =>
  if r3.length + p1.length ≤ 9223372036854775807 then
  f89 (r3 ++ p1) >>= fun r5 =>
  f90 (r5.length : Int) >>= fun r7 =>
  if r7.length + r5.length ≤ 9223372036854775807 then
  some (r7 ++ r5)
  else none
  else none

noncomputable def f59 (p0 : Option Nat) (p1 : List UInt8) (σ : St) : Option ((Int × Int) × St) :=
  if p0.isNone = true then
  some ((0, 1), σ)
  else
  if (decide ((p1.length : Int) > 1024)) = true then
  some ((0, 4), σ)
  else
  f55 p0 σ >>= fun r8 =>
  f97 p0 σ >>= fun r10 =>
  if r10.isNone = true then
  f61 p0 σ >>= fun r17 =>
  if (r17.1 != 0) = true then
  some ((0, r17.1), r17.2)
  else
  f99 r8 p1 >>= fun r21 =>
  p0 >>= fun i24 =>
  ((r17.2.add_wal_segment (r8, [], 0, ())).t_wal_Log[i24]?) >>= fun o25 =>
  f98 p0 (some r17.2.t_wal_segment.length) (r17.2.add_wal_segment (r8, [], 0, ())) >>= fun r26 =>
  f24 o25.1 r26 r21 (r17.2.add_wal_segment (r8, [], 0, ())) >>= fun r27 =>
  if (r27.1 != 0) = true then
  some ((0, r27.1), r27.2)
  else
  (r27.2.t_wal_segment[r17.2.t_wal_segment.length]?) >>= fun o31 =>
  if (o31.2.1.length + 1) * 16 ≤ 140737488355328 then
  (((r27.2.set1_wal_segment r17.2.t_wal_segment.length (o31.1, o31.2.1 ++ [p1], o31.2.2.1, ())).set1_wal_segment r17.2.t_wal_segment.length (o31.1, (o31.2.1 ++ [p1]), IntKind.wrap .i64 (o31.2.2.1 + (r21.length : Int)), ())).t_wal_Log[i24]?) >>= fun o38 =>
  if (o38.2.2.2.1.length + 1) * 8 ≤ 140737488355328 then
  some ((r8, 0), (((r27.2.set1_wal_segment r17.2.t_wal_segment.length (o31.1, o31.2.1 ++ [p1], o31.2.2.1, ())).set1_wal_segment r17.2.t_wal_segment.length (o31.1, (o31.2.1 ++ [p1]), IntKind.wrap .i64 (o31.2.2.1 + (r21.length : Int)), ())).set1_wal_Log i24 (o38.1, o38.2.1, o38.2.2.1, o38.2.2.2.1 ++ [some r17.2.t_wal_segment.length], o38.2.2.2.2.1, ())))
  else none
  else none
  else
  r10 >>= fun i44 =>
  (σ.t_wal_segment[i44]?) >>= fun o45 =>
  p0 >>= fun i46 =>
  (σ.t_wal_Log[i46]?) >>= fun o47 =>
  if (decide (o45.2.2.1 ≥ o47.2.2.1)) = true then
  f61 p0 σ >>= fun r52 =>
  if (r52.1 != 0) = true then
  some ((0, r52.1), r52.2)
  else
  f99 r8 p1 >>= fun r56 =>
  ((r52.2.add_wal_segment (r8, [], 0, ())).t_wal_Log[i46]?) >>= fun o59 =>
  f98 p0 (some r52.2.t_wal_segment.length) (r52.2.add_wal_segment (r8, [], 0, ())) >>= fun r60 =>
  f24 o59.1 r60 r56 (r52.2.add_wal_segment (r8, [], 0, ())) >>= fun r61 =>
  if (r61.1 != 0) = true then
  some ((0, r61.1), r61.2)
  else
  (r61.2.t_wal_segment[r52.2.t_wal_segment.length]?) >>= fun o65 =>
  if (o65.2.1.length + 1) * 16 ≤ 140737488355328 then
  (if (decide (o45.2.2.1 ≥ o47.2.2.1)) = true then
  (((r61.2.set1_wal_segment r52.2.t_wal_segment.length (o65.1, o65.2.1 ++ [p1], o65.2.2.1, ())).set1_wal_segment r52.2.t_wal_segment.length (o65.1, (o65.2.1 ++ [p1]), IntKind.wrap .i64 (o65.2.2.1 + (r56.length : Int)), ())).t_wal_Log[i46]?) >>= fun o76 =>
  if (o76.2.2.2.1.length + 1) * 8 ≤ 140737488355328 then
  some (((r61.2.set1_wal_segment r52.2.t_wal_segment.length (o65.1, o65.2.1 ++ [p1], o65.2.2.1, ())).set1_wal_segment r52.2.t_wal_segment.length (o65.1, (o65.2.1 ++ [p1]), IntKind.wrap .i64 (o65.2.2.1 + (r56.length : Int)), ())).set1_wal_Log i46 (o76.1, o76.2.1, o76.2.2.1, o76.2.2.2.1 ++ [some r52.2.t_wal_segment.length], o76.2.2.2.2.1, ()))
  else none
  else
  some ((r61.2.set1_wal_segment r52.2.t_wal_segment.length (o65.1, o65.2.1 ++ [p1], o65.2.2.1, ())).set1_wal_segment r52.2.t_wal_segment.length (o65.1, (o65.2.1 ++ [p1]), IntKind.wrap .i64 (o65.2.2.1 + (r56.length : Int)), ())) : Option St) >>= fun z73 =>
  some ((r8, 0), z73)
  else none
  else
  f99 r8 p1 >>= fun r81 =>
  f98 p0 r10 σ >>= fun r84 =>
  f24 o47.1 r84 r81 σ >>= fun r85 =>
  if (r85.1 != 0) = true then
  some ((0, r85.1), r85.2)
  else
  (r85.2.t_wal_segment[i44]?) >>= fun o89 =>
  if (o89.2.1.length + 1) * 16 ≤ 140737488355328 then
  (if (decide (o45.2.2.1 ≥ o47.2.2.1)) = true then
  (((r85.2.set1_wal_segment i44 (o89.1, o89.2.1 ++ [p1], o89.2.2.1, ())).set1_wal_segment i44 (o89.1, (o89.2.1 ++ [p1]), IntKind.wrap .i64 (o89.2.2.1 + (r81.length : Int)), ())).t_wal_Log[i46]?) >>= fun o100 =>
  if (o100.2.2.2.1.length + 1) * 8 ≤ 140737488355328 then
  some (((r85.2.set1_wal_segment i44 (o89.1, o89.2.1 ++ [p1], o89.2.2.1, ())).set1_wal_segment i44 (o89.1, (o89.2.1 ++ [p1]), IntKind.wrap .i64 (o89.2.2.1 + (r81.length : Int)), ())).set1_wal_Log i46 (o100.1, o100.2.1, o100.2.2.1, o100.2.2.2.1 ++ [r10], o100.2.2.2.2.1, ()))
  else none
  else
  some ((r85.2.set1_wal_segment i44 (o89.1, o89.2.1 ++ [p1], o89.2.2.1, ())).set1_wal_segment i44 (o89.1, (o89.2.1 ++ [p1]), IntKind.wrap .i64 (o89.2.2.1 + (r81.length : Int)), ())) : Option St) >>= fun z97 =>
  some ((r8, 0), z97)
  else none

end Go.Proofs.YtbnmhjobnepajaaGreat.M

