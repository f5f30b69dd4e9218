/- Own texts, laid together: U21 U87 W3 S0 X0 S2 S3 X1 V1 V2 V3. -/
import Derived.KernelRfl
import Derived.Shelf.Slices.In.SortNone
import Derived.Shelf.Sort.Plain
import Derived.Sort.KeysCollected
import Derived.Test.YtlfemhkabjafeaaProg
import Derived.Test.YtlfemhkabjafeaaZ1
import Derived.Test.YtlfemhkabjafeaaZ2
import Derived.Test.YtlfemhkabjafeaaZ3
/- The walk of (*Disk).List: the keys of the map, collected in any order, sorted by the library. -/
set_option linter.unusedVariables false
set_option maxRecDepth 100000

namespace Go.Proofs
open Go.Shelf
def Try.lays190_ren : Go.Shelf.Ren := ⟨fun | 190 => 62 | 125 => 101 | 258 => 100 | 128 => 126 | 129 => 127 | 302 => 117 | 303 => 118 | 304 => 119 | 305 => 120 | 306 => 121 | 307 => 122 | 308 => 123 | 309 => 124 | 310 => 125 | 333 => 141 | 329 => 142 | 330 => 143 | 334 => 144 | 335 => 145 | 336 => 146 | 344 => 153 | n => n, fun | 31 => 33 | 9 => 9 | 3 => 3 | 46 => 137 | 0 => 0 | 51 => 143 | 53 => 123 | 4 => 4 | 183 => 151 | 182 => 150 | 131 => 155 | 5 => 5 | 218 => 166 | 222 => 170 | 228 => 177 | 229 => 178 | n => n, fun | n => n⟩
theorem Try.lays190 : Lays.n190 Try.prog Try.lays190_ren := {
  mixed := by kernel_rfl
  f125 := Try.func101.trans (congrArg some (by kernel_rfl))
  f128 := Try.func126.trans (congrArg some (by kernel_rfl))
  f129 := Try.func127.trans (congrArg some (by kernel_rfl))
  f190 := Try.func62.trans (congrArg some (by kernel_rfl))
  f258 := Try.func100.trans (congrArg some (by kernel_rfl))
  f302 := Try.func117.trans (congrArg some (by kernel_rfl))
  f303 := Try.func118.trans (congrArg some (by kernel_rfl))
  f304 := Try.func119.trans (congrArg some (by kernel_rfl))
  f305 := Try.func120.trans (congrArg some (by kernel_rfl))
  f306 := Try.func121.trans (congrArg some (by kernel_rfl))
  f307 := Try.func122.trans (congrArg some (by kernel_rfl))
  f308 := Try.func123.trans (congrArg some (by kernel_rfl))
  f309 := Try.func124.trans (congrArg some (by kernel_rfl))
  f310 := Try.func125.trans (congrArg some (by kernel_rfl))
  f329 := Try.func142.trans (congrArg some (by kernel_rfl))
  f330 := Try.func143.trans (congrArg some (by kernel_rfl))
  f333 := Try.func141.trans (congrArg some (by kernel_rfl))
  f334 := Try.func144.trans (congrArg some (by kernel_rfl))
  f335 := Try.func145.trans (congrArg some (by kernel_rfl))
  f336 := Try.func146.trans (congrArg some (by kernel_rfl))
  f344 := Try.func153.trans (congrArg some (by kernel_rfl))
  t0 := Try.underlying0
  a0 := Try.isAgg0
  z0 := Try.sizeOf0
  v0 := Try.zeroValue0
  t3 := Try.underlying3
  a3 := Try.isAgg3
  z3 := Try.sizeOf3
  v3 := Try.zeroValue3
  t4 := Try.underlying4
  a4 := Try.isAgg4
  z4 := Try.sizeOf4
  v4 := Try.zeroValue4
  t5 := Try.underlying5
  a5 := Try.isAgg5
  z5 := Try.sizeOf5
  v5 := Try.zeroValue5
  t9 := Try.underlying9
  a9 := Try.isAgg9
  z9 := Try.sizeOf9
  v9 := Try.zeroValue9
  t31 := Try.underlying33
  a31 := Try.isAgg33
  z31 := Try.sizeOf33
  v31 := Try.zeroValue33
  t46 := Try.underlying137
  a46 := Try.isAgg137
  z46 := Try.sizeOf137
  v46 := Try.zeroValue137
  t51 := Try.underlying143
  a51 := Try.isAgg143
  z51 := Try.sizeOf143
  v51 := Try.zeroValue143
  t53 := Try.underlying123
  a53 := Try.isAgg123
  z53 := Try.sizeOf123
  v53 := Try.zeroValue123
  t131 := Try.underlying155
  a131 := Try.isAgg155
  z131 := Try.sizeOf155
  v131 := Try.zeroValue155
  t182 := Try.underlying150
  a182 := Try.isAgg150
  z182 := Try.sizeOf150
  v182 := Try.zeroValue150
  t183 := Try.underlying151
  a183 := Try.isAgg151
  z183 := Try.sizeOf151
  v183 := Try.zeroValue151
  t218 := Try.underlying166
  a218 := Try.isAgg166
  z218 := Try.sizeOf166
  v218 := Try.zeroValue166
  t222 := Try.underlying170
  a222 := Try.isAgg170
  z222 := Try.sizeOf170
  v222 := Try.zeroValue170
  t228 := Try.underlying177
  a228 := Try.isAgg177
  z228 := Try.sizeOf177
  v228 := Try.zeroValue177
  t229 := Try.underlying178
  a229 := Try.isAgg178
  z229 := Try.sizeOf178
  v229 := Try.zeroValue178 }
end Go.Proofs

namespace Go.Proofs.Ytlfemhkabjafeaa.M
open Go.Proofs (Try.prog Try.func21 Try.f21 Try.lays190)

/-- Names in their order. -/
def sorted (l : List (List UInt8)) : List (List UInt8) := l.mergeSort (fun x y => decide (x ≤ y))

def f21 (p0 : Option Nat) (σ : St) : Option (List (List UInt8)) :=
  if p0.isNone = true then some [] else
  p0 >>= fun i => (σ.t105[i]?) >>= fun o => if (o.2.1.length + 1) * 16 ≤ 140737488355328 then some (sorted (o.2.1.map (·.1))) else none

theorem Gone.len2 {kk kv : Kd} {es : List MapEntry} {m done : List (kk.den × kv.den)} {seen : List Nat} (h : Gone es m seen done) : done.length ≤ es.length := by
  have h0 := h.len
  obtain ⟨is, h1, rfl, rfl, h4⟩ := h
  rw [List.length_map] at h0
  exact Nat.le_trans (List.length_filterMap_le _ _) h0

theorem set_self {α : Type} : ∀ {l : List α} {j : Nat} {x : α}, l[j]? = some x → l.set j x = l
  | [], _, _, h => by simp at h
  | y :: l, 0, x, h => by simp at h; subst h; rfl
  | y :: l, j + 1, x, h => by rw [List.set_cons_succ, set_self (by simpa using h)]

section
variable {w : World} {G : Gh} {T : Tabs} {Ls : List LS} {a : Act} {N : Nat} {E : Env} {ops : Array Oper} {Q : Exit → Act → World → Prop}

theorem sort_calls {j e bt : Nat} {v : Value} {xs : List (List UInt8)} (hH : Holds w G T Ls) (hj : Ls[j]? = some (.raw v e bt .str xs)) (hlen : xs.length < 4611686018427387904) :
    Calls Try.prog 62 #[v] w (PostC G (.tup []) T (Ls.set j (.raw v e bt .str (sorted xs)))) := by
  obtain ⟨cs, o1, o2, o3, o4⟩ := hH.loc _ (List.mem_of_getElem? hj)
  rcases o1.2 with ⟨rfl, hn⟩ | ⟨g, cap, cur, rfl, hb0, hb, h1, h2, h3, h4⟩
  · have hx : xs = [] := List.eq_nil_of_length_eq_zero hn
    subst hx
    refine (Any.slices_Sort_string_none Try.lays190 none 0 w).mono ?_
    rintro e' w' ⟨rfl, rfl⟩
    refine ⟨G, Gh.le_refl G, ⟨#[], rfl, trivial⟩, ?_⟩
    have : Ls.set j (.raw (.slice none 0 0) e bt .str (sorted [])) = Ls := by
      have : sorted [] = [] := by simp [sorted]
      rw [this]
      exact set_self hj
    rw [this]; exact hH
  · have hst : cur.toList.take xs.length = xs.map encStr := by
      have := rowR_strs o2
      simp only [Kd.w, Nat.mul_one] at h4
      rw [h4]
      rw [← this]
      have hcl := o1.1
      simp only [Kd.w, Nat.mul_one] at hcl
      rw [List.take_of_length_le (by omega)]
    refine (Any.slices_Sort_string Try.lays190 g 0 cap xs w (holds_of_block hb hst) (Array.getElem?_eq_some_iff.1 hb).1 hlen).mono ?_
    rintro e' w' ⟨rfl, n, os, rfl⟩
    exact ⟨G, Gh.le_refl G, ⟨#[], rfl, trivial⟩, hH.rawSorted hj (by simp)⟩
end

theorem f21_ok {p0 : Option Nat} {σ : St} {p : List (List UInt8)} (h : f21 p0 σ = some p) : Spec Try.prog 21 [.kv (.ptr 105) p0] (tabs σ) (.kv (.list .str) p) (tabs σ) := by
  refine Spec.intro Try.func21 (by kernel_rfl) rfl (by kernel_rfl) (fun a w G0 Ls hE hH hN => ?_)
  have hle : G0.le G0 := Gh.le_refl G0
  unfold f21 at h
  refine wp_seq_k (fun K hK1 => ?_)
  refine wp_region_from ?_
  refine segO 1 [] [(2, .val (.slice none 0 0))] (Os := []) trivial hE hH (by kernel_rfl) (fun a hE => ?_)
  refine wpFrom_end (by kernel_rfl) ?_
  refine Exit.then_normal (hK1 _ _ ?_)
  refine wp_seq_k (fun K hK2 => ?_)
  refine wp_region_from ?_
  refine segO 1 [] [(3, .val (.slice none 0 0))] (Os := []) trivial hE hH (by kernel_rfl) (fun a hE => ?_)
  refine wpFrom_end (by kernel_rfl) ?_
  refine Exit.then_normal (hK2 _ _ ?_)
  refine wp_seq_k (fun K hK3 => ?_)
  refine wp_seq_k (fun K hK4 => ?_)
  refine wp_region_from ?_
  refine segO 2 [] [(6, .kv .bool p0.isNone)] (Os := []) trivial hE hH (by kernel_rfl) (fun a hE => ?_)
  refine wpFrom_end (by kernel_rfl) ?_
  refine Exit.then_normal (hK4 _ _ ?_)
  refine condE (b := p0.isNone) hE (by kernel_rfl) (fun hc => ?_) (fun hc => ?_)
  · replace h := ifT hc h
    refine wp_seq_k (fun K hK5 => ?_)
    refine wp_region_from ?_
    refine segO 2 [] [(2, .val (.slice none 0 0))] (Os := []) trivial hE hH (by kernel_rfl) (fun a hE => ?_)
    refine wpFrom_end (by kernel_rfl) ?_
    refine Exit.then_normal (hK5 _ _ ?_)
    refine wp_ret ?_
    refine Exit.then_ret ?_
    cases h
    exact ret1 rfl hE hle hH (by kernel_rfl)
  · replace h := ifF hc h
    refine wp_skip ?_
    refine Exit.then_normal (hK3 _ _ ?_)
    obtain ⟨i, hi, h⟩ := bs h
    obtain ⟨o, ho, h⟩ := bs h
    obtain ⟨hsz, h⟩ := gd h
    refine wp_seq_k (fun K hK6 => ?_)
    refine wp_seq_k (fun K hK7 => ?_)
    refine wp_region_from ?_
    refine segO 4 [.pt i, .ob fs105 o] [(11, .fm 105 i 1)] (Os := [_, _]) ⟨hi, ob105 ho, trivial⟩ hE hH (by kernel_rfl) (fun a hE => ?_)
    have hH := hH.nilRaw 9 16 .str
    refine stepRange (kk := .str) (kv := .ptr 108) (m := o.2.1) (t := 105) (j := i) (f := 1) (d := some 12) hE hH (by kernel_rfl) (by kernel_rfl) (ob105 ho) rfl (fun r mr es cl a w G hl hE hH hh hr hm => ?_)
    have hle := Gh.le_trans hle hl
    refine wpFrom_end (by kernel_rfl) ?_
    refine Exit.then_normal (hK7 _ _ ?_)
    refine wp_block ?_
    refine loop_intro (fun Q c hQ hc => ?_)
    have key : ∀ (k : Nat) (seen : Array Nat) (done : List (List UInt8 × Option Nat)) (v : Value), es.toList.length < seen.toList.length + k → Gone (kk := .str) (kv := .ptr 108) es.toList o.2.1 seen.toList done →
        ∀ (a : Act) (w : World) (G : Gh), G0.le G → EnvR G 24 a [(3, .val v), (12, .val (.pointer (some ⟨r, 0, none⟩)))] → Holds w G (tabs σ) (.iter r (itO mr cl seen) :: .raw v 9 16 .str (done.map (·.1)) :: Ls) → w.heap[mr]? = some (.map es cl) → G.role mr = .fld 105 i 1 → mapR G .str (.ptr 108) o.2.1 es.toList cl →
        (∀ (a : Act) (w : World) (G : Gh) (seen : Array Nat) (done : List (List UInt8 × Option Nat)) (v : Value), done.Perm o.2.1 → G0.le G → EnvR G 24 a [(3, .val v), (12, .val (.pointer (some ⟨r, 0, none⟩)))] → Holds w G (tabs σ) (.iter r (itO mr cl seen) :: .raw v 9 16 .str (done.map (·.1)) :: Ls) → Q (.exit 0) a w) → Rnd Try.prog c Q a w := by
      intro k
      induction k with
      | zero =>
        intro seen done v hk hg
        have := hg.len
        omega
      | succ k ih =>
        intro seen done v hk hg a w G hle hE hH hh hr hm hx
        refine rnd_step' hc ?_
        refine wp_seq_k (fun K hK8 => ?_)
        refine wp_region_from ?_
        refine stepNext (kk := .str) (kv := .ptr 108) (m := o.2.1) (d := some 13) hE hH hh hm (by kernel_rfl) (by kernel_rfl) (fun hall a w hE hH => ?_) (fun ix e p hix hp hns a w hE hH hh => ?_)
        · refine segO 1 [] [(14, .kv .bool false)] (Os := []) trivial hE hH (by kernel_rfl) (fun a hE => ?_)
          refine wpFrom_end (by kernel_rfl) ?_
          refine Exit.then_normal (hK8 _ _ ?_)
          refine wp_seq_k (fun K hK9 => ?_)
          refine condF hE (by kernel_rfl) rfl ?_
          refine wp_exit ?_
          refine Exit.then_exit ?_
          refine Exit.then_exit ?_
          exact hx _ _ _ _ _ _ (hg.all (by rw [hm.1.length]) hm.2.2 hall) hle (hE.subC (by kernel_rfl)) hH
        · refine segO 1 [] [(14, .kv .bool true)] (Os := []) trivial hE hH (by kernel_rfl) (fun a hE => ?_)
          refine wpFrom_end (by kernel_rfl) ?_
          refine Exit.then_normal (hK8 _ _ ?_)
          refine wp_seq_k (fun K hK9 => ?_)
          refine condT hE (by kernel_rfl) rfl ?_
          refine wp_skip ?_
          refine Exit.then_normal (hK9 _ _ ?_)
          refine wp_block ?_
          refine wp_seq_k (fun K hK10 => ?_)
          refine wp_region_from ?_
          refine stepEntry (kk := .str) (kv := .ptr 108) (m := o.2.1) (d := some 15) hE hH hh hm hix hp (by kernel_rfl) (by kernel_rfl) (fun a hE => ?_)
          refine segO 2 [] [(4, .kv .str p.1)] (Os := []) trivial hE hH (by kernel_rfl) (fun a hE => ?_)
          refine wpFrom_end (by kernel_rfl) ?_
          refine Exit.then_normal (hK10 _ _ ?_)
          refine wp_region_from ?_
          refine segO 2 [] [(17, .val v), (18, .kv .str p.1)] (Os := []) trivial hE hH (by kernel_rfl) (fun a hE => ?_)
          refine stepBuildS' (d := some 19) .str [p.1] hE hH (by kernel_rfl) (by kernel_rfl) (fun a w' G' hl hE hH hkeep => ?_)
          have hle := Gh.le_trans hle hl
          have hm := mapR_mono hl hm
          obtain ⟨hkeep1, hkeep2⟩ := hkeep mr (by rw [hr]; simp)
          rw [← hkeep1] at hh
          rw [← hkeep2] at hr
          refine stepAppR (e' := 9) (bt := 16) (K := .str) (xs := done.map (·.1)) (ys := [p.1]) (d := some 20) 1 hE hH (by kernel_rfl) rfl (by kernel_rfl) (by have h1 := hg.len2; rw [← hm.1.length] at h1; simp only [List.length_map, List.length_cons, List.length_nil]; omega) (fun v' a w'' G'' hl hE hH hfix hro => ?_)
          have hle := Gh.le_trans hle hl
          have hm := mapR_mono hl hm
          have hh2 := hfix mr _ _ _ hr
          have hr2 := hro mr (by rw [hr]; simp)
          rw [← hh2] at hh
          rw [← hr2] at hr
          refine segO 1 [] [(3, .val v')] (Os := []) trivial hE hH (by kernel_rfl) (fun a hE => ?_)
          refine wpFrom_end (by kernel_rfl) ?_
          refine Exit.in_normal ?_
          refine Exit.then_normal ?_
          refine ih (seen.push e.born) (done ++ [p]) v' ?_ ?_ a _ _ hle (hE.subC (by kernel_rfl)) ?_ hh hr hm hx
          · simp at hk ⊢; omega
          · rw [Array.toList_push]; exact hg.next hix hp hns
          · rw [List.map_append]; exact hH
    refine key (es.toList.length + 1) #[] [] (.slice none 0 0) (by simp) Gone.nil a w G hle (hE.subC (by kernel_rfl)) hH hh hr hm (fun a w G seen done v hperm hle hE hH => ?_)
    rw [hQ]
    have hH := hH.drop (fun _ _ _ => rfl)
    refine Exit.in_eq ?_
    refine Exit.then_normal (hK6 _ _ ?_)
    refine wp_seq_k (fun K hK11 => ?_)
    refine wp_region_from ?_
    refine segO 1 [] [(21, .val v)] (Os := []) trivial hE hH (by kernel_rfl) (fun a hE => ?_)
    refine stepCallV (f := 62) (As := [.val v]) (R := .tup []) (d := some 22) (T' := tabs σ) (Ls' := .raw v 9 16 .str (sorted (done.map (·.1))) :: Ls) (by kernel_rfl) (fun args hA => ?_) hE (by kernel_rfl) (by kernel_rfl) trivial (fun a w G hl hE hH => ?_)
    · match args, hA with
      | [u], ⟨hu, _⟩ =>
        simp only [EnR] at hu
        subst hu
        exact sort_calls (j := 0) hH rfl (by rw [List.length_map, hperm.length_eq]; omega)
    · have hle := Gh.le_trans hle hl
      refine wpFrom_end (by kernel_rfl) ?_
      refine Exit.then_normal (hK11 _ _ ?_)
      have hnd := hH.nd
      obtain ⟨G', hl, hv, hH⟩ := hH.rawPub (Ls' := Ls) List.mem_cons_self (fun l hlm => by
        cases hb : l.blk with
        | none => exact .inr ⟨rfl, List.mem_cons_of_mem _ hlm⟩
        | some b =>
          refine .inl ⟨List.mem_cons_of_mem _ hlm, fun he => ?_⟩
          rw [List.filterMap_cons_some (show LS.blk (.raw v 9 16 .str (sorted (done.map (·.1)))) = some b from he.symm)] at hnd
          exact (List.nodup_cons.1 hnd).1 (List.mem_filterMap.2 ⟨l, hlm, hb⟩)) (fun _ _ _ => rfl) (by
        cases hb : LS.blk (.raw v 9 16 .str (sorted (done.map (·.1)))) with
        | none => rwa [List.filterMap_cons_none hb] at hnd
        | some b => rw [List.filterMap_cons_some hb] at hnd; exact (List.nodup_cons.1 hnd).2)
      have hle := Gh.le_trans hle hl
      have hE := EnvR.more (v := v) (e := .kv (.list .str) (sorted (List.map (fun x : List UInt8 × Option Nat => x.1) done))) (hE.mono hl) 3 (by kernel_rfl) hv
      have hs : sorted (done.map (·.1)) = sorted (o.2.1.map (·.1)) := mergeSort_of_perm (hperm.map _)
      rw [hs] at hE
      cases h
      refine wp_seq_k (fun K hK12 => ?_)
      refine wp_region_from ?_
      refine segO 2 [] [(2, .kv (.list .str) (sorted (o.2.1.map (·.1))))] (Os := []) trivial hE hH (by kernel_rfl) (fun a hE => ?_)
      refine wpFrom_end (by kernel_rfl) ?_
      refine Exit.then_normal (hK12 _ _ ?_)
      refine wp_ret ?_
      exact ret1 rfl hE hle hH (by kernel_rfl)
end Go.Proofs.Ytlfemhkabjafeaa.M

/- The library's sort of numbers, in its own program's numbers of functions and types; upon an unseen list. -/
set_option linter.unusedVariables false
set_option maxRecDepth 100000

namespace Go.Proofs
open Go.Shelf
def Try.lays189_ren : Go.Shelf.Ren := ⟨fun | 189 => 87 | 125 => 101 | 257 => 109 | 128 => 126 | 129 => 127 | 294 => 129 | 295 => 130 | 296 => 131 | 297 => 132 | 298 => 133 | 299 => 134 | 216 => 135 | 300 => 136 | 301 => 137 | 328 => 147 | 329 => 142 | 330 => 143 | 331 => 148 | 332 => 149 | 215 => 150 | 343 => 154 | n => n, fun | 28 => 29 | 3 => 3 | 46 => 137 | 0 => 0 | 51 => 143 | 53 => 123 | 4 => 4 | 183 => 151 | 182 => 150 | 131 => 155 | 5 => 5 | 9 => 9 | 218 => 166 | 222 => 170 | 228 => 177 | 229 => 178 | n => n, fun | n => n⟩
theorem Try.lays189 : Lays.n189 Try.prog Try.lays189_ren := {
  mixed := by kernel_rfl
  f125 := Try.func101.trans (congrArg some (by kernel_rfl))
  f128 := Try.func126.trans (congrArg some (by kernel_rfl))
  f129 := Try.func127.trans (congrArg some (by kernel_rfl))
  f189 := Try.func87.trans (congrArg some (by kernel_rfl))
  f215 := Try.func150.trans (congrArg some (by kernel_rfl))
  f216 := Try.func135.trans (congrArg some (by kernel_rfl))
  f257 := Try.func109.trans (congrArg some (by kernel_rfl))
  f294 := Try.func129.trans (congrArg some (by kernel_rfl))
  f295 := Try.func130.trans (congrArg some (by kernel_rfl))
  f296 := Try.func131.trans (congrArg some (by kernel_rfl))
  f297 := Try.func132.trans (congrArg some (by kernel_rfl))
  f298 := Try.func133.trans (congrArg some (by kernel_rfl))
  f299 := Try.func134.trans (congrArg some (by kernel_rfl))
  f300 := Try.func136.trans (congrArg some (by kernel_rfl))
  f301 := Try.func137.trans (congrArg some (by kernel_rfl))
  f328 := Try.func147.trans (congrArg some (by kernel_rfl))
  f329 := Try.func142.trans (congrArg some (by kernel_rfl))
  f330 := Try.func143.trans (congrArg some (by kernel_rfl))
  f331 := Try.func148.trans (congrArg some (by kernel_rfl))
  f332 := Try.func149.trans (congrArg some (by kernel_rfl))
  f343 := Try.func154.trans (congrArg some (by kernel_rfl))
  t0 := Try.underlying0
  a0 := Try.isAgg0
  z0 := Try.sizeOf0
  v0 := Try.zeroValue0
  t3 := Try.underlying3
  a3 := Try.isAgg3
  z3 := Try.sizeOf3
  v3 := Try.zeroValue3
  t4 := Try.underlying4
  a4 := Try.isAgg4
  z4 := Try.sizeOf4
  v4 := Try.zeroValue4
  t5 := Try.underlying5
  a5 := Try.isAgg5
  z5 := Try.sizeOf5
  v5 := Try.zeroValue5
  t9 := Try.underlying9
  a9 := Try.isAgg9
  z9 := Try.sizeOf9
  v9 := Try.zeroValue9
  t28 := Try.underlying29
  a28 := Try.isAgg29
  z28 := Try.sizeOf29
  v28 := Try.zeroValue29
  t46 := Try.underlying137
  a46 := Try.isAgg137
  z46 := Try.sizeOf137
  v46 := Try.zeroValue137
  t51 := Try.underlying143
  a51 := Try.isAgg143
  z51 := Try.sizeOf143
  v51 := Try.zeroValue143
  t53 := Try.underlying123
  a53 := Try.isAgg123
  z53 := Try.sizeOf123
  v53 := Try.zeroValue123
  t131 := Try.underlying155
  a131 := Try.isAgg155
  z131 := Try.sizeOf155
  v131 := Try.zeroValue155
  t182 := Try.underlying150
  a182 := Try.isAgg150
  z182 := Try.sizeOf150
  v182 := Try.zeroValue150
  t183 := Try.underlying151
  a183 := Try.isAgg151
  z183 := Try.sizeOf151
  v183 := Try.zeroValue151
  t218 := Try.underlying166
  a218 := Try.isAgg166
  z218 := Try.sizeOf166
  v218 := Try.zeroValue166
  t222 := Try.underlying170
  a222 := Try.isAgg170
  z222 := Try.sizeOf170
  v222 := Try.zeroValue170
  t228 := Try.underlying177
  a228 := Try.isAgg177
  z228 := Try.sizeOf177
  v228 := Try.zeroValue177
  t229 := Try.underlying178
  a229 := Try.isAgg178
  z229 := Try.sizeOf178
  v229 := Try.zeroValue178 }
end Go.Proofs

namespace Go.Proofs.Ytlfemhkabjafeaa.M
open Go.Proofs (Try.prog Try.func87 Try.f87 Try.lays189)

/-- Numbers in their order. -/
def sortedI (l : List Int) : List Int := l.mergeSort (fun x y => decide (x ≤ y))

section
variable {w : World} {G : Gh} {T : Tabs} {Ls : List LS} {a : Act} {N : Nat} {E : Env} {ops : Array Oper} {Q : Exit → Act → World → Prop}

theorem sort87_calls {j e bt : Nat} {v : Value} {xs : List Int} (hH : Holds w G T Ls) (hj : Ls[j]? = some (.raw v e bt .i xs)) (hlen : xs.length < 4611686018427387904) :
    Calls Try.prog 87 #[v] w (PostC G (.tup []) T (Ls.set j (.raw v e bt .i (sortedI xs)))) := by
  obtain ⟨cs, o1, o2, o3, o4⟩ := hH.loc _ (List.mem_of_getElem? hj)
  rcases o1.2 with ⟨rfl, hn⟩ | ⟨g, cap, cur, rfl, hb0, hb, h1, h2, h3, h4⟩
  · have hx : xs = [] := List.eq_nil_of_length_eq_zero hn
    subst hx
    refine (Any.slices_Sort_int_none Try.lays189 none 0 w).mono ?_
    rintro e' w' ⟨rfl, rfl⟩
    refine ⟨G, Gh.le_refl G, ⟨#[], rfl, trivial⟩, ?_⟩
    have : Ls.set j (.raw (.slice none 0 0) e bt .i (sortedI [])) = Ls := by
      have : sortedI [] = [] := by simp [sortedI]
      rw [this]
      exact set_self hj
    rw [this]; exact hH
  · have hst : cur.toList.take xs.length = xs.map (Value.int .i64) := by
      have := rowR_ints o2
      simp only [Kd.w, Nat.mul_one] at h4
      rw [h4]
      rw [← this]
      have hcl := o1.1
      simp only [Kd.w, Nat.mul_one] at hcl
      rw [List.take_of_length_le (by omega)]
    refine (Any.slices_Sort_int Try.lays189 g 0 cap xs w (holds_of_blockI hb hst) (Array.getElem?_eq_some_iff.1 hb).1 hlen).mono ?_
    rintro e' w' ⟨rfl, n, os, rfl⟩
    exact ⟨G, Gh.le_refl G, ⟨#[], rfl, trivial⟩, hH.rawSortedI hj (by simp)⟩
end

end Go.Proofs.Ytlfemhkabjafeaa.M

/- Printed by own program: twins and walks. -/
set_option linter.unusedVariables false
set_option maxRecDepth 100000
namespace Go.Proofs.Ytlfemhkabjafeaa.M
open Go.Proofs (Try.prog Try.func24 Try.f24 Try.func27 Try.f27 Try.func19 Try.f19 Try.func29 Try.f29 Try.func23 Try.f23)

def f24 (p0 : Option Nat) (p1 : List UInt8) (p2 : List UInt8) (σ : St) : Option (Int × St) :=
  f70 p0 σ >>= fun r4 =>
  if (r4 != 0) = true then
  some (r4, σ)
  else
  f71 p1 >>= fun r9 =>
  if (!r9) = true then
  some (2, σ)
  else
  p0 >>= fun i12 =>
  (σ.t105[i12]?) >>= fun o13 =>
  (if (!((mapGet .str (.ptr 108) p1 o13.2.1).getD (zeroK (.ptr 108))).isNone) = true then
  ((mapGet .str (.ptr 108) p1 o13.2.1).getD (zeroK (.ptr 108))) >>= fun i77 =>
  (σ.t108[i77]?) >>= fun o78 =>
  some (o78.1.length : Int)
  else
  some 0 : Option Int) >>= fun z18 =>
  if (((mapGet .str (.ptr 108) p1 o13.2.1).getD (zeroK (.ptr 108))).isNone) = true then
  p0 >>= fun i23 =>
  (σ.t105[i23]?) >>= fun o24 =>
  if (decide ((o24.2.1.length : Int) ≥ 128)) = true then
  some (10, σ)
  else
  if (decide ((p2.length : Int) > (IntKind.wrap .i64 (65536 - z18)))) = true then
  some (10, σ)
  else
  p0 >>= fun i31 =>
  (σ.t105[i31]?) >>= fun o32 =>
  f20 p0 σ >>= fun r33 =>
  if (decide ((p2.length : Int) > (IntKind.wrap .i64 (o32.1 - r33)))) = true then
  some (10, σ)
  else
  (if (((mapGet .str (.ptr 108) p1 o13.2.1).getD (zeroK (.ptr 108))).isNone) = true then
  p0 >>= fun i50 =>
  ((σ.add108 ([], 0, ())).t105[i50]?) >>= fun o51 =>
  some (some σ.t108.length, ((σ.add108 ([], 0, ())).set105 i50 (o51.1, mapSet .str (.ptr 108) p1 (some σ.t108.length) o51.2.1, o51.2.2.1, o51.2.2.2.1, ())))
  else
  some ((mapGet .str (.ptr 108) p1 o13.2.1).getD (zeroK (.ptr 108)), σ) : Option ((Option Nat) × St)) >>= fun z39 =>
  z39.1 >>= fun i42 =>
  (z39.2.t108[i42]?) >>= fun o43 =>
  if o43.1.length + p2.length ≤ 9223372036854775807 then
  z39.1 >>= fun i45 =>
  (z39.2.t108[i45]?) >>= fun o46 =>
  f72 p0 f73 (z39.2.set108 i45 (o43.1 ++ p2, o46.2.1, ())) >>= fun r48 =>
  some (r48.1, r48.2)
  else none
  else
  if (decide ((p2.length : Int) > (IntKind.wrap .i64 (65536 - z18)))) = true then
  some (10, σ)
  else
  p0 >>= fun i56 =>
  (σ.t105[i56]?) >>= fun o57 =>
  f20 p0 σ >>= fun r58 =>
  if (decide ((p2.length : Int) > (IntKind.wrap .i64 (o57.1 - r58)))) = true then
  some (10, σ)
  else
  (if (((mapGet .str (.ptr 108) p1 o13.2.1).getD (zeroK (.ptr 108))).isNone) = true then
  p0 >>= fun i75 =>
  ((σ.add108 ([], 0, ())).t105[i75]?) >>= fun o76 =>
  some (some σ.t108.length, ((σ.add108 ([], 0, ())).set105 i75 (o76.1, mapSet .str (.ptr 108) p1 (some σ.t108.length) o76.2.1, o76.2.2.1, o76.2.2.2.1, ())))
  else
  some ((mapGet .str (.ptr 108) p1 o13.2.1).getD (zeroK (.ptr 108)), σ) : Option ((Option Nat) × St)) >>= fun z64 =>
  z64.1 >>= fun i67 =>
  (z64.2.t108[i67]?) >>= fun o68 =>
  if o68.1.length + p2.length ≤ 9223372036854775807 then
  z64.1 >>= fun i70 =>
  (z64.2.t108[i70]?) >>= fun o71 =>
  f72 p0 f73 (z64.2.set108 i70 (o68.1 ++ p2, o71.2.1, ())) >>= fun r73 =>
  some (r73.1, r73.2)
  else none

theorem f24_ok {p0 : Option Nat} {p1 : List UInt8} {p2 : List UInt8} {σ : St} {p : Int × St} (h : f24 p0 p1 p2 σ = some p) : Spec Try.prog 24 [.kv (.ptr 105) p0, .kv .str p1, .kv .str p2] (tabs σ) (.kv .i p.1) (tabs p.2) := by
  refine Spec.intro Try.func24 (by kernel_rfl) rfl (by kernel_rfl) (fun a w G0 Ls hE hH hN => ?_)
  have hle : G0.le G0 := Gh.le_refl G0
  unfold f24 at h
  refine wp_seq_k (fun K hK1 => ?_)
  refine wp_region_from ?_
  refine segO 1 [] [(6, .kv .i 0)] (Os := []) trivial hE hH (by kernel_rfl) (fun a hE => ?_)
  refine wpFrom_end (by kernel_rfl) ?_
  refine Exit.then_normal (hK1 _ _ ?_)
  refine wp_seq_k (fun K hK2 => ?_)
  refine wp_seq_k (fun K hK3 => ?_)
  refine wp_region_from ?_
  refine segO 1 [] [(10, .kv (.ptr 105) p0)] (Os := []) trivial hE hH (by kernel_rfl) (fun a hE => ?_)
  obtain ⟨r4, hr4, h⟩ := bs h
  refine stepCall (d := (some 11)) (f70_ok hr4) hE hH hN (by kernel_rfl) (by kernel_rfl) trivial (fun a w G hl1 hE hH => ?_)
  have hle := Gh.le_trans hle hl1
  refine segO 1 [] [(7, .kv .i r4)] (Os := []) trivial hE hH (by kernel_rfl) (fun a hE => ?_)
  refine wpFrom_end (by kernel_rfl) ?_
  refine Exit.then_normal (hK3 _ _ ?_)
  refine wp_seq_k (fun K hK5 => ?_)
  refine wp_region_from ?_
  refine segO 2 [] [(13, .kv .bool (r4 != 0))] (Os := []) trivial hE hH (by kernel_rfl) (fun a hE => ?_)
  refine wpFrom_end (by kernel_rfl) ?_
  refine Exit.then_normal (hK5 _ _ ?_)
  refine condE (b := r4 != 0) hE (by kernel_rfl) (fun hc => ?_) (fun hc => ?_)
  · replace h := ifT hc h
    refine wp_seq_k (fun K hK6 => ?_)
    refine wp_region_from ?_
    refine segO 2 [] [(6, .kv .i r4)] (Os := []) trivial hE hH (by kernel_rfl) (fun a hE => ?_)
    refine wpFrom_end (by kernel_rfl) ?_
    refine Exit.then_normal (hK6 _ _ ?_)
    refine wp_ret ?_
    refine Exit.then_ret ?_
    cases h
    exact ret1 rfl hE hle hH (by kernel_rfl)
  · replace h := ifF hc h
    refine wp_skip ?_
    refine Exit.then_normal (hK2 _ _ ?_)
    refine wp_seq_k (fun K hK7 => ?_)
    refine wp_seq_k (fun K hK8 => ?_)
    refine wp_region_from ?_
    refine segO 1 [] [(15, .kv .str p1)] (Os := []) trivial hE hH (by kernel_rfl) (fun a hE => ?_)
    obtain ⟨r9, hr9, h⟩ := bs h
    refine stepCall (d := (some 16)) (f71_ok hr9) hE hH hN (by kernel_rfl) (by kernel_rfl) trivial (fun a w G hl2 hE hH => ?_)
    have hle := Gh.le_trans hle hl2
    refine segO 1 [] [(17, .kv .bool (!r9))] (Os := []) trivial hE hH (by kernel_rfl) (fun a hE => ?_)
    refine wpFrom_end (by kernel_rfl) ?_
    refine Exit.then_normal (hK8 _ _ ?_)
    refine condE (b := !r9) hE (by kernel_rfl) (fun hc => ?_) (fun hc => ?_)
    · replace h := ifT hc h
      refine wp_seq_k (fun K hK10 => ?_)
      refine wp_region_from ?_
      refine segO 1 [] [(6, .kv .i 2)] (Os := []) trivial hE hH (by kernel_rfl) (fun a hE => ?_)
      refine wpFrom_end (by kernel_rfl) ?_
      refine Exit.then_normal (hK10 _ _ ?_)
      refine wp_ret ?_
      refine Exit.then_ret ?_
      cases h
      exact ret1 rfl hE hle hH (by kernel_rfl)
    · replace h := ifF hc h
      refine wp_skip ?_
      refine Exit.then_normal (hK7 _ _ ?_)
      refine wp_seq_k (fun K hK11 => ?_)
      refine wp_region_from ?_
      obtain ⟨i12, hi12, h⟩ := bs h
      obtain ⟨o13, ho13, h⟩ := bs h
      refine segO 7 [.pt i12, .ob fs105 o13, .ob fs105 o13] [(8, .kv (.ptr 108) ((mapGet .str (.ptr 108) p1 o13.2.1).getD (zeroK (.ptr 108))))] (Os := [_, _, _]) ⟨hi12, (ob105 (s := σ) ho13), (ob105 (s := σ) ho13), trivial⟩ hE hH (by kernel_rfl) (fun a hE => ?_)
      refine wpFrom_end (by kernel_rfl) ?_
      refine Exit.then_normal (hK11 _ _ ?_)
      refine wp_seq_k (fun K hK14 => ?_)
      refine wp_region_from ?_
      refine segO 1 [] [(9, .kv .i 0)] (Os := []) trivial hE hH (by kernel_rfl) (fun a hE => ?_)
      refine wpFrom_end (by kernel_rfl) ?_
      refine Exit.then_normal (hK14 _ _ ?_)
      refine wp_seq_k (fun K hK15 => ?_)
      refine wp_seq_k (fun K hK16 => ?_)
      refine wp_region_from ?_
      refine segO 2 [] [(25, .kv .bool (!((mapGet .str (.ptr 108) p1 o13.2.1).getD (zeroK (.ptr 108))).isNone))] (Os := []) trivial hE hH (by kernel_rfl) (fun a hE => ?_)
      refine wpFrom_end (by kernel_rfl) ?_
      refine Exit.then_normal (hK16 _ _ ?_)
      obtain ⟨z18, hz18, h⟩ := bs h
      refine join_intro (I := fun a w => ∃ (G : Gh), G0.le G ∧ EnvR G 80 a [(0, .kv (.ptr 105) p0), (1, .kv .str p1), (2, .kv .str p2), (6, .kv .i 0), (8, .kv (.ptr 108) ((mapGet .str (.ptr 108) p1 o13.2.1).getD (zeroK (.ptr 108)))), (9, .kv .i z18)] ∧ Holds w G (tabs σ) (Ls)) trivial ?_ ?_
      · intro a w hI
        obtain ⟨G, hle, hE, hH⟩ := hI
        refine Exit.then_normal (hK15 _ _ ?_)
        refine wp_seq_k (fun K hK20 => ?_)
        refine wp_seq_k (fun K hK21 => ?_)
        by_cases hc : (((mapGet .str (.ptr 108) p1 o13.2.1).getD (zeroK (.ptr 108))).isNone) = true
        · replace h := ifT hc h
          have c22 := hc
          obtain ⟨i23, hi23, h⟩ := bs h
          obtain ⟨o24, ho24, h⟩ := bs h
          by_cases hc : (decide ((o24.2.1.length : Int) ≥ 128)) = true
          · replace h := ifT hc h
            have c25 := hc
            refine region_par 27 [] [(0, 0), (0, 0), (0, 0), (0, 0), (0, 0), (0, 0), (0, 0), (0, 0), (0, 0), (0, 0), (0, 0), (0, 0), (0, 0), (0, 0), (0, 0), (0, 0), (0, 0), (0, 0), (0, 0), (0, 0), (0, 0), (0, 0), (0, 0), (0, 0), (0, 0), (0, 0), (0, 0)] [.kv (.ptr 108) ((mapGet .str (.ptr 108) p1 o13.2.1).getD (zeroK (.ptr 108))), .kv .bool (((mapGet .str (.ptr 108) p1 o13.2.1).getD (zeroK (.ptr 108))).isNone), .kv .bool true, .kv (.ptr 105) p0, .kv (.ptr 105) (some i23), .fldA 105 i23 1, .fm 105 i23 1, .kv .i (o24.2.1.length : Int), .kv .bool (decide ((o24.2.1.length : Int) ≥ 128)), .kv .bool (decide ((o24.2.1.length : Int) ≥ 128)), .kv .bool true, .undef, .undef, .undef, .undef, .undef, .kv .bool true, .kv .bool true, .undef, .undef, .undef, .undef, .undef, .undef, .undef, .undef, .undef] (fun _ => tabs σ) (fun _ => Ls) (by kernel_rfl) (by kernel_rfl) hE hH
                    ⟨⟨⟨⟨⟨⟨⟨⟨⟨⟨⟨⟨⟨⟨⟨⟨⟨⟨⟨⟨⟨⟨⟨⟨⟨⟨⟨trivial,
                    anyk (fun k => obR [] (Os := []) trivial (by kernel_rfl) (by kernel_rfl))⟩,
                    anyk (fun k => obR [] (Os := []) trivial (by kernel_rfl) (by kernel_rfl))⟩,
                    anyk (fun k => obRe [] (Os := []) trivial (by kernel_rfl) (by kernel_rfl) (eb2 c22 rfl))⟩,
                    anyk (fun k => obR [] (Os := []) trivial (by kernel_rfl) (by kernel_rfl))⟩,
                    anyk (fun k => obR [.pt i23] (Os := [_]) ⟨hi23, trivial⟩ (by kernel_rfl) (by kernel_rfl))⟩,
                    anyk (fun k => obR [] (Os := []) trivial (by kernel_rfl) (by kernel_rfl))⟩,
                    anyk (fun k => obR [.ob fs105 o24] (Os := [_]) ⟨(ob105 (s := σ) ho24), trivial⟩ (by kernel_rfl) (by kernel_rfl))⟩,
                    anyk (fun k => obR [.ob fs105 o24] (Os := [_]) ⟨(ob105 (s := σ) ho24), trivial⟩ (by kernel_rfl) (by kernel_rfl))⟩,
                    anyk (fun k => obR [] (Os := []) trivial (by kernel_rfl) (by kernel_rfl))⟩,
                    anyk (fun k => obR [] (Os := []) trivial (by kernel_rfl) (by kernel_rfl))⟩,
                    anyk (fun k => obRe [] (Os := []) trivial (by kernel_rfl) (by kernel_rfl) (eb2 c25 rfl))⟩,
                    anyk (fun k => obR [] (Os := []) trivial (by kernel_rfl) (by kernel_rfl))⟩,
                    anyk (fun k => obR [] (Os := []) trivial (by kernel_rfl) (by kernel_rfl))⟩,
                    anyk (fun k => obR [] (Os := []) trivial (by kernel_rfl) (by kernel_rfl))⟩,
                    anyk (fun k => obR [] (Os := []) trivial (by kernel_rfl) (by kernel_rfl))⟩,
                    anyk (fun k => obR [] (Os := []) trivial (by kernel_rfl) (by kernel_rfl))⟩,
                    anyk (fun k => obR [] (Os := []) trivial (by kernel_rfl) (by kernel_rfl))⟩,
                    anyk (fun k => obR [] (Os := []) trivial (by kernel_rfl) (by kernel_rfl))⟩,
                    anyk (fun k => obR [] (Os := []) trivial (by kernel_rfl) (by kernel_rfl))⟩,
                    anyk (fun k => obR [] (Os := []) trivial (by kernel_rfl) (by kernel_rfl))⟩,
                    anyk (fun k => obR [] (Os := []) trivial (by kernel_rfl) (by kernel_rfl))⟩,
                    anyk (fun k => obR [] (Os := []) trivial (by kernel_rfl) (by kernel_rfl))⟩,
                    anyk (fun k => obR [] (Os := []) trivial (by kernel_rfl) (by kernel_rfl))⟩,
                    anyk (fun k => obR [] (Os := []) trivial (by kernel_rfl) (by kernel_rfl))⟩,
                    anyk (fun k => obR [] (Os := []) trivial (by kernel_rfl) (by kernel_rfl))⟩,
                    anyk (fun k => obR [] (Os := []) trivial (by kernel_rfl) (by kernel_rfl))⟩,
                    anyk (fun k => obR [] (Os := []) trivial (by kernel_rfl) (by kernel_rfl))⟩ (fun a w G hl4 hE hH => ?_)
            have hle := Gh.le_trans hle hl4
            refine segO 2 [] [(59, .kv .bool true)] (Os := []) trivial hE hH (by kernel_rfl) (fun a hE => ?_)
            refine wpFrom_end (by kernel_rfl) ?_
            refine Exit.then_normal (hK21 _ _ ?_)
            refine condT hE (by kernel_rfl) rfl ?_
            refine wp_seq_k (fun K hK26 => ?_)
            refine wp_region_from ?_
            refine segO 1 [] [(6, .kv .i 10)] (Os := []) trivial hE hH (by kernel_rfl) (fun a hE => ?_)
            refine wpFrom_end (by kernel_rfl) ?_
            refine Exit.then_normal (hK26 _ _ ?_)
            refine wp_ret ?_
            refine Exit.then_ret ?_
            cases h
            exact ret1 rfl hE hle hH (by kernel_rfl)
          · replace h := ifN hc h
            have c27 := hc
            by_cases hc : (decide ((p2.length : Int) > (IntKind.wrap .i64 (65536 - z18)))) = true
            · replace h := ifT hc h
              have c28 := hc
              refine region_par 27 [] [(0, 0), (0, 0), (0, 0), (0, 0), (0, 0), (0, 0), (0, 0), (0, 0), (0, 0), (0, 0), (0, 0), (0, 0), (0, 0), (0, 0), (0, 0), (0, 0), (0, 0), (0, 0), (0, 0), (0, 0), (0, 0), (0, 0), (0, 0), (0, 0), (0, 0), (0, 0), (0, 0)] [.kv (.ptr 108) ((mapGet .str (.ptr 108) p1 o13.2.1).getD (zeroK (.ptr 108))), .kv .bool (((mapGet .str (.ptr 108) p1 o13.2.1).getD (zeroK (.ptr 108))).isNone), .kv .bool true, .kv (.ptr 105) p0, .kv (.ptr 105) (some i23), .fldA 105 i23 1, .fm 105 i23 1, .kv .i (o24.2.1.length : Int), .kv .bool (decide ((o24.2.1.length : Int) ≥ 128)), .kv .bool (decide ((o24.2.1.length : Int) ≥ 128)), .kv .bool false, .kv .str p2, .kv .i (p2.length : Int), .kv .i z18, .kv .i (IntKind.wrap .i64 (65536 - z18)), .kv .bool (decide ((p2.length : Int) > (IntKind.wrap .i64 (65536 - z18)))), .kv .bool (decide ((p2.length : Int) > (IntKind.wrap .i64 (65536 - z18)))), .kv .bool true, .undef, .undef, .undef, .undef, .undef, .undef, .undef, .undef, .undef] (fun _ => tabs σ) (fun _ => Ls) (by kernel_rfl) (by kernel_rfl) hE hH
                      ⟨⟨⟨⟨⟨⟨⟨⟨⟨⟨⟨⟨⟨⟨⟨⟨⟨⟨⟨⟨⟨⟨⟨⟨⟨⟨⟨trivial,
                      anyk (fun k => obR [] (Os := []) trivial (by kernel_rfl) (by kernel_rfl))⟩,
                      anyk (fun k => obR [] (Os := []) trivial (by kernel_rfl) (by kernel_rfl))⟩,
                      anyk (fun k => obRe [] (Os := []) trivial (by kernel_rfl) (by kernel_rfl) (eb2 c22 rfl))⟩,
                      anyk (fun k => obR [] (Os := []) trivial (by kernel_rfl) (by kernel_rfl))⟩,
                      anyk (fun k => obR [.pt i23] (Os := [_]) ⟨hi23, trivial⟩ (by kernel_rfl) (by kernel_rfl))⟩,
                      anyk (fun k => obR [] (Os := []) trivial (by kernel_rfl) (by kernel_rfl))⟩,
                      anyk (fun k => obR [.ob fs105 o24] (Os := [_]) ⟨(ob105 (s := σ) ho24), trivial⟩ (by kernel_rfl) (by kernel_rfl))⟩,
                      anyk (fun k => obR [.ob fs105 o24] (Os := [_]) ⟨(ob105 (s := σ) ho24), trivial⟩ (by kernel_rfl) (by kernel_rfl))⟩,
                      anyk (fun k => obR [] (Os := []) trivial (by kernel_rfl) (by kernel_rfl))⟩,
                      anyk (fun k => obR [] (Os := []) trivial (by kernel_rfl) (by kernel_rfl))⟩,
                      anyk (fun k => obRe [] (Os := []) trivial (by kernel_rfl) (by kernel_rfl) (eb2 (bf c27) rfl))⟩,
                      anyk (fun k => obR [] (Os := []) trivial (by kernel_rfl) (by kernel_rfl))⟩,
                      anyk (fun k => obR [] (Os := []) trivial (by kernel_rfl) (by kernel_rfl))⟩,
                      anyk (fun k => obR [] (Os := []) trivial (by kernel_rfl) (by kernel_rfl))⟩,
                      anyk (fun k => obR [] (Os := []) trivial (by kernel_rfl) (by kernel_rfl))⟩,
                      anyk (fun k => obR [] (Os := []) trivial (by kernel_rfl) (by kernel_rfl))⟩,
                      anyk (fun k => obR [] (Os := []) trivial (by kernel_rfl) (by kernel_rfl))⟩,
                      anyk (fun k => obRe [] (Os := []) trivial (by kernel_rfl) (by kernel_rfl) (eb2 c28 rfl))⟩,
                      anyk (fun k => obR [] (Os := []) trivial (by kernel_rfl) (by kernel_rfl))⟩,
                      anyk (fun k => obR [] (Os := []) trivial (by kernel_rfl) (by kernel_rfl))⟩,
                      anyk (fun k => obR [] (Os := []) trivial (by kernel_rfl) (by kernel_rfl))⟩,
                      anyk (fun k => obR [] (Os := []) trivial (by kernel_rfl) (by kernel_rfl))⟩,
                      anyk (fun k => obR [] (Os := []) trivial (by kernel_rfl) (by kernel_rfl))⟩,
                      anyk (fun k => obR [] (Os := []) trivial (by kernel_rfl) (by kernel_rfl))⟩,
                      anyk (fun k => obR [] (Os := []) trivial (by kernel_rfl) (by kernel_rfl))⟩,
                      anyk (fun k => obR [] (Os := []) trivial (by kernel_rfl) (by kernel_rfl))⟩,
                      anyk (fun k => obR [] (Os := []) trivial (by kernel_rfl) (by kernel_rfl))⟩ (fun a w G hl5 hE hH => ?_)
              have hle := Gh.le_trans hle hl5
              refine segO 2 [] [(59, .kv .bool true)] (Os := []) trivial hE hH (by kernel_rfl) (fun a hE => ?_)
              refine wpFrom_end (by kernel_rfl) ?_
              refine Exit.then_normal (hK21 _ _ ?_)
              refine condT hE (by kernel_rfl) rfl ?_
              refine wp_seq_k (fun K hK29 => ?_)
              refine wp_region_from ?_
              refine segO 1 [] [(6, .kv .i 10)] (Os := []) trivial hE hH (by kernel_rfl) (fun a hE => ?_)
              refine wpFrom_end (by kernel_rfl) ?_
              refine Exit.then_normal (hK29 _ _ ?_)
              refine wp_ret ?_
              refine Exit.then_ret ?_
              cases h
              exact ret1 rfl hE hle hH (by kernel_rfl)
            · replace h := ifN hc h
              have c30 := hc
              obtain ⟨i31, hi31, h⟩ := bs h
              obtain ⟨o32, ho32, h⟩ := bs h
              obtain ⟨r33, hr33, h⟩ := bs h
              refine region_par 27 [25] [(0, 0), (0, 0), (0, 0), (0, 0), (0, 0), (0, 0), (0, 0), (0, 0), (0, 0), (0, 0), (0, 0), (0, 0), (0, 0), (0, 0), (0, 0), (0, 0), (0, 0), (0, 0), (0, 1), (0, 1), (0, 1), (0, 1), (0, 1), (0, 1), (0, 0), (0, 0), (1, 1)] [.kv (.ptr 108) ((mapGet .str (.ptr 108) p1 o13.2.1).getD (zeroK (.ptr 108))), .kv .bool (((mapGet .str (.ptr 108) p1 o13.2.1).getD (zeroK (.ptr 108))).isNone), .kv .bool true, .kv (.ptr 105) p0, .kv (.ptr 105) (some i23), .fldA 105 i23 1, .fm 105 i23 1, .kv .i (o24.2.1.length : Int), .kv .bool (decide ((o24.2.1.length : Int) ≥ 128)), .kv .bool (decide ((o24.2.1.length : Int) ≥ 128)), .kv .bool false, .kv .str p2, .kv .i (p2.length : Int), .kv .i z18, .kv .i (IntKind.wrap .i64 (65536 - z18)), .kv .bool (decide ((p2.length : Int) > (IntKind.wrap .i64 (65536 - z18)))), .kv .bool (decide ((p2.length : Int) > (IntKind.wrap .i64 (65536 - z18)))), .kv .bool false, .kv .str p2, .kv .i (p2.length : Int), .kv (.ptr 105) p0, .kv (.ptr 105) (some i31), .fldA 105 i31 0, .kv .i o32.1, .kv (.ptr 105) p0, .kv .i r33, .kv .i (IntKind.wrap .i64 (o32.1 - r33))] (fun _ => tabs σ) (fun _ => Ls) (by kernel_rfl) (by kernel_rfl) hE hH
                      ⟨⟨⟨⟨⟨⟨⟨⟨⟨⟨⟨⟨⟨⟨⟨⟨⟨⟨⟨⟨⟨⟨⟨⟨⟨⟨⟨trivial,
                      anyk (fun k => obR [] (Os := []) trivial (by kernel_rfl) (by kernel_rfl))⟩,
                      anyk (fun k => obR [] (Os := []) trivial (by kernel_rfl) (by kernel_rfl))⟩,
                      anyk (fun k => obRe [] (Os := []) trivial (by kernel_rfl) (by kernel_rfl) (eb2 c22 rfl))⟩,
                      anyk (fun k => obR [] (Os := []) trivial (by kernel_rfl) (by kernel_rfl))⟩,
                      anyk (fun k => obR [.pt i23] (Os := [_]) ⟨hi23, trivial⟩ (by kernel_rfl) (by kernel_rfl))⟩,
                      anyk (fun k => obR [] (Os := []) trivial (by kernel_rfl) (by kernel_rfl))⟩,
                      anyk (fun k => obR [.ob fs105 o24] (Os := [_]) ⟨(ob105 (s := σ) ho24), trivial⟩ (by kernel_rfl) (by kernel_rfl))⟩,
                      anyk (fun k => obR [.ob fs105 o24] (Os := [_]) ⟨(ob105 (s := σ) ho24), trivial⟩ (by kernel_rfl) (by kernel_rfl))⟩,
                      anyk (fun k => obR [] (Os := []) trivial (by kernel_rfl) (by kernel_rfl))⟩,
                      anyk (fun k => obR [] (Os := []) trivial (by kernel_rfl) (by kernel_rfl))⟩,
                      anyk (fun k => obRe [] (Os := []) trivial (by kernel_rfl) (by kernel_rfl) (eb2 (bf c27) rfl))⟩,
                      anyk (fun k => obR [] (Os := []) trivial (by kernel_rfl) (by kernel_rfl))⟩,
                      anyk (fun k => obR [] (Os := []) trivial (by kernel_rfl) (by kernel_rfl))⟩,
                      anyk (fun k => obR [] (Os := []) trivial (by kernel_rfl) (by kernel_rfl))⟩,
                      anyk (fun k => obR [] (Os := []) trivial (by kernel_rfl) (by kernel_rfl))⟩,
                      anyk (fun k => obR [] (Os := []) trivial (by kernel_rfl) (by kernel_rfl))⟩,
                      anyk (fun k => obR [] (Os := []) trivial (by kernel_rfl) (by kernel_rfl))⟩,
                      anyk (fun k => obRe [] (Os := []) trivial (by kernel_rfl) (by kernel_rfl) (eb2 (bf c30) rfl))⟩,
                      anyk (fun k => obR [] (Os := []) trivial (by kernel_rfl) (by kernel_rfl))⟩,
                      anyk (fun k => obR [] (Os := []) trivial (by kernel_rfl) (by kernel_rfl))⟩,
                      anyk (fun k => obR [] (Os := []) trivial (by kernel_rfl) (by kernel_rfl))⟩,
                      anyk (fun k => obR [.pt i31] (Os := [_]) ⟨hi31, trivial⟩ (by kernel_rfl) (by kernel_rfl))⟩,
                      anyk (fun k => obR [] (Os := []) trivial (by kernel_rfl) (by kernel_rfl))⟩,
                      anyk (fun k => obR [.ob fs105 o32] (Os := [_]) ⟨(ob105 (s := σ) ho32), trivial⟩ (by kernel_rfl) (by kernel_rfl))⟩,
                      anyk (fun k => obR [] (Os := []) trivial (by kernel_rfl) (by kernel_rfl))⟩,
                      one (obC (k := 0) (d := (some 56)) (f20_ok hr33) rfl hN (by kernel_rfl) (by kernel_rfl) rfl trivial)⟩,
                      anyk (fun k => obR [] (Os := []) trivial (by kernel_rfl) (by kernel_rfl))⟩ (fun a w G hl6 hE hH => ?_)
              have hle := Gh.le_trans hle hl6
              refine segO 2 [] [(59, .kv .bool (decide ((p2.length : Int) > (IntKind.wrap .i64 (o32.1 - r33)))))] (Os := []) trivial hE hH (by kernel_rfl) (fun a hE => ?_)
              refine wpFrom_end (by kernel_rfl) ?_
              refine Exit.then_normal (hK21 _ _ ?_)
              refine condE (b := decide ((p2.length : Int) > (IntKind.wrap .i64 (o32.1 - r33)))) hE (by kernel_rfl) (fun hc => ?_) (fun hc => ?_)
              · replace h := ifT hc h
                refine wp_seq_k (fun K hK34 => ?_)
                refine wp_region_from ?_
                refine segO 1 [] [(6, .kv .i 10)] (Os := []) trivial hE hH (by kernel_rfl) (fun a hE => ?_)
                refine wpFrom_end (by kernel_rfl) ?_
                refine Exit.then_normal (hK34 _ _ ?_)
                refine wp_ret ?_
                refine Exit.then_ret ?_
                cases h
                exact ret1 rfl hE hle hH (by kernel_rfl)
              · replace h := ifF hc h
                refine wp_skip ?_
                refine Exit.then_normal (hK20 _ _ ?_)
                refine wp_seq_k (fun K hK35 => ?_)
                refine wp_seq_k (fun K hK36 => ?_)
                refine wp_region_from ?_
                refine segO 2 [] [(61, .kv .bool (((mapGet .str (.ptr 108) p1 o13.2.1).getD (zeroK (.ptr 108))).isNone))] (Os := []) trivial hE hH (by kernel_rfl) (fun a hE => ?_)
                refine wpFrom_end (by kernel_rfl) ?_
                refine Exit.then_normal (hK36 _ _ ?_)
                obtain ⟨z39, hz39, h⟩ := bs h
                refine join_intro (I := fun a w => ∃ (G : Gh), G0.le G ∧ EnvR G 80 a [(0, .kv (.ptr 105) p0), (2, .kv .str p2), (6, .kv .i 0), (8, .kv (.ptr 108) z39.1)] ∧ Holds w G (tabs z39.2) (Ls)) trivial ?_ ?_
                · intro a w hI
                  obtain ⟨G, hle, hE, hH⟩ := hI
                  refine Exit.then_normal (hK35 _ _ ?_)
                  refine wp_seq_k (fun K hK41 => ?_)
                  refine wp_region_from ?_
                  obtain ⟨i42, hi42, h⟩ := bs h
                  obtain ⟨o43, ho43, h⟩ := bs h
                  obtain ⟨q44, h⟩ := gd h
                  obtain ⟨i45, hi45, h⟩ := bs h
                  refine segO 8 [.pt i42, .ob fs108 o43, .pt i45] [(75, .kv .str (o43.1 ++ p2)), (77, .fldA 108 i45 0)] (Os := [_, _, _, _]) ⟨hi42, (ob108 (s := z39.2) ho43), q44, hi45, trivial⟩ hE hH (by kernel_rfl) (fun a hE => ?_)
                  obtain ⟨o46, ho46, h⟩ := bs h
                  refine stepStO (t := 108) (j := i45) (off := 0) .str (o43.1 ++ p2) (x' := (o43.1 ++ p2, o46.2.1, ())) hE hH (by kernel_rfl) (ob108 (s := z39.2) ho46) (by kernel_rfl) (upd108 (s := z39.2)) (fun w G hl8 hE hH => ?_)
                  have hle := Gh.le_trans hle hl8
                  refine wpFrom_end (by kernel_rfl) ?_
                  refine Exit.then_normal (hK41 _ _ ?_)
                  refine wp_seq_k (fun K hK47 => ?_)
                  refine wp_region_from ?_
                  refine segO 1 [] [(78, .kv (.ptr 105) p0)] (Os := []) trivial hE hH (by kernel_rfl) (fun a hE => ?_)
                  obtain ⟨r48, hr48, h⟩ := bs h
                  refine stepCall (d := (some 79)) (f72_ok (q1 := 73) (l1 := []) (hq1 := (fun h => f73_ok h)) hr48) hE hH hN (by kernel_rfl) (by kernel_rfl) trivial (fun a w G hl9 hE hH => ?_)
                  have hle := Gh.le_trans hle hl9
                  refine segO 1 [] [(6, .kv .i r48.1)] (Os := []) trivial hE hH (by kernel_rfl) (fun a hE => ?_)
                  refine wpFrom_end (by kernel_rfl) ?_
                  refine Exit.then_normal (hK47 _ _ ?_)
                  refine wp_ret ?_
                  cases h
                  exact ret1 rfl hE hle hH (by kernel_rfl)
                · intro KK hKK ho
                  have hj40 : ∀ (a : Act) (w : World) (G : Gh), G0.le G → EnvR G 80 a [(0, .kv (.ptr 105) p0), (2, .kv .str p2), (6, .kv .i 0), (8, .kv (.ptr 108) z39.1)] → Holds w G (tabs z39.2) (Ls) → KK .normal a w := fun a w G  h1 h2 h3 => hKK a w ⟨G, h1, h2, h3⟩
                  replace h := hz39
                  refine condE (b := ((mapGet .str (.ptr 108) p1 o13.2.1).getD (zeroK (.ptr 108))).isNone) hE (by kernel_rfl) (fun hc => ?_) (fun hc => ?_)
                  · replace h := ifT hc h
                    refine wp_seq_k (fun K hK49 => ?_)
                    refine wp_region_from ?_
                    refine stepBuild (d := (some 62)) K108 ([], 0, ()) rfl hE (by kernel_rfl) (by kernel_rfl) (fun a hE => ?_)
                    refine stepNew (t := 108) (fs := fs108) (x := ([], 0, ())) (e := 108) (d := (some 63)) K108 ([], 0, ()) hE hH (by kernel_rfl) (by kernel_rfl) ⟨rfl, HEq.rfl, ⟨rfl, HEq.rfl, trivial⟩⟩ (addT108 (s := σ) (x := ([], 0, ()))) (fun a w G hl10 hE hH => ?_)
                    have hle := Gh.le_trans hle hl10
                    refine segO 1 [] [(8, .fldA 108 σ.t108.length 0)] (Os := []) trivial hE hH (by kernel_rfl) (fun a hE => ?_)
                    refine wpFrom_end (by kernel_rfl) ?_
                    refine Exit.then_normal (hK49 _ _ ?_)
                    refine wp_region_from ?_
                    obtain ⟨i50, hi50, h⟩ := bs h
                    obtain ⟨o51, ho51, h⟩ := bs h
                    refine segO 6 [.pt i50, .ob fs105 o51] [(67, .fm 105 i50 1), (68, .kv .str p1), (69, .fldA 108 σ.t108.length 0)] (Os := [_, _]) ⟨hi50, (ob105 (s := (σ.add108 ([], 0, ()))) ho51), trivial⟩ hE hH (by kernel_rfl) (fun a hE => ?_)
                    refine stepMUp .str (.ptr 108) p1 (some σ.t108.length) (t := 105) (j := i50) (f := 1) (m := o51.2.1) (x' := (o51.1, mapSet .str (.ptr 108) p1 (some σ.t108.length) o51.2.1, o51.2.2.1, o51.2.2.2.1, ())) hE hH (by kernel_rfl) (ob105 (s := (σ.add108 ([], 0, ()))) ho51) (by kernel_rfl) (by kernel_rfl) (upd105 (s := (σ.add108 ([], 0, ())))) (fun w G hl11 hE hH => ?_)
                    have hle := Gh.le_trans hle hl11
                    refine wpFrom_end (by kernel_rfl) ?_
                    cases h
                    exact hj40 _ _ _  hle (hE.subC (by kernel_rfl)) hH
                  · replace h := ifF hc h
                    refine wp_skip ?_
                    cases h
                    exact hj40 _ _ _  hle (hE.subC (by kernel_rfl)) hH
        · replace h := ifN hc h
          have c52 := hc
          by_cases hc : (decide ((p2.length : Int) > (IntKind.wrap .i64 (65536 - z18)))) = true
          · replace h := ifT hc h
            have c53 := hc
            refine region_par 27 [] [(0, 0), (0, 0), (0, 0), (0, 0), (0, 0), (0, 0), (0, 0), (0, 0), (0, 0), (0, 0), (0, 0), (0, 0), (0, 0), (0, 0), (0, 0), (0, 0), (0, 0), (0, 0), (0, 0), (0, 0), (0, 0), (0, 0), (0, 0), (0, 0), (0, 0), (0, 0), (0, 0)] [.kv (.ptr 108) ((mapGet .str (.ptr 108) p1 o13.2.1).getD (zeroK (.ptr 108))), .kv .bool (((mapGet .str (.ptr 108) p1 o13.2.1).getD (zeroK (.ptr 108))).isNone), .kv .bool false, .undef, .undef, .undef, .undef, .undef, .undef, .kv .bool false, .kv .bool false, .kv .str p2, .kv .i (p2.length : Int), .kv .i z18, .kv .i (IntKind.wrap .i64 (65536 - z18)), .kv .bool (decide ((p2.length : Int) > (IntKind.wrap .i64 (65536 - z18)))), .kv .bool (decide ((p2.length : Int) > (IntKind.wrap .i64 (65536 - z18)))), .kv .bool true, .undef, .undef, .undef, .undef, .undef, .undef, .undef, .undef, .undef] (fun _ => tabs σ) (fun _ => Ls) (by kernel_rfl) (by kernel_rfl) hE hH
                    ⟨⟨⟨⟨⟨⟨⟨⟨⟨⟨⟨⟨⟨⟨⟨⟨⟨⟨⟨⟨⟨⟨⟨⟨⟨⟨⟨trivial,
                    anyk (fun k => obR [] (Os := []) trivial (by kernel_rfl) (by kernel_rfl))⟩,
                    anyk (fun k => obR [] (Os := []) trivial (by kernel_rfl) (by kernel_rfl))⟩,
                    anyk (fun k => obRe [] (Os := []) trivial (by kernel_rfl) (by kernel_rfl) (eb2 (bf c52) rfl))⟩,
                    anyk (fun k => obR [] (Os := []) trivial (by kernel_rfl) (by kernel_rfl))⟩,
                    anyk (fun k => obR [] (Os := []) trivial (by kernel_rfl) (by kernel_rfl))⟩,
                    anyk (fun k => obR [] (Os := []) trivial (by kernel_rfl) (by kernel_rfl))⟩,
                    anyk (fun k => obR [] (Os := []) trivial (by kernel_rfl) (by kernel_rfl))⟩,
                    anyk (fun k => obR [] (Os := []) trivial (by kernel_rfl) (by kernel_rfl))⟩,
                    anyk (fun k => obR [] (Os := []) trivial (by kernel_rfl) (by kernel_rfl))⟩,
                    anyk (fun k => obR [] (Os := []) trivial (by kernel_rfl) (by kernel_rfl))⟩,
                    anyk (fun k => obR [] (Os := []) trivial (by kernel_rfl) (by kernel_rfl))⟩,
                    anyk (fun k => obR [] (Os := []) trivial (by kernel_rfl) (by kernel_rfl))⟩,
                    anyk (fun k => obR [] (Os := []) trivial (by kernel_rfl) (by kernel_rfl))⟩,
                    anyk (fun k => obR [] (Os := []) trivial (by kernel_rfl) (by kernel_rfl))⟩,
                    anyk (fun k => obR [] (Os := []) trivial (by kernel_rfl) (by kernel_rfl))⟩,
                    anyk (fun k => obR [] (Os := []) trivial (by kernel_rfl) (by kernel_rfl))⟩,
                    anyk (fun k => obR [] (Os := []) trivial (by kernel_rfl) (by kernel_rfl))⟩,
                    anyk (fun k => obRe [] (Os := []) trivial (by kernel_rfl) (by kernel_rfl) (eb2 c53 rfl))⟩,
                    anyk (fun k => obR [] (Os := []) trivial (by kernel_rfl) (by kernel_rfl))⟩,
                    anyk (fun k => obR [] (Os := []) trivial (by kernel_rfl) (by kernel_rfl))⟩,
                    anyk (fun k => obR [] (Os := []) trivial (by kernel_rfl) (by kernel_rfl))⟩,
                    anyk (fun k => obR [] (Os := []) trivial (by kernel_rfl) (by kernel_rfl))⟩,
                    anyk (fun k => obR [] (Os := []) trivial (by kernel_rfl) (by kernel_rfl))⟩,
                    anyk (fun k => obR [] (Os := []) trivial (by kernel_rfl) (by kernel_rfl))⟩,
                    anyk (fun k => obR [] (Os := []) trivial (by kernel_rfl) (by kernel_rfl))⟩,
                    anyk (fun k => obR [] (Os := []) trivial (by kernel_rfl) (by kernel_rfl))⟩,
                    anyk (fun k => obR [] (Os := []) trivial (by kernel_rfl) (by kernel_rfl))⟩ (fun a w G hl12 hE hH => ?_)
            have hle := Gh.le_trans hle hl12
            refine segO 2 [] [(59, .kv .bool true)] (Os := []) trivial hE hH (by kernel_rfl) (fun a hE => ?_)
            refine wpFrom_end (by kernel_rfl) ?_
            refine Exit.then_normal (hK21 _ _ ?_)
            refine condT hE (by kernel_rfl) rfl ?_
            refine wp_seq_k (fun K hK54 => ?_)
            refine wp_region_from ?_
            refine segO 1 [] [(6, .kv .i 10)] (Os := []) trivial hE hH (by kernel_rfl) (fun a hE => ?_)
            refine wpFrom_end (by kernel_rfl) ?_
            refine Exit.then_normal (hK54 _ _ ?_)
            refine wp_ret ?_
            refine Exit.then_ret ?_
            cases h
            exact ret1 rfl hE hle hH (by kernel_rfl)
          · replace h := ifN hc h
            have c55 := hc
            obtain ⟨i56, hi56, h⟩ := bs h
            obtain ⟨o57, ho57, h⟩ := bs h
            obtain ⟨r58, hr58, h⟩ := bs h
            refine region_par 27 [25] [(0, 0), (0, 0), (0, 0), (0, 0), (0, 0), (0, 0), (0, 0), (0, 0), (0, 0), (0, 0), (0, 0), (0, 0), (0, 0), (0, 0), (0, 0), (0, 0), (0, 0), (0, 0), (0, 1), (0, 1), (0, 1), (0, 1), (0, 1), (0, 1), (0, 0), (0, 0), (1, 1)] [.kv (.ptr 108) ((mapGet .str (.ptr 108) p1 o13.2.1).getD (zeroK (.ptr 108))), .kv .bool (((mapGet .str (.ptr 108) p1 o13.2.1).getD (zeroK (.ptr 108))).isNone), .kv .bool false, .undef, .undef, .undef, .undef, .undef, .undef, .kv .bool false, .kv .bool false, .kv .str p2, .kv .i (p2.length : Int), .kv .i z18, .kv .i (IntKind.wrap .i64 (65536 - z18)), .kv .bool (decide ((p2.length : Int) > (IntKind.wrap .i64 (65536 - z18)))), .kv .bool (decide ((p2.length : Int) > (IntKind.wrap .i64 (65536 - z18)))), .kv .bool false, .kv .str p2, .kv .i (p2.length : Int), .kv (.ptr 105) p0, .kv (.ptr 105) (some i56), .fldA 105 i56 0, .kv .i o57.1, .kv (.ptr 105) p0, .kv .i r58, .kv .i (IntKind.wrap .i64 (o57.1 - r58))] (fun _ => tabs σ) (fun _ => Ls) (by kernel_rfl) (by kernel_rfl) hE hH
                    ⟨⟨⟨⟨⟨⟨⟨⟨⟨⟨⟨⟨⟨⟨⟨⟨⟨⟨⟨⟨⟨⟨⟨⟨⟨⟨⟨trivial,
                    anyk (fun k => obR [] (Os := []) trivial (by kernel_rfl) (by kernel_rfl))⟩,
                    anyk (fun k => obR [] (Os := []) trivial (by kernel_rfl) (by kernel_rfl))⟩,
                    anyk (fun k => obRe [] (Os := []) trivial (by kernel_rfl) (by kernel_rfl) (eb2 (bf c52) rfl))⟩,
                    anyk (fun k => obR [] (Os := []) trivial (by kernel_rfl) (by kernel_rfl))⟩,
                    anyk (fun k => obR [] (Os := []) trivial (by kernel_rfl) (by kernel_rfl))⟩,
                    anyk (fun k => obR [] (Os := []) trivial (by kernel_rfl) (by kernel_rfl))⟩,
                    anyk (fun k => obR [] (Os := []) trivial (by kernel_rfl) (by kernel_rfl))⟩,
                    anyk (fun k => obR [] (Os := []) trivial (by kernel_rfl) (by kernel_rfl))⟩,
                    anyk (fun k => obR [] (Os := []) trivial (by kernel_rfl) (by kernel_rfl))⟩,
                    anyk (fun k => obR [] (Os := []) trivial (by kernel_rfl) (by kernel_rfl))⟩,
                    anyk (fun k => obR [] (Os := []) trivial (by kernel_rfl) (by kernel_rfl))⟩,
                    anyk (fun k => obR [] (Os := []) trivial (by kernel_rfl) (by kernel_rfl))⟩,
                    anyk (fun k => obR [] (Os := []) trivial (by kernel_rfl) (by kernel_rfl))⟩,
                    anyk (fun k => obR [] (Os := []) trivial (by kernel_rfl) (by kernel_rfl))⟩,
                    anyk (fun k => obR [] (Os := []) trivial (by kernel_rfl) (by kernel_rfl))⟩,
                    anyk (fun k => obR [] (Os := []) trivial (by kernel_rfl) (by kernel_rfl))⟩,
                    anyk (fun k => obR [] (Os := []) trivial (by kernel_rfl) (by kernel_rfl))⟩,
                    anyk (fun k => obRe [] (Os := []) trivial (by kernel_rfl) (by kernel_rfl) (eb2 (bf c55) rfl))⟩,
                    anyk (fun k => obR [] (Os := []) trivial (by kernel_rfl) (by kernel_rfl))⟩,
                    anyk (fun k => obR [] (Os := []) trivial (by kernel_rfl) (by kernel_rfl))⟩,
                    anyk (fun k => obR [] (Os := []) trivial (by kernel_rfl) (by kernel_rfl))⟩,
                    anyk (fun k => obR [.pt i56] (Os := [_]) ⟨hi56, trivial⟩ (by kernel_rfl) (by kernel_rfl))⟩,
                    anyk (fun k => obR [] (Os := []) trivial (by kernel_rfl) (by kernel_rfl))⟩,
                    anyk (fun k => obR [.ob fs105 o57] (Os := [_]) ⟨(ob105 (s := σ) ho57), trivial⟩ (by kernel_rfl) (by kernel_rfl))⟩,
                    anyk (fun k => obR [] (Os := []) trivial (by kernel_rfl) (by kernel_rfl))⟩,
                    one (obC (k := 0) (d := (some 56)) (f20_ok hr58) rfl hN (by kernel_rfl) (by kernel_rfl) rfl trivial)⟩,
                    anyk (fun k => obR [] (Os := []) trivial (by kernel_rfl) (by kernel_rfl))⟩ (fun a w G hl13 hE hH => ?_)
            have hle := Gh.le_trans hle hl13
            refine segO 2 [] [(59, .kv .bool (decide ((p2.length : Int) > (IntKind.wrap .i64 (o57.1 - r58)))))] (Os := []) trivial hE hH (by kernel_rfl) (fun a hE => ?_)
            refine wpFrom_end (by kernel_rfl) ?_
            refine Exit.then_normal (hK21 _ _ ?_)
            refine condE (b := decide ((p2.length : Int) > (IntKind.wrap .i64 (o57.1 - r58)))) hE (by kernel_rfl) (fun hc => ?_) (fun hc => ?_)
            · replace h := ifT hc h
              refine wp_seq_k (fun K hK59 => ?_)
              refine wp_region_from ?_
              refine segO 1 [] [(6, .kv .i 10)] (Os := []) trivial hE hH (by kernel_rfl) (fun a hE => ?_)
              refine wpFrom_end (by kernel_rfl) ?_
              refine Exit.then_normal (hK59 _ _ ?_)
              refine wp_ret ?_
              refine Exit.then_ret ?_
              cases h
              exact ret1 rfl hE hle hH (by kernel_rfl)
            · replace h := ifF hc h
              refine wp_skip ?_
              refine Exit.then_normal (hK20 _ _ ?_)
              refine wp_seq_k (fun K hK60 => ?_)
              refine wp_seq_k (fun K hK61 => ?_)
              refine wp_region_from ?_
              refine segO 2 [] [(61, .kv .bool (((mapGet .str (.ptr 108) p1 o13.2.1).getD (zeroK (.ptr 108))).isNone))] (Os := []) trivial hE hH (by kernel_rfl) (fun a hE => ?_)
              refine wpFrom_end (by kernel_rfl) ?_
              refine Exit.then_normal (hK61 _ _ ?_)
              obtain ⟨z64, hz64, h⟩ := bs h
              refine join_intro (I := fun a w => ∃ (G : Gh), G0.le G ∧ EnvR G 80 a [(0, .kv (.ptr 105) p0), (2, .kv .str p2), (6, .kv .i 0), (8, .kv (.ptr 108) z64.1)] ∧ Holds w G (tabs z64.2) (Ls)) trivial ?_ ?_
              · intro a w hI
                obtain ⟨G, hle, hE, hH⟩ := hI
                refine Exit.then_normal (hK60 _ _ ?_)
                refine wp_seq_k (fun K hK66 => ?_)
                refine wp_region_from ?_
                obtain ⟨i67, hi67, h⟩ := bs h
                obtain ⟨o68, ho68, h⟩ := bs h
                obtain ⟨q69, h⟩ := gd h
                obtain ⟨i70, hi70, h⟩ := bs h
                refine segO 8 [.pt i67, .ob fs108 o68, .pt i70] [(75, .kv .str (o68.1 ++ p2)), (77, .fldA 108 i70 0)] (Os := [_, _, _, _]) ⟨hi67, (ob108 (s := z64.2) ho68), q69, hi70, trivial⟩ hE hH (by kernel_rfl) (fun a hE => ?_)
                obtain ⟨o71, ho71, h⟩ := bs h
                refine stepStO (t := 108) (j := i70) (off := 0) .str (o68.1 ++ p2) (x' := (o68.1 ++ p2, o71.2.1, ())) hE hH (by kernel_rfl) (ob108 (s := z64.2) ho71) (by kernel_rfl) (upd108 (s := z64.2)) (fun w G hl15 hE hH => ?_)
                have hle := Gh.le_trans hle hl15
                refine wpFrom_end (by kernel_rfl) ?_
                refine Exit.then_normal (hK66 _ _ ?_)
                refine wp_seq_k (fun K hK72 => ?_)
                refine wp_region_from ?_
                refine segO 1 [] [(78, .kv (.ptr 105) p0)] (Os := []) trivial hE hH (by kernel_rfl) (fun a hE => ?_)
                obtain ⟨r73, hr73, h⟩ := bs h
                refine stepCall (d := (some 79)) (f72_ok (q1 := 73) (l1 := []) (hq1 := (fun h => f73_ok h)) hr73) hE hH hN (by kernel_rfl) (by kernel_rfl) trivial (fun a w G hl16 hE hH => ?_)
                have hle := Gh.le_trans hle hl16
                refine segO 1 [] [(6, .kv .i r73.1)] (Os := []) trivial hE hH (by kernel_rfl) (fun a hE => ?_)
                refine wpFrom_end (by kernel_rfl) ?_
                refine Exit.then_normal (hK72 _ _ ?_)
                refine wp_ret ?_
                cases h
                exact ret1 rfl hE hle hH (by kernel_rfl)
              · intro KK hKK ho
                have hj65 : ∀ (a : Act) (w : World) (G : Gh), G0.le G → EnvR G 80 a [(0, .kv (.ptr 105) p0), (2, .kv .str p2), (6, .kv .i 0), (8, .kv (.ptr 108) z64.1)] → Holds w G (tabs z64.2) (Ls) → KK .normal a w := fun a w G  h1 h2 h3 => hKK a w ⟨G, h1, h2, h3⟩
                replace h := hz64
                refine condE (b := ((mapGet .str (.ptr 108) p1 o13.2.1).getD (zeroK (.ptr 108))).isNone) hE (by kernel_rfl) (fun hc => ?_) (fun hc => ?_)
                · replace h := ifT hc h
                  refine wp_seq_k (fun K hK74 => ?_)
                  refine wp_region_from ?_
                  refine stepBuild (d := (some 62)) K108 ([], 0, ()) rfl hE (by kernel_rfl) (by kernel_rfl) (fun a hE => ?_)
                  refine stepNew (t := 108) (fs := fs108) (x := ([], 0, ())) (e := 108) (d := (some 63)) K108 ([], 0, ()) hE hH (by kernel_rfl) (by kernel_rfl) ⟨rfl, HEq.rfl, ⟨rfl, HEq.rfl, trivial⟩⟩ (addT108 (s := σ) (x := ([], 0, ()))) (fun a w G hl17 hE hH => ?_)
                  have hle := Gh.le_trans hle hl17
                  refine segO 1 [] [(8, .fldA 108 σ.t108.length 0)] (Os := []) trivial hE hH (by kernel_rfl) (fun a hE => ?_)
                  refine wpFrom_end (by kernel_rfl) ?_
                  refine Exit.then_normal (hK74 _ _ ?_)
                  refine wp_region_from ?_
                  obtain ⟨i75, hi75, h⟩ := bs h
                  obtain ⟨o76, ho76, h⟩ := bs h
                  refine segO 6 [.pt i75, .ob fs105 o76] [(67, .fm 105 i75 1), (68, .kv .str p1), (69, .fldA 108 σ.t108.length 0)] (Os := [_, _]) ⟨hi75, (ob105 (s := (σ.add108 ([], 0, ()))) ho76), trivial⟩ hE hH (by kernel_rfl) (fun a hE => ?_)
                  refine stepMUp .str (.ptr 108) p1 (some σ.t108.length) (t := 105) (j := i75) (f := 1) (m := o76.2.1) (x' := (o76.1, mapSet .str (.ptr 108) p1 (some σ.t108.length) o76.2.1, o76.2.2.1, o76.2.2.2.1, ())) hE hH (by kernel_rfl) (ob105 (s := (σ.add108 ([], 0, ()))) ho76) (by kernel_rfl) (by kernel_rfl) (upd105 (s := (σ.add108 ([], 0, ())))) (fun w G hl18 hE hH => ?_)
                  have hle := Gh.le_trans hle hl18
                  refine wpFrom_end (by kernel_rfl) ?_
                  cases h
                  exact hj65 _ _ _  hle (hE.subC (by kernel_rfl)) hH
                · replace h := ifF hc h
                  refine wp_skip ?_
                  cases h
                  exact hj65 _ _ _  hle (hE.subC (by kernel_rfl)) hH
      · intro KK hKK ho
        have hj19 : ∀ (a : Act) (w : World) (G : Gh), G0.le G → EnvR G 80 a [(0, .kv (.ptr 105) p0), (1, .kv .str p1), (2, .kv .str p2), (6, .kv .i 0), (8, .kv (.ptr 108) ((mapGet .str (.ptr 108) p1 o13.2.1).getD (zeroK (.ptr 108)))), (9, .kv .i z18)] → Holds w G (tabs σ) (Ls) → KK .normal a w := fun a w G  h1 h2 h3 => hKK a w ⟨G, h1, h2, h3⟩
        replace h := hz18
        refine condE (b := !((mapGet .str (.ptr 108) p1 o13.2.1).getD (zeroK (.ptr 108))).isNone) hE (by kernel_rfl) (fun hc => ?_) (fun hc => ?_)
        · replace h := ifT hc h
          refine wp_region_from ?_
          obtain ⟨i77, hi77, h⟩ := bs h
          obtain ⟨o78, ho78, h⟩ := bs h
          refine segO 6 [.pt i77, .ob fs108 o78] [(9, .kv .i (o78.1.length : Int))] (Os := [_, _]) ⟨hi77, (ob108 (s := σ) ho78), trivial⟩ hE hH (by kernel_rfl) (fun a hE => ?_)
          refine wpFrom_end (by kernel_rfl) ?_
          cases h
          exact hj19 _ _ _  hle (hE.subC (by kernel_rfl)) hH
        · replace h := ifF hc h
          refine wp_skip ?_
          cases h
          exact hj19 _ _ _  hle (hE.subC (by kernel_rfl)) hH

def f27_l0 (p0 : Option Nat) (r7 : List (List UInt8)) (x8 : List Int) (x9 : Int) (σ10 : St) : Option ((List Int) × Int × St) :=
  if (decide (x9 < (r7.length : Int))) = true then
  (ix r7 x9) >>= fun x19 =>
  p0 >>= fun i21 =>
  (σ10.t105[i21]?) >>= fun o22 =>
  ((mapGet .str (.ptr 108) x19 o22.2.1).getD (zeroK (.ptr 108))) >>= fun i24 =>
  (σ10.t108[i24]?) >>= fun o25 =>
  ((mapGet .str (.ptr 108) x19 o22.2.1).getD (zeroK (.ptr 108))) >>= fun i26 =>
  (σ10.t108[i26]?) >>= fun o27 =>
  if ((IntKind.wrap .i64 ((o25.1.length : Int) - o27.2.1)) == 0) = true then
  f27_l0 p0 r7 x8 (IntKind.wrap .i64 (x9 + 1)) σ10
  else
  (if (decide ((x8.length : Int) > 0)) = true then
  (ix x8 0) >>= fun x49 =>
  if (IntKind.wrap .i64 ((IntKind.wrap .i64 ((o25.1.length : Int) - o27.2.1)) + 1)) ≠ 0 then
  if (0 : Int) ≤ 1 ∧ 1 ≤ (x8.length : Int) then
  some (x8.drop (Int.toNat 1), Int.tmod (if 0 > x49 then 0 else x49) (IntKind.wrap .i64 ((IntKind.wrap .i64 ((o25.1.length : Int) - o27.2.1)) + 1)))
  else none
  else none
  else
  some (x8, 0) : Option ((List Int) × Int)) >>= fun z35 =>
  ((mapGet .str (.ptr 108) x19 o22.2.1).getD (zeroK (.ptr 108))) >>= fun i38 =>
  (σ10.t108[i38]?) >>= fun o39 =>
  ((mapGet .str (.ptr 108) x19 o22.2.1).getD (zeroK (.ptr 108))) >>= fun i40 =>
  (σ10.t108[i40]?) >>= fun o41 =>
  if (0 : Int) ≤ (IntKind.wrap .i64 (o41.2.1 + z35.2)) ∧ (IntKind.wrap .i64 (o41.2.1 + z35.2)) ≤ (o39.1.length : Int) then
  ((mapGet .str (.ptr 108) x19 o22.2.1).getD (zeroK (.ptr 108))) >>= fun i43 =>
  (σ10.t108[i43]?) >>= fun o44 =>
  ((mapGet .str (.ptr 108) x19 o22.2.1).getD (zeroK (.ptr 108))) >>= fun i45 =>
  ((σ10.set108 i43 (o39.1.take (Int.toNat (IntKind.wrap .i64 (o41.2.1 + z35.2))), o44.2.1, ())).t108[i45]?) >>= fun o46 =>
  ((mapGet .str (.ptr 108) x19 o22.2.1).getD (zeroK (.ptr 108))) >>= fun i47 =>
  ((σ10.set108 i43 (o39.1.take (Int.toNat (IntKind.wrap .i64 (o41.2.1 + z35.2))), o44.2.1, ())).t108[i47]?) >>= fun o48 =>
  f27_l0 p0 r7 z35.1 (IntKind.wrap .i64 (x9 + 1)) ((σ10.set108 i43 (o39.1.take (Int.toNat (IntKind.wrap .i64 (o41.2.1 + z35.2))), o44.2.1, ())).set108 i47 (o48.1, (o46.1.length : Int), ()))
  else none
  else
  some ((x8, x9, σ10))
  partial_fixpoint

def f27 (p0 : Option Nat) (p1 : List Int) (σ : St) : Option (Int × St) :=
  if p0.isNone = true then
  some (1, σ)
  else
  f21 p0 σ >>= fun r7 =>
  f27_l0 p0 r7 p1 0 σ >>= fun z52 =>
  p0 >>= fun i55 =>
  (z52.2.2.t105[i55]?) >>= fun o56 =>
  p0 >>= fun i57 =>
  ((z52.2.2.set105 i55 (o56.1, o56.2.1, o56.2.2.1, false, ())).t105[i57]?) >>= fun o58 =>
  some (0, ((z52.2.2.set105 i55 (o56.1, o56.2.1, o56.2.2.1, false, ())).set105 i57 (o58.1, o58.2.1, 0, o58.2.2.2.1, ())))

theorem f27_ok {p0 : Option Nat} {p1 : List Int} {σ : St} {p : Int × St} (h : f27 p0 p1 σ = some p) : Spec Try.prog 27 [.kv (.ptr 105) p0, .kv (.list .i) p1] (tabs σ) (.kv .i p.1) (tabs p.2) := by
  refine Spec.intro Try.func27 (by kernel_rfl) rfl (by kernel_rfl) (fun a w G0 Ls hE hH hN => ?_)
  have hle : G0.le G0 := Gh.le_refl G0
  unfold f27 at h
  refine wp_seq_k (fun K hK1 => ?_)
  refine wp_region_from ?_
  refine segO 1 [] [(4, .kv .i 0)] (Os := []) trivial hE hH (by kernel_rfl) (fun a hE => ?_)
  refine wpFrom_end (by kernel_rfl) ?_
  refine Exit.then_normal (hK1 _ _ ?_)
  refine wp_seq_k (fun K hK2 => ?_)
  refine wp_seq_k (fun K hK3 => ?_)
  refine wp_region_from ?_
  refine segO 2 [] [(11, .kv .bool p0.isNone)] (Os := []) trivial hE hH (by kernel_rfl) (fun a hE => ?_)
  refine wpFrom_end (by kernel_rfl) ?_
  refine Exit.then_normal (hK3 _ _ ?_)
  refine condE (b := p0.isNone) hE (by kernel_rfl) (fun hc => ?_) (fun hc => ?_)
  · replace h := ifT hc h
    refine wp_seq_k (fun K hK4 => ?_)
    refine wp_region_from ?_
    refine segO 1 [] [(4, .kv .i 1)] (Os := []) trivial hE hH (by kernel_rfl) (fun a hE => ?_)
    refine wpFrom_end (by kernel_rfl) ?_
    refine Exit.then_normal (hK4 _ _ ?_)
    refine wp_ret ?_
    refine Exit.then_ret ?_
    cases h
    exact ret1 rfl hE hle hH (by kernel_rfl)
  · replace h := ifF hc h
    refine wp_skip ?_
    refine Exit.then_normal (hK2 _ _ ?_)
    refine wp_seq_k (fun K hK5 => ?_)
    refine wp_seq_k (fun K hK6 => ?_)
    refine wp_region_from ?_
    refine segO 1 [] [(12, .kv (.ptr 105) p0)] (Os := []) trivial hE hH (by kernel_rfl) (fun a hE => ?_)
    obtain ⟨r7, hr7, h⟩ := bs h
    refine stepCall (d := (some 13)) (f21_ok hr7) hE hH hN (by kernel_rfl) (by kernel_rfl) trivial (fun a w G hl1 hE hH => ?_)
    have hle := Gh.le_trans hle hl1
    refine segO 2 [] [(14, .kv .i (r7.length : Int)), (15, .kv .i 0)] (Os := []) trivial hE hH (by kernel_rfl) (fun a hE => ?_)
    refine wpFrom_end (by kernel_rfl) ?_
    refine Exit.then_normal (hK6 _ _ ?_)
    refine wp_block ?_
    obtain ⟨z52, hz52, h⟩ := bs h
    refine loop_intro (fun Q11 c hQ hc => ?_)
    have key : ∀ (x8 : List Int) (x9 : Int) (σ10 : St) (rr : (List Int) × Int × St), f27_l0 p0 r7 x8 x9 σ10 = some rr → ∀ (a : Act) (w : World) (G : Gh), G0.le G → EnvR G 78 a [(0, .kv (.ptr 105) p0), (1, .kv (.list .i) x8), (4, .kv .i 0), (13, .kv (.list .str) r7), (14, .kv .i (r7.length : Int)), (15, .kv .i x9)] → Holds w G (tabs σ10) (Ls) → (∀ z53 : (List Int) × Int × St, rr = z53 → ∀ (a : Act) (w : World) (G : Gh), G0.le G → EnvR G 78 a [(0, .kv (.ptr 105) p0), (1, .kv (.list .i) z53.1), (4, .kv .i 0), (13, .kv (.list .str) r7), (14, .kv .i (r7.length : Int)), (15, .kv .i z53.2.1)] → Holds w G (tabs z53.2.2) (Ls) → Q11 (.exit 0) a w) → Rnd Try.prog c Q11 a w := by
      refine f27_l0.partial_correctness p0 r7 _ ?_
      intro self ih14 x8 x9 σ10 rr h a w G  hle hE hH hx12
      refine rnd_step' hc ?_
      refine wp_seq_k (fun K hK15 => ?_)
      refine wp_region_from ?_
      refine segO 1 [] [(16, .kv .bool (decide (x9 < (r7.length : Int))))] (Os := []) trivial hE hH (by kernel_rfl) (fun a hE => ?_)
      refine wpFrom_end (by kernel_rfl) ?_
      refine Exit.then_normal (hK15 _ _ ?_)
      refine wp_seq_k (fun K hK16 => ?_)
      refine condE (b := decide (x9 < (r7.length : Int))) hE (by kernel_rfl) (fun hc => ?_) (fun hc => ?_)
      · replace h := ifT hc h
        refine wp_skip ?_
        refine Exit.then_normal (hK16 _ _ ?_)
        refine wp_seq_k (fun K hK17 => ?_)
        refine wp_block ?_
        refine wp_seq_k (fun K hK18 => ?_)
        refine wp_region_from ?_
        obtain ⟨x19, hx19, h⟩ := bs h
        refine segO 3 [.ix .str x19] [(6, .kv .str x19)] (Os := [_]) ⟨(IxAt.of (k := .str) hx19), trivial⟩ hE hH (by kernel_rfl) (fun a hE => ?_)
        refine wpFrom_end (by kernel_rfl) ?_
        refine Exit.then_normal (hK18 _ _ ?_)
        refine wp_seq_k (fun K hK20 => ?_)
        refine wp_region_from ?_
        obtain ⟨i21, hi21, h⟩ := bs h
        obtain ⟨o22, ho22, h⟩ := bs h
        refine segO 7 [.pt i21, .ob fs105 o22, .ob fs105 o22] [(7, .kv (.ptr 108) ((mapGet .str (.ptr 108) x19 o22.2.1).getD (zeroK (.ptr 108))))] (Os := [_, _, _]) ⟨hi21, (ob105 (s := σ10) ho22), (ob105 (s := σ10) ho22), trivial⟩ hE hH (by kernel_rfl) (fun a hE => ?_)
        refine wpFrom_end (by kernel_rfl) ?_
        refine Exit.then_normal (hK20 _ _ ?_)
        refine wp_seq_k (fun K hK23 => ?_)
        obtain ⟨i24, hi24, h⟩ := bs h
        obtain ⟨o25, ho25, h⟩ := bs h
        obtain ⟨i26, hi26, h⟩ := bs h
        obtain ⟨o27, ho27, h⟩ := bs h
        refine region_par 9 [] [(0, 0), (0, 0), (0, 0), (0, 0), (0, 0), (0, 0), (0, 0), (0, 0), (0, 0)] [.kv (.ptr 108) ((mapGet .str (.ptr 108) x19 o22.2.1).getD (zeroK (.ptr 108))), .kv (.ptr 108) (some i24), .fldA 108 i24 0, .kv .str o25.1, .kv .i (o25.1.length : Int), .kv (.ptr 108) ((mapGet .str (.ptr 108) x19 o22.2.1).getD (zeroK (.ptr 108))), .kv (.ptr 108) (some i26), .fldA 108 i26 1, .kv .i o27.2.1] (fun _ => tabs σ10) (fun _ => Ls) (by kernel_rfl) (by kernel_rfl) hE hH
                ⟨⟨⟨⟨⟨⟨⟨⟨⟨trivial,
                anyk (fun k => obR [] (Os := []) trivial (by kernel_rfl) (by kernel_rfl))⟩,
                anyk (fun k => obR [.pt i24] (Os := [_]) ⟨hi24, trivial⟩ (by kernel_rfl) (by kernel_rfl))⟩,
                anyk (fun k => obR [] (Os := []) trivial (by kernel_rfl) (by kernel_rfl))⟩,
                anyk (fun k => obR [.ob fs108 o25] (Os := [_]) ⟨(ob108 (s := σ10) ho25), trivial⟩ (by kernel_rfl) (by kernel_rfl))⟩,
                anyk (fun k => obR [] (Os := []) trivial (by kernel_rfl) (by kernel_rfl))⟩,
                anyk (fun k => obR [] (Os := []) trivial (by kernel_rfl) (by kernel_rfl))⟩,
                anyk (fun k => obR [.pt i26] (Os := [_]) ⟨hi26, trivial⟩ (by kernel_rfl) (by kernel_rfl))⟩,
                anyk (fun k => obR [] (Os := []) trivial (by kernel_rfl) (by kernel_rfl))⟩,
                anyk (fun k => obR [.ob fs108 o27] (Os := [_]) ⟨(ob108 (s := σ10) ho27), trivial⟩ (by kernel_rfl) (by kernel_rfl))⟩ (fun a w G hl2 hE hH => ?_)
        have hle := Gh.le_trans hle hl2
        refine segO 2 [] [(8, .kv .i (IntKind.wrap .i64 ((o25.1.length : Int) - o27.2.1)))] (Os := []) trivial hE hH (by kernel_rfl) (fun a hE => ?_)
        refine wpFrom_end (by kernel_rfl) ?_
        refine Exit.then_normal (hK23 _ _ ?_)
        refine wp_seq_k (fun K hK28 => ?_)
        refine wp_seq_k (fun K hK29 => ?_)
        refine wp_region_from ?_
        refine segO 2 [] [(36, .kv .bool ((IntKind.wrap .i64 ((o25.1.length : Int) - o27.2.1)) == 0))] (Os := []) trivial hE hH (by kernel_rfl) (fun a hE => ?_)
        refine wpFrom_end (by kernel_rfl) ?_
        refine Exit.then_normal (hK29 _ _ ?_)
        refine condE (b := (IntKind.wrap .i64 ((o25.1.length : Int) - o27.2.1)) == 0) hE (by kernel_rfl) (fun hc => ?_) (fun hc => ?_)
        · replace h := ifT hc h
          refine wp_exit ?_
          refine Exit.then_exit ?_
          refine Exit.in_eq ?_
          refine Exit.then_normal (hK17 _ _ ?_)
          refine wp_region_from ?_
          refine segO 2 [] [(15, .kv .i (IntKind.wrap .i64 (x9 + 1)))] (Os := []) trivial hE hH (by kernel_rfl) (fun a hE => ?_)
          refine wpFrom_end (by kernel_rfl) ?_
          refine Exit.then_normal ?_
          exact ih14 _ _ _ _ h _ _ _  hle (hE.subC (by kernel_rfl)) hH hx12
        · replace h := ifF hc h
          refine wp_skip ?_
          refine Exit.then_normal (hK28 _ _ ?_)
          refine wp_seq_k (fun K hK30 => ?_)
          refine wp_region_from ?_
          refine segO 1 [] [(9, .kv .i 0)] (Os := []) trivial hE hH (by kernel_rfl) (fun a hE => ?_)
          refine wpFrom_end (by kernel_rfl) ?_
          refine Exit.then_normal (hK30 _ _ ?_)
          refine wp_seq_k (fun K hK31 => ?_)
          refine wp_seq_k (fun K hK32 => ?_)
          refine wp_region_from ?_
          refine segO 3 [] [(39, .kv .bool (decide ((x8.length : Int) > 0)))] (Os := []) trivial hE hH (by kernel_rfl) (fun a hE => ?_)
          refine wpFrom_end (by kernel_rfl) ?_
          refine Exit.then_normal (hK32 _ _ ?_)
          obtain ⟨z35, hz35, h⟩ := bs h
          refine join_intro (I := fun a w => ∃ (G : Gh), G0.le G ∧ EnvR G 78 a [(0, .kv (.ptr 105) p0), (1, .kv (.list .i) z35.1), (4, .kv .i 0), (7, .kv (.ptr 108) ((mapGet .str (.ptr 108) x19 o22.2.1).getD (zeroK (.ptr 108)))), (9, .kv .i z35.2), (13, .kv (.list .str) r7), (14, .kv .i (r7.length : Int)), (15, .kv .i x9)] ∧ Holds w G (tabs σ10) (Ls)) trivial ?_ ?_
          · intro a w hI
            obtain ⟨G, hle, hE, hH⟩ := hI
            refine Exit.then_normal (hK31 _ _ ?_)
            refine wp_seq_k (fun K hK37 => ?_)
            obtain ⟨i38, hi38, h⟩ := bs h
            obtain ⟨o39, ho39, h⟩ := bs h
            obtain ⟨i40, hi40, h⟩ := bs h
            obtain ⟨o41, ho41, h⟩ := bs h
            obtain ⟨q42, h⟩ := gd h
            refine region_par 12 [] [(0, 0), (0, 0), (0, 0), (0, 0), (0, 0), (0, 0), (0, 0), (0, 0), (0, 0), (0, 0), (0, 0), (0, 0)] [.kv (.ptr 108) ((mapGet .str (.ptr 108) x19 o22.2.1).getD (zeroK (.ptr 108))), .kv (.ptr 108) ((mapGet .str (.ptr 108) x19 o22.2.1).getD (zeroK (.ptr 108))), .kv (.ptr 108) (some i38), .fldA 108 i38 0, .kv .str o39.1, .kv (.ptr 108) ((mapGet .str (.ptr 108) x19 o22.2.1).getD (zeroK (.ptr 108))), .kv (.ptr 108) (some i40), .fldA 108 i40 1, .kv .i o41.2.1, .kv .i z35.2, .kv .i (IntKind.wrap .i64 (o41.2.1 + z35.2)), .kv .str (o39.1.take (Int.toNat (IntKind.wrap .i64 (o41.2.1 + z35.2))))] (fun _ => tabs σ10) (fun _ => Ls) (by kernel_rfl) (by kernel_rfl) hE hH
                    ⟨⟨⟨⟨⟨⟨⟨⟨⟨⟨⟨⟨trivial,
                    anyk (fun k => obR [] (Os := []) trivial (by kernel_rfl) (by kernel_rfl))⟩,
                    anyk (fun k => obR [] (Os := []) trivial (by kernel_rfl) (by kernel_rfl))⟩,
                    anyk (fun k => obR [.pt i38] (Os := [_]) ⟨hi38, trivial⟩ (by kernel_rfl) (by kernel_rfl))⟩,
                    anyk (fun k => obR [] (Os := []) trivial (by kernel_rfl) (by kernel_rfl))⟩,
                    anyk (fun k => obR [.ob fs108 o39] (Os := [_]) ⟨(ob108 (s := σ10) ho39), trivial⟩ (by kernel_rfl) (by kernel_rfl))⟩,
                    anyk (fun k => obR [] (Os := []) trivial (by kernel_rfl) (by kernel_rfl))⟩,
                    anyk (fun k => obR [.pt i40] (Os := [_]) ⟨hi40, trivial⟩ (by kernel_rfl) (by kernel_rfl))⟩,
                    anyk (fun k => obR [] (Os := []) trivial (by kernel_rfl) (by kernel_rfl))⟩,
                    anyk (fun k => obR [.ob fs108 o41] (Os := [_]) ⟨(ob108 (s := σ10) ho41), trivial⟩ (by kernel_rfl) (by kernel_rfl))⟩,
                    anyk (fun k => obR [] (Os := []) trivial (by kernel_rfl) (by kernel_rfl))⟩,
                    anyk (fun k => obR [] (Os := []) trivial (by kernel_rfl) (by kernel_rfl))⟩,
                    anyk (fun k => obR [] (Os := [_]) ⟨q42, trivial⟩ (by kernel_rfl) (by kernel_rfl))⟩ (fun a w G hl4 hE hH => ?_)
            have hle := Gh.le_trans hle hl4
            obtain ⟨i43, hi43, h⟩ := bs h
            refine segO 2 [.pt i43] [(62, .fldA 108 i43 0)] (Os := [_]) ⟨hi43, trivial⟩ hE hH (by kernel_rfl) (fun a hE => ?_)
            obtain ⟨o44, ho44, h⟩ := bs h
            refine stepStO (t := 108) (j := i43) (off := 0) .str (o39.1.take (Int.toNat (IntKind.wrap .i64 (o41.2.1 + z35.2)))) (x' := (o39.1.take (Int.toNat (IntKind.wrap .i64 (o41.2.1 + z35.2))), o44.2.1, ())) hE hH (by kernel_rfl) (ob108 (s := σ10) ho44) (by kernel_rfl) (upd108 (s := σ10)) (fun w G hl5 hE hH => ?_)
            have hle := Gh.le_trans hle hl5
            refine wpFrom_end (by kernel_rfl) ?_
            refine Exit.then_normal (hK37 _ _ ?_)
            refine wp_region_from ?_
            obtain ⟨i45, hi45, h⟩ := bs h
            obtain ⟨o46, ho46, h⟩ := bs h
            obtain ⟨i47, hi47, h⟩ := bs h
            refine segO 8 [.pt i45, .ob fs108 o46, .pt i47] [(68, .kv .i (o46.1.length : Int)), (70, .fldA 108 i47 1)] (Os := [_, _, _]) ⟨hi45, (ob108 (s := (σ10.set108 i43 (o39.1.take (Int.toNat (IntKind.wrap .i64 (o41.2.1 + z35.2))), o44.2.1, ()))) ho46), hi47, trivial⟩ hE hH (by kernel_rfl) (fun a hE => ?_)
            obtain ⟨o48, ho48, h⟩ := bs h
            refine stepStO (t := 108) (j := i47) (off := 1) .i (o46.1.length : Int) (x' := (o48.1, (o46.1.length : Int), ())) hE hH (by kernel_rfl) (ob108 (s := (σ10.set108 i43 (o39.1.take (Int.toNat (IntKind.wrap .i64 (o41.2.1 + z35.2))), o44.2.1, ()))) ho48) (by kernel_rfl) (upd108 (s := (σ10.set108 i43 (o39.1.take (Int.toNat (IntKind.wrap .i64 (o41.2.1 + z35.2))), o44.2.1, ())))) (fun w G hl6 hE hH => ?_)
            have hle := Gh.le_trans hle hl6
            refine wpFrom_end (by kernel_rfl) ?_
            refine Exit.in_normal ?_
            refine Exit.then_normal (hK17 _ _ ?_)
            refine wp_region_from ?_
            refine segO 2 [] [(15, .kv .i (IntKind.wrap .i64 (x9 + 1)))] (Os := []) trivial hE hH (by kernel_rfl) (fun a hE => ?_)
            refine wpFrom_end (by kernel_rfl) ?_
            refine Exit.then_normal ?_
            exact ih14 _ _ _ _ h _ _ _  hle (hE.subC (by kernel_rfl)) hH hx12
          · intro KK hKK ho
            have hj36 : ∀ (a : Act) (w : World) (G : Gh), G0.le G → EnvR G 78 a [(0, .kv (.ptr 105) p0), (1, .kv (.list .i) z35.1), (4, .kv .i 0), (7, .kv (.ptr 108) ((mapGet .str (.ptr 108) x19 o22.2.1).getD (zeroK (.ptr 108)))), (9, .kv .i z35.2), (13, .kv (.list .str) r7), (14, .kv .i (r7.length : Int)), (15, .kv .i x9)] → Holds w G (tabs σ10) (Ls) → KK .normal a w := fun a w G  h1 h2 h3 => hKK a w ⟨G, h1, h2, h3⟩
            replace h := hz35
            refine condE (b := decide ((x8.length : Int) > 0)) hE (by kernel_rfl) (fun hc => ?_) (fun hc => ?_)
            · replace h := ifT hc h
              obtain ⟨x49, hx49, h⟩ := bs h
              obtain ⟨q50, h⟩ := gd h
              obtain ⟨q51, h⟩ := gd h
              refine region_par 10 [] [(0, 0), (0, 0), (0, 0), (0, 0), (0, 0), (0, 0), (0, 0), (0, 0), (0, 0), (0, 0)] [.kv (.list .i) x8, .elA .i x49 0, .kv .i x49, .kv .i (if 0 > x49 then 0 else x49), .kv .i (IntKind.wrap .i64 ((o25.1.length : Int) - o27.2.1)), .kv .i (IntKind.wrap .i64 ((IntKind.wrap .i64 ((o25.1.length : Int) - o27.2.1)) + 1)), .kv .i (Int.tmod (if 0 > x49 then 0 else x49) (IntKind.wrap .i64 ((IntKind.wrap .i64 ((o25.1.length : Int) - o27.2.1)) + 1))), .kv (.list .i) x8, .kv (.list .i) (x8.drop (Int.toNat 1)), .kv .i (Int.tmod (if 0 > x49 then 0 else x49) (IntKind.wrap .i64 ((IntKind.wrap .i64 ((o25.1.length : Int) - o27.2.1)) + 1)))] (fun _ => tabs σ10) (fun _ => Ls) (by kernel_rfl) (by kernel_rfl) hE hH
                      ⟨⟨⟨⟨⟨⟨⟨⟨⟨⟨trivial,
                      anyk (fun k => obR [] (Os := []) trivial (by kernel_rfl) (by kernel_rfl))⟩,
                      anyk (fun k => obR [.ix .i x49] (Os := [_]) ⟨(IxAt.of (k := .i) hx49), trivial⟩ (by kernel_rfl) (by kernel_rfl))⟩,
                      anyk (fun k => obR [] (Os := []) trivial (by kernel_rfl) (by kernel_rfl))⟩,
                      anyk (fun k => obR [] (Os := []) trivial (by kernel_rfl) (by kernel_rfl))⟩,
                      anyk (fun k => obR [] (Os := []) trivial (by kernel_rfl) (by kernel_rfl))⟩,
                      anyk (fun k => obR [] (Os := []) trivial (by kernel_rfl) (by kernel_rfl))⟩,
                      anyk (fun k => obR [] (Os := [_]) ⟨q50, trivial⟩ (by kernel_rfl) (by kernel_rfl))⟩,
                      anyk (fun k => obR [] (Os := []) trivial (by kernel_rfl) (by kernel_rfl))⟩,
                      anyk (fun k => obR [] (Os := [_]) ⟨q51, trivial⟩ (by kernel_rfl) (by kernel_rfl))⟩,
                      anyk (fun k => obR [] (Os := []) trivial (by kernel_rfl) (by kernel_rfl))⟩ (fun a w G hl7 hE hH => ?_)
              have hle := Gh.le_trans hle hl7
              refine segO 1 [] [(1, .kv (.list .i) (x8.drop (Int.toNat 1)))] (Os := []) trivial hE hH (by kernel_rfl) (fun a hE => ?_)
              refine wpFrom_end (by kernel_rfl) ?_
              cases h
              exact hj36 _ _ _  hle (hE.subC (by kernel_rfl)) hH
            · replace h := ifF hc h
              refine wp_skip ?_
              cases h
              exact hj36 _ _ _  hle (hE.subC (by kernel_rfl)) hH
      · replace h := ifF hc h
        refine wp_exit ?_
        refine Exit.then_exit ?_
        refine Exit.then_exit ?_
        cases h
        exact hx12 _ rfl _ _ _  hle (hE.subC (by kernel_rfl)) hH
    refine key _ _ _ _ hz52 _ _ _  hle (hE.subC (by kernel_rfl)) hH ?_
    · intro z53 hz a w G  hle hE hH
      subst hz
      rw [hQ]
      refine Exit.in_eq ?_
      refine Exit.then_normal (hK5 _ _ ?_)
      refine wp_seq_k (fun K hK54 => ?_)
      refine wp_region_from ?_
      obtain ⟨i55, hi55, h⟩ := bs h
      refine segO 4 [.pt i55] [(73, .kv (.ptr 105) p0), (75, .fldA 105 i55 3)] (Os := [_]) ⟨hi55, trivial⟩ hE hH (by kernel_rfl) (fun a hE => ?_)
      obtain ⟨o56, ho56, h⟩ := bs h
      refine stepStO (t := 105) (j := i55) (off := 3) .bool false (x' := (o56.1, o56.2.1, o56.2.2.1, false, ())) hE hH (by kernel_rfl) (ob105 (s := z52.2.2) ho56) (by kernel_rfl) (upd105 (s := z52.2.2)) (fun w G hl8 hE hH => ?_)
      have hle := Gh.le_trans hle hl8
      obtain ⟨i57, hi57, h⟩ := bs h
      refine segO 2 [.pt i57] [(77, .fldA 105 i57 2)] (Os := [_]) ⟨hi57, trivial⟩ hE hH (by kernel_rfl) (fun a hE => ?_)
      obtain ⟨o58, ho58, h⟩ := bs h
      refine stepStO (t := 105) (j := i57) (off := 2) .i 0 (x' := (o58.1, o58.2.1, 0, o58.2.2.2.1, ())) hE hH (by kernel_rfl) (ob105 (s := (z52.2.2.set105 i55 (o56.1, o56.2.1, o56.2.2.1, false, ()))) ho58) (by kernel_rfl) (upd105 (s := (z52.2.2.set105 i55 (o56.1, o56.2.1, o56.2.2.1, false, ())))) (fun w G hl9 hE hH => ?_)
      have hle := Gh.le_trans hle hl9
      refine wpFrom_end (by kernel_rfl) ?_
      refine Exit.then_normal (hK54 _ _ ?_)
      refine wp_seq_k (fun K hK59 => ?_)
      refine wp_region_from ?_
      refine segO 1 [] [(4, .kv .i 0)] (Os := []) trivial hE hH (by kernel_rfl) (fun a hE => ?_)
      refine wpFrom_end (by kernel_rfl) ?_
      refine Exit.then_normal (hK59 _ _ ?_)
      refine wp_ret ?_
      cases h
      exact ret1 rfl hE hle hH (by kernel_rfl)

def f19  (σ : St) : Option (Bool × St) :=
  f18 100 σ >>= fun r3 =>
  if ((r3.1.2 != 0) || r3.1.1.isNone) = true then
  some (false, r3.2)
  else
  f24 r3.1.1 [97] [97, 98, 99] r3.2 >>= fun r7 =>
  if (r7.1 != 0) = true then
  some (false, r7.2)
  else
  f33 r3.1.1 [97] r7.2 >>= fun r9 =>
  if (r9.1 != 0) = true then
  some (false, r9.2)
  else
  f24 r3.1.1 [97] [100, 101, 102, 103] r9.2 >>= fun r11 =>
  if (r11.1 != 0) = true then
  some (false, r11.2)
  else
  f27 r3.1.1 [7] r11.2 >>= fun r13 =>
  if (r13.1 != 0) = true then
  some (false, r13.2)
  else
  f28 r3.1.1 [97] r13.2 >>= fun r16 =>
  if ((r16.1 == [97, 98, 99, 100, 101]) && (r16.2 == 0)) = true then
  f30 r3.1.1 [97] r13.2 >>= fun r18 =>
  if (r18 == 5) = true then
  f20 r3.1.1 r13.2 >>= fun r19 =>
  if (r19 == 5) = true then
  f21 r3.1.1 r13.2 >>= fun r20 =>
  some ((r20.length : Int) == 1, r13.2)
  else
  some (false, r13.2)
  else
  some (false, r13.2)
  else
  some (false, r13.2)

theorem f19_ok  {σ : St} {p : Bool × St} (h : f19 σ = some p) : Spec Try.prog 19 [] (tabs σ) (.kv .bool p.1) (tabs p.2) := by
  refine Spec.intro Try.func19 (by kernel_rfl) rfl (by kernel_rfl) (fun a w G0 Ls hE hH hN => ?_)
  have hle : G0.le G0 := Gh.le_refl G0
  unfold f19 at h
  refine wp_seq_k (fun K hK1 => ?_)
  refine wp_region_from ?_
  refine segO 1 [] [(0, .kv .bool false)] (Os := []) trivial hE hH (by kernel_rfl) (fun a hE => ?_)
  refine wpFrom_end (by kernel_rfl) ?_
  refine Exit.then_normal (hK1 _ _ ?_)
  refine wp_seq_k (fun K hK2 => ?_)
  refine wp_region_from ?_
  obtain ⟨r3, hr3, h⟩ := bs h
  refine stepCall (d := (some 6)) (f18_ok hr3) hE hH hN (by kernel_rfl) (by kernel_rfl) trivial (fun a w G hl1 hE hH => ?_)
  have hle := Gh.le_trans hle hl1
  refine segO 5 [] [(1, .kv (.ptr 105) r3.1.1), (2, .kv .i r3.1.2)] (Os := []) trivial hE hH (by kernel_rfl) (fun a hE => ?_)
  refine wpFrom_end (by kernel_rfl) ?_
  refine Exit.then_normal (hK2 _ _ ?_)
  refine wp_seq_k (fun K hK4 => ?_)
  refine wp_seq_k (fun K hK5 => ?_)
  refine wp_region_from ?_
  refine segO 7 [] [(15, .kv .bool ((r3.1.2 != 0) || r3.1.1.isNone))] (Os := []) trivial hE hH (by kernel_rfl) (fun a hE => ?_)
  by_cases hc : ((r3.1.2 != 0) || r3.1.1.isNone) = true
  · replace h := ifT hc h
    have hE := hE.setB 15 (by kernel_rfl) hc
    refine segO 20 [] [(35, .kv .bool true)] (Os := []) trivial hE hH (by kernel_rfl) (fun a hE => ?_)
    refine wpFrom_end (by kernel_rfl) ?_
    refine Exit.then_normal (hK5 _ _ ?_)
    refine condT hE (by kernel_rfl) rfl ?_
    refine wp_seq_k (fun K hK6 => ?_)
    refine wp_region_from ?_
    refine segO 1 [] [(0, .kv .bool false)] (Os := []) trivial hE hH (by kernel_rfl) (fun a hE => ?_)
    refine wpFrom_end (by kernel_rfl) ?_
    refine Exit.then_normal (hK6 _ _ ?_)
    refine wp_ret ?_
    refine Exit.then_ret ?_
    cases h
    exact ret1 rfl hE hle hH (by kernel_rfl)
  · replace h := ifN hc h
    have hE := hE.setB 15 (by kernel_rfl) (bf hc)
    refine segO 1 [] [(16, .kv (.ptr 105) r3.1.1)] (Os := []) trivial hE hH (by kernel_rfl) (fun a hE => ?_)
    obtain ⟨r7, hr7, h⟩ := bs h
    refine stepCall (d := (some 17)) (f24_ok hr7) hE hH hN (by kernel_rfl) (by kernel_rfl) trivial (fun a w G hl2 hE hH => ?_)
    have hle := Gh.le_trans hle hl2
    refine segO 3 [] [(20, .kv .bool (r7.1 != 0))] (Os := []) trivial hE hH (by kernel_rfl) (fun a hE => ?_)
    by_cases hc : (r7.1 != 0) = true
    · replace h := ifT hc h
      have hE := hE.setB 20 (by kernel_rfl) hc
      refine segO 15 [] [(35, .kv .bool true)] (Os := []) trivial hE hH (by kernel_rfl) (fun a hE => ?_)
      refine wpFrom_end (by kernel_rfl) ?_
      refine Exit.then_normal (hK5 _ _ ?_)
      refine condT hE (by kernel_rfl) rfl ?_
      refine wp_seq_k (fun K hK8 => ?_)
      refine wp_region_from ?_
      refine segO 1 [] [(0, .kv .bool false)] (Os := []) trivial hE hH (by kernel_rfl) (fun a hE => ?_)
      refine wpFrom_end (by kernel_rfl) ?_
      refine Exit.then_normal (hK8 _ _ ?_)
      refine wp_ret ?_
      refine Exit.then_ret ?_
      cases h
      exact ret1 rfl hE hle hH (by kernel_rfl)
    · replace h := ifN hc h
      have hE := hE.setB 20 (by kernel_rfl) (bf hc)
      refine segO 1 [] [(21, .kv (.ptr 105) r3.1.1)] (Os := []) trivial hE hH (by kernel_rfl) (fun a hE => ?_)
      obtain ⟨r9, hr9, h⟩ := bs h
      refine stepCall (d := (some 22)) (f33_ok hr9) hE hH hN (by kernel_rfl) (by kernel_rfl) trivial (fun a w G hl3 hE hH => ?_)
      have hle := Gh.le_trans hle hl3
      refine segO 3 [] [(25, .kv .bool (r9.1 != 0))] (Os := []) trivial hE hH (by kernel_rfl) (fun a hE => ?_)
      by_cases hc : (r9.1 != 0) = true
      · replace h := ifT hc h
        have hE := hE.setB 25 (by kernel_rfl) hc
        refine segO 10 [] [(35, .kv .bool true)] (Os := []) trivial hE hH (by kernel_rfl) (fun a hE => ?_)
        refine wpFrom_end (by kernel_rfl) ?_
        refine Exit.then_normal (hK5 _ _ ?_)
        refine condT hE (by kernel_rfl) rfl ?_
        refine wp_seq_k (fun K hK10 => ?_)
        refine wp_region_from ?_
        refine segO 1 [] [(0, .kv .bool false)] (Os := []) trivial hE hH (by kernel_rfl) (fun a hE => ?_)
        refine wpFrom_end (by kernel_rfl) ?_
        refine Exit.then_normal (hK10 _ _ ?_)
        refine wp_ret ?_
        refine Exit.then_ret ?_
        cases h
        exact ret1 rfl hE hle hH (by kernel_rfl)
      · replace h := ifN hc h
        have hE := hE.setB 25 (by kernel_rfl) (bf hc)
        refine segO 1 [] [(26, .kv (.ptr 105) r3.1.1)] (Os := []) trivial hE hH (by kernel_rfl) (fun a hE => ?_)
        obtain ⟨r11, hr11, h⟩ := bs h
        refine stepCall (d := (some 27)) (f24_ok hr11) hE hH hN (by kernel_rfl) (by kernel_rfl) trivial (fun a w G hl4 hE hH => ?_)
        have hle := Gh.le_trans hle hl4
        refine segO 3 [] [(30, .kv .bool (r11.1 != 0))] (Os := []) trivial hE hH (by kernel_rfl) (fun a hE => ?_)
        by_cases hc : (r11.1 != 0) = true
        · replace h := ifT hc h
          have hE := hE.setB 30 (by kernel_rfl) hc
          refine segO 5 [] [(35, .kv .bool true)] (Os := []) trivial hE hH (by kernel_rfl) (fun a hE => ?_)
          refine wpFrom_end (by kernel_rfl) ?_
          refine Exit.then_normal (hK5 _ _ ?_)
          refine condT hE (by kernel_rfl) rfl ?_
          refine wp_seq_k (fun K hK12 => ?_)
          refine wp_region_from ?_
          refine segO 1 [] [(0, .kv .bool false)] (Os := []) trivial hE hH (by kernel_rfl) (fun a hE => ?_)
          refine wpFrom_end (by kernel_rfl) ?_
          refine Exit.then_normal (hK12 _ _ ?_)
          refine wp_ret ?_
          refine Exit.then_ret ?_
          cases h
          exact ret1 rfl hE hle hH (by kernel_rfl)
        · replace h := ifN hc h
          have hE := hE.setB 30 (by kernel_rfl) (bf hc)
          refine segO 1 [] [(31, .kv (.ptr 105) r3.1.1)] (Os := []) trivial hE hH (by kernel_rfl) (fun a hE => ?_)
          refine stepBuildS (d := (some 32)) .i [7] hE hH (by kernel_rfl) (by kernel_rfl) (fun a w G hl5 hE hH => ?_)
          have hle := Gh.le_trans hle hl5
          obtain ⟨r13, hr13, h⟩ := bs h
          refine stepCall (d := (some 33)) (f27_ok hr13) hE hH hN (by kernel_rfl) (by kernel_rfl) trivial (fun a w G hl6 hE hH => ?_)
          have hle := Gh.le_trans hle hl6
          refine segO 2 [] [(35, .kv .bool (r13.1 != 0))] (Os := []) trivial hE hH (by kernel_rfl) (fun a hE => ?_)
          refine wpFrom_end (by kernel_rfl) ?_
          refine Exit.then_normal (hK5 _ _ ?_)
          refine condE (b := r13.1 != 0) hE (by kernel_rfl) (fun hc => ?_) (fun hc => ?_)
          · replace h := ifT hc h
            refine wp_seq_k (fun K hK14 => ?_)
            refine wp_region_from ?_
            refine segO 1 [] [(0, .kv .bool false)] (Os := []) trivial hE hH (by kernel_rfl) (fun a hE => ?_)
            refine wpFrom_end (by kernel_rfl) ?_
            refine Exit.then_normal (hK14 _ _ ?_)
            refine wp_ret ?_
            refine Exit.then_ret ?_
            cases h
            exact ret1 rfl hE hle hH (by kernel_rfl)
          · replace h := ifF hc h
            refine wp_skip ?_
            refine Exit.then_normal (hK4 _ _ ?_)
            refine wp_seq_k (fun K hK15 => ?_)
            refine wp_region_from ?_
            refine segO 1 [] [(37, .kv (.ptr 105) r3.1.1)] (Os := []) trivial hE hH (by kernel_rfl) (fun a hE => ?_)
            obtain ⟨r16, hr16, h⟩ := bs h
            refine stepCall (d := (some 38)) (f28_ok hr16) hE hH hN (by kernel_rfl) (by kernel_rfl) trivial (fun a w G hl7 hE hH => ?_)
            have hle := Gh.le_trans hle hl7
            refine segO 5 [] [(3, .kv .str r16.1), (4, .kv .i r16.2)] (Os := []) trivial hE hH (by kernel_rfl) (fun a hE => ?_)
            refine wpFrom_end (by kernel_rfl) ?_
            refine Exit.then_normal (hK15 _ _ ?_)
            refine wp_seq_k (fun K hK17 => ?_)
            refine wp_region_from ?_
            refine segO 7 [] [(47, .kv .bool ((r16.1 == [97, 98, 99, 100, 101]) && (r16.2 == 0)))] (Os := []) trivial hE hH (by kernel_rfl) (fun a hE => ?_)
            by_cases hc : ((r16.1 == [97, 98, 99, 100, 101]) && (r16.2 == 0)) = true
            · replace h := ifT hc h
              have hE := hE.setB 47 (by kernel_rfl) hc
              refine segO 1 [] [(48, .kv (.ptr 105) r3.1.1)] (Os := []) trivial hE hH (by kernel_rfl) (fun a hE => ?_)
              obtain ⟨r18, hr18, h⟩ := bs h
              refine stepCall (d := (some 49)) (f30_ok hr18) hE hH hN (by kernel_rfl) (by kernel_rfl) trivial (fun a w G hl8 hE hH => ?_)
              have hle := Gh.le_trans hle hl8
              refine segO 3 [] [(52, .kv .bool (r18 == 5))] (Os := []) trivial hE hH (by kernel_rfl) (fun a hE => ?_)
              by_cases hc : (r18 == 5) = true
              · replace h := ifT hc h
                have hE := hE.setB 52 (by kernel_rfl) hc
                refine segO 1 [] [(53, .kv (.ptr 105) r3.1.1)] (Os := []) trivial hE hH (by kernel_rfl) (fun a hE => ?_)
                obtain ⟨r19, hr19, h⟩ := bs h
                refine stepCall (d := (some 54)) (f20_ok hr19) hE hH hN (by kernel_rfl) (by kernel_rfl) trivial (fun a w G hl9 hE hH => ?_)
                have hle := Gh.le_trans hle hl9
                refine segO 3 [] [(57, .kv .bool (r19 == 5))] (Os := []) trivial hE hH (by kernel_rfl) (fun a hE => ?_)
                by_cases hc : (r19 == 5) = true
                · replace h := ifT hc h
                  have hE := hE.setB 57 (by kernel_rfl) hc
                  refine segO 1 [] [(58, .kv (.ptr 105) r3.1.1)] (Os := []) trivial hE hH (by kernel_rfl) (fun a hE => ?_)
                  obtain ⟨r20, hr20, h⟩ := bs h
                  refine stepCall (d := (some 59)) (f21_ok hr20) hE hH hN (by kernel_rfl) (by kernel_rfl) trivial (fun a w G hl10 hE hH => ?_)
                  have hle := Gh.le_trans hle hl10
                  refine segO 4 [] [(0, .kv .bool ((r20.length : Int) == 1))] (Os := []) trivial hE hH (by kernel_rfl) (fun a hE => ?_)
                  refine wpFrom_end (by kernel_rfl) ?_
                  refine Exit.then_normal (hK17 _ _ ?_)
                  refine wp_ret ?_
                  cases h
                  exact ret1 rfl hE hle hH (by kernel_rfl)
                · replace h := ifN hc h
                  have hE := hE.setB 57 (by kernel_rfl) (bf hc)
                  refine segO 6 [] [(0, .kv .bool false)] (Os := []) trivial hE hH (by kernel_rfl) (fun a hE => ?_)
                  refine wpFrom_end (by kernel_rfl) ?_
                  refine Exit.then_normal (hK17 _ _ ?_)
                  refine wp_ret ?_
                  cases h
                  exact ret1 rfl hE hle hH (by kernel_rfl)
              · replace h := ifN hc h
                have hE := hE.setB 52 (by kernel_rfl) (bf hc)
                refine segO 11 [] [(0, .kv .bool false)] (Os := []) trivial hE hH (by kernel_rfl) (fun a hE => ?_)
                refine wpFrom_end (by kernel_rfl) ?_
                refine Exit.then_normal (hK17 _ _ ?_)
                refine wp_ret ?_
                cases h
                exact ret1 rfl hE hle hH (by kernel_rfl)
            · replace h := ifN hc h
              have hE := hE.setB 47 (by kernel_rfl) (bf hc)
              refine segO 16 [] [(0, .kv .bool false)] (Os := []) trivial hE hH (by kernel_rfl) (fun a hE => ?_)
              refine wpFrom_end (by kernel_rfl) ?_
              refine Exit.then_normal (hK17 _ _ ?_)
              refine wp_ret ?_
              cases h
              exact ret1 rfl hE hle hH (by kernel_rfl)

def f29 (p0 : List UInt8) (p1 : List UInt8) : Option Bool :=
  if (decide ((p0.length : Int) ≤ (p1.length : Int))) = true then
  if (0 : Int) ≤ (p0.length : Int) ∧ (p0.length : Int) ≤ (p1.length : Int) then
  some (p0 == (p1.take (Int.toNat (p0.length : Int))))
  else none
  else
  some false

theorem f29_ok {p0 : List UInt8} {p1 : List UInt8} {σ : St} {p : Bool} (h : f29 p0 p1 = some p) : Spec Try.prog 29 [.kv .str p0, .kv .str p1] (tabs σ) (.kv .bool p) (tabs σ) := by
  refine Spec.intro Try.func29 (by kernel_rfl) rfl (by kernel_rfl) (fun a w G0 Ls hE hH hN => ?_)
  have hle : G0.le G0 := Gh.le_refl G0
  unfold f29 at h
  refine wp_seq_k (fun K hK1 => ?_)
  refine wp_region_from ?_
  refine segO 1 [] [(4, .kv .bool false)] (Os := []) trivial hE hH (by kernel_rfl) (fun a hE => ?_)
  refine wpFrom_end (by kernel_rfl) ?_
  refine Exit.then_normal (hK1 _ _ ?_)
  refine wp_seq_k (fun K hK2 => ?_)
  refine wp_region_from ?_
  refine segO 6 [] [(10, .kv .bool (decide ((p0.length : Int) ≤ (p1.length : Int))))] (Os := []) trivial hE hH (by kernel_rfl) (fun a hE => ?_)
  by_cases hc : (decide ((p0.length : Int) ≤ (p1.length : Int))) = true
  · replace h := ifT hc h
    have hE := hE.setB 10 (by kernel_rfl) hc
    obtain ⟨q3, h⟩ := gd h
    refine segO 8 [] [(4, .kv .bool (p0 == (p1.take (Int.toNat (p0.length : Int)))))] (Os := [_]) ⟨q3, trivial⟩ hE hH (by kernel_rfl) (fun a hE => ?_)
    refine wpFrom_end (by kernel_rfl) ?_
    refine Exit.then_normal (hK2 _ _ ?_)
    refine wp_ret ?_
    cases h
    exact ret1 rfl hE hle hH (by kernel_rfl)
  · replace h := ifN hc h
    have hE := hE.setB 10 (by kernel_rfl) (bf hc)
    refine segO 8 [] [(4, .kv .bool false)] (Os := []) trivial hE hH (by kernel_rfl) (fun a hE => ?_)
    refine wpFrom_end (by kernel_rfl) ?_
    refine Exit.then_normal (hK2 _ _ ?_)
    refine wp_ret ?_
    cases h
    exact ret1 rfl hE hle hH (by kernel_rfl)

def f23 (p0 : Option Nat) (p1 : Option Nat) (p2 : K31.den) (σ : St) : Option (Bool × St) :=
  (if (p2.1 == 0) = true then
  some (p2.1 == 0)
  else
  if (p2.1 == 1) = true then
  some (p2.1 == 1)
  else
  some (p2.1 == 2) : Option Bool) >>= fun z8 =>
  if z8 = true then
  f24 p0 p2.2.1 p2.2.2.1 σ >>= fun r11 =>
  f63 p1 p2.2.1 p2.2.2.1 r11.2 >>= fun r12 =>
  some (r11.1 == r12.1, r12.2)
  else
  if (p2.1 == 3) = true then
  f33 p0 p2.2.1 σ >>= fun r15 =>
  f64 p1 p2.2.1 r15.2 >>= fun r16 =>
  some (r15.1 == r16.1, r16.2)
  else
  if (p2.1 == 4) = true then
  f35 p0 p2.2.1 p2.2.2.2.2.1 σ >>= fun r19 =>
  f65 p1 p2.2.1 p2.2.2.2.2.1 r19.2 >>= fun r20 =>
  some (r19.1 == r20.1, r20.2)
  else
  if (p2.1 == 5) = true then
  f36 p0 p2.2.1 p2.2.2.2.1 σ >>= fun r23 =>
  f66 p1 p2.2.1 p2.2.2.2.1 r23.2 >>= fun r24 =>
  some (r23.1 == r24.1, r24.2)
  else
  if (p2.1 == 6) = true then
  f37 p0 p2.2.1 σ >>= fun r27 =>
  f67 p1 p2.2.1 r27.2 >>= fun r28 =>
  some (r27.1 == r28.1, r28.2)
  else
  if (p2.1 == 7) = true then
  f32 p0 p2.2.2.2.2.1 σ >>= fun r31 =>
  f68 p1 p2.2.2.2.2.1 r31.2 >>= fun r32 =>
  some (r31.1 == r32.1, r32.2)
  else
  f69 p1 p2.2.2.2.2.2.1 σ >>= fun r34 =>
  f27 p0 p2.2.2.2.2.2.1 r34.2 >>= fun r36 =>
  some (r36.1 == 0, r36.2)

theorem f23_ok {p0 : Option Nat} {p1 : Option Nat} {p2 : K31.den} {σ : St} {p : Bool × St} (h : f23 p0 p1 p2 σ = some p) : Spec Try.prog 23 [.kv (.ptr 105) p0, .kv (.ptr 47) p1, .kv K31 p2] (tabs σ) (.kv .bool p.1) (tabs p.2) := by
  refine Spec.intro Try.func23 (by kernel_rfl) rfl (by kernel_rfl) (fun a w G0 Ls hE hH hN => ?_)
  have hle : G0.le G0 := Gh.le_refl G0
  unfold f23 at h
  refine wp_seq_k (fun K hK1 => ?_)
  refine wp_region_from ?_
  refine stepBox (e := 31) (d := (some 5)) K31 p2 hE hH (by kernel_rfl) (by kernel_rfl) (fun b2 a w G hl1 hE hH => ?_)
  have hle := Gh.le_trans hle hl1
  refine segO 1 [] [(6, .kv .bool false)] (Os := []) trivial hE hH (by kernel_rfl) (fun a hE => ?_)
  refine wpFrom_end (by kernel_rfl) ?_
  refine Exit.then_normal (hK1 _ _ ?_)
  refine wp_seq_k (fun K hK3 => ?_)
  refine wp_seq_k (fun K hK4 => ?_)
  refine wp_region_from ?_
  refine segO 2 [.bx 0 K31 p2] [(8, .kv .i p2.1)] (Os := [_]) ⟨(rfl : (LS.box b2 K31 p2 :: Ls)[0]? = some (LS.box b2 K31 p2)), trivial⟩ hE hH (by kernel_rfl) (fun a hE => ?_)
  refine wpFrom_end (by kernel_rfl) ?_
  refine Exit.then_normal (hK4 _ _ ?_)
  refine wp_block ?_
  refine wp_seq_k (fun K hK5 => ?_)
  refine wp_seq_k (fun K hK6 => ?_)
  refine wp_region_from ?_
  refine segO 2 [] [(9, .kv .bool (p2.1 == 0))] (Os := []) trivial hE hH (by kernel_rfl) (fun a hE => ?_)
  refine wpFrom_end (by kernel_rfl) ?_
  refine Exit.then_normal (hK6 _ _ ?_)
  obtain ⟨z8, hz8, h⟩ := bs h
  refine join_intro (I := fun a w => ∃ (G : Gh), G0.le G ∧ EnvR G 98 a [(0, .kv (.ptr 105) p0), (1, .kv (.ptr 47) p1), (5, .val (.pointer (some ⟨b2, 0, none⟩))), (6, .kv .bool false), (8, .kv .i p2.1), (9, .kv .bool z8)] ∧ Holds w G (tabs σ) (LS.box b2 K31 p2 :: Ls)) trivial ?_ ?_
  · intro a w hI
    obtain ⟨G, hle, hE, hH⟩ := hI
    refine Exit.then_normal (hK5 _ _ ?_)
    refine condE (b := z8) hE (by kernel_rfl) (fun hc => ?_) (fun hc => ?_)
    · replace h := ifT hc h
      refine wp_seq_k (fun K hK10 => ?_)
      obtain ⟨r11, hr11, h⟩ := bs h
      refine region_par 11 [5] [(0, 0), (0, 0), (0, 0), (0, 0), (0, 0), (0, 0), (0, 1), (0, 1), (0, 1), (0, 1), (0, 1)] [.kv (.ptr 105) p0, .val (.pointer (some ⟨b2, 1, none⟩)), .kv .str p2.2.1, .val (.pointer (some ⟨b2, 2, none⟩)), .kv .str p2.2.2.1, .kv .i r11.1, .kv (.ptr 47) p1, .val (.pointer (some ⟨b2, 1, none⟩)), .kv .str p2.2.1, .val (.pointer (some ⟨b2, 2, none⟩)), .kv .str p2.2.2.1] (fun k => match k with | 0 => tabs σ | _ => tabs r11.2) (fun _ => LS.box b2 K31 p2 :: Ls) (by kernel_rfl) (by kernel_rfl) hE hH
              ⟨⟨⟨⟨⟨⟨⟨⟨⟨⟨⟨trivial,
              anyk (fun k => obR [] (Os := []) trivial (by kernel_rfl) (by kernel_rfl))⟩,
              anyk (fun k => obR [] (Os := []) trivial (by kernel_rfl) (by kernel_rfl))⟩,
              one (obR [.bx 0 K31 p2] (Os := [_]) ⟨(rfl : (LS.box b2 K31 p2 :: Ls)[0]? = some (LS.box b2 K31 p2)), trivial⟩ (by kernel_rfl) (by kernel_rfl))⟩,
              anyk (fun k => obR [] (Os := []) trivial (by kernel_rfl) (by kernel_rfl))⟩,
              one (obR [.bx 0 K31 p2] (Os := [_]) ⟨(rfl : (LS.box b2 K31 p2 :: Ls)[0]? = some (LS.box b2 K31 p2)), trivial⟩ (by kernel_rfl) (by kernel_rfl))⟩,
              one (obC (k := 0) (d := (some 18)) (f24_ok hr11) rfl (NoHole.cons (fun _ _ _ => rfl) hN) (by kernel_rfl) (by kernel_rfl) rfl trivial)⟩,
              anyk (fun k => obR [] (Os := []) trivial (by kernel_rfl) (by kernel_rfl))⟩,
              anyk (fun k => obR [] (Os := []) trivial (by kernel_rfl) (by kernel_rfl))⟩,
              two (obR [.bx 0 K31 p2] (Os := [_]) ⟨(rfl : (LS.box b2 K31 p2 :: Ls)[0]? = some (LS.box b2 K31 p2)), trivial⟩ (by kernel_rfl) (by kernel_rfl)) (obR [.bx 0 K31 p2] (Os := [_]) ⟨(rfl : (LS.box b2 K31 p2 :: Ls)[0]? = some (LS.box b2 K31 p2)), trivial⟩ (by kernel_rfl) (by kernel_rfl))⟩,
              anyk (fun k => obR [] (Os := []) trivial (by kernel_rfl) (by kernel_rfl))⟩,
              two (obR [.bx 0 K31 p2] (Os := [_]) ⟨(rfl : (LS.box b2 K31 p2 :: Ls)[0]? = some (LS.box b2 K31 p2)), trivial⟩ (by kernel_rfl) (by kernel_rfl)) (obR [.bx 0 K31 p2] (Os := [_]) ⟨(rfl : (LS.box b2 K31 p2 :: Ls)[0]? = some (LS.box b2 K31 p2)), trivial⟩ (by kernel_rfl) (by kernel_rfl))⟩ (fun a w G hl3 hE hH => ?_)
      have hle := Gh.le_trans hle hl3
      obtain ⟨r12, hr12, h⟩ := bs h
      refine stepCall (d := (some 24)) (f63_ok hr12) hE hH (NoHole.cons (fun _ _ _ => rfl) hN) (by kernel_rfl) (by kernel_rfl) trivial (fun a w G hl4 hE hH => ?_)
      have hle := Gh.le_trans hle hl4
      refine segO 2 [] [(6, .kv .bool (r11.1 == r12.1))] (Os := []) trivial hE hH (by kernel_rfl) (fun a hE => ?_)
      refine wpFrom_end (by kernel_rfl) ?_
      refine Exit.then_normal (hK10 _ _ ?_)
      refine wp_ret ?_
      refine Exit.in_ret ?_
      refine Exit.then_ret ?_
      have hH := hH.drop (fun _ _ _ => rfl)
      cases h
      exact ret1 rfl hE hle hH (by kernel_rfl)
    · replace h := ifF hc h
      refine wp_seq_k (fun K hK13 => ?_)
      refine wp_region_from ?_
      refine segO 2 [] [(26, .kv .bool (p2.1 == 3))] (Os := []) trivial hE hH (by kernel_rfl) (fun a hE => ?_)
      refine wpFrom_end (by kernel_rfl) ?_
      refine Exit.then_normal (hK13 _ _ ?_)
      refine condE (b := p2.1 == 3) hE (by kernel_rfl) (fun hc => ?_) (fun hc => ?_)
      · replace h := ifT hc h
        refine wp_seq_k (fun K hK14 => ?_)
        obtain ⟨r15, hr15, h⟩ := bs h
        refine region_par 7 [3] [(0, 0), (0, 0), (0, 0), (0, 0), (0, 1), (0, 1), (0, 1)] [.kv (.ptr 105) p0, .val (.pointer (some ⟨b2, 1, none⟩)), .kv .str p2.2.1, .kv .i r15.1, .kv (.ptr 47) p1, .val (.pointer (some ⟨b2, 1, none⟩)), .kv .str p2.2.1] (fun k => match k with | 0 => tabs σ | _ => tabs r15.2) (fun _ => LS.box b2 K31 p2 :: Ls) (by kernel_rfl) (by kernel_rfl) hE hH
                ⟨⟨⟨⟨⟨⟨⟨trivial,
                anyk (fun k => obR [] (Os := []) trivial (by kernel_rfl) (by kernel_rfl))⟩,
                anyk (fun k => obR [] (Os := []) trivial (by kernel_rfl) (by kernel_rfl))⟩,
                one (obR [.bx 0 K31 p2] (Os := [_]) ⟨(rfl : (LS.box b2 K31 p2 :: Ls)[0]? = some (LS.box b2 K31 p2)), trivial⟩ (by kernel_rfl) (by kernel_rfl))⟩,
                one (obC (k := 0) (d := (some 31)) (f33_ok hr15) rfl (NoHole.cons (fun _ _ _ => rfl) hN) (by kernel_rfl) (by kernel_rfl) rfl trivial)⟩,
                anyk (fun k => obR [] (Os := []) trivial (by kernel_rfl) (by kernel_rfl))⟩,
                anyk (fun k => obR [] (Os := []) trivial (by kernel_rfl) (by kernel_rfl))⟩,
                two (obR [.bx 0 K31 p2] (Os := [_]) ⟨(rfl : (LS.box b2 K31 p2 :: Ls)[0]? = some (LS.box b2 K31 p2)), trivial⟩ (by kernel_rfl) (by kernel_rfl)) (obR [.bx 0 K31 p2] (Os := [_]) ⟨(rfl : (LS.box b2 K31 p2 :: Ls)[0]? = some (LS.box b2 K31 p2)), trivial⟩ (by kernel_rfl) (by kernel_rfl))⟩ (fun a w G hl5 hE hH => ?_)
        have hle := Gh.le_trans hle hl5
        obtain ⟨r16, hr16, h⟩ := bs h
        refine stepCall (d := (some 35)) (f64_ok hr16) hE hH (NoHole.cons (fun _ _ _ => rfl) hN) (by kernel_rfl) (by kernel_rfl) trivial (fun a w G hl6 hE hH => ?_)
        have hle := Gh.le_trans hle hl6
        refine segO 2 [] [(6, .kv .bool (r15.1 == r16.1))] (Os := []) trivial hE hH (by kernel_rfl) (fun a hE => ?_)
        refine wpFrom_end (by kernel_rfl) ?_
        refine Exit.then_normal (hK14 _ _ ?_)
        refine wp_ret ?_
        refine Exit.in_ret ?_
        refine Exit.then_ret ?_
        have hH := hH.drop (fun _ _ _ => rfl)
        cases h
        exact ret1 rfl hE hle hH (by kernel_rfl)
      · replace h := ifF hc h
        refine wp_seq_k (fun K hK17 => ?_)
        refine wp_region_from ?_
        refine segO 2 [] [(37, .kv .bool (p2.1 == 4))] (Os := []) trivial hE hH (by kernel_rfl) (fun a hE => ?_)
        refine wpFrom_end (by kernel_rfl) ?_
        refine Exit.then_normal (hK17 _ _ ?_)
        refine condE (b := p2.1 == 4) hE (by kernel_rfl) (fun hc => ?_) (fun hc => ?_)
        · replace h := ifT hc h
          refine wp_seq_k (fun K hK18 => ?_)
          obtain ⟨r19, hr19, h⟩ := bs h
          refine region_par 11 [5] [(0, 0), (0, 0), (0, 0), (0, 0), (0, 0), (0, 0), (0, 1), (0, 1), (0, 1), (0, 1), (0, 1)] [.kv (.ptr 105) p0, .val (.pointer (some ⟨b2, 1, none⟩)), .kv .str p2.2.1, .val (.pointer (some ⟨b2, 4, none⟩)), .kv .i p2.2.2.2.2.1, .kv .i r19.1, .kv (.ptr 47) p1, .val (.pointer (some ⟨b2, 1, none⟩)), .kv .str p2.2.1, .val (.pointer (some ⟨b2, 4, none⟩)), .kv .i p2.2.2.2.2.1] (fun k => match k with | 0 => tabs σ | _ => tabs r19.2) (fun _ => LS.box b2 K31 p2 :: Ls) (by kernel_rfl) (by kernel_rfl) hE hH
                  ⟨⟨⟨⟨⟨⟨⟨⟨⟨⟨⟨trivial,
                  anyk (fun k => obR [] (Os := []) trivial (by kernel_rfl) (by kernel_rfl))⟩,
                  anyk (fun k => obR [] (Os := []) trivial (by kernel_rfl) (by kernel_rfl))⟩,
                  one (obR [.bx 0 K31 p2] (Os := [_]) ⟨(rfl : (LS.box b2 K31 p2 :: Ls)[0]? = some (LS.box b2 K31 p2)), trivial⟩ (by kernel_rfl) (by kernel_rfl))⟩,
                  anyk (fun k => obR [] (Os := []) trivial (by kernel_rfl) (by kernel_rfl))⟩,
                  one (obR [.bx 0 K31 p2] (Os := [_]) ⟨(rfl : (LS.box b2 K31 p2 :: Ls)[0]? = some (LS.box b2 K31 p2)), trivial⟩ (by kernel_rfl) (by kernel_rfl))⟩,
                  one (obC (k := 0) (d := (some 44)) (f35_ok hr19) rfl (NoHole.cons (fun _ _ _ => rfl) hN) (by kernel_rfl) (by kernel_rfl) rfl trivial)⟩,
                  anyk (fun k => obR [] (Os := []) trivial (by kernel_rfl) (by kernel_rfl))⟩,
                  anyk (fun k => obR [] (Os := []) trivial (by kernel_rfl) (by kernel_rfl))⟩,
                  two (obR [.bx 0 K31 p2] (Os := [_]) ⟨(rfl : (LS.box b2 K31 p2 :: Ls)[0]? = some (LS.box b2 K31 p2)), trivial⟩ (by kernel_rfl) (by kernel_rfl)) (obR [.bx 0 K31 p2] (Os := [_]) ⟨(rfl : (LS.box b2 K31 p2 :: Ls)[0]? = some (LS.box b2 K31 p2)), trivial⟩ (by kernel_rfl) (by kernel_rfl))⟩,
                  anyk (fun k => obR [] (Os := []) trivial (by kernel_rfl) (by kernel_rfl))⟩,
                  two (obR [.bx 0 K31 p2] (Os := [_]) ⟨(rfl : (LS.box b2 K31 p2 :: Ls)[0]? = some (LS.box b2 K31 p2)), trivial⟩ (by kernel_rfl) (by kernel_rfl)) (obR [.bx 0 K31 p2] (Os := [_]) ⟨(rfl : (LS.box b2 K31 p2 :: Ls)[0]? = some (LS.box b2 K31 p2)), trivial⟩ (by kernel_rfl) (by kernel_rfl))⟩ (fun a w G hl7 hE hH => ?_)
          have hle := Gh.le_trans hle hl7
          obtain ⟨r20, hr20, h⟩ := bs h
          refine stepCall (d := (some 50)) (f65_ok hr20) hE hH (NoHole.cons (fun _ _ _ => rfl) hN) (by kernel_rfl) (by kernel_rfl) trivial (fun a w G hl8 hE hH => ?_)
          have hle := Gh.le_trans hle hl8
          refine segO 2 [] [(6, .kv .bool (r19.1 == r20.1))] (Os := []) trivial hE hH (by kernel_rfl) (fun a hE => ?_)
          refine wpFrom_end (by kernel_rfl) ?_
          refine Exit.then_normal (hK18 _ _ ?_)
          refine wp_ret ?_
          refine Exit.in_ret ?_
          refine Exit.then_ret ?_
          have hH := hH.drop (fun _ _ _ => rfl)
          cases h
          exact ret1 rfl hE hle hH (by kernel_rfl)
        · replace h := ifF hc h
          refine wp_seq_k (fun K hK21 => ?_)
          refine wp_region_from ?_
          refine segO 2 [] [(52, .kv .bool (p2.1 == 5))] (Os := []) trivial hE hH (by kernel_rfl) (fun a hE => ?_)
          refine wpFrom_end (by kernel_rfl) ?_
          refine Exit.then_normal (hK21 _ _ ?_)
          refine condE (b := p2.1 == 5) hE (by kernel_rfl) (fun hc => ?_) (fun hc => ?_)
          · replace h := ifT hc h
            refine wp_seq_k (fun K hK22 => ?_)
            obtain ⟨r23, hr23, h⟩ := bs h
            refine region_par 11 [5] [(0, 0), (0, 0), (0, 0), (0, 0), (0, 0), (0, 0), (0, 1), (0, 1), (0, 1), (0, 1), (0, 1)] [.kv (.ptr 105) p0, .val (.pointer (some ⟨b2, 1, none⟩)), .kv .str p2.2.1, .val (.pointer (some ⟨b2, 3, none⟩)), .kv .str p2.2.2.2.1, .kv .i r23.1, .kv (.ptr 47) p1, .val (.pointer (some ⟨b2, 1, none⟩)), .kv .str p2.2.1, .val (.pointer (some ⟨b2, 3, none⟩)), .kv .str p2.2.2.2.1] (fun k => match k with | 0 => tabs σ | _ => tabs r23.2) (fun _ => LS.box b2 K31 p2 :: Ls) (by kernel_rfl) (by kernel_rfl) hE hH
                    ⟨⟨⟨⟨⟨⟨⟨⟨⟨⟨⟨trivial,
                    anyk (fun k => obR [] (Os := []) trivial (by kernel_rfl) (by kernel_rfl))⟩,
                    anyk (fun k => obR [] (Os := []) trivial (by kernel_rfl) (by kernel_rfl))⟩,
                    one (obR [.bx 0 K31 p2] (Os := [_]) ⟨(rfl : (LS.box b2 K31 p2 :: Ls)[0]? = some (LS.box b2 K31 p2)), trivial⟩ (by kernel_rfl) (by kernel_rfl))⟩,
                    anyk (fun k => obR [] (Os := []) trivial (by kernel_rfl) (by kernel_rfl))⟩,
                    one (obR [.bx 0 K31 p2] (Os := [_]) ⟨(rfl : (LS.box b2 K31 p2 :: Ls)[0]? = some (LS.box b2 K31 p2)), trivial⟩ (by kernel_rfl) (by kernel_rfl))⟩,
                    one (obC (k := 0) (d := (some 59)) (f36_ok hr23) rfl (NoHole.cons (fun _ _ _ => rfl) hN) (by kernel_rfl) (by kernel_rfl) rfl trivial)⟩,
                    anyk (fun k => obR [] (Os := []) trivial (by kernel_rfl) (by kernel_rfl))⟩,
                    anyk (fun k => obR [] (Os := []) trivial (by kernel_rfl) (by kernel_rfl))⟩,
                    two (obR [.bx 0 K31 p2] (Os := [_]) ⟨(rfl : (LS.box b2 K31 p2 :: Ls)[0]? = some (LS.box b2 K31 p2)), trivial⟩ (by kernel_rfl) (by kernel_rfl)) (obR [.bx 0 K31 p2] (Os := [_]) ⟨(rfl : (LS.box b2 K31 p2 :: Ls)[0]? = some (LS.box b2 K31 p2)), trivial⟩ (by kernel_rfl) (by kernel_rfl))⟩,
                    anyk (fun k => obR [] (Os := []) trivial (by kernel_rfl) (by kernel_rfl))⟩,
                    two (obR [.bx 0 K31 p2] (Os := [_]) ⟨(rfl : (LS.box b2 K31 p2 :: Ls)[0]? = some (LS.box b2 K31 p2)), trivial⟩ (by kernel_rfl) (by kernel_rfl)) (obR [.bx 0 K31 p2] (Os := [_]) ⟨(rfl : (LS.box b2 K31 p2 :: Ls)[0]? = some (LS.box b2 K31 p2)), trivial⟩ (by kernel_rfl) (by kernel_rfl))⟩ (fun a w G hl9 hE hH => ?_)
            have hle := Gh.le_trans hle hl9
            obtain ⟨r24, hr24, h⟩ := bs h
            refine stepCall (d := (some 65)) (f66_ok hr24) hE hH (NoHole.cons (fun _ _ _ => rfl) hN) (by kernel_rfl) (by kernel_rfl) trivial (fun a w G hl10 hE hH => ?_)
            have hle := Gh.le_trans hle hl10
            refine segO 2 [] [(6, .kv .bool (r23.1 == r24.1))] (Os := []) trivial hE hH (by kernel_rfl) (fun a hE => ?_)
            refine wpFrom_end (by kernel_rfl) ?_
            refine Exit.then_normal (hK22 _ _ ?_)
            refine wp_ret ?_
            refine Exit.in_ret ?_
            refine Exit.then_ret ?_
            have hH := hH.drop (fun _ _ _ => rfl)
            cases h
            exact ret1 rfl hE hle hH (by kernel_rfl)
          · replace h := ifF hc h
            refine wp_seq_k (fun K hK25 => ?_)
            refine wp_region_from ?_
            refine segO 2 [] [(67, .kv .bool (p2.1 == 6))] (Os := []) trivial hE hH (by kernel_rfl) (fun a hE => ?_)
            refine wpFrom_end (by kernel_rfl) ?_
            refine Exit.then_normal (hK25 _ _ ?_)
            refine condE (b := p2.1 == 6) hE (by kernel_rfl) (fun hc => ?_) (fun hc => ?_)
            · replace h := ifT hc h
              refine wp_seq_k (fun K hK26 => ?_)
              obtain ⟨r27, hr27, h⟩ := bs h
              refine region_par 7 [3] [(0, 0), (0, 0), (0, 0), (0, 0), (0, 1), (0, 1), (0, 1)] [.kv (.ptr 105) p0, .val (.pointer (some ⟨b2, 1, none⟩)), .kv .str p2.2.1, .kv .i r27.1, .kv (.ptr 47) p1, .val (.pointer (some ⟨b2, 1, none⟩)), .kv .str p2.2.1] (fun k => match k with | 0 => tabs σ | _ => tabs r27.2) (fun _ => LS.box b2 K31 p2 :: Ls) (by kernel_rfl) (by kernel_rfl) hE hH
                      ⟨⟨⟨⟨⟨⟨⟨trivial,
                      anyk (fun k => obR [] (Os := []) trivial (by kernel_rfl) (by kernel_rfl))⟩,
                      anyk (fun k => obR [] (Os := []) trivial (by kernel_rfl) (by kernel_rfl))⟩,
                      one (obR [.bx 0 K31 p2] (Os := [_]) ⟨(rfl : (LS.box b2 K31 p2 :: Ls)[0]? = some (LS.box b2 K31 p2)), trivial⟩ (by kernel_rfl) (by kernel_rfl))⟩,
                      one (obC (k := 0) (d := (some 72)) (f37_ok hr27) rfl (NoHole.cons (fun _ _ _ => rfl) hN) (by kernel_rfl) (by kernel_rfl) rfl trivial)⟩,
                      anyk (fun k => obR [] (Os := []) trivial (by kernel_rfl) (by kernel_rfl))⟩,
                      anyk (fun k => obR [] (Os := []) trivial (by kernel_rfl) (by kernel_rfl))⟩,
                      two (obR [.bx 0 K31 p2] (Os := [_]) ⟨(rfl : (LS.box b2 K31 p2 :: Ls)[0]? = some (LS.box b2 K31 p2)), trivial⟩ (by kernel_rfl) (by kernel_rfl)) (obR [.bx 0 K31 p2] (Os := [_]) ⟨(rfl : (LS.box b2 K31 p2 :: Ls)[0]? = some (LS.box b2 K31 p2)), trivial⟩ (by kernel_rfl) (by kernel_rfl))⟩ (fun a w G hl11 hE hH => ?_)
              have hle := Gh.le_trans hle hl11
              obtain ⟨r28, hr28, h⟩ := bs h
              refine stepCall (d := (some 76)) (f67_ok hr28) hE hH (NoHole.cons (fun _ _ _ => rfl) hN) (by kernel_rfl) (by kernel_rfl) trivial (fun a w G hl12 hE hH => ?_)
              have hle := Gh.le_trans hle hl12
              refine segO 2 [] [(6, .kv .bool (r27.1 == r28.1))] (Os := []) trivial hE hH (by kernel_rfl) (fun a hE => ?_)
              refine wpFrom_end (by kernel_rfl) ?_
              refine Exit.then_normal (hK26 _ _ ?_)
              refine wp_ret ?_
              refine Exit.in_ret ?_
              refine Exit.then_ret ?_
              have hH := hH.drop (fun _ _ _ => rfl)
              cases h
              exact ret1 rfl hE hle hH (by kernel_rfl)
            · replace h := ifF hc h
              refine wp_seq_k (fun K hK29 => ?_)
              refine wp_region_from ?_
              refine segO 2 [] [(78, .kv .bool (p2.1 == 7))] (Os := []) trivial hE hH (by kernel_rfl) (fun a hE => ?_)
              refine wpFrom_end (by kernel_rfl) ?_
              refine Exit.then_normal (hK29 _ _ ?_)
              refine condE (b := p2.1 == 7) hE (by kernel_rfl) (fun hc => ?_) (fun hc => ?_)
              · replace h := ifT hc h
                refine wp_seq_k (fun K hK30 => ?_)
                obtain ⟨r31, hr31, h⟩ := bs h
                refine region_par 7 [3] [(0, 0), (0, 0), (0, 0), (0, 0), (0, 1), (0, 1), (0, 1)] [.kv (.ptr 105) p0, .val (.pointer (some ⟨b2, 4, none⟩)), .kv .i p2.2.2.2.2.1, .kv .i r31.1, .kv (.ptr 47) p1, .val (.pointer (some ⟨b2, 4, none⟩)), .kv .i p2.2.2.2.2.1] (fun k => match k with | 0 => tabs σ | _ => tabs r31.2) (fun _ => LS.box b2 K31 p2 :: Ls) (by kernel_rfl) (by kernel_rfl) hE hH
                        ⟨⟨⟨⟨⟨⟨⟨trivial,
                        anyk (fun k => obR [] (Os := []) trivial (by kernel_rfl) (by kernel_rfl))⟩,
                        anyk (fun k => obR [] (Os := []) trivial (by kernel_rfl) (by kernel_rfl))⟩,
                        one (obR [.bx 0 K31 p2] (Os := [_]) ⟨(rfl : (LS.box b2 K31 p2 :: Ls)[0]? = some (LS.box b2 K31 p2)), trivial⟩ (by kernel_rfl) (by kernel_rfl))⟩,
                        one (obC (k := 0) (d := (some 83)) (f32_ok hr31) rfl (NoHole.cons (fun _ _ _ => rfl) hN) (by kernel_rfl) (by kernel_rfl) rfl trivial)⟩,
                        anyk (fun k => obR [] (Os := []) trivial (by kernel_rfl) (by kernel_rfl))⟩,
                        anyk (fun k => obR [] (Os := []) trivial (by kernel_rfl) (by kernel_rfl))⟩,
                        two (obR [.bx 0 K31 p2] (Os := [_]) ⟨(rfl : (LS.box b2 K31 p2 :: Ls)[0]? = some (LS.box b2 K31 p2)), trivial⟩ (by kernel_rfl) (by kernel_rfl)) (obR [.bx 0 K31 p2] (Os := [_]) ⟨(rfl : (LS.box b2 K31 p2 :: Ls)[0]? = some (LS.box b2 K31 p2)), trivial⟩ (by kernel_rfl) (by kernel_rfl))⟩ (fun a w G hl13 hE hH => ?_)
                have hle := Gh.le_trans hle hl13
                obtain ⟨r32, hr32, h⟩ := bs h
                refine stepCall (d := (some 87)) (f68_ok hr32) hE hH (NoHole.cons (fun _ _ _ => rfl) hN) (by kernel_rfl) (by kernel_rfl) trivial (fun a w G hl14 hE hH => ?_)
                have hle := Gh.le_trans hle hl14
                refine segO 2 [] [(6, .kv .bool (r31.1 == r32.1))] (Os := []) trivial hE hH (by kernel_rfl) (fun a hE => ?_)
                refine wpFrom_end (by kernel_rfl) ?_
                refine Exit.then_normal (hK30 _ _ ?_)
                refine wp_ret ?_
                refine Exit.in_ret ?_
                refine Exit.then_ret ?_
                have hH := hH.drop (fun _ _ _ => rfl)
                cases h
                exact ret1 rfl hE hle hH (by kernel_rfl)
              · replace h := ifF hc h
                refine wp_skip ?_
                refine Exit.in_normal ?_
                refine Exit.then_normal (hK3 _ _ ?_)
                refine wp_seq_k (fun K hK33 => ?_)
                refine wp_region_from ?_
                refine segO 3 [.bx 0 K31 p2] [(89, .kv (.ptr 47) p1), (91, .kv (.list .i) p2.2.2.2.2.2.1)] (Os := [_]) ⟨(rfl : (LS.box b2 K31 p2 :: Ls)[0]? = some (LS.box b2 K31 p2)), trivial⟩ hE hH (by kernel_rfl) (fun a hE => ?_)
                obtain ⟨r34, hr34, h⟩ := bs h
                refine stepCall (d := (some 92)) (f69_ok hr34) hE hH (NoHole.cons (fun _ _ _ => rfl) hN) (by kernel_rfl) (by kernel_rfl) trivial (fun a w G hl15 hE hH => ?_)
                have hle := Gh.le_trans hle hl15
                refine wpFrom_end (by kernel_rfl) ?_
                refine Exit.then_normal (hK33 _ _ ?_)
                refine wp_seq_k (fun K hK35 => ?_)
                refine wp_region_from ?_
                refine segO 3 [.bx 0 K31 p2] [(93, .kv (.ptr 105) p0), (95, .kv (.list .i) p2.2.2.2.2.2.1)] (Os := [_]) ⟨(rfl : (LS.box b2 K31 p2 :: Ls)[0]? = some (LS.box b2 K31 p2)), trivial⟩ hE hH (by kernel_rfl) (fun a hE => ?_)
                obtain ⟨r36, hr36, h⟩ := bs h
                refine stepCall (d := (some 96)) (f27_ok hr36) hE hH (NoHole.cons (fun _ _ _ => rfl) hN) (by kernel_rfl) (by kernel_rfl) trivial (fun a w G hl16 hE hH => ?_)
                have hle := Gh.le_trans hle hl16
                refine segO 2 [] [(6, .kv .bool (r36.1 == 0))] (Os := []) trivial hE hH (by kernel_rfl) (fun a hE => ?_)
                refine wpFrom_end (by kernel_rfl) ?_
                refine Exit.then_normal (hK35 _ _ ?_)
                refine wp_ret ?_
                have hH := hH.drop (fun _ _ _ => rfl)
                cases h
                exact ret1 rfl hE hle hH (by kernel_rfl)
  · intro KK hKK ho
    have hj9 : ∀ (a : Act) (w : World) (G : Gh), G0.le G → EnvR G 98 a [(0, .kv (.ptr 105) p0), (1, .kv (.ptr 47) p1), (5, .val (.pointer (some ⟨b2, 0, none⟩))), (6, .kv .bool false), (8, .kv .i p2.1), (9, .kv .bool z8)] → Holds w G (tabs σ) (LS.box b2 K31 p2 :: Ls) → KK .normal a w := fun a w G  h1 h2 h3 => hKK a w ⟨G, h1, h2, h3⟩
    replace h := hz8
    refine condE (b := p2.1 == 0) hE (by kernel_rfl) (fun hc => ?_) (fun hc => ?_)
    · replace h := ifT hc h
      refine wp_skip ?_
      cases h
      exact hj9 _ _ _  hle (hE.subC (by kernel_rfl)) hH
    · replace h := ifF hc h
      refine wp_seq_k (fun K hK37 => ?_)
      refine wp_region_from ?_
      refine segO 2 [] [(9, .kv .bool (p2.1 == 1))] (Os := []) trivial hE hH (by kernel_rfl) (fun a hE => ?_)
      refine wpFrom_end (by kernel_rfl) ?_
      refine Exit.then_normal (hK37 _ _ ?_)
      refine condE (b := p2.1 == 1) hE (by kernel_rfl) (fun hc => ?_) (fun hc => ?_)
      · replace h := ifT hc h
        refine wp_skip ?_
        cases h
        exact hj9 _ _ _  hle (hE.subC (by kernel_rfl)) hH
      · replace h := ifF hc h
        refine wp_region_from ?_
        refine segO 2 [] [(9, .kv .bool (p2.1 == 2))] (Os := []) trivial hE hH (by kernel_rfl) (fun a hE => ?_)
        refine wpFrom_end (by kernel_rfl) ?_
        cases h
        exact hj9 _ _ _  hle (hE.subC (by kernel_rfl)) hH
end Go.Proofs.Ytlfemhkabjafeaa.M

/- Printed by own program: twins and walks. -/
set_option linter.unusedVariables false
set_option maxRecDepth 100000
namespace Go.Proofs.Ytlfemhkabjafeaa.M
open Go.Proofs (Try.prog Try.func82 Try.f82 Try.func88 Try.f88 Try.func83 Try.f83 Try.func38 Try.f38 Try.func107 Try.f107 Try.func91 Try.f91 Try.func85 Try.f85)

def f82_l0 (p0 : List UInt8) (x4 : Int) : Option (Sum Int Bool) :=
  if (decide (x4 < (p0.length : Int))) = true then
  if (0 : Int) ≤ x4 ∧ x4 < (p0.length : Int) then
  if (decide ((btS p0 x4) < 97)) = true then
  some (.inr false)
  else
  if (0 : Int) ≤ x4 ∧ x4 < (p0.length : Int) then
  if (decide ((btS p0 x4) > 122)) = true then
  some (.inr false)
  else
  f82_l0 p0 (IntKind.wrap .i64 (x4 + 1))
  else none
  else none
  else
  some (.inl x4)
  partial_fixpoint

def f82 (p0 : List UInt8) : Option Bool :=
  f82_l0 p0 0 >>= fun rr19 => (match rr19 with
  | .inr yy => some yy
  | .inl z18 =>
  some ((decide ((p0.length : Int) ≥ 1)) && (decide ((p0.length : Int) ≤ 8))))

theorem f82_ok {p0 : List UInt8} {σ : St} {p : Bool} (h : f82 p0 = some p) : Spec Try.prog 82 [.kv .str p0] (tabs σ) (.kv .bool p) (tabs σ) := by
  refine Spec.intro Try.func82 (by kernel_rfl) rfl (by kernel_rfl) (fun a w G0 Ls hE hH hN => ?_)
  have hle : G0.le G0 := Gh.le_refl G0
  unfold f82 at h
  refine wp_seq_k (fun K hK1 => ?_)
  refine wp_region_from ?_
  refine segO 1 [] [(2, .kv .bool false)] (Os := []) trivial hE hH (by kernel_rfl) (fun a hE => ?_)
  refine wpFrom_end (by kernel_rfl) ?_
  refine Exit.then_normal (hK1 _ _ ?_)
  refine wp_seq_k (fun K hK2 => ?_)
  refine wp_seq_k (fun K hK3 => ?_)
  refine wp_region_from ?_
  refine segO 3 [] [(5, .kv .i (p0.length : Int)), (6, .kv .i 0)] (Os := []) trivial hE hH (by kernel_rfl) (fun a hE => ?_)
  refine wpFrom_end (by kernel_rfl) ?_
  refine Exit.then_normal (hK3 _ _ ?_)
  refine wp_block ?_
  obtain ⟨rr19, hrr19, h⟩ := bs h
  refine loop_intro (fun Q5 c hQ hc => ?_)
  have key : ∀ (x4 : Int) (rr : Sum Int Bool), f82_l0 p0 x4 = some rr → ∀ (a : Act) (w : World) (G : Gh), G0.le G → EnvR G 28 a [(0, .kv .str p0), (2, .kv .bool false), (5, .kv .i (p0.length : Int)), (6, .kv .i x4)] → Holds w G (tabs σ) (Ls) → (∀ z18 : Int, rr = .inl z18 → ∀ (a : Act) (w : World) (G : Gh), G0.le G → EnvR G 28 a [(0, .kv .str p0), (2, .kv .bool false), (5, .kv .i (p0.length : Int)), (6, .kv .i z18)] → Holds w G (tabs σ) (Ls) → Q5 (.exit 0) a w) → (∀ yy : Bool, rr = .inr yy → ∀ (a : Act) (w : World), PostB Try.prog Try.f82 G0 (.kv .bool yy) (tabs σ) Ls .ret a w → Q5 .ret a w) → Rnd Try.prog c Q5 a w := by
    refine f82_l0.partial_correctness p0 _ ?_
    intro self ih8 x4 rr h a w G  hle hE hH hx6 hret7
    refine rnd_step' hc ?_
    refine wp_seq_k (fun K hK9 => ?_)
    refine wp_region_from ?_
    refine segO 1 [] [(7, .kv .bool (decide (x4 < (p0.length : Int))))] (Os := []) trivial hE hH (by kernel_rfl) (fun a hE => ?_)
    refine wpFrom_end (by kernel_rfl) ?_
    refine Exit.then_normal (hK9 _ _ ?_)
    refine wp_seq_k (fun K hK10 => ?_)
    refine condE (b := decide (x4 < (p0.length : Int))) hE (by kernel_rfl) (fun hc => ?_) (fun hc => ?_)
    · replace h := ifT hc h
      refine wp_skip ?_
      refine Exit.then_normal (hK10 _ _ ?_)
      refine wp_seq_k (fun K hK11 => ?_)
      refine wp_block ?_
      refine wp_seq_k (fun K hK12 => ?_)
      refine wp_region_from ?_
      refine segO 2 [] [(3, .kv .i x4)] (Os := []) trivial hE hH (by kernel_rfl) (fun a hE => ?_)
      refine wpFrom_end (by kernel_rfl) ?_
      refine Exit.then_normal (hK12 _ _ ?_)
      refine wp_seq_k (fun K hK13 => ?_)
      refine wp_region_from ?_
      obtain ⟨q14, h⟩ := gd h
      refine segO 5 [] [(13, .kv .bool (decide ((btS p0 x4) < 97)))] (Os := [_]) ⟨q14, trivial⟩ hE hH (by kernel_rfl) (fun a hE => ?_)
      by_cases hc : (decide ((btS p0 x4) < 97)) = true
      · replace h := ifT hc h
        have hE := hE.setB 13 (by kernel_rfl) hc
        refine segO 5 [] [(18, .kv .bool true)] (Os := []) trivial hE hH (by kernel_rfl) (fun a hE => ?_)
        refine wpFrom_end (by kernel_rfl) ?_
        refine Exit.then_normal (hK13 _ _ ?_)
        refine condT hE (by kernel_rfl) rfl ?_
        refine wp_seq_k (fun K hK15 => ?_)
        refine wp_region_from ?_
        refine segO 1 [] [(2, .kv .bool false)] (Os := []) trivial hE hH (by kernel_rfl) (fun a hE => ?_)
        refine wpFrom_end (by kernel_rfl) ?_
        refine Exit.then_normal (hK15 _ _ ?_)
        refine wp_ret ?_
        refine Exit.in_ret ?_
        refine Exit.then_ret ?_
        refine Exit.then_ret ?_
        cases h
        exact hret7 _ rfl _ _ (ret1 rfl hE hle hH (by kernel_rfl))
      · replace h := ifN hc h
        have hE := hE.setB 13 (by kernel_rfl) (bf hc)
        obtain ⟨q16, h⟩ := gd h
        refine segO 5 [] [(18, .kv .bool (decide ((btS p0 x4) > 122)))] (Os := [_]) ⟨q16, trivial⟩ hE hH (by kernel_rfl) (fun a hE => ?_)
        refine wpFrom_end (by kernel_rfl) ?_
        refine Exit.then_normal (hK13 _ _ ?_)
        refine condE (b := decide ((btS p0 x4) > 122)) hE (by kernel_rfl) (fun hc => ?_) (fun hc => ?_)
        · replace h := ifT hc h
          refine wp_seq_k (fun K hK17 => ?_)
          refine wp_region_from ?_
          refine segO 1 [] [(2, .kv .bool false)] (Os := []) trivial hE hH (by kernel_rfl) (fun a hE => ?_)
          refine wpFrom_end (by kernel_rfl) ?_
          refine Exit.then_normal (hK17 _ _ ?_)
          refine wp_ret ?_
          refine Exit.in_ret ?_
          refine Exit.then_ret ?_
          refine Exit.then_ret ?_
          cases h
          exact hret7 _ rfl _ _ (ret1 rfl hE hle hH (by kernel_rfl))
        · replace h := ifF hc h
          refine wp_skip ?_
          refine Exit.in_normal ?_
          refine Exit.then_normal (hK11 _ _ ?_)
          refine wp_region_from ?_
          refine segO 2 [] [(6, .kv .i (IntKind.wrap .i64 (x4 + 1)))] (Os := []) trivial hE hH (by kernel_rfl) (fun a hE => ?_)
          refine wpFrom_end (by kernel_rfl) ?_
          refine Exit.then_normal ?_
          exact ih8 _ _ h _ _ _  hle (hE.subC (by kernel_rfl)) hH hx6 hret7
    · replace h := ifF hc h
      refine wp_exit ?_
      refine Exit.then_exit ?_
      refine Exit.then_exit ?_
      cases h
      exact hx6 _ rfl _ _ _  hle (hE.subC (by kernel_rfl)) hH
  refine key _ _ hrr19 _ _ _  hle (hE.subC (by kernel_rfl)) hH ?_ ?_
  · intro z18 hz a w G  hle hE hH
    subst hz
    rw [hQ]
    dsimp only at h
    refine Exit.in_eq ?_
    refine Exit.then_normal (hK2 _ _ ?_)
    refine wp_seq_k (fun K hK20 => ?_)
    refine wp_region_from ?_
    refine segO 9 [] [(2, .kv .bool ((decide ((p0.length : Int) ≥ 1)) && (decide ((p0.length : Int) ≤ 8))))] (Os := []) trivial hE hH (by kernel_rfl) (fun a hE => ?_)
    refine wpFrom_end (by kernel_rfl) ?_
    refine Exit.then_normal (hK20 _ _ ?_)
    refine wp_ret ?_
    cases h
    exact ret1 rfl hE hle hH (by kernel_rfl)
  · intro yy hz a w hp
    subst hz
    dsimp only at h
    cases h
    rw [hQ]
    refine Exit.in_ret ?_
    refine Exit.then_ret ?_
    exact hp

def f88 (p0 : Option Nat) (σ : St) : Option (List UInt8) :=
  p0 >>= fun i3 =>
  (σ.t116[i3]?) >>= fun o4 =>
  if o4.2.1.length + [46, 110, 101, 119].length ≤ 9223372036854775807 then
  some (o4.2.1 ++ [46, 110, 101, 119])
  else none

theorem f88_ok {p0 : Option Nat} {σ : St} {p : List UInt8} (h : f88 p0 σ = some p) : Spec Try.prog 88 [.kv (.ptr 116) p0] (tabs σ) (.kv .str p) (tabs σ) := by
  refine Spec.intro Try.func88 (by kernel_rfl) rfl (by kernel_rfl) (fun a w G0 Ls hE hH hN => ?_)
  have hle : G0.le G0 := Gh.le_refl G0
  unfold f88 at h
  refine wp_seq_k (fun K hK1 => ?_)
  refine wp_region_from ?_
  refine segO 1 [] [(2, .kv .str [])] (Os := []) trivial hE hH (by kernel_rfl) (fun a hE => ?_)
  refine wpFrom_end (by kernel_rfl) ?_
  refine Exit.then_normal (hK1 _ _ ?_)
  refine wp_seq_k (fun K hK2 => ?_)
  refine wp_region_from ?_
  obtain ⟨i3, hi3, h⟩ := bs h
  obtain ⟨o4, ho4, h⟩ := bs h
  obtain ⟨q5, h⟩ := gd h
  refine segO 6 [.pt i3, .ob fs116 o4] [(2, .kv .str (o4.2.1 ++ [46, 110, 101, 119]))] (Os := [_, _, _]) ⟨hi3, (ob116 (s := σ) ho4), q5, trivial⟩ hE hH (by kernel_rfl) (fun a hE => ?_)
  refine wpFrom_end (by kernel_rfl) ?_
  refine Exit.then_normal (hK2 _ _ ?_)
  refine wp_ret ?_
  cases h
  exact ret1 rfl hE hle hH (by kernel_rfl)

def f83 (p0 : Option Nat) (σ : St) : Option (Int × St) :=
  p0 >>= fun i4 =>
  (σ.t116[i4]?) >>= fun o5 =>
  f88 p0 σ >>= fun r6 =>
  f37 o5.1 r6 σ >>= fun r7 =>
  if (r7.1 != 8) = true then
  some (r7.1, r7.2)
  else
  some (0, r7.2)

theorem f83_ok {p0 : Option Nat} {σ : St} {p : Int × St} (h : f83 p0 σ = some p) : Spec Try.prog 83 [.kv (.ptr 116) p0] (tabs σ) (.kv .i p.1) (tabs p.2) := by
  refine Spec.intro Try.func83 (by kernel_rfl) rfl (by kernel_rfl) (fun a w G0 Ls hE hH hN => ?_)
  have hle : G0.le G0 := Gh.le_refl G0
  unfold f83 at h
  refine wp_seq_k (fun K hK1 => ?_)
  refine wp_region_from ?_
  refine segO 1 [] [(2, .kv .i 0)] (Os := []) trivial hE hH (by kernel_rfl) (fun a hE => ?_)
  refine wpFrom_end (by kernel_rfl) ?_
  refine Exit.then_normal (hK1 _ _ ?_)
  refine wp_seq_k (fun K hK2 => ?_)
  refine wp_seq_k (fun K hK3 => ?_)
  obtain ⟨i4, hi4, h⟩ := bs h
  obtain ⟨o5, ho5, h⟩ := bs h
  obtain ⟨r6, hr6, h⟩ := bs h
  refine region_par 6 [5] [(0, 1), (0, 1), (0, 1), (0, 1), (0, 0), (0, 0)] [.kv (.ptr 116) p0, .kv (.ptr 116) (some i4), .fldA 116 i4 0, .kv (.ptr 105) o5.1, .kv (.ptr 116) p0, .kv .str r6] (fun _ => tabs σ) (fun _ => Ls) (by kernel_rfl) (by kernel_rfl) hE hH
          ⟨⟨⟨⟨⟨⟨trivial,
          anyk (fun k => obR [] (Os := []) trivial (by kernel_rfl) (by kernel_rfl))⟩,
          anyk (fun k => obR [.pt i4] (Os := [_]) ⟨hi4, trivial⟩ (by kernel_rfl) (by kernel_rfl))⟩,
          anyk (fun k => obR [] (Os := []) trivial (by kernel_rfl) (by kernel_rfl))⟩,
          anyk (fun k => obR [.ob fs116 o5] (Os := [_]) ⟨(ob116 (s := σ) ho5), trivial⟩ (by kernel_rfl) (by kernel_rfl))⟩,
          anyk (fun k => obR [] (Os := []) trivial (by kernel_rfl) (by kernel_rfl))⟩,
          one (obC (k := 0) (d := (some 9)) (f88_ok hr6) rfl hN (by kernel_rfl) (by kernel_rfl) rfl trivial)⟩ (fun a w G hl1 hE hH => ?_)
  have hle := Gh.le_trans hle hl1
  obtain ⟨r7, hr7, h⟩ := bs h
  refine stepCall (d := (some 10)) (f37_ok hr7) hE hH hN (by kernel_rfl) (by kernel_rfl) trivial (fun a w G hl2 hE hH => ?_)
  have hle := Gh.le_trans hle hl2
  refine segO 1 [] [(3, .kv .i r7.1)] (Os := []) trivial hE hH (by kernel_rfl) (fun a hE => ?_)
  refine wpFrom_end (by kernel_rfl) ?_
  refine Exit.then_normal (hK3 _ _ ?_)
  refine wp_seq_k (fun K hK8 => ?_)
  refine wp_region_from ?_
  refine segO 2 [] [(12, .kv .bool (r7.1 != 8))] (Os := []) trivial hE hH (by kernel_rfl) (fun a hE => ?_)
  refine wpFrom_end (by kernel_rfl) ?_
  refine Exit.then_normal (hK8 _ _ ?_)
  refine condE (b := r7.1 != 8) hE (by kernel_rfl) (fun hc => ?_) (fun hc => ?_)
  · replace h := ifT hc h
    refine wp_seq_k (fun K hK9 => ?_)
    refine wp_region_from ?_
    refine segO 2 [] [(2, .kv .i r7.1)] (Os := []) trivial hE hH (by kernel_rfl) (fun a hE => ?_)
    refine wpFrom_end (by kernel_rfl) ?_
    refine Exit.then_normal (hK9 _ _ ?_)
    refine wp_ret ?_
    refine Exit.then_ret ?_
    cases h
    exact ret1 rfl hE hle hH (by kernel_rfl)
  · replace h := ifF hc h
    refine wp_skip ?_
    refine Exit.then_normal (hK2 _ _ ?_)
    refine wp_seq_k (fun K hK10 => ?_)
    refine wp_region_from ?_
    refine segO 1 [] [(2, .kv .i 0)] (Os := []) trivial hE hH (by kernel_rfl) (fun a hE => ?_)
    refine wpFrom_end (by kernel_rfl) ?_
    refine Exit.then_normal (hK10 _ _ ?_)
    refine wp_ret ?_
    cases h
    exact ret1 rfl hE hle hH (by kernel_rfl)

def f38 (p0 : Option Nat) (p1 : List UInt8) (σ : St) : Option (((Option Nat) × Int) × St) :=
  if p0.isNone = true then
  some ((none, 1), σ)
  else
  f82 p1 >>= fun r6 =>
  if (!r6) = true then
  some ((none, 2), σ)
  else
  f31 p0 σ >>= fun r9 =>
  if r9 = true then
  some ((none, 11), σ)
  else
  f83 (some σ.t116.length) (σ.add116 (p0, p1, ())) >>= fun r14 =>
  if (r14.1 != 0) = true then
  some ((none, r14.1), r14.2)
  else
  some ((some σ.t116.length, 0), r14.2)

theorem f38_ok {p0 : Option Nat} {p1 : List UInt8} {σ : St} {p : ((Option Nat) × Int) × St} (h : f38 p0 p1 σ = some p) : Spec Try.prog 38 [.kv (.ptr 105) p0, .kv .str p1] (tabs σ) (.tup [⟨(.ptr 116), p.1.1⟩, ⟨.i, p.1.2⟩]) (tabs p.2) := by
  refine Spec.intro Try.func38 (by kernel_rfl) rfl (by kernel_rfl) (fun a w G0 Ls hE hH hN => ?_)
  have hle : G0.le G0 := Gh.le_refl G0
  unfold f38 at h
  refine wp_seq_k (fun K hK1 => ?_)
  refine wp_region_from ?_
  refine segO 2 [] [(4, .val (.pointer none)), (5, .kv .i 0)] (Os := []) trivial hE hH (by kernel_rfl) (fun a hE => ?_)
  refine wpFrom_end (by kernel_rfl) ?_
  refine Exit.then_normal (hK1 _ _ ?_)
  refine wp_seq_k (fun K hK2 => ?_)
  refine wp_block ?_
  refine wp_seq_k (fun K hK3 => ?_)
  refine wp_region_from ?_
  refine segO 3 [] [(8, .kv .bool p0.isNone)] (Os := []) trivial hE hH (by kernel_rfl) (fun a hE => ?_)
  refine wpFrom_end (by kernel_rfl) ?_
  refine Exit.then_normal (hK3 _ _ ?_)
  refine condE (b := p0.isNone) hE (by kernel_rfl) (fun hc => ?_) (fun hc => ?_)
  · replace h := ifT hc h
    refine wp_seq_k (fun K hK4 => ?_)
    refine wp_region_from ?_
    refine segO 2 [] [(4, .val (.pointer none)), (5, .kv .i 1)] (Os := []) trivial hE hH (by kernel_rfl) (fun a hE => ?_)
    refine wpFrom_end (by kernel_rfl) ?_
    refine Exit.then_normal (hK4 _ _ ?_)
    refine wp_ret ?_
    refine Exit.in_ret ?_
    refine Exit.then_ret ?_
    cases h
    exact ret2 rfl hE hle hH (by kernel_rfl)
  · replace h := ifF hc h
    refine wp_seq_k (fun K hK5 => ?_)
    refine wp_region_from ?_
    refine segO 1 [] [(12, .kv .str p1)] (Os := []) trivial hE hH (by kernel_rfl) (fun a hE => ?_)
    obtain ⟨r6, hr6, h⟩ := bs h
    refine stepCall (d := (some 13)) (f82_ok hr6) hE hH hN (by kernel_rfl) (by kernel_rfl) trivial (fun a w G hl1 hE hH => ?_)
    have hle := Gh.le_trans hle hl1
    refine segO 2 [] [(11, .kv .bool (!r6))] (Os := []) trivial hE hH (by kernel_rfl) (fun a hE => ?_)
    refine wpFrom_end (by kernel_rfl) ?_
    refine Exit.then_normal (hK5 _ _ ?_)
    refine condE (b := !r6) hE (by kernel_rfl) (fun hc => ?_) (fun hc => ?_)
    · replace h := ifT hc h
      refine wp_seq_k (fun K hK7 => ?_)
      refine wp_region_from ?_
      refine segO 2 [] [(4, .val (.pointer none)), (5, .kv .i 2)] (Os := []) trivial hE hH (by kernel_rfl) (fun a hE => ?_)
      refine wpFrom_end (by kernel_rfl) ?_
      refine Exit.then_normal (hK7 _ _ ?_)
      refine wp_ret ?_
      refine Exit.in_ret ?_
      refine Exit.then_ret ?_
      cases h
      exact ret2 rfl hE hle hH (by kernel_rfl)
    · replace h := ifF hc h
      refine wp_seq_k (fun K hK8 => ?_)
      refine wp_region_from ?_
      refine segO 1 [] [(16, .kv (.ptr 105) p0)] (Os := []) trivial hE hH (by kernel_rfl) (fun a hE => ?_)
      obtain ⟨r9, hr9, h⟩ := bs h
      refine stepCall (d := (some 17)) (f31_ok hr9) hE hH hN (by kernel_rfl) (by kernel_rfl) trivial (fun a w G hl2 hE hH => ?_)
      have hle := Gh.le_trans hle hl2
      refine segO 1 [] [(15, .kv .bool r9)] (Os := []) trivial hE hH (by kernel_rfl) (fun a hE => ?_)
      refine wpFrom_end (by kernel_rfl) ?_
      refine Exit.then_normal (hK8 _ _ ?_)
      refine condE (b := r9) hE (by kernel_rfl) (fun hc => ?_) (fun hc => ?_)
      · replace h := ifT hc h
        refine wp_seq_k (fun K hK10 => ?_)
        refine wp_region_from ?_
        refine segO 2 [] [(4, .val (.pointer none)), (5, .kv .i 11)] (Os := []) trivial hE hH (by kernel_rfl) (fun a hE => ?_)
        refine wpFrom_end (by kernel_rfl) ?_
        refine Exit.then_normal (hK10 _ _ ?_)
        refine wp_ret ?_
        refine Exit.in_ret ?_
        refine Exit.then_ret ?_
        cases h
        exact ret2 rfl hE hle hH (by kernel_rfl)
      · replace h := ifF hc h
        refine wp_skip ?_
        refine Exit.in_normal ?_
        refine Exit.then_normal (hK2 _ _ ?_)
        refine wp_seq_k (fun K hK11 => ?_)
        refine wp_region_from ?_
        refine segO 2 [] [(18, .kv (.ptr 105) p0), (19, .kv .str p1)] (Os := []) trivial hE hH (by kernel_rfl) (fun a hE => ?_)
        refine stepBuild (d := (some 20)) K116 (p0, p1, ()) rfl hE (by kernel_rfl) (by kernel_rfl) (fun a hE => ?_)
        refine stepNew (t := 116) (fs := fs116) (x := (p0, p1, ())) (e := 116) (d := (some 21)) K116 (p0, p1, ()) hE hH (by kernel_rfl) (by kernel_rfl) ⟨rfl, HEq.rfl, ⟨rfl, HEq.rfl, trivial⟩⟩ (addT116 (s := σ) (x := (p0, p1, ()))) (fun a w G hl3 hE hH => ?_)
        have hle := Gh.le_trans hle hl3
        refine segO 1 [] [(6, .fldA 116 σ.t116.length 0)] (Os := []) trivial hE hH (by kernel_rfl) (fun a hE => ?_)
        refine wpFrom_end (by kernel_rfl) ?_
        refine Exit.then_normal (hK11 _ _ ?_)
        refine wp_seq_k (fun K hK12 => ?_)
        refine wp_seq_k (fun K hK13 => ?_)
        refine wp_region_from ?_
        refine segO 1 [] [(22, .fldA 116 σ.t116.length 0)] (Os := []) trivial hE hH (by kernel_rfl) (fun a hE => ?_)
        obtain ⟨r14, hr14, h⟩ := bs h
        refine stepCall (d := (some 23)) (f83_ok hr14) hE hH hN (by kernel_rfl) (by kernel_rfl) trivial (fun a w G hl4 hE hH => ?_)
        have hle := Gh.le_trans hle hl4
        refine segO 1 [] [(7, .kv .i r14.1)] (Os := []) trivial hE hH (by kernel_rfl) (fun a hE => ?_)
        refine wpFrom_end (by kernel_rfl) ?_
        refine Exit.then_normal (hK13 _ _ ?_)
        refine wp_seq_k (fun K hK15 => ?_)
        refine wp_region_from ?_
        refine segO 2 [] [(25, .kv .bool (r14.1 != 0))] (Os := []) trivial hE hH (by kernel_rfl) (fun a hE => ?_)
        refine wpFrom_end (by kernel_rfl) ?_
        refine Exit.then_normal (hK15 _ _ ?_)
        refine condE (b := r14.1 != 0) hE (by kernel_rfl) (fun hc => ?_) (fun hc => ?_)
        · replace h := ifT hc h
          refine wp_seq_k (fun K hK16 => ?_)
          refine wp_region_from ?_
          refine segO 3 [] [(4, .val (.pointer none)), (5, .kv .i r14.1)] (Os := []) trivial hE hH (by kernel_rfl) (fun a hE => ?_)
          refine wpFrom_end (by kernel_rfl) ?_
          refine Exit.then_normal (hK16 _ _ ?_)
          refine wp_ret ?_
          refine Exit.then_ret ?_
          cases h
          exact ret2 rfl hE hle hH (by kernel_rfl)
        · replace h := ifF hc h
          refine wp_skip ?_
          refine Exit.then_normal (hK12 _ _ ?_)
          refine wp_seq_k (fun K hK17 => ?_)
          refine wp_region_from ?_
          refine segO 3 [] [(4, .fldA 116 σ.t116.length 0), (5, .kv .i 0)] (Os := []) trivial hE hH (by kernel_rfl) (fun a hE => ?_)
          refine wpFrom_end (by kernel_rfl) ?_
          refine Exit.then_normal (hK17 _ _ ?_)
          refine wp_ret ?_
          cases h
          exact ret2 rfl hE hle hH (by kernel_rfl)

def f107 (p0 : Int) : Option (List UInt8) :=
  if (decide (p0 < 10)) = true then
  some (bytesS [IntKind.wrap .u8 (IntKind.wrap .i64 (48 + p0))])
  else
  f107 (IntKind.wrap .i64 (Int.tdiv p0 10)) >>= fun r6 =>
  if r6.length + (bytesS [IntKind.wrap .u8 (IntKind.wrap .i64 (48 + (Int.tmod p0 10)))]).length ≤ 9223372036854775807 then
  some (r6 ++ (bytesS [IntKind.wrap .u8 (IntKind.wrap .i64 (48 + (Int.tmod p0 10)))]))
  else none
  partial_fixpoint

theorem f107_ok {p0 : Int} {σ : St} {p : List UInt8} (h : f107 p0 = some p) : Spec Try.prog 107 [.kv .i p0] (tabs σ) (.kv .str p) (tabs σ) := by
  have key : ∀ (p0 : Int) (p : List UInt8), f107 p0 = some p → ∀ σ : St, Spec Try.prog 107 [.kv .i p0] (tabs σ) (.kv .str p) (tabs σ) := by
    refine f107.partial_correctness _ ?_
    intro self ih p0 p h σ
    refine Spec.intro Try.func107 (by kernel_rfl) rfl (by kernel_rfl) (fun a w G0 Ls hE hH hN => ?_)
    have hle : G0.le G0 := Gh.le_refl G0
    refine wp_seq_k (fun K hK1 => ?_)
    refine wp_region_from ?_
    refine segO 1 [] [(2, .kv .str [])] (Os := []) trivial hE hH (by kernel_rfl) (fun a hE => ?_)
    refine wpFrom_end (by kernel_rfl) ?_
    refine Exit.then_normal (hK1 _ _ ?_)
    refine wp_seq_k (fun K hK2 => ?_)
    refine wp_seq_k (fun K hK3 => ?_)
    refine wp_region_from ?_
    refine segO 2 [] [(4, .kv .bool (decide (p0 < 10)))] (Os := []) trivial hE hH (by kernel_rfl) (fun a hE => ?_)
    refine wpFrom_end (by kernel_rfl) ?_
    refine Exit.then_normal (hK3 _ _ ?_)
    refine condE (b := decide (p0 < 10)) hE (by kernel_rfl) (fun hc => ?_) (fun hc => ?_)
    · replace h := ifT hc h
      refine wp_seq_k (fun K hK4 => ?_)
      refine wp_region_from ?_
      refine segO 3 [] [(7, .kv (.int .u8) (IntKind.wrap .u8 (IntKind.wrap .i64 (48 + p0))))] (Os := []) trivial hE hH (by kernel_rfl) (fun a hE => ?_)
      refine stepBuildS (d := (some 8)) (.int .u8) [IntKind.wrap .u8 (IntKind.wrap .i64 (48 + p0))] hE hH (by kernel_rfl) (by kernel_rfl) (fun a w G hl1 hE hH => ?_)
      have hle := Gh.le_trans hle hl1
      refine segO 2 [] [(2, .kv .str (bytesS [IntKind.wrap .u8 (IntKind.wrap .i64 (48 + p0))]))] (Os := []) trivial hE hH (by kernel_rfl) (fun a hE => ?_)
      refine wpFrom_end (by kernel_rfl) ?_
      refine Exit.then_normal (hK4 _ _ ?_)
      refine wp_ret ?_
      refine Exit.then_ret ?_
      cases h
      exact ret1 rfl hE hle hH (by kernel_rfl)
    · replace h := ifF hc h
      refine wp_skip ?_
      refine Exit.then_normal (hK2 _ _ ?_)
      refine wp_seq_k (fun K hK5 => ?_)
      obtain ⟨r6, hr6, h⟩ := bs h
      refine region_par 9 [2] [(0, 0), (0, 0), (0, 0), (0, 1), (0, 1), (0, 1), (0, 1), (0, 1), (0, 1)] [.kv .i p0, .kv .i (IntKind.wrap .i64 (Int.tdiv p0 10)), .kv .str r6, .kv .i p0, .kv .i (Int.tmod p0 10), .kv .i (IntKind.wrap .i64 (48 + (Int.tmod p0 10))), .kv (.int .u8) (IntKind.wrap .u8 (IntKind.wrap .i64 (48 + (Int.tmod p0 10)))), .pl (.int .u8) [IntKind.wrap .u8 (IntKind.wrap .i64 (48 + (Int.tmod p0 10)))], .kv .str (bytesS [IntKind.wrap .u8 (IntKind.wrap .i64 (48 + (Int.tmod p0 10)))])] (fun _ => tabs σ) (fun _ => Ls) (by kernel_rfl) (by kernel_rfl) hE hH
              ⟨⟨⟨⟨⟨⟨⟨⟨⟨trivial,
              anyk (fun k => obR [] (Os := []) trivial (by kernel_rfl) (by kernel_rfl))⟩,
              anyk (fun k => obR [] (Os := [_]) ⟨(by decide : (10 : Int) ≠ 0), trivial⟩ (by kernel_rfl) (by kernel_rfl))⟩,
              one (obC (k := 0) (d := (some 12)) (ih _ _ hr6 _) rfl hN (by kernel_rfl) (by kernel_rfl) rfl trivial)⟩,
              anyk (fun k => obR [] (Os := []) trivial (by kernel_rfl) (by kernel_rfl))⟩,
              anyk (fun k => obR [] (Os := [_]) ⟨(by decide : (10 : Int) ≠ 0), trivial⟩ (by kernel_rfl) (by kernel_rfl))⟩,
              anyk (fun k => obR [] (Os := []) trivial (by kernel_rfl) (by kernel_rfl))⟩,
              anyk (fun k => obR [] (Os := []) trivial (by kernel_rfl) (by kernel_rfl))⟩,
              anyk (fun k => obBS (d := (some 17)) (.int .u8) [IntKind.wrap .u8 (IntKind.wrap .i64 (48 + (Int.tmod p0 10)))] (by kernel_rfl) (by kernel_rfl) rfl)⟩,
              anyk (fun k => obR [] (Os := []) trivial (by kernel_rfl) (by kernel_rfl))⟩ (fun a w G hl2 hE hH => ?_)
      have hle := Gh.le_trans hle hl2
      obtain ⟨q7, h⟩ := gd h
      refine segO 2 [] [(2, .kv .str (r6 ++ (bytesS [IntKind.wrap .u8 (IntKind.wrap .i64 (48 + (Int.tmod p0 10)))])))] (Os := [_]) ⟨q7, trivial⟩ hE hH (by kernel_rfl) (fun a hE => ?_)
      refine wpFrom_end (by kernel_rfl) ?_
      refine Exit.then_normal (hK5 _ _ ?_)
      refine wp_ret ?_
      cases h
      exact ret1 rfl hE hle hH (by kernel_rfl)
  exact key p0 p h σ

def f91 (p0 : Option Nat) (p1 : Int) (σ : St) : Option (List UInt8) :=
  p0 >>= fun i3 =>
  (σ.t116[i3]?) >>= fun o4 =>
  if o4.2.1.length + [46].length ≤ 9223372036854775807 then
  f107 p1 >>= fun r6 =>
  if (o4.2.1 ++ [46]).length + r6.length ≤ 9223372036854775807 then
  some ((o4.2.1 ++ [46]) ++ r6)
  else none
  else none

theorem f91_ok {p0 : Option Nat} {p1 : Int} {σ : St} {p : List UInt8} (h : f91 p0 p1 σ = some p) : Spec Try.prog 91 [.kv (.ptr 116) p0, .kv .i p1] (tabs σ) (.kv .str p) (tabs σ) := by
  refine Spec.intro Try.func91 (by kernel_rfl) rfl (by kernel_rfl) (fun a w G0 Ls hE hH hN => ?_)
  have hle : G0.le G0 := Gh.le_refl G0
  unfold f91 at h
  refine wp_seq_k (fun K hK1 => ?_)
  refine wp_region_from ?_
  refine segO 1 [] [(4, .kv .str [])] (Os := []) trivial hE hH (by kernel_rfl) (fun a hE => ?_)
  refine wpFrom_end (by kernel_rfl) ?_
  refine Exit.then_normal (hK1 _ _ ?_)
  refine wp_seq_k (fun K hK2 => ?_)
  obtain ⟨i3, hi3, h⟩ := bs h
  obtain ⟨o4, ho4, h⟩ := bs h
  obtain ⟨q5, h⟩ := gd h
  obtain ⟨r6, hr6, h⟩ := bs h
  refine region_par 7 [6] [(0, 1), (0, 1), (0, 1), (0, 1), (0, 1), (0, 0), (0, 0)] [.kv (.ptr 116) p0, .kv (.ptr 116) (some i3), .fldA 116 i3 1, .kv .str o4.2.1, .kv .str (o4.2.1 ++ [46]), .kv .i p1, .kv .str r6] (fun _ => tabs σ) (fun _ => Ls) (by kernel_rfl) (by kernel_rfl) hE hH
          ⟨⟨⟨⟨⟨⟨⟨trivial,
          anyk (fun k => obR [] (Os := []) trivial (by kernel_rfl) (by kernel_rfl))⟩,
          anyk (fun k => obR [.pt i3] (Os := [_]) ⟨hi3, trivial⟩ (by kernel_rfl) (by kernel_rfl))⟩,
          anyk (fun k => obR [] (Os := []) trivial (by kernel_rfl) (by kernel_rfl))⟩,
          anyk (fun k => obR [.ob fs116 o4] (Os := [_]) ⟨(ob116 (s := σ) ho4), trivial⟩ (by kernel_rfl) (by kernel_rfl))⟩,
          anyk (fun k => obR [] (Os := [_]) ⟨q5, trivial⟩ (by kernel_rfl) (by kernel_rfl))⟩,
          anyk (fun k => obR [] (Os := []) trivial (by kernel_rfl) (by kernel_rfl))⟩,
          one (obC (k := 0) (d := (some 11)) (f107_ok hr6) rfl hN (by kernel_rfl) (by kernel_rfl) rfl trivial)⟩ (fun a w G hl1 hE hH => ?_)
  have hle := Gh.le_trans hle hl1
  obtain ⟨q7, h⟩ := gd h
  refine segO 2 [] [(4, .kv .str ((o4.2.1 ++ [46]) ++ r6))] (Os := [_]) ⟨q7, trivial⟩ hE hH (by kernel_rfl) (fun a hE => ?_)
  refine wpFrom_end (by kernel_rfl) ?_
  refine Exit.then_normal (hK2 _ _ ?_)
  refine wp_ret ?_
  cases h
  exact ret1 rfl hE hle hH (by kernel_rfl)

def f85_l0 (p0 : List UInt8) (x5 : Int) (x6 : Int) : Option (Sum (Int × Int) Int) :=
  if (decide (x6 < (p0.length : Int))) = true then
  if (0 : Int) ≤ x6 ∧ x6 < (p0.length : Int) then
  if (decide ((btS p0 x6) < 48)) = true then
  some (.inr (-1))
  else
  if (0 : Int) ≤ x6 ∧ x6 < (p0.length : Int) then
  if ((decide ((btS p0 x6) > 57)) || (decide (x5 > 1099511627776))) = true then
  some (.inr (-1))
  else
  if (0 : Int) ≤ x6 ∧ x6 < (p0.length : Int) then
  f85_l0 p0 (IntKind.wrap .i64 ((IntKind.wrap .i64 (x5 * 10)) + (IntKind.wrap .i64 (IntKind.wrap .u8 ((btS p0 x6) - 48))))) (IntKind.wrap .i64 (x6 + 1))
  else none
  else none
  else none
  else
  some (.inl (x5, x6))
  partial_fixpoint

def f85 (p0 : List UInt8) : Option Int :=
  f85_l0 p0 0 0 >>= fun rr23 => (match rr23 with
  | .inr yy => some yy
  | .inl z22 =>
  if ((p0 == []) || (decide (z22.1 > 1099511627776))) = true then
  some (-1)
  else
  f107 z22.1 >>= fun r27 =>
  if (!(r27 == p0)) = true then
  some (-1)
  else
  some z22.1)

theorem f85_ok {p0 : List UInt8} {σ : St} {p : Int} (h : f85 p0 = some p) : Spec Try.prog 85 [.kv .str p0] (tabs σ) (.kv .i p) (tabs σ) := by
  refine Spec.intro Try.func85 (by kernel_rfl) rfl (by kernel_rfl) (fun a w G0 Ls hE hH hN => ?_)
  have hle : G0.le G0 := Gh.le_refl G0
  unfold f85 at h
  refine wp_seq_k (fun K hK1 => ?_)
  refine wp_region_from ?_
  refine segO 1 [] [(2, .kv .i 0)] (Os := []) trivial hE hH (by kernel_rfl) (fun a hE => ?_)
  refine wpFrom_end (by kernel_rfl) ?_
  refine Exit.then_normal (hK1 _ _ ?_)
  refine wp_seq_k (fun K hK2 => ?_)
  refine wp_region_from ?_
  refine segO 1 [] [(3, .kv .i 0)] (Os := []) trivial hE hH (by kernel_rfl) (fun a hE => ?_)
  refine wpFrom_end (by kernel_rfl) ?_
  refine Exit.then_normal (hK2 _ _ ?_)
  refine wp_seq_k (fun K hK3 => ?_)
  refine wp_seq_k (fun K hK4 => ?_)
  refine wp_region_from ?_
  refine segO 3 [] [(6, .kv .i (p0.length : Int)), (7, .kv .i 0)] (Os := []) trivial hE hH (by kernel_rfl) (fun a hE => ?_)
  refine wpFrom_end (by kernel_rfl) ?_
  refine Exit.then_normal (hK4 _ _ ?_)
  refine wp_block ?_
  obtain ⟨rr23, hrr23, h⟩ := bs h
  refine loop_intro (fun Q7 c hQ hc => ?_)
  have key : ∀ (x5 : Int) (x6 : Int) (rr : Sum (Int × Int) Int), f85_l0 p0 x5 x6 = some rr → ∀ (a : Act) (w : World) (G : Gh), G0.le G → EnvR G 46 a [(0, .kv .str p0), (2, .kv .i 0), (3, .kv .i x5), (6, .kv .i (p0.length : Int)), (7, .kv .i x6)] → Holds w G (tabs σ) (Ls) → (∀ z22 : Int × Int, rr = .inl z22 → ∀ (a : Act) (w : World) (G : Gh), G0.le G → EnvR G 46 a [(0, .kv .str p0), (2, .kv .i 0), (3, .kv .i z22.1), (6, .kv .i (p0.length : Int)), (7, .kv .i z22.2)] → Holds w G (tabs σ) (Ls) → Q7 (.exit 0) a w) → (∀ yy : Int, rr = .inr yy → ∀ (a : Act) (w : World), PostB Try.prog Try.f85 G0 (.kv .i yy) (tabs σ) Ls .ret a w → Q7 .ret a w) → Rnd Try.prog c Q7 a w := by
    refine f85_l0.partial_correctness p0 _ ?_
    intro self ih10 x5 x6 rr h a w G  hle hE hH hx8 hret9
    refine rnd_step' hc ?_
    refine wp_seq_k (fun K hK11 => ?_)
    refine wp_region_from ?_
    refine segO 1 [] [(8, .kv .bool (decide (x6 < (p0.length : Int))))] (Os := []) trivial hE hH (by kernel_rfl) (fun a hE => ?_)
    refine wpFrom_end (by kernel_rfl) ?_
    refine Exit.then_normal (hK11 _ _ ?_)
    refine wp_seq_k (fun K hK12 => ?_)
    refine condE (b := decide (x6 < (p0.length : Int))) hE (by kernel_rfl) (fun hc => ?_) (fun hc => ?_)
    · replace h := ifT hc h
      refine wp_skip ?_
      refine Exit.then_normal (hK12 _ _ ?_)
      refine wp_seq_k (fun K hK13 => ?_)
      refine wp_block ?_
      refine wp_seq_k (fun K hK14 => ?_)
      refine wp_region_from ?_
      refine segO 2 [] [(4, .kv .i x6)] (Os := []) trivial hE hH (by kernel_rfl) (fun a hE => ?_)
      refine wpFrom_end (by kernel_rfl) ?_
      refine Exit.then_normal (hK14 _ _ ?_)
      refine wp_seq_k (fun K hK15 => ?_)
      refine wp_seq_k (fun K hK16 => ?_)
      refine wp_region_from ?_
      obtain ⟨q17, h⟩ := gd h
      refine segO 5 [] [(14, .kv .bool (decide ((btS p0 x6) < 48)))] (Os := [_]) ⟨q17, trivial⟩ hE hH (by kernel_rfl) (fun a hE => ?_)
      by_cases hc : (decide ((btS p0 x6) < 48)) = true
      · replace h := ifT hc h
        have hE := hE.setB 14 (by kernel_rfl) hc
        refine segO 9 [] [(23, .kv .bool true)] (Os := []) trivial hE hH (by kernel_rfl) (fun a hE => ?_)
        refine wpFrom_end (by kernel_rfl) ?_
        refine Exit.then_normal (hK16 _ _ ?_)
        refine condT hE (by kernel_rfl) rfl ?_
        refine wp_seq_k (fun K hK18 => ?_)
        refine wp_region_from ?_
        refine segO 1 [] [(2, .kv .i (-1))] (Os := []) trivial hE hH (by kernel_rfl) (fun a hE => ?_)
        refine wpFrom_end (by kernel_rfl) ?_
        refine Exit.then_normal (hK18 _ _ ?_)
        refine wp_ret ?_
        refine Exit.then_ret ?_
        refine Exit.in_ret ?_
        refine Exit.then_ret ?_
        refine Exit.then_ret ?_
        cases h
        exact hret9 _ rfl _ _ (ret1 rfl hE hle hH (by kernel_rfl))
      · replace h := ifN hc h
        have hE := hE.setB 14 (by kernel_rfl) (bf hc)
        obtain ⟨q19, h⟩ := gd h
        refine segO 9 [] [(23, .kv .bool ((decide ((btS p0 x6) > 57)) || (decide (x5 > 1099511627776))))] (Os := [_]) ⟨q19, trivial⟩ hE hH (by kernel_rfl) (fun a hE => ?_)
        refine wpFrom_end (by kernel_rfl) ?_
        refine Exit.then_normal (hK16 _ _ ?_)
        refine condE (b := (decide ((btS p0 x6) > 57)) || (decide (x5 > 1099511627776))) hE (by kernel_rfl) (fun hc => ?_) (fun hc => ?_)
        · replace h := ifT hc h
          refine wp_seq_k (fun K hK20 => ?_)
          refine wp_region_from ?_
          refine segO 1 [] [(2, .kv .i (-1))] (Os := []) trivial hE hH (by kernel_rfl) (fun a hE => ?_)
          refine wpFrom_end (by kernel_rfl) ?_
          refine Exit.then_normal (hK20 _ _ ?_)
          refine wp_ret ?_
          refine Exit.then_ret ?_
          refine Exit.in_ret ?_
          refine Exit.then_ret ?_
          refine Exit.then_ret ?_
          cases h
          exact hret9 _ rfl _ _ (ret1 rfl hE hle hH (by kernel_rfl))
        · replace h := ifF hc h
          refine wp_skip ?_
          refine Exit.then_normal (hK15 _ _ ?_)
          refine wp_region_from ?_
          obtain ⟨q21, h⟩ := gd h
          refine segO 9 [] [(3, .kv .i (IntKind.wrap .i64 ((IntKind.wrap .i64 (x5 * 10)) + (IntKind.wrap .i64 (IntKind.wrap .u8 ((btS p0 x6) - 48))))))] (Os := [_]) ⟨q21, trivial⟩ hE hH (by kernel_rfl) (fun a hE => ?_)
          refine wpFrom_end (by kernel_rfl) ?_
          refine Exit.in_normal ?_
          refine Exit.then_normal (hK13 _ _ ?_)
          refine wp_region_from ?_
          refine segO 2 [] [(7, .kv .i (IntKind.wrap .i64 (x6 + 1)))] (Os := []) trivial hE hH (by kernel_rfl) (fun a hE => ?_)
          refine wpFrom_end (by kernel_rfl) ?_
          refine Exit.then_normal ?_
          exact ih10 _ _ _ h _ _ _  hle (hE.subC (by kernel_rfl)) hH hx8 hret9
    · replace h := ifF hc h
      refine wp_exit ?_
      refine Exit.then_exit ?_
      refine Exit.then_exit ?_
      cases h
      exact hx8 _ rfl _ _ _  hle (hE.subC (by kernel_rfl)) hH
  refine key _ _ _ hrr23 _ _ _  hle (hE.subC (by kernel_rfl)) hH ?_ ?_
  · intro z22 hz a w G  hle hE hH
    subst hz
    rw [hQ]
    dsimp only at h
    refine Exit.in_eq ?_
    refine Exit.then_normal (hK3 _ _ ?_)
    refine wp_seq_k (fun K hK24 => ?_)
    refine wp_seq_k (fun K hK25 => ?_)
    refine wp_region_from ?_
    refine segO 7 [] [(39, .kv .bool ((p0 == []) || (decide (z22.1 > 1099511627776))))] (Os := []) trivial hE hH (by kernel_rfl) (fun a hE => ?_)
    by_cases hc : ((p0 == []) || (decide (z22.1 > 1099511627776))) = true
    · replace h := ifT hc h
      have hE := hE.setB 39 (by kernel_rfl) hc
      refine segO 5 [] [(44, .kv .bool true)] (Os := []) trivial hE hH (by kernel_rfl) (fun a hE => ?_)
      refine wpFrom_end (by kernel_rfl) ?_
      refine Exit.then_normal (hK25 _ _ ?_)
      refine condT hE (by kernel_rfl) rfl ?_
      refine wp_seq_k (fun K hK26 => ?_)
      refine wp_region_from ?_
      refine segO 1 [] [(2, .kv .i (-1))] (Os := []) trivial hE hH (by kernel_rfl) (fun a hE => ?_)
      refine wpFrom_end (by kernel_rfl) ?_
      refine Exit.then_normal (hK26 _ _ ?_)
      refine wp_ret ?_
      refine Exit.then_ret ?_
      cases h
      exact ret1 rfl hE hle hH (by kernel_rfl)
    · replace h := ifN hc h
      have hE := hE.setB 39 (by kernel_rfl) (bf hc)
      refine segO 1 [] [(40, .kv .i z22.1)] (Os := []) trivial hE hH (by kernel_rfl) (fun a hE => ?_)
      obtain ⟨r27, hr27, h⟩ := bs h
      refine stepCall (d := (some 41)) (f107_ok hr27) hE hH hN (by kernel_rfl) (by kernel_rfl) trivial (fun a w G hl1 hE hH => ?_)
      have hle := Gh.le_trans hle hl1
      refine segO 3 [] [(44, .kv .bool (!(r27 == p0)))] (Os := []) trivial hE hH (by kernel_rfl) (fun a hE => ?_)
      refine wpFrom_end (by kernel_rfl) ?_
      refine Exit.then_normal (hK25 _ _ ?_)
      refine condE (b := !(r27 == p0)) hE (by kernel_rfl) (fun hc => ?_) (fun hc => ?_)
      · replace h := ifT hc h
        refine wp_seq_k (fun K hK28 => ?_)
        refine wp_region_from ?_
        refine segO 1 [] [(2, .kv .i (-1))] (Os := []) trivial hE hH (by kernel_rfl) (fun a hE => ?_)
        refine wpFrom_end (by kernel_rfl) ?_
        refine Exit.then_normal (hK28 _ _ ?_)
        refine wp_ret ?_
        refine Exit.then_ret ?_
        cases h
        exact ret1 rfl hE hle hH (by kernel_rfl)
      · replace h := ifF hc h
        refine wp_skip ?_
        refine Exit.then_normal (hK24 _ _ ?_)
        refine wp_seq_k (fun K hK29 => ?_)
        refine wp_region_from ?_
        refine segO 2 [] [(2, .kv .i z22.1)] (Os := []) trivial hE hH (by kernel_rfl) (fun a hE => ?_)
        refine wpFrom_end (by kernel_rfl) ?_
        refine Exit.then_normal (hK29 _ _ ?_)
        refine wp_ret ?_
        cases h
        exact ret1 rfl hE hle hH (by kernel_rfl)
  · intro yy hz a w hp
    subst hz
    dsimp only at h
    cases h
    rw [hQ]
    refine Exit.in_ret ?_
    refine Exit.then_ret ?_
    exact hp
end Go.Proofs.Ytlfemhkabjafeaa.M

/- Plain law of the keeper, part 0: digits, and the names of files. -/
set_option linter.unusedVariables false
set_option linter.unusedSimpArgs false
namespace Go.Proofs.Ytlfemhkabjafeaa.M

theorem wrap8_id {x : Int} (h1 : 0 ≤ x) (h2 : x < 256) : IntKind.wrap .u8 x = x := by
  have : IntKind.wrap .u8 x = x % 256 := by simp [IntKind.wrap, IntKind.bits, IntKind.signed]
  rw [this]; omega

theorem wrap8 (x : Int) : IntKind.wrap .u8 x = x % 256 := by simp [IntKind.wrap, IntKind.bits, IntKind.signed]

/-- A digit's byte. -/
def dgt (n : Nat) : UInt8 := UInt8.ofNat (48 + n)

theorem dgt_nat {n : Nat} (h : n < 10) : (dgt n).toNat = 48 + n := by
  unfold dgt
  rw [UInt8.toNat_ofNat_of_lt' (by show 48 + n < 256; omega)]

/-- A number's digits. -/
def dig (n : Nat) : List UInt8 := if n < 10 then [dgt n] else dig (n / 10) ++ [dgt (n % 10)]
termination_by n
decreasing_by omega

theorem dig_small {n : Nat} (h : n < 10) : dig n = [dgt n] := by rw [dig, if_pos h]
theorem dig_big {n : Nat} (h : ¬ n < 10) : dig n = dig (n / 10) ++ [dgt (n % 10)] := by rw [dig, if_neg h]

theorem dig_len : ∀ (k n : Nat), n < 10 ^ (k + 1) → (dig n).length ≤ k + 1 := by
  intro k
  induction k with
  | zero => intro n h; rw [dig_small (by simpa using h)]; simp
  | succ k ih =>
    intro n h
    by_cases c : n < 10
    · rw [dig_small c]; simp
    · rw [dig_big c, List.length_append]
      have := ih (n / 10) (by rw [Nat.div_lt_iff_lt_mul (by decide)]; rw [Nat.pow_succ] at h; exact h)
      simp only [List.length_cons, List.length_nil]; omega

theorem dig_len13 {n : Nat} (h : n ≤ 1099511627776) : (dig n).length ≤ 13 := dig_len 12 n (by omega)

theorem dig_pos (n : Nat) : 0 < (dig n).length := by
  by_cases c : n < 10
  · rw [dig_small c]; simp
  · rw [dig_big c]; simp

theorem dig_all (n : Nat) : ∀ c ∈ dig n, 48 ≤ c.toNat ∧ c.toNat ≤ 57 := by
  induction n using Nat.strongRecOn with
  | ind n ih =>
    intro c hc
    by_cases h : n < 10
    · rw [dig_small h] at hc
      simp only [List.mem_cons, List.not_mem_nil, or_false] at hc
      subst hc; rw [dgt_nat h]; omega
    · rw [dig_big h, List.mem_append] at hc
      rcases hc with hc | hc
      · exact ih _ (by omega) c hc
      · simp only [List.mem_cons, List.not_mem_nil, or_false] at hc
        subst hc; rw [dgt_nat (by omega)]; omega

/-- What digits come to. -/
def valD (v : Nat) (s : List UInt8) : Nat := s.foldl (fun v c => v * 10 + (c.toNat - 48)) v

theorem valD_app (v : Nat) (s t : List UInt8) : valD v (s ++ t) = valD (valD v s) t := by unfold valD; rw [List.foldl_append]

theorem valD_cons (v : Nat) (c : UInt8) (r : List UInt8) : valD v (c :: r) = valD (v * 10 + (c.toNat - 48)) r := by unfold valD; rw [List.foldl_cons]

theorem valD_dig (n : Nat) : valD 0 (dig n) = n := by
  induction n using Nat.strongRecOn with
  | ind n ih =>
    by_cases h : n < 10
    · rw [dig_small h]; simp only [valD, List.foldl_cons, List.foldl_nil]; rw [dgt_nat h]; omega
    · rw [dig_big h, valD_app, ih _ (by omega)]
      simp only [valD, List.foldl_cons, List.foldl_nil]; rw [dgt_nat (by omega)]; omega

theorem dig_inj {m n : Nat} (h : dig m = dig n) : m = n := by rw [← valD_dig m, h, valD_dig]

theorem valD_mono (v : Nat) (s : List UInt8) : v ≤ valD v s := by
  induction s generalizing v with
  | nil => exact Nat.le_refl _
  | cons c r ih =>
    have := ih (v * 10 + (c.toNat - 48))
    simp only [valD, List.foldl_cons] at this ⊢
    omega

theorem f107_eq : ∀ (n : Nat), n < 9223372036854775808 → f107 (n : Int) = some (dig n) := by
  intro n
  induction n using Nat.strongRecOn with
  | ind n ih =>
    intro hn
    rw [f107]
    by_cases h : n < 10
    · have h1 : ((n : Int) < 10) := by omega
      rw [if_pos (by simpa using h1), dig_small h, wrap_id (by omega) (by omega), wrap8_id (by omega) (by omega)]
      simp only [bytesS, List.map_cons, List.map_nil, dgt]
      congr 3
    · have h1 : ¬ ((n : Int) < 10) := by omega
      rw [if_neg (by simpa using h1)]
      have e1 : Int.tdiv (n : Int) 10 = ((n / 10 : Nat) : Int) := by
        rw [Int.tdiv_eq_ediv_of_nonneg (by omega)]; omega
      have e2 : Int.tmod (n : Int) 10 = ((n % 10 : Nat) : Int) := by
        rw [Int.tmod_eq_emod_of_nonneg (by omega)]; omega
      rw [e1, e2, wrap_id (x := ((n / 10 : Nat) : Int)) (by omega) (by omega), ih _ (by omega) (by omega), wrap_id (by omega) (by omega), wrap8_id (by omega) (by omega)]
      have e3 : bytesS [(48 + ((n % 10 : Nat) : Int))] = [dgt (n % 10)] := by
        simp only [bytesS, List.map_cons, List.map_nil, dgt]
        congr 2
      have hl := dig_len 18 (n / 10) (by omega)
      simp only [Option.bind_eq_bind, Option.bind_some, e3]
      rw [if_pos (by simp only [List.length_cons, List.length_nil]; omega), dig_big h]

/-! ### Digits read -/
theorem f85_loop (s : List UInt8) (hs : s.length < 9223372036854775808) : ∀ (k n : Nat) (v : Nat), n + k = s.length → v ≤ 10995116277769 →
    (f85_l0 s (v : Int) (n : Int) = some (.inr (-1)) ∧ ¬ ((∀ c ∈ s.drop n, 48 ≤ c.toNat ∧ c.toNat ≤ 57) ∧ valD v (s.drop n) ≤ 1099511627776)) ∨ (∃ w : Nat, w = valD v (s.drop n) ∧ w ≤ 10995116277769 ∧ f85_l0 s (v : Int) (n : Int) = some (.inl ((w : Int), (s.length : Int))))
  | 0, n, v, h, hv => by
    rw [f85_l0]
    have : n = s.length := by omega
    subst this
    refine .inr ⟨v, ?_, hv, ?_⟩
    · simp [valD]
    · simp
  | k + 1, n, v, h, hv => by
    rw [f85_l0]
    have hn : n < s.length := by omega
    have hw : IntKind.wrap .i64 ((n : Int) + 1) = ((n + 1 : Nat) : Int) := by rw [wrap_id (by omega) (by omega)]; omega
    have hd : s.drop n = s[n] :: s.drop (n + 1) := by simp
    have h1 : ((n : Int) < (s.length : Int)) := by omega
    have h0 : (0 : Int) ≤ (n : Int) := by omega
    rw [btS_at hn, hw, hd]
    simp only [h1, h0, decide_true, if_true, and_self]
    by_cases c1 : s[n].toNat < 48
    · refine .inl ⟨?_, ?_⟩
      · rw [if_pos (by simp; omega)]
      · intro hc
        have := (hc.1 _ List.mem_cons_self).1
        omega
    rw [if_neg (by simp; omega)]
    by_cases c2 : 57 < s[n].toNat
    · refine .inl ⟨?_, ?_⟩
      · rw [if_pos (by simp; left; omega)]
      · intro hc
        have := (hc.1 _ List.mem_cons_self).2
        omega
    by_cases c3 : 1099511627776 < v
    · refine .inl ⟨?_, ?_⟩
      · rw [if_pos (by simp; right; omega)]
      · intro hc
        have := hc.2
        have := valD_mono v (s[n] :: s.drop (n + 1))
        omega
    rw [if_neg (by simp; omega)]
    have e1 : IntKind.wrap .i64 (IntKind.wrap .i64 ((v : Int) * 10) + IntKind.wrap .i64 (IntKind.wrap .u8 ((s[n].toNat : Int) - 48))) = ((v * 10 + (s[n].toNat - 48) : Nat) : Int) := by
      rw [wrap8_id (by omega) (by omega), wrap_id (x := (s[n].toNat : Int) - 48) (by omega) (by omega), wrap_id (x := (v : Int) * 10) (by omega) (by omega), wrap_id (by omega) (by omega)]
      omega
    rw [e1]
    rcases f85_loop s hs k (n + 1) (v * 10 + (s[n].toNat - 48)) (by omega) (by omega) with ⟨i1, i2⟩ | ⟨w, i1, i2, i3⟩
    · refine .inl ⟨i1, fun hc => i2 ⟨fun c hc2 => hc.1 c (List.mem_cons_of_mem _ hc2), ?_⟩⟩
      have := hc.2
      rwa [valD_cons] at this
    · exact .inr ⟨w, by rw [i1, valD_cons], i2, i3⟩

/-- The number that a name's last part is; below 0: none. -/
def numD (s : List UInt8) : Int := (f85 s).getD (-1)

theorem f85_spec {s : List UInt8} (hs : s.length < 9223372036854775808) : (f85 s = some (-1) ∧ ∀ n : Nat, n ≤ 1099511627776 → s ≠ dig n) ∨ ∃ n : Nat, n ≤ 1099511627776 ∧ s = dig n ∧ f85 s = some (n : Int) := by
  have h0 := f85_loop s hs s.length 0 0 (by omega) (by omega)
  rw [show (((0 : Nat) : Int)) = (0 : Int) from rfl, List.drop_zero] at h0
  unfold f85
  rcases h0 with ⟨h1, h2⟩ | ⟨w, h1, h2, h3⟩
  · refine .inl ⟨by rw [h1]; rfl, fun n hn e => h2 ⟨?_, ?_⟩⟩
    · rw [e]; exact dig_all n
    · rw [e, valD_dig]; exact hn
  · rw [h3]
    simp only [Option.bind_eq_bind, Option.bind_some]
    by_cases c1 : s = []
    · refine .inl ⟨by rw [if_pos (by simp [c1])], fun n hn e => ?_⟩
      have := dig_pos n
      rw [← e, c1] at this
      simp at this
    by_cases c2 : 1099511627776 < w
    · refine .inl ⟨by rw [if_pos (by simp; right; omega)], fun n hn e => ?_⟩
      rw [h1, e, valD_dig] at c2; omega
    rw [if_neg (by simp [c1]; omega), f107_eq w (by omega)]
    simp only [Option.bind_some]
    by_cases c3 : dig w = s
    · exact .inr ⟨w, by omega, c3.symm, by rw [if_neg (by simp [c3])]⟩
    · refine .inl ⟨by rw [if_pos (by simpa using c3)], fun n hn e => c3 ?_⟩
      rw [h1, e, valD_dig]

theorem f85_dig {n : Nat} (hn : n ≤ 1099511627776) : f85 (dig n) = some (n : Int) := by
  have hl := dig_len13 hn
  rcases f85_spec (s := dig n) (by omega) with ⟨_, h⟩ | ⟨m, h1, h2, h3⟩
  · exact absurd rfl (h n hn)
  · rw [h3, dig_inj h2]

/-! ### Names -/
abbrev nmA : List UInt8 := [97, 108, 108]
abbrev newN : List UInt8 := [97, 108, 108, 46, 110, 101, 119]
/-- The name of a state's file. -/
def fileN (n : Nat) : List UInt8 := [97, 108, 108, 46] ++ dig n

theorem fileN_inj {m n : Nat} (h : fileN m = fileN n) : m = n := dig_inj (List.append_cancel_left h)

theorem newN_not (n : Nat) : fileN n ≠ newN := by
  intro h
  have h1 : dig n = [110, 101, 119] := by
    have h2 : [97, 108, 108, 46] ++ dig n = [97, 108, 108, 46] ++ [110, 101, 119] := h
    exact List.append_cancel_left h2
  have := (dig_all n 110 (by rw [h1]; decide)).2
  exact absurd this (by decide)

theorem fileN_len {n : Nat} (h : n ≤ 1099511627776) : (fileN n).length ≤ 17 := by
  have := dig_len13 h
  unfold fileN
  rw [List.length_append]; simp only [List.length_cons, List.length_nil]; omega

theorem okc_dig {c : UInt8} (h : 48 ≤ c.toNat ∧ c.toNat ≤ 57) : okc c = true := by
  unfold okc
  simp only [Bool.or_eq_true, Bool.and_eq_true, decide_eq_true_eq, beq_iff_eq]
  omega

theorem okName_file {n : Nat} (h : n ≤ 1099511627776) : okName (fileN n) = true := by
  have hl := fileN_len h
  unfold okName
  have h1 : (fileN n).all okc = true := by
    unfold fileN
    rw [List.all_append, Bool.and_eq_true]
    refine ⟨by decide, List.all_eq_true.2 (fun c hc => okc_dig (dig_all n c hc))⟩
  have h2 : 0 < (fileN n).length := by unfold fileN; rw [List.length_append]; simp only [List.length_cons]; omega
  rw [h1]
  simp only [Bool.true_and, Bool.and_eq_true, decide_eq_true_eq]
  omega

theorem okName_new : okName newN = true := by decide
theorem f82_all : f82 nmA = some true := by
  unfold f82
  rw [f82_l0, f82_l0, f82_l0, f82_l0]
  rfl
end Go.Proofs.Ytlfemhkabjafeaa.M

/- Printed by own program: twins and walks. -/
set_option linter.unusedVariables false
set_option maxRecDepth 100000
namespace Go.Proofs.Ytlfemhkabjafeaa.M
open Go.Proofs (Try.prog Try.func42 Try.f42 Try.func110 Try.f110 Try.func151 Try.f151 Try.func138 Try.f138 Try.func111 Try.f111 Try.func89 Try.f89 Try.func108 Try.f108)

def f42_l0 (p0 : List Int) (p1 : List Int) (x7 : Int) : Option (Sum Int Bool) :=
  if (decide (x7 < (p0.length : Int))) = true then
  (ix p0 x7) >>= fun x16 =>
  (ix p1 x7) >>= fun x17 =>
  if (x16 != x17) = true then
  some (.inr false)
  else
  f42_l0 p0 p1 (IntKind.wrap .i64 (x7 + 1))
  else
  some (.inl x7)
  partial_fixpoint

def f42 (p0 : List Int) (p1 : List Int) : Option Bool :=
  if ((p0.length : Int) != (p1.length : Int)) = true then
  some false
  else
  f42_l0 p0 p1 0 >>= fun rr20 => (match rr20 with
  | .inr yy => some yy
  | .inl z19 =>
  some true)

theorem f42_ok {p0 : List Int} {p1 : List Int} {σ : St} {p : Bool} (h : f42 p0 p1 = some p) : Spec Try.prog 42 [.kv (.list .i) p0, .kv (.list .i) p1] (tabs σ) (.kv .bool p) (tabs σ) := by
  refine Spec.intro Try.func42 (by kernel_rfl) rfl (by kernel_rfl) (fun a w G0 Ls hE hH hN => ?_)
  have hle : G0.le G0 := Gh.le_refl G0
  unfold f42 at h
  refine wp_seq_k (fun K hK1 => ?_)
  refine wp_region_from ?_
  refine segO 1 [] [(4, .kv .bool false)] (Os := []) trivial hE hH (by kernel_rfl) (fun a hE => ?_)
  refine wpFrom_end (by kernel_rfl) ?_
  refine Exit.then_normal (hK1 _ _ ?_)
  refine wp_seq_k (fun K hK2 => ?_)
  refine wp_seq_k (fun K hK3 => ?_)
  refine wp_region_from ?_
  refine segO 5 [] [(10, .kv .bool ((p0.length : Int) != (p1.length : Int)))] (Os := []) trivial hE hH (by kernel_rfl) (fun a hE => ?_)
  refine wpFrom_end (by kernel_rfl) ?_
  refine Exit.then_normal (hK3 _ _ ?_)
  refine condE (b := (p0.length : Int) != (p1.length : Int)) hE (by kernel_rfl) (fun hc => ?_) (fun hc => ?_)
  · replace h := ifT hc h
    refine wp_seq_k (fun K hK4 => ?_)
    refine wp_region_from ?_
    refine segO 1 [] [(4, .kv .bool false)] (Os := []) trivial hE hH (by kernel_rfl) (fun a hE => ?_)
    refine wpFrom_end (by kernel_rfl) ?_
    refine Exit.then_normal (hK4 _ _ ?_)
    refine wp_ret ?_
    refine Exit.then_ret ?_
    cases h
    exact ret1 rfl hE hle hH (by kernel_rfl)
  · replace h := ifF hc h
    refine wp_skip ?_
    refine Exit.then_normal (hK2 _ _ ?_)
    refine wp_seq_k (fun K hK5 => ?_)
    refine wp_seq_k (fun K hK6 => ?_)
    refine wp_region_from ?_
    refine segO 1 [] [(5, .kv .i 0)] (Os := []) trivial hE hH (by kernel_rfl) (fun a hE => ?_)
    refine wpFrom_end (by kernel_rfl) ?_
    refine Exit.then_normal (hK6 _ _ ?_)
    refine wp_block ?_
    obtain ⟨rr20, hrr20, h⟩ := bs h
    refine loop_intro (fun Q8 c hQ hc => ?_)
    have key : ∀ (x7 : Int) (rr : Sum Int Bool), f42_l0 p0 p1 x7 = some rr → ∀ (a : Act) (w : World) (G : Gh), G0.le G → EnvR G 26 a [(0, .kv (.list .i) p0), (1, .kv (.list .i) p1), (4, .kv .bool false), (5, .kv .i x7)] → Holds w G (tabs σ) (Ls) → (∀ z19 : Int, rr = .inl z19 → ∀ (a : Act) (w : World) (G : Gh), G0.le G → EnvR G 26 a [(0, .kv (.list .i) p0), (1, .kv (.list .i) p1), (4, .kv .bool false), (5, .kv .i z19)] → Holds w G (tabs σ) (Ls) → Q8 (.exit 0) a w) → (∀ yy : Bool, rr = .inr yy → ∀ (a : Act) (w : World), PostB Try.prog Try.f42 G0 (.kv .bool yy) (tabs σ) Ls .ret a w → Q8 .ret a w) → Rnd Try.prog c Q8 a w := by
      refine f42_l0.partial_correctness p0 p1 _ ?_
      intro self ih11 x7 rr h a w G  hle hE hH hx9 hret10
      refine rnd_step' hc ?_
      refine wp_seq_k (fun K hK12 => ?_)
      refine wp_seq_k (fun K hK13 => ?_)
      refine wp_region_from ?_
      refine segO 4 [] [(14, .kv .bool (decide (x7 < (p0.length : Int))))] (Os := []) trivial hE hH (by kernel_rfl) (fun a hE => ?_)
      refine wpFrom_end (by kernel_rfl) ?_
      refine Exit.then_normal (hK13 _ _ ?_)
      refine condE (b := decide (x7 < (p0.length : Int))) hE (by kernel_rfl) (fun hc => ?_) (fun hc => ?_)
      · replace h := ifT hc h
        refine wp_skip ?_
        refine Exit.then_normal (hK12 _ _ ?_)
        refine wp_seq_k (fun K hK14 => ?_)
        refine wp_block ?_
        refine wp_seq_k (fun K hK15 => ?_)
        obtain ⟨x16, hx16, h⟩ := bs h
        obtain ⟨x17, hx17, h⟩ := bs h
        refine region_par 8 [] [(0, 0), (0, 0), (0, 0), (0, 0), (0, 0), (0, 0), (0, 0), (0, 0)] [.kv (.list .i) p0, .kv .i x7, .elA .i x16 0, .kv .i x16, .kv (.list .i) p1, .kv .i x7, .elA .i x17 0, .kv .i x17] (fun _ => tabs σ) (fun _ => Ls) (by kernel_rfl) (by kernel_rfl) hE hH
                ⟨⟨⟨⟨⟨⟨⟨⟨trivial,
                anyk (fun k => obR [] (Os := []) trivial (by kernel_rfl) (by kernel_rfl))⟩,
                anyk (fun k => obR [] (Os := []) trivial (by kernel_rfl) (by kernel_rfl))⟩,
                anyk (fun k => obR [.ix .i x16] (Os := [_]) ⟨(IxAt.of (k := .i) hx16), trivial⟩ (by kernel_rfl) (by kernel_rfl))⟩,
                anyk (fun k => obR [] (Os := []) trivial (by kernel_rfl) (by kernel_rfl))⟩,
                anyk (fun k => obR [] (Os := []) trivial (by kernel_rfl) (by kernel_rfl))⟩,
                anyk (fun k => obR [] (Os := []) trivial (by kernel_rfl) (by kernel_rfl))⟩,
                anyk (fun k => obR [.ix .i x17] (Os := [_]) ⟨(IxAt.of (k := .i) hx17), trivial⟩ (by kernel_rfl) (by kernel_rfl))⟩,
                anyk (fun k => obR [] (Os := []) trivial (by kernel_rfl) (by kernel_rfl))⟩ (fun a w G hl1 hE hH => ?_)
        have hle := Gh.le_trans hle hl1
        refine segO 1 [] [(25, .kv .bool (x16 != x17))] (Os := []) trivial hE hH (by kernel_rfl) (fun a hE => ?_)
        refine wpFrom_end (by kernel_rfl) ?_
        refine Exit.then_normal (hK15 _ _ ?_)
        refine condE (b := x16 != x17) hE (by kernel_rfl) (fun hc => ?_) (fun hc => ?_)
        · replace h := ifT hc h
          refine wp_seq_k (fun K hK18 => ?_)
          refine wp_region_from ?_
          refine segO 1 [] [(4, .kv .bool false)] (Os := []) trivial hE hH (by kernel_rfl) (fun a hE => ?_)
          refine wpFrom_end (by kernel_rfl) ?_
          refine Exit.then_normal (hK18 _ _ ?_)
          refine wp_ret ?_
          refine Exit.in_ret ?_
          refine Exit.then_ret ?_
          refine Exit.then_ret ?_
          cases h
          exact hret10 _ rfl _ _ (ret1 rfl hE hle hH (by kernel_rfl))
        · replace h := ifF hc h
          refine wp_skip ?_
          refine Exit.in_normal ?_
          refine Exit.then_normal (hK14 _ _ ?_)
          refine wp_region_from ?_
          refine segO 3 [] [(5, .kv .i (IntKind.wrap .i64 (x7 + 1)))] (Os := []) trivial hE hH (by kernel_rfl) (fun a hE => ?_)
          refine wpFrom_end (by kernel_rfl) ?_
          refine Exit.then_normal ?_
          exact ih11 _ _ h _ _ _  hle (hE.subC (by kernel_rfl)) hH hx9 hret10
      · replace h := ifF hc h
        refine wp_exit ?_
        refine Exit.then_exit ?_
        refine Exit.then_exit ?_
        cases h
        exact hx9 _ rfl _ _ _  hle (hE.subC (by kernel_rfl)) hH
    refine key _ _ hrr20 _ _ _  hle (hE.subC (by kernel_rfl)) hH ?_ ?_
    · intro z19 hz a w G  hle hE hH
      subst hz
      rw [hQ]
      dsimp only at h
      refine Exit.in_eq ?_
      refine Exit.then_normal (hK5 _ _ ?_)
      refine wp_seq_k (fun K hK21 => ?_)
      refine wp_region_from ?_
      refine segO 1 [] [(4, .kv .bool true)] (Os := []) trivial hE hH (by kernel_rfl) (fun a hE => ?_)
      refine wpFrom_end (by kernel_rfl) ?_
      refine Exit.then_normal (hK21 _ _ ?_)
      refine wp_ret ?_
      cases h
      exact ret1 rfl hE hle hH (by kernel_rfl)
    · intro yy hz a w hp
      subst hz
      dsimp only at h
      cases h
      rw [hQ]
      refine Exit.in_ret ?_
      refine Exit.then_ret ?_
      exact hp

def f110 (p0 : Int) : Option (List UInt8) :=
  some (bytesS [IntKind.wrap .u8 (p0), IntKind.wrap .u8 (Int.fdiv p0 (2 ^ 8)), IntKind.wrap .u8 (Int.fdiv p0 (2 ^ 16)), IntKind.wrap .u8 (Int.fdiv p0 (2 ^ 24))])

theorem f110_ok {p0 : Int} {σ : St} {p : List UInt8} (h : f110 p0 = some p) : Spec Try.prog 110 [.kv (.int .u32) p0] (tabs σ) (.kv .str p) (tabs σ) := by
  refine Spec.intro Try.func110 (by kernel_rfl) rfl (by kernel_rfl) (fun a w G0 Ls hE hH hN => ?_)
  have hle : G0.le G0 := Gh.le_refl G0
  unfold f110 at h
  refine wp_seq_k (fun K hK1 => ?_)
  refine wp_region_from ?_
  refine segO 1 [] [(2, .kv .str [])] (Os := []) trivial hE hH (by kernel_rfl) (fun a hE => ?_)
  refine wpFrom_end (by kernel_rfl) ?_
  refine Exit.then_normal (hK1 _ _ ?_)
  refine wp_seq_k (fun K hK2 => ?_)
  refine wp_region_from ?_
  refine segO 11 [] [(4, .kv (.int .u8) (IntKind.wrap .u8 (p0))), (7, .kv (.int .u8) (IntKind.wrap .u8 (Int.fdiv p0 (2 ^ 8)))), (10, .kv (.int .u8) (IntKind.wrap .u8 (Int.fdiv p0 (2 ^ 16)))), (13, .kv (.int .u8) (IntKind.wrap .u8 (Int.fdiv p0 (2 ^ 24))))] (Os := [_, _, _]) ⟨(by decide : (0 : Int) ≤ 8), (by decide : (0 : Int) ≤ 16), (by decide : (0 : Int) ≤ 24), trivial⟩ hE hH (by kernel_rfl) (fun a hE => ?_)
  refine stepBuildS (d := (some 14)) (.int .u8) [IntKind.wrap .u8 (p0), IntKind.wrap .u8 (Int.fdiv p0 (2 ^ 8)), IntKind.wrap .u8 (Int.fdiv p0 (2 ^ 16)), IntKind.wrap .u8 (Int.fdiv p0 (2 ^ 24))] hE hH (by kernel_rfl) (by kernel_rfl) (fun a w G hl1 hE hH => ?_)
  have hle := Gh.le_trans hle hl1
  refine segO 2 [] [(2, .kv .str (bytesS [IntKind.wrap .u8 (p0), IntKind.wrap .u8 (Int.fdiv p0 (2 ^ 8)), IntKind.wrap .u8 (Int.fdiv p0 (2 ^ 16)), IntKind.wrap .u8 (Int.fdiv p0 (2 ^ 24))]))] (Os := []) trivial hE hH (by kernel_rfl) (fun a hE => ?_)
  refine wpFrom_end (by kernel_rfl) ?_
  refine Exit.then_normal (hK2 _ _ ?_)
  refine wp_ret ?_
  cases h
  exact ret1 rfl hE hle hH (by kernel_rfl)

def f151_l0  (x5 : Int) (x6 : Int) : Option (Int × Int) :=
  if (decide (x6 < 8)) = true then
  if ((IntKind.wrap .u32 ((BitVec.ofInt (IntKind.bits .u32) x5 &&& BitVec.ofInt (IntKind.bits .u32) 1).toNat)) == 1) = true then
  f151_l0 (IntKind.wrap .u32 ((BitVec.ofInt (IntKind.bits .u32) (Int.fdiv x5 (2 ^ 1)) ^^^ BitVec.ofInt (IntKind.bits .u32) 2197175160).toNat)) (IntKind.wrap .i64 (x6 + 1))
  else
  f151_l0 (Int.fdiv x5 (2 ^ 1)) (IntKind.wrap .i64 (x6 + 1))
  else
  some ((x5, x6))
  partial_fixpoint

def f151 (p0 : Int) (p1 : Int) : Option Int :=
  f151_l0  (IntKind.wrap .u32 ((BitVec.ofInt (IntKind.bits .u32) p0 ^^^ BitVec.ofInt (IntKind.bits .u32) (IntKind.wrap .u32 (p1))).toNat)) 0 >>= fun z17 =>
  some z17.1

theorem f151_ok {p0 : Int} {p1 : Int} {σ : St} {p : Int} (h : f151 p0 p1 = some p) : Spec Try.prog 151 [.kv (.int .u32) p0, .kv (.int .u8) p1] (tabs σ) (.kv (.int .u32) p) (tabs σ) := by
  refine Spec.intro Try.func151 (by kernel_rfl) rfl (by kernel_rfl) (fun a w G0 Ls hE hH hN => ?_)
  have hle : G0.le G0 := Gh.le_refl G0
  unfold f151 at h
  refine wp_seq_k (fun K hK1 => ?_)
  refine wp_region_from ?_
  refine segO 1 [] [(4, .kv (.int .u32) 0)] (Os := []) trivial hE hH (by kernel_rfl) (fun a hE => ?_)
  refine wpFrom_end (by kernel_rfl) ?_
  refine Exit.then_normal (hK1 _ _ ?_)
  refine wp_seq_k (fun K hK2 => ?_)
  refine wp_region_from ?_
  refine segO 5 [] [(0, .kv (.int .u32) (IntKind.wrap .u32 ((BitVec.ofInt (IntKind.bits .u32) p0 ^^^ BitVec.ofInt (IntKind.bits .u32) (IntKind.wrap .u32 (p1))).toNat)))] (Os := []) trivial hE hH (by kernel_rfl) (fun a hE => ?_)
  refine wpFrom_end (by kernel_rfl) ?_
  refine Exit.then_normal (hK2 _ _ ?_)
  refine wp_seq_k (fun K hK3 => ?_)
  refine wp_seq_k (fun K hK4 => ?_)
  refine wp_region_from ?_
  refine segO 1 [] [(10, .kv .i 0)] (Os := []) trivial hE hH (by kernel_rfl) (fun a hE => ?_)
  refine wpFrom_end (by kernel_rfl) ?_
  refine Exit.then_normal (hK4 _ _ ?_)
  refine wp_block ?_
  obtain ⟨z17, hz17, h⟩ := bs h
  refine loop_intro (fun Q7 c hQ hc => ?_)
  have key : ∀ (x5 : Int) (x6 : Int) (rr : Int × Int), f151_l0  x5 x6 = some rr → ∀ (a : Act) (w : World) (G : Gh), G0.le G → EnvR G 22 a [(0, .kv (.int .u32) x5), (4, .kv (.int .u32) 0), (10, .kv .i x6)] → Holds w G (tabs σ) (Ls) → (∀ z18 : Int × Int, rr = z18 → ∀ (a : Act) (w : World) (G : Gh), G0.le G → EnvR G 22 a [(0, .kv (.int .u32) z18.1), (4, .kv (.int .u32) 0), (10, .kv .i z18.2)] → Holds w G (tabs σ) (Ls) → Q7 (.exit 0) a w) → Rnd Try.prog c Q7 a w := by
    refine f151_l0.partial_correctness  _ ?_
    intro self ih10 x5 x6 rr h a w G  hle hE hH hx8
    refine rnd_step' hc ?_
    refine wp_seq_k (fun K hK11 => ?_)
    refine wp_region_from ?_
    refine segO 1 [] [(11, .kv .bool (decide (x6 < 8)))] (Os := []) trivial hE hH (by kernel_rfl) (fun a hE => ?_)
    refine wpFrom_end (by kernel_rfl) ?_
    refine Exit.then_normal (hK11 _ _ ?_)
    refine wp_seq_k (fun K hK12 => ?_)
    refine condE (b := decide (x6 < 8)) hE (by kernel_rfl) (fun hc => ?_) (fun hc => ?_)
    · replace h := ifT hc h
      refine wp_skip ?_
      refine Exit.then_normal (hK12 _ _ ?_)
      refine wp_seq_k (fun K hK13 => ?_)
      refine wp_block ?_
      refine wp_seq_k (fun K hK14 => ?_)
      refine wp_region_from ?_
      refine segO 3 [] [(5, .kv (.int .u32) (IntKind.wrap .u32 ((BitVec.ofInt (IntKind.bits .u32) x5 &&& BitVec.ofInt (IntKind.bits .u32) 1).toNat)))] (Os := []) trivial hE hH (by kernel_rfl) (fun a hE => ?_)
      refine wpFrom_end (by kernel_rfl) ?_
      refine Exit.then_normal (hK14 _ _ ?_)
      refine wp_seq_k (fun K hK15 => ?_)
      refine wp_region_from ?_
      refine segO 3 [] [(0, .kv (.int .u32) (Int.fdiv x5 (2 ^ 1)))] (Os := [_]) ⟨(by decide : (0 : Int) ≤ 1), trivial⟩ hE hH (by kernel_rfl) (fun a hE => ?_)
      refine wpFrom_end (by kernel_rfl) ?_
      refine Exit.then_normal (hK15 _ _ ?_)
      refine wp_seq_k (fun K hK16 => ?_)
      refine wp_region_from ?_
      refine segO 2 [] [(17, .kv .bool ((IntKind.wrap .u32 ((BitVec.ofInt (IntKind.bits .u32) x5 &&& BitVec.ofInt (IntKind.bits .u32) 1).toNat)) == 1))] (Os := []) trivial hE hH (by kernel_rfl) (fun a hE => ?_)
      refine wpFrom_end (by kernel_rfl) ?_
      refine Exit.then_normal (hK16 _ _ ?_)
      refine condE (b := (IntKind.wrap .u32 ((BitVec.ofInt (IntKind.bits .u32) x5 &&& BitVec.ofInt (IntKind.bits .u32) 1).toNat)) == 1) hE (by kernel_rfl) (fun hc => ?_) (fun hc => ?_)
      · replace h := ifT hc h
        refine wp_region_from ?_
        refine segO 3 [] [(0, .kv (.int .u32) (IntKind.wrap .u32 ((BitVec.ofInt (IntKind.bits .u32) (Int.fdiv x5 (2 ^ 1)) ^^^ BitVec.ofInt (IntKind.bits .u32) 2197175160).toNat)))] (Os := []) trivial hE hH (by kernel_rfl) (fun a hE => ?_)
        refine wpFrom_end (by kernel_rfl) ?_
        refine Exit.in_normal ?_
        refine Exit.then_normal (hK13 _ _ ?_)
        refine wp_region_from ?_
        refine segO 2 [] [(10, .kv .i (IntKind.wrap .i64 (x6 + 1)))] (Os := []) trivial hE hH (by kernel_rfl) (fun a hE => ?_)
        refine wpFrom_end (by kernel_rfl) ?_
        refine Exit.then_normal ?_
        exact ih10 _ _ _ h _ _ _  hle (hE.subC (by kernel_rfl)) hH hx8
      · replace h := ifF hc h
        refine wp_skip ?_
        refine Exit.in_normal ?_
        refine Exit.then_normal (hK13 _ _ ?_)
        refine wp_region_from ?_
        refine segO 2 [] [(10, .kv .i (IntKind.wrap .i64 (x6 + 1)))] (Os := []) trivial hE hH (by kernel_rfl) (fun a hE => ?_)
        refine wpFrom_end (by kernel_rfl) ?_
        refine Exit.then_normal ?_
        exact ih10 _ _ _ h _ _ _  hle (hE.subC (by kernel_rfl)) hH hx8
    · replace h := ifF hc h
      refine wp_exit ?_
      refine Exit.then_exit ?_
      refine Exit.then_exit ?_
      cases h
      exact hx8 _ rfl _ _ _  hle (hE.subC (by kernel_rfl)) hH
  refine key _ _ _ hz17 _ _ _  hle (hE.subC (by kernel_rfl)) hH ?_
  · intro z18 hz a w G  hle hE hH
    subst hz
    rw [hQ]
    refine Exit.in_eq ?_
    refine Exit.then_normal (hK3 _ _ ?_)
    refine wp_seq_k (fun K hK19 => ?_)
    refine wp_region_from ?_
    refine segO 2 [] [(4, .kv (.int .u32) z17.1)] (Os := []) trivial hE hH (by kernel_rfl) (fun a hE => ?_)
    refine wpFrom_end (by kernel_rfl) ?_
    refine Exit.then_normal (hK19 _ _ ?_)
    refine wp_ret ?_
    cases h
    exact ret1 rfl hE hle hH (by kernel_rfl)

def f138_l0 (p1 : List UInt8) (x5 : Int) (x6 : Int) : Option (Int × Int) :=
  if (decide (x6 < (p1.length : Int))) = true then
  if (0 : Int) ≤ x6 ∧ x6 < (p1.length : Int) then
  f151 x5 (btS p1 x6) >>= fun r16 =>
  f138_l0 p1 r16 (IntKind.wrap .i64 (x6 + 1))
  else none
  else
  some ((x5, x6))
  partial_fixpoint

def f138 (p0 : Int) (p1 : List UInt8) : Option Int :=
  f138_l0 p1 (IntKind.wrap .u32 ((BitVec.ofInt (IntKind.bits .u32) (if IntKind.signed .u32 = true then -1 else IntKind.max .u32) ^^^ BitVec.ofInt (IntKind.bits .u32) p0).toNat)) 0 >>= fun z17 =>
  some (IntKind.wrap .u32 ((BitVec.ofInt (IntKind.bits .u32) (if IntKind.signed .u32 = true then -1 else IntKind.max .u32) ^^^ BitVec.ofInt (IntKind.bits .u32) z17.1).toNat))

theorem f138_ok {p0 : Int} {p1 : List UInt8} {σ : St} {p : Int} (h : f138 p0 p1 = some p) : Spec Try.prog 138 [.kv (.int .u32) p0, .kv .str p1] (tabs σ) (.kv (.int .u32) p) (tabs σ) := by
  refine Spec.intro Try.func138 (by kernel_rfl) rfl (by kernel_rfl) (fun a w G0 Ls hE hH hN => ?_)
  have hle : G0.le G0 := Gh.le_refl G0
  unfold f138 at h
  refine wp_seq_k (fun K hK1 => ?_)
  refine wp_region_from ?_
  refine segO 1 [] [(4, .kv (.int .u32) 0)] (Os := []) trivial hE hH (by kernel_rfl) (fun a hE => ?_)
  refine wpFrom_end (by kernel_rfl) ?_
  refine Exit.then_normal (hK1 _ _ ?_)
  refine wp_seq_k (fun K hK2 => ?_)
  refine wp_region_from ?_
  refine segO 3 [] [(5, .kv (.int .u32) (IntKind.wrap .u32 ((BitVec.ofInt (IntKind.bits .u32) (if IntKind.signed .u32 = true then -1 else IntKind.max .u32) ^^^ BitVec.ofInt (IntKind.bits .u32) p0).toNat)))] (Os := []) trivial hE hH (by kernel_rfl) (fun a hE => ?_)
  refine wpFrom_end (by kernel_rfl) ?_
  refine Exit.then_normal (hK2 _ _ ?_)
  refine wp_seq_k (fun K hK3 => ?_)
  refine wp_seq_k (fun K hK4 => ?_)
  refine wp_region_from ?_
  refine segO 3 [] [(10, .kv .i (p1.length : Int)), (11, .kv .i 0)] (Os := []) trivial hE hH (by kernel_rfl) (fun a hE => ?_)
  refine wpFrom_end (by kernel_rfl) ?_
  refine Exit.then_normal (hK4 _ _ ?_)
  refine wp_block ?_
  obtain ⟨z17, hz17, h⟩ := bs h
  refine loop_intro (fun Q7 c hQ hc => ?_)
  have key : ∀ (x5 : Int) (x6 : Int) (rr : Int × Int), f138_l0 p1 x5 x6 = some rr → ∀ (a : Act) (w : World) (G : Gh), G0.le G → EnvR G 22 a [(1, .kv .str p1), (4, .kv (.int .u32) 0), (5, .kv (.int .u32) x5), (10, .kv .i (p1.length : Int)), (11, .kv .i x6)] → Holds w G (tabs σ) (Ls) → (∀ z18 : Int × Int, rr = z18 → ∀ (a : Act) (w : World) (G : Gh), G0.le G → EnvR G 22 a [(1, .kv .str p1), (4, .kv (.int .u32) 0), (5, .kv (.int .u32) z18.1), (10, .kv .i (p1.length : Int)), (11, .kv .i z18.2)] → Holds w G (tabs σ) (Ls) → Q7 (.exit 0) a w) → Rnd Try.prog c Q7 a w := by
    refine f138_l0.partial_correctness p1 _ ?_
    intro self ih10 x5 x6 rr h a w G  hle hE hH hx8
    refine rnd_step' hc ?_
    refine wp_seq_k (fun K hK11 => ?_)
    refine wp_region_from ?_
    refine segO 1 [] [(12, .kv .bool (decide (x6 < (p1.length : Int))))] (Os := []) trivial hE hH (by kernel_rfl) (fun a hE => ?_)
    refine wpFrom_end (by kernel_rfl) ?_
    refine Exit.then_normal (hK11 _ _ ?_)
    refine wp_seq_k (fun K hK12 => ?_)
    refine condE (b := decide (x6 < (p1.length : Int))) hE (by kernel_rfl) (fun hc => ?_) (fun hc => ?_)
    · replace h := ifT hc h
      refine wp_skip ?_
      refine Exit.then_normal (hK12 _ _ ?_)
      refine wp_seq_k (fun K hK13 => ?_)
      refine wp_block ?_
      refine wp_seq_k (fun K hK14 => ?_)
      refine wp_region_from ?_
      refine segO 2 [] [(6, .kv .i x6)] (Os := []) trivial hE hH (by kernel_rfl) (fun a hE => ?_)
      refine wpFrom_end (by kernel_rfl) ?_
      refine Exit.then_normal (hK14 _ _ ?_)
      refine wp_region_from ?_
      obtain ⟨q15, h⟩ := gd h
      refine segO 4 [] [(14, .kv (.int .u32) x5), (17, .kv (.int .u8) (btS p1 x6))] (Os := [_]) ⟨q15, trivial⟩ hE hH (by kernel_rfl) (fun a hE => ?_)
      obtain ⟨r16, hr16, h⟩ := bs h
      refine stepCall (d := (some 18)) (f151_ok hr16) hE hH hN (by kernel_rfl) (by kernel_rfl) trivial (fun a w G hl1 hE hH => ?_)
      have hle := Gh.le_trans hle hl1
      refine segO 1 [] [(5, .kv (.int .u32) r16)] (Os := []) trivial hE hH (by kernel_rfl) (fun a hE => ?_)
      refine wpFrom_end (by kernel_rfl) ?_
      refine Exit.in_normal ?_
      refine Exit.then_normal (hK13 _ _ ?_)
      refine wp_region_from ?_
      refine segO 2 [] [(11, .kv .i (IntKind.wrap .i64 (x6 + 1)))] (Os := []) trivial hE hH (by kernel_rfl) (fun a hE => ?_)
      refine wpFrom_end (by kernel_rfl) ?_
      refine Exit.then_normal ?_
      exact ih10 _ _ _ h _ _ _  hle (hE.subC (by kernel_rfl)) hH hx8
    · replace h := ifF hc h
      refine wp_exit ?_
      refine Exit.then_exit ?_
      refine Exit.then_exit ?_
      cases h
      exact hx8 _ rfl _ _ _  hle (hE.subC (by kernel_rfl)) hH
  refine key _ _ _ hz17 _ _ _  hle (hE.subC (by kernel_rfl)) hH ?_
  · intro z18 hz a w G  hle hE hH
    subst hz
    rw [hQ]
    refine Exit.in_eq ?_
    refine Exit.then_normal (hK3 _ _ ?_)
    refine wp_seq_k (fun K hK19 => ?_)
    refine wp_region_from ?_
    refine segO 3 [] [(4, .kv (.int .u32) (IntKind.wrap .u32 ((BitVec.ofInt (IntKind.bits .u32) (if IntKind.signed .u32 = true then -1 else IntKind.max .u32) ^^^ BitVec.ofInt (IntKind.bits .u32) z17.1).toNat)))] (Os := []) trivial hE hH (by kernel_rfl) (fun a hE => ?_)
    refine wpFrom_end (by kernel_rfl) ?_
    refine Exit.then_normal (hK19 _ _ ?_)
    refine wp_ret ?_
    cases h
    exact ret1 rfl hE hle hH (by kernel_rfl)

def f111 (p0 : List UInt8) : Option Int :=
  f138 0 p0 >>= fun r3 =>
  some r3

theorem f111_ok {p0 : List UInt8} {σ : St} {p : Int} (h : f111 p0 = some p) : Spec Try.prog 111 [.kv .str p0] (tabs σ) (.kv (.int .u32) p) (tabs σ) := by
  refine Spec.intro Try.func111 (by kernel_rfl) rfl (by kernel_rfl) (fun a w G0 Ls hE hH hN => ?_)
  have hle : G0.le G0 := Gh.le_refl G0
  unfold f111 at h
  refine wp_seq_k (fun K hK1 => ?_)
  refine wp_region_from ?_
  refine segO 1 [] [(2, .kv (.int .u32) 0)] (Os := []) trivial hE hH (by kernel_rfl) (fun a hE => ?_)
  refine wpFrom_end (by kernel_rfl) ?_
  refine Exit.then_normal (hK1 _ _ ?_)
  refine wp_seq_k (fun K hK2 => ?_)
  refine wp_region_from ?_
  refine segO 1 [] [(3, .kv .str p0)] (Os := []) trivial hE hH (by kernel_rfl) (fun a hE => ?_)
  obtain ⟨r3, hr3, h⟩ := bs h
  refine stepCall (d := (some 4)) (f138_ok hr3) hE hH hN (by kernel_rfl) (by kernel_rfl) trivial (fun a w G hl1 hE hH => ?_)
  have hle := Gh.le_trans hle hl1
  refine segO 1 [] [(2, .kv (.int .u32) r3)] (Os := []) trivial hE hH (by kernel_rfl) (fun a hE => ?_)
  refine wpFrom_end (by kernel_rfl) ?_
  refine Exit.then_normal (hK2 _ _ ?_)
  refine wp_ret ?_
  cases h
  exact ret1 rfl hE hle hH (by kernel_rfl)

def f89 (p0 : List UInt8) : Option (List UInt8) :=
  f111 p0 >>= fun r3 =>
  f110 r3 >>= fun r4 =>
  if p0.length + r4.length ≤ 9223372036854775807 then
  some (p0 ++ r4)
  else none

theorem f89_ok {p0 : List UInt8} {σ : St} {p : List UInt8} (h : f89 p0 = some p) : Spec Try.prog 89 [.kv .str p0] (tabs σ) (.kv .str p) (tabs σ) := by
  refine Spec.intro Try.func89 (by kernel_rfl) rfl (by kernel_rfl) (fun a w G0 Ls hE hH hN => ?_)
  have hle : G0.le G0 := Gh.le_refl G0
  unfold f89 at h
  refine wp_seq_k (fun K hK1 => ?_)
  refine wp_region_from ?_
  refine segO 1 [] [(2, .kv .str [])] (Os := []) trivial hE hH (by kernel_rfl) (fun a hE => ?_)
  refine wpFrom_end (by kernel_rfl) ?_
  refine Exit.then_normal (hK1 _ _ ?_)
  refine wp_seq_k (fun K hK2 => ?_)
  refine wp_region_from ?_
  refine segO 2 [] [(3, .kv .str p0), (4, .kv .str p0)] (Os := []) trivial hE hH (by kernel_rfl) (fun a hE => ?_)
  obtain ⟨r3, hr3, h⟩ := bs h
  refine stepCall (d := (some 5)) (f111_ok hr3) hE hH hN (by kernel_rfl) (by kernel_rfl) trivial (fun a w G hl1 hE hH => ?_)
  have hle := Gh.le_trans hle hl1
  obtain ⟨r4, hr4, h⟩ := bs h
  refine stepCall (d := (some 6)) (f110_ok hr4) hE hH hN (by kernel_rfl) (by kernel_rfl) trivial (fun a w G hl2 hE hH => ?_)
  have hle := Gh.le_trans hle hl2
  obtain ⟨q5, h⟩ := gd h
  refine segO 2 [] [(2, .kv .str (p0 ++ r4))] (Os := [_]) ⟨q5, trivial⟩ hE hH (by kernel_rfl) (fun a hE => ?_)
  refine wpFrom_end (by kernel_rfl) ?_
  refine Exit.then_normal (hK2 _ _ ?_)
  refine wp_ret ?_
  cases h
  exact ret1 rfl hE hle hH (by kernel_rfl)

def f108 (p0 : List UInt8) : Option ((List UInt8) × Int) :=
  if (decide ((IntKind.wrap .i64 ((p0.length : Int) - 4)) < 0)) = true then
  some ([], 5)
  else
  if (0 : Int) ≤ (IntKind.wrap .i64 ((p0.length : Int) - 4)) ∧ (IntKind.wrap .i64 ((p0.length : Int) - 4)) ≤ (p0.length : Int) then
  f111 (p0.take (Int.toNat (IntKind.wrap .i64 ((p0.length : Int) - 4)))) >>= fun r8 =>
  f110 r8 >>= fun r9 =>
  if (0 : Int) ≤ (IntKind.wrap .i64 ((p0.length : Int) - 4)) ∧ (IntKind.wrap .i64 ((p0.length : Int) - 4)) ≤ (p0.length : Int) then
  if (!(r9 == (p0.drop (Int.toNat (IntKind.wrap .i64 ((p0.length : Int) - 4)))))) = true then
  some ([], 7)
  else
  if (0 : Int) ≤ (IntKind.wrap .i64 ((p0.length : Int) - 4)) ∧ (IntKind.wrap .i64 ((p0.length : Int) - 4)) ≤ (p0.length : Int) then
  some (p0.take (Int.toNat (IntKind.wrap .i64 ((p0.length : Int) - 4))), 0)
  else none
  else none
  else none

theorem f108_ok {p0 : List UInt8} {σ : St} {p : (List UInt8) × Int} (h : f108 p0 = some p) : Spec Try.prog 108 [.kv .str p0] (tabs σ) (.tup [⟨.str, p.1⟩, ⟨.i, p.2⟩]) (tabs σ) := by
  refine Spec.intro Try.func108 (by kernel_rfl) rfl (by kernel_rfl) (fun a w G0 Ls hE hH hN => ?_)
  have hle : G0.le G0 := Gh.le_refl G0
  unfold f108 at h
  refine wp_seq_k (fun K hK1 => ?_)
  refine wp_region_from ?_
  refine segO 2 [] [(2, .kv .str []), (3, .kv .i 0)] (Os := []) trivial hE hH (by kernel_rfl) (fun a hE => ?_)
  refine wpFrom_end (by kernel_rfl) ?_
  refine Exit.then_normal (hK1 _ _ ?_)
  refine wp_seq_k (fun K hK2 => ?_)
  refine wp_region_from ?_
  refine segO 4 [] [(4, .kv .i (IntKind.wrap .i64 ((p0.length : Int) - 4)))] (Os := []) trivial hE hH (by kernel_rfl) (fun a hE => ?_)
  refine wpFrom_end (by kernel_rfl) ?_
  refine Exit.then_normal (hK2 _ _ ?_)
  refine wp_seq_k (fun K hK3 => ?_)
  refine wp_block ?_
  refine wp_seq_k (fun K hK4 => ?_)
  refine wp_region_from ?_
  refine segO 3 [] [(8, .kv .bool (decide ((IntKind.wrap .i64 ((p0.length : Int) - 4)) < 0)))] (Os := []) trivial hE hH (by kernel_rfl) (fun a hE => ?_)
  refine wpFrom_end (by kernel_rfl) ?_
  refine Exit.then_normal (hK4 _ _ ?_)
  refine condE (b := decide ((IntKind.wrap .i64 ((p0.length : Int) - 4)) < 0)) hE (by kernel_rfl) (fun hc => ?_) (fun hc => ?_)
  · replace h := ifT hc h
    refine wp_seq_k (fun K hK5 => ?_)
    refine wp_region_from ?_
    refine segO 2 [] [(2, .kv .str []), (3, .kv .i 5)] (Os := []) trivial hE hH (by kernel_rfl) (fun a hE => ?_)
    refine wpFrom_end (by kernel_rfl) ?_
    refine Exit.then_normal (hK5 _ _ ?_)
    refine wp_ret ?_
    refine Exit.in_ret ?_
    refine Exit.then_ret ?_
    cases h
    exact ret2 rfl hE hle hH (by kernel_rfl)
  · replace h := ifF hc h
    refine wp_seq_k (fun K hK6 => ?_)
    obtain ⟨q7, h⟩ := gd h
    obtain ⟨r8, hr8, h⟩ := bs h
    obtain ⟨r9, hr9, h⟩ := bs h
    obtain ⟨q10, h⟩ := gd h
    refine region_par 8 [3, 4] [(0, 0), (0, 0), (0, 0), (0, 0), (1, 1), (0, 2), (0, 2), (0, 2)] [.kv .str p0, .kv .i (IntKind.wrap .i64 ((p0.length : Int) - 4)), .kv .str (p0.take (Int.toNat (IntKind.wrap .i64 ((p0.length : Int) - 4)))), .kv (.int .u32) r8, .kv .str r9, .kv .str p0, .kv .i (IntKind.wrap .i64 ((p0.length : Int) - 4)), .kv .str (p0.drop (Int.toNat (IntKind.wrap .i64 ((p0.length : Int) - 4))))] (fun _ => tabs σ) (fun _ => Ls) (by kernel_rfl) (by kernel_rfl) hE hH
            ⟨⟨⟨⟨⟨⟨⟨⟨trivial,
            anyk (fun k => obR [] (Os := []) trivial (by kernel_rfl) (by kernel_rfl))⟩,
            anyk (fun k => obR [] (Os := []) trivial (by kernel_rfl) (by kernel_rfl))⟩,
            anyk (fun k => obR [] (Os := [_]) ⟨q7, trivial⟩ (by kernel_rfl) (by kernel_rfl))⟩,
            one (obC (k := 0) (d := (some 15)) (f111_ok hr8) rfl hN (by kernel_rfl) (by kernel_rfl) rfl trivial)⟩,
            one (obC (k := 1) (d := (some 16)) (f110_ok hr9) rfl hN (by kernel_rfl) (by kernel_rfl) rfl trivial)⟩,
            anyk (fun k => obR [] (Os := []) trivial (by kernel_rfl) (by kernel_rfl))⟩,
            anyk (fun k => obR [] (Os := []) trivial (by kernel_rfl) (by kernel_rfl))⟩,
            anyk (fun k => obR [] (Os := [_]) ⟨q10, trivial⟩ (by kernel_rfl) (by kernel_rfl))⟩ (fun a w G hl1 hE hH => ?_)
    have hle := Gh.le_trans hle hl1
    refine segO 2 [] [(11, .kv .bool (!(r9 == (p0.drop (Int.toNat (IntKind.wrap .i64 ((p0.length : Int) - 4)))))))] (Os := []) trivial hE hH (by kernel_rfl) (fun a hE => ?_)
    refine wpFrom_end (by kernel_rfl) ?_
    refine Exit.then_normal (hK6 _ _ ?_)
    refine condE (b := !(r9 == (p0.drop (Int.toNat (IntKind.wrap .i64 ((p0.length : Int) - 4)))))) hE (by kernel_rfl) (fun hc => ?_) (fun hc => ?_)
    · replace h := ifT hc h
      refine wp_seq_k (fun K hK11 => ?_)
      refine wp_region_from ?_
      refine segO 2 [] [(2, .kv .str []), (3, .kv .i 7)] (Os := []) trivial hE hH (by kernel_rfl) (fun a hE => ?_)
      refine wpFrom_end (by kernel_rfl) ?_
      refine Exit.then_normal (hK11 _ _ ?_)
      refine wp_ret ?_
      refine Exit.in_ret ?_
      refine Exit.then_ret ?_
      cases h
      exact ret2 rfl hE hle hH (by kernel_rfl)
    · replace h := ifF hc h
      refine wp_skip ?_
      refine Exit.in_normal ?_
      refine Exit.then_normal (hK3 _ _ ?_)
      refine wp_seq_k (fun K hK12 => ?_)
      refine wp_region_from ?_
      obtain ⟨q13, h⟩ := gd h
      refine segO 5 [] [(2, .kv .str (p0.take (Int.toNat (IntKind.wrap .i64 ((p0.length : Int) - 4))))), (3, .kv .i 0)] (Os := [_]) ⟨q13, trivial⟩ hE hH (by kernel_rfl) (fun a hE => ?_)
      refine wpFrom_end (by kernel_rfl) ?_
      refine Exit.then_normal (hK12 _ _ ?_)
      refine wp_ret ?_
      cases h
      exact ret2 rfl hE hle hH (by kernel_rfl)
end Go.Proofs.Ytlfemhkabjafeaa.M

/- Printed by own program: twins and walks. -/
set_option linter.unusedVariables false
set_option maxRecDepth 100000
namespace Go.Proofs.Ytlfemhkabjafeaa.M
open Go.Proofs (Try.prog Try.func90 Try.f90 Try.func86 Try.f86 Try.func93 Try.f93 Try.func46 Try.f46 Try.func47 Try.f47)

def f90_l0  (y12 : K145.den) (x13 : Int) (x14 : Int) : Option (K145.den × Int × Int) :=
  if (decide (x13 ≥ 128)) = true then
  if (0 : Int) ≤ x14 ∧ x14 < (10 : Nat) then
  f90_l0 (setA K145 y12 (Int.toNat x14) (IntKind.wrap .u8 ((BitVec.ofInt (IntKind.bits .u8) (IntKind.wrap .u8 (x13)) ||| BitVec.ofInt (IntKind.bits .u8) 128).toNat))) (Int.fdiv x13 (2 ^ 7)) (IntKind.wrap .i64 (x14 + 1))
  else none
  else
  some ((y12, x13, x14))
  partial_fixpoint

def f90 (p0 : Int) : Option (List UInt8) :=
  (if (decide (p0 < 0)) = true then
  some (IntKind.wrap .u64 ((BitVec.ofInt (IntKind.bits .u64) (if IntKind.signed .u64 = true then -1 else IntKind.max .u64) ^^^ BitVec.ofInt (IntKind.bits .u64) (IntKind.wrap .u64 ((IntKind.wrap .u64 (p0)) * 2 ^ 1))).toNat))
  else
  some (IntKind.wrap .u64 ((IntKind.wrap .u64 (p0)) * 2 ^ 1)) : Option Int) >>= fun z6 =>
  f90_l0  (0, 0, 0, 0, 0, 0, 0, 0, 0, 0, ()) z6 0 >>= fun z24 =>
  if (0 : Int) ≤ z24.2.2 ∧ z24.2.2 < (10 : Nat) then
  if (0 : Int) ≤ (IntKind.wrap .i64 (z24.2.2 + 1)) ∧ (IntKind.wrap .i64 (z24.2.2 + 1)) ≤ (10 : Nat) then
  some (bytesS ((arrL K145 (setA K145 z24.1 (Int.toNat z24.2.2) (IntKind.wrap .u8 (z24.2.1)))).take (Int.toNat (IntKind.wrap .i64 (z24.2.2 + 1)))))
  else none
  else none

theorem f90_ok {p0 : Int} {σ : St} {p : List UInt8} (h : f90 p0 = some p) : Spec Try.prog 90 [.kv .i p0] (tabs σ) (.kv .str p) (tabs σ) := by
  refine Spec.intro Try.func90 (by kernel_rfl) rfl (by kernel_rfl) (fun a w G0 Ls hE hH hN => ?_)
  have hle : G0.le G0 := Gh.le_refl G0
  unfold f90 at h
  refine wp_seq_k (fun K hK1 => ?_)
  refine wp_region_from ?_
  refine segO 1 [] [(2, .kv .str [])] (Os := []) trivial hE hH (by kernel_rfl) (fun a hE => ?_)
  refine wpFrom_end (by kernel_rfl) ?_
  refine Exit.then_normal (hK1 _ _ ?_)
  refine wp_seq_k (fun K hK2 => ?_)
  refine wp_region_from ?_
  refine segO 4 [] [(3, .kv (.int .u64) (IntKind.wrap .u64 ((IntKind.wrap .u64 (p0)) * 2 ^ 1)))] (Os := [_]) ⟨(by decide : (0 : Int) ≤ 1), trivial⟩ hE hH (by kernel_rfl) (fun a hE => ?_)
  refine wpFrom_end (by kernel_rfl) ?_
  refine Exit.then_normal (hK2 _ _ ?_)
  refine wp_seq_k (fun K hK3 => ?_)
  refine wp_seq_k (fun K hK4 => ?_)
  refine wp_region_from ?_
  refine segO 2 [] [(10, .kv .bool (decide (p0 < 0)))] (Os := []) trivial hE hH (by kernel_rfl) (fun a hE => ?_)
  refine wpFrom_end (by kernel_rfl) ?_
  refine Exit.then_normal (hK4 _ _ ?_)
  obtain ⟨z6, hz6, h⟩ := bs h
  refine join_intro (I := fun a w => ∃ (G : Gh), G0.le G ∧ EnvR G 32 a [(2, .kv .str []), (3, .kv (.int .u64) z6)] ∧ Holds w G (tabs σ) (Ls)) trivial ?_ ?_
  · intro a w hI
    obtain ⟨G, hle, hE, hH⟩ := hI
    refine Exit.then_normal (hK3 _ _ ?_)
    refine wp_seq_k (fun K hK8 => ?_)
    refine wp_region_from ?_
    refine stepAlloc (e := 145) (d := (some 4)) K145  hE hH (by kernel_rfl) (by kernel_rfl) (fun b9 a w G hl2 hE hH => ?_)
    have hle := Gh.le_trans hle hl2
    refine wpFrom_end (by kernel_rfl) ?_
    refine Exit.then_normal (hK8 _ _ ?_)
    refine wp_seq_k (fun K hK10 => ?_)
    refine wp_region_from ?_
    refine segO 1 [] [(5, .kv .i 0)] (Os := []) trivial hE hH (by kernel_rfl) (fun a hE => ?_)
    refine wpFrom_end (by kernel_rfl) ?_
    refine Exit.then_normal (hK10 _ _ ?_)
    refine wp_seq_k (fun K hK11 => ?_)
    refine wp_block ?_
    obtain ⟨z24, hz24, h⟩ := bs h
    refine loop_intro (fun Q15 c hQ hc => ?_)
    have key : ∀ (y12 : K145.den) (x13 : Int) (x14 : Int) (rr : K145.den × Int × Int), f90_l0  y12 x13 x14 = some rr → ∀ (a : Act) (w : World) (G : Gh), G0.le G → EnvR G 32 a [(2, .kv .str []), (3, .kv (.int .u64) x13), (4, .val (.pointer (some ⟨b9, 0, none⟩))), (5, .kv .i x14)] → Holds w G (tabs σ) (LS.box b9 K145 y12 :: Ls) → (∀ z25 : K145.den × Int × Int, rr = z25 → ∀ (a : Act) (w : World) (G : Gh), G0.le G → EnvR G 32 a [(2, .kv .str []), (3, .kv (.int .u64) z25.2.1), (4, .val (.pointer (some ⟨b9, 0, none⟩))), (5, .kv .i z25.2.2)] → Holds w G (tabs σ) (LS.box b9 K145 z25.1 :: Ls) → Q15 (.exit 0) a w) → Rnd Try.prog c Q15 a w := by
      refine f90_l0.partial_correctness  _ ?_
      intro self ih18 y12 x13 x14 rr h a w G  hle hE hH hx16
      refine rnd_step' hc ?_
      refine wp_seq_k (fun K hK19 => ?_)
      refine wp_seq_k (fun K hK20 => ?_)
      refine wp_region_from ?_
      refine segO 2 [] [(14, .kv .bool (decide (x13 ≥ 128)))] (Os := []) trivial hE hH (by kernel_rfl) (fun a hE => ?_)
      refine wpFrom_end (by kernel_rfl) ?_
      refine Exit.then_normal (hK20 _ _ ?_)
      refine condE (b := decide (x13 ≥ 128)) hE (by kernel_rfl) (fun hc => ?_) (fun hc => ?_)
      · replace h := ifT hc h
        refine wp_skip ?_
        refine Exit.then_normal (hK19 _ _ ?_)
        refine wp_block ?_
        refine wp_seq_k (fun K hK21 => ?_)
        refine wp_region_from ?_
        refine segO 4 [] [(15, .kv .i x14), (18, .kv (.int .u8) (IntKind.wrap .u8 ((BitVec.ofInt (IntKind.bits .u8) (IntKind.wrap .u8 (x13)) ||| BitVec.ofInt (IntKind.bits .u8) 128).toNat)))] (Os := []) trivial hE hH (by kernel_rfl) (fun a hE => ?_)
        obtain ⟨q22, h⟩ := gd h
        refine stepIxA (b := b9) (m := 10) (n := x14) (d := (some 19)) hE (by kernel_rfl) q22 (by kernel_rfl) (fun a hE => ?_)
        refine stepStB (b := b9) (off := Int.toNat x14) 0 (.int .u8) (IntKind.wrap .u8 ((BitVec.ofInt (IntKind.bits .u8) (IntKind.wrap .u8 (x13)) ||| BitVec.ofInt (IntKind.bits .u8) 128).toNat)) (x' := setA K145 y12 (Int.toNat x14) (IntKind.wrap .u8 ((BitVec.ofInt (IntKind.bits .u8) (IntKind.wrap .u8 (x13)) ||| BitVec.ofInt (IntKind.bits .u8) 128).toNat))) hE hH (by kernel_rfl) rfl (setK_arr (n := 10) (by kernel_rfl) (by have := q22; omega)) (fun w G hl3 hE hH => ?_)
        have hle := Gh.le_trans hle hl3
        refine wpFrom_end (by kernel_rfl) ?_
        refine Exit.then_normal (hK21 _ _ ?_)
        refine wp_seq_k (fun K hK23 => ?_)
        refine wp_region_from ?_
        refine segO 3 [] [(3, .kv (.int .u64) (Int.fdiv x13 (2 ^ 7)))] (Os := [_]) ⟨(by decide : (0 : Int) ≤ 7), trivial⟩ hE hH (by kernel_rfl) (fun a hE => ?_)
        refine wpFrom_end (by kernel_rfl) ?_
        refine Exit.then_normal (hK23 _ _ ?_)
        refine wp_region_from ?_
        refine segO 3 [] [(5, .kv .i (IntKind.wrap .i64 (x14 + 1)))] (Os := []) trivial hE hH (by kernel_rfl) (fun a hE => ?_)
        refine wpFrom_end (by kernel_rfl) ?_
        refine Exit.in_normal ?_
        refine Exit.then_normal ?_
        exact ih18 _ _ _ _ h _ _ _  hle (hE.subC (by kernel_rfl)) hH hx16
      · replace h := ifF hc h
        refine wp_exit ?_
        refine Exit.then_exit ?_
        refine Exit.then_exit ?_
        cases h
        exact hx16 _ rfl _ _ _  hle (hE.subC (by kernel_rfl)) hH
    refine key _ _ _ _ hz24 _ _ _  hle (hE.subC (by kernel_rfl)) hH ?_
    · intro z25 hz a w G  hle hE hH
      subst hz
      rw [hQ]
      refine Exit.in_eq ?_
      refine Exit.then_normal (hK11 _ _ ?_)
      refine wp_seq_k (fun K hK26 => ?_)
      refine wp_region_from ?_
      refine segO 3 [] [(24, .kv .i z24.2.2), (26, .kv (.int .u8) (IntKind.wrap .u8 (z24.2.1)))] (Os := []) trivial hE hH (by kernel_rfl) (fun a hE => ?_)
      obtain ⟨q27, h⟩ := gd h
      refine stepIxA (b := b9) (m := 10) (n := z24.2.2) (d := (some 27)) hE (by kernel_rfl) q27 (by kernel_rfl) (fun a hE => ?_)
      refine stepStB (b := b9) (off := Int.toNat z24.2.2) 0 (.int .u8) (IntKind.wrap .u8 (z24.2.1)) (x' := setA K145 z24.1 (Int.toNat z24.2.2) (IntKind.wrap .u8 (z24.2.1))) hE hH (by kernel_rfl) rfl (setK_arr (n := 10) (by kernel_rfl) (by have := q27; omega)) (fun w G hl4 hE hH => ?_)
      have hle := Gh.le_trans hle hl4
      refine wpFrom_end (by kernel_rfl) ?_
      refine Exit.then_normal (hK26 _ _ ?_)
      refine wp_seq_k (fun K hK28 => ?_)
      refine wp_region_from ?_
      refine segO 2 [] [(29, .kv .i (IntKind.wrap .i64 (z24.2.2 + 1)))] (Os := []) trivial hE hH (by kernel_rfl) (fun a hE => ?_)
      obtain ⟨q29, h⟩ := gd h
      refine stepSlA (b := b9) (m := 10) (n := IntKind.wrap .i64 (z24.2.2 + 1)) (d := (some 30)) hE (by kernel_rfl) q29 (by kernel_rfl) (fun a hE => ?_)
      refine stepCnA 0 10 (b := b9) (n := Int.toNat (IntKind.wrap .i64 (z24.2.2 + 1))) (d := (some 31)) hE hH (by kernel_rfl) (by kernel_rfl) rfl (by have := q29; omega) (by kernel_rfl) (fun a hE => ?_)
      refine segO 1 [] [(2, .kv .str (bytesS ((arrL K145 (setA K145 z24.1 (Int.toNat z24.2.2) (IntKind.wrap .u8 (z24.2.1)))).take (Int.toNat (IntKind.wrap .i64 (z24.2.2 + 1))))))] (Os := []) trivial hE hH (by kernel_rfl) (fun a hE => ?_)
      refine wpFrom_end (by kernel_rfl) ?_
      refine Exit.then_normal (hK28 _ _ ?_)
      refine wp_ret ?_
      have hH := hH.drop (fun _ _ _ => rfl)
      cases h
      exact ret1 rfl hE hle hH (by kernel_rfl)
  · intro KK hKK ho
    have hj7 : ∀ (a : Act) (w : World) (G : Gh), G0.le G → EnvR G 32 a [(2, .kv .str []), (3, .kv (.int .u64) z6)] → Holds w G (tabs σ) (Ls) → KK .normal a w := fun a w G  h1 h2 h3 => hKK a w ⟨G, h1, h2, h3⟩
    replace h := hz6
    refine condE (b := decide (p0 < 0)) hE (by kernel_rfl) (fun hc => ?_) (fun hc => ?_)
    · replace h := ifT hc h
      refine wp_region_from ?_
      refine segO 3 [] [(3, .kv (.int .u64) (IntKind.wrap .u64 ((BitVec.ofInt (IntKind.bits .u64) (if IntKind.signed .u64 = true then -1 else IntKind.max .u64) ^^^ BitVec.ofInt (IntKind.bits .u64) (IntKind.wrap .u64 ((IntKind.wrap .u64 (p0)) * 2 ^ 1))).toNat)))] (Os := []) trivial hE hH (by kernel_rfl) (fun a hE => ?_)
      refine wpFrom_end (by kernel_rfl) ?_
      cases h
      exact hj7 _ _ _  hle (hE.subC (by kernel_rfl)) hH
    · replace h := ifF hc h
      refine wp_skip ?_
      cases h
      exact hj7 _ _ _  hle (hE.subC (by kernel_rfl)) hH

def f86 (p0 : Option Nat) (p1 : Int) (σ : St) : Option ((List UInt8) × Bool) :=
  p0 >>= fun i3 =>
  (σ.t116[i3]?) >>= fun o4 =>
  f91 p0 p1 σ >>= fun r5 =>
  f28 o4.1 r5 σ >>= fun r6 =>
  if (r6.2 != 0) = true then
  some ([], false)
  else
  f108 r6.1 >>= fun r11 =>
  f90 p1 >>= fun r13 =>
  if ((r11.2 != 0) || (decide ((r11.1.length : Int) < (r13.length : Int)))) = true then
  some ([], false)
  else
  if (0 : Int) ≤ (r13.length : Int) ∧ (r13.length : Int) ≤ (r11.1.length : Int) then
  if (!((r11.1.take (Int.toNat (r13.length : Int))) == r13)) = true then
  some ([], false)
  else
  if (0 : Int) ≤ (r13.length : Int) ∧ (r13.length : Int) ≤ (r11.1.length : Int) then
  some (r11.1.drop (Int.toNat (r13.length : Int)), true)
  else none
  else none

theorem f86_ok {p0 : Option Nat} {p1 : Int} {σ : St} {p : (List UInt8) × Bool} (h : f86 p0 p1 σ = some p) : Spec Try.prog 86 [.kv (.ptr 116) p0, .kv .i p1] (tabs σ) (.tup [⟨.str, p.1⟩, ⟨.bool, p.2⟩]) (tabs σ) := by
  refine Spec.intro Try.func86 (by kernel_rfl) rfl (by kernel_rfl) (fun a w G0 Ls hE hH hN => ?_)
  have hle : G0.le G0 := Gh.le_refl G0
  unfold f86 at h
  refine wp_seq_k (fun K hK1 => ?_)
  refine wp_region_from ?_
  refine segO 2 [] [(4, .kv .str []), (5, .kv .bool false)] (Os := []) trivial hE hH (by kernel_rfl) (fun a hE => ?_)
  refine wpFrom_end (by kernel_rfl) ?_
  refine Exit.then_normal (hK1 _ _ ?_)
  refine wp_seq_k (fun K hK2 => ?_)
  obtain ⟨i3, hi3, h⟩ := bs h
  obtain ⟨o4, ho4, h⟩ := bs h
  obtain ⟨r5, hr5, h⟩ := bs h
  obtain ⟨r6, hr6, h⟩ := bs h
  refine region_par 12 [6, 7] [(0, 1), (0, 1), (0, 1), (0, 1), (0, 0), (0, 0), (0, 0), (1, 1), (2, 2), (2, 2), (2, 2), (2, 2)] [.kv (.ptr 116) p0, .kv (.ptr 116) (some i3), .fldA 116 i3 0, .kv (.ptr 105) o4.1, .kv (.ptr 116) p0, .kv .i p1, .kv .str r5, .tup [⟨.str, r6.1⟩, ⟨.i, r6.2⟩], .tup [⟨.str, r6.1⟩, ⟨.i, r6.2⟩], .kv .str r6.1, .kv .i r6.2, .kv .str r6.1] (fun _ => tabs σ) (fun _ => Ls) (by kernel_rfl) (by kernel_rfl) hE hH
          ⟨⟨⟨⟨⟨⟨⟨⟨⟨⟨⟨⟨trivial,
          anyk (fun k => obR [] (Os := []) trivial (by kernel_rfl) (by kernel_rfl))⟩,
          anyk (fun k => obR [.pt i3] (Os := [_]) ⟨hi3, trivial⟩ (by kernel_rfl) (by kernel_rfl))⟩,
          anyk (fun k => obR [] (Os := []) trivial (by kernel_rfl) (by kernel_rfl))⟩,
          anyk (fun k => obR [.ob fs116 o4] (Os := [_]) ⟨(ob116 (s := σ) ho4), trivial⟩ (by kernel_rfl) (by kernel_rfl))⟩,
          anyk (fun k => obR [] (Os := []) trivial (by kernel_rfl) (by kernel_rfl))⟩,
          anyk (fun k => obR [] (Os := []) trivial (by kernel_rfl) (by kernel_rfl))⟩,
          one (obC (k := 0) (d := (some 17)) (f91_ok hr5) rfl hN (by kernel_rfl) (by kernel_rfl) rfl trivial)⟩,
          one (obC (k := 1) (d := (some 18)) (f28_ok hr6) rfl hN (by kernel_rfl) (by kernel_rfl) rfl trivial)⟩,
          anyk (fun k => obR [] (Os := []) trivial (by kernel_rfl) (by kernel_rfl))⟩,
          anyk (fun k => obR [] (Os := []) trivial (by kernel_rfl) (by kernel_rfl))⟩,
          anyk (fun k => obR [] (Os := []) trivial (by kernel_rfl) (by kernel_rfl))⟩,
          anyk (fun k => obR [] (Os := []) trivial (by kernel_rfl) (by kernel_rfl))⟩ (fun a w G hl1 hE hH => ?_)
  have hle := Gh.le_trans hle hl1
  refine segO 1 [] [(7, .kv .i r6.2)] (Os := []) trivial hE hH (by kernel_rfl) (fun a hE => ?_)
  refine wpFrom_end (by kernel_rfl) ?_
  refine Exit.then_normal (hK2 _ _ ?_)
  refine wp_seq_k (fun K hK7 => ?_)
  refine wp_seq_k (fun K hK8 => ?_)
  refine wp_region_from ?_
  refine segO 2 [] [(22, .kv .bool (r6.2 != 0))] (Os := []) trivial hE hH (by kernel_rfl) (fun a hE => ?_)
  refine wpFrom_end (by kernel_rfl) ?_
  refine Exit.then_normal (hK8 _ _ ?_)
  refine condE (b := r6.2 != 0) hE (by kernel_rfl) (fun hc => ?_) (fun hc => ?_)
  · replace h := ifT hc h
    refine wp_seq_k (fun K hK9 => ?_)
    refine wp_region_from ?_
    refine segO 2 [] [(4, .kv .str []), (5, .kv .bool false)] (Os := []) trivial hE hH (by kernel_rfl) (fun a hE => ?_)
    refine wpFrom_end (by kernel_rfl) ?_
    refine Exit.then_normal (hK9 _ _ ?_)
    refine wp_ret ?_
    refine Exit.then_ret ?_
    cases h
    exact ret2 rfl hE hle hH (by kernel_rfl)
  · replace h := ifF hc h
    refine wp_skip ?_
    refine Exit.then_normal (hK7 _ _ ?_)
    refine wp_seq_k (fun K hK10 => ?_)
    refine wp_region_from ?_
    refine segO 1 [] [(24, .kv .str r6.1)] (Os := []) trivial hE hH (by kernel_rfl) (fun a hE => ?_)
    obtain ⟨r11, hr11, h⟩ := bs h
    refine stepCall (d := (some 25)) (f108_ok hr11) hE hH hN (by kernel_rfl) (by kernel_rfl) trivial (fun a w G hl2 hE hH => ?_)
    have hle := Gh.le_trans hle hl2
    refine segO 5 [] [(7, .kv .i r11.2), (8, .kv .str r11.1)] (Os := []) trivial hE hH (by kernel_rfl) (fun a hE => ?_)
    refine wpFrom_end (by kernel_rfl) ?_
    refine Exit.then_normal (hK10 _ _ ?_)
    refine wp_seq_k (fun K hK12 => ?_)
    refine wp_region_from ?_
    refine segO 1 [] [(28, .kv .i p1)] (Os := []) trivial hE hH (by kernel_rfl) (fun a hE => ?_)
    obtain ⟨r13, hr13, h⟩ := bs h
    refine stepCall (d := (some 29)) (f90_ok hr13) hE hH hN (by kernel_rfl) (by kernel_rfl) trivial (fun a w G hl3 hE hH => ?_)
    have hle := Gh.le_trans hle hl3
    refine segO 1 [] [(9, .kv .str r13)] (Os := []) trivial hE hH (by kernel_rfl) (fun a hE => ?_)
    refine wpFrom_end (by kernel_rfl) ?_
    refine Exit.then_normal (hK12 _ _ ?_)
    refine wp_seq_k (fun K hK14 => ?_)
    refine wp_seq_k (fun K hK15 => ?_)
    refine wp_region_from ?_
    refine segO 10 [] [(39, .kv .bool ((r11.2 != 0) || (decide ((r11.1.length : Int) < (r13.length : Int)))))] (Os := []) trivial hE hH (by kernel_rfl) (fun a hE => ?_)
    by_cases hc : ((r11.2 != 0) || (decide ((r11.1.length : Int) < (r13.length : Int)))) = true
    · replace h := ifT hc h
      have hE := hE.setB 39 (by kernel_rfl) hc
      refine segO 7 [] [(46, .kv .bool true)] (Os := []) trivial hE hH (by kernel_rfl) (fun a hE => ?_)
      refine wpFrom_end (by kernel_rfl) ?_
      refine Exit.then_normal (hK15 _ _ ?_)
      refine condT hE (by kernel_rfl) rfl ?_
      refine wp_seq_k (fun K hK16 => ?_)
      refine wp_region_from ?_
      refine segO 2 [] [(4, .kv .str []), (5, .kv .bool false)] (Os := []) trivial hE hH (by kernel_rfl) (fun a hE => ?_)
      refine wpFrom_end (by kernel_rfl) ?_
      refine Exit.then_normal (hK16 _ _ ?_)
      refine wp_ret ?_
      refine Exit.then_ret ?_
      cases h
      exact ret2 rfl hE hle hH (by kernel_rfl)
    · replace h := ifN hc h
      have hE := hE.setB 39 (by kernel_rfl) (bf hc)
      obtain ⟨q17, h⟩ := gd h
      refine segO 7 [] [(46, .kv .bool (!((r11.1.take (Int.toNat (r13.length : Int))) == r13)))] (Os := [_]) ⟨q17, trivial⟩ hE hH (by kernel_rfl) (fun a hE => ?_)
      refine wpFrom_end (by kernel_rfl) ?_
      refine Exit.then_normal (hK15 _ _ ?_)
      refine condE (b := !((r11.1.take (Int.toNat (r13.length : Int))) == r13)) hE (by kernel_rfl) (fun hc => ?_) (fun hc => ?_)
      · replace h := ifT hc h
        refine wp_seq_k (fun K hK18 => ?_)
        refine wp_region_from ?_
        refine segO 2 [] [(4, .kv .str []), (5, .kv .bool false)] (Os := []) trivial hE hH (by kernel_rfl) (fun a hE => ?_)
        refine wpFrom_end (by kernel_rfl) ?_
        refine Exit.then_normal (hK18 _ _ ?_)
        refine wp_ret ?_
        refine Exit.then_ret ?_
        cases h
        exact ret2 rfl hE hle hH (by kernel_rfl)
      · replace h := ifF hc h
        refine wp_skip ?_
        refine Exit.then_normal (hK14 _ _ ?_)
        refine wp_seq_k (fun K hK19 => ?_)
        refine wp_region_from ?_
        obtain ⟨q20, h⟩ := gd h
        refine segO 6 [] [(4, .kv .str (r11.1.drop (Int.toNat (r13.length : Int)))), (5, .kv .bool true)] (Os := [_]) ⟨q20, trivial⟩ hE hH (by kernel_rfl) (fun a hE => ?_)
        refine wpFrom_end (by kernel_rfl) ?_
        refine Exit.then_normal (hK19 _ _ ?_)
        refine wp_ret ?_
        cases h
        exact ret2 rfl hE hle hH (by kernel_rfl)

def f93 (p0 : Int) : Option (List UInt8) :=
  if (decide (p0 < 10)) = true then
  some (bytesS [IntKind.wrap .u8 (IntKind.wrap .i64 (48 + p0))])
  else
  f93 (IntKind.wrap .i64 (Int.tdiv p0 10)) >>= fun r6 =>
  if r6.length + (bytesS [IntKind.wrap .u8 (IntKind.wrap .i64 (48 + (Int.tmod p0 10)))]).length ≤ 9223372036854775807 then
  some (r6 ++ (bytesS [IntKind.wrap .u8 (IntKind.wrap .i64 (48 + (Int.tmod p0 10)))]))
  else none
  partial_fixpoint

theorem f93_ok {p0 : Int} {σ : St} {p : List UInt8} (h : f93 p0 = some p) : Spec Try.prog 93 [.kv .i p0] (tabs σ) (.kv .str p) (tabs σ) := by
  have key : ∀ (p0 : Int) (p : List UInt8), f93 p0 = some p → ∀ σ : St, Spec Try.prog 93 [.kv .i p0] (tabs σ) (.kv .str p) (tabs σ) := by
    refine f93.partial_correctness _ ?_
    intro self ih p0 p h σ
    refine Spec.intro Try.func93 (by kernel_rfl) rfl (by kernel_rfl) (fun a w G0 Ls hE hH hN => ?_)
    have hle : G0.le G0 := Gh.le_refl G0
    refine wp_seq_k (fun K hK1 => ?_)
    refine wp_region_from ?_
    refine segO 1 [] [(2, .kv .str [])] (Os := []) trivial hE hH (by kernel_rfl) (fun a hE => ?_)
    refine wpFrom_end (by kernel_rfl) ?_
    refine Exit.then_normal (hK1 _ _ ?_)
    refine wp_seq_k (fun K hK2 => ?_)
    refine wp_seq_k (fun K hK3 => ?_)
    refine wp_region_from ?_
    refine segO 2 [] [(4, .kv .bool (decide (p0 < 10)))] (Os := []) trivial hE hH (by kernel_rfl) (fun a hE => ?_)
    refine wpFrom_end (by kernel_rfl) ?_
    refine Exit.then_normal (hK3 _ _ ?_)
    refine condE (b := decide (p0 < 10)) hE (by kernel_rfl) (fun hc => ?_) (fun hc => ?_)
    · replace h := ifT hc h
      refine wp_seq_k (fun K hK4 => ?_)
      refine wp_region_from ?_
      refine segO 3 [] [(7, .kv (.int .u8) (IntKind.wrap .u8 (IntKind.wrap .i64 (48 + p0))))] (Os := []) trivial hE hH (by kernel_rfl) (fun a hE => ?_)
      refine stepBuildS (d := (some 8)) (.int .u8) [IntKind.wrap .u8 (IntKind.wrap .i64 (48 + p0))] hE hH (by kernel_rfl) (by kernel_rfl) (fun a w G hl1 hE hH => ?_)
      have hle := Gh.le_trans hle hl1
      refine segO 2 [] [(2, .kv .str (bytesS [IntKind.wrap .u8 (IntKind.wrap .i64 (48 + p0))]))] (Os := []) trivial hE hH (by kernel_rfl) (fun a hE => ?_)
      refine wpFrom_end (by kernel_rfl) ?_
      refine Exit.then_normal (hK4 _ _ ?_)
      refine wp_ret ?_
      refine Exit.then_ret ?_
      cases h
      exact ret1 rfl hE hle hH (by kernel_rfl)
    · replace h := ifF hc h
      refine wp_skip ?_
      refine Exit.then_normal (hK2 _ _ ?_)
      refine wp_seq_k (fun K hK5 => ?_)
      obtain ⟨r6, hr6, h⟩ := bs h
      refine region_par 9 [2] [(0, 0), (0, 0), (0, 0), (0, 1), (0, 1), (0, 1), (0, 1), (0, 1), (0, 1)] [.kv .i p0, .kv .i (IntKind.wrap .i64 (Int.tdiv p0 10)), .kv .str r6, .kv .i p0, .kv .i (Int.tmod p0 10), .kv .i (IntKind.wrap .i64 (48 + (Int.tmod p0 10))), .kv (.int .u8) (IntKind.wrap .u8 (IntKind.wrap .i64 (48 + (Int.tmod p0 10)))), .pl (.int .u8) [IntKind.wrap .u8 (IntKind.wrap .i64 (48 + (Int.tmod p0 10)))], .kv .str (bytesS [IntKind.wrap .u8 (IntKind.wrap .i64 (48 + (Int.tmod p0 10)))])] (fun _ => tabs σ) (fun _ => Ls) (by kernel_rfl) (by kernel_rfl) hE hH
              ⟨⟨⟨⟨⟨⟨⟨⟨⟨trivial,
              anyk (fun k => obR [] (Os := []) trivial (by kernel_rfl) (by kernel_rfl))⟩,
              anyk (fun k => obR [] (Os := [_]) ⟨(by decide : (10 : Int) ≠ 0), trivial⟩ (by kernel_rfl) (by kernel_rfl))⟩,
              one (obC (k := 0) (d := (some 12)) (ih _ _ hr6 _) rfl hN (by kernel_rfl) (by kernel_rfl) rfl trivial)⟩,
              anyk (fun k => obR [] (Os := []) trivial (by kernel_rfl) (by kernel_rfl))⟩,
              anyk (fun k => obR [] (Os := [_]) ⟨(by decide : (10 : Int) ≠ 0), trivial⟩ (by kernel_rfl) (by kernel_rfl))⟩,
              anyk (fun k => obR [] (Os := []) trivial (by kernel_rfl) (by kernel_rfl))⟩,
              anyk (fun k => obR [] (Os := []) trivial (by kernel_rfl) (by kernel_rfl))⟩,
              anyk (fun k => obBS (d := (some 17)) (.int .u8) [IntKind.wrap .u8 (IntKind.wrap .i64 (48 + (Int.tmod p0 10)))] (by kernel_rfl) (by kernel_rfl) rfl)⟩,
              anyk (fun k => obR [] (Os := []) trivial (by kernel_rfl) (by kernel_rfl))⟩ (fun a w G hl2 hE hH => ?_)
      have hle := Gh.le_trans hle hl2
      obtain ⟨q7, h⟩ := gd h
      refine segO 2 [] [(2, .kv .str (r6 ++ (bytesS [IntKind.wrap .u8 (IntKind.wrap .i64 (48 + (Int.tmod p0 10)))])))] (Os := [_]) ⟨q7, trivial⟩ hE hH (by kernel_rfl) (fun a hE => ?_)
      refine wpFrom_end (by kernel_rfl) ?_
      refine Exit.then_normal (hK5 _ _ ?_)
      refine wp_ret ?_
      cases h
      exact ret1 rfl hE hle hH (by kernel_rfl)
  exact key p0 p h σ

def f46 (p0 : List UInt8) (p1 : Int) : Option (List UInt8) :=
  if p0.length + [46].length ≤ 9223372036854775807 then
  f93 p1 >>= fun r4 =>
  if (p0 ++ [46]).length + r4.length ≤ 9223372036854775807 then
  some ((p0 ++ [46]) ++ r4)
  else none
  else none

theorem f46_ok {p0 : List UInt8} {p1 : Int} {σ : St} {p : List UInt8} (h : f46 p0 p1 = some p) : Spec Try.prog 46 [.kv .str p0, .kv .i p1] (tabs σ) (.kv .str p) (tabs σ) := by
  refine Spec.intro Try.func46 (by kernel_rfl) rfl (by kernel_rfl) (fun a w G0 Ls hE hH hN => ?_)
  have hle : G0.le G0 := Gh.le_refl G0
  unfold f46 at h
  refine wp_seq_k (fun K hK1 => ?_)
  refine wp_region_from ?_
  refine segO 1 [] [(4, .kv .str [])] (Os := []) trivial hE hH (by kernel_rfl) (fun a hE => ?_)
  refine wpFrom_end (by kernel_rfl) ?_
  refine Exit.then_normal (hK1 _ _ ?_)
  refine wp_seq_k (fun K hK2 => ?_)
  refine wp_region_from ?_
  obtain ⟨q3, h⟩ := gd h
  refine segO 3 [] [(6, .kv .str (p0 ++ [46])), (7, .kv .i p1)] (Os := [_]) ⟨q3, trivial⟩ hE hH (by kernel_rfl) (fun a hE => ?_)
  obtain ⟨r4, hr4, h⟩ := bs h
  refine stepCall (d := (some 8)) (f93_ok hr4) hE hH hN (by kernel_rfl) (by kernel_rfl) trivial (fun a w G hl1 hE hH => ?_)
  have hle := Gh.le_trans hle hl1
  obtain ⟨q5, h⟩ := gd h
  refine segO 2 [] [(4, .kv .str ((p0 ++ [46]) ++ r4))] (Os := [_]) ⟨q5, trivial⟩ hE hH (by kernel_rfl) (fun a hE => ?_)
  refine wpFrom_end (by kernel_rfl) ?_
  refine Exit.then_normal (hK2 _ _ ?_)
  refine wp_ret ?_
  cases h
  exact ret1 rfl hE hle hH (by kernel_rfl)

def f47 (p0 : Option Nat) (p1 : Int) (σ : St) : Option ((List UInt8) × Int) :=
  if p0.isNone = true then
  some ([], 1)
  else
  p0 >>= fun i6 =>
  (σ.t116[i6]?) >>= fun o7 =>
  f31 o7.1 σ >>= fun r8 =>
  if r8 = true then
  some ([], 11)
  else
  if ((decide (p1 < 0)) || (decide (p1 > 1099511627776))) = true then
  some ([], 8)
  else
  f86 p0 p1 σ >>= fun r13 =>
  if (!r13.2) = true then
  some ([], 8)
  else
  some (r13.1, 0)

theorem f47_ok {p0 : Option Nat} {p1 : Int} {σ : St} {p : (List UInt8) × Int} (h : f47 p0 p1 σ = some p) : Spec Try.prog 47 [.kv (.ptr 116) p0, .kv .i p1] (tabs σ) (.tup [⟨.str, p.1⟩, ⟨.i, p.2⟩]) (tabs σ) := by
  refine Spec.intro Try.func47 (by kernel_rfl) rfl (by kernel_rfl) (fun a w G0 Ls hE hH hN => ?_)
  have hle : G0.le G0 := Gh.le_refl G0
  unfold f47 at h
  refine wp_seq_k (fun K hK1 => ?_)
  refine wp_region_from ?_
  refine segO 2 [] [(4, .kv .str []), (5, .kv .i 0)] (Os := []) trivial hE hH (by kernel_rfl) (fun a hE => ?_)
  refine wpFrom_end (by kernel_rfl) ?_
  refine Exit.then_normal (hK1 _ _ ?_)
  refine wp_seq_k (fun K hK2 => ?_)
  refine wp_block ?_
  refine wp_seq_k (fun K hK3 => ?_)
  refine wp_region_from ?_
  refine segO 3 [] [(8, .kv .bool p0.isNone)] (Os := []) trivial hE hH (by kernel_rfl) (fun a hE => ?_)
  refine wpFrom_end (by kernel_rfl) ?_
  refine Exit.then_normal (hK3 _ _ ?_)
  refine condE (b := p0.isNone) hE (by kernel_rfl) (fun hc => ?_) (fun hc => ?_)
  · replace h := ifT hc h
    refine wp_seq_k (fun K hK4 => ?_)
    refine wp_region_from ?_
    refine segO 2 [] [(4, .kv .str []), (5, .kv .i 1)] (Os := []) trivial hE hH (by kernel_rfl) (fun a hE => ?_)
    refine wpFrom_end (by kernel_rfl) ?_
    refine Exit.then_normal (hK4 _ _ ?_)
    refine wp_ret ?_
    refine Exit.in_ret ?_
    refine Exit.then_ret ?_
    cases h
    exact ret2 rfl hE hle hH (by kernel_rfl)
  · replace h := ifF hc h
    refine wp_seq_k (fun K hK5 => ?_)
    refine wp_region_from ?_
    obtain ⟨i6, hi6, h⟩ := bs h
    obtain ⟨o7, ho7, h⟩ := bs h
    refine segO 4 [.pt i6, .ob fs116 o7] [(15, .kv (.ptr 105) o7.1)] (Os := [_, _]) ⟨hi6, (ob116 (s := σ) ho7), trivial⟩ hE hH (by kernel_rfl) (fun a hE => ?_)
    obtain ⟨r8, hr8, h⟩ := bs h
    refine stepCall (d := (some 16)) (f31_ok hr8) hE hH hN (by kernel_rfl) (by kernel_rfl) trivial (fun a w G hl1 hE hH => ?_)
    have hle := Gh.le_trans hle hl1
    refine segO 1 [] [(11, .kv .bool r8)] (Os := []) trivial hE hH (by kernel_rfl) (fun a hE => ?_)
    refine wpFrom_end (by kernel_rfl) ?_
    refine Exit.then_normal (hK5 _ _ ?_)
    refine condE (b := r8) hE (by kernel_rfl) (fun hc => ?_) (fun hc => ?_)
    · replace h := ifT hc h
      refine wp_seq_k (fun K hK9 => ?_)
      refine wp_region_from ?_
      refine segO 2 [] [(4, .kv .str []), (5, .kv .i 11)] (Os := []) trivial hE hH (by kernel_rfl) (fun a hE => ?_)
      refine wpFrom_end (by kernel_rfl) ?_
      refine Exit.then_normal (hK9 _ _ ?_)
      refine wp_ret ?_
      refine Exit.in_ret ?_
      refine Exit.then_ret ?_
      cases h
      exact ret2 rfl hE hle hH (by kernel_rfl)
    · replace h := ifF hc h
      refine wp_seq_k (fun K hK10 => ?_)
      refine wp_region_from ?_
      refine segO 7 [] [(17, .kv .bool ((decide (p1 < 0)) || (decide (p1 > 1099511627776))))] (Os := []) trivial hE hH (by kernel_rfl) (fun a hE => ?_)
      refine wpFrom_end (by kernel_rfl) ?_
      refine Exit.then_normal (hK10 _ _ ?_)
      refine condE (b := (decide (p1 < 0)) || (decide (p1 > 1099511627776))) hE (by kernel_rfl) (fun hc => ?_) (fun hc => ?_)
      · replace h := ifT hc h
        refine wp_seq_k (fun K hK11 => ?_)
        refine wp_region_from ?_
        refine segO 2 [] [(4, .kv .str []), (5, .kv .i 8)] (Os := []) trivial hE hH (by kernel_rfl) (fun a hE => ?_)
        refine wpFrom_end (by kernel_rfl) ?_
        refine Exit.then_normal (hK11 _ _ ?_)
        refine wp_ret ?_
        refine Exit.in_ret ?_
        refine Exit.then_ret ?_
        cases h
        exact ret2 rfl hE hle hH (by kernel_rfl)
      · replace h := ifF hc h
        refine wp_skip ?_
        refine Exit.in_normal ?_
        refine Exit.then_normal (hK2 _ _ ?_)
        refine wp_seq_k (fun K hK12 => ?_)
        refine wp_region_from ?_
        refine segO 2 [] [(25, .kv (.ptr 116) p0), (26, .kv .i p1)] (Os := []) trivial hE hH (by kernel_rfl) (fun a hE => ?_)
        obtain ⟨r13, hr13, h⟩ := bs h
        refine stepCall (d := (some 27)) (f86_ok hr13) hE hH hN (by kernel_rfl) (by kernel_rfl) trivial (fun a w G hl2 hE hH => ?_)
        have hle := Gh.le_trans hle hl2
        refine segO 5 [] [(6, .kv .str r13.1), (7, .kv .bool r13.2)] (Os := []) trivial hE hH (by kernel_rfl) (fun a hE => ?_)
        refine wpFrom_end (by kernel_rfl) ?_
        refine Exit.then_normal (hK12 _ _ ?_)
        refine wp_seq_k (fun K hK14 => ?_)
        refine wp_seq_k (fun K hK15 => ?_)
        refine wp_region_from ?_
        refine segO 2 [] [(31, .kv .bool (!r13.2))] (Os := []) trivial hE hH (by kernel_rfl) (fun a hE => ?_)
        refine wpFrom_end (by kernel_rfl) ?_
        refine Exit.then_normal (hK15 _ _ ?_)
        refine condE (b := !r13.2) hE (by kernel_rfl) (fun hc => ?_) (fun hc => ?_)
        · replace h := ifT hc h
          refine wp_seq_k (fun K hK16 => ?_)
          refine wp_region_from ?_
          refine segO 2 [] [(4, .kv .str []), (5, .kv .i 8)] (Os := []) trivial hE hH (by kernel_rfl) (fun a hE => ?_)
          refine wpFrom_end (by kernel_rfl) ?_
          refine Exit.then_normal (hK16 _ _ ?_)
          refine wp_ret ?_
          refine Exit.then_ret ?_
          cases h
          exact ret2 rfl hE hle hH (by kernel_rfl)
        · replace h := ifF hc h
          refine wp_skip ?_
          refine Exit.then_normal (hK14 _ _ ?_)
          refine wp_seq_k (fun K hK17 => ?_)
          refine wp_region_from ?_
          refine segO 3 [] [(4, .kv .str r13.1), (5, .kv .i 0)] (Os := []) trivial hE hH (by kernel_rfl) (fun a hE => ?_)
          refine wpFrom_end (by kernel_rfl) ?_
          refine Exit.then_normal (hK17 _ _ ?_)
          refine wp_ret ?_
          cases h
          exact ret2 rfl hE hle hH (by kernel_rfl)
end Go.Proofs.Ytlfemhkabjafeaa.M

/- Plain law of the keeper, part 1: sums, and the bytes of numbers. -/
set_option linter.unusedVariables false
set_option linter.unusedSimpArgs false
namespace Go.Proofs.Ytlfemhkabjafeaa.M

theorem f151_loop : ∀ (k n : Nat) (x : Int), n + k = 8 → ∃ y, f151_l0 x (n : Int) = some (y, 8)
  | 0, n, x, h => by
    rw [f151_l0]
    have : n = 8 := by omega
    subst this
    exact ⟨x, by simp⟩
  | k + 1, n, x, h => by
    rw [f151_l0]
    have hw : IntKind.wrap .i64 ((n : Int) + 1) = ((n + 1 : Nat) : Int) := by rw [wrap_id (by omega) (by omega)]; omega
    have h1 : ((n : Int) < 8) := by omega
    rw [hw]
    simp only [h1, decide_true, if_true]
    split
    · exact f151_loop k (n + 1) _ (by omega)
    · exact f151_loop k (n + 1) _ (by omega)

theorem f151_some (a b : Int) : ∃ y, f151 a b = some y := by
  unfold f151
  obtain ⟨y, h⟩ := f151_loop 8 0 (IntKind.wrap .u32 ((BitVec.ofInt (IntKind.bits .u32) a ^^^ BitVec.ofInt (IntKind.bits .u32) (IntKind.wrap .u32 (b))).toNat)) (by omega)
  rw [show (((0 : Nat) : Int)) = (0 : Int) from rfl] at h
  exact ⟨y, by rw [h]; rfl⟩

theorem f138_loop (s : List UInt8) (hs : s.length < 9223372036854775808) : ∀ (k n : Nat) (x : Int), n + k = s.length → ∃ y, f138_l0 s x (n : Int) = some y
  | 0, n, x, h => by
    rw [f138_l0]
    have : n = s.length := by omega
    subst this
    exact ⟨_, by simp; rfl⟩
  | k + 1, n, x, h => by
    rw [f138_l0]
    have hn : n < s.length := by omega
    have hw : IntKind.wrap .i64 ((n : Int) + 1) = ((n + 1 : Nat) : Int) := by rw [wrap_id (by omega) (by omega)]; omega
    have h1 : ((n : Int) < (s.length : Int)) := by omega
    have h0 : (0 : Int) ≤ (n : Int) := by omega
    obtain ⟨z, hz⟩ := f151_some x (btS s (n : Int))
    obtain ⟨y, ih⟩ := f138_loop s hs k (n + 1) z (by omega)
    refine ⟨y, ?_⟩
    simp only [h1, h0, decide_true, if_true, and_self, hz, Option.bind_eq_bind, Option.bind_some, hw, ih]

/-- A text's sum. -/
def crc (s : List UInt8) : Int := (f111 s).getD 0

theorem f111_eq {s : List UInt8} (hs : s.length < 9223372036854775808) : f111 s = some (crc s) := by
  have : ∃ y, f111 s = some y := by
    unfold f111 f138
    obtain ⟨y, h⟩ := f138_loop s hs s.length 0 (IntKind.wrap .u32 ((BitVec.ofInt (IntKind.bits .u32) (if IntKind.signed .u32 = true then -1 else IntKind.max .u32) ^^^ BitVec.ofInt (IntKind.bits .u32) 0).toNat)) (by omega)
    rw [show (((0 : Nat) : Int)) = (0 : Int) from rfl] at h
    exact ⟨_, by rw [h]; rfl⟩
  obtain ⟨y, h⟩ := this
  unfold crc
  rw [h]; rfl

/-- The four bytes of a text's sum. -/
def sum4 (s : List UInt8) : List UInt8 := bytesS [IntKind.wrap .u8 (crc s), IntKind.wrap .u8 (Int.fdiv (crc s) (2 ^ 8)), IntKind.wrap .u8 (Int.fdiv (crc s) (2 ^ 16)), IntKind.wrap .u8 (Int.fdiv (crc s) (2 ^ 24))]
def sealS (s : List UInt8) : List UInt8 := s ++ sum4 s
def openS (s : List UInt8) : Option (List UInt8) := if 4 ≤ s.length ∧ sum4 (s.take (s.length - 4)) = s.drop (s.length - 4) then some (s.take (s.length - 4)) else none

theorem sum4_len (s : List UInt8) : (sum4 s).length = 4 := by simp [sum4, bytesS]
theorem sealS_len (s : List UInt8) : (sealS s).length = s.length + 4 := by unfold sealS; rw [List.length_append, sum4_len]

theorem openS_seal (s : List UInt8) : openS (sealS s) = some s := by
  unfold openS
  have hl := sealS_len s
  have e1 : (sealS s).length - 4 = s.length := by omega
  have e2 : (sealS s).take s.length = s := by unfold sealS; simp
  have e3 : (sealS s).drop s.length = sum4 s := by unfold sealS; simp
  rw [e1, e2, e3, if_pos ⟨by omega, rfl⟩]

theorem openS_some {s t : List UInt8} (h : openS s = some t) : s = sealS t := by
  unfold openS at h
  split at h
  · rename_i c
    simp only [Option.some.injEq] at h
    unfold sealS
    rw [← h, c.2, List.take_append_drop]
  · cases h

theorem f110_crc (s : List UInt8) : f110 (crc s) = some (sum4 s) := rfl

theorem f89_eq {s : List UInt8} (hs : s.length + 4 < 9223372036854775808) : f89 s = some (sealS s) := by
  unfold f89
  have hl := sum4_len s
  simp only [f111_eq (s := s) (by omega), f110_crc, Option.bind_eq_bind, Option.bind_some]
  rw [if_pos (by omega)]
  rfl

theorem f108_eq {s : List UInt8} (hs : s.length < 9223372036854775808) : (∃ t, openS s = some t ∧ f108 s = some (t, 0)) ∨ (openS s = none ∧ ∃ e : Int, e ≠ 0 ∧ f108 s = some ([], e)) := by
  unfold f108
  have hw : IntKind.wrap .i64 ((s.length : Int) - 4) = (s.length : Int) - 4 := wrap_id (by omega) (by omega)
  rw [hw]
  by_cases c : s.length < 4
  · refine .inr ⟨?_, 5, by decide, by rw [if_pos (by simp; omega)]⟩
    unfold openS
    rw [if_neg (by omega)]
  have e1 : Int.toNat ((s.length : Int) - 4) = s.length - 4 := by omega
  have hg : (0 : Int) ≤ (s.length : Int) - 4 ∧ (s.length : Int) - 4 ≤ (s.length : Int) := by omega
  have hl : (s.take (s.length - 4)).length < 9223372036854775808 := by rw [List.length_take]; omega
  rw [if_neg (by simp; omega), if_pos hg]
  simp only [e1, f111_eq hl, f110_crc, Option.bind_eq_bind, Option.bind_some]
  rw [if_pos hg, if_pos hg]
  unfold openS
  by_cases c2 : sum4 (s.take (s.length - 4)) = s.drop (s.length - 4)
  · refine .inl ⟨s.take (s.length - 4), ?_, ?_⟩
    · rw [if_pos ⟨by omega, c2⟩]
    · rw [if_neg (by simp [c2])]
  · refine .inr ⟨?_, 7, by decide, ?_⟩
    · rw [if_neg (fun h => c2 h.2)]
    · rw [if_pos (by simpa using c2)]

/-! ### The bytes of a number -/
theorem f90_loop : ∀ (k : Nat) (x n : Nat) (y : K145.den), x < 128 ^ (k + 1) → n + k < 10 → ∃ y2 : K145.den, ∃ x2 n2 : Nat, f90_l0 y (x : Int) (n : Int) = some (y2, (x2 : Int), (n2 : Int)) ∧ n2 < 10
  | k, x, n, y, hx, hn => by
    rw [f90_l0]
    by_cases c : x < 128
    · exact ⟨y, x, n, by rw [if_neg (by simp; omega)], by omega⟩
    · rw [if_pos (by simp; omega), if_pos (by omega)]
      have e1 : Int.fdiv (x : Int) (2 ^ 7) = ((x / 128 : Nat) : Int) := by
        rw [Int.fdiv_eq_ediv_of_nonneg _ (by decide)]; norm_cast
      have hw : IntKind.wrap .i64 ((n : Int) + 1) = ((n + 1 : Nat) : Int) := by rw [wrap_id (by omega) (by omega)]; omega
      rw [e1, hw]
      cases k with
      | zero => simp at hx; omega
      | succ k =>
        exact f90_loop k (x / 128) (n + 1) _ (by rw [Nat.div_lt_iff_lt_mul (by decide)]; rw [Nat.pow_succ] at hx; exact hx) (by omega)

/-- A number's bytes. -/
def numB (n : Nat) : List UInt8 := (f90 (n : Int)).getD []

theorem f90_all {n : Nat} (hn : n ≤ 1099511627776) : ∃ b : List UInt8, f90 (n : Int) = some b ∧ b.length ≤ 10 := by
  unfold f90
  have c : ¬ ((n : Int) < 0) := by omega
  have w64 : ∀ x : Int, IntKind.wrap .u64 x = x % 18446744073709551616 := fun x => by simp [IntKind.wrap, IntKind.bits, IntKind.signed]
  have e1 : IntKind.wrap .u64 (IntKind.wrap .u64 (n : Int) * 2 ^ 1) = ((2 * n : Nat) : Int) := by
    rw [w64, w64]; omega
  rw [if_neg (by simp), e1]
  simp only [Option.bind_eq_bind, Option.bind_some]
  obtain ⟨y2, x2, n2, h1, h2⟩ := f90_loop 9 (2 * n) 0 (0, 0, 0, 0, 0, 0, 0, 0, 0, 0, ()) (by omega) (by omega)
  rw [show (((0 : Nat) : Int)) = (0 : Int) from rfl] at h1
  rw [h1]
  simp only [Option.bind_some]
  have hw : IntKind.wrap .i64 ((n2 : Int) + 1) = ((n2 + 1 : Nat) : Int) := by rw [wrap_id (by omega) (by omega)]; omega
  rw [hw, if_pos (by omega), if_pos (by omega)]
  refine ⟨_, rfl, ?_⟩
  unfold bytesS
  rw [List.length_map, List.length_take]
  have : Int.toNat (((n2 + 1 : Nat) : Int)) = n2 + 1 := by omega
  omega

theorem f90_eq {n : Nat} (hn : n ≤ 1099511627776) : f90 (n : Int) = some (numB n) ∧ (numB n).length ≤ 10 := by
  obtain ⟨b, h1, h2⟩ := f90_all hn
  unfold numB
  rw [h1]
  exact ⟨rfl, h2⟩
end Go.Proofs.Ytlfemhkabjafeaa.M

/- Plain law, part 1: the reference's disk: places. -/
set_option linter.unusedVariables false
set_option linter.unusedSimpArgs false
namespace Go.Proofs.Ytlfemhkabjafeaa.M

theorem ix_at {α : Type} {l : List α} {n : Nat} (h : n < l.length) : ix l (n : Int) = some l[n] := by
  simp [ix, h]

/-- A file's place; below 0: there is none. -/
def atR : List K52.den → List UInt8 → Nat → Int
  | [], _, _ => -1
  | f :: r, s, n => if f.1 == s then (n : Int) else atR r s (n + 1)

theorem f34_loop {σ : St} {i : Nat} {o : denFs fs47} (ho : σ.t47[i]? = some o) (s : List UInt8) (hs : o.2.1.length < 9223372036854775808) : ∀ (k n : Nat), n + k = o.2.1.length →
    (f34_l0 (some i) s σ (n : Int) >>= fun r => (match r with | .inr yy => some yy | .inl _ => some (-1))) = some (atR (o.2.1.drop n) s n)
  | 0, n, h => by
    rw [f34_l0]
    have : n = o.2.1.length := by omega
    subst this
    simp [ho, atR]
  | k + 1, n, h => by
    rw [f34_l0]
    have hn : n < o.2.1.length := by omega
    have ih := f34_loop ho s hs k (n + 1) (by omega)
    have hw : IntKind.wrap .i64 ((n : Int) + 1) = ((n + 1 : Nat) : Int) := by rw [wrap_id (by omega) (by omega)]; omega
    have hd : o.2.1.drop n = o.2.1[n] :: o.2.1.drop (n + 1) := by simp
    have h1 : ((n : Int) < (o.2.1.length : Int)) := by omega
    simp only [ho, Option.bind_eq_bind, Option.bind_some, h1, decide_true, if_true, ix_at hn, hw]
    rw [hd]
    simp only [atR]
    by_cases hc : (o.2.1[n].1 == s) = true
    · rw [if_pos hc, if_pos hc]; simp
    · rw [if_neg hc, if_neg hc]
      simpa using ih

theorem f34_eq {σ : St} {i : Nat} {o : denFs fs47} (ho : σ.t47[i]? = some o) (s : List UInt8) (hs : o.2.1.length < 9223372036854775808) : f34 (some i) s σ = some (atR o.2.1 s 0) := by
  have h0 := f34_loop ho s hs o.2.1.length 0 (by omega)
  rw [show (((0 : Nat) : Int)) = (0 : Int) from rfl] at h0
  unfold f34
  cases h : f34_l0 (some i) s σ 0 with
  | none => rw [h] at h0; simp at h0
  | some r =>
    rw [h] at h0
    cases r with
    | inl z => simpa using h0
    | inr z => simpa using h0
end Go.Proofs.Ytlfemhkabjafeaa.M

/- Plain law, part 2: a disk as a plain value, and what each call makes of it. -/
set_option linter.unusedVariables false
set_option linter.unusedSimpArgs false
namespace Go.Proofs.Ytlfemhkabjafeaa.M

/-- A file: its name, its safe bytes, others. -/
abbrev FR : Type := List UInt8 × List UInt8 × List UInt8 × Unit
/-- A disk: its room, its files by rising names, what it is armed to, is it down? -/
abbrev AD : Type := Int × List FR × Int × Bool × Unit
/-- A call: its kind, name, bytes, other name, number, what is kept. -/
abbrev AT : Type := Int × List UInt8 × List UInt8 × List UInt8 × Int × List Int × Unit

/-! ### Order of names -/
theorem u8_irrefl (a : UInt8) : ¬ a < a := UInt8.lt_irrefl a
theorem ltr {a b c : List UInt8} (h1 : a < b) (h2 : b < c) : a < c := List.lt_trans h1 h2
theorem lirr (a : List UInt8) : ¬ a < a := List.lt_irrefl a
theorem lne {a b : List UInt8} (h : a < b) : a ≠ b := fun e => lirr b (e ▸ h)
theorem ltri {a b : List UInt8} (h1 : ¬ a < b) (h2 : a ≠ b) : b < a := by
  have h : b ≤ a := List.not_lt.1 h1
  rcases List.le_iff_lt_or_eq.1 h with h | h
  · exact h
  · exact absurd h.symm h2

/-! ### Files -/
def fsize (f : FR) : Nat := f.2.1.length + f.2.2.1.length
def usedL : List FR → Nat
  | [] => 0
  | f :: r => fsize f + usedL r
def findL (s : List UInt8) : List FR → Option FR
  | [] => none
  | f :: r => cond (f.1 == s) (some f) (findL s r)
def setL (f : FR) : Bool → List FR → List FR
  | done, [] => cond done [] [f]
  | done, g :: r => (cond (!done && !decide (g.1 < f.1)) [f] []) ++ ((cond (g.1 == f.1) [] [g]) ++ setL f (done || !decide (g.1 < f.1)) r)
def dropL (s : List UInt8) : List FR → List FR
  | [] => []
  | f :: r => (cond (f.1 == s) [] [f]) ++ dropL s r

theorem usedL_append (l l' : List FR) : usedL (l ++ l') = usedL l + usedL l' := by
  induction l with
  | nil => simp [usedL]
  | cons f r ih => simp only [List.cons_append, usedL, ih]; omega

theorem usedL_perm {l l' : List FR} (h : l.Perm l') : usedL l = usedL l' := by
  induction h with
  | nil => rfl
  | cons f _ ih => simp [usedL, ih]
  | swap f g r => simp only [usedL]; omega
  | trans _ _ h1 h2 => rw [h1, h2]

theorem dropL_eq (s : List UInt8) (L : List FR) : dropL s L = L.filter (fun g => !(g.1 == s)) := by
  induction L with
  | nil => rfl
  | cons f r ih => 
    cases h : (f.1 == s)
    · rw [List.filter_cons_of_pos (by simp [h])]; simp [dropL, h, ih]
    · rw [List.filter_cons_of_neg (by simp [h])]; simp [dropL, h, ih]

theorem setL_true (f : FR) (L : List FR) : setL f true L = dropL f.1 L := by
  induction L with
  | nil => rfl
  | cons g r ih => simp [setL, dropL, ih]

theorem setL_perm (f : FR) (L : List FR) : (setL f false L).Perm (f :: dropL f.1 L) := by
  induction L with
  | nil => exact List.Perm.refl _
  | cons g r ih =>
    simp only [setL, dropL]
    by_cases h : g.1 < f.1
    · have hb : (g.1 == f.1) = false := by simpa using lne h
      simp only [h, decide_true, Bool.not_true, Bool.and_false, cond_false, hb, Bool.or_self, List.nil_append, List.singleton_append]
      exact (List.Perm.cons g ih).trans (List.Perm.swap f g _)
    · simp only [h, decide_false, Bool.not_false, Bool.and_self, cond_true, Bool.or_true, setL_true, List.singleton_append]
      exact List.Perm.refl _

theorem mem_dropL {s : List UInt8} {L : List FR} {g : FR} : g ∈ dropL s L ↔ g ∈ L ∧ g.1 ≠ s := by
  rw [dropL_eq, List.mem_filter]; simp

theorem mem_setL {f : FR} {L : List FR} {g : FR} : g ∈ setL f false L ↔ g = f ∨ (g ∈ L ∧ g.1 ≠ f.1) := by
  rw [(setL_perm f L).mem_iff, List.mem_cons, mem_dropL]

abbrev SortL (L : List FR) : Prop := L.Pairwise (fun f g => f.1 < g.1)

theorem SortL.drop {L : List FR} (h : SortL L) (s : List UInt8) : SortL (dropL s L) := by
  rw [dropL_eq]; exact h.filter _

theorem SortL.set {f : FR} {L : List FR} (h : SortL L) : SortL (setL f false L) := by
  induction L with
  | nil => simp [setL, SortL]
  | cons g r ih =>
    have hr := List.pairwise_cons.1 h
    simp only [setL]
    by_cases hg : g.1 < f.1
    · have hb : (g.1 == f.1) = false := by simpa using lne hg
      simp only [hg, decide_true, Bool.not_true, Bool.and_false, cond_false, hb, Bool.or_self, List.nil_append, List.singleton_append]
      refine List.pairwise_cons.2 ⟨fun x hx => ?_, ih hr.2⟩
      rcases mem_setL.1 hx with rfl | ⟨hx, _⟩
      · exact hg
      · exact hr.1 x hx
    · simp only [hg, decide_false, Bool.not_false, Bool.and_self, cond_true, Bool.or_true, setL_true, List.singleton_append]
      have hd : SortL (cond (g.1 == f.1) [] [g] ++ dropL f.1 r) := h.drop f.1
      refine List.pairwise_cons.2 ⟨fun x hx => ?_, hd⟩
      have hx' : x ∈ dropL f.1 (g :: r) := hx
      obtain ⟨hx1, hx2⟩ := mem_dropL.1 hx'
      rcases List.mem_cons.1 hx1 with rfl | hx1
      · exact ltri hg hx2
      · by_cases he : g.1 = f.1
        · rw [← he]; exact hr.1 x hx1
        · exact ltr (ltri hg he) (hr.1 x hx1)

theorem findL_some {s : List UInt8} {L : List FR} {f : FR} (h : findL s L = some f) : f ∈ L ∧ f.1 = s := by
  induction L with
  | nil => simp [findL] at h
  | cons g r ih =>
    simp only [findL] at h
    cases hg : (g.1 == s)
    · rw [hg] at h; obtain ⟨h1, h2⟩ := ih h; exact ⟨List.mem_cons_of_mem _ h1, h2⟩
    · rw [hg] at h; simp only [cond_true, Option.some.injEq] at h; subst h; exact ⟨List.mem_cons_self, by simpa using hg⟩

theorem findL_none {s : List UInt8} {L : List FR} (h : findL s L = none) : ∀ f ∈ L, f.1 ≠ s := by
  induction L with
  | nil => simp
  | cons g r ih =>
    simp only [findL] at h
    cases hg : (g.1 == s)
    · rw [hg] at h
      intro f hf
      rcases List.mem_cons.1 hf with rfl | hf
      · simpa using hg
      · exact ih h f hf
    · rw [hg] at h; simp at h

theorem findL_of {s : List UInt8} {L : List FR} (hs : SortL L) {f : FR} (h1 : f ∈ L) (h2 : f.1 = s) : findL s L = some f := by
  induction L with
  | nil => simp at h1
  | cons g r ih =>
    have hr := List.pairwise_cons.1 hs
    simp only [findL]
    rcases List.mem_cons.1 h1 with rfl | h1
    · simp [h2]
    · have : (g.1 == s) = false := by
        have := lne (hr.1 f h1); rw [h2] at this; simpa using this
      rw [this]; exact ih hr.2 h1

theorem findL_no {s : List UInt8} {L : List FR} (h : ∀ f ∈ L, f.1 ≠ s) : findL s L = none := by
  cases hf : findL s L with
  | none => rfl
  | some f => obtain ⟨h1, h2⟩ := findL_some hf; exact absurd h2 (h f h1)

theorem dropL_none {s : List UInt8} {L : List FR} (h : findL s L = none) : dropL s L = L := by
  rw [dropL_eq, List.filter_eq_self]
  intro f hf
  simpa using findL_none h f hf

theorem dropL_perm {s : List UInt8} {L : List FR} (hs : SortL L) {f : FR} (h : findL s L = some f) : L.Perm (f :: dropL s L) := by
  induction L with
  | nil => simp [findL] at h
  | cons g r ih =>
    have hr := List.pairwise_cons.1 hs
    simp only [findL] at h
    cases hg : (g.1 == s)
    · rw [hg] at h
      simp only [dropL, hg, cond_false, List.singleton_append]
      exact (List.Perm.cons g (ih hr.2 h)).trans (List.Perm.swap f g _)
    · rw [hg] at h; simp only [cond_true, Option.some.injEq] at h; subst h
      simp only [dropL, hg, cond_true, List.nil_append]
      have : dropL s r = r := by
        rw [dropL_eq, List.filter_eq_self]
        intro x hx
        have h1 := lne (hr.1 x hx)
        have h2 : g.1 = s := by simpa using hg
        rw [h2] at h1
        simpa using fun e => h1 e.symm
      rw [this]

theorem findL_set {f : FR} {L : List FR} (hs : SortL L) (s : List UInt8) : findL s (setL f false L) = if f.1 = s then some f else findL s L := by
  by_cases h : f.1 = s
  · rw [if_pos h]
    exact findL_of hs.set (mem_setL.2 (.inl rfl)) h
  · rw [if_neg h]
    cases hf : findL s L with
    | none => exact findL_no (fun g hg => by
        rcases mem_setL.1 hg with rfl | ⟨hg, _⟩
        · exact h
        · exact findL_none hf g hg)
    | some g =>
      obtain ⟨h1, h2⟩ := findL_some hf
      exact findL_of hs.set (mem_setL.2 (.inr ⟨h1, fun e => h (e.symm.trans h2)⟩)) h2

theorem findL_drop {t : List UInt8} {L : List FR} (hs : SortL L) (s : List UInt8) : findL s (dropL t L) = if t = s then none else findL s L := by
  by_cases h : t = s
  · rw [if_pos h]; subst h
    exact findL_no (fun g hg => (mem_dropL.1 hg).2)
  · rw [if_neg h]
    cases hf : findL s L with
    | none => exact findL_no (fun g hg => findL_none hf g (mem_dropL.1 hg).1)
    | some g =>
      obtain ⟨h1, h2⟩ := findL_some hf
      exact findL_of (hs.drop t) (mem_dropL.2 ⟨h1, fun e => h (e.symm.trans h2)⟩) h2

/-! ### What is kept in a crash -/
def keepN (keep : List Int) (n : Nat) : Nat := match keep with
  | [] => 0
  | x :: _ => (if 0 < x then Int.tmod x (n + 1) else 0).toNat

def crashL : List FR → List Int → List FR
  | [], _ => []
  | f :: r, keep => cond f.2.2.1.isEmpty ((f.1, f.2.1, [], ()) :: crashL r keep) ((f.1, f.2.1 ++ f.2.2.1.take (keepN keep f.2.2.1.length), [], ()) :: crashL r keep.tail)

theorem keepN_le (keep : List Int) (n : Nat) : keepN keep n ≤ n := by
  cases keep with
  | nil => simp [keepN]
  | cons x r =>
    simp only [keepN]
    split
    · have := Int.tmod_lt_of_pos x (b := (n : Int) + 1) (by omega)
      omega
    · simp

/-! ### Calls -/
def putA (A : AD) (L : List FR) : AD := (A.1, L, A.2.2.1, A.2.2.2.1, ())
def goesA (A : AD) : Bool × AD := if A.2.2.1 = 0 then (false, A) else (A.2.2.1 == 1, (A.1, A.2.1, A.2.2.1 - 1, A.2.2.1 == 1, ()))
def writeA (A : AD) (k : AD → AD) : Int × AD := if (goesA A).1 = true then (11, (goesA A).2) else (0, k (goesA A).2)
def emptyF (s : List UInt8) : FR := (s, [], [], ())
def moreF (f : FR) (b : List UInt8) : FR := (f.1, f.2.1, f.2.2.1 ++ b, ())
def safeF (s : List UInt8) (f : FR) : FR := (s, f.2.1 ++ f.2.2.1, [], ())
def cutF (s : List UInt8) (f : FR) (n : Nat) : FR := if n ≤ f.2.1.length then (s, f.2.1.take n, [], ()) else (s, f.2.1, f.2.2.1.take (n - f.2.1.length), ())
def nameF (s : List UInt8) (f : FR) : FR := (s, f.2.1, [], ())

abbrev full (A : AD) (s b : List UInt8) : Prop := ((findL s A.2.1).isNone = true ∧ 128 ≤ A.2.1.length) ∨ (65536 < b.length + fsize ((findL s A.2.1).getD (emptyF s))) ∨ A.1 < (b.length : Int) + usedL A.2.1

def appendA (A : AD) (s b : List UInt8) : Int × AD :=
  if A.2.2.2.1 = true then (11, A) else if okName s = false then (2, A) else
  if full A s b then (10, A) else
  writeA (putA A (setL (moreF ((findL s A.2.1).getD (emptyF s)) b) false A.2.1)) id

def someA (A : AD) (s : List UInt8) (k : FR → Int × AD) : Int × AD :=
  if A.2.2.2.1 = true then (11, A) else match findL s A.2.1 with
    | none => (8, A)
    | some f => k f

def syncA (A : AD) (s : List UInt8) : Int × AD := someA A s fun f => writeA A (fun B => putA B (setL (safeF s f) false B.2.1))
def truncA (A : AD) (s : List UInt8) (n : Int) : Int × AD := someA A s fun f => if n < 0 ∨ (fsize f : Int) < n then (3, A) else writeA A (fun B => putA B (setL (cutF s f n.toNat) false B.2.1))
def renameA (A : AD) (s t : List UInt8) : Int × AD :=
  if A.2.2.2.1 = true then (11, A) else if okName s = false then (2, A) else if okName t = false then (2, A) else
  someA A s fun f => if f.2.2.1 ≠ [] then (12, A) else writeA A (fun B => putA B (setL (nameF t f) false (dropL s B.2.1)))
def removeA (A : AD) (s : List UInt8) : Int × AD := someA A s fun _ => writeA A (fun B => putA B (dropL s B.2.1))
def armA (A : AD) (n : Int) : Int × AD := if A.2.2.2.1 = true then (11, A) else if n < 1 then (2, A) else (0, (A.1, A.2.1, n, A.2.2.2.1, ()))
def crashA (A : AD) (keep : List Int) : AD := (A.1, crashL A.2.1 keep, 0, false, ())
def readA (A : AD) (s : List UInt8) : List UInt8 × Int := if A.2.2.2.1 = true then ([], 11) else match findL s A.2.1 with
  | none => ([], 8)
  | some f => (f.2.1 ++ f.2.2.1, 0)
def safeA (A : AD) (s : List UInt8) : Int := match findL s A.2.1 with
  | none => 0
  | some f => (f.2.1.length : Int)
def doA (A : AD) (a : AT) : Int × AD :=
  if a.1 = 0 ∨ a.1 = 1 ∨ a.1 = 2 then appendA A a.2.1 a.2.2.1 else
  if a.1 = 3 then syncA A a.2.1 else
  if a.1 = 4 then truncA A a.2.1 a.2.2.2.2.1 else
  if a.1 = 5 then renameA A a.2.1 a.2.2.2.1 else
  if a.1 = 6 then removeA A a.2.1 else
  if a.1 = 7 then armA A a.2.2.2.2.1 else (0, crashA A a.2.2.2.2.2.1)

/-- What a disk is at any time. -/
structure OkA (A : AD) : Prop where
  sorted : SortL A.2.1
  files : A.2.1.length ≤ 128
  each : ∀ f ∈ A.2.1, fsize f ≤ 65536
  used : (usedL A.2.1 : Int) ≤ A.1
  room : A.1 ≤ 1048576
  armed : 0 ≤ A.2.2.1 ∧ A.2.2.1 < 9223372036854775808

/-- What comes in with a call. -/
structure OkT (a : AT) : Prop where
  name : a.2.1.length < 9223372036854775808
  to : a.2.2.2.1.length < 9223372036854775808
  n : -9223372036854775808 ≤ a.2.2.2.2.1 ∧ a.2.2.2.2.1 < 9223372036854775808

theorem OkA.goes {A : AD} (h : OkA A) : OkA (goesA A).2 := by
  unfold goesA
  split
  · exact h
  · obtain ⟨h1, h2, h3, h4, h5, h6⟩ := h
    exact ⟨h1, h2, h3, h4, h5, by have := h6; simp only; omega⟩

theorem goesA_L (A : AD) : (goesA A).2.2.1 = A.2.1 ∧ (goesA A).2.1 = A.1 := by
  unfold goesA; split <;> exact ⟨rfl, rfl⟩

theorem OkA.write {A : AD} (h : OkA A) {k : AD → AD} (hk : ∀ B, OkA B → B.2.1 = A.2.1 → B.1 = A.1 → OkA (k B)) : OkA (writeA A k).2 := by
  unfold writeA
  split
  · exact h.goes
  · exact hk _ h.goes (goesA_L A).1 (goesA_L A).2

theorem usedL_drop_le (s : List UInt8) (L : List FR) : usedL (dropL s L) ≤ usedL L := by
  induction L with
  | nil => exact Nat.le_refl _
  | cons f r ih =>
    simp only [dropL]
    cases (f.1 == s)
    · simp only [cond_false, List.singleton_append, usedL]; omega
    · simp only [cond_true, List.nil_append, usedL]; omega

theorem dropL_len_le (s : List UInt8) (L : List FR) : (dropL s L).length ≤ L.length := by
  rw [dropL_eq]; exact List.length_filter_le _ _

theorem setL_len (f : FR) (L : List FR) : (setL f false L).length = (dropL f.1 L).length + 1 := by
  rw [(setL_perm f L).length_eq]; rfl

theorem setL_used (f : FR) (L : List FR) : usedL (setL f false L) = fsize f + usedL (dropL f.1 L) := by
  rw [usedL_perm (setL_perm f L)]; rfl

/-- A file that is no greater than the one that it replaces. -/
theorem OkA.put {A : AD} (h : OkA A) {g f : FR} {s : List UInt8} (hf : findL s A.2.1 = some f) (hg : g.1 = s) (hle : fsize g ≤ fsize f) : OkA (putA A (setL g false A.2.1)) := by
  obtain ⟨h1, h2, h3, h4, h5, h6⟩ := h
  have hp := dropL_perm h1 hf
  have hl := hp.length_eq
  have hu := usedL_perm hp
  simp only [List.length_cons, usedL] at hl hu
  refine ⟨h1.set, ?_, ?_, ?_, h5, h6⟩
  · simp only [putA, setL_len, hg]; omega
  · intro x hx
    rcases mem_setL.1 hx with rfl | ⟨hx, _⟩
    · exact Nat.le_trans hle (h3 f (findL_some hf).1)
    · exact h3 x hx
  · simp only [putA, setL_used, hg]; omega

theorem OkA.dropped {A : AD} (h : OkA A) (s : List UInt8) : OkA (putA A (dropL s A.2.1)) := by
  obtain ⟨h1, h2, h3, h4, h5, h6⟩ := h
  have hl := dropL_len_le s A.2.1
  have hu := usedL_drop_le s A.2.1
  refine ⟨h1.drop s, ?_, ?_, ?_, h5, h6⟩
  · simp only [putA]; omega
  · intro x hx; exact h3 x (mem_dropL.1 hx).1
  · simp only [putA]; omega

theorem fsize_cut {s : List UInt8} {f : FR} {n : Nat} (h : n ≤ fsize f) : fsize (cutF s f n) = n := by
  unfold cutF fsize at *
  split <;> simp <;> omega

theorem crashL_len : ∀ (L : List FR) (keep : List Int), (crashL L keep).length = L.length
  | [], _ => rfl
  | f :: r, keep => by
    unfold crashL
    cases f.2.2.1.isEmpty
    · simp [crashL_len r]
    · simp [crashL_len r]

theorem crashL_names : ∀ (L : List FR) (keep : List Int), (crashL L keep).map (·.1) = L.map (·.1)
  | [], _ => rfl
  | f :: r, keep => by
    unfold crashL
    cases f.2.2.1.isEmpty
    · simp [crashL_names r]
    · simp [crashL_names r]

theorem crashL_used : ∀ (L : List FR) (keep : List Int), usedL (crashL L keep) ≤ usedL L
  | [], _ => Nat.le_refl _
  | f :: r, keep => by
    unfold crashL
    have h1 := crashL_used r keep
    have h2 := crashL_used r keep.tail
    cases f.2.2.1.isEmpty
    · simp only [cond_false, usedL, fsize, List.length_append, List.length_take, List.length_nil]; omega
    · simp only [cond_true, usedL, fsize, List.length_nil]; omega

theorem crashL_each {m : Nat} : ∀ (L : List FR) (keep : List Int), (∀ f ∈ L, fsize f ≤ m) → ∀ f ∈ crashL L keep, fsize f ≤ m
  | [], _, _ => by simp [crashL]
  | f :: r, keep, h => by
    have hf := h f List.mem_cons_self
    have h1 := crashL_each r keep (fun x hx => h x (List.mem_cons_of_mem _ hx))
    have h2 := crashL_each r keep.tail (fun x hx => h x (List.mem_cons_of_mem _ hx))
    unfold crashL
    unfold fsize at hf
    intro x hx
    cases hb : f.2.2.1.isEmpty
    · rw [hb] at hx
      simp only [cond_false, List.mem_cons] at hx
      rcases hx with rfl | hx
      · simp only [fsize, List.length_append, List.length_take, List.length_nil]; omega
      · exact h2 x hx
    · rw [hb] at hx
      simp only [cond_true, List.mem_cons] at hx
      rcases hx with rfl | hx
      · simp only [fsize, List.length_nil]; omega
      · exact h1 x hx

theorem SortL_names {L L' : List FR} (h : L.map (·.1) = L'.map (·.1)) (hs : SortL L) : SortL L' := by
  have h1 : (L.map (·.1)).Pairwise (· < ·) := List.pairwise_map.2 hs
  rw [h] at h1
  exact List.pairwise_map.1 h1

theorem OkA.crash {A : AD} (h : OkA A) (keep : List Int) : OkA (crashA A keep) := by
  obtain ⟨h1, h2, h3, h4, h5, h6⟩ := h
  have hl := crashL_len A.2.1 keep
  have hu := crashL_used A.2.1 keep
  refine ⟨SortL_names (crashL_names A.2.1 keep).symm h1, ?_, crashL_each _ _ h3, ?_, h5, ?_⟩
  · simp only [crashA]; omega
  · simp only [crashA]; omega
  · simp only [crashA]; omega

theorem OkA.appended {A : AD} (h : OkA A) {s b : List UInt8} (hc : ¬ full A s b) : OkA (putA A (setL (moreF ((findL s A.2.1).getD (emptyF s)) b) false A.2.1)) := by
  obtain ⟨h1, h2, h3, h4, h5, h6⟩ := h
  simp only [full, not_or, not_and, Nat.not_le, Nat.not_lt, Int.not_lt] at hc
  obtain ⟨c1, c2, c3⟩ := hc
  cases hf : findL s A.2.1 with
  | none =>
    rw [hf] at c1 c2
    have c1 := c1 rfl
    have hd := dropL_none hf
    have e1 : (moreF ((none : Option FR).getD (emptyF s)) b).1 = s := rfl
    refine ⟨h1.set, ?_, ?_, ?_, h5, h6⟩
    · simp only [putA, setL_len, e1, hd]; omega
    · intro x hx
      rcases mem_setL.1 hx with rfl | ⟨hx, _⟩
      · simp only [Option.getD_none, fsize, emptyF, moreF, List.length_append, List.length_nil] at c2 ⊢; omega
      · exact h3 x hx
    · simp only [putA, setL_used, e1, hd]
      simp only [Option.getD_none, fsize, emptyF, moreF, List.length_append, List.length_nil] at c2 ⊢; omega
  | some f =>
    rw [hf] at c1 c2
    have hn := (findL_some hf).2
    have hp := dropL_perm h1 hf
    have hl := hp.length_eq
    have hu := usedL_perm hp
    simp only [List.length_cons, usedL] at hl hu
    have e1 : (moreF ((some f).getD (emptyF s)) b).1 = s := hn
    refine ⟨h1.set, ?_, ?_, ?_, h5, h6⟩
    · simp only [putA, setL_len, e1]; omega
    · intro x hx
      rcases mem_setL.1 hx with rfl | ⟨hx, _⟩
      · simp only [Option.getD_some, fsize, moreF, List.length_append] at c2 ⊢; omega
      · exact h3 x hx
    · simp only [putA, setL_used, e1]
      simp only [Option.getD_some, fsize, moreF, List.length_append] at c2 hu ⊢; omega

theorem OkA.append {A : AD} (h : OkA A) (s b : List UInt8) : OkA (appendA A s b).2 := by
  unfold appendA
  split
  · exact h
  split
  · exact h
  split
  · exact h
  rename_i hc
  exact (h.appended hc).write (fun B hB _ _ => hB)

theorem OkA.some {A : AD} (h : OkA A) {s : List UInt8} {k : FR → Int × AD} (hk : ∀ f, findL s A.2.1 = .some f → OkA (k f).2) : OkA (someA A s k).2 := by
  unfold someA
  split
  · exact h
  split
  · exact h
  · rename_i f hf; exact hk f hf

theorem OkA.do {A : AD} (h : OkA A) {a : AT} (ha : OkT a) : OkA (doA A a).2 := by
  unfold doA
  split
  · exact h.append _ _
  split
  · refine h.some (fun f hf => h.write (fun B hB hL _ => ?_))
    refine hB.put (f := f) (s := a.2.1) (by rw [hL]; exact hf) rfl ?_
    simp [fsize, safeF]
  split
  · refine h.some (fun f hf => ?_)
    split
    · exact h
    · rename_i hc
      simp only [not_or, Int.not_lt] at hc
      refine h.write (fun B hB hL _ => ?_)
      refine hB.put (f := f) (s := a.2.1) (by rw [hL]; exact hf) (by unfold cutF; split <;> rfl) ?_
      rw [fsize_cut (by omega)]; omega
  split
  · unfold renameA
    split
    · exact h
    split
    · exact h
    split
    · exact h
    refine h.some (fun f hf => ?_)
    split
    · exact h
    rename_i hm
    simp only [ne_eq, Decidable.not_not] at hm
    refine h.write (fun B hB hL _ => ?_)
    rw [← hL] at hf
    have hp := dropL_perm hB.sorted hf
    have hl := hp.length_eq
    have hu := usedL_perm hp
    simp only [List.length_cons, usedL, fsize] at hl hu
    have hd := hB.dropped a.2.1
    have hl2 := dropL_len_le (nameF a.2.2.2.1 f).1 (dropL a.2.1 B.2.1)
    have hu2 := usedL_drop_le (nameF a.2.2.2.1 f).1 (dropL a.2.1 B.2.1)
    have hx1 := hB.files
    have hx2 := hB.used
    refine ⟨hd.sorted.set, ?_, ?_, ?_, hB.room, hB.armed⟩
    · simp only [putA, setL_len]; omega
    · intro x hx
      rcases mem_setL.1 hx with rfl | ⟨hx, _⟩
      · have := hB.each f (findL_some hf).1
        simp only [fsize, nameF, List.length_nil] at this ⊢; omega
      · exact hd.each x hx
    · have e : fsize (nameF a.2.2.2.1 f) ≤ f.2.1.length := by simp [fsize, nameF]
      simp only [putA, setL_used]; omega
  split
  · refine h.some (fun f hf => h.write (fun B hB hL _ => hB.dropped _))
  split
  · unfold armA
    split
    · exact h
    split
    · exact h
    · obtain ⟨h1, h2, h3, h4, h5, h6⟩ := h
      have := ha.n
      exact ⟨h1, h2, h3, h4, h5, by simp only; omega⟩
  · exact h.crash _
end Go.Proofs.Ytlfemhkabjafeaa.M

/- Plain law, part 3: what the reference's disk does. -/
set_option linter.unusedVariables false
set_option linter.unusedSimpArgs false
namespace Go.Proofs.Ytlfemhkabjafeaa.M

/-! ### Order of two names -/
theorem btS_lt {a b : List UInt8} {n : Nat} (ha : n < a.length) (hb : n < b.length) : (btS a (n : Int) < btS b (n : Int)) ↔ a[n] < b[n] := by
  rw [btS_at ha, btS_at hb, UInt8.lt_iff_toNat_lt]; omega

theorem btS_ne {a b : List UInt8} {n : Nat} (ha : n < a.length) (hb : n < b.length) : (btS a (n : Int) != btS b (n : Int)) = !(a[n] == b[n]) := by
  rw [btS_at ha, btS_at hb]
  by_cases h : a[n] = b[n]
  · rw [h]; simp
  · have : (a[n].toNat : Int) ≠ (b[n].toNat : Int) := fun e => h (UInt8.toNat_inj.1 (by omega))
    have h2 : (a[n] == b[n]) = false := by simpa using h
    rw [h2]; simpa using this

theorem f128_loop (a b : List UInt8) (hb : b.length < 9223372036854775808) : ∀ (k n : Nat), n + k = b.length → n ≤ a.length →
    (f128_l0 a b (n : Int) >>= fun r => (match r with | .inr yy => some yy | .inl _ => some (decide ((a.length : Int) < (b.length : Int))))) = some (decide (a.drop n < b.drop n))
  | 0, n, h, ha => by
    rw [f128_l0]
    have : n = b.length := by omega
    subst this
    simp
    omega
  | k + 1, n, h, ha => by
    rw [f128_l0]
    have hn : n < b.length := by omega
    have hw : IntKind.wrap .i64 ((n : Int) + 1) = ((n + 1 : Nat) : Int) := by rw [wrap_id (by omega) (by omega)]; omega
    have hd : b.drop n = b[n] :: b.drop (n + 1) := by simp
    have h1 : ((n : Int) < (b.length : Int)) := by omega
    have h0 : (0 : Int) ≤ (n : Int) := by omega
    by_cases hna : n < a.length
    · have ih := f128_loop a b hb k (n + 1) (by omega) (by omega)
      have hda : a.drop n = a[n] :: a.drop (n + 1) := by simp
      have h2 : ((n : Int) < (a.length : Int)) := by omega
      simp only [h1, h2, h0, decide_true, Bool.and_self, if_true, and_self, btS_ne hna hn, btS_lt hna hn, hw]
      rw [hd, hda]
      by_cases he : a[n] = b[n]
      · have : (!(a[n] == b[n])) = false := by simp [he]
        rw [this]
        rw [if_neg (by decide), ih]
        simp only [List.cons_lt_cons_iff, he, UInt8.lt_irrefl, false_or, true_and]
      · have : (!(a[n] == b[n])) = true := by simp [he]
        rw [this]
        simp only [if_true, Option.bind_eq_bind, Option.bind_some, List.cons_lt_cons_iff, he, false_and, or_false]
    · have : n = a.length := by omega
      subst this
      have h2 : ¬ ((a.length : Int) < (a.length : Int)) := by omega
      simp only [h2, decide_false, Bool.false_and, Option.bind_eq_bind]
      rw [if_neg (by decide)]
      have hlt : List.drop a.length a < List.drop a.length b := by rw [hd, List.drop_length]; exact List.Lex.nil
      simp only [Option.bind_some, h1, decide_true, hlt]

theorem f128_eq (a b : List UInt8) (hb : b.length < 9223372036854775808) : f128 a b = some (decide (a < b)) := by
  have h0 := f128_loop a b hb b.length 0 (by omega) (by omega)
  rw [show (((0 : Nat) : Int)) = (0 : Int) from rfl] at h0
  unfold f128
  cases h : f128_l0 a b 0 with
  | none => rw [h] at h0; simp at h0
  | some r =>
    rw [h] at h0
    cases r with
    | inl z => simpa using h0
    | inr z => simpa using h0

/-! ### A place -/
theorem atR_spec (s : List UInt8) : ∀ (L : List FR) (n : Nat), (findL s L = none ∧ atR L s n = -1) ∨ ∃ f k, findL s L = some f ∧ atR L s n = ((n + k : Nat) : Int) ∧ L[k]? = some f
  | [], n => .inl ⟨rfl, rfl⟩
  | g :: r, n => by
    simp only [findL, atR]
    cases hg : (g.1 == s)
    · simp only [cond_false]
      rcases atR_spec s r (n + 1) with ⟨h1, h2⟩ | ⟨f, k, h1, h2, h3⟩
      · exact .inl ⟨h1, by simpa using h2⟩
      · refine .inr ⟨f, k + 1, h1, ?_, by simpa using h3⟩
        simp only [Bool.false_eq_true, if_false, h2]; omega
    · exact .inr ⟨g, 0, rfl, by simp, by simp⟩

theorem set_at {α : Type} : ∀ {l : List α} {j : Nat} {x : α}, l[j]? = some x → l.set j x = l
  | [], _, _, h => by simp at h
  | y :: l, 0, x, h => by simp at h; subst h; rfl
  | y :: l, j + 1, x, h => by rw [List.set_cons_succ, set_at (by simpa using h)]

theorem set47_self {σ : St} {x : Nat} {A : AD} (h : σ.t47[x]? = some A) : σ.set47 x A = σ := by
  unfold St.set47; rw [set_at h]
theorem set47_set {σ : St} {x : Nat} {A B : AD} : (σ.set47 x A).set47 x B = σ.set47 x B := by
  unfold St.set47; simp
theorem ix_some {α : Type} {l : List α} {n : Nat} {f : α} (h : l[n]? = some f) : ix l ((n : Nat) : Int) = some f := by
  simp [ix, h]

section
variable {σ : St} {x : Nat} {A : AD}

theorem f34_cases (hx : σ.t47[x]? = some A) (hA : OkA A) (s : List UInt8) : (findL s A.2.1 = none ∧ f34 (some x) s σ = some (-1)) ∨ ∃ f k, findL s A.2.1 = some f ∧ f34 (some x) s σ = some ((k : Nat) : Int) ∧ A.2.1[k]? = some f := by
  have := hA.files
  rw [f34_eq hx s (by omega)]
  rcases atR_spec s A.2.1 0 with ⟨h1, h2⟩ | ⟨f, k, h1, h2, h3⟩
  · exact .inl ⟨h1, by rw [h2]⟩
  · exact .inr ⟨f, k, h1, by rw [h2]; simp, h3⟩

theorem f75_loop (hx : σ.t47[x]? = some A) (hl : A.2.1.length ≤ 128) : ∀ (k n u : Nat), n + k = A.2.1.length → u + usedL (A.2.1.drop n) < 9223372036854775808 →
    f75_l0 (some x) σ (u : Int) (n : Int) = some (((u + usedL (A.2.1.drop n) : Nat) : Int), (A.2.1.length : Int))
  | 0, n, u, h, hu => by
    rw [f75_l0]
    have : n = A.2.1.length := by omega
    subst this
    simp [hx, usedL]
  | k + 1, n, u, h, hu => by
    rw [f75_l0]
    have hn : n < A.2.1.length := by omega
    have hd : A.2.1.drop n = A.2.1[n] :: A.2.1.drop (n + 1) := by simp
    rw [hd] at hu ⊢
    simp only [usedL, fsize] at hu ⊢
    have hw : IntKind.wrap .i64 ((n : Int) + 1) = ((n + 1 : Nat) : Int) := by rw [wrap_id (by omega) (by omega)]; omega
    have hw2 : IntKind.wrap .i64 (IntKind.wrap .i64 ((u : Int) + (A.2.1[n].2.1.length : Int)) + (A.2.1[n].2.2.1.length : Int)) = ((u + (A.2.1[n].2.1.length + A.2.1[n].2.2.1.length) : Nat) : Int) := by
      rw [wrap_id (x := (u : Int) + (A.2.1[n].2.1.length : Int)) (by omega) (by omega), wrap_id (by omega) (by omega)]; omega
    have ih := f75_loop hx hl k (n + 1) (u + (A.2.1[n].2.1.length + A.2.1[n].2.2.1.length)) (by omega) (by omega)
    have h1 : ((n : Int) < (A.2.1.length : Int)) := by omega
    simp only [hx, Option.bind_eq_bind, Option.bind_some, h1, decide_true, if_true, ix_at hn, hw, hw2, ih]
    simp only [Nat.add_assoc]

theorem f75_eq (hx : σ.t47[x]? = some A) (hA : OkA A) : f75 (some x) σ = some ((usedL A.2.1 : Nat) : Int) := by
  have h1 := hA.used; have h2 := hA.room
  have h0 := f75_loop hx hA.files A.2.1.length 0 0 (by omega) (by simp only [List.drop_zero]; omega)
  rw [show (((0 : Nat) : Int)) = (0 : Int) from rfl] at h0
  unfold f75
  rw [h0]; simp

theorem f74_loop (hx : σ.t47[x]? = some A) (hl : A.2.1.length ≤ 128) : ∀ (k n : Nat) (acc : List (List UInt8)), n + k = A.2.1.length → acc.length = n →
    f74_l0 (some x) σ acc (n : Int) = some (acc ++ (A.2.1.drop n).map (·.1), (A.2.1.length : Int))
  | 0, n, acc, h, hu => by
    rw [f74_l0]
    have : n = A.2.1.length := by omega
    subst this
    simp [hx]
  | k + 1, n, acc, h, hu => by
    rw [f74_l0]
    have hn : n < A.2.1.length := by omega
    have hd : A.2.1.drop n = A.2.1[n] :: A.2.1.drop (n + 1) := by simp
    have hw : IntKind.wrap .i64 ((n : Int) + 1) = ((n + 1 : Nat) : Int) := by rw [wrap_id (by omega) (by omega)]; omega
    have ih := f74_loop hx hl k (n + 1) (acc ++ [A.2.1[n].1]) (by omega) (by simp [hu])
    have h1 : ((n : Int) < (A.2.1.length : Int)) := by omega
    have hg : (acc.length + 1) * 16 ≤ 140737488355328 := by omega
    simp only [hx, Option.bind_eq_bind, Option.bind_some, h1, decide_true, if_true, ix_at hn, hw, hg, ih]
    rw [hd]
    simp only [List.map_cons, List.append_assoc, List.cons_append, List.nil_append]

theorem f74_eq (hx : σ.t47[x]? = some A) (hA : OkA A) : f74 (some x) σ = some (A.2.1.map (·.1)) := by
  have h0 := f74_loop hx hA.files A.2.1.length 0 [] (by omega) rfl
  rw [show (((0 : Nat) : Int)) = (0 : Int) from rfl] at h0
  unfold f74
  rw [h0]; simp

theorem f106_loop (hx : σ.t47[x]? = some A) (hl : A.2.1.length ≤ 128) (s : List UInt8) : ∀ (k n : Nat) (acc : List FR), n + k = A.2.1.length → acc.length ≤ n →
    f106_l0 (some x) s σ acc (n : Int) = some (acc ++ dropL s (A.2.1.drop n), (A.2.1.length : Int))
  | 0, n, acc, h, hu => by
    rw [f106_l0]
    have : n = A.2.1.length := by omega
    subst this
    simp [hx, dropL]
  | k + 1, n, acc, h, hu => by
    rw [f106_l0]
    have hn : n < A.2.1.length := by omega
    have hd : A.2.1.drop n = A.2.1[n] :: A.2.1.drop (n + 1) := by simp
    have hw : IntKind.wrap .i64 ((n : Int) + 1) = ((n + 1 : Nat) : Int) := by rw [wrap_id (by omega) (by omega)]; omega
    have h1 : ((n : Int) < (A.2.1.length : Int)) := by omega
    have hg : (acc.length + 1) * 48 ≤ 140737488355328 := by omega
    simp only [hx, Option.bind_eq_bind, Option.bind_some, h1, decide_true, if_true, ix_at hn, hw, hg]
    rw [hd]
    simp only [dropL]
    cases hs : (A.2.1[n].1 == s)
    · have ih := f106_loop hx hl s k (n + 1) (acc ++ [A.2.1[n]]) (by omega) (by simp; omega)
      simp only [Bool.not_false, if_true, Option.bind_some, ih]; simp
    · have ih := f106_loop hx hl s k (n + 1) acc (by omega) (by omega)
      simp only [Bool.not_true, Bool.false_eq_true, if_false, Option.bind_some, ih]; simp

theorem f106_eq (hx : σ.t47[x]? = some A) (hl : A.2.1.length ≤ 128) (s : List UInt8) : f106 (some x) s σ = some ((), σ.set47 x (putA A (dropL s A.2.1))) := by
  have h0 := f106_loop hx hl s A.2.1.length 0 [] (by omega) (Nat.le_refl _)
  rw [show (((0 : Nat) : Int)) = (0 : Int) from rfl] at h0
  unfold f106
  rw [h0]; simp [hx, putA]

theorem guard48 {n : Nat} (h : n ≤ 300) : (n + 1) * 48 ≤ 140737488355328 := by omega

theorem f103_loop (hx : σ.t47[x]? = some A) (hl : A.2.1.length ≤ 128) (f : FR) (hf : f.1.length < 9223372036854775808) : ∀ (k n : Nat) (acc : List FR) (d : Bool), n + k = A.2.1.length → acc.length ≤ 2 * n →
    ∃ acc' d', f103_l0 (some x) σ acc f d (n : Int) = some (acc', f, d', (A.2.1.length : Int)) ∧ cond d' acc' (acc' ++ [f]) = acc ++ setL f d (A.2.1.drop n) ∧ acc'.length ≤ 2 * A.2.1.length
  | 0, n, acc, d, h, hu => by
    rw [f103_l0]
    have : n = A.2.1.length := by omega
    subst this
    refine ⟨acc, d, by simp [hx], ?_, hu⟩
    cases d <;> simp [setL]
  | k + 1, n, acc, d, h, hu => by
    rw [f103_l0]
    have hn : n < A.2.1.length := by omega
    have hd : A.2.1.drop n = A.2.1[n] :: A.2.1.drop (n + 1) := by simp
    have hw : IntKind.wrap .i64 ((n : Int) + 1) = ((n + 1 : Nat) : Int) := by rw [wrap_id (by omega) (by omega)]; omega
    have h1 : ((n : Int) < (A.2.1.length : Int)) := by omega
    have hga : acc.length ≤ 300 := by omega
    have hgb : (acc ++ [f]).length ≤ 300 := by rw [List.length_append, List.length_singleton]; omega
    simp only [hx, Option.bind_eq_bind, Option.bind_some, h1, decide_true, if_true, ix_at hn, hw, guard48 hga, f128_eq _ _ hf]
    rw [hd]
    simp only [setL]
    have go : ∀ (acc2 : List FR) (d2 : Bool), acc2.length ≤ 2 * n + 2 → acc2 ++ setL f d2 (A.2.1.drop (n + 1)) = acc ++ (cond (!d && !decide (A.2.1[n].1 < f.1)) [f] [] ++ (cond (A.2.1[n].1 == f.1) [] [A.2.1[n]] ++ setL f (d || !decide (A.2.1[n].1 < f.1)) (A.2.1.drop (n + 1)))) →
        ∃ acc' d', f103_l0 (some x) σ acc2 f d2 ((n + 1 : Nat) : Int) = some (acc', f, d', (A.2.1.length : Int)) ∧ cond d' acc' (acc' ++ [f]) = acc ++ (cond (!d && !decide (A.2.1[n].1 < f.1)) [f] [] ++ (cond (A.2.1[n].1 == f.1) [] [A.2.1[n]] ++ setL f (d || !decide (A.2.1[n].1 < f.1)) (A.2.1.drop (n + 1)))) ∧ acc'.length ≤ 2 * A.2.1.length := by
      intro acc2 d2 ha he
      obtain ⟨acc', d', e1, e2, e3⟩ := f103_loop hx hl f hf k (n + 1) acc2 d2 (by omega) (by omega)
      exact ⟨acc', d', e1, e2.trans he, e3⟩
    cases d with
    | true =>
      simp only [Bool.not_true, Bool.false_eq_true, if_false]
      cases hs : (A.2.1[n].1 == f.1) with
      | true =>
        have := go acc true (by omega) (by simp [hs])
        simpa [hs] using this
      | false =>
        have := go (acc ++ [A.2.1[n]]) true (by simp; omega) (by simp [hs])
        simpa [hs] using this
    | false =>
      simp only [Bool.not_false, if_true]
      cases hlt : decide (A.2.1[n].1 < f.1) with
      | true =>
        simp only [Bool.not_true, Bool.false_eq_true, if_false, Option.bind_some]
        cases hs : (A.2.1[n].1 == f.1) with
        | true =>
          have := go acc false (by omega) (by simp [hs, hlt])
          simpa [hs, hlt, guard48 hga] using this
        | false =>
          have := go (acc ++ [A.2.1[n]]) false (by simp; omega) (by simp [hs, hlt])
          simpa [hs, hlt, guard48 hga] using this
      | false =>
        simp only [Bool.not_false, if_true, Option.bind_some, guard48 hgb]
        cases hs : (A.2.1[n].1 == f.1) with
        | true =>
          have := go (acc ++ [f]) true (by simp; omega) (by simp [hs, hlt])
          simpa [hs, hlt] using this
        | false =>
          have := go (acc ++ [f, A.2.1[n]]) true (by simp; omega) (by simp [hs, hlt])
          simpa [hs, hlt] using this

theorem f103_eq (hx : σ.t47[x]? = some A) (hl : A.2.1.length ≤ 128) (f : FR) (hf : f.1.length < 9223372036854775808) : f103 (some x) f σ = some ((), σ.set47 x (putA A (setL f false A.2.1))) := by
  obtain ⟨acc', d', e1, e2, e3⟩ := f103_loop hx hl f hf A.2.1.length 0 [] false (by omega) (Nat.le_refl _)
  rw [show (((0 : Nat) : Int)) = (0 : Int) from rfl] at e1
  simp only [List.drop_zero, List.nil_append] at e2
  unfold f103
  rw [e1]
  have hg : (acc'.length + 1) * 48 ≤ 140737488355328 := by omega
  rw [← e2]
  cases d' <;> simp [hx, hg, putA]

theorem f104_eq (hx : σ.t47[x]? = some A) (hA : OkA A) : f104 (some x) σ = some ((goesA A).1 && true, σ.set47 x (goesA A).2) ∨ A.2.2.2.1 = true := by
  have ha := hA.armed
  by_cases hdn : A.2.2.2.1 = true
  · exact .inr hdn
  refine .inl ?_
  unfold f104 goesA
  simp only [hx, Option.bind_eq_bind, Option.bind_some]
  by_cases h0 : A.2.2.1 = 0
  · rw [if_pos (by simp [h0]), if_pos h0]
    simp [set47_self hx]
  · rw [if_neg (by simpa using h0), if_neg h0]
    have hw : IntKind.wrap .i64 (A.2.2.1 - 1) = A.2.2.1 - 1 := wrap_id (by omega) (by omega)
    rw [hw]
    simp only [set47_get hx, Option.bind_some, set47_set]
    have he : ((A.2.2.1 - 1 == 0) : Bool) = (A.2.2.1 == 1) := by
      by_cases h1 : A.2.2.1 = 1
      · simp [h1]
      · have h2 : ¬ (A.2.2.1 - 1 = 0) := by omega
        rw [beq_eq_false_iff_ne.2 h2, beq_eq_false_iff_ne.2 h1]
    simp only [he, Bool.and_true]

theorem goes47 (hx : σ.t47[x]? = some A) (hA : OkA A) (hd : A.2.2.2.1 = false) : f104 (some x) σ = some ((goesA A).1, σ.set47 x (goesA A).2) := by
  rcases f104_eq hx hA with h | h
  · simpa using h
  · rw [hd] at h; cases h

def someR (A : AD) (s : List UInt8) : FR × Int := if A.2.2.2.1 = true then (([], [], [], ()), 11) else match findL s A.2.1 with
  | none => (([], [], [], ()), 8)
  | some f => (f, 0)

theorem f105_eq (hx : σ.t47[x]? = some A) (hA : OkA A) (s : List UInt8) : f105 (some x) s σ = some (someR A s) := by
  unfold f105 someR
  simp only [hx, Option.bind_eq_bind, Option.bind_some]
  by_cases hd : A.2.2.2.1 = true
  · rw [if_pos hd, if_pos hd]
  · rw [if_neg hd, if_neg hd]
    rcases f34_cases hx hA s with ⟨h1, h2⟩ | ⟨f, k, h1, h2, h3⟩
    · rw [h1, h2]; rfl
    · rw [h1, h2]
      have : ¬ ((k : Int) < 0) := by omega
      simp only [Option.bind_some, this, decide_false, Bool.false_eq_true, if_false, hx, ix_some h3]

theorem f76_eq (hx : σ.t47[x]? = some A) (hA : OkA A) (s : List UInt8) : f76 (some x) s σ = some (readA A s) := by
  unfold f76 readA
  rw [f105_eq hx hA]
  unfold someR
  simp only [Option.bind_eq_bind, Option.bind_some]
  by_cases hd : A.2.2.2.1 = true
  · simp [hd]
  · simp only [hd]
    cases hf : findL s A.2.1 with
    | none => simp
    | some f =>
      have := hA.each f (findL_some hf).1
      unfold fsize at this
      simp
      omega
end
end Go.Proofs.Ytlfemhkabjafeaa.M
