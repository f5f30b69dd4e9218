/- Plain law, part 8: what each of the laws of the disk answers. -/
import Derived.Test.YtlfemhkabjafeaaV7
set_option linter.unusedVariables false
set_option linter.unusedSimpArgs false
namespace Go.Proofs.Ytlfemhkabjafeaa.M

section
variable {σ : St} {d n0 x : Nat} {A B : AD}

/-! ### Never more than may be -/
theorem writeA_code (A : AD) (k : AD → AD) : ((writeA A k).1 = 11 ∧ (writeA A k).2 = (goesA A).2) ∨ ((writeA A k).1 = 0 ∧ (writeA A k).2 = k (goesA A).2) := by
  unfold writeA
  split
  · exact .inl ⟨rfl, rfl⟩
  · exact .inr ⟨rfl, rfl⟩

theorem appendA_full {s b : List UInt8} (h : (appendA A s b).1 = 10) : (appendA A s b).2 = A := by
  unfold appendA at *
  split
  · rfl
  rename_i c1
  rw [if_neg c1] at h
  split
  · rfl
  rename_i c2
  rw [if_neg c2] at h
  split
  · rfl
  rename_i c3
  rw [if_neg c3] at h
  rcases writeA_code (putA A (setL (moreF ((findL s A.2.1).getD (emptyF s)) b) false A.2.1)) id with ⟨h1, _⟩ | ⟨h1, _⟩ <;> rw [h1] at h <;> cases h

theorem appendA_ok (hA : OkA A) {s b : List UInt8} (h : (appendA A s b).1 = 0) : usedL (appendA A s b).2.2.1 = usedL A.2.1 + b.length := by
  unfold appendA at *
  split
  · rename_i c1; rw [if_pos c1] at h; cases h
  rename_i c1
  rw [if_neg c1] at h
  split
  · rename_i c2; rw [if_pos c2] at h; cases h
  rename_i c2
  rw [if_neg c2] at h
  split
  · rename_i c3; rw [if_pos c3] at h; cases h
  rename_i c3
  rw [if_neg c3] at h
  rcases writeA_code (putA A (setL (moreF ((findL s A.2.1).getD (emptyF s)) b) false A.2.1)) id with ⟨h1, _⟩ | ⟨_, h2⟩
  · rw [h1] at h; cases h
  rw [h2]
  simp only [id]
  rw [(goesA_L _).1]
  simp only [putA, setL_used]
  cases hf : findL s A.2.1 with
  | none =>
    have e1 : (moreF ((none : Option FR).getD (emptyF s)) b).1 = s := rfl
    rw [e1, dropL_none hf]
    simp [fsize, moreF, emptyF]; omega
  | some f =>
    have e1 : (moreF ((some f).getD (emptyF s)) b).1 = s := (findL_some hf).2
    rw [e1]
    have hu := usedL_perm (dropL_perm hA.sorted hf)
    simp only [usedL] at hu
    simp only [Option.getD_some, fsize, moreF, List.length_append] at hu ⊢; omega

/-! ### Apart -/
theorem goes_find (A : AD) (t : List UInt8) : findL t (goesA A).2.2.1 = findL t A.2.1 := by rw [(goesA_L A).1]

theorem writeA_find {t : List UInt8} (hA : SortL A.2.1) {k : AD → AD} (hk : ∀ B : AD, SortL B.2.1 → findL t (k B).2.1 = findL t B.2.1) : findL t (writeA A k).2.2.1 = findL t A.2.1 := by
  rcases writeA_code A k with ⟨_, h⟩ | ⟨_, h⟩
  · rw [h, goes_find]
  · rw [h, hk _ (by rw [(goesA_L A).1]; exact hA), goes_find]

theorem someA_find {s t : List UInt8} {k : FR → Int × AD} (hk : ∀ f, findL t (k f).2.2.1 = findL t A.2.1) : findL t (someA A s k).2.2.1 = findL t A.2.1 := by
  unfold someA
  split
  · rfl
  split
  · rfl
  · exact hk _

theorem set_find {t : List UInt8} {g : FR} {L : List FR} (hs : SortL L) (hg : g.1 ≠ t) : findL t (setL g false L) = findL t L := by
  rw [findL_set hs, if_neg hg]

theorem cutF_name (s : List UInt8) (f : FR) (n : Nat) : (cutF s f n).1 = s := by unfold cutF; split <;> rfl

theorem doA_apart (hA : OkA A) {a : AT} {t : List UInt8} (h1 : a.2.1 ≠ t) (h2 : a.2.2.2.1 ≠ t) (h3 : 0 ≤ a.1) (h4 : a.1 ≤ 7) : findL t (doA A a).2.2.1 = findL t A.2.1 := by
  unfold doA
  split
  · unfold appendA
    split
    · rfl
    split
    · rfl
    split
    · rfl
    have hn : (moreF ((findL a.2.1 A.2.1).getD (emptyF a.2.1)) a.2.2.1).1 = a.2.1 := by
      cases hf : findL a.2.1 A.2.1 with
      | none => rfl
      | some f => exact (findL_some hf).2
    rw [writeA_find (A := putA A _) (k := id) hA.sorted.set (fun _ _ => rfl)]
    exact set_find hA.sorted (by rw [hn]; exact h1)
  split
  · exact someA_find (fun f => writeA_find hA.sorted (fun B hB => set_find hB h1))
  split
  · refine someA_find (fun f => ?_)
    split
    · rfl
    · exact writeA_find hA.sorted (fun B hB => set_find hB (by rw [cutF_name]; exact h1))
  split
  · unfold renameA
    split
    · rfl
    split
    · rfl
    split
    · rfl
    refine someA_find (fun f => ?_)
    split
    · rfl
    · refine writeA_find hA.sorted (fun B hB => ?_)
      simp only [putA]
      rw [set_find (hB.drop _) h2, findL_drop hB, if_neg h1]
  split
  · exact someA_find (fun f => writeA_find hA.sorted (fun B hB => by simp only [putA]; rw [findL_drop hB, if_neg h1]))
  split
  · unfold armA
    split
    · rfl
    split <;> rfl
  · exfalso; omega

/-! ### Safe -/
theorem crashL_get : ∀ {L : List FR} {keep : List Int} {i : Nat} {f : FR}, L[i]? = some f → ∃ k, (crashL L keep)[i]? = some (f.1, f.2.1 ++ f.2.2.1.take k, [], ())
  | [], _, _, _, h => by simp at h
  | g :: r, keep, 0, f, h => by
    simp only [List.getElem?_cons_zero, Option.some.injEq] at h
    subst h
    unfold crashL
    cases hm : g.2.2.1 with
    | nil => exact ⟨0, by simp⟩
    | cons c t => exact ⟨keepN keep (c :: t).length, by simp⟩
  | g :: r, keep, i + 1, f, h => by
    simp only [List.getElem?_cons_succ] at h
    unfold crashL
    cases g.2.2.1.isEmpty
    · obtain ⟨k, hk⟩ := crashL_get (keep := keep.tail) h
      exact ⟨k, by simpa using hk⟩
    · obtain ⟨k, hk⟩ := crashL_get (keep := keep) h
      exact ⟨k, by simpa using hk⟩

theorem crashL_more : ∀ (L : List FR) (keep : List Int), ∀ f ∈ crashL L keep, f.2.2.1 = []
  | [], _, f, h => by simp [crashL] at h
  | g :: r, keep, f, h => by
    unfold crashL at h
    cases hb : g.2.2.1.isEmpty
    · rw [hb] at h
      simp only [cond_false, List.mem_cons] at h
      rcases h with rfl | h
      · rfl
      · exact crashL_more r _ f h
    · rw [hb] at h
      simp only [cond_true, List.mem_cons] at h
      rcases h with rfl | h
      · rfl
      · exact crashL_more r _ f h

theorem crashL_plain : ∀ (L : List FR) (keep : List Int), (∀ f ∈ L, f.2.2.1 = []) → crashL L keep = L
  | [], _, _ => rfl
  | g :: r, keep, h => by
    have hg := h g List.mem_cons_self
    unfold crashL
    rw [hg]
    simp only [List.isEmpty_nil, cond_true]
    rw [crashL_plain r keep (fun f hf => h f (List.mem_cons_of_mem _ hf))]
    have : ((g.1, g.2.1, [], ()) : FR) = g := by rw [← hg]
    rw [this]

theorem f29_eq (a b : List UInt8) (h : a <+: b) : f29 a b = some true := by
  unfold f29
  have hl := h.length_le
  have h1 : ((a.length : Int) ≤ (b.length : Int)) := by omega
  rw [if_pos (by simpa using h1), if_pos ⟨by omega, h1⟩]
  simp only [Int.toNat_natCast]
  have := List.prefix_iff_eq_take.1 h
  rw [← this]
  simp

theorem f5_loop {keep : List Int} (hA : OkA A) {r3 : ((Option Nat) × (Option Nat) × Bool) × St} {r13 : Int × St} (h3 : r3.1.1 = some d) (hv : DV r13.2 d n0 (crashA A keep)) : ∀ (k n : Nat), n + k = A.2.1.length → ∃ z, f5_l0 r3 A r13 (n : Int) = some (.inl z)
  | 0, n, h => by
    rw [f5_l0]
    have : n = A.2.1.length := by omega
    subst this
    exact ⟨_, by simp; rfl⟩
  | k + 1, n, h => by
    rw [f5_l0]
    have hn : n < A.2.1.length := by omega
    have hl := hA.files
    have hw : IntKind.wrap .i64 ((n : Int) + 1) = ((n + 1 : Nat) : Int) := by rw [wrap_id (by omega) (by omega)]; omega
    have h1 : ((n : Int) < (A.2.1.length : Int)) := by omega
    obtain ⟨z, ih⟩ := f5_loop hA h3 hv k (n + 1) (by omega)
    obtain ⟨o, qs, q⟩ := hv
    have hfs := hA.each A.2.1[n] (List.getElem_mem hn)
    unfold fsize at hfs
    obtain ⟨m, hm⟩ := crashL_get (keep := keep) (L := A.2.1) (i := n) (f := A.2.1[n]) (by simp)
    have hC := hA.crash keep
    have hmem : ((A.2.1[n].1, A.2.1[n].2.1 ++ A.2.1[n].2.2.1.take m, [], ()) : FR) ∈ (crashA A keep).2.1 := List.mem_of_getElem? hm
    have hfd : findL A.2.1[n].1 (crashA A keep).2.1 = some (A.2.1[n].1, A.2.1[n].2.1 ++ A.2.1[n].2.2.1.take m, [], ()) := findL_of hC.sorted hmem rfl
    have e1 : f28 (some d) A.2.1[n].1 r13.2 = some (A.2.1[n].2.1 ++ A.2.1[n].2.2.1.take m, 0) := by
      rw [f28_eq q hC]
      unfold readA
      rw [hfd]
      simp [crashA]
    have e2 : f30 (some d) A.2.1[n].1 r13.2 = some (((A.2.1[n].2.1 ++ A.2.1[n].2.2.1.take m).length : Nat) : Int) := by
      rw [f30_eq q hC]
      unfold safeA
      rw [hfd]
    have e3 := f29_eq A.2.1[n].2.1 (A.2.1[n].2.1 ++ A.2.1[n].2.2.1.take m) (List.prefix_append _ _)
    have e4 := f29_eq (A.2.1[n].2.1 ++ A.2.1[n].2.2.1.take m) (A.2.1[n].2.1 ++ A.2.1[n].2.2.1) (by
      rw [List.prefix_append_right_inj]; exact List.take_prefix _ _)
    have hg : A.2.1[n].2.1.length + A.2.1[n].2.2.1.length ≤ 9223372036854775807 := by omega
    refine ⟨z, ?_⟩
    simp only [h3, h1, decide_true, if_true, ix_at hn, Option.bind_eq_bind, Option.bind_some, hw, e1, e2, e3, e4, hg, Bool.not_true, bne_self_eq_false, Bool.false_eq_true, if_false, ih]
end

/-- DiskSafe. -/
theorem f5_true {l : List AT} {keep more : List Int} (hl : ∀ a ∈ l, OkT a) (σ : St) : ∃ σ', f5 l keep more σ = some (true, σ') := by
  unfold f5
  obtain ⟨d, n0, x, A, σ1, e1, hb, _⟩ := f25_eq (σ := σ) hl (room := 1048576) (by decide) (by decide)
  obtain ⟨σ2, e2, hk⟩ := f19_eq σ1
  have hv := hb.dv.keep hk
  have hx : σ2.t47[x]? = some A := by rw [hk.t47]; exact hb.rv
  obtain ⟨σ3, e3, h3, _⟩ := f27_eq hv hb.ok keep
  have hC := hb.ok.crash keep
  obtain ⟨o, qs, q⟩ := h3
  have e4 := f21_eq q hC
  obtain ⟨z, e5⟩ := f5_loop (A := A) (keep := keep) (d := d) (n0 := n0) hb.ok (r3 := ((some d, some x, true), σ1)) (r13 := (0, σ3)) rfl ⟨o, qs, q⟩ A.2.1.length 0 (by omega)
  have e5' : f5_l0 ((some d, some x, true), σ1) A (0, σ3) 0 = some (.inl z) := e5
  have e6 := f20_eq q hC
  obtain ⟨σ4, e7, h4, _⟩ := f27_eq ⟨o, qs, q⟩ hC more
  have hD := hC.crash more
  have heq : crashA (crashA A keep) more = crashA A keep := by
    unfold crashA
    simp only
    rw [crashL_plain _ _ (crashL_more _ _)]
  rw [heq] at h4
  obtain ⟨o4, qs4, q4⟩ := h4
  have e8 := f20_eq q4 hC
  have e9 := f31_eq q4
  have hlen : ((((crashA A keep).2.1.map (·.1)).length : Int) != (A.2.1.length : Int)) = false := by
    have : (crashA A keep).2.1.length = A.2.1.length := crashL_len _ _
    simp [this]
  refine ⟨σ4, ?_⟩
  rw [e1]
  simp only [Option.bind_eq_bind, Option.bind_some, e2, hx, e3, e4, hlen, e5', e6, e7, e8, e9]
  simp [crashA]

/-- DiskWithin. -/
theorem f3_loop {d n0 : Nat} {room : Int} (hr : 0 ≤ room ∧ room < 65536) {l : List AT} (hl : ∀ a ∈ l, OkT a) {r3 : ((Option Nat) × Int) × St} (h3 : r3.1.1 = some d) : ∀ (k n : Nat) (σ : St) (A : AD), n + k = 200 → DV σ d n0 A → OkA A → A.1 = room → ∃ i σ', f3_l0 room l r3 (n : Int) σ = some (.inl (i, σ'))
  | 0, n, σ, A, h, hv, hA, hA1 => by
    rw [f3_l0]
    have : n = 200 := by omega
    subst this
    exact ⟨((200 : Nat) : Int), σ, by simp⟩
  | k + 1, n, σ, A, h, hv, hA, hA1 => by
    rw [f3_l0]
    have c2 : ((n : Int) < 200) := by omega
    have hw : IntKind.wrap .i64 ((n : Int) + 1) = ((n + 1 : Nat) : Int) := by rw [wrap_id (by omega) (by omega)]; omega
    have hwr : IntKind.wrap .i64 room = room := wrap_id (by omega) (by omega)
    by_cases hn : n < l.length
    · have h1 : ((n : Int) < (l.length : Int)) := by omega
      have ha := hl l[n] (List.getElem_mem hn)
      obtain ⟨o, qs, q⟩ := id hv
      have e1 := f20_eq q hA
      have e2 := f21_eq q hA
      have e3 := f22_eq (σ := σ) (room := 0) (by decide) (by decide)
      have k0 : OkA (0, [], 0, false, ()) := ⟨List.Pairwise.nil, Nat.zero_le _, fun f hf => by simp at hf, Int.le_refl 0, (by decide : (0 : Int) ≤ 1048576), Int.le_refl 0, (by decide : (0 : Int) < 9223372036854775808)⟩
      have hx0 : (σ.add47 (0, [], 0, false, ())).t47[σ.t47.length]? = some (0, [], 0, false, ()) := got47
      have hv0 : DV (σ.add47 (0, [], 0, false, ())) d n0 A := hv.same rfl rfl
      simp only [h1, c2, decide_true, Bool.and_self, if_true, ix_at hn, Option.bind_eq_bind, Option.bind_some, h3, e1, e2, e3, hwr, hw]
      -- a step that leads on
      have next : ∀ (σ2 : St) (A2 : AD), DV σ2 d n0 A2 → OkA A2 → A2.1 = room → ∃ i σ', ((f20 (some d) σ2).bind fun r => if decide (r > room) = true then some (Sum.inr (false, σ2)) else (f21 (some d) σ2).bind fun r4 => if decide ((r4.length : Int) > 128) = true then some (Sum.inr (false, σ2)) else f3_l0 room l r3 ((n + 1 : Nat) : Int) σ2) = some (Sum.inl (i, σ')) := by
        intro σ2 A2 g1 g2 g3
        obtain ⟨i, σ', ih⟩ := f3_loop hr hl h3 k (n + 1) σ2 A2 (by omega) g1 g2 g3
        obtain ⟨o2, qs2, q2⟩ := g1
        have hu := g2.used
        have hf := g2.files
        refine ⟨i, σ', ?_⟩
        rw [f20_eq q2 g2, Option.bind_some, if_neg (by simp; omega), f21_eq q2 g2, Option.bind_some, if_neg (by simp; omega), ih]
      by_cases c3 : l[n].1 < 0
      · rw [if_pos (by simpa using c3)]
        obtain ⟨σ2, g1, g2, g3⟩ := f23_eq hv0 hA hx0 k0 ha
        rw [g1]
        exact next σ2 _ g2 (hA.do ha) ((doA_room A l[n]).trans hA1)
      rw [if_neg (by simpa using c3)]
      by_cases c4 : l[n].1 > 2
      · rw [if_pos (by simpa using c4)]
        obtain ⟨σ2, g1, g2, g3⟩ := f23_eq hv0 hA hx0 k0 ha
        rw [g1]
        exact next σ2 _ g2 (hA.do ha) ((doA_room A l[n]).trans hA1)
      rw [if_neg (by simpa using c4)]
      obtain ⟨σ2, g1, g2, g3⟩ := f24_eq hv0 hA l[n].2.1 l[n].2.2.1 ha.name
      have hA2 := hA.append l[n].2.1 l[n].2.2.1
      have hrm : (appendA A l[n].2.1 l[n].2.2.1).2.1 = room := by
        have := doA_room A (0, l[n].2.1, l[n].2.2.1, [], 0, [], ())
        unfold doA at this
        rw [if_pos (.inl rfl)] at this
        exact this.trans hA1
      have hnx := next σ2 _ g2 hA2 hrm
      obtain ⟨o2, qs2, q2⟩ := g2
      rw [g1]
      simp only [Option.bind_some]
      by_cases c5 : (appendA A l[n].2.1 l[n].2.2.1).1 = 10
      · have hs := appendA_full c5
        have b1 := f20_eq q2 hA2
        have b2 := f21_eq q2 hA2
        rw [hs] at b1 b2
        rw [if_pos (by simpa using c5), b1]
        simp only [Option.bind_some]
        rw [if_neg (by simp), b2]
        simp only [Option.bind_some]
        rw [if_neg (by simp), if_neg (by rw [c5]; decide)]
        simp only [b1, b2, Option.bind_some] at hnx
        exact hnx
      · rw [if_neg (by simpa using c5)]
        by_cases c6 : (appendA A l[n].2.1 l[n].2.2.1).1 = 0
        · have hs := appendA_ok hA c6
          have b1 := f20_eq q2 hA2
          have hu := hA2.used
          have hrm2 := hA2.room
          rw [if_pos (by simpa using c6), b1]
          simp only [Option.bind_some]
          have hw3 : IntKind.wrap .i64 (((usedL A.2.1 : Nat) : Int) + (l[n].2.2.1.length : Int)) = ((usedL (appendA A l[n].2.1 l[n].2.2.1).2.2.1 : Nat) : Int) := by
            rw [hs] at hu ⊢
            rw [wrap_id (by omega) (by omega)]; omega
          rw [hw3, if_neg (by simp)]
          rw [b1] at hnx
          exact hnx
        · rw [if_neg (by simpa using c6)]
          exact hnx
    · have h1 : ¬ ((n : Int) < (l.length : Int)) := by omega
      exact ⟨n, σ, by simp [h1]⟩

theorem f3_true {room : Int} (hr : 0 ≤ room ∧ room < 65536) {l : List AT} (hl : ∀ a ∈ l, OkT a) (σ : St) : ∃ σ', f3 room l σ = some (true, σ') := by
  unfold f3
  have hwr : IntKind.wrap .i64 room = room := wrap_id (by omega) (by omega)
  obtain ⟨e0, h0, k0⟩ := f18_eq (σ := σ) (room := room) hr.1 (by omega)
  obtain ⟨σ2, e2, hk⟩ := f19_eq (σ.add105 (room, [], 0, false, ()))
  obtain ⟨i, σ', e3⟩ := f3_loop (d := σ.t105.length) hr hl (r3 := ((some σ.t105.length, 0), σ.add105 (room, [], 0, false, ()))) rfl 200 0 σ2 _ (by omega) (h0.keep hk) k0 rfl
  have e3' : f3_l0 room l ((some σ.t105.length, 0), σ.add105 (room, [], 0, false, ())) 0 σ2 = some (.inl (i, σ')) := e3
  refine ⟨σ', ?_⟩
  rw [hwr, e0]
  simp only [Option.bind_eq_bind, Option.bind_some]
  rw [if_neg (by simp), e2]
  simp only [Option.bind_some]
  rw [if_neg (by simp), e3']
  rfl

/-- DiskApart. -/
theorem f7_true {l : List AT} {a : AT} {t : List UInt8} (hl : ∀ a ∈ l, OkT a) (ha : OkT a) (σ : St) : ∃ σ', f7 l a t σ = some (true, σ') := by
  unfold f7
  obtain ⟨d, n0, x, A, σ1, e1, hb, _⟩ := f25_eq (σ := σ) hl (room := 2000) (by decide) (by decide)
  obtain ⟨σ2, e2, hk⟩ := f19_eq σ1
  obtain ⟨σ9, e9, _⟩ := f19_eq σ2
  have hv := hb.dv.keep hk
  have hx : σ2.t47[x]? = some A := by rw [hk.t47]; exact hb.rv
  rw [e1]
  simp only [Option.bind_eq_bind, Option.bind_some, Bool.not_true, Option.isNone_some, Bool.or_self, Bool.false_eq_true, if_false, e2, if_true, e9]
  by_cases c1 : a.2.1 = t
  · rw [if_pos (by simpa using c1)]; exact ⟨_, rfl⟩
  rw [if_neg (by simpa using c1)]
  by_cases c2 : a.2.2.2.1 = t
  · rw [if_pos (by simpa using c2)]; exact ⟨_, rfl⟩
  rw [if_neg (by simpa using c2)]
  by_cases c3 : a.1 > 7
  · rw [if_pos (by simpa using c3)]; exact ⟨_, rfl⟩
  rw [if_neg (by simpa using c3)]
  by_cases c4 : a.1 < 0
  · rw [if_pos (by simpa using c4)]; exact ⟨_, rfl⟩
  rw [if_neg (by simpa using c4)]
  have hap := doA_apart hb.ok (a := a) (t := t) c1 c2 (by omega) (by omega)
  obtain ⟨σ3, g1, g2, g3⟩ := f23_eq hv hb.ok hx hb.ok ha
  have hA2 := hb.ok.do ha
  obtain ⟨o, qs, q⟩ := hv
  obtain ⟨o3, qs3, q3⟩ := g2
  have s1 : safeA (doA A a).2 t = safeA A t := by unfold safeA; rw [hap]
  have e3 := f30_eq q hb.ok t
  have e4 := f30_eq q3 hA2 t
  rw [s1] at e4
  have e5 := f28_eq q3 hA2 t
  have e6 := f31_eq q3
  rw [e3]
  simp only [Option.bind_some]
  rcases f34_cases hx hb.ok t with ⟨h1, h2⟩ | ⟨f, k, h1, h2, h3⟩
  · rw [h2]
    simp only [Option.bind_some]
    rw [if_neg (by decide)]
    simp only [Option.bind_some, g1, e4, bne_self_eq_false, Bool.false_eq_true, if_false, e5, e6]
    rw [h1] at hap
    refine ⟨σ3, ?_⟩
    unfold readA
    rw [hap]
    cases (doA A a).2.2.2.2.1 <;> simp
  · have hfs := hb.ok.each f (findL_some h1).1
    unfold fsize at hfs
    have hg : f.2.1.length + f.2.2.1.length ≤ 9223372036854775807 := by omega
    rw [h2]
    simp only [Option.bind_some]
    rw [if_pos (by simp)]
    simp only [Option.bind_some, hx, ix_some h3, hg, if_true, g1, e4, bne_self_eq_false, Bool.false_eq_true, if_false, e5, e6]
    rw [h1] at hap
    refine ⟨σ3, ?_⟩
    unfold readA
    rw [hap]
    cases (doA A a).2.2.2.2.1 <;> simp

/-- DiskNone. -/
theorem f8_true {a : AT} {room : Int} (σ : St) : ∃ σ', f8 a room σ = some (true, σ') := by
  have n70 : ∀ τ : St, f70 none τ = some 1 := fun τ => rfl
  have n77 : ∀ (τ : St) s, f77 none s τ = some (none, 1) := by intro τ s; unfold f77; rw [n70]; rfl
  have n28 : ∀ (τ : St) s, f28 none s τ = some ([], 1) := by intro τ s; unfold f28; rw [n77]; rfl
  have n24 : ∀ (τ : St) s b, f24 none s b τ = some (1, τ) := by intro τ s b; unfold f24; rw [n70]; rfl
  have n33 : ∀ (τ : St) s, ∃ τ', f33 none s τ = some (1, τ') := by intro τ s; unfold f33; rw [n77]; exact ⟨_, rfl⟩
  have n35 : ∀ (τ : St) s n, ∃ τ', f35 none s n τ = some (1, τ') := by intro τ s n; unfold f35; rw [n77]; exact ⟨_, rfl⟩
  have n36 : ∀ (τ : St) s t, ∃ τ', f36 none s t τ = some (1, τ') := by intro τ s t; unfold f36; rw [n70]; exact ⟨_, rfl⟩
  have n37 : ∀ (τ : St) s, ∃ τ', f37 none s τ = some (1, τ') := by intro τ s; unfold f37; rw [n77]; exact ⟨_, rfl⟩
  have n32 : ∀ (τ : St) n, f32 none n τ = some (1, τ) := by intro τ n; unfold f32; rw [n70]; rfl
  have n27 : ∀ (τ : St) k, f27 none k τ = some (1, τ) := fun τ k => rfl
  have n30 : ∀ (τ : St) s, f30 none s τ = some 0 := fun τ s => rfl
  have n21 : ∀ (τ : St), f21 none τ = some [] := fun τ => rfl
  have n20 : ∀ (τ : St), f20 none τ = some 0 := fun τ => rfl
  have n31 : ∀ (τ : St), f31 none τ = some false := fun τ => rfl
  have h18 : ∃ p τ', f18 room σ = some (p, τ') ∧ ((decide (room ≥ 0)) && (decide (room ≤ 1048576))) = (p.2 == 0) ∧ p.1.isNone = !((decide (room ≥ 0)) && (decide (room ≤ 1048576))) := by
    unfold f18
    by_cases h1 : room < 0
    · exact ⟨(none, 2), σ, by simp [h1], by simp; omega, by simp; omega⟩
    by_cases h2 : room > 1048576
    · exact ⟨(none, 2), σ, by simp [h2], by simp; omega, by simp; omega⟩
    · exact ⟨(some σ.t105.length, 0), _, by simp [h1, h2]; rfl, by simp; omega, by simp; omega⟩
  obtain ⟨p, τ1, e1, e2, e3⟩ := h18
  obtain ⟨τ2, e4, _⟩ := f19_eq τ1
  obtain ⟨τ3, e5⟩ := n33 τ2 a.2.1
  obtain ⟨τ4, e6⟩ := n35 τ3 a.2.1 a.2.2.2.2.1
  obtain ⟨τ5, e7⟩ := n36 τ4 a.2.1 a.2.2.2.1
  obtain ⟨τ6, e8⟩ := n37 τ5 a.2.1
  unfold f8
  rw [n28]
  simp only [Option.bind_eq_bind, Option.bind_some, e1, e4, n24, e5, e6, e7, e8, n32, n27, n30, n21, n20, n31]
  rw [e2, e3, e2]
  have hw : IntKind.wrap .i64 (IntKind.wrap .i64 (0 + (([] : List (List UInt8)).length : Int)) + 0) = 0 := by decide
  have hw0 : IntKind.wrap .i64 (IntKind.wrap .i64 0) = 0 := by decide
  refine ⟨τ6, ?_⟩
  simp [hw0]

/-! ### Armed -/
abbrev arA (m : List UInt8) (n : Int) : AD := (1000, [([97], [], m, ())], n, false, ())

theorem arA_ok {m : List UInt8} {n : Int} (hm : m.length ≤ 10) (h1 : 0 ≤ n) (h2 : n ≤ 10) : OkA (arA m n) :=
  okSingle (by simp [fsize]; omega) (by simp [fsize]; omega) (by decide) h1 (by omega)

theorem arA_app {m b : List UInt8} {n : Int} (hm : m.length + b.length ≤ 10) (h1 : 2 ≤ n) : appendA (arA m n) [97] b = (0, arA (m ++ b) (n - 1)) := by
  have hf : findL [97] (arA m n).2.1 = some ([97], [], m, ()) := rfl
  have hok : okName [97] = true := by decide
  unfold appendA
  rw [if_neg (by simp), hok, if_neg (by simp)]
  have hc : ¬ full (arA m n) [97] b := by
    simp only [full, hf, Option.getD_some, fsize, usedL]
    simp; omega
  rw [if_neg hc, hf]
  simp only [Option.getD_some, moreF]
  have hs : setL ([97], [], m ++ b, ()) false (arA m n).2.1 = [([97], [], m ++ b, ())] := by rfl
  rw [hs]
  have hg : goesA (putA (arA m n) [([97], [], m ++ b, ())]) = (false, arA (m ++ b) (n - 1)) := by
    unfold goesA
    rw [if_neg (by simp only [putA]; omega)]
    simp only [putA]
    have : (n == 1) = false := by simp; omega
    rw [this]
  unfold writeA
  rw [hg]
  rfl

theorem f6_loop0 {d n0 : Nat} {p0 : Int} {kk : Nat} (hk : IntKind.wrap .i64 ((IntKind.wrap .i64 (Int.tmod p0 5)) + 1) = (kk : Int)) (hk1 : 1 ≤ kk) (hk2 : kk ≤ 5) {r3 : ((Option Nat) × Int) × St} (h3 : r3.1.1 = some d) : ∀ (k i : Nat) (σ : St) (m : List UInt8), i + k = kk → 1 ≤ i → m.length = i → DV σ d n0 (arA m ((kk : Int) - i + 1)) →
    ∃ z σ' m', f6_l0 p0 r3 (i : Int) σ = some (.inl (z, σ')) ∧ DV σ' d n0 (arA m' 1) ∧ m'.length = kk
  | 0, i, σ, m, h, hi, hm, hv => by
    rw [f6_l0, hk]
    have : i = kk := by omega
    subst this
    refine ⟨_, σ, m, by simp; exact rfl, ?_, hm⟩
    have e : ((i : Int) - i + 1) = 1 := by omega
    rw [e] at hv; exact hv
  | k + 1, i, σ, m, h, hi, hm, hv => by
    rw [f6_l0, hk]
    have hlt : ((i : Int) < (kk : Int)) := by omega
    have hw : IntKind.wrap .i64 ((i : Int) + 1) = ((i + 1 : Nat) : Int) := by rw [wrap_id (by omega) (by omega)]; omega
    obtain ⟨σ2, g1, g2, _⟩ := f24_eq hv (arA_ok (by omega) (by omega) (by omega)) [97] [50] (by decide)
    rw [arA_app (by simp; omega) (by omega)] at g1 g2
    have e : ((kk : Int) - i + 1 - 1) = (kk : Int) - ((i + 1 : Nat) : Int) + 1 := by omega
    simp only [e] at g2
    obtain ⟨z, σ', m', j1, j2, j3⟩ := f6_loop0 hk hk1 hk2 h3 k (i + 1) σ2 (m ++ [50]) (by omega) (by omega) (by simp [hm]) g2
    refine ⟨z, σ', m', ?_, j2, j3⟩
    simp only [hlt, decide_true, if_true, h3, g1, Option.bind_eq_bind, Option.bind_some, bne_self_eq_false, Bool.false_eq_true, if_false, hw, j1]

/-- A disk that is down does nothing. -/
theorem doA_down {A : AD} (h : A.2.2.2.1 = true) {a : AT} (h1 : 0 ≤ a.1) (h2 : a.1 ≤ 7) : doA A a = (11, A) := by
  have hs : ∀ (s : List UInt8) (k : FR → Int × AD), someA A s k = (11, A) := by
    intro s k; unfold someA; rw [if_pos h]
  unfold doA
  split
  · unfold appendA; rw [if_pos h]
  split
  · exact hs _ _
  split
  · exact hs _ _
  split
  · unfold renameA; rw [if_pos h]
  split
  · exact hs _ _
  split
  · unfold armA; rw [if_pos h]
  · exfalso; omega

theorem f6_loop1 {d n0 : Nat} {p0 : Int} {kk : Nat} (hk : IntKind.wrap .i64 ((IntKind.wrap .i64 (Int.tmod p0 5)) + 1) = (kk : Int)) {A : AD} (hA : OkA A) (hd : A.2.2.2.1 = true) (hu : usedL A.2.1 = kk) {l : List AT} (hl : ∀ a ∈ l, OkT a) {r3 : ((Option Nat) × Int) × St} (h3 : r3.1.1 = some d) : ∀ (k n : Nat) (σ : St), n + k = 20 → DV σ d n0 A →
    ∃ z σ', f6_l1 p0 l r3 (n : Int) σ = some (.inl (z, σ')) ∧ DV σ' d n0 A
  | 0, n, σ, h, hv => by
    rw [f6_l1]
    have : n = 20 := by omega
    subst this
    exact ⟨((20 : Nat) : Int), σ, by simp, hv⟩
  | k + 1, n, σ, h, hv => by
    rw [f6_l1]
    have c2 : ((n : Int) < 20) := by omega
    have hw : IntKind.wrap .i64 ((n : Int) + 1) = ((n + 1 : Nat) : Int) := by rw [wrap_id (by omega) (by omega)]; omega
    by_cases hn : n < l.length
    · have h1 : ((n : Int) < (l.length : Int)) := by omega
      have ha := hl l[n] (List.getElem_mem hn)
      simp only [h1, c2, decide_true, Bool.and_self, if_true, ix_at hn, Option.bind_eq_bind, Option.bind_some, hw, hk]
      by_cases c3 : l[n].1 > 7
      · rw [if_pos (by simpa using c3)]
        exact f6_loop1 hk hA hd hu hl h3 k (n + 1) σ (by omega) hv
      rw [if_neg (by simpa using c3)]
      by_cases c4 : l[n].1 < 0
      · rw [if_pos (by simpa using c4)]
        exact f6_loop1 hk hA hd hu hl h3 k (n + 1) σ (by omega) hv
      rw [if_neg (by simpa using c4)]
      have e3 := f22_eq (σ := σ) (room := 0) (by decide) (by decide)
      have hx0 : (σ.add47 (0, [], 0, false, ())).t47[σ.t47.length]? = some (0, [], 0, false, ()) := got47
      have hx1 : ((σ.add47 (0, [], 0, false, ())).set47 σ.t47.length (0, [], 0, true, ())).t47[σ.t47.length]? = some (0, [], 0, true, ()) := set47_get hx0
      have k0 : OkA (0, [], 0, true, ()) := ⟨List.Pairwise.nil, Nat.zero_le _, fun f hf => by simp at hf, Int.le_refl 0, (by decide : (0 : Int) ≤ 1048576), Int.le_refl 0, (by decide : (0 : Int) < 9223372036854775808)⟩
      have hv1 : DV ((σ.add47 (0, [], 0, false, ())).set47 σ.t47.length (0, [], 0, true, ())) d n0 A := hv.same rfl rfl
      obtain ⟨σ2, g1, g2, g3⟩ := f23_eq hv1 hA hx1 k0 ha
      rw [doA_down hd (by omega) (by omega)] at g1 g2
      rw [doA_down (A := (0, [], 0, true, ())) rfl (by omega) (by omega)] at g1
      obtain ⟨z, σ', j1, j2⟩ := f6_loop1 hk hA hd hu hl h3 k (n + 1) σ2 (by omega) g2
      obtain ⟨o2, qs2, q2⟩ := g2
      refine ⟨z, σ', ?_, j2⟩
      rw [e3]
      simp only [Option.bind_some, hx0, h3, g1, beq_self_eq_true, Bool.not_true, Bool.false_eq_true, if_false, f20_eq q2 hA, hu, bne_self_eq_false, j1]
    · have h1 : ¬ ((n : Int) < (l.length : Int)) := by omega
      exact ⟨n, σ, by simp [h1], hv⟩

/-- DiskArmed. -/
theorem f6_true {p0 : Int} (hp : 0 ≤ p0 ∧ p0 < 256) {l : List AT} (hl : ∀ a ∈ l, OkT a) (σ : St) : ∃ σ', f6 p0 l σ = some (true, σ') := by
  obtain ⟨kk, hk, hk1, hk2⟩ : ∃ kk : Nat, IntKind.wrap .i64 ((IntKind.wrap .i64 (Int.tmod p0 5)) + 1) = (kk : Int) ∧ 1 ≤ kk ∧ kk ≤ 5 := by
    have h1 := Int.tmod_nonneg 5 hp.1
    have h2 := Int.tmod_lt_of_pos p0 (b := 5) (by decide)
    refine ⟨(Int.tmod p0 5).toNat + 1, ?_, by omega, by omega⟩
    rw [wrap_id (x := Int.tmod p0 5) (by omega) (by omega), wrap_id (by omega) (by omega)]
    omega
  obtain ⟨e0, h0, k0⟩ := f18_eq (σ := σ) (room := 1000) (by decide) (by decide)
  obtain ⟨σ1, e1, h1, _⟩ := f24_eq h0 k0 [97] [49] (by decide)
  have a1 : appendA (1000, [], 0, false, ()) [97] [49] = (0, arA [49] 0) := by rfl
  rw [a1] at e1 h1
  obtain ⟨σ2, e2, h2, _⟩ := f32_eq h1 (kk : Int)
  have a2 : armA (arA [49] 0) (kk : Int) = (0, arA [49] (kk : Int)) := by
    unfold armA
    rw [if_neg (by simp), if_neg (by omega)]
  rw [a2] at e2 h2
  obtain ⟨σ3, e3, hkp⟩ := f19_eq σ2
  have h3 := h2.keep hkp
  have ek : (kk : Int) = (kk : Int) - ((1 : Nat) : Int) + 1 := by omega
  have h3' : DV σ3 σ.t105.length σ.t108.length (arA [49] ((kk : Int) - ((1 : Nat) : Int) + 1)) := by rw [← ek]; exact h3
  obtain ⟨z, σ4, m, e4, h4, hm⟩ := f6_loop0 (d := σ.t105.length) hk hk1 hk2 (r3 := ((some σ.t105.length, 0), σ.add105 (1000, [], 0, false, ()))) rfl (kk - 1) 1 σ3 [49] (by omega) (by omega) rfl h3'
  have e4' : f6_l0 p0 ((some σ.t105.length, 0), σ.add105 (1000, [], 0, false, ())) 1 σ3 = some (.inl (z, σ4)) := e4
  have k4 : OkA (arA m 1) := arA_ok (by omega) (by decide) (by decide)
  obtain ⟨σ5, e5, h5, _⟩ := f33_eq h4 k4 [97]
  have a5 : syncA (arA m 1) [97] = (11, (1000, [([97], [], m, ())], 0, true, ())) := by rfl
  rw [a5] at e5 h5
  have k5 : OkA (1000, [([97], [], m, ())], 0, true, ()) := okSingle (by simp [fsize]; omega) (by simp [fsize]; omega) (by decide) (by decide) (by decide)
  obtain ⟨o5, qs5, q5⟩ := id h5
  have e6 := f31_eq q5
  have e7 : f30 (some σ.t105.length) [97] σ5 = some 0 := f30_eq q5 k5 [97]
  obtain ⟨z1, σ6, e8, h6⟩ := f6_loop1 (d := σ.t105.length) hk k5 rfl (by simp [usedL, fsize, hm]) hl (r3 := ((some σ.t105.length, 0), σ.add105 (1000, [], 0, false, ()))) rfl 20 0 σ5 (by omega) h5
  have e8' : f6_l1 p0 l ((some σ.t105.length, 0), σ.add105 (1000, [], 0, false, ())) 0 σ5 = some (.inl (z1, σ6)) := e8
  obtain ⟨o6, qs6, q6⟩ := id h6
  have e9 : f28 (some σ.t105.length) [97] σ6 = some ([], 11) := f28_eq q6 k5 [97]
  obtain ⟨σ7, e10, h7, _⟩ := f27_eq h6 k5 []
  obtain ⟨o7, qs7, q7⟩ := h7
  have e11 := f31_eq q7
  have e12 := f20_eq q7 (k5.crash [])
  have hus : usedL (crashA (1000, [([97], [], m, ())], 0, true, ()) []).2.1 = 0 := by
    cases m with
    | nil => rfl
    | cons c r => rfl
  rw [hus] at e12
  refine ⟨σ7, ?_⟩
  unfold f6
  rw [e0]
  simp only [Option.bind_eq_bind, Option.bind_some]
  rw [if_neg (by simp), e1]
  simp only [Option.bind_some]
  rw [if_neg (by simp), hk, e2]
  simp only [Option.bind_some]
  rw [if_neg (by simp), e3]
  simp only [Option.bind_some]
  rw [if_neg (by simp), e4']
  simp only [Option.bind_some]
  rw [e5]
  simp only [Option.bind_some]
  rw [if_neg (by simp), e6]
  simp only [Option.bind_some]
  rw [if_neg (by simp), e7]
  simp only [Option.bind_some]
  rw [if_neg (by simp), e8']
  simp only [Option.bind_some]
  rw [e9]
  simp only [Option.bind_some]
  rw [if_pos (by simp), e10]
  simp only [Option.bind_some]
  rw [if_pos (by simp), e11]
  simp only [Option.bind_some]
  rw [if_pos (by simp [crashA]), e12]
  rfl
end Go.Proofs.Ytlfemhkabjafeaa.M
