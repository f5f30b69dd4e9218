/- Plain law, part 4: the calls of the reference's disk. -/
import Derived.Test.YtlfemhkabjafeaaV3
set_option linter.unusedVariables false
set_option linter.unusedSimpArgs false
namespace Go.Proofs.Ytlfemhkabjafeaa.M

section
variable {σ : St} {x : Nat} {A : AD}

theorem room_id {f : FR} (h : fsize f ≤ 65536) : IntKind.wrap .i64 (IntKind.wrap .i64 (65536 - (f.2.1.length : Int)) - (f.2.2.1.length : Int)) = 65536 - (f.2.1.length : Int) - (f.2.2.1.length : Int) := by
  unfold fsize at h
  rw [wrap_id (x := 65536 - (f.2.1.length : Int)) (by omega) (by omega), wrap_id (by omega) (by omega)]

theorem used_id (hA : OkA A) : IntKind.wrap .i64 (A.1 - ((usedL A.2.1 : Nat) : Int)) = A.1 - ((usedL A.2.1 : Nat) : Int) := by
  have h1 := hA.used; have h2 := hA.room
  rw [wrap_id (by omega) (by omega)]

theorem f63_eq (hx : σ.t47[x]? = some A) (hA : OkA A) (s b : List UInt8) (hs : s.length < 9223372036854775808) : f63 (some x) s b σ = some ((appendA A s b).1, σ.set47 x (appendA A s b).2) := by
  unfold f63 appendA
  simp only [hx, Option.bind_eq_bind, Option.bind_some]
  by_cases hd : A.2.2.2.1 = true
  · rw [if_pos hd, if_pos hd, set47_self hx]
  rw [if_neg hd, if_neg hd, f102_eq s hs, Option.bind_some]
  cases hn : okName s
  · simp [set47_self hx]
  simp only [Bool.not_true, Bool.false_eq_true, if_false, Bool.true_eq_false]
  have hdB : ∀ L, (putA A L).2.2.2.1 = false := fun L => by
    have h0 : A.2.2.2.1 = false := by simpa using hd
    exact h0
  rcases f34_cases hx hA s with ⟨h1, h2⟩ | ⟨f, k, h1, h2, h3⟩
  · have hr := room_id (f := emptyF s) (by simp [fsize, emptyF])
    have e1 : decide ((-1 : Int) ≥ 0) = false := by decide
    have e2 : decide ((-1 : Int) < 0) = true := by decide
    rw [h2]
    simp only [Option.bind_some, e1, e2, Bool.false_eq_true, if_false, if_true, f75_eq hx hA, used_id hA]
    simp only [emptyF] at hr
    simp only [hr, decide_eq_true_eq]
    have hsz : fsize (emptyF s) = 0 := rfl
    by_cases c1 : (A.2.1.length : Int) ≥ 128
    · rw [if_pos c1, if_pos (.inl ⟨by rw [h1]; rfl, by omega⟩), set47_self hx]
    rw [if_neg c1]
    by_cases c2 : (b.length : Int) > 65536 - (([] : List UInt8).length : Int) - (([] : List UInt8).length : Int)
    · rw [if_pos c2, if_pos (.inr (.inl (by rw [h1]; simp only [Option.getD_none, hsz]; simp at c2; omega))), set47_self hx]
    rw [if_neg c2]
    by_cases c3 : (b.length : Int) > A.1 - ((usedL A.2.1 : Nat) : Int)
    · rw [if_pos c3, if_pos (.inr (.inr (by omega))), set47_self hx]
    rw [if_neg c3]
    have hc : ¬ full A s b := by
      simp only [full, h1, Option.getD_none, hsz, not_or, not_and]
      simp at c2
      exact ⟨fun _ => by omega, by omega, by omega⟩
    rw [if_neg hc]
    have hB := hA.appended hc
    rw [h1] at hB ⊢
    have hl : ([] : List UInt8).length + b.length ≤ 9223372036854775807 := by simp at c2 ⊢; omega
    rw [if_pos hl]
    have e3 : ((s, [], [] ++ b, ()) : FR) = moreF ((none : Option FR).getD (emptyF s)) b := rfl
    rw [e3, f103_eq hx hA.files _ hs]
    simp only [Option.bind_some]
    rw [goes47 (set47_get hx) hB (hdB _)]
    simp only [Option.bind_some, set47_set, writeA]
    cases (goesA (putA A (setL (moreF ((none : Option FR).getD (emptyF s)) b) false A.2.1))).1 <;> rfl
  · have hm := findL_some h1
    have hfs := hA.each f hm.1
    have hr := room_id hfs
    have e1 : (k : Int) ≥ 0 := by omega
    have e2 : ¬ ((k : Int) < 0) := by omega
    rw [h2]
    simp only [Option.bind_some, e1, e2, Bool.false_eq_true, if_false, if_true, f75_eq hx hA, used_id hA, hx, ix_some h3, hr, decide_eq_true_eq]
    unfold fsize at hfs
    by_cases c2 : (b.length : Int) > 65536 - (f.2.1.length : Int) - (f.2.2.1.length : Int)
    · rw [if_pos c2, if_pos (.inr (.inl (by rw [h1]; simp only [Option.getD_some, fsize]; omega))), set47_self hx]
    rw [if_neg c2]
    by_cases c3 : (b.length : Int) > A.1 - ((usedL A.2.1 : Nat) : Int)
    · rw [if_pos c3, if_pos (.inr (.inr (by omega))), set47_self hx]
    rw [if_neg c3]
    have hc : ¬ full A s b := by
      simp only [full, h1, Option.getD_some, fsize, not_or, not_and]
      exact ⟨fun h => by simp at h, by omega, by omega⟩
    rw [if_neg hc]
    have hB := hA.appended hc
    rw [h1] at hB ⊢
    have hl : f.2.2.1.length + b.length ≤ 9223372036854775807 := by omega
    rw [if_pos hl]
    have e3 : ((f.1, f.2.1, f.2.2.1 ++ b, ()) : FR) = moreF ((some f).getD (emptyF s)) b := rfl
    have hs2 : f.1.length < 9223372036854775808 := by rw [hm.2]; exact hs
    rw [e3, f103_eq hx hA.files (moreF ((some f).getD (emptyF s)) b) hs2]
    simp only [Option.bind_some]
    rw [goes47 (set47_get hx) hB (hdB _)]
    simp only [Option.bind_some, set47_set, writeA]
    cases (goesA (putA A (setL (moreF ((some f).getD (emptyF s)) b) false A.2.1))).1 <;> rfl

theorem goesL (hA : OkA A) : (goesA A).2.2.1.length ≤ 128 := by rw [(goesA_L A).1]; exact hA.files

theorem f64_eq (hx : σ.t47[x]? = some A) (hA : OkA A) (s : List UInt8) (hs : s.length < 9223372036854775808) : f64 (some x) s σ = some ((syncA A s).1, σ.set47 x (syncA A s).2) := by
  unfold f64 syncA someA
  rw [f105_eq hx hA]
  unfold someR
  simp only [Option.bind_eq_bind, Option.bind_some]
  cases hd : A.2.2.2.1 with
  | true => simp [set47_self hx]
  | false =>
    simp only [Bool.false_eq_true, if_false]
    cases hf : findL s A.2.1 with
    | none => simp [set47_self hx]
    | some f =>
      have hfs := hA.each f (findL_some hf).1
      unfold fsize at hfs
      simp only [goes47 hx hA hd, Option.bind_some, writeA]
      rw [if_neg (by decide)]
      cases hg : (goesA A).1 with
      | true => simp
      | false =>
        rw [if_neg Bool.false_ne_true, if_neg Bool.false_ne_true, if_pos (by omega)]
        rw [f103_eq (f := (s, f.2.1 ++ f.2.2.1, [], ())) (set47_get hx) (goesL hA) hs]
        simp only [Option.bind_some, set47_set, safeF]

theorem f65_eq (hx : σ.t47[x]? = some A) (hA : OkA A) (s : List UInt8) (n : Int) (hs : s.length < 9223372036854775808) : f65 (some x) s n σ = some ((truncA A s n).1, σ.set47 x (truncA A s n).2) := by
  unfold f65 truncA someA
  rw [f105_eq hx hA]
  unfold someR
  simp only [Option.bind_eq_bind, Option.bind_some]
  cases hd : A.2.2.2.1 with
  | true => simp [set47_self hx]
  | false =>
    simp only [Bool.false_eq_true, if_false]
    cases hf : findL s A.2.1 with
    | none => simp [set47_self hx]
    | some f =>
      have hfs := hA.each f (findL_some hf).1
      unfold fsize at hfs
      have hw : IntKind.wrap .i64 ((f.2.1.length : Int) + (f.2.2.1.length : Int)) = (f.2.1.length : Int) + (f.2.2.1.length : Int) := wrap_id (by omega) (by omega)
      simp only [hw, decide_eq_true_eq]
      rw [if_neg (by decide)]
      by_cases c1 : n < 0
      · rw [if_pos c1, if_pos (.inl c1), set47_self hx]
      rw [if_neg c1]
      by_cases c2 : n > (f.2.1.length : Int) + (f.2.2.1.length : Int)
      · rw [if_pos c2, if_pos (.inr (by unfold fsize; omega)), set47_self hx]
      rw [if_neg c2, if_neg (by unfold fsize; omega)]
      simp only [goes47 hx hA hd, Option.bind_some, writeA]
      cases hg : (goesA A).1 with
      | true => simp
      | false =>
        rw [if_neg Bool.false_ne_true, if_neg Bool.false_ne_true]
        unfold cutF
        by_cases c3 : n ≤ (f.2.1.length : Int)
        · rw [if_pos c3, if_pos ⟨by omega, c3⟩, if_pos (by omega)]
          rw [f103_eq (f := (s, f.2.1.take n.toNat, [], ())) (set47_get hx) (goesL hA) hs]
          simp only [Option.bind_some, set47_set]
        · have hw2 : IntKind.wrap .i64 (n - (f.2.1.length : Int)) = n - (f.2.1.length : Int) := wrap_id (by omega) (by omega)
          have e : (n - (f.2.1.length : Int)).toNat = n.toNat - f.2.1.length := by omega
          rw [if_neg c3, hw2, if_pos ⟨by omega, by omega⟩, if_neg (by omega), e]
          rw [f103_eq (f := (s, f.2.1, f.2.2.1.take (n.toNat - f.2.1.length), ())) (set47_get hx) (goesL hA) hs]
          simp only [Option.bind_some, set47_set]

theorem f66_eq (hx : σ.t47[x]? = some A) (hA : OkA A) (s t : List UInt8) (hs : s.length < 9223372036854775808) (ht : t.length < 9223372036854775808) : f66 (some x) s t σ = some ((renameA A s t).1, σ.set47 x (renameA A s t).2) := by
  unfold f66 renameA someA
  rw [f105_eq hx hA, f102_eq s hs, f102_eq t ht]
  unfold someR
  simp only [hx, Option.bind_eq_bind, Option.bind_some]
  cases hd : A.2.2.2.1 with
  | true => simp [set47_self hx]
  | false =>
    simp only [Bool.false_eq_true, if_false]
    cases hn : okName s
    · simp [set47_self hx]
    cases hn2 : okName t
    · simp [set47_self hx]
    simp only [Bool.not_true, Bool.false_eq_true, if_false, Bool.true_eq_false]
    cases hf : findL s A.2.1 with
    | none => simp [set47_self hx]
    | some f =>
      simp only []
      rw [if_neg (by decide)]
      cases hm : f.2.2.1 with
      | cons c r => simp [set47_self hx]
      | nil =>
        rw [if_neg (by decide), if_neg (by simp)]
        simp only [goes47 hx hA hd, Option.bind_some, writeA]
        cases hg : (goesA A).1 with
        | true => simp
        | false =>
          rw [if_neg Bool.false_ne_true, if_neg Bool.false_ne_true]
          rw [f106_eq (set47_get hx) (goesL hA)]
          simp only [Option.bind_some, set47_set]
          have hl2 := dropL_len_le s (goesA A).2.2.1
          have hl3 := goesL hA
          rw [f103_eq (f := (t, f.2.1, [], ())) (set47_get hx) (by simp only [putA]; omega) ht]
          simp only [Option.bind_some, set47_set, nameF]
          rfl

theorem f67_eq (hx : σ.t47[x]? = some A) (hA : OkA A) (s : List UInt8) : f67 (some x) s σ = some ((removeA A s).1, σ.set47 x (removeA A s).2) := by
  unfold f67 removeA someA
  rw [f105_eq hx hA]
  unfold someR
  simp only [Option.bind_eq_bind, Option.bind_some]
  cases hd : A.2.2.2.1 with
  | true => simp [set47_self hx]
  | false =>
    simp only [Bool.false_eq_true, if_false]
    cases hf : findL s A.2.1 with
    | none => simp [set47_self hx]
    | some f =>
      simp only [goes47 hx hA hd, Option.bind_some, writeA]
      rw [if_neg (by decide)]
      cases hg : (goesA A).1 with
      | true => simp
      | false =>
        rw [if_neg Bool.false_ne_true, if_neg Bool.false_ne_true]
        rw [f106_eq (set47_get hx) (goesL hA)]
        simp only [Option.bind_some, set47_set]

theorem f68_eq (hx : σ.t47[x]? = some A) (n : Int) : f68 (some x) n σ = some ((armA A n).1, σ.set47 x (armA A n).2) := by
  unfold f68 armA
  simp only [hx, Option.bind_eq_bind, Option.bind_some, decide_eq_true_eq]
  split
  · rw [set47_self hx]
  split
  · rw [set47_self hx]
  · rfl

theorem f69_loop (hx : σ.t47[x]? = some A) (hA : OkA A) (keep : List Int) : ∀ (k n u : Nat) (acc : List FR), n + k = A.2.1.length → acc.length = n → u ≤ n →
    ∃ u' : Int, f69_l0 (some x) keep σ acc (u : Int) (n : Int) = some (acc ++ crashL (A.2.1.drop n) (keep.drop u), u', (A.2.1.length : Int))
  | 0, n, u, acc, h, hu, hun => by
    rw [f69_l0]
    have : n = A.2.1.length := by omega
    subst this
    exact ⟨u, by simp [hx, crashL]⟩
  | k + 1, n, u, acc, h, hu, hun => by
    rw [f69_l0]
    have hl := hA.files
    have hn : n < A.2.1.length := by omega
    have hd : A.2.1.drop n = A.2.1[n] :: A.2.1.drop (n + 1) := by simp
    have hw : IntKind.wrap .i64 ((n : Int) + 1) = ((n + 1 : Nat) : Int) := by rw [wrap_id (by omega) (by omega)]; omega
    have hwu : IntKind.wrap .i64 ((u : Int) + 1) = ((u + 1 : Nat) : Int) := by rw [wrap_id (by omega) (by omega)]; omega
    have h1 : ((n : Int) < (A.2.1.length : Int)) := by omega
    have hga : acc.length ≤ 300 := by omega
    have hfs := hA.each A.2.1[n] (List.getElem_mem hn)
    unfold fsize at hfs
    simp only [hx, Option.bind_eq_bind, Option.bind_some, h1, decide_true, if_true, ix_at hn, hw, hwu]
    rw [hd]
    simp only [crashL]
    cases hm : A.2.1[n].2.2.1 with
    | nil =>
      obtain ⟨u', ih⟩ := f69_loop hx hA keep k (n + 1) u (acc ++ [(A.2.1[n].1, A.2.1[n].2.1, [], ())]) (by omega) (by simp [hu]) (by omega)
      refine ⟨u', ?_⟩
      have hl2 : A.2.1[n].2.1.length ≤ 9223372036854775807 := by omega
      have hc : ((n : Int) + 1) = ((n + 1 : Nat) : Int) := by omega
      simp [guard48 hga, hl2]
      rw [hc, ih]
      simp
    | cons c r =>
      rw [hm] at hfs
      have hkl := keepN_le (keep.drop u) (c :: r).length
      have htd : (keep.drop u).tail = keep.drop (u + 1) := by simp
      have hwl : IntKind.wrap .i64 (((c :: r).length : Int) + 1) = ((c :: r).length : Int) + 1 := wrap_id (by omega) (by omega)
      obtain ⟨u', ih⟩ := f69_loop hx hA keep k (n + 1) (u + 1) (acc ++ [(A.2.1[n].1, A.2.1[n].2.1 ++ (c :: r).take (keepN (keep.drop u) (c :: r).length), [], ())]) (by omega) (by simp [hu]) (by omega)
      refine ⟨u', ?_⟩
      have e0 : (!(c :: r == ([] : List UInt8))) = true := by simp
      simp only [e0, if_true, List.isEmpty_cons, cond_false, htd, hwl]
      have fin : ∀ z : Int, z = ((keepN (keep.drop u) (c :: r).length : Nat) : Int) →
          (if (0 : Int) ≤ z ∧ z ≤ ((c :: r).length : Int) then if A.2.1[n].2.1.length + ((c :: r).take (Int.toNat z)).length ≤ 9223372036854775807 then if (acc.length + 1) * 48 ≤ 140737488355328 then f69_l0 (some x) keep σ (acc ++ [(A.2.1[n].1, A.2.1[n].2.1 ++ ((c :: r).take (Int.toNat z)), [], ())]) ((u + 1 : Nat) : Int) ((n + 1 : Nat) : Int) else none else none else none) = some (acc ++ ((A.2.1[n].1, A.2.1[n].2.1 ++ (c :: r).take (keepN (keep.drop u) (c :: r).length), [], ()) :: crashL (A.2.1.drop (n + 1)) (keep.drop (u + 1))), u', (A.2.1.length : Int)) := by
        rintro z rfl
        rw [if_pos ⟨by omega, by omega⟩, if_pos (by simp only [List.length_take]; omega), if_pos (guard48 hga)]
        simp only [Int.toNat_natCast]
        rw [ih]; simp
      by_cases hk : u < keep.length
      · have hk1 : ((u : Int) < (keep.length : Int)) := by omega
        have hkd : keep.drop u = keep[u] :: keep.drop (u + 1) := by simp
        simp only [hk1, decide_true, if_true, ix_at hk, Option.bind_some]
        have hkn : keepN (keep.drop u) (c :: r).length = (if 0 < keep[u] then Int.tmod keep[u] (((c :: r).length : Nat) + 1) else 0).toNat := by rw [hkd]; rfl
        by_cases hp : keep[u] > 0
        · have hp2 : decide (keep[u] > 0) = true := by simpa using hp
          have hne : ((c :: r).length : Int) + 1 ≠ 0 := by omega
          simp only [hp2, if_true, Option.bind_some, hne, ne_eq, not_false_eq_true]
          refine fin _ ?_
          rw [hkn, if_pos hp]
          have := Int.tmod_nonneg (((c :: r).length : Nat) + 1 : Int) (Int.le_of_lt hp)
          omega
        · have hp2 : decide (keep[u] > 0) = false := by simpa using hp
          simp only [hp2, Bool.false_eq_true, if_false, Option.bind_some]
          refine fin _ ?_
          rw [hkn, if_neg hp]; rfl
      · have hk1 : ¬ ((u : Int) < (keep.length : Int)) := by omega
        have hkd : keep.drop u = [] := List.drop_eq_nil_of_le (by omega)
        simp only [hk1, decide_false, Bool.false_eq_true, if_false, Option.bind_some]
        refine fin _ ?_
        rw [hkd]; rfl

theorem f69_eq (hx : σ.t47[x]? = some A) (hA : OkA A) (keep : List Int) : f69 (some x) keep σ = some ((), σ.set47 x (crashA A keep)) := by
  obtain ⟨u', h0⟩ := f69_loop hx hA keep A.2.1.length 0 0 [] (by omega) rfl (Nat.le_refl _)
  rw [show (((0 : Nat) : Int)) = (0 : Int) from rfl] at h0
  unfold f69
  rw [h0]
  simp only [hx, Option.bind_eq_bind, Option.bind_some, set47_get hx, set47_set, List.drop_zero, List.nil_append]
  have e2 : ∀ {B C : AD}, ((σ.set47 x B).t47[x]? = some C) ↔ C = B := by
    intro B C; rw [set47_get hx]; simp [eq_comm]
  simp [set47_get hx, crashA]
end
end Go.Proofs.Ytlfemhkabjafeaa.M
