/- Plain law, part 3: what the reference's disk does. -/
import Derived.Test.YtlfemhkabjafeaaV2
set_option linter.unusedVariables false
set_option linter.unusedSimpArgs false
namespace Go.Proofs.Ytlfemhkabjafeaa.M

/-! ### Order of two names -/
theorem btS_lt {a b : List UInt8} {n : Nat} (ha : n < a.length) (hb : n < b.length) : (btS a (n : Int) < btS b (n : Int)) ↔ a[n] < b[n] := by
  rw [btS_at ha, btS_at hb, UInt8.lt_iff_toNat_lt]; omega

theorem btS_ne {a b : List UInt8} {n : Nat} (ha : n < a.length) (hb : n < b.length) : (btS a (n : Int) != btS b (n : Int)) = !(a[n] == b[n]) := by
  rw [btS_at ha, btS_at hb]
  by_cases h : a[n] = b[n]
  · rw [h]; simp
  · have : (a[n].toNat : Int) ≠ (b[n].toNat : Int) := fun e => h (UInt8.toNat_inj.1 (by omega))
    have h2 : (a[n] == b[n]) = false := by simpa using h
    rw [h2]; simpa using this

theorem f128_loop (a b : List UInt8) (hb : b.length < 9223372036854775808) : ∀ (k n : Nat), n + k = b.length → n ≤ a.length →
    (f128_l0 a b (n : Int) >>= fun r => (match r with | .inr yy => some yy | .inl _ => some (decide ((a.length : Int) < (b.length : Int))))) = some (decide (a.drop n < b.drop n))
  | 0, n, h, ha => by
    rw [f128_l0]
    have : n = b.length := by omega
    subst this
    simp
    omega
  | k + 1, n, h, ha => by
    rw [f128_l0]
    have hn : n < b.length := by omega
    have hw : IntKind.wrap .i64 ((n : Int) + 1) = ((n + 1 : Nat) : Int) := by rw [wrap_id (by omega) (by omega)]; omega
    have hd : b.drop n = b[n] :: b.drop (n + 1) := by simp
    have h1 : ((n : Int) < (b.length : Int)) := by omega
    have h0 : (0 : Int) ≤ (n : Int) := by omega
    by_cases hna : n < a.length
    · have ih := f128_loop a b hb k (n + 1) (by omega) (by omega)
      have hda : a.drop n = a[n] :: a.drop (n + 1) := by simp
      have h2 : ((n : Int) < (a.length : Int)) := by omega
      simp only [h1, h2, h0, decide_true, Bool.and_self, if_true, and_self, btS_ne hna hn, btS_lt hna hn, hw]
      rw [hd, hda]
      by_cases he : a[n] = b[n]
      · have : (!(a[n] == b[n])) = false := by simp [he]
        rw [this]
        rw [if_neg (by decide), ih]
        simp only [List.cons_lt_cons_iff, he, UInt8.lt_irrefl, false_or, true_and]
      · have : (!(a[n] == b[n])) = true := by simp [he]
        rw [this]
        simp only [if_true, Option.bind_eq_bind, Option.bind_some, List.cons_lt_cons_iff, he, false_and, or_false]
    · have : n = a.length := by omega
      subst this
      have h2 : ¬ ((a.length : Int) < (a.length : Int)) := by omega
      simp only [h2, decide_false, Bool.false_and, Option.bind_eq_bind]
      rw [if_neg (by decide)]
      have hlt : List.drop a.length a < List.drop a.length b := by rw [hd, List.drop_length]; exact List.Lex.nil
      simp only [Option.bind_some, h1, decide_true, hlt]

theorem f128_eq (a b : List UInt8) (hb : b.length < 9223372036854775808) : f128 a b = some (decide (a < b)) := by
  have h0 := f128_loop a b hb b.length 0 (by omega) (by omega)
  rw [show (((0 : Nat) : Int)) = (0 : Int) from rfl] at h0
  unfold f128
  cases h : f128_l0 a b 0 with
  | none => rw [h] at h0; simp at h0
  | some r =>
    rw [h] at h0
    cases r with
    | inl z => simpa using h0
    | inr z => simpa using h0

/-! ### A place -/
theorem atR_spec (s : List UInt8) : ∀ (L : List FR) (n : Nat), (findL s L = none ∧ atR L s n = -1) ∨ ∃ f k, findL s L = some f ∧ atR L s n = ((n + k : Nat) : Int) ∧ L[k]? = some f
  | [], n => .inl ⟨rfl, rfl⟩
  | g :: r, n => by
    simp only [findL, atR]
    cases hg : (g.1 == s)
    · simp only [cond_false]
      rcases atR_spec s r (n + 1) with ⟨h1, h2⟩ | ⟨f, k, h1, h2, h3⟩
      · exact .inl ⟨h1, by simpa using h2⟩
      · refine .inr ⟨f, k + 1, h1, ?_, by simpa using h3⟩
        simp only [Bool.false_eq_true, if_false, h2]; omega
    · exact .inr ⟨g, 0, rfl, by simp, by simp⟩

theorem set_at {α : Type} : ∀ {l : List α} {j : Nat} {x : α}, l[j]? = some x → l.set j x = l
  | [], _, _, h => by simp at h
  | y :: l, 0, x, h => by simp at h; subst h; rfl
  | y :: l, j + 1, x, h => by rw [List.set_cons_succ, set_at (by simpa using h)]

theorem set47_self {σ : St} {x : Nat} {A : AD} (h : σ.t47[x]? = some A) : σ.set47 x A = σ := by
  unfold St.set47; rw [set_at h]
theorem set47_set {σ : St} {x : Nat} {A B : AD} : (σ.set47 x A).set47 x B = σ.set47 x B := by
  unfold St.set47; simp
theorem ix_some {α : Type} {l : List α} {n : Nat} {f : α} (h : l[n]? = some f) : ix l ((n : Nat) : Int) = some f := by
  simp [ix, h]

section
variable {σ : St} {x : Nat} {A : AD}

theorem f34_cases (hx : σ.t47[x]? = some A) (hA : OkA A) (s : List UInt8) : (findL s A.2.1 = none ∧ f34 (some x) s σ = some (-1)) ∨ ∃ f k, findL s A.2.1 = some f ∧ f34 (some x) s σ = some ((k : Nat) : Int) ∧ A.2.1[k]? = some f := by
  have := hA.files
  rw [f34_eq hx s (by omega)]
  rcases atR_spec s A.2.1 0 with ⟨h1, h2⟩ | ⟨f, k, h1, h2, h3⟩
  · exact .inl ⟨h1, by rw [h2]⟩
  · exact .inr ⟨f, k, h1, by rw [h2]; simp, h3⟩

theorem f75_loop (hx : σ.t47[x]? = some A) (hl : A.2.1.length ≤ 128) : ∀ (k n u : Nat), n + k = A.2.1.length → u + usedL (A.2.1.drop n) < 9223372036854775808 →
    f75_l0 (some x) σ (u : Int) (n : Int) = some (((u + usedL (A.2.1.drop n) : Nat) : Int), (A.2.1.length : Int))
  | 0, n, u, h, hu => by
    rw [f75_l0]
    have : n = A.2.1.length := by omega
    subst this
    simp [hx, usedL]
  | k + 1, n, u, h, hu => by
    rw [f75_l0]
    have hn : n < A.2.1.length := by omega
    have hd : A.2.1.drop n = A.2.1[n] :: A.2.1.drop (n + 1) := by simp
    rw [hd] at hu ⊢
    simp only [usedL, fsize] at hu ⊢
    have hw : IntKind.wrap .i64 ((n : Int) + 1) = ((n + 1 : Nat) : Int) := by rw [wrap_id (by omega) (by omega)]; omega
    have hw2 : IntKind.wrap .i64 (IntKind.wrap .i64 ((u : Int) + (A.2.1[n].2.1.length : Int)) + (A.2.1[n].2.2.1.length : Int)) = ((u + (A.2.1[n].2.1.length + A.2.1[n].2.2.1.length) : Nat) : Int) := by
      rw [wrap_id (x := (u : Int) + (A.2.1[n].2.1.length : Int)) (by omega) (by omega), wrap_id (by omega) (by omega)]; omega
    have ih := f75_loop hx hl k (n + 1) (u + (A.2.1[n].2.1.length + A.2.1[n].2.2.1.length)) (by omega) (by omega)
    have h1 : ((n : Int) < (A.2.1.length : Int)) := by omega
    simp only [hx, Option.bind_eq_bind, Option.bind_some, h1, decide_true, if_true, ix_at hn, hw, hw2, ih]
    simp only [Nat.add_assoc]

theorem f75_eq (hx : σ.t47[x]? = some A) (hA : OkA A) : f75 (some x) σ = some ((usedL A.2.1 : Nat) : Int) := by
  have h1 := hA.used; have h2 := hA.room
  have h0 := f75_loop hx hA.files A.2.1.length 0 0 (by omega) (by simp only [List.drop_zero]; omega)
  rw [show (((0 : Nat) : Int)) = (0 : Int) from rfl] at h0
  unfold f75
  rw [h0]; simp

theorem f74_loop (hx : σ.t47[x]? = some A) (hl : A.2.1.length ≤ 128) : ∀ (k n : Nat) (acc : List (List UInt8)), n + k = A.2.1.length → acc.length = n →
    f74_l0 (some x) σ acc (n : Int) = some (acc ++ (A.2.1.drop n).map (·.1), (A.2.1.length : Int))
  | 0, n, acc, h, hu => by
    rw [f74_l0]
    have : n = A.2.1.length := by omega
    subst this
    simp [hx]
  | k + 1, n, acc, h, hu => by
    rw [f74_l0]
    have hn : n < A.2.1.length := by omega
    have hd : A.2.1.drop n = A.2.1[n] :: A.2.1.drop (n + 1) := by simp
    have hw : IntKind.wrap .i64 ((n : Int) + 1) = ((n + 1 : Nat) : Int) := by rw [wrap_id (by omega) (by omega)]; omega
    have ih := f74_loop hx hl k (n + 1) (acc ++ [A.2.1[n].1]) (by omega) (by simp [hu])
    have h1 : ((n : Int) < (A.2.1.length : Int)) := by omega
    have hg : (acc.length + 1) * 16 ≤ 140737488355328 := by omega
    simp only [hx, Option.bind_eq_bind, Option.bind_some, h1, decide_true, if_true, ix_at hn, hw, hg, ih]
    rw [hd]
    simp only [List.map_cons, List.append_assoc, List.cons_append, List.nil_append]

theorem f74_eq (hx : σ.t47[x]? = some A) (hA : OkA A) : f74 (some x) σ = some (A.2.1.map (·.1)) := by
  have h0 := f74_loop hx hA.files A.2.1.length 0 [] (by omega) rfl
  rw [show (((0 : Nat) : Int)) = (0 : Int) from rfl] at h0
  unfold f74
  rw [h0]; simp

theorem f106_loop (hx : σ.t47[x]? = some A) (hl : A.2.1.length ≤ 128) (s : List UInt8) : ∀ (k n : Nat) (acc : List FR), n + k = A.2.1.length → acc.length ≤ n →
    f106_l0 (some x) s σ acc (n : Int) = some (acc ++ dropL s (A.2.1.drop n), (A.2.1.length : Int))
  | 0, n, acc, h, hu => by
    rw [f106_l0]
    have : n = A.2.1.length := by omega
    subst this
    simp [hx, dropL]
  | k + 1, n, acc, h, hu => by
    rw [f106_l0]
    have hn : n < A.2.1.length := by omega
    have hd : A.2.1.drop n = A.2.1[n] :: A.2.1.drop (n + 1) := by simp
    have hw : IntKind.wrap .i64 ((n : Int) + 1) = ((n + 1 : Nat) : Int) := by rw [wrap_id (by omega) (by omega)]; omega
    have h1 : ((n : Int) < (A.2.1.length : Int)) := by omega
    have hg : (acc.length + 1) * 48 ≤ 140737488355328 := by omega
    simp only [hx, Option.bind_eq_bind, Option.bind_some, h1, decide_true, if_true, ix_at hn, hw, hg]
    rw [hd]
    simp only [dropL]
    cases hs : (A.2.1[n].1 == s)
    · have ih := f106_loop hx hl s k (n + 1) (acc ++ [A.2.1[n]]) (by omega) (by simp; omega)
      simp only [Bool.not_false, if_true, Option.bind_some, ih]; simp
    · have ih := f106_loop hx hl s k (n + 1) acc (by omega) (by omega)
      simp only [Bool.not_true, Bool.false_eq_true, if_false, Option.bind_some, ih]; simp

theorem f106_eq (hx : σ.t47[x]? = some A) (hl : A.2.1.length ≤ 128) (s : List UInt8) : f106 (some x) s σ = some ((), σ.set47 x (putA A (dropL s A.2.1))) := by
  have h0 := f106_loop hx hl s A.2.1.length 0 [] (by omega) (Nat.le_refl _)
  rw [show (((0 : Nat) : Int)) = (0 : Int) from rfl] at h0
  unfold f106
  rw [h0]; simp [hx, putA]

theorem guard48 {n : Nat} (h : n ≤ 300) : (n + 1) * 48 ≤ 140737488355328 := by omega

theorem f103_loop (hx : σ.t47[x]? = some A) (hl : A.2.1.length ≤ 128) (f : FR) (hf : f.1.length < 9223372036854775808) : ∀ (k n : Nat) (acc : List FR) (d : Bool), n + k = A.2.1.length → acc.length ≤ 2 * n →
    ∃ acc' d', f103_l0 (some x) σ acc f d (n : Int) = some (acc', f, d', (A.2.1.length : Int)) ∧ cond d' acc' (acc' ++ [f]) = acc ++ setL f d (A.2.1.drop n) ∧ acc'.length ≤ 2 * A.2.1.length
  | 0, n, acc, d, h, hu => by
    rw [f103_l0]
    have : n = A.2.1.length := by omega
    subst this
    refine ⟨acc, d, by simp [hx], ?_, hu⟩
    cases d <;> simp [setL]
  | k + 1, n, acc, d, h, hu => by
    rw [f103_l0]
    have hn : n < A.2.1.length := by omega
    have hd : A.2.1.drop n = A.2.1[n] :: A.2.1.drop (n + 1) := by simp
    have hw : IntKind.wrap .i64 ((n : Int) + 1) = ((n + 1 : Nat) : Int) := by rw [wrap_id (by omega) (by omega)]; omega
    have h1 : ((n : Int) < (A.2.1.length : Int)) := by omega
    have hga : acc.length ≤ 300 := by omega
    have hgb : (acc ++ [f]).length ≤ 300 := by rw [List.length_append, List.length_singleton]; omega
    simp only [hx, Option.bind_eq_bind, Option.bind_some, h1, decide_true, if_true, ix_at hn, hw, guard48 hga, f128_eq _ _ hf]
    rw [hd]
    simp only [setL]
    have go : ∀ (acc2 : List FR) (d2 : Bool), acc2.length ≤ 2 * n + 2 → acc2 ++ setL f d2 (A.2.1.drop (n + 1)) = acc ++ (cond (!d && !decide (A.2.1[n].1 < f.1)) [f] [] ++ (cond (A.2.1[n].1 == f.1) [] [A.2.1[n]] ++ setL f (d || !decide (A.2.1[n].1 < f.1)) (A.2.1.drop (n + 1)))) →
        ∃ acc' d', f103_l0 (some x) σ acc2 f d2 ((n + 1 : Nat) : Int) = some (acc', f, d', (A.2.1.length : Int)) ∧ cond d' acc' (acc' ++ [f]) = acc ++ (cond (!d && !decide (A.2.1[n].1 < f.1)) [f] [] ++ (cond (A.2.1[n].1 == f.1) [] [A.2.1[n]] ++ setL f (d || !decide (A.2.1[n].1 < f.1)) (A.2.1.drop (n + 1)))) ∧ acc'.length ≤ 2 * A.2.1.length := by
      intro acc2 d2 ha he
      obtain ⟨acc', d', e1, e2, e3⟩ := f103_loop hx hl f hf k (n + 1) acc2 d2 (by omega) (by omega)
      exact ⟨acc', d', e1, e2.trans he, e3⟩
    cases d with
    | true =>
      simp only [Bool.not_true, Bool.false_eq_true, if_false]
      cases hs : (A.2.1[n].1 == f.1) with
      | true =>
        have := go acc true (by omega) (by simp [hs])
        simpa [hs] using this
      | false =>
        have := go (acc ++ [A.2.1[n]]) true (by simp; omega) (by simp [hs])
        simpa [hs] using this
    | false =>
      simp only [Bool.not_false, if_true]
      cases hlt : decide (A.2.1[n].1 < f.1) with
      | true =>
        simp only [Bool.not_true, Bool.false_eq_true, if_false, Option.bind_some]
        cases hs : (A.2.1[n].1 == f.1) with
        | true =>
          have := go acc false (by omega) (by simp [hs, hlt])
          simpa [hs, hlt, guard48 hga] using this
        | false =>
          have := go (acc ++ [A.2.1[n]]) false (by simp; omega) (by simp [hs, hlt])
          simpa [hs, hlt, guard48 hga] using this
      | false =>
        simp only [Bool.not_false, if_true, Option.bind_some, guard48 hgb]
        cases hs : (A.2.1[n].1 == f.1) with
        | true =>
          have := go (acc ++ [f]) true (by simp; omega) (by simp [hs, hlt])
          simpa [hs, hlt] using this
        | false =>
          have := go (acc ++ [f, A.2.1[n]]) true (by simp; omega) (by simp [hs, hlt])
          simpa [hs, hlt] using this

theorem f103_eq (hx : σ.t47[x]? = some A) (hl : A.2.1.length ≤ 128) (f : FR) (hf : f.1.length < 9223372036854775808) : f103 (some x) f σ = some ((), σ.set47 x (putA A (setL f false A.2.1))) := by
  obtain ⟨acc', d', e1, e2, e3⟩ := f103_loop hx hl f hf A.2.1.length 0 [] false (by omega) (Nat.le_refl _)
  rw [show (((0 : Nat) : Int)) = (0 : Int) from rfl] at e1
  simp only [List.drop_zero, List.nil_append] at e2
  unfold f103
  rw [e1]
  have hg : (acc'.length + 1) * 48 ≤ 140737488355328 := by omega
  rw [← e2]
  cases d' <;> simp [hx, hg, putA]

theorem f104_eq (hx : σ.t47[x]? = some A) (hA : OkA A) : f104 (some x) σ = some ((goesA A).1 && true, σ.set47 x (goesA A).2) ∨ A.2.2.2.1 = true := by
  have ha := hA.armed
  by_cases hdn : A.2.2.2.1 = true
  · exact .inr hdn
  refine .inl ?_
  unfold f104 goesA
  simp only [hx, Option.bind_eq_bind, Option.bind_some]
  by_cases h0 : A.2.2.1 = 0
  · rw [if_pos (by simp [h0]), if_pos h0]
    simp [set47_self hx]
  · rw [if_neg (by simpa using h0), if_neg h0]
    have hw : IntKind.wrap .i64 (A.2.2.1 - 1) = A.2.2.1 - 1 := wrap_id (by omega) (by omega)
    rw [hw]
    simp only [set47_get hx, Option.bind_some, set47_set]
    have he : ((A.2.2.1 - 1 == 0) : Bool) = (A.2.2.1 == 1) := by
      by_cases h1 : A.2.2.1 = 1
      · simp [h1]
      · have h2 : ¬ (A.2.2.1 - 1 = 0) := by omega
        rw [beq_eq_false_iff_ne.2 h2, beq_eq_false_iff_ne.2 h1]
    simp only [he, Bool.and_true]

theorem goes47 (hx : σ.t47[x]? = some A) (hA : OkA A) (hd : A.2.2.2.1 = false) : f104 (some x) σ = some ((goesA A).1, σ.set47 x (goesA A).2) := by
  rcases f104_eq hx hA with h | h
  · simpa using h
  · rw [hd] at h; cases h

def someR (A : AD) (s : List UInt8) : FR × Int := if A.2.2.2.1 = true then (([], [], [], ()), 11) else match findL s A.2.1 with
  | none => (([], [], [], ()), 8)
  | some f => (f, 0)

theorem f105_eq (hx : σ.t47[x]? = some A) (hA : OkA A) (s : List UInt8) : f105 (some x) s σ = some (someR A s) := by
  unfold f105 someR
  simp only [hx, Option.bind_eq_bind, Option.bind_some]
  by_cases hd : A.2.2.2.1 = true
  · rw [if_pos hd, if_pos hd]
  · rw [if_neg hd, if_neg hd]
    rcases f34_cases hx hA s with ⟨h1, h2⟩ | ⟨f, k, h1, h2, h3⟩
    · rw [h1, h2]; rfl
    · rw [h1, h2]
      have : ¬ ((k : Int) < 0) := by omega
      simp only [Option.bind_some, this, decide_false, Bool.false_eq_true, if_false, hx, ix_some h3]

theorem f76_eq (hx : σ.t47[x]? = some A) (hA : OkA A) (s : List UInt8) : f76 (some x) s σ = some (readA A s) := by
  unfold f76 readA
  rw [f105_eq hx hA]
  unfold someR
  simp only [Option.bind_eq_bind, Option.bind_some]
  by_cases hd : A.2.2.2.1 = true
  · simp [hd]
  · simp only [hd]
    cases hf : findL s A.2.1 with
    | none => simp
    | some f =>
      have := hA.each f (findL_some hf).1
      unfold fsize at this
      simp
      omega
end
end Go.Proofs.Ytlfemhkabjafeaa.M
