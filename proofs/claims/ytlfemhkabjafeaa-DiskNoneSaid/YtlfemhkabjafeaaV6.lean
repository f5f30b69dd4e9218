/- Plain law, part 6: the calls of a disk. -/
import Derived.Test.YtlfemhkabjafeaaV5
set_option linter.unusedVariables false
set_option linter.unusedSimpArgs false
namespace Go.Proofs.Ytlfemhkabjafeaa.M

/-- All but the table of disks. -/
def Oth (σ σ1 : St) : Prop := σ1.t108 = σ.t108 ∧ σ1.t100106 = σ.t100106 ∧ σ1.t100003 = σ.t100003 ∧ σ1.t100009 = σ.t100009 ∧ σ1.t100024 = σ.t100024

section
variable {σ : St} {d n0 : Nat} {A : AD} {o : denFs fs105} {qs : List (FR × Nat)}

theorem set105_set {X Y : denFs fs105} : (σ.set105 d X).set105 d Y = σ.set105 d Y := by unfold St.set105; simp
theorem set108_set {j : Nat} {X Y : denFs fs108} : (σ.set108 j X).set108 j Y = σ.set108 j Y := by unfold St.set108; simp

theorem Fr.of {σ' : St} (h1 : σ'.t47 = σ.t47) (h2 : σ'.t105 = σ.t105) (h3 : σ'.t108 = σ.t108) : Fr σ σ' d n0 :=
  ⟨h1, fun i _ _ => by rw [h2], by rw [h2]; exact Nat.le_refl _, fun i _ => by rw [h3], by rw [h3]; exact Nat.le_refl _⟩

theorem DV.same {σ' : St} (h : DV σ d n0 A) (h1 : σ'.t105 = σ.t105) (h2 : σ'.t108 = σ.t108) : DV σ' d n0 A := by
  obtain ⟨o, qs, h⟩ := h
  exact ⟨o, qs, h.same h1 h2⟩

/-- What a call gives. -/
def Gives (r : Option (Int × St)) (σ : St) (d n0 : Nat) (p : Int × AD) : Prop := ∃ σ', r = some (p.1, σ') ∧ DV σ' d n0 p.2 ∧ Fr σ σ' d n0

theorem Gives.from {r : Option (Int × St)} {σ0 : St} {p : Int × AD} (h : Gives r σ d n0 p) (hf : Fr σ0 σ d n0) : Gives r σ0 d n0 p := by
  obtain ⟨σ', e1, e2, e3⟩ := h
  exact ⟨σ', e1, e2, hf.trans e3⟩

theorem f72_eq (h : DVq σ d n0 A o qs) (hA : OkA A) (hd : A.2.2.2.1 = false) {p1 : St → Option (Unit × St)} {k : AD → AD}
    (hp : ∀ σ1 o1, DVq σ1 d n0 (goesA A).2 o1 qs → o1.2.1 = o.2.1 → Oth σ σ1 → ∃ σ2, p1 σ1 = some ((), σ2) ∧ DV σ2 d n0 (k (goesA A).2) ∧ Fr σ1 σ2 d n0) :
    Gives (f72 (some d) p1 σ) σ d n0 (writeA A k) := by
  unfold f72 writeA
  simp only [h.ho, Option.bind_eq_bind, Option.bind_some, h.armed]
  by_cases h0 : A.2.2.1 = 0
  · have hg : goesA A = (false, A) := by unfold goesA; rw [if_pos h0]
    rw [hg] at hp ⊢
    obtain ⟨σ2, e1, e2, e3⟩ := hp σ o h rfl ⟨rfl, rfl, rfl, rfl, rfl⟩
    exact ⟨σ2, by simp [h0, e1], e2, e3⟩
  · have ha := hA.armed
    have hw : IntKind.wrap .i64 (A.2.2.1 - 1) = A.2.2.1 - 1 := wrap_id (by omega) (by omega)
    have hg : goesA A = (A.2.2.1 == 1, (A.1, A.2.1, A.2.2.1 - 1, A.2.2.1 == 1, ())) := by unfold goesA; rw [if_neg h0]
    have hpos : decide (A.2.2.1 > 0) = true := by simp; omega
    rw [hg] at hp ⊢
    simp only [hpos, if_true, hw, set105_get h.ho, Option.bind_some, set105_set]
    by_cases h1 : A.2.2.1 = 1
    · refine ⟨_, by simp [h1]; rfl, ?_, frame105⟩
      have := h.state (a := A.2.2.1 - 1) (b := true)
      rw [h1] at this ⊢
      exact ⟨_, _, this⟩
    · have e : ((A.2.2.1 - 1 == 0) : Bool) = false := by
        have : ¬ (A.2.2.1 - 1 = 0) := by omega
        simpa using this
      have e2 : ((A.2.2.1 == 1) : Bool) = false := by simpa using h1
      rw [e2] at hp
      have hq := h.state (a := A.2.2.1 - 1) (b := o.2.2.2.1)
      have hdn : o.2.2.2.1 = false := h.down.trans hd
      rw [hdn] at hq
      obtain ⟨σ2, e3, e4, e5⟩ := hp _ _ hq rfl ⟨rfl, rfl, rfl, rfl, rfl⟩
      refine ⟨σ2, ?_, ?_, frame105.trans e5⟩
      · rw [hdn]; simp [e, e2, e3]
      · simp only [e2]; exact e4

/-! ### Sync -/
theorem f33_eq (h : DV σ d n0 A) (hA : OkA A) (s : List UInt8) : Gives (f33 (some d) s σ) σ d n0 (syncA A s) := by
  obtain ⟨o, qs, h⟩ := h
  unfold f33 syncA someA
  rcases f77_cases h hA s with ⟨h1, h2⟩ | ⟨h1, ⟨h2, h3⟩ | ⟨f, j, h2, h3, h4, h5, _, h6⟩⟩
  · rw [h2, if_pos h1]
    exact ⟨(σ.add100106 (none, ())).set100106 σ.t100106.length (none, ()), by simp, ⟨o, qs, h.same rfl rfl⟩, Fr.of rfl rfl rfl⟩
  · rw [h3, if_neg (by rw [h1]; decide), h2]
    exact ⟨(σ.add100106 (none, ())).set100106 σ.t100106.length (none, ()), by simp, ⟨o, qs, h.same rfl rfl⟩, Fr.of rfl rfl rfl⟩
  · rw [h6, if_neg (by rw [h1]; decide), h2]
    simp only [Option.bind_eq_bind, Option.bind_some]
    rw [if_neg (by decide)]
    have hh : DVq ((σ.add100106 (none, ())).set100106 σ.t100106.length (some j, ())) d n0 A o qs := h.same rfl rfl
    have hc : ((σ.add100106 (none, ())).set100106 σ.t100106.length (some j, ())).t100106[σ.t100106.length]? = some (some j, ()) := set100106_get got100106
    refine Gives.from ?_ (Fr.of (σ' := (σ.add100106 (none, ())).set100106 σ.t100106.length (some j, ())) rfl rfl rfl)
    obtain ⟨σ', e1, e2, e3⟩ := f72_eq hh hA h1 (p1 := f78 σ.t100106.length) (k := fun B => putA B (setL (safeF s f) false B.2.1)) (by
      intro σ1 o1 q1 q2 q3
      have hj := (q1.lie _ h3).1
      have hc1 : σ1.t100106[σ.t100106.length]? = some (some j, ()) := by rw [q3.2.1]; exact hc
      refine ⟨σ1.set108 j (cont (safeF s f)), ?_, ⟨_, _, q1.upd hA.goes.sorted h3 h4.symm⟩, frame108 (q1.lie _ h3).2⟩
      unfold f78
      simp [hc1, hj, cont, safeF])
    exact ⟨σ', by rw [e1]; rfl, e2, e3⟩

/-! ### Truncate -/
theorem f35_eq (h : DV σ d n0 A) (hA : OkA A) (s : List UInt8) (n : Int) : Gives (f35 (some d) s n σ) σ d n0 (truncA A s n) := by
  obtain ⟨o, qs, h⟩ := h
  unfold f35 truncA someA
  have h' : DVq (σ.add100003 (n, ())) d n0 A o qs := h.same rfl rfl
  rcases f77_cases h' hA s with ⟨h1, h2⟩ | ⟨h1, ⟨h2, h3⟩ | ⟨f, j, h2, h3, h4, h5, _, h6⟩⟩
  · rw [h2, if_pos h1]
    exact ⟨((σ.add100003 (n, ())).add100106 (none, ())).set100106 (σ.add100003 (n, ())).t100106.length (none, ()), by simp, ⟨o, qs, h.same rfl rfl⟩, Fr.of rfl rfl rfl⟩
  · rw [h3, if_neg (by rw [h1]; decide), h2]
    exact ⟨((σ.add100003 (n, ())).add100106 (none, ())).set100106 (σ.add100003 (n, ())).t100106.length (none, ()), by simp, ⟨o, qs, h.same rfl rfl⟩, Fr.of rfl rfl rfl⟩
  · rw [h6, if_neg (by rw [h1]; decide), h2]
    simp only [Option.bind_eq_bind, Option.bind_some]
    rw [if_neg (by decide)]
    have hfs := hA.each f (findL_some h2).1
    by_cases c1 : n < 0
    · rw [if_pos (by simpa using c1), if_pos (.inl c1)]
      exact ⟨_, rfl, ⟨o, qs, h.same rfl rfl⟩, Fr.of rfl rfl rfl⟩
    rw [if_neg (by simpa using c1)]
    have hl : (((σ.add100003 (n, ())).add100106 (none, ())).set100106 ((σ.add100003 (n, ())).t100106.length) (some j, ())).t108[j]? = some (cont f) := h5
    rw [hl]
    simp only [Option.bind_some]
    have hcl : (cont f).1.length = fsize f := by simp [cont, fsize]
    by_cases c2 : (fsize f : Int) < n
    · rw [if_pos (by rw [hcl]; simpa using c2), if_pos (.inr c2)]
      exact ⟨_, rfl, ⟨o, qs, h.same rfl rfl⟩, Fr.of rfl rfl rfl⟩
    rw [if_neg (by rw [hcl]; simpa using c2), if_neg (by simp only [not_or]; exact ⟨c1, c2⟩)]
    have hh : DVq (((σ.add100003 (n, ())).add100106 (none, ())).set100106 ((σ.add100003 (n, ())).t100106.length) (some j, ())) d n0 A o qs := h.same rfl rfl
    have hc : (((σ.add100003 (n, ())).add100106 (none, ())).set100106 ((σ.add100003 (n, ())).t100106.length) (some j, ())).t100106[(σ.add100003 (n, ())).t100106.length]? = some (some j, ()) := set100106_get got100106
    have hc3 : (((σ.add100003 (n, ())).add100106 (none, ())).set100106 ((σ.add100003 (n, ())).t100106.length) (some j, ())).t100003[σ.t100003.length]? = some (n, ()) := by
      show (σ.add100003 (n, ())).t100003[σ.t100003.length]? = _
      exact got100003
    refine Gives.from ?_ (Fr.of (σ' := ((σ.add100003 (n, ())).add100106 (none, ())).set100106 ((σ.add100003 (n, ())).t100106.length) (some j, ())) rfl rfl rfl)
    obtain ⟨σ', e1, e2, e3⟩ := f72_eq hh hA h1 (p1 := f79 ((σ.add100003 (n, ())).t100106.length) σ.t100003.length) (k := fun B => putA B (setL (cutF s f n.toNat) false B.2.1)) (by
      intro σ1 o1 q1 q2 q3
      have hj := (q1.lie _ h3).1
      have hc1 : σ1.t100106[(σ.add100003 (n, ())).t100106.length]? = some (some j, ()) := by rw [q3.2.1]; exact hc
      have hc2 : σ1.t100003[σ.t100003.length]? = some (n, ()) := by rw [q3.2.2.1]; exact hc3
      have hn1 : (cutF s f n.toNat).1 = f.1 := by rw [h4]; unfold cutF; split <;> rfl
      refine ⟨σ1.set108 j (cont (cutF s f n.toNat)), ?_, ⟨_, _, q1.upd hA.goes.sorted h3 hn1⟩, frame108 (q1.lie _ h3).2⟩
      unfold f79
      have hg : (0 : Int) ≤ n ∧ n ≤ ((cont f).1.length : Int) := by rw [hcl]; omega
      simp only [hc1, hc2, hj, Option.bind_eq_bind, Option.bind_some, hg, and_self, if_true, set108_get hj, set108_set]
      have : ((f.2.1 ++ f.2.2.1).take n.toNat, (if n < (f.2.1.length : Int) then n else (f.2.1.length : Int)), ()) = cont (cutF s f n.toNat) := by
        unfold cutF cont
        by_cases c3 : n.toNat ≤ f.2.1.length
        · rw [if_pos c3]
          simp only [List.append_nil, List.length_take]
          rw [List.take_append_of_le_length c3]
          congr 2
          split <;> omega
        · rw [if_neg c3]
          simp only []
          rw [List.take_append, List.take_of_length_le (l := f.2.1) (by omega)]
          congr 2
          rw [if_neg (by omega)]
      exact congrArg (fun X => some ((), σ1.set108 j X)) this)
    exact ⟨σ', by rw [e1]; rfl, e2, e3⟩

/-! ### Remove -/
theorem f37_eq (h : DV σ d n0 A) (hA : OkA A) (s : List UInt8) : Gives (f37 (some d) s σ) σ d n0 (removeA A s) := by
  obtain ⟨o, qs, h⟩ := h
  unfold f37 removeA someA
  have hh : DVq ((σ.add100024 (some d, ())).add100009 (s, ())) d n0 A o qs := h.same rfl rfl
  refine Gives.from ?_ (Fr.of (σ' := (σ.add100024 (some d, ())).add100009 (s, ())) rfl rfl rfl)
  rcases f77_cases hh hA s with ⟨h1, h2⟩ | ⟨h1, ⟨h2, h3⟩ | ⟨f, j, h2, h3, h4, h5, _, h6⟩⟩
  · rw [h2, if_pos h1]
    exact ⟨_, by simp, ⟨o, qs, hh⟩, Fr.refl _ _ _⟩
  · rw [h3, if_neg (by rw [h1]; decide), h2]
    exact ⟨_, by simp, ⟨o, qs, hh⟩, Fr.refl _ _ _⟩
  · rw [h6, if_neg (by rw [h1]; decide), h2]
    simp only [Option.bind_eq_bind, Option.bind_some]
    rw [if_neg (by decide)]
    have hc1 : ((σ.add100024 (some d, ())).add100009 (s, ())).t100024[σ.t100024.length]? = some (some d, ()) := by
      show (σ.add100024 (some d, ())).t100024[σ.t100024.length]? = _
      exact got100024
    have hc2 : ((σ.add100024 (some d, ())).add100009 (s, ())).t100009[(σ.add100024 (some d, ())).t100009.length]? = some (s, ()) := got100009
    obtain ⟨σ', e1, e2, e3⟩ := f72_eq hh hA h1 (p1 := f81 σ.t100024.length ((σ.add100024 (some d, ())).t100009.length)) (k := fun B => putA B (dropL s B.2.1)) (by
      intro σ1 o1 q1 q2 q3
      refine ⟨_, ?_, ⟨_, _, q1.unlink hA.goes.sorted s⟩, frame105⟩
      unfold f81
      rw [q3.2.2.2.1, q3.2.2.2.2, hc1, hc2]
      simp [q1.ho])
    exact ⟨σ', by rw [e1]; rfl, e2, e3⟩

/-! ### Rename -/
theorem f36_eq (h : DV σ d n0 A) (hA : OkA A) (s t : List UInt8) (hs : s.length < 9223372036854775808) (ht : t.length < 9223372036854775808) : Gives (f36 (some d) s t σ) σ d n0 (renameA A s t) := by
  obtain ⟨o, qs, h⟩ := h
  unfold f36 renameA someA
  have hh : DVq (((σ.add100024 (some d, ())).add100009 (s, ())).add100009 (t, ())) d n0 A o qs := h.same rfl rfl
  refine Gives.from ?_ (Fr.of (σ' := ((σ.add100024 (some d, ())).add100009 (s, ())).add100009 (t, ())) rfl rfl rfl)
  have hc1 : (((σ.add100024 (some d, ())).add100009 (s, ())).add100009 (t, ())).t100024[σ.t100024.length]? = some (some d, ()) := by
    show (σ.add100024 (some d, ())).t100024[σ.t100024.length]? = _
    exact got100024
  have hc2 : (((σ.add100024 (some d, ())).add100009 (s, ())).add100009 (t, ())).t100009[(σ.add100024 (some d, ())).t100009.length]? = some (s, ()) := by
    simp [St.add100009, St.add100024]
  have hc3 : (((σ.add100024 (some d, ())).add100009 (s, ())).add100009 (t, ())).t100009[((σ.add100024 (some d, ())).add100009 (s, ())).t100009.length]? = some (t, ()) := got100009
  simp only [f70_eq hh, hc2, Option.bind_eq_bind, Option.bind_some, f71_eq s hs, f71_eq t ht]
  cases hd : A.2.2.2.1 with
  | true => exact ⟨_, by simp, ⟨o, qs, hh⟩, Fr.refl _ _ _⟩
  | false =>
    simp only [Bool.false_eq_true, if_false]
    rw [if_neg (by decide)]
    cases hn : okName s with
    | false => exact ⟨_, by simp, ⟨o, qs, hh⟩, Fr.refl _ _ _⟩
    | true =>
      cases hn2 : okName t with
      | false => exact ⟨_, by simp, ⟨o, qs, hh⟩, Fr.refl _ _ _⟩
      | true =>
        simp only [Bool.not_true, Bool.false_eq_true, if_false, Bool.true_eq_false]
        rcases f77_cases hh hA s with ⟨h1, h2⟩ | ⟨h1, ⟨h2, h3⟩ | ⟨f, j, h2, h3, h4, h5, _, h6⟩⟩
        · rw [h1] at hd; cases hd
        · rw [h3, h2]
          exact ⟨((((σ.add100024 (some d, ())).add100009 (s, ())).add100009 (t, ())).add100106 (none, ())).set100106 ((((σ.add100024 (some d, ())).add100009 (s, ())).add100009 (t, ())).t100106.length) (none, ()), by simp, ⟨o, qs, hh.same rfl rfl⟩, Fr.of rfl rfl rfl⟩
        · rw [h6, h2]
          simp only [Option.bind_some]
          rw [if_neg (by decide)]
          have hl : ((((((σ.add100024 (some d, ())).add100009 (s, ())).add100009 (t, ())).add100106 (none, ())).set100106 ((((σ.add100024 (some d, ())).add100009 (s, ())).add100009 (t, ())).t100106.length) (some j, ())).t108[j]?) = some (cont f) := h5
          rw [hl]
          simp only [Option.bind_some]
          by_cases hm : f.2.2.1 = []
          · rw [if_neg (by simp [cont, hm]), if_neg (by simp [hm])]
            have hh2 : DVq (((((σ.add100024 (some d, ())).add100009 (s, ())).add100009 (t, ())).add100106 (none, ())).set100106 ((((σ.add100024 (some d, ())).add100009 (s, ())).add100009 (t, ())).t100106.length) (some j, ())) d n0 A o qs := h.same rfl rfl
            have hc4 : (((((σ.add100024 (some d, ())).add100009 (s, ())).add100009 (t, ())).add100106 (none, ())).set100106 ((((σ.add100024 (some d, ())).add100009 (s, ())).add100009 (t, ())).t100106.length) (some j, ())).t100106[(((σ.add100024 (some d, ())).add100009 (s, ())).add100009 (t, ())).t100106.length]? = some (some j, ()) := set100106_get got100106
            refine Gives.from ?_ (Fr.of (σ' := ((((σ.add100024 (some d, ())).add100009 (s, ())).add100009 (t, ())).add100106 (none, ())).set100106 ((((σ.add100024 (some d, ())).add100009 (s, ())).add100009 (t, ())).t100106.length) (some j, ())) rfl rfl rfl)
            obtain ⟨σ', e1, e2, e3⟩ := f72_eq hh2 hA h1 (p1 := f80 σ.t100024.length ((σ.add100024 (some d, ())).t100009.length) ((((σ.add100024 (some d, ())).add100009 (s, ())).add100009 (t, ())).t100106.length) (((σ.add100024 (some d, ())).add100009 (s, ())).t100009.length)) (k := fun B => putA B (setL (nameF t f) false (dropL s B.2.1))) (by
              intro σ1 o1 q1 q2 q3
              have g1 : σ1.t100024[σ.t100024.length]? = some (some d, ()) := by rw [q3.2.2.2.2]; exact hc1
              have g2 : σ1.t100009[(σ.add100024 (some d, ())).t100009.length]? = some (s, ()) := by rw [q3.2.2.2.1]; exact hc2
              have g3 : σ1.t100009[((σ.add100024 (some d, ())).add100009 (s, ())).t100009.length]? = some (t, ()) := by rw [q3.2.2.2.1]; exact hc3
              have g4 : σ1.t100106[(((σ.add100024 (some d, ())).add100009 (s, ())).add100009 (t, ())).t100106.length]? = some (some j, ()) := by rw [q3.2.1]; exact hc4
              have q4 := q1.unlink hA.goes.sorted s
              have hp := rest_perm (q1.names hA.goes.sorted) h3
              rw [h4] at hp
              have hnd := List.nodup_cons.1 ((hp.map (fun q : FR × Nat => q.2)).nodup_iff.1 q1.nodup)
              have q5 := q4.link (g := nameF t f) (j := j) (hA.goes.sorted.drop s) hnd.1 (by
                have := (q1.lie _ h3).1
                simp only [cont, hm] at this
                simpa [cont, nameF, St.set105] using this) (q1.lie _ h3).2
              refine ⟨_, ?_, ⟨_, _, q5⟩, frame105.trans frame105⟩
              unfold f80
              have r3 : ∀ X, (σ1.set105 d X).t100009[((σ.add100024 (some d, ())).add100009 (s, ())).t100009.length]? = some (t, ()) := fun X => g3
              have r4 : ∀ X, (σ1.set105 d X).t100106[(((σ.add100024 (some d, ())).add100009 (s, ())).add100009 (t, ())).t100106.length]? = some (some j, ()) := fun X => g4
              simp only [g1, g2, q1.ho, Option.bind_eq_bind, Option.bind_some, set105_get q1.ho, r3, r4]
              rfl)
            exact ⟨σ', by rw [e1]; rfl, e2, e3⟩
          · have hpos : 0 < f.2.2.1.length := List.length_pos_iff.2 hm
            have hlt : (cont f).2.1 < ((cont f).1.length : Int) := by
              show (f.2.1.length : Int) < ((f.2.1 ++ f.2.2.1).length : Int)
              rw [List.length_append]; omega
            rw [if_pos (decide_eq_true hlt), if_pos hm]
            exact ⟨_, rfl, ⟨o, qs, hh.same rfl rfl⟩, Fr.of rfl rfl rfl⟩

/-! ### Arm -/
theorem f32_eq (h : DV σ d n0 A) (n : Int) : Gives (f32 (some d) n σ) σ d n0 (armA A n) := by
  obtain ⟨o, qs, h⟩ := h
  unfold f32 armA
  rw [f70_eq h]
  cases hd : A.2.2.2.1 with
  | true => exact ⟨_, by simp, ⟨o, qs, h⟩, Fr.refl _ _ _⟩
  | false =>
    by_cases c : n < 1
    · rw [if_neg (by decide), if_pos c]
      exact ⟨_, by simp [c], ⟨o, qs, h⟩, Fr.refl _ _ _⟩
    · rw [if_neg (by decide), if_neg c]
      have hq := h.state (a := n) (b := o.2.2.2.1)
      have hdn : o.2.2.2.1 = false := h.down.trans hd
      rw [hdn] at hq
      exact ⟨σ.set105 d (o.1, o.2.1, n, false, ()), by simp [c, h.ho, hdn], ⟨_, _, hq⟩, frame105⟩

/-! ### Append -/
theorem f73_id {B : AD} : ∀ σ1 o1, DVq σ1 d n0 B o1 qs → o1.2.1 = o.2.1 → Oth σ σ1 → ∃ σ2, f73 σ1 = some ((), σ2) ∧ DV σ2 d n0 (id B) ∧ Fr σ1 σ2 d n0 :=
  fun σ1 o1 q1 _ _ => ⟨σ1, rfl, ⟨_, _, q1⟩, Fr.refl _ _ _⟩

theorem f24_eq (h : DV σ d n0 A) (hA : OkA A) (s b : List UInt8) (hs : s.length < 9223372036854775808) : Gives (f24 (some d) s b σ) σ d n0 (appendA A s b) := by
  obtain ⟨o, qs, h⟩ := h
  unfold f24 appendA
  rw [f70_eq h]
  simp only [Option.bind_eq_bind, Option.bind_some, f71_eq s hs, h.ho]
  cases hd : A.2.2.2.1 with
  | true => exact ⟨_, by simp, ⟨o, qs, h⟩, Fr.refl _ _ _⟩
  | false =>
    simp only [Bool.false_eq_true, if_false]
    rw [if_neg (by decide)]
    cases hn : okName s with
    | false => exact ⟨_, by simp, ⟨o, qs, h⟩, Fr.refl _ _ _⟩
    | true =>
      simp only [Bool.not_true, Bool.false_eq_true, if_false, Bool.true_eq_false]
      have hdB : ∀ L, (putA A L).2.2.2.1 = false := fun L => hd
      have hlen := h.len
      rcases h.look hA.sorted s with ⟨h1, h2, h3⟩ | ⟨f, j, h1, h2, h3, h4, h5⟩
      · simp only [h2, Option.getD_none, zeroK, Option.isNone_none, Bool.not_true, Bool.false_eq_true, if_false, if_true, Option.bind_some, f20_eq h hA, h.room, used_id hA, decide_eq_true_eq]
        have hw : IntKind.wrap .i64 (65536 - 0) = 65536 := by decide
        rw [hw, hlen]
        have hsz : fsize (emptyF s) = 0 := rfl
        by_cases c1 : (A.2.1.length : Int) ≥ 128
        · rw [if_pos c1, if_pos (.inl ⟨by rw [h1]; rfl, by omega⟩)]
          exact ⟨_, rfl, ⟨o, qs, h⟩, Fr.refl _ _ _⟩
        rw [if_neg c1]
        by_cases c2 : (b.length : Int) > 65536
        · rw [if_pos c2, if_pos (.inr (.inl (by rw [h1]; simp only [Option.getD_none, hsz]; omega)))]
          exact ⟨_, rfl, ⟨o, qs, h⟩, Fr.refl _ _ _⟩
        rw [if_neg c2]
        by_cases c3 : (b.length : Int) > A.1 - ((usedL A.2.1 : Nat) : Int)
        · rw [if_pos c3, if_pos (.inr (.inr (by omega)))]
          exact ⟨_, rfl, ⟨o, qs, h⟩, Fr.refl _ _ _⟩
        rw [if_neg c3]
        have hc : ¬ full A s b := by
          simp only [full, h1, Option.getD_none, hsz, not_or, not_and]
          exact ⟨fun _ => by omega, by omega, by omega⟩
        rw [if_neg hc]
        have hB := hA.appended hc
        rw [h1] at hB ⊢
        have e0 : (σ.add108 ([], 0, ())).t105[d]? = some o := h.ho
        rw [e0]
        simp only [Option.bind_some]
        have q0 : DVq (σ.add108 ([], 0, ())) d n0 A o qs := by
          refine ⟨h.ho, h.room, h.armed, h.down, h.map, h.files, h.nodup, fun q hq => ?_, by have := h.base; simp [St.add108]; omega⟩
          obtain ⟨a1, a2⟩ := h.lie q hq
          refine ⟨?_, a2⟩
          simp only [St.add108]
          rw [List.getElem?_append_left (List.getElem?_eq_some_iff.1 a1).1]; exact a1
        have hnew : σ.t108.length ∉ qs.map (·.2) := fun hm => by
          obtain ⟨q, hq, e⟩ := List.mem_map.1 hm
          have := (List.getElem?_eq_some_iff.1 (h.lie q hq).1).1
          omega
        have q1 := q0.link (g := emptyF s) (j := σ.t108.length) hA.sorted hnew got108 h.base
        have q2 := q1.upd (g := moreF (emptyF s) b) hA.sorted.set List.mem_cons_self rfl
        have q3 := q2.perm (L := setL (moreF (emptyF s) b) false A.2.1) (by
          refine (setL_perm _ _).trans (List.Perm.trans ?_ (setL_perm _ _).symm)
          refine List.Perm.cons _ ?_
          refine (dropL_congr (setL_perm _ _)).trans ?_
          have e1 : (moreF (emptyF s) b).1 = s := rfl
          have e2 : (emptyF s).1 = s := rfl
          rw [e1, e2]
          simp only [dropL, e2, beq_self_eq_true, cond_true, List.nil_append]
          rw [dropL_none (L := dropL s A.2.1)]
          rw [dropL_none h1]; exact h1)
        have g1 : ((σ.add108 ([], 0, ())).set105 d (o.1, mapSet .str (.ptr 108) s (some σ.t108.length) o.2.1, o.2.2.1, o.2.2.2.1, ())).t108[σ.t108.length]? = some ([], 0, ()) := got108
        rw [g1]
        simp only [Option.bind_some]
        have hl : ([] : List UInt8).length + b.length ≤ 9223372036854775807 := by simp; omega
        rw [if_pos hl]
        have hB' : OkA (putA (putA A (setL (emptyF s) false A.2.1)) (setL (moreF (emptyF s) b) false A.2.1)) := hB
        obtain ⟨σ', e1, e2, e3⟩ := f72_eq (k := id) q3 hB' (hdB _) f73_id
        refine ⟨σ', ?_, e2, ((frame_add108 h.base).trans (frame105.trans (frame108 h.base))).trans e3⟩
        have e4 : (([] : List UInt8) ++ b, (0 : Int), ()) = cont (moreF (emptyF s) b) := rfl
        rw [e4]
        have e5 : (emptyF s).1 = s := rfl
        rw [e5] at e1
        rw [e1]; rfl
      · have hfs := hA.each f (findL_some h1).1
        have hcl : (cont f).1.length = fsize f := by simp [cont, fsize]
        simp only [h2, Option.getD_some, Option.isNone_some, Bool.not_false, Bool.false_eq_true, if_false, if_true, Option.bind_some, f20_eq h hA, h.room, used_id hA, decide_eq_true_eq, h5, hcl]
        have hw : IntKind.wrap .i64 (65536 - (fsize f : Int)) = 65536 - (fsize f : Int) := wrap_id (by omega) (by omega)
        rw [hw]
        by_cases c2 : (b.length : Int) > 65536 - (fsize f : Int)
        · rw [if_pos c2, if_pos (.inr (.inl (by rw [h1]; simp only [Option.getD_some]; omega)))]
          exact ⟨_, rfl, ⟨o, qs, h⟩, Fr.refl _ _ _⟩
        rw [if_neg c2]
        by_cases c3 : (b.length : Int) > A.1 - ((usedL A.2.1 : Nat) : Int)
        · rw [if_pos c3, if_pos (.inr (.inr (by omega)))]
          exact ⟨_, rfl, ⟨o, qs, h⟩, Fr.refl _ _ _⟩
        rw [if_neg c3]
        have hc : ¬ full A s b := by
          simp only [full, h1, Option.getD_some, not_or, not_and]
          exact ⟨fun h => by simp at h, by omega, by omega⟩
        rw [if_neg hc]
        have hB := hA.appended hc
        rw [h1] at hB ⊢
        have q2 := h.upd (g := moreF f b) hA.sorted h3 rfl
        have hl : fsize f + b.length ≤ 9223372036854775807 := by omega
        rw [if_pos hl]
        obtain ⟨σ', e1, e2, e3⟩ := f72_eq (k := id) q2 hB (hdB _) f73_id
        refine ⟨σ', ?_, e2, (frame108 (h.lie _ h3).2).trans e3⟩
        have e4 : ((cont f).1 ++ b, (cont f).2.1, ()) = cont (moreF f b) := by simp [cont, moreF]
        rw [e4]
        rw [e1]; rfl

/-! ### Crash -/
theorem f27_loop (d n0 : Nat) (A0 : AD) : ∀ (suf pre : List FR) (keep : List Int) (σ : St) (A : AD), DV σ d n0 A → A.2.1 = pre ++ suf → SortL (pre ++ suf) → pre.length + suf.length ≤ 128 → (∀ f ∈ suf, fsize f ≤ 65536) →
    ∃ keep' σ', f27_l0 (some d) ((pre ++ suf).map (·.1)) keep ((pre.length : Nat) : Int) σ = some (keep', ((pre.length + suf.length : Nat) : Int), σ') ∧ DV σ' d n0 (putA A (pre ++ crashL suf keep)) ∧ Fr σ σ' d n0
  | [], pre, keep, σ, A, h, hL, hs, hl, hf => by
    rw [f27_l0]
    refine ⟨keep, σ, ?_, ?_, Fr.refl _ _ _⟩
    · simp
    · simp only [crashL]; rw [← hL]; exact h
  | f :: r, pre, keep, σ, A, h, hL, hs, hl, hf => by
    rw [f27_l0]
    obtain ⟨o, qs, h⟩ := h
    have hsA : SortL A.2.1 := by rw [hL]; exact hs
    have hfs := hf f List.mem_cons_self
    have hfd : findL f.1 A.2.1 = some f := findL_of hsA (by rw [hL]; simp) rfl
    have hlook := h.look hsA f.1
    rw [hfd] at hlook
    rcases hlook with ⟨h1, _⟩ | ⟨f', j, h1, h2, h3, h4, h5⟩
    · cases h1
    simp only [Option.some.injEq] at h1; subst h1
    have hn : pre.length < ((pre ++ f :: r).map (·.1)).length := by simp
    have hix : ix ((pre ++ f :: r).map (·.1)) ((pre.length : Nat) : Int) = some f.1 := by rw [ix_at hn]; simp
    have hlt : ((pre.length : Nat) : Int) < (((pre ++ f :: r).map (·.1)).length : Int) := by omega
    simp only [List.length_cons] at hl
    have hw : IntKind.wrap .i64 ((pre.length : Int) + 1) = (((pre ++ [f]).length : Nat) : Int) := by rw [wrap_id (by omega) (by omega)]; simp
    have hmore : IntKind.wrap .i64 (((cont f).1.length : Int) - (cont f).2.1) = (f.2.2.1.length : Int) := by
      unfold fsize at hfs
      have : ((cont f).1.length : Int) - (cont f).2.1 = (f.2.2.1.length : Int) := by simp [cont]; omega
      rw [this, wrap_id (by omega) (by omega)]
    have happ : (pre ++ [f]) ++ r = pre ++ f :: r := by simp
    simp only [hlt, decide_true, if_true, hix, Option.bind_eq_bind, Option.bind_some, h.ho, h2, Option.getD_some, h5, hmore, hw]
    have next : ∀ (g : FR) (keep2 : List Int) (σ2 : St), g.1 = f.1 → DV σ2 d n0 (putA A (pre ++ g :: r)) → Fr σ σ2 d n0 →
        ∃ keep' σ', f27_l0 (some d) ((pre ++ f :: r).map (·.1)) keep2 (((pre ++ [f]).length : Nat) : Int) σ2 = some (keep', ((pre.length + (f :: r).length : Nat) : Int), σ') ∧ DV σ' d n0 (putA A (pre ++ g :: crashL r keep2)) ∧ Fr σ σ' d n0 := by
      intro g keep2 σ2 hg hv hfr
      have hnm : (pre ++ f :: r).map (·.1) = ((pre ++ [g]) ++ r).map (·.1) := by simp [hg]
      obtain ⟨k', σ', e1, e2, e3⟩ := f27_loop d n0 A0 r (pre ++ [g]) keep2 σ2 (putA A (pre ++ g :: r)) hv (by simp [putA]) (SortL_names hnm hs) (by simp; omega) (fun x hx => hf x (List.mem_cons_of_mem _ hx))
      refine ⟨k', σ', ?_, ?_, hfr.trans e3⟩
      · rw [hnm]
        have hpl : (pre ++ [f]).length = (pre ++ [g]).length := by simp
        rw [hpl, e1]
        simp only [List.length_append, List.length_cons, List.length_nil]
        congr 3
        omega
      · have : (pre ++ [g]) ++ crashL r keep2 = pre ++ g :: crashL r keep2 := by simp
        rw [this] at e2; exact e2
    simp only [crashL]
    cases hm : f.2.2.1 with
    | nil =>
      have e : ((f.1, f.2.1, [], ()) : FR) = f := by rw [← hm]
      have h0 : (((([] : List UInt8).length : Int) == 0) : Bool) = true := rfl
      rw [if_pos h0]
      simp only [List.isEmpty_nil, cond_true, e]
      refine next f keep σ rfl ?_ (Fr.refl _ _ _)
      rw [← hL]; exact ⟨o, qs, h⟩
    | cons c t =>
      have h0 : ((((c :: t : List UInt8).length : Int) == 0) : Bool) = false := by
        have : ¬ (((c :: t : List UInt8).length : Int) = 0) := by simp only [List.length_cons]; omega
        simpa using this
      have hkl := keepN_le keep (c :: t).length
      have hfs' := hfs
      unfold fsize at hfs'
      rw [hm] at hfs'
      have hw1 : IntKind.wrap .i64 (((c :: t : List UInt8).length : Int) + 1) = ((c :: t : List UInt8).length : Int) + 1 := wrap_id (by omega) (by omega)
      rw [h0]
      simp only [Bool.false_eq_true, if_false, List.isEmpty_cons, cond_false, hw1]
      have hz : ((if decide ((keep.length : Int) > 0) = true then
          (ix keep 0).bind fun x49 => if ((c :: t : List UInt8).length : Int) + 1 ≠ 0 then if (0 : Int) ≤ 1 ∧ 1 ≤ (keep.length : Int) then some (keep.drop (Int.toNat 1), Int.tmod (if 0 > x49 then 0 else x49) (((c :: t : List UInt8).length : Int) + 1)) else none else none
          else some (keep, 0)) : Option (List Int × Int)) = some (keep.tail, ((keepN keep (c :: t).length : Nat) : Int)) := by
        cases keep with
        | nil => simp [keepN]
        | cons y r' =>
          have hne : ((c :: t : List UInt8).length : Int) + 1 ≠ 0 := by omega
          have hgt : ((y :: r').length : Int) > 0 := by simp only [List.length_cons]; omega
          have hle : (0 : Int) ≤ 1 ∧ 1 ≤ ((y :: r').length : Int) := ⟨by decide, by simp only [List.length_cons]; omega⟩
          have hix0 : ix (y :: r') 0 = some y := rfl
          rw [if_pos (decide_eq_true hgt), hix0, Option.bind_some, if_pos hne, if_pos hle]
          congr 1
          have : (if 0 > y then (0 : Int) else y).tmod (((c :: t : List UInt8).length : Int) + 1) = ((keepN (y :: r') (c :: t).length : Nat) : Int) := by
            simp only [keepN]
            by_cases hy : 0 < y
            · rw [if_neg (by omega), if_pos hy]
              have := Int.tmod_nonneg (((c :: t : List UInt8).length : Int) + 1) (Int.le_of_lt hy)
              omega
            · rw [if_neg hy]
              have : (if 0 > y then (0 : Int) else y) = 0 := by split <;> omega
              rw [this]; simp
          rw [this]; rfl
      rw [hz]
      simp only [Option.bind_some]
      have hsafe : (cont f).2.1 = (f.2.1.length : Int) := rfl
      have hb : (cont f).1 = f.2.1 ++ c :: t := by rw [← hm]; rfl
      have hw2 : IntKind.wrap .i64 ((f.2.1.length : Int) + ((keepN keep (c :: t).length : Nat) : Int)) = ((f.2.1.length + keepN keep (c :: t).length : Nat) : Int) := by rw [wrap_id (by omega) (by omega)]; omega
      rw [hsafe, hw2, hb]
      rw [if_pos ⟨by omega, by simp only [List.length_append]; omega⟩]
      simp only [set108_get h5, Option.bind_some, set108_set, Int.toNat_natCast]
      have hcont : ((f.2.1 ++ c :: t).take (f.2.1.length + keepN keep (c :: t).length), ((((f.2.1 ++ c :: t).take (f.2.1.length + keepN keep (c :: t).length)).length : Nat) : Int), ()) = cont (f.1, f.2.1 ++ (c :: t).take (keepN keep (c :: t).length), [], ()) := by
        have : (f.2.1 ++ c :: t).take (f.2.1.length + keepN keep (c :: t).length) = f.2.1 ++ (c :: t).take (keepN keep (c :: t).length) := by
          rw [List.take_append, List.take_of_length_le (l := f.2.1) (by omega)]; simp
        simp only [cont, this, List.append_nil]
      rw [hcont]
      refine next (f.1, f.2.1 ++ (c :: t).take (keepN keep (c :: t).length), [], ()) keep.tail _ rfl ?_ (frame108 (h.lie _ h3).2)
      have q1 := h.upd (g := (f.1, f.2.1 ++ (c :: t).take (keepN keep (c :: t).length), [], ())) hsA h3 rfl
      refine ⟨_, _, q1.perm (L := pre ++ (f.1, f.2.1 ++ (c :: t).take (keepN keep (c :: t).length), [], ()) :: r) ?_⟩
      refine (setL_perm _ _).trans (List.Perm.trans ?_ List.perm_middle.symm)
      refine List.Perm.cons _ ?_
      have p1 := dropL_perm hsA hfd
      rw [hL] at p1
      have p2 : (f :: (pre ++ r)).Perm (f :: dropL f.1 A.2.1) := by
        rw [hL]; exact List.perm_middle.symm.trans p1
      exact (List.Perm.cons_inv p2).symm

theorem f27_eq (h : DV σ d n0 A) (hA : OkA A) (keep : List Int) : Gives (f27 (some d) keep σ) σ d n0 (0, crashA A keep) := by
  have hf := hA.files
  obtain ⟨k', σ', e1, e2, e3⟩ := f27_loop d n0 A A.2.1 [] keep σ A h rfl hA.sorted (by simp; exact hf) hA.each
  obtain ⟨o, qs, h⟩ := h
  obtain ⟨o2, qs2, h2⟩ := e2
  unfold f27
  rw [f21_eq h hA]
  have e1' : f27_l0 (some d) (A.2.1.map (·.1)) keep 0 σ = some (k', ((0 + A.2.1.length : Nat) : Int), σ') := e1
  simp only [Option.isNone_some, Option.bind_eq_bind, Option.bind_some, e1', h2.ho, set105_get h2.ho, set105_set]
  rw [if_neg (by decide)]
  exact ⟨_, rfl, ⟨_, _, h2.state⟩, e3.trans frame105⟩

/-! ### A new one -/
theorem f18_eq {room : Int} (h1 : 0 ≤ room) (h2 : room ≤ 1048576) : f18 room σ = some ((some σ.t105.length, 0), σ.add105 (room, [], 0, false, ())) ∧ DV (σ.add105 (room, [], 0, false, ())) σ.t105.length σ.t108.length (room, [], 0, false, ()) ∧ OkA (room, [], 0, false, ()) := by
  refine ⟨?_, ⟨(room, [], 0, false, ()), [], ?_⟩, ?_⟩
  · unfold f18
    have c1 : ¬ room < 0 := by omega
    have c2 : ¬ room > 1048576 := by omega
    simp [c1, c2]
  · exact ⟨got105, rfl, rfl, rfl, List.Perm.refl _, List.Perm.refl _, List.nodup_nil, by simp, Nat.le_refl _⟩
  · exact ⟨List.Pairwise.nil, Nat.zero_le _, fun f hf => by simp at hf, h1, h2, Int.le_refl 0, (by decide : (0 : Int) < 9223372036854775808)⟩
end
end Go.Proofs.Ytlfemhkabjafeaa.M
