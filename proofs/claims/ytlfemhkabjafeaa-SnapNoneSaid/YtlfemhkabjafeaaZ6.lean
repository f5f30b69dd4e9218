/- Own texts, laid together: X7 Q2. -/
import Derived.Test.YtlfemhkabjafeaaZ1
import Derived.Test.YtlfemhkabjafeaaZ2
import Derived.Test.YtlfemhkabjafeaaZ3
import Derived.Test.YtlfemhkabjafeaaZ4
import Derived.Test.YtlfemhkabjafeaaZ5
/- Plain law of the keeper, part 7: what must come at any rate; SnapNone and SnapFew. -/
set_option linter.unusedVariables false
set_option linter.unusedSimpArgs false
namespace Go.Proofs.Ytlfemhkabjafeaa.M

section
variable {σ : St} {k d n0 m : Nat} {A : AD} {ps : List SP} {junk : List FR}

/-- A state saved on a disk that is not armed. -/
theorem save0 (h : KS σ k d n0 m A ps []) (hd : downA A = false) (h0 : armA0 A = 0) {q : Nat} {s : List UInt8} (hq : q ≤ 1099511627776) (hs : s.length ≤ m) (h2 : ps.length ≤ 2) (hr : 3 * ((m : Int) + 14) ≤ A.1) (hm : m ≤ 3000) (hp : ∀ p ∈ ps, p.1 < q) :
    ∃ σ' B, f41 (some k) (q : Int) s σ = some (0, σ') ∧ Fr σ σ' d n0 ∧ B.1 = A.1 ∧ armA0 B = 0 ∧ downA B = false ∧ KS σ' k d n0 m B (lastOf ps ++ [(q, s)]) [] := by
  obtain ⟨σ', B, e, ps', junk', g, r, a, v, ks, ⟨rfl, o2, rfl, rfl⟩ | ⟨o1, o2, o3, o4⟩⟩ := f41_new h hd hq hs h2 hr hm hp
  · exact ⟨σ', B, g, r, a, v h0, o2, ks⟩
  · exact absurd h0 o3

/-- A new disk, and a keeper on it. -/
theorem open_new (σ : St) {R : Int} (m : Nat) (h1 : 0 ≤ R) (h2 : R ≤ 1048576) : ∃ σ1 σ2 A, f18 R σ = some ((some σ.t105.length, 0), σ1) ∧ f38 (some σ.t105.length) nmA σ1 = some ((some σ.t116.length, 0), σ2) ∧ A.1 = R ∧ armA0 A = 0 ∧ downA A = false ∧
    KS σ2 σ.t116.length σ.t105.length σ.t108.length m A [] [] ∧ Fr ((σ.add105 (R, [], 0, false, ())).add116 (some σ.t105.length, nmA, ())) σ2 σ.t105.length σ.t108.length := by
  obtain ⟨e0, h0, k0⟩ := f18_eq (σ := σ) h1 h2
  have hk : SLs m ([] : List FR) [] [] := ⟨List.Perm.refl _, by simp, List.Pairwise.nil, by simp⟩
  obtain ⟨σ2, B, e, v, g, r, a, w, ⟨rfl, rfl, o3, o4⟩ | ⟨o1, o2⟩⟩ := f38_eq h0 k0 (ps := []) (junk := []) (m := m) hk rfl
  · exact ⟨_, σ2, B, e0, g, a, w rfl, o3, o4, r⟩
  · exact absurd rfl o2

/-- What others keep beside a disk and a keeper that are new. -/
structure Keeps2 (σ σ' : St) : Prop where
  keeps : Keeps σ σ'
  t116 : ∀ i, i < σ.t116.length → σ'.t116[i]? = σ.t116[i]?

theorem Keeps2.of {σ' : St} {y : denFs fs105} {z : denFs fs116} (hf : Fr ((σ.add105 y).add116 z) σ' σ.t105.length σ.t108.length) : Keeps2 σ σ' := by
  refine ⟨⟨hf.t47, fun i hi => ?_, fun j hj => hf.t108 j hj, hf.l108⟩, fun i hi => ?_⟩
  · rw [hf.t105 i (by omega) (by simp [St.add105, St.add116]; omega)]
    simp only [St.add105, St.add116]
    rw [List.getElem?_append_left hi]
  · have e : σ'.t116 = ((σ.add105 y).add116 z).t116 := congrArg (·.1) hf.oth
    rw [e]
    simp only [St.add105, St.add116]
    rw [List.getElem?_append_left hi]

theorem KS.keep {σ' : St} (h : KS σ k d n0 m A ps junk) (hk : Keeps2 σ σ') : KS σ' k d n0 m A ps junk := by
  refine ⟨?_, h.dv.keep hk.keeps, h.ok, h.kl⟩
  have hkp : σ.t116[k]? = some (some d, nmA, ()) := h.kp
  show σ'.t116[k]? = _
  rw [hk.t116 k (List.getElem?_eq_some_iff.1 hkp).1]; exact hkp

theorem f39_eq (σ : St) : ∃ σ', f39 σ = some (true, σ') ∧ Keeps2 σ σ' := by
  obtain ⟨σ1, σ2, A, e1, e2, r0, a0, d0, k0, fr⟩ := open_new σ (R := 1000) 1 (by decide) (by decide)
  obtain ⟨σ3, A3, g3, f3, r3, a3, d3, k3⟩ := save0 k0 d0 a0 (q := 3) (s := [97]) (by decide) (by decide) (by decide) (by rw [r0]; decide) (by decide) (by simp)
  have l3 : lastOf [] ++ [((3 : Nat), ([97] : List UInt8))] = [(3, [97])] := rfl
  rw [l3] at k3
  obtain ⟨σ5, A5, g5, f5, r5, a5, d5, k5⟩ := save0 k3 d3 a3 (q := 5) (s := [98]) (by decide) (by decide) (by decide) (by rw [r3, r0]; decide) (by decide) (by simp)
  have l5 : lastOf [((3 : Nat), ([97] : List UInt8))] ++ [((5 : Nat), ([98] : List UInt8))] = [(3, [97]), (5, [98])] := rfl
  rw [l5] at k5
  obtain ⟨σ9, A9, g9, f9, r9, a9, d9, k9⟩ := save0 k5 d5 a5 (q := 9) (s := [99]) (by decide) (by decide) (by decide) (by rw [r5, r3, r0]; decide) (by decide) (by simp)
  have l9 : lastOf [((3 : Nat), ([97] : List UInt8)), ((5 : Nat), ([98] : List UInt8))] ++ [((9 : Nat), ([99] : List UInt8))] = [(5, [98])] ++ [(9, [99])] := rfl
  rw [l9] at k9
  refine ⟨σ9, ?_, Keeps2.of (((fr.trans f3).trans f5).trans f9)⟩
  have e43 := f43_last k9 d9
  have e40 := k9.f40 d9
  have en : nums ([((5 : Nat), ([98] : List UInt8))] ++ [((9 : Nat), ([99] : List UInt8))]) = [5, 9] := rfl
  rw [en] at e40
  have e42 := f42_eq [5, 9] (by decide)
  unfold f39
  rw [e1]
  simp only [Option.bind_eq_bind, Option.bind_some]
  rw [e2]
  simp only [Option.bind_some]
  rw [if_neg (by simp)]
  have g3' : f41 (some σ.t116.length) 3 [97] σ2 = some (0, σ3) := g3
  have g5' : f41 (some σ.t116.length) 5 [98] σ3 = some (0, σ5) := g5
  have g9' : f41 (some σ.t116.length) 9 [99] σ5 = some (0, σ9) := g9
  rw [g3']
  simp only [Option.bind_some]
  rw [if_neg (by simp), g5']
  simp only [Option.bind_some]
  rw [if_neg (by simp), g9']
  simp only [Option.bind_some]
  rw [if_neg (by simp), e43]
  simp only [Option.bind_some]
  rw [if_pos (by simp), e40]
  simp only [Option.bind_some]
  rw [e42]
  rfl

/-! ### SnapNone -/
theorem f11_true {a : K80.den} (σ : St) : ∃ σ', f11 a σ = some (true, σ') := by
  obtain ⟨σ', e, _⟩ := f39_eq σ
  refine ⟨σ', ?_⟩
  unfold f11
  have e1 : f47 none a.2.1 σ = some ([], 1) := by unfold f47; simp
  have e2 : f43 none σ = some (0, [], 1) := by unfold f43; simp
  have e3 : f38 none a.2.2.1 σ = some ((none, 1), σ) := by unfold f38; simp
  have e4 : f41 none a.2.1 a.2.2.1 σ' = some (1, σ') := by unfold f41; simp
  have e5 : f40 none σ' = some [] := by unfold f40; simp
  simp [e1, e2, e3, e, e4, e5]

/-! ### SnapFew -/
/-- The last number; below 0: none. -/
def lastNum (ps : List SP) : Int := match ps.getLast? with
  | none => -1
  | some p => (p.1 : Int)

theorem lastNum_app (pre : List SP) (p : SP) : lastNum (pre ++ [p]) = (p.1 : Int) := by simp [lastNum]

theorem lastNum_le (h : ps.Pairwise (fun p q => p.1 < q.1)) {n : Nat} (hn : lastNum ps < (n : Int)) : ∀ p ∈ ps, p.1 < n := by
  rcases List.eq_nil_or_concat ps with rfl | ⟨pre, l, rfl⟩
  · simp
  · rw [List.concat_eq_append] at *
    rw [lastNum_app] at hn
    have hpw := List.pairwise_append.1 h
    intro p hp
    rcases List.mem_append.1 hp with hp | hp
    · have := hpw.2.2 p hp l (by simp)
      omega
    · simp only [List.mem_cons, List.not_mem_nil, or_false] at hp
      subst hp; omega

theorem lastNum_mem {n : Nat} (hn : (n : Int) ≤ lastNum ps) : ∃ p ∈ ps, n ≤ p.1 := by
  rcases List.eq_nil_or_concat ps with rfl | ⟨pre, l, rfl⟩
  · simp [lastNum] at hn; omega
  · rw [List.concat_eq_append] at *
    rw [lastNum_app] at hn
    exact ⟨l, by simp, by omega⟩

theorem lastOf_len (ps : List SP) : (lastOf ps).length ≤ 1 := by
  unfold lastOf
  rw [List.length_drop]; omega

theorem f9_loop {l : List K67.den} {r5 : ((Option Nat) × Int) × St} (h5 : r5.1.1 = some k) : ∀ (j n : Nat) (σ : St) (A : AD) (ps : List SP), n + j = 20 → KS σ k d n0 3000 A ps [] → downA A = false → armA0 A = 0 → A.1 = 100000 → ps.length ≤ 2 →
    ∃ x i σ', f9_l0 l r5 (lastNum ps) (n : Int) σ = some (.inl (x, i, σ'))
  | 0, n, σ, A, ps, hn, hk, hd, h0, hr, h2 => by
    rw [f9_l0]
    have : n = 20 := by omega
    subst this
    exact ⟨lastNum ps, ((20 : Nat) : Int), σ, by simp⟩
  | j + 1, n, σ, A, ps, hn, hk, hd, h0, hr, h2 => by
    rw [f9_l0]
    have c2 : ((n : Int) < 20) := by omega
    have hw : IntKind.wrap .i64 ((n : Int) + 1) = ((n + 1 : Nat) : Int) := by rw [wrap_id (by omega) (by omega)]; omega
    by_cases hl : n < l.length
    case neg =>
      have h1 : ¬ ((n : Int) < (l.length : Int)) := by omega
      exact ⟨lastNum ps, (n : Int), σ, by simp [h1]⟩
    have h1 : ((n : Int) < (l.length : Int)) := by omega
    obtain ⟨a, s, hx⟩ : ∃ (a : Int) (s : List UInt8), l[n] = (a, s, ()) := ⟨l[n].1, l[n].2.1, rfl⟩
    simp only [h1, c2, decide_true, Bool.and_self, if_true, ix_at hl, hx, Option.bind_eq_bind, Option.bind_some, hw, h5]
    by_cases c3 : 3000 < s.length
    · rw [if_pos (by simp; omega)]
      exact f9_loop h5 j (n + 1) σ A ps (by omega) hk hd h0 hr h2
    rw [if_neg (by simp; omega), hk.f40 hd]
    simp only [Option.bind_some]
    have hnl : (nums ps).length < 9223372036854775808 := by simp [nums]; omega
    have e42 := f42_eq (nums ps) hnl
    by_cases c4 : a < 0
    · rw [f41_range (.inl c4)]
      simp only [Option.bind_some]
      rw [if_pos (by simpa using c4), if_neg (by decide), hk.f40 hd]
      simp only [Option.bind_some, e42]
      rw [if_neg (by decide)]
      exact f9_loop h5 j (n + 1) σ A ps (by omega) hk hd h0 hr h2
    by_cases c5 : 1099511627776 < a
    · rw [f41_range (.inr c5)]
      simp only [Option.bind_some]
      rw [if_neg (by simpa using c4), if_pos (by simpa using c5), if_neg (by decide), hk.f40 hd]
      simp only [Option.bind_some, e42]
      rw [if_neg (by decide)]
      exact f9_loop h5 j (n + 1) σ A ps (by omega) hk hd h0 hr h2
    obtain ⟨q, hq⟩ : ∃ q : Nat, a = (q : Int) := ⟨a.toNat, by omega⟩
    have hq2 : q ≤ 1099511627776 := by omega
    by_cases c6 : a ≤ lastNum ps
    · obtain ⟨p, hp, hle⟩ := lastNum_mem (ps := ps) (n := q) (by omega)
      have e41 : f41 (some k) a s σ = some (9, σ) := by rw [hq]; exact f41_old hk hd hq2 hp hle
      rw [e41]
      simp only [Option.bind_some]
      rw [if_neg (by simpa using c4), if_neg (by simpa using c5), if_pos (by simpa using c6), if_neg (by decide), hk.f40 hd]
      simp only [Option.bind_some, e42]
      rw [if_neg (by decide)]
      exact f9_loop h5 j (n + 1) σ A ps (by omega) hk hd h0 hr h2
    · obtain ⟨σ', B, g, r, ra, v, dn, ks⟩ := save0 hk hd h0 (q := q) (s := s) hq2 (by omega) h2 (by rw [hr]; decide) (by decide) (lastNum_le hk.kl.rise (by omega))
      have e41 : f41 (some k) a s σ = some (0, σ') := by rw [hq]; exact g
      rw [e41]
      have e43 := f43_last ks dn
      have hl1 := lastOf_len ps
      simp only [Option.bind_some]
      rw [if_neg (by simpa using c4), if_neg (by simpa using c5), if_neg (by simpa using c6), e43]
      simp only [Option.bind_some]
      rw [if_neg (by decide), if_neg (by simp [hq]), if_neg (by simp), ks.f40 dn]
      simp only [Option.bind_some]
      rw [if_neg (by simp [nums]; omega)]
      have := f9_loop (l := l) h5 j (n + 1) σ' B (lastOf ps ++ [(q, s)]) (by omega) ks dn v (ra.trans hr) (by rw [List.length_append]; simp only [List.length_cons, List.length_nil]; omega)
      rw [lastNum_app] at this
      rw [hq]; exact this

theorem f9_true {l : List K67.den} (σ : St) : ∃ σ', f9 l σ = some (true, σ') := by
  obtain ⟨σ1, σ2, A, e1, e2, r0, a0, d0, k0, fr⟩ := open_new σ (R := 100000) 3000 (by decide) (by decide)
  obtain ⟨σ3, e3, hk⟩ := f39_eq σ2
  obtain ⟨x, i, σ', e4⟩ := f9_loop (l := l) (r5 := ((some σ.t116.length, 0), σ2)) rfl 20 0 σ3 A [] (by omega) (k0.keep hk) d0 a0 r0 (by decide)
  refine ⟨σ', ?_⟩
  have e4' : f9_l0 l ((some σ.t116.length, 0), σ2) (-1) 0 σ3 = some (.inl (x, i, σ')) := e4
  unfold f9
  rw [e1]
  simp only [Option.bind_eq_bind, Option.bind_some]
  rw [e2]
  simp only [Option.bind_some]
  rw [if_neg (by simp), e3]
  simp only [Option.bind_some]
  rw [if_neg (by simp), e4']
  rfl
end
end Go.Proofs.Ytlfemhkabjafeaa.M

/- Two laws of the keeper: what their functions answer, from what comes in. -/
set_option linter.unusedVariables false
namespace Go.Proofs.Ytlfemhkabjafeaa.M
theorem snapFew_pure {x0 : List K67.den} (f0 : Kd.Fits (.list K67) x0) : ∃ σ', f9 x0 St.none = some (true, σ') := f9_true St.none
theorem snapNone_pure {x0 : K80.den} (f0 : Kd.Fits K80 x0) : ∃ σ', f11 x0 St.none = some (true, σ') := f11_true St.none
end Go.Proofs.Ytlfemhkabjafeaa.M
