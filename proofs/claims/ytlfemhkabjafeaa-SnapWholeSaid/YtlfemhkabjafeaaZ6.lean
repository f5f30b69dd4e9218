/- Own texts, laid together: X7 X8 Q3. -/
import Derived.Test.YtlfemhkabjafeaaZ1
import Derived.Test.YtlfemhkabjafeaaZ2
import Derived.Test.YtlfemhkabjafeaaZ3
import Derived.Test.YtlfemhkabjafeaaZ4
import Derived.Test.YtlfemhkabjafeaaZ5
/- Plain law of the keeper, part 7: what must come at any rate; SnapNone and SnapFew. -/
set_option linter.unusedVariables false
set_option linter.unusedSimpArgs false
namespace Go.Proofs.Ytlfemhkabjafeaa.M

section
variable {σ : St} {k d n0 m : Nat} {A : AD} {ps : List SP} {junk : List FR}

/-- A state saved on a disk that is not armed. -/
theorem save0 (h : KS σ k d n0 m A ps []) (hd : downA A = false) (h0 : armA0 A = 0) {q : Nat} {s : List UInt8} (hq : q ≤ 1099511627776) (hs : s.length ≤ m) (h2 : ps.length ≤ 2) (hr : 3 * ((m : Int) + 14) ≤ A.1) (hm : m ≤ 3000) (hp : ∀ p ∈ ps, p.1 < q) :
    ∃ σ' B, f41 (some k) (q : Int) s σ = some (0, σ') ∧ Fr σ σ' d n0 ∧ B.1 = A.1 ∧ armA0 B = 0 ∧ downA B = false ∧ KS σ' k d n0 m B (lastOf ps ++ [(q, s)]) [] := by
  obtain ⟨σ', B, e, ps', junk', g, r, a, v, ks, ⟨rfl, o2, rfl, rfl⟩ | ⟨o1, o2, o3, o4⟩⟩ := f41_new h hd hq hs h2 hr hm hp
  · exact ⟨σ', B, g, r, a, v h0, o2, ks⟩
  · exact absurd h0 o3

/-- A new disk, and a keeper on it. -/
theorem open_new (σ : St) {R : Int} (m : Nat) (h1 : 0 ≤ R) (h2 : R ≤ 1048576) : ∃ σ1 σ2 A, f18 R σ = some ((some σ.t105.length, 0), σ1) ∧ f38 (some σ.t105.length) nmA σ1 = some ((some σ.t116.length, 0), σ2) ∧ A.1 = R ∧ armA0 A = 0 ∧ downA A = false ∧
    KS σ2 σ.t116.length σ.t105.length σ.t108.length m A [] [] ∧ Fr ((σ.add105 (R, [], 0, false, ())).add116 (some σ.t105.length, nmA, ())) σ2 σ.t105.length σ.t108.length := by
  obtain ⟨e0, h0, k0⟩ := f18_eq (σ := σ) h1 h2
  have hk : SLs m ([] : List FR) [] [] := ⟨List.Perm.refl _, by simp, List.Pairwise.nil, by simp⟩
  obtain ⟨σ2, B, e, v, g, r, a, w, ⟨rfl, rfl, o3, o4⟩ | ⟨o1, o2⟩⟩ := f38_eq h0 k0 (ps := []) (junk := []) (m := m) hk rfl
  · exact ⟨_, σ2, B, e0, g, a, w rfl, o3, o4, r⟩
  · exact absurd rfl o2

/-- What others keep beside a disk and a keeper that are new. -/
structure Keeps2 (σ σ' : St) : Prop where
  keeps : Keeps σ σ'
  t116 : ∀ i, i < σ.t116.length → σ'.t116[i]? = σ.t116[i]?

theorem Keeps2.of {σ' : St} {y : denFs fs105} {z : denFs fs116} (hf : Fr ((σ.add105 y).add116 z) σ' σ.t105.length σ.t108.length) : Keeps2 σ σ' := by
  refine ⟨⟨hf.t47, fun i hi => ?_, fun j hj => hf.t108 j hj, hf.l108⟩, fun i hi => ?_⟩
  · rw [hf.t105 i (by omega) (by simp [St.add105, St.add116]; omega)]
    simp only [St.add105, St.add116]
    rw [List.getElem?_append_left hi]
  · have e : σ'.t116 = ((σ.add105 y).add116 z).t116 := congrArg (·.1) hf.oth
    rw [e]
    simp only [St.add105, St.add116]
    rw [List.getElem?_append_left hi]

theorem KS.keep {σ' : St} (h : KS σ k d n0 m A ps junk) (hk : Keeps2 σ σ') : KS σ' k d n0 m A ps junk := by
  refine ⟨?_, h.dv.keep hk.keeps, h.ok, h.kl⟩
  have hkp : σ.t116[k]? = some (some d, nmA, ()) := h.kp
  show σ'.t116[k]? = _
  rw [hk.t116 k (List.getElem?_eq_some_iff.1 hkp).1]; exact hkp

theorem f39_eq (σ : St) : ∃ σ', f39 σ = some (true, σ') ∧ Keeps2 σ σ' := by
  obtain ⟨σ1, σ2, A, e1, e2, r0, a0, d0, k0, fr⟩ := open_new σ (R := 1000) 1 (by decide) (by decide)
  obtain ⟨σ3, A3, g3, f3, r3, a3, d3, k3⟩ := save0 k0 d0 a0 (q := 3) (s := [97]) (by decide) (by decide) (by decide) (by rw [r0]; decide) (by decide) (by simp)
  have l3 : lastOf [] ++ [((3 : Nat), ([97] : List UInt8))] = [(3, [97])] := rfl
  rw [l3] at k3
  obtain ⟨σ5, A5, g5, f5, r5, a5, d5, k5⟩ := save0 k3 d3 a3 (q := 5) (s := [98]) (by decide) (by decide) (by decide) (by rw [r3, r0]; decide) (by decide) (by simp)
  have l5 : lastOf [((3 : Nat), ([97] : List UInt8))] ++ [((5 : Nat), ([98] : List UInt8))] = [(3, [97]), (5, [98])] := rfl
  rw [l5] at k5
  obtain ⟨σ9, A9, g9, f9, r9, a9, d9, k9⟩ := save0 k5 d5 a5 (q := 9) (s := [99]) (by decide) (by decide) (by decide) (by rw [r5, r3, r0]; decide) (by decide) (by simp)
  have l9 : lastOf [((3 : Nat), ([97] : List UInt8)), ((5 : Nat), ([98] : List UInt8))] ++ [((9 : Nat), ([99] : List UInt8))] = [(5, [98])] ++ [(9, [99])] := rfl
  rw [l9] at k9
  refine ⟨σ9, ?_, Keeps2.of (((fr.trans f3).trans f5).trans f9)⟩
  have e43 := f43_last k9 d9
  have e40 := k9.f40 d9
  have en : nums ([((5 : Nat), ([98] : List UInt8))] ++ [((9 : Nat), ([99] : List UInt8))]) = [5, 9] := rfl
  rw [en] at e40
  have e42 := f42_eq [5, 9] (by decide)
  unfold f39
  rw [e1]
  simp only [Option.bind_eq_bind, Option.bind_some]
  rw [e2]
  simp only [Option.bind_some]
  rw [if_neg (by simp)]
  have g3' : f41 (some σ.t116.length) 3 [97] σ2 = some (0, σ3) := g3
  have g5' : f41 (some σ.t116.length) 5 [98] σ3 = some (0, σ5) := g5
  have g9' : f41 (some σ.t116.length) 9 [99] σ5 = some (0, σ9) := g9
  rw [g3']
  simp only [Option.bind_some]
  rw [if_neg (by simp), g5']
  simp only [Option.bind_some]
  rw [if_neg (by simp), g9']
  simp only [Option.bind_some]
  rw [if_neg (by simp), e43]
  simp only [Option.bind_some]
  rw [if_pos (by simp), e40]
  simp only [Option.bind_some]
  rw [e42]
  rfl

/-! ### SnapNone -/
theorem f11_true {a : K80.den} (σ : St) : ∃ σ', f11 a σ = some (true, σ') := by
  obtain ⟨σ', e, _⟩ := f39_eq σ
  refine ⟨σ', ?_⟩
  unfold f11
  have e1 : f47 none a.2.1 σ = some ([], 1) := by unfold f47; simp
  have e2 : f43 none σ = some (0, [], 1) := by unfold f43; simp
  have e3 : f38 none a.2.2.1 σ = some ((none, 1), σ) := by unfold f38; simp
  have e4 : f41 none a.2.1 a.2.2.1 σ' = some (1, σ') := by unfold f41; simp
  have e5 : f40 none σ' = some [] := by unfold f40; simp
  simp [e1, e2, e3, e, e4, e5]

/-! ### SnapFew -/
/-- The last number; below 0: none. -/
def lastNum (ps : List SP) : Int := match ps.getLast? with
  | none => -1
  | some p => (p.1 : Int)

theorem lastNum_app (pre : List SP) (p : SP) : lastNum (pre ++ [p]) = (p.1 : Int) := by simp [lastNum]

theorem lastNum_le (h : ps.Pairwise (fun p q => p.1 < q.1)) {n : Nat} (hn : lastNum ps < (n : Int)) : ∀ p ∈ ps, p.1 < n := by
  rcases List.eq_nil_or_concat ps with rfl | ⟨pre, l, rfl⟩
  · simp
  · rw [List.concat_eq_append] at *
    rw [lastNum_app] at hn
    have hpw := List.pairwise_append.1 h
    intro p hp
    rcases List.mem_append.1 hp with hp | hp
    · have := hpw.2.2 p hp l (by simp)
      omega
    · simp only [List.mem_cons, List.not_mem_nil, or_false] at hp
      subst hp; omega

theorem lastNum_mem {n : Nat} (hn : (n : Int) ≤ lastNum ps) : ∃ p ∈ ps, n ≤ p.1 := by
  rcases List.eq_nil_or_concat ps with rfl | ⟨pre, l, rfl⟩
  · simp [lastNum] at hn; omega
  · rw [List.concat_eq_append] at *
    rw [lastNum_app] at hn
    exact ⟨l, by simp, by omega⟩

theorem lastOf_len (ps : List SP) : (lastOf ps).length ≤ 1 := by
  unfold lastOf
  rw [List.length_drop]; omega

theorem f9_loop {l : List K67.den} {r5 : ((Option Nat) × Int) × St} (h5 : r5.1.1 = some k) : ∀ (j n : Nat) (σ : St) (A : AD) (ps : List SP), n + j = 20 → KS σ k d n0 3000 A ps [] → downA A = false → armA0 A = 0 → A.1 = 100000 → ps.length ≤ 2 →
    ∃ x i σ', f9_l0 l r5 (lastNum ps) (n : Int) σ = some (.inl (x, i, σ'))
  | 0, n, σ, A, ps, hn, hk, hd, h0, hr, h2 => by
    rw [f9_l0]
    have : n = 20 := by omega
    subst this
    exact ⟨lastNum ps, ((20 : Nat) : Int), σ, by simp⟩
  | j + 1, n, σ, A, ps, hn, hk, hd, h0, hr, h2 => by
    rw [f9_l0]
    have c2 : ((n : Int) < 20) := by omega
    have hw : IntKind.wrap .i64 ((n : Int) + 1) = ((n + 1 : Nat) : Int) := by rw [wrap_id (by omega) (by omega)]; omega
    by_cases hl : n < l.length
    case neg =>
      have h1 : ¬ ((n : Int) < (l.length : Int)) := by omega
      exact ⟨lastNum ps, (n : Int), σ, by simp [h1]⟩
    have h1 : ((n : Int) < (l.length : Int)) := by omega
    obtain ⟨a, s, hx⟩ : ∃ (a : Int) (s : List UInt8), l[n] = (a, s, ()) := ⟨l[n].1, l[n].2.1, rfl⟩
    simp only [h1, c2, decide_true, Bool.and_self, if_true, ix_at hl, hx, Option.bind_eq_bind, Option.bind_some, hw, h5]
    by_cases c3 : 3000 < s.length
    · rw [if_pos (by simp; omega)]
      exact f9_loop h5 j (n + 1) σ A ps (by omega) hk hd h0 hr h2
    rw [if_neg (by simp; omega), hk.f40 hd]
    simp only [Option.bind_some]
    have hnl : (nums ps).length < 9223372036854775808 := by simp [nums]; omega
    have e42 := f42_eq (nums ps) hnl
    by_cases c4 : a < 0
    · rw [f41_range (.inl c4)]
      simp only [Option.bind_some]
      rw [if_pos (by simpa using c4), if_neg (by decide), hk.f40 hd]
      simp only [Option.bind_some, e42]
      rw [if_neg (by decide)]
      exact f9_loop h5 j (n + 1) σ A ps (by omega) hk hd h0 hr h2
    by_cases c5 : 1099511627776 < a
    · rw [f41_range (.inr c5)]
      simp only [Option.bind_some]
      rw [if_neg (by simpa using c4), if_pos (by simpa using c5), if_neg (by decide), hk.f40 hd]
      simp only [Option.bind_some, e42]
      rw [if_neg (by decide)]
      exact f9_loop h5 j (n + 1) σ A ps (by omega) hk hd h0 hr h2
    obtain ⟨q, hq⟩ : ∃ q : Nat, a = (q : Int) := ⟨a.toNat, by omega⟩
    have hq2 : q ≤ 1099511627776 := by omega
    by_cases c6 : a ≤ lastNum ps
    · obtain ⟨p, hp, hle⟩ := lastNum_mem (ps := ps) (n := q) (by omega)
      have e41 : f41 (some k) a s σ = some (9, σ) := by rw [hq]; exact f41_old hk hd hq2 hp hle
      rw [e41]
      simp only [Option.bind_some]
      rw [if_neg (by simpa using c4), if_neg (by simpa using c5), if_pos (by simpa using c6), if_neg (by decide), hk.f40 hd]
      simp only [Option.bind_some, e42]
      rw [if_neg (by decide)]
      exact f9_loop h5 j (n + 1) σ A ps (by omega) hk hd h0 hr h2
    · obtain ⟨σ', B, g, r, ra, v, dn, ks⟩ := save0 hk hd h0 (q := q) (s := s) hq2 (by omega) h2 (by rw [hr]; decide) (by decide) (lastNum_le hk.kl.rise (by omega))
      have e41 : f41 (some k) a s σ = some (0, σ') := by rw [hq]; exact g
      rw [e41]
      have e43 := f43_last ks dn
      have hl1 := lastOf_len ps
      simp only [Option.bind_some]
      rw [if_neg (by simpa using c4), if_neg (by simpa using c5), if_neg (by simpa using c6), e43]
      simp only [Option.bind_some]
      rw [if_neg (by decide), if_neg (by simp [hq]), if_neg (by simp), ks.f40 dn]
      simp only [Option.bind_some]
      rw [if_neg (by simp [nums]; omega)]
      have := f9_loop (l := l) h5 j (n + 1) σ' B (lastOf ps ++ [(q, s)]) (by omega) ks dn v (ra.trans hr) (by rw [List.length_append]; simp only [List.length_cons, List.length_nil]; omega)
      rw [lastNum_app] at this
      rw [hq]; exact this

theorem f9_true {l : List K67.den} (σ : St) : ∃ σ', f9 l σ = some (true, σ') := by
  obtain ⟨σ1, σ2, A, e1, e2, r0, a0, d0, k0, fr⟩ := open_new σ (R := 100000) 3000 (by decide) (by decide)
  obtain ⟨σ3, e3, hk⟩ := f39_eq σ2
  obtain ⟨x, i, σ', e4⟩ := f9_loop (l := l) (r5 := ((some σ.t116.length, 0), σ2)) rfl 20 0 σ3 A [] (by omega) (k0.keep hk) d0 a0 r0 (by decide)
  refine ⟨σ', ?_⟩
  have e4' : f9_l0 l ((some σ.t116.length, 0), σ2) (-1) 0 σ3 = some (.inl (x, i, σ')) := e4
  unfold f9
  rw [e1]
  simp only [Option.bind_eq_bind, Option.bind_some]
  rw [e2]
  simp only [Option.bind_some]
  rw [if_neg (by simp), e3]
  simp only [Option.bind_some]
  rw [if_neg (by simp), e4']
  rfl
end
end Go.Proofs.Ytlfemhkabjafeaa.M

/- Plain law of the keeper, part 8: SnapWhole. -/
set_option linter.unusedVariables false
set_option linter.unusedSimpArgs false
namespace Go.Proofs.Ytlfemhkabjafeaa.M

section
variable {σ : St} {k d n0 m : Nat} {A : AD} {ps : List SP} {junk : List FR}

/-! ### A crash -/
theorem crashL_drop : ∀ (L : List FR) (keep : List Int), (∀ f ∈ L, f.1 ≠ newN → f.2.2.1 = []) → dropL newN (crashL L keep) = dropL newN L
  | [], _, _ => rfl
  | f :: r, keep, h => by
    have h1 := crashL_drop r keep (fun x hx => h x (List.mem_cons_of_mem _ hx))
    have h2 := crashL_drop r keep.tail (fun x hx => h x (List.mem_cons_of_mem _ hx))
    by_cases c : f.1 = newN
    · unfold crashL
      have cb : (f.1 == newN) = true := by simpa using c
      cases hm : f.2.2.1.isEmpty
      · simp only [cond_false, dropL, cb, cond_true, List.nil_append, h2]
      · simp only [cond_true, dropL, cb, List.nil_append, h1]
    · have he := h f List.mem_cons_self c
      unfold crashL
      have cb : (f.1 == newN) = false := by simpa using c
      have e : ((f.1, f.2.1, [], ()) : FR) = f := by rw [← he]
      have hm : f.2.2.1.isEmpty = true := by rw [he]; rfl
      rw [hm, cond_true, e]
      simp only [dropL, cb, cond_false, h1]

theorem drop_split (L : List FR) : L.Perm (dropL newN L ++ L.filter (fun f => f.1 == newN)) := by
  induction L with
  | nil => exact List.Perm.refl _
  | cons f r ih =>
    cases hb : (f.1 == newN)
    · rw [List.filter_cons_of_neg (by simp [hb])]
      simp only [dropL, hb, cond_false, List.singleton_append, List.cons_append]
      exact List.Perm.cons f ih
    · rw [List.filter_cons_of_pos (by simp [hb])]
      simp only [dropL, hb, cond_true, List.nil_append]
      exact (List.Perm.cons f ih).trans (List.perm_middle).symm

theorem SLs.crash (h : SLs m A.2.1 ps junk) (keep : List Int) : ∃ junk', SLs m (crashA A keep).2.1 ps junk' := by
  have hL : ∀ f ∈ A.2.1, f.1 ≠ newN → f.2.2.1 = [] := by
    intro f hf hn
    rcases List.mem_append.1 (h.perm.mem_iff.1 hf) with hf | hf
    · obtain ⟨p, hp, rfl⟩ := List.mem_map.1 hf
      rfl
    · exact absurd (h.junkN f hf) hn
  refine ⟨(crashL A.2.1 keep).filter (fun f => f.1 == newN), ?_, ?_, h.rise, h.each⟩
  · show (crashL A.2.1 keep).Perm _
    refine (drop_split _).trans ?_
    rw [crashL_drop _ _ hL]
    have := h.clear.perm
    rw [List.append_nil] at this
    exact List.Perm.append_right _ this
  · intro f hf
    have := (List.mem_filter.1 hf).2
    simpa using this

theorem KS.crash (h : KS σ k d n0 m A ps junk) (keep : List Int) : ∃ σ' junk', f27 (some d) keep σ = some (0, σ') ∧ Fr σ σ' d n0 ∧ DV σ' d n0 (crashA A keep) ∧ OkA (crashA A keep) ∧ SLs m (crashA A keep).2.1 ps junk' := by
  obtain ⟨σ', g1, g2, g3⟩ := f27_eq h.dv h.ok keep
  obtain ⟨junk', hk⟩ := h.kl.crash keep
  exact ⟨σ', junk', g1, g3, g2, h.ok.crash keep, hk⟩

/-- A disk armed. -/
theorem KS.arm (h : KS σ k d n0 m A ps junk) (hd : downA A = false) {n : Int} (h1 : 1 ≤ n) (h2 : n < 256) : ∃ σ' e B, f32 (some d) n σ = some (e, σ') ∧ B.1 = A.1 ∧ downA B = false ∧ KS σ' k d n0 m B ps junk := by
  obtain ⟨σ', g1, g2, g3⟩ := f32_eq h.dv n
  have e : armA A n = (0, (A.1, A.2.1, n, A.2.2.2.1, ())) := by
    unfold armA
    rw [if_neg (by rw [show A.2.2.2.1 = false from hd]; decide), if_neg (by omega)]
  rw [e] at g1 g2
  obtain ⟨o1, o2, o3, o4, o5, o6⟩ := h.ok
  exact ⟨σ', 0, (A.1, A.2.1, n, A.2.2.2.1, ()), g1, rfl, hd, ⟨h.kp.fr g3, g2, ⟨o1, o2, o3, o4, o5, by show (0 : Int) ≤ n ∧ n < 9223372036854775808; omega⟩, h.kl⟩⟩

/-- Was that state asked for? -/
abbrev Asked (l : List K67.den) (p : SP) : Prop := ∃ x ∈ l, x.1 = (p.1 : Int) ∧ x.2.1 = p.2

structure WI (σ : St) (k d n0 : Nat) (A : AD) (ps : List SP) (junk : List FR) (asked : List K67.den) (least : Int) : Prop where
  ks : KS σ k d n0 3000 A ps junk
  room : A.1 = 100000
  up : downA A = false → junk = [] ∧ ps.length ≤ 2
  asked : ∀ p ∈ ps, Asked asked p
  least : least ≤ lastNum ps

theorem WI.more {asked : List K67.den} {least : Int} (h : WI σ k d n0 A ps junk asked least) (x : K67.den) : WI σ k d n0 A ps junk (asked ++ [x]) least :=
  ⟨h.ks, h.room, h.up, fun p hp => by obtain ⟨y, hy, e⟩ := h.asked p hp; exact ⟨y, List.mem_append.2 (.inl hy), e⟩, h.least⟩

theorem save_any {asked : List K67.den} {least a : Int} {s : List UInt8} (h : WI σ k d n0 A ps junk asked least) (hs : s.length ≤ 3000) :
    ∃ σ' B ps' junk' e, f41 (some k) a s σ = some (e, σ') ∧ WI σ' k d n0 B ps' junk' (asked ++ [(a, s, ())]) (if e = 0 then a else least) := by
  by_cases c4 : a < 0
  · exact ⟨σ, A, ps, junk, 3, f41_range (.inl c4), h.more _⟩
  by_cases c5 : 1099511627776 < a
  · exact ⟨σ, A, ps, junk, 3, f41_range (.inr c5), h.more _⟩
  obtain ⟨q, rfl⟩ : ∃ q : Nat, a = (q : Int) := ⟨a.toNat, by omega⟩
  have hq : q ≤ 1099511627776 := by omega
  have hin : ((q : Int), s, ()) ∈ asked ++ [(((q : Int), s, ()) : K67.den)] := by simp
  cases hd : downA A with
  | true =>
    obtain ⟨σ', g1, g2, g3⟩ := f41_down h.ks hd (s := s) hq
    refine ⟨σ', A, ps, junk, 11, g1, ?_⟩
    have := h.more ((q : Int), s, ())
    exact ⟨g3, this.room, this.up, this.asked, this.least⟩
  | false =>
    obtain ⟨rfl, h2⟩ := h.up hd
    by_cases c6 : (q : Int) ≤ lastNum ps
    · obtain ⟨p, hp, hle⟩ := lastNum_mem c6
      exact ⟨σ, A, ps, [], 9, f41_old h.ks hd hq hp hle, h.more _⟩
    · obtain ⟨σ', B, e, ps', junk', g, r, ra, v, ks, o⟩ := f41_new h.ks hd hq hs h2 (by rw [h.room]; decide) (by decide) (lastNum_le h.ks.kl.rise (n := q) (by omega))
      have hm := h.more ((q : Int), s, ())
      have hr : B.1 = 100000 := ra.trans h.room
      rcases o with ⟨rfl, o2, rfl, rfl⟩ | ⟨rfl, o2, o3, rfl | ⟨t, ht, rfl⟩⟩
      · have hl1 := lastOf_len ps
        refine ⟨σ', B, _, _, 0, g, ks, hr, fun _ => ⟨rfl, ?_⟩, ?_, ?_⟩
        · rw [List.length_append]; simp only [List.length_cons, List.length_nil]; omega
        · intro p hp
          rcases List.mem_append.1 hp with hp | hp
          · exact hm.asked p (List.mem_of_mem_drop hp)
          · simp only [List.mem_cons, List.not_mem_nil, or_false] at hp
            subst hp
            exact ⟨_, hin, rfl, rfl⟩
        · rw [lastNum_app, if_pos rfl]; exact Int.le_refl _
      · exact ⟨σ', B, _, _, 11, g, ks, hr, (fun hh => by rw [o2] at hh; cases hh), hm.asked, hm.least⟩
      · refine ⟨σ', B, _, _, 11, g, ks, hr, (fun hh => by rw [o2] at hh; cases hh), ?_, ?_⟩
        · intro p hp
          rcases List.mem_append.1 hp with hp | hp
          · exact hm.asked p (ht p hp)
          · simp only [List.mem_cons, List.not_mem_nil, or_false] at hp
            subst hp
            exact ⟨_, hin, rfl, rfl⟩
        · rw [lastNum_app, if_neg (by decide)]
          have := h.least
          show least ≤ (q : Int)
          omega

theorem f12_loop {l : List K67.den} {r10 : ((Option Nat) × Int) × St} (h5 : r10.1.1 = some k) : ∀ (j n : Nat) (σ : St) (A : AD) (ps : List SP) (junk : List FR) (asked : List K67.den) (least : Int), n + j = 20 → asked.length ≤ n → WI σ k d n0 A ps junk asked least →
    ∃ asked' least' i σ' A' ps' junk', f12_l0 l r10 asked least (n : Int) σ = some (asked', least', i, σ') ∧ WI σ' k d n0 A' ps' junk' asked' least' ∧ asked'.length ≤ 20
  | 0, n, σ, A, ps, junk, asked, least, hn, ha, h => by
    rw [f12_l0]
    have : n = 20 := by omega
    subst this
    exact ⟨asked, least, ((20 : Nat) : Int), σ, A, ps, junk, by simp, h, ha⟩
  | j + 1, n, σ, A, ps, junk, asked, least, hn, ha, h => by
    rw [f12_l0]
    have c2 : ((n : Int) < 20) := by omega
    have hw : IntKind.wrap .i64 ((n : Int) + 1) = ((n + 1 : Nat) : Int) := by rw [wrap_id (by omega) (by omega)]; omega
    by_cases hl : n < l.length
    case neg =>
      have h1 : ¬ ((n : Int) < (l.length : Int)) := by omega
      exact ⟨asked, least, (n : Int), σ, A, ps, junk, by simp [h1], h, by omega⟩
    have h1 : ((n : Int) < (l.length : Int)) := by omega
    obtain ⟨a, s, hx⟩ : ∃ (a : Int) (s : List UInt8), l[n] = (a, s, ()) := ⟨l[n].1, l[n].2.1, rfl⟩
    simp only [h1, c2, decide_true, Bool.and_self, if_true, ix_at hl, hx, Option.bind_eq_bind, Option.bind_some, hw, h5]
    by_cases c3 : 3000 < s.length
    · rw [if_pos (by simp; omega)]
      exact f12_loop h5 j (n + 1) σ A ps junk asked least (by omega) (by omega) h
    rw [if_neg (by simp; omega), if_pos (by omega)]
    obtain ⟨σ', B, ps', junk', e, g, hw2⟩ := save_any (a := a) h (s := s) (by omega)
    rw [g]
    simp only [Option.bind_some]
    have hz : (if (e == 0) = true then some a else some least : Option Int) = some (if e = 0 then a else least) := by
      by_cases c : e = 0 <;> simp [c]
    rw [hz]
    simp only [Option.bind_some]
    exact f12_loop h5 j (n + 1) σ' B ps' junk' (asked ++ [(a, s, ())]) _ (by omega) (by simp; omega) hw2

theorem f12_loop1 {z51 : (List K67.den) × Int × Int × St} {r56 : ((Option Nat) × Int) × St} {p : SP} (hl : z51.1.length < 9223372036854775808) (hle : z51.2.1 ≤ (p.1 : Int)) : ∀ (j n : Nat), n + j = z51.1.length → Asked (z51.1.drop n) p →
    f12_l1 z51 r56 ((p.1 : Int), p.2, 0) (n : Int) = some (.inr (true, r56.2))
  | 0, n, hn, h => by
    obtain ⟨x, hx, _⟩ := h
    rw [List.drop_of_length_le (by omega)] at hx
    simp at hx
  | j + 1, n, hn, h => by
    rw [f12_l1]
    have hlt : n < z51.1.length := by omega
    have hw : IntKind.wrap .i64 ((n : Int) + 1) = ((n + 1 : Nat) : Int) := by rw [wrap_id (by omega) (by omega)]; omega
    have h1 : ((n : Int) < (z51.1.length : Int)) := by omega
    simp only [h1, decide_true, if_true, ix_at hlt, Option.bind_eq_bind, Option.bind_some, hw]
    have hd : z51.1.drop n = z51.1[n] :: z51.1.drop (n + 1) := by simp
    have hge : decide ((p.1 : Int) ≥ z51.2.1) = true := by simpa using hle
    by_cases c : z51.1[n].1 = (p.1 : Int) ∧ z51.1[n].2.1 = p.2
    · rw [if_pos (by simpa using c.1), if_pos (by rw [hge, c.2]; simp)]
    · have hrest : Asked (z51.1.drop (n + 1)) p := by
        rw [hd] at h
        obtain ⟨x, hx, e1, e2⟩ := h
        rcases List.mem_cons.1 hx with rfl | hx
        · exact absurd ⟨e1, e2⟩ c
        · exact ⟨x, hx, e1, e2⟩
      have ih := f12_loop1 (r56 := r56) hl hle j (n + 1) (by omega) hrest
      by_cases c1 : z51.1[n].1 = (p.1 : Int)
      · rw [if_pos (by simpa using c1), if_neg (by simp; intro h2; exact absurd ⟨c1, h2⟩ c)]
        exact ih
      · rw [if_neg (by simpa using c1)]
        exact ih

theorem f12_true {l : List K67.den} {arm : Int} {keep : List Int} (h1 : 0 ≤ arm) (h2 : arm < 256) (σ : St) : ∃ σ', f12 l arm keep σ = some (true, σ') := by
  obtain ⟨e0, dv0, ok0⟩ := f18_eq (σ := σ) (room := 100000) (by decide) (by decide)
  have hlt : σ.t105.length < (σ.add105 (100000, [], 0, false, ())).t105.length := by simp [St.add105]
  obtain ⟨σ2, e2, kp2⟩ := f39_eq (σ.add105 (100000, [], 0, false, ()))
  have dv2 := dv0.keep kp2.keeps
  have hk0 : SLs 3000 ([] : List FR) [] [] := ⟨List.Perm.refl _, by simp, List.Pairwise.nil, by simp⟩
  obtain ⟨σ3, A3, e, v, g3, r3, a3, w3, ⟨rfl, rfl, d3, k3⟩ | ⟨_, o2⟩⟩ := f38_eq dv2 ok0 (ps := []) (junk := []) (m := 3000) hk0 rfl
  case inr => exact absurd rfl o2
  have e32 : ∃ σ4 A4, (if (decide (arm > 0)) = true then f32 (some σ.t105.length) (IntKind.wrap .i64 (arm)) σ3 >>= fun r82 => some r82.2 else some σ3 : Option St) = some σ4 ∧ A4.1 = 100000 ∧ downA A4 = false ∧ KS σ4 σ2.t116.length σ.t105.length σ.t108.length 3000 A4 [] [] := by
    by_cases c : 0 < arm
    · obtain ⟨σ4, e4, A4, g4, r4, d4, k4⟩ := k3.arm d3 (n := arm) (by omega) h2
      refine ⟨σ4, A4, ?_, r4.trans a3, d4, k4⟩
      rw [if_pos (by simpa using c), wrap_id (by omega) (by omega), g4]
      rfl
    · exact ⟨σ3, A3, by rw [if_neg (by simpa using c)], a3, d3, k3⟩
  obtain ⟨σ4, A4, e4, r4, d4, k4⟩ := e32
  obtain ⟨asked, least, i, σ5, A5, ps5, junk5, e5, w5, l5⟩ := f12_loop (l := l) (r10 := ((some σ2.t116.length, 0), σ3)) rfl 20 0 σ4 A4 [] [] [] (-1) (by omega) (by simp) ⟨k4, r4, fun _ => ⟨rfl, by simp⟩, by simp, by decide⟩
  obtain ⟨σ6, junk6, e6, f6, dv6, ok6, kl6⟩ := w5.ks.crash keep
  obtain ⟨σ7, A7, e7', v7, g7, r7, a7, w7, ⟨rfl, rfl, d7, k7⟩ | ⟨_, o2⟩⟩ := f38_eq dv6 ok6 kl6 rfl
  case inr => exact absurd rfl o2
  refine ⟨σ7, ?_⟩
  unfold f12
  rw [e0]
  simp only [Option.bind_eq_bind, Option.bind_some]
  rw [if_neg (by simp), e2]
  simp only [Option.bind_some]
  rw [if_neg (by simp), g3]
  simp only [Option.bind_some]
  rw [if_neg (by simp)]
  simp only [Option.bind_eq_bind] at e4
  rw [e4]
  simp only [Option.bind_some]
  have e5' : f12_l0 l ((some σ2.t116.length, 0), σ3) [] (-1) 0 σ4 = some (asked, least, i, σ5) := e5
  rw [e5']
  simp only [Option.bind_some]
  rw [e6]
  simp only [Option.bind_some]
  rw [g7]
  simp only [Option.bind_some]
  rw [if_neg (by simp)]
  rcases List.eq_nil_or_concat ps5 with rfl | ⟨pre, p, rfl⟩
  · rw [f43_none k7 d7]
    simp only [Option.bind_some]
    rw [if_pos (by decide)]
    have := w5.least
    have hn : lastNum [] = -1 := rfl
    rw [hn] at this
    have hl : least < 0 := by omega
    simp [hl]
  · rw [List.concat_eq_append] at *
    rw [f43_last k7 d7]
    simp only [Option.bind_some]
    rw [if_neg (by decide)]
    have hle := w5.least
    rw [lastNum_app] at hle
    have := f12_loop1 (z51 := (asked, least, i, σ5)) (r56 := ((some σ6.t116.length, 0), σ7)) (p := p) (by show asked.length < _; omega) hle asked.length 0 (by simp) (by rw [List.drop_zero]; exact w5.asked p (by simp))
    rw [show (((0 : Nat) : Int)) = (0 : Int) from rfl] at this
    rw [this]
    rfl
end
end Go.Proofs.Ytlfemhkabjafeaa.M

/- A law of the keeper: what its function answers, from what comes in. -/
set_option linter.unusedVariables false
namespace Go.Proofs.Ytlfemhkabjafeaa.M
theorem snapWhole_pure {x0 : List K67.den} {x1 : Int} {x2 : List Int} (f0 : Kd.Fits (.list K67) x0) (f1 : Kd.Fits (.int .u8) x1) (f2 : Kd.Fits (.list .i) x2) : ∃ σ', f12 x0 x1 x2 St.none = some (true, σ') := f12_true (wf_u8 f1).1 (wf_u8 f1).2 St.none
end Go.Proofs.Ytlfemhkabjafeaa.M
