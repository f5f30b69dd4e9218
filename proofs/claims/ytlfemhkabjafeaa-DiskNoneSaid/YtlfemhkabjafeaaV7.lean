/- Plain law, part 7: both disks together, and the calls that must come at any rate. -/
import Derived.Test.YtlfemhkabjafeaaV6
import Derived.Test.YtlfemhkabjafeaaW6
set_option linter.unusedVariables false
set_option linter.unusedSimpArgs false
namespace Go.Proofs.Ytlfemhkabjafeaa.M

section
variable {σ : St} {d n0 x : Nat} {A B : AD}

theorem set47_105 {i : Nat} {X : AD} : (σ.set47 i X).t105 = σ.t105 := rfl
theorem set47_108 {i : Nat} {X : AD} : (σ.set47 i X).t108 = σ.t108 := rfl

/-! ### A call of both -/
def Pair (r : Option (Bool × St)) (d n0 x : Nat) (p q : Int × AD) : Prop := ∃ σ', r = some (p.1 == q.1, σ') ∧ DV σ' d n0 p.2 ∧ σ'.t47[x]? = some q.2

theorem pair {rd : Option (Int × St)} {rx : St → Option (Int × St)} {p q : Int × AD} (g : Gives rd σ d n0 p) (hx : σ.t47[x]? = some B) (e : ∀ σ1, σ1.t47[x]? = some B → rx σ1 = some (q.1, σ1.set47 x q.2)) :
    Pair (rd >>= fun r => rx r.2 >>= fun s => some (r.1 == s.1, s.2)) d n0 x p q := by
  obtain ⟨σ1, e1, e2, e3⟩ := g
  have hx1 : σ1.t47[x]? = some B := by rw [e3.t47]; exact hx
  refine ⟨σ1.set47 x q.2, ?_, e2.same rfl rfl, set47_get hx1⟩
  rw [e1]
  simp [e σ1 hx1]

theorem f23_eq (h : DV σ d n0 A) (hA : OkA A) (hx : σ.t47[x]? = some B) (hB : OkA B) {a : AT} (ha : OkT a) : Pair (f23 (some d) (some x) a σ) d n0 x (doA A a) (doA B a) := by
  unfold f23 doA
  by_cases c : a.1 = 0 ∨ a.1 = 1 ∨ a.1 = 2
  · rw [if_pos c, if_pos c]
    have hz : ((if (a.1 == 0) = true then some (a.1 == 0) else if (a.1 == 1) = true then some (a.1 == 1) else some (a.1 == 2)) : Option Bool) = some true := by
      rcases c with c | c | c <;> simp [c]
    rw [hz]
    simp only [Option.bind_eq_bind, Option.bind_some, if_true]
    exact pair (rx := fun σ1 => f63 (some x) a.2.1 a.2.2.1 σ1) (f24_eq h hA _ _ ha.name) hx (fun σ1 h1 => f63_eq h1 hB _ _ ha.name)
  rw [if_neg c, if_neg c]
  simp only [not_or] at c
  have hz : ((if (a.1 == 0) = true then some (a.1 == 0) else if (a.1 == 1) = true then some (a.1 == 1) else some (a.1 == 2)) : Option Bool) = some false := by
    simp [c]
  rw [hz]
  simp only [Option.bind_eq_bind, Option.bind_some]
  rw [if_neg Bool.false_ne_true]
  by_cases c3 : a.1 = 3
  · rw [if_pos (by simpa using c3), if_pos c3, if_pos c3]
    exact pair (rx := fun σ1 => f64 (some x) a.2.1 σ1) (f33_eq h hA _) hx (fun σ1 h1 => f64_eq h1 hB _ ha.name)
  rw [if_neg (by simpa using c3), if_neg c3, if_neg c3]
  by_cases c4 : a.1 = 4
  · rw [if_pos (by simpa using c4), if_pos c4, if_pos c4]
    exact pair (rx := fun σ1 => f65 (some x) a.2.1 a.2.2.2.2.1 σ1) (f35_eq h hA _ _) hx (fun σ1 h1 => f65_eq h1 hB _ _ ha.name)
  rw [if_neg (by simpa using c4), if_neg c4, if_neg c4]
  by_cases c5 : a.1 = 5
  · rw [if_pos (by simpa using c5), if_pos c5, if_pos c5]
    exact pair (rx := fun σ1 => f66 (some x) a.2.1 a.2.2.2.1 σ1) (f36_eq h hA _ _ ha.name ha.to) hx (fun σ1 h1 => f66_eq h1 hB _ _ ha.name ha.to)
  rw [if_neg (by simpa using c5), if_neg c5, if_neg c5]
  by_cases c6 : a.1 = 6
  · rw [if_pos (by simpa using c6), if_pos c6, if_pos c6]
    exact pair (rx := fun σ1 => f67 (some x) a.2.1 σ1) (f37_eq h hA _) hx (fun σ1 h1 => f67_eq h1 hB _)
  rw [if_neg (by simpa using c6), if_neg c6, if_neg c6]
  by_cases c7 : a.1 = 7
  · rw [if_pos (by simpa using c7), if_pos c7, if_pos c7]
    exact pair (rx := fun σ1 => f68 (some x) a.2.2.2.2.1 σ1) (f32_eq h _) hx (fun σ1 h1 => f68_eq h1 _)
  rw [if_neg (by simpa using c7), if_neg c7, if_neg c7]
  rw [f69_eq hx hB]
  simp only [Option.bind_some]
  obtain ⟨σ1, e1, e2, e3⟩ := f27_eq (σ := σ.set47 x (crashA B a.2.2.2.2.2.1)) (h.same rfl rfl) hA a.2.2.2.2.2.1
  refine ⟨σ1, by rw [e1]; rfl, e2, ?_⟩
  rw [e3.t47]; exact set47_get hx

theorem doA_room (A : AD) (a : AT) : (doA A a).2.1 = A.1 := by
  have hw : ∀ (B : AD) (k : AD → AD), (∀ C : AD, (k C).1 = C.1) → (writeA B k).2.1 = B.1 := by
    intro B k hk
    unfold writeA
    split
    · exact (goesA_L B).2
    · exact (hk _).trans (goesA_L B).2
  have hs : ∀ (s : List UInt8) (k : FR → Int × AD), (∀ f, (k f).2.1 = A.1) → (someA A s k).2.1 = A.1 := by
    intro s k hk
    unfold someA
    split
    · rfl
    split
    · rfl
    · exact hk _
  unfold doA
  split
  · unfold appendA
    split
    · rfl
    split
    · rfl
    split
    · rfl
    · exact hw _ _ (fun _ => rfl)
  split
  · exact hs _ _ (fun f => hw _ _ (fun _ => rfl))
  split
  · refine hs _ _ (fun f => ?_)
    split
    · rfl
    · exact hw _ _ (fun _ => rfl)
  split
  · unfold renameA
    split
    · rfl
    split
    · rfl
    split
    · rfl
    refine hs _ _ (fun f => ?_)
    split
    · rfl
    · exact hw _ _ (fun _ => rfl)
  split
  · exact hs _ _ (fun f => hw _ _ (fun _ => rfl))
  split
  · unfold armA
    split
    · rfl
    split <;> rfl
  · rfl

/-! ### What must come at any rate -/
/-- What other disks keep. -/
structure Keeps (σ σ' : St) : Prop where
  t47 : σ'.t47 = σ.t47
  t105 : ∀ i, i < σ.t105.length → σ'.t105[i]? = σ.t105[i]?
  t108 : ∀ j, j < σ.t108.length → σ'.t108[j]? = σ.t108[j]?
  l108 : σ.t108.length ≤ σ'.t108.length

theorem Keeps.of {σ1 σ' : St} {y : denFs fs105} (h1 : σ1 = σ.add105 y) (hf : Fr σ1 σ' σ.t105.length σ.t108.length) : Keeps σ σ' := by
  subst h1
  refine ⟨hf.t47, fun i hi => ?_, fun j hj => hf.t108 j hj, hf.l108⟩
  rw [hf.t105 i (by omega) (by simp [St.add105]; omega)]
  simp only [St.add105]
  rw [List.getElem?_append_left hi]

theorem DV.keep {σ' : St} (h : DV σ d n0 A) (hk : Keeps σ σ') : DV σ' d n0 A := by
  obtain ⟨o, qs, a1, a2, a3, a4, a5, a6, a7, a8, a9⟩ := h
  refine ⟨o, qs, ?_, a2, a3, a4, a5, a6, a7, fun q hq => ?_, Nat.le_trans a9 hk.l108⟩
  · rw [hk.t105 d (List.getElem?_eq_some_iff.1 a1).1]; exact a1
  · obtain ⟨b1, b2⟩ := a8 q hq
    exact ⟨by rw [hk.t108 _ (List.getElem?_eq_some_iff.1 b1).1]; exact b1, b2⟩

abbrev aw0 : AD := (100, [], 0, false, ())
abbrev aw1 : AD := (100, [([97], [], [97, 98, 99], ())], 0, false, ())
abbrev aw2 : AD := (100, [([97], [97, 98, 99], [], ())], 0, false, ())
abbrev aw3 : AD := (100, [([97], [97, 98, 99], [100, 101, 102, 103], ())], 0, false, ())
abbrev aw4 : AD := (100, [([97], [97, 98, 99, 100, 101], [], ())], 0, false, ())

theorem aw_1 : appendA aw0 [97] [97, 98, 99] = (0, aw1) := by rfl
theorem aw_2 : syncA aw1 [97] = (0, aw2) := by rfl
theorem aw_3 : appendA aw2 [97] [100, 101, 102, 103] = (0, aw3) := by rfl
theorem aw_4 : crashA aw3 [7] = aw4 := by rfl
theorem okSingle {f : FR} {r : Int} (h1 : fsize f ≤ 65536) (h2 : (fsize f : Int) ≤ r) (h3 : r ≤ 1048576) {n : Int} (h4 : 0 ≤ n) (h5 : n < 9223372036854775808) {b : Bool} : OkA (r, [f], n, b, ()) := by
  refine ⟨List.pairwise_singleton _ _, (by decide : 1 ≤ 128), ?_, ?_, h3, h4, h5⟩
  · intro g hg
    have : g = f := by simpa using hg
    subst this; exact h1
  · show ((fsize f + 0 : Nat) : Int) ≤ r
    omega

theorem f19_eq (σ : St) : ∃ σ', f19 σ = some (true, σ') ∧ Keeps σ σ' := by
  obtain ⟨e0, h0, k0⟩ := f18_eq (σ := σ) (room := 100) (by decide) (by decide)
  have n1 : ([97] : List UInt8).length < 9223372036854775808 := by decide
  obtain ⟨σ1, e1, h1, g1⟩ := f24_eq h0 k0 [97] [97, 98, 99] n1
  rw [aw_1] at e1 h1
  have k1 : OkA aw1 := okSingle (by decide) (by decide) (by decide) (by decide) (by decide)
  obtain ⟨σ2, e2, h2, g2⟩ := f33_eq h1 k1 [97]
  rw [aw_2] at e2 h2
  have k2 : OkA aw2 := okSingle (by decide) (by decide) (by decide) (by decide) (by decide)
  obtain ⟨σ3, e3, h3, g3⟩ := f24_eq h2 k2 [97] [100, 101, 102, 103] n1
  rw [aw_3] at e3 h3
  have k3 : OkA aw3 := okSingle (by decide) (by decide) (by decide) (by decide) (by decide)
  obtain ⟨σ4, e4, h4, g4⟩ := f27_eq h3 k3 [7]
  rw [aw_4] at e4 h4
  have k4 : OkA aw4 := okSingle (by decide) (by decide) (by decide) (by decide) (by decide)
  obtain ⟨o, qs, q⟩ := h4
  have e5 : f28 (some σ.t105.length) [97] σ4 = some ([97, 98, 99, 100, 101], 0) := f28_eq q k4 [97]
  have e6 : f30 (some σ.t105.length) [97] σ4 = some 5 := f30_eq q k4 [97]
  have e7 : f20 (some σ.t105.length) σ4 = some 5 := f20_eq q k4
  have e8 : f21 (some σ.t105.length) σ4 = some [[97]] := f21_eq q k4
  refine ⟨σ4, ?_, Keeps.of rfl (((g1.trans g2).trans g3).trans g4)⟩
  unfold f19
  rw [e0]
  simp only [Option.bind_eq_bind, Option.bind_some]
  rw [if_neg (by simp), e1]
  simp only [Option.bind_some]
  rw [if_neg (by simp), e2]
  simp only [Option.bind_some]
  rw [if_neg (by simp), e3]
  simp only [Option.bind_some]
  rw [if_neg (by simp), e4]
  simp only [Option.bind_some]
  rw [if_neg (by simp), e5]
  simp only [Option.bind_some]
  rw [if_pos (by simp), e6]
  simp only [Option.bind_some]
  rw [if_pos (by simp), e7]
  simp only [Option.bind_some]
  rw [if_pos (by simp), e8]
  simp

/-! ### Both behind some calls -/
theorem f22_eq {room : Int} (h1 : 0 ≤ room) (h2 : room ≤ 1048576) : f22 room σ = some ((some σ.t47.length, 0), σ.add47 (room, [], 0, false, ())) := by
  unfold f22
  have c1 : ¬ room < 0 := by omega
  have c2 : ¬ room > 1048576 := by omega
  simp [c1, c2]

/-- Both at once. -/
structure Both (σ : St) (d n0 x : Nat) (A : AD) : Prop where
  dv : DV σ d n0 A
  rv : σ.t47[x]? = some A
  ok : OkA A

theorem f25_loop {l : List AT} (hl : ∀ a ∈ l, OkT a) {r3 r5 : ((Option Nat) × Int) × St} (h3 : r3.1.1 = some d) (h5 : r5.1.1 = some x) : ∀ (k n : Nat) (σ : St) (A : AD), n + k = 200 → Both σ d n0 x A →
    ∃ i σ' A', f25_l0 l r3 r5 (n : Int) σ = some (.inl (i, σ')) ∧ Both σ' d n0 x A' ∧ A'.1 = A.1
  | 0, n, σ, A, h, hb => by
    rw [f25_l0]
    have : n = 200 := by omega
    subst this
    exact ⟨((200 : Nat) : Int), σ, A, by simp, hb, rfl⟩
  | k + 1, n, σ, A, h, hb => by
    rw [f25_l0]
    have c2 : ((n : Int) < 200) := by omega
    have hw : IntKind.wrap .i64 ((n : Int) + 1) = ((n + 1 : Nat) : Int) := by rw [wrap_id (by omega) (by omega)]; omega
    by_cases hn : n < l.length
    · have h1 : ((n : Int) < (l.length : Int)) := by omega
      have ha := hl l[n] (List.getElem_mem hn)
      obtain ⟨σ1, e1, e2, e3⟩ := f23_eq hb.dv hb.ok hb.rv hb.ok ha
      obtain ⟨i, σ', A', i1, i2, i3⟩ := f25_loop hl h3 h5 k (n + 1) σ1 (doA A l[n]).2 (by omega) ⟨e2, e3, hb.ok.do ha⟩
      refine ⟨i, σ', A', ?_, i2, i3.trans (doA_room A l[n])⟩
      simp only [h3, h5, h1, c2, decide_true, Option.isNone_some, Bool.not_false, Bool.and_self, if_true, ix_at hn, Option.bind_eq_bind, Option.bind_some, e1, hw, beq_self_eq_true, Bool.not_true]
      rw [if_neg Bool.false_ne_true, i1]
    · have h1 : ¬ ((n : Int) < (l.length : Int)) := by omega
      refine ⟨n, σ, A, ?_, hb, rfl⟩
      simp [h1]

theorem f25_eq {l : List AT} (hl : ∀ a ∈ l, OkT a) {room : Int} (h1 : 0 ≤ room) (h2 : room ≤ 1048576) : ∃ d n0 x A σ', f25 room l σ = some ((some d, some x, true), σ') ∧ Both σ' d n0 x A ∧ A.1 = room := by
  obtain ⟨e0, h0, k0⟩ := f18_eq (σ := σ) (room := room) h1 h2
  have e1 := f22_eq (σ := σ.add105 (room, [], 0, false, ())) h1 h2
  obtain ⟨i, σ', A', i1, i2, i3⟩ := f25_loop (d := σ.t105.length) (n0 := σ.t108.length) (x := (σ.add105 (room, [], 0, false, ())).t47.length) hl (r3 := ((some σ.t105.length, 0), σ.add105 (room, [], 0, false, ()))) (r5 := ((some (σ.add105 (room, [], 0, false, ())).t47.length, 0), (σ.add105 (room, [], 0, false, ())).add47 (room, [], 0, false, ()))) rfl rfl 200 0 ((σ.add105 (room, [], 0, false, ())).add47 (room, [], 0, false, ())) (room, [], 0, false, ()) (by omega) ⟨h0.same rfl rfl, got47, k0⟩
  refine ⟨_, _, _, A', σ', ?_, i2, i3⟩
  unfold f25
  rw [e0]
  simp only [Option.bind_eq_bind, Option.bind_some]
  rw [e1]
  simp only [Option.bind_some]
  rw [if_neg (by simp)]
  have i1' : f25_l0 l ((some σ.t105.length, 0), σ.add105 (room, [], 0, false, ())) ((some (σ.add105 (room, [], 0, false, ())).t47.length, 0), (σ.add105 (room, [], 0, false, ())).add47 (room, [], 0, false, ())) 0 ((σ.add105 (room, [], 0, false, ())).add47 (room, [], 0, false, ())) = some (.inl (i, σ')) := i1
  rw [i1']
  rfl

theorem f25_none {l : List AT} {room : Int} (h : room < 0 ∨ 1048576 < room) : f25 room l σ = some ((none, none, true), σ) := by
  have e0 : f18 room σ = some ((none, 2), σ) := by
    unfold f18
    rcases h with h | h <;> simp [h]
  have e1 : f22 room σ = some ((none, 2), σ) := by
    unfold f22
    rcases h with h | h <;> simp [h]
  unfold f25
  rw [e0]
  simp only [Option.bind_eq_bind, Option.bind_some]
  rw [e1]
  simp only [Option.bind_some]
  rw [if_neg (by simp)]
  rw [f25_l0]
  simp

/-! ### Do both say the same? -/
theorem f51_loop (l : List (List UInt8)) (hl : l.length < 9223372036854775808) : ∀ (k n : Nat), n + k = l.length → ∃ z, f51_l0 l l (n : Int) = some (.inl z)
  | 0, n, h => by
    rw [f51_l0]
    have : n = l.length := by omega
    subst this
    exact ⟨_, by simp; rfl⟩
  | k + 1, n, h => by
    rw [f51_l0]
    have hn : n < l.length := by omega
    have hw : IntKind.wrap .i64 ((n : Int) + 1) = ((n + 1 : Nat) : Int) := by rw [wrap_id (by omega) (by omega)]; omega
    have h1 : ((n : Int) < (l.length : Int)) := by omega
    obtain ⟨z, ih⟩ := f51_loop l hl k (n + 1) (by omega)
    refine ⟨z, ?_⟩
    simp only [h1, decide_true, if_true, ix_at hn, Option.bind_eq_bind, Option.bind_some, hw, ih, beq_self_eq_true, Bool.not_true]
    rw [if_neg Bool.false_ne_true]

theorem f51_eq (l : List (List UInt8)) (hl : l.length < 9223372036854775808) : f51 l l = some true := by
  obtain ⟨z, h0⟩ := f51_loop l hl l.length 0 (by omega)
  rw [show (((0 : Nat) : Int)) = (0 : Int) from rfl] at h0
  unfold f51
  rw [if_neg (by simp), h0]
  rfl

theorem f26_loop (hb : Both σ d n0 x A) : ∀ (k n : Nat), n + k = A.2.1.length → ∃ z, f26_l0 (some d) (some x) σ (n : Int) = some (.inl z)
  | 0, n, h => by
    rw [f26_l0]
    have : n = A.2.1.length := by omega
    subst this
    exact ⟨_, by simp [hb.rv]; rfl⟩
  | k + 1, n, h => by
    rw [f26_l0]
    have hn : n < A.2.1.length := by omega
    have hl := hb.ok.files
    have hw : IntKind.wrap .i64 ((n : Int) + 1) = ((n + 1 : Nat) : Int) := by rw [wrap_id (by omega) (by omega)]; omega
    have h1 : ((n : Int) < (A.2.1.length : Int)) := by omega
    obtain ⟨z, ih⟩ := f26_loop hb k (n + 1) (by omega)
    obtain ⟨o, qs, q⟩ := hb.dv
    have e1 := f28_eq q hb.ok A.2.1[n].1
    have e2 := f76_eq hb.rv hb.ok A.2.1[n].1
    have e3 := f30_eq q hb.ok A.2.1[n].1
    have e4 : safeA A A.2.1[n].1 = (A.2.1[n].2.1.length : Int) := by
      unfold safeA
      rw [findL_of hb.ok.sorted (List.getElem_mem hn) rfl]
    refine ⟨z, ?_⟩
    simp only [hb.rv, h1, decide_true, if_true, ix_at hn, Option.bind_eq_bind, Option.bind_some, hw, e1, e2, e3, e4, beq_self_eq_true, Bool.not_true, bne_self_eq_false, ih, Bool.false_eq_true, if_false]

theorem f26_eq (hb : Both σ d n0 x A) (s : List UInt8) : f26 (some d) (some x) s σ = some true := by
  have hl := hb.ok.files
  obtain ⟨z, h0⟩ := f26_loop hb A.2.1.length 0 (by omega)
  rw [show (((0 : Nat) : Int)) = (0 : Int) from rfl] at h0
  obtain ⟨o, qs, q⟩ := hb.dv
  have e1 := f21_eq q hb.ok
  have e2 := f74_eq hb.rv hb.ok
  have e3 := f51_eq (A.2.1.map (·.1)) (by simp; omega)
  have e4 := f20_eq q hb.ok
  have e5 := f75_eq hb.rv hb.ok
  have e6 := f31_eq q
  have e7 := f28_eq q hb.ok s
  have e8 := f76_eq hb.rv hb.ok s
  unfold f26
  simp only [e1, e2, e3, e4, e5, e6, Option.bind_eq_bind, Option.bind_some, hb.rv, Bool.not_true, bne_self_eq_false, beq_self_eq_true, h0, e7, e8, Bool.and_self]
  rw [if_neg Bool.false_ne_true, if_neg Bool.false_ne_true, if_neg Bool.false_ne_true]
  simp only [if_true]
  rcases f34_cases hb.rv hb.ok s with ⟨h1, h2⟩ | ⟨f, k, h1, h2, h3⟩
  · have e9 : f30 (some d) s σ = some 0 := by
      rw [f30_eq q hb.ok s]; unfold safeA; rw [h1]
    rw [h2]
    simp only [Option.bind_some]
    rw [if_neg (by decide), e9]
    rfl
  · rw [h2]
    simp only [Option.bind_some]
    rw [if_pos (by simp)]
end

/-- DiskDoes. -/
theorem f4_true {room : Int} {l : List AT} {s : List UInt8} (hl : ∀ a ∈ l, OkT a) (σ : St) : ∃ σ', f4 room l s σ = some (true, σ') := by
  unfold f4
  by_cases h : room < 0 ∨ 1048576 < room
  · rw [f25_none h]
    obtain ⟨σ1, e1, _⟩ := f19_eq σ
    obtain ⟨σ2, e2, _⟩ := f19_eq σ1
    exact ⟨σ2, by simp [e1, e2]⟩
  · obtain ⟨d, n0, x, A, σ1, e1, hb, _⟩ := f25_eq (σ := σ) hl (room := room) (by omega) (by omega)
    obtain ⟨σ2, e2, hk⟩ := f19_eq σ1
    have hb2 : Both σ2 d n0 x A := ⟨hb.dv.keep hk, by rw [hk.t47]; exact hb.rv, hb.ok⟩
    exact ⟨σ2, by simp [e1, e2, f26_eq hb2 s]⟩
end Go.Proofs.Ytlfemhkabjafeaa.M
