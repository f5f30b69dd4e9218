/- Own texts, laid together: PY7 PY8 PQ0 PQ1 PQ2 PQ3 PQ4 PQ5 PQ6 PQ7 PQ8 PQ9 PQA PQB PR0. -/
import Derived.Test.YtbnmhjobnepajaaGreatZ1
import Derived.Test.YtbnmhjobnepajaaGreatZ2
import Derived.Test.YtbnmhjobnepajaaGreatZ3
import Derived.Test.YtbnmhjobnepajaaGreatZ4
import Derived.Test.YtbnmhjobnepajaaGreatZ5
set_option linter.unusedVariables false
set_option linter.unusedSimpArgs false
namespace Go.Proofs.YtbnmhjobnepajaaGreat.M

noncomputable def Sub (R : List (List UInt8)) (g : Sg) : Prop := ∃ a c, R = a ++ g.2 ++ c ∧ a.length = g.1

theorem Sub.get {R : List (List UInt8)} {g : Sg} (h : Sub R g) {i : Nat} (h1 : g.1 ≤ i) (h2 : i < sgN g) : R[i]? = g.2[i - g.1]? := by
  obtain ⟨a, c, rfl, e⟩ := h
  unfold sgN at h2
  rw [List.append_assoc, List.getElem?_append_right (by omega), e, List.getElem?_append_left (by omega)]

theorem Sub.app {R : List (List UInt8)} {g : Sg} (h : Sub R g) (x : List UInt8) : Sub (R ++ [x]) g := by
  obtain ⟨a, c, rfl, e⟩ := h
  exact ⟨a, c ++ [x], by simp, e⟩

theorem Sub.more {R : List (List UInt8)} {segs segs' : List Sg} {x : List UInt8} (h : More segs x segs') (hR : ∀ g ∈ segs, Sub R g) (hn : aN segs = R.length) : ∀ g ∈ segs', Sub (R ++ [x]) g := by
  cases h with
  | fresh h =>
    intro g hg
    rcases List.mem_append.1 hg with hg | hg
    · exact (hR g hg).app x
    · simp only [List.mem_cons, List.not_mem_nil, or_false] at hg
      subst hg
      exact ⟨R, [], by simp, hn.symm⟩
  | @same pre g0 x =>
    intro g hg
    rcases List.mem_append.1 hg with hg | hg
    · exact (hR g (List.mem_append.2 (.inl hg))).app x
    · simp only [List.mem_cons, List.not_mem_nil, or_false] at hg
      subst hg
      have h0 := hR g0 (by simp)
      rw [jf] at hn
      obtain ⟨a, c, e1, e2⟩ := h0
      have hc : c = [] := by
        have := congrArg List.length e1
        unfold sgN at hn
        simp only [List.length_append] at this
        exact List.eq_nil_of_length_eq_zero (by omega)
      subst hc
      exact ⟨a, [], by rw [e1]; simp, e2⟩

theorem Chn.adj : ∀ {segs : List Sg} {e : Option Nat}, Chn e segs → ∀ (k : Nat) (h : k + 1 < segs.length), (segs[k + 1]'h).1 = sgN (segs[k]'(by omega))
  | [], _, _, k, h => by simp at h
  | g :: [], _, _, k, h => by simp at h
  | g :: b :: r, e, hc, 0, h => by
    obtain ⟨h1, h2, h3⟩ := hc
    exact h3.1 _ rfl
  | g :: b :: r, e, hc, k + 1, h => by
    obtain ⟨h1, h2, h3⟩ := hc
    have := Chn.adj h3 k (by simpa using h)
    simpa using this

section
variable {σ : St} {l d n0 : Nat} {most : Int} {js : List Nat} {segs : List Sg} {safe s : Nat} {A : AD} {R : List (List UInt8)}

theorem ZB (h : LG σ l d most js segs safe) (hg : Good segs) (hlen : segs.length ≤ 1000) {i : Nat} (h0 : DC segs ≤ i) (hne : segs ≠ []) : ∀ (k : Nat) (hk : k < segs.length), (∀ m (hm : m < segs.length), k < m → i < (segs[m]'hm).1) →
    ∃ z, ∃ hz : z < segs.length, zN (some l) (i : Int) σ (k : Int) = some ((z : Nat) : Int) ∧ (segs[z]'hz).1 ≤ i ∧ ∀ m (hm : m < segs.length), z < m → i < (segs[m]'hm).1 := by
  have hlo := h.lo
  have hjl := cu.len h.lie
  intro k
  induction k with
  | zero =>
    intro hk hm
    have hL := cu.nth h.lie 0 (by omega) hk
    have hf : (segs[0]'hk).1 ≤ i := by
      cases segs with
      | nil => exact absurd rfl hne
      | cons a r => exact h0
    refine ⟨0, hk, ?_, hf, hm⟩
    rw [zN]
    have hx : ix (js.map some) ((0 : Nat) : Int) = some (some (js[0]'(by omega))) := by
      rw [lX (by simp; omega)]; simp
    simp only [hlo, Option.bind_eq_bind, Option.bind_some]
    rw [hx]
    simp only [Option.bind_some, hL]
    rw [if_neg (by simp; omega)]
  | succ k ih =>
    intro hk hm
    have hL := cu.nth h.lie (k + 1) (by omega) hk
    rw [zN]
    have hx : ix (js.map some) (((k + 1 : Nat) : Nat) : Int) = some (some (js[k + 1]'(by omega))) := by
      rw [lX (by simp; omega)]; simp
    simp only [hlo, Option.bind_eq_bind, Option.bind_some]
    rw [hx]
    simp only [Option.bind_some, hL]
    by_cases c : (segs[k + 1]'hk).1 ≤ i
    · rw [if_neg (by simp; omega)]
      exact ⟨k + 1, hk, rfl, c, hm⟩
    · rw [if_pos (by simp; omega)]
      have hw : IntKind.wrap .i64 (((k + 1 : Nat) : Int) - 1) = (k : Int) := by rw [aQ (by omega) (by omega)]; omega
      rw [hw]
      refine ih (by omega) (fun m hm2 hlt => ?_)
      by_cases e : m = k + 1
      · subst e; omega
      · exact hm m hm2 (by omega)

theorem ac8 (h : LG σ l d most js segs safe) (hg : Good segs) (hlen : segs.length ≤ 1000) (hR : ∀ g ∈ segs, Sub R g) {i : Nat} (h1 : DC segs ≤ i) (h2 : i < aN segs) : ∃ y, R[i]? = some y ∧ f58 (some l) (i : Int) σ = some (y, 0) := by
  have hne : segs ≠ [] := by rintro rfl; simp [aN] at h2
  have hpos : 0 < segs.length := List.length_pos_iff.2 hne
  have hjl := cu.len h.lie
  have hlo := h.lo
  obtain ⟨z, hz, e1, e2, e3⟩ := ZB h hg hlen h1 hne (segs.length - 1) (by omega) (fun m hm hlt => by omega)
  have hlt : i < sgN (segs[z]'hz) := by
    by_cases c : z + 1 < segs.length
    · rw [← hg.chain.adj z c]
      exact e3 (z + 1) c (by omega)
    · rcases List.eq_nil_or_concat segs with h0 | ⟨pre, g, h0⟩
      · exact absurd h0 hne
      · rw [List.concat_eq_append] at h0
        subst h0
        rw [jf] at h2
        have hz2 : z = pre.length := by simp at hz c; omega
        subst hz2
        simpa using h2
  have hS := hR (segs[z]'hz) (List.getElem_mem hz)
  have hget := hS.get e2 hlt
  have hidx : i - (segs[z]'hz).1 < (segs[z]'hz).2.length := by unfold sgN at hlt; omega
  rw [List.getElem?_eq_getElem hidx] at hget
  refine ⟨_, hget, ?_⟩
  have hL := cu.nth h.lie z (by omega) hz
  have ht := hg.top _ (List.getElem_mem hz)
  have hnx := TL hg
  have hx : ix (js.map some) ((z : Nat) : Int) = some (some (js[z]'(by omega))) := by
    rw [lX (by simp; omega)]; simp
  have hw1 : IntKind.wrap .i64 ((((js.map some).length : Nat) : Int) - 1) = ((segs.length - 1 : Nat) : Int) := by
    rw [List.length_map, hjl, aQ (by omega) (by omega)]; omega
  have hw2 : IntKind.wrap .i64 ((i : Int) - ((segs[z]'hz).1 : Int)) = ((i - (segs[z]'hz).1 : Nat) : Int) := by rw [aQ (by omega) (by omega)]; omega
  unfold f58
  simp only [Option.isNone_some, Bool.false_eq_true, if_false, ZA h, Dz h hg (by omega), hlo, Option.bind_eq_bind, Option.bind_some]
  rw [if_neg (by simp; omega), if_neg (by simp; omega), hw1, e1]
  simp only [Option.bind_some]
  rw [hx]
  simp only [Option.bind_some, hL]
  rw [hw2, lX hidx]
  rfl

noncomputable def FX (f : FR) (keep : List Int) : FR := (f.1, f.2.1 ++ f.2.2.1.take (qU keep f.2.2.1.length), [], ())

theorem Bj : ∀ (L : List FR) (keep : List Int), (∀ f ∈ L, f.2.2.1 = []) → jS L keep = L
  | [], _, _ => rfl
  | f :: r, keep, h => by
    have he := h f List.mem_cons_self
    unfold jS
    have e : ((f.1, f.2.1, [], ()) : FR) = f := by rw [← he]
    have hm : f.2.2.1.isEmpty = true := by rw [he]; rfl
    rw [hm, cond_true, e, Bj r keep (fun x hx => h x (List.mem_cons_of_mem _ hx))]

theorem Lr : ∀ (a : List FR) (f : FR) (b : List FR) (keep : List Int), (∀ x ∈ a, x.2.2.1 = []) → (∀ x ∈ b, x.2.2.1 = []) → jS (a ++ f :: b) keep = a ++ FX f keep :: b
  | [], f, b, keep, ha, hb => by
    rw [List.nil_append, List.nil_append]
    unfold jS
    cases hm : f.2.2.1 with
    | nil =>
      rw [List.isEmpty_nil, cond_true, Bj b keep hb]
      unfold FX
      rw [hm]; simp
    | cons c t =>
      rw [List.isEmpty_cons, cond_false, Bj b keep.tail hb]
      unfold FX
      rw [hm]
  | y :: a, f, b, keep, ha, hb => by
    have he := ha y List.mem_cons_self
    have ih := Lr a f b keep (fun x hx => ha x (List.mem_cons_of_mem _ hx)) hb
    rw [List.cons_append, List.cons_append]
    unfold jS
    have e : ((y.1, y.2.1, [], ()) : FR) = y := by rw [← he]
    have hm : y.2.2.1.isEmpty = true := by rw [he]; rfl
    rw [hm, cond_true, e, ih]

theorem UX {L : List FR} {pre : List Sg} {f : FR} (h : L.Perm (pre.map lgA ++ [f])) (keep : List Int) : (jS L keep).Perm (pre.map lgA ++ [FX f keep]) := by
  have hm : f ∈ L := h.mem_iff.2 (by simp)
  obtain ⟨a, b, rfl⟩ := List.append_of_mem hm
  have hp : (a ++ b).Perm (pre.map lgA) := by
    have h1 : (f :: (a ++ b)).Perm (f :: pre.map lgA) := (List.perm_middle.symm.trans h).trans (List.perm_append_comm (l₂ := [f]))
    exact List.Perm.cons_inv h1
  have hall : ∀ x ∈ a ++ b, x.2.2.1 = [] := by
    intro x hx
    obtain ⟨g, hg, rfl⟩ := List.mem_map.1 (hp.mem_iff.1 hx)
    rfl
  rw [Lr a f b keep (fun x hx => hall x (List.mem_append.2 (.inl hx))) (fun x hx => hall x (List.mem_append.2 (.inr hx)))]
  refine List.perm_middle.trans ?_
  exact (List.Perm.cons _ hp).trans (List.perm_append_comm (l₁ := [FX f keep]))

theorem UU {g : Sg} (hx : ∀ x ∈ g.2, OkR x) (hs : s ≤ g.2.length) (keep : List Int) : ∃ m t, m ≤ g.2.length - s ∧ (gI (g.1 + s) (g.2.drop s)).take (qU keep (gI (g.1 + s) (g.2.drop s)).length) = gI (g.1 + s) ((g.2.drop s).take m) ++ t ∧ FX (lgF g s) keep = ve (g.1, g.2.take (s + m)) t ∧ Gx (sgN (g.1, g.2.take (s + m))) t := by
  obtain ⟨m, t, h1, h2, h3⟩ := PU (g.1 + s) (g.2.drop s) (qU keep (gI (g.1 + s) (g.2.drop s)).length) (fun x hxx => hx x (List.mem_of_mem_drop hxx))
  rw [List.length_drop] at h1
  refine ⟨m, t, h1, h2, ?_, ?_⟩
  · unfold FX lgF ve
    simp only []
    rw [h2]
    have e : sgB (g.1, g.2.take (s + m)) = gI g.1 (g.2.take s) ++ gI (g.1 + s) ((g.2.drop s).take m) := by
      unfold sgB
      simp only []
      rw [List.take_add, Be]
      have : (g.2.take s).length = s := by rw [List.length_take]; omega
      rw [this]
    rw [e, List.append_assoc]
  · have : sgN (g.1, g.2.take (s + m)) = g.1 + s + m := by
      unfold sgN
      simp only [List.length_take]; omega
    rw [this]; exact h3

theorem Good.cut {pre : List Sg} {g : Sg} (h : Good (pre ++ [g])) (m : Nat) : Good (pre ++ [(g.1, g.2.take m)]) := by
  refine ⟨h.chain.last rfl, ?_, ?_⟩
  · intro a ha
    rcases List.mem_append.1 ha with ha | ha
    · exact h.recs a (List.mem_append.2 (.inl ha))
    · simp only [List.mem_cons, List.not_mem_nil, or_false] at ha
      subst ha
      exact fun x hx => h.recs g (by simp) x (List.mem_of_mem_take hx)
  · intro a ha
    rcases List.mem_append.1 ha with ha | ha
    · exact h.top a (List.mem_append.2 (.inl ha))
    · simp only [List.mem_cons, List.not_mem_nil, or_false] at ha
      subst ha
      have := h.top g (by simp)
      unfold sgN at *
      simp only [List.length_take]; omega

structure CSW (σ : St) (d n0 : Nat) (A : AD) (segs : List Sg) (s : Nat) : Prop where
  dv : DV σ d n0 A
  ok : OkA A
  dl : DLs A.2.1 segs s
  good : Good segs
  len : segs.length ≤ 900

theorem UW (h : CSW σ d n0 A segs s) (keep : List Int) (h1 : 64 ≤ most) (h2 : most ≤ 65536) :
    ∃ σ1 σ2 B js' segs', f27 (some d) keep σ = some (0, σ1) ∧ f53 (some d) nmL most σ1 = some ((some σ1.aj.length, 0), σ2) ∧ Fw σ σ2 d n0 ∧ ExW σ σ2 σ1.aj.length ∧ σ1.aj.length = σ.aj.length ∧ B.1 = A.1 ∧ oW B = 0 ∧ lI B = false ∧
      WS σ2 σ1.aj.length d n0 most B js' segs' (aN segs') (kK segs') ∧ DV σ1 d n0 (Dn A keep) ∧
      ((segs = [] ∧ segs' = []) ∨ ∃ pre g m, segs = pre ++ [g] ∧ segs' = pre ++ [(g.1, g.2.take (s + m))] ∧ m ≤ g.2.length - s ∧ s ≤ g.2.length ∧
        ∃ t, (gI (g.1 + s) (g.2.drop s)).take (qU keep (gI (g.1 + s) (g.2.drop s)).length) = gI (g.1 + s) ((g.2.drop s).take m) ++ t) := by
  obtain ⟨σ1, g1, g2, g3⟩ := ac1 h.dv h.ok keep
  have hok := h.ok.Y3 keep
  have e128 : σ1.aj = σ.aj := congrArg (fun x => x.2.1) g3.oth
  rcases List.eq_nil_or_concat segs with h0 | ⟨pre, g, h0⟩
  · have hdl := h.dl
    rw [h0] at hdl
    have hL : (Dn A keep).2.1 = [] := by
      show jS A.2.1 keep = []
      rw [(hdl.inv0).1]; rfl
    obtain ⟨σ2, e1, e2, e2x, e3, e4⟩ := PD g2 hok rfl hL h1 h2
    refine ⟨σ1, σ2, Dn A keep, [], [], g1, e1, g3.fw.trans e2, g3.ex.trans e2x, by rw [e128], rfl, rfl, rfl, ⟨e4, e3, hok, by rw [hL]; exact .none rfl, ⟨trivial, by simp, by simp⟩, by simp, rfl⟩, g2, .inl ⟨h0, rfl⟩⟩
  · rw [List.concat_eq_append] at h0
    have hdl := h.dl
    have hgood := h.good
    have hlen := h.len
    rw [h0] at hdl hgood hlen
    obtain ⟨hp, hs⟩ := hdl.inv
    obtain ⟨m, t, m1, m2, m3, m4⟩ := UU (g := g) (s := s) (hgood.recs g (by simp)) hs keep
    have hcp := UX hp keep
    rw [m3] at hcp
    have hgc := hgood.cut (s + m)
    obtain ⟨σ2, B, js', e1, e2, e2x, e3, e4, e5, e6, e7, e8, e9⟩ := Yb (most := most) g2 hok rfl rfl hgc (by simp at hlen ⊢; omega) m4 hcp h1 h2
    refine ⟨σ1, σ2, B, js', _, g1, e1, g3.fw.trans e2, g3.ex.trans e2x, by rw [e128], e3, e4, e5, ⟨e8, e6, e7, e9, hgc, by simp at hlen ⊢; omega, (BP _).symm⟩, g2, .inr ⟨pre, g, m, h0, rfl, m1, hs, t, m2⟩⟩
end
end Go.Proofs.YtbnmhjobnepajaaGreat.M


namespace Go.Proofs.YtbnmhjobnepajaaGreat.M

section
variable {σ : St} {l d n0 : Nat} {most : Int} {js : List Nat} {segs : List Sg} {safe s : Nat} {A : AD} {R : List (List UInt8)}

theorem More.sz {segs' : List Sg} {x : List UInt8} (h : More segs x segs') : szS segs' = szS segs + (24 + x.length) := by
  cases h with
  | fresh h => simp [szS, szR]
  | same => simp [szS, szR]; omega

theorem More.first {segs' : List Sg} {x : List UInt8} (h : More segs x segs') : DC segs' = DC segs := by
  cases h with
  | @fresh segs x h =>
    cases segs with
    | nil => rfl
    | cons a r => rfl
  | @same pre g x =>
    cases pre with
    | nil => rfl
    | cons a r => rfl

theorem WS.new (hD : DV σ d n0 A) (hA : OkA A) (hL : A.2.1 = []) (hG : LG σ l d most [] [] 0) : WS σ l d n0 most A [] [] 0 0 :=
  ⟨hG, hD, hA, by rw [hL]; exact .none rfl, ⟨trivial, by simp, by simp⟩, by simp, rfl⟩

end
end Go.Proofs.YtbnmhjobnepajaaGreat.M


namespace Go.Proofs.YtbnmhjobnepajaaGreat.M

abbrev QuT : Type := Int × Option Nat × List jG × List VdT × Unit
noncomputable def Eh (σ : St) (q : Nat) (x : QuT) : St := σ.bM (σ.ah.set q x)
theorem TS {σ : St} {q : Nat} {y x : QuT} (h : σ.ah[q]? = some y) : (Eh σ q x).ah[q]? = some x := by
  have := (List.getElem?_eq_some_iff.1 h).1
  unfold Eh St.bM
  simp [this]
noncomputable def vw (v w : Nat) (l : List VdT) : Bool := sD (fun i (x : VdT) => decide (x.1 = ((v + 1 + i : Nat) : Int))) 0 l && (decide (0 < l.length) && decide (l.length ≤ w))

section
variable {σ : St} {q : Nat} {a : Int} {lo : Option Nat} {W : List jG} {V : List VdT}
theorem RG (h : σ.ah[q]? = some (a, lo, W, V, ())) (hv : V.length ≤ 1000000) : cZ (some q) σ = some ((V.length + 1 : Nat) : Int) := by
  unfold cZ
  rw [if_neg (by simp), Option.bind_some, h]
  simp only [Option.bind_some]
  rw [dD (by omega)]
theorem VP (h : σ.ah[q]? = some (a, lo, W, V, ())) (hv : V.length ≤ 1000000) (hw : W.length ≤ 1000000) : dL (some q) σ = some ((V.length + W.length + 1 : Nat) : Int) := by
  unfold dL
  simp only [Option.isNone_some, Bool.false_eq_true, if_false, Option.bind_some, h]
  have e : IntKind.wrap .i64 ((V.length : Int) + (W.length : Int)) = ((V.length + W.length : Nat) : Int) := by rw [aQ (by omega) (by omega)]; omega
  rw [e, dD (by omega)]
theorem WA (h : σ.ah[q]? = some (a, lo, W, V, ())) (hv : V.length ≤ 1000000) (hw : W.length ≤ 1000000) {l : List VdT} (hl : l.length ≤ 2000000) : jw (some q) l σ = some (vw V.length W.length l) := by
  unfold jw vw
  rw [IL (l := l) (fun i (x : VdT) => decide (x.1 = ((V.length + 1 + i : Nat) : Int))) (e := false) (fun i hi => ?_) (by unfold nz; simp)]
  · cases hx : sD (fun i (x : VdT) => decide (x.1 = ((V.length + 1 + i : Nat) : Int))) 0 l with
    | false => rfl
    | true =>
      simp only [if_true, Option.bind_some, kC, Bool.true_and]
      by_cases h0 : 0 < l.length
      · have h0' : ((l.length : Int) > 0) := by omega
        simp only [h0', h0, decide_true, if_true, Option.bind_some, h, Bool.true_and]
        congr 1
        exact decide_eq_decide.2 (by omega)
      · have h0' : ¬ ((l.length : Int) > 0) := by omega
        simp only [h0', h0, decide_false, Bool.false_eq_true, if_false, Option.bind_some, Bool.false_and]
  · unfold nz
    have e : IntKind.wrap .i64 (((V.length + 1 : Nat) : Int) + (i : Int)) = ((V.length + 1 + i : Nat) : Int) := by rw [aQ (by omega) (by omega)]; omega
    simp only [dD (i := i) (by omega), lX hi, Option.bind_some, RG h hv, e]
    rw [if_pos (by simp; omega)]
    by_cases hc : l[i].1 = ((V.length + 1 + i : Nat) : Int)
    · rw [if_neg (by simpa using hc), if_pos (by simpa using hc)]
    · rw [if_pos (by simpa using hc), if_neg (by simpa using hc)]
theorem Xd (h : σ.ah[q]? = some (a, lo, W, V, ())) (hv : V.length ≤ 1000000) (hw : W.length ≤ 1000000) {l : List VdT} (hl : l.length ≤ W.length) : jy (some q) l σ = some ((), Eh σ q (a, lo, W.drop l.length, V ++ l, ())) := by
  have hq := (List.getElem?_eq_some_iff.1 h).1
  unfold jy
  simp only [Option.bind_some, h]
  rw [if_pos (by omega)]
  simp only [and_self, if_true, Option.bind_some, List.getElem?_set_self hq]
  rw [if_pos (by omega), if_pos (by simp; omega)]
  rw [show ((l.length : Int)).toNat = l.length by omega]
  unfold Eh St.bM
  simp
end
end Go.Proofs.YtbnmhjobnepajaaGreat.M


namespace Go.Proofs.YtbnmhjobnepajaaGreat.M

noncomputable def recC (c : jG) : List UInt8 := 99 :: xm c
noncomputable def yf (l : List VdT) : List UInt8 := 118 :: sQ l
inductive zn (a : Int) : List (List UInt8) → List jG → List VdT → Prop where
  | nil : zn a [] [] []
  | cmd {R : List (List UInt8)} {C : List jG} {V : List VdT} {c : jG} : zn a R C V → lH c = true → c.1 = a → c.2.1 = ((C.length + 1 : Nat) : Int) → zn a (R ++ [recC c]) (C ++ [c]) V
  | vds {R : List (List UInt8)} {C : List jG} {V l : List VdT} : zn a R C V → lJ l = true → vw V.length (C.length - V.length) l = true → zn a (R ++ [yf l]) C (V ++ l)

theorem EI {v w : Nat} {l : List VdT} (h : vw v w l = true) : 0 < l.length ∧ l.length ≤ w := by
  unfold vw at h
  simp only [Bool.and_eq_true, decide_eq_true_eq] at h
  exact h.2
theorem zn.len {a : Int} {R : List (List UInt8)} {C : List jG} {V : List VdT} (h : zn a R C V) : C.length ≤ R.length ∧ V.length ≤ C.length := by
  induction h with
  | nil => simp
  | cmd _ _ _ _ ih => simp only [List.length_append, List.length_cons, List.length_nil]; omega
  | vds _ _ hf ih => have := EI hf; simp only [List.length_append, List.length_cons, List.length_nil]; omega
theorem zn.each {a : Int} {R : List (List UInt8)} {C : List jG} {V : List VdT} (h : zn a R C V) : ∀ c ∈ C, lH c = true ∧ c.1 = a := by
  induction h with
  | nil => simp
  | cmd _ h1 h2 _ ih =>
    intro c hc
    rcases List.mem_append.1 hc with hc | hc
    · exact ih c hc
    · simp only [List.mem_singleton] at hc; subst hc; exact ⟨h1, h2⟩
  | vds _ _ _ ih => exact ih
section
variable {σ : St} {q : Nat} {a : Int} {lo : Option Nat} {W : List jG} {V : List VdT}
theorem YY (h : σ.ah[q]? = some (a, lo, W, V, ())) (hv : V.length ≤ 1000000) (hw : W.length ≤ 1000000) {c : jG} (hc : lH c = true) (h1 : c.1 = a) (h2 : c.2.1 = ((V.length + W.length + 1 : Nat) : Int)) :
    mW (some q) (xm c) σ = some (true, Eh (rdr σ (xm c, ((xm c).length : Int), 0, ())) q (a, lo, W ++ [c], V, ())) := by
  unfold mW
  rw [Yz hc]
  have h' : (rdr σ (xm c, ((xm c).length : Int), 0, ())).ah[q]? = some (a, lo, W, V, ()) := h
  simp only [Option.bind_some, h', VP h' hv hw, Bool.not_true, Bool.not_false, if_true]
  rw [if_pos (by simp [h1]), if_neg (by simp [h2]), if_pos (by omega)]
  simp only [and_self, if_true]
  rfl
theorem aa3 (h : σ.ah[q]? = some (a, lo, W, V, ())) (hv : V.length ≤ 1000000) (hw : W.length ≤ 1000000) {l : List VdT} (hc : lJ l = true) (hf : vw V.length W.length l = true) :
    jl (some q) (sQ l) σ = some (true, Eh (rdr σ (sQ l, ((sQ l).length : Int), 0, ())) q (a, lo, W.drop l.length, V ++ l, ())) := by
  unfold jl
  rw [YA hc]
  have h' : (rdr σ (sQ l, ((sQ l).length : Int), 0, ())).ah[q]? = some (a, lo, W, V, ()) := h
  obtain ⟨f1, f2⟩ := EI hf
  simp only [Option.bind_some, Bool.not_true, Bool.not_false, if_true, WA h' hv hw (l := l) (by omega), hf, Bool.or_self, Bool.false_eq_true, if_false, Xd h' hv hw f2]
theorem aca {ci : Nat} (hci : σ.bz[ci]? = some (some q, ())) (h : σ.ah[q]? = some (a, lo, W, V, ())) (hv : V.length ≤ 1000000) (hw : W.length ≤ 1000000) {c : jG} (hc : lH c = true) (h1 : c.1 = a) (h2 : c.2.1 = ((V.length + W.length + 1 : Nat) : Int)) :
    jb (recC c) ci σ = some (true, Eh (rdr σ (xm c, ((xm c).length : Int), 0, ())) q (a, lo, W ++ [c], V, ())) := by
  have hb : btS (recC c) 0 = 99 := by
    rw [show (0 : Int) = ((0 : Nat) : Int) from rfl, Bi (by simp [recC])]; rfl
  unfold jb
  rw [if_neg (by simp [recC]), if_pos (by first | (simp [recC]; done) | (simp [recC]; omega)), hb, if_pos (by decide), hci]
  simp only [Option.bind_some]
  rw [if_pos (by first | (simp [recC]; done) | (simp [recC]; omega)), show (recC c).drop 1 = xm c from rfl, YY h hv hw hc h1 h2]
  rfl
theorem acb {ci : Nat} (hci : σ.bz[ci]? = some (some q, ())) (h : σ.ah[q]? = some (a, lo, W, V, ())) (hv : V.length ≤ 1000000) (hw : W.length ≤ 1000000) {l : List VdT} (hc : lJ l = true) (hf : vw V.length W.length l = true) :
    jb (yf l) ci σ = some (true, Eh (rdr σ (sQ l, ((sQ l).length : Int), 0, ())) q (a, lo, W.drop l.length, V ++ l, ())) := by
  have hb : btS (yf l) 0 = 118 := by
    rw [show (0 : Int) = ((0 : Nat) : Int) from rfl, Bi (by simp [yf])]; rfl
  unfold jb
  rw [if_neg (by simp [yf]), if_pos (by first | (simp [yf]; done) | (simp [yf]; omega)), hb, if_neg (by decide), if_pos (by first | (simp [yf]; done) | (simp [yf]; omega)), if_pos (by decide), hci]
  simp only [Option.bind_some]
  rw [if_pos (by first | (simp [yf]; done) | (simp [yf]; omega)), show (yf l).drop 1 = sQ l from rfl, aa3 h hv hw hc hf]
  rfl
noncomputable def St.base (σ : St) : St := (σ.bn []).bM []
structure Rp (σ σ' : St) (q : Nat) (x : QuT) : Prop where
  q : σ'.ah = σ.ah.set q x
  o : σ'.base = σ.base
theorem Rp.refl {x : QuT} (h : σ.ah[q]? = some x) : Rp σ σ q x := ⟨by
  refine List.ext_getElem? fun n => ?_
  rw [List.getElem?_set]
  split
  · rename_i hn
    subst hn
    rw [if_pos (List.getElem?_eq_some_iff.1 h).1, h]
  · rfl, rfl⟩
theorem Rp.step {σ' : St} {x : QuT} (h : Rp σ σ' q x) (z : aA jT) (y : QuT) : Rp σ (Eh (rdr σ' z) q y) q y := by
  refine ⟨?_, h.o⟩
  show (σ'.ah).set q y = _
  rw [h.q]; simp
theorem Rp.get {σ' : St} {x y : QuT} (h : Rp σ σ' q x) (hq : σ.ah[q]? = some y) : σ'.ah[q]? = some x := by
  rw [h.q, List.getElem?_set_self (List.getElem?_eq_some_iff.1 hq).1]

theorem LG.same2 {l d : Nat} {most : Int} {js : List Nat} {segs : List Sg} {safe : Nat} (h : LG σ l d most js segs safe) {σ' : St} (h1 : σ'.aj = σ.aj) (h2 : σ'.ae = σ.ae) : LG σ' l d most js segs safe := by
  refine ⟨by rw [h1]; exact h.lo, h.nd, h.lie.Vk (fun j _ g hg => ?_)⟩
  show σ'.ae[j]? = _
  rw [h2]
  exact hg
variable {l d : Nat} {most : Int} {js : List Nat} {segs : List Sg} {safe : Nat}
theorem replay {x0 : ((Option Nat) × Int) × St} {n : Nat} {Rall : List (List UInt8)} (hl : x0.1.1 = some l) (hci : σ.bz[x0.2.bz.length]? = some (some q, ())) (hq : σ.ah[q]? = some (a, lo, [], [], ())) (hG : LG σ l d most js segs safe) (hg : Good segs) (hlen : segs.length ≤ 1000) (hS : ∀ g ∈ segs, Sub Rall g) (hf : DC segs = 0) (hn : aN segs = Rall.length) (hN : n = Rall.length) (hR : Rall.length ≤ 100000) :
    ∀ {R : List (List UInt8)} {C : List jG} {V : List VdT}, zn a R C V → ∀ S, Rall = R ++ S → ∃ σ', aY (fV x0 (n : Int)) (0, σ) = aY (fV x0 (n : Int)) ((R.length : Int), σ') ∧ Rp σ σ' q (a, lo, C.drop V.length, V, ()) := by
  have step : ∀ {R : List (List UInt8)} {x : List UInt8} {S : List (List UInt8)} {σ1 σ2 : St} {y : QuT}, Rall = (R ++ [x]) ++ S → Rp σ σ1 q y → jb x x0.2.bz.length σ1 = some (true, σ2) → aY (fV x0 (n : Int)) ((R.length : Int), σ1) = aY (fV x0 (n : Int)) (((R ++ [x]).length : Int), σ2) := by
    intro R x S σ1 σ2 y hr hp h
    have h1 : Rall[R.length]? = some x := by rw [hr, List.append_assoc, List.getElem?_append_right (Nat.le_refl _)]; simp
    have hlt : R.length < Rall.length := (List.getElem?_eq_some_iff.1 h1).1
    have hG1 : LG σ1 l d most js segs safe := hG.same2 (show σ1.base.aj = σ.base.aj by rw [hp.o]) (show σ1.base.ae = σ.base.ae by rw [hp.o])
    obtain ⟨z, z1, z2⟩ := ac8 hG1 hg hlen hS (i := R.length) (by omega) (by omega)
    rw [h1] at z1
    simp only [Option.some.injEq] at z1; subst z1
    rw [kZ (y := (((R ++ [x]).length : Int), σ2))]
    unfold fV
    simp only [Zp, hl, z2, Option.bind_some, h, dD (i := R.length) (by omega)]
    rw [if_pos (by simp; omega), if_neg (by simp)]
    simp
  intro R C V hP
  induction hP with
  | nil => exact fun S _ => ⟨σ, rfl, Rp.refl hq⟩
  | @cmd R C V c hP h1 h2 h3 ih =>
    intro S hr
    obtain ⟨σ1, e1, e2⟩ := ih ([recC c] ++ S) (by rw [hr]; simp)
    have hb := congrArg List.length hr
    simp only [List.length_append, List.length_cons, List.length_nil] at hb
    obtain ⟨b1, b2⟩ := hP.len
    have hw : (C.drop V.length).length = C.length - V.length := by simp
    have := aca (σ := σ1) (W := C.drop V.length) (V := V) (ci := x0.2.bz.length) (show σ1.base.bz[x0.2.bz.length]? = _ by rw [e2.o]; exact hci) (e2.get hq) (by omega) (by omega) h1 h2 (by rw [h3]; omega)
    refine ⟨_, e1.trans (step hr e2 this), ?_⟩
    have h4 := e2.step (xm c, ((xm c).length : Int), 0, ()) (a, lo, C.drop V.length ++ [c], V, ())
    rw [List.drop_append_of_le_length b2]
    exact h4
  | @vds R C V m hP h1 h2 ih =>
    intro S hr
    obtain ⟨σ1, e1, e2⟩ := ih ([yf m] ++ S) (by rw [hr]; simp)
    have hb := congrArg List.length hr
    simp only [List.length_append, List.length_cons, List.length_nil] at hb
    obtain ⟨b1, b2⟩ := hP.len
    have hw : (C.drop V.length).length = C.length - V.length := by simp
    have := acb (σ := σ1) (W := C.drop V.length) (V := V) (ci := x0.2.bz.length) (show σ1.base.bz[x0.2.bz.length]? = _ by rw [e2.o]; exact hci) (e2.get hq) (by omega) (by omega) h1 (by rw [hw]; exact h2)
    refine ⟨_, e1.trans (step hr e2 this), ?_⟩
    have h4 := e2.step (sQ m, ((sQ m).length : Int), 0, ()) (a, lo, (C.drop V.length).drop m.length, V ++ m, ())
    rw [List.length_append, ← List.drop_drop]
    exact h4
end
end Go.Proofs.YtbnmhjobnepajaaGreat.M


namespace Go.Proofs.YtbnmhjobnepajaaGreat.M

theorem ZG {p : Option Nat} {p1 : St → Option (Unit × St)} {σ σ' : St} {r : Int} (h : f72 p p1 σ = some (r, σ')) (hp : ∀ σ1 u σ2, p1 σ1 = some (u, σ2) → vk σ2 = vk σ1) : vk σ' = vk σ := by
  unfold f72 at h
  simp only [Option.bind_eq_bind, Option.bind_eq_some_iff] at h
  obtain ⟨i4, -, o5, -, h⟩ := h
  split at h
  · simp only [Option.bind_eq_some_iff] at h
    obtain ⟨i7, -, o8, -, i9, -, o10, -, i12, -, o13, -, h⟩ := h
    split at h
    · simp only [Option.bind_eq_some_iff, Option.some.injEq, Prod.mk.injEq] at h
      obtain ⟨i15, -, o16, -, -, rfl⟩ := h
      rfl
    · simp only [Option.bind_eq_some_iff, Option.some.injEq, Prod.mk.injEq] at h
      obtain ⟨⟨u, σ2⟩, h1, -, rfl⟩ := h
      exact (hp _ _ _ h1).trans rfl
  · simp only [Option.bind_eq_some_iff, Option.some.injEq, Prod.mk.injEq] at h
    obtain ⟨⟨u, σ2⟩, h1, -, rfl⟩ := h
    exact hp _ _ _ h1
theorem ade {σ1 : St} {u : Unit} {σ2 : St} (h : f73 σ1 = some (u, σ2)) : vk σ2 = vk σ1 := by
  unfold f73 at h
  simp only [Option.some.injEq, Prod.mk.injEq] at h
  rw [← h.2]
theorem Td {p0 : Option Nat} {z : (Option Nat) × St} {p2 : List UInt8} {σ σ' : St} {r : Int} (hz : vk z.2 = vk σ) (h : (z.1 >>= fun i42 => (z.2.ai[i42]?) >>= fun o43 => if o43.1.length + p2.length ≤ 9223372036854775807 then z.1 >>= fun i45 => (z.2.ai[i45]?) >>= fun o46 => f72 p0 f73 (z.2.aH i45 (o43.1 ++ p2, o46.2.1, ())) >>= fun r48 => some (r48.1, r48.2) else none) = some (r, σ')) : vk σ' = vk σ := by
  simp only [Option.bind_eq_bind, Option.bind_eq_some_iff] at h
  obtain ⟨i, -, o, -, h⟩ := h
  split at h
  · simp only [Option.bind_eq_some_iff, Option.some.injEq, Prod.mk.injEq] at h
    obtain ⟨j, -, o2, -, ⟨r1, σ1⟩, h1, -, rfl⟩ := h
    exact (ZG h1 fun _ _ _ => ade).trans hz
  · simp at h
theorem U6 {p0 : Option Nat} {p1 p2 : List UInt8} {σ σ' : St} {r : Int} (h : f24 p0 p1 p2 σ = some (r, σ')) : vk σ' = vk σ := by
  unfold f24 at h
  obtain ⟨r4, -, h⟩ := Option.bind_eq_some_iff.1 h
  split at h
  · simp only [Option.some.injEq, Prod.mk.injEq] at h; rw [← h.2]
  obtain ⟨r9, -, h⟩ := Option.bind_eq_some_iff.1 h
  split at h
  · simp only [Option.some.injEq, Prod.mk.injEq] at h; rw [← h.2]
  obtain ⟨i, -, h⟩ := Option.bind_eq_some_iff.1 h
  obtain ⟨o, -, h⟩ := Option.bind_eq_some_iff.1 h
  obtain ⟨z, -, h⟩ := Option.bind_eq_some_iff.1 h
  split at h
  · obtain ⟨i, -, h⟩ := Option.bind_eq_some_iff.1 h
    obtain ⟨o, -, h⟩ := Option.bind_eq_some_iff.1 h
    split at h
    · simp only [Option.some.injEq, Prod.mk.injEq] at h; rw [← h.2]
    split at h
    · simp only [Option.some.injEq, Prod.mk.injEq] at h; rw [← h.2]
    obtain ⟨i, -, h⟩ := Option.bind_eq_some_iff.1 h
    obtain ⟨o, -, h⟩ := Option.bind_eq_some_iff.1 h
    obtain ⟨o, -, h⟩ := Option.bind_eq_some_iff.1 h
    split at h
    · simp only [Option.some.injEq, Prod.mk.injEq] at h; rw [← h.2]
    obtain ⟨z, hz, h⟩ := Option.bind_eq_some_iff.1 h
    refine Td ?_ h
    obtain ⟨i, -, hz⟩ := Option.bind_eq_some_iff.1 hz
    obtain ⟨o, -, hz⟩ := Option.bind_eq_some_iff.1 hz
    simp only [Option.some.injEq] at hz; rw [← hz]; rfl
  · split at h
    · simp only [Option.some.injEq, Prod.mk.injEq] at h; rw [← h.2]
    obtain ⟨i, -, h⟩ := Option.bind_eq_some_iff.1 h
    obtain ⟨o, -, h⟩ := Option.bind_eq_some_iff.1 h
    obtain ⟨o, -, h⟩ := Option.bind_eq_some_iff.1 h
    split at h
    · simp only [Option.some.injEq, Prod.mk.injEq] at h; rw [← h.2]
    obtain ⟨z, hz, h⟩ := Option.bind_eq_some_iff.1 h
    refine Td ?_ h
    simp only [Option.some.injEq] at hz; rw [← hz]

structure Wx (σ σ' : St) (l : Nat) (js : List Nat) : Prop where
  lg : ∀ i, i ≠ l → σ'.aj[i]? = σ.aj[i]?
  ll : σ'.aj.length = σ.aj.length
  sg : ∀ j, j ∉ js → j < σ.ae.length → σ'.ae[j]? = σ.ae[j]?
  sl : σ.ae.length ≤ σ'.ae.length
noncomputable def uD (σ : St) (l : Nat) (js : List Nat) : Prop := ∃ o : aA dh, σ.aj[l]? = some o ∧ o.2.2.2.1 = js.map some
theorem Wx.refl (σ : St) (l : Nat) (js : List Nat) : Wx σ σ l js := ⟨fun _ _ => rfl, rfl, fun _ _ _ => rfl, Nat.le_refl _⟩
theorem Wx.of3 {σ σ' : St} {l : Nat} {js : List Nat} (h : vk σ' = vk σ) : Wx σ σ' l js := by
  have h1 : σ'.aj = σ.aj := congrArg (fun x => x.2.1) h
  have h2 : σ'.ae = σ.ae := congrArg (fun x => x.2.2) h
  exact ⟨fun _ _ => by rw [h1], by rw [h1], fun _ _ _ => by rw [h2], by rw [h2]; exact Nat.le_refl _⟩
theorem adf {c : Nat} {σ1 : St} {u : Unit} {σ2 : St} (h : f78 c σ1 = some (u, σ2)) : vk σ2 = vk σ1 := by
  unfold f78 at h
  simp only [Option.bind_eq_bind, Option.bind_eq_some_iff, Option.some.injEq, Prod.mk.injEq] at h
  obtain ⟨o1, -, i2, -, o3, -, i4, -, o5, -, -, rfl⟩ := h
  rfl
theorem ac5 {p0 : Option Nat} {p1 : List UInt8} {σ σ' : St} {r : Int} (h : f33 p0 p1 σ = some (r, σ')) : vk σ' = vk σ := by
  unfold f33 at h
  obtain ⟨r3, -, h⟩ := Option.bind_eq_some_iff.1 h
  split at h
  · simp only [Option.some.injEq, Prod.mk.injEq] at h; rw [← h.2]; rfl
  obtain ⟨⟨r8, σ8⟩, h8, h⟩ := Option.bind_eq_some_iff.1 h
  simp only [Option.some.injEq, Prod.mk.injEq] at h
  rw [← h.2]
  exact (ZG h8 fun _ _ _ => adf).trans rfl
theorem Ui {σ : St} {l : Nat} {js : List Nat} {o : aA dh} {n : Int} (ho : σ.aj[l]? = some o) (hj : uD σ l js) : Wx σ (σ.bg l (o.1, o.2.1, o.2.2.1, o.2.2.2.1, n, ())) l js ∧ uD (σ.bg l (o.1, o.2.1, o.2.2.1, o.2.2.2.1, n, ())) l js := by
  refine ⟨⟨fun i hi => ?_, ?_, fun _ _ _ => rfl, Nat.le_refl _⟩, ?_⟩
  · show (σ.aj.set l _)[i]? = _
    rw [List.getElem?_set_ne (Ne.symm hi)]
  · show (σ.aj.set l _).length = _
    rw [List.length_set]
  · obtain ⟨o', h1, h2⟩ := hj
    rw [ho] at h1; simp only [Option.some.injEq] at h1; subst h1
    exact ⟨_, qO ho, h2⟩
theorem Wx.trans {σ σ' σ'' : St} {l : Nat} {js : List Nat} (h1 : Wx σ σ' l js) (h2 : Wx σ' σ'' l js) : Wx σ σ'' l js :=
  ⟨fun i hi => (h2.lg i hi).trans (h1.lg i hi), h2.ll.trans h1.ll, fun j hj hl => (h2.sg j hj (Nat.lt_of_lt_of_le hl h1.sl)).trans (h1.sg j hj hl), Nat.le_trans h1.sl h2.sl⟩
theorem uD.of3 {σ σ' : St} {l : Nat} {js : List Nat} (h : uD σ l js) (e : vk σ' = vk σ) : uD σ' l js := by
  have h1 : σ'.aj = σ.aj := congrArg (fun x => x.2.1) e
  obtain ⟨o, a, b⟩ := h
  exact ⟨o, by rw [h1]; exact a, b⟩
theorem U9 {l : Nat} {js : List Nat} {σ σ' : St} {r : Int} (hj : uD σ l js) (h : f61 (some l) σ = some (r, σ')) : Wx σ σ' l js ∧ uD σ' l js ∧ σ'.ae = σ.ae := by
  unfold f61 at h
  rw [if_neg (by simp)] at h
  obtain ⟨r7, -, h⟩ := Option.bind_eq_some_iff.1 h
  split at h
  · simp only [Option.bind_eq_bind, Option.bind_some] at h
    obtain ⟨o11, ho, h⟩ := Option.bind_eq_some_iff.1 h
    obtain ⟨r12, -, h⟩ := Option.bind_eq_some_iff.1 h
    obtain ⟨⟨r13, σ1⟩, h13, h⟩ := Option.bind_eq_some_iff.1 h
    have e3 := ac5 h13
    have es : σ1.ae = σ.ae := congrArg (fun x => x.2.2) e3
    split at h
    · simp only [Option.some.injEq, Prod.mk.injEq] at h; rw [← h.2]; exact ⟨Wx.of3 e3, hj.of3 e3, es⟩
    obtain ⟨r17, -, h⟩ := Option.bind_eq_some_iff.1 h
    obtain ⟨o18, h18, h⟩ := Option.bind_eq_some_iff.1 h
    simp only [Option.some.injEq, Prod.mk.injEq] at h; rw [← h.2]
    obtain ⟨a, b⟩ := Ui (n := r17) h18 (hj.of3 e3)
    exact ⟨(Wx.of3 e3).trans a, b, es⟩
  · obtain ⟨r17, -, h⟩ := Option.bind_eq_some_iff.1 h
    simp only [Option.bind_eq_bind, Option.bind_some] at h
    obtain ⟨o18, h18, h⟩ := Option.bind_eq_some_iff.1 h
    simp only [Option.some.injEq, Prod.mk.injEq] at h; rw [← h.2]
    obtain ⟨a, b⟩ := Ui (n := r17) h18 hj
    exact ⟨a, b, rfl⟩

section
variable {σ σ' : St} {l : Nat} {js : List Nat}
theorem Wx.o3 {σ'' : St} (h : Wx σ σ' l js) (e : vk σ'' = vk σ') : Wx σ σ'' l js := h.trans (Wx.of3 e)
theorem Wx.add (h : Wx σ σ' l js) (x : aA dP) : Wx σ (σ'.az x) l js := by
  refine ⟨h.lg, h.ll, fun j hj hl => ?_, ?_⟩
  · show (σ'.ae ++ [x])[j]? = _
    rw [List.getElem?_append_left (Nat.lt_of_lt_of_le hl h.sl)]; exact h.sg j hj hl
  · show _ ≤ (σ'.ae ++ [x]).length
    have := h.sl
    rw [List.length_append]; omega
theorem Wx.seg (h : Wx σ σ' l js) {k : Nat} (hk : k ∈ js ∨ σ.ae.length ≤ k) (x : aA dP) : Wx σ (σ'.ay k x) l js := by
  refine ⟨h.lg, h.ll, fun j hj hl => ?_, ?_⟩
  · show (σ'.ae.set k x)[j]? = _
    rw [List.getElem?_set_ne (fun (e : k = j) => by
      rcases hk with hk | hk
      · exact hj (e ▸ hk)
      · omega)]
    exact h.sg j hj hl
  · show _ ≤ (σ'.ae.set k x).length
    rw [List.length_set]; exact h.sl
theorem Wx.log (h : Wx σ σ' l js) (x : aA dh) : Wx σ (σ'.bg l x) l js := by
  refine ⟨fun i hi => ?_, ?_, h.sg, h.sl⟩
  · show (σ'.aj.set l x)[i]? = _
    rw [List.getElem?_set_ne (Ne.symm hi)]; exact h.lg i hi
  · show (σ'.aj.set l x).length = _
    rw [List.length_set]; exact h.ll
noncomputable def CX (σ σ' : St) (l : Nat) (js : List Nat) : Prop := Wx σ σ' l js ∧ ∃ js', uD σ' l js' ∧ ∀ j ∈ js', j ∈ js ∨ σ.ae.length ≤ j
theorem CX.same (h : Wx σ σ' l js) (hj : uD σ' l js) : CX σ σ' l js := ⟨h, js, hj, fun _ h => .inl h⟩
theorem CX.more {k : Nat} {o : aA dh} (h : Wx σ σ' l js) (hj : uD σ' l js) (ho : σ'.aj[l]? = some o) (hk : σ.ae.length ≤ k) : CX σ (σ'.bg l (o.1, o.2.1, o.2.2.1, o.2.2.2.1 ++ [some k], o.2.2.2.2.1, ())) l js := by
  refine ⟨h.log _, js ++ [k], ⟨_, qO ho, ?_⟩, fun j hj' => ?_⟩
  · obtain ⟨o', h1, h2⟩ := hj
    rw [ho] at h1; simp only [Option.some.injEq] at h1; subst h1
    show o.2.2.2.1 ++ [some k] = _
    rw [h2, List.map_append]; rfl
  · rcases List.mem_append.1 hj' with h | h
    · exact .inl h
    · simp only [List.mem_singleton] at h; subst h; exact .inr hk

theorem ada {x : List UInt8} {r : Int × Int} (hj : uD σ l js) (h : f59 (some l) x σ = some (r, σ')) : CX σ σ' l js := by
  unfold f59 at h
  rw [if_neg (by simp)] at h
  split at h
  · simp only [Option.some.injEq, Prod.mk.injEq] at h; rw [← h.2]; exact .same (Wx.refl _ _ _) hj
  obtain ⟨r8, -, h⟩ := Option.bind_eq_some_iff.1 h
  obtain ⟨r10, h10, h⟩ := Option.bind_eq_some_iff.1 h
  split at h
  · obtain ⟨⟨r17, σ1⟩, h17, h⟩ := Option.bind_eq_some_iff.1 h
    obtain ⟨w1, j1, es⟩ := U9 hj h17
    split at h
    · simp only [Option.some.injEq, Prod.mk.injEq] at h; rw [← h.2]; exact .same w1 j1
    obtain ⟨r21, -, h⟩ := Option.bind_eq_some_iff.1 h
    simp only [Option.bind_eq_bind, Option.bind_some] at h
    obtain ⟨o25, -, h⟩ := Option.bind_eq_some_iff.1 h
    obtain ⟨r26, -, h⟩ := Option.bind_eq_some_iff.1 h
    obtain ⟨⟨r27, σ2⟩, h27, h⟩ := Option.bind_eq_some_iff.1 h
    have e3 := U6 h27
    have w2 := (w1.add (r8, [], 0, ())).o3 e3
    have j2 : uD σ2 l js := uD.of3 (σ := σ1.az (r8, [], 0, ())) j1 e3
    split at h
    · simp only [Option.some.injEq, Prod.mk.injEq] at h; rw [← h.2]; exact .same w2 j2
    obtain ⟨o31, -, h⟩ := Option.bind_eq_some_iff.1 h
    split at h
    · obtain ⟨o38, h38, h⟩ := Option.bind_eq_some_iff.1 h
      split at h
      · simp only [Option.some.injEq, Prod.mk.injEq] at h; rw [← h.2]
        have hk : σ.ae.length ≤ σ1.ae.length := w1.sl
        exact .more ((w2.seg (.inr hk) _).seg (.inr hk) _) j2 h38 hk
      · simp at h
    · simp at h
  · rename_i hne
    cases r10 with
    | none => simp at hne
    | some k =>
    have hkj : k ∈ js := by
      unfold f97 at h10
      obtain ⟨i, hi, h10⟩ := Option.bind_eq_some_iff.1 h10
      simp only [Option.some.injEq] at hi; subst hi
      obtain ⟨o, ho, h10⟩ := Option.bind_eq_some_iff.1 h10
      obtain ⟨o', p1, p2⟩ := hj
      rw [p1] at ho; simp only [Option.some.injEq] at ho; subst ho
      split at h10
      · simp at h10
      obtain ⟨y, hy, h10⟩ := Option.bind_eq_some_iff.1 h10
      simp only [Option.some.injEq] at h10; subst h10
      unfold ix at hy
      split at hy
      · rename_i hc
        have hm := List.mem_of_getElem? hy
        rw [p2] at hm
        obtain ⟨z, z1, z2⟩ := List.mem_map.1 hm
        simp only [Option.some.injEq] at z2; rw [← z2]; exact z1
      · simp at hy
    simp only [Option.bind_eq_bind, Option.bind_some] at h
    obtain ⟨o45, -, h⟩ := Option.bind_eq_some_iff.1 h
    obtain ⟨o47, -, h⟩ := Option.bind_eq_some_iff.1 h
    split at h
    · rename_i hd
      obtain ⟨⟨r17, σ1⟩, h17, h⟩ := Option.bind_eq_some_iff.1 h
      obtain ⟨w1, j1, es⟩ := U9 hj h17
      split at h
      · simp only [Option.some.injEq, Prod.mk.injEq] at h; rw [← h.2]; exact .same w1 j1
      obtain ⟨r21, -, h⟩ := Option.bind_eq_some_iff.1 h
      obtain ⟨o25, -, h⟩ := Option.bind_eq_some_iff.1 h
      obtain ⟨r26, -, h⟩ := Option.bind_eq_some_iff.1 h
      obtain ⟨⟨r27, σ2⟩, h27, h⟩ := Option.bind_eq_some_iff.1 h
      have e3 := U6 h27
      have w2 := (w1.add (r8, [], 0, ())).o3 e3
      have j2 : uD σ2 l js := uD.of3 (σ := σ1.az (r8, [], 0, ())) j1 e3
      split at h
      · simp only [Option.some.injEq, Prod.mk.injEq] at h; rw [← h.2]; exact .same w2 j2
      obtain ⟨o31, -, h⟩ := Option.bind_eq_some_iff.1 h
      split at h
      · obtain ⟨σ3, h3, h⟩ := Option.bind_eq_some_iff.1 h
        simp only [Option.some.injEq, Prod.mk.injEq] at h; rw [← h.2]
        have hk : σ.ae.length ≤ σ1.ae.length := w1.sl
        obtain ⟨o38, h38, h3⟩ := Option.bind_eq_some_iff.1 h3
        split at h3
        · simp only [Option.some.injEq] at h3; rw [← h3]
          exact .more ((w2.seg (.inr hk) _).seg (.inr hk) _) j2 h38 hk
        · simp at h3
      · simp at h
    · obtain ⟨r21, -, h⟩ := Option.bind_eq_some_iff.1 h
      obtain ⟨r26, -, h⟩ := Option.bind_eq_some_iff.1 h
      obtain ⟨⟨r27, σ2⟩, h27, h⟩ := Option.bind_eq_some_iff.1 h
      have e3 := U6 h27
      have w2 : Wx σ σ2 l js := Wx.of3 e3
      have j2 : uD σ2 l js := hj.of3 e3
      split at h
      · simp only [Option.some.injEq, Prod.mk.injEq] at h; rw [← h.2]; exact .same w2 j2
      obtain ⟨o31, -, h⟩ := Option.bind_eq_some_iff.1 h
      split at h
      · obtain ⟨σ3, h3, h⟩ := Option.bind_eq_some_iff.1 h
        simp only [Option.some.injEq, Prod.mk.injEq] at h; rw [← h.2]
        simp only [Option.some.injEq] at h3; rw [← h3]
        exact .same ((w2.seg (.inl hkj) _).seg (.inl hkj) _) j2
      · simp at h
end
end Go.Proofs.YtbnmhjobnepajaaGreat.M


namespace Go.Proofs.YtbnmhjobnepajaaGreat.M

structure WR (σ : St) (l d n0 : Nat) (A : AD) (js : List Nat) (segs : List Sg) (R : List (List UInt8)) : Prop where
  ws : WS σ l d n0 2048 A js segs (aN segs) (kK segs)
  f0 : DC segs = 0
  sub : ∀ g ∈ segs, Sub R g
  nx : aN segs = R.length
  dn : lI A = false

structure Xr (σ : St) (q l d n0 : Nat) (A : AD) (js : List Nat) (segs : List Sg) (R : List (List UInt8)) (x : List UInt8) (e : Int) (σ' : St) (B : AD) (segs' : List Sg) : Prop where
  run : fZ (some q) x σ = some (e, σ')
  fw : Fw σ σ' d n0
  js : CX σ σ' l js
  room : B.1 = A.1
  arm : oW A = 0 → oW B = 0
  out : (e = 0 ∧ More segs x segs' ∧ ∃ js', WR σ' l d n0 B js' segs' (R ++ [x])) ∨
        (e = 10 ∧ segs' = segs ∧ Over A segs x ∧ ∃ js', WR σ' l d n0 B js' segs R) ∨
        (e = 11 ∧ oW A ≠ 0 ∧ (segs' = segs ∨ More segs x segs') ∧ ∃ s', CSW σ' d n0 B segs' s' ∧ aN segs ≤ Jm segs' s')

section
variable {σ : St} {q l d n0 : Nat} {a : Int} {A : AD} {js : List Nat} {segs : List Sg} {R : List (List UInt8)} {W : List jG} {V : List VdT}
theorem LG.uD {most : Int} {safe : Nat} (h : LG σ l d most js segs safe) : uD σ l js := ⟨_, h.lo, rfl⟩
theorem CX.comp {σ1 σ2 : St} {js1 : List Nat} (h1 : Wx σ σ1 l js) (hj : uD σ1 l js1) (hk : ∀ j ∈ js1, j ∈ js ∨ σ.ae.length ≤ j) (h2 : Wx σ1 σ2 l js1) (hj2 : uD σ2 l js1) : CX σ σ2 l js := by
  refine ⟨⟨fun i hi => (h2.lg i hi).trans (h1.lg i hi), h2.ll.trans h1.ll, fun j hj hl => ?_, Nat.le_trans h1.sl h2.sl⟩, js1, hj2, hk⟩
  rw [h2.sg j (fun h => by rcases hk j h with h | h; exact hj h; omega) (Nat.lt_of_lt_of_le hl h1.sl)]
  exact h1.sg j hj hl
theorem Fw.queue {σ' : St} (h : Fw σ σ' d n0) : σ'.ah = σ.ah := congrArg (fun x => x.2.1) h.up
theorem Fw.ref {σ' : St} (h : Fw σ σ' d n0) : σ'.ak = σ.ak := congrArg (fun x => x.1) h.up

theorem Qd (h : WR σ l d n0 A js segs R) (hq : σ.ah[q]? = some (a, some l, W, V, ())) {x : List UInt8} (hx : x.length ≤ 1024) (hR : R.length ≤ 100000) (hlen : segs.length ≤ 800) :
    ∃ e σ' B segs', Xr σ q l d n0 A js segs R x e σ' B segs' := by
  have hn := h.nx
  obtain ⟨v, e, σ1, B, js1, segs1, safe1, s1, r1, r2, r3, r4, r5, r6⟩ := ac9 h.ws h.dn (x := x) hx (by omega) hlen (by omega)
  have hJ := ada h.ws.lg.uD r1
  have hq1 : σ1.ah[q]? = some (a, some l, W, V, ()) := by rw [r2.queue]; exact hq
  have run0 : fZ (some q) x σ = (if (e != 0) = true then some (e, σ1) else Option.bind (f61 (some l) σ1) fun x5 => some (x5.1, x5.2)) := by
    unfold fZ
    simp only [Option.bind_some, hq, adN, r1, hq1, Fq]
  rcases r5 with ⟨rfl, rfl, o1, o2, o3, o4⟩ | ⟨rfl, o1, rfl, o2, o4⟩ | ⟨rfl, o1, o2, o3, o4, o5, o6, o7, o8⟩
  · -- it went in
    rw [if_neg (by decide)] at run0
    have hsub : ∀ g ∈ segs1, Sub (R ++ [x]) g := Sub.more o2 h.sub h.nx
    have hnx : aN segs1 = (R ++ [x]).length := by rw [o2.next, h.nx]; simp
    obtain ⟨σ2, B2, e2, g1, g2, g3, g4, g5, g6, g7, g8⟩ := U8 o4.lg o4.dv o4.ok o4.good (by have := o4.len; omega) o4.dl o1
    obtain ⟨w2, j2, -⟩ := U9 o4.lg.uD g1
    have hJ2 : CX σ σ2 l js := by
      obtain ⟨k1, js', k2, k3⟩ := hJ
      obtain ⟨o', m1, m2⟩ := k2
      have m3 := o4.lg.lo
      rw [m1] at m3; simp only [Option.some.injEq] at m3; subst m3
      have : js' = js1 := by
        have := m2
        exact (List.map_inj_right (fun a b h => by simpa using h)).1 this.symm
      subst this
      exact CX.comp k1 o4.lg.uD k3 w2 j2
    rw [g1] at run0
    rcases g8 with ⟨rfl, d1, l1, m1⟩ | ⟨rfl, d1, a1, l1, m1⟩
    · refine ⟨0, σ2, B2, segs1, run0, r2.trans g2, hJ2, g4.trans r3, fun hh => g5 (r4 hh), .inl ⟨rfl, o2, js1, ⟨l1, g6, g7, m1, o4.good, o4.len, (BP segs1).symm⟩, by rw [o2.first]; exact h.f0, hsub, hnx, d1⟩⟩
    · refine ⟨11, σ2, B2, segs1, run0, r2.trans g2, hJ2, g4.trans r3, fun hh => g5 (r4 hh), .inr (.inr ⟨rfl, fun hh => a1 (r4 hh), .inr o2, s1, ⟨g6, g7, m1, o4.good, o4.len⟩, ?_⟩)⟩
      rw [← o4.sf]; exact r6
  · rw [if_pos (by decide)] at run0
    have hs1 : safe1 = aN segs1 := by
      have := BQ o4
      omega
    refine ⟨10, σ1, B, segs1, run0, r2, hJ, r3, r4, .inr (.inl ⟨rfl, rfl, o2, js1, ?_, h.f0, h.sub, h.nx, o1⟩)⟩
    subst hs1
    rcases List.eq_nil_or_concat segs1 with rfl | ⟨pre, g, rfl⟩
    · obtain ⟨b1, b2, b3, b4, b5, b6, b7⟩ := o4
      obtain ⟨hL, rfl⟩ := b4.inv0
      exact ⟨b1, b2, b3, .none hL, b5, b6, rfl⟩
    · rw [List.concat_eq_append] at *
      have e1 := o4.sf
      have e2 := BP (pre ++ [g])
      rw [oq] at e1 e2
      have e3 : s1 = kK (pre ++ [g]) := by omega
      rw [← e3]; exact o4
  · rw [if_pos (by decide)] at run0
    have hgl : Good segs1 ∧ segs1.length ≤ 900 := by
      rcases o3 with rfl | o3
      · exact ⟨h.ws.good, h.ws.len⟩
      · exact ⟨o3.good h.ws.good hx (by omega), by have := o3.len; omega⟩
    exact ⟨11, σ1, B, segs1, run0, r2, hJ, r3, r4, .inr (.inr ⟨rfl, o2, o3, s1, ⟨o6, o7, o8, hgl.1, hgl.2⟩, by omega⟩)⟩
end
end Go.Proofs.YtbnmhjobnepajaaGreat.M


namespace Go.Proofs.YtbnmhjobnepajaaGreat.M

structure QS (σ : St) (q l d n0 : Nat) (a : Int) (A : AD) (js : List Nat) (segs : List Sg) (R : List (List UInt8)) (C : List jG) (V : List VdT) : Prop where
  wr : WR σ l d n0 A js segs R
  qo : σ.ah[q]? = some (a, some l, C.drop V.length, V, ())
  pl : zn a R C V
  w32 : C.length - V.length ≤ 32

noncomputable def GH : Int → List VdT → Bool
  | _, [] => true
  | p, v :: r => inR v.1 1 1099511627776 && inR v.2.1 0 63 && (decide (p < v.1) && GH v.1 r)
theorem RQ {l : List VdT} : ∀ (k i : Nat), i + k = l.length → sD (N7 l) i (l.drop i) = GH (if 0 < i then (l.getD (i - 1) (0, 0, ())).1 else 0) (l.drop i)
  | 0, i, hi => by rw [List.drop_of_length_le (by omega)]; rfl
  | k + 1, i, hi => by
    have hlt : i < l.length := by omega
    have hd : l.drop i = l[i] :: l.drop (i + 1) := by simp
    rw [hd, sD, GH, RQ k (i + 1) (by omega), if_pos (by omega)]
    have e : l.getD (i + 1 - 1) (0, 0, ()) = l[i] := by
      rw [show i + 1 - 1 = i by omega, List.getD_eq_getElem?_getD, List.getElem?_eq_getElem hlt]; rfl
    rw [e]
    unfold N7
    by_cases h0 : 0 < i
    · rw [if_pos h0, decide_eq_true h0]
      simp only [Bool.true_and, Bool.and_assoc]
      by_cases h1 : l[i].1 ≤ (l.getD (i - 1) (0, 0, ())).1
      · rw [decide_eq_true h1, decide_eq_false (by omega)]; simp
      · rw [decide_eq_false h1, decide_eq_true (by omega)]; simp
    · rw [if_neg h0, decide_eq_false h0]
      simp only [Bool.false_and, Bool.not_false, Bool.and_true, Bool.and_assoc]
      cases h1 : inR l[i].1 1 1099511627776 with
      | false => rfl
      | true => rw [decide_eq_true (by have := (He.1 h1).1; omega)]; simp
theorem Qb (l : List VdT) : lJ l = (GH 0 l && decide (l.length ≤ 32)) := by
  unfold lJ
  have := RQ (l := l) l.length 0 (by omega)
  rw [List.drop_zero] at this
  rw [this]; rfl
theorem Xy {p p' : Int} {l : List VdT} (h : GH p l = true) (hp : p' ≤ p) : GH p' l = true := by
  cases l with
  | nil => rfl
  | cons v r =>
    unfold GH at h ⊢
    simp only [Bool.and_eq_true, decide_eq_true_eq] at h ⊢
    exact ⟨h.1, by omega, h.2.2⟩
theorem IG {p : Int} {v : VdT} {r : List VdT} (h : GH p (v :: r) = true) : p < v.1 ∧ 1 ≤ v.1 ∧ GH v.1 r = true := by
  unfold GH at h
  simp only [Bool.and_eq_true, decide_eq_true_eq, He] at h
  exact ⟨h.2.1, h.1.1.1, h.2.2⟩
noncomputable def iG (n : Nat) (l : List VdT) : List VdT := l.dropWhile fun v => decide (v.1 < ((n + 1 : Nat) : Int))
theorem TZ {n : Nat} : ∀ {l : List VdT} {p : Int}, 0 ≤ p → GH p l = true → GH p (iG n l) = true
  | [], p, _, _ => rfl
  | v :: r, p, hp, h => by
    obtain ⟨h1, h2, h3⟩ := IG h
    unfold iG
    rw [List.dropWhile_cons]
    split
    · exact Xy (TZ (by omega) h3) (by omega)
    · exact h
theorem Jj {n : Nat} : ∀ {l : List VdT}, (iG n l).length ≤ l.length
  | [] => Nat.le_refl _
  | v :: r => by
    unfold iG
    rw [List.dropWhile_cons]
    split
    · have := Jj (n := n) (l := r)
      unfold iG at this
      rw [List.length_cons]; omega
    · exact Nat.le_refl _
theorem EM {n : Nat} {l : List VdT} (h : lJ l = true) : lJ (iG n l) = true := by
  rw [Qb] at h ⊢
  simp only [Bool.and_eq_true, decide_eq_true_eq] at h ⊢
  exact ⟨TZ (Int.le_refl _) h.1, Nat.le_trans Jj h.2⟩
theorem Lj {n : Nat} : ∀ {l : List VdT} {p : Int}, (n : Int) < p → GH p l = true → (l.filter fun v => decide (v.1 > (n : Int))) = l
  | [], _, _, _ => rfl
  | v :: r, p, hp, h => by
    obtain ⟨h1, h2, h3⟩ := IG h
    rw [List.filter_cons_of_pos (by simp; omega), Lj (p := v.1) (by omega) h3]
theorem Il {n : Nat} : ∀ {l : List VdT} {p : Int}, GH p l = true → iG n l = l.filter fun v => decide (v.1 > (n : Int))
  | [], _, _ => rfl
  | v :: r, p, h => by
    obtain ⟨h1, h2, h3⟩ := IG h
    unfold iG
    rw [List.dropWhile_cons]
    by_cases hc : v.1 < ((n + 1 : Nat) : Int)
    · rw [if_pos (by simpa using hc), List.filter_cons_of_neg (by simp; omega)]
      exact Il h3
    · rw [if_neg (by simpa using hc), List.filter_cons_of_pos (by simp; omega), Lj (p := v.1) (by omega) h3]

section
variable {σ : St} {q l d n0 : Nat} {a : Int} {A : AD} {js : List Nat} {segs : List Sg} {R : List (List UInt8)} {C : List jG} {V : List VdT}
theorem QS.next (h : QS σ q l d n0 a A js segs R C V) (hR : R.length ≤ 10000) : dL (some q) σ = some ((C.length + 1 : Nat) : Int) := by
  obtain ⟨b1, b2⟩ := h.pl.len
  rw [VP h.qo (by omega) (by simp; omega)]
  congr 2
  simp only [List.length_drop]; omega
theorem QS.first (h : QS σ q l d n0 a A js segs R C V) (hR : R.length ≤ 10000) : cZ (some q) σ = some ((V.length + 1 : Nat) : Int) := by
  obtain ⟨b1, b2⟩ := h.pl.len
  exact RG h.qo (by omega)

inductive KZ (σ : St) (q l d n0 : Nat) (a : Int) (A : AD) (js : List Nat) (segs : List Sg) (R : List (List UInt8)) (C : List jG) (V : List VdT) (c : jG) : (Int × Int) → St → Prop where
  | bad : lH c = false → KZ σ q l d n0 a A js segs R C V c (0, 2) σ
  | full : lH c = true → 32 ≤ C.length - V.length → KZ σ q l d n0 a A js segs R C V c (0, 10) σ
  | fail {e : Int} {σ1 : St} {B : AD} {segs' : List Sg} : lH c = true → C.length - V.length < 32 → Xr σ q l d n0 A js segs R (recC c) e σ1 B segs' → e ≠ 0 → KZ σ q l d n0 a A js segs R C V c (0, e) σ1
  | ok {σ1 : St} {B : AD} {segs' : List Sg} : lH c = true → C.length - V.length < 32 → Xr σ q l d n0 A js segs R (recC c) 0 σ1 B segs' → KZ σ q l d n0 a A js segs R C V c (((C.length + 1 : Nat) : Int), 0) (Eh σ1 q (a, some l, C.drop V.length ++ [c], V, ()))

theorem UF (h : QS σ q l d n0 a A js segs R C V) (hR : R.length ≤ 10000) (hlen : segs.length ≤ 800) {st : List UInt8} {rule ex : Int} {args : List Int} (hf : KT (a, ((C.length + 1 : Nat) : Int), st, rule, args, ex, ())) :
    ∃ r σ', eH (some q) st rule args ex σ = some (r, σ') ∧ KZ σ q l d n0 a A js segs R C V (a, ((C.length + 1 : Nat) : Int), st, rule, args, ex, ()) r σ' := by
  obtain ⟨b1, b2⟩ := h.pl.len
  unfold eH
  have hn := hf.n
  simp only at hn
  have hqo := h.qo
  rw [if_neg (by simp), h.next hR]
  simp only [Option.bind_some, Nat.zero_add, hqo, List.nil_append]
  rw [if_pos (by omega), Xq hf]
  by_cases hc : lH (a, ((C.length + 1 : Nat) : Int), st, rule, args, ex, ()) = true
  · rw [if_pos hc]
    simp only [Option.bind_some]
    rw [if_neg (by decide)]
    by_cases hw : 32 ≤ C.length - V.length
    · rw [if_pos (by simp; omega)]
      exact ⟨_, _, rfl, .full hc hw⟩
    · rw [if_neg (by simp; omega)]
      have hl := HY hc
      rw [if_pos (by omega)]
      obtain ⟨e, σ1, B, segs', ho⟩ := Qd h.wr hqo (x := recC (a, ((C.length + 1 : Nat) : Int), st, rule, args, ex, ())) (by unfold recC; rw [List.length_cons]; omega) (by omega) hlen
      have hrun := ho.run
      unfold recC at hrun
      rw [hrun]
      simp only [Option.bind_some]
      by_cases he : e = 0
      · subst he
        rw [if_neg (by decide)]
        have hq1 : σ1.ah[q]? = some (a, some l, C.drop V.length, V, ()) := by rw [ho.fw.queue]; exact hqo
        simp only [hq1, Option.bind_some]
        rw [if_pos ⟨trivial, trivial⟩, if_pos (by simp only [List.length_drop]; omega)]
        exact ⟨_, _, rfl, .ok hc (by omega) ho⟩
      · rw [if_pos (by simpa using he)]
        exact ⟨_, _, rfl, .fail hc (by omega) ho he⟩
  · rw [if_neg hc]
    simp only [Option.bind_some]
    rw [if_pos (by decide)]
    exact ⟨_, _, rfl, .bad (by simpa using hc)⟩

inductive Ew (σ : St) (q l d n0 : Nat) (a : Int) (A : AD) (js : List Nat) (segs : List Sg) (R : List (List UInt8)) (C : List jG) (V : List VdT) (m : List VdT) : (Int × Int) → St → Prop where
  | bad : lJ m = false → Ew σ q l d n0 a A js segs R C V m (0, 2) σ
  | none : lJ m = true → iG V.length m = [] → Ew σ q l d n0 a A js segs R C V m (0, 0) σ
  | range : lJ m = true → iG V.length m ≠ [] → vw V.length (C.length - V.length) (iG V.length m) = false → Ew σ q l d n0 a A js segs R C V m (0, 3) σ
  | fail {e : Int} {σ1 : St} {B : AD} {segs' : List Sg} : lJ m = true → vw V.length (C.length - V.length) (iG V.length m) = true → Xr σ q l d n0 A js segs R (yf (iG V.length m)) e σ1 B segs' → e ≠ 0 → Ew σ q l d n0 a A js segs R C V m (0, e) σ1
  | ok {σ1 : St} {B : AD} {segs' : List Sg} : lJ m = true → vw V.length (C.length - V.length) (iG V.length m) = true → Xr σ q l d n0 A js segs R (yf (iG V.length m)) 0 σ1 B segs' →
      Ew σ q l d n0 a A js segs R C V m (((iG V.length m).length : Int), 0) (Eh σ1 q (a, some l, (C.drop V.length).drop (iG V.length m).length, V ++ iG V.length m, ()))

theorem OO (h : QS σ q l d n0 a A js segs R C V) (hR : R.length ≤ 10000) : ∀ (m : List VdT), aY (gY (some q) σ) m = some (iG V.length m)
  | [] => by
    rw [jP (r := []) (by unfold gY; simp)]; rfl
  | v :: r => by
    have ih := OO h hR r
    have hix : ix (v :: r) (0 : Int) = some v := by rw [show (0 : Int) = ((0 : Nat) : Int) from rfl, lX (by simp)]; rfl
    have hb : gY (some q) σ (v :: r) = if (decide (v.1 < ((V.length + 1 : Nat) : Int))) = true then some (.inl r) else some (.inr (v :: r)) := by
      unfold gY
      rw [if_pos (by first | (simp; done) | (simp; omega)), hix]
      simp only [Option.bind_some, h.first hR]
      split
      · rw [if_pos (by simp; omega)]; rfl
      · rfl
    unfold iG
    rw [List.dropWhile_cons]
    split
    · rename_i hc
      rw [if_pos hc] at hb
      rw [kZ hb, ih]; rfl
    · rename_i hc
      rw [if_neg hc] at hb
      rw [jP hb]

theorem YD (h : QS σ q l d n0 a A js segs R C V) (hR : R.length ≤ 10000) (hlen : segs.length ≤ 800) {m : List VdT} (hm : ∀ v ∈ m, I64 v.1 ∧ I64 v.2.1) (hml : m.length ≤ 1048576) :
    ∃ r σ', fH (some q) m σ = some (r, σ') ∧ Ew σ q l d n0 a A js segs R C V m r σ' := by
  obtain ⟨b1, b2⟩ := h.pl.len
  have hqo := h.qo
  have hdl : (C.drop V.length).length = C.length - V.length := by simp
  unfold fH
  rw [if_neg (by simp), CZ hm hml]
  by_cases hc : lJ m = true
  · rw [if_pos hc]
    simp only [Option.bind_some]
    rw [if_neg (by decide), OO h hR m]
    simp only [Option.bind_some]
    have hr := EM (n := V.length) hc
    obtain ⟨hr1, hr2⟩ := Gs hr
    by_cases h0 : iG V.length m = []
    · rw [if_pos (by simp [h0])]
      exact ⟨_, _, rfl, .none hc h0⟩
    · rw [if_neg (by simp [h0]), WA hqo (by omega) (by omega) (by omega), hdl]
      simp only [Option.bind_some]
      by_cases hf : vw V.length (C.length - V.length) (iG V.length m) = true
      · rw [if_neg (by rw [hf]; simp), CZ (fun v hv => ⟨⟨by have := (hr2 v hv).1; omega, by have := (hr2 v hv).1; omega⟩, by have := (hr2 v hv).2; omega, by have := (hr2 v hv).2; omega⟩) (by omega), if_pos hr]
        simp only [Option.bind_some]
        have hl := H5 hr
        rw [if_pos (by omega)]
        obtain ⟨e, σ1, B, segs', ho⟩ := Qd h.wr hqo (x := yf (iG V.length m)) (by unfold yf; rw [List.length_cons]; omega) (by omega) hlen
        have hrun := ho.run
        unfold yf at hrun
        rw [hrun]
        simp only [Option.bind_some]
        by_cases he : e = 0
        · subst he
          rw [if_neg (by decide)]
          have hq1 : σ1.ah[q]? = some (a, some l, C.drop V.length, V, ()) := by rw [ho.fw.queue]; exact hqo
          rw [Xd hq1 (by omega) (by omega) (by rw [hdl]; exact (EI hf).2)]
          exact ⟨_, _, rfl, .ok hc hf ho⟩
        · rw [if_pos (by simpa using he)]
          exact ⟨_, _, rfl, .fail hc hf ho he⟩
      · rw [if_pos (by simpa using hf)]
        exact ⟨_, _, rfl, .range hc h0 (by simpa using hf)⟩
  · rw [if_neg hc]
    simp only [Option.bind_some]
    rw [if_pos (by decide)]
    exact ⟨_, _, rfl, .bad (by simpa using hc)⟩
end
end Go.Proofs.YtbnmhjobnepajaaGreat.M


namespace Go.Proofs.YtbnmhjobnepajaaGreat.M

section
variable {σ : St} {q l d n0 : Nat} {a : Int} {A : AD} {js : List Nat} {segs : List Sg} {R : List (List UInt8)} {C : List jG} {V : List VdT}
theorem WR.same {σ' : St} (h : WR σ l d n0 A js segs R) (h1 : σ'.af = σ.af) (h2 : σ'.ai = σ.ai) (h3 : σ'.aj = σ.aj) (h4 : σ'.ae = σ.ae) : WR σ' l d n0 A js segs R := by
  obtain ⟨⟨a1, a2, a3, a4, a5, a6, a7⟩, b1, b2, b3, b4⟩ := h
  exact ⟨⟨a1.same2 h3 h4, a2.same h1 h2, a3, a4, a5, a6, a7⟩, b1, b2, b3, b4⟩
theorem QS.Xt (h : QS σ q l d n0 a A js segs R C V) {σ1 : St} {B : AD} {js' : List Nat} {segs' : List Sg} {c : jG} (hw : WR σ1 l d n0 B js' segs' (R ++ [recC c])) (hq : σ1.ah = σ.ah) (hc : lH c = true) (h1 : c.1 = a) (h2 : c.2.1 = ((C.length + 1 : Nat) : Int)) (h3 : C.length - V.length < 32) :
    QS (Eh σ1 q (a, some l, C.drop V.length ++ [c], V, ())) q l d n0 a B js' segs' (R ++ [recC c]) (C ++ [c]) V := by
  obtain ⟨b1, b2⟩ := h.pl.len
  refine ⟨hw.same rfl rfl rfl rfl, ?_, .cmd h.pl hc h1 h2, ?_⟩
  · rw [TS (y := (a, some l, C.drop V.length, V, ())) (by rw [hq]; exact h.qo), List.drop_append_of_le_length b2]
  · simp only [List.length_append, List.length_cons, List.length_nil]; omega
theorem QS.Xu (h : QS σ q l d n0 a A js segs R C V) {σ1 : St} {B : AD} {js' : List Nat} {segs' : List Sg} {m : List VdT} (hw : WR σ1 l d n0 B js' segs' (R ++ [yf m])) (hq : σ1.ah = σ.ah) (hc : lJ m = true) (hf : vw V.length (C.length - V.length) m = true) :
    QS (Eh σ1 q (a, some l, (C.drop V.length).drop m.length, V ++ m, ())) q l d n0 a B js' segs' (R ++ [yf m]) C (V ++ m) := by
  refine ⟨hw.same rfl rfl rfl rfl, ?_, .vds h.pl hc hf, ?_⟩
  · rw [TS (y := (a, some l, C.drop V.length, V, ())) (by rw [hq]; exact h.qo), List.length_append, List.drop_drop]
  · have := h.w32
    simp only [List.length_append]; omega
end

abbrev RqT : Type := Int × List jG × List VdT × Unit
noncomputable def Fh (σ : St) (x : Nat) (y : RqT) : St := σ.dB (σ.ak.set x y)
theorem NC {σ : St} {x : Nat} {y z : RqT} (h : σ.ak[x]? = some y) : (Fh σ x z).ak[x]? = some z := by
  have := (List.getElem?_eq_some_iff.1 h).1
  unfold Fh St.dB
  simp [this]
section
variable {σ : St} {x : Nat} {a : Int} {C : List jG} {V : List VdT}
noncomputable def Yg (a : Int) (C : List jG) (c : jG) : jG := (a, ((C.length + 1 : Nat) : Int), c.2.2)
theorem UC (h : σ.ak[x]? = some (a, C, V, ())) (hC : C.length ≤ 10000) (hV : V.length ≤ C.length) {c : jG} (hc : c.2.2.2.2.1.length ≤ 1048576) :
    iI (some x) c σ = some (if lH (Yg a C c) = true then (if 32 ≤ C.length - V.length then ((0, 10), σ) else ((((C.length + 1 : Nat) : Int), 0), Fh σ x (a, C ++ [Yg a C c], V, ()))) else ((0, 2), σ)) := by
  unfold iI
  have e1 : IntKind.wrap .i64 ((C.length : Int) - (V.length : Int)) = ((C.length - V.length : Nat) : Int) := by rw [aQ (by omega) (by omega)]; omega
  simp only [Option.bind_some, h, dD (i := C.length) (by omega), e1, List.nil_append, Nat.zero_add]
  have e2 : kU (a, ((C.length + 1 : Nat) : Int), c.2.2) = some (lH (Yg a C c)) := abo (c := Yg a C c) (by show c.2.2.2.2.1.length < _; omega)
  rw [e2]
  simp only [Option.bind_some]
  by_cases hk : lH (Yg a C c) = true
  · rw [if_neg (by rw [hk]; simp), if_pos hk]
    by_cases hw : 32 ≤ C.length - V.length
    · rw [if_pos (by simp; omega), if_pos hw]
    · rw [if_neg (by simp; omega), if_neg hw, if_pos (by omega), if_pos (by omega)]
      rfl
  · rw [if_pos (by simpa using hk), if_neg hk]

theorem TU (h : σ.ak[x]? = some (a, C, V, ())) {m : List VdT} (hm : m.length ≤ 1048576) : ∀ (k i : Nat) (acc : List VdT), i + k = m.length → acc.length ≤ i →
    aY (eU (some x) m σ) (acc, (i : Int)) = some (acc ++ (m.drop i).filter fun v => decide (v.1 > (V.length : Int)))
  | 0, i, acc, hi, ha => by
    have : i = m.length := by omega
    subst this
    rw [jP (r := acc) (by unfold eU; simp)]
    simp
  | k + 1, i, acc, hi, ha => by
    have hlt : i < m.length := by omega
    have hd : m.drop i = m[i] :: m.drop (i + 1) := by simp
    have hb : eU (some x) m σ (acc, (i : Int)) = some (.inl (if decide (m[i].1 > (V.length : Int)) = true then acc ++ [m[i]] else acc, ((i + 1 : Nat) : Int))) := by
      unfold eU
      simp only [dD (i := i) (by omega), lX hlt, Option.bind_some, h]
      rw [if_pos (by simp; omega)]
      split
      · rw [if_pos (by omega)]
      · rfl
    have hal : (if decide (m[i].1 > (V.length : Int)) = true then acc ++ [m[i]] else acc).length ≤ i + 1 := by
      split
      · simp only [List.length_append, List.length_cons, List.length_nil]; omega
      · omega
    rw [kZ hb, TU h hm k (i + 1) _ (by omega) hal, hd, List.filter_cons]
    split <;> simp
theorem aaF (h : σ.ak[x]? = some (a, C, V, ())) (hC : C.length ≤ 10000) (hV : V.length ≤ C.length) {m : List VdT} (hm : m.length ≤ 1048576) :
    aY (gJ (some x) σ m) 0 = some (if sD (fun i (v : VdT) => decide (v.1 = ((V.length + 1 + i : Nat) : Int)) && decide (v.1 ≤ (C.length : Int))) 0 m = true then .inl () else .inr ((0, 3), σ)) := by
  refine IL _ (fun i hi => ?_) (by unfold gJ; simp)
  unfold gJ
  have e1 : IntKind.wrap .i64 ((V.length : Int) + 1) = ((V.length + 1 : Nat) : Int) := dD (by omega)
  have e2 : IntKind.wrap .i64 (((V.length + 1 : Nat) : Int) + (i : Int)) = ((V.length + 1 + i : Nat) : Int) := by rw [aQ (by omega) (by omega)]; omega
  simp only [dD (i := i) (by omega), lX hi, Option.bind_some, h, e1, e2]
  rw [if_pos (by simp; omega)]
  generalize ((V.length + 1 + i : Nat) : Int) = z
  by_cases c1 : m[i].1 = z
  · rw [if_pos (by simp [c1]), decide_eq_true c1]
    by_cases c2 : m[i].1 ≤ (C.length : Int)
    · rw [if_neg (by simp; omega), if_pos (by simp [c2])]
    · rw [if_pos (by simp; omega), if_neg (by simp [c2])]
  · rw [if_neg (by simp [c1]), decide_eq_false c1, if_neg (by simp)]
theorem RP {α : Type} {P Q : Nat → α → Bool} : ∀ {i : Nat} {l : List α}, sD (fun i x => P i x && Q i x) i l = (sD P i l && sD Q i l)
  | _, [] => rfl
  | i, x :: r => by
    unfold sD
    rw [RP]
    cases P i x <;> cases Q i x <;> simp
theorem ZM {v c : Nat} (hv : v ≤ c) {m : List VdT} (hm : m ≠ []) : sD (fun i (x : VdT) => decide (x.1 = ((v + 1 + i : Nat) : Int)) && decide (x.1 ≤ (c : Int))) 0 m = vw v (c - v) m := by
  have key : ∀ (m : List VdT) (i : Nat), sD (fun i (x : VdT) => decide (x.1 = ((v + 1 + i : Nat) : Int))) i m = true → (sD (fun i (x : VdT) => decide (x.1 ≤ (c : Int))) i m = true ↔ m = [] ∨ v + i + m.length ≤ c) := by
    intro m
    induction m with
    | nil => intro i _; simp [sD]
    | cons x r ih =>
      intro i h
      unfold sD at h ⊢
      simp only [Bool.and_eq_true, decide_eq_true_eq] at h ⊢
      rw [ih (i + 1) h.2, h.1]
      simp only [List.length_cons, reduceCtorEq, false_or]
      constructor
      · rintro ⟨h1, rfl | h2⟩
        · simp; omega
        · omega
      · intro h1
        refine ⟨by omega, ?_⟩
        right; omega
  rw [RP]
  unfold vw
  cases h : sD (fun i (x : VdT) => decide (x.1 = ((v + 1 + i : Nat) : Int))) 0 m with
  | false => rfl
  | true =>
    rw [Bool.true_and, Bool.true_and, Bool.eq_iff_iff, key m 0 h]
    have := List.length_pos_iff.2 hm
    simp only [Bool.and_eq_true, decide_eq_true_eq, hm, false_or]
    omega
theorem YI (h : σ.ak[x]? = some (a, C, V, ())) (hC : C.length ≤ 10000) (hV : V.length ≤ C.length) {m : List VdT} (hm : m.length ≤ 1048576) :
    iU (some x) m σ = some (if lJ m = true then (if iG V.length m = [] then ((0, 0), Fh σ x (a, C, V, ())) else if vw V.length (C.length - V.length) (iG V.length m) = true then (((((iG V.length m).length : Nat) : Int), 0), Fh σ x (a, C, V ++ iG V.length m, ())) else ((0, 3), σ)) else ((0, 2), σ)) := by
  unfold iU
  rw [Rz (by omega)]
  simp only [Option.bind_some]
  by_cases hk : lJ m = true
  · rw [if_neg (by rw [hk]; simp), if_pos hk]
    have h1 := TU h hm m.length 0 [] (by omega) (by simp)
    rw [show ((0 : Nat) : Int) = (0 : Int) from rfl, List.drop_zero, List.nil_append] at h1
    rw [h1]
    have hk' := hk
    rw [Qb, Bool.and_eq_true] at hk'
    rw [← Il hk'.1]
    have hrl := Jj (n := V.length) (l := m)
    simp only [Option.bind_some, aaF h hC hV (m := iG V.length m) (by omega)]
    by_cases h0 : iG V.length m = []
    · rw [if_pos h0, h0]
      simp only [sD, if_true, Option.bind_some, kC, h, List.nil_append, List.append_nil, Nat.zero_add]
      rw [if_pos (by omega), if_pos (by simp; omega)]
      rfl
    · rw [if_neg h0, ZM hV h0]
      by_cases hf : vw V.length (C.length - V.length) (iG V.length m) = true
      · rw [if_pos hf, if_pos hf]
        simp only [Option.bind_some, kC, h, List.nil_append, Nat.zero_add]
        rw [if_pos (by omega), if_pos (by omega)]
        rfl
      · rw [if_neg hf, if_neg hf]; rfl
  · rw [if_pos (by simpa using hk), if_neg hk]
theorem RJ (h : σ.ak[x]? = some (a, C, V, ())) (hV : V.length ≤ C.length) : gK (some x) σ = some (C.drop V.length) := by
  unfold gK
  simp only [Option.bind_some, h]
  rw [if_pos (by omega)]
  simp
end
end Go.Proofs.YtbnmhjobnepajaaGreat.M


namespace Go.Proofs.YtbnmhjobnepajaaGreat.M

theorem Ez {α : Type} {P : Nat → α → Bool} : ∀ {i : Nat} {l : List α}, (∀ j x, x ∈ l → P j x = true) → sD P i l = true
  | _, [], _ => rfl
  | i, x :: r, h => by
    unfold sD
    rw [h i x List.mem_cons_self, Ez fun j y hy => h j y (List.mem_cons_of_mem _ hy)]; rfl
theorem Xo {l : List Int} (hl : l.length ≤ 1000000) : mX l l = some true := by
  unfold mX
  rw [if_neg (by simp), IL (l := l) (fun _ _ => true) (e := false) (fun i hi => ?_) (by unfold nX; simp), Ez (fun _ _ _ => rfl)]
  · rfl
  · unfold nX
    simp only [dD (i := i) (by omega), lX hi, Option.bind_some]
    rw [if_pos (by simp; omega)]
    simp
theorem Qq {c : jG} (hc : c.2.2.2.2.1.length ≤ 1000000) : kF c c = some true := by
  unfold kF
  simp [Xo hc]
theorem Oa {l : List jG} (hl : l.length ≤ 1000000) (h : ∀ c ∈ l, c.2.2.2.2.1.length ≤ 1000000) : jL l l = some true := by
  unfold jL
  rw [if_neg (by simp), IL (l := l) (fun _ _ => true) (e := false) (fun i hi => ?_) (by unfold kW; simp), Ez (fun _ _ _ => rfl)]
  · rfl
  · unfold kW
    simp only [dD (i := i) (by omega), lX hi, Option.bind_some, Qq (h _ (List.getElem_mem hi))]
    rw [if_pos (by simp; omega)]
    simp
theorem Gv {l : List VdT} (hl : l.length ≤ 1000000) : iH l l = some true := by
  unfold iH
  rw [if_neg (by simp), IL (l := l) (fun _ _ => true) (e := false) (fun i hi => ?_) (by unfold jc; simp), Ez (fun _ _ _ => rfl)]
  · rfl
  · unfold jc
    simp only [dD (i := i) (by omega), lX hi, Option.bind_some]
    rw [if_pos (by simp; omega)]
    simp

theorem IA {x1 : QuT} (hl : x1.2.2.1.length ≤ 1000000) (h : ∀ c ∈ x1.2.2.1, c.2.2.2.2.1.length ≤ 1000000) : ∀ (k i : Nat), i + k = x1.2.2.1.length →
    aY (iO x1) (x1.2.2.1.take i, (i : Int)) = some x1.2.2.1
  | 0, i, hi => by
    have : i = x1.2.2.1.length := by omega
    subst this
    rw [jP (r := x1.2.2.1) (by unfold iO; simp)]
  | k + 1, i, hi => by
    have hlt : i < x1.2.2.1.length := by omega
    have := h _ (List.getElem_mem hlt)
    rw [kZ (y := (x1.2.2.1.take (i + 1), ((i + 1 : Nat) : Int))) (by
      unfold iO
      simp only [dD (i := i) (by omega), lX hlt, Option.bind_some, Nat.zero_add, List.nil_append]
      rw [if_pos (by simp; omega), if_pos (by omega), if_pos (by simp; omega), List.take_succ_eq_append_getElem hlt]), IA hl h k (i + 1) (by omega)]

section
variable {σ : St} {q l d n0 x : Nat} {a : Int} {A : AD} {js : List Nat} {segs : List Sg} {R : List (List UInt8)} {C : List jG} {V : List VdT}
theorem QS.waiting (h : QS σ q l d n0 a A js segs R C V) (hR : R.length ≤ 10000) : ig (some q) σ = some (C.drop V.length) := by
  obtain ⟨b1, b2⟩ := h.pl.len
  unfold ig
  rw [if_neg (by simp)]
  have := IA (x1 := (a, some l, C.drop V.length, V, ())) (by simp; omega) (fun c hc => by
    have := (wF (h.pl.each c (List.mem_of_mem_drop hc)).1).2.2.2.2.2.1
    omega) (C.drop V.length).length 0 (by simp)
  rw [List.take_zero, show ((0 : Nat) : Int) = (0 : Int) from rfl] at this
  simp only [Option.bind_some, h.qo, this]
theorem zn.aej {R : List (List UInt8)} (h : zn a R C V) : V.length ≤ R.length := by have := h.len; omega
theorem QS.notices (h : QS σ q l d n0 a A js segs R C V) (hR : R.length ≤ 10000) : gZ (some q) σ = some V := by
  have := h.pl.aej
  unfold gZ
  rw [if_neg (by simp)]
  simp only [Option.bind_some, h.qo, List.nil_append, Nat.zero_add]
  rw [if_pos (by omega)]
theorem Yj (h : QS σ q l d n0 a A js segs R C V) (hR : R.length ≤ 10000) {b : Int} (hx : σ.ak[x]? = some (b, C, V, ())) : jW (some q) (some x) σ = some true := by
  obtain ⟨b1, b2⟩ := h.pl.len
  unfold jW
  rw [h.waiting hR, RJ hx b2]
  simp only [Option.bind_some]
  rw [Oa (by simp; omega) (fun c hc => by
    have := (wF (h.pl.each c (List.mem_of_mem_drop hc)).1).2.2.2.2.2.1
    omega), h.notices hR]
  simp only [Option.bind_some, if_true, hx, Gv (l := V) (by omega), h.first hR, h.next hR, dD (i := V.length) (by omega), dD (i := C.length) (by omega), beq_self_eq_true]

theorem MB (h : QS σ q l d n0 a A js segs R C V) (hR : R.length ≤ 10000) (n : Int) : ∀ (k i : Nat) (acc : List VdT), i + k = 40 → acc.length = i → (∀ v ∈ acc, I64 v.1 ∧ I64 v.2.1) →
    ∃ v, aY (jJ (some q) n σ) (acc, (i : Int)) = some v ∧ v.length ≤ 40 ∧ ∀ y ∈ v, I64 y.1 ∧ I64 y.2.1
  | k, i, acc, hi, ha, hv => by
    obtain ⟨b1, b2⟩ := h.pl.len
    have e1 : IntKind.wrap .i64 (((V.length + 1 : Nat) : Int) + (i : Int)) = ((V.length + 1 + i : Nat) : Int) := by rw [aQ (by omega) (by omega)]; omega
    have hb : jJ (some q) n σ (acc, (i : Int)) = if ((i : Int) < n ∧ i < 40) ∧ V.length + 1 + i < C.length + 1 then some (.inl (acc ++ [(((V.length + 1 + i : Nat) : Int), 0, ())], ((i + 1 : Nat) : Int))) else some (.inr acc) := by
      unfold jJ
      simp only [h.first hR, h.next hR]
      by_cases c : (i : Int) < n ∧ i < 40
      · have c' : (decide ((i : Int) < n) && decide ((i : Int) < 40)) = true := by simp; omega
        simp only [c', if_true, Option.bind_some, e1, Bool.true_and]
        by_cases c2 : V.length + 1 + i < C.length + 1
        · rw [if_pos (by simp; omega), if_pos (by omega), if_pos ⟨c, c2⟩, dD (by omega)]
        · rw [if_neg (by simp; omega), if_neg (fun hh => c2 hh.2)]
      · have c' : (decide ((i : Int) < n) && decide ((i : Int) < 40)) = false := by
          rw [Bool.eq_false_iff]; simp; omega
        simp only [c', Bool.false_eq_true, if_false, Option.bind_some, Bool.false_and]
        rw [if_neg (fun hh => c hh.1)]
    by_cases c : ((i : Int) < n ∧ i < 40) ∧ V.length + 1 + i < C.length + 1
    · rw [if_pos c] at hb
      rw [kZ hb]
      cases k with
      | zero => omega
      | succ k =>
        refine MB h hR n k (i + 1) _ (by omega) (by simp [ha]) (fun v hm => ?_)
        rcases List.mem_append.1 hm with hm | hm
        · exact hv v hm
        · simp only [List.mem_singleton] at hm
          subst hm
          exact ⟨⟨by omega, by omega⟩, by show (-9223372036854775808 : Int) ≤ 0; decide, by show (0 : Int) < 9223372036854775808; decide⟩
    · rw [if_neg c] at hb
      rw [jP hb]
      exact ⟨acc, rfl, by omega, hv⟩
theorem ZL (h : QS σ q l d n0 a A js segs R C V) (hR : R.length ≤ 10000) (n : Int) : ∃ v, jB (some q) n σ = some v ∧ v.length ≤ 40 ∧ ∀ y ∈ v, I64 y.1 ∧ I64 y.2.1 := by
  obtain ⟨v, h1, h2⟩ := MB h hR n 40 0 [] (by omega) rfl (by simp)
  refine ⟨v, ?_, h2⟩
  unfold jB
  rw [show (0 : Int) = ((0 : Nat) : Int) from rfl, h1]; rfl
end
end Go.Proofs.YtbnmhjobnepajaaGreat.M


namespace Go.Proofs.YtbnmhjobnepajaaGreat.M

section
variable {σ σ1 : St} {q l d n0 : Nat} {a : Int} {A : AD} {js : List Nat} {segs : List Sg} {R : List (List UInt8)} {C : List jG} {V : List VdT}
noncomputable def Ol (σ1 : St) (a : Int) (l : Nat) : St := ((σ1.bM (σ1.ah ++ [(a, some l, [], [], ())])).nO (σ1.bz ++ [(none, ())])).nO ((σ1.bz ++ [(none, ())]).set σ1.bz.length (some σ1.ah.length, ()))
theorem aat : (Ol σ1 a l).ah[σ1.ah.length]? = some (a, some l, [], [], ()) := by
  show (σ1.ah ++ [(a, some l, [], [], ())])[σ1.ah.length]? = _
  simp
theorem aas : (Ol σ1 a l).bz[σ1.bz.length]? = some (some σ1.ah.length, ()) := by
  show ((σ1.bz ++ [(none, ())]).set σ1.bz.length (some σ1.ah.length, ()))[σ1.bz.length]? = _
  simp
structure Oq (σ1 σ' : St) : Prop where
  dd : σ'.af = σ1.af
  df : σ'.ai = σ1.ai
  wl : σ'.aj = σ1.aj
  ws : σ'.ae = σ1.ae
  rq : σ'.ak = σ1.ak
  qs : ∀ i, i < σ1.ah.length → σ'.ah[i]? = σ1.ah[i]?
  ql : σ1.ah.length < σ'.ah.length
theorem Oq.of {σ' : St} {y : QuT} (h : Rp (Ol σ1 a l) σ' σ1.ah.length y) : Oq σ1 σ' := by
  have e : ∀ {α : Type} (f : St → α), f σ'.base = f (Ol σ1 a l).base := fun f => by rw [h.o]
  refine ⟨e St.af, e St.ai, e St.aj, e St.ae, e St.ak, fun i hi => ?_, ?_⟩
  · rw [h.q]
    show ((σ1.ah ++ [(a, some l, [], [], ())]).set σ1.ah.length y)[i]? = _
    rw [List.getElem?_set_ne (by omega), List.getElem?_append_left hi]
  · rw [h.q]
    show _ < ((σ1.ah ++ [(a, some l, [], [], ())]).set σ1.ah.length y).length
    simp

theorem ab8 (ha0 : 0 ≤ a) (ha5 : a ≤ 5) (h53 : f53 (some d) nmL 2048 σ = some ((some l, 0), σ1)) (h : WR σ1 l d n0 A js segs R) : eQ (some d) a σ =
    Option.bind (aY (fV ((some l, 0), σ1) (R.length : Int)) (0, Ol σ1 a l)) fun x7 => kC x7 (fun x8 => Option.bind x8.bz[σ1.bz.length]? fun x9 => some ((x9.1, 0), x8)) Option.some := by
  unfold eQ
  have hG : LG (Ol σ1 a l) l d 2048 js segs (aN segs) := h.ws.lg.same2 rfl rfl
  have hl := h.ws.len
  rw [if_neg (by simp), if_neg (by simp; omega), Zo]
  show Option.bind (f53 (some d) nmL 2048 σ) _ = _
  rw [h53]
  simp only [Option.bind_some]
  rw [if_neg (by decide)]
  have e1 : (σ1.bz ++ [(none, ())])[σ1.bz.length]? = some (none, ()) := by simp
  simp only [e1, Option.bind_some]
  show Option.bind (lL (some l) (Ol σ1 a l)) _ = _
  rw [Wn, ZA hG, h.f0]
  simp only [Option.bind_some]
  rw [if_neg (by decide)]
  show Option.bind (iP (some l) (Ol σ1 a l)) _ = _
  rw [BV, Dz hG h.ws.good (by omega), h.nx]
  rfl
theorem Nv (ha0 : 0 ≤ a) (ha5 : a ≤ 5) (h53 : f53 (some d) nmL 2048 σ = some ((some l, 0), σ1)) (h : WR σ1 l d n0 A js segs R) (hR : R.length ≤ 10000) (hp : zn a R C V) (hw : C.length - V.length ≤ 32) :
    ∃ σ', eQ (some d) a σ = some ((some σ1.ah.length, 0), σ') ∧ QS σ' σ1.ah.length l d n0 a A js segs R C V ∧ Oq σ1 σ' := by
  have hG : LG (Ol σ1 a l) l d 2048 js segs (aN segs) := h.ws.lg.same2 rfl rfl
  obtain ⟨σ', e1, e2⟩ := replay (σ := Ol σ1 a l) (x0 := ((some l, 0), σ1)) (n := R.length) (Rall := R) rfl aas aat hG h.ws.good (by have := h.ws.len; omega) h.sub h.f0 h.nx rfl (by omega) hp [] (by simp)
  rw [ab8 ha0 ha5 h53 h, e1, jP (r := .inl σ') (by unfold fV; simp)]
  have hc : σ'.bz[σ1.bz.length]? = some (some σ1.ah.length, ()) := by
    show σ'.base.bz[σ1.bz.length]? = _
    rw [e2.o]; exact aas (a := a) (l := l)
  have ho := Oq.of e2
  refine ⟨σ', by simp only [Option.bind_some, kC, hc], ⟨h.same ho.dd ho.df ho.wl ho.ws, e2.get aat, hp, hw⟩, ho⟩
theorem aaz (ha0 : 0 ≤ a) (ha5 : a ≤ 5) (hD : DV σ d n0 A) (hA : OkA A) (hd : lI A = false) (hL : A.2.1 = []) :
    ∃ σ1 σ' l, eQ (some d) a σ = some ((some σ1.ah.length, 0), σ') ∧ l = σ.aj.length ∧ QS σ' σ1.ah.length l d n0 a A [] [] [] [] [] ∧ Oq σ1 σ' ∧ Fw σ σ1 d n0 ∧ ExW σ σ1 l := by
  obtain ⟨σ1, g1, g2, g3, g4, g5⟩ := PD hD hA hd hL (most := 2048) (by decide) (by decide)
  have hw : WR σ1 σ.aj.length d n0 A [] [] [] := ⟨WS.new g4 hA hL g5, rfl, by simp, rfl, hd⟩
  obtain ⟨σ', k1, k2, k3⟩ := Nv ha0 ha5 g1 hw (by simp) .nil (by simp)
  exact ⟨σ1, σ', _, k1, rfl, k2, k3, g2, g3⟩
end
end Go.Proofs.YtbnmhjobnepajaaGreat.M


namespace Go.Proofs.YtbnmhjobnepajaaGreat.M

structure Low (σ0 σ : St) : Prop where
  dd : ∀ i, i < σ0.af.length → σ.af[i]? = σ0.af[i]?
  df : ∀ i, i < σ0.ai.length → σ.ai[i]? = σ0.ai[i]?
  wl : ∀ i, i < σ0.aj.length → σ.aj[i]? = σ0.aj[i]?
  ws : ∀ i, i < σ0.ae.length → σ.ae[i]? = σ0.ae[i]?
  qs : ∀ i, i < σ0.ah.length → σ.ah[i]? = σ0.ah[i]?
  ld : σ0.af.length ≤ σ.af.length
  lf : σ0.ai.length ≤ σ.ai.length
  ll : σ0.aj.length ≤ σ.aj.length
  ls : σ0.ae.length ≤ σ.ae.length
  lq : σ0.ah.length ≤ σ.ah.length
theorem Sj {α : Type} {l : List α} {i : Nat} {x : α} (h : l[i]? = some x) : i < l.length := (List.getElem?_eq_some_iff.1 h).1

section
variable {σ σ0 σ1 : St} {q l d n0 : Nat} {a : Int} {A : AD} {js : List Nat} {segs : List Sg} {R : List (List UInt8)} {C : List jG} {V : List VdT}
theorem DV.low (h : DV σ d n0 A) (hk : Low σ σ1) : DV σ1 d n0 A := by
  obtain ⟨o, qs, a1, a2, a3, a4, a5, a6, a7, a8, a9⟩ := h
  refine ⟨o, qs, ?_, a2, a3, a4, a5, a6, a7, fun q hq => ?_, Nat.le_trans a9 hk.lf⟩
  · rw [hk.dd d (Sj a1)]; exact a1
  · obtain ⟨b1, b2⟩ := a8 q hq
    exact ⟨by rw [hk.df _ (Sj b1)]; exact b1, b2⟩
theorem LG.low {most : Int} {safe : Nat} (h : LG σ l d most js segs safe) (hk : Low σ σ1) : LG σ1 l d most js segs safe := by
  refine ⟨by rw [hk.wl l (Sj h.lo)]; exact h.lo, h.nd, h.lie.Vk (fun j _ g hg => ?_)⟩
  have hg' : σ.ae[j]? = _ := hg
  show σ1.ae[j]? = _
  rw [hk.ws j (Sj hg')]; exact hg'
theorem QS.low (h : QS σ q l d n0 a A js segs R C V) (hk : Low σ σ1) : QS σ1 q l d n0 a A js segs R C V := by
  obtain ⟨⟨⟨a1, a2, a3, a4, a5, a6, a7⟩, b1, b2, b3, b4⟩, c1, c2, c3⟩ := h
  exact ⟨⟨⟨a1.low hk, a2.low hk, a3, a4, a5, a6, a7⟩, b1, b2, b3, b4⟩, by rw [hk.qs q (Sj c1)]; exact c1, c2, c3⟩

structure Abv (σ0 : St) (q l d n0 : Nat) (js : List Nat) : Prop where
  d : σ0.af.length ≤ d
  f : σ0.ai.length ≤ n0
  l : σ0.aj.length ≤ l
  s : ∀ j ∈ js, σ0.ae.length ≤ j
  q : σ0.ah.length ≤ q
theorem uD.same {js' : List Nat} (h : uD σ l js) (h' : uD σ l js') : js = js' := by
  obtain ⟨o, a, b⟩ := h
  obtain ⟨o', a', b'⟩ := h'
  rw [a] at a'; simp only [Option.some.injEq] at a'; subst a'
  rw [b] at b'
  exact (List.map_inj_right (fun a b h => by simpa using h)).1 b'
theorem Low.call (h : Low σ0 σ) (ha : Abv σ0 q l d n0 js) (hf : Fw σ σ1 d n0) (hj : CX σ σ1 l js) {js' : List Nat} (hj' : uD σ1 l js') : Low σ0 σ1 ∧ Abv σ0 q l d n0 js' := by
  obtain ⟨w, js2, k1, k2⟩ := hj
  have := uD.same k1 hj'
  subst this
  refine ⟨⟨fun i hi => ?_, fun i hi => ?_, fun i hi => ?_, fun i hi => ?_, fun i hi => ?_, ?_, ?_, ?_, ?_, ?_⟩, ⟨ha.d, ha.f, ha.l, fun j hj => ?_, ha.q⟩⟩
  · rw [hf.af i (by have := ha.d; omega) (by have := h.ld; omega)]; exact h.dd i hi
  · rw [hf.ai i (by have := ha.f; omega)]; exact h.df i hi
  · rw [w.lg i (by have := ha.l; omega)]; exact h.wl i hi
  · rw [w.sg i (fun hm => by have := ha.s i hm; omega) (by have := h.ls; omega)]; exact h.ws i hi
  · rw [hf.queue]; exact h.qs i hi
  · have := h.ld; have := hf.l105; omega
  · have := h.lf; have := hf.l108; omega
  · rw [w.ll]; exact h.ll
  · have := h.ls; have := w.sl; omega
  · rw [hf.queue]; exact h.lq
  · rcases k2 j hj with h' | h'
    · exact ha.s j h'
    · have := h.ls; omega
theorem Low.Eh (h : Low σ0 σ) (hq : σ0.ah.length ≤ q) (y : QuT) : Low σ0 (Eh σ q y) := by
  obtain ⟨a1, a2, a3, a4, a5, a6, a7, a8, a9, a10⟩ := h
  refine ⟨a1, a2, a3, a4, fun i hi => ?_, a6, a7, a8, a9, ?_⟩
  · show (σ.ah.set q y)[i]? = _
    rw [List.getElem?_set_ne (by omega)]; exact a5 i hi
  · show _ ≤ (σ.ah.set q y).length
    rw [List.length_set]; exact a10

structure QA (σ0 σ : St) (q l d n0 : Nat) (a : Int) (R : List (List UInt8)) (C : List jG) (V : List VdT) (A : AD) (js : List Nat) (segs : List Sg) (k : Nat) : Prop where
  qs : QS σ q l d n0 a A js segs R C V
  low : Low σ0 σ
  abv : Abv σ0 q l d n0 js
  arm : oW A = 0
  room : A.1 = 1048576
  lr : R.length ≤ k
  ls : segs.length ≤ k
  sz : szS segs ≤ 725 * k
theorem QA.over {k : Nat} (h : QA σ0 σ q l d n0 a R C V A js segs k) (hk : k ≤ 80) {x : List UInt8} (hx : x.length ≤ 1024) : ¬ Over A segs x := by
  have h1 := h.room
  have h2 := h.ls
  have h3 := h.sz
  unfold Over
  rw [h1]
  omega
theorem QA.aco {k : Nat} (h : QA σ0 σ q l d n0 a R C V A js segs k) (hk : k ≤ 80) {x : List UInt8} (hx : x.length ≤ 1024) {e : Int} {B : AD} {segs' : List Sg} (ho : Xr σ q l d n0 A js segs R x e σ1 B segs') :
    e = 0 ∧ More segs x segs' ∧ ∃ js', WR σ1 l d n0 B js' segs' (R ++ [x]) ∧ Low σ0 σ1 ∧ Abv σ0 q l d n0 js' ∧ oW B = 0 ∧ B.1 = 1048576 := by
  rcases ho.out with ⟨rfl, o1, js', o2⟩ | ⟨rfl, _, o, _⟩ | ⟨rfl, o, _⟩
  · obtain ⟨k1, k2⟩ := h.low.call h.abv ho.fw ho.js o2.ws.lg.uD
    exact ⟨rfl, o1, js', o2, k1, k2, ho.arm h.arm, ho.room.trans h.room⟩
  · exact absurd o (h.over hk hx)
  · exact absurd h.arm o
theorem QA.VH {k : Nat} (h : QA σ0 σ q l d n0 a R C V A js segs k) (hk : k ≤ 80) {st : List UInt8} {rule ex : Int} {args : List Int} (hf : KT (a, ((C.length + 1 : Nat) : Int), st, rule, args, ex, ())) :
    ∃ r σ' A' js' segs', eH (some q) st rule args ex σ = some (r, σ') ∧ σ'.ak = σ.ak ∧
      ((lH (a, ((C.length + 1 : Nat) : Int), st, rule, args, ex, ()) = false ∧ r = (0, 2) ∧ QA σ0 σ' q l d n0 a R C V A' js' segs' (k + 1)) ∨
       (lH (a, ((C.length + 1 : Nat) : Int), st, rule, args, ex, ()) = true ∧ 32 ≤ C.length - V.length ∧ r = (0, 10) ∧ QA σ0 σ' q l d n0 a R C V A' js' segs' (k + 1)) ∨
       (lH (a, ((C.length + 1 : Nat) : Int), st, rule, args, ex, ()) = true ∧ C.length - V.length < 32 ∧ r = (((C.length + 1 : Nat) : Int), 0) ∧
         QA σ0 σ' q l d n0 a (R ++ [recC (a, ((C.length + 1 : Nat) : Int), st, rule, args, ex, ())]) (C ++ [(a, ((C.length + 1 : Nat) : Int), st, rule, args, ex, ())]) V A' js' segs' (k + 1))) := by
  have hlr := h.lr
  have hls := h.ls
  have hsz := h.sz
  have stay : QA σ0 σ q l d n0 a R C V A js segs (k + 1) := ⟨h.qs, h.low, h.abv, h.arm, h.room, by omega, by omega, by omega⟩
  obtain ⟨r, σ', e1, e2⟩ := UF h.qs (by omega) (by omega) hf
  cases e2 with
  | bad hc => exact ⟨_, _, A, js, segs, e1, rfl, .inl ⟨hc, rfl, stay⟩⟩
  | full hc hw => exact ⟨_, _, A, js, segs, e1, rfl, .inr (.inl ⟨hc, hw, rfl, stay⟩)⟩
  | fail hc hw ho he =>
    have := (HY hc).1
    exact absurd (h.aco hk (by unfold recC; rw [List.length_cons]; omega) ho).1 he
  | ok hc hw ho =>
    have hl := (HY hc).1
    have hrl : (recC (a, ((C.length + 1 : Nat) : Int), st, rule, args, ex, ())).length ≤ 201 := by unfold recC; rw [List.length_cons]; omega
    obtain ⟨-, o1, js', o2, o3, o4, o5, o6⟩ := h.aco hk (by omega) ho
    refine ⟨_, _, _, js', _, e1, ho.fw.ref, .inr (.inr ⟨hc, hw, rfl, h.qs.Xt o2 ho.fw.queue hc rfl rfl hw, o3.Eh h.abv.q _, o4, o5, o6, by simp; omega, ?_, ?_⟩)⟩
    · have := o1.len; omega
    · have := o1.sz; omega
theorem QA.done {k : Nat} (h : QA σ0 σ q l d n0 a R C V A js segs k) (hk : k ≤ 80) {m : List VdT} (hm : ∀ v ∈ m, I64 v.1 ∧ I64 v.2.1) (hml : m.length ≤ 1048576) :
    ∃ r σ' A' js' segs', fH (some q) m σ = some (r, σ') ∧ σ'.ak = σ.ak ∧
      ((lJ m = false ∧ r = (0, 2) ∧ QA σ0 σ' q l d n0 a R C V A' js' segs' (k + 1)) ∨
       (lJ m = true ∧ iG V.length m = [] ∧ r = (0, 0) ∧ QA σ0 σ' q l d n0 a R C V A' js' segs' (k + 1)) ∨
       (lJ m = true ∧ iG V.length m ≠ [] ∧ vw V.length (C.length - V.length) (iG V.length m) = false ∧ r = (0, 3) ∧ QA σ0 σ' q l d n0 a R C V A' js' segs' (k + 1)) ∨
       (lJ m = true ∧ iG V.length m ≠ [] ∧ vw V.length (C.length - V.length) (iG V.length m) = true ∧ r = ((((iG V.length m).length : Nat) : Int), 0) ∧
         QA σ0 σ' q l d n0 a (R ++ [yf (iG V.length m)]) C (V ++ iG V.length m) A' js' segs' (k + 1))) := by
  have hlr := h.lr
  have hls := h.ls
  have hsz := h.sz
  have stay : QA σ0 σ q l d n0 a R C V A js segs (k + 1) := ⟨h.qs, h.low, h.abv, h.arm, h.room, by omega, by omega, by omega⟩
  obtain ⟨r, σ', e1, e2⟩ := YD h.qs (by omega) (by omega) hm hml
  cases e2 with
  | bad hc => exact ⟨_, _, A, js, segs, e1, rfl, .inl ⟨hc, rfl, stay⟩⟩
  | none hc h0 => exact ⟨_, _, A, js, segs, e1, rfl, .inr (.inl ⟨hc, h0, rfl, stay⟩)⟩
  | range hc h0 hf => exact ⟨_, _, A, js, segs, e1, rfl, .inr (.inr (.inl ⟨hc, h0, hf, rfl, stay⟩))⟩
  | fail hc hf ho he =>
    have := (H5 (EM (n := V.length) hc)).1
    exact absurd (h.aco hk (by unfold yf; rw [List.length_cons]; omega) ho).1 he
  | ok hc hf ho =>
    have hl := (H5 (EM (n := V.length) hc)).1
    have hrl : (yf (iG V.length m)).length ≤ 701 := by unfold yf; rw [List.length_cons]; omega
    obtain ⟨-, o1, js', o2, o3, o4, o5, o6⟩ := h.aco hk (by omega) ho
    refine ⟨_, _, _, js', _, e1, ho.fw.ref, .inr (.inr (.inr ⟨hc, fun h0 => by have := (EI hf).1; rw [h0] at this; simp at this, hf, rfl, h.qs.Xu o2 ho.fw.queue (EM hc) hf, o3.Eh h.abv.q _, o4, o5, o6, by simp; omega, ?_, ?_⟩))⟩
    · have := o1.len; omega
    · have := o1.sz; omega
end
end Go.Proofs.YtbnmhjobnepajaaGreat.M


namespace Go.Proofs.YtbnmhjobnepajaaGreat.M

section
variable {σ σ0 σ1 σ2 : St} {q l d n0 : Nat} {a : Int} {A : AD} {js : List Nat} {segs : List Sg} {R : List (List UInt8)} {C : List jG} {V : List VdT}
theorem Low.trans (h1 : Low σ0 σ1) (h2 : Low σ1 σ2) : Low σ0 σ2 := by
  refine ⟨fun i hi => ?_, fun i hi => ?_, fun i hi => ?_, fun i hi => ?_, fun i hi => ?_, Nat.le_trans h1.ld h2.ld, Nat.le_trans h1.lf h2.lf, Nat.le_trans h1.ll h2.ll, Nat.le_trans h1.ls h2.ls, Nat.le_trans h1.lq h2.lq⟩
  · rw [h2.dd i (Nat.lt_of_lt_of_le hi h1.ld)]; exact h1.dd i hi
  · rw [h2.df i (Nat.lt_of_lt_of_le hi h1.lf)]; exact h1.df i hi
  · rw [h2.wl i (Nat.lt_of_lt_of_le hi h1.ll)]; exact h1.wl i hi
  · rw [h2.ws i (Nat.lt_of_lt_of_le hi h1.ls)]; exact h1.ws i hi
  · rw [h2.qs i (Nat.lt_of_lt_of_le hi h1.lq)]; exact h1.qs i hi
theorem Low.disk (x : aA dN) : Low σ (σ.oJ x) :=
  ⟨fun i hi => List.getElem?_append_left hi, fun _ _ => rfl, fun _ _ => rfl, fun _ _ => rfl, fun _ _ => rfl, by show _ ≤ (σ.af ++ [x]).length; simp, Nat.le_refl _, Nat.le_refl _, Nat.le_refl _, Nat.le_refl _⟩
theorem Low.open (h : Low σ0 σ) (hd : σ0.af.length ≤ d) (hn : σ0.ai.length ≤ n0) (hl : σ0.aj.length ≤ l) (hf : Fw σ σ1 d n0) (he : ExW σ σ1 l) : Low σ0 σ1 := by
  refine ⟨fun i hi => ?_, fun i hi => ?_, fun i hi => ?_, fun i hi => ?_, fun i hi => ?_, ?_, ?_, ?_, ?_, ?_⟩
  · rw [hf.af i (by omega) (by have := h.ld; omega)]; exact h.dd i hi
  · rw [hf.ai i (by omega)]; exact h.df i hi
  · rw [he.aj i (by omega) (by have := h.ll; omega)]; exact h.wl i hi
  · rw [he.ae i (by have := h.ls; omega)]; exact h.ws i hi
  · rw [hf.queue]; exact h.qs i hi
  · have := h.ld; have := hf.l105; omega
  · have := h.lf; have := hf.l108; omega
  · have := h.ll; have := he.l128; omega
  · have := h.ls; have := he.l130; omega
  · rw [hf.queue]; exact h.lq
theorem Low.opened (h : Low σ0 σ1) (ho : Oq σ1 σ2) : Low σ0 σ2 := by
  refine h.trans ⟨fun i _ => by rw [ho.dd], fun i _ => by rw [ho.df], fun i _ => by rw [ho.wl], fun i _ => by rw [ho.ws], ho.qs, by rw [ho.dd]; exact Nat.le_refl _, by rw [ho.df]; exact Nat.le_refl _, by rw [ho.wl]; exact Nat.le_refl _, by rw [ho.ws]; exact Nat.le_refl _, by have := ho.ql; omega⟩

theorem start (σ : St) (ha0 : 0 ≤ a) (ha5 : a ≤ 5) {room : Int} (hr0 : 0 ≤ room) (hr1 : room ≤ 1048576) : ∃ σa, sG room σ = some ((some σ.af.length, 0), σa) ∧ DV σa σ.af.length σ.ai.length (room, [], 0, false, ()) ∧ OkA (room, [], 0, false, ()) ∧ Low σ σa ∧ σa.ak = σ.ak := by
  obtain ⟨e1, e2, e3⟩ := ac0 (σ := σ) hr0 hr1
  refine ⟨_, ?_, e2, e3, Low.disk _, rfl⟩
  rw [eq_18]; exact e1
theorem QA.start (σ : St) (ha0 : 0 ≤ a) (ha5 : a ≤ 5) : ∃ σa σ2 q l A, sG 1048576 σ = some ((some σ.af.length, 0), σa) ∧ eQ (some σ.af.length) a σa = some ((some q, 0), σ2) ∧
    QA σ σ2 q l σ.af.length σ.ai.length a [] [] [] A [] [] 0 ∧ σ2.ak = σ.ak := by
  obtain ⟨σa, e1, e2, e3, e4, e5⟩ := M.start σ ha0 ha5 (room := 1048576) (by decide) (by decide)
  obtain ⟨σ1, σ2, l, g1, rfl, g2, g3, g4, g5⟩ := aaz ha0 ha5 e2 e3 rfl rfl
  have hl : σ.aj.length ≤ σa.aj.length := e4.ll
  have h1 := e4.open (Nat.le_refl _) (Nat.le_refl _) hl g4 g5
  exact ⟨σa, σ2, _, _, _, e1, g1, ⟨g2, h1.opened g3, ⟨Nat.le_refl _, Nat.le_refl _, hl, by simp, h1.lq⟩, rfl, rfl, by simp, by simp, by simp [szS]⟩, g3.rq.trans (g4.ref.trans e5)⟩

theorem Sl (σ : St) : ∃ σ', jA σ = some (true, σ') ∧ Low σ σ' ∧ σ'.ak = σ.ak := by
  obtain ⟨σa, σ2, q, l, A, e1, e2, h0, e3⟩ := QA.start (a := 1) σ (by decide) (by decide)
  have fit : ∀ (n : Nat) (args : List Int), n < 100 → (∀ y ∈ args, y = 5) → args.length ≤ 1 → KT (1, ((n + 1 : Nat) : Int), [97], 0, args, -1, ()) := fun n args hn hy hl =>
    ⟨by show I64 1; exact ⟨by decide, by decide⟩, zl (by omega), by show (1 : Nat) < _; decide, by show I64 0; exact ⟨by decide, by decide⟩, fun y hm => by rw [hy y hm]; exact ⟨by decide, by decide⟩, by show args.length ≤ _; omega, by show I64 (-1); exact ⟨by decide, by decide⟩⟩
  obtain ⟨r1, s1, A1, js1, segs1, u1, v1, c1⟩ := h0.VH (by decide) (fit 0 [5] (by decide) (by simp) (by simp))
  rcases c1 with ⟨c, _⟩ | ⟨_, c, _⟩ | ⟨_, _, rfl, h1⟩
  · exact absurd c (by decide)
  · exact absurd c (by decide)
  obtain ⟨r2, s2, A2, js2, segs2, u2, v2, c2⟩ := h1.VH (by decide) (fit 1 [] (by decide) (by simp) (by simp))
  rcases c2 with ⟨c, _⟩ | ⟨_, c, _⟩ | ⟨_, _, rfl, h2⟩
  · exact absurd c (by decide)
  · exact absurd c (by decide)
  have hv : ∀ v ∈ [((1 : Int), ((0 : Int), ()))], I64 v.1 ∧ I64 v.2.1 := by
    intro v hv
    simp only [List.mem_singleton] at hv
    subst hv
    exact ⟨⟨by decide, by decide⟩, by decide, by decide⟩
  obtain ⟨r3, s3, A3, js3, segs3, u3, v3, c3⟩ := h2.done (by decide) hv (by simp)
  rcases c3 with ⟨c, _⟩ | ⟨_, c, _⟩ | ⟨_, _, c, _⟩ | ⟨_, _, _, rfl, h3⟩
  · exact absurd c (by decide)
  · exact absurd c (by decide)
  · exact absurd c (by decide)
  obtain ⟨r4, s4, A4, js4, segs4, u4, v4, c4⟩ := h3.done (by decide) hv (by simp)
  rcases c4 with ⟨c, _⟩ | ⟨_, _, rfl, h4⟩ | ⟨_, c, _⟩ | ⟨_, c, _⟩
  · exact absurd c (by decide)
  · refine ⟨s4, ?_, h4.low, v4.trans (v3.trans (v2.trans (v1.trans e3)))⟩
    unfold jA
    have lr := h4.lr
    rw [e1]
    simp only [Option.bind_some]
    rw [e2]
    simp only [Option.bind_some]
    rw [if_neg (by simp), u1]
    simp only [Option.bind_some]
    rw [u2]
    simp only [Option.bind_some]
    rw [u3]
    simp only [Option.bind_some]
    rw [u4]
    simp only [Option.bind_some]
    rw [if_pos (by decide), h4.qs.waiting (by omega)]
    simp only [Option.bind_some]
    rw [if_pos (by decide), h4.qs.notices (by omega)]
    simp only [Option.bind_some]
    rw [if_pos (by decide), h4.qs.first (by omega)]
    simp only [Option.bind_some]
    rw [if_pos (by decide), h4.qs.next (by omega)]
    rfl
  · exact absurd rfl c
  · exact absurd rfl c
end
end Go.Proofs.YtbnmhjobnepajaaGreat.M


namespace Go.Proofs.YtbnmhjobnepajaaGreat.M

noncomputable def St.none : St := ⟨[], [], [], [], [], [], [], [], [], [], [], []⟩
theorem Nc (σ : St) : Low St.none σ := ⟨fun i hi => absurd hi (by simp [St.none]), fun i hi => absurd hi (by simp [St.none]), fun i hi => absurd hi (by simp [St.none]), fun i hi => absurd hi (by simp [St.none]), fun i hi => absurd hi (by simp [St.none]), Nat.zero_le _, Nat.zero_le _, Nat.zero_le _, Nat.zero_le _, Nat.zero_le _⟩
theorem La (q l d n0 : Nat) (js : List Nat) : Abv St.none q l d n0 js := ⟨Nat.zero_le _, Nat.zero_le _, Nat.zero_le _, fun _ _ => Nat.zero_le _, Nat.zero_le _⟩

abbrev UA : Type := Int × Int × jG × List VdT × List Int × Unit
structure FT (t : UA) : Prop where
  s : t.2.2.1.2.2.1.length < 4611686018427387904
  r : I64 t.2.2.1.2.2.2.1
  l : ∀ n ∈ t.2.2.1.2.2.2.2.1, I64 n
  n : t.2.2.1.2.2.2.2.1.length ≤ 1048576
  e : I64 t.2.2.1.2.2.2.2.2.1
  v : ∀ v ∈ t.2.2.2.1, I64 v.1 ∧ I64 v.2.1
  m : t.2.2.2.1.length ≤ 1048576
theorem FT.cmd {t : UA} (h : FT t) {a : Int} (ha0 : 0 ≤ a) (ha5 : a ≤ 5) {n : Nat} (hn : n ≤ 10000) : KT (a, ((n + 1 : Nat) : Int), t.2.2.1.2.2.1, t.2.2.1.2.2.2.1, t.2.2.1.2.2.2.2.1, t.2.2.1.2.2.2.2.2.1, ()) :=
  ⟨⟨by show (_ : Int) ≤ a; omega, by show a < _; omega⟩, zl (by omega), h.s, h.r, h.l, h.n, h.e⟩

section
variable {σ σ0 σ1 : St} {q l d n0 k : Nat} {a : Int} {A : AD} {js : List Nat} {segs : List Sg} {R : List (List UInt8)} {C : List jG} {V : List VdT}
abbrev QN (σ : St) (q l d n0 : Nat) (a : Int) (R : List (List UInt8)) (C : List jG) (V : List VdT) (A : AD) (js : List Nat) (segs : List Sg) (k : Nat) : Prop := QA St.none σ q l d n0 a R C V A js segs k
theorem QA.toN (h : QA σ0 σ q l d n0 a R C V A js segs k) : QN σ q l d n0 a R C V A js segs k := ⟨h.qs, Nc σ, La _ _ _ _ _, h.arm, h.room, h.lr, h.ls, h.sz⟩
theorem QA.up (h : QN σ q l d n0 a R C V A js segs k) (hk : Low σ σ1) : QN σ1 q l d n0 a R C V A js segs k := ⟨h.qs.low hk, Nc σ1, La _ _ _ _ _, h.arm, h.room, h.lr, h.ls, h.sz⟩
theorem QA.Fh (h : QN σ q l d n0 a R C V A js segs k) (x : Nat) (y : RqT) : QN (Fh σ x y) q l d n0 a R C V A js segs k := h.up ⟨fun _ _ => rfl, fun _ _ => rfl, fun _ _ => rfl, fun _ _ => rfl, fun _ _ => rfl, Nat.le_refl _, Nat.le_refl _, Nat.le_refl _, Nat.le_refl _, Nat.le_refl _⟩
theorem QA.more (h : QN σ q l d n0 a R C V A js segs k) {k' : Nat} (hk : k ≤ k') : QN σ q l d n0 a R C V A js segs k' := ⟨h.qs, h.low, h.abv, h.arm, h.room, by have := h.lr; omega, by have := h.ls; omega, by have := h.sz; omega⟩

theorem QA.Y3 (h : QN σ q l d n0 a R C V A js segs k) (hk : k ≤ 80) (ha0 : 0 ≤ a) (ha5 : a ≤ 5) (keep : List Int) :
    ∃ σ1 σ2 q' l' A' js', lM (some d) keep σ = some (0, σ1) ∧ eQ (some d) a σ1 = some ((some q', 0), σ2) ∧ QN σ2 q' l' d n0 a R C V A' js' segs k ∧ σ2.ak = σ.ak := by
  obtain ⟨⟨⟨ws, f0, sub, nx, dn⟩, qo, pl, w32⟩, low, abv, arm, room, lr, ls, sz⟩ := h
  obtain ⟨σ1, σ2, B, js', segs', g1, g2, g3, g4, g5, g6, g7, g8, g9, g10, g11⟩ := UW (most := 2048) ⟨ws.dv, ws.ok, ws.dl, ws.good, ws.len⟩ keep (by decide) (by decide)
  have hs : segs' = segs := by
    rcases g11 with ⟨h1, h2⟩ | ⟨pre, g, m, h1, h2, h3, h4, -⟩
    · rw [h1, h2]
    · subst h1 h2
      rw [qy, List.take_of_length_le (by omega)]
  subst hs
  have hw : WR σ2 σ1.aj.length d n0 B js' segs' R := ⟨g9, f0, sub, nx, g8⟩
  obtain ⟨σ3, k1, k2, k3⟩ := Nv ha0 ha5 g2 hw (by omega) pl w32
  refine ⟨σ1, σ3, _, _, B, js', ?_, k1, ⟨k2, Nc _, La _ _ _ _ _, g7, g6.trans room, lr, ls, sz⟩, k3.rq.trans g3.ref⟩
  rw [eq_27]; exact g1

noncomputable def Rf (σ : St) (x : Nat) (a : Int) (C : List jG) (V : List VdT) : Prop := σ.ak[x]? = some (a, C, V, ())

theorem XI {p1 : List UA} {x0 x1 : ((Option Nat) × Int) × St} (ha0 : 0 ≤ a) (ha5 : a ≤ 5) (hx0 : x0.1.1 = some d) (hp : ∀ t ∈ p1, FT t) {i : Nat} (hi : i < p1.length) (hi60 : i < 60)
    (h : QN σ q l d n0 a R C V A js segs i) (hr : Rf σ x1.2.ak.length a C V) :
    ∃ σ' q' l' R' C' V' A' js' segs', eF a p1 x0 x1 (some q, (i : Int), σ) = some (.inl (some q', ((i + 1 : Nat) : Int), σ')) ∧ QN σ' q' l' d n0 a R' C' V' A' js' segs' (i + 1) ∧ Rf σ' x1.2.ak.length a C' V' := by
  have hfit := hp p1[i] (List.getElem_mem hi)
  obtain ⟨b1, b2⟩ := h.qs.pl.len
  have hlr := h.lr
  generalize hx : x1.2.ak.length = x at *
  generalize ht : p1[i] = t at *
  have fin : ∀ {σ' : St} {q' l' : Nat} {R' : List (List UInt8)} {C' : List jG} {V' : List VdT} {A' : AD} {js' : List Nat} {segs' : List Sg}, QN σ' q' l' d n0 a R' C' V' A' js' segs' (i + 1) → Rf σ' x a C' V' →
      (Option.bind (jW (some q') (some x) σ') fun x18 => if (!x18) = true then some (.inr (.inr (false, σ'))) else some (.inl (some q', (IntKind.wrap .i64 ((i : Int) + 1), σ')))) = (some (.inl (some q', ((i + 1 : Nat) : Int), σ')) : Option (((Option Nat) × Int × St) ⊕ (St ⊕ (Bool × St)))) := by
    intro σ' q' l' R' C' V' A' js' segs' h1 h2
    have := h1.lr
    rw [Yj h1.qs (by omega) h2, dD (by omega)]
    simp
  unfold eF
  rw [if_pos (by simp; omega)]
  simp only [lX hi, Option.bind_some, hx, hx0, ht]
  by_cases hk : t.1 ≥ 0 ∧ t.1 < 4
  · rw [if_pos (by simpa using hk)]
    obtain ⟨r, σ', A', js', segs', e1, e2, e3⟩ := h.VH (by omega) (hfit.cmd ha0 ha5 (n := C.length) (by omega))
    have hr' : Rf σ' x a C V := by unfold Rf; rw [e2]; exact hr
    have er := UC (σ := σ') (x := x) (c := t.2.2.1) hr' (by omega) b2 hfit.n
    have ec : Yg a C t.2.2.1 = (a, ((C.length + 1 : Nat) : Int), t.2.2.1.2.2.1, t.2.2.1.2.2.2.1, t.2.2.1.2.2.2.2.1, t.2.2.1.2.2.2.2.2.1, ()) := rfl
    rw [ec] at er
    rcases e3 with ⟨c1, rfl, e4⟩ | ⟨c1, c2, rfl, e4⟩ | ⟨c1, c2, rfl, e4⟩
    · rw [if_neg (by rw [c1]; simp)] at er
      refine ⟨_, _, _, _, _, _, _, _, _, ?_, e4, hr'⟩
      simp only [e1, er, Option.bind_some]
      rw [if_neg (by decide)]
      exact fin e4 hr'
    · rw [if_pos c1, if_pos c2] at er
      refine ⟨_, _, _, _, _, _, _, _, _, ?_, e4, hr'⟩
      simp only [e1, er, Option.bind_some]
      rw [if_neg (by decide)]
      exact fin e4 hr'
    · rw [if_pos c1, if_neg (by omega)] at er
      have hr2 : Rf (M.Fh σ' x (a, C ++ [(a, ((C.length + 1 : Nat) : Int), t.2.2.1.2.2.1, t.2.2.1.2.2.2.1, t.2.2.1.2.2.2.2.1, t.2.2.1.2.2.2.2.2.1, ())], V, ())) x a (C ++ [(a, ((C.length + 1 : Nat) : Int), t.2.2.1.2.2.1, t.2.2.1.2.2.2.1, t.2.2.1.2.2.2.2.1, t.2.2.1.2.2.2.2.2.1, ())]) V := NC hr'
      refine ⟨_, _, _, _, _, _, _, _, _, ?_, e4.Fh x _, hr2⟩
      simp only [e1, er, Option.bind_some]
      rw [if_neg (by simp)]
      exact fin (e4.Fh x _) hr2
  · rw [if_neg (by simpa using hk)]
    by_cases hk2 : t.1 = 4 ∨ t.1 = 5
    · rw [if_pos (by simpa using hk2)]
      obtain ⟨v, hv, hv1, hv2⟩ : ∃ v, (if (t.1 == 5) = true then Option.bind (jB (some q) t.2.1 σ) fun x8 => some x8 else some t.2.2.2.1) = some v ∧ v.length ≤ 1048576 ∧ ∀ y ∈ v, I64 y.1 ∧ I64 y.2.1 := by
        by_cases h5 : t.1 = 5
        · obtain ⟨v, v1, v2, v3⟩ := ZL h.qs (by omega) t.2.1
          exact ⟨v, by rw [if_pos (by simpa using h5), v1]; rfl, by omega, v3⟩
        · exact ⟨_, by rw [if_neg (by simpa using h5)], hfit.m, hfit.v⟩
      rw [hv]
      simp only [Option.bind_some]
      obtain ⟨r, σ', A', js', segs', e1, e2, e3⟩ := h.done (by omega) hv2 hv1
      have hr' : Rf σ' x a C V := by unfold Rf; rw [e2]; exact hr
      have er := YI (σ := σ') (x := x) hr' (by omega) b2 hv1
      rcases e3 with ⟨c1, rfl, e4⟩ | ⟨c1, c2, rfl, e4⟩ | ⟨c1, c2, c3, rfl, e4⟩ | ⟨c1, c2, c3, rfl, e4⟩
      · rw [if_neg (by rw [c1]; simp)] at er
        refine ⟨_, _, _, _, _, _, _, _, _, ?_, e4, hr'⟩
        simp only [e1, er, Option.bind_some]
        rw [if_neg (by decide)]
        exact fin e4 hr'
      · rw [if_pos c1, if_pos c2] at er
        have hr2 : Rf (M.Fh σ' x (a, C, V, ())) x a C V := NC hr'
        refine ⟨_, _, _, _, _, _, _, _, _, ?_, e4.Fh x _, hr2⟩
        simp only [e1, er, Option.bind_some]
        rw [if_neg (by decide)]
        exact fin (e4.Fh x _) hr2
      · rw [if_pos c1, if_neg c2, if_neg (by rw [c3]; simp)] at er
        refine ⟨_, _, _, _, _, _, _, _, _, ?_, e4, hr'⟩
        simp only [e1, er, Option.bind_some]
        rw [if_neg (by decide)]
        exact fin e4 hr'
      · rw [if_pos c1, if_neg c2, if_pos c3] at er
        have hr2 : Rf (M.Fh σ' x (a, C, V ++ iG V.length v, ())) x a C (V ++ iG V.length v) := NC hr'
        refine ⟨_, _, _, _, _, _, _, _, _, ?_, e4.Fh x _, hr2⟩
        simp only [e1, er, Option.bind_some]
        rw [if_neg (by simp)]
        exact fin (e4.Fh x _) hr2
    · rw [if_neg (by simpa using hk2)]
      obtain ⟨σ1, σ2, q', l', A', js', e1, e2, e3, e4⟩ := h.Y3 (by omega) ha0 ha5 t.2.2.2.2.1
      have hr' : Rf σ2 x a C V := by unfold Rf; rw [e4]; exact hr
      have h3 := e3.more (k' := i + 1) (by omega)
      refine ⟨_, _, _, _, _, _, _, _, _, ?_, h3, hr'⟩
      simp only [e1, e2, Option.bind_some]
      rw [if_neg (by simp)]
      exact fin h3 hr'
end
end Go.Proofs.YtbnmhjobnepajaaGreat.M


namespace Go.Proofs.YtbnmhjobnepajaaGreat.M

section
variable {σ σ0 σ1 : St} {q l d n0 k : Nat} {a : Int} {A : AD} {js : List Nat} {segs : List Sg} {R : List (List UInt8)} {C : List jG} {V : List VdT}
theorem OM {p1 : List UA} {x0 x1 : ((Option Nat) × Int) × St} (ha0 : 0 ≤ a) (ha5 : a ≤ 5) (hx0 : x0.1.1 = some d) (hp : ∀ t ∈ p1, FT t) : ∀ (k i : Nat), i + k = min p1.length 60 → ∀ {σ : St} {q l : Nat} {R : List (List UInt8)} {C : List jG} {V : List VdT} {A : AD} {js : List Nat} {segs : List Sg},
    QN σ q l d n0 a R C V A js segs i → Rf σ x1.2.ak.length a C V → ∃ σ', aY (eF a p1 x0 x1) (some q, (i : Int), σ) = some (.inl σ')
  | 0, i, hi, σ, q, l, R, C, V, A, js, segs, h, hr => ⟨σ, jP (by
      unfold eF
      rw [if_neg (by simp; omega)])⟩
  | k + 1, i, hi, σ, q, l, R, C, V, A, js, segs, h, hr => by
    obtain ⟨σ', q', l', R', C', V', A', js', segs', e1, e2, e3⟩ := XI ha0 ha5 hx0 hp (i := i) (by omega) (by omega) h hr
    rw [kZ e1]
    exact OM ha0 ha5 hx0 hp k (i + 1) (by omega) e2 e3
theorem ace (σ : St) (ys : List (aA lC)) : Low σ (σ.dB ys) :=
  ⟨fun _ _ => rfl, fun _ _ => rfl, fun _ _ => rfl, fun _ _ => rfl, fun _ _ => rfl, Nat.le_refl _, Nat.le_refl _, Nat.le_refl _, Nat.le_refl _, Nat.le_refl _⟩
theorem XJ {p1 : List UA} (hp : ∀ t ∈ p1, FT t) (σ : St) : ∃ σ', fJ a p1 σ = some (true, σ') := by
  by_cases ha : 0 ≤ a ∧ a ≤ 5
  · obtain ⟨σa, σ2, q, l, A, e1, e2, h0, e3⟩ := QA.start σ ha.1 ha.2
    obtain ⟨σ3, w1, w2, w3⟩ := Sl (σ2.dB (σ2.ak ++ [(a, [], [], ())]))
    have h1 : QN σ3 q l _ _ a [] [] [] A [] [] 0 := h0.toN.up ((ace σ2 _).trans w2)
    have hr : Rf σ3 σ2.ak.length a [] [] := by
      unfold Rf
      rw [w3]
      show (σ2.ak ++ [(a, [], [], ())])[σ2.ak.length]? = _
      simp
    obtain ⟨σ', l1⟩ := OM (x0 := ((some σ.af.length, 0), σa)) (x1 := ((some q, 0), σ2)) (p1 := p1) ha.1 ha.2 rfl hp (min p1.length 60) 0 (by omega) h1 hr
    refine ⟨σ', ?_⟩
    unfold fJ
    rw [e1]
    simp only [Option.bind_some]
    rw [e2]
    simp only [Option.bind_some]
    rw [if_neg (by simp; omega), if_pos (by simp), w1]
    simp only [Option.bind_some]
    rw [if_neg (by simp)]
    rw [show ((0 : Nat) : Int) = (0 : Int) from rfl] at l1
    rw [l1]
    rfl
  · obtain ⟨σa, e1, -⟩ := start (a := 0) σ (by decide) (by decide) (room := 1048576) (by decide) (by decide)
    obtain ⟨σ3, w1, w2, w3⟩ := Sl σa
    refine ⟨σ3, ?_⟩
    unfold fJ
    rw [e1]
    simp only [Option.bind_some]
    have e2 : eQ (some σ.af.length) a σa = some ((none, 14), σa) := by
      unfold eQ
      rw [if_neg (by simp), if_pos (by simp; omega)]
    rw [e2]
    simp only [Option.bind_some]
    rw [if_pos (by simp; omega), w1]
    simp
end
end Go.Proofs.YtbnmhjobnepajaaGreat.M


namespace Go.Proofs.YtbnmhjobnepajaaGreat.M

theorem X9 : ∀ t tab, aV TB St.none t = some tab → tab.xs.length = 0 := by
  intro t tab h
  unfold TB St.none at h
  simp only [aV] at h
  repeat' split at h
  all_goals first
    | (simp only [Option.some.injEq] at h; subst h; rfl)
    | cases h
theorem wf_i64 {n : Int} (h : (Lit.int .i64 n).wf = true) : I64 n := by
  simp only [Lit.wf, Bool.and_eq_true, decide_eq_true_eq] at h
  have h1 : IntKind.i64.min = -9223372036854775808 := by decide
  have h2 : IntKind.i64.max = 9223372036854775807 := by decide
  rw [h1, h2] at h
  exact ⟨h.1, by omega⟩
theorem abd {t : UA} (f : Kd.Fits bD t) (m : Kd.Sm 1048576 bD t) : FT t := by
  obtain ⟨f1, f2, ⟨f3, f4, f5, f6, ⟨f7, f8⟩, f9, -⟩, ⟨f10, f11⟩, ⟨f12, f13⟩, -⟩ := f
  obtain ⟨-, -, ⟨-, -, m5, -, ⟨m7, -⟩, -, -⟩, ⟨m10, -⟩, -, -⟩ := m
  refine ⟨?_, wf_i64 f6, fun n hn => wf_i64 (f8 n hn), m7, wf_i64 f9, fun v hv => ⟨wf_i64 (f11 v hv).1, wf_i64 (f11 v hv).2.1⟩, m10⟩
  have : t.2.2.1.2.2.1.length ≤ 1048576 := m5
  omega
theorem YK {l : List UA} (f : Kd.Fits (.list bD) l) (m : Kd.Sm 1048576 (.list bD) l) : ∀ t ∈ l, FT t := fun t ht => abd (f.2 t ht) (m.2 t ht)
theorem Jg {x0 : Kd.den .i} {x1 : Kd.den (.list bD)} (f0 : Kd.Fits .i x0) (m0 : Kd.Sm 1048576 .i x0) (f1 : Kd.Fits (.list bD) x1) (m1 : Kd.Sm 1048576 (.list bD) x1) : ∃ σ', fJ x0 x1 St.none = some (true, σ') :=
  XJ (YK f1 m1) St.none
end Go.Proofs.YtbnmhjobnepajaaGreat.M

