/- Own texts, laid together: PY6 PY7 PY8 PQ0 PQ1 PQ2 PQ3 PQ4 PQ5 PQ6 PQ7 PQ8 PQ9 PQA PQB PR0 PQE PQF PQG PQH PR4. -/
import Derived.Test.YtbnmhjobnepajaaGreatZ1
import Derived.Test.YtbnmhjobnepajaaGreatZ2
import Derived.Test.YtbnmhjobnepajaaGreatZ3
import Derived.Test.YtbnmhjobnepajaaGreatZ4
import Derived.Test.YtbnmhjobnepajaaGreatZ5
set_option linter.unusedVariables false
set_option linter.unusedSimpArgs false
namespace Go.Proofs.YtbnmhjobnepajaaGreat.M

section
variable {σ : St} {l d n0 : Nat} {most : Int} {js : List Nat} {segs : List Sg} {safe s : Nat} {A : AD}

theorem ZW (h : WS σ l d n0 most A js [] safe s) (hd : kY A = false) {x : List UInt8} (hx : OkR x) : ∃ v e σ' B js' segs' safe' s', Qz σ l d n0 most A js [] safe s x v e σ' B js' segs' safe' s' := by
  have hx' : x.length ≤ 1024 := hx
  have hn0 : aK [] = 0 := rfl
  have hj : js = [] := by
    have := dA.len h.lg.lie
    exact List.eq_nil_of_length_eq_zero (by simpa using this)
  refine PG h hd hx (by decide) (by simp) (.inl rfl) ?_ ?_
  · intro σ1 B1 l1 g1 e σ2 g2 n2 l2
    have h1 := l1.add ((aK [] : Int), [], 0, ())
    have hlo1 := h1.lo
    have hlo2 := l2.lo
    have e98 := Ri (g := 0) h1 (j := σ1.ae.length) oG (n := aK []) rfl (by decide)
    unfold f59
    simp only [Option.isNone_some, Bool.false_eq_true, if_false, DZ h.lg h.good (by simp), MS h.lg, Option.bind_eq_bind, Option.bind_some]
    rw [if_neg (by simp; omega)]
    simp only [Option.isNone_none, if_true]
    rw [g1]
    simp only [Option.bind_some]
    rw [if_neg (by simp), Vw (by decide) hx]
    simp only [Option.bind_some, hlo1, e98]
    rw [g2]
    simp only [Option.bind_some]
    by_cases c : e = 0
    · subst c
      rw [if_neg (by simp), if_pos rfl, n2]
      simp only [Option.bind_some]
      rw [if_pos (by decide), GI]
      have hlo3 : (σ2.ay σ1.ae.length ((aK [] : Int), [] ++ [x], IntKind.wrap .i64 (0 + ((iT (aK []) x).length : Int)), ())).ak[l]? = some (some d, nmL, most, js.map some, ((aK [] : Nat) : Int), ()) := hlo2
      rw [hlo3]
      simp only [Option.bind_some]
      have hrl := NY (n := aK []) (by decide) hx
      rw [if_pos (by rw [hj]; decide)]
      have hw : IntKind.wrap .i64 (0 + ((iT (aK []) x).length : Int)) = ((iT (aK []) x).length : Int) := by rw [aP (by omega) (by omega)]; omega
      rw [hw]
      rfl
    · rw [if_pos (by simpa using c), if_neg c]
  · intro σ1 g1
    unfold f59
    simp only [Option.isNone_some, Bool.false_eq_true, if_false, DZ h.lg h.good (by simp), MS h.lg, Option.bind_eq_bind, Option.bind_some]
    rw [if_neg (by simp; omega)]
    simp only [Option.isNone_none, if_true]
    rw [g1]
    simp only [Option.bind_some]
    rw [if_pos (by simp)]

theorem ZX {pre : List Sg} {g : Sg} (h : WS σ l d n0 most A js (pre ++ [g]) safe s) (hd : kY A = false) {x : List UInt8} (hx : OkR x) (hn : aK (pre ++ [g]) + 1 ≤ 1000000) (hln : (pre ++ [g]).length ≤ 800) (hmo : 1 ≤ most) :
    ∃ v e σ' B js' segs' safe' s', Qz σ l d n0 most A js (pre ++ [g]) safe s x v e σ' B js' segs' safe' s' := by
  have hx' : x.length ≤ 1024 := hx
  obtain ⟨jp, j, ej, q1, q2⟩ := h.lg.split
  have hjl : jp.length = pre.length := dA.len q1
  have hlo := h.lg.lo
  have htop := h.good.XC (g := g) (by simp)
  have htg := h.good.top g (by simp)
  have hlB := h.good.aeg (g := g) (by simp)
  have hrl := NY (n := aK (pre ++ [g])) (by unfold OkN; omega) hx
  have e97 := MR h.lg (by simp at hln; omega) ej
  have e55 := DZ h.lg h.good (by omega)
  have hml : (js.map some).length = pre.length + 1 := by rw [ej]; simp [hjl]
  have hml2 : (js.map some).length ≤ 800 := by rw [hml]; simp at hln; omega
  by_cases hfresh : most ≤ ((sgB g).length : Int)
  · have hpos : 0 < g.2.length := by
      rcases Nat.eq_zero_or_pos g.2.length with h0 | h0
      · have : g.2 = [] := List.eq_nil_of_length_eq_zero h0
        unfold sgB at hfresh
        rw [this] at hfresh
        simp [iq] at hfresh
        omega
      · exact h0
    refine PG h hd hx hn hln (.inr (by rw [qC]; exact hpos)) ?_ ?_
    · intro σ1 B1 l1 g1 e σ2 g2 n2 l2
      have h1 := l1.add ((aK (pre ++ [g]) : Int), [], 0, ())
      have hlo1 := h1.lo
      have hlo2 := l2.lo
      have e98 := Ri (g := 0) h1 (j := σ1.ae.length) oG (n := aK (pre ++ [g])) rfl (by omega)
      unfold f59
      simp only [Option.isNone_some, Bool.false_eq_true, if_false, e55, e97, q2, hlo, Option.bind_eq_bind, Option.bind_some]
      rw [if_neg (by simp; omega), if_pos (by simpa using hfresh), g1]
      simp only [Option.bind_some]
      rw [if_neg (by simp), Vw (by unfold OkN; omega) hx]
      simp only [Option.bind_some, hlo1, e98]
      rw [g2]
      simp only [Option.bind_some]
      by_cases c : e = 0
      · subst c
        rw [if_neg (by simp), if_pos rfl, n2]
        simp only [Option.bind_some]
        rw [if_pos (by simp), if_pos (by simpa using hfresh), GI]
        have hlo3 : (σ2.ay σ1.ae.length ((aK (pre ++ [g]) : Int), [] ++ [x], IntKind.wrap .i64 (0 + ((iT (aK (pre ++ [g])) x).length : Int)), ())).ak[l]? = some (some d, nmL, most, js.map some, ((aK (pre ++ [g]) : Nat) : Int), ()) := hlo2
        rw [hlo3]
        simp only [Option.bind_some]
        rw [if_pos (by omega)]
        have hw : IntKind.wrap .i64 (0 + ((iT (aK (pre ++ [g])) x).length : Int)) = ((iT (aK (pre ++ [g])) x).length : Int) := by rw [aP (by omega) (by omega)]; omega
        rw [hw]
        rfl
      · rw [if_pos (by simpa using c), if_neg c]
    · intro σ1 g1
      unfold f59
      simp only [Option.isNone_some, Bool.false_eq_true, if_false, e55, e97, q2, hlo, Option.bind_eq_bind, Option.bind_some]
      rw [if_neg (by simp; omega), if_pos (by simpa using hfresh), g1]
      simp only [Option.bind_some]
      rw [if_pos (by simp)]
  · obtain ⟨e, σ2, B, g2, r2, a2, v2, k3, k4, o⟩ := YC h.dv h.ok h.good hd h.dl hx
    have hnx : aK (pre ++ [g]) = sgN g := gV pre g
    have l2 := h.lg.same r2.oth
    have hlo2 := l2.lo
    have q2' : σ2.ae[j]? = some ((g.1 : Int), g.2, ((sgB g).length : Int), ()) := by
      obtain ⟨jp', j', e', q3, q4⟩ := l2.split
      rw [ej] at e'
      obtain ⟨_, e''⟩ := List.append_inj' e' rfl
      simp only [List.cons.injEq, and_true] at e''
      rw [e'']; exact q4
    have hrun : f59 (some l) x σ = some (if e = 0 then (((aK (pre ++ [g]) : Int), 0), σ2.ay j ((g.1 : Int), g.2 ++ [x], ((sgB (g.1, g.2 ++ [x])).length : Int), ())) else ((0, e), σ2)) := by
      unfold f59
      simp only [Option.isNone_some, Bool.false_eq_true, if_false, e55, e97, q2, hlo, Option.bind_eq_bind, Option.bind_some]
      rw [if_neg (by simp; omega), if_neg (by simpa using hfresh), Vw (by unfold OkN; omega) hx, Rj h.lg q2 htop]
      simp only [Option.bind_some]
      rw [hnx, g2]
      simp only [Option.bind_some]
      by_cases c : e = 0
      · subst c
        rw [if_neg (by simp), if_pos rfl, q2']
        simp only [Option.bind_some]
        unfold sgN at htg
        rw [if_pos (by omega), if_neg (by simpa using hfresh), GI]
        simp only [Option.bind_some]
        have hsz : ((sgB (g.1, g.2 ++ [x])).length : Int) = ((sgB g).length : Int) + ((iT (sgN g) x).length : Int) := by
          unfold sgB
          rw [Bv, List.length_append]
          simp only [iq, List.append_nil]
          unfold sgN
          push_cast; rfl
        rw [hnx] at hrl
        have hw : IntKind.wrap .i64 (((sgB g).length : Int) + ((iT (sgN g) x).length : Int)) = ((sgB (g.1, g.2 ++ [x])).length : Int) := by rw [hsz, aP (by omega) (by omega)]
        rw [hw]
      · rw [if_pos (by simpa using c), if_neg c]
    have hmore : More (pre ++ [g]) x (pre ++ [(g.1, g.2 ++ [x])]) := .same
    rcases o with ⟨rfl, o1, o2⟩ | ⟨rfl, o1, o2, o2x⟩ | ⟨rfl, o1, o2, o3⟩
    · rw [if_pos rfl] at hrun
      refine ⟨_, _, _, B, js, _, safe, s, hrun, r2.fw.trans (Fw.of rfl rfl rfl), a2, v2, .inl ⟨rfl, rfl, o1, hmore, Ci h, ?_, k3.same rfl rfl, k4, o2, hmore.good h.good hx hn, by have := hmore.len.1; omega, ?_⟩, Nat.le_refl _⟩
      · rw [ej] at l2 ⊢
        exact l2.more
      · rw [h.sf, lJ, lJ]
    · rw [if_neg (by decide)] at hrun
      exact ⟨_, _, _, B, js, _, safe, s, hrun, r2.fw, a2, v2, .inr (.inl ⟨rfl, o1, rfl, o2x, l2, k3, k4, o2, h.good, h.len, h.sf⟩), Nat.le_refl _⟩
    · rw [if_neg (by decide)] at hrun
      exact ⟨_, _, _, B, js, _, safe, s, hrun, r2.fw, a2, v2, .inr (.inr ⟨rfl, o1, o2, .inr hmore, Vr l2, by rw [h.sf, lJ, lJ]; exact Nat.le_refl _, k3, k4, o3⟩), Nat.le_refl _⟩

theorem adt (h : WS σ l d n0 most A js segs safe s) (hd : kY A = false) {x : List UInt8} (hx : OkR x) (hn : aK segs + 1 ≤ 1000000) (hln : segs.length ≤ 800) (hmo : 1 ≤ most) :
    ∃ v e σ' B js' segs' safe' s', Qz σ l d n0 most A js segs safe s x v e σ' B js' segs' safe' s' := by
  rcases List.eq_nil_or_concat segs with rfl | ⟨pre, g, rfl⟩
  · exact ZW h hd hx
  · rw [List.concat_eq_append] at *
    exact ZX h hd hx hn hln hmo

end
end Go.Proofs.YtbnmhjobnepajaaGreat.M


namespace Go.Proofs.YtbnmhjobnepajaaGreat.M

noncomputable def Sub (R : List (List UInt8)) (g : Sg) : Prop := ∃ a c, R = a ++ g.2 ++ c ∧ a.length = g.1

theorem Sub.get {R : List (List UInt8)} {g : Sg} (h : Sub R g) {i : Nat} (h1 : g.1 ≤ i) (h2 : i < sgN g) : R[i]? = g.2[i - g.1]? := by
  obtain ⟨a, c, rfl, e⟩ := h
  unfold sgN at h2
  rw [List.append_assoc, List.getElem?_append_right (by omega), e, List.getElem?_append_left (by omega)]

theorem Sub.app {R : List (List UInt8)} {g : Sg} (h : Sub R g) (x : List UInt8) : Sub (R ++ [x]) g := by
  obtain ⟨a, c, rfl, e⟩ := h
  exact ⟨a, c ++ [x], by simp, e⟩

theorem Sub.more {R : List (List UInt8)} {segs segs' : List Sg} {x : List UInt8} (h : More segs x segs') (hR : ∀ g ∈ segs, Sub R g) (hn : aK segs = R.length) : ∀ g ∈ segs', Sub (R ++ [x]) g := by
  cases h with
  | fresh h =>
    intro g hg
    rcases List.mem_append.1 hg with hg | hg
    · exact (hR g hg).app x
    · simp only [List.mem_cons, List.not_mem_nil, or_false] at hg
      subst hg
      exact ⟨R, [], by simp, hn.symm⟩
  | @same pre g0 x =>
    intro g hg
    rcases List.mem_append.1 hg with hg | hg
    · exact (hR g (List.mem_append.2 (.inl hg))).app x
    · simp only [List.mem_cons, List.not_mem_nil, or_false] at hg
      subst hg
      have h0 := hR g0 (by simp)
      rw [gV] at hn
      obtain ⟨a, c, e1, e2⟩ := h0
      have hc : c = [] := by
        have := congrArg List.length e1
        unfold sgN at hn
        simp only [List.length_append] at this
        exact List.eq_nil_of_length_eq_zero (by omega)
      subst hc
      exact ⟨a, [], by rw [e1]; simp, e2⟩

theorem Chn.adj : ∀ {segs : List Sg} {e : Option Nat}, Chn e segs → ∀ (k : Nat) (h : k + 1 < segs.length), (segs[k + 1]'h).1 = sgN (segs[k]'(by omega))
  | [], _, _, k, h => by simp at h
  | g :: [], _, _, k, h => by simp at h
  | g :: b :: r, e, hc, 0, h => by
    obtain ⟨h1, h2, h3⟩ := hc
    exact h3.1 _ rfl
  | g :: b :: r, e, hc, k + 1, h => by
    obtain ⟨h1, h2, h3⟩ := hc
    have := Chn.adj h3 k (by simpa using h)
    simpa using this

section
variable {σ : St} {l d n0 : Nat} {most : Int} {js : List Nat} {segs : List Sg} {safe s : Nat} {A : AD} {R : List (List UInt8)}

theorem ZV (h : LG σ l d most js segs safe) (hg : Good segs) (hlen : segs.length ≤ 1000) {i : Nat} (h0 : zV segs ≤ i) (hne : segs ≠ []) : ∀ (k : Nat) (hk : k < segs.length), (∀ m (hm : m < segs.length), k < m → i < (segs[m]'hm).1) →
    ∃ z, ∃ hz : z < segs.length, zU (some l) (i : Int) σ (k : Int) = some ((z : Nat) : Int) ∧ (segs[z]'hz).1 ≤ i ∧ ∀ m (hm : m < segs.length), z < m → i < (segs[m]'hm).1 := by
  have hlo := h.lo
  have hjl := dA.len h.lie
  intro k
  induction k with
  | zero =>
    intro hk hm
    have hL := dA.nth h.lie 0 (by omega) hk
    have hf : (segs[0]'hk).1 ≤ i := by
      cases segs with
      | nil => exact absurd rfl hne
      | cons a r => exact h0
    refine ⟨0, hk, ?_, hf, hm⟩
    rw [zU]
    have hx : ix (js.map some) ((0 : Nat) : Int) = some (some (js[0]'(by omega))) := by
      rw [jO (by simp; omega)]; simp
    simp only [hlo, Option.bind_eq_bind, Option.bind_some]
    rw [hx]
    simp only [Option.bind_some, hL]
    rw [if_neg (by simp; omega)]
  | succ k ih =>
    intro hk hm
    have hL := dA.nth h.lie (k + 1) (by omega) hk
    rw [zU]
    have hx : ix (js.map some) (((k + 1 : Nat) : Nat) : Int) = some (some (js[k + 1]'(by omega))) := by
      rw [jO (by simp; omega)]; simp
    simp only [hlo, Option.bind_eq_bind, Option.bind_some]
    rw [hx]
    simp only [Option.bind_some, hL]
    by_cases c : (segs[k + 1]'hk).1 ≤ i
    · rw [if_neg (by simp; omega)]
      exact ⟨k + 1, hk, rfl, c, hm⟩
    · rw [if_pos (by simp; omega)]
      have hw : IntKind.wrap .i64 (((k + 1 : Nat) : Int) - 1) = (k : Int) := by rw [aP (by omega) (by omega)]; omega
      rw [hw]
      refine ih (by omega) (fun m hm2 hlt => ?_)
      by_cases e : m = k + 1
      · subst e; omega
      · exact hm m hm2 (by omega)

theorem ads (h : LG σ l d most js segs safe) (hg : Good segs) (hlen : segs.length ≤ 1000) (hR : ∀ g ∈ segs, Sub R g) {i : Nat} (h1 : zV segs ≤ i) (h2 : i < aK segs) : ∃ y, R[i]? = some y ∧ f58 (some l) (i : Int) σ = some (y, 0) := by
  have hne : segs ≠ [] := by rintro rfl; simp [aK] at h2
  have hpos : 0 < segs.length := List.length_pos_iff.2 hne
  have hjl := dA.len h.lie
  have hlo := h.lo
  obtain ⟨z, hz, e1, e2, e3⟩ := ZV h hg hlen h1 hne (segs.length - 1) (by omega) (fun m hm hlt => by omega)
  have hlt : i < sgN (segs[z]'hz) := by
    by_cases c : z + 1 < segs.length
    · rw [← hg.chain.adj z c]
      exact e3 (z + 1) c (by omega)
    · rcases List.eq_nil_or_concat segs with h0 | ⟨pre, g, h0⟩
      · exact absurd h0 hne
      · rw [List.concat_eq_append] at h0
        subst h0
        rw [gV] at h2
        have hz2 : z = pre.length := by simp at hz c; omega
        subst hz2
        simpa using h2
  have hS := hR (segs[z]'hz) (List.getElem_mem hz)
  have hget := hS.get e2 hlt
  have hidx : i - (segs[z]'hz).1 < (segs[z]'hz).2.length := by unfold sgN at hlt; omega
  rw [List.getElem?_eq_getElem hidx] at hget
  refine ⟨_, hget, ?_⟩
  have hL := dA.nth h.lie z (by omega) hz
  have ht := hg.top _ (List.getElem_mem hz)
  have hnx := Ug hg
  have hx : ix (js.map some) ((z : Nat) : Int) = some (some (js[z]'(by omega))) := by
    rw [jO (by simp; omega)]; simp
  have hw1 : IntKind.wrap .i64 ((((js.map some).length : Nat) : Int) - 1) = ((segs.length - 1 : Nat) : Int) := by
    rw [List.length_map, hjl, aP (by omega) (by omega)]; omega
  have hw2 : IntKind.wrap .i64 ((i : Int) - ((segs[z]'hz).1 : Int)) = ((i - (segs[z]'hz).1 : Nat) : Int) := by rw [aP (by omega) (by omega)]; omega
  unfold f58
  simp only [Option.isNone_some, Bool.false_eq_true, if_false, ZU h, DZ h hg (by omega), hlo, Option.bind_eq_bind, Option.bind_some]
  rw [if_neg (by simp; omega), if_neg (by simp; omega), hw1, e1]
  simp only [Option.bind_some]
  rw [hx]
  simp only [Option.bind_some, hL]
  rw [hw2, jO hidx]
  rfl

noncomputable def Gm (f : FR) (keep : List Int) : FR := (f.1, f.2.1 ++ f.2.2.1.take (qY keep f.2.2.1.length), [], ())

theorem BD : ∀ (L : List FR) (keep : List Int), (∀ f ∈ L, f.2.2.1 = []) → kz L keep = L
  | [], _, _ => rfl
  | f :: r, keep, h => by
    have he := h f List.mem_cons_self
    unfold kz
    have e : ((f.1, f.2.1, [], ()) : FR) = f := by rw [← he]
    have hm : f.2.2.1.isEmpty = true := by rw [he]; rfl
    rw [hm, cond_true, e, BD r keep (fun x hx => h x (List.mem_cons_of_mem _ hx))]

theorem LZ : ∀ (a : List FR) (f : FR) (b : List FR) (keep : List Int), (∀ x ∈ a, x.2.2.1 = []) → (∀ x ∈ b, x.2.2.1 = []) → kz (a ++ f :: b) keep = a ++ Gm f keep :: b
  | [], f, b, keep, ha, hb => by
    rw [List.nil_append, List.nil_append]
    unfold kz
    cases hm : f.2.2.1 with
    | nil =>
      rw [List.isEmpty_nil, cond_true, BD b keep hb]
      unfold Gm
      rw [hm]; simp
    | cons c t =>
      rw [List.isEmpty_cons, cond_false, BD b keep.tail hb]
      unfold Gm
      rw [hm]
  | y :: a, f, b, keep, ha, hb => by
    have he := ha y List.mem_cons_self
    have ih := LZ a f b keep (fun x hx => ha x (List.mem_cons_of_mem _ hx)) hb
    rw [List.cons_append, List.cons_append]
    unfold kz
    have e : ((y.1, y.2.1, [], ()) : FR) = y := by rw [← he]
    have hm : y.2.2.1.isEmpty = true := by rw [he]; rfl
    rw [hm, cond_true, e, ih]

theorem Vf {L : List FR} {pre : List Sg} {f : FR} (h : L.Perm (pre.map lgA ++ [f])) (keep : List Int) : (kz L keep).Perm (pre.map lgA ++ [Gm f keep]) := by
  have hm : f ∈ L := h.mem_iff.2 (by simp)
  obtain ⟨a, b, rfl⟩ := List.append_of_mem hm
  have hp : (a ++ b).Perm (pre.map lgA) := by
    have h1 : (f :: (a ++ b)).Perm (f :: pre.map lgA) := (List.perm_middle.symm.trans h).trans (List.perm_append_comm (l₂ := [f]))
    exact List.Perm.cons_inv h1
  have hall : ∀ x ∈ a ++ b, x.2.2.1 = [] := by
    intro x hx
    obtain ⟨g, hg, rfl⟩ := List.mem_map.1 (hp.mem_iff.1 hx)
    rfl
  rw [LZ a f b keep (fun x hx => hall x (List.mem_append.2 (.inl hx))) (fun x hx => hall x (List.mem_append.2 (.inr hx)))]
  refine List.perm_middle.trans ?_
  exact (List.Perm.cons _ hp).trans (List.perm_append_comm (l₁ := [Gm f keep]))

theorem Ve {g : Sg} (hx : ∀ x ∈ g.2, OkR x) (hs : s ≤ g.2.length) (keep : List Int) : ∃ m t, m ≤ g.2.length - s ∧ (iq (g.1 + s) (g.2.drop s)).take (qY keep (iq (g.1 + s) (g.2.drop s)).length) = iq (g.1 + s) ((g.2.drop s).take m) ++ t ∧ Gm (lgF g s) keep = vG (g.1, g.2.take (s + m)) t ∧ G5 (sgN (g.1, g.2.take (s + m))) t := by
  obtain ⟨m, t, h1, h2, h3⟩ := Qk (g.1 + s) (g.2.drop s) (qY keep (iq (g.1 + s) (g.2.drop s)).length) (fun x hxx => hx x (List.mem_of_mem_drop hxx))
  rw [List.length_drop] at h1
  refine ⟨m, t, h1, h2, ?_, ?_⟩
  · unfold Gm lgF vG
    simp only []
    rw [h2]
    have e : sgB (g.1, g.2.take (s + m)) = iq g.1 (g.2.take s) ++ iq (g.1 + s) ((g.2.drop s).take m) := by
      unfold sgB
      simp only []
      rw [List.take_add, Bv]
      have : (g.2.take s).length = s := by rw [List.length_take]; omega
      rw [this]
    rw [e, List.append_assoc]
  · have : sgN (g.1, g.2.take (s + m)) = g.1 + s + m := by
      unfold sgN
      simp only [List.length_take]; omega
    rw [this]; exact h3

theorem Good.cut {pre : List Sg} {g : Sg} (h : Good (pre ++ [g])) (m : Nat) : Good (pre ++ [(g.1, g.2.take m)]) := by
  refine ⟨h.chain.last rfl, ?_, ?_⟩
  · intro a ha
    rcases List.mem_append.1 ha with ha | ha
    · exact h.recs a (List.mem_append.2 (.inl ha))
    · simp only [List.mem_cons, List.not_mem_nil, or_false] at ha
      subst ha
      exact fun x hx => h.recs g (by simp) x (List.mem_of_mem_take hx)
  · intro a ha
    rcases List.mem_append.1 ha with ha | ha
    · exact h.top a (List.mem_append.2 (.inl ha))
    · simp only [List.mem_cons, List.not_mem_nil, or_false] at ha
      subst ha
      have := h.top g (by simp)
      unfold sgN at *
      simp only [List.length_take]; omega

structure CSW (σ : St) (d n0 : Nat) (A : AD) (segs : List Sg) (s : Nat) : Prop where
  dv : DV σ d n0 A
  ok : OkA A
  dl : DLs A.2.1 segs s
  good : Good segs
  len : segs.length ≤ 900

theorem L6 (h : CSW σ d n0 A segs s) (keep : List Int) (h1 : 64 ≤ most) (h2 : most ≤ 65536) :
    ∃ σ1 σ2 B js' segs', f27 (some d) keep σ = some (0, σ1) ∧ f53 (some d) nmL most σ1 = some ((some σ1.ak.length, 0), σ2) ∧ Fw σ σ2 d n0 ∧ ExW σ σ2 σ1.ak.length ∧ σ1.ak.length = σ.ak.length ∧ B.1 = A.1 ∧ oZ B = 0 ∧ kY B = false ∧
      WS σ2 σ1.ak.length d n0 most B js' segs' (aK segs') (kS segs') ∧ DV σ1 d n0 (DI A keep) ∧
      ((segs = [] ∧ segs' = []) ∨ ∃ pre g m, segs = pre ++ [g] ∧ segs' = pre ++ [(g.1, g.2.take (s + m))] ∧ m ≤ g.2.length - s ∧ s ≤ g.2.length ∧
        ∃ t, (iq (g.1 + s) (g.2.drop s)).take (qY keep (iq (g.1 + s) (g.2.drop s)).length) = iq (g.1 + s) ((g.2.drop s).take m) ++ t) := by
  obtain ⟨σ1, g1, g2, g3⟩ := adk h.dv h.ok keep
  have hok := h.ok.WC keep
  have e128 : σ1.ak = σ.ak := congrArg (fun x => x.2.1) g3.oth
  rcases List.eq_nil_or_concat segs with h0 | ⟨pre, g, h0⟩
  · have hdl := h.dl
    rw [h0] at hdl
    have hL : (DI A keep).2.1 = [] := by
      show kz A.2.1 keep = []
      rw [(hdl.inv0).1]; rfl
    obtain ⟨σ2, e1, e2, e2x, e3, e4⟩ := P9 g2 hok rfl hL h1 h2
    refine ⟨σ1, σ2, DI A keep, [], [], g1, e1, g3.fw.trans e2, g3.ex.trans e2x, by rw [e128], rfl, rfl, rfl, ⟨e4, e3, hok, by rw [hL]; exact .none rfl, ⟨trivial, by simp, by simp⟩, by simp, rfl⟩, g2, .inl ⟨h0, rfl⟩⟩
  · rw [List.concat_eq_append] at h0
    have hdl := h.dl
    have hgood := h.good
    have hlen := h.len
    rw [h0] at hdl hgood hlen
    obtain ⟨hp, hs⟩ := hdl.inv
    obtain ⟨m, t, m1, m2, m3, m4⟩ := Ve (g := g) (s := s) (hgood.recs g (by simp)) hs keep
    have hcp := Vf hp keep
    rw [m3] at hcp
    have hgc := hgood.cut (s + m)
    obtain ⟨σ2, B, js', e1, e2, e2x, e3, e4, e5, e6, e7, e8, e9⟩ := Yu (most := most) g2 hok rfl rfl hgc (by simp at hlen ⊢; omega) m4 hcp h1 h2
    refine ⟨σ1, σ2, B, js', _, g1, e1, g3.fw.trans e2, g3.ex.trans e2x, by rw [e128], e3, e4, e5, ⟨e8, e6, e7, e9, hgc, by simp at hlen ⊢; omega, (Cf _).symm⟩, g2, .inr ⟨pre, g, m, h0, rfl, m1, hs, t, m2⟩⟩
end
end Go.Proofs.YtbnmhjobnepajaaGreat.M


namespace Go.Proofs.YtbnmhjobnepajaaGreat.M

section
variable {σ : St} {l d n0 : Nat} {most : Int} {js : List Nat} {segs : List Sg} {safe s : Nat} {A : AD} {R : List (List UInt8)}

theorem More.sz {segs' : List Sg} {x : List UInt8} (h : More segs x segs') : szS segs' = szS segs + (24 + x.length) := by
  cases h with
  | fresh h => simp [szS, szR]
  | same => simp [szS, szR]; omega

theorem More.first {segs' : List Sg} {x : List UInt8} (h : More segs x segs') : zV segs' = zV segs := by
  cases h with
  | @fresh segs x h =>
    cases segs with
    | nil => rfl
    | cons a r => rfl
  | @same pre g x =>
    cases pre with
    | nil => rfl
    | cons a r => rfl

theorem WS.new (hD : DV σ d n0 A) (hA : OkA A) (hL : A.2.1 = []) (hG : LG σ l d most [] [] 0) : WS σ l d n0 most A [] [] 0 0 :=
  ⟨hG, hD, hA, by rw [hL]; exact .none rfl, ⟨trivial, by simp, by simp⟩, by simp, rfl⟩

end
end Go.Proofs.YtbnmhjobnepajaaGreat.M


namespace Go.Proofs.YtbnmhjobnepajaaGreat.M

abbrev QuT : Type := Int × Option Nat × List iV × List VdT × Unit
noncomputable def ED (σ : St) (q : Nat) (x : QuT) : St := σ.bW (σ.ai.set q x)
theorem Un {σ : St} {q : Nat} {y x : QuT} (h : σ.ai[q]? = some y) : (ED σ q x).ai[q]? = some x := by
  have := (List.getElem?_eq_some_iff.1 h).1
  unfold ED St.bW
  simp [this]
noncomputable def rO (v w : Nat) (l : List VdT) : Bool := qH (fun i (x : VdT) => decide (x.1 = ((v + 1 + i : Nat) : Int))) 0 l && (decide (0 < l.length) && decide (l.length ≤ w))

section
variable {σ : St} {q : Nat} {a : Int} {lo : Option Nat} {W : List iV} {V : List VdT}
theorem SG (h : σ.ai[q]? = some (a, lo, W, V, ())) (hv : V.length ≤ 1000000) : dC (some q) σ = some ((V.length + 1 : Nat) : Int) := by
  unfold dC
  rw [if_neg (by simp), Option.bind_some, h]
  simp only [Option.bind_some]
  rw [bI (by omega)]
theorem Wj (h : σ.ai[q]? = some (a, lo, W, V, ())) (hv : V.length ≤ 1000000) (hw : W.length ≤ 1000000) : dQ (some q) σ = some ((V.length + W.length + 1 : Nat) : Int) := by
  unfold dQ
  simp only [Option.isNone_some, Bool.false_eq_true, if_false, Option.bind_some, h]
  have e : IntKind.wrap .i64 ((V.length : Int) + (W.length : Int)) = ((V.length + W.length : Nat) : Int) := by rw [aP (by omega) (by omega)]; omega
  rw [e, bI (by omega)]
theorem Xa (h : σ.ai[q]? = some (a, lo, W, V, ())) (hv : V.length ≤ 1000000) (hw : W.length ≤ 1000000) {l : List VdT} (hl : l.length ≤ 2000000) : jH (some q) l σ = some (rO V.length W.length l) := by
  unfold jH rO
  rw [Fg (l := l) (fun i (x : VdT) => decide (x.1 = ((V.length + 1 + i : Nat) : Int))) (e := false) (fun i hi => ?_) (by unfold nG; simp)]
  · cases hx : qH (fun i (x : VdT) => decide (x.1 = ((V.length + 1 + i : Nat) : Int))) 0 l with
    | false => rfl
    | true =>
      simp only [if_true, Option.bind_some, jR, Bool.true_and]
      by_cases h0 : 0 < l.length
      · have h0' : ((l.length : Int) > 0) := by omega
        simp only [h0', h0, decide_true, if_true, Option.bind_some, h, Bool.true_and]
        congr 1
        exact decide_eq_decide.2 (by omega)
      · have h0' : ¬ ((l.length : Int) > 0) := by omega
        simp only [h0', h0, decide_false, Bool.false_eq_true, if_false, Option.bind_some, Bool.false_and]
  · unfold nG
    have e : IntKind.wrap .i64 (((V.length + 1 : Nat) : Int) + (i : Int)) = ((V.length + 1 + i : Nat) : Int) := by rw [aP (by omega) (by omega)]; omega
    simp only [bI (i := i) (by omega), jO hi, Option.bind_some, SG h hv, e]
    rw [if_pos (by simp; omega)]
    by_cases hc : l[i].1 = ((V.length + 1 + i : Nat) : Int)
    · rw [if_neg (by simpa using hc), if_pos (by simpa using hc)]
    · rw [if_pos (by simpa using hc), if_neg (by simpa using hc)]
theorem Xz (h : σ.ai[q]? = some (a, lo, W, V, ())) (hv : V.length ≤ 1000000) (hw : W.length ≤ 1000000) {l : List VdT} (hl : l.length ≤ W.length) : jI (some q) l σ = some ((), ED σ q (a, lo, W.drop l.length, V ++ l, ())) := by
  have hq := (List.getElem?_eq_some_iff.1 h).1
  unfold jI
  simp only [Option.bind_some, h]
  rw [if_pos (by omega)]
  simp only [and_self, if_true, Option.bind_some, List.getElem?_set_self hq]
  rw [if_pos (by omega), if_pos (by simp; omega)]
  rw [show ((l.length : Int)).toNat = l.length by omega]
  unfold ED St.bW
  simp
end
end Go.Proofs.YtbnmhjobnepajaaGreat.M


namespace Go.Proofs.YtbnmhjobnepajaaGreat.M

noncomputable def recC (c : iV) : List UInt8 := 99 :: xy c
noncomputable def vw (l : List VdT) : List UInt8 := 118 :: sZ l
inductive vJ (a : Int) : List (List UInt8) → List iV → List VdT → Prop where
  | nil : vJ a [] [] []
  | cmd {R : List (List UInt8)} {C : List iV} {V : List VdT} {c : iV} : vJ a R C V → kU c = true → c.1 = a → c.2.1 = ((C.length + 1 : Nat) : Int) → vJ a (R ++ [recC c]) (C ++ [c]) V
  | vds {R : List (List UInt8)} {C : List iV} {V l : List VdT} : vJ a R C V → kL l = true → rO V.length (C.length - V.length) l = true → vJ a (R ++ [vw l]) C (V ++ l)

theorem Am {v w : Nat} {l : List VdT} (h : rO v w l = true) : 0 < l.length ∧ l.length ≤ w := by
  unfold rO at h
  simp only [Bool.and_eq_true, decide_eq_true_eq] at h
  exact h.2
theorem vJ.len {a : Int} {R : List (List UInt8)} {C : List iV} {V : List VdT} (h : vJ a R C V) : C.length ≤ R.length ∧ V.length ≤ C.length := by
  induction h with
  | nil => simp
  | cmd _ _ _ _ ih => simp only [List.length_append, List.length_cons, List.length_nil]; omega
  | vds _ _ hf ih => have := Am hf; simp only [List.length_append, List.length_cons, List.length_nil]; omega
theorem vJ.each {a : Int} {R : List (List UInt8)} {C : List iV} {V : List VdT} (h : vJ a R C V) : ∀ c ∈ C, kU c = true ∧ c.1 = a := by
  induction h with
  | nil => simp
  | cmd _ h1 h2 _ ih =>
    intro c hc
    rcases List.mem_append.1 hc with hc | hc
    · exact ih c hc
    · simp only [List.mem_singleton] at hc; subst hc; exact ⟨h1, h2⟩
  | vds _ _ _ ih => exact ih
section
variable {σ : St} {q : Nat} {a : Int} {lo : Option Nat} {W : List iV} {V : List VdT}
theorem Zg (h : σ.ai[q]? = some (a, lo, W, V, ())) (hv : V.length ≤ 1000000) (hw : W.length ≤ 1000000) {c : iV} (hc : kU c = true) (h1 : c.1 = a) (h2 : c.2.1 = ((V.length + W.length + 1 : Nat) : Int)) :
    ng (some q) (xy c) σ = some (true, ED (rdr σ (xy c, ((xy c).length : Int), 0, ())) q (a, lo, W ++ [c], V, ())) := by
  unfold ng
  rw [YR hc]
  have h' : (rdr σ (xy c, ((xy c).length : Int), 0, ())).ai[q]? = some (a, lo, W, V, ()) := h
  simp only [Option.bind_some, h', Wj h' hv hw, Bool.not_true, Bool.not_false, if_true]
  rw [if_pos (by simp [h1]), if_neg (by simp [h2]), if_pos (by omega)]
  simp only [and_self, if_true]
  rfl
theorem abl (h : σ.ai[q]? = some (a, lo, W, V, ())) (hv : V.length ≤ 1000000) (hw : W.length ≤ 1000000) {l : List VdT} (hc : kL l = true) (hf : rO V.length W.length l = true) :
    jD (some q) (sZ l) σ = some (true, ED (rdr σ (sZ l, ((sZ l).length : Int), 0, ())) q (a, lo, W.drop l.length, V ++ l, ())) := by
  unfold jD
  rw [YS hc]
  have h' : (rdr σ (sZ l, ((sZ l).length : Int), 0, ())).ai[q]? = some (a, lo, W, V, ()) := h
  obtain ⟨f1, f2⟩ := Am hf
  simp only [Option.bind_some, Bool.not_true, Bool.not_false, if_true, Xa h' hv hw (l := l) (by omega), hf, Bool.or_self, Bool.false_eq_true, if_false, Xz h' hv hw f2]
theorem acv {ci : Nat} (hci : σ.bD[ci]? = some (some q, ())) (h : σ.ai[q]? = some (a, lo, W, V, ())) (hv : V.length ≤ 1000000) (hw : W.length ≤ 1000000) {c : iV} (hc : kU c = true) (h1 : c.1 = a) (h2 : c.2.1 = ((V.length + W.length + 1 : Nat) : Int)) :
    jo (recC c) ci σ = some (true, ED (rdr σ (xy c, ((xy c).length : Int), 0, ())) q (a, lo, W ++ [c], V, ())) := by
  have hb : btS (recC c) 0 = 99 := by
    rw [show (0 : Int) = ((0 : Nat) : Int) from rfl, BC (by simp [recC])]; rfl
  unfold jo
  rw [if_neg (by simp [recC]), if_pos (by first | (simp [recC]; done) | (simp [recC]; omega)), hb, if_pos (by decide), hci]
  simp only [Option.bind_some]
  rw [if_pos (by first | (simp [recC]; done) | (simp [recC]; omega)), show (recC c).drop 1 = xy c from rfl, Zg h hv hw hc h1 h2]
  rfl
theorem acw {ci : Nat} (hci : σ.bD[ci]? = some (some q, ())) (h : σ.ai[q]? = some (a, lo, W, V, ())) (hv : V.length ≤ 1000000) (hw : W.length ≤ 1000000) {l : List VdT} (hc : kL l = true) (hf : rO V.length W.length l = true) :
    jo (vw l) ci σ = some (true, ED (rdr σ (sZ l, ((sZ l).length : Int), 0, ())) q (a, lo, W.drop l.length, V ++ l, ())) := by
  have hb : btS (vw l) 0 = 118 := by
    rw [show (0 : Int) = ((0 : Nat) : Int) from rfl, BC (by simp [vw])]; rfl
  unfold jo
  rw [if_neg (by simp [vw]), if_pos (by first | (simp [vw]; done) | (simp [vw]; omega)), hb, if_neg (by decide), if_pos (by first | (simp [vw]; done) | (simp [vw]; omega)), if_pos (by decide), hci]
  simp only [Option.bind_some]
  rw [if_pos (by first | (simp [vw]; done) | (simp [vw]; omega)), show (vw l).drop 1 = sZ l from rfl, abl h hv hw hc hf]
  rfl
noncomputable def St.base (σ : St) : St := (σ.bz []).bW []
structure Rp (σ σ' : St) (q : Nat) (x : QuT) : Prop where
  q : σ'.ai = σ.ai.set q x
  o : σ'.base = σ.base
theorem Rp.refl {x : QuT} (h : σ.ai[q]? = some x) : Rp σ σ q x := ⟨by
  refine List.ext_getElem? fun n => ?_
  rw [List.getElem?_set]
  split
  · rename_i hn
    subst hn
    rw [if_pos (List.getElem?_eq_some_iff.1 h).1, h]
  · rfl, rfl⟩
theorem Rp.step {σ' : St} {x : QuT} (h : Rp σ σ' q x) (z : aA kC) (y : QuT) : Rp σ (ED (rdr σ' z) q y) q y := by
  refine ⟨?_, h.o⟩
  show (σ'.ai).set q y = _
  rw [h.q]; simp
theorem Rp.get {σ' : St} {x y : QuT} (h : Rp σ σ' q x) (hq : σ.ai[q]? = some y) : σ'.ai[q]? = some x := by
  rw [h.q, List.getElem?_set_self (List.getElem?_eq_some_iff.1 hq).1]

theorem LG.same2 {l d : Nat} {most : Int} {js : List Nat} {segs : List Sg} {safe : Nat} (h : LG σ l d most js segs safe) {σ' : St} (h1 : σ'.ak = σ.ak) (h2 : σ'.ae = σ.ae) : LG σ' l d most js segs safe := by
  refine ⟨by rw [h1]; exact h.lo, h.nd, h.lie.VE (fun j _ g hg => ?_)⟩
  show σ'.ae[j]? = _
  rw [h2]
  exact hg
variable {l d : Nat} {most : Int} {js : List Nat} {segs : List Sg} {safe : Nat}
theorem replay {x0 : ((Option Nat) × Int) × St} {n : Nat} {Rall : List (List UInt8)} (hl : x0.1.1 = some l) (hci : σ.bD[x0.2.bD.length]? = some (some q, ())) (hq : σ.ai[q]? = some (a, lo, [], [], ())) (hG : LG σ l d most js segs safe) (hg : Good segs) (hlen : segs.length ≤ 1000) (hS : ∀ g ∈ segs, Sub Rall g) (hf : zV segs = 0) (hn : aK segs = Rall.length) (hN : n = Rall.length) (hR : Rall.length ≤ 100000) :
    ∀ {R : List (List UInt8)} {C : List iV} {V : List VdT}, vJ a R C V → ∀ S, Rall = R ++ S → ∃ σ', aY (gK x0 (n : Int)) (0, σ) = aY (gK x0 (n : Int)) ((R.length : Int), σ') ∧ Rp σ σ' q (a, lo, C.drop V.length, V, ()) := by
  have step : ∀ {R : List (List UInt8)} {x : List UInt8} {S : List (List UInt8)} {σ1 σ2 : St} {y : QuT}, Rall = (R ++ [x]) ++ S → Rp σ σ1 q y → jo x x0.2.bD.length σ1 = some (true, σ2) → aY (gK x0 (n : Int)) ((R.length : Int), σ1) = aY (gK x0 (n : Int)) (((R ++ [x]).length : Int), σ2) := by
    intro R x S σ1 σ2 y hr hp h
    have h1 : Rall[R.length]? = some x := by rw [hr, List.append_assoc, List.getElem?_append_right (Nat.le_refl _)]; simp
    have hlt : R.length < Rall.length := (List.getElem?_eq_some_iff.1 h1).1
    have hG1 : LG σ1 l d most js segs safe := hG.same2 (show σ1.base.ak = σ.base.ak by rw [hp.o]) (show σ1.base.ae = σ.base.ae by rw [hp.o])
    obtain ⟨z, z1, z2⟩ := ads hG1 hg hlen hS (i := R.length) (by omega) (by omega)
    rw [h1] at z1
    simp only [Option.some.injEq] at z1; subst z1
    rw [lI (y := (((R ++ [x]).length : Int), σ2))]
    unfold gK
    simp only [ZJ, hl, z2, Option.bind_some, h, bI (i := R.length) (by omega)]
    rw [if_pos (by simp; omega), if_neg (by simp)]
    simp
  intro R C V hP
  induction hP with
  | nil => exact fun S _ => ⟨σ, rfl, Rp.refl hq⟩
  | @cmd R C V c hP h1 h2 h3 ih =>
    intro S hr
    obtain ⟨σ1, e1, e2⟩ := ih ([recC c] ++ S) (by rw [hr]; simp)
    have hb := congrArg List.length hr
    simp only [List.length_append, List.length_cons, List.length_nil] at hb
    obtain ⟨b1, b2⟩ := hP.len
    have hw : (C.drop V.length).length = C.length - V.length := by simp
    have := acv (σ := σ1) (W := C.drop V.length) (V := V) (ci := x0.2.bD.length) (show σ1.base.bD[x0.2.bD.length]? = _ by rw [e2.o]; exact hci) (e2.get hq) (by omega) (by omega) h1 h2 (by rw [h3]; omega)
    refine ⟨_, e1.trans (step hr e2 this), ?_⟩
    have h4 := e2.step (xy c, ((xy c).length : Int), 0, ()) (a, lo, C.drop V.length ++ [c], V, ())
    rw [List.drop_append_of_le_length b2]
    exact h4
  | @vds R C V m hP h1 h2 ih =>
    intro S hr
    obtain ⟨σ1, e1, e2⟩ := ih ([vw m] ++ S) (by rw [hr]; simp)
    have hb := congrArg List.length hr
    simp only [List.length_append, List.length_cons, List.length_nil] at hb
    obtain ⟨b1, b2⟩ := hP.len
    have hw : (C.drop V.length).length = C.length - V.length := by simp
    have := acw (σ := σ1) (W := C.drop V.length) (V := V) (ci := x0.2.bD.length) (show σ1.base.bD[x0.2.bD.length]? = _ by rw [e2.o]; exact hci) (e2.get hq) (by omega) (by omega) h1 (by rw [hw]; exact h2)
    refine ⟨_, e1.trans (step hr e2 this), ?_⟩
    have h4 := e2.step (sZ m, ((sZ m).length : Int), 0, ()) (a, lo, (C.drop V.length).drop m.length, V ++ m, ())
    rw [List.length_append, ← List.drop_drop]
    exact h4
end
end Go.Proofs.YtbnmhjobnepajaaGreat.M


namespace Go.Proofs.YtbnmhjobnepajaaGreat.M

theorem ZY {p : Option Nat} {p1 : St → Option (Unit × St)} {σ σ' : St} {r : Int} (h : f72 p p1 σ = some (r, σ')) (hp : ∀ σ1 u σ2, p1 σ1 = some (u, σ2) → vI σ2 = vI σ1) : vI σ' = vI σ := by
  unfold f72 at h
  simp only [Option.bind_eq_bind, Option.bind_eq_some_iff] at h
  obtain ⟨i4, -, o5, -, h⟩ := h
  split at h
  · simp only [Option.bind_eq_some_iff] at h
    obtain ⟨i7, -, o8, -, i9, -, o10, -, i12, -, o13, -, h⟩ := h
    split at h
    · simp only [Option.bind_eq_some_iff, Option.some.injEq, Prod.mk.injEq] at h
      obtain ⟨i15, -, o16, -, -, rfl⟩ := h
      rfl
    · simp only [Option.bind_eq_some_iff, Option.some.injEq, Prod.mk.injEq] at h
      obtain ⟨⟨u, σ2⟩, h1, -, rfl⟩ := h
      exact (hp _ _ _ h1).trans rfl
  · simp only [Option.bind_eq_some_iff, Option.some.injEq, Prod.mk.injEq] at h
    obtain ⟨⟨u, σ2⟩, h1, -, rfl⟩ := h
    exact hp _ _ _ h1
theorem adw {σ1 : St} {u : Unit} {σ2 : St} (h : f73 σ1 = some (u, σ2)) : vI σ2 = vI σ1 := by
  unfold f73 at h
  simp only [Option.some.injEq, Prod.mk.injEq] at h
  rw [← h.2]
theorem TK {p0 : Option Nat} {z : (Option Nat) × St} {p2 : List UInt8} {σ σ' : St} {r : Int} (hz : vI z.2 = vI σ) (h : (z.1 >>= fun i42 => (z.2.aj[i42]?) >>= fun o43 => if o43.1.length + p2.length ≤ 9223372036854775807 then z.1 >>= fun i45 => (z.2.aj[i45]?) >>= fun o46 => f72 p0 f73 (z.2.aH i45 (o43.1 ++ p2, o46.2.1, ())) >>= fun r48 => some (r48.1, r48.2) else none) = some (r, σ')) : vI σ' = vI σ := by
  simp only [Option.bind_eq_bind, Option.bind_eq_some_iff] at h
  obtain ⟨i, -, o, -, h⟩ := h
  split at h
  · simp only [Option.bind_eq_some_iff, Option.some.injEq, Prod.mk.injEq] at h
    obtain ⟨j, -, o2, -, ⟨r1, σ1⟩, h1, -, rfl⟩ := h
    exact (ZY h1 fun _ _ _ => adw).trans hz
  · simp at h
theorem Vq {p0 : Option Nat} {p1 p2 : List UInt8} {σ σ' : St} {r : Int} (h : f24 p0 p1 p2 σ = some (r, σ')) : vI σ' = vI σ := by
  unfold f24 at h
  obtain ⟨r4, -, h⟩ := Option.bind_eq_some_iff.1 h
  split at h
  · simp only [Option.some.injEq, Prod.mk.injEq] at h; rw [← h.2]
  obtain ⟨r9, -, h⟩ := Option.bind_eq_some_iff.1 h
  split at h
  · simp only [Option.some.injEq, Prod.mk.injEq] at h; rw [← h.2]
  obtain ⟨i, -, h⟩ := Option.bind_eq_some_iff.1 h
  obtain ⟨o, -, h⟩ := Option.bind_eq_some_iff.1 h
  obtain ⟨z, -, h⟩ := Option.bind_eq_some_iff.1 h
  split at h
  · obtain ⟨i, -, h⟩ := Option.bind_eq_some_iff.1 h
    obtain ⟨o, -, h⟩ := Option.bind_eq_some_iff.1 h
    split at h
    · simp only [Option.some.injEq, Prod.mk.injEq] at h; rw [← h.2]
    split at h
    · simp only [Option.some.injEq, Prod.mk.injEq] at h; rw [← h.2]
    obtain ⟨i, -, h⟩ := Option.bind_eq_some_iff.1 h
    obtain ⟨o, -, h⟩ := Option.bind_eq_some_iff.1 h
    obtain ⟨o, -, h⟩ := Option.bind_eq_some_iff.1 h
    split at h
    · simp only [Option.some.injEq, Prod.mk.injEq] at h; rw [← h.2]
    obtain ⟨z, hz, h⟩ := Option.bind_eq_some_iff.1 h
    refine TK ?_ h
    obtain ⟨i, -, hz⟩ := Option.bind_eq_some_iff.1 hz
    obtain ⟨o, -, hz⟩ := Option.bind_eq_some_iff.1 hz
    simp only [Option.some.injEq] at hz; rw [← hz]; rfl
  · split at h
    · simp only [Option.some.injEq, Prod.mk.injEq] at h; rw [← h.2]
    obtain ⟨i, -, h⟩ := Option.bind_eq_some_iff.1 h
    obtain ⟨o, -, h⟩ := Option.bind_eq_some_iff.1 h
    obtain ⟨o, -, h⟩ := Option.bind_eq_some_iff.1 h
    split at h
    · simp only [Option.some.injEq, Prod.mk.injEq] at h; rw [← h.2]
    obtain ⟨z, hz, h⟩ := Option.bind_eq_some_iff.1 h
    refine TK ?_ h
    simp only [Option.some.injEq] at hz; rw [← hz]

structure Wx (σ σ' : St) (l : Nat) (js : List Nat) : Prop where
  lg : ∀ i, i ≠ l → σ'.ak[i]? = σ.ak[i]?
  ll : σ'.ak.length = σ.ak.length
  sg : ∀ j, j ∉ js → j < σ.ae.length → σ'.ae[j]? = σ.ae[j]?
  sl : σ.ae.length ≤ σ'.ae.length
noncomputable def uM (σ : St) (l : Nat) (js : List Nat) : Prop := ∃ o : aA dD, σ.ak[l]? = some o ∧ o.2.2.2.1 = js.map some
theorem Wx.refl (σ : St) (l : Nat) (js : List Nat) : Wx σ σ l js := ⟨fun _ _ => rfl, rfl, fun _ _ _ => rfl, Nat.le_refl _⟩
theorem Wx.of3 {σ σ' : St} {l : Nat} {js : List Nat} (h : vI σ' = vI σ) : Wx σ σ' l js := by
  have h1 : σ'.ak = σ.ak := congrArg (fun x => x.2.1) h
  have h2 : σ'.ae = σ.ae := congrArg (fun x => x.2.2) h
  exact ⟨fun _ _ => by rw [h1], by rw [h1], fun _ _ _ => by rw [h2], by rw [h2]; exact Nat.le_refl _⟩
theorem adx {c : Nat} {σ1 : St} {u : Unit} {σ2 : St} (h : f78 c σ1 = some (u, σ2)) : vI σ2 = vI σ1 := by
  unfold f78 at h
  simp only [Option.bind_eq_bind, Option.bind_eq_some_iff, Option.some.injEq, Prod.mk.injEq] at h
  obtain ⟨o1, -, i2, -, o3, -, i4, -, o5, -, -, rfl⟩ := h
  rfl
theorem adp {p0 : Option Nat} {p1 : List UInt8} {σ σ' : St} {r : Int} (h : f33 p0 p1 σ = some (r, σ')) : vI σ' = vI σ := by
  unfold f33 at h
  obtain ⟨r3, -, h⟩ := Option.bind_eq_some_iff.1 h
  split at h
  · simp only [Option.some.injEq, Prod.mk.injEq] at h; rw [← h.2]; rfl
  obtain ⟨⟨r8, σ8⟩, h8, h⟩ := Option.bind_eq_some_iff.1 h
  simp only [Option.some.injEq, Prod.mk.injEq] at h
  rw [← h.2]
  exact (ZY h8 fun _ _ _ => adx).trans rfl
theorem UE {σ : St} {l : Nat} {js : List Nat} {o : aA dD} {n : Int} (ho : σ.ak[l]? = some o) (hj : uM σ l js) : Wx σ (σ.bu l (o.1, o.2.1, o.2.2.1, o.2.2.2.1, n, ())) l js ∧ uM (σ.bu l (o.1, o.2.1, o.2.2.1, o.2.2.2.1, n, ())) l js := by
  refine ⟨⟨fun i hi => ?_, ?_, fun _ _ _ => rfl, Nat.le_refl _⟩, ?_⟩
  · show (σ.ak.set l _)[i]? = _
    rw [List.getElem?_set_ne (Ne.symm hi)]
  · show (σ.ak.set l _).length = _
    rw [List.length_set]
  · obtain ⟨o', h1, h2⟩ := hj
    rw [ho] at h1; simp only [Option.some.injEq] at h1; subst h1
    exact ⟨_, qU ho, h2⟩
theorem Wx.trans {σ σ' σ'' : St} {l : Nat} {js : List Nat} (h1 : Wx σ σ' l js) (h2 : Wx σ' σ'' l js) : Wx σ σ'' l js :=
  ⟨fun i hi => (h2.lg i hi).trans (h1.lg i hi), h2.ll.trans h1.ll, fun j hj hl => (h2.sg j hj (Nat.lt_of_lt_of_le hl h1.sl)).trans (h1.sg j hj hl), Nat.le_trans h1.sl h2.sl⟩
theorem uM.of3 {σ σ' : St} {l : Nat} {js : List Nat} (h : uM σ l js) (e : vI σ' = vI σ) : uM σ' l js := by
  have h1 : σ'.ak = σ.ak := congrArg (fun x => x.2.1) e
  obtain ⟨o, a, b⟩ := h
  exact ⟨o, by rw [h1]; exact a, b⟩
theorem Vt {l : Nat} {js : List Nat} {σ σ' : St} {r : Int} (hj : uM σ l js) (h : f61 (some l) σ = some (r, σ')) : Wx σ σ' l js ∧ uM σ' l js ∧ σ'.ae = σ.ae := by
  unfold f61 at h
  rw [if_neg (by simp)] at h
  obtain ⟨r7, -, h⟩ := Option.bind_eq_some_iff.1 h
  split at h
  · simp only [Option.bind_eq_bind, Option.bind_some] at h
    obtain ⟨o11, ho, h⟩ := Option.bind_eq_some_iff.1 h
    obtain ⟨r12, -, h⟩ := Option.bind_eq_some_iff.1 h
    obtain ⟨⟨r13, σ1⟩, h13, h⟩ := Option.bind_eq_some_iff.1 h
    have e3 := adp h13
    have es : σ1.ae = σ.ae := congrArg (fun x => x.2.2) e3
    split at h
    · simp only [Option.some.injEq, Prod.mk.injEq] at h; rw [← h.2]; exact ⟨Wx.of3 e3, hj.of3 e3, es⟩
    obtain ⟨r17, -, h⟩ := Option.bind_eq_some_iff.1 h
    obtain ⟨o18, h18, h⟩ := Option.bind_eq_some_iff.1 h
    simp only [Option.some.injEq, Prod.mk.injEq] at h; rw [← h.2]
    obtain ⟨a, b⟩ := UE (n := r17) h18 (hj.of3 e3)
    exact ⟨(Wx.of3 e3).trans a, b, es⟩
  · obtain ⟨r17, -, h⟩ := Option.bind_eq_some_iff.1 h
    simp only [Option.bind_eq_bind, Option.bind_some] at h
    obtain ⟨o18, h18, h⟩ := Option.bind_eq_some_iff.1 h
    simp only [Option.some.injEq, Prod.mk.injEq] at h; rw [← h.2]
    obtain ⟨a, b⟩ := UE (n := r17) h18 hj
    exact ⟨a, b, rfl⟩

section
variable {σ σ' : St} {l : Nat} {js : List Nat}
theorem Wx.o3 {σ'' : St} (h : Wx σ σ' l js) (e : vI σ'' = vI σ') : Wx σ σ'' l js := h.trans (Wx.of3 e)
theorem Wx.add (h : Wx σ σ' l js) (x : aA dW) : Wx σ (σ'.az x) l js := by
  refine ⟨h.lg, h.ll, fun j hj hl => ?_, ?_⟩
  · show (σ'.ae ++ [x])[j]? = _
    rw [List.getElem?_append_left (Nat.lt_of_lt_of_le hl h.sl)]; exact h.sg j hj hl
  · show _ ≤ (σ'.ae ++ [x]).length
    have := h.sl
    rw [List.length_append]; omega
theorem Wx.seg (h : Wx σ σ' l js) {k : Nat} (hk : k ∈ js ∨ σ.ae.length ≤ k) (x : aA dW) : Wx σ (σ'.ay k x) l js := by
  refine ⟨h.lg, h.ll, fun j hj hl => ?_, ?_⟩
  · show (σ'.ae.set k x)[j]? = _
    rw [List.getElem?_set_ne (fun (e : k = j) => by
      rcases hk with hk | hk
      · exact hj (e ▸ hk)
      · omega)]
    exact h.sg j hj hl
  · show _ ≤ (σ'.ae.set k x).length
    rw [List.length_set]; exact h.sl
theorem Wx.log (h : Wx σ σ' l js) (x : aA dD) : Wx σ (σ'.bu l x) l js := by
  refine ⟨fun i hi => ?_, ?_, h.sg, h.sl⟩
  · show (σ'.ak.set l x)[i]? = _
    rw [List.getElem?_set_ne (Ne.symm hi)]; exact h.lg i hi
  · show (σ'.ak.set l x).length = _
    rw [List.length_set]; exact h.ll
noncomputable def Dq (σ σ' : St) (l : Nat) (js : List Nat) : Prop := Wx σ σ' l js ∧ ∃ js', uM σ' l js' ∧ ∀ j ∈ js', j ∈ js ∨ σ.ae.length ≤ j
theorem Dq.same (h : Wx σ σ' l js) (hj : uM σ' l js) : Dq σ σ' l js := ⟨h, js, hj, fun _ h => .inl h⟩
theorem Dq.more {k : Nat} {o : aA dD} (h : Wx σ σ' l js) (hj : uM σ' l js) (ho : σ'.ak[l]? = some o) (hk : σ.ae.length ≤ k) : Dq σ (σ'.bu l (o.1, o.2.1, o.2.2.1, o.2.2.2.1 ++ [some k], o.2.2.2.2.1, ())) l js := by
  refine ⟨h.log _, js ++ [k], ⟨_, qU ho, ?_⟩, fun j hj' => ?_⟩
  · obtain ⟨o', h1, h2⟩ := hj
    rw [ho] at h1; simp only [Option.some.injEq] at h1; subst h1
    show o.2.2.2.1 ++ [some k] = _
    rw [h2, List.map_append]; rfl
  · rcases List.mem_append.1 hj' with h | h
    · exact .inl h
    · simp only [List.mem_singleton] at h; subst h; exact .inr hk

theorem adu {x : List UInt8} {r : Int × Int} (hj : uM σ l js) (h : f59 (some l) x σ = some (r, σ')) : Dq σ σ' l js := by
  unfold f59 at h
  rw [if_neg (by simp)] at h
  split at h
  · simp only [Option.some.injEq, Prod.mk.injEq] at h; rw [← h.2]; exact .same (Wx.refl _ _ _) hj
  obtain ⟨r8, -, h⟩ := Option.bind_eq_some_iff.1 h
  obtain ⟨r10, h10, h⟩ := Option.bind_eq_some_iff.1 h
  split at h
  · obtain ⟨⟨r17, σ1⟩, h17, h⟩ := Option.bind_eq_some_iff.1 h
    obtain ⟨w1, j1, es⟩ := Vt hj h17
    split at h
    · simp only [Option.some.injEq, Prod.mk.injEq] at h; rw [← h.2]; exact .same w1 j1
    obtain ⟨r21, -, h⟩ := Option.bind_eq_some_iff.1 h
    simp only [Option.bind_eq_bind, Option.bind_some] at h
    obtain ⟨o25, -, h⟩ := Option.bind_eq_some_iff.1 h
    obtain ⟨r26, -, h⟩ := Option.bind_eq_some_iff.1 h
    obtain ⟨⟨r27, σ2⟩, h27, h⟩ := Option.bind_eq_some_iff.1 h
    have e3 := Vq h27
    have w2 := (w1.add (r8, [], 0, ())).o3 e3
    have j2 : uM σ2 l js := uM.of3 (σ := σ1.az (r8, [], 0, ())) j1 e3
    split at h
    · simp only [Option.some.injEq, Prod.mk.injEq] at h; rw [← h.2]; exact .same w2 j2
    obtain ⟨o31, -, h⟩ := Option.bind_eq_some_iff.1 h
    split at h
    · obtain ⟨o38, h38, h⟩ := Option.bind_eq_some_iff.1 h
      split at h
      · simp only [Option.some.injEq, Prod.mk.injEq] at h; rw [← h.2]
        have hk : σ.ae.length ≤ σ1.ae.length := w1.sl
        exact .more ((w2.seg (.inr hk) _).seg (.inr hk) _) j2 h38 hk
      · simp at h
    · simp at h
  · rename_i hne
    cases r10 with
    | none => simp at hne
    | some k =>
    have hkj : k ∈ js := by
      unfold f97 at h10
      obtain ⟨i, hi, h10⟩ := Option.bind_eq_some_iff.1 h10
      simp only [Option.some.injEq] at hi; subst hi
      obtain ⟨o, ho, h10⟩ := Option.bind_eq_some_iff.1 h10
      obtain ⟨o', p1, p2⟩ := hj
      rw [p1] at ho; simp only [Option.some.injEq] at ho; subst ho
      split at h10
      · simp at h10
      obtain ⟨y, hy, h10⟩ := Option.bind_eq_some_iff.1 h10
      simp only [Option.some.injEq] at h10; subst h10
      unfold ix at hy
      split at hy
      · rename_i hc
        have hm := List.mem_of_getElem? hy
        rw [p2] at hm
        obtain ⟨z, z1, z2⟩ := List.mem_map.1 hm
        simp only [Option.some.injEq] at z2; rw [← z2]; exact z1
      · simp at hy
    simp only [Option.bind_eq_bind, Option.bind_some] at h
    obtain ⟨o45, -, h⟩ := Option.bind_eq_some_iff.1 h
    obtain ⟨o47, -, h⟩ := Option.bind_eq_some_iff.1 h
    split at h
    · rename_i hd
      obtain ⟨⟨r17, σ1⟩, h17, h⟩ := Option.bind_eq_some_iff.1 h
      obtain ⟨w1, j1, es⟩ := Vt hj h17
      split at h
      · simp only [Option.some.injEq, Prod.mk.injEq] at h; rw [← h.2]; exact .same w1 j1
      obtain ⟨r21, -, h⟩ := Option.bind_eq_some_iff.1 h
      obtain ⟨o25, -, h⟩ := Option.bind_eq_some_iff.1 h
      obtain ⟨r26, -, h⟩ := Option.bind_eq_some_iff.1 h
      obtain ⟨⟨r27, σ2⟩, h27, h⟩ := Option.bind_eq_some_iff.1 h
      have e3 := Vq h27
      have w2 := (w1.add (r8, [], 0, ())).o3 e3
      have j2 : uM σ2 l js := uM.of3 (σ := σ1.az (r8, [], 0, ())) j1 e3
      split at h
      · simp only [Option.some.injEq, Prod.mk.injEq] at h; rw [← h.2]; exact .same w2 j2
      obtain ⟨o31, -, h⟩ := Option.bind_eq_some_iff.1 h
      split at h
      · obtain ⟨σ3, h3, h⟩ := Option.bind_eq_some_iff.1 h
        simp only [Option.some.injEq, Prod.mk.injEq] at h; rw [← h.2]
        have hk : σ.ae.length ≤ σ1.ae.length := w1.sl
        obtain ⟨o38, h38, h3⟩ := Option.bind_eq_some_iff.1 h3
        split at h3
        · simp only [Option.some.injEq] at h3; rw [← h3]
          exact .more ((w2.seg (.inr hk) _).seg (.inr hk) _) j2 h38 hk
        · simp at h3
      · simp at h
    · obtain ⟨r21, -, h⟩ := Option.bind_eq_some_iff.1 h
      obtain ⟨r26, -, h⟩ := Option.bind_eq_some_iff.1 h
      obtain ⟨⟨r27, σ2⟩, h27, h⟩ := Option.bind_eq_some_iff.1 h
      have e3 := Vq h27
      have w2 : Wx σ σ2 l js := Wx.of3 e3
      have j2 : uM σ2 l js := hj.of3 e3
      split at h
      · simp only [Option.some.injEq, Prod.mk.injEq] at h; rw [← h.2]; exact .same w2 j2
      obtain ⟨o31, -, h⟩ := Option.bind_eq_some_iff.1 h
      split at h
      · obtain ⟨σ3, h3, h⟩ := Option.bind_eq_some_iff.1 h
        simp only [Option.some.injEq, Prod.mk.injEq] at h; rw [← h.2]
        simp only [Option.some.injEq] at h3; rw [← h3]
        exact .same ((w2.seg (.inl hkj) _).seg (.inl hkj) _) j2
      · simp at h
end
end Go.Proofs.YtbnmhjobnepajaaGreat.M


namespace Go.Proofs.YtbnmhjobnepajaaGreat.M

structure WR (σ : St) (l d n0 : Nat) (A : AD) (js : List Nat) (segs : List Sg) (R : List (List UInt8)) : Prop where
  ws : WS σ l d n0 2048 A js segs (aK segs) (kS segs)
  f0 : zV segs = 0
  sub : ∀ g ∈ segs, Sub R g
  nx : aK segs = R.length
  dn : kY A = false

structure XO (σ : St) (q l d n0 : Nat) (A : AD) (js : List Nat) (segs : List Sg) (R : List (List UInt8)) (x : List UInt8) (e : Int) (σ' : St) (B : AD) (segs' : List Sg) : Prop where
  run : gQ (some q) x σ = some (e, σ')
  fw : Fw σ σ' d n0
  js : Dq σ σ' l js
  room : B.1 = A.1
  arm : oZ A = 0 → oZ B = 0
  out : (e = 0 ∧ More segs x segs' ∧ ∃ js', WR σ' l d n0 B js' segs' (R ++ [x])) ∨
        (e = 10 ∧ segs' = segs ∧ Over A segs x ∧ ∃ js', WR σ' l d n0 B js' segs R) ∨
        (e = 11 ∧ oZ A ≠ 0 ∧ (segs' = segs ∨ More segs x segs') ∧ ∃ s', CSW σ' d n0 B segs' s' ∧ aK segs ≤ GH segs' s')

section
variable {σ : St} {q l d n0 : Nat} {a : Int} {A : AD} {js : List Nat} {segs : List Sg} {R : List (List UInt8)} {W : List iV} {V : List VdT}
theorem LG.uM {most : Int} {safe : Nat} (h : LG σ l d most js segs safe) : uM σ l js := ⟨_, h.lo, rfl⟩
theorem Dq.comp {σ1 σ2 : St} {js1 : List Nat} (h1 : Wx σ σ1 l js) (hj : uM σ1 l js1) (hk : ∀ j ∈ js1, j ∈ js ∨ σ.ae.length ≤ j) (h2 : Wx σ1 σ2 l js1) (hj2 : uM σ2 l js1) : Dq σ σ2 l js := by
  refine ⟨⟨fun i hi => (h2.lg i hi).trans (h1.lg i hi), h2.ll.trans h1.ll, fun j hj hl => ?_, Nat.le_trans h1.sl h2.sl⟩, js1, hj2, hk⟩
  rw [h2.sg j (fun h => by rcases hk j h with h | h; exact hj h; omega) (Nat.lt_of_lt_of_le hl h1.sl)]
  exact h1.sg j hj hl
theorem Fw.queue {σ' : St} (h : Fw σ σ' d n0) : σ'.ai = σ.ai := congrArg (fun x => x.2.1) h.up
theorem Fw.ref {σ' : St} (h : Fw σ σ' d n0) : σ'.af = σ.af := congrArg (fun x => x.1) h.up

theorem Qy (h : WR σ l d n0 A js segs R) (hq : σ.ai[q]? = some (a, some l, W, V, ())) {x : List UInt8} (hx : x.length ≤ 1024) (hR : R.length ≤ 100000) (hlen : segs.length ≤ 800) :
    ∃ e σ' B segs', XO σ q l d n0 A js segs R x e σ' B segs' := by
  have hn := h.nx
  obtain ⟨v, e, σ1, B, js1, segs1, safe1, s1, r1, r2, r3, r4, r5, r6⟩ := adt h.ws h.dn (x := x) hx (by omega) hlen (by omega)
  have hJ := adu h.ws.lg.uM r1
  have hq1 : σ1.ai[q]? = some (a, some l, W, V, ()) := by rw [r2.queue]; exact hq
  have run0 : gQ (some q) x σ = (if (e != 0) = true then some (e, σ1) else Option.bind (f61 (some l) σ1) fun x5 => some (x5.1, x5.2)) := by
    unfold gQ
    simp only [Option.bind_some, hq, ad5, r1, hq1, FU]
  rcases r5 with ⟨rfl, rfl, o1, o2, o3, o4⟩ | ⟨rfl, o1, rfl, o2, o4⟩ | ⟨rfl, o1, o2, o3, o4, o5, o6, o7, o8⟩
  · -- it went in
    rw [if_neg (by decide)] at run0
    have hsub : ∀ g ∈ segs1, Sub (R ++ [x]) g := Sub.more o2 h.sub h.nx
    have hnx : aK segs1 = (R ++ [x]).length := by rw [o2.next, h.nx]; simp
    obtain ⟨σ2, B2, e2, g1, g2, g3, g4, g5, g6, g7, g8⟩ := Vs o4.lg o4.dv o4.ok o4.good (by have := o4.len; omega) o4.dl o1
    obtain ⟨w2, j2, -⟩ := Vt o4.lg.uM g1
    have hJ2 : Dq σ σ2 l js := by
      obtain ⟨k1, js', k2, k3⟩ := hJ
      obtain ⟨o', m1, m2⟩ := k2
      have m3 := o4.lg.lo
      rw [m1] at m3; simp only [Option.some.injEq] at m3; subst m3
      have : js' = js1 := by
        have := m2
        exact (List.map_inj_right (fun a b h => by simpa using h)).1 this.symm
      subst this
      exact Dq.comp k1 o4.lg.uM k3 w2 j2
    rw [g1] at run0
    rcases g8 with ⟨rfl, d1, l1, m1⟩ | ⟨rfl, d1, a1, l1, m1⟩
    · refine ⟨0, σ2, B2, segs1, run0, r2.trans g2, hJ2, g4.trans r3, fun hh => g5 (r4 hh), .inl ⟨rfl, o2, js1, ⟨l1, g6, g7, m1, o4.good, o4.len, (Cf segs1).symm⟩, by rw [o2.first]; exact h.f0, hsub, hnx, d1⟩⟩
    · refine ⟨11, σ2, B2, segs1, run0, r2.trans g2, hJ2, g4.trans r3, fun hh => g5 (r4 hh), .inr (.inr ⟨rfl, fun hh => a1 (r4 hh), .inr o2, s1, ⟨g6, g7, m1, o4.good, o4.len⟩, ?_⟩)⟩
      rw [← o4.sf]; exact r6
  · rw [if_pos (by decide)] at run0
    have hs1 : safe1 = aK segs1 := by
      have := Ci o4
      omega
    refine ⟨10, σ1, B, segs1, run0, r2, hJ, r3, r4, .inr (.inl ⟨rfl, rfl, o2, js1, ?_, h.f0, h.sub, h.nx, o1⟩)⟩
    subst hs1
    rcases List.eq_nil_or_concat segs1 with rfl | ⟨pre, g, rfl⟩
    · obtain ⟨b1, b2, b3, b4, b5, b6, b7⟩ := o4
      obtain ⟨hL, rfl⟩ := b4.inv0
      exact ⟨b1, b2, b3, .none hL, b5, b6, rfl⟩
    · rw [List.concat_eq_append] at *
      have e1 := o4.sf
      have e2 := Cf (pre ++ [g])
      rw [lJ] at e1 e2
      have e3 : s1 = kS (pre ++ [g]) := by omega
      rw [← e3]; exact o4
  · rw [if_pos (by decide)] at run0
    have hgl : Good segs1 ∧ segs1.length ≤ 900 := by
      rcases o3 with rfl | o3
      · exact ⟨h.ws.good, h.ws.len⟩
      · exact ⟨o3.good h.ws.good hx (by omega), by have := o3.len; omega⟩
    exact ⟨11, σ1, B, segs1, run0, r2, hJ, r3, r4, .inr (.inr ⟨rfl, o2, o3, s1, ⟨o6, o7, o8, hgl.1, hgl.2⟩, by omega⟩)⟩
end
end Go.Proofs.YtbnmhjobnepajaaGreat.M


namespace Go.Proofs.YtbnmhjobnepajaaGreat.M

structure QS (σ : St) (q l d n0 : Nat) (a : Int) (A : AD) (js : List Nat) (segs : List Sg) (R : List (List UInt8)) (C : List iV) (V : List VdT) : Prop where
  wr : WR σ l d n0 A js segs R
  qo : σ.ai[q]? = some (a, some l, C.drop V.length, V, ())
  pl : vJ a R C V
  w32 : C.length - V.length ≤ 32

noncomputable def G9 : Int → List VdT → Bool
  | _, [] => true
  | p, v :: r => inR v.1 1 1099511627776 && inR v.2.1 0 63 && (decide (p < v.1) && G9 v.1 r)
theorem SN {l : List VdT} : ∀ (k i : Nat), i + k = l.length → qH (Ox l) i (l.drop i) = G9 (if 0 < i then (l.getD (i - 1) (0, 0, ())).1 else 0) (l.drop i)
  | 0, i, hi => by rw [List.drop_of_length_le (by omega)]; rfl
  | k + 1, i, hi => by
    have hlt : i < l.length := by omega
    have hd : l.drop i = l[i] :: l.drop (i + 1) := by simp
    rw [hd, qH, G9, SN k (i + 1) (by omega), if_pos (by omega)]
    have e : l.getD (i + 1 - 1) (0, 0, ()) = l[i] := by
      rw [show i + 1 - 1 = i by omega, List.getD_eq_getElem?_getD, List.getElem?_eq_getElem hlt]; rfl
    rw [e]
    unfold Ox
    by_cases h0 : 0 < i
    · rw [if_pos h0, decide_eq_true h0]
      simp only [Bool.true_and, Bool.and_assoc]
      by_cases h1 : l[i].1 ≤ (l.getD (i - 1) (0, 0, ())).1
      · rw [decide_eq_true h1, decide_eq_false (by omega)]; simp
      · rw [decide_eq_false h1, decide_eq_true (by omega)]; simp
    · rw [if_neg h0, decide_eq_false h0]
      simp only [Bool.false_and, Bool.not_false, Bool.and_true, Bool.and_assoc]
      cases h1 : inR l[i].1 1 1099511627776 with
      | false => rfl
      | true => rw [decide_eq_true (by have := (H5.1 h1).1; omega)]; simp
theorem Qw (l : List VdT) : kL l = (G9 0 l && decide (l.length ≤ 32)) := by
  unfold kL
  have := SN (l := l) l.length 0 (by omega)
  rw [List.drop_zero] at this
  rw [this]; rfl
theorem XT {p p' : Int} {l : List VdT} (h : G9 p l = true) (hp : p' ≤ p) : G9 p' l = true := by
  cases l with
  | nil => rfl
  | cons v r =>
    unfold G9 at h ⊢
    simp only [Bool.and_eq_true, decide_eq_true_eq] at h ⊢
    exact ⟨h.1, by omega, h.2.2⟩
theorem I5 {p : Int} {v : VdT} {r : List VdT} (h : G9 p (v :: r) = true) : p < v.1 ∧ 1 ≤ v.1 ∧ G9 v.1 r = true := by
  unfold G9 at h
  simp only [Bool.and_eq_true, decide_eq_true_eq, H5] at h
  exact ⟨h.2.1, h.1.1.1, h.2.2⟩
noncomputable def fG (n : Nat) (l : List VdT) : List VdT := l.dropWhile fun v => decide (v.1 < ((n + 1 : Nat) : Int))
theorem Uu {n : Nat} : ∀ {l : List VdT} {p : Int}, 0 ≤ p → G9 p l = true → G9 p (fG n l) = true
  | [], p, _, _ => rfl
  | v :: r, p, hp, h => by
    obtain ⟨h1, h2, h3⟩ := I5 h
    unfold fG
    rw [List.dropWhile_cons]
    split
    · exact XT (Uu (by omega) h3) (by omega)
    · exact h
theorem Jw {n : Nat} : ∀ {l : List VdT}, (fG n l).length ≤ l.length
  | [] => Nat.le_refl _
  | v :: r => by
    unfold fG
    rw [List.dropWhile_cons]
    split
    · have := Jw (n := n) (l := r)
      unfold fG at this
      rw [List.length_cons]; omega
    · exact Nat.le_refl _
theorem ug {n : Nat} {l : List VdT} (h : kL l = true) : kL (fG n l) = true := by
  rw [Qw] at h ⊢
  simp only [Bool.and_eq_true, decide_eq_true_eq] at h ⊢
  exact ⟨Uu (Int.le_refl _) h.1, Nat.le_trans Jw h.2⟩
theorem LU {n : Nat} : ∀ {l : List VdT} {p : Int}, (n : Int) < p → G9 p l = true → (l.filter fun v => decide (v.1 > (n : Int))) = l
  | [], _, _, _ => rfl
  | v :: r, p, hp, h => by
    obtain ⟨h1, h2, h3⟩ := I5 h
    rw [List.filter_cons_of_pos (by simp; omega), LU (p := v.1) (by omega) h3]
theorem II {n : Nat} : ∀ {l : List VdT} {p : Int}, G9 p l = true → fG n l = l.filter fun v => decide (v.1 > (n : Int))
  | [], _, _ => rfl
  | v :: r, p, h => by
    obtain ⟨h1, h2, h3⟩ := I5 h
    unfold fG
    rw [List.dropWhile_cons]
    by_cases hc : v.1 < ((n + 1 : Nat) : Int)
    · rw [if_pos (by simpa using hc), List.filter_cons_of_neg (by simp; omega)]
      exact II h3
    · rw [if_neg (by simpa using hc), List.filter_cons_of_pos (by simp; omega), LU (p := v.1) (by omega) h3]

section
variable {σ : St} {q l d n0 : Nat} {a : Int} {A : AD} {js : List Nat} {segs : List Sg} {R : List (List UInt8)} {C : List iV} {V : List VdT}
theorem QS.next (h : QS σ q l d n0 a A js segs R C V) (hR : R.length ≤ 10000) : dQ (some q) σ = some ((C.length + 1 : Nat) : Int) := by
  obtain ⟨b1, b2⟩ := h.pl.len
  rw [Wj h.qo (by omega) (by simp; omega)]
  congr 2
  simp only [List.length_drop]; omega
theorem QS.first (h : QS σ q l d n0 a A js segs R C V) (hR : R.length ≤ 10000) : dC (some q) σ = some ((V.length + 1 : Nat) : Int) := by
  obtain ⟨b1, b2⟩ := h.pl.len
  exact SG h.qo (by omega)

inductive LD (σ : St) (q l d n0 : Nat) (a : Int) (A : AD) (js : List Nat) (segs : List Sg) (R : List (List UInt8)) (C : List iV) (V : List VdT) (c : iV) : (Int × Int) → St → Prop where
  | bad : kU c = false → LD σ q l d n0 a A js segs R C V c (0, 2) σ
  | full : kU c = true → 32 ≤ C.length - V.length → LD σ q l d n0 a A js segs R C V c (0, 10) σ
  | fail {e : Int} {σ1 : St} {B : AD} {segs' : List Sg} : kU c = true → C.length - V.length < 32 → XO σ q l d n0 A js segs R (recC c) e σ1 B segs' → e ≠ 0 → LD σ q l d n0 a A js segs R C V c (0, e) σ1
  | ok {σ1 : St} {B : AD} {segs' : List Sg} : kU c = true → C.length - V.length < 32 → XO σ q l d n0 A js segs R (recC c) 0 σ1 B segs' → LD σ q l d n0 a A js segs R C V c (((C.length + 1 : Nat) : Int), 0) (ED σ1 q (a, some l, C.drop V.length ++ [c], V, ()))

theorem LH (h : QS σ q l d n0 a A js segs R C V) (hR : R.length ≤ 10000) (hlen : segs.length ≤ 800) {st : List UInt8} {rule ex : Int} {args : List Int} (hf : IX (a, ((C.length + 1 : Nat) : Int), st, rule, args, ex, ())) :
    ∃ r σ', dR (some q) st rule args ex σ = some (r, σ') ∧ LD σ q l d n0 a A js segs R C V (a, ((C.length + 1 : Nat) : Int), st, rule, args, ex, ()) r σ' := by
  obtain ⟨b1, b2⟩ := h.pl.len
  unfold dR
  have hn := hf.n
  simp only at hn
  have hqo := h.qo
  rw [if_neg (by simp), h.next hR]
  simp only [Option.bind_some, Nat.zero_add, hqo, List.nil_append]
  rw [if_pos (by omega), XN hf]
  by_cases hc : kU (a, ((C.length + 1 : Nat) : Int), st, rule, args, ex, ()) = true
  · rw [if_pos hc]
    simp only [Option.bind_some]
    rw [if_neg (by decide)]
    by_cases hw : 32 ≤ C.length - V.length
    · rw [if_pos (by simp; omega)]
      exact ⟨_, _, rfl, .full hc hw⟩
    · rw [if_neg (by simp; omega)]
      have hl := Be hc
      rw [if_pos (by omega)]
      obtain ⟨e, σ1, B, segs', ho⟩ := Qy h.wr hqo (x := recC (a, ((C.length + 1 : Nat) : Int), st, rule, args, ex, ())) (by unfold recC; rw [List.length_cons]; omega) (by omega) hlen
      have hrun := ho.run
      unfold recC at hrun
      rw [hrun]
      simp only [Option.bind_some]
      by_cases he : e = 0
      · subst he
        rw [if_neg (by decide)]
        have hq1 : σ1.ai[q]? = some (a, some l, C.drop V.length, V, ()) := by rw [ho.fw.queue]; exact hqo
        simp only [hq1, Option.bind_some]
        rw [if_pos ⟨trivial, trivial⟩, if_pos (by simp only [List.length_drop]; omega)]
        exact ⟨_, _, rfl, .ok hc (by omega) ho⟩
      · rw [if_pos (by simpa using he)]
        exact ⟨_, _, rfl, .fail hc (by omega) ho he⟩
  · rw [if_neg hc]
    simp only [Option.bind_some]
    rw [if_pos (by decide)]
    exact ⟨_, _, rfl, .bad (by simpa using hc)⟩

inductive EO (σ : St) (q l d n0 : Nat) (a : Int) (A : AD) (js : List Nat) (segs : List Sg) (R : List (List UInt8)) (C : List iV) (V : List VdT) (m : List VdT) : (Int × Int) → St → Prop where
  | bad : kL m = false → EO σ q l d n0 a A js segs R C V m (0, 2) σ
  | none : kL m = true → fG V.length m = [] → EO σ q l d n0 a A js segs R C V m (0, 0) σ
  | range : kL m = true → fG V.length m ≠ [] → rO V.length (C.length - V.length) (fG V.length m) = false → EO σ q l d n0 a A js segs R C V m (0, 3) σ
  | fail {e : Int} {σ1 : St} {B : AD} {segs' : List Sg} : kL m = true → rO V.length (C.length - V.length) (fG V.length m) = true → XO σ q l d n0 A js segs R (vw (fG V.length m)) e σ1 B segs' → e ≠ 0 → EO σ q l d n0 a A js segs R C V m (0, e) σ1
  | ok {σ1 : St} {B : AD} {segs' : List Sg} : kL m = true → rO V.length (C.length - V.length) (fG V.length m) = true → XO σ q l d n0 A js segs R (vw (fG V.length m)) 0 σ1 B segs' →
      EO σ q l d n0 a A js segs R C V m (((fG V.length m).length : Int), 0) (ED σ1 q (a, some l, (C.drop V.length).drop (fG V.length m).length, V ++ fG V.length m, ()))

theorem Pj (h : QS σ q l d n0 a A js segs R C V) (hR : R.length ≤ 10000) : ∀ (m : List VdT), aY (iI (some q) σ) m = some (fG V.length m)
  | [] => by
    rw [jw (r := []) (by unfold iI; simp)]; rfl
  | v :: r => by
    have ih := Pj h hR r
    have hix : ix (v :: r) (0 : Int) = some v := by rw [show (0 : Int) = ((0 : Nat) : Int) from rfl, jO (by simp)]; rfl
    have hb : iI (some q) σ (v :: r) = if (decide (v.1 < ((V.length + 1 : Nat) : Int))) = true then some (.inl r) else some (.inr (v :: r)) := by
      unfold iI
      rw [if_pos (by first | (simp; done) | (simp; omega)), hix]
      simp only [Option.bind_some, h.first hR]
      split
      · rw [if_pos (by simp; omega)]; rfl
      · rfl
    unfold fG
    rw [List.dropWhile_cons]
    split
    · rename_i hc
      rw [if_pos hc] at hb
      rw [lI hb, ih]; rfl
    · rename_i hc
      rw [if_neg hc] at hb
      rw [jw hb]

theorem SE (h : QS σ q l d n0 a A js segs R C V) (hR : R.length ≤ 10000) (hlen : segs.length ≤ 800) {m : List VdT} (hm : ∀ v ∈ m, I64 v.1 ∧ I64 v.2.1) (hml : m.length ≤ 1048576) :
    ∃ r σ', fB (some q) m σ = some (r, σ') ∧ EO σ q l d n0 a A js segs R C V m r σ' := by
  obtain ⟨b1, b2⟩ := h.pl.len
  have hqo := h.qo
  have hdl : (C.drop V.length).length = C.length - V.length := by simp
  unfold fB
  rw [if_neg (by simp), Du hm hml]
  by_cases hc : kL m = true
  · rw [if_pos hc]
    simp only [Option.bind_some]
    rw [if_neg (by decide), Pj h hR m]
    simp only [Option.bind_some]
    have hr := ug (n := V.length) hc
    obtain ⟨hr1, hr2⟩ := GR hr
    by_cases h0 : fG V.length m = []
    · rw [if_pos (by simp [h0])]
      exact ⟨_, _, rfl, .none hc h0⟩
    · rw [if_neg (by simp [h0]), Xa hqo (by omega) (by omega) (by omega), hdl]
      simp only [Option.bind_some]
      by_cases hf : rO V.length (C.length - V.length) (fG V.length m) = true
      · rw [if_neg (by rw [hf]; simp), Du (fun v hv => ⟨⟨by have := (hr2 v hv).1; omega, by have := (hr2 v hv).1; omega⟩, by have := (hr2 v hv).2; omega, by have := (hr2 v hv).2; omega⟩) (by omega), if_pos hr]
        simp only [Option.bind_some]
        have hl := Bf hr
        rw [if_pos (by omega)]
        obtain ⟨e, σ1, B, segs', ho⟩ := Qy h.wr hqo (x := vw (fG V.length m)) (by unfold vw; rw [List.length_cons]; omega) (by omega) hlen
        have hrun := ho.run
        unfold vw at hrun
        rw [hrun]
        simp only [Option.bind_some]
        by_cases he : e = 0
        · subst he
          rw [if_neg (by decide)]
          have hq1 : σ1.ai[q]? = some (a, some l, C.drop V.length, V, ()) := by rw [ho.fw.queue]; exact hqo
          rw [Xz hq1 (by omega) (by omega) (by rw [hdl]; exact (Am hf).2)]
          exact ⟨_, _, rfl, .ok hc hf ho⟩
        · rw [if_pos (by simpa using he)]
          exact ⟨_, _, rfl, .fail hc hf ho he⟩
      · rw [if_pos (by simpa using hf)]
        exact ⟨_, _, rfl, .range hc h0 (by simpa using hf)⟩
  · rw [if_neg hc]
    simp only [Option.bind_some]
    rw [if_pos (by decide)]
    exact ⟨_, _, rfl, .bad (by simpa using hc)⟩
end
end Go.Proofs.YtbnmhjobnepajaaGreat.M


namespace Go.Proofs.YtbnmhjobnepajaaGreat.M

section
variable {σ : St} {q l d n0 : Nat} {a : Int} {A : AD} {js : List Nat} {segs : List Sg} {R : List (List UInt8)} {C : List iV} {V : List VdT}
theorem WR.same {σ' : St} (h : WR σ l d n0 A js segs R) (h1 : σ'.ah = σ.ah) (h2 : σ'.aj = σ.aj) (h3 : σ'.ak = σ.ak) (h4 : σ'.ae = σ.ae) : WR σ' l d n0 A js segs R := by
  obtain ⟨⟨a1, a2, a3, a4, a5, a6, a7⟩, b1, b2, b3, b4⟩ := h
  exact ⟨⟨a1.same2 h3 h4, a2.same h1 h2, a3, a4, a5, a6, a7⟩, b1, b2, b3, b4⟩
theorem QS.O3 (h : QS σ q l d n0 a A js segs R C V) {σ1 : St} {B : AD} {js' : List Nat} {segs' : List Sg} {c : iV} (hw : WR σ1 l d n0 B js' segs' (R ++ [recC c])) (hq : σ1.ai = σ.ai) (hc : kU c = true) (h1 : c.1 = a) (h2 : c.2.1 = ((C.length + 1 : Nat) : Int)) (h3 : C.length - V.length < 32) :
    QS (ED σ1 q (a, some l, C.drop V.length ++ [c], V, ())) q l d n0 a B js' segs' (R ++ [recC c]) (C ++ [c]) V := by
  obtain ⟨b1, b2⟩ := h.pl.len
  refine ⟨hw.same rfl rfl rfl rfl, ?_, .cmd h.pl hc h1 h2, ?_⟩
  · rw [Un (y := (a, some l, C.drop V.length, V, ())) (by rw [hq]; exact h.qo), List.drop_append_of_le_length b2]
  · simp only [List.length_append, List.length_cons, List.length_nil]; omega
theorem QS.O4 (h : QS σ q l d n0 a A js segs R C V) {σ1 : St} {B : AD} {js' : List Nat} {segs' : List Sg} {m : List VdT} (hw : WR σ1 l d n0 B js' segs' (R ++ [vw m])) (hq : σ1.ai = σ.ai) (hc : kL m = true) (hf : rO V.length (C.length - V.length) m = true) :
    QS (ED σ1 q (a, some l, (C.drop V.length).drop m.length, V ++ m, ())) q l d n0 a B js' segs' (R ++ [vw m]) C (V ++ m) := by
  refine ⟨hw.same rfl rfl rfl rfl, ?_, .vds h.pl hc hf, ?_⟩
  · rw [Un (y := (a, some l, C.drop V.length, V, ())) (by rw [hq]; exact h.qo), List.length_append, List.drop_drop]
  · have := h.w32
    simp only [List.length_append]; omega
end

abbrev RqT : Type := Int × List iV × List VdT × Unit
noncomputable def VT (σ : St) (x : Nat) (y : RqT) : St := σ.aX (σ.af.set x y)
theorem EE {σ : St} {x : Nat} {y z : RqT} (h : σ.af[x]? = some y) : (VT σ x z).af[x]? = some z := by
  have := (List.getElem?_eq_some_iff.1 h).1
  unfold VT St.aX
  simp [this]
section
variable {σ : St} {x : Nat} {a : Int} {C : List iV} {V : List VdT}
noncomputable def Yz (a : Int) (C : List iV) (c : iV) : iV := (a, ((C.length + 1 : Nat) : Int), c.2.2)
theorem UY (h : σ.af[x]? = some (a, C, V, ())) (hC : C.length ≤ 10000) (hV : V.length ≤ C.length) {c : iV} (hc : c.2.2.2.2.1.length ≤ 1048576) :
    bU (some x) c σ = some (if kU (Yz a C c) = true then (if 32 ≤ C.length - V.length then ((0, 10), σ) else ((((C.length + 1 : Nat) : Int), 0), VT σ x (a, C ++ [Yz a C c], V, ()))) else ((0, 2), σ)) := by
  unfold bU
  have e1 : IntKind.wrap .i64 ((C.length : Int) - (V.length : Int)) = ((C.length - V.length : Nat) : Int) := by rw [aP (by omega) (by omega)]; omega
  simp only [Option.bind_some, h, bI (i := C.length) (by omega), e1, List.nil_append, Nat.zero_add]
  have e2 : lD (a, ((C.length + 1 : Nat) : Int), c.2.2) = some (kU (Yz a C c)) := abI (c := Yz a C c) (by show c.2.2.2.2.1.length < _; omega)
  rw [e2]
  simp only [Option.bind_some]
  by_cases hk : kU (Yz a C c) = true
  · rw [if_neg (by rw [hk]; simp), if_pos hk]
    by_cases hw : 32 ≤ C.length - V.length
    · rw [if_pos (by simp; omega), if_pos hw]
    · rw [if_neg (by simp; omega), if_neg hw, if_pos (by omega), if_pos (by omega)]
      rfl
  · rw [if_pos (by simpa using hk), if_neg hk]

theorem Ur (h : σ.af[x]? = some (a, C, V, ())) {m : List VdT} (hm : m.length ≤ 1048576) : ∀ (k i : Nat) (acc : List VdT), i + k = m.length → acc.length ≤ i →
    aY (fF (some x) m σ) (acc, (i : Int)) = some (acc ++ (m.drop i).filter fun v => decide (v.1 > (V.length : Int)))
  | 0, i, acc, hi, ha => by
    have : i = m.length := by omega
    subst this
    rw [jw (r := acc) (by unfold fF; simp)]
    simp
  | k + 1, i, acc, hi, ha => by
    have hlt : i < m.length := by omega
    have hd : m.drop i = m[i] :: m.drop (i + 1) := by simp
    have hb : fF (some x) m σ (acc, (i : Int)) = some (.inl (if decide (m[i].1 > (V.length : Int)) = true then acc ++ [m[i]] else acc, ((i + 1 : Nat) : Int))) := by
      unfold fF
      simp only [bI (i := i) (by omega), jO hlt, Option.bind_some, h]
      rw [if_pos (by simp; omega)]
      split
      · rw [if_pos (by omega)]
      · rfl
    have hal : (if decide (m[i].1 > (V.length : Int)) = true then acc ++ [m[i]] else acc).length ≤ i + 1 := by
      split
      · simp only [List.length_append, List.length_cons, List.length_nil]; omega
      · omega
    rw [lI hb, Ur h hm k (i + 1) _ (by omega) hal, hd, List.filter_cons]
    split <;> simp
theorem aaV (h : σ.af[x]? = some (a, C, V, ())) (hC : C.length ≤ 10000) (hV : V.length ≤ C.length) {m : List VdT} (hm : m.length ≤ 1048576) :
    aY (iw (some x) σ m) 0 = some (if qH (fun i (v : VdT) => decide (v.1 = ((V.length + 1 + i : Nat) : Int)) && decide (v.1 ≤ (C.length : Int))) 0 m = true then .inl () else .inr ((0, 3), σ)) := by
  refine Fg _ (fun i hi => ?_) (by unfold iw; simp)
  unfold iw
  have e1 : IntKind.wrap .i64 ((V.length : Int) + 1) = ((V.length + 1 : Nat) : Int) := bI (by omega)
  have e2 : IntKind.wrap .i64 (((V.length + 1 : Nat) : Int) + (i : Int)) = ((V.length + 1 + i : Nat) : Int) := by rw [aP (by omega) (by omega)]; omega
  simp only [bI (i := i) (by omega), jO hi, Option.bind_some, h, e1, e2]
  rw [if_pos (by simp; omega)]
  generalize ((V.length + 1 + i : Nat) : Int) = z
  by_cases c1 : m[i].1 = z
  · rw [if_pos (by simp [c1]), decide_eq_true c1]
    by_cases c2 : m[i].1 ≤ (C.length : Int)
    · rw [if_neg (by simp; omega), if_pos (by simp [c2])]
    · rw [if_pos (by simp; omega), if_neg (by simp [c2])]
  · rw [if_neg (by simp [c1]), decide_eq_false c1, if_neg (by simp)]
theorem SL {α : Type} {P Q : Nat → α → Bool} : ∀ {i : Nat} {l : List α}, qH (fun i x => P i x && Q i x) i l = (qH P i l && qH Q i l)
  | _, [] => rfl
  | i, x :: r => by
    unfold qH
    rw [SL]
    cases P i x <;> cases Q i x <;> simp
theorem Z9 {v c : Nat} (hv : v ≤ c) {m : List VdT} (hm : m ≠ []) : qH (fun i (x : VdT) => decide (x.1 = ((v + 1 + i : Nat) : Int)) && decide (x.1 ≤ (c : Int))) 0 m = rO v (c - v) m := by
  have key : ∀ (m : List VdT) (i : Nat), qH (fun i (x : VdT) => decide (x.1 = ((v + 1 + i : Nat) : Int))) i m = true → (qH (fun i (x : VdT) => decide (x.1 ≤ (c : Int))) i m = true ↔ m = [] ∨ v + i + m.length ≤ c) := by
    intro m
    induction m with
    | nil => intro i _; simp [qH]
    | cons x r ih =>
      intro i h
      unfold qH at h ⊢
      simp only [Bool.and_eq_true, decide_eq_true_eq] at h ⊢
      rw [ih (i + 1) h.2, h.1]
      simp only [List.length_cons, reduceCtorEq, false_or]
      constructor
      · rintro ⟨h1, rfl | h2⟩
        · simp; omega
        · omega
      · intro h1
        refine ⟨by omega, ?_⟩
        right; omega
  rw [SL]
  unfold rO
  cases h : qH (fun i (x : VdT) => decide (x.1 = ((v + 1 + i : Nat) : Int))) 0 m with
  | false => rfl
  | true =>
    rw [Bool.true_and, Bool.true_and, Bool.eq_iff_iff, key m 0 h]
    have := List.length_pos_iff.2 hm
    simp only [Bool.and_eq_true, decide_eq_true_eq, hm, false_or]
    omega
theorem YZ (h : σ.af[x]? = some (a, C, V, ())) (hC : C.length ≤ 10000) (hV : V.length ≤ C.length) {m : List VdT} (hm : m.length ≤ 1048576) :
    bK (some x) m σ = some (if kL m = true then (if fG V.length m = [] then ((0, 0), VT σ x (a, C, V, ())) else if rO V.length (C.length - V.length) (fG V.length m) = true then (((((fG V.length m).length : Nat) : Int), 0), VT σ x (a, C, V ++ fG V.length m, ())) else ((0, 3), σ)) else ((0, 2), σ)) := by
  unfold bK
  rw [SA (by omega)]
  simp only [Option.bind_some]
  by_cases hk : kL m = true
  · rw [if_neg (by rw [hk]; simp), if_pos hk]
    have h1 := Ur h hm m.length 0 [] (by omega) (by simp)
    rw [show ((0 : Nat) : Int) = (0 : Int) from rfl, List.drop_zero, List.nil_append] at h1
    rw [h1]
    have hk' := hk
    rw [Qw, Bool.and_eq_true] at hk'
    rw [← II hk'.1]
    have hrl := Jw (n := V.length) (l := m)
    simp only [Option.bind_some, aaV h hC hV (m := fG V.length m) (by omega)]
    by_cases h0 : fG V.length m = []
    · rw [if_pos h0, h0]
      simp only [qH, if_true, Option.bind_some, jR, h, List.nil_append, List.append_nil, Nat.zero_add]
      rw [if_pos (by omega), if_pos (by simp; omega)]
      rfl
    · rw [if_neg h0, Z9 hV h0]
      by_cases hf : rO V.length (C.length - V.length) (fG V.length m) = true
      · rw [if_pos hf, if_pos hf]
        simp only [Option.bind_some, jR, h, List.nil_append, Nat.zero_add]
        rw [if_pos (by omega), if_pos (by omega)]
        rfl
      · rw [if_neg hf, if_neg hf]; rfl
  · rw [if_pos (by simpa using hk), if_neg hk]
theorem JI (h : σ.af[x]? = some (a, C, V, ())) (hV : V.length ≤ C.length) : iy (some x) σ = some (C.drop V.length) := by
  unfold iy
  simp only [Option.bind_some, h]
  rw [if_pos (by omega)]
  simp
end
end Go.Proofs.YtbnmhjobnepajaaGreat.M


namespace Go.Proofs.YtbnmhjobnepajaaGreat.M

theorem ER {α : Type} {P : Nat → α → Bool} : ∀ {i : Nat} {l : List α}, (∀ j x, x ∈ l → P j x = true) → qH P i l = true
  | _, [], _ => rfl
  | i, x :: r, h => by
    unfold qH
    rw [h i x List.mem_cons_self, ER fun j y hy => h j y (List.mem_cons_of_mem _ hy)]; rfl
theorem XK {l : List Int} (hl : l.length ≤ 1000000) : jd l l = some true := by
  unfold jd
  rw [if_neg (by simp), Fg (l := l) (fun _ _ => true) (e := false) (fun i hi => ?_) (by unfold jb; simp), ER (fun _ _ _ => rfl)]
  · rfl
  · unfold jb
    simp only [bI (i := i) (by omega), jO hi, Option.bind_some]
    rw [if_pos (by simp; omega)]
    simp
theorem QM {c : iV} (hc : c.2.2.2.2.1.length ≤ 1000000) : dS c c = some true := by
  unfold dS
  simp [XK hc]
theorem OA {l : List iV} (hl : l.length ≤ 1000000) (h : ∀ c ∈ l, c.2.2.2.2.1.length ≤ 1000000) : fU l l = some true := by
  unfold fU
  rw [if_neg (by simp), Fg (l := l) (fun _ _ => true) (e := false) (fun i hi => ?_) (by unfold gq; simp), ER (fun _ _ _ => rfl)]
  · rfl
  · unfold gq
    simp only [bI (i := i) (by omega), jO hi, Option.bind_some, QM (h _ (List.getElem_mem hi))]
    rw [if_pos (by simp; omega)]
    simp
theorem GX {l : List VdT} (hl : l.length ≤ 1000000) : ed l l = some true := by
  unfold ed
  rw [if_neg (by simp), Fg (l := l) (fun _ _ => true) (e := false) (fun i hi => ?_) (by unfold eX; simp), ER (fun _ _ _ => rfl)]
  · rfl
  · unfold eX
    simp only [bI (i := i) (by omega), jO hi, Option.bind_some]
    rw [if_pos (by simp; omega)]
    simp

theorem IW {x1 : QuT} (hl : x1.2.2.1.length ≤ 1000000) (h : ∀ c ∈ x1.2.2.1, c.2.2.2.2.1.length ≤ 1000000) : ∀ (k i : Nat), i + k = x1.2.2.1.length →
    aY (ja x1) (x1.2.2.1.take i, (i : Int)) = some x1.2.2.1
  | 0, i, hi => by
    have : i = x1.2.2.1.length := by omega
    subst this
    rw [jw (r := x1.2.2.1) (by unfold ja; simp)]
  | k + 1, i, hi => by
    have hlt : i < x1.2.2.1.length := by omega
    have := h _ (List.getElem_mem hlt)
    rw [lI (y := (x1.2.2.1.take (i + 1), ((i + 1 : Nat) : Int))) (by
      unfold ja
      simp only [bI (i := i) (by omega), jO hlt, Option.bind_some, Nat.zero_add, List.nil_append]
      rw [if_pos (by simp; omega), if_pos (by omega), if_pos (by simp; omega), List.take_succ_eq_append_getElem hlt]), IW hl h k (i + 1) (by omega)]

section
variable {σ : St} {q l d n0 x : Nat} {a : Int} {A : AD} {js : List Nat} {segs : List Sg} {R : List (List UInt8)} {C : List iV} {V : List VdT}
theorem QS.waiting (h : QS σ q l d n0 a A js segs R C V) (hR : R.length ≤ 10000) : iK (some q) σ = some (C.drop V.length) := by
  obtain ⟨b1, b2⟩ := h.pl.len
  unfold iK
  rw [if_neg (by simp)]
  have := IW (x1 := (a, some l, C.drop V.length, V, ())) (by simp; omega) (fun c hc => by
    have := (tH (h.pl.each c (List.mem_of_mem_drop hc)).1).2.2.2.2.2.1
    omega) (C.drop V.length).length 0 (by simp)
  rw [List.take_zero, show ((0 : Nat) : Int) = (0 : Int) from rfl] at this
  simp only [Option.bind_some, h.qo, this]
theorem vJ.aeA {R : List (List UInt8)} (h : vJ a R C V) : V.length ≤ R.length := by have := h.len; omega
theorem QS.notices (h : QS σ q l d n0 a A js segs R C V) (hR : R.length ≤ 10000) : iJ (some q) σ = some V := by
  have := h.pl.aeA
  unfold iJ
  rw [if_neg (by simp)]
  simp only [Option.bind_some, h.qo, List.nil_append, Nat.zero_add]
  rw [if_pos (by omega)]
theorem JA (h : QS σ q l d n0 a A js segs R C V) (hR : R.length ≤ 10000) {b : Int} (hx : σ.af[x]? = some (b, C, V, ())) : eH (some q) (some x) σ = some true := by
  obtain ⟨b1, b2⟩ := h.pl.len
  unfold eH
  rw [h.waiting hR, JI hx b2]
  simp only [Option.bind_some]
  rw [OA (by simp; omega) (fun c hc => by
    have := (tH (h.pl.each c (List.mem_of_mem_drop hc)).1).2.2.2.2.2.1
    omega), h.notices hR]
  simp only [Option.bind_some, if_true, hx, GX (l := V) (by omega), h.first hR, h.next hR, bI (i := V.length) (by omega), bI (i := C.length) (by omega), beq_self_eq_true]

theorem MX (h : QS σ q l d n0 a A js segs R C V) (hR : R.length ≤ 10000) (n : Int) : ∀ (k i : Nat) (acc : List VdT), i + k = 40 → acc.length = i → (∀ v ∈ acc, I64 v.1 ∧ I64 v.2.1) →
    ∃ v, aY (jV (some q) n σ) (acc, (i : Int)) = some v ∧ v.length ≤ 40 ∧ ∀ y ∈ v, I64 y.1 ∧ I64 y.2.1
  | k, i, acc, hi, ha, hv => by
    obtain ⟨b1, b2⟩ := h.pl.len
    have e1 : IntKind.wrap .i64 (((V.length + 1 : Nat) : Int) + (i : Int)) = ((V.length + 1 + i : Nat) : Int) := by rw [aP (by omega) (by omega)]; omega
    have hb : jV (some q) n σ (acc, (i : Int)) = if ((i : Int) < n ∧ i < 40) ∧ V.length + 1 + i < C.length + 1 then some (.inl (acc ++ [(((V.length + 1 + i : Nat) : Int), 0, ())], ((i + 1 : Nat) : Int))) else some (.inr acc) := by
      unfold jV
      simp only [h.first hR, h.next hR]
      by_cases c : (i : Int) < n ∧ i < 40
      · have c' : (decide ((i : Int) < n) && decide ((i : Int) < 40)) = true := by simp; omega
        simp only [c', if_true, Option.bind_some, e1, Bool.true_and]
        by_cases c2 : V.length + 1 + i < C.length + 1
        · rw [if_pos (by simp; omega), if_pos (by omega), if_pos ⟨c, c2⟩, bI (by omega)]
        · rw [if_neg (by simp; omega), if_neg (fun hh => c2 hh.2)]
      · have c' : (decide ((i : Int) < n) && decide ((i : Int) < 40)) = false := by
          rw [Bool.eq_false_iff]; simp; omega
        simp only [c', Bool.false_eq_true, if_false, Option.bind_some, Bool.false_and]
        rw [if_neg (fun hh => c hh.1)]
    by_cases c : ((i : Int) < n ∧ i < 40) ∧ V.length + 1 + i < C.length + 1
    · rw [if_pos c] at hb
      rw [lI hb]
      cases k with
      | zero => omega
      | succ k =>
        refine MX h hR n k (i + 1) _ (by omega) (by simp [ha]) (fun v hm => ?_)
        rcases List.mem_append.1 hm with hm | hm
        · exact hv v hm
        · simp only [List.mem_singleton] at hm
          subst hm
          exact ⟨⟨by omega, by omega⟩, by show (-9223372036854775808 : Int) ≤ 0; decide, by show (0 : Int) < 9223372036854775808; decide⟩
    · rw [if_neg c] at hb
      rw [jw hb]
      exact ⟨acc, rfl, by omega, hv⟩
theorem Z8 (h : QS σ q l d n0 a A js segs R C V) (hR : R.length ≤ 10000) (n : Int) : ∃ v, jK (some q) n σ = some v ∧ v.length ≤ 40 ∧ ∀ y ∈ v, I64 y.1 ∧ I64 y.2.1 := by
  obtain ⟨v, h1, h2⟩ := MX h hR n 40 0 [] (by omega) rfl (by simp)
  refine ⟨v, ?_, h2⟩
  unfold jK
  rw [show (0 : Int) = ((0 : Nat) : Int) from rfl, h1]; rfl
end
end Go.Proofs.YtbnmhjobnepajaaGreat.M


namespace Go.Proofs.YtbnmhjobnepajaaGreat.M

section
variable {σ σ1 : St} {q l d n0 : Nat} {a : Int} {A : AD} {js : List Nat} {segs : List Sg} {R : List (List UInt8)} {C : List iV} {V : List VdT}
noncomputable def OL (σ1 : St) (a : Int) (l : Nat) : St := ((σ1.bW (σ1.ai ++ [(a, some l, [], [], ())])).nR (σ1.bD ++ [(none, ())])).nR ((σ1.bD ++ [(none, ())]).set σ1.bD.length (some σ1.ai.length, ()))
theorem aaK : (OL σ1 a l).ai[σ1.ai.length]? = some (a, some l, [], [], ()) := by
  show (σ1.ai ++ [(a, some l, [], [], ())])[σ1.ai.length]? = _
  simp
theorem aaJ : (OL σ1 a l).bD[σ1.bD.length]? = some (some σ1.ai.length, ()) := by
  show ((σ1.bD ++ [(none, ())]).set σ1.bD.length (some σ1.ai.length, ()))[σ1.bD.length]? = _
  simp
structure Oq (σ1 σ' : St) : Prop where
  dd : σ'.ah = σ1.ah
  df : σ'.aj = σ1.aj
  wl : σ'.ak = σ1.ak
  ws : σ'.ae = σ1.ae
  rq : σ'.af = σ1.af
  qs : ∀ i, i < σ1.ai.length → σ'.ai[i]? = σ1.ai[i]?
  ql : σ1.ai.length < σ'.ai.length
theorem Oq.of {σ' : St} {y : QuT} (h : Rp (OL σ1 a l) σ' σ1.ai.length y) : Oq σ1 σ' := by
  have e : ∀ {α : Type} (f : St → α), f σ'.base = f (OL σ1 a l).base := fun f => by rw [h.o]
  refine ⟨e St.ah, e St.aj, e St.ak, e St.ae, e St.af, fun i hi => ?_, ?_⟩
  · rw [h.q]
    show ((σ1.ai ++ [(a, some l, [], [], ())]).set σ1.ai.length y)[i]? = _
    rw [List.getElem?_set_ne (by omega), List.getElem?_append_left hi]
  · rw [h.q]
    show _ < ((σ1.ai ++ [(a, some l, [], [], ())]).set σ1.ai.length y).length
    simp

theorem acs (ha0 : 0 ≤ a) (ha5 : a ≤ 5) (h53 : f53 (some d) nmL 2048 σ = some ((some l, 0), σ1)) (h : WR σ1 l d n0 A js segs R) : fE (some d) a σ =
    Option.bind (aY (gK ((some l, 0), σ1) (R.length : Int)) (0, OL σ1 a l)) fun x7 => jR x7 (fun x8 => Option.bind x8.bD[σ1.bD.length]? fun x9 => some ((x9.1, 0), x8)) Option.some := by
  unfold fE
  have hG : LG (OL σ1 a l) l d 2048 js segs (aK segs) := h.ws.lg.same2 rfl rfl
  have hl := h.ws.len
  rw [if_neg (by simp), if_neg (by simp; omega), ZI]
  show Option.bind (f53 (some d) nmL 2048 σ) _ = _
  rw [h53]
  simp only [Option.bind_some]
  rw [if_neg (by decide)]
  have e1 : (σ1.bD ++ [(none, ())])[σ1.bD.length]? = some (none, ()) := by simp
  simp only [e1, Option.bind_some]
  show Option.bind (lU (some l) (OL σ1 a l)) _ = _
  rw [WU, ZU hG, h.f0]
  simp only [Option.bind_some]
  rw [if_neg (by decide)]
  show Option.bind (jc (some l) (OL σ1 a l)) _ = _
  rw [CB, DZ hG h.ws.good (by omega), h.nx]
  rfl
theorem BZ (ha0 : 0 ≤ a) (ha5 : a ≤ 5) (h53 : f53 (some d) nmL 2048 σ = some ((some l, 0), σ1)) (h : WR σ1 l d n0 A js segs R) (hR : R.length ≤ 10000) (hp : vJ a R C V) (hw : C.length - V.length ≤ 32) :
    ∃ σ', fE (some d) a σ = some ((some σ1.ai.length, 0), σ') ∧ QS σ' σ1.ai.length l d n0 a A js segs R C V ∧ Oq σ1 σ' := by
  have hG : LG (OL σ1 a l) l d 2048 js segs (aK segs) := h.ws.lg.same2 rfl rfl
  obtain ⟨σ', e1, e2⟩ := replay (σ := OL σ1 a l) (x0 := ((some l, 0), σ1)) (n := R.length) (Rall := R) rfl aaJ aaK hG h.ws.good (by have := h.ws.len; omega) h.sub h.f0 h.nx rfl (by omega) hp [] (by simp)
  rw [acs ha0 ha5 h53 h, e1, jw (r := .inl σ') (by unfold gK; simp)]
  have hc : σ'.bD[σ1.bD.length]? = some (some σ1.ai.length, ()) := by
    show σ'.base.bD[σ1.bD.length]? = _
    rw [e2.o]; exact aaJ (a := a) (l := l)
  have ho := Oq.of e2
  refine ⟨σ', by simp only [Option.bind_some, jR, hc], ⟨h.same ho.dd ho.df ho.wl ho.ws, e2.get aaK, hp, hw⟩, ho⟩
theorem Ui (ha0 : 0 ≤ a) (ha5 : a ≤ 5) (hD : DV σ d n0 A) (hA : OkA A) (hd : kY A = false) (hL : A.2.1 = []) :
    ∃ σ1 σ' l, fE (some d) a σ = some ((some σ1.ai.length, 0), σ') ∧ l = σ.ak.length ∧ QS σ' σ1.ai.length l d n0 a A [] [] [] [] [] ∧ Oq σ1 σ' ∧ Fw σ σ1 d n0 ∧ ExW σ σ1 l := by
  obtain ⟨σ1, g1, g2, g3, g4, g5⟩ := P9 hD hA hd hL (most := 2048) (by decide) (by decide)
  have hw : WR σ1 σ.ak.length d n0 A [] [] [] := ⟨WS.new g4 hA hL g5, rfl, by simp, rfl, hd⟩
  obtain ⟨σ', k1, k2, k3⟩ := BZ ha0 ha5 g1 hw (by simp) .nil (by simp)
  exact ⟨σ1, σ', _, k1, rfl, k2, k3, g2, g3⟩
end
end Go.Proofs.YtbnmhjobnepajaaGreat.M


namespace Go.Proofs.YtbnmhjobnepajaaGreat.M

structure Low (σ0 σ : St) : Prop where
  dd : ∀ i, i < σ0.ah.length → σ.ah[i]? = σ0.ah[i]?
  df : ∀ i, i < σ0.aj.length → σ.aj[i]? = σ0.aj[i]?
  wl : ∀ i, i < σ0.ak.length → σ.ak[i]? = σ0.ak[i]?
  ws : ∀ i, i < σ0.ae.length → σ.ae[i]? = σ0.ae[i]?
  qs : ∀ i, i < σ0.ai.length → σ.ai[i]? = σ0.ai[i]?
  ld : σ0.ah.length ≤ σ.ah.length
  lf : σ0.aj.length ≤ σ.aj.length
  ll : σ0.ak.length ≤ σ.ak.length
  ls : σ0.ae.length ≤ σ.ae.length
  lq : σ0.ai.length ≤ σ.ai.length
theorem Low.refl (σ : St) : Low σ σ := ⟨fun _ _ => rfl, fun _ _ => rfl, fun _ _ => rfl, fun _ _ => rfl, fun _ _ => rfl, Nat.le_refl _, Nat.le_refl _, Nat.le_refl _, Nat.le_refl _, Nat.le_refl _⟩
theorem LV {α : Type} {l : List α} {i : Nat} {x : α} (h : l[i]? = some x) : i < l.length := (List.getElem?_eq_some_iff.1 h).1

section
variable {σ σ0 σ1 : St} {q l d n0 : Nat} {a : Int} {A : AD} {js : List Nat} {segs : List Sg} {R : List (List UInt8)} {C : List iV} {V : List VdT}
theorem DV.low (h : DV σ d n0 A) (hk : Low σ σ1) : DV σ1 d n0 A := by
  obtain ⟨o, qs, a1, a2, a3, a4, a5, a6, a7, a8, a9⟩ := h
  refine ⟨o, qs, ?_, a2, a3, a4, a5, a6, a7, fun q hq => ?_, Nat.le_trans a9 hk.lf⟩
  · rw [hk.dd d (LV a1)]; exact a1
  · obtain ⟨b1, b2⟩ := a8 q hq
    exact ⟨by rw [hk.df _ (LV b1)]; exact b1, b2⟩
theorem LG.low {most : Int} {safe : Nat} (h : LG σ l d most js segs safe) (hk : Low σ σ1) : LG σ1 l d most js segs safe := by
  refine ⟨by rw [hk.wl l (LV h.lo)]; exact h.lo, h.nd, h.lie.VE (fun j _ g hg => ?_)⟩
  have hg' : σ.ae[j]? = _ := hg
  show σ1.ae[j]? = _
  rw [hk.ws j (LV hg')]; exact hg'
theorem QS.low (h : QS σ q l d n0 a A js segs R C V) (hk : Low σ σ1) : QS σ1 q l d n0 a A js segs R C V := by
  obtain ⟨⟨⟨a1, a2, a3, a4, a5, a6, a7⟩, b1, b2, b3, b4⟩, c1, c2, c3⟩ := h
  exact ⟨⟨⟨a1.low hk, a2.low hk, a3, a4, a5, a6, a7⟩, b1, b2, b3, b4⟩, by rw [hk.qs q (LV c1)]; exact c1, c2, c3⟩

structure Abv (σ0 : St) (q l d n0 : Nat) (js : List Nat) : Prop where
  d : σ0.ah.length ≤ d
  f : σ0.aj.length ≤ n0
  l : σ0.ak.length ≤ l
  s : ∀ j ∈ js, σ0.ae.length ≤ j
  q : σ0.ai.length ≤ q
theorem uM.same {js' : List Nat} (h : uM σ l js) (h' : uM σ l js') : js = js' := by
  obtain ⟨o, a, b⟩ := h
  obtain ⟨o', a', b'⟩ := h'
  rw [a] at a'; simp only [Option.some.injEq] at a'; subst a'
  rw [b] at b'
  exact (List.map_inj_right (fun a b h => by simpa using h)).1 b'
theorem Low.call (h : Low σ0 σ) (ha : Abv σ0 q l d n0 js) (hf : Fw σ σ1 d n0) (hj : Dq σ σ1 l js) {js' : List Nat} (hj' : uM σ1 l js') : Low σ0 σ1 ∧ Abv σ0 q l d n0 js' := by
  obtain ⟨w, js2, k1, k2⟩ := hj
  have := uM.same k1 hj'
  subst this
  refine ⟨⟨fun i hi => ?_, fun i hi => ?_, fun i hi => ?_, fun i hi => ?_, fun i hi => ?_, ?_, ?_, ?_, ?_, ?_⟩, ⟨ha.d, ha.f, ha.l, fun j hj => ?_, ha.q⟩⟩
  · rw [hf.ah i (by have := ha.d; omega) (by have := h.ld; omega)]; exact h.dd i hi
  · rw [hf.aj i (by have := ha.f; omega)]; exact h.df i hi
  · rw [w.lg i (by have := ha.l; omega)]; exact h.wl i hi
  · rw [w.sg i (fun hm => by have := ha.s i hm; omega) (by have := h.ls; omega)]; exact h.ws i hi
  · rw [hf.queue]; exact h.qs i hi
  · have := h.ld; have := hf.l105; omega
  · have := h.lf; have := hf.l108; omega
  · rw [w.ll]; exact h.ll
  · have := h.ls; have := w.sl; omega
  · rw [hf.queue]; exact h.lq
  · rcases k2 j hj with h' | h'
    · exact ha.s j h'
    · have := h.ls; omega
theorem Low.ED (h : Low σ0 σ) (hq : σ0.ai.length ≤ q) (y : QuT) : Low σ0 (ED σ q y) := by
  obtain ⟨a1, a2, a3, a4, a5, a6, a7, a8, a9, a10⟩ := h
  refine ⟨a1, a2, a3, a4, fun i hi => ?_, a6, a7, a8, a9, ?_⟩
  · show (σ.ai.set q y)[i]? = _
    rw [List.getElem?_set_ne (by omega)]; exact a5 i hi
  · show _ ≤ (σ.ai.set q y).length
    rw [List.length_set]; exact a10

structure QA (σ0 σ : St) (q l d n0 : Nat) (a : Int) (R : List (List UInt8)) (C : List iV) (V : List VdT) (A : AD) (js : List Nat) (segs : List Sg) (k : Nat) : Prop where
  qs : QS σ q l d n0 a A js segs R C V
  low : Low σ0 σ
  abv : Abv σ0 q l d n0 js
  arm : oZ A = 0
  room : A.1 = 1048576
  lr : R.length ≤ k
  ls : segs.length ≤ k
  sz : szS segs ≤ 725 * k
theorem QA.over {k : Nat} (h : QA σ0 σ q l d n0 a R C V A js segs k) (hk : k ≤ 80) {x : List UInt8} (hx : x.length ≤ 1024) : ¬ Over A segs x := by
  have h1 := h.room
  have h2 := h.ls
  have h3 := h.sz
  unfold Over
  rw [h1]
  omega
theorem QA.acG {k : Nat} (h : QA σ0 σ q l d n0 a R C V A js segs k) (hk : k ≤ 80) {x : List UInt8} (hx : x.length ≤ 1024) {e : Int} {B : AD} {segs' : List Sg} (ho : XO σ q l d n0 A js segs R x e σ1 B segs') :
    e = 0 ∧ More segs x segs' ∧ ∃ js', WR σ1 l d n0 B js' segs' (R ++ [x]) ∧ Low σ0 σ1 ∧ Abv σ0 q l d n0 js' ∧ oZ B = 0 ∧ B.1 = 1048576 := by
  rcases ho.out with ⟨rfl, o1, js', o2⟩ | ⟨rfl, _, o, _⟩ | ⟨rfl, o, _⟩
  · obtain ⟨k1, k2⟩ := h.low.call h.abv ho.fw ho.js o2.ws.lg.uM
    exact ⟨rfl, o1, js', o2, k1, k2, ho.arm h.arm, ho.room.trans h.room⟩
  · exact absurd o (h.over hk hx)
  · exact absurd h.arm o
theorem QA.Sv {k : Nat} (h : QA σ0 σ q l d n0 a R C V A js segs k) (hk : k ≤ 80) {st : List UInt8} {rule ex : Int} {args : List Int} (hf : IX (a, ((C.length + 1 : Nat) : Int), st, rule, args, ex, ())) :
    ∃ r σ' A' js' segs', dR (some q) st rule args ex σ = some (r, σ') ∧ σ'.af = σ.af ∧
      ((kU (a, ((C.length + 1 : Nat) : Int), st, rule, args, ex, ()) = false ∧ r = (0, 2) ∧ QA σ0 σ' q l d n0 a R C V A' js' segs' (k + 1)) ∨
       (kU (a, ((C.length + 1 : Nat) : Int), st, rule, args, ex, ()) = true ∧ 32 ≤ C.length - V.length ∧ r = (0, 10) ∧ QA σ0 σ' q l d n0 a R C V A' js' segs' (k + 1)) ∨
       (kU (a, ((C.length + 1 : Nat) : Int), st, rule, args, ex, ()) = true ∧ C.length - V.length < 32 ∧ r = (((C.length + 1 : Nat) : Int), 0) ∧
         QA σ0 σ' q l d n0 a (R ++ [recC (a, ((C.length + 1 : Nat) : Int), st, rule, args, ex, ())]) (C ++ [(a, ((C.length + 1 : Nat) : Int), st, rule, args, ex, ())]) V A' js' segs' (k + 1))) := by
  have hlr := h.lr
  have hls := h.ls
  have hsz := h.sz
  have stay : QA σ0 σ q l d n0 a R C V A js segs (k + 1) := ⟨h.qs, h.low, h.abv, h.arm, h.room, by omega, by omega, by omega⟩
  obtain ⟨r, σ', e1, e2⟩ := LH h.qs (by omega) (by omega) hf
  cases e2 with
  | bad hc => exact ⟨_, _, A, js, segs, e1, rfl, .inl ⟨hc, rfl, stay⟩⟩
  | full hc hw => exact ⟨_, _, A, js, segs, e1, rfl, .inr (.inl ⟨hc, hw, rfl, stay⟩)⟩
  | fail hc hw ho he =>
    have := (Be hc).1
    exact absurd (h.acG hk (by unfold recC; rw [List.length_cons]; omega) ho).1 he
  | ok hc hw ho =>
    have hl := (Be hc).1
    have hrl : (recC (a, ((C.length + 1 : Nat) : Int), st, rule, args, ex, ())).length ≤ 201 := by unfold recC; rw [List.length_cons]; omega
    obtain ⟨-, o1, js', o2, o3, o4, o5, o6⟩ := h.acG hk (by omega) ho
    refine ⟨_, _, _, js', _, e1, ho.fw.ref, .inr (.inr ⟨hc, hw, rfl, h.qs.O3 o2 ho.fw.queue hc rfl rfl hw, o3.ED h.abv.q _, o4, o5, o6, by simp; omega, ?_, ?_⟩)⟩
    · have := o1.len; omega
    · have := o1.sz; omega
theorem QA.done {k : Nat} (h : QA σ0 σ q l d n0 a R C V A js segs k) (hk : k ≤ 80) {m : List VdT} (hm : ∀ v ∈ m, I64 v.1 ∧ I64 v.2.1) (hml : m.length ≤ 1048576) :
    ∃ r σ' A' js' segs', fB (some q) m σ = some (r, σ') ∧ σ'.af = σ.af ∧
      ((kL m = false ∧ r = (0, 2) ∧ QA σ0 σ' q l d n0 a R C V A' js' segs' (k + 1)) ∨
       (kL m = true ∧ fG V.length m = [] ∧ r = (0, 0) ∧ QA σ0 σ' q l d n0 a R C V A' js' segs' (k + 1)) ∨
       (kL m = true ∧ fG V.length m ≠ [] ∧ rO V.length (C.length - V.length) (fG V.length m) = false ∧ r = (0, 3) ∧ QA σ0 σ' q l d n0 a R C V A' js' segs' (k + 1)) ∨
       (kL m = true ∧ fG V.length m ≠ [] ∧ rO V.length (C.length - V.length) (fG V.length m) = true ∧ r = ((((fG V.length m).length : Nat) : Int), 0) ∧
         QA σ0 σ' q l d n0 a (R ++ [vw (fG V.length m)]) C (V ++ fG V.length m) A' js' segs' (k + 1))) := by
  have hlr := h.lr
  have hls := h.ls
  have hsz := h.sz
  have stay : QA σ0 σ q l d n0 a R C V A js segs (k + 1) := ⟨h.qs, h.low, h.abv, h.arm, h.room, by omega, by omega, by omega⟩
  obtain ⟨r, σ', e1, e2⟩ := SE h.qs (by omega) (by omega) hm hml
  cases e2 with
  | bad hc => exact ⟨_, _, A, js, segs, e1, rfl, .inl ⟨hc, rfl, stay⟩⟩
  | none hc h0 => exact ⟨_, _, A, js, segs, e1, rfl, .inr (.inl ⟨hc, h0, rfl, stay⟩)⟩
  | range hc h0 hf => exact ⟨_, _, A, js, segs, e1, rfl, .inr (.inr (.inl ⟨hc, h0, hf, rfl, stay⟩))⟩
  | fail hc hf ho he =>
    have := (Bf (ug (n := V.length) hc)).1
    exact absurd (h.acG hk (by unfold vw; rw [List.length_cons]; omega) ho).1 he
  | ok hc hf ho =>
    have hl := (Bf (ug (n := V.length) hc)).1
    have hrl : (vw (fG V.length m)).length ≤ 701 := by unfold vw; rw [List.length_cons]; omega
    obtain ⟨-, o1, js', o2, o3, o4, o5, o6⟩ := h.acG hk (by omega) ho
    refine ⟨_, _, _, js', _, e1, ho.fw.ref, .inr (.inr (.inr ⟨hc, fun h0 => by have := (Am hf).1; rw [h0] at this; simp at this, hf, rfl, h.qs.O4 o2 ho.fw.queue (ug hc) hf, o3.ED h.abv.q _, o4, o5, o6, by simp; omega, ?_, ?_⟩))⟩
    · have := o1.len; omega
    · have := o1.sz; omega
end
end Go.Proofs.YtbnmhjobnepajaaGreat.M


namespace Go.Proofs.YtbnmhjobnepajaaGreat.M

section
variable {σ σ0 σ1 σ2 : St} {q l d n0 : Nat} {a : Int} {A : AD} {js : List Nat} {segs : List Sg} {R : List (List UInt8)} {C : List iV} {V : List VdT}
theorem Low.trans (h1 : Low σ0 σ1) (h2 : Low σ1 σ2) : Low σ0 σ2 := by
  refine ⟨fun i hi => ?_, fun i hi => ?_, fun i hi => ?_, fun i hi => ?_, fun i hi => ?_, Nat.le_trans h1.ld h2.ld, Nat.le_trans h1.lf h2.lf, Nat.le_trans h1.ll h2.ll, Nat.le_trans h1.ls h2.ls, Nat.le_trans h1.lq h2.lq⟩
  · rw [h2.dd i (Nat.lt_of_lt_of_le hi h1.ld)]; exact h1.dd i hi
  · rw [h2.df i (Nat.lt_of_lt_of_le hi h1.lf)]; exact h1.df i hi
  · rw [h2.wl i (Nat.lt_of_lt_of_le hi h1.ll)]; exact h1.wl i hi
  · rw [h2.ws i (Nat.lt_of_lt_of_le hi h1.ls)]; exact h1.ws i hi
  · rw [h2.qs i (Nat.lt_of_lt_of_le hi h1.lq)]; exact h1.qs i hi
theorem Low.disk (x : aA dV) : Low σ (σ.oK x) :=
  ⟨fun i hi => List.getElem?_append_left hi, fun _ _ => rfl, fun _ _ => rfl, fun _ _ => rfl, fun _ _ => rfl, by show _ ≤ (σ.ah ++ [x]).length; simp, Nat.le_refl _, Nat.le_refl _, Nat.le_refl _, Nat.le_refl _⟩
theorem Low.open (h : Low σ0 σ) (hd : σ0.ah.length ≤ d) (hn : σ0.aj.length ≤ n0) (hl : σ0.ak.length ≤ l) (hf : Fw σ σ1 d n0) (he : ExW σ σ1 l) : Low σ0 σ1 := by
  refine ⟨fun i hi => ?_, fun i hi => ?_, fun i hi => ?_, fun i hi => ?_, fun i hi => ?_, ?_, ?_, ?_, ?_, ?_⟩
  · rw [hf.ah i (by omega) (by have := h.ld; omega)]; exact h.dd i hi
  · rw [hf.aj i (by omega)]; exact h.df i hi
  · rw [he.ak i (by omega) (by have := h.ll; omega)]; exact h.wl i hi
  · rw [he.ae i (by have := h.ls; omega)]; exact h.ws i hi
  · rw [hf.queue]; exact h.qs i hi
  · have := h.ld; have := hf.l105; omega
  · have := h.lf; have := hf.l108; omega
  · have := h.ll; have := he.l128; omega
  · have := h.ls; have := he.l130; omega
  · rw [hf.queue]; exact h.lq
theorem Low.opened (h : Low σ0 σ1) (ho : Oq σ1 σ2) : Low σ0 σ2 := by
  refine h.trans ⟨fun i _ => by rw [ho.dd], fun i _ => by rw [ho.df], fun i _ => by rw [ho.wl], fun i _ => by rw [ho.ws], ho.qs, by rw [ho.dd]; exact Nat.le_refl _, by rw [ho.df]; exact Nat.le_refl _, by rw [ho.wl]; exact Nat.le_refl _, by rw [ho.ws]; exact Nat.le_refl _, by have := ho.ql; omega⟩

theorem start (σ : St) (ha0 : 0 ≤ a) (ha5 : a ≤ 5) {room : Int} (hr0 : 0 ≤ room) (hr1 : room ≤ 1048576) : ∃ σa, sO room σ = some ((some σ.ah.length, 0), σa) ∧ DV σa σ.ah.length σ.aj.length (room, [], 0, false, ()) ∧ OkA (room, [], 0, false, ()) ∧ Low σ σa ∧ σa.af = σ.af := by
  obtain ⟨e1, e2, e3⟩ := adi (σ := σ) hr0 hr1
  refine ⟨_, ?_, e2, e3, Low.disk _, rfl⟩
  rw [eq_18]; exact e1
theorem QA.start (σ : St) (ha0 : 0 ≤ a) (ha5 : a ≤ 5) : ∃ σa σ2 q l A, sO 1048576 σ = some ((some σ.ah.length, 0), σa) ∧ fE (some σ.ah.length) a σa = some ((some q, 0), σ2) ∧
    QA σ σ2 q l σ.ah.length σ.aj.length a [] [] [] A [] [] 0 ∧ σ2.af = σ.af := by
  obtain ⟨σa, e1, e2, e3, e4, e5⟩ := M.start σ ha0 ha5 (room := 1048576) (by decide) (by decide)
  obtain ⟨σ1, σ2, l, g1, rfl, g2, g3, g4, g5⟩ := Ui ha0 ha5 e2 e3 rfl rfl
  have hl : σ.ak.length ≤ σa.ak.length := e4.ll
  have h1 := e4.open (Nat.le_refl _) (Nat.le_refl _) hl g4 g5
  exact ⟨σa, σ2, _, _, _, e1, g1, ⟨g2, h1.opened g3, ⟨Nat.le_refl _, Nat.le_refl _, hl, by simp, h1.lq⟩, rfl, rfl, by simp, by simp, by simp [szS]⟩, g3.rq.trans (g4.ref.trans e5)⟩

theorem Y7 (σ : St) : ∃ σ', jJ σ = some (true, σ') ∧ Low σ σ' ∧ σ'.af = σ.af := by
  obtain ⟨σa, σ2, q, l, A, e1, e2, h0, e3⟩ := QA.start (a := 1) σ (by decide) (by decide)
  have fit : ∀ (n : Nat) (args : List Int), n < 100 → (∀ y ∈ args, y = 5) → args.length ≤ 1 → IX (1, ((n + 1 : Nat) : Int), [97], 0, args, -1, ()) := fun n args hn hy hl =>
    ⟨by show I64 1; exact ⟨by decide, by decide⟩, zx (by omega), by show (1 : Nat) < _; decide, by show I64 0; exact ⟨by decide, by decide⟩, fun y hm => by rw [hy y hm]; exact ⟨by decide, by decide⟩, by show args.length ≤ _; omega, by show I64 (-1); exact ⟨by decide, by decide⟩⟩
  obtain ⟨r1, s1, A1, js1, segs1, u1, v1, c1⟩ := h0.Sv (by decide) (fit 0 [5] (by decide) (by simp) (by simp))
  rcases c1 with ⟨c, _⟩ | ⟨_, c, _⟩ | ⟨_, _, rfl, h1⟩
  · exact absurd c (by decide)
  · exact absurd c (by decide)
  obtain ⟨r2, s2, A2, js2, segs2, u2, v2, c2⟩ := h1.Sv (by decide) (fit 1 [] (by decide) (by simp) (by simp))
  rcases c2 with ⟨c, _⟩ | ⟨_, c, _⟩ | ⟨_, _, rfl, h2⟩
  · exact absurd c (by decide)
  · exact absurd c (by decide)
  have hv : ∀ v ∈ [((1 : Int), ((0 : Int), ()))], I64 v.1 ∧ I64 v.2.1 := by
    intro v hv
    simp only [List.mem_singleton] at hv
    subst hv
    exact ⟨⟨by decide, by decide⟩, by decide, by decide⟩
  obtain ⟨r3, s3, A3, js3, segs3, u3, v3, c3⟩ := h2.done (by decide) hv (by simp)
  rcases c3 with ⟨c, _⟩ | ⟨_, c, _⟩ | ⟨_, _, c, _⟩ | ⟨_, _, _, rfl, h3⟩
  · exact absurd c (by decide)
  · exact absurd c (by decide)
  · exact absurd c (by decide)
  obtain ⟨r4, s4, A4, js4, segs4, u4, v4, c4⟩ := h3.done (by decide) hv (by simp)
  rcases c4 with ⟨c, _⟩ | ⟨_, _, rfl, h4⟩ | ⟨_, c, _⟩ | ⟨_, c, _⟩
  · exact absurd c (by decide)
  · refine ⟨s4, ?_, h4.low, v4.trans (v3.trans (v2.trans (v1.trans e3)))⟩
    unfold jJ
    have lr := h4.lr
    rw [e1]
    simp only [Option.bind_some]
    rw [e2]
    simp only [Option.bind_some]
    rw [if_neg (by simp), u1]
    simp only [Option.bind_some]
    rw [u2]
    simp only [Option.bind_some]
    rw [u3]
    simp only [Option.bind_some]
    rw [u4]
    simp only [Option.bind_some]
    rw [if_pos (by decide), h4.qs.waiting (by omega)]
    simp only [Option.bind_some]
    rw [if_pos (by decide), h4.qs.notices (by omega)]
    simp only [Option.bind_some]
    rw [if_pos (by decide), h4.qs.first (by omega)]
    simp only [Option.bind_some]
    rw [if_pos (by decide), h4.qs.next (by omega)]
    rfl
  · exact absurd rfl c
  · exact absurd rfl c
end
end Go.Proofs.YtbnmhjobnepajaaGreat.M


namespace Go.Proofs.YtbnmhjobnepajaaGreat.M

noncomputable def St.none : St := ⟨[], [], [], [], [], [], [], [], [], [], [], []⟩
abbrev UW : Type := Int × Int × iV × List VdT × List Int × Unit
structure Gg (t : UW) : Prop where
  s : t.2.2.1.2.2.1.length < 4611686018427387904
  r : I64 t.2.2.1.2.2.2.1
  l : ∀ n ∈ t.2.2.1.2.2.2.2.1, I64 n
  n : t.2.2.1.2.2.2.2.1.length ≤ 1048576
  e : I64 t.2.2.1.2.2.2.2.2.1
  v : ∀ v ∈ t.2.2.2.1, I64 v.1 ∧ I64 v.2.1
  m : t.2.2.2.1.length ≤ 1048576
theorem Gg.cmd {t : UW} (h : Gg t) {a : Int} (ha0 : 0 ≤ a) (ha5 : a ≤ 5) {n : Nat} (hn : n ≤ 10000) : IX (a, ((n + 1 : Nat) : Int), t.2.2.1.2.2.1, t.2.2.1.2.2.2.1, t.2.2.1.2.2.2.2.1, t.2.2.1.2.2.2.2.2.1, ()) :=
  ⟨⟨by show (_ : Int) ≤ a; omega, by show a < _; omega⟩, zx (by omega), h.s, h.r, h.l, h.n, h.e⟩

section
variable {σ σ0 σ1 : St} {q l d n0 k : Nat} {a : Int} {A : AD} {js : List Nat} {segs : List Sg} {R : List (List UInt8)} {C : List iV} {V : List VdT}
noncomputable def Rf (σ : St) (x : Nat) (a : Int) (C : List iV) (V : List VdT) : Prop := σ.af[x]? = some (a, C, V, ())

end
end Go.Proofs.YtbnmhjobnepajaaGreat.M


namespace Go.Proofs.YtbnmhjobnepajaaGreat.M

section
variable {σ σ0 σ1 : St} {q l d n0 k : Nat} {a : Int} {A : AD} {js : List Nat} {segs : List Sg} {R : List (List UInt8)} {C : List iV} {V : List VdT}
theorem IB (σ : St) (ys : List (aA lM)) : Low σ (σ.aX ys) :=
  ⟨fun _ _ => rfl, fun _ _ => rfl, fun _ _ => rfl, fun _ _ => rfl, fun _ _ => rfl, Nat.le_refl _, Nat.le_refl _, Nat.le_refl _, Nat.le_refl _, Nat.le_refl _⟩
end
end Go.Proofs.YtbnmhjobnepajaaGreat.M


namespace Go.Proofs.YtbnmhjobnepajaaGreat.M

theorem Yr : ∀ t tab, aV TB St.none t = some tab → tab.xs.length = 0 := by
  intro t tab h
  unfold TB St.none at h
  simp only [aV] at h
  repeat' split at h
  all_goals first
    | (simp only [Option.some.injEq] at h; subst h; rfl)
    | cases h
theorem wf_i64 {n : Int} (h : (Lit.int .i64 n).wf = true) : I64 n := by
  simp only [Lit.wf, Bool.and_eq_true, decide_eq_true_eq] at h
  have h1 : IntKind.i64.min = -9223372036854775808 := by decide
  have h2 : IntKind.i64.max = 9223372036854775807 := by decide
  rw [h1, h2] at h
  exact ⟨h.1, by omega⟩
theorem abw {t : UW} (f : Kd.Fits bH t) (m : Kd.Sm 1048576 bH t) : Gg t := by
  obtain ⟨f1, f2, ⟨f3, f4, f5, f6, ⟨f7, f8⟩, f9, -⟩, ⟨f10, f11⟩, ⟨f12, f13⟩, -⟩ := f
  obtain ⟨-, -, ⟨-, -, m5, -, ⟨m7, -⟩, -, -⟩, ⟨m10, -⟩, -, -⟩ := m
  refine ⟨?_, wf_i64 f6, fun n hn => wf_i64 (f8 n hn), m7, wf_i64 f9, fun v hv => ⟨wf_i64 (f11 v hv).1, wf_i64 (f11 v hv).2.1⟩, m10⟩
  have : t.2.2.1.2.2.1.length ≤ 1048576 := m5
  omega
theorem Y1 {l : List UW} (f : Kd.Fits (.list bH) l) (m : Kd.Sm 1048576 (.list bH) l) : ∀ t ∈ l, Gg t := fun t ht => abw (f.2 t ht) (m.2 t ht)
end Go.Proofs.YtbnmhjobnepajaaGreat.M


namespace Go.Proofs.YtbnmhjobnepajaaGreat.M

section
variable {σ σ1 : St} {q l d n0 k : Nat} {a : Int} {A : AD} {js : List Nat} {segs : List Sg} {R : List (List UInt8)} {C : List iV} {V : List VdT}
theorem xk (σ : St) (x : Nat) (y : RqT) : Low σ (VT σ x y) := IB σ _
noncomputable def y9 (σ : St) (y : RqT) : St := σ.aX (σ.af ++ [y])
theorem NK (σ : St) (y : RqT) : (y9 σ y).af[σ.af.length]? = some y := by
  show (σ.af ++ [y])[σ.af.length]? = _
  simp
theorem NL {σ : St} {x : Nat} {y z : RqT} (h : σ.af[x]? = some z) : (y9 σ y).af[x]? = some z := by
  show (σ.af ++ [y])[x]? = _
  rw [List.getElem?_append_left (LV h)]; exact h
theorem EF {σ : St} {x x' : Nat} {y z : RqT} (h : σ.af[x]? = some z) (hx : x ≠ x') : (VT σ x' y).af[x]? = some z := by
  show (σ.af.set x' y)[x]? = _
  rw [List.getElem?_set_ne (Ne.symm hx)]; exact h

end
end Go.Proofs.YtbnmhjobnepajaaGreat.M


namespace Go.Proofs.YtbnmhjobnepajaaGreat.M

noncomputable def Dn (σ' : St) (d n0 : Nat) (segs : List Sg) (x : List UInt8) : Prop := ∃ B segs' s', CSW σ' d n0 B segs' s' ∧ aK segs ≤ GH segs' s' ∧ (segs' = segs ∨ More segs x segs')
structure QK (σ : St) (q l d n0 : Nat) (a : Int) (R : List (List UInt8)) (C : List iV) (V : List VdT) (A : AD) (js : List Nat) (segs : List Sg) (k : Nat) : Prop where
  qs : QS σ q l d n0 a A js segs R C V
  room : A.1 = 1048576
  lr : R.length ≤ k
  ls : segs.length ≤ k
  sz : szS segs ≤ 725 * k
section
variable {σ σ1 : St} {q l d n0 k : Nat} {a : Int} {A : AD} {js : List Nat} {segs : List Sg} {R : List (List UInt8)} {C : List iV} {V : List VdT}
theorem QK.up (h : QK σ q l d n0 a R C V A js segs k) (hk : Low σ σ1) : QK σ1 q l d n0 a R C V A js segs k := ⟨h.qs.low hk, h.room, h.lr, h.ls, h.sz⟩
theorem QK.more (h : QK σ q l d n0 a R C V A js segs k) {k' : Nat} (hk : k ≤ k') : QK σ q l d n0 a R C V A js segs k' := ⟨h.qs, h.room, by have := h.lr; omega, by have := h.ls; omega, by have := h.sz; omega⟩
theorem QK.over (h : QK σ q l d n0 a R C V A js segs k) (hk : k ≤ 80) {x : List UInt8} (hx : x.length ≤ 1024) : ¬ Over A segs x := by
  have h1 := h.room
  have h2 := h.ls
  have h3 := h.sz
  unfold Over
  rw [h1]
  omega
theorem QK.Sv (h : QK σ q l d n0 a R C V A js segs k) (hk : k ≤ 80) {st : List UInt8} {rule ex : Int} {args : List Int} (hf : IX (a, ((C.length + 1 : Nat) : Int), st, rule, args, ex, ())) :
    ∃ r σ' A' js' segs', dR (some q) st rule args ex σ = some (r, σ') ∧ σ'.af = σ.af ∧
      ((r.2 ≠ 0 ∧ r.2 ≠ 11 ∧ QK σ' q l d n0 a R C V A' js' segs' (k + 1)) ∨
       (kU (a, ((C.length + 1 : Nat) : Int), st, rule, args, ex, ()) = true ∧ C.length - V.length < 32 ∧ r = (0, 11) ∧ Dn σ' d n0 segs (recC (a, ((C.length + 1 : Nat) : Int), st, rule, args, ex, ()))) ∨
       (kU (a, ((C.length + 1 : Nat) : Int), st, rule, args, ex, ()) = true ∧ C.length - V.length < 32 ∧ r = (((C.length + 1 : Nat) : Int), 0) ∧
         QK σ' q l d n0 a (R ++ [recC (a, ((C.length + 1 : Nat) : Int), st, rule, args, ex, ())]) (C ++ [(a, ((C.length + 1 : Nat) : Int), st, rule, args, ex, ())]) V A' js' segs' (k + 1))) := by
  have hlr := h.lr
  have hls := h.ls
  have hsz := h.sz
  obtain ⟨r, σ', e1, e2⟩ := LH h.qs (by omega) (by omega) hf
  cases e2 with
  | bad hc => exact ⟨_, _, A, js, segs, e1, rfl, .inl ⟨by simp, by simp, h.more (by omega)⟩⟩
  | full hc hw => exact ⟨_, _, A, js, segs, e1, rfl, .inl ⟨by simp, by simp, h.more (by omega)⟩⟩
  | fail hc hw ho he =>
    have hl := (Be hc).1
    rcases ho.out with ⟨rfl, _⟩ | ⟨_, _, o, _⟩ | ⟨rfl, _, o, s', o1, o2⟩
    · exact absurd rfl he
    · exact absurd o (h.over hk (by unfold recC; rw [List.length_cons]; omega))
    · exact ⟨_, _, A, js, segs, e1, ho.fw.ref, .inr (.inl ⟨hc, hw, rfl, _, _, s', o1, o2, o⟩)⟩
  | ok hc hw ho =>
    have hl := (Be hc).1
    have hrl : (recC (a, ((C.length + 1 : Nat) : Int), st, rule, args, ex, ())).length ≤ 201 := by unfold recC; rw [List.length_cons]; omega
    rcases ho.out with ⟨_, o1, js', o2⟩ | ⟨o, _⟩ | ⟨o, _⟩
    · exact ⟨_, _, _, js', _, e1, ho.fw.ref, .inr (.inr ⟨hc, hw, rfl, h.qs.O3 o2 ho.fw.queue hc rfl rfl hw, ho.room.trans h.room, by simp; omega, by have := o1.len; omega, by have := o1.sz; omega⟩)⟩
    · exact absurd o (by decide)
    · exact absurd o (by decide)
theorem QK.done (h : QK σ q l d n0 a R C V A js segs k) (hk : k ≤ 80) {m : List VdT} (hm : ∀ v ∈ m, I64 v.1 ∧ I64 v.2.1) (hml : m.length ≤ 1048576) :
    ∃ r σ' A' js' segs', fB (some q) m σ = some (r, σ') ∧ σ'.af = σ.af ∧
      ((r.2 ≠ 0 ∧ r.2 ≠ 11 ∧ QK σ' q l d n0 a R C V A' js' segs' (k + 1)) ∨
       (kL m = true ∧ fG V.length m = [] ∧ r = (0, 0) ∧ QK σ' q l d n0 a R C V A' js' segs' (k + 1)) ∨
       (kL m = true ∧ fG V.length m ≠ [] ∧ rO V.length (C.length - V.length) (fG V.length m) = true ∧ r = (0, 11) ∧ Dn σ' d n0 segs (vw (fG V.length m))) ∨
       (kL m = true ∧ fG V.length m ≠ [] ∧ rO V.length (C.length - V.length) (fG V.length m) = true ∧ r = ((((fG V.length m).length : Nat) : Int), 0) ∧
         QK σ' q l d n0 a (R ++ [vw (fG V.length m)]) C (V ++ fG V.length m) A' js' segs' (k + 1))) := by
  have hlr := h.lr
  have hls := h.ls
  have hsz := h.sz
  have ne : rO V.length (C.length - V.length) (fG V.length m) = true → fG V.length m ≠ [] := fun hf h0 => by have := (Am hf).1; rw [h0] at this; simp at this
  obtain ⟨r, σ', e1, e2⟩ := SE h.qs (by omega) (by omega) hm hml
  cases e2 with
  | bad hc => exact ⟨_, _, A, js, segs, e1, rfl, .inl ⟨by simp, by simp, h.more (by omega)⟩⟩
  | none hc h0 => exact ⟨_, _, A, js, segs, e1, rfl, .inr (.inl ⟨hc, h0, rfl, h.more (by omega)⟩)⟩
  | range hc h0 hf => exact ⟨_, _, A, js, segs, e1, rfl, .inl ⟨by simp, by simp, h.more (by omega)⟩⟩
  | fail hc hf ho he =>
    have hl := (Bf (ug (n := V.length) hc)).1
    rcases ho.out with ⟨rfl, _⟩ | ⟨_, _, o, _⟩ | ⟨rfl, _, o, s', o1, o2⟩
    · exact absurd rfl he
    · exact absurd o (h.over hk (by unfold vw; rw [List.length_cons]; omega))
    · exact ⟨_, _, A, js, segs, e1, ho.fw.ref, .inr (.inr (.inl ⟨hc, ne hf, hf, rfl, _, _, s', o1, o2, o⟩))⟩
  | ok hc hf ho =>
    have hl := (Bf (ug (n := V.length) hc)).1
    have hrl : (vw (fG V.length m)).length ≤ 701 := by unfold vw; rw [List.length_cons]; omega
    rcases ho.out with ⟨_, o1, js', o2⟩ | ⟨o, _⟩ | ⟨o, _⟩
    · exact ⟨_, _, _, js', _, e1, ho.fw.ref, .inr (.inr (.inr ⟨hc, ne hf, hf, rfl, h.qs.O4 o2 ho.fw.queue (ug hc) hf, ho.room.trans h.room, by simp; omega, by have := o1.len; omega, by have := o1.sz; omega⟩))⟩
    · exact absurd o (by decide)
    · exact absurd o (by decide)
theorem QK.WC (h : QK σ q l d n0 a R C V A js segs k) (hk : k ≤ 80) (ha0 : 0 ≤ a) (ha5 : a ≤ 5) (keep : List Int) :
    ∃ σ1 σ2 q' l' A' js', gJ (some d) keep σ = some (0, σ1) ∧ fE (some d) a σ1 = some ((some q', 0), σ2) ∧ QS σ2 q' l' d n0 a A' js' segs R C V ∧ σ2.af = σ.af := by
  obtain ⟨⟨⟨ws, f0, sub, nx, dn⟩, qo, pl, w32⟩, room, lr, ls, sz⟩ := h
  obtain ⟨σ1, σ2, B, js', segs', g1, g2, g3, g4, g5, g6, g7, g8, g9, g10, g11⟩ := L6 (most := 2048) ⟨ws.dv, ws.ok, ws.dl, ws.good, ws.len⟩ keep (by decide) (by decide)
  have hs : segs' = segs := by
    rcases g11 with ⟨h1, h2⟩ | ⟨pre, g, m, h1, h2, h3, h4, -⟩
    · rw [h1, h2]
    · subst h1 h2
      rw [qC, List.take_of_length_le (by omega)]
  subst hs
  have hw : WR σ2 σ1.ak.length d n0 B js' segs' R := ⟨g9, f0, sub, nx, g8⟩
  obtain ⟨σ3, k1, k2, k3⟩ := BZ ha0 ha5 g2 hw (by omega) pl w32
  refine ⟨σ1, σ3, _, _, B, js', ?_, k1, k2, k3.rq.trans g3.ref⟩
  rw [eq_27]; exact g1
theorem ZA {x : List UInt8} {C2 : List iV} {V2 : List VdT} (hd : Dn σ d n0 segs x) (f0 : zV segs = 0) (sub : ∀ g ∈ segs, Sub R g) (nx : aK segs = R.length) (hR : R.length ≤ 1000) (hp : vJ a R C V) (hp2 : vJ a (R ++ [x]) C2 V2) (hw : C.length - V.length ≤ 32) (hw2 : C2.length - V2.length ≤ 32) (ha0 : 0 ≤ a) (ha5 : a ≤ 5) (keep : List Int) :
    ∃ σ1 σ2 q' l' A' js' segs2, gJ (some d) keep σ = some (0, σ1) ∧ fE (some d) a σ1 = some ((some q', 0), σ2) ∧ σ2.af = σ.af ∧
      (QS σ2 q' l' d n0 a A' js' segs2 R C V ∨ QS σ2 q' l' d n0 a A' js' segs2 (R ++ [x]) C2 V2) := by
  obtain ⟨B0, segs', s', hc, hs, hm⟩ := hd
  obtain ⟨σ1, σ2, B, js', segs2, g1, g2, g3, g4, g5, g6, g7, g8, g9, g10, g11⟩ := L6 (most := 2048) hc keep (by decide) (by decide)
  have g1' : gJ (some d) keep σ = some (0, σ1) := by rw [eq_27]; exact g1
  -- what is left
  have key : WR σ2 σ1.ak.length d n0 B js' segs2 R ∨ WR σ2 σ1.ak.length d n0 B js' segs2 (R ++ [x]) := by
    have full : More segs x segs' → segs2 = segs' → WR σ2 σ1.ak.length d n0 B js' segs2 (R ++ [x]) := fun hm he => by
      subst he
      exact ⟨g9, by rw [hm.first]; exact f0, Sub.more hm sub nx, by rw [hm.next, nx]; simp, g8⟩
    rcases g11 with ⟨h1, h2⟩ | ⟨pre, g, m, h1, h2, h3, h4, -⟩
    · subst h1 h2
      rcases hm with rfl | hm
      · exact .inl ⟨g9, f0, sub, nx, g8⟩
      · exact absurd rfl hm.len.2
    · rcases hm with rfl | hm
      · left
        subst h1
        rw [lJ, gV] at hs
        unfold sgN at hs
        have he : g.2.take (s' + m) = g.2 := List.take_of_length_le (by omega)
        rw [he] at h2
        subst h2
        exact ⟨g9, f0, sub, nx, g8⟩
      · cases hm with
        | @fresh _ _ hne =>
          obtain ⟨e1, e2⟩ := List.append_inj' h1 rfl
          simp only [List.cons.injEq, and_true] at e2
          subst e1 e2
          by_cases hz : s' + m = 0
          · left
            simp only [hz, List.take_zero] at h2
            subst h2
            refine ⟨g9, ?_, fun y hy => ?_, by rw [gV]; unfold sgN; simpa using nx, g8⟩
            · cases hsg : segs with
              | nil => rfl
              | cons b r => rw [hsg] at f0; exact f0
            · rcases List.mem_append.1 hy with hy | hy
              · exact sub y hy
              · simp only [List.mem_singleton] at hy
                subst hy
                exact ⟨R, [], by simp, nx.symm⟩
          · right
            refine full (.fresh hne) ?_
            rw [h2, List.take_of_length_le (by simp; omega)]
        | @same pre2 g2' _ =>
          obtain ⟨e1, e2⟩ := List.append_inj' h1 rfl
          simp only [List.cons.injEq, and_true] at e2
          subst e1 e2
          rw [lJ, gV] at hs
          unfold sgN at hs
          simp only at hs h2 h3
          by_cases hz : s' + m = g2'.2.length
          · left
            rw [List.take_append_of_le_length (by omega), List.take_of_length_le (by omega)] at h2
            subst h2
            exact ⟨g9, f0, sub, nx, g8⟩
          · right
            refine full .same ?_
            rw [h2, List.take_of_length_le (by simp; omega)]
  rcases key with hk | hk
  · obtain ⟨σ3, k1, k2, k3⟩ := BZ ha0 ha5 g2 hk (by omega) hp hw
    exact ⟨σ1, σ3, _, _, B, js', segs2, g1', k1, k3.rq.trans g3.ref, .inl k2⟩
  · obtain ⟨σ3, k1, k2, k3⟩ := BZ ha0 ha5 g2 hk (by simp; omega) hp2 hw2
    exact ⟨σ1, σ3, _, _, B, js', segs2, g1', k1, k3.rq.trans g3.ref, .inr k2⟩
end
end Go.Proofs.YtbnmhjobnepajaaGreat.M


namespace Go.Proofs.YtbnmhjobnepajaaGreat.M

structure KD (σ : St) (d n0 xi yi : Nat) (R : List (List UInt8)) (C : List iV) (V : List VdT) (x : List UInt8) (C2 : List iV) (V2 : List VdT) (segs : List Sg) : Prop where
  dn : Dn σ d n0 segs x
  f0 : zV segs = 0
  sub : ∀ g ∈ segs, Sub R g
  nx : aK segs = R.length
  lr : R.length ≤ 1000
  p1 : vJ 2 R C V
  p2 : vJ 2 (R ++ [x]) C2 V2
  w1 : C.length - V.length ≤ 32
  w2 : C2.length - V2.length ≤ 32
  rx : Rf σ xi 2 C V
  ry : Rf σ yi 2 C2 V2
section
variable {σ σ1 : St} {q l d n0 k xi yi : Nat} {A : AD} {js : List Nat} {segs : List Sg} {R : List (List UInt8)} {C : List iV} {V : List VdT}
theorem Dn.low {x : List UInt8} (h : Dn σ d n0 segs x) (hk : Low σ σ1) : Dn σ1 d n0 segs x := by
  obtain ⟨B, segs', s', ⟨a1, a2, a3, a4, a5⟩, b, c⟩ := h
  exact ⟨B, segs', s', ⟨a1.low hk, a2, a3, a4, a5⟩, b, c⟩

theorem VF {p0 : List UW} {x3 : ((Option Nat) × Int) × St} (hx3 : x3.1.1 = some q) (hp : ∀ t ∈ p0, Gg t) {i : Nat} (hi : i < p0.length) (hi60 : i < 60)
    (h : QK σ q l d n0 2 R C V A js segs i) (hr : Rf σ xi 2 C V) :
    (∃ σ' xi' yi' R' C' V' A' js' segs', bC p0 x3 (some xi, some yi, (i : Int), σ) = some (.inl (some xi', some yi', ((i + 1 : Nat) : Int), σ')) ∧ QK σ' q l d n0 2 R' C' V' A' js' segs' (i + 1) ∧ Rf σ' xi' 2 C' V') ∨
    (∃ σ' yi' x C2 V2, bC p0 x3 (some xi, some yi, (i : Int), σ) = some (.inr (some xi, some yi', σ')) ∧ KD σ' d n0 xi yi' R C V x C2 V2 segs) := by
  have hfit := hp p0[i] (List.getElem_mem hi)
  obtain ⟨b1, b2⟩ := h.qs.pl.len
  have hlr := h.lr
  generalize ht : p0[i] = t at *
  have hr0 : σ.af[xi]? = some (2, C, V, ()) := hr
  have hxl := LV hr0
  unfold bC
  rw [if_pos (by simp; omega)]
  simp only [jO hi, Option.bind_some, hx3, ht]
  by_cases hk : t.1 ≥ 0 ∧ t.1 < 4
  · have nk : ¬ (((t.1 == 4) || (t.1 == 5)) = true) := by simp; omega
    rw [if_pos (by simpa using hk)]
    simp only [if_neg nk]
    obtain ⟨r, σ', A', js', segs', e1, e2, e3⟩ := h.Sv (by omega) (hfit.cmd (by decide) (by decide) (n := C.length) (by omega))
    have hx' : σ'.af[xi]? = some (2, C, V, ()) := by rw [e2]; exact hr0
    have hne : xi ≠ σ'.af.length := by rw [e2]; exact Nat.ne_of_lt hxl
    have hn := NK σ' (2, C, V, ())
    have ho : (y9 σ' (2, C, V, ())).af[xi]? = some (2, C, V, ()) := NL hx'
    have er := UY (σ := y9 σ' (2, C, V, ())) (x := σ'.af.length) (c := t.2.2.1) hn (by omega) b2 hfit.n
    have ec : Yz 2 C t.2.2.1 = (2, ((C.length + 1 : Nat) : Int), t.2.2.1.2.2.1, t.2.2.1.2.2.2.1, t.2.2.1.2.2.2.2.1, t.2.2.1.2.2.2.2.2.1, ()) := rfl
    have lw : Low σ' (y9 σ' (2, C, V, ())) := IB σ' _
    rw [e1]
    simp only [Option.bind_some, hx']
    rcases e3 with ⟨c1, c2, e4⟩ | ⟨c1, c2, rfl, e4⟩ | ⟨c1, c2, rfl, e4⟩
    · left
      obtain ⟨r2, σ3, s1, s2, s3⟩ : ∃ r2 σ3, bU (some σ'.af.length) t.2.2.1 (y9 σ' (2, C, V, ())) = some (r2, σ3) ∧ Low (y9 σ' (2, C, V, ())) σ3 ∧ σ3.af[xi]? = some (2, C, V, ()) := by
        rw [er]
        split
        · split
          · exact ⟨_, _, rfl, Low.refl _, ho⟩
          · exact ⟨_, _, rfl, xk _ _ _, EF ho hne⟩
        · exact ⟨_, _, rfl, Low.refl _, ho⟩
      refine ⟨σ3, xi, σ'.af.length, _, _, _, _, _, _, ?_, e4.up (lw.trans s2), s3⟩
      show Option.bind (Option.bind (bU (some σ'.af.length) t.2.2.1 (y9 σ' (2, C, V, ()))) _) _ = _
      rw [s1]
      simp only [Option.bind_some]
      rw [if_neg (by simpa using c2), if_neg (by simpa using c1)]
      simp only [Option.bind_some, jR, bI (i := i) (by omega)]
    · right
      rw [ec, if_pos c1, if_neg (by omega)] at er
      refine ⟨_, σ'.af.length, _, _, _, ?_, ⟨e4.low (lw.trans (xk _ _ _)), h.qs.wr.f0, h.qs.wr.sub, h.qs.wr.nx, by omega, h.qs.pl, .cmd h.qs.pl c1 rfl rfl, h.qs.w32, ?_, EF ho hne, EE hn⟩⟩
      · show Option.bind (Option.bind (bU (some σ'.af.length) t.2.2.1 (y9 σ' (2, C, V, ()))) _) _ = _
        rw [er]
        simp only [Option.bind_some]
        rw [if_pos (by decide)]
        simp only [Option.bind_some, jR]
      · simp only [List.length_append, List.length_cons, List.length_nil]; omega
    · left
      rw [ec, if_pos c1, if_neg (by omega)] at er
      refine ⟨_, σ'.af.length, σ'.af.length, _, _, _, _, _, _, ?_, e4.up (lw.trans (xk _ _ _)), EE hn⟩
      show Option.bind (Option.bind (bU (some σ'.af.length) t.2.2.1 (y9 σ' (2, C, V, ()))) _) _ = _
      rw [er]
      simp only [Option.bind_some]
      rw [if_neg (by decide), if_pos (by decide)]
      simp only [Option.bind_some, jR, bI (i := i) (by omega)]
  · rw [if_neg (by simpa using hk)]
    simp only [Option.bind_some, jR]
    by_cases hk2 : t.1 = 4 ∨ t.1 = 5
    · rw [if_pos (by simpa using hk2)]
      obtain ⟨v, hv, hv1, hv2⟩ : ∃ v, (if (t.1 == 5) = true then Option.bind (jK (some q) t.2.1 σ) fun x16 => some x16 else some t.2.2.2.1) = some v ∧ v.length ≤ 1048576 ∧ ∀ y ∈ v, I64 y.1 ∧ I64 y.2.1 := by
        by_cases h5 : t.1 = 5
        · obtain ⟨v, v1, v2, v3⟩ := Z8 h.qs (by omega) t.2.1
          exact ⟨v, by rw [if_pos (by simpa using h5), v1]; rfl, by omega, v3⟩
        · exact ⟨_, by rw [if_neg (by simpa using h5)], hfit.m, hfit.v⟩
      rw [hv]
      simp only [Option.bind_some]
      obtain ⟨r, σ', A', js', segs', e1, e2, e3⟩ := h.done (by omega) hv2 hv1
      have hx' : σ'.af[xi]? = some (2, C, V, ()) := by rw [e2]; exact hr0
      have hne : xi ≠ σ'.af.length := by rw [e2]; exact Nat.ne_of_lt hxl
      have hn := NK σ' (2, C, V, ())
      have ho : (y9 σ' (2, C, V, ())).af[xi]? = some (2, C, V, ()) := NL hx'
      have er := YZ (σ := y9 σ' (2, C, V, ())) (x := σ'.af.length) (m := v) hn (by omega) b2 hv1
      have lw : Low σ' (y9 σ' (2, C, V, ())) := IB σ' _
      rw [e1]
      simp only [Option.bind_some, hx']
      rcases e3 with ⟨c1, c2, e4⟩ | ⟨c1, c2, rfl, e4⟩ | ⟨c1, c2, c3, rfl, e4⟩ | ⟨c1, c2, c3, rfl, e4⟩
      · left
        obtain ⟨r2, σ3, s1, s2, s3⟩ : ∃ r2 σ3, bK (some σ'.af.length) v (y9 σ' (2, C, V, ())) = some (r2, σ3) ∧ Low (y9 σ' (2, C, V, ())) σ3 ∧ σ3.af[xi]? = some (2, C, V, ()) := by
          rw [er]
          split
          · split
            · exact ⟨_, _, rfl, xk _ _ _, EF ho hne⟩
            · split
              · exact ⟨_, _, rfl, xk _ _ _, EF ho hne⟩
              · exact ⟨_, _, rfl, Low.refl _, ho⟩
          · exact ⟨_, _, rfl, Low.refl _, ho⟩
        refine ⟨σ3, xi, σ'.af.length, _, _, _, _, _, _, ?_, e4.up (lw.trans s2), s3⟩
        show Option.bind (bK (some σ'.af.length) v (y9 σ' (2, C, V, ()))) _ = _
        rw [s1]
        simp only [Option.bind_some]
        rw [if_neg (by simpa using c2), if_neg (by simpa using c1), bI (by omega)]
      · left
        rw [if_pos c1, if_pos c2] at er
        refine ⟨_, σ'.af.length, σ'.af.length, _, _, _, _, _, _, ?_, e4.up (lw.trans (xk _ _ _)), EE hn⟩
        show Option.bind (bK (some σ'.af.length) v (y9 σ' (2, C, V, ()))) _ = _
        rw [er]
        simp only [Option.bind_some]
        rw [if_neg (by decide), if_pos (by decide), bI (by omega)]
      · right
        rw [if_pos c1, if_neg c2, if_pos c3] at er
        refine ⟨_, σ'.af.length, _, _, _, ?_, ⟨e4.low (lw.trans (xk _ _ _)), h.qs.wr.f0, h.qs.wr.sub, h.qs.wr.nx, by omega, h.qs.pl, .vds h.qs.pl (ug c1) c3, h.qs.w32, ?_, EF ho hne, EE hn⟩⟩
        · show Option.bind (bK (some σ'.af.length) v (y9 σ' (2, C, V, ()))) _ = _
          rw [er]
          simp only [Option.bind_some]
          rw [if_pos (by decide)]
        · have := h.qs.w32
          simp only [List.length_append]; omega
      · left
        rw [if_pos c1, if_neg c2, if_pos c3] at er
        refine ⟨_, σ'.af.length, σ'.af.length, _, _, _, _, _, _, ?_, e4.up (lw.trans (xk _ _ _)), EE hn⟩
        show Option.bind (bK (some σ'.af.length) v (y9 σ' (2, C, V, ()))) _ = _
        rw [er]
        simp only [Option.bind_some]
        rw [if_neg (by decide), if_pos (by decide), bI (by omega)]
    · rw [if_neg (by simpa using hk2), bI (by omega)]
      exact .inl ⟨_, _, _, _, _, _, _, _, _, rfl, h.more (by omega), hr⟩
theorem Ny {p0 : List UW} {x3 : ((Option Nat) × Int) × St} (hx3 : x3.1.1 = some q) (hp : ∀ t ∈ p0, Gg t) : ∀ (k i : Nat), i + k = min p0.length 60 → ∀ {σ : St} {xi yi : Nat} {R : List (List UInt8)} {C : List iV} {V : List VdT} {A : AD} {js : List Nat} {segs : List Sg},
    QK σ q l d n0 2 R C V A js segs i → Rf σ xi 2 C V →
    (∃ σ' xi' yi' R' C' V' A' js' segs', aY (bC p0 x3) (some xi, some yi, (i : Int), σ) = some (some xi', some yi', σ') ∧ QK σ' q l d n0 2 R' C' V' A' js' segs' 60 ∧ Rf σ' xi' 2 C' V') ∨
    (∃ σ' xi' yi' R' C' V' x C2 V2 segs', aY (bC p0 x3) (some xi, some yi, (i : Int), σ) = some (some xi', some yi', σ') ∧ KD σ' d n0 xi' yi' R' C' V' x C2 V2 segs')
  | 0, i, hi, σ, xi, yi, R, C, V, A, js, segs, h, hr => .inl ⟨σ, xi, yi, R, C, V, A, js, segs, jw (by
      unfold bC
      rw [if_neg (by simp; omega)]), h.more (by omega), hr⟩
  | k + 1, i, hi, σ, xi, yi, R, C, V, A, js, segs, h, hr => by
    rcases VF (yi := yi) hx3 hp (i := i) (by omega) (by omega) h hr with ⟨σ', xi', yi', R', C', V', A', js', segs', e1, e2, e3⟩ | ⟨σ', yi', x, C2, V2, e1, e2⟩
    · rw [lI e1]
      exact Ny hx3 hp k (i + 1) (by omega) e2 e3
    · exact .inr ⟨σ', xi, yi', R, C, V, x, C2, V2, segs, jw e1, e2⟩
end
end Go.Proofs.YtbnmhjobnepajaaGreat.M


namespace Go.Proofs.YtbnmhjobnepajaaGreat.M

theorem XL {l m : List Int} (hl : l.length ≤ 1000000) : ∃ b, jd l m = some b := by
  unfold jd
  by_cases h : l.length = m.length
  · rw [if_neg (by simp [h]), Fg (l := l) (fun i x => x == m.getD i 0) (e := false) (fun i hi => ?_) (by unfold jb; simp)]
    · cases qH (fun i x => x == m.getD i 0) 0 l
      · exact ⟨false, rfl⟩
      · exact ⟨true, rfl⟩
    · have hm : i < m.length := by omega
      have hg : m.getD i 0 = m[i] := by rw [List.getD_eq_getElem?_getD, List.getElem?_eq_getElem hm]; rfl
      unfold jb
      simp only [bI (i := i) (by omega), jO hi, jO hm, Option.bind_some, hg]
      rw [if_pos (by simp; omega)]
      by_cases c : l[i] = m[i]
      · rw [if_neg (by simp [c]), if_pos (by simp [c])]
      · rw [if_pos (by simp [c]), if_neg (by simp [c])]
  · rw [if_pos (by simp; omega)]
    exact ⟨false, rfl⟩
theorem QN {c e : iV} (hc : c.2.2.2.2.1.length ≤ 1000000) : ∃ b, dS c e = some b := by
  unfold dS
  split
  · obtain ⟨b, hb⟩ := XL (m := e.2.2.2.2.1) hc
    rw [hb]
    exact ⟨_, rfl⟩
  · exact ⟨_, rfl⟩
theorem OB {l m : List iV} (hl : l.length ≤ 1000000) (h : ∀ c ∈ l, c.2.2.2.2.1.length ≤ 1000000) : ∃ b, fU l m = some b := by
  unfold fU
  by_cases hlen : l.length = m.length
  · rw [if_neg (by simp [hlen]), Fg (l := l) (fun i x => (dS x (m.getD i (0, 0, [], 0, [], 0, ()))).getD false) (e := false) (fun i hi => ?_) (by unfold gq; simp)]
    · cases qH (fun i x => (dS x (m.getD i (0, 0, [], 0, [], 0, ()))).getD false) 0 l
      · exact ⟨false, rfl⟩
      · exact ⟨true, rfl⟩
    · have hm : i < m.length := by omega
      have hg : m.getD i (0, 0, [], 0, [], 0, ()) = m[i] := by rw [List.getD_eq_getElem?_getD, List.getElem?_eq_getElem hm]; rfl
      obtain ⟨b, hb⟩ := QN (c := l[i]) (e := m[i]) (h _ (List.getElem_mem hi))
      unfold gq
      simp only [bI (i := i) (by omega), jO hi, jO hm, Option.bind_some, hg, hb, Option.getD_some]
      rw [if_pos (by simp; omega)]
      cases b <;> rfl
  · rw [if_pos (by simp; omega)]
    exact ⟨false, rfl⟩
theorem GY {l m : List VdT} (hl : l.length ≤ 1000000) : ∃ b, ed l m = some b := by
  unfold ed
  by_cases hlen : l.length = m.length
  · rw [if_neg (by simp [hlen]), Fg (l := l) (fun i (x : VdT) => (x.1 == (m.getD i (0, 0, ())).1) && ((x.2.1 == (m.getD i (0, 0, ())).2.1) && true)) (e := false) (fun i hi => ?_) (by unfold eX; simp)]
    · cases qH (fun i (x : VdT) => (x.1 == (m.getD i (0, 0, ())).1) && ((x.2.1 == (m.getD i (0, 0, ())).2.1) && true)) 0 l
      · exact ⟨false, rfl⟩
      · exact ⟨true, rfl⟩
    · have hm : i < m.length := by omega
      have hg : m.getD i (0, 0, ()) = m[i] := by rw [List.getD_eq_getElem?_getD, List.getElem?_eq_getElem hm]; rfl
      unfold eX
      simp only [bI (i := i) (by omega), jO hi, jO hm, Option.bind_some, hg]
      rw [if_pos (by simp; omega)]
      cases (l[i].1 == m[i].1) && ((l[i].2.1 == m[i].2.1) && true) <;> rfl
  · rw [if_pos (by simp; omega)]
    exact ⟨false, rfl⟩
section
variable {σ : St} {q l d n0 x : Nat} {a : Int} {A : AD} {js : List Nat} {segs : List Sg} {R : List (List UInt8)} {C C2 : List iV} {V V2 : List VdT}
theorem YB (h : QS σ q l d n0 a A js segs R C V) (hR : R.length ≤ 10000) {b : Int} (hx : σ.af[x]? = some (b, C2, V2, ())) (h2 : V2.length ≤ C2.length) : ∃ b, eH (some q) (some x) σ = some b := by
  obtain ⟨b1, b2⟩ := h.pl.len
  unfold eH
  rw [h.waiting hR, JI hx h2]
  simp only [Option.bind_some]
  obtain ⟨c1, k1⟩ := OB (l := C.drop V.length) (m := C2.drop V2.length) (by simp; omega) (fun c hc => by
    have := (tH (h.pl.each c (List.mem_of_mem_drop hc)).1).2.2.2.2.2.1
    omega)
  rw [k1]
  cases c1 with
  | false => exact ⟨false, rfl⟩
  | true =>
    obtain ⟨c2, k2⟩ := GY (l := V) (m := V2) (by omega)
    simp only [Option.bind_some, if_true, h.notices hR, hx, k2]
    cases c2 with
    | false => exact ⟨false, rfl⟩
    | true =>
      simp only [if_true, h.first hR, Option.bind_some, h.next hR]
      split
      · exact ⟨_, rfl⟩
      · exact ⟨_, rfl⟩
theorem VG {p0 : List UW} {p1 : Int} {p2 : List Int} (ha0 : 0 ≤ p1) (ha1 : p1 < 256) (hp : ∀ t ∈ p0, Gg t) (σ : St) : ∃ σ', fO p0 p1 p2 σ = some (true, σ') := by
  obtain ⟨σa, e1, e2, e3, e4, e5⟩ := start (a := 2) σ (by decide) (by decide) (room := 1048576) (by decide) (by decide)
  have hwr : IntKind.wrap .i64 p1 = p1 := aP (by omega) (by omega)
  obtain ⟨σb, A, u1, u2, u3, u4, u5, u6⟩ : ∃ σb A, (if decide (p1 > 0) = true then Option.bind (oD (some σ.ah.length) (IntKind.wrap .i64 p1) σa) fun x1 => some x1.2 else some σa) = some σb ∧ DV σb σ.ah.length σ.aj.length A ∧ OkA A ∧ kY A = false ∧ A.2.1 = [] ∧ A.1 = 1048576 := by
    by_cases hz : p1 > 0
    · rw [if_pos (by simpa using hz), hwr, eq_32]
      obtain ⟨σb, k1, k2, k3⟩ := adn e2 p1
      have ha : abz (1048576, [], 0, false, ()) p1 = (0, (1048576, [], p1, false, ())) := by
        unfold abz
        rw [if_neg (by simp), if_neg (by omega)]
      rw [ha] at k1 k2
      rw [k1]
      exact ⟨σb, _, rfl, k2, ⟨e3.sorted, e3.files, e3.each, e3.used, e3.room, by show 0 ≤ p1; omega, by show p1 < _; omega⟩, rfl, rfl, rfl⟩
    · rw [if_neg (by simpa using hz)]
      exact ⟨σa, _, rfl, e2, e3, rfl, rfl, rfl⟩
  obtain ⟨σ1, σ2, l, g1, rfl, g2, g3, g4, g5⟩ := Ui (a := 2) (by decide) (by decide) u2 u3 u4 u5
  obtain ⟨σ3, w1, w2, w3⟩ := Y7 (y9 (y9 σ2 (2, [], [], ())) (2, [], [], ()))
  have hG : QK σ3 σ1.ai.length σb.ak.length σ.ah.length σ.aj.length 2 [] [] [] A [] [] 0 := QK.up ⟨g2.low ((IB σ2 _).trans (IB _ _)), u6, by simp, by simp, by simp [szS]⟩ w2
  have hr : Rf σ3 σ2.af.length 2 [] [] := by
    unfold Rf
    rw [w3]
    exact NL (NK σ2 (2, [], [], ()))
  have tail : ∀ {σ4 : St} {xi yi : Nat}, aY (bC p0 ((some σ1.ai.length, 0), σ2)) (some σ2.af.length, some ((σ2.af ++ [((2 : Int), ([], ([], ())))]).length), 0, σ3) = some (some xi, some yi, σ4) →
      (∃ σ5 σ6 q' b1, gJ (some σ.ah.length) p2 σ4 = some (0, σ5) ∧ fE (some σ.ah.length) 2 σ5 = some ((some q', 0), σ6) ∧ eH (some q') (some xi) σ6 = some b1 ∧ (b1 = true ∨ eH (some q') (some yi) σ6 = some true)) → ∃ σ', fO p0 p1 p2 σ = some (true, σ') := by
    intro σ4 xi yi l1 ⟨σ5, σ6, q', b1, c1, c2, c3, c4⟩
    refine ⟨σ6, ?_⟩
    unfold fO
    rw [e1]
    simp only [Option.bind_some]
    rw [u1]
    simp only [Option.bind_some]
    rw [g1]
    simp only [Option.bind_some]
    rw [if_pos (by simp)]
    show Option.bind (jJ (y9 (y9 σ2 (2, [], [], ())) (2, [], [], ()))) _ = _
    rw [w1]
    simp only [Option.bind_some]
    rw [if_neg (by simp), l1]
    simp only [Option.bind_some]
    rw [c1]
    simp only [Option.bind_some]
    rw [c2]
    simp only [Option.bind_some]
    rw [if_pos (by simp), c3]
    simp only [Option.bind_some]
    cases b1 with
    | true => rw [if_neg (by simp)]; simp
    | false =>
      rcases c4 with c4 | c4
      · cases c4
      · rw [if_pos (by simp), c4]; simp
  rcases Ny (x3 := ((some σ1.ai.length, 0), σ2)) (yi := (σ2.af ++ [((2 : Int), ([], ([], ())))]).length) (p0 := p0) rfl hp (min p0.length 60) 0 (by omega) hG hr with ⟨σ4, xi, yi, R, C, V, A', js, segs, l1, l2, l3⟩ | ⟨σ4, xi, yi, R, C, V, x, C2, V2, segs, l1, l2⟩
  · rw [show ((0 : Nat) : Int) = (0 : Int) from rfl] at l1
    obtain ⟨σ5, σ6, q', l', A2, js', c1, c2, c3, c4⟩ := l2.WC (by omega) (by decide) (by decide) p2
    have := l2.lr
    have hx : Rf σ6 xi 2 C V := by unfold Rf; rw [c4]; exact l3
    exact tail l1 ⟨σ5, σ6, q', true, c1, c2, JA c3 (by omega) hx, .inl rfl⟩
  · rw [show ((0 : Nat) : Int) = (0 : Int) from rfl] at l1
    have hlr := l2.lr
    obtain ⟨σ5, σ6, q', l', A2, js', segs2, c1, c2, c3, c4⟩ := ZA l2.dn l2.f0 l2.sub l2.nx l2.lr l2.p1 l2.p2 l2.w1 l2.w2 (by decide) (by decide) p2
    have hx : Rf σ6 xi 2 C V := by unfold Rf; rw [c3]; exact l2.rx
    have hy : Rf σ6 yi 2 C2 V2 := by unfold Rf; rw [c3]; exact l2.ry
    rcases c4 with c4 | c4
    · exact tail l1 ⟨σ5, σ6, q', true, c1, c2, JA c4 (by omega) hx, .inl rfl⟩
    · obtain ⟨b, hb⟩ := YB c4 (by simp; omega) hx l2.p1.len.2
      exact tail l1 ⟨σ5, σ6, q', b, c1, c2, hb, .inr (JA c4 (by simp; omega) hy)⟩
end
end Go.Proofs.YtbnmhjobnepajaaGreat.M


namespace Go.Proofs.YtbnmhjobnepajaaGreat.M

theorem wf_u8 {n : Int} (h : (Lit.int .u8 n).wf = true) : 0 ≤ n ∧ n < 256 := by
  simp only [Lit.wf, Bool.and_eq_true, decide_eq_true_eq] at h
  have h1 : IntKind.u8.min = 0 := by decide
  have h2 : IntKind.u8.max = 255 := by decide
  rw [h1, h2] at h
  omega
theorem Iz {x0 : Kd.den (.list bH)} {x1 : Kd.den (.int .u8)} {x2 : Kd.den (.list .i)} (f0 : Kd.Fits (.list bH) x0) (m0 : Kd.Sm 1048576 (.list bH) x0) (f1 : Kd.Fits (.int .u8) x1) (m1 : Kd.Sm 1048576 (.int .u8) x1) (f2 : Kd.Fits (.list .i) x2) (m2 : Kd.Sm 1048576 (.list .i) x2) : ∃ σ', fO x0 x1 x2 St.none = some (true, σ') :=
  VG (wf_u8 f1).1 (wf_u8 f1).2 (Y1 f0 m0) St.none
end Go.Proofs.YtbnmhjobnepajaaGreat.M

