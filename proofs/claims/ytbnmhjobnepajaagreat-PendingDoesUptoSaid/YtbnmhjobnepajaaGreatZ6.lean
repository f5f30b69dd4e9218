/- Own texts, laid together: PY7 PY8 PQ0 PQ1 PQ2 PQ3 PQ4 PQ5 PQ6 PQ7 PQ8 PQ9 PQA PQB PR0. -/
import Derived.Test.YtbnmhjobnepajaaGreatZ1
import Derived.Test.YtbnmhjobnepajaaGreatZ2
import Derived.Test.YtbnmhjobnepajaaGreatZ3
import Derived.Test.YtbnmhjobnepajaaGreatZ4
import Derived.Test.YtbnmhjobnepajaaGreatZ5
set_option linter.unusedVariables false
set_option linter.unusedSimpArgs false
namespace Go.Proofs.YtbnmhjobnepajaaGreat.M

def Sub (R : List (List UInt8)) (g : Sg) : Prop := ∃ a c, R = a ++ g.2 ++ c ∧ a.length = g.1

theorem Sub.get {R : List (List UInt8)} {g : Sg} (h : Sub R g) {i : Nat} (h1 : g.1 ≤ i) (h2 : i < sgN g) : R[i]? = g.2[i - g.1]? := by
  obtain ⟨a, c, rfl, e⟩ := h
  unfold sgN at h2
  rw [List.append_assoc, List.getElem?_append_right (by omega), e, List.getElem?_append_left (by omega)]

theorem Sub.app {R : List (List UInt8)} {g : Sg} (h : Sub R g) (x : List UInt8) : Sub (R ++ [x]) g := by
  obtain ⟨a, c, rfl, e⟩ := h
  exact ⟨a, c ++ [x], by simp, e⟩

theorem Sub.more {R : List (List UInt8)} {segs segs' : List Sg} {x : List UInt8} (h : More segs x segs') (hR : ∀ g ∈ segs, Sub R g) (hn : nextS segs = R.length) : ∀ g ∈ segs', Sub (R ++ [x]) g := by
  cases h with
  | fresh h =>
    intro g hg
    rcases List.mem_append.1 hg with hg | hg
    · exact (hR g hg).app x
    · simp only [List.mem_cons, List.not_mem_nil, or_false] at hg
      subst hg
      exact ⟨R, [], by simp, hn.symm⟩
  | @same pre g0 x =>
    intro g hg
    rcases List.mem_append.1 hg with hg | hg
    · exact (hR g (List.mem_append.2 (.inl hg))).app x
    · simp only [List.mem_cons, List.not_mem_nil, or_false] at hg
      subst hg
      have h0 := hR g0 (by simp)
      rw [nextS_app] at hn
      obtain ⟨a, c, e1, e2⟩ := h0
      have hc : c = [] := by
        have := congrArg List.length e1
        unfold sgN at hn
        simp only [List.length_append] at this
        exact List.eq_nil_of_length_eq_zero (by omega)
      subst hc
      exact ⟨a, [], by rw [e1]; simp, e2⟩

theorem Chn.adj : ∀ {segs : List Sg} {e : Option Nat}, Chn e segs → ∀ (k : Nat) (h : k + 1 < segs.length), (segs[k + 1]'h).1 = sgN (segs[k]'(by omega))
  | [], _, _, k, h => by simp at h
  | g :: [], _, _, k, h => by simp at h
  | g :: b :: r, e, hc, 0, h => by
    obtain ⟨h1, h2, h3⟩ := hc
    exact h3.1 _ rfl
  | g :: b :: r, e, hc, k + 1, h => by
    obtain ⟨h1, h2, h3⟩ := hc
    have := Chn.adj h3 k (by simpa using h)
    simpa using this

section
variable {σ : St} {l d n0 : Nat} {most : Int} {js : List Nat} {segs : List Sg} {safe s : Nat} {A : AD} {R : List (List UInt8)}

theorem f58_loop (h : LG σ l d most js segs safe) (hg : Good segs) (hlen : segs.length ≤ 1000) {i : Nat} (h0 : firstS segs ≤ i) (hne : segs ≠ []) : ∀ (k : Nat) (hk : k < segs.length), (∀ m (hm : m < segs.length), k < m → i < (segs[m]'hm).1) →
    ∃ z, ∃ hz : z < segs.length, f58_l0 (some l) (i : Int) σ (k : Int) = some ((z : Nat) : Int) ∧ (segs[z]'hz).1 ≤ i ∧ ∀ m (hm : m < segs.length), z < m → i < (segs[m]'hm).1 := by
  have hlo := h.lo
  have hjl := All2.len h.lie
  intro k
  induction k with
  | zero =>
    intro hk hm
    have hL := All2.nth h.lie 0 (by omega) hk
    have hf : (segs[0]'hk).1 ≤ i := by
      cases segs with
      | nil => exact absurd rfl hne
      | cons a r => exact h0
    refine ⟨0, hk, ?_, hf, hm⟩
    rw [f58_l0]
    have hx : ix (js.map some) ((0 : Nat) : Int) = some (some (js[0]'(by omega))) := by
      rw [ix_at (by simp; omega)]; simp
    simp only [hlo, Option.bind_eq_bind, Option.bind_some]
    rw [hx]
    simp only [Option.bind_some, hL]
    rw [if_neg (by simp; omega)]
  | succ k ih =>
    intro hk hm
    have hL := All2.nth h.lie (k + 1) (by omega) hk
    rw [f58_l0]
    have hx : ix (js.map some) (((k + 1 : Nat) : Nat) : Int) = some (some (js[k + 1]'(by omega))) := by
      rw [ix_at (by simp; omega)]; simp
    simp only [hlo, Option.bind_eq_bind, Option.bind_some]
    rw [hx]
    simp only [Option.bind_some, hL]
    by_cases c : (segs[k + 1]'hk).1 ≤ i
    · rw [if_neg (by simp; omega)]
      exact ⟨k + 1, hk, rfl, c, hm⟩
    · rw [if_pos (by simp; omega)]
      have hw : IntKind.wrap .i64 (((k + 1 : Nat) : Int) - 1) = (k : Int) := by rw [wrap_id (by omega) (by omega)]; omega
      rw [hw]
      refine ih (by omega) (fun m hm2 hlt => ?_)
      by_cases e : m = k + 1
      · subst e; omega
      · exact hm m hm2 (by omega)

theorem f58_eq (h : LG σ l d most js segs safe) (hg : Good segs) (hlen : segs.length ≤ 1000) (hR : ∀ g ∈ segs, Sub R g) {i : Nat} (h1 : firstS segs ≤ i) (h2 : i < nextS segs) : ∃ y, R[i]? = some y ∧ f58 (some l) (i : Int) σ = some (y, 0) := by
  have hne : segs ≠ [] := by rintro rfl; simp [nextS] at h2
  have hpos : 0 < segs.length := List.length_pos_iff.2 hne
  have hjl := All2.len h.lie
  have hlo := h.lo
  obtain ⟨z, hz, e1, e2, e3⟩ := f58_loop h hg hlen h1 hne (segs.length - 1) (by omega) (fun m hm hlt => by omega)
  have hlt : i < sgN (segs[z]'hz) := by
    by_cases c : z + 1 < segs.length
    · rw [← hg.chain.adj z c]
      exact e3 (z + 1) c (by omega)
    · rcases List.eq_nil_or_concat segs with h0 | ⟨pre, g, h0⟩
      · exact absurd h0 hne
      · rw [List.concat_eq_append] at h0
        subst h0
        rw [nextS_app] at h2
        have hz2 : z = pre.length := by simp at hz c; omega
        subst hz2
        simpa using h2
  have hS := hR (segs[z]'hz) (List.getElem_mem hz)
  have hget := hS.get e2 hlt
  have hidx : i - (segs[z]'hz).1 < (segs[z]'hz).2.length := by unfold sgN at hlt; omega
  rw [List.getElem?_eq_getElem hidx] at hget
  refine ⟨_, hget, ?_⟩
  have hL := All2.nth h.lie z (by omega) hz
  have ht := hg.top _ (List.getElem_mem hz)
  have hnx := nextS_le hg
  have hx : ix (js.map some) ((z : Nat) : Int) = some (some (js[z]'(by omega))) := by
    rw [ix_at (by simp; omega)]; simp
  have hw1 : IntKind.wrap .i64 ((((js.map some).length : Nat) : Int) - 1) = ((segs.length - 1 : Nat) : Int) := by
    rw [List.length_map, hjl, wrap_id (by omega) (by omega)]; omega
  have hw2 : IntKind.wrap .i64 ((i : Int) - ((segs[z]'hz).1 : Int)) = ((i - (segs[z]'hz).1 : Nat) : Int) := by rw [wrap_id (by omega) (by omega)]; omega
  unfold f58
  simp only [Option.isNone_some, Bool.false_eq_true, if_false, f54_eq h, f55_eq h hg (by omega), hlo, Option.bind_eq_bind, Option.bind_some]
  rw [if_neg (by simp; omega), if_neg (by simp; omega), hw1, e1]
  simp only [Option.bind_some]
  rw [hx]
  simp only [Option.bind_some, hL]
  rw [hw2, ix_at hidx]
  rfl

def crash1 (f : FR) (keep : List Int) : FR := (f.1, f.2.1 ++ f.2.2.1.take (keepN keep f.2.2.1.length), [], ())

theorem crashL_empty : ∀ (L : List FR) (keep : List Int), (∀ f ∈ L, f.2.2.1 = []) → crashL L keep = L
  | [], _, _ => rfl
  | f :: r, keep, h => by
    have he := h f List.mem_cons_self
    unfold crashL
    have e : ((f.1, f.2.1, [], ()) : FR) = f := by rw [← he]
    have hm : f.2.2.1.isEmpty = true := by rw [he]; rfl
    rw [hm, cond_true, e, crashL_empty r keep (fun x hx => h x (List.mem_cons_of_mem _ hx))]

theorem crashL_one : ∀ (a : List FR) (f : FR) (b : List FR) (keep : List Int), (∀ x ∈ a, x.2.2.1 = []) → (∀ x ∈ b, x.2.2.1 = []) → crashL (a ++ f :: b) keep = a ++ crash1 f keep :: b
  | [], f, b, keep, ha, hb => by
    rw [List.nil_append, List.nil_append]
    unfold crashL
    cases hm : f.2.2.1 with
    | nil =>
      rw [List.isEmpty_nil, cond_true, crashL_empty b keep hb]
      unfold crash1
      rw [hm]; simp
    | cons c t =>
      rw [List.isEmpty_cons, cond_false, crashL_empty b keep.tail hb]
      unfold crash1
      rw [hm]
  | y :: a, f, b, keep, ha, hb => by
    have he := ha y List.mem_cons_self
    have ih := crashL_one a f b keep (fun x hx => ha x (List.mem_cons_of_mem _ hx)) hb
    rw [List.cons_append, List.cons_append]
    unfold crashL
    have e : ((y.1, y.2.1, [], ()) : FR) = y := by rw [← he]
    have hm : y.2.2.1.isEmpty = true := by rw [he]; rfl
    rw [hm, cond_true, e, ih]

theorem crash_perm {L : List FR} {pre : List Sg} {f : FR} (h : L.Perm (pre.map lgA ++ [f])) (keep : List Int) : (crashL L keep).Perm (pre.map lgA ++ [crash1 f keep]) := by
  have hm : f ∈ L := h.mem_iff.2 (by simp)
  obtain ⟨a, b, rfl⟩ := List.append_of_mem hm
  have hp : (a ++ b).Perm (pre.map lgA) := by
    have h1 : (f :: (a ++ b)).Perm (f :: pre.map lgA) := (List.perm_middle.symm.trans h).trans (List.perm_append_comm (l₂ := [f]))
    exact List.Perm.cons_inv h1
  have hall : ∀ x ∈ a ++ b, x.2.2.1 = [] := by
    intro x hx
    obtain ⟨g, hg, rfl⟩ := List.mem_map.1 (hp.mem_iff.1 hx)
    rfl
  rw [crashL_one a f b keep (fun x hx => hall x (List.mem_append.2 (.inl hx))) (fun x hx => hall x (List.mem_append.2 (.inr hx)))]
  refine List.perm_middle.trans ?_
  exact (List.Perm.cons _ hp).trans (List.perm_append_comm (l₁ := [crash1 f keep]))

theorem crash_last {g : Sg} (hx : ∀ x ∈ g.2, OkR x) (hs : s ≤ g.2.length) (keep : List Int) : ∃ m t, m ≤ g.2.length - s ∧ (segB (g.1 + s) (g.2.drop s)).take (keepN keep (segB (g.1 + s) (g.2.drop s)).length) = segB (g.1 + s) ((g.2.drop s).take m) ++ t ∧ crash1 (lgF g s) keep = tornF (g.1, g.2.take (s + m)) t ∧ Torn (sgN (g.1, g.2.take (s + m))) t := by
  obtain ⟨m, t, h1, h2, h3⟩ := segB_take (g.1 + s) (g.2.drop s) (keepN keep (segB (g.1 + s) (g.2.drop s)).length) (fun x hxx => hx x (List.mem_of_mem_drop hxx))
  rw [List.length_drop] at h1
  refine ⟨m, t, h1, h2, ?_, ?_⟩
  · unfold crash1 lgF tornF
    simp only []
    rw [h2]
    have e : sgB (g.1, g.2.take (s + m)) = segB g.1 (g.2.take s) ++ segB (g.1 + s) ((g.2.drop s).take m) := by
      unfold sgB
      simp only []
      rw [List.take_add, segB_app]
      have : (g.2.take s).length = s := by rw [List.length_take]; omega
      rw [this]
    rw [e, List.append_assoc]
  · have : sgN (g.1, g.2.take (s + m)) = g.1 + s + m := by
      unfold sgN
      simp only [List.length_take]; omega
    rw [this]; exact h3

theorem Good.cut {pre : List Sg} {g : Sg} (h : Good (pre ++ [g])) (m : Nat) : Good (pre ++ [(g.1, g.2.take m)]) := by
  refine ⟨h.chain.last rfl, ?_, ?_⟩
  · intro a ha
    rcases List.mem_append.1 ha with ha | ha
    · exact h.recs a (List.mem_append.2 (.inl ha))
    · simp only [List.mem_cons, List.not_mem_nil, or_false] at ha
      subst ha
      exact fun x hx => h.recs g (by simp) x (List.mem_of_mem_take hx)
  · intro a ha
    rcases List.mem_append.1 ha with ha | ha
    · exact h.top a (List.mem_append.2 (.inl ha))
    · simp only [List.mem_cons, List.not_mem_nil, or_false] at ha
      subst ha
      have := h.top g (by simp)
      unfold sgN at *
      simp only [List.length_take]; omega

structure CSW (σ : St) (d n0 : Nat) (A : AD) (segs : List Sg) (s : Nat) : Prop where
  dv : DV σ d n0 A
  ok : OkA A
  dl : DLs A.2.1 segs s
  good : Good segs
  len : segs.length ≤ 900

theorem crash_open (h : CSW σ d n0 A segs s) (keep : List Int) (h1 : 64 ≤ most) (h2 : most ≤ 65536) :
    ∃ σ1 σ2 B js' segs', f27 (some d) keep σ = some (0, σ1) ∧ f53 (some d) nmL most σ1 = some ((some σ1.t_wal_Log.length, 0), σ2) ∧ Fw σ σ2 d n0 ∧ ExW σ σ2 σ1.t_wal_Log.length ∧ σ1.t_wal_Log.length = σ.t_wal_Log.length ∧ B.1 = A.1 ∧ armA0 B = 0 ∧ downA B = false ∧
      WS σ2 σ1.t_wal_Log.length d n0 most B js' segs' (nextS segs') (lastLen segs') ∧ DV σ1 d n0 (crashA A keep) ∧
      ((segs = [] ∧ segs' = []) ∨ ∃ pre g m, segs = pre ++ [g] ∧ segs' = pre ++ [(g.1, g.2.take (s + m))] ∧ m ≤ g.2.length - s ∧ s ≤ g.2.length ∧
        ∃ t, (segB (g.1 + s) (g.2.drop s)).take (keepN keep (segB (g.1 + s) (g.2.drop s)).length) = segB (g.1 + s) ((g.2.drop s).take m) ++ t) := by
  obtain ⟨σ1, g1, g2, g3⟩ := f27_eq h.dv h.ok keep
  have hok := h.ok.crash keep
  have e128 : σ1.t_wal_Log = σ.t_wal_Log := congrArg (fun x => x.2.1) g3.oth
  rcases List.eq_nil_or_concat segs with h0 | ⟨pre, g, h0⟩
  · have hdl := h.dl
    rw [h0] at hdl
    have hL : (crashA A keep).2.1 = [] := by
      show crashL A.2.1 keep = []
      rw [(hdl.inv0).1]; rfl
    obtain ⟨σ2, e1, e2, e2x, e3, e4⟩ := open_none g2 hok rfl hL h1 h2
    refine ⟨σ1, σ2, crashA A keep, [], [], g1, e1, g3.fw.trans e2, g3.ex.trans e2x, by rw [e128], rfl, rfl, rfl, ⟨e4, e3, hok, by rw [hL]; exact .none rfl, ⟨trivial, by simp, by simp⟩, by simp, rfl⟩, g2, .inl ⟨h0, rfl⟩⟩
  · rw [List.concat_eq_append] at h0
    have hdl := h.dl
    have hgood := h.good
    have hlen := h.len
    rw [h0] at hdl hgood hlen
    obtain ⟨hp, hs⟩ := hdl.inv
    obtain ⟨m, t, m1, m2, m3, m4⟩ := crash_last (g := g) (s := s) (hgood.recs g (by simp)) hs keep
    have hcp := crash_perm hp keep
    rw [m3] at hcp
    have hgc := hgood.cut (s + m)
    obtain ⟨σ2, B, js', e1, e2, e2x, e3, e4, e5, e6, e7, e8, e9⟩ := open_some (most := most) g2 hok rfl rfl hgc (by simp at hlen ⊢; omega) m4 hcp h1 h2
    refine ⟨σ1, σ2, B, js', _, g1, e1, g3.fw.trans e2, g3.ex.trans e2x, by rw [e128], e3, e4, e5, ⟨e8, e6, e7, e9, hgc, by simp at hlen ⊢; omega, (safeOf_all _).symm⟩, g2, .inr ⟨pre, g, m, h0, rfl, m1, hs, t, m2⟩⟩
end
end Go.Proofs.YtbnmhjobnepajaaGreat.M


namespace Go.Proofs.YtbnmhjobnepajaaGreat.M

section
variable {σ : St} {l d n0 : Nat} {most : Int} {js : List Nat} {segs : List Sg} {safe s : Nat} {A : AD} {R : List (List UInt8)}

theorem More.sz {segs' : List Sg} {x : List UInt8} (h : More segs x segs') : szS segs' = szS segs + (24 + x.length) := by
  cases h with
  | fresh h => simp [szS, szR]
  | same => simp [szS, szR]; omega

theorem More.first {segs' : List Sg} {x : List UInt8} (h : More segs x segs') : firstS segs' = firstS segs := by
  cases h with
  | @fresh segs x h =>
    cases segs with
    | nil => rfl
    | cons a r => rfl
  | @same pre g x =>
    cases pre with
    | nil => rfl
    | cons a r => rfl

theorem WS.new (hD : DV σ d n0 A) (hA : OkA A) (hL : A.2.1 = []) (hG : LG σ l d most [] [] 0) : WS σ l d n0 most A [] [] 0 0 :=
  ⟨hG, hD, hA, by rw [hL]; exact .none rfl, ⟨trivial, by simp, by simp⟩, by simp, rfl⟩

end
end Go.Proofs.YtbnmhjobnepajaaGreat.M


namespace Go.Proofs.YtbnmhjobnepajaaGreat.M

abbrev QuT : Type := Int × Option Nat × List CmdT × List VdT × Unit
def putQ (σ : St) (q : Nat) (x : QuT) : St := σ.set_pending_Queue (σ.t_pending_Queue.set q x)
theorem putQ_get {σ : St} {q : Nat} {y x : QuT} (h : σ.t_pending_Queue[q]? = some y) : (putQ σ q x).t_pending_Queue[q]? = some x := by
  have := (List.getElem?_eq_some_iff.1 h).1
  unfold putQ St.set_pending_Queue
  simp [this]
def fitsB (v w : Nat) (l : List VdT) : Bool := allX (fun i (x : VdT) => decide (x.1 = ((v + 1 + i : Nat) : Int))) 0 l && (decide (0 < l.length) && decide (l.length ≤ w))

section
variable {σ : St} {q : Nat} {a : Int} {lo : Option Nat} {W : List CmdT} {V : List VdT}
theorem First_eq (h : σ.t_pending_Queue[q]? = some (a, lo, W, V, ())) (hv : V.length ≤ 1000000) : f_pending_Queue_First (some q) σ = some ((V.length + 1 : Nat) : Int) := by
  unfold f_pending_Queue_First
  rw [if_neg (by simp), Option.bind_some, h]
  simp only [Option.bind_some]
  rw [wrap_nat (by omega)]
theorem Next_eq (h : σ.t_pending_Queue[q]? = some (a, lo, W, V, ())) (hv : V.length ≤ 1000000) (hw : W.length ≤ 1000000) : f_pending_Queue_Next (some q) σ = some ((V.length + W.length + 1 : Nat) : Int) := by
  unfold f_pending_Queue_Next
  simp only [Option.isNone_some, Bool.false_eq_true, if_false, Option.bind_some, h]
  have e : IntKind.wrap .i64 ((V.length : Int) + (W.length : Int)) = ((V.length + W.length : Nat) : Int) := by rw [wrap_id (by omega) (by omega)]; omega
  rw [e, wrap_nat (by omega)]
theorem fits_eq (h : σ.t_pending_Queue[q]? = some (a, lo, W, V, ())) (hv : V.length ≤ 1000000) (hw : W.length ≤ 1000000) {l : List VdT} (hl : l.length ≤ 2000000) : f_pending_Queue_fits (some q) l σ = some (fitsB V.length W.length l) := by
  unfold f_pending_Queue_fits fitsB
  rw [chk0 (l := l) (fun i (x : VdT) => decide (x.1 = ((V.length + 1 + i : Nat) : Int))) (e := false) (fun i hi => ?_) (by unfold f_pending_Queue_fits_l0; simp)]
  · cases hx : allX (fun i (x : VdT) => decide (x.1 = ((V.length + 1 + i : Nat) : Int))) 0 l with
    | false => rfl
    | true =>
      simp only [if_true, Option.bind_some, sumO, Bool.true_and]
      by_cases h0 : 0 < l.length
      · have h0' : ((l.length : Int) > 0) := by omega
        simp only [h0', h0, decide_true, if_true, Option.bind_some, h, Bool.true_and]
        congr 1
        exact decide_eq_decide.2 (by omega)
      · have h0' : ¬ ((l.length : Int) > 0) := by omega
        simp only [h0', h0, decide_false, Bool.false_eq_true, if_false, Option.bind_some, Bool.false_and]
  · unfold f_pending_Queue_fits_l0
    have e : IntKind.wrap .i64 (((V.length + 1 : Nat) : Int) + (i : Int)) = ((V.length + 1 + i : Nat) : Int) := by rw [wrap_id (by omega) (by omega)]; omega
    simp only [wrap_nat (i := i) (by omega), ix_at hi, Option.bind_some, First_eq h hv, e]
    rw [if_pos (by simp; omega)]
    by_cases hc : l[i].1 = ((V.length + 1 + i : Nat) : Int)
    · rw [if_neg (by simpa using hc), if_pos (by simpa using hc)]
    · rw [if_pos (by simpa using hc), if_neg (by simpa using hc)]
theorem take_eq (h : σ.t_pending_Queue[q]? = some (a, lo, W, V, ())) (hv : V.length ≤ 1000000) (hw : W.length ≤ 1000000) {l : List VdT} (hl : l.length ≤ W.length) : f_pending_Queue_take (some q) l σ = some ((), putQ σ q (a, lo, W.drop l.length, V ++ l, ())) := by
  have hq := (List.getElem?_eq_some_iff.1 h).1
  unfold f_pending_Queue_take
  simp only [Option.bind_some, h]
  rw [if_pos (by omega)]
  simp only [and_self, if_true, Option.bind_some, List.getElem?_set_self hq]
  rw [if_pos (by omega), if_pos (by simp; omega)]
  rw [show ((l.length : Int)).toNat = l.length by omega]
  unfold putQ St.set_pending_Queue
  simp
end
end Go.Proofs.YtbnmhjobnepajaaGreat.M


namespace Go.Proofs.YtbnmhjobnepajaaGreat.M

def recC (c : CmdT) : List UInt8 := 99 :: layC c
def recV (l : List VdT) : List UInt8 := 118 :: layV l
inductive Plays (a : Int) : List (List UInt8) → List CmdT → List VdT → Prop where
  | nil : Plays a [] [] []
  | cmd {R : List (List UInt8)} {C : List CmdT} {V : List VdT} {c : CmdT} : Plays a R C V → cmdOK c = true → c.1 = a → c.2.1 = ((C.length + 1 : Nat) : Int) → Plays a (R ++ [recC c]) (C ++ [c]) V
  | vds {R : List (List UInt8)} {C : List CmdT} {V l : List VdT} : Plays a R C V → vdsOK l = true → fitsB V.length (C.length - V.length) l = true → Plays a (R ++ [recV l]) C (V ++ l)

theorem fitsB_len {v w : Nat} {l : List VdT} (h : fitsB v w l = true) : 0 < l.length ∧ l.length ≤ w := by
  unfold fitsB at h
  simp only [Bool.and_eq_true, decide_eq_true_eq] at h
  exact h.2
theorem Plays.len {a : Int} {R : List (List UInt8)} {C : List CmdT} {V : List VdT} (h : Plays a R C V) : C.length ≤ R.length ∧ V.length ≤ C.length := by
  induction h with
  | nil => simp
  | cmd _ _ _ _ ih => simp only [List.length_append, List.length_cons, List.length_nil]; omega
  | vds _ _ hf ih => have := fitsB_len hf; simp only [List.length_append, List.length_cons, List.length_nil]; omega
theorem Plays.each {a : Int} {R : List (List UInt8)} {C : List CmdT} {V : List VdT} (h : Plays a R C V) : ∀ c ∈ C, cmdOK c = true ∧ c.1 = a := by
  induction h with
  | nil => simp
  | cmd _ h1 h2 _ ih =>
    intro c hc
    rcases List.mem_append.1 hc with hc | hc
    · exact ih c hc
    · simp only [List.mem_singleton] at hc; subst hc; exact ⟨h1, h2⟩
  | vds _ _ _ ih => exact ih
section
variable {σ : St} {q : Nat} {a : Int} {lo : Option Nat} {W : List CmdT} {V : List VdT}
theorem cmd_take (h : σ.t_pending_Queue[q]? = some (a, lo, W, V, ())) (hv : V.length ≤ 1000000) (hw : W.length ≤ 1000000) {c : CmdT} (hc : cmdOK c = true) (h1 : c.1 = a) (h2 : c.2.1 = ((V.length + W.length + 1 : Nat) : Int)) :
    f_pending_Queue_cmd (some q) (layC c) σ = some (true, putQ (rdr σ (layC c, ((layC c).length : Int), 0, ())) q (a, lo, W ++ [c], V, ())) := by
  unfold f_pending_Queue_cmd
  rw [whole_cmd hc]
  have h' : (rdr σ (layC c, ((layC c).length : Int), 0, ())).t_pending_Queue[q]? = some (a, lo, W, V, ()) := h
  simp only [Option.bind_some, h', Next_eq h' hv hw, Bool.not_true, Bool.not_false, if_true]
  rw [if_pos (by simp [h1]), if_neg (by simp [h2]), if_pos (by omega)]
  simp only [and_self, if_true]
  rfl
theorem vds_take (h : σ.t_pending_Queue[q]? = some (a, lo, W, V, ())) (hv : V.length ≤ 1000000) (hw : W.length ≤ 1000000) {l : List VdT} (hc : vdsOK l = true) (hf : fitsB V.length W.length l = true) :
    f_pending_Queue_verdicts (some q) (layV l) σ = some (true, putQ (rdr σ (layV l, ((layV l).length : Int), 0, ())) q (a, lo, W.drop l.length, V ++ l, ())) := by
  unfold f_pending_Queue_verdicts
  rw [whole_vds hc]
  have h' : (rdr σ (layV l, ((layV l).length : Int), 0, ())).t_pending_Queue[q]? = some (a, lo, W, V, ()) := h
  obtain ⟨f1, f2⟩ := fitsB_len hf
  simp only [Option.bind_some, Bool.not_true, Bool.not_false, if_true, fits_eq h' hv hw (l := l) (by omega), hf, Bool.or_self, Bool.false_eq_true, if_false, take_eq h' hv hw f2]
theorem put_cmd {ci : Nat} (hci : σ.t_c_t27[ci]? = some (some q, ())) (h : σ.t_pending_Queue[q]? = some (a, lo, W, V, ())) (hv : V.length ≤ 1000000) (hw : W.length ≤ 1000000) {c : CmdT} (hc : cmdOK c = true) (h1 : c.1 = a) (h2 : c.2.1 = ((V.length + W.length + 1 : Nat) : Int)) :
    f_pending_Open_1 (recC c) ci σ = some (true, putQ (rdr σ (layC c, ((layC c).length : Int), 0, ())) q (a, lo, W ++ [c], V, ())) := by
  have hb : btS (recC c) 0 = 99 := by
    rw [show (0 : Int) = ((0 : Nat) : Int) from rfl, btS_at (by simp [recC])]; rfl
  unfold f_pending_Open_1
  rw [if_neg (by simp [recC]), if_pos (by first | (simp [recC]; done) | (simp [recC]; omega)), hb, if_pos (by decide), hci]
  simp only [Option.bind_some]
  rw [if_pos (by first | (simp [recC]; done) | (simp [recC]; omega)), show (recC c).drop 1 = layC c from rfl, cmd_take h hv hw hc h1 h2]
  rfl
theorem put_vds {ci : Nat} (hci : σ.t_c_t27[ci]? = some (some q, ())) (h : σ.t_pending_Queue[q]? = some (a, lo, W, V, ())) (hv : V.length ≤ 1000000) (hw : W.length ≤ 1000000) {l : List VdT} (hc : vdsOK l = true) (hf : fitsB V.length W.length l = true) :
    f_pending_Open_1 (recV l) ci σ = some (true, putQ (rdr σ (layV l, ((layV l).length : Int), 0, ())) q (a, lo, W.drop l.length, V ++ l, ())) := by
  have hb : btS (recV l) 0 = 118 := by
    rw [show (0 : Int) = ((0 : Nat) : Int) from rfl, btS_at (by simp [recV])]; rfl
  unfold f_pending_Open_1
  rw [if_neg (by simp [recV]), if_pos (by first | (simp [recV]; done) | (simp [recV]; omega)), hb, if_neg (by decide), if_pos (by first | (simp [recV]; done) | (simp [recV]; omega)), if_pos (by decide), hci]
  simp only [Option.bind_some]
  rw [if_pos (by first | (simp [recV]; done) | (simp [recV]; omega)), show (recV l).drop 1 = layV l from rfl, vds_take h hv hw hc hf]
  rfl
def St.base (σ : St) : St := (σ.set_codec_reader []).set_pending_Queue []
structure Rp (σ σ' : St) (q : Nat) (x : QuT) : Prop where
  q : σ'.t_pending_Queue = σ.t_pending_Queue.set q x
  o : σ'.base = σ.base
theorem Rp.refl {x : QuT} (h : σ.t_pending_Queue[q]? = some x) : Rp σ σ q x := ⟨by
  refine List.ext_getElem? fun n => ?_
  rw [List.getElem?_set]
  split
  · rename_i hn
    subst hn
    rw [if_pos (List.getElem?_eq_some_iff.1 h).1, h]
  · rfl, rfl⟩
theorem Rp.step {σ' : St} {x : QuT} (h : Rp σ σ' q x) (z : denFs fs_codec_reader) (y : QuT) : Rp σ (putQ (rdr σ' z) q y) q y := by
  refine ⟨?_, h.o⟩
  show (σ'.t_pending_Queue).set q y = _
  rw [h.q]; simp
theorem Rp.get {σ' : St} {x y : QuT} (h : Rp σ σ' q x) (hq : σ.t_pending_Queue[q]? = some y) : σ'.t_pending_Queue[q]? = some x := by
  rw [h.q, List.getElem?_set_self (List.getElem?_eq_some_iff.1 hq).1]

theorem LG.same2 {l d : Nat} {most : Int} {js : List Nat} {segs : List Sg} {safe : Nat} (h : LG σ l d most js segs safe) {σ' : St} (h1 : σ'.t_wal_Log = σ.t_wal_Log) (h2 : σ'.t_wal_segment = σ.t_wal_segment) : LG σ' l d most js segs safe := by
  refine ⟨by rw [h1]; exact h.lo, h.nd, h.lie.imp2 (fun j _ g hg => ?_)⟩
  show σ'.t_wal_segment[j]? = _
  rw [h2]
  exact hg
variable {l d : Nat} {most : Int} {js : List Nat} {segs : List Sg} {safe : Nat}
theorem replay {x0 : ((Option Nat) × Int) × St} {n : Nat} {Rall : List (List UInt8)} (hl : x0.1.1 = some l) (hci : σ.t_c_t27[x0.2.t_c_t27.length]? = some (some q, ())) (hq : σ.t_pending_Queue[q]? = some (a, lo, [], [], ())) (hG : LG σ l d most js segs safe) (hg : Good segs) (hlen : segs.length ≤ 1000) (hS : ∀ g ∈ segs, Sub Rall g) (hf : firstS segs = 0) (hn : nextS segs = Rall.length) (hN : n = Rall.length) (hR : Rall.length ≤ 100000) :
    ∀ {R : List (List UInt8)} {C : List CmdT} {V : List VdT}, Plays a R C V → ∀ S, Rall = R ++ S → ∃ σ', loopM (f_pending_Open_l0 x0 (n : Int)) (0, σ) = loopM (f_pending_Open_l0 x0 (n : Int)) ((R.length : Int), σ') ∧ Rp σ σ' q (a, lo, C.drop V.length, V, ()) := by
  have step : ∀ {R : List (List UInt8)} {x : List UInt8} {S : List (List UInt8)} {σ1 σ2 : St} {y : QuT}, Rall = (R ++ [x]) ++ S → Rp σ σ1 q y → f_pending_Open_1 x x0.2.t_c_t27.length σ1 = some (true, σ2) → loopM (f_pending_Open_l0 x0 (n : Int)) ((R.length : Int), σ1) = loopM (f_pending_Open_l0 x0 (n : Int)) (((R ++ [x]).length : Int), σ2) := by
    intro R x S σ1 σ2 y hr hp h
    have h1 : Rall[R.length]? = some x := by rw [hr, List.append_assoc, List.getElem?_append_right (Nat.le_refl _)]; simp
    have hlt : R.length < Rall.length := (List.getElem?_eq_some_iff.1 h1).1
    have hG1 : LG σ1 l d most js segs safe := hG.same2 (show σ1.base.t_wal_Log = σ.base.t_wal_Log by rw [hp.o]) (show σ1.base.t_wal_segment = σ.base.t_wal_segment by rw [hp.o])
    obtain ⟨z, z1, z2⟩ := f58_eq hG1 hg hlen hS (i := R.length) (by omega) (by omega)
    rw [h1] at z1
    simp only [Option.some.injEq] at z1; subst z1
    rw [loopM_go (y := (((R ++ [x]).length : Int), σ2))]
    unfold f_pending_Open_l0
    simp only [eq_58, hl, z2, Option.bind_some, h, wrap_nat (i := R.length) (by omega)]
    rw [if_pos (by simp; omega), if_neg (by simp)]
    simp
  intro R C V hP
  induction hP with
  | nil => exact fun S _ => ⟨σ, rfl, Rp.refl hq⟩
  | @cmd R C V c hP h1 h2 h3 ih =>
    intro S hr
    obtain ⟨σ1, e1, e2⟩ := ih ([recC c] ++ S) (by rw [hr]; simp)
    have hb := congrArg List.length hr
    simp only [List.length_append, List.length_cons, List.length_nil] at hb
    obtain ⟨b1, b2⟩ := hP.len
    have hw : (C.drop V.length).length = C.length - V.length := by simp
    have := put_cmd (σ := σ1) (W := C.drop V.length) (V := V) (ci := x0.2.t_c_t27.length) (show σ1.base.t_c_t27[x0.2.t_c_t27.length]? = _ by rw [e2.o]; exact hci) (e2.get hq) (by omega) (by omega) h1 h2 (by rw [h3]; omega)
    refine ⟨_, e1.trans (step hr e2 this), ?_⟩
    have h4 := e2.step (layC c, ((layC c).length : Int), 0, ()) (a, lo, C.drop V.length ++ [c], V, ())
    rw [List.drop_append_of_le_length b2]
    exact h4
  | @vds R C V m hP h1 h2 ih =>
    intro S hr
    obtain ⟨σ1, e1, e2⟩ := ih ([recV m] ++ S) (by rw [hr]; simp)
    have hb := congrArg List.length hr
    simp only [List.length_append, List.length_cons, List.length_nil] at hb
    obtain ⟨b1, b2⟩ := hP.len
    have hw : (C.drop V.length).length = C.length - V.length := by simp
    have := put_vds (σ := σ1) (W := C.drop V.length) (V := V) (ci := x0.2.t_c_t27.length) (show σ1.base.t_c_t27[x0.2.t_c_t27.length]? = _ by rw [e2.o]; exact hci) (e2.get hq) (by omega) (by omega) h1 (by rw [hw]; exact h2)
    refine ⟨_, e1.trans (step hr e2 this), ?_⟩
    have h4 := e2.step (layV m, ((layV m).length : Int), 0, ()) (a, lo, (C.drop V.length).drop m.length, V ++ m, ())
    rw [List.length_append, ← List.drop_drop]
    exact h4
end
end Go.Proofs.YtbnmhjobnepajaaGreat.M


namespace Go.Proofs.YtbnmhjobnepajaaGreat.M

theorem f72_lg {p : Option Nat} {p1 : St → Option (Unit × St)} {σ σ' : St} {r : Int} (h : f72 p p1 σ = some (r, σ')) (hp : ∀ σ1 u σ2, p1 σ1 = some (u, σ2) → oth3 σ2 = oth3 σ1) : oth3 σ' = oth3 σ := by
  unfold f72 at h
  simp only [Option.bind_eq_bind, Option.bind_eq_some_iff] at h
  obtain ⟨i4, -, o5, -, h⟩ := h
  split at h
  · simp only [Option.bind_eq_some_iff] at h
    obtain ⟨i7, -, o8, -, i9, -, o10, -, i12, -, o13, -, h⟩ := h
    split at h
    · simp only [Option.bind_eq_some_iff, Option.some.injEq, Prod.mk.injEq] at h
      obtain ⟨i15, -, o16, -, -, rfl⟩ := h
      rfl
    · simp only [Option.bind_eq_some_iff, Option.some.injEq, Prod.mk.injEq] at h
      obtain ⟨⟨u, σ2⟩, h1, -, rfl⟩ := h
      exact (hp _ _ _ h1).trans rfl
  · simp only [Option.bind_eq_some_iff, Option.some.injEq, Prod.mk.injEq] at h
    obtain ⟨⟨u, σ2⟩, h1, -, rfl⟩ := h
    exact hp _ _ _ h1
theorem f73_lg {σ1 : St} {u : Unit} {σ2 : St} (h : f73 σ1 = some (u, σ2)) : oth3 σ2 = oth3 σ1 := by
  unfold f73 at h
  simp only [Option.some.injEq, Prod.mk.injEq] at h
  rw [← h.2]
theorem f24_tail {p0 : Option Nat} {z : (Option Nat) × St} {p2 : List UInt8} {σ σ' : St} {r : Int} (hz : oth3 z.2 = oth3 σ) (h : (z.1 >>= fun i42 => (z.2.t_disk_file[i42]?) >>= fun o43 => if o43.1.length + p2.length ≤ 9223372036854775807 then z.1 >>= fun i45 => (z.2.t_disk_file[i45]?) >>= fun o46 => f72 p0 f73 (z.2.set1_disk_file i45 (o43.1 ++ p2, o46.2.1, ())) >>= fun r48 => some (r48.1, r48.2) else none) = some (r, σ')) : oth3 σ' = oth3 σ := by
  simp only [Option.bind_eq_bind, Option.bind_eq_some_iff] at h
  obtain ⟨i, -, o, -, h⟩ := h
  split at h
  · simp only [Option.bind_eq_some_iff, Option.some.injEq, Prod.mk.injEq] at h
    obtain ⟨j, -, o2, -, ⟨r1, σ1⟩, h1, -, rfl⟩ := h
    exact (f72_lg h1 fun _ _ _ => f73_lg).trans hz
  · simp at h
theorem f24_lg {p0 : Option Nat} {p1 p2 : List UInt8} {σ σ' : St} {r : Int} (h : f24 p0 p1 p2 σ = some (r, σ')) : oth3 σ' = oth3 σ := by
  unfold f24 at h
  obtain ⟨r4, -, h⟩ := Option.bind_eq_some_iff.1 h
  split at h
  · simp only [Option.some.injEq, Prod.mk.injEq] at h; rw [← h.2]
  obtain ⟨r9, -, h⟩ := Option.bind_eq_some_iff.1 h
  split at h
  · simp only [Option.some.injEq, Prod.mk.injEq] at h; rw [← h.2]
  obtain ⟨i, -, h⟩ := Option.bind_eq_some_iff.1 h
  obtain ⟨o, -, h⟩ := Option.bind_eq_some_iff.1 h
  obtain ⟨z, -, h⟩ := Option.bind_eq_some_iff.1 h
  split at h
  · obtain ⟨i, -, h⟩ := Option.bind_eq_some_iff.1 h
    obtain ⟨o, -, h⟩ := Option.bind_eq_some_iff.1 h
    split at h
    · simp only [Option.some.injEq, Prod.mk.injEq] at h; rw [← h.2]
    split at h
    · simp only [Option.some.injEq, Prod.mk.injEq] at h; rw [← h.2]
    obtain ⟨i, -, h⟩ := Option.bind_eq_some_iff.1 h
    obtain ⟨o, -, h⟩ := Option.bind_eq_some_iff.1 h
    obtain ⟨o, -, h⟩ := Option.bind_eq_some_iff.1 h
    split at h
    · simp only [Option.some.injEq, Prod.mk.injEq] at h; rw [← h.2]
    obtain ⟨z, hz, h⟩ := Option.bind_eq_some_iff.1 h
    refine f24_tail ?_ h
    obtain ⟨i, -, hz⟩ := Option.bind_eq_some_iff.1 hz
    obtain ⟨o, -, hz⟩ := Option.bind_eq_some_iff.1 hz
    simp only [Option.some.injEq] at hz; rw [← hz]; rfl
  · split at h
    · simp only [Option.some.injEq, Prod.mk.injEq] at h; rw [← h.2]
    obtain ⟨i, -, h⟩ := Option.bind_eq_some_iff.1 h
    obtain ⟨o, -, h⟩ := Option.bind_eq_some_iff.1 h
    obtain ⟨o, -, h⟩ := Option.bind_eq_some_iff.1 h
    split at h
    · simp only [Option.some.injEq, Prod.mk.injEq] at h; rw [← h.2]
    obtain ⟨z, hz, h⟩ := Option.bind_eq_some_iff.1 h
    refine f24_tail ?_ h
    simp only [Option.some.injEq] at hz; rw [← hz]

structure Wx (σ σ' : St) (l : Nat) (js : List Nat) : Prop where
  lg : ∀ i, i ≠ l → σ'.t_wal_Log[i]? = σ.t_wal_Log[i]?
  ll : σ'.t_wal_Log.length = σ.t_wal_Log.length
  sg : ∀ j, j ∉ js → j < σ.t_wal_segment.length → σ'.t_wal_segment[j]? = σ.t_wal_segment[j]?
  sl : σ.t_wal_segment.length ≤ σ'.t_wal_segment.length
def hasJ (σ : St) (l : Nat) (js : List Nat) : Prop := ∃ o : denFs fs_wal_Log, σ.t_wal_Log[l]? = some o ∧ o.2.2.2.1 = js.map some
theorem Wx.refl (σ : St) (l : Nat) (js : List Nat) : Wx σ σ l js := ⟨fun _ _ => rfl, rfl, fun _ _ _ => rfl, Nat.le_refl _⟩
theorem Wx.of3 {σ σ' : St} {l : Nat} {js : List Nat} (h : oth3 σ' = oth3 σ) : Wx σ σ' l js := by
  have h1 : σ'.t_wal_Log = σ.t_wal_Log := congrArg (fun x => x.2.1) h
  have h2 : σ'.t_wal_segment = σ.t_wal_segment := congrArg (fun x => x.2.2) h
  exact ⟨fun _ _ => by rw [h1], by rw [h1], fun _ _ _ => by rw [h2], by rw [h2]; exact Nat.le_refl _⟩
theorem f78_lg {c : Nat} {σ1 : St} {u : Unit} {σ2 : St} (h : f78 c σ1 = some (u, σ2)) : oth3 σ2 = oth3 σ1 := by
  unfold f78 at h
  simp only [Option.bind_eq_bind, Option.bind_eq_some_iff, Option.some.injEq, Prod.mk.injEq] at h
  obtain ⟨o1, -, i2, -, o3, -, i4, -, o5, -, -, rfl⟩ := h
  rfl
theorem f33_lg {p0 : Option Nat} {p1 : List UInt8} {σ σ' : St} {r : Int} (h : f33 p0 p1 σ = some (r, σ')) : oth3 σ' = oth3 σ := by
  unfold f33 at h
  obtain ⟨r3, -, h⟩ := Option.bind_eq_some_iff.1 h
  split at h
  · simp only [Option.some.injEq, Prod.mk.injEq] at h; rw [← h.2]; rfl
  obtain ⟨⟨r8, σ8⟩, h8, h⟩ := Option.bind_eq_some_iff.1 h
  simp only [Option.some.injEq, Prod.mk.injEq] at h
  rw [← h.2]
  exact (f72_lg h8 fun _ _ _ => f78_lg).trans rfl
theorem set_safe {σ : St} {l : Nat} {js : List Nat} {o : denFs fs_wal_Log} {n : Int} (ho : σ.t_wal_Log[l]? = some o) (hj : hasJ σ l js) : Wx σ (σ.set1_wal_Log l (o.1, o.2.1, o.2.2.1, o.2.2.2.1, n, ())) l js ∧ hasJ (σ.set1_wal_Log l (o.1, o.2.1, o.2.2.1, o.2.2.2.1, n, ())) l js := by
  refine ⟨⟨fun i hi => ?_, ?_, fun _ _ _ => rfl, Nat.le_refl _⟩, ?_⟩
  · show (σ.t_wal_Log.set l _)[i]? = _
    rw [List.getElem?_set_ne (Ne.symm hi)]
  · show (σ.t_wal_Log.set l _).length = _
    rw [List.length_set]
  · obtain ⟨o', h1, h2⟩ := hj
    rw [ho] at h1; simp only [Option.some.injEq] at h1; subst h1
    exact ⟨_, set1_wal_Log_get ho, h2⟩
theorem Wx.trans {σ σ' σ'' : St} {l : Nat} {js : List Nat} (h1 : Wx σ σ' l js) (h2 : Wx σ' σ'' l js) : Wx σ σ'' l js :=
  ⟨fun i hi => (h2.lg i hi).trans (h1.lg i hi), h2.ll.trans h1.ll, fun j hj hl => (h2.sg j hj (Nat.lt_of_lt_of_le hl h1.sl)).trans (h1.sg j hj hl), Nat.le_trans h1.sl h2.sl⟩
theorem hasJ.of3 {σ σ' : St} {l : Nat} {js : List Nat} (h : hasJ σ l js) (e : oth3 σ' = oth3 σ) : hasJ σ' l js := by
  have h1 : σ'.t_wal_Log = σ.t_wal_Log := congrArg (fun x => x.2.1) e
  obtain ⟨o, a, b⟩ := h
  exact ⟨o, by rw [h1]; exact a, b⟩
theorem f61_lg {l : Nat} {js : List Nat} {σ σ' : St} {r : Int} (hj : hasJ σ l js) (h : f61 (some l) σ = some (r, σ')) : Wx σ σ' l js ∧ hasJ σ' l js ∧ σ'.t_wal_segment = σ.t_wal_segment := by
  unfold f61 at h
  rw [if_neg (by simp)] at h
  obtain ⟨r7, -, h⟩ := Option.bind_eq_some_iff.1 h
  split at h
  · simp only [Option.bind_eq_bind, Option.bind_some] at h
    obtain ⟨o11, ho, h⟩ := Option.bind_eq_some_iff.1 h
    obtain ⟨r12, -, h⟩ := Option.bind_eq_some_iff.1 h
    obtain ⟨⟨r13, σ1⟩, h13, h⟩ := Option.bind_eq_some_iff.1 h
    have e3 := f33_lg h13
    have es : σ1.t_wal_segment = σ.t_wal_segment := congrArg (fun x => x.2.2) e3
    split at h
    · simp only [Option.some.injEq, Prod.mk.injEq] at h; rw [← h.2]; exact ⟨Wx.of3 e3, hj.of3 e3, es⟩
    obtain ⟨r17, -, h⟩ := Option.bind_eq_some_iff.1 h
    obtain ⟨o18, h18, h⟩ := Option.bind_eq_some_iff.1 h
    simp only [Option.some.injEq, Prod.mk.injEq] at h; rw [← h.2]
    obtain ⟨a, b⟩ := set_safe (n := r17) h18 (hj.of3 e3)
    exact ⟨(Wx.of3 e3).trans a, b, es⟩
  · obtain ⟨r17, -, h⟩ := Option.bind_eq_some_iff.1 h
    simp only [Option.bind_eq_bind, Option.bind_some] at h
    obtain ⟨o18, h18, h⟩ := Option.bind_eq_some_iff.1 h
    simp only [Option.some.injEq, Prod.mk.injEq] at h; rw [← h.2]
    obtain ⟨a, b⟩ := set_safe (n := r17) h18 hj
    exact ⟨a, b, rfl⟩

section
variable {σ σ' : St} {l : Nat} {js : List Nat}
theorem Wx.o3 {σ'' : St} (h : Wx σ σ' l js) (e : oth3 σ'' = oth3 σ') : Wx σ σ'' l js := h.trans (Wx.of3 e)
theorem Wx.add (h : Wx σ σ' l js) (x : denFs fs_wal_segment) : Wx σ (σ'.add_wal_segment x) l js := by
  refine ⟨h.lg, h.ll, fun j hj hl => ?_, ?_⟩
  · show (σ'.t_wal_segment ++ [x])[j]? = _
    rw [List.getElem?_append_left (Nat.lt_of_lt_of_le hl h.sl)]; exact h.sg j hj hl
  · show _ ≤ (σ'.t_wal_segment ++ [x]).length
    have := h.sl
    rw [List.length_append]; omega
theorem Wx.seg (h : Wx σ σ' l js) {k : Nat} (hk : k ∈ js ∨ σ.t_wal_segment.length ≤ k) (x : denFs fs_wal_segment) : Wx σ (σ'.set1_wal_segment k x) l js := by
  refine ⟨h.lg, h.ll, fun j hj hl => ?_, ?_⟩
  · show (σ'.t_wal_segment.set k x)[j]? = _
    rw [List.getElem?_set_ne (fun (e : k = j) => by
      rcases hk with hk | hk
      · exact hj (e ▸ hk)
      · omega)]
    exact h.sg j hj hl
  · show _ ≤ (σ'.t_wal_segment.set k x).length
    rw [List.length_set]; exact h.sl
theorem Wx.log (h : Wx σ σ' l js) (x : denFs fs_wal_Log) : Wx σ (σ'.set1_wal_Log l x) l js := by
  refine ⟨fun i hi => ?_, ?_, h.sg, h.sl⟩
  · show (σ'.t_wal_Log.set l x)[i]? = _
    rw [List.getElem?_set_ne (Ne.symm hi)]; exact h.lg i hi
  · show (σ'.t_wal_Log.set l x).length = _
    rw [List.length_set]; exact h.ll
def JsOut (σ σ' : St) (l : Nat) (js : List Nat) : Prop := Wx σ σ' l js ∧ ∃ js', hasJ σ' l js' ∧ ∀ j ∈ js', j ∈ js ∨ σ.t_wal_segment.length ≤ j
theorem JsOut.same (h : Wx σ σ' l js) (hj : hasJ σ' l js) : JsOut σ σ' l js := ⟨h, js, hj, fun _ h => .inl h⟩
theorem JsOut.more {k : Nat} {o : denFs fs_wal_Log} (h : Wx σ σ' l js) (hj : hasJ σ' l js) (ho : σ'.t_wal_Log[l]? = some o) (hk : σ.t_wal_segment.length ≤ k) : JsOut σ (σ'.set1_wal_Log l (o.1, o.2.1, o.2.2.1, o.2.2.2.1 ++ [some k], o.2.2.2.2.1, ())) l js := by
  refine ⟨h.log _, js ++ [k], ⟨_, set1_wal_Log_get ho, ?_⟩, fun j hj' => ?_⟩
  · obtain ⟨o', h1, h2⟩ := hj
    rw [ho] at h1; simp only [Option.some.injEq] at h1; subst h1
    show o.2.2.2.1 ++ [some k] = _
    rw [h2, List.map_append]; rfl
  · rcases List.mem_append.1 hj' with h | h
    · exact .inl h
    · simp only [List.mem_singleton] at h; subst h; exact .inr hk

theorem f59_lg {x : List UInt8} {r : Int × Int} (hj : hasJ σ l js) (h : f59 (some l) x σ = some (r, σ')) : JsOut σ σ' l js := by
  unfold f59 at h
  rw [if_neg (by simp)] at h
  split at h
  · simp only [Option.some.injEq, Prod.mk.injEq] at h; rw [← h.2]; exact .same (Wx.refl _ _ _) hj
  obtain ⟨r8, -, h⟩ := Option.bind_eq_some_iff.1 h
  obtain ⟨r10, h10, h⟩ := Option.bind_eq_some_iff.1 h
  split at h
  · obtain ⟨⟨r17, σ1⟩, h17, h⟩ := Option.bind_eq_some_iff.1 h
    obtain ⟨w1, j1, es⟩ := f61_lg hj h17
    split at h
    · simp only [Option.some.injEq, Prod.mk.injEq] at h; rw [← h.2]; exact .same w1 j1
    obtain ⟨r21, -, h⟩ := Option.bind_eq_some_iff.1 h
    simp only [Option.bind_eq_bind, Option.bind_some] at h
    obtain ⟨o25, -, h⟩ := Option.bind_eq_some_iff.1 h
    obtain ⟨r26, -, h⟩ := Option.bind_eq_some_iff.1 h
    obtain ⟨⟨r27, σ2⟩, h27, h⟩ := Option.bind_eq_some_iff.1 h
    have e3 := f24_lg h27
    have w2 := (w1.add (r8, [], 0, ())).o3 e3
    have j2 : hasJ σ2 l js := hasJ.of3 (σ := σ1.add_wal_segment (r8, [], 0, ())) j1 e3
    split at h
    · simp only [Option.some.injEq, Prod.mk.injEq] at h; rw [← h.2]; exact .same w2 j2
    obtain ⟨o31, -, h⟩ := Option.bind_eq_some_iff.1 h
    split at h
    · obtain ⟨o38, h38, h⟩ := Option.bind_eq_some_iff.1 h
      split at h
      · simp only [Option.some.injEq, Prod.mk.injEq] at h; rw [← h.2]
        have hk : σ.t_wal_segment.length ≤ σ1.t_wal_segment.length := w1.sl
        exact .more ((w2.seg (.inr hk) _).seg (.inr hk) _) j2 h38 hk
      · simp at h
    · simp at h
  · rename_i hne
    cases r10 with
    | none => simp at hne
    | some k =>
    have hkj : k ∈ js := by
      unfold f97 at h10
      obtain ⟨i, hi, h10⟩ := Option.bind_eq_some_iff.1 h10
      simp only [Option.some.injEq] at hi; subst hi
      obtain ⟨o, ho, h10⟩ := Option.bind_eq_some_iff.1 h10
      obtain ⟨o', p1, p2⟩ := hj
      rw [p1] at ho; simp only [Option.some.injEq] at ho; subst ho
      split at h10
      · simp at h10
      obtain ⟨y, hy, h10⟩ := Option.bind_eq_some_iff.1 h10
      simp only [Option.some.injEq] at h10; subst h10
      unfold ix at hy
      split at hy
      · rename_i hc
        have hm := List.mem_of_getElem? hy
        rw [p2] at hm
        obtain ⟨z, z1, z2⟩ := List.mem_map.1 hm
        simp only [Option.some.injEq] at z2; rw [← z2]; exact z1
      · simp at hy
    simp only [Option.bind_eq_bind, Option.bind_some] at h
    obtain ⟨o45, -, h⟩ := Option.bind_eq_some_iff.1 h
    obtain ⟨o47, -, h⟩ := Option.bind_eq_some_iff.1 h
    split at h
    · rename_i hd
      obtain ⟨⟨r17, σ1⟩, h17, h⟩ := Option.bind_eq_some_iff.1 h
      obtain ⟨w1, j1, es⟩ := f61_lg hj h17
      split at h
      · simp only [Option.some.injEq, Prod.mk.injEq] at h; rw [← h.2]; exact .same w1 j1
      obtain ⟨r21, -, h⟩ := Option.bind_eq_some_iff.1 h
      obtain ⟨o25, -, h⟩ := Option.bind_eq_some_iff.1 h
      obtain ⟨r26, -, h⟩ := Option.bind_eq_some_iff.1 h
      obtain ⟨⟨r27, σ2⟩, h27, h⟩ := Option.bind_eq_some_iff.1 h
      have e3 := f24_lg h27
      have w2 := (w1.add (r8, [], 0, ())).o3 e3
      have j2 : hasJ σ2 l js := hasJ.of3 (σ := σ1.add_wal_segment (r8, [], 0, ())) j1 e3
      split at h
      · simp only [Option.some.injEq, Prod.mk.injEq] at h; rw [← h.2]; exact .same w2 j2
      obtain ⟨o31, -, h⟩ := Option.bind_eq_some_iff.1 h
      split at h
      · obtain ⟨σ3, h3, h⟩ := Option.bind_eq_some_iff.1 h
        simp only [Option.some.injEq, Prod.mk.injEq] at h; rw [← h.2]
        have hk : σ.t_wal_segment.length ≤ σ1.t_wal_segment.length := w1.sl
        obtain ⟨o38, h38, h3⟩ := Option.bind_eq_some_iff.1 h3
        split at h3
        · simp only [Option.some.injEq] at h3; rw [← h3]
          exact .more ((w2.seg (.inr hk) _).seg (.inr hk) _) j2 h38 hk
        · simp at h3
      · simp at h
    · obtain ⟨r21, -, h⟩ := Option.bind_eq_some_iff.1 h
      obtain ⟨r26, -, h⟩ := Option.bind_eq_some_iff.1 h
      obtain ⟨⟨r27, σ2⟩, h27, h⟩ := Option.bind_eq_some_iff.1 h
      have e3 := f24_lg h27
      have w2 : Wx σ σ2 l js := Wx.of3 e3
      have j2 : hasJ σ2 l js := hj.of3 e3
      split at h
      · simp only [Option.some.injEq, Prod.mk.injEq] at h; rw [← h.2]; exact .same w2 j2
      obtain ⟨o31, -, h⟩ := Option.bind_eq_some_iff.1 h
      split at h
      · obtain ⟨σ3, h3, h⟩ := Option.bind_eq_some_iff.1 h
        simp only [Option.some.injEq, Prod.mk.injEq] at h; rw [← h.2]
        simp only [Option.some.injEq] at h3; rw [← h3]
        exact .same ((w2.seg (.inl hkj) _).seg (.inl hkj) _) j2
      · simp at h
end
end Go.Proofs.YtbnmhjobnepajaaGreat.M


namespace Go.Proofs.YtbnmhjobnepajaaGreat.M

structure WR (σ : St) (l d n0 : Nat) (A : AD) (js : List Nat) (segs : List Sg) (R : List (List UInt8)) : Prop where
  ws : WS σ l d n0 2048 A js segs (nextS segs) (lastLen segs)
  f0 : firstS segs = 0
  sub : ∀ g ∈ segs, Sub R g
  nx : nextS segs = R.length
  dn : downA A = false

structure WOut (σ : St) (q l d n0 : Nat) (A : AD) (js : List Nat) (segs : List Sg) (R : List (List UInt8)) (x : List UInt8) (e : Int) (σ' : St) (B : AD) (segs' : List Sg) : Prop where
  run : f_pending_Queue_write (some q) x σ = some (e, σ')
  fw : Fw σ σ' d n0
  js : JsOut σ σ' l js
  room : B.1 = A.1
  arm : armA0 A = 0 → armA0 B = 0
  out : (e = 0 ∧ More segs x segs' ∧ ∃ js', WR σ' l d n0 B js' segs' (R ++ [x])) ∨
        (e = 10 ∧ segs' = segs ∧ Over A segs x ∧ ∃ js', WR σ' l d n0 B js' segs R) ∨
        (e = 11 ∧ armA0 A ≠ 0 ∧ (segs' = segs ∨ More segs x segs') ∧ ∃ s', CSW σ' d n0 B segs' s' ∧ nextS segs ≤ safeOf segs' s')

section
variable {σ : St} {q l d n0 : Nat} {a : Int} {A : AD} {js : List Nat} {segs : List Sg} {R : List (List UInt8)} {W : List CmdT} {V : List VdT}
theorem LG.hasJ {most : Int} {safe : Nat} (h : LG σ l d most js segs safe) : hasJ σ l js := ⟨_, h.lo, rfl⟩
theorem JsOut.comp {σ1 σ2 : St} {js1 : List Nat} (h1 : Wx σ σ1 l js) (hj : hasJ σ1 l js1) (hk : ∀ j ∈ js1, j ∈ js ∨ σ.t_wal_segment.length ≤ j) (h2 : Wx σ1 σ2 l js1) (hj2 : hasJ σ2 l js1) : JsOut σ σ2 l js := by
  refine ⟨⟨fun i hi => (h2.lg i hi).trans (h1.lg i hi), h2.ll.trans h1.ll, fun j hj hl => ?_, Nat.le_trans h1.sl h2.sl⟩, js1, hj2, hk⟩
  rw [h2.sg j (fun h => by rcases hk j h with h | h; exact hj h; omega) (Nat.lt_of_lt_of_le hl h1.sl)]
  exact h1.sg j hj hl
theorem Fw.queue {σ' : St} (h : Fw σ σ' d n0) : σ'.t_pending_Queue = σ.t_pending_Queue := congrArg (fun x => x.2.1) h.up
theorem Fw.ref {σ' : St} (h : Fw σ σ' d n0) : σ'.t_surmiseref25_Queue = σ.t_surmiseref25_Queue := congrArg (fun x => x.1) h.up

theorem write_out (h : WR σ l d n0 A js segs R) (hq : σ.t_pending_Queue[q]? = some (a, some l, W, V, ())) {x : List UInt8} (hx : x.length ≤ 1024) (hR : R.length ≤ 100000) (hlen : segs.length ≤ 800) :
    ∃ e σ' B segs', WOut σ q l d n0 A js segs R x e σ' B segs' := by
  have hn := h.nx
  obtain ⟨v, e, σ1, B, js1, segs1, safe1, s1, r1, r2, r3, r4, r5, r6⟩ := f59_eq h.ws h.dn (x := x) hx (by omega) hlen (by omega)
  have hJ := f59_lg h.ws.lg.hasJ r1
  have hq1 : σ1.t_pending_Queue[q]? = some (a, some l, W, V, ()) := by rw [r2.queue]; exact hq
  have run0 : f_pending_Queue_write (some q) x σ = (if (e != 0) = true then some (e, σ1) else Option.bind (f61 (some l) σ1) fun x5 => some (x5.1, x5.2)) := by
    unfold f_pending_Queue_write
    simp only [Option.bind_some, hq, eq_59, r1, hq1, eq_61]
  rcases r5 with ⟨rfl, rfl, o1, o2, o3, o4⟩ | ⟨rfl, o1, rfl, o2, o4⟩ | ⟨rfl, o1, o2, o3, o4, o5, o6, o7, o8⟩
  · -- it went in
    rw [if_neg (by decide)] at run0
    have hsub : ∀ g ∈ segs1, Sub (R ++ [x]) g := Sub.more o2 h.sub h.nx
    have hnx : nextS segs1 = (R ++ [x]).length := by rw [o2.next, h.nx]; simp
    obtain ⟨σ2, B2, e2, g1, g2, g3, g4, g5, g6, g7, g8⟩ := f61_eq o4.lg o4.dv o4.ok o4.good (by have := o4.len; omega) o4.dl o1
    obtain ⟨w2, j2, -⟩ := f61_lg o4.lg.hasJ g1
    have hJ2 : JsOut σ σ2 l js := by
      obtain ⟨k1, js', k2, k3⟩ := hJ
      obtain ⟨o', m1, m2⟩ := k2
      have m3 := o4.lg.lo
      rw [m1] at m3; simp only [Option.some.injEq] at m3; subst m3
      have : js' = js1 := by
        have := m2
        exact (List.map_inj_right (fun a b h => by simpa using h)).1 this.symm
      subst this
      exact JsOut.comp k1 o4.lg.hasJ k3 w2 j2
    rw [g1] at run0
    rcases g8 with ⟨rfl, d1, l1, m1⟩ | ⟨rfl, d1, a1, l1, m1⟩
    · refine ⟨0, σ2, B2, segs1, run0, r2.trans g2, hJ2, g4.trans r3, fun hh => g5 (r4 hh), .inl ⟨rfl, o2, js1, ⟨l1, g6, g7, m1, o4.good, o4.len, (safeOf_all segs1).symm⟩, by rw [o2.first]; exact h.f0, hsub, hnx, d1⟩⟩
    · refine ⟨11, σ2, B2, segs1, run0, r2.trans g2, hJ2, g4.trans r3, fun hh => g5 (r4 hh), .inr (.inr ⟨rfl, fun hh => a1 (r4 hh), .inr o2, s1, ⟨g6, g7, m1, o4.good, o4.len⟩, ?_⟩)⟩
      rw [← o4.sf]; exact r6
  · rw [if_pos (by decide)] at run0
    have hs1 : safe1 = nextS segs1 := by
      have := safe_le_next o4
      omega
    refine ⟨10, σ1, B, segs1, run0, r2, hJ, r3, r4, .inr (.inl ⟨rfl, rfl, o2, js1, ?_, h.f0, h.sub, h.nx, o1⟩)⟩
    subst hs1
    rcases List.eq_nil_or_concat segs1 with rfl | ⟨pre, g, rfl⟩
    · obtain ⟨b1, b2, b3, b4, b5, b6, b7⟩ := o4
      obtain ⟨hL, rfl⟩ := b4.inv0
      exact ⟨b1, b2, b3, .none hL, b5, b6, rfl⟩
    · rw [List.concat_eq_append] at *
      have e1 := o4.sf
      have e2 := safeOf_all (pre ++ [g])
      rw [safeOf_app] at e1 e2
      have e3 : s1 = lastLen (pre ++ [g]) := by omega
      rw [← e3]; exact o4
  · rw [if_pos (by decide)] at run0
    have hgl : Good segs1 ∧ segs1.length ≤ 900 := by
      rcases o3 with rfl | o3
      · exact ⟨h.ws.good, h.ws.len⟩
      · exact ⟨o3.good h.ws.good hx (by omega), by have := o3.len; omega⟩
    exact ⟨11, σ1, B, segs1, run0, r2, hJ, r3, r4, .inr (.inr ⟨rfl, o2, o3, s1, ⟨o6, o7, o8, hgl.1, hgl.2⟩, by omega⟩)⟩
end
end Go.Proofs.YtbnmhjobnepajaaGreat.M


namespace Go.Proofs.YtbnmhjobnepajaaGreat.M

structure QS (σ : St) (q l d n0 : Nat) (a : Int) (A : AD) (js : List Nat) (segs : List Sg) (R : List (List UInt8)) (C : List CmdT) (V : List VdT) : Prop where
  wr : WR σ l d n0 A js segs R
  qo : σ.t_pending_Queue[q]? = some (a, some l, C.drop V.length, V, ())
  pl : Plays a R C V
  w32 : C.length - V.length ≤ 32

def ascV : Int → List VdT → Bool
  | _, [] => true
  | p, v :: r => inR v.1 1 1099511627776 && inR v.2.1 0 63 && (decide (p < v.1) && ascV v.1 r)
theorem allX_asc {l : List VdT} : ∀ (k i : Nat), i + k = l.length → allX (vdOK l) i (l.drop i) = ascV (if 0 < i then (l.getD (i - 1) (0, 0, ())).1 else 0) (l.drop i)
  | 0, i, hi => by rw [List.drop_of_length_le (by omega)]; rfl
  | k + 1, i, hi => by
    have hlt : i < l.length := by omega
    have hd : l.drop i = l[i] :: l.drop (i + 1) := by simp
    rw [hd, allX, ascV, allX_asc k (i + 1) (by omega), if_pos (by omega)]
    have e : l.getD (i + 1 - 1) (0, 0, ()) = l[i] := by
      rw [show i + 1 - 1 = i by omega, List.getD_eq_getElem?_getD, List.getElem?_eq_getElem hlt]; rfl
    rw [e]
    unfold vdOK
    by_cases h0 : 0 < i
    · rw [if_pos h0, decide_eq_true h0]
      simp only [Bool.true_and, Bool.and_assoc]
      by_cases h1 : l[i].1 ≤ (l.getD (i - 1) (0, 0, ())).1
      · rw [decide_eq_true h1, decide_eq_false (by omega)]; simp
      · rw [decide_eq_false h1, decide_eq_true (by omega)]; simp
    · rw [if_neg h0, decide_eq_false h0]
      simp only [Bool.false_and, Bool.not_false, Bool.and_true, Bool.and_assoc]
      cases h1 : inR l[i].1 1 1099511627776 with
      | false => rfl
      | true => rw [decide_eq_true (by have := (inR_iff.1 h1).1; omega)]; simp
theorem vdsOK_asc (l : List VdT) : vdsOK l = (ascV 0 l && decide (l.length ≤ 32)) := by
  unfold vdsOK
  have := allX_asc (l := l) l.length 0 (by omega)
  rw [List.drop_zero] at this
  rw [this]; rfl
theorem ascV_weak {p p' : Int} {l : List VdT} (h : ascV p l = true) (hp : p' ≤ p) : ascV p' l = true := by
  cases l with
  | nil => rfl
  | cons v r =>
    unfold ascV at h ⊢
    simp only [Bool.and_eq_true, decide_eq_true_eq] at h ⊢
    exact ⟨h.1, by omega, h.2.2⟩
theorem ascV_tail {p : Int} {v : VdT} {r : List VdT} (h : ascV p (v :: r) = true) : p < v.1 ∧ 1 ≤ v.1 ∧ ascV v.1 r = true := by
  unfold ascV at h
  simp only [Bool.and_eq_true, decide_eq_true_eq, inR_iff] at h
  exact ⟨h.2.1, h.1.1.1, h.2.2⟩
def restV (n : Nat) (l : List VdT) : List VdT := l.dropWhile fun v => decide (v.1 < ((n + 1 : Nat) : Int))
theorem restV_ok {n : Nat} : ∀ {l : List VdT} {p : Int}, 0 ≤ p → ascV p l = true → ascV p (restV n l) = true
  | [], p, _, _ => rfl
  | v :: r, p, hp, h => by
    obtain ⟨h1, h2, h3⟩ := ascV_tail h
    unfold restV
    rw [List.dropWhile_cons]
    split
    · exact ascV_weak (restV_ok (by omega) h3) (by omega)
    · exact h
theorem restV_len {n : Nat} : ∀ {l : List VdT}, (restV n l).length ≤ l.length
  | [] => Nat.le_refl _
  | v :: r => by
    unfold restV
    rw [List.dropWhile_cons]
    split
    · have := restV_len (n := n) (l := r)
      unfold restV at this
      rw [List.length_cons]; omega
    · exact Nat.le_refl _
theorem restV_vds {n : Nat} {l : List VdT} (h : vdsOK l = true) : vdsOK (restV n l) = true := by
  rw [vdsOK_asc] at h ⊢
  simp only [Bool.and_eq_true, decide_eq_true_eq] at h ⊢
  exact ⟨restV_ok (Int.le_refl _) h.1, Nat.le_trans restV_len h.2⟩
theorem asc_filter {n : Nat} : ∀ {l : List VdT} {p : Int}, (n : Int) < p → ascV p l = true → (l.filter fun v => decide (v.1 > (n : Int))) = l
  | [], _, _, _ => rfl
  | v :: r, p, hp, h => by
    obtain ⟨h1, h2, h3⟩ := ascV_tail h
    rw [List.filter_cons_of_pos (by simp; omega), asc_filter (p := v.1) (by omega) h3]
theorem restV_filter {n : Nat} : ∀ {l : List VdT} {p : Int}, ascV p l = true → restV n l = l.filter fun v => decide (v.1 > (n : Int))
  | [], _, _ => rfl
  | v :: r, p, h => by
    obtain ⟨h1, h2, h3⟩ := ascV_tail h
    unfold restV
    rw [List.dropWhile_cons]
    by_cases hc : v.1 < ((n + 1 : Nat) : Int)
    · rw [if_pos (by simpa using hc), List.filter_cons_of_neg (by simp; omega)]
      exact restV_filter h3
    · rw [if_neg (by simpa using hc), List.filter_cons_of_pos (by simp; omega), asc_filter (p := v.1) (by omega) h3]

section
variable {σ : St} {q l d n0 : Nat} {a : Int} {A : AD} {js : List Nat} {segs : List Sg} {R : List (List UInt8)} {C : List CmdT} {V : List VdT}
theorem QS.next (h : QS σ q l d n0 a A js segs R C V) (hR : R.length ≤ 10000) : f_pending_Queue_Next (some q) σ = some ((C.length + 1 : Nat) : Int) := by
  obtain ⟨b1, b2⟩ := h.pl.len
  rw [Next_eq h.qo (by omega) (by simp; omega)]
  congr 2
  simp only [List.length_drop]; omega
theorem QS.first (h : QS σ q l d n0 a A js segs R C V) (hR : R.length ≤ 10000) : f_pending_Queue_First (some q) σ = some ((V.length + 1 : Nat) : Int) := by
  obtain ⟨b1, b2⟩ := h.pl.len
  exact First_eq h.qo (by omega)

inductive SubOut (σ : St) (q l d n0 : Nat) (a : Int) (A : AD) (js : List Nat) (segs : List Sg) (R : List (List UInt8)) (C : List CmdT) (V : List VdT) (c : CmdT) : (Int × Int) → St → Prop where
  | bad : cmdOK c = false → SubOut σ q l d n0 a A js segs R C V c (0, 2) σ
  | full : cmdOK c = true → 32 ≤ C.length - V.length → SubOut σ q l d n0 a A js segs R C V c (0, 10) σ
  | fail {e : Int} {σ1 : St} {B : AD} {segs' : List Sg} : cmdOK c = true → C.length - V.length < 32 → WOut σ q l d n0 A js segs R (recC c) e σ1 B segs' → e ≠ 0 → SubOut σ q l d n0 a A js segs R C V c (0, e) σ1
  | ok {σ1 : St} {B : AD} {segs' : List Sg} : cmdOK c = true → C.length - V.length < 32 → WOut σ q l d n0 A js segs R (recC c) 0 σ1 B segs' → SubOut σ q l d n0 a A js segs R C V c (((C.length + 1 : Nat) : Int), 0) (putQ σ1 q (a, some l, C.drop V.length ++ [c], V, ()))

theorem Submit_out (h : QS σ q l d n0 a A js segs R C V) (hR : R.length ≤ 10000) (hlen : segs.length ≤ 800) {st : List UInt8} {rule ex : Int} {args : List Int} (hf : CmdFit (a, ((C.length + 1 : Nat) : Int), st, rule, args, ex, ())) :
    ∃ r σ', f_pending_Queue_Submit (some q) st rule args ex σ = some (r, σ') ∧ SubOut σ q l d n0 a A js segs R C V (a, ((C.length + 1 : Nat) : Int), st, rule, args, ex, ()) r σ' := by
  obtain ⟨b1, b2⟩ := h.pl.len
  unfold f_pending_Queue_Submit
  have hn := hf.n
  simp only at hn
  have hqo := h.qo
  rw [if_neg (by simp), h.next hR]
  simp only [Option.bind_some, Nat.zero_add, hqo, List.nil_append]
  rw [if_pos (by omega), PutCmd_eq hf]
  by_cases hc : cmdOK (a, ((C.length + 1 : Nat) : Int), st, rule, args, ex, ()) = true
  · rw [if_pos hc]
    simp only [Option.bind_some]
    rw [if_neg (by decide)]
    by_cases hw : 32 ≤ C.length - V.length
    · rw [if_pos (by simp; omega)]
      exact ⟨_, _, rfl, .full hc hw⟩
    · rw [if_neg (by simp; omega)]
      have hl := layC_len hc
      rw [if_pos (by omega)]
      obtain ⟨e, σ1, B, segs', ho⟩ := write_out h.wr hqo (x := recC (a, ((C.length + 1 : Nat) : Int), st, rule, args, ex, ())) (by unfold recC; rw [List.length_cons]; omega) (by omega) hlen
      have hrun := ho.run
      unfold recC at hrun
      rw [hrun]
      simp only [Option.bind_some]
      by_cases he : e = 0
      · subst he
        rw [if_neg (by decide)]
        have hq1 : σ1.t_pending_Queue[q]? = some (a, some l, C.drop V.length, V, ()) := by rw [ho.fw.queue]; exact hqo
        simp only [hq1, Option.bind_some]
        rw [if_pos ⟨trivial, trivial⟩, if_pos (by simp only [List.length_drop]; omega)]
        exact ⟨_, _, rfl, .ok hc (by omega) ho⟩
      · rw [if_pos (by simpa using he)]
        exact ⟨_, _, rfl, .fail hc (by omega) ho he⟩
  · rw [if_neg hc]
    simp only [Option.bind_some]
    rw [if_pos (by decide)]
    exact ⟨_, _, rfl, .bad (by simpa using hc)⟩

inductive DoneOut (σ : St) (q l d n0 : Nat) (a : Int) (A : AD) (js : List Nat) (segs : List Sg) (R : List (List UInt8)) (C : List CmdT) (V : List VdT) (m : List VdT) : (Int × Int) → St → Prop where
  | bad : vdsOK m = false → DoneOut σ q l d n0 a A js segs R C V m (0, 2) σ
  | none : vdsOK m = true → restV V.length m = [] → DoneOut σ q l d n0 a A js segs R C V m (0, 0) σ
  | range : vdsOK m = true → restV V.length m ≠ [] → fitsB V.length (C.length - V.length) (restV V.length m) = false → DoneOut σ q l d n0 a A js segs R C V m (0, 3) σ
  | fail {e : Int} {σ1 : St} {B : AD} {segs' : List Sg} : vdsOK m = true → fitsB V.length (C.length - V.length) (restV V.length m) = true → WOut σ q l d n0 A js segs R (recV (restV V.length m)) e σ1 B segs' → e ≠ 0 → DoneOut σ q l d n0 a A js segs R C V m (0, e) σ1
  | ok {σ1 : St} {B : AD} {segs' : List Sg} : vdsOK m = true → fitsB V.length (C.length - V.length) (restV V.length m) = true → WOut σ q l d n0 A js segs R (recV (restV V.length m)) 0 σ1 B segs' →
      DoneOut σ q l d n0 a A js segs R C V m (((restV V.length m).length : Int), 0) (putQ σ1 q (a, some l, (C.drop V.length).drop (restV V.length m).length, V ++ restV V.length m, ()))

theorem done_loop (h : QS σ q l d n0 a A js segs R C V) (hR : R.length ≤ 10000) : ∀ (m : List VdT), loopM (f_pending_Queue_Done_l0 (some q) σ) m = some (restV V.length m)
  | [] => by
    rw [loopM_end (r := []) (by unfold f_pending_Queue_Done_l0; simp)]; rfl
  | v :: r => by
    have ih := done_loop h hR r
    have hix : ix (v :: r) (0 : Int) = some v := by rw [show (0 : Int) = ((0 : Nat) : Int) from rfl, ix_at (by simp)]; rfl
    have hb : f_pending_Queue_Done_l0 (some q) σ (v :: r) = if (decide (v.1 < ((V.length + 1 : Nat) : Int))) = true then some (.inl r) else some (.inr (v :: r)) := by
      unfold f_pending_Queue_Done_l0
      rw [if_pos (by first | (simp; done) | (simp; omega)), hix]
      simp only [Option.bind_some, h.first hR]
      split
      · rw [if_pos (by simp; omega)]; rfl
      · rfl
    unfold restV
    rw [List.dropWhile_cons]
    split
    · rename_i hc
      rw [if_pos hc] at hb
      rw [loopM_go hb, ih]; rfl
    · rename_i hc
      rw [if_neg hc] at hb
      rw [loopM_end hb]

theorem Done_out (h : QS σ q l d n0 a A js segs R C V) (hR : R.length ≤ 10000) (hlen : segs.length ≤ 800) {m : List VdT} (hm : ∀ v ∈ m, I64 v.1 ∧ I64 v.2.1) (hml : m.length ≤ 1048576) :
    ∃ r σ', f_pending_Queue_Done (some q) m σ = some (r, σ') ∧ DoneOut σ q l d n0 a A js segs R C V m r σ' := by
  obtain ⟨b1, b2⟩ := h.pl.len
  have hqo := h.qo
  have hdl : (C.drop V.length).length = C.length - V.length := by simp
  unfold f_pending_Queue_Done
  rw [if_neg (by simp), PutVerdicts_eq hm hml]
  by_cases hc : vdsOK m = true
  · rw [if_pos hc]
    simp only [Option.bind_some]
    rw [if_neg (by decide), done_loop h hR m]
    simp only [Option.bind_some]
    have hr := restV_vds (n := V.length) hc
    obtain ⟨hr1, hr2⟩ := vdsOK_each hr
    by_cases h0 : restV V.length m = []
    · rw [if_pos (by simp [h0])]
      exact ⟨_, _, rfl, .none hc h0⟩
    · rw [if_neg (by simp [h0]), fits_eq hqo (by omega) (by omega) (by omega), hdl]
      simp only [Option.bind_some]
      by_cases hf : fitsB V.length (C.length - V.length) (restV V.length m) = true
      · rw [if_neg (by rw [hf]; simp), PutVerdicts_eq (fun v hv => ⟨⟨by have := (hr2 v hv).1; omega, by have := (hr2 v hv).1; omega⟩, by have := (hr2 v hv).2; omega, by have := (hr2 v hv).2; omega⟩) (by omega), if_pos hr]
        simp only [Option.bind_some]
        have hl := layV_len hr
        rw [if_pos (by omega)]
        obtain ⟨e, σ1, B, segs', ho⟩ := write_out h.wr hqo (x := recV (restV V.length m)) (by unfold recV; rw [List.length_cons]; omega) (by omega) hlen
        have hrun := ho.run
        unfold recV at hrun
        rw [hrun]
        simp only [Option.bind_some]
        by_cases he : e = 0
        · subst he
          rw [if_neg (by decide)]
          have hq1 : σ1.t_pending_Queue[q]? = some (a, some l, C.drop V.length, V, ()) := by rw [ho.fw.queue]; exact hqo
          rw [take_eq hq1 (by omega) (by omega) (by rw [hdl]; exact (fitsB_len hf).2)]
          exact ⟨_, _, rfl, .ok hc hf ho⟩
        · rw [if_pos (by simpa using he)]
          exact ⟨_, _, rfl, .fail hc hf ho he⟩
      · rw [if_pos (by simpa using hf)]
        exact ⟨_, _, rfl, .range hc h0 (by simpa using hf)⟩
  · rw [if_neg hc]
    simp only [Option.bind_some]
    rw [if_pos (by decide)]
    exact ⟨_, _, rfl, .bad (by simpa using hc)⟩
end
end Go.Proofs.YtbnmhjobnepajaaGreat.M


namespace Go.Proofs.YtbnmhjobnepajaaGreat.M

section
variable {σ : St} {q l d n0 : Nat} {a : Int} {A : AD} {js : List Nat} {segs : List Sg} {R : List (List UInt8)} {C : List CmdT} {V : List VdT}
theorem WR.same {σ' : St} (h : WR σ l d n0 A js segs R) (h1 : σ'.t_disk_Disk = σ.t_disk_Disk) (h2 : σ'.t_disk_file = σ.t_disk_file) (h3 : σ'.t_wal_Log = σ.t_wal_Log) (h4 : σ'.t_wal_segment = σ.t_wal_segment) : WR σ' l d n0 A js segs R := by
  obtain ⟨⟨a1, a2, a3, a4, a5, a6, a7⟩, b1, b2, b3, b4⟩ := h
  exact ⟨⟨a1.same2 h3 h4, a2.same h1 h2, a3, a4, a5, a6, a7⟩, b1, b2, b3, b4⟩
theorem QS.after_cmd (h : QS σ q l d n0 a A js segs R C V) {σ1 : St} {B : AD} {js' : List Nat} {segs' : List Sg} {c : CmdT} (hw : WR σ1 l d n0 B js' segs' (R ++ [recC c])) (hq : σ1.t_pending_Queue = σ.t_pending_Queue) (hc : cmdOK c = true) (h1 : c.1 = a) (h2 : c.2.1 = ((C.length + 1 : Nat) : Int)) (h3 : C.length - V.length < 32) :
    QS (putQ σ1 q (a, some l, C.drop V.length ++ [c], V, ())) q l d n0 a B js' segs' (R ++ [recC c]) (C ++ [c]) V := by
  obtain ⟨b1, b2⟩ := h.pl.len
  refine ⟨hw.same rfl rfl rfl rfl, ?_, .cmd h.pl hc h1 h2, ?_⟩
  · rw [putQ_get (y := (a, some l, C.drop V.length, V, ())) (by rw [hq]; exact h.qo), List.drop_append_of_le_length b2]
  · simp only [List.length_append, List.length_cons, List.length_nil]; omega
theorem QS.after_vds (h : QS σ q l d n0 a A js segs R C V) {σ1 : St} {B : AD} {js' : List Nat} {segs' : List Sg} {m : List VdT} (hw : WR σ1 l d n0 B js' segs' (R ++ [recV m])) (hq : σ1.t_pending_Queue = σ.t_pending_Queue) (hc : vdsOK m = true) (hf : fitsB V.length (C.length - V.length) m = true) :
    QS (putQ σ1 q (a, some l, (C.drop V.length).drop m.length, V ++ m, ())) q l d n0 a B js' segs' (R ++ [recV m]) C (V ++ m) := by
  refine ⟨hw.same rfl rfl rfl rfl, ?_, .vds h.pl hc hf, ?_⟩
  · rw [putQ_get (y := (a, some l, C.drop V.length, V, ())) (by rw [hq]; exact h.qo), List.length_append, List.drop_drop]
  · have := h.w32
    simp only [List.length_append]; omega
end

abbrev RqT : Type := Int × List CmdT × List VdT × Unit
def putR (σ : St) (x : Nat) (y : RqT) : St := σ.set_surmiseref25_Queue (σ.t_surmiseref25_Queue.set x y)
theorem putR_get {σ : St} {x : Nat} {y z : RqT} (h : σ.t_surmiseref25_Queue[x]? = some y) : (putR σ x z).t_surmiseref25_Queue[x]? = some z := by
  have := (List.getElem?_eq_some_iff.1 h).1
  unfold putR St.set_surmiseref25_Queue
  simp [this]
section
variable {σ : St} {x : Nat} {a : Int} {C : List CmdT} {V : List VdT}
def refC (a : Int) (C : List CmdT) (c : CmdT) : CmdT := (a, ((C.length + 1 : Nat) : Int), c.2.2)
theorem RSubmit_eq (h : σ.t_surmiseref25_Queue[x]? = some (a, C, V, ())) (hC : C.length ≤ 10000) (hV : V.length ≤ C.length) {c : CmdT} (hc : c.2.2.2.2.1.length ≤ 1048576) :
    f_surmiseref25_Queue_Submit (some x) c σ = some (if cmdOK (refC a C c) = true then (if 32 ≤ C.length - V.length then ((0, 10), σ) else ((((C.length + 1 : Nat) : Int), 0), putR σ x (a, C ++ [refC a C c], V, ()))) else ((0, 2), σ)) := by
  unfold f_surmiseref25_Queue_Submit
  have e1 : IntKind.wrap .i64 ((C.length : Int) - (V.length : Int)) = ((C.length - V.length : Nat) : Int) := by rw [wrap_id (by omega) (by omega)]; omega
  simp only [Option.bind_some, h, wrap_nat (i := C.length) (by omega), e1, List.nil_append, Nat.zero_add]
  have e2 : f_surmiseref10_Cmd (a, ((C.length + 1 : Nat) : Int), c.2.2) = some (cmdOK (refC a C c)) := cmdR_eq (c := refC a C c) (by show c.2.2.2.2.1.length < _; omega)
  rw [e2]
  simp only [Option.bind_some]
  by_cases hk : cmdOK (refC a C c) = true
  · rw [if_neg (by rw [hk]; simp), if_pos hk]
    by_cases hw : 32 ≤ C.length - V.length
    · rw [if_pos (by simp; omega), if_pos hw]
    · rw [if_neg (by simp; omega), if_neg hw, if_pos (by omega), if_pos (by omega)]
      rfl
  · rw [if_pos (by simpa using hk), if_neg hk]

theorem rdone_l0 (h : σ.t_surmiseref25_Queue[x]? = some (a, C, V, ())) {m : List VdT} (hm : m.length ≤ 1048576) : ∀ (k i : Nat) (acc : List VdT), i + k = m.length → acc.length ≤ i →
    loopM (f_surmiseref25_Queue_Done_l0 (some x) m σ) (acc, (i : Int)) = some (acc ++ (m.drop i).filter fun v => decide (v.1 > (V.length : Int)))
  | 0, i, acc, hi, ha => by
    have : i = m.length := by omega
    subst this
    rw [loopM_end (r := acc) (by unfold f_surmiseref25_Queue_Done_l0; simp)]
    simp
  | k + 1, i, acc, hi, ha => by
    have hlt : i < m.length := by omega
    have hd : m.drop i = m[i] :: m.drop (i + 1) := by simp
    have hb : f_surmiseref25_Queue_Done_l0 (some x) m σ (acc, (i : Int)) = some (.inl (if decide (m[i].1 > (V.length : Int)) = true then acc ++ [m[i]] else acc, ((i + 1 : Nat) : Int))) := by
      unfold f_surmiseref25_Queue_Done_l0
      simp only [wrap_nat (i := i) (by omega), ix_at hlt, Option.bind_some, h]
      rw [if_pos (by simp; omega)]
      split
      · rw [if_pos (by omega)]
      · rfl
    have hal : (if decide (m[i].1 > (V.length : Int)) = true then acc ++ [m[i]] else acc).length ≤ i + 1 := by
      split
      · simp only [List.length_append, List.length_cons, List.length_nil]; omega
      · omega
    rw [loopM_go hb, rdone_l0 h hm k (i + 1) _ (by omega) hal, hd, List.filter_cons]
    split <;> simp
theorem rdone_l1 (h : σ.t_surmiseref25_Queue[x]? = some (a, C, V, ())) (hC : C.length ≤ 10000) (hV : V.length ≤ C.length) {m : List VdT} (hm : m.length ≤ 1048576) :
    loopM (f_surmiseref25_Queue_Done_l1 (some x) σ m) 0 = some (if allX (fun i (v : VdT) => decide (v.1 = ((V.length + 1 + i : Nat) : Int)) && decide (v.1 ≤ (C.length : Int))) 0 m = true then .inl () else .inr ((0, 3), σ)) := by
  refine chk0 _ (fun i hi => ?_) (by unfold f_surmiseref25_Queue_Done_l1; simp)
  unfold f_surmiseref25_Queue_Done_l1
  have e1 : IntKind.wrap .i64 ((V.length : Int) + 1) = ((V.length + 1 : Nat) : Int) := wrap_nat (by omega)
  have e2 : IntKind.wrap .i64 (((V.length + 1 : Nat) : Int) + (i : Int)) = ((V.length + 1 + i : Nat) : Int) := by rw [wrap_id (by omega) (by omega)]; omega
  simp only [wrap_nat (i := i) (by omega), ix_at hi, Option.bind_some, h, e1, e2]
  rw [if_pos (by simp; omega)]
  generalize ((V.length + 1 + i : Nat) : Int) = z
  by_cases c1 : m[i].1 = z
  · rw [if_pos (by simp [c1]), decide_eq_true c1]
    by_cases c2 : m[i].1 ≤ (C.length : Int)
    · rw [if_neg (by simp; omega), if_pos (by simp [c2])]
    · rw [if_pos (by simp; omega), if_neg (by simp [c2])]
  · rw [if_neg (by simp [c1]), decide_eq_false c1, if_neg (by simp)]
theorem allX_and {α : Type} {P Q : Nat → α → Bool} : ∀ {i : Nat} {l : List α}, allX (fun i x => P i x && Q i x) i l = (allX P i l && allX Q i l)
  | _, [] => rfl
  | i, x :: r => by
    unfold allX
    rw [allX_and]
    cases P i x <;> cases Q i x <;> simp
theorem fits_ref {v c : Nat} (hv : v ≤ c) {m : List VdT} (hm : m ≠ []) : allX (fun i (x : VdT) => decide (x.1 = ((v + 1 + i : Nat) : Int)) && decide (x.1 ≤ (c : Int))) 0 m = fitsB v (c - v) m := by
  have key : ∀ (m : List VdT) (i : Nat), allX (fun i (x : VdT) => decide (x.1 = ((v + 1 + i : Nat) : Int))) i m = true → (allX (fun i (x : VdT) => decide (x.1 ≤ (c : Int))) i m = true ↔ m = [] ∨ v + i + m.length ≤ c) := by
    intro m
    induction m with
    | nil => intro i _; simp [allX]
    | cons x r ih =>
      intro i h
      unfold allX at h ⊢
      simp only [Bool.and_eq_true, decide_eq_true_eq] at h ⊢
      rw [ih (i + 1) h.2, h.1]
      simp only [List.length_cons, reduceCtorEq, false_or]
      constructor
      · rintro ⟨h1, rfl | h2⟩
        · simp; omega
        · omega
      · intro h1
        refine ⟨by omega, ?_⟩
        right; omega
  rw [allX_and]
  unfold fitsB
  cases h : allX (fun i (x : VdT) => decide (x.1 = ((v + 1 + i : Nat) : Int))) 0 m with
  | false => rfl
  | true =>
    rw [Bool.true_and, Bool.true_and, Bool.eq_iff_iff, key m 0 h]
    have := List.length_pos_iff.2 hm
    simp only [Bool.and_eq_true, decide_eq_true_eq, hm, false_or]
    omega
theorem RDone_eq (h : σ.t_surmiseref25_Queue[x]? = some (a, C, V, ())) (hC : C.length ≤ 10000) (hV : V.length ≤ C.length) {m : List VdT} (hm : m.length ≤ 1048576) :
    f_surmiseref25_Queue_Done (some x) m σ = some (if vdsOK m = true then (if restV V.length m = [] then ((0, 0), putR σ x (a, C, V, ())) else if fitsB V.length (C.length - V.length) (restV V.length m) = true then (((((restV V.length m).length : Nat) : Int), 0), putR σ x (a, C, V ++ restV V.length m, ())) else ((0, 3), σ)) else ((0, 2), σ)) := by
  unfold f_surmiseref25_Queue_Done
  rw [verdictsR_eq (by omega)]
  simp only [Option.bind_some]
  by_cases hk : vdsOK m = true
  · rw [if_neg (by rw [hk]; simp), if_pos hk]
    have h1 := rdone_l0 h hm m.length 0 [] (by omega) (by simp)
    rw [show ((0 : Nat) : Int) = (0 : Int) from rfl, List.drop_zero, List.nil_append] at h1
    rw [h1]
    have hk' := hk
    rw [vdsOK_asc, Bool.and_eq_true] at hk'
    rw [← restV_filter hk'.1]
    have hrl := restV_len (n := V.length) (l := m)
    simp only [Option.bind_some, rdone_l1 h hC hV (m := restV V.length m) (by omega)]
    by_cases h0 : restV V.length m = []
    · rw [if_pos h0, h0]
      simp only [allX, if_true, Option.bind_some, sumO, h, List.nil_append, List.append_nil, Nat.zero_add]
      rw [if_pos (by omega), if_pos (by simp; omega)]
      rfl
    · rw [if_neg h0, fits_ref hV h0]
      by_cases hf : fitsB V.length (C.length - V.length) (restV V.length m) = true
      · rw [if_pos hf, if_pos hf]
        simp only [Option.bind_some, sumO, h, List.nil_append, Nat.zero_add]
        rw [if_pos (by omega), if_pos (by omega)]
        rfl
      · rw [if_neg hf, if_neg hf]; rfl
  · rw [if_pos (by simpa using hk), if_neg hk]
theorem RWaiting_eq (h : σ.t_surmiseref25_Queue[x]? = some (a, C, V, ())) (hV : V.length ≤ C.length) : f_surmiseref25_Queue_Waiting (some x) σ = some (C.drop V.length) := by
  unfold f_surmiseref25_Queue_Waiting
  simp only [Option.bind_some, h]
  rw [if_pos (by omega)]
  simp
end
end Go.Proofs.YtbnmhjobnepajaaGreat.M


namespace Go.Proofs.YtbnmhjobnepajaaGreat.M

theorem allX_true {α : Type} {P : Nat → α → Bool} : ∀ {i : Nat} {l : List α}, (∀ j x, x ∈ l → P j x = true) → allX P i l = true
  | _, [], _ => rfl
  | i, x :: r, h => by
    unfold allX
    rw [h i x List.mem_cons_self, allX_true fun j y hy => h j y (List.mem_cons_of_mem _ hy)]; rfl
theorem Ints_refl {l : List Int} (hl : l.length ≤ 1000000) : f_surmiseref01_Ints l l = some true := by
  unfold f_surmiseref01_Ints
  rw [if_neg (by simp), chk0 (l := l) (fun _ _ => true) (e := false) (fun i hi => ?_) (by unfold f_surmiseref01_Ints_l0; simp), allX_true (fun _ _ _ => rfl)]
  · rfl
  · unfold f_surmiseref01_Ints_l0
    simp only [wrap_nat (i := i) (by omega), ix_at hi, Option.bind_some]
    rw [if_pos (by simp; omega)]
    simp
theorem SameCmd_refl {c : CmdT} (hc : c.2.2.2.2.1.length ≤ 1000000) : f_surmiseref10_SameCmd c c = some true := by
  unfold f_surmiseref10_SameCmd
  simp [Ints_refl hc]
theorem SameCmds_refl {l : List CmdT} (hl : l.length ≤ 1000000) (h : ∀ c ∈ l, c.2.2.2.2.1.length ≤ 1000000) : f_surmiseref11_SameCmds l l = some true := by
  unfold f_surmiseref11_SameCmds
  rw [if_neg (by simp), chk0 (l := l) (fun _ _ => true) (e := false) (fun i hi => ?_) (by unfold f_surmiseref11_SameCmds_l0; simp), allX_true (fun _ _ _ => rfl)]
  · rfl
  · unfold f_surmiseref11_SameCmds_l0
    simp only [wrap_nat (i := i) (by omega), ix_at hi, Option.bind_some, SameCmd_refl (h _ (List.getElem_mem hi))]
    rw [if_pos (by simp; omega)]
    simp
theorem SameVerdicts_refl {l : List VdT} (hl : l.length ≤ 1000000) : f_surmiseref10_SameVerdicts l l = some true := by
  unfold f_surmiseref10_SameVerdicts
  rw [if_neg (by simp), chk0 (l := l) (fun _ _ => true) (e := false) (fun i hi => ?_) (by unfold f_surmiseref10_SameVerdicts_l0; simp), allX_true (fun _ _ _ => rfl)]
  · rfl
  · unfold f_surmiseref10_SameVerdicts_l0
    simp only [wrap_nat (i := i) (by omega), ix_at hi, Option.bind_some]
    rw [if_pos (by simp; omega)]
    simp

theorem waiting_loop {x1 : QuT} (hl : x1.2.2.1.length ≤ 1000000) (h : ∀ c ∈ x1.2.2.1, c.2.2.2.2.1.length ≤ 1000000) : ∀ (k i : Nat), i + k = x1.2.2.1.length →
    loopM (f_pending_Queue_Waiting_l0 x1) (x1.2.2.1.take i, (i : Int)) = some x1.2.2.1
  | 0, i, hi => by
    have : i = x1.2.2.1.length := by omega
    subst this
    rw [loopM_end (r := x1.2.2.1) (by unfold f_pending_Queue_Waiting_l0; simp)]
  | k + 1, i, hi => by
    have hlt : i < x1.2.2.1.length := by omega
    have := h _ (List.getElem_mem hlt)
    rw [loopM_go (y := (x1.2.2.1.take (i + 1), ((i + 1 : Nat) : Int))) (by
      unfold f_pending_Queue_Waiting_l0
      simp only [wrap_nat (i := i) (by omega), ix_at hlt, Option.bind_some, Nat.zero_add, List.nil_append]
      rw [if_pos (by simp; omega), if_pos (by omega), if_pos (by simp; omega), List.take_succ_eq_append_getElem hlt]), waiting_loop hl h k (i + 1) (by omega)]

section
variable {σ : St} {q l d n0 x : Nat} {a : Int} {A : AD} {js : List Nat} {segs : List Sg} {R : List (List UInt8)} {C : List CmdT} {V : List VdT}
theorem QS.waiting (h : QS σ q l d n0 a A js segs R C V) (hR : R.length ≤ 10000) : f_pending_Queue_Waiting (some q) σ = some (C.drop V.length) := by
  obtain ⟨b1, b2⟩ := h.pl.len
  unfold f_pending_Queue_Waiting
  rw [if_neg (by simp)]
  have := waiting_loop (x1 := (a, some l, C.drop V.length, V, ())) (by simp; omega) (fun c hc => by
    have := (cmdOK_parts (h.pl.each c (List.mem_of_mem_drop hc)).1).2.2.2.2.2.1
    omega) (C.drop V.length).length 0 (by simp)
  rw [List.take_zero, show ((0 : Nat) : Int) = (0 : Int) from rfl] at this
  simp only [Option.bind_some, h.qo, this]
theorem Plays.vlen {R : List (List UInt8)} (h : Plays a R C V) : V.length ≤ R.length := by have := h.len; omega
theorem QS.notices (h : QS σ q l d n0 a A js segs R C V) (hR : R.length ≤ 10000) : f_pending_Queue_Notices (some q) σ = some V := by
  have := h.pl.vlen
  unfold f_pending_Queue_Notices
  rw [if_neg (by simp)]
  simp only [Option.bind_some, h.qo, List.nil_append, Nat.zero_add]
  rw [if_pos (by omega)]
theorem same_true (h : QS σ q l d n0 a A js segs R C V) (hR : R.length ≤ 10000) {b : Int} (hx : σ.t_surmiseref25_Queue[x]? = some (b, C, V, ())) : f_surmiselaw25_same (some q) (some x) σ = some true := by
  obtain ⟨b1, b2⟩ := h.pl.len
  unfold f_surmiselaw25_same
  rw [h.waiting hR, RWaiting_eq hx b2]
  simp only [Option.bind_some]
  rw [SameCmds_refl (by simp; omega) (fun c hc => by
    have := (cmdOK_parts (h.pl.each c (List.mem_of_mem_drop hc)).1).2.2.2.2.2.1
    omega), h.notices hR]
  simp only [Option.bind_some, if_true, hx, SameVerdicts_refl (l := V) (by omega), h.first hR, h.next hR, wrap_nat (i := V.length) (by omega), wrap_nat (i := C.length) (by omega), beq_self_eq_true]

theorem first_loop (h : QS σ q l d n0 a A js segs R C V) (hR : R.length ≤ 10000) (n : Int) : ∀ (k i : Nat) (acc : List VdT), i + k = 40 → acc.length = i → (∀ v ∈ acc, I64 v.1 ∧ I64 v.2.1) →
    ∃ v, loopM (f_surmiselaw25_first_l0 (some q) n σ) (acc, (i : Int)) = some v ∧ v.length ≤ 40 ∧ ∀ y ∈ v, I64 y.1 ∧ I64 y.2.1
  | k, i, acc, hi, ha, hv => by
    obtain ⟨b1, b2⟩ := h.pl.len
    have e1 : IntKind.wrap .i64 (((V.length + 1 : Nat) : Int) + (i : Int)) = ((V.length + 1 + i : Nat) : Int) := by rw [wrap_id (by omega) (by omega)]; omega
    have hb : f_surmiselaw25_first_l0 (some q) n σ (acc, (i : Int)) = if ((i : Int) < n ∧ i < 40) ∧ V.length + 1 + i < C.length + 1 then some (.inl (acc ++ [(((V.length + 1 + i : Nat) : Int), 0, ())], ((i + 1 : Nat) : Int))) else some (.inr acc) := by
      unfold f_surmiselaw25_first_l0
      simp only [h.first hR, h.next hR]
      by_cases c : (i : Int) < n ∧ i < 40
      · have c' : (decide ((i : Int) < n) && decide ((i : Int) < 40)) = true := by simp; omega
        simp only [c', if_true, Option.bind_some, e1, Bool.true_and]
        by_cases c2 : V.length + 1 + i < C.length + 1
        · rw [if_pos (by simp; omega), if_pos (by omega), if_pos ⟨c, c2⟩, wrap_nat (by omega)]
        · rw [if_neg (by simp; omega), if_neg (fun hh => c2 hh.2)]
      · have c' : (decide ((i : Int) < n) && decide ((i : Int) < 40)) = false := by
          rw [Bool.eq_false_iff]; simp; omega
        simp only [c', Bool.false_eq_true, if_false, Option.bind_some, Bool.false_and]
        rw [if_neg (fun hh => c hh.1)]
    by_cases c : ((i : Int) < n ∧ i < 40) ∧ V.length + 1 + i < C.length + 1
    · rw [if_pos c] at hb
      rw [loopM_go hb]
      cases k with
      | zero => omega
      | succ k =>
        refine first_loop h hR n k (i + 1) _ (by omega) (by simp [ha]) (fun v hm => ?_)
        rcases List.mem_append.1 hm with hm | hm
        · exact hv v hm
        · simp only [List.mem_singleton] at hm
          subst hm
          exact ⟨⟨by omega, by omega⟩, by show (-9223372036854775808 : Int) ≤ 0; decide, by show (0 : Int) < 9223372036854775808; decide⟩
    · rw [if_neg c] at hb
      rw [loopM_end hb]
      exact ⟨acc, rfl, by omega, hv⟩
theorem first_ex (h : QS σ q l d n0 a A js segs R C V) (hR : R.length ≤ 10000) (n : Int) : ∃ v, f_surmiselaw25_first (some q) n σ = some v ∧ v.length ≤ 40 ∧ ∀ y ∈ v, I64 y.1 ∧ I64 y.2.1 := by
  obtain ⟨v, h1, h2⟩ := first_loop h hR n 40 0 [] (by omega) rfl (by simp)
  refine ⟨v, ?_, h2⟩
  unfold f_surmiselaw25_first
  rw [show (0 : Int) = ((0 : Nat) : Int) from rfl, h1]; rfl
end
end Go.Proofs.YtbnmhjobnepajaaGreat.M


namespace Go.Proofs.YtbnmhjobnepajaaGreat.M

section
variable {σ σ1 : St} {q l d n0 : Nat} {a : Int} {A : AD} {js : List Nat} {segs : List Sg} {R : List (List UInt8)} {C : List CmdT} {V : List VdT}
def newQ (σ1 : St) (a : Int) (l : Nat) : St := ((σ1.set_pending_Queue (σ1.t_pending_Queue ++ [(a, some l, [], [], ())])).set_c_t27 (σ1.t_c_t27 ++ [(none, ())])).set_c_t27 ((σ1.t_c_t27 ++ [(none, ())]).set σ1.t_c_t27.length (some σ1.t_pending_Queue.length, ()))
theorem newQ_q : (newQ σ1 a l).t_pending_Queue[σ1.t_pending_Queue.length]? = some (a, some l, [], [], ()) := by
  show (σ1.t_pending_Queue ++ [(a, some l, [], [], ())])[σ1.t_pending_Queue.length]? = _
  simp
theorem newQ_c : (newQ σ1 a l).t_c_t27[σ1.t_c_t27.length]? = some (some σ1.t_pending_Queue.length, ()) := by
  show ((σ1.t_c_t27 ++ [(none, ())]).set σ1.t_c_t27.length (some σ1.t_pending_Queue.length, ()))[σ1.t_c_t27.length]? = _
  simp
structure Oq (σ1 σ' : St) : Prop where
  dd : σ'.t_disk_Disk = σ1.t_disk_Disk
  df : σ'.t_disk_file = σ1.t_disk_file
  wl : σ'.t_wal_Log = σ1.t_wal_Log
  ws : σ'.t_wal_segment = σ1.t_wal_segment
  rq : σ'.t_surmiseref25_Queue = σ1.t_surmiseref25_Queue
  qs : ∀ i, i < σ1.t_pending_Queue.length → σ'.t_pending_Queue[i]? = σ1.t_pending_Queue[i]?
  ql : σ1.t_pending_Queue.length < σ'.t_pending_Queue.length
theorem Oq.of {σ' : St} {y : QuT} (h : Rp (newQ σ1 a l) σ' σ1.t_pending_Queue.length y) : Oq σ1 σ' := by
  have e : ∀ {α : Type} (f : St → α), f σ'.base = f (newQ σ1 a l).base := fun f => by rw [h.o]
  refine ⟨e St.t_disk_Disk, e St.t_disk_file, e St.t_wal_Log, e St.t_wal_segment, e St.t_surmiseref25_Queue, fun i hi => ?_, ?_⟩
  · rw [h.q]
    show ((σ1.t_pending_Queue ++ [(a, some l, [], [], ())]).set σ1.t_pending_Queue.length y)[i]? = _
    rw [List.getElem?_set_ne (by omega), List.getElem?_append_left hi]
  · rw [h.q]
    show _ < ((σ1.t_pending_Queue ++ [(a, some l, [], [], ())]).set σ1.t_pending_Queue.length y).length
    simp

theorem open_is (ha0 : 0 ≤ a) (ha5 : a ≤ 5) (h53 : f53 (some d) nmL 2048 σ = some ((some l, 0), σ1)) (h : WR σ1 l d n0 A js segs R) : f_pending_Open (some d) a σ =
    Option.bind (loopM (f_pending_Open_l0 ((some l, 0), σ1) (R.length : Int)) (0, newQ σ1 a l)) fun x7 => sumO x7 (fun x8 => Option.bind x8.t_c_t27[σ1.t_c_t27.length]? fun x9 => some ((x9.1, 0), x8)) Option.some := by
  unfold f_pending_Open
  have hG : LG (newQ σ1 a l) l d 2048 js segs (nextS segs) := h.ws.lg.same2 rfl rfl
  have hl := h.ws.len
  rw [if_neg (by simp), if_neg (by simp; omega), eq_53]
  show Option.bind (f53 (some d) nmL 2048 σ) _ = _
  rw [h53]
  simp only [Option.bind_some]
  rw [if_neg (by decide)]
  have e1 : (σ1.t_c_t27 ++ [(none, ())])[σ1.t_c_t27.length]? = some (none, ()) := by simp
  simp only [e1, Option.bind_some]
  show Option.bind (f_wal_Log_First (some l) (newQ σ1 a l)) _ = _
  rw [eq_54, f54_eq hG, h.f0]
  simp only [Option.bind_some]
  rw [if_neg (by decide)]
  show Option.bind (f_wal_Log_Next (some l) (newQ σ1 a l)) _ = _
  rw [eq_55, f55_eq hG h.ws.good (by omega), h.nx]
  rfl
theorem open_queue (ha0 : 0 ≤ a) (ha5 : a ≤ 5) (h53 : f53 (some d) nmL 2048 σ = some ((some l, 0), σ1)) (h : WR σ1 l d n0 A js segs R) (hR : R.length ≤ 10000) (hp : Plays a R C V) (hw : C.length - V.length ≤ 32) :
    ∃ σ', f_pending_Open (some d) a σ = some ((some σ1.t_pending_Queue.length, 0), σ') ∧ QS σ' σ1.t_pending_Queue.length l d n0 a A js segs R C V ∧ Oq σ1 σ' := by
  have hG : LG (newQ σ1 a l) l d 2048 js segs (nextS segs) := h.ws.lg.same2 rfl rfl
  obtain ⟨σ', e1, e2⟩ := replay (σ := newQ σ1 a l) (x0 := ((some l, 0), σ1)) (n := R.length) (Rall := R) rfl newQ_c newQ_q hG h.ws.good (by have := h.ws.len; omega) h.sub h.f0 h.nx rfl (by omega) hp [] (by simp)
  rw [open_is ha0 ha5 h53 h, e1, loopM_end (r := .inl σ') (by unfold f_pending_Open_l0; simp)]
  have hc : σ'.t_c_t27[σ1.t_c_t27.length]? = some (some σ1.t_pending_Queue.length, ()) := by
    show σ'.base.t_c_t27[σ1.t_c_t27.length]? = _
    rw [e2.o]; exact newQ_c (a := a) (l := l)
  have ho := Oq.of e2
  refine ⟨σ', by simp only [Option.bind_some, sumO, hc], ⟨h.same ho.dd ho.df ho.wl ho.ws, e2.get newQ_q, hp, hw⟩, ho⟩
theorem open_new (ha0 : 0 ≤ a) (ha5 : a ≤ 5) (hD : DV σ d n0 A) (hA : OkA A) (hd : downA A = false) (hL : A.2.1 = []) :
    ∃ σ1 σ' l, f_pending_Open (some d) a σ = some ((some σ1.t_pending_Queue.length, 0), σ') ∧ l = σ.t_wal_Log.length ∧ QS σ' σ1.t_pending_Queue.length l d n0 a A [] [] [] [] [] ∧ Oq σ1 σ' ∧ Fw σ σ1 d n0 ∧ ExW σ σ1 l := by
  obtain ⟨σ1, g1, g2, g3, g4, g5⟩ := open_none hD hA hd hL (most := 2048) (by decide) (by decide)
  have hw : WR σ1 σ.t_wal_Log.length d n0 A [] [] [] := ⟨WS.new g4 hA hL g5, rfl, by simp, rfl, hd⟩
  obtain ⟨σ', k1, k2, k3⟩ := open_queue ha0 ha5 g1 hw (by simp) .nil (by simp)
  exact ⟨σ1, σ', _, k1, rfl, k2, k3, g2, g3⟩
end
end Go.Proofs.YtbnmhjobnepajaaGreat.M


namespace Go.Proofs.YtbnmhjobnepajaaGreat.M

structure Low (σ0 σ : St) : Prop where
  dd : ∀ i, i < σ0.t_disk_Disk.length → σ.t_disk_Disk[i]? = σ0.t_disk_Disk[i]?
  df : ∀ i, i < σ0.t_disk_file.length → σ.t_disk_file[i]? = σ0.t_disk_file[i]?
  wl : ∀ i, i < σ0.t_wal_Log.length → σ.t_wal_Log[i]? = σ0.t_wal_Log[i]?
  ws : ∀ i, i < σ0.t_wal_segment.length → σ.t_wal_segment[i]? = σ0.t_wal_segment[i]?
  qs : ∀ i, i < σ0.t_pending_Queue.length → σ.t_pending_Queue[i]? = σ0.t_pending_Queue[i]?
  ld : σ0.t_disk_Disk.length ≤ σ.t_disk_Disk.length
  lf : σ0.t_disk_file.length ≤ σ.t_disk_file.length
  ll : σ0.t_wal_Log.length ≤ σ.t_wal_Log.length
  ls : σ0.t_wal_segment.length ≤ σ.t_wal_segment.length
  lq : σ0.t_pending_Queue.length ≤ σ.t_pending_Queue.length
theorem at_of {α : Type} {l : List α} {i : Nat} {x : α} (h : l[i]? = some x) : i < l.length := (List.getElem?_eq_some_iff.1 h).1

section
variable {σ σ0 σ1 : St} {q l d n0 : Nat} {a : Int} {A : AD} {js : List Nat} {segs : List Sg} {R : List (List UInt8)} {C : List CmdT} {V : List VdT}
theorem DV.low (h : DV σ d n0 A) (hk : Low σ σ1) : DV σ1 d n0 A := by
  obtain ⟨o, qs, a1, a2, a3, a4, a5, a6, a7, a8, a9⟩ := h
  refine ⟨o, qs, ?_, a2, a3, a4, a5, a6, a7, fun q hq => ?_, Nat.le_trans a9 hk.lf⟩
  · rw [hk.dd d (at_of a1)]; exact a1
  · obtain ⟨b1, b2⟩ := a8 q hq
    exact ⟨by rw [hk.df _ (at_of b1)]; exact b1, b2⟩
theorem LG.low {most : Int} {safe : Nat} (h : LG σ l d most js segs safe) (hk : Low σ σ1) : LG σ1 l d most js segs safe := by
  refine ⟨by rw [hk.wl l (at_of h.lo)]; exact h.lo, h.nd, h.lie.imp2 (fun j _ g hg => ?_)⟩
  have hg' : σ.t_wal_segment[j]? = _ := hg
  show σ1.t_wal_segment[j]? = _
  rw [hk.ws j (at_of hg')]; exact hg'
theorem QS.low (h : QS σ q l d n0 a A js segs R C V) (hk : Low σ σ1) : QS σ1 q l d n0 a A js segs R C V := by
  obtain ⟨⟨⟨a1, a2, a3, a4, a5, a6, a7⟩, b1, b2, b3, b4⟩, c1, c2, c3⟩ := h
  exact ⟨⟨⟨a1.low hk, a2.low hk, a3, a4, a5, a6, a7⟩, b1, b2, b3, b4⟩, by rw [hk.qs q (at_of c1)]; exact c1, c2, c3⟩

structure Abv (σ0 : St) (q l d n0 : Nat) (js : List Nat) : Prop where
  d : σ0.t_disk_Disk.length ≤ d
  f : σ0.t_disk_file.length ≤ n0
  l : σ0.t_wal_Log.length ≤ l
  s : ∀ j ∈ js, σ0.t_wal_segment.length ≤ j
  q : σ0.t_pending_Queue.length ≤ q
theorem hasJ.same {js' : List Nat} (h : hasJ σ l js) (h' : hasJ σ l js') : js = js' := by
  obtain ⟨o, a, b⟩ := h
  obtain ⟨o', a', b'⟩ := h'
  rw [a] at a'; simp only [Option.some.injEq] at a'; subst a'
  rw [b] at b'
  exact (List.map_inj_right (fun a b h => by simpa using h)).1 b'
theorem Low.call (h : Low σ0 σ) (ha : Abv σ0 q l d n0 js) (hf : Fw σ σ1 d n0) (hj : JsOut σ σ1 l js) {js' : List Nat} (hj' : hasJ σ1 l js') : Low σ0 σ1 ∧ Abv σ0 q l d n0 js' := by
  obtain ⟨w, js2, k1, k2⟩ := hj
  have := hasJ.same k1 hj'
  subst this
  refine ⟨⟨fun i hi => ?_, fun i hi => ?_, fun i hi => ?_, fun i hi => ?_, fun i hi => ?_, ?_, ?_, ?_, ?_, ?_⟩, ⟨ha.d, ha.f, ha.l, fun j hj => ?_, ha.q⟩⟩
  · rw [hf.t_disk_Disk i (by have := ha.d; omega) (by have := h.ld; omega)]; exact h.dd i hi
  · rw [hf.t_disk_file i (by have := ha.f; omega)]; exact h.df i hi
  · rw [w.lg i (by have := ha.l; omega)]; exact h.wl i hi
  · rw [w.sg i (fun hm => by have := ha.s i hm; omega) (by have := h.ls; omega)]; exact h.ws i hi
  · rw [hf.queue]; exact h.qs i hi
  · have := h.ld; have := hf.l105; omega
  · have := h.lf; have := hf.l108; omega
  · rw [w.ll]; exact h.ll
  · have := h.ls; have := w.sl; omega
  · rw [hf.queue]; exact h.lq
  · rcases k2 j hj with h' | h'
    · exact ha.s j h'
    · have := h.ls; omega
theorem Low.putQ (h : Low σ0 σ) (hq : σ0.t_pending_Queue.length ≤ q) (y : QuT) : Low σ0 (putQ σ q y) := by
  obtain ⟨a1, a2, a3, a4, a5, a6, a7, a8, a9, a10⟩ := h
  refine ⟨a1, a2, a3, a4, fun i hi => ?_, a6, a7, a8, a9, ?_⟩
  · show (σ.t_pending_Queue.set q y)[i]? = _
    rw [List.getElem?_set_ne (by omega)]; exact a5 i hi
  · show _ ≤ (σ.t_pending_Queue.set q y).length
    rw [List.length_set]; exact a10

structure QA (σ0 σ : St) (q l d n0 : Nat) (a : Int) (R : List (List UInt8)) (C : List CmdT) (V : List VdT) (A : AD) (js : List Nat) (segs : List Sg) (k : Nat) : Prop where
  qs : QS σ q l d n0 a A js segs R C V
  low : Low σ0 σ
  abv : Abv σ0 q l d n0 js
  arm : armA0 A = 0
  room : A.1 = 1048576
  lr : R.length ≤ k
  ls : segs.length ≤ k
  sz : szS segs ≤ 725 * k
theorem QA.over {k : Nat} (h : QA σ0 σ q l d n0 a R C V A js segs k) (hk : k ≤ 80) {x : List UInt8} (hx : x.length ≤ 1024) : ¬ Over A segs x := by
  have h1 := h.room
  have h2 := h.ls
  have h3 := h.sz
  unfold Over
  rw [h1]
  omega
theorem QA.wout {k : Nat} (h : QA σ0 σ q l d n0 a R C V A js segs k) (hk : k ≤ 80) {x : List UInt8} (hx : x.length ≤ 1024) {e : Int} {B : AD} {segs' : List Sg} (ho : WOut σ q l d n0 A js segs R x e σ1 B segs') :
    e = 0 ∧ More segs x segs' ∧ ∃ js', WR σ1 l d n0 B js' segs' (R ++ [x]) ∧ Low σ0 σ1 ∧ Abv σ0 q l d n0 js' ∧ armA0 B = 0 ∧ B.1 = 1048576 := by
  rcases ho.out with ⟨rfl, o1, js', o2⟩ | ⟨rfl, _, o, _⟩ | ⟨rfl, o, _⟩
  · obtain ⟨k1, k2⟩ := h.low.call h.abv ho.fw ho.js o2.ws.lg.hasJ
    exact ⟨rfl, o1, js', o2, k1, k2, ho.arm h.arm, ho.room.trans h.room⟩
  · exact absurd o (h.over hk hx)
  · exact absurd h.arm o
theorem QA.submit {k : Nat} (h : QA σ0 σ q l d n0 a R C V A js segs k) (hk : k ≤ 80) {st : List UInt8} {rule ex : Int} {args : List Int} (hf : CmdFit (a, ((C.length + 1 : Nat) : Int), st, rule, args, ex, ())) :
    ∃ r σ' A' js' segs', f_pending_Queue_Submit (some q) st rule args ex σ = some (r, σ') ∧ σ'.t_surmiseref25_Queue = σ.t_surmiseref25_Queue ∧
      ((cmdOK (a, ((C.length + 1 : Nat) : Int), st, rule, args, ex, ()) = false ∧ r = (0, 2) ∧ QA σ0 σ' q l d n0 a R C V A' js' segs' (k + 1)) ∨
       (cmdOK (a, ((C.length + 1 : Nat) : Int), st, rule, args, ex, ()) = true ∧ 32 ≤ C.length - V.length ∧ r = (0, 10) ∧ QA σ0 σ' q l d n0 a R C V A' js' segs' (k + 1)) ∨
       (cmdOK (a, ((C.length + 1 : Nat) : Int), st, rule, args, ex, ()) = true ∧ C.length - V.length < 32 ∧ r = (((C.length + 1 : Nat) : Int), 0) ∧
         QA σ0 σ' q l d n0 a (R ++ [recC (a, ((C.length + 1 : Nat) : Int), st, rule, args, ex, ())]) (C ++ [(a, ((C.length + 1 : Nat) : Int), st, rule, args, ex, ())]) V A' js' segs' (k + 1))) := by
  have hlr := h.lr
  have hls := h.ls
  have hsz := h.sz
  have stay : QA σ0 σ q l d n0 a R C V A js segs (k + 1) := ⟨h.qs, h.low, h.abv, h.arm, h.room, by omega, by omega, by omega⟩
  obtain ⟨r, σ', e1, e2⟩ := Submit_out h.qs (by omega) (by omega) hf
  cases e2 with
  | bad hc => exact ⟨_, _, A, js, segs, e1, rfl, .inl ⟨hc, rfl, stay⟩⟩
  | full hc hw => exact ⟨_, _, A, js, segs, e1, rfl, .inr (.inl ⟨hc, hw, rfl, stay⟩)⟩
  | fail hc hw ho he =>
    have := (layC_len hc).1
    exact absurd (h.wout hk (by unfold recC; rw [List.length_cons]; omega) ho).1 he
  | ok hc hw ho =>
    have hl := (layC_len hc).1
    have hrl : (recC (a, ((C.length + 1 : Nat) : Int), st, rule, args, ex, ())).length ≤ 201 := by unfold recC; rw [List.length_cons]; omega
    obtain ⟨-, o1, js', o2, o3, o4, o5, o6⟩ := h.wout hk (by omega) ho
    refine ⟨_, _, _, js', _, e1, ho.fw.ref, .inr (.inr ⟨hc, hw, rfl, h.qs.after_cmd o2 ho.fw.queue hc rfl rfl hw, o3.putQ h.abv.q _, o4, o5, o6, by simp; omega, ?_, ?_⟩)⟩
    · have := o1.len; omega
    · have := o1.sz; omega
theorem QA.done {k : Nat} (h : QA σ0 σ q l d n0 a R C V A js segs k) (hk : k ≤ 80) {m : List VdT} (hm : ∀ v ∈ m, I64 v.1 ∧ I64 v.2.1) (hml : m.length ≤ 1048576) :
    ∃ r σ' A' js' segs', f_pending_Queue_Done (some q) m σ = some (r, σ') ∧ σ'.t_surmiseref25_Queue = σ.t_surmiseref25_Queue ∧
      ((vdsOK m = false ∧ r = (0, 2) ∧ QA σ0 σ' q l d n0 a R C V A' js' segs' (k + 1)) ∨
       (vdsOK m = true ∧ restV V.length m = [] ∧ r = (0, 0) ∧ QA σ0 σ' q l d n0 a R C V A' js' segs' (k + 1)) ∨
       (vdsOK m = true ∧ restV V.length m ≠ [] ∧ fitsB V.length (C.length - V.length) (restV V.length m) = false ∧ r = (0, 3) ∧ QA σ0 σ' q l d n0 a R C V A' js' segs' (k + 1)) ∨
       (vdsOK m = true ∧ restV V.length m ≠ [] ∧ fitsB V.length (C.length - V.length) (restV V.length m) = true ∧ r = ((((restV V.length m).length : Nat) : Int), 0) ∧
         QA σ0 σ' q l d n0 a (R ++ [recV (restV V.length m)]) C (V ++ restV V.length m) A' js' segs' (k + 1))) := by
  have hlr := h.lr
  have hls := h.ls
  have hsz := h.sz
  have stay : QA σ0 σ q l d n0 a R C V A js segs (k + 1) := ⟨h.qs, h.low, h.abv, h.arm, h.room, by omega, by omega, by omega⟩
  obtain ⟨r, σ', e1, e2⟩ := Done_out h.qs (by omega) (by omega) hm hml
  cases e2 with
  | bad hc => exact ⟨_, _, A, js, segs, e1, rfl, .inl ⟨hc, rfl, stay⟩⟩
  | none hc h0 => exact ⟨_, _, A, js, segs, e1, rfl, .inr (.inl ⟨hc, h0, rfl, stay⟩)⟩
  | range hc h0 hf => exact ⟨_, _, A, js, segs, e1, rfl, .inr (.inr (.inl ⟨hc, h0, hf, rfl, stay⟩))⟩
  | fail hc hf ho he =>
    have := (layV_len (restV_vds (n := V.length) hc)).1
    exact absurd (h.wout hk (by unfold recV; rw [List.length_cons]; omega) ho).1 he
  | ok hc hf ho =>
    have hl := (layV_len (restV_vds (n := V.length) hc)).1
    have hrl : (recV (restV V.length m)).length ≤ 701 := by unfold recV; rw [List.length_cons]; omega
    obtain ⟨-, o1, js', o2, o3, o4, o5, o6⟩ := h.wout hk (by omega) ho
    refine ⟨_, _, _, js', _, e1, ho.fw.ref, .inr (.inr (.inr ⟨hc, fun h0 => by have := (fitsB_len hf).1; rw [h0] at this; simp at this, hf, rfl, h.qs.after_vds o2 ho.fw.queue (restV_vds hc) hf, o3.putQ h.abv.q _, o4, o5, o6, by simp; omega, ?_, ?_⟩))⟩
    · have := o1.len; omega
    · have := o1.sz; omega
end
end Go.Proofs.YtbnmhjobnepajaaGreat.M


namespace Go.Proofs.YtbnmhjobnepajaaGreat.M

section
variable {σ σ0 σ1 σ2 : St} {q l d n0 : Nat} {a : Int} {A : AD} {js : List Nat} {segs : List Sg} {R : List (List UInt8)} {C : List CmdT} {V : List VdT}
theorem Low.trans (h1 : Low σ0 σ1) (h2 : Low σ1 σ2) : Low σ0 σ2 := by
  refine ⟨fun i hi => ?_, fun i hi => ?_, fun i hi => ?_, fun i hi => ?_, fun i hi => ?_, Nat.le_trans h1.ld h2.ld, Nat.le_trans h1.lf h2.lf, Nat.le_trans h1.ll h2.ll, Nat.le_trans h1.ls h2.ls, Nat.le_trans h1.lq h2.lq⟩
  · rw [h2.dd i (Nat.lt_of_lt_of_le hi h1.ld)]; exact h1.dd i hi
  · rw [h2.df i (Nat.lt_of_lt_of_le hi h1.lf)]; exact h1.df i hi
  · rw [h2.wl i (Nat.lt_of_lt_of_le hi h1.ll)]; exact h1.wl i hi
  · rw [h2.ws i (Nat.lt_of_lt_of_le hi h1.ls)]; exact h1.ws i hi
  · rw [h2.qs i (Nat.lt_of_lt_of_le hi h1.lq)]; exact h1.qs i hi
theorem Low.disk (x : denFs fs_disk_Disk) : Low σ (σ.add_disk_Disk x) :=
  ⟨fun i hi => List.getElem?_append_left hi, fun _ _ => rfl, fun _ _ => rfl, fun _ _ => rfl, fun _ _ => rfl, by show _ ≤ (σ.t_disk_Disk ++ [x]).length; simp, Nat.le_refl _, Nat.le_refl _, Nat.le_refl _, Nat.le_refl _⟩
theorem Low.open (h : Low σ0 σ) (hd : σ0.t_disk_Disk.length ≤ d) (hn : σ0.t_disk_file.length ≤ n0) (hl : σ0.t_wal_Log.length ≤ l) (hf : Fw σ σ1 d n0) (he : ExW σ σ1 l) : Low σ0 σ1 := by
  refine ⟨fun i hi => ?_, fun i hi => ?_, fun i hi => ?_, fun i hi => ?_, fun i hi => ?_, ?_, ?_, ?_, ?_, ?_⟩
  · rw [hf.t_disk_Disk i (by omega) (by have := h.ld; omega)]; exact h.dd i hi
  · rw [hf.t_disk_file i (by omega)]; exact h.df i hi
  · rw [he.t_wal_Log i (by omega) (by have := h.ll; omega)]; exact h.wl i hi
  · rw [he.t_wal_segment i (by have := h.ls; omega)]; exact h.ws i hi
  · rw [hf.queue]; exact h.qs i hi
  · have := h.ld; have := hf.l105; omega
  · have := h.lf; have := hf.l108; omega
  · have := h.ll; have := he.l128; omega
  · have := h.ls; have := he.l130; omega
  · rw [hf.queue]; exact h.lq
theorem Low.opened (h : Low σ0 σ1) (ho : Oq σ1 σ2) : Low σ0 σ2 := by
  refine h.trans ⟨fun i _ => by rw [ho.dd], fun i _ => by rw [ho.df], fun i _ => by rw [ho.wl], fun i _ => by rw [ho.ws], ho.qs, by rw [ho.dd]; exact Nat.le_refl _, by rw [ho.df]; exact Nat.le_refl _, by rw [ho.wl]; exact Nat.le_refl _, by rw [ho.ws]; exact Nat.le_refl _, by have := ho.ql; omega⟩

theorem start (σ : St) (ha0 : 0 ≤ a) (ha5 : a ≤ 5) {room : Int} (hr0 : 0 ≤ room) (hr1 : room ≤ 1048576) : ∃ σa, f_disk_New room σ = some ((some σ.t_disk_Disk.length, 0), σa) ∧ DV σa σ.t_disk_Disk.length σ.t_disk_file.length (room, [], 0, false, ()) ∧ OkA (room, [], 0, false, ()) ∧ Low σ σa ∧ σa.t_surmiseref25_Queue = σ.t_surmiseref25_Queue := by
  obtain ⟨e1, e2, e3⟩ := f18_eq (σ := σ) hr0 hr1
  refine ⟨_, ?_, e2, e3, Low.disk _, rfl⟩
  rw [eq_18]; exact e1
theorem QA.start (σ : St) (ha0 : 0 ≤ a) (ha5 : a ≤ 5) : ∃ σa σ2 q l A, f_disk_New 1048576 σ = some ((some σ.t_disk_Disk.length, 0), σa) ∧ f_pending_Open (some σ.t_disk_Disk.length) a σa = some ((some q, 0), σ2) ∧
    QA σ σ2 q l σ.t_disk_Disk.length σ.t_disk_file.length a [] [] [] A [] [] 0 ∧ σ2.t_surmiseref25_Queue = σ.t_surmiseref25_Queue := by
  obtain ⟨σa, e1, e2, e3, e4, e5⟩ := M.start σ ha0 ha5 (room := 1048576) (by decide) (by decide)
  obtain ⟨σ1, σ2, l, g1, rfl, g2, g3, g4, g5⟩ := open_new ha0 ha5 e2 e3 rfl rfl
  have hl : σ.t_wal_Log.length ≤ σa.t_wal_Log.length := e4.ll
  have h1 := e4.open (Nat.le_refl _) (Nat.le_refl _) hl g4 g5
  exact ⟨σa, σ2, _, _, _, e1, g1, ⟨g2, h1.opened g3, ⟨Nat.le_refl _, Nat.le_refl _, hl, by simp, h1.lq⟩, rfl, rfl, by simp, by simp, by simp [szS]⟩, g3.rq.trans (g4.ref.trans e5)⟩

theorem awake_eq (σ : St) : ∃ σ', f_surmiselaw25_awake σ = some (true, σ') ∧ Low σ σ' ∧ σ'.t_surmiseref25_Queue = σ.t_surmiseref25_Queue := by
  obtain ⟨σa, σ2, q, l, A, e1, e2, h0, e3⟩ := QA.start (a := 1) σ (by decide) (by decide)
  have fit : ∀ (n : Nat) (args : List Int), n < 100 → (∀ y ∈ args, y = 5) → args.length ≤ 1 → CmdFit (1, ((n + 1 : Nat) : Int), [97], 0, args, -1, ()) := fun n args hn hy hl =>
    ⟨by show I64 1; exact ⟨by decide, by decide⟩, I64_nat (by omega), by show (1 : Nat) < _; decide, by show I64 0; exact ⟨by decide, by decide⟩, fun y hm => by rw [hy y hm]; exact ⟨by decide, by decide⟩, by show args.length ≤ _; omega, by show I64 (-1); exact ⟨by decide, by decide⟩⟩
  obtain ⟨r1, s1, A1, js1, segs1, u1, v1, c1⟩ := h0.submit (by decide) (fit 0 [5] (by decide) (by simp) (by simp))
  rcases c1 with ⟨c, _⟩ | ⟨_, c, _⟩ | ⟨_, _, rfl, h1⟩
  · exact absurd c (by decide)
  · exact absurd c (by decide)
  obtain ⟨r2, s2, A2, js2, segs2, u2, v2, c2⟩ := h1.submit (by decide) (fit 1 [] (by decide) (by simp) (by simp))
  rcases c2 with ⟨c, _⟩ | ⟨_, c, _⟩ | ⟨_, _, rfl, h2⟩
  · exact absurd c (by decide)
  · exact absurd c (by decide)
  have hv : ∀ v ∈ [((1 : Int), ((0 : Int), ()))], I64 v.1 ∧ I64 v.2.1 := by
    intro v hv
    simp only [List.mem_singleton] at hv
    subst hv
    exact ⟨⟨by decide, by decide⟩, by decide, by decide⟩
  obtain ⟨r3, s3, A3, js3, segs3, u3, v3, c3⟩ := h2.done (by decide) hv (by simp)
  rcases c3 with ⟨c, _⟩ | ⟨_, c, _⟩ | ⟨_, _, c, _⟩ | ⟨_, _, _, rfl, h3⟩
  · exact absurd c (by decide)
  · exact absurd c (by decide)
  · exact absurd c (by decide)
  obtain ⟨r4, s4, A4, js4, segs4, u4, v4, c4⟩ := h3.done (by decide) hv (by simp)
  rcases c4 with ⟨c, _⟩ | ⟨_, _, rfl, h4⟩ | ⟨_, c, _⟩ | ⟨_, c, _⟩
  · exact absurd c (by decide)
  · refine ⟨s4, ?_, h4.low, v4.trans (v3.trans (v2.trans (v1.trans e3)))⟩
    unfold f_surmiselaw25_awake
    have lr := h4.lr
    rw [e1]
    simp only [Option.bind_some]
    rw [e2]
    simp only [Option.bind_some]
    rw [if_neg (by simp), u1]
    simp only [Option.bind_some]
    rw [u2]
    simp only [Option.bind_some]
    rw [u3]
    simp only [Option.bind_some]
    rw [u4]
    simp only [Option.bind_some]
    rw [if_pos (by decide), h4.qs.waiting (by omega)]
    simp only [Option.bind_some]
    rw [if_pos (by decide), h4.qs.notices (by omega)]
    simp only [Option.bind_some]
    rw [if_pos (by decide), h4.qs.first (by omega)]
    simp only [Option.bind_some]
    rw [if_pos (by decide), h4.qs.next (by omega)]
    rfl
  · exact absurd rfl c
  · exact absurd rfl c
end
end Go.Proofs.YtbnmhjobnepajaaGreat.M


namespace Go.Proofs.YtbnmhjobnepajaaGreat.M

def St.none : St := ⟨[], [], [], [], [], [], [], [], [], [], [], []⟩
theorem low_none (σ : St) : Low St.none σ := ⟨fun i hi => absurd hi (by simp [St.none]), fun i hi => absurd hi (by simp [St.none]), fun i hi => absurd hi (by simp [St.none]), fun i hi => absurd hi (by simp [St.none]), fun i hi => absurd hi (by simp [St.none]), Nat.zero_le _, Nat.zero_le _, Nat.zero_le _, Nat.zero_le _, Nat.zero_le _⟩
theorem abv_none (q l d n0 : Nat) (js : List Nat) : Abv St.none q l d n0 js := ⟨Nat.zero_le _, Nat.zero_le _, Nat.zero_le _, fun _ _ => Nat.zero_le _, Nat.zero_le _⟩

abbrev ActT : Type := Int × Int × CmdT × List VdT × List Int × Unit
structure ActFit (t : ActT) : Prop where
  s : t.2.2.1.2.2.1.length < 4611686018427387904
  r : I64 t.2.2.1.2.2.2.1
  l : ∀ n ∈ t.2.2.1.2.2.2.2.1, I64 n
  n : t.2.2.1.2.2.2.2.1.length ≤ 1048576
  e : I64 t.2.2.1.2.2.2.2.2.1
  v : ∀ v ∈ t.2.2.2.1, I64 v.1 ∧ I64 v.2.1
  m : t.2.2.2.1.length ≤ 1048576
theorem ActFit.cmd {t : ActT} (h : ActFit t) {a : Int} (ha0 : 0 ≤ a) (ha5 : a ≤ 5) {n : Nat} (hn : n ≤ 10000) : CmdFit (a, ((n + 1 : Nat) : Int), t.2.2.1.2.2.1, t.2.2.1.2.2.2.1, t.2.2.1.2.2.2.2.1, t.2.2.1.2.2.2.2.2.1, ()) :=
  ⟨⟨by show (_ : Int) ≤ a; omega, by show a < _; omega⟩, I64_nat (by omega), h.s, h.r, h.l, h.n, h.e⟩

section
variable {σ σ0 σ1 : St} {q l d n0 k : Nat} {a : Int} {A : AD} {js : List Nat} {segs : List Sg} {R : List (List UInt8)} {C : List CmdT} {V : List VdT}
abbrev QN (σ : St) (q l d n0 : Nat) (a : Int) (R : List (List UInt8)) (C : List CmdT) (V : List VdT) (A : AD) (js : List Nat) (segs : List Sg) (k : Nat) : Prop := QA St.none σ q l d n0 a R C V A js segs k
theorem QA.toN (h : QA σ0 σ q l d n0 a R C V A js segs k) : QN σ q l d n0 a R C V A js segs k := ⟨h.qs, low_none σ, abv_none _ _ _ _ _, h.arm, h.room, h.lr, h.ls, h.sz⟩
theorem QA.up (h : QN σ q l d n0 a R C V A js segs k) (hk : Low σ σ1) : QN σ1 q l d n0 a R C V A js segs k := ⟨h.qs.low hk, low_none σ1, abv_none _ _ _ _ _, h.arm, h.room, h.lr, h.ls, h.sz⟩
theorem QA.putR (h : QN σ q l d n0 a R C V A js segs k) (x : Nat) (y : RqT) : QN (putR σ x y) q l d n0 a R C V A js segs k := h.up ⟨fun _ _ => rfl, fun _ _ => rfl, fun _ _ => rfl, fun _ _ => rfl, fun _ _ => rfl, Nat.le_refl _, Nat.le_refl _, Nat.le_refl _, Nat.le_refl _, Nat.le_refl _⟩
theorem QA.more (h : QN σ q l d n0 a R C V A js segs k) {k' : Nat} (hk : k ≤ k') : QN σ q l d n0 a R C V A js segs k' := ⟨h.qs, h.low, h.abv, h.arm, h.room, by have := h.lr; omega, by have := h.ls; omega, by have := h.sz; omega⟩

theorem QA.crash (h : QN σ q l d n0 a R C V A js segs k) (hk : k ≤ 80) (ha0 : 0 ≤ a) (ha5 : a ≤ 5) (keep : List Int) :
    ∃ σ1 σ2 q' l' A' js', f_disk_Disk_Crash (some d) keep σ = some (0, σ1) ∧ f_pending_Open (some d) a σ1 = some ((some q', 0), σ2) ∧ QN σ2 q' l' d n0 a R C V A' js' segs k ∧ σ2.t_surmiseref25_Queue = σ.t_surmiseref25_Queue := by
  obtain ⟨⟨⟨ws, f0, sub, nx, dn⟩, qo, pl, w32⟩, low, abv, arm, room, lr, ls, sz⟩ := h
  obtain ⟨σ1, σ2, B, js', segs', g1, g2, g3, g4, g5, g6, g7, g8, g9, g10, g11⟩ := crash_open (most := 2048) ⟨ws.dv, ws.ok, ws.dl, ws.good, ws.len⟩ keep (by decide) (by decide)
  have hs : segs' = segs := by
    rcases g11 with ⟨h1, h2⟩ | ⟨pre, g, m, h1, h2, h3, h4, -⟩
    · rw [h1, h2]
    · subst h1 h2
      rw [lastLen_app, List.take_of_length_le (by omega)]
  subst hs
  have hw : WR σ2 σ1.t_wal_Log.length d n0 B js' segs' R := ⟨g9, f0, sub, nx, g8⟩
  obtain ⟨σ3, k1, k2, k3⟩ := open_queue ha0 ha5 g2 hw (by omega) pl w32
  refine ⟨σ1, σ3, _, _, B, js', ?_, k1, ⟨k2, low_none _, abv_none _ _ _ _ _, g7, g6.trans room, lr, ls, sz⟩, k3.rq.trans g3.ref⟩
  rw [eq_27]; exact g1

def Rf (σ : St) (x : Nat) (a : Int) (C : List CmdT) (V : List VdT) : Prop := σ.t_surmiseref25_Queue[x]? = some (a, C, V, ())

theorem does_step {p1 : List ActT} {x0 x1 : ((Option Nat) × Int) × St} (ha0 : 0 ≤ a) (ha5 : a ≤ 5) (hx0 : x0.1.1 = some d) (hp : ∀ t ∈ p1, ActFit t) {i : Nat} (hi : i < p1.length) (hi60 : i < 60)
    (h : QN σ q l d n0 a R C V A js segs i) (hr : Rf σ x1.2.t_surmiseref25_Queue.length a C V) :
    ∃ σ' q' l' R' C' V' A' js' segs', f_surmiselaw25_PendingDoes_l0 a p1 x0 x1 (some q, (i : Int), σ) = some (.inl (some q', ((i + 1 : Nat) : Int), σ')) ∧ QN σ' q' l' d n0 a R' C' V' A' js' segs' (i + 1) ∧ Rf σ' x1.2.t_surmiseref25_Queue.length a C' V' := by
  have hfit := hp p1[i] (List.getElem_mem hi)
  obtain ⟨b1, b2⟩ := h.qs.pl.len
  have hlr := h.lr
  generalize hx : x1.2.t_surmiseref25_Queue.length = x at *
  generalize ht : p1[i] = t at *
  have fin : ∀ {σ' : St} {q' l' : Nat} {R' : List (List UInt8)} {C' : List CmdT} {V' : List VdT} {A' : AD} {js' : List Nat} {segs' : List Sg}, QN σ' q' l' d n0 a R' C' V' A' js' segs' (i + 1) → Rf σ' x a C' V' →
      (Option.bind (f_surmiselaw25_same (some q') (some x) σ') fun x18 => if (!x18) = true then some (.inr (.inr (false, σ'))) else some (.inl (some q', (IntKind.wrap .i64 ((i : Int) + 1), σ')))) = (some (.inl (some q', ((i + 1 : Nat) : Int), σ')) : Option (((Option Nat) × Int × St) ⊕ (St ⊕ (Bool × St)))) := by
    intro σ' q' l' R' C' V' A' js' segs' h1 h2
    have := h1.lr
    rw [same_true h1.qs (by omega) h2, wrap_nat (by omega)]
    simp
  unfold f_surmiselaw25_PendingDoes_l0
  rw [if_pos (by simp; omega)]
  simp only [ix_at hi, Option.bind_some, hx, hx0, ht]
  by_cases hk : t.1 ≥ 0 ∧ t.1 < 4
  · rw [if_pos (by simpa using hk)]
    obtain ⟨r, σ', A', js', segs', e1, e2, e3⟩ := h.submit (by omega) (hfit.cmd ha0 ha5 (n := C.length) (by omega))
    have hr' : Rf σ' x a C V := by unfold Rf; rw [e2]; exact hr
    have er := RSubmit_eq (σ := σ') (x := x) (c := t.2.2.1) hr' (by omega) b2 hfit.n
    have ec : refC a C t.2.2.1 = (a, ((C.length + 1 : Nat) : Int), t.2.2.1.2.2.1, t.2.2.1.2.2.2.1, t.2.2.1.2.2.2.2.1, t.2.2.1.2.2.2.2.2.1, ()) := rfl
    rw [ec] at er
    rcases e3 with ⟨c1, rfl, e4⟩ | ⟨c1, c2, rfl, e4⟩ | ⟨c1, c2, rfl, e4⟩
    · rw [if_neg (by rw [c1]; simp)] at er
      refine ⟨_, _, _, _, _, _, _, _, _, ?_, e4, hr'⟩
      simp only [e1, er, Option.bind_some]
      rw [if_neg (by decide)]
      exact fin e4 hr'
    · rw [if_pos c1, if_pos c2] at er
      refine ⟨_, _, _, _, _, _, _, _, _, ?_, e4, hr'⟩
      simp only [e1, er, Option.bind_some]
      rw [if_neg (by decide)]
      exact fin e4 hr'
    · rw [if_pos c1, if_neg (by omega)] at er
      have hr2 : Rf (M.putR σ' x (a, C ++ [(a, ((C.length + 1 : Nat) : Int), t.2.2.1.2.2.1, t.2.2.1.2.2.2.1, t.2.2.1.2.2.2.2.1, t.2.2.1.2.2.2.2.2.1, ())], V, ())) x a (C ++ [(a, ((C.length + 1 : Nat) : Int), t.2.2.1.2.2.1, t.2.2.1.2.2.2.1, t.2.2.1.2.2.2.2.1, t.2.2.1.2.2.2.2.2.1, ())]) V := putR_get hr'
      refine ⟨_, _, _, _, _, _, _, _, _, ?_, e4.putR x _, hr2⟩
      simp only [e1, er, Option.bind_some]
      rw [if_neg (by simp)]
      exact fin (e4.putR x _) hr2
  · rw [if_neg (by simpa using hk)]
    by_cases hk2 : t.1 = 4 ∨ t.1 = 5
    · rw [if_pos (by simpa using hk2)]
      obtain ⟨v, hv, hv1, hv2⟩ : ∃ v, (if (t.1 == 5) = true then Option.bind (f_surmiselaw25_first (some q) t.2.1 σ) fun x8 => some x8 else some t.2.2.2.1) = some v ∧ v.length ≤ 1048576 ∧ ∀ y ∈ v, I64 y.1 ∧ I64 y.2.1 := by
        by_cases h5 : t.1 = 5
        · obtain ⟨v, v1, v2, v3⟩ := first_ex h.qs (by omega) t.2.1
          exact ⟨v, by rw [if_pos (by simpa using h5), v1]; rfl, by omega, v3⟩
        · exact ⟨_, by rw [if_neg (by simpa using h5)], hfit.m, hfit.v⟩
      rw [hv]
      simp only [Option.bind_some]
      obtain ⟨r, σ', A', js', segs', e1, e2, e3⟩ := h.done (by omega) hv2 hv1
      have hr' : Rf σ' x a C V := by unfold Rf; rw [e2]; exact hr
      have er := RDone_eq (σ := σ') (x := x) hr' (by omega) b2 hv1
      rcases e3 with ⟨c1, rfl, e4⟩ | ⟨c1, c2, rfl, e4⟩ | ⟨c1, c2, c3, rfl, e4⟩ | ⟨c1, c2, c3, rfl, e4⟩
      · rw [if_neg (by rw [c1]; simp)] at er
        refine ⟨_, _, _, _, _, _, _, _, _, ?_, e4, hr'⟩
        simp only [e1, er, Option.bind_some]
        rw [if_neg (by decide)]
        exact fin e4 hr'
      · rw [if_pos c1, if_pos c2] at er
        have hr2 : Rf (M.putR σ' x (a, C, V, ())) x a C V := putR_get hr'
        refine ⟨_, _, _, _, _, _, _, _, _, ?_, e4.putR x _, hr2⟩
        simp only [e1, er, Option.bind_some]
        rw [if_neg (by decide)]
        exact fin (e4.putR x _) hr2
      · rw [if_pos c1, if_neg c2, if_neg (by rw [c3]; simp)] at er
        refine ⟨_, _, _, _, _, _, _, _, _, ?_, e4, hr'⟩
        simp only [e1, er, Option.bind_some]
        rw [if_neg (by decide)]
        exact fin e4 hr'
      · rw [if_pos c1, if_neg c2, if_pos c3] at er
        have hr2 : Rf (M.putR σ' x (a, C, V ++ restV V.length v, ())) x a C (V ++ restV V.length v) := putR_get hr'
        refine ⟨_, _, _, _, _, _, _, _, _, ?_, e4.putR x _, hr2⟩
        simp only [e1, er, Option.bind_some]
        rw [if_neg (by simp)]
        exact fin (e4.putR x _) hr2
    · rw [if_neg (by simpa using hk2)]
      obtain ⟨σ1, σ2, q', l', A', js', e1, e2, e3, e4⟩ := h.crash (by omega) ha0 ha5 t.2.2.2.2.1
      have hr' : Rf σ2 x a C V := by unfold Rf; rw [e4]; exact hr
      have h3 := e3.more (k' := i + 1) (by omega)
      refine ⟨_, _, _, _, _, _, _, _, _, ?_, h3, hr'⟩
      simp only [e1, e2, Option.bind_some]
      rw [if_neg (by simp)]
      exact fin h3 hr'
end
end Go.Proofs.YtbnmhjobnepajaaGreat.M


namespace Go.Proofs.YtbnmhjobnepajaaGreat.M

section
variable {σ σ0 σ1 : St} {q l d n0 k : Nat} {a : Int} {A : AD} {js : List Nat} {segs : List Sg} {R : List (List UInt8)} {C : List CmdT} {V : List VdT}
theorem does_loop {p1 : List ActT} {x0 x1 : ((Option Nat) × Int) × St} (ha0 : 0 ≤ a) (ha5 : a ≤ 5) (hx0 : x0.1.1 = some d) (hp : ∀ t ∈ p1, ActFit t) : ∀ (k i : Nat), i + k = min p1.length 60 → ∀ {σ : St} {q l : Nat} {R : List (List UInt8)} {C : List CmdT} {V : List VdT} {A : AD} {js : List Nat} {segs : List Sg},
    QN σ q l d n0 a R C V A js segs i → Rf σ x1.2.t_surmiseref25_Queue.length a C V → ∃ σ', loopM (f_surmiselaw25_PendingDoes_l0 a p1 x0 x1) (some q, (i : Int), σ) = some (.inl σ')
  | 0, i, hi, σ, q, l, R, C, V, A, js, segs, h, hr => ⟨σ, loopM_end (by
      unfold f_surmiselaw25_PendingDoes_l0
      rw [if_neg (by simp; omega)])⟩
  | k + 1, i, hi, σ, q, l, R, C, V, A, js, segs, h, hr => by
    obtain ⟨σ', q', l', R', C', V', A', js', segs', e1, e2, e3⟩ := does_step ha0 ha5 hx0 hp (i := i) (by omega) (by omega) h hr
    rw [loopM_go e1]
    exact does_loop ha0 ha5 hx0 hp k (i + 1) (by omega) e2 e3
theorem ref_low (σ : St) (ys : List (denFs fs_surmiseref25_Queue)) : Low σ (σ.set_surmiseref25_Queue ys) :=
  ⟨fun _ _ => rfl, fun _ _ => rfl, fun _ _ => rfl, fun _ _ => rfl, fun _ _ => rfl, Nat.le_refl _, Nat.le_refl _, Nat.le_refl _, Nat.le_refl _, Nat.le_refl _⟩
theorem does_true {p1 : List ActT} (hp : ∀ t ∈ p1, ActFit t) (σ : St) : ∃ σ', f_surmiselaw25_PendingDoes a p1 σ = some (true, σ') := by
  by_cases ha : 0 ≤ a ∧ a ≤ 5
  · obtain ⟨σa, σ2, q, l, A, e1, e2, h0, e3⟩ := QA.start σ ha.1 ha.2
    obtain ⟨σ3, w1, w2, w3⟩ := awake_eq (σ2.set_surmiseref25_Queue (σ2.t_surmiseref25_Queue ++ [(a, [], [], ())]))
    have h1 : QN σ3 q l _ _ a [] [] [] A [] [] 0 := h0.toN.up ((ref_low σ2 _).trans w2)
    have hr : Rf σ3 σ2.t_surmiseref25_Queue.length a [] [] := by
      unfold Rf
      rw [w3]
      show (σ2.t_surmiseref25_Queue ++ [(a, [], [], ())])[σ2.t_surmiseref25_Queue.length]? = _
      simp
    obtain ⟨σ', l1⟩ := does_loop (x0 := ((some σ.t_disk_Disk.length, 0), σa)) (x1 := ((some q, 0), σ2)) (p1 := p1) ha.1 ha.2 rfl hp (min p1.length 60) 0 (by omega) h1 hr
    refine ⟨σ', ?_⟩
    unfold f_surmiselaw25_PendingDoes
    rw [e1]
    simp only [Option.bind_some]
    rw [e2]
    simp only [Option.bind_some]
    rw [if_neg (by simp; omega), if_pos (by simp), w1]
    simp only [Option.bind_some]
    rw [if_neg (by simp)]
    rw [show ((0 : Nat) : Int) = (0 : Int) from rfl] at l1
    rw [l1]
    rfl
  · obtain ⟨σa, e1, -⟩ := start (a := 0) σ (by decide) (by decide) (room := 1048576) (by decide) (by decide)
    obtain ⟨σ3, w1, w2, w3⟩ := awake_eq σa
    refine ⟨σ3, ?_⟩
    unfold f_surmiselaw25_PendingDoes
    rw [e1]
    simp only [Option.bind_some]
    have e2 : f_pending_Open (some σ.t_disk_Disk.length) a σa = some ((none, 14), σa) := by
      unfold f_pending_Open
      rw [if_neg (by simp), if_pos (by simp; omega)]
    rw [e2]
    simp only [Option.bind_some]
    rw [if_pos (by simp; omega), w1]
    simp
end
end Go.Proofs.YtbnmhjobnepajaaGreat.M


namespace Go.Proofs.YtbnmhjobnepajaaGreat.M

theorem none_tabs : ∀ t tab, tabsB TB St.none t = some tab → tab.xs.length = 0 := by
  intro t tab h
  unfold TB St.none at h
  simp only [tabsB] at h
  repeat' split at h
  all_goals first
    | (simp only [Option.some.injEq] at h; subst h; rfl)
    | cases h
theorem wf_i64 {n : Int} (h : (Lit.int .i64 n).wf = true) : I64 n := by
  simp only [Lit.wf, Bool.and_eq_true, decide_eq_true_eq] at h
  have h1 : IntKind.i64.min = -9223372036854775808 := by decide
  have h2 : IntKind.i64.max = 9223372036854775807 := by decide
  rw [h1, h2] at h
  exact ⟨h.1, by omega⟩
theorem act_fit {t : ActT} (f : Kd.Fits K_surmiselaw25_Act t) (m : Kd.Sm 1048576 K_surmiselaw25_Act t) : ActFit t := by
  obtain ⟨f1, f2, ⟨f3, f4, f5, f6, ⟨f7, f8⟩, f9, -⟩, ⟨f10, f11⟩, ⟨f12, f13⟩, -⟩ := f
  obtain ⟨-, -, ⟨-, -, m5, -, ⟨m7, -⟩, -, -⟩, ⟨m10, -⟩, -, -⟩ := m
  refine ⟨?_, wf_i64 f6, fun n hn => wf_i64 (f8 n hn), m7, wf_i64 f9, fun v hv => ⟨wf_i64 (f11 v hv).1, wf_i64 (f11 v hv).2.1⟩, m10⟩
  have : t.2.2.1.2.2.1.length ≤ 1048576 := m5
  omega
theorem acts_fit {l : List ActT} (f : Kd.Fits (.list K_surmiselaw25_Act) l) (m : Kd.Sm 1048576 (.list K_surmiselaw25_Act) l) : ∀ t ∈ l, ActFit t := fun t ht => act_fit (f.2 t ht) (m.2 t ht)
theorem pendingDoes_pure {x0 : Kd.den .i} {x1 : Kd.den (.list K_surmiselaw25_Act)} (f0 : Kd.Fits .i x0) (m0 : Kd.Sm 1048576 .i x0) (f1 : Kd.Fits (.list K_surmiselaw25_Act) x1) (m1 : Kd.Sm 1048576 (.list K_surmiselaw25_Act) x1) : ∃ σ', f_surmiselaw25_PendingDoes x0 x1 St.none = some (true, σ') :=
  does_true (acts_fit f1 m1) St.none
end Go.Proofs.YtbnmhjobnepajaaGreat.M

