/- Own texts, laid together: PQ4 PQ5 PQ6 PQ7 PQ8 PQ9 PQA PQB PR0 PQC PR1. -/
import Derived.Test.YtbnmhjobnepajaaGreatZ1
import Derived.Test.YtbnmhjobnepajaaGreatZ2
import Derived.Test.YtbnmhjobnepajaaGreatZ3
import Derived.Test.YtbnmhjobnepajaaGreatZ4
import Derived.Test.YtbnmhjobnepajaaGreatZ5
set_option linter.unusedVariables false
set_option linter.unusedSimpArgs false
namespace Go.Proofs.YtbnmhjobnepajaaGreat.M

structure QS (σ : St) (q l d n0 : Nat) (a : Int) (A : AD) (js : List Nat) (segs : List Sg) (R : List (List UInt8)) (C : List kX) (V : List VdT) : Prop where
  wr : WR σ l d n0 A js segs R
  qo : σ.ah[q]? = some (a, some l, C.drop V.length, V, ())
  pl : tX a R C V
  w32 : C.length - V.length ≤ 32

noncomputable def Ir : Int → List VdT → Bool
  | _, [] => true
  | p, v :: r => inR v.1 1 1099511627776 && inR v.2.1 0 63 && (decide (p < v.1) && Ir v.1 r)
theorem P8 {l : List VdT} : ∀ (k i : Nat), i + k = l.length → yE (RQ l) i (l.drop i) = Ir (if 0 < i then (l.getD (i - 1) (0, 0, ())).1 else 0) (l.drop i)
  | 0, i, hi => by rw [List.drop_of_length_le (by omega)]; rfl
  | k + 1, i, hi => by
    have hlt : i < l.length := by omega
    have hd : l.drop i = l[i] :: l.drop (i + 1) := by simp
    rw [hd, yE, Ir, P8 k (i + 1) (by omega), if_pos (by omega)]
    have e : l.getD (i + 1 - 1) (0, 0, ()) = l[i] := by
      rw [show i + 1 - 1 = i by omega, List.getD_eq_getElem?_getD, List.getElem?_eq_getElem hlt]; rfl
    rw [e]
    unfold RQ
    by_cases h0 : 0 < i
    · rw [if_pos h0, decide_eq_true h0]
      simp only [Bool.true_and, Bool.and_assoc]
      by_cases h1 : l[i].1 ≤ (l.getD (i - 1) (0, 0, ())).1
      · rw [decide_eq_true h1, decide_eq_false (by omega)]; simp
      · rw [decide_eq_false h1, decide_eq_true (by omega)]; simp
    · rw [if_neg h0, decide_eq_false h0]
      simp only [Bool.false_and, Bool.not_false, Bool.and_true, Bool.and_assoc]
      cases h1 : inR l[i].1 1 1099511627776 with
      | false => rfl
      | true => rw [decide_eq_true (by have := (E8.1 h1).1; omega)]; simp
theorem WX (l : List VdT) : lZ l = (Ir 0 l && decide (l.length ≤ 32)) := by
  unfold lZ
  have := P8 (l := l) l.length 0 (by omega)
  rw [List.drop_zero] at this
  rw [this]; rfl
theorem VF {p p' : Int} {l : List VdT} (h : Ir p l = true) (hp : p' ≤ p) : Ir p' l = true := by
  cases l with
  | nil => rfl
  | cons v r =>
    unfold Ir at h ⊢
    simp only [Bool.and_eq_true, decide_eq_true_eq] at h ⊢
    exact ⟨h.1, by omega, h.2.2⟩
theorem VE {p : Int} {v : VdT} {r : List VdT} (h : Ir p (v :: r) = true) : p < v.1 ∧ 1 ≤ v.1 ∧ Ir v.1 r = true := by
  unfold Ir at h
  simp only [Bool.and_eq_true, decide_eq_true_eq, E8] at h
  exact ⟨h.2.1, h.1.1.1, h.2.2⟩
noncomputable def kE (n : Nat) (l : List VdT) : List VdT := l.dropWhile fun v => decide (v.1 < ((n + 1 : Nat) : Int))
theorem Rj {n : Nat} : ∀ {l : List VdT} {p : Int}, 0 ≤ p → Ir p l = true → Ir p (kE n l) = true
  | [], p, _, _ => rfl
  | v :: r, p, hp, h => by
    obtain ⟨h1, h2, h3⟩ := VE h
    unfold kE
    rw [List.dropWhile_cons]
    split
    · exact VF (Rj (by omega) h3) (by omega)
    · exact h
theorem NR {n : Nat} : ∀ {l : List VdT}, (kE n l).length ≤ l.length
  | [] => Nat.le_refl _
  | v :: r => by
    unfold kE
    rw [List.dropWhile_cons]
    split
    · have := NR (n := n) (l := r)
      unfold kE at this
      rw [List.length_cons]; omega
    · exact Nat.le_refl _
theorem CU {n : Nat} {l : List VdT} (h : lZ l = true) : lZ (kE n l) = true := by
  rw [WX] at h ⊢
  simp only [Bool.and_eq_true, decide_eq_true_eq] at h ⊢
  exact ⟨Rj (Int.le_refl _) h.1, Nat.le_trans NR h.2⟩
section
variable {σ : St} {q l d n0 : Nat} {a : Int} {A : AD} {js : List Nat} {segs : List Sg} {R : List (List UInt8)} {C : List kX} {V : List VdT}
theorem QS.next (h : QS σ q l d n0 a A js segs R C V) (hR : R.length ≤ 10000) : dB (some q) σ = some ((C.length + 1 : Nat) : Int) := by
  obtain ⟨b1, b2⟩ := h.pl.len
  rw [Uk h.qo (by omega) (by simp; omega)]
  congr 2
  simp only [List.length_drop]; omega
theorem QS.first (h : QS σ q l d n0 a A js segs R C V) (hR : R.length ≤ 10000) : bH (some q) σ = some ((V.length + 1 : Nat) : Int) := by
  obtain ⟨b1, b2⟩ := h.pl.len
  exact PZ h.qo (by omega)

inductive Jo (σ : St) (q l d n0 : Nat) (a : Int) (A : AD) (js : List Nat) (segs : List Sg) (R : List (List UInt8)) (C : List kX) (V : List VdT) (c : kX) : (Int × Int) → St → Prop where
  | bad : mV c = false → Jo σ q l d n0 a A js segs R C V c (0, 2) σ
  | full : mV c = true → 32 ≤ C.length - V.length → Jo σ q l d n0 a A js segs R C V c (0, 10) σ
  | fail {e : Int} {σ1 : St} {B : AD} {segs' : List Sg} : mV c = true → C.length - V.length < 32 → Vy σ q l d n0 A js segs R (recC c) e σ1 B segs' → e ≠ 0 → Jo σ q l d n0 a A js segs R C V c (0, e) σ1
  | ok {σ1 : St} {B : AD} {segs' : List Sg} : mV c = true → C.length - V.length < 32 → Vy σ q l d n0 A js segs R (recC c) 0 σ1 B segs' → Jo σ q l d n0 a A js segs R C V c (((C.length + 1 : Nat) : Int), 0) (BM σ1 q (a, some l, C.drop V.length ++ [c], V, ()))

theorem Su (h : QS σ q l d n0 a A js segs R C V) (hR : R.length ≤ 10000) (hlen : segs.length ≤ 800) {st : List UInt8} {rule ex : Int} {args : List Int} (hf : Jj (a, ((C.length + 1 : Nat) : Int), st, rule, args, ex, ())) :
    ∃ r σ', eG (some q) st rule args ex σ = some (r, σ') ∧ Jo σ q l d n0 a A js segs R C V (a, ((C.length + 1 : Nat) : Int), st, rule, args, ex, ()) r σ' := by
  obtain ⟨b1, b2⟩ := h.pl.len
  unfold eG
  have hn := hf.n
  simp only at hn
  have hqo := h.qo
  rw [if_neg (by simp), h.next hR]
  simp only [Option.bind_some, Nat.zero_add, hqo, List.nil_append]
  rw [if_pos (by omega), Vx hf]
  by_cases hc : mV (a, ((C.length + 1 : Nat) : Int), st, rule, args, ex, ()) = true
  · rw [if_pos hc]
    simp only [Option.bind_some]
    rw [if_neg (by decide)]
    by_cases hw : 32 ≤ C.length - V.length
    · rw [if_pos (by simp; omega)]
      exact ⟨_, _, rfl, .full hc hw⟩
    · rw [if_neg (by simp; omega)]
      have hl := FD hc
      rw [if_pos (by omega)]
      obtain ⟨e, σ1, B, segs', ho⟩ := Oi h.wr hqo (x := recC (a, ((C.length + 1 : Nat) : Int), st, rule, args, ex, ())) (by unfold recC; rw [List.length_cons]; omega) (by omega) hlen
      have hrun := ho.run
      unfold recC at hrun
      rw [hrun]
      simp only [Option.bind_some]
      by_cases he : e = 0
      · subst he
        rw [if_neg (by decide)]
        have hq1 : σ1.ah[q]? = some (a, some l, C.drop V.length, V, ()) := by rw [ho.fw.queue]; exact hqo
        simp only [hq1, Option.bind_some]
        rw [if_pos ⟨trivial, trivial⟩, if_pos (by simp only [List.length_drop]; omega)]
        exact ⟨_, _, rfl, .ok hc (by omega) ho⟩
      · rw [if_pos (by simpa using he)]
        exact ⟨_, _, rfl, .fail hc (by omega) ho he⟩
  · rw [if_neg hc]
    simp only [Option.bind_some]
    rw [if_pos (by decide)]
    exact ⟨_, _, rfl, .bad (by simpa using hc)⟩

inductive BZ (σ : St) (q l d n0 : Nat) (a : Int) (A : AD) (js : List Nat) (segs : List Sg) (R : List (List UInt8)) (C : List kX) (V : List VdT) (m : List VdT) : (Int × Int) → St → Prop where
  | bad : lZ m = false → BZ σ q l d n0 a A js segs R C V m (0, 2) σ
  | none : lZ m = true → kE V.length m = [] → BZ σ q l d n0 a A js segs R C V m (0, 0) σ
  | range : lZ m = true → kE V.length m ≠ [] → wW V.length (C.length - V.length) (kE V.length m) = false → BZ σ q l d n0 a A js segs R C V m (0, 3) σ
  | fail {e : Int} {σ1 : St} {B : AD} {segs' : List Sg} : lZ m = true → wW V.length (C.length - V.length) (kE V.length m) = true → Vy σ q l d n0 A js segs R (wC (kE V.length m)) e σ1 B segs' → e ≠ 0 → BZ σ q l d n0 a A js segs R C V m (0, e) σ1
  | ok {σ1 : St} {B : AD} {segs' : List Sg} : lZ m = true → wW V.length (C.length - V.length) (kE V.length m) = true → Vy σ q l d n0 A js segs R (wC (kE V.length m)) 0 σ1 B segs' →
      BZ σ q l d n0 a A js segs R C V m (((kE V.length m).length : Int), 0) (BM σ1 q (a, some l, (C.drop V.length).drop (kE V.length m).length, V ++ kE V.length m, ()))

theorem MQ (h : QS σ q l d n0 a A js segs R C V) (hR : R.length ≤ 10000) : ∀ (m : List VdT), bC (gU (some q) σ) m = some (kE V.length m)
  | [] => by
    rw [kH (r := []) (by unfold gU; simp)]; rfl
  | v :: r => by
    have ih := MQ h hR r
    have hix : ix (v :: r) (0 : Int) = some v := by rw [show (0 : Int) = ((0 : Nat) : Int) from rfl, oC (by simp)]; rfl
    have hb : gU (some q) σ (v :: r) = if (decide (v.1 < ((V.length + 1 : Nat) : Int))) = true then some (.inl r) else some (.inr (v :: r)) := by
      unfold gU
      rw [if_pos (by first | (simp; done) | (simp; omega)), hix]
      simp only [Option.bind_some, h.first hR]
      split
      · rw [if_pos (by simp; omega)]; rfl
      · rfl
    unfold kE
    rw [List.dropWhile_cons]
    split
    · rename_i hc
      rw [if_pos hc] at hb
      rw [ng hb, ih]; rfl
    · rename_i hc
      rw [if_neg hc] at hb
      rw [kH hb]

theorem Xb (h : QS σ q l d n0 a A js segs R C V) (hR : R.length ≤ 10000) (hlen : segs.length ≤ 800) {m : List VdT} (hm : ∀ v ∈ m, I64 v.1 ∧ I64 v.2.1) (hml : m.length ≤ 1048576) :
    ∃ r σ', dK (some q) m σ = some (r, σ') ∧ BZ σ q l d n0 a A js segs R C V m r σ' := by
  obtain ⟨b1, b2⟩ := h.pl.len
  have hqo := h.qo
  have hdl : (C.drop V.length).length = C.length - V.length := by simp
  unfold dK
  rw [if_neg (by simp), Au hm hml]
  by_cases hc : lZ m = true
  · rw [if_pos hc]
    simp only [Option.bind_some]
    rw [if_neg (by decide), MQ h hR m]
    simp only [Option.bind_some]
    have hr := CU (n := V.length) hc
    obtain ⟨hr1, hr2⟩ := Ey hr
    by_cases h0 : kE V.length m = []
    · rw [if_pos (by simp [h0])]
      exact ⟨_, _, rfl, .none hc h0⟩
    · rw [if_neg (by simp [h0]), UT hqo (by omega) (by omega) (by omega), hdl]
      simp only [Option.bind_some]
      by_cases hf : wW V.length (C.length - V.length) (kE V.length m) = true
      · rw [if_neg (by rw [hf]; simp), Au (fun v hv => ⟨⟨by have := (hr2 v hv).1; omega, by have := (hr2 v hv).1; omega⟩, by have := (hr2 v hv).2; omega, by have := (hr2 v hv).2; omega⟩) (by omega), if_pos hr]
        simp only [Option.bind_some]
        have hl := FH hr
        rw [if_pos (by omega)]
        obtain ⟨e, σ1, B, segs', ho⟩ := Oi h.wr hqo (x := wC (kE V.length m)) (by unfold wC; rw [List.length_cons]; omega) (by omega) hlen
        have hrun := ho.run
        unfold wC at hrun
        rw [hrun]
        simp only [Option.bind_some]
        by_cases he : e = 0
        · subst he
          rw [if_neg (by decide)]
          have hq1 : σ1.ah[q]? = some (a, some l, C.drop V.length, V, ()) := by rw [ho.fw.queue]; exact hqo
          rw [Vj hq1 (by omega) (by omega) (by rw [hdl]; exact (CB hf).2)]
          exact ⟨_, _, rfl, .ok hc hf ho⟩
        · rw [if_pos (by simpa using he)]
          exact ⟨_, _, rfl, .fail hc hf ho he⟩
      · rw [if_pos (by simpa using hf)]
        exact ⟨_, _, rfl, .range hc h0 (by simpa using hf)⟩
  · rw [if_neg hc]
    simp only [Option.bind_some]
    rw [if_pos (by decide)]
    exact ⟨_, _, rfl, .bad (by simpa using hc)⟩
end
end Go.Proofs.YtbnmhjobnepajaaGreat.M


namespace Go.Proofs.YtbnmhjobnepajaaGreat.M

section
variable {σ : St} {q l d n0 : Nat} {a : Int} {A : AD} {js : List Nat} {segs : List Sg} {R : List (List UInt8)} {C : List kX} {V : List VdT}
theorem WR.same {σ' : St} (h : WR σ l d n0 A js segs R) (h1 : σ'.af = σ.af) (h2 : σ'.ai = σ.ai) (h3 : σ'.aj = σ.aj) (h4 : σ'.ae = σ.ae) : WR σ' l d n0 A js segs R := by
  obtain ⟨⟨a1, a2, a3, a4, a5, a6, a7⟩, b1, b2, b3, b4⟩ := h
  exact ⟨⟨a1.same2 h3 h4, a2.same h1 h2, a3, a4, a5, a6, a7⟩, b1, b2, b3, b4⟩
theorem QS.Vz (h : QS σ q l d n0 a A js segs R C V) {σ1 : St} {B : AD} {js' : List Nat} {segs' : List Sg} {c : kX} (hw : WR σ1 l d n0 B js' segs' (R ++ [recC c])) (hq : σ1.ah = σ.ah) (hc : mV c = true) (h1 : c.1 = a) (h2 : c.2.1 = ((C.length + 1 : Nat) : Int)) (h3 : C.length - V.length < 32) :
    QS (BM σ1 q (a, some l, C.drop V.length ++ [c], V, ())) q l d n0 a B js' segs' (R ++ [recC c]) (C ++ [c]) V := by
  obtain ⟨b1, b2⟩ := h.pl.len
  refine ⟨hw.same rfl rfl rfl rfl, ?_, .cmd h.pl hc h1 h2, ?_⟩
  · rw [Q9 (y := (a, some l, C.drop V.length, V, ())) (by rw [hq]; exact h.qo), List.drop_append_of_le_length b2]
  · simp only [List.length_append, List.length_cons, List.length_nil]; omega
theorem QS.VA (h : QS σ q l d n0 a A js segs R C V) {σ1 : St} {B : AD} {js' : List Nat} {segs' : List Sg} {m : List VdT} (hw : WR σ1 l d n0 B js' segs' (R ++ [wC m])) (hq : σ1.ah = σ.ah) (hc : lZ m = true) (hf : wW V.length (C.length - V.length) m = true) :
    QS (BM σ1 q (a, some l, (C.drop V.length).drop m.length, V ++ m, ())) q l d n0 a B js' segs' (R ++ [wC m]) C (V ++ m) := by
  refine ⟨hw.same rfl rfl rfl rfl, ?_, .vds h.pl hc hf, ?_⟩
  · rw [Q9 (y := (a, some l, C.drop V.length, V, ())) (by rw [hq]; exact h.qo), List.length_append, List.drop_drop]
  · have := h.w32
    simp only [List.length_append]; omega
end

end Go.Proofs.YtbnmhjobnepajaaGreat.M


namespace Go.Proofs.YtbnmhjobnepajaaGreat.M

theorem Gp {α : Type} {P : Nat → α → Bool} : ∀ {i : Nat} {l : List α}, (∀ j x, x ∈ l → P j x = true) → yE P i l = true
  | _, [], _ => rfl
  | i, x :: r, h => by
    unfold yE
    rw [h i x List.mem_cons_self, Gp fun j y hy => h j y (List.mem_cons_of_mem _ hy)]; rfl
theorem Gj {x1 : QuT} (hl : x1.2.2.1.length ≤ 1000000) (h : ∀ c ∈ x1.2.2.1, c.2.2.2.2.1.length ≤ 1000000) : ∀ (k i : Nat), i + k = x1.2.2.1.length →
    bC (iC x1) (x1.2.2.1.take i, (i : Int)) = some x1.2.2.1
  | 0, i, hi => by
    have : i = x1.2.2.1.length := by omega
    subst this
    rw [kH (r := x1.2.2.1) (by unfold iC; simp)]
  | k + 1, i, hi => by
    have hlt : i < x1.2.2.1.length := by omega
    have := h _ (List.getElem_mem hlt)
    rw [ng (y := (x1.2.2.1.take (i + 1), ((i + 1 : Nat) : Int))) (by
      unfold iC
      simp only [fJ (i := i) (by omega), oC hlt, Option.bind_some, Nat.zero_add, List.nil_append]
      rw [if_pos (by simp; omega), if_pos (by omega), if_pos (by simp; omega), List.take_succ_eq_append_getElem hlt]), Gj hl h k (i + 1) (by omega)]

section
variable {σ : St} {q l d n0 x : Nat} {a : Int} {A : AD} {js : List Nat} {segs : List Sg} {R : List (List UInt8)} {C : List kX} {V : List VdT}
theorem QS.waiting (h : QS σ q l d n0 a A js segs R C V) (hR : R.length ≤ 10000) : eY (some q) σ = some (C.drop V.length) := by
  obtain ⟨b1, b2⟩ := h.pl.len
  unfold eY
  rw [if_neg (by simp)]
  have := Gj (x1 := (a, some l, C.drop V.length, V, ())) (by simp; omega) (fun c hc => by
    have := (xM (h.pl.each c (List.mem_of_mem_drop hc)).1).2.2.2.2.2.1
    omega) (C.drop V.length).length 0 (by simp)
  rw [List.take_zero, show ((0 : Nat) : Int) = (0 : Int) from rfl] at this
  simp only [Option.bind_some, h.qo, this]
theorem tX.acR {R : List (List UInt8)} (h : tX a R C V) : V.length ≤ R.length := by have := h.len; omega
theorem QS.notices (h : QS σ q l d n0 a A js segs R C V) (hR : R.length ≤ 10000) : dY (some q) σ = some V := by
  have := h.pl.acR
  unfold dY
  rw [if_neg (by simp)]
  simp only [Option.bind_some, h.qo, List.nil_append, Nat.zero_add]
  rw [if_pos (by omega)]
theorem JW (h : QS σ q l d n0 a A js segs R C V) (hR : R.length ≤ 10000) (n : Int) : ∀ (k i : Nat) (acc : List VdT), i + k = 40 → acc.length = i → (∀ v ∈ acc, I64 v.1 ∧ I64 v.2.1) →
    ∃ v, bC (jo (some q) n σ) (acc, (i : Int)) = some v ∧ v.length ≤ 40 ∧ ∀ y ∈ v, I64 y.1 ∧ I64 y.2.1
  | k, i, acc, hi, ha, hv => by
    obtain ⟨b1, b2⟩ := h.pl.len
    have e1 : IntKind.wrap .i64 (((V.length + 1 : Nat) : Int) + (i : Int)) = ((V.length + 1 + i : Nat) : Int) := by rw [aO (by omega) (by omega)]; omega
    have hb : jo (some q) n σ (acc, (i : Int)) = if ((i : Int) < n ∧ i < 40) ∧ V.length + 1 + i < C.length + 1 then some (.inl (acc ++ [(((V.length + 1 + i : Nat) : Int), 0, ())], ((i + 1 : Nat) : Int))) else some (.inr acc) := by
      unfold jo
      simp only [h.first hR, h.next hR]
      by_cases c : (i : Int) < n ∧ i < 40
      · have c' : (decide ((i : Int) < n) && decide ((i : Int) < 40)) = true := by simp; omega
        simp only [c', if_true, Option.bind_some, e1, Bool.true_and]
        by_cases c2 : V.length + 1 + i < C.length + 1
        · rw [if_pos (by simp; omega), if_pos (by omega), if_pos ⟨c, c2⟩, fJ (by omega)]
        · rw [if_neg (by simp; omega), if_neg (fun hh => c2 hh.2)]
      · have c' : (decide ((i : Int) < n) && decide ((i : Int) < 40)) = false := by
          rw [Bool.eq_false_iff]; simp; omega
        simp only [c', Bool.false_eq_true, if_false, Option.bind_some, Bool.false_and]
        rw [if_neg (fun hh => c hh.1)]
    by_cases c : ((i : Int) < n ∧ i < 40) ∧ V.length + 1 + i < C.length + 1
    · rw [if_pos c] at hb
      rw [ng hb]
      cases k with
      | zero => omega
      | succ k =>
        refine JW h hR n k (i + 1) _ (by omega) (by simp [ha]) (fun v hm => ?_)
        rcases List.mem_append.1 hm with hm | hm
        · exact hv v hm
        · simp only [List.mem_singleton] at hm
          subst hm
          exact ⟨⟨by omega, by omega⟩, by show (-9223372036854775808 : Int) ≤ 0; decide, by show (0 : Int) < 9223372036854775808; decide⟩
    · rw [if_neg c] at hb
      rw [kH hb]
      exact ⟨acc, rfl, by omega, hv⟩
theorem Yl (h : QS σ q l d n0 a A js segs R C V) (hR : R.length ≤ 10000) (n : Int) : ∃ v, kP (some q) n σ = some v ∧ v.length ≤ 40 ∧ ∀ y ∈ v, I64 y.1 ∧ I64 y.2.1 := by
  obtain ⟨v, h1, h2⟩ := JW h hR n 40 0 [] (by omega) rfl (by simp)
  refine ⟨v, ?_, h2⟩
  unfold kP
  rw [show (0 : Int) = ((0 : Nat) : Int) from rfl, h1]; rfl
end
end Go.Proofs.YtbnmhjobnepajaaGreat.M


namespace Go.Proofs.YtbnmhjobnepajaaGreat.M

section
variable {σ σ1 : St} {q l d n0 : Nat} {a : Int} {A : AD} {js : List Nat} {segs : List Sg} {R : List (List UInt8)} {C : List kX} {V : List VdT}
noncomputable def LY (σ1 : St) (a : Int) (l : Nat) : St := ((σ1.bP (σ1.ah ++ [(a, some l, [], [], ())])).lV (σ1.bu ++ [(none, ())])).lV ((σ1.bu ++ [(none, ())]).set σ1.bu.length (some σ1.ah.length, ()))
theorem YV : (LY σ1 a l).ah[σ1.ah.length]? = some (a, some l, [], [], ()) := by
  show (σ1.ah ++ [(a, some l, [], [], ())])[σ1.ah.length]? = _
  simp
theorem YU : (LY σ1 a l).bu[σ1.bu.length]? = some (some σ1.ah.length, ()) := by
  show ((σ1.bu ++ [(none, ())]).set σ1.bu.length (some σ1.ah.length, ()))[σ1.bu.length]? = _
  simp
structure Oq (σ1 σ' : St) : Prop where
  dd : σ'.af = σ1.af
  df : σ'.ai = σ1.ai
  wl : σ'.aj = σ1.aj
  ws : σ'.ae = σ1.ae
  rq : σ'.aH = σ1.aH
  qs : ∀ i, i < σ1.ah.length → σ'.ah[i]? = σ1.ah[i]?
  ql : σ1.ah.length < σ'.ah.length
theorem Oq.of {σ' : St} {y : QuT} (h : Rp (LY σ1 a l) σ' σ1.ah.length y) : Oq σ1 σ' := by
  have e : ∀ {α : Type} (f : St → α), f σ'.base = f (LY σ1 a l).base := fun f => by rw [h.o]
  refine ⟨e St.af, e St.ai, e St.aj, e St.ae, e St.aH, fun i hi => ?_, ?_⟩
  · rw [h.q]
    show ((σ1.ah ++ [(a, some l, [], [], ())]).set σ1.ah.length y)[i]? = _
    rw [List.getElem?_set_ne (by omega), List.getElem?_append_left hi]
  · rw [h.q]
    show _ < ((σ1.ah ++ [(a, some l, [], [], ())]).set σ1.ah.length y).length
    simp

theorem aaB (ha0 : 0 ≤ a) (ha5 : a ≤ 5) (h53 : f53 (some d) nmL 2048 σ = some ((some l, 0), σ1)) (h : WR σ1 l d n0 A js segs R) : fZ (some d) a σ =
    Option.bind (bC (fM ((some l, 0), σ1) (R.length : Int)) (0, LY σ1 a l)) fun x7 => ku x7 (fun x8 => Option.bind x8.bu[σ1.bu.length]? fun x9 => some ((x9.1, 0), x8)) Option.some := by
  unfold fZ
  have hG : LG (LY σ1 a l) l d 2048 js segs (aJ segs) := h.ws.lg.same2 rfl rfl
  have hl := h.ws.len
  rw [if_neg (by simp), if_neg (by simp; omega), XY]
  show Option.bind (f53 (some d) nmL 2048 σ) _ = _
  rw [h53]
  simp only [Option.bind_some]
  rw [if_neg (by decide)]
  have e1 : (σ1.bu ++ [(none, ())])[σ1.bu.length]? = some (none, ()) := by simp
  simp only [e1, Option.bind_some]
  show Option.bind (kG (some l) (LY σ1 a l)) _ = _
  rw [UK, Yb hG, h.f0]
  simp only [Option.bind_some]
  rw [if_neg (by decide)]
  show Option.bind (iE (some l) (LY σ1 a l)) _ = _
  rw [zU, Bf hG h.ws.good (by omega), h.nx]
  rfl
theorem KP (ha0 : 0 ≤ a) (ha5 : a ≤ 5) (h53 : f53 (some d) nmL 2048 σ = some ((some l, 0), σ1)) (h : WR σ1 l d n0 A js segs R) (hR : R.length ≤ 10000) (hp : tX a R C V) (hw : C.length - V.length ≤ 32) :
    ∃ σ', fZ (some d) a σ = some ((some σ1.ah.length, 0), σ') ∧ QS σ' σ1.ah.length l d n0 a A js segs R C V ∧ Oq σ1 σ' := by
  have hG : LG (LY σ1 a l) l d 2048 js segs (aJ segs) := h.ws.lg.same2 rfl rfl
  obtain ⟨σ', e1, e2⟩ := replay (σ := LY σ1 a l) (x0 := ((some l, 0), σ1)) (n := R.length) (Rall := R) rfl YU YV hG h.ws.good (by have := h.ws.len; omega) h.sub h.f0 h.nx rfl (by omega) hp [] (by simp)
  rw [aaB ha0 ha5 h53 h, e1, kH (r := .inl σ') (by unfold fM; simp)]
  have hc : σ'.bu[σ1.bu.length]? = some (some σ1.ah.length, ()) := by
    show σ'.base.bu[σ1.bu.length]? = _
    rw [e2.o]; exact YU (a := a) (l := l)
  have ho := Oq.of e2
  refine ⟨σ', by simp only [Option.bind_some, ku, hc], ⟨h.same ho.dd ho.df ho.wl ho.ws, e2.get YV, hp, hw⟩, ho⟩
theorem Y1 (ha0 : 0 ≤ a) (ha5 : a ≤ 5) (hD : DV σ d n0 A) (hA : OkA A) (hd : kD A = false) (hL : A.2.1 = []) :
    ∃ σ1 σ' l, fZ (some d) a σ = some ((some σ1.ah.length, 0), σ') ∧ l = σ.aj.length ∧ QS σ' σ1.ah.length l d n0 a A [] [] [] [] [] ∧ Oq σ1 σ' ∧ Fw σ σ1 d n0 ∧ ExW σ σ1 l := by
  obtain ⟨σ1, g1, g2, g3, g4, g5⟩ := NJ hD hA hd hL (most := 2048) (by decide) (by decide)
  have hw : WR σ1 σ.aj.length d n0 A [] [] [] := ⟨WS.new g4 hA hL g5, rfl, by simp, rfl, hd⟩
  obtain ⟨σ', k1, k2, k3⟩ := KP ha0 ha5 g1 hw (by simp) .nil (by simp)
  exact ⟨σ1, σ', _, k1, rfl, k2, k3, g2, g3⟩
end
end Go.Proofs.YtbnmhjobnepajaaGreat.M


namespace Go.Proofs.YtbnmhjobnepajaaGreat.M

structure Low (σ0 σ : St) : Prop where
  dd : ∀ i, i < σ0.af.length → σ.af[i]? = σ0.af[i]?
  df : ∀ i, i < σ0.ai.length → σ.ai[i]? = σ0.ai[i]?
  wl : ∀ i, i < σ0.aj.length → σ.aj[i]? = σ0.aj[i]?
  ws : ∀ i, i < σ0.ae.length → σ.ae[i]? = σ0.ae[i]?
  qs : ∀ i, i < σ0.ah.length → σ.ah[i]? = σ0.ah[i]?
  ld : σ0.af.length ≤ σ.af.length
  lf : σ0.ai.length ≤ σ.ai.length
  ll : σ0.aj.length ≤ σ.aj.length
  ls : σ0.ae.length ≤ σ.ae.length
  lq : σ0.ah.length ≤ σ.ah.length
theorem Qe {α : Type} {l : List α} {i : Nat} {x : α} (h : l[i]? = some x) : i < l.length := (List.getElem?_eq_some_iff.1 h).1

section
variable {σ σ0 σ1 : St} {q l d n0 : Nat} {a : Int} {A : AD} {js : List Nat} {segs : List Sg} {R : List (List UInt8)} {C : List kX} {V : List VdT}
theorem DV.low (h : DV σ d n0 A) (hk : Low σ σ1) : DV σ1 d n0 A := by
  obtain ⟨o, qs, a1, a2, a3, a4, a5, a6, a7, a8, a9⟩ := h
  refine ⟨o, qs, ?_, a2, a3, a4, a5, a6, a7, fun q hq => ?_, Nat.le_trans a9 hk.lf⟩
  · rw [hk.dd d (Qe a1)]; exact a1
  · obtain ⟨b1, b2⟩ := a8 q hq
    exact ⟨by rw [hk.df _ (Qe b1)]; exact b1, b2⟩
theorem LG.low {most : Int} {safe : Nat} (h : LG σ l d most js segs safe) (hk : Low σ σ1) : LG σ1 l d most js segs safe := by
  refine ⟨by rw [hk.wl l (Qe h.lo)]; exact h.lo, h.nd, h.lie.TG (fun j _ g hg => ?_)⟩
  have hg' : σ.ae[j]? = _ := hg
  show σ1.ae[j]? = _
  rw [hk.ws j (Qe hg')]; exact hg'
theorem QS.low (h : QS σ q l d n0 a A js segs R C V) (hk : Low σ σ1) : QS σ1 q l d n0 a A js segs R C V := by
  obtain ⟨⟨⟨a1, a2, a3, a4, a5, a6, a7⟩, b1, b2, b3, b4⟩, c1, c2, c3⟩ := h
  exact ⟨⟨⟨a1.low hk, a2.low hk, a3, a4, a5, a6, a7⟩, b1, b2, b3, b4⟩, by rw [hk.qs q (Qe c1)]; exact c1, c2, c3⟩

structure Abv (σ0 : St) (q l d n0 : Nat) (js : List Nat) : Prop where
  d : σ0.af.length ≤ d
  f : σ0.ai.length ≤ n0
  l : σ0.aj.length ≤ l
  s : ∀ j ∈ js, σ0.ae.length ≤ j
  q : σ0.ah.length ≤ q
theorem sJ.same {js' : List Nat} (h : sJ σ l js) (h' : sJ σ l js') : js = js' := by
  obtain ⟨o, a, b⟩ := h
  obtain ⟨o', a', b'⟩ := h'
  rw [a] at a'; simp only [Option.some.injEq] at a'; subst a'
  rw [b] at b'
  exact (List.map_inj_right (fun a b h => by simpa using h)).1 b'
theorem Low.call (h : Low σ0 σ) (ha : Abv σ0 q l d n0 js) (hf : Fw σ σ1 d n0) (hj : Aq σ σ1 l js) {js' : List Nat} (hj' : sJ σ1 l js') : Low σ0 σ1 ∧ Abv σ0 q l d n0 js' := by
  obtain ⟨w, js2, k1, k2⟩ := hj
  have := sJ.same k1 hj'
  subst this
  refine ⟨⟨fun i hi => ?_, fun i hi => ?_, fun i hi => ?_, fun i hi => ?_, fun i hi => ?_, ?_, ?_, ?_, ?_, ?_⟩, ⟨ha.d, ha.f, ha.l, fun j hj => ?_, ha.q⟩⟩
  · rw [hf.af i (by have := ha.d; omega) (by have := h.ld; omega)]; exact h.dd i hi
  · rw [hf.ai i (by have := ha.f; omega)]; exact h.df i hi
  · rw [w.lg i (by have := ha.l; omega)]; exact h.wl i hi
  · rw [w.sg i (fun hm => by have := ha.s i hm; omega) (by have := h.ls; omega)]; exact h.ws i hi
  · rw [hf.queue]; exact h.qs i hi
  · have := h.ld; have := hf.l105; omega
  · have := h.lf; have := hf.l108; omega
  · rw [w.ll]; exact h.ll
  · have := h.ls; have := w.sl; omega
  · rw [hf.queue]; exact h.lq
  · rcases k2 j hj with h' | h'
    · exact ha.s j h'
    · have := h.ls; omega
theorem Low.BM (h : Low σ0 σ) (hq : σ0.ah.length ≤ q) (y : QuT) : Low σ0 (BM σ q y) := by
  obtain ⟨a1, a2, a3, a4, a5, a6, a7, a8, a9, a10⟩ := h
  refine ⟨a1, a2, a3, a4, fun i hi => ?_, a6, a7, a8, a9, ?_⟩
  · show (σ.ah.set q y)[i]? = _
    rw [List.getElem?_set_ne (by omega)]; exact a5 i hi
  · show _ ≤ (σ.ah.set q y).length
    rw [List.length_set]; exact a10

structure QA (σ0 σ : St) (q l d n0 : Nat) (a : Int) (R : List (List UInt8)) (C : List kX) (V : List VdT) (A : AD) (js : List Nat) (segs : List Sg) (k : Nat) : Prop where
  qs : QS σ q l d n0 a A js segs R C V
  low : Low σ0 σ
  abv : Abv σ0 q l d n0 js
  arm : nO A = 0
  room : A.1 = 1048576
  lr : R.length ≤ k
  ls : segs.length ≤ k
  sz : szS segs ≤ 725 * k
theorem QA.over {k : Nat} (h : QA σ0 σ q l d n0 a R C V A js segs k) (hk : k ≤ 80) {x : List UInt8} (hx : x.length ≤ 1024) : ¬ Over A segs x := by
  have h1 := h.room
  have h2 := h.ls
  have h3 := h.sz
  unfold Over
  rw [h1]
  omega
theorem QA.aaP {k : Nat} (h : QA σ0 σ q l d n0 a R C V A js segs k) (hk : k ≤ 80) {x : List UInt8} (hx : x.length ≤ 1024) {e : Int} {B : AD} {segs' : List Sg} (ho : Vy σ q l d n0 A js segs R x e σ1 B segs') :
    e = 0 ∧ More segs x segs' ∧ ∃ js', WR σ1 l d n0 B js' segs' (R ++ [x]) ∧ Low σ0 σ1 ∧ Abv σ0 q l d n0 js' ∧ nO B = 0 ∧ B.1 = 1048576 := by
  rcases ho.out with ⟨rfl, o1, js', o2⟩ | ⟨rfl, _, o, _⟩ | ⟨rfl, o, _⟩
  · obtain ⟨k1, k2⟩ := h.low.call h.abv ho.fw ho.js o2.ws.lg.sJ
    exact ⟨rfl, o1, js', o2, k1, k2, ho.arm h.arm, ho.room.trans h.room⟩
  · exact absurd o (h.over hk hx)
  · exact absurd h.arm o
theorem QA.Ud {k : Nat} (h : QA σ0 σ q l d n0 a R C V A js segs k) (hk : k ≤ 80) {st : List UInt8} {rule ex : Int} {args : List Int} (hf : Jj (a, ((C.length + 1 : Nat) : Int), st, rule, args, ex, ())) :
    ∃ r σ' A' js' segs', eG (some q) st rule args ex σ = some (r, σ') ∧ σ'.aH = σ.aH ∧
      ((mV (a, ((C.length + 1 : Nat) : Int), st, rule, args, ex, ()) = false ∧ r = (0, 2) ∧ QA σ0 σ' q l d n0 a R C V A' js' segs' (k + 1)) ∨
       (mV (a, ((C.length + 1 : Nat) : Int), st, rule, args, ex, ()) = true ∧ 32 ≤ C.length - V.length ∧ r = (0, 10) ∧ QA σ0 σ' q l d n0 a R C V A' js' segs' (k + 1)) ∨
       (mV (a, ((C.length + 1 : Nat) : Int), st, rule, args, ex, ()) = true ∧ C.length - V.length < 32 ∧ r = (((C.length + 1 : Nat) : Int), 0) ∧
         QA σ0 σ' q l d n0 a (R ++ [recC (a, ((C.length + 1 : Nat) : Int), st, rule, args, ex, ())]) (C ++ [(a, ((C.length + 1 : Nat) : Int), st, rule, args, ex, ())]) V A' js' segs' (k + 1))) := by
  have hlr := h.lr
  have hls := h.ls
  have hsz := h.sz
  have stay : QA σ0 σ q l d n0 a R C V A js segs (k + 1) := ⟨h.qs, h.low, h.abv, h.arm, h.room, by omega, by omega, by omega⟩
  obtain ⟨r, σ', e1, e2⟩ := Su h.qs (by omega) (by omega) hf
  cases e2 with
  | bad hc => exact ⟨_, _, A, js, segs, e1, rfl, .inl ⟨hc, rfl, stay⟩⟩
  | full hc hw => exact ⟨_, _, A, js, segs, e1, rfl, .inr (.inl ⟨hc, hw, rfl, stay⟩)⟩
  | fail hc hw ho he =>
    have := (FD hc).1
    exact absurd (h.aaP hk (by unfold recC; rw [List.length_cons]; omega) ho).1 he
  | ok hc hw ho =>
    have hl := (FD hc).1
    have hrl : (recC (a, ((C.length + 1 : Nat) : Int), st, rule, args, ex, ())).length ≤ 201 := by unfold recC; rw [List.length_cons]; omega
    obtain ⟨-, o1, js', o2, o3, o4, o5, o6⟩ := h.aaP hk (by omega) ho
    refine ⟨_, _, _, js', _, e1, ho.fw.ref, .inr (.inr ⟨hc, hw, rfl, h.qs.Vz o2 ho.fw.queue hc rfl rfl hw, o3.BM h.abv.q _, o4, o5, o6, by simp; omega, ?_, ?_⟩)⟩
    · have := o1.len; omega
    · have := o1.sz; omega
theorem QA.done {k : Nat} (h : QA σ0 σ q l d n0 a R C V A js segs k) (hk : k ≤ 80) {m : List VdT} (hm : ∀ v ∈ m, I64 v.1 ∧ I64 v.2.1) (hml : m.length ≤ 1048576) :
    ∃ r σ' A' js' segs', dK (some q) m σ = some (r, σ') ∧ σ'.aH = σ.aH ∧
      ((lZ m = false ∧ r = (0, 2) ∧ QA σ0 σ' q l d n0 a R C V A' js' segs' (k + 1)) ∨
       (lZ m = true ∧ kE V.length m = [] ∧ r = (0, 0) ∧ QA σ0 σ' q l d n0 a R C V A' js' segs' (k + 1)) ∨
       (lZ m = true ∧ kE V.length m ≠ [] ∧ wW V.length (C.length - V.length) (kE V.length m) = false ∧ r = (0, 3) ∧ QA σ0 σ' q l d n0 a R C V A' js' segs' (k + 1)) ∨
       (lZ m = true ∧ kE V.length m ≠ [] ∧ wW V.length (C.length - V.length) (kE V.length m) = true ∧ r = ((((kE V.length m).length : Nat) : Int), 0) ∧
         QA σ0 σ' q l d n0 a (R ++ [wC (kE V.length m)]) C (V ++ kE V.length m) A' js' segs' (k + 1))) := by
  have hlr := h.lr
  have hls := h.ls
  have hsz := h.sz
  have stay : QA σ0 σ q l d n0 a R C V A js segs (k + 1) := ⟨h.qs, h.low, h.abv, h.arm, h.room, by omega, by omega, by omega⟩
  obtain ⟨r, σ', e1, e2⟩ := Xb h.qs (by omega) (by omega) hm hml
  cases e2 with
  | bad hc => exact ⟨_, _, A, js, segs, e1, rfl, .inl ⟨hc, rfl, stay⟩⟩
  | none hc h0 => exact ⟨_, _, A, js, segs, e1, rfl, .inr (.inl ⟨hc, h0, rfl, stay⟩)⟩
  | range hc h0 hf => exact ⟨_, _, A, js, segs, e1, rfl, .inr (.inr (.inl ⟨hc, h0, hf, rfl, stay⟩))⟩
  | fail hc hf ho he =>
    have := (FH (CU (n := V.length) hc)).1
    exact absurd (h.aaP hk (by unfold wC; rw [List.length_cons]; omega) ho).1 he
  | ok hc hf ho =>
    have hl := (FH (CU (n := V.length) hc)).1
    have hrl : (wC (kE V.length m)).length ≤ 701 := by unfold wC; rw [List.length_cons]; omega
    obtain ⟨-, o1, js', o2, o3, o4, o5, o6⟩ := h.aaP hk (by omega) ho
    refine ⟨_, _, _, js', _, e1, ho.fw.ref, .inr (.inr (.inr ⟨hc, fun h0 => by have := (CB hf).1; rw [h0] at this; simp at this, hf, rfl, h.qs.VA o2 ho.fw.queue (CU hc) hf, o3.BM h.abv.q _, o4, o5, o6, by simp; omega, ?_, ?_⟩))⟩
    · have := o1.len; omega
    · have := o1.sz; omega
end
end Go.Proofs.YtbnmhjobnepajaaGreat.M


namespace Go.Proofs.YtbnmhjobnepajaaGreat.M

section
variable {σ σ0 σ1 σ2 : St} {q l d n0 : Nat} {a : Int} {A : AD} {js : List Nat} {segs : List Sg} {R : List (List UInt8)} {C : List kX} {V : List VdT}
theorem Low.trans (h1 : Low σ0 σ1) (h2 : Low σ1 σ2) : Low σ0 σ2 := by
  refine ⟨fun i hi => ?_, fun i hi => ?_, fun i hi => ?_, fun i hi => ?_, fun i hi => ?_, Nat.le_trans h1.ld h2.ld, Nat.le_trans h1.lf h2.lf, Nat.le_trans h1.ll h2.ll, Nat.le_trans h1.ls h2.ls, Nat.le_trans h1.lq h2.lq⟩
  · rw [h2.dd i (Nat.lt_of_lt_of_le hi h1.ld)]; exact h1.dd i hi
  · rw [h2.df i (Nat.lt_of_lt_of_le hi h1.lf)]; exact h1.df i hi
  · rw [h2.wl i (Nat.lt_of_lt_of_le hi h1.ll)]; exact h1.wl i hi
  · rw [h2.ws i (Nat.lt_of_lt_of_le hi h1.ls)]; exact h1.ws i hi
  · rw [h2.qs i (Nat.lt_of_lt_of_le hi h1.lq)]; exact h1.qs i hi
theorem Low.disk (x : az dM) : Low σ (σ.ni x) :=
  ⟨fun i hi => List.getElem?_append_left hi, fun _ _ => rfl, fun _ _ => rfl, fun _ _ => rfl, fun _ _ => rfl, by show _ ≤ (σ.af ++ [x]).length; simp, Nat.le_refl _, Nat.le_refl _, Nat.le_refl _, Nat.le_refl _⟩
theorem Low.open (h : Low σ0 σ) (hd : σ0.af.length ≤ d) (hn : σ0.ai.length ≤ n0) (hl : σ0.aj.length ≤ l) (hf : Fw σ σ1 d n0) (he : ExW σ σ1 l) : Low σ0 σ1 := by
  refine ⟨fun i hi => ?_, fun i hi => ?_, fun i hi => ?_, fun i hi => ?_, fun i hi => ?_, ?_, ?_, ?_, ?_, ?_⟩
  · rw [hf.af i (by omega) (by have := h.ld; omega)]; exact h.dd i hi
  · rw [hf.ai i (by omega)]; exact h.df i hi
  · rw [he.aj i (by omega) (by have := h.ll; omega)]; exact h.wl i hi
  · rw [he.ae i (by have := h.ls; omega)]; exact h.ws i hi
  · rw [hf.queue]; exact h.qs i hi
  · have := h.ld; have := hf.l105; omega
  · have := h.lf; have := hf.l108; omega
  · have := h.ll; have := he.l128; omega
  · have := h.ls; have := he.l130; omega
  · rw [hf.queue]; exact h.lq
theorem Low.opened (h : Low σ0 σ1) (ho : Oq σ1 σ2) : Low σ0 σ2 := by
  refine h.trans ⟨fun i _ => by rw [ho.dd], fun i _ => by rw [ho.df], fun i _ => by rw [ho.wl], fun i _ => by rw [ho.ws], ho.qs, by rw [ho.dd]; exact Nat.le_refl _, by rw [ho.df]; exact Nat.le_refl _, by rw [ho.wl]; exact Nat.le_refl _, by rw [ho.ws]; exact Nat.le_refl _, by have := ho.ql; omega⟩

theorem start (σ : St) (ha0 : 0 ≤ a) (ha5 : a ≤ 5) {room : Int} (hr0 : 0 ≤ room) (hr1 : room ≤ 1048576) : ∃ σa, qK room σ = some ((some σ.af.length, 0), σa) ∧ DV σa σ.af.length σ.ai.length (room, [], 0, false, ()) ∧ OkA (room, [], 0, false, ()) ∧ Low σ σa ∧ σa.aH = σ.aH := by
  obtain ⟨e1, e2, e3⟩ := abr (σ := σ) hr0 hr1
  refine ⟨_, ?_, e2, e3, Low.disk _, rfl⟩
  rw [eq_18]; exact e1
theorem QA.start (σ : St) (ha0 : 0 ≤ a) (ha5 : a ≤ 5) : ∃ σa σ2 q l A, qK 1048576 σ = some ((some σ.af.length, 0), σa) ∧ fZ (some σ.af.length) a σa = some ((some q, 0), σ2) ∧
    QA σ σ2 q l σ.af.length σ.ai.length a [] [] [] A [] [] 0 ∧ σ2.aH = σ.aH := by
  obtain ⟨σa, e1, e2, e3, e4, e5⟩ := M.start σ ha0 ha5 (room := 1048576) (by decide) (by decide)
  obtain ⟨σ1, σ2, l, g1, rfl, g2, g3, g4, g5⟩ := Y1 ha0 ha5 e2 e3 rfl rfl
  have hl : σ.aj.length ≤ σa.aj.length := e4.ll
  have h1 := e4.open (Nat.le_refl _) (Nat.le_refl _) hl g4 g5
  exact ⟨σa, σ2, _, _, _, e1, g1, ⟨g2, h1.opened g3, ⟨Nat.le_refl _, Nat.le_refl _, hl, by simp, h1.lq⟩, rfl, rfl, by simp, by simp, by simp [szS]⟩, g3.rq.trans (g4.ref.trans e5)⟩

theorem Xn (σ : St) : ∃ σ', kN σ = some (true, σ') ∧ Low σ σ' ∧ σ'.aH = σ.aH := by
  obtain ⟨σa, σ2, q, l, A, e1, e2, h0, e3⟩ := QA.start (a := 1) σ (by decide) (by decide)
  have fit : ∀ (n : Nat) (args : List Int), n < 100 → (∀ y ∈ args, y = 5) → args.length ≤ 1 → Jj (1, ((n + 1 : Nat) : Int), [97], 0, args, -1, ()) := fun n args hn hy hl =>
    ⟨by show I64 1; exact ⟨by decide, by decide⟩, xK (by omega), by show (1 : Nat) < _; decide, by show I64 0; exact ⟨by decide, by decide⟩, fun y hm => by rw [hy y hm]; exact ⟨by decide, by decide⟩, by show args.length ≤ _; omega, by show I64 (-1); exact ⟨by decide, by decide⟩⟩
  obtain ⟨r1, s1, A1, js1, segs1, u1, v1, c1⟩ := h0.Ud (by decide) (fit 0 [5] (by decide) (by simp) (by simp))
  rcases c1 with ⟨c, _⟩ | ⟨_, c, _⟩ | ⟨_, _, rfl, h1⟩
  · exact absurd c (by decide)
  · exact absurd c (by decide)
  obtain ⟨r2, s2, A2, js2, segs2, u2, v2, c2⟩ := h1.Ud (by decide) (fit 1 [] (by decide) (by simp) (by simp))
  rcases c2 with ⟨c, _⟩ | ⟨_, c, _⟩ | ⟨_, _, rfl, h2⟩
  · exact absurd c (by decide)
  · exact absurd c (by decide)
  have hv : ∀ v ∈ [((1 : Int), ((0 : Int), ()))], I64 v.1 ∧ I64 v.2.1 := by
    intro v hv
    simp only [List.mem_singleton] at hv
    subst hv
    exact ⟨⟨by decide, by decide⟩, by decide, by decide⟩
  obtain ⟨r3, s3, A3, js3, segs3, u3, v3, c3⟩ := h2.done (by decide) hv (by simp)
  rcases c3 with ⟨c, _⟩ | ⟨_, c, _⟩ | ⟨_, _, c, _⟩ | ⟨_, _, _, rfl, h3⟩
  · exact absurd c (by decide)
  · exact absurd c (by decide)
  · exact absurd c (by decide)
  obtain ⟨r4, s4, A4, js4, segs4, u4, v4, c4⟩ := h3.done (by decide) hv (by simp)
  rcases c4 with ⟨c, _⟩ | ⟨_, _, rfl, h4⟩ | ⟨_, c, _⟩ | ⟨_, c, _⟩
  · exact absurd c (by decide)
  · refine ⟨s4, ?_, h4.low, v4.trans (v3.trans (v2.trans (v1.trans e3)))⟩
    unfold kN
    have lr := h4.lr
    rw [e1]
    simp only [Option.bind_some]
    rw [e2]
    simp only [Option.bind_some]
    rw [if_neg (by simp), u1]
    simp only [Option.bind_some]
    rw [u2]
    simp only [Option.bind_some]
    rw [u3]
    simp only [Option.bind_some]
    rw [u4]
    simp only [Option.bind_some]
    rw [if_pos (by decide), h4.qs.waiting (by omega)]
    simp only [Option.bind_some]
    rw [if_pos (by decide), h4.qs.notices (by omega)]
    simp only [Option.bind_some]
    rw [if_pos (by decide), h4.qs.first (by omega)]
    simp only [Option.bind_some]
    rw [if_pos (by decide), h4.qs.next (by omega)]
    rfl
  · exact absurd rfl c
  · exact absurd rfl c
end
end Go.Proofs.YtbnmhjobnepajaaGreat.M


namespace Go.Proofs.YtbnmhjobnepajaaGreat.M

noncomputable def St.none : St := ⟨[], [], [], [], [], [], [], [], [], [], [], []⟩
theorem KC (σ : St) : Low St.none σ := ⟨fun i hi => absurd hi (by simp [St.none]), fun i hi => absurd hi (by simp [St.none]), fun i hi => absurd hi (by simp [St.none]), fun i hi => absurd hi (by simp [St.none]), fun i hi => absurd hi (by simp [St.none]), Nat.zero_le _, Nat.zero_le _, Nat.zero_le _, Nat.zero_le _, Nat.zero_le _⟩
theorem Jp (q l d n0 : Nat) (js : List Nat) : Abv St.none q l d n0 js := ⟨Nat.zero_le _, Nat.zero_le _, Nat.zero_le _, fun _ _ => Nat.zero_le _, Nat.zero_le _⟩

abbrev Si : Type := Int × Int × kX × List VdT × List Int × Unit
structure DU (t : Si) : Prop where
  s : t.2.2.1.2.2.1.length < 4611686018427387904
  r : I64 t.2.2.1.2.2.2.1
  l : ∀ n ∈ t.2.2.1.2.2.2.2.1, I64 n
  n : t.2.2.1.2.2.2.2.1.length ≤ 1048576
  e : I64 t.2.2.1.2.2.2.2.2.1
  v : ∀ v ∈ t.2.2.2.1, I64 v.1 ∧ I64 v.2.1
  m : t.2.2.2.1.length ≤ 1048576
theorem DU.cmd {t : Si} (h : DU t) {a : Int} (ha0 : 0 ≤ a) (ha5 : a ≤ 5) {n : Nat} (hn : n ≤ 10000) : Jj (a, ((n + 1 : Nat) : Int), t.2.2.1.2.2.1, t.2.2.1.2.2.2.1, t.2.2.1.2.2.2.2.1, t.2.2.1.2.2.2.2.2.1, ()) :=
  ⟨⟨by show (_ : Int) ≤ a; omega, by show a < _; omega⟩, xK (by omega), h.s, h.r, h.l, h.n, h.e⟩

section
variable {σ σ0 σ1 : St} {q l d n0 k : Nat} {a : Int} {A : AD} {js : List Nat} {segs : List Sg} {R : List (List UInt8)} {C : List kX} {V : List VdT}
abbrev QN (σ : St) (q l d n0 : Nat) (a : Int) (R : List (List UInt8)) (C : List kX) (V : List VdT) (A : AD) (js : List Nat) (segs : List Sg) (k : Nat) : Prop := QA St.none σ q l d n0 a R C V A js segs k
theorem QA.toN (h : QA σ0 σ q l d n0 a R C V A js segs k) : QN σ q l d n0 a R C V A js segs k := ⟨h.qs, KC σ, Jp _ _ _ _ _, h.arm, h.room, h.lr, h.ls, h.sz⟩
theorem QA.up (h : QN σ q l d n0 a R C V A js segs k) (hk : Low σ σ1) : QN σ1 q l d n0 a R C V A js segs k := ⟨h.qs.low hk, KC σ1, Jp _ _ _ _ _, h.arm, h.room, h.lr, h.ls, h.sz⟩
theorem QA.more (h : QN σ q l d n0 a R C V A js segs k) {k' : Nat} (hk : k ≤ k') : QN σ q l d n0 a R C V A js segs k' := ⟨h.qs, h.low, h.abv, h.arm, h.room, by have := h.lr; omega, by have := h.ls; omega, by have := h.sz; omega⟩

theorem QA.XC (h : QN σ q l d n0 a R C V A js segs k) (hk : k ≤ 80) (ha0 : 0 ≤ a) (ha5 : a ≤ 5) (keep : List Int) :
    ∃ σ1 σ2 q' l' A' js', kJ (some d) keep σ = some (0, σ1) ∧ fZ (some d) a σ1 = some ((some q', 0), σ2) ∧ QN σ2 q' l' d n0 a R C V A' js' segs k ∧ σ2.aH = σ.aH := by
  obtain ⟨⟨⟨ws, f0, sub, nx, dn⟩, qo, pl, w32⟩, low, abv, arm, room, lr, ls, sz⟩ := h
  obtain ⟨σ1, σ2, B, js', segs', g1, g2, g3, g4, g5, g6, g7, g8, g9, g10, g11⟩ := SS (most := 2048) ⟨ws.dv, ws.ok, ws.dl, ws.good, ws.len⟩ keep (by decide) (by decide)
  have hs : segs' = segs := by
    rcases g11 with ⟨h1, h2⟩ | ⟨pre, g, m, h1, h2, h3, h4, -⟩
    · rw [h1, h2]
    · subst h1 h2
      rw [oM, List.take_of_length_le (by omega)]
  subst hs
  have hw : WR σ2 σ1.aj.length d n0 B js' segs' R := ⟨g9, f0, sub, nx, g8⟩
  obtain ⟨σ3, k1, k2, k3⟩ := KP ha0 ha5 g2 hw (by omega) pl w32
  refine ⟨σ1, σ3, _, _, B, js', ?_, k1, ⟨k2, KC _, Jp _ _ _ _ _, g7, g6.trans room, lr, ls, sz⟩, k3.rq.trans g3.ref⟩
  rw [eq_27]; exact g1

end
end Go.Proofs.YtbnmhjobnepajaaGreat.M


namespace Go.Proofs.YtbnmhjobnepajaaGreat.M

end Go.Proofs.YtbnmhjobnepajaaGreat.M


namespace Go.Proofs.YtbnmhjobnepajaaGreat.M

theorem Wn : ∀ t tab, aU TB St.none t = some tab → tab.xs.length = 0 := by
  intro t tab h
  unfold TB St.none at h
  simp only [aU] at h
  repeat' split at h
  all_goals first
    | (simp only [Option.some.injEq] at h; subst h; rfl)
    | cases h
theorem wf_i64 {n : Int} (h : (Lit.int .i64 n).wf = true) : I64 n := by
  simp only [Lit.wf, Bool.and_eq_true, decide_eq_true_eq] at h
  have h1 : IntKind.i64.min = -9223372036854775808 := by decide
  have h2 : IntKind.i64.max = 9223372036854775807 := by decide
  rw [h1, h2] at h
  exact ⟨h.1, by omega⟩
theorem ZF {t : Si} (f : Kd.Fits bD t) (m : Kd.Sm 1048576 bD t) : DU t := by
  obtain ⟨f1, f2, ⟨f3, f4, f5, f6, ⟨f7, f8⟩, f9, -⟩, ⟨f10, f11⟩, ⟨f12, f13⟩, -⟩ := f
  obtain ⟨-, -, ⟨-, -, m5, -, ⟨m7, -⟩, -, -⟩, ⟨m10, -⟩, -, -⟩ := m
  refine ⟨?_, wf_i64 f6, fun n hn => wf_i64 (f8 n hn), m7, wf_i64 f9, fun v hv => ⟨wf_i64 (f11 v hv).1, wf_i64 (f11 v hv).2.1⟩, m10⟩
  have : t.2.2.1.2.2.1.length ≤ 1048576 := m5
  omega
theorem Xh {l : List Si} (f : Kd.Fits (.list bD) l) (m : Kd.Sm 1048576 (.list bD) l) : ∀ t ∈ l, DU t := fun t ht => ZF (f.2 t ht) (m.2 t ht)
end Go.Proofs.YtbnmhjobnepajaaGreat.M


namespace Go.Proofs.YtbnmhjobnepajaaGreat.M

theorem Un {α : Type} {P : Nat → α → Bool} : ∀ {i : Nat} {l : List α}, yE P i l = true → ∀ j (h : j < l.length), P (i + j) l[j] = true
  | i, [], _, j, hj => by simp at hj
  | i, x :: r, h, j, hj => by
    unfold yE at h
    rw [Bool.and_eq_true] at h
    cases j with
    | zero => exact h.1
    | succ j =>
      have := Un h.2 j (by simpa using hj)
      rw [show i + (j + 1) = i + 1 + j by omega]
      simpa using this
theorem tX.acP {a : Int} {R : List (List UInt8)} {C : List kX} {V : List VdT} (h : tX a R C V) : ∀ k (hk : k < C.length), (C[k]).2.1 = ((k + 1 : Nat) : Int) := by
  induction h with
  | nil => intro k hk; simp at hk
  | @cmd R C V c _ _ _ h2 ih =>
    intro k hk
    by_cases hl : k < C.length
    · rw [List.getElem_append_left hl]; exact ih k hl
    · have : k = C.length := by simp at hk; omega
      subst this
      simpa using h2
  | vds _ _ _ ih => exact ih
theorem tX.acQ {a : Int} {R : List (List UInt8)} {C : List kX} {V : List VdT} (h : tX a R C V) : ∀ k (hk : k < V.length), (V[k]).1 = ((k + 1 : Nat) : Int) := by
  induction h with
  | nil => intro k hk; simp at hk
  | cmd _ _ _ _ ih => exact ih
  | @vds R C V l _ _ hf ih =>
    intro k hk
    by_cases hl : k < V.length
    · rw [List.getElem_append_left hl]; exact ih k hl
    · rw [List.getElem_append_right (by omega)]
      unfold wW at hf
      rw [Bool.and_eq_true] at hf
      have := Un hf.1 (k - V.length) (by simp at hk; omega)
      simp only [decide_eq_true_eq] at this
      rw [this]
      omega

section
variable {σ : St} {q l d n0 k : Nat} {A : AD} {js : List Nat} {segs : List Sg} {R : List (List UInt8)} {C : List kX} {V : List VdT}
theorem ry (h : QN σ q l d n0 0 R C V A js segs k) (hk : k ≤ 80) {n : Nat} (hn : n ≤ V.length) {i : Nat} (hi : i < 1000) : (
  Option.bind (dY (some q) σ) fun x18 =>
  Option.bind (eY (some q) σ) fun x19 =>
  Option.bind (bC (fO (some q, σ) x18) (0 : Int)) fun x22 =>
  ku x22 (fun x23 =>
  Option.bind (bC (fP (some q, σ) x18 x19) (0 : Int)) fun x27 =>
  ku x27 (fun x28 =>
  Option.bind (if (!(decide ((x18.length : Int) < (n : Int)) || decide ((x19.length : Int) > 32))) = true then
  bH (some q) σ
  else
  some (0 : Int)) fun x29 =>
  Option.bind (if (!((decide ((x18.length : Int) < (n : Int)) || decide ((x19.length : Int) > 32)) || (x29 != IntKind.wrap .i64 ((x18.length : Int) + 1)))) = true then
  dB (some q) σ
  else
  some (0 : Int)) fun x30 =>
  if (((decide ((x18.length : Int) < (n : Int)) || decide ((x19.length : Int) > 32)) || (x29 != IntKind.wrap .i64 ((x18.length : Int) + 1))) || (x30 != IntKind.wrap .i64 (IntKind.wrap .i64 ((x18.length : Int) + (x19.length : Int)) + 1))) = true then
  some (.inr (.inr (false, σ)))
  else
  some (.inl (some q, (IntKind.wrap .i64 ((i : Int) + 1), σ)))) Option.some) Option.some : Option (((Option Nat) × Int × St) ⊕ (St ⊕ (Bool × St)))) = some (.inl (some q, ((i + 1 : Nat) : Int), σ)) := by
  obtain ⟨b1, b2⟩ := h.qs.pl.len
  have hlr := h.lr
  have hw := h.qs.w32
  have hdl : (C.drop V.length).length = C.length - V.length := by simp
  rw [h.qs.notices (by omega), h.qs.waiting (by omega)]
  simp only [Option.bind_some]
  rw [SK (l := V) (fun _ _ => true) (e := .inr (.inr (false, σ))) (fun j hj => ?_) (by unfold fO; simp), Gp (fun _ _ _ => rfl)]
  · simp only [if_true, Option.bind_some, ku]
    rw [SK (l := C.drop V.length) (fun _ _ => true) (e := .inr (.inr (false, σ))) (fun j hj => ?_) (by unfold fP; simp), Gp (fun _ _ _ => rfl)]
    · simp only [if_true, Option.bind_some, ku]
      have c1 : (decide ((V.length : Int) < (n : Int)) || decide (((C.drop V.length).length : Int) > 32)) = false := by
        rw [Bool.or_eq_false_iff, hdl]
        exact ⟨decide_eq_false (by omega), decide_eq_false (by omega)⟩
      have e1 : IntKind.wrap .i64 ((V.length : Int) + 1) = ((V.length + 1 : Nat) : Int) := fJ (by omega)
      have e2 : IntKind.wrap .i64 ((V.length : Int) + ((C.drop V.length).length : Int)) = (C.length : Int) := by rw [hdl, aO (by omega) (by omega)]; omega
      have e3 : IntKind.wrap .i64 ((C.length : Int) + 1) = ((C.length + 1 : Nat) : Int) := fJ (by omega)
      rw [c1, e1, e2, e3]
      simp only [Bool.not_false, if_true, h.qs.first (by omega), Option.bind_some, bne_self_eq_false, Bool.or_self, h.qs.next (by omega), Bool.false_eq_true, if_false, fJ (i := i) (by omega)]
    · have hj' : j < C.length - V.length := by omega
      have hg : (C.drop V.length)[j] = C[V.length + j] := by simp
      have hs := h.qs.pl.acP (V.length + j) (by omega)
      have ha := (h.qs.pl.each C[V.length + j] (List.getElem_mem _)).2
      have e1 : IntKind.wrap .i64 ((V.length : Int) + 1) = ((V.length + 1 : Nat) : Int) := fJ (by omega)
      have e2 : IntKind.wrap .i64 (((V.length + 1 : Nat) : Int) + (j : Int)) = ((V.length + j + 1 : Nat) : Int) := by rw [aO (by omega) (by omega)]; omega
      unfold fP
      simp only [fJ (i := j) (by omega), oC hj, Option.bind_some, e1, e2, hg, hs]
      rw [if_pos (by simp; omega)]
      simp only [bne_self_eq_false, Bool.not_false, if_true, Option.bind_some, ha, Bool.or_self, Bool.false_eq_true, if_false]
  · have hs := h.qs.pl.acQ j hj
    unfold fO
    simp only [fJ (i := j) (by omega), oC hj, Option.bind_some, hs]
    rw [if_pos (by simp; omega)]
    simp only [bne_self_eq_false, Bool.false_eq_true, if_false, if_true]
theorem Wq {p0 : List Si} {x0 : ((Option Nat) × Int) × St} (hx0 : x0.1.1 = some d) (hp : ∀ t ∈ p0, DU t) {i : Nat} (hi : i < p0.length) (hi60 : i < 60) (h : QN σ q l d n0 0 R C V A js segs i) :
    ∃ σ' q' l' R' C' V' A' js' segs', eu p0 x0 (some q, (i : Int), σ) = some (.inl (some q', ((i + 1 : Nat) : Int), σ')) ∧ QN σ' q' l' d n0 0 R' C' V' A' js' segs' (i + 1) := by
  have hfit := hp p0[i] (List.getElem_mem hi)
  obtain ⟨b1, b2⟩ := h.qs.pl.len
  have hlr := h.lr
  generalize ht : p0[i] = t at *
  unfold eu
  rw [if_pos (by simp; omega)]
  simp only [oC hi, Option.bind_some, hx0, ht, h.qs.notices (by omega)]
  by_cases hk : t.1 ≥ 0 ∧ t.1 < 4
  · rw [if_pos (by simpa using hk)]
    obtain ⟨r, σ', A', js', segs', e1, e2, e3⟩ := h.Ud (by omega) (hfit.cmd (by decide) (by decide) (n := C.length) (by omega))
    rw [e1]
    simp only [Option.bind_some, ku]
    rcases e3 with ⟨c1, rfl, e4⟩ | ⟨c1, c2, rfl, e4⟩ | ⟨c1, c2, rfl, e4⟩
    · exact ⟨_, _, _, _, _, _, _, _, _, ry e4 (by omega) (Nat.le_refl _) (by omega), e4⟩
    · exact ⟨_, _, _, _, _, _, _, _, _, ry e4 (by omega) (Nat.le_refl _) (by omega), e4⟩
    · exact ⟨_, _, _, _, _, _, _, _, _, ry e4 (by omega) (Nat.le_refl _) (by omega), e4⟩
  · rw [if_neg (by simpa using hk)]
    have dn : ∀ {v : List VdT}, v.length ≤ 1048576 → (∀ y ∈ v, I64 y.1 ∧ I64 y.2.1) → ∃ r σ' R' V' A' js' segs', dK (some q) v σ = some (r, σ') ∧ QN σ' q l d n0 0 R' C V' A' js' segs' (i + 1) ∧ V.length ≤ V'.length := by
      intro v hv1 hv2
      obtain ⟨r, σ', A', js', segs', e1, e2, e3⟩ := h.done (by omega) hv2 hv1
      rcases e3 with ⟨c1, rfl, e4⟩ | ⟨c1, c2, rfl, e4⟩ | ⟨c1, c2, c3, rfl, e4⟩ | ⟨c1, c2, c3, rfl, e4⟩
      · exact ⟨_, _, _, _, _, _, _, e1, e4, Nat.le_refl _⟩
      · exact ⟨_, _, _, _, _, _, _, e1, e4, Nat.le_refl _⟩
      · exact ⟨_, _, _, _, _, _, _, e1, e4, Nat.le_refl _⟩
      · exact ⟨_, _, _, _, _, _, _, e1, e4, by simp⟩
    by_cases h4 : t.1 = 4
    · rw [if_pos (by simpa using h4)]
      obtain ⟨r, σ', R', V', A', js', segs', e1, e2, e3⟩ := dn hfit.m hfit.v
      rw [e1]
      simp only [Option.bind_some, ku]
      exact ⟨_, _, _, _, _, _, _, _, _, ry e2 (by omega) e3 (by omega), e2⟩
    · rw [if_neg (by simpa using h4)]
      by_cases h5 : t.1 = 5
      · rw [if_pos (by simpa using h5)]
        obtain ⟨v, v1, v2, v3⟩ := Yl h.qs (by omega) t.2.1
        obtain ⟨r, σ', R', V', A', js', segs', e1, e2, e3⟩ := dn (v := v) (by omega) v3
        rw [v1]
        simp only [Option.bind_some]
        rw [e1]
        simp only [Option.bind_some, ku]
        exact ⟨_, _, _, _, _, _, _, _, _, ry e2 (by omega) e3 (by omega), e2⟩
      · rw [if_neg (by simpa using h5)]
        obtain ⟨σ1, σ2, q', l', A', js', e1, e2, e3, e4⟩ := h.XC (by omega) (by decide) (by decide) t.2.2.2.2.1
        have h3 := e3.more (k' := i + 1) (by omega)
        simp only [e1, e2, Option.bind_some]
        rw [if_neg (by simp)]
        simp only [Option.bind_some, ku]
        exact ⟨_, _, _, _, _, _, _, _, _, ry h3 (by omega) (Nat.le_refl _) (by omega), h3⟩
theorem NI {p0 : List Si} {x0 : ((Option Nat) × Int) × St} (hx0 : x0.1.1 = some d) (hp : ∀ t ∈ p0, DU t) : ∀ (k i : Nat), i + k = min p0.length 60 → ∀ {σ : St} {q l : Nat} {R : List (List UInt8)} {C : List kX} {V : List VdT} {A : AD} {js : List Nat} {segs : List Sg},
    QN σ q l d n0 0 R C V A js segs i → ∃ σ', bC (eu p0 x0) (some q, (i : Int), σ) = some (.inl σ')
  | 0, i, hi, σ, q, l, R, C, V, A, js, segs, h => ⟨σ, kH (by
      unfold eu
      rw [if_neg (by simp; omega)])⟩
  | k + 1, i, hi, σ, q, l, R, C, V, A, js, segs, h => by
    obtain ⟨σ', q', l', R', C', V', A', js', segs', e1, e2⟩ := Wq hx0 hp (i := i) (by omega) (by omega) h
    rw [ng e1]
    exact NI hx0 hp k (i + 1) (by omega) e2
theorem Ws {p0 : List Si} (hp : ∀ t ∈ p0, DU t) (σ : St) : ∃ σ', iD p0 σ = some (true, σ') := by
  obtain ⟨σa, σ2, q, l, A, e1, e2, h0, e3⟩ := QA.start (a := 0) σ (by decide) (by decide)
  obtain ⟨σ3, w1, w2, w3⟩ := Xn σ2
  obtain ⟨σ', l1⟩ := NI (x0 := ((some σ.af.length, 0), σa)) (p0 := p0) rfl hp (min p0.length 60) 0 (by omega) (h0.toN.up w2)
  refine ⟨σ', ?_⟩
  unfold iD
  rw [e1]
  simp only [Option.bind_some]
  rw [e2]
  simp only [Option.bind_some]
  rw [if_pos (by simp), w1]
  simp only [Option.bind_some]
  rw [if_neg (by simp)]
  rw [show ((0 : Nat) : Int) = (0 : Int) from rfl] at l1
  rw [l1]
  rfl
end
end Go.Proofs.YtbnmhjobnepajaaGreat.M


namespace Go.Proofs.YtbnmhjobnepajaaGreat.M

theorem G7 {x0 : Kd.den (.list bD)} (f0 : Kd.Fits (.list bD) x0) (m0 : Kd.Sm 1048576 (.list bD) x0) : ∃ σ', iD x0 St.none = some (true, σ') :=
  Ws (Xh f0 m0) St.none
end Go.Proofs.YtbnmhjobnepajaaGreat.M

