/- Own texts, laid together: EX32 EX33 EX34 EX35. -/
import Derived.Carry
import Derived.ChangeOld
import Derived.OpenShut
import Derived.ProofKit
import Derived.ShutString
import Derived.SizedLaws
import Derived.WalkKit
import Derived.Test.YtefppgdfcnediaaGreatZ1
import Derived.Test.YtefppgdfcnediaaGreatZ2
import Derived.Test.YtefppgdfcnediaaGreatZ3
/- Own executor, part 32: regions whose order is open. -/
set_option linter.unusedVariables false
set_option linter.unusedSimpArgs false
set_option maxRecDepth 100000
namespace Go.Proofs.YtefppgdfcnediaaGreat.X
open Go Go.RowKit

theorem kind3 (op : Op) : kindI op = 0 ∨ kindI op = 1 ∨ kindI op = 2 := by
  cases op with
  | convert s d x =>
    show (match undA s, undA d with | some .string, some (.slice _) => 1 | _, _ => 0) = 0 ∨ _
    have e : kindI (.convert s d x) = (match undA s, undA d with | some .string, some (.slice _) => 1 | _, _ => 0) := rfl
    rw [e]
    split
    · exact .inr (.inl rfl)
    · exact .inl rfl
  | call c =>
    have e : kindI (.call c) = (match c.callee with
      | .builtin .len => 0
      | .builtin .cap => 0
      | .builtin .min => 0
      | .builtin .max => 0
      | _ => 2) := rfl
    rw [e]
    split
    · exact .inl rfl
    · exact .inl rfl
    · exact .inl rfl
    · exact .inl rfl
    · exact .inr (.inr rfl)
  | _ => first | exact .inl rfl | exact .inr (.inl rfl) | exact .inr (.inr rfl)

/-- What the shape of such a region says. -/
structure Shape (ops : Array Oper) (N : Nat) (anc loud ord : List Nat) : Prop where
  an : anc = M.ancL ops.toList []
  down : M.downL ops.toList 0 = true
  diff : M.dstDiff ops N ops.size = true
  old : ∀ i, i < ops.size → M.oldOK ops anc ops.size i = true
  asc : M.ascL loud = true
  llt : ∀ l ∈ loud, l < ops.size
  len : ord.length = ops.size
  has : ∀ i, i < ops.size → i ∈ ord
  dep : ∀ i, i < ops.size → depOK ops ord i = true
  lv : ∀ i, i < ops.size → lvOK ops.size anc loud ord i = true
  kd : ∀ i, i < ops.size → kdOK ops loud i = true
  mono : M.ascL (loud.map fun l => posN ord l) = true
  pos : ∀ q, q < ops.size → posN ord (ord.getD q 0) = q
  lt : ∀ q, q < ops.size → ord.getD q ops.size < ops.size
theorem regOK_shape {ops : Array Oper} {N : Nat} {anc loud ord : List Nat} (h0 : anc = M.ancL ops.toList []) (h : regOK ops N anc loud ord = true) : Shape ops N anc loud ord := by
  unfold regOK at h
  simp only [Bool.and_eq_true] at h
  obtain ⟨h1, h2, h3, h4, h5, h6, h7, h8, h9, h10, h11, h12, h13⟩ := h
  exact ⟨h0, h1, h2, fun i hi => M.allI_get h3 hi, h4, fun l hl => blt_tt.1 (List.all_eq_true.1 h5 l hl), beq_tt.1 h6, fun i hi => by simpa using M.allI_get h7 hi, fun i hi => M.allI_get h8 hi, fun i hi => M.allI_get h9 hi, fun i hi => M.allI_get h10 hi, h11,
    fun q hq => beq_tt.1 (M.allI_get (f := fun q => Nat.beq (posN ord (ord.getD q 0)) q) h12 hq), fun q hq => blt_tt.1 (M.allI_get (f := fun q => Nat.blt (ord.getD q ops.size) ops.size) h13 hq)⟩

section
variable {ops : Array Oper} {N : Nat} {anc loud ord : List Nat}
theorem Shape.at (hs : Shape ops N anc loud ord) {i : Nat} (hi : i < ops.size) : ord[posN ord i]? = some i ∧ posN ord i < ops.size := by
  have hl : posN ord i < ord.length := List.idxOf_lt_length_of_mem (hs.has i hi)
  refine ⟨?_, by rw [← hs.len]; exact hl⟩
  rw [List.getElem?_eq_getElem hl]
  congr 1
  exact List.getElem_idxOf hl
theorem Shape.of (hs : Shape ops N anc loud ord) {q i : Nat} (hq : ord[q]? = some i) : posN ord i = q ∧ i < ops.size ∧ q < ops.size := by
  have hl : q < ord.length := (List.getElem?_eq_some_iff.1 hq).1
  rw [hs.len] at hl
  have h1 := hs.pos q hl
  have h2 := hs.lt q hl
  rw [List.getD_eq_getElem?_getD, hq] at h1 h2
  exact ⟨h1, h2, hl⟩
theorem Shape.tmono (hs : Shape ops N anc loud ord) {k k' : Nat} (h : k ≤ k') : tK ops.size ord loud k ≤ tK ops.size ord loud k' := by
  have key : ∀ (l : List Nat) (a : Nat), M.ascL (a :: l) = true → ∀ x ∈ l, a < x := fun l a h => M.ascL_lt h
  have mono : ∀ (L : List Nat) (k k' : Nat) (x y : Nat), M.ascL L = true → k < k' → L[k]? = some x → L[k']? = some y → x < y := by
    intro L
    induction L with
    | nil => intro k k' x y _ _ hx; simp at hx
    | cons a L ih =>
      intro k k' x y ha hkk hx hy
      cases k' with
      | zero => omega
      | succ k' =>
        have hy : L[k']? = some y := by simpa using hy
        cases k with
        | zero =>
          simp at hx; subst hx
          exact M.ascL_lt ha y (List.mem_of_getElem? hy)
        | succ k => exact ih k k' x y (M.ascL_tail ha) (by omega) (by simpa using hx) hy
  rcases Nat.lt_or_ge k k' with hlt | hge
  · unfold tK
    cases hk' : loud[k']? with
    | none =>
      cases hk : loud[k]? with
      | none => exact Nat.le_refl _
      | some x =>
        simp only
        have hx := hs.llt x (List.mem_of_getElem? hk)
        have := (hs.at hx).2
        omega
    | some y =>
      have hl' := (List.getElem?_eq_some_iff.1 hk').1
      have hk : loud[k]? = some loud[k] := List.getElem?_eq_getElem (by omega)
      rw [hk]
      simp only
      have := mono (loud.map fun l => posN ord l) k k' (posN ord loud[k]) (posN ord y) hs.mono hlt (by rw [List.getElem?_map, hk]; rfl) (by rw [List.getElem?_map, hk']; rfl)
      omega
  · have : k = k' := by omega
    rw [this]; exact Nat.le_refl _
theorem Shape.tle (hs : Shape ops N anc loud ord) (k : Nat) : tK ops.size ord loud k ≤ ops.size := by
  unfold tK
  cases hk : loud[k]? with
  | none => exact Nat.le_refl _
  | some x => exact Nat.le_of_lt (hs.at (hs.llt x (List.mem_of_getElem? hk))).2
/-- Ancestors come earlier here, too. -/
theorem Shape.before (hs : Shape ops N anc loud ord) {i j : Nat} (hj : j < ops.size) (hb : (anc.getD j 0).testBit i = true) : i < ops.size → posN ord i < posN ord j := by
  intro hi
  let S : Nat → Prop := fun x => x < ops.size ∧ posN ord x < posN ord j
  have hcl : M.Closed ops S := by
    intro x o hx ho d hd
    have := hs.dep x hx.1
    unfold depOK at this
    rw [ho] at this
    have h1 := blt_tt.1 (List.all_eq_true.1 this d hd)
    have h2 := M.downL_get hs.down (j := x) (o := o) (by simpa using ho) d hd
    exact ⟨by have := hx.1; omega, by have := hx.2; omega⟩
  have ho : ops[j]? = some ops[j] := Array.getElem?_eq_getElem hj
  have := M.anc_ready (S := S) hs.down hcl j i ops[j] ho (fun d hd => by
    have h0 := hs.dep j hj
    unfold depOK at h0
    rw [ho] at h0
    have h1 := blt_tt.1 (List.all_eq_true.1 h0 d hd)
    have h2 := M.downL_get hs.down (j := j) (o := ops[j]) (by simp) d hd
    exact ⟨by omega, h1⟩) (by rw [← hs.an]; exact hb)
  exact this.2
end

/-- What is known when some have come up. -/
structure ParX (ops : Array Oper) (N : Nat) (loud ord : List Nat) (W0 : WX) (r0 : Gh) (e0 : Env) (U : Nat → AV) (Mt : Nat → HS) (S : Nat → Prop) [DecidablePred S] (a : Act) (w : World) (r : Gh) : Prop where
  le : Gh.le r0 r
  size : a.tmps.size = N
  defs : a.defers = []
  new : ∀ i d, i < ops.size → S i → M.dstOf ops i = some d → d < 512 → RV r (U i) (a.tmps.getD d undef)
  old : ∀ s, s < 512 → (∀ i, i < ops.size → S i → M.dstOf ops i ≠ some s) → RV r ((gpB 3 s).f e0) (a.tmps.getD s undef)
  rel : Rel ⟨W0.w, PX W0.x ops ord Mt S (tK ops.size ord loud (loud.filter fun l => decide (S l)).length)⟩ r (Mt (tK ops.size ord loud (loud.filter fun l => decide (S l)).length)) w
end Go.Proofs.YtefppgdfcnediaaGreat.X

/- Own executor, part 33: regions whose order is open. -/
set_option linter.unusedVariables false
set_option linter.unusedSimpArgs false
set_option linter.unusedSectionVars false
set_option maxRecDepth 100000
namespace Go.Proofs.YtefppgdfcnediaaGreat.X
open Go Go.RowKit

noncomputable def uAt (rs : List RD) (ord : List Nat) (i : Nat) : AV := match rs[posN ord i]? with | some r => r.u | none => aUnd

section
variable {ops : Array Oper} {N : Nat} {anc loud ord : List Nat}
theorem Shape.dst (hs : Shape ops N anc loud ord) {i d : Nat} (hi : i < ops.size) (hd : M.dstOf ops i = some d) : d < N ∧ ∀ j, j < ops.size → M.dstOf ops j = some d → j = i := by
  have h1 := hs.diff
  unfold M.dstDiff at h1
  have h2 := M.allI_get h1 hi
  rw [hd] at h2
  simp only [Bool.and_eq_true] at h2
  refine ⟨blt_tt.1 h2.1, fun j hj hdj => ?_⟩
  have h3 := M.allI_get h2.2 hj
  rw [hdj] at h3
  simp only [Bool.or_eq_true, Bool.not_eq_true'] at h3
  rcases h3 with h3 | h3
  · exact (beq_tt.1 h3).symm
  · rw [Nat.beq_refl] at h3; cases h3
theorem Shape.loudAt (hs : Shape ops N anc loud ord) {i : Nat} (hi : i ∈ loud) : ∃ k, loud[k]? = some i ∧ tK ops.size ord loud k = posN ord i ∧ k < loud.length := by
  obtain ⟨k, hk, rfl⟩ := List.mem_iff_getElem.1 hi
  have h1 : loud[k]? = some loud[k] := List.getElem?_eq_getElem hk
  exact ⟨k, h1, by unfold tK; rw [h1], hk⟩
theorem Shape.quiet (hs : Shape ops N anc loud ord) {i : Nat} {o : Oper} (hi : ops[i]? = some o) : (i ∉ loud → kindI o.op ≠ 2) ∧ (i ∈ loud → kindI o.op = 2) := by
  have hlt := (Array.getElem?_eq_some_iff.1 hi).1
  have h := hs.kd i hlt
  unfold kdOK at h
  rw [hi] at h
  have h := bEq_ok h
  refine ⟨fun hn hk => ?_, fun hm => ?_⟩
  · have : loud.contains i = true := by rw [h]; exact beq_tt.2 hk
    exact hn (by simpa using this)
  · have : loud.contains i = true := by simpa using hm
    rw [this] at h
    exact beq_tt.1 h.symm

variable {e0 : Env} {h0 : HS} {rs : List RD} {e' : Env} {h' : HS} {W0 : WX} {S : Nat → Prop} {r : Gh} {w : World}
theorem adv_to (hs : Shape ops N anc loud ord) (hc : Chain N ops ord e0 h0 rs e' h') (hx : ∀ j o, W0.x j = some o → j < h0.nx) : ∀ (m t : Nat), t + m ≤ ops.size → (∀ q i, t ≤ q → q < t + m → ord[q]? = some i → ¬ S i ∧ i ∉ loud) → Rel ⟨W0.w, PX W0.x ops ord (memAt rs h') S t⟩ r (memAt rs h' t) w →
    Rel ⟨W0.w, PX W0.x ops ord (memAt rs h') S (t + m)⟩ r (memAt rs h' (t + m)) w
  | 0, t, _, _, hR => hR
  | m + 1, t, hn, hq, hR => by
    have ih := adv_to hs hc hx m t (by omega) (fun q i h1 h2 => hq q i h1 (by omega)) hR
    have hlt : t + m < ord.length := by rw [hs.len]; omega
    have ht : ord[t + m]? = some ord[t + m] := List.getElem?_eq_getElem hlt
    obtain ⟨q1, q2⟩ := hq (t + m) _ (by omega) (by omega) ht
    obtain ⟨rd, k1, ⟨o, k2, _⟩, _⟩ := hc.step _ _ ht
    exact PX_adv hc hx ht k2 ((hs.quiet k2).1 q2) q1 (kind3 _) ih
end

theorem cnt_le {anc loud : List Nat} {S : Nat → Prop} [DecidablePred S] {i : Nat} (h1 : ∀ x, (anc.getD i 0).testBit x = true → S x) (h2 : ∀ x, S x → (anc.getD x 0).testBit i = false ∧ x ≠ i) :
    levN anc loud i ≤ (loud.filter fun l => decide (S l)).length ∧ (loud.filter fun l => decide (S l)).length ≤ latN anc loud i := by
  refine ⟨M.filter_le fun x _ hx => decide_eq_true (h1 x hx), M.filter_le fun x _ hx => ?_⟩
  obtain ⟨k1, k2⟩ := h2 x (of_decide_eq_true hx)
  rw [k1]
  have : Nat.beq x i = false := beq_ff.2 k2
  rw [this]; rfl

theorem par_ok {ops : Array Oper} {N : Nat} {anc loud ord : List Nat} (hs : Shape ops N anc loud ord) {e0 : Env} {h0 : HS} {rs : List RD} {e' : Env} {h' : HS} (hc : Chain N ops ord e0 h0 rs e' h')
    (hck : ∀ i o, ops[i]? = some o → kindI o.op = 0 → ∀ k, levN anc loud i ≤ k → k ≤ latN anc loud i → ∀ r, rs[posN ord i]? = some r → ∀ W, RealOp ops i r.e r.u W (memAt rs h' (tK ops.size ord loud k)) W (memAt rs h' (tK ops.size ord loud k)))
    {W0 : WX} {r0 : Gh} {a0 : Act} {w0 : World} {Q : Exit → Act → World → Prop} (hE : EnvR r0 N e0 a0) (hR : Rel W0 r0 h0 w0) (fin : ∀ a' r' w', Gh.le r0 r' → EnvR r' N e' a' → Rel W0 r' h' w' → Q .normal a' w') :
    wpAny P .any ops Q ops.size (Array.replicate ops.size false) a0 w0 := by
  have hx : ∀ j o, W0.x j = some o → j < h0.nx := fun j o hj => (hR.pen j o hj).1
  have hlen : rs.length = ops.size := by rw [hc.len, hs.len]
  have hrec : ∀ i, i < ops.size → ∃ r, rs[posN ord i]? = some r ∧ uAt rs ord i = r.u := by
    intro i hi
    have hl : posN ord i < rs.length := by rw [hlen]; exact (hs.at hi).2
    refine ⟨_, List.getElem?_eq_getElem hl, ?_⟩
    unfold uAt
    rw [List.getElem?_eq_getElem hl]
  -- what a slot holds at a time
  have slotNew : ∀ (p i s : Nat), i < ops.size → M.dstOf ops i = some s → s < 512 → posN ord i < p → p ≤ ops.size → (gpB 3 s).f (envAt rs e' p) = uAt rs ord i := by
    intro p i s hi hd hs512 hlt hp
    obtain ⟨r, hr, hu⟩ := hrec i hi
    rw [hu]
    refine hc.new hs512 (hs.at hi).1 hr hd p hlt (by rw [hs.len]; exact hp) fun q' j h1 h2 hj hdj => ?_
    obtain ⟨k1, k2, _⟩ := hs.of hj
    have := (hs.dst hi hd).2 j k2 hdj
    subst this
    omega
  -- the end
  have done : ∀ (S : Nat → Prop) [DecidablePred S] (a : Act) (w : World) (r : Gh), ParX ops N loud ord W0 r0 e0 (uAt rs ord) (memAt rs h') S a w r → (∀ i, i < ops.size → S i) → Q .normal a w := by
    intro S _ a w r hI hall
    have hcnt : (loud.filter fun l => decide (S l)).length = loud.length := by
      rw [List.filter_eq_self.2 fun x hx => decide_eq_true (hall x (hs.llt x hx))]
    have ht : tK ops.size ord loud loud.length = ops.size := by
      unfold tK
      rw [List.getElem?_eq_none (Nat.le_refl _)]
    have hrel := hI.rel
    rw [hcnt, ht] at hrel
    have hm : memAt rs h' ops.size = h' := by
      unfold memAt
      rw [List.getElem?_eq_none (by omega)]
    have he : envAt rs e' ops.size = e' := by
      unfold envAt
      rw [List.getElem?_eq_none (by omega)]
    rw [hm] at hrel
    refine fin a r w hI.le ⟨hI.size, hI.defs, fun s hs512 => ?_⟩ (hrel.less fun j o hj => ?_)
    · by_cases hw : ∃ i, i < ops.size ∧ M.dstOf ops i = some s
      · obtain ⟨i, hi, hd⟩ := hw
        rw [← he, slotNew ops.size i s hi hd hs512 (hs.at hi).2 (Nat.le_refl _)]
        exact hI.new i s hi (hall i hi) hd hs512
      · have hno : ∀ i, i < ops.size → M.dstOf ops i ≠ some s := fun i hi hd => hw ⟨i, hi, hd⟩
        rw [← he, hc.old hs512 ops.size (by rw [hs.len]; exact Nat.le_refl _) fun q i hq hi => hno i (hs.of hi).2.1]
        exact hI.old s hs512 fun i hi _ => hno i hi
    · unfold PX
      rw [dif_neg]
      · exact hj
      · rintro ⟨o', p, i, _, hi, _, hn⟩
        exact hn (hall i (hs.of hi).2.1)
  have key : ∀ (fuel : Nat) (listed : Array Bool) (a : Act) (w : World) (r : Gh), listed.size = ops.size → M.Closed ops (M.Lst listed) → (∀ j, ops.size ≤ j → ¬ M.Lst listed j) →
      fuel + ((List.range ops.size).filter fun i => decide (M.Lst listed i)).length = ops.size → ParX ops N loud ord W0 r0 e0 (uAt rs ord) (memAt rs h') (M.Lst listed) a w r → wpAny P .any ops Q fuel listed a w := by
    intro fuel
    induction fuel with
    | zero =>
      intro listed a w r hsz hcl hge hf hI
      have hall : ∀ i, i < ops.size → M.Lst listed i := by
        intro i hi
        have heq : ((List.range ops.size).filter fun i => decide (M.Lst listed i)).length = (List.range ops.size).length := by simp; omega
        have := (List.length_filter_eq_length_iff.1 heq) i (by simpa using hi)
        simpa using this
      refine ⟨?_, done _ a w r hI hall⟩
      rw [List.eq_nil_iff_forall_not_mem]
      intro i hi
      obtain ⟨o, h1, h2, _⟩ := (M.ready_iff hsz).1 hi
      exact h2 (hall i (Array.getElem?_eq_some_iff.1 h1).1)
    | succ fuel ih =>
      intro listed a w r hsz hcl hge hf hI
      refine ⟨fun h0 => ?_, fun i hi => ?_⟩
      · refine done _ a w r hI fun i hi => ?_
        apply Classical.byContradiction
        intro hn
        obtain ⟨j, h3, h4, h5⟩ := M.least_unlisted i hn
        have hj : j < ops.size := by omega
        have hoj : ops[j]? = some ops[j] := Array.getElem?_eq_getElem hj
        have : j ∈ Region.ready .any ops listed := (M.ready_iff hsz).2 ⟨ops[j], hoj, h4, fun d hd => h5 d (by
          have := M.downL_get hs.down (j := j) (o := ops[j]) (by simp) d hd; omega)⟩
        rw [h0] at this; exact List.not_mem_nil this
      · obtain ⟨o, h1, h2, h3⟩ := (M.ready_iff hsz).1 hi
        have hin := (Array.getElem?_eq_some_iff.1 h1).1
        have hancS : ∀ x, (anc.getD i 0).testBit x = true → M.Lst listed x := fun x hx => M.anc_ready hs.down hcl i x o h1 h3 (by rw [← hs.an]; exact hx)
        have hdesc : ∀ x, M.Lst listed x → (anc.getD x 0).testBit i = false ∧ x ≠ i := by
          intro x hx
          refine ⟨?_, fun e => h2 (by rw [← e]; exact hx)⟩
          cases hb : (anc.getD x 0).testBit i with
          | false => rfl
          | true => exact (h2 (M.anc_listed hs.down hcl hx (by rw [← hs.an]; exact hb))).elim
        obtain ⟨hlo, hhi⟩ := cnt_le (loud := loud) hancS hdesc
        generalize hk : (loud.filter fun l => decide (M.Lst listed l)).length = k at hlo hhi
        have hrel := hI.rel
        rw [hk] at hrel
        obtain ⟨hp1, hp2⟩ := hs.at hin
        obtain ⟨rd, hrd, ⟨o2, ho2, hdok, hstep⟩, henv, hnx⟩ := hc.step _ _ hp1
        rw [h1, Option.some.injEq] at ho2; subst ho2
        have hui : uAt rs ord i = rd.u := by unfold uAt; rw [hrd]
        have hlv := hs.lv i hin
        unfold lvOK at hlv
        rw [brec] at hlv
        -- its operands
        have hops : ∀ o', ops[i]? = some o' → OpsR ops r rd.e a o' := by
          intro o' ho' s hsl hs512
          rw [h1, Option.some.injEq] at ho'; subst ho'
          have hoo := hs.old i hin
          unfold M.oldOK at hoo
          rw [h1] at hoo
          simp only [List.all_eq_true] at hoo
          have hoo := hoo s hsl
          rw [← rec_env hrd e']
          cases hf : M.fromDep ops s (M.depsL o.after.toList) with
          | some d =>
            rw [hf] at hoo
            simp only [Bool.and_eq_true] at hoo
            obtain ⟨q1, q2⟩ := M.fromDep_some hf
            have hdn : d < ops.size := blt_tt.1 hoo.1
            have hdp : posN ord d < posN ord i := by
              have := hs.dep i hin
              unfold depOK at this
              rw [h1] at this
              exact blt_tt.1 (List.all_eq_true.1 this d q1)
            rw [slotNew _ d s hdn q2 hs512 hdp (by omega)]
            exact hI.new d s hdn (h3 d q1) q2 hs512
          | none =>
            rw [hf] at hoo
            simp only at hoo
            have hno : ∀ j, j < ops.size → M.dstOf ops j = some s → (anc.getD j 0).testBit i = true := by
              intro j hj hdj
              have := M.allI_get hoo hj
              rw [hdj] at this
              simp only [Bool.or_eq_true, Bool.not_eq_true'] at this
              rcases this with h7 | h7
              · rw [Nat.beq_refl] at h7; cases h7
              · exact h7
            rw [hc.old hs512 _ (by rw [hs.len]; omega) fun q j hq hj hdj => by
              obtain ⟨k1, k2, _⟩ := hs.of hj
              have := hs.before k2 (hno j k2 hdj) hin
              omega]
            refine hI.old s hs512 fun j hj hlj hdj => ?_
            have := (hdesc j hlj).1
            rw [hno j hj hdj] at this; cases this
        -- behind it
        have hil : i < listed.size := by rw [hsz]; exact hin
        have hset := M.Lst_set hil
        have hni : decide (M.Lst listed i) = false := decide_eq_false h2
        have hqs : ∀ x, decide (M.Lst (listed.setIfInBounds i true) x) = true ↔ x = i ∨ decide (M.Lst listed x) = true := fun x => by
          rw [decide_eq_true_iff, decide_eq_true_iff]; exact hset x
        have after : ∀ (v : Value) (r' : Gh) (w' : World), Gh.le r r' → RV r' rd.u v →
            Rel ⟨W0.w, PX W0.x ops ord (memAt rs h') (M.Lst (listed.setIfInBounds i true)) (tK ops.size ord loud (if loud.contains i then k + 1 else k))⟩ r' (memAt rs h' (tK ops.size ord loud (if loud.contains i then k + 1 else k))) w' →
            wpAny P .any ops Q fuel (listed.setIfInBounds i true) (a.put (M.dstOf ops i) v) w' := by
          intro v r' w' hle hv hR'
          have hdst : ∀ d, M.dstOf ops i = some d → d < a.tmps.size := fun d hd => by rw [hI.size]; exact (hs.dst hin hd).1
          have hsame : ∀ s, M.dstOf ops i ≠ some s → (a.put (M.dstOf ops i) v).tmps.getD s undef = a.tmps.getD s undef := by
            intro s hs'
            cases hdo : M.dstOf ops i with
            | none => rfl
            | some d =>
              rw [M.getD_put (hdst d hdo), if_neg]
              intro he; subst he; exact hs' hdo
          refine ih _ _ w' r' (by simp [hsz]) ?_ ?_ ?_ ⟨Gh.le_trans hI.le hle, ?_, ?_, ?_, ?_, ?_⟩
          · intro j o' hj ho' d hd
            rcases (hset j).1 hj with rfl | hj
            · rw [h1, Option.some.injEq] at ho'; subst ho'
              exact (hset d).2 (.inr (h3 d hd))
            · exact (hset d).2 (.inr (hcl j o' hj ho' d hd))
          · intro j hj hl
            rcases (hset j).1 hl with rfl | hl
            · omega
            · exact hge j hj hl
          · have := M.filter_add hni hqs (l := List.range ops.size) (by rw [List.range_eq_range']; exact M.ascL_range' _ 0)
            rw [this, if_pos (by simpa using hin)]
            omega
          · cases hdo : M.dstOf ops i with
            | none => exact hI.size
            | some d => simp [Act.put, hI.size]
          · cases hdo : M.dstOf ops i with
            | none => exact hI.defs
            | some d => simp [Act.put, hI.defs]
          · intro j d hj hl hjd hd512
            by_cases hij : j = i
            · subst hij
              rw [hjd, M.getD_put (hdst d hjd), if_pos rfl, hui]
              exact hv
            · have hl' : M.Lst listed j := ((hset j).1 hl).resolve_left hij
              rw [hsame d fun he => hij ((hs.dst hin he).2 j hj hjd)]
              exact (hI.new j d hj hl' hjd hd512).mono hle
          · intro s hs512 hno
            rw [hsame s fun he => hno i hin ((hset i).2 (.inl rfl)) he]
            exact (hI.old s hs512 fun j hj hl => hno j hj ((hset j).2 (.inr hl))).mono hle
          · have := M.filter_add hni hqs (l := loud) hs.asc
            rw [hk] at this
            rw [this]
            exact hR'
        by_cases hloud : loud.contains i = true
        · -- a loud one
          rw [if_pos hloud] at hlv
          simp only [Bool.and_eq_true] at hlv
          obtain ⟨v1, v2⟩ := hlv
          have v1 := beq_tt.1 v1
          have v2 := beq_tt.1 v2
          have hkk : k = levN anc loud i := by omega
          rw [← hkk] at v1
          have hmem : i ∈ loud := by simpa using hloud
          have hk2 := (hs.quiet h1).2 hmem
          rcases hstep with ⟨c, _⟩ | ⟨c, _⟩ | ⟨c0, c1, hreal⟩
          · omega
          · omega
          · rw [v1] at hrel
            rw [rec_mem hrd] at hrel
            refine hreal _ r a w Q _ hops hrel fun v r' w' hle hv hR' => after v r' w' hle hv ?_
            rw [if_pos hloud]
            have hRS : Rel ⟨W0.w, PX W0.x ops ord (memAt rs h') (M.Lst (listed.setIfInBounds i true)) (posN ord i + 1)⟩ r' (memAt rs h' (posN ord i + 1)) w' := by
              refine hR'.less fun j p hp => ?_
              rcases PX_or hp with ⟨q, i', q1, q2, q3, q4⟩ | ⟨q1, q2⟩
              · have hqt : q ≠ posN ord i := by
                  rintro rfl
                  obtain ⟨_, _, _, i2, o2, b1, b2, b3⟩ := al_id q3
                  rw [hp1, Option.some.injEq] at b1; subst b1
                  rw [h1, Option.some.injEq] at b2; subst b2
                  omega
                exact PX_of hc ⟨q, i', by omega, q2, q3, fun hl => q4 ((hset i').2 (.inr hl))⟩
              · unfold PX
                rw [dif_neg]
                · exact q2
                · rintro ⟨o', ho'⟩
                  exact PX_low hc hx ho' q2
            have htle : posN ord i + 1 ≤ tK ops.size ord loud (k + 1) := by
              cases hkn : loud[k + 1]? with
              | none =>
                have : tK ops.size ord loud (k + 1) = ops.size := by unfold tK; rw [hkn]
                omega
              | some y =>
                have hm1 := hs.tmono (show k ≤ k + 1 from Nat.le_succ k)
                rw [v1] at hm1
                have hy : y ≠ i := by
                  rintro rfl
                  obtain ⟨k', q1, q2, q3⟩ := hs.loudAt hmem
                  have hk1 : loud[k + 1]? = some y := hkn
                  have hl1 := (List.getElem?_eq_some_iff.1 hk1).1
                  cases hk0 : loud[k]? with
                  | none => rw [List.getElem?_eq_none_iff] at hk0; omega
                  | some z =>
                    have hz : posN ord z = posN ord y := by
                      have : tK ops.size ord loud k = posN ord z := by unfold tK; rw [hk0]
                      omega
                    have hzy : z = y := by
                      have a1 := (hs.at (hs.llt z (List.mem_of_getElem? hk0))).1
                      have a2 := (hs.at (hs.llt y hmem)).1
                      rw [hz, a2] at a1
                      exact (Option.some.injEq _ _ ▸ a1).symm
                    have asc : ∀ (L : List Nat) (k : Nat) (x y : Nat), M.ascL L = true → L[k]? = some x → L[k + 1]? = some y → x < y := by
                      intro L
                      induction L with
                      | nil => intro k x y _ hx; simp at hx
                      | cons a L ih =>
                        intro k x y ha hx hy
                        cases k with
                        | zero =>
                          simp at hx; subst hx
                          exact M.ascL_lt ha y (List.mem_of_getElem? (by simpa using hy))
                        | succ k => exact ih k x y (M.ascL_tail ha) (by simpa using hx) (by simpa using hy)
                    have := asc loud k z y hs.asc hk0 hk1
                    omega
                have hpy : posN ord y ≠ posN ord i := by
                  intro hpe
                  have a1 := (hs.at (hs.llt y (List.mem_of_getElem? hkn))).1
                  rw [hpe, hp1, Option.some.injEq] at a1
                  exact hy a1.symm
                have ht1 : tK ops.size ord loud (k + 1) = posN ord y := by unfold tK; rw [hkn]
                omega
            have hadv := adv_to hs hc hx (tK ops.size ord loud (k + 1) - (posN ord i + 1)) (posN ord i + 1) (by have := hs.tle (k + 1); omega) ?_ hRS
            · rw [show posN ord i + 1 + (tK ops.size ord loud (k + 1) - (posN ord i + 1)) = tK ops.size ord loud (k + 1) by omega] at hadv
              exact hadv
            · intro q j hq1 hq2 hj
              have hq2 : q < tK ops.size ord loud (k + 1) := by omega
              obtain ⟨k1, k2, _⟩ := hs.of hj
              have hjl : j ∉ loud := by
                intro hjl
                obtain ⟨k', g1, g2, g3⟩ := hs.loudAt hjl
                rcases Nat.lt_or_ge k k' with hlt | hge'
                · have := hs.tmono (show k + 1 ≤ k' from hlt)
                  omega
                · have := hs.tmono hge'
                  omega
              refine ⟨fun hS => ?_, hjl⟩
              have hji : j ≠ i := by rintro rfl; omega
              have hSj : M.Lst listed j := ((hset j).1 hS).resolve_left hji
              have hlvj := hs.lv j k2
              unfold lvOK at hlvj
              rw [brec, if_neg (by simpa using hjl)] at hlvj
              simp only [Bool.and_eq_true] at hlvj
              obtain ⟨k', g1, g2, g3⟩ := hs.loudAt hmem
              have hkl : k < loud.length := by
                apply Classical.byContradiction
                intro hcon
                have : tK ops.size ord loud k = ops.size := by unfold tK; rw [List.getElem?_eq_none (by omega)]
                omega
              have := M.allI_get hlvj.2 hkl
              simp only [Bool.or_eq_true, Bool.not_eq_true'] at this
              have hki : loud.getD k 0 = i := by
                have hk0 : loud[k]? = some loud[k] := List.getElem?_eq_getElem hkl
                have : tK ops.size ord loud k = posN ord loud[k] := by unfold tK; rw [hk0]
                have a1 := (hs.at (hs.llt _ (List.mem_of_getElem? hk0))).1
                rw [show posN ord loud[k] = posN ord i by omega, hp1, Option.some.injEq] at a1
                rw [List.getD_eq_getElem?_getD, hk0]
                exact a1.symm
              rcases this with h7 | h7
              · have : Nat.blt (tK ops.size ord loud k) (posN ord j) = true := blt_tt.2 (by omega)
                rw [this] at h7; cases h7
              · rw [hki] at h7
                have := (hdesc j hSj).1
                rw [h7] at this; cases this
        · -- one that is not
          rw [if_neg hloud] at hlv
          simp only [Bool.and_eq_true] at hlv
          have v1 := blt_tt.1 hlv.1
          have hT : posN ord i < tK ops.size ord loud k := Nat.lt_of_lt_of_le v1 (hs.tmono hlo)
          have hmem : i ∉ loud := by simpa using hloud
          have hk2 := (hs.quiet h1).1 hmem
          have same : ∀ (r' : Gh) (w' : World), Rel ⟨W0.w, PX W0.x ops ord (memAt rs h') (M.Lst listed) (tK ops.size ord loud k)⟩ r' (memAt rs h' (tK ops.size ord loud k)) w' →
              Rel ⟨W0.w, PX W0.x ops ord (memAt rs h') (M.Lst (listed.setIfInBounds i true)) (tK ops.size ord loud (if loud.contains i then k + 1 else k))⟩ r' (memAt rs h' (tK ops.size ord loud (if loud.contains i then k + 1 else k))) w' := by
            intro r' w' hR'
            rw [if_neg hloud]
            exact hR'.less fun j p hp => PX_more hc hx (fun x hxS => (hset x).2 (.inr hxS)) hp
          rcases hstep with ⟨c0, _⟩ | ⟨c1, ⟨_, hreal⟩ | ⟨p, hnl, hnew, hreal⟩⟩ | ⟨c0, c1, _⟩
          · exact hck i o h1 c0 k hlo hhi rd hrd _ r a w Q _ hops hrel fun v r' w' hle hv hR' => after v r' w' hle hv (same r' w' hR')
          · exact hreal _ _ r a w Q _ hops hrel fun v r' w' hle hv hR' => after v r' w' hle hv (same r' w' hR')
          · have hmrd := rec_mem hrd h'
            have hal : alAt ops ord (memAt rs h') (posN ord i) = some (rd.h.nx, p) := by
              unfold alAt
              rw [hp1]
              simp only [Option.bind_some, h1]
              rw [if_pos ⟨c1, by rw [hmrd, hnew]; show rd.h.nx ≠ rd.h.nx + 1; omega⟩, hmrd, hnew, get_new _ _ _ hnl hnl, if_pos rfl]
            have hpx : PX W0.x ops ord (memAt rs h') (M.Lst listed) (tK ops.size ord loud k) rd.h.nx = some p := PX_of hc ⟨_, i, hT, hp1, hal, h2⟩
            refine hreal _ _ hpx r a w Q _ hops hrel fun v r' w' hle hv hR' => after v r' w' hle hv ?_
            rw [if_neg hloud]
            refine Rel.less (X := (WX.drop ⟨W0.w, PX W0.x ops ord (memAt rs h') (M.Lst listed) (tK ops.size ord loud k)⟩ rd.h.nx).x) hR' fun j q hq => ?_
            have hj : j ≠ rd.h.nx := by
              rintro rfl
              rcases PX_or hq with ⟨m, i', q1, q2, q3, q4⟩ | ⟨q1, q2⟩
              · have hm := (al_inj hc hal q3).1
                rw [← hm, hp1, Option.some.injEq] at q2
                exact q4 ((hset i').2 (.inl q2.symm))
              · exact PX_low hc hx (S := fun _ => False) (t := ops.size) ⟨_, i, hp2, hp1, hal, id⟩ q2
            show (if j = rd.h.nx then none else PX W0.x ops ord (memAt rs h') (M.Lst listed) (tK ops.size ord loud k) j) = some q
            rw [if_neg hj]
            exact PX_more hc hx (fun x hxS => (hset x).2 (.inr hxS)) hq
          · exact absurd (kind3 o.op) (by omega)
  have hno : ∀ i, ¬ M.Lst (Array.replicate ops.size false) i := by
    intro i hi
    unfold M.Lst at hi
    simp only [Array.getD_eq_getD_getElem?, Array.getElem?_replicate] at hi
    split at hi <;> simp at hi
  have hcnt : ∀ l : List Nat, (l.filter fun i => decide (M.Lst (Array.replicate ops.size false) i)).length = 0 := fun l => by
    rw [List.filter_eq_nil_iff.2 fun x _ => by simpa using hno x]; rfl
  refine key ops.size _ a0 w0 r0 (by simp) (fun j o hj => (hno j hj).elim) (fun j _ => hno j) (by rw [hcnt]; rfl) ⟨Gh.le_refl r0, hE.size, hE.defs, fun i d _ hi => (hno i hi).elim, fun s hs _ => hE.get s hs, ?_⟩
  rw [hcnt]
  have hst : Rel ⟨W0.w, PX W0.x ops ord (memAt rs h') (M.Lst (Array.replicate ops.size false)) 0⟩ r0 (memAt rs h' 0) w0 := by
    rw [hc.start.1]
    refine Rel.less (X := W0.x) hR fun j o hj => ?_
    rcases PX_or hj with ⟨m, _, q1, _⟩ | ⟨_, q2⟩
    · omega
    · exact q2
  have hadv := adv_to hs hc hx (tK ops.size ord loud 0) 0 (by have := hs.tle 0; omega) (fun q j _ hq hj => ⟨hno j, fun hjl => by
    obtain ⟨k1, k2, _⟩ := hs.of hj
    obtain ⟨k', g1, g2, g3⟩ := hs.loudAt hjl
    have := hs.tmono (Nat.zero_le k')
    omega⟩) hst
  rw [Nat.zero_add] at hadv
  exact hadv

/-- A region whose order is open. -/
theorem regE_ok {ops : Array Oper} {N : Nat} {anc loud ord : List Nat} (hanc : anc = M.ancL ops.toList []) (hm : P.follows .mixedOrders = true) {cl : CL} (hcl : ClOK cl) {k : KO} {e : Env} {h : HS} (hk : (regE N ops anc loud ord).f cl k e h = true) :
    ∃ e' h', k e' h' = true ∧ ∀ (W : WX) (r : Gh) (a : Act) (w : World) (id : Nat) (Q : Exit → Act → World → Prop), EnvR r N e a → Rel W r h w → (∀ a' r' w', Gh.le r r' → EnvR r' N e' a' → Rel W r' h' w' → Q .normal a' w') → (Code.region id ops true).wp P Q a w := by
  unfold regE at hk
  cases hok : regOK ops N anc loud ord with
  | false => rw [hok] at hk; cases hk
  | true =>
    rw [hok] at hk
    have hs := regOK_shape hanc hok
    have e1 : (bx (runI N ops.toList ord) fun run => bx (cksI ops.size (ckL ops anc loud ord)) fun ck => (⟨fun cl k e h => run cl (fun acc e h => ck cl acc h (k e h)) [] e h⟩ : Bx Ro)).f cl k e h =
        (runI N ops.toList ord).f cl (fun acc e h => (cksI ops.size (ckL ops anc loud ord)).f cl acc h (k e h)) [] e h := by
      cases runI N ops.toList ord; cases cksI ops.size (ckL ops anc loud ord); rfl
    have hk : (runI N ops.toList ord).f cl (fun acc e h => (cksI ops.size (ckL ops anc loud ord)).f cl acc h (k e h)) [] e h = true := by rw [← e1]; exact hk
    obtain ⟨rs, e', h', hk, hc⟩ := runI_ok hcl hk
    have hmem : ∀ c, c ∈ ckL ops anc loud ord ↔ ∃ i o, ops[i]? = some o ∧ kindI o.op = 0 ∧ c = (posN ord i, gopI ops.toList o, (List.range (Nat.succ (Nat.sub (latN anc loud i) (levN anc loud i)))).map fun k => tK ops.size ord loud (Nat.add (levN anc loud i) k)) := by
      intro c
      unfold ckL
      rw [List.mem_filterMap]
      constructor
      · rintro ⟨i, hi, hc⟩
        cases ho : ops[i]? with
        | none => rw [ho] at hc; cases hc
        | some o =>
          rw [ho] at hc
          simp only [brec] at hc
          split at hc
          · rename_i h0
            simp only [Option.some.injEq] at hc
            exact ⟨i, o, ho, beq_tt.1 h0, hc.symm⟩
          · cases hc
      · rintro ⟨i, o, ho, h0, rfl⟩
        refine ⟨i, by simpa using (Array.getElem?_eq_some_iff.1 ho).1, ?_⟩
        rw [ho]
        simp only [brec]
        rw [if_pos (beq_tt.2 h0)]
    obtain ⟨hk, hck⟩ := cksI_ok (ops := ops) hcl (fun c hcm => by
      obtain ⟨i, o, h1, h2, rfl⟩ := (hmem c).1 hcm
      exact ⟨i, o, h1, h2, rfl⟩) hk
    refine ⟨e', h', hk, fun W r a w id Q hE hR fin => ?_⟩
    refine wp_region_any hm (par_ok hs hc ?_ hE hR.drew fin)
    intro i o hi h0 kk hlo hhi rd hrd W
    obtain ⟨rd', hrd', hT⟩ := hck _ ((hmem _).2 ⟨i, o, hi, h0, rfl⟩)
    have hin := (Array.getElem?_eq_some_iff.1 hi).1
    have hlen : rs.length = ops.size := by rw [hc.len, hs.len]
    have hacc : ∀ T, T < ops.size → (rs.reverse ++ ([] : List RD))[ops.size - 1 - T]? = rs[T]? := by
      intro T hT
      rw [List.append_nil, List.getElem?_reverse (by omega)]
      congr 1; omega
    have hrd' : (rs.reverse ++ ([] : List RD))[ops.size - 1 - posN ord i]? = some rd' := hrd'
    rw [hacc _ (hs.at hin).2, hrd, Option.some.injEq] at hrd'
    subst hrd'
    obtain ⟨H, hH, hreal⟩ := hT i o hi h0 rfl (tK ops.size ord loud kk) (List.mem_map.2 ⟨kk - levN anc loud i, by
      rw [List.mem_range]
      show _ < (latN anc loud i - levN anc loud i) + 1
      omega, by
      congr 1
      show levN anc loud i + (kk - levN anc loud i) = kk
      omega⟩)
    have hHm : H = memAt rs h' (tK ops.size ord loud kk) := by
      rcases hH with ⟨q1, q2⟩ | ⟨q1, r', q2, q3⟩
      · rw [q1, q2]
        unfold memAt
        rw [List.getElem?_eq_none (by omega)]
      · rw [hacc _ (by have := hs.tle kk; omega)] at q2
        rw [q3, rec_mem q2]
    rw [hHm] at hreal
    exact hreal W
theorem regD_ok {ops : Array Oper} {N : Nat} (hm : P.follows .mixedOrders = true) {cl : CL} (hcl : ClOK cl) {k : KO} {e : Env} {h : HS} (hk : (regD N ops).f cl k e h = true) :
    ∃ e' h', k e' h' = true ∧ ∀ (W : WX) (r : Gh) (a : Act) (w : World) (id : Nat) (Q : Exit → Act → World → Prop), EnvR r N e a → Rel W r h w → (∀ a' r' w', Gh.le r r' → EnvR r' N e' a' → Rel W r' h' w' → Q .normal a' w') → (Code.region id ops true).wp P Q a w := by
  unfold regD at hk
  rw [forceL_eq, forceL_eq, forceL_eq] at hk
  exact regE_ok rfl hm hcl hk

/-! ### Regions in the order of the text -/
theorem regI_ok {ops : Array Oper} {N : Nat} {cl : CL} (hcl : ClOK cl) {k : KO} : ∀ {l : List Oper} {i : Nat} {e : Env} {h : HS}, ops.toList.drop i = l → (regI N ops.toList l).f cl k e h = true →
    ∃ e' h', k e' h' = true ∧ ∀ (W : WX) (r : Gh) (a : Act) (w : World) (Q : Exit → Act → World → Prop), EnvR r N e a → Rel W r h w → (∀ a' r' w', Gh.le r r' → EnvR r' N e' a' → Rel W r' h' w' → Q .normal a' w') → M.wpFrom P ops Q i a w
  | [], i, e, h, hl, hk => by
    refine ⟨e, h, hk, fun W r a w Q hE hR fin => ?_⟩
    unfold M.wpFrom
    rw [hl]
    exact fin a r w (Gh.le_refl r) hE hR
  | o :: l, i, e, h, hl, hk => by
    have e0 : (regI N ops.toList (o :: l)).f cl k e h = (opI N ops.toList o).f cl (fun e h => (regI N ops.toList l).f cl k e h) e h := by
      show (bx (opI N ops.toList o) fun f => bx (regI N ops.toList l) fun g => (⟨fun cl k e h => f cl (fun e h => g cl k e h) e h⟩ : Bx Ro)).f cl k e h = _
      cases opI N ops.toList o; cases regI N ops.toList l; rfl
    rw [e0] at hk
    have hlt : i < ops.toList.length := by
      apply Classical.byContradiction
      intro hcon
      rw [List.drop_eq_nil_of_le (by omega)] at hl
      cases hl
    have hdr := List.drop_eq_getElem_cons hlt
    rw [hl] at hdr
    simp only [List.cons.injEq] at hdr
    have hi : ops[i]? = some o := by
      rw [← Array.getElem?_toList, List.getElem?_eq_getElem hlt, hdr.1]
    unfold opI at hk
    cases hd : dsOk N o with
    | false => rw [hd] at hk; cases hk
    | true =>
      rw [hd] at hk
      have e1 : (bx (gopI ops.toList o) fun f => bx (dsI o) fun d => (⟨fun cl k e h => f cl e h fun v h => k (d v e) h⟩ : Bx Ro)).f cl (fun e h => (regI N ops.toList l).f cl k e h) e h =
          (gopI ops.toList o).f cl e h fun v h => (regI N ops.toList l).f cl k ((dsI o).f v e) h := by
        cases gopI ops.toList o; cases dsI o; rfl
      have hk : ((gopI ops.toList o).f cl e h fun v h => (regI N ops.toList l).f cl k ((dsI o).f v e) h) = true := by rw [← e1]; exact hk
      obtain ⟨u, h1, hk, hreal⟩ := gop_ok hcl hi hk
      obtain ⟨e', h', hk, hrest⟩ := regI_ok (i := i + 1) hcl hdr.2.symm hk
      refine ⟨e', h', hk, fun W r a w Q hE hR fin => ?_⟩
      have hw := hreal W r a w Q (M.wpFrom P ops Q (i + 1)) (fun o' _ => hE.ops ops o') hR fun v r' w' hle hv hR' => by
        refine hrest W r' _ w' Q ?_ hR' fun a' r2 w2 hle2 => fin a' r2 w2 (Gh.le_trans hle hle2)
        have hdo : M.dstOf ops i = o.dst := by unfold M.dstOf; rw [hi]; rfl
        rw [hdo]
        have hE' := hE.mono hle
        cases hdd : o.dst with
        | none =>
          have : (dsI o).f u e = e := by unfold dsI; rw [hdd]
          rw [this]; exact hE'
        | some d =>
          have : (dsI o).f u e = (spB 3 d).f u e := by unfold dsI; rw [hdd]
          rw [this]
          obtain ⟨h5, h6⟩ := dsOk_ok hd hdd
          exact hE'.put h5 h6 hv
      unfold wpOp at hw
      rw [hi] at hw
      rw [M.wpFrom_cons hi]
      exact hw
end Go.Proofs.YtefppgdfcnediaaGreat.X

/- Own executor, part 34: code, functions, calls as deep as may be. -/
set_option linter.unusedVariables false
set_option linter.unusedSimpArgs false
set_option maxRecDepth 100000
namespace Go.Proofs.YtefppgdfcnediaaGreat.X
open Go Go.RowKit

def exC : Nat → Exit
  | 0 => .normal
  | 1 => .ret
  | n + 2 => .exit n
/-- What code comes to. -/
def CodR (n : Nat) (wp : (Exit → Act → World → Prop) → Act → World → Prop) (k : KC) (e : Env) (h : HS) : Prop :=
  ∃ x e' h', k x e' h' = true ∧ ∀ (W : WX) (r : Gh) (a : Act) (w : World) (Q : Exit → Act → World → Prop), EnvR r n e a → Rel W r h w → (∀ a' r' w', Gh.le r r' → EnvR r' n e' a' → Rel W r' h' w' → Q (exC x) a' w') → wp Q a w
def LpOK (lp : LP) : Prop := ∀ n c k e h, lp n c k e h = true → CodR n (fun Q => M.Rnd P c Q) k e h

section
variable {n : Nat} {cl : CL} {lp : LP} {k : KC} {e : Env} {h : HS}
theorem codI_ok (hm : P.follows .mixedOrders = true) (hcl : ClOK cl) (hlp : LpOK lp) : ∀ (c : Code) {k : KC} {e : Env} {h : HS}, (codI n c).f cl lp k e h = true → CodR n (fun Q => c.wp P Q) k e h
  | .skip, k, e, h, hk => ⟨0, e, h, hk, fun W r a w Q hE hR fin => wp_skip (fin a r w (Gh.le_refl r) hE hR)⟩
  | .label l, k, e, h, hk => ⟨0, e, h, hk, fun W r a w Q hE hR fin => wp_label (fin a r w (Gh.le_refl r) hE hR)⟩
  | .exit i, k, e, h, hk => ⟨i + 2, e, h, hk, fun W r a w Q hE hR fin => wp_exit (fin a r w (Gh.le_refl r) hE hR)⟩
  | .ret, k, e, h, hk => ⟨1, e, h, hk, fun W r a w Q hE hR fin => wp_ret (fin a r w (Gh.le_refl r) hE hR)⟩
  | .goto l, k, e, h, hk => by cases hk
  | .refuse y, k, e, h, hk => by cases hk
  | .rangeFunc f p a b, k, e, h, hk => by cases hk
  | .region id ops dr, k, e, h, hk => by
    have e1 : (codI n (.region id ops dr)).f cl lp k e h = (Bool.rec (regI n ops.toList ops.toList) (regD n ops) dr : Bx Ro).f cl (fun e h => k 0 e h) e h := by
      show (bx (Bool.rec (regI n ops.toList ops.toList) (regD n ops) dr : Bx Ro) fun f => (⟨fun cl _ k e h => f cl (fun e h => k 0 e h) e h⟩ : Bx Cx)).f cl lp k e h = _
      cases (Bool.rec (regI n ops.toList ops.toList) (regD n ops) dr : Bx Ro); rfl
    rw [e1] at hk
    cases dr with
    | false =>
      obtain ⟨e', h', hk, hs⟩ := regI_ok (ops := ops) (i := 0) hcl rfl hk
      exact ⟨0, e', h', hk, fun W r a w Q hE hR fin => M.wp_region_from (hs W r a w Q hE hR fin)⟩
    | true =>
      obtain ⟨e', h', hk, hs⟩ := regD_ok hm hcl hk
      exact ⟨0, e', h', hk, fun W r a w Q hE hR fin => hs W r a w id Q hE hR fin⟩
  | .seq a b, k, e, h, hk => by
    have e1 : (codI n (.seq a b)).f cl lp k e h = (codI n a).f cl lp (fun x e h => Nat.rec ((codI n b).f cl lp k e h) (fun _ _ => k x e h) x) e h := by
      show (bx (codI n a) fun a => bx (codI n b) fun b => (⟨fun cl lp k e h => a cl lp (fun x e h => Nat.rec (b cl lp k e h) (fun _ _ => k x e h) x) e h⟩ : Bx Cx)).f cl lp k e h = _
      cases codI n a; cases codI n b; rfl
    rw [e1] at hk
    obtain ⟨x, e', h', hk, hs⟩ := codI_ok hm hcl hlp a hk
    cases x with
    | zero =>
      have hk : (codI n b).f cl lp k e' h' = true := hk
      obtain ⟨x2, e2, h2, hk, hs2⟩ := codI_ok hm hcl hlp b hk
      exact ⟨x2, e2, h2, hk, fun W r ac w Q hE hR fin => wp_seq (hs W r ac w _ hE hR fun a' r' w' hle hE' hR' => hs2 W r' a' w' Q hE' hR' fun a2 r2 w2 hle2 => fin a2 r2 w2 (Gh.le_trans hle hle2))⟩
    | succ x =>
      have hk : k (x + 1) e' h' = true := hk
      refine ⟨x + 1, e', h', hk, fun W r ac w Q hE hR fin => wp_seq (hs W r ac w _ hE hR fun a' r' w' hle hE' hR' => ?_)⟩
      have := fin a' r' w' hle hE' hR'
      cases x <;> exact this
  | .cond c a b, k, e, h, hk => by
    have e0 : codI n (.cond c a b) = Bool.rec ⟨fun _ _ _ _ _ => bad⟩ (bx (opdI c) fun c => bx (codI n a) fun a => bx (codI n b) fun b => (⟨fun cl lp k e h => pkV (c e) (a cl lp k e h) (b cl lp k e h)⟩ : Bx Cx)) (opdOk c) := rfl
    rw [e0] at hk
    cases hc : opdOk c with
    | false => rw [hc] at hk; cases hk
    | true =>
      rw [hc] at hk
      have e1 : (bx (opdI c) fun c => bx (codI n a) fun a => bx (codI n b) fun b => (⟨fun cl lp k e h => pkV (c e) (a cl lp k e h) (b cl lp k e h)⟩ : Bx Cx)).f cl lp k e h = pkV ((opdI c).f e) ((codI n a).f cl lp k e h) ((codI n b).f cl lp k e h) := by
        cases opdI c; cases codI n a; cases codI n b; rfl
      have hk : pkV ((opdI c).f e) ((codI n a).f cl lp k e h) ((codI n b).f cl lp k e h) = true := by rw [← e1]; exact hk
      obtain ⟨ht, hb⟩ := pk_ok hk
      rcases hb with ⟨hb, hk⟩ | ⟨hb, hk⟩
      · obtain ⟨x, e', h', hk, hs⟩ := codI_ok hm hcl hlp a hk
        refine ⟨x, e', h', hk, fun W r ac w Q hE hR fin => wp_cond_true ?_ (hs W r ac w Q hE hR fin)⟩
        have := (opd_ok (hE.opd c) hc).b ht
        rw [this, hb]
      · obtain ⟨x, e', h', hk, hs⟩ := codI_ok hm hcl hlp b hk
        refine ⟨x, e', h', hk, fun W r ac w Q hE hR fin => wp_cond_false ?_ (hs W r ac w Q hE hR fin)⟩
        have := (opd_ok (hE.opd c) hc).b ht
        rw [this, hb]
  | .block i a, k, e, h, hk => by
    have e1 : (codI n (.block i a)).f cl lp k e h = (codI n a).f cl lp (fun x e h => Bool.rec (k x e h) (k 0 e h) (Nat.beq x (Nat.add i 2))) e h := by
      show (bx (codI n a) fun a => (⟨fun cl lp k e h => a cl lp (fun x e h => Bool.rec (k x e h) (k 0 e h) (Nat.beq x (Nat.add i 2))) e h⟩ : Bx Cx)).f cl lp k e h = _
      cases codI n a; rfl
    rw [e1] at hk
    obtain ⟨x, e', h', hk, hs⟩ := codI_ok hm hcl hlp a hk
    have hk : (Bool.rec (k x e' h') (k 0 e' h') (Nat.beq x (Nat.add i 2)) : Ans) = true := hk
    rw [brec] at hk
    split at hk
    · rename_i hx
      have hx : x = i + 2 := beq_tt.1 hx
      refine ⟨0, e', h', hk, fun W r ac w Q hE hR fin => wp_block (hs W r ac w _ hE hR fun a' r' w' hle hE' hR' => ?_)⟩
      rw [hx]
      exact M.Exit.in_eq (fin a' r' w' hle hE' hR')
    · rename_i hx
      have hx : x ≠ i + 2 := fun y => hx (beq_tt.2 y)
      refine ⟨x, e', h', hk, fun W r ac w Q hE hR fin => wp_block (hs W r ac w _ hE hR fun a' r' w' hle hE' hR' => ?_)⟩
      have := fin a' r' w' hle hE' hR'
      cases x with
      | zero => exact this
      | succ x => cases x with
        | zero => exact this
        | succ x => exact M.Exit.in_ne (by omega) this
  | .loop a, k, e, h, hk => by
    obtain ⟨x, e', h', hk, hs⟩ := hlp n a k e h hk
    exact ⟨x, e', h', hk, fun W r ac w Q hE hR fin => M.wp_loop_rnd (hs W r ac w Q hE hR fin)⟩
  | .scope a, k, e, h, hk => by
    obtain ⟨x, e', h', hk, hs⟩ := codI_ok hm hcl hlp a hk
    refine ⟨x, e', h', hk, fun W r ac w Q hE hR fin => wp_scope_in (hs W r ac w _ hE hR fun a' r' w' hle hE' hR' => ?_)⟩
    have := fin a' r' w' hle hE' hR'
    cases x with
    | zero => exact this
    | succ x => cases x <;> exact this
end

/-! ### Results -/
noncomputable def resOne (tmps : Array Value) (r : ResultVar) : Sem Value := match r with
  | .tmp t => pure (tmps.getD t undef)
  | .cell a t => do loadVar t (← asAddr (tmps.getD a undef))
theorem resI_ok : ∀ {l : List ResultVar} {e : Env} {h : HS} {k : List AV → Ans}, (resI l).f e h k = true → ∃ us, k us = true ∧ ∀ (W : WX) (r : Gh) (n : Nat) (a : Act) (w : World), EnvR r n e a → Rel W r h w → ∃ vs, RL r us vs ∧ (l.mapM (resOne a.tmps)).run P w = .ok vs w
  | [], e, h, k, hk => ⟨[], hk, fun W r n a w _ _ => ⟨[], .nil, rfl⟩⟩
  | .tmp t :: l, e, h, k, hk => by
    have e0 : resI (.tmp t :: l) = bx (resI l) fun g => (Bool.rec ⟨fun _ _ _ => bad⟩ (bx (gpB 3 t) fun f => ⟨fun e h k => g e h fun l => k (f e :: l)⟩) (Nat.blt t 512) : Bx (Env → HS → (List AV → Ans) → Ans)) := rfl
    rw [e0] at hk
    cases ht : Nat.blt t 512 with
    | false => rw [ht] at hk; cases hg : resI l; rw [hg] at hk; cases hk
    | true =>
      rw [ht] at hk
      have e1 : (bx (resI l) fun g => (bx (gpB 3 t) fun f => (⟨fun e h k => g e h fun l => k (f e :: l)⟩ : Bx (Env → HS → (List AV → Ans) → Ans)))).f e h k = (resI l).f e h fun l => k ((gpB 3 t).f e :: l) := by
        cases resI l; cases gpB 3 t; rfl
      have hk : ((resI l).f e h fun l => k ((gpB 3 t).f e :: l)) = true := by rw [← e1]; exact hk
      obtain ⟨us, hk, hs⟩ := resI_ok hk
      refine ⟨_, hk, fun W r n a w hE hR => ?_⟩
      obtain ⟨vs, h1, h2⟩ := hs W r n a w hE hR
      refine ⟨_, .cons (hE.get t (blt_tt.1 ht)) h1, ?_⟩
      simp [List.mapM_cons, resOne, h2]
  | .cell ad t :: l, e, h, k, hk => by
    have e0 : resI (.cell ad t :: l) = bx (resI l) fun g => (match szT t, agT t with
      | some n, some ag => Bool.rec ⟨fun _ _ _ => bad⟩ (bx (gpB 3 ad) fun f => ⟨fun e h k => g e h fun l => celV (f e) n ag h fun x => k (x :: l)⟩) (Nat.blt ad 512)
      | _, _ => ⟨fun _ _ _ => bad⟩ : Bx (Env → HS → (List AV → Ans) → Ans)) := rfl
    rw [e0] at hk
    cases hn : szT t with
    | none => rw [hn] at hk; cases hg : resI l; rw [hg] at hk; cases hk
    | some sz =>
      cases ha : agT t with
      | none => rw [hn, ha] at hk; cases hg : resI l; rw [hg] at hk; cases hk
      | some ag =>
        rw [hn, ha] at hk
        simp only at hk
        cases ht : Nat.blt ad 512 with
        | false => rw [ht] at hk; cases hg : resI l; rw [hg] at hk; cases hk
        | true =>
          rw [ht] at hk
          have e1 : (bx (resI l) fun g => (bx (gpB 3 ad) fun f => (⟨fun e h k => g e h fun l => celV (f e) sz ag h fun x => k (x :: l)⟩ : Bx (Env → HS → (List AV → Ans) → Ans)))).f e h k = (resI l).f e h fun l => celV ((gpB 3 ad).f e) sz ag h fun x => k (x :: l) := by
            cases resI l; cases gpB 3 ad; rfl
          have hk : ((resI l).f e h fun l => celV ((gpB 3 ad).f e) sz ag h fun x => k (x :: l)) = true := by rw [← e1]; exact hk
          obtain ⟨us, hk, hs⟩ := resI_ok hk
          unfold celV at hk
          rw [tg_eq] at hk
          obtain ⟨h4, hk⟩ := hk
          obtain ⟨cs, hk, hlen, hrd⟩ := rd_ok hk
          obtain ⟨u, hk, hu⟩ := asV_ok hk
          refine ⟨_, hk, fun W r n a w hE hR => ?_⟩
          obtain ⟨vs, h1, h2⟩ := hs W r n a w hE hR
          obtain ⟨b, c, hp, hr⟩ := (hE.get ad (blt_tt.1 ht)).p h4
          obtain ⟨hf, m, el, fz, hb, hl⟩ := hrd W r w b c hR hr
          obtain ⟨y, hy, hc⟩ := hu r _ hl hf
          refine ⟨_, .cons hy h1, ?_⟩
          have hv := run_var (t := t) hn ha hb (by rw [← hl.len]; exact hlen) hc
          simp only [List.mapM_cons, resOne, hp, asAddr, Sem.run_bind, Sem.run_pure, Result.andThen_ok, hv, h2]

def tupV : List Value → Value
  | [v] => v
  | vs => .tuple ⟨vs⟩
theorem run_results {fn : Func} {tmps : Array Value} {vs : List Value} {w : World} (h : (fn.results.toList.mapM (resOne tmps)).run P w = .ok vs w) : (results fn tmps).run P w = .ok (tupV vs) w := by
  unfold results
  rw [Array.mapM_eq_mapM_toList]
  change (do let vs ← (List.toArray <$> List.mapM (resOne tmps) fn.results.toList : Sem (Array Value)); pure (if h : vs.size = 1 then vs[0] else .tuple vs) : Sem Value).run P w = _
  simp only [map_eq_pure_bind, Sem.run_bind, h, Result.andThen_ok, Sem.run_pure]
  cases vs with
  | nil => rfl
  | cons v vs => cases vs <;> rfl

/-! ### A frame at its start -/
theorem envOf_slot : ∀ (l : List AV) (i : Nat) (e : Env) (s : Nat), s < 512 → i + l.length ≤ 512 → (gpB 3 s).f (envOf l i e) = if i ≤ s ∧ s < i + l.length then l.getD (s - i) aUnd else (gpB 3 s).f e
  | [], i, e, s, hs, _ => by
    rw [if_neg (fun h => by have := h.2; simp at this; omega)]; rfl
  | v :: l, i, e, s, hs, hl => by
    have hl2 : (v :: l).length = l.length + 1 := rfl
    have e1 : envOf (v :: l) i e = envOf l (i + 1) ((spB 3 i).f v e) := rfl
    rw [e1, envOf_slot l (i + 1) _ s hs (by omega)]
    by_cases h1 : i + 1 ≤ s ∧ s < i + 1 + l.length
    · rw [if_pos h1, if_pos (by omega)]
      rw [show s - i = (s - (i + 1)) + 1 by omega, List.getD_cons_succ]
    · rw [if_neg h1]
      refine (gp_sp 3 s i (by rw [p8]; exact hs) (by rw [p8]; omega) v e).trans ?_
      by_cases h2 : s = i
      · subst h2
        rw [if_pos rfl, if_pos (by omega), Nat.sub_self]; rfl
      · rw [if_neg h2, if_neg (by omega)]
theorem RL.getD {r : Gh} : ∀ {l : List AV} {m : List Value} (i : Nat), RL r l m → RV r (l.getD i aUnd) (m.getD i undef)
  | _, _, i, .nil => by
    have e1 : ([] : List AV).getD i aUnd = aUnd := by simp
    have e2 : ([] : List Value).getD i undef = undef := by simp
    rw [e1, e2]; exact .und r
  | _, _, 0, .cons a b => a
  | _, _, i + 1, .cons a b => by
    rw [List.getD_cons_succ, List.getD_cons_succ]
    exact b.getD i
theorem env_start {r : Gh} {args : List AV} {vs : List Value} {n : Nat} (ha : RL r args vs) (h1 : args.length ≤ n) (h2 : n ≤ 512) :
    EnvR r n (envOf args 0 (emp aUnd 3)) { tmps := vs.toArray ++ Array.replicate (n - vs.toArray.size) undef, defers := [] } := by
  have hlen := ha.len
  have hsz : vs.toArray.size = vs.length := rfl
  refine ⟨by simp; omega, rfl, fun s hs => ?_⟩
  rw [envOf_slot args 0 _ s hs (by omega), Nat.zero_add, Nat.sub_zero]
  have hv : (vs.toArray ++ Array.replicate (n - vs.toArray.size) undef).getD s undef = vs.getD s undef := by
    rw [Array.getD_eq_getD_getElem?, List.getD_eq_getElem?_getD, Array.getElem?_append]
    split
    · simp
    · rename_i hge
      rw [Array.getElem?_replicate, List.getElem?_eq_none (by simp at hge; omega)]
      split <;> rfl
  rw [hv]
  by_cases hlt : s < args.length
  · rw [if_pos ⟨Nat.zero_le _, hlt⟩]
    exact ha.getD s
  · rw [if_neg (fun x => hlt x.2), List.getD_eq_getElem?_getD, List.getElem?_eq_none (by omega)]
    show RV r ((gpB 3 s).f (emp aUnd 3)) undef
    rw [gp_emp aUnd 3 s]
    exact RV.und r

/-! ### Functions -/
theorem nmI_ok {s : String} (h : (nmI s).f = true) : (s == "runtime.NumGoroutine") = false := by
  unfold nmI at h
  cases hq : s == "runtime.NumGoroutine" with
  | false => rfl
  | true => rw [hq] at h; cases h
theorem fnI_ok (hm : P.follows .mixedOrders = true) {cl : CL} {lp : LP} (hcl : ClOK cl) (hlp : LpOK lp) : ClOK fun f args h k => (fnI f).f cl lp args h k := by
  intro f args h k hk
  have hk : (fnI f).f cl lp args h k = true := hk
  unfold fnI at hk
  cases hf : fnO f with
  | none => rw [hf] at hk; cases hk
  | some fn =>
    rw [hf] at hk
    simp only at hk
    cases hb : fn.body with
    | none => rw [hb] at hk; cases hk
    | some c =>
      rw [hb] at hk
      simp only at hk
      cases hn : Nat.ble fn.ntmps 512 with
      | false => rw [hn] at hk; cases hk
      | true =>
        rw [hn] at hk
        simp only at hk
        cases hnm : nmI fn.name with
        | mk b =>
          rw [hnm] at hk
          cases b with
          | false => cases hk
          | true =>
            have hname := nmI_ok (s := fn.name) (by rw [hnm])
            have e1 : (bx (codI fn.ntmps c) fun c => bx (resI fn.results.toList) fun r => (⟨fun cl lp args h k => andB (Nat.ble (lenL args) fn.ntmps) (c cl lp (fun x e h => Bool.rec bad (r e h (oneR k h)) (Nat.ble x 1)) (envOf args 0 (emp aUnd 3)) h)⟩ : Bx (CL → LP → List AV → HS → K → Ans))).f cl lp args h k =
                andB (Nat.ble (lenL args) fn.ntmps) ((codI fn.ntmps c).f cl lp (fun x e h => Bool.rec bad ((resI fn.results.toList).f e h (oneR k h)) (Nat.ble x 1)) (envOf args 0 (emp aUnd 3)) h) := by
              cases codI fn.ntmps c; cases resI fn.results.toList; rfl
            have hk : andB (Nat.ble (lenL args) fn.ntmps) ((codI fn.ntmps c).f cl lp (fun x e h => Bool.rec bad ((resI fn.results.toList).f e h (oneR k h)) (Nat.ble x 1)) (envOf args 0 (emp aUnd 3)) h) = true := by rw [← e1]; exact hk
            rw [andB_eq, ble_tt, lenL_eq] at hk
            obtain ⟨hlen, hk⟩ := hk
            obtain ⟨x, e', h', hk, hs⟩ := codI_ok hm hcl hlp c hk
            have hk : (Bool.rec bad ((resI fn.results.toList).f e' h' (oneR k h')) (Nat.ble x 1) : Ans) = true := hk
            rw [brec] at hk
            split at hk
            · rename_i hx
              have hx := ble_tt.1 hx
              obtain ⟨us, hk, hres⟩ := resI_ok hk
              have hfn : P.funcs[f]? = some fn := by rw [← fnO_eq]; exact hf
              have hcall : M.callable P f = true := by
                unfold M.callable
                rw [hfn]
                simp [hname, hb]
              have one : ∃ u, k u h' = true ∧ ∀ r vs, RL r us vs → RV r u (tupV vs) := by
                cases us with
                | nil => exact ⟨_, hk, fun r vs hv => by cases hv; exact .tup rfl .nil⟩
                | cons u us => cases us with
                  | nil => exact ⟨_, hk, fun r vs hv => by
                      cases hv with
                      | cons a b => cases b; exact a⟩
                  | cons u2 us => exact ⟨_, hk, fun r vs hv => by
                      cases hv with
                      | cons a b => cases b with
                        | cons a2 b2 => exact .tup rfl (.cons a (.cons a2 b2))⟩
              obtain ⟨u, hk, hu⟩ := one
              refine ⟨hcall, u, h', hk, fun W r w vs hv hR => calls_of_wp hfn hb (hs W r _ w _ (env_start hv hlen (ble_tt.1 hn)) hR fun a' r' w' hle hE' hR' => ?_)⟩
              obtain ⟨zs, hz, hrun⟩ := hres W r' _ a' w' hE' hR'
              have hpost : a'.defers = [] ∧ ∃ v, (results fn a'.tmps).run P w' = .ok v w' ∧ PostX W r u h' (.returned v) w' := ⟨hE'.defs, _, run_results hrun, r', hle, hu r' zs hz, hR'⟩
              cases x with
              | zero => exact hpost
              | succ x =>
                have : x = 0 := by omega
                subst this
                exact hpost
            · cases hk

theorem fuel_ok (hm : P.follows .mixedOrders = true) : ∀ n, ClOK (fuel n).cl ∧ LpOK (fuel n).lp
  | 0 => ⟨fun f args h k hk => (by cases hk), fun n c k e h hk => (by cases hk)⟩
  | m + 1 => by
    obtain ⟨hcl, hlp⟩ := fuel_ok hm m
    refine ⟨fnI_ok hm hcl hlp, fun n c k e h hk => ?_⟩
    have hk : (codI n c).f (fuel m).cl (fuel m).lp (fun x e h => Nat.rec ((fuel m).lp n c k e h) (fun _ _ => k x e h) x) e h = true := hk
    obtain ⟨x, e', h', hk, hs⟩ := codI_ok hm hcl hlp c hk
    cases x with
    | zero =>
      have hk : (fuel m).lp n c k e' h' = true := hk
      obtain ⟨x2, e2, h2, hk, hs2⟩ := hlp n c k e' h' hk
      exact ⟨x2, e2, h2, hk, fun W r a w Q hE hR fin => M.rnd_step (hs W r a w _ hE hR fun a' r' w' hle hE' hR' => hs2 W r' a' w' Q hE' hR' fun a2 r2 w2 hle2 => fin a2 r2 w2 (Gh.le_trans hle hle2))⟩
    | succ x =>
      have hk : k (x + 1) e' h' = true := hk
      refine ⟨x + 1, e', h', hk, fun W r a w Q hE hR fin => M.rnd_step (hs W r a w _ hE hR fun a' r' w' hle hE' hR' => ?_)⟩
      have := fin a' r' w' hle hE' hR'
      cases x <;> exact this

/-- Nothing is known of the memory at the start. -/
theorem rel_start (w : World) (x : Nat → Value) : Rel ⟨w, fun _ => none⟩ ⟨fun _ _ => none, x⟩ h0 w :=
  ⟨Below.refl _ _, by show (0 : Nat) ≤ 32768; omega, fun i g x hx => (by cases hx), fun i g x j g' y hx => (by cases hx), fun i g x hx => (by cases hx), fun i g x hx => (by cases hx), fun i o hi => (by cases hi)⟩
/-- A call that takes nothing and comes to yes. -/
theorem closed_ok (hm : P.follows .mixedOrders = true) {f n : Nat} (hk : (fuel n).cl f [] h0 (fun v _ => anB (Nat.beq v.t 1) v.b) = true) (w : World) :
    M.callable P f = true ∧ Calls P f #[] w (fun e w' => ∃ v, e = .returned v ∧ v = .bool true ∧ Below w.heap.size w w') := by
  obtain ⟨hcall, u, h', hu, hs⟩ := (fuel_ok hm n).1 f [] h0 _ hk
  rw [anB_eq, beq_tt] at hu
  refine ⟨hcall, (hs ⟨w, fun _ => none⟩ ⟨fun _ _ => none, fun _ => .nilFunc⟩ w [] .nil (rel_start w _)).mono fun e w' hp => ?_⟩
  cases e with
  | returned v =>
    obtain ⟨r', _, hv, hR⟩ := hp
    exact ⟨v, rfl, by rw [hv.b hu.1, hu.2], hR.below⟩
  | panicked c => exact hp.elim
  | outgrown => exact hp.elim
end Go.Proofs.YtefppgdfcnediaaGreat.X

/- Own executor, part 35: laws whose arguments are not looked at. -/
set_option linter.unusedVariables false
set_option linter.unusedSimpArgs false
set_option maxRecDepth 100000
namespace Go.Proofs.YtefppgdfcnediaaGreat.X
open Go Go.RowKit Go.ChangeShapes Go.WideShapes

/-- A value from outside; a row of such. -/
noncomputable abbrev aExt (i : Nat) : AV := ⟨15, 0, .i64, false, [], ⟨i, 0, 0, 0, 0, 0⟩, [], [], v0⟩
noncomputable def extL (n : Nat) : Nat → List AV := Nat.rec (fun _ => []) (fun _ ih i => forceA i fun i => aExt i :: ih (Nat.succ i)) n
theorem extL_ok (f : Nat → Value) : ∀ (n i : Nat), (∀ j, i ≤ j → j < i + n → (f j).oneCell' = true) → ∀ r : Gh, r.x = f → RL r (extL n i) ((List.range' i n).map f) ∧ Fl (extL n i)
  | 0, i, _, r, _ => ⟨.nil, .nil⟩
  | n + 1, i, h, r, hr => by
    obtain ⟨h1, h2⟩ := extL_ok f n (i + 1) (fun j a b => h j (by omega) (by omega)) r hr
    have e : extL (n + 1) i = aExt i :: extL n (i + 1) := by
      show (forceA i fun i => aExt i :: extL n (Nat.succ i)) = _
      rw [forceA_eq]
    rw [List.range'_succ, List.map_cons, e]
    refine ⟨.cons ?_ h1, fun v hv => ?_⟩
    · have := RV.ext (r := r) (v := aExt i) rfl (by show (r.x i).oneCell' = true; rw [hr]; exact h i (Nat.le_refl _) (by omega))
      rw [hr] at this
      exact this
    · rcases List.mem_cons.1 hv with rfl | hv
      · exact ⟨by simp, by simp⟩
      · exact h2 v hv

theorem cell_one {Q : Program} {w : World} {r : Reach} {base : Nat} {t : TypeId} {v : Value} (h : Cell.okWide Q w r base t v) : v.oneCell' = true := by
  cases v with
  | agg l =>
    exfalso
    unfold Cell.okWide Cell.ok at h
    generalize Q.underlying t = d at h
    cases d with
    | none => exact h
    | some d => cases d <;> exact h
  | tuple l =>
    exfalso
    unfold Cell.okWide Cell.ok at h
    generalize Q.underlying t = d at h
    cases d with
    | none => exact h
    | some d => cases d <;> exact h
  | _ => rfl
/-- A struct that comes in: its cells, from number i on. -/
theorem arg_struct {w : World} {r0 : Reach} {base n : Nat} {t : TypeId} {fs : Array Field} {v : Value} (hu : P.underlying t = some (.struct fs)) (hn : P.cellsOf t = n) (h : Value.okWide P w r0 base t v) :
    ∃ f : Nat → Value, ∀ (i : Nat) (r : Gh), (∀ j, j < n → r.x (i + j) = f j) → RV r (aAgg (extL n i)) v := by
  simp only [Value.okWide, hu] at h
  obtain ⟨cs, rfl, h2, ts, _, _, h3⟩ := h
  have main : ∀ (F : Nat → Value), (∀ j, j < n → (F j).oneCell' = true) → cs = ⟨(List.range' 0 n).map F⟩ → ∀ (i : Nat) (r : Gh), (∀ j, j < n → r.x (i + j) = F j) → RV r (aAgg (extL n i)) (.agg cs) := by
    intro F hF hcs i r hr
    obtain ⟨k1, k2⟩ := extL_ok r.x n i (fun j a b => by
      have := hr (j - i) (by omega)
      rw [show i + (j - i) = j by omega] at this
      rw [this]; exact hF _ (by omega)) r rfl
    have e : (List.range' i n).map r.x = (List.range' 0 n).map F := by
      apply List.ext_getElem
      · simp
      · intro j h1 h2
        simp at h1
        simp [hr j h1]
    rw [hcs]
    rw [e] at k1
    exact .agg rfl k2 k1
  refine ⟨_, main (fun i => cs.getD i undef) (fun j hj => ?_) ?_⟩
  · have hlt : j < cs.size := by omega
    obtain ⟨u, _, hc⟩ := h3 j cs[j] (Array.getElem?_eq_getElem hlt)
    have := cell_one hc
    simpa [hlt] using this
  · apply Array.ext'
    apply List.ext_getElem
    · simp; omega
    · intro i h1 h2
      simp at h1
      simp [h1]

/-- A law, called with what is not looked at. -/
theorem law_ok (hm : P.follows .mixedOrders = true) {f n : Nat} {args : List AV} {vs : List Value} (hk : (fuel n).cl f args h0 (fun v _ => anB (Nat.beq v.t 1) v.b) = true) {x : Nat → Value} (ha : RL ⟨fun _ _ => none, x⟩ args vs) (w : World) :
    Calls P f vs.toArray w fun e w' => e = .returned (.bool true) ∧ Below w.heap.size w w' := by
  obtain ⟨_, u, h', hu, hs⟩ := (fuel_ok hm n).1 f args h0 _ hk
  rw [anB_eq, beq_tt] at hu
  refine (hs ⟨w, fun _ => none⟩ ⟨fun _ _ => none, x⟩ w vs ha (rel_start w x)).mono fun e w' hp => ?_
  cases e with
  | returned v =>
    obtain ⟨r', _, hv, hR⟩ := hp
    exact ⟨by rw [hv.b hu.1, hu.2], hR.below⟩
  | panicked c => exact hp.elim
  | outgrown => exact hp.elim
end Go.Proofs.YtefppgdfcnediaaGreat.X
