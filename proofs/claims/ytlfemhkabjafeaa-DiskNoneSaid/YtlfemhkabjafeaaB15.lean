/- Own library, part 15: values that are built, and stores, where the order is open. -/
import Derived.Test.YtlfemhkabjafeaaB14
set_option linter.unusedVariables false
set_option linter.unusedSimpArgs false
namespace Go.Proofs.Ytlfemhkabjafeaa.M

section
variable {P : Program} {w : World} {G : Gh} {T : Tabs} {Ls : List LS} {a : Act} {N : Nat} {E : Env} {ops : Array Oper} {Q : Exit → Act → World → Prop} {D : List En} {loud : List Nat} {G0 : Gh} {Tk : Nat → Tabs} {Lk : Nat → List LS}

theorem obB {i k : Nat} (K : Kd) (x : K.den) {d : Option Nat} (hK : K.agg = true) (hl : loud.contains i = false) (hb : buildE P ops (envI ops E D i) i K = some (x, d)) (hD : En.kv K x = D.getD i .undef) : OpOb P ops Q N E D loud G0 Tk Lk i k := by
  intro a w G hle hE hH
  obtain ⟨o, v, h1, h2, h3, h4, h5⟩ := buildE_run (P := P) (w := w) K x hK hE hb
  unfold wpOp
  rw [h1]
  have hd : dstOf ops i = o.dst := by unfold dstOf; rw [h1]; rfl
  simp only [hl, Bool.false_eq_true, if_false]
  rw [if_pos (goes_ok (CurR_start hE) h2)]
  refine .inl ?_
  unfold Oper.wp
  rw [h4]
  exact ⟨v, G, by rw [hd], Gh.le_refl G, by rw [← hD]; exact h5, hH⟩

theorem obBS {i k : Nat} (K : Kd) (xs : List K.den) {d : Option Nat} (hl : loud.contains i = false) (hb : buildSE P ops (envI ops E D i) i K = some (xs, d)) (hD : En.pl K xs = D.getD i .undef) : OpOb P ops Q N E D loud G0 Tk Lk i k := by
  intro a w G hle hE hH
  obtain ⟨o, v, w', G', h1, h2, h3, h4, h5, h6, h7, _⟩ := buildSE_run (P := P) K xs hE hH hb
  unfold wpOp
  rw [h1]
  have hd : dstOf ops i = o.dst := by unfold dstOf; rw [h1]; rfl
  simp only [hl, Bool.false_eq_true, if_false]
  rw [if_pos (goes_ok (CurR_start hE) h2)]
  refine .inl ?_
  unfold Oper.wp
  rw [h4]
  exact ⟨v, G', by rw [hd], h5, by rw [← hD]; exact h6, h7⟩

theorem obSt {i k : Nat} (K : Kd) (z : K.den) {t j off : Nat} {fs : List Fk} {x x' : denFs fs} (hl : loud.contains i = true) (hb : storeE P ops (envI ops E D i) i K = some (.fldA t j off, z))
    (ho : ObAt (Tk k) t j fs x) (hset : setF fs x off K z = some x') (hT : UpdT (Tk k) (Tk (k + 1)) t j fs x') (hLk : Lk (k + 1) = Lk k) (hD : D.getD i .undef = .undef) : OpOb P ops Q N E D loud G0 Tk Lk i k := by
  intro a w G hle hE hH
  obtain ⟨o, t', x0, y0, ho', hg, hop, hdst, h1, h2, h3⟩ := storeE_ok hE hb
  obtain ⟨w', hr, hH'⟩ := store_obj (P := P) hH h1 h2 h3 ho hset hT
  have hr' : (execOp a.eval o).run P w = .ok .skip w' := by simp only [execOp, hop]; exact run_unit hr
  unfold wpOp
  rw [ho']
  have hd : dstOf ops i = o.dst := by unfold dstOf; rw [ho']; rfl
  simp only [hl, if_true]
  rw [if_pos (goes_ok (CurR_start hE) hg)]
  refine .inl ?_
  unfold Oper.wp
  rw [hr', Oper.upon_skip, hdst]
  exact ⟨Go.undef, G, by rw [hd, hdst], Gh.le_refl G, by rw [hD]; rfl, by rw [hLk]; exact hH'⟩
end
end Go.Proofs.Ytlfemhkabjafeaa.M
