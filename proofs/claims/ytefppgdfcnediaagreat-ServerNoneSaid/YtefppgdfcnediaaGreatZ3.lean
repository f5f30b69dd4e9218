/- Own texts, laid together: EX4 EX5 EX6 EX7 EX8 EX9 EX10 EX11 EX12 EX13 EX14 EX15 EX16 EX17 EX18 EX19 EX20 EX21 EX22 EX23 EX24 EX25 EX26 EX27 EX28 EX29 EX30 EX31. -/
import Derived.LaidEql
import Derived.Laws.MakeOwn
import Derived.Laws.StructEq
import Derived.Test.YtefppgdfcnediaaGreatZ1
import Derived.Test.YtefppgdfcnediaaGreatZ2
/- Own executor, part 4: constants, operands, slots. -/
set_option linter.unusedVariables false
set_option linter.unusedSimpArgs false
namespace Go.Proofs.YtefppgdfcnediaaGreat.X
open Go Go.RowKit

/-! ### Constants -/
theorem constS_ok (r : Gh) {v : Value} {a : AV} (h : constS v = some a) : RV r a v ∧ a.t ≠ 13 ∧ a.t ≠ 14 := by
  unfold constS at h
  split at h <;> first
    | (cases h; done)
    | (simp only [Option.some.injEq] at h; subst h; refine ⟨?_, by simp, by simp⟩)
  · exact .bool rfl
  · exact .int rfl
  · exact .str rfl rfl
  · exact .nilP rfl
  · exact .nilS rfl
  · exact .nilM rfl
  · exact .nilF rfl
  · exact .nilI rfl
theorem constL_ok (r : Gh) : ∀ {l : List Value} {m : List AV}, constL l = some m → RL r m l ∧ Fl m
  | [], m, h => by
    have h : some [] = some m := h
    simp only [Option.some.injEq] at h; subst h
    exact ⟨.nil, .nil⟩
  | v :: l, m, h => by
    have h : (match constS v, constL l with | some a, some l => some (a :: l) | _, _ => none) = some m := h
    split at h
    · rename_i a l' h1 h2
      simp only [Option.some.injEq] at h; subst h
      obtain ⟨k1, k2⟩ := constS_ok r h1
      obtain ⟨k3, k4⟩ := constL_ok r h2
      refine ⟨.cons k1 k3, fun u hu => ?_⟩
      rcases List.mem_cons.1 hu with rfl | hu
      · exact k2
      · exact k4 u hu
    · cases h
theorem constA_ok (r : Gh) {v : Value} {a : AV} (h : constA v = some a) : RV r a v ∧ a.t ≠ 14 := by
  unfold constA at h
  split at h
  · split at h
    · rename_i h1
      simp only [Option.some.injEq] at h; subst h
      obtain ⟨k1, k2⟩ := constL_ok r h1
      exact ⟨.agg rfl k2 k1, by simp⟩
    · cases h
  · exact ⟨(constS_ok r h).1, (constS_ok r h).2.2⟩

/-! ### Slots -/
/-- The slots of a frame of n. -/
structure EnvR (r : Gh) (n : Nat) (e : Env) (a : Act) : Prop where
  size : a.tmps.size = n
  defs : a.defers = []
  get : ∀ s, s < 512 → RV r ((gpB 3 s).f e) (a.tmps.getD s undef)

theorem RV.und (r : Gh) : RV r aUnd undef := .tup rfl .nil
theorem EnvR.mono {r s : Gh} {n : Nat} {e : Env} {a : Act} (h : EnvR r n e a) (hl : Gh.le r s) : EnvR s n e a := ⟨h.size, h.defs, fun i hi => (h.get i hi).mono hl⟩
theorem p8 : (8:Nat) ^ 3 = 512 := by decide
theorem EnvR.put {r : Gh} {n : Nat} {e : Env} {a : Act} (h : EnvR r n e a) {d : Nat} (h1 : d < 512) (h2 : d < n) {v : AV} {x : Value} (hv : RV r v x) : EnvR r n ((spB 3 d).f v e) (a.put (some d) x) := by
  refine ⟨by simp [Act.put, h.size], by simp [Act.put, h.defs], fun s hs => ?_⟩
  rw [gp_sp 3 s d (by rw [p8]; exact hs) (by rw [p8]; exact h1)]
  have hsz := h.size
  by_cases hsd : s = d
  · subst hsd
    rw [if_pos rfl]
    simp only [Act.put]
    rw [Array.getD_eq_getD_getElem?, Array.getElem?_setIfInBounds_self_of_lt (by omega)]
    exact hv
  · rw [if_neg hsd]
    simp only [Act.put]
    rw [Array.getD_eq_getD_getElem?, Array.getElem?_setIfInBounds_ne (fun e => hsd e.symm), ← Array.getD_eq_getD_getElem?]
    exact h.get s hs

/-! ### Operands -/
/-- What a slot that is named holds. -/
def OpdR (r : Gh) (e : Env) (a : Act) (x : Operand) : Prop := ∀ t, x = .tmp t → t < 512 → RV r ((gpB 3 t).f e) (a.tmps.getD t undef)
theorem EnvR.opd {r : Gh} {n : Nat} {e : Env} {a : Act} (h : EnvR r n e a) (x : Operand) : OpdR r e a x := fun t _ ht => h.get t ht
theorem opd_ok {r : Gh} {e : Env} {a : Act} {x : Operand} (h : OpdR r e a x) (hx : opdOk x = true) : RV r ((opdI x).f e) (a.eval x) := by
  cases x with
  | tmp t => exact h t rfl (blt_tt.1 hx)
  | const v =>
    have hx : (match constA v with | some _ => true | none => false) = true := hx
    show RV r ((match constA v with | some a => (⟨fun _ => a⟩ : Bx (Env → AV)) | none => ⟨fun _ => aUnd⟩).f e) v
    cases hc : constA v with
    | none => rw [hc] at hx; cases hx
    | some u => exact (constA_ok r hc).1
  | func f => exact .fn rfl .nil .nil
  | global g => cases hx
theorem opds_ok {r : Gh} {e : Env} {a : Act} : ∀ {l : List Operand}, (∀ x ∈ l, OpdR r e a x) → opdsOk l = true → RL r ((opdL l).f e) (l.map a.eval)
  | [], _, _ => .nil
  | x :: l, h, hx => by
    have hx : (Bool.rec false (opdsOk l) (opdOk x) : Bool) = true := hx
    rw [brec] at hx
    split at hx
    · rename_i h1
      have e1 : (opdL (x :: l)).f e = (opdI x).f e :: (opdL l).f e := by
        show (bx (opdI x) fun f => bx (opdL l) fun g => (⟨fun e => f e :: g e⟩ : Bx (Env → List AV))).f e = _
        cases opdI x; cases opdL l; rfl
      rw [e1]
      exact .cons (opd_ok (h x List.mem_cons_self) h1) (opds_ok (fun y hy => h y (List.mem_cons_of_mem _ hy)) hx)
    · cases hx
end Go.Proofs.YtefppgdfcnediaaGreat.X

/- Own executor, part 5: its tables. -/
set_option linter.unusedVariables false
set_option linter.unusedSimpArgs false
set_option maxRecDepth 100000
namespace Go.Proofs.YtefppgdfcnediaaGreat.X
open Go Go.RowKit

/-- The program. -/
noncomputable abbrev P : Program := Go.Proofs.Tryz.prog

theorem dropK {α : Type} (l : List α) : ∀ q, (Nat.rec l (fun _ ih => dropN 16 ih) q : List α) = l.drop (16 * q)
  | 0 => by rw [Nat.mul_zero]; rfl
  | q + 1 => by
    show dropN 16 (Nat.rec l (fun _ ih => dropN 16 ih) q : List α) = _
    rw [dropK l q, dropN_eq, List.drop_drop]
    congr 1
theorem at16 {α : Type} (l : List α) (t : Nat) : (l.drop (16 * (t / 16)))[t % 16]? = l[t]? := by
  rw [List.getElem?_drop]
  congr 1
  omega

theorem tyI_eq (t : Nat) : tyI t = P.types[t]? := by
  unfold tyI
  rw [forceA_eq, getO_eq]
  unfold tyS
  rw [dropK]
  show ((P.types.toList.drop (16 * (t / 16)))[t % 16]?) = _
  rw [at16, Array.getElem?_toList]
theorem fnO_eq (t : Nat) : fnO t = P.funcs[t]? := by
  unfold fnO
  rw [forceA_eq, getO_eq]
  unfold fnS
  rw [dropK]
  show ((P.funcs.toList.drop (16 * (t / 16)))[t % 16]?) = _
  rw [at16, Array.getElem?_toList]

theorem tyI_ok {t : Nat} {i : TypeInfo} (h : tyI t = some i) : P.info? t = some i := by
  rw [tyI_eq] at h
  have hlt := (Array.getElem?_eq_some_iff.1 h).1
  show Tables.info? _ t = _
  unfold Tables.info?
  rw [if_pos hlt]
  exact h
theorem undA_ok {t : Nat} {d : TypeDesc} (h : undA t = some d) : P.underlying t = some d := by
  unfold undA at h
  unfold Program.underlying
  cases hi : tyI t with
  | none => rw [hi] at h; cases h
  | some i =>
    rw [hi] at h
    rw [tyI_ok hi]
    obtain ⟨desc⟩ := i
    cases desc with
    | named q u =>
      cases hu : tyI u with
      | none => simp only [hu] at h; cases h
      | some j =>
        simp only [hu] at h
        show (P.info? u).map (·.desc) = _
        rw [tyI_ok hu]; exact h
    | _ => exact h
theorem szT_ok {t n : Nat} (h : szT t = some n) : ∃ i, P.info? t = some i ∧ i.size = n := by
  unfold szT at h
  cases hi : tyI t with
  | none => rw [hi] at h; cases h
  | some i => rw [hi] at h; simp only [Option.some.injEq] at h; exact ⟨i, tyI_ok hi, h⟩
theorem byT_ok {t n : Nat} (h : byT t = some n) : ∃ i, P.info? t = some i ∧ i.bytes = n := by
  unfold byT at h
  cases hi : tyI t with
  | none => rw [hi] at h; cases h
  | some i => rw [hi] at h; simp only [Option.some.injEq] at h; exact ⟨i, tyI_ok hi, h⟩
theorem zrT_ok {t : Nat} {z : AV} (h : zrT t = some z) : ∃ i v, P.info? t = some i ∧ i.zero = some v ∧ z.t ≠ 14 ∧ ∀ r, RV r z v := by
  unfold zrT at h
  cases hi : tyI t with
  | none => rw [hi] at h; cases h
  | some i =>
    rw [hi] at h
    simp only at h
    cases hz : i.zero with
    | none => rw [hz] at h; cases h
    | some v => rw [hz] at h; exact ⟨i, v, tyI_ok hi, hz, (constA_ok ⟨fun _ _ => none, fun _ => .nilFunc⟩ h).2, fun r => (constA_ok r h).1⟩
theorem run_sz {t n : Nat} (h : szT t = some n) (w : World) : (sizeOf t).run P w = .ok n w := by
  obtain ⟨i, h1, h2⟩ := szT_ok h
  simp [sizeOf, typeInfo, h1, h2]
theorem run_zero {t : Nat} {z : AV} (h : zrT t = some z) : ∃ v, (∀ w, (zeroValue t).run P w = .ok v w) ∧ z.t ≠ 14 ∧ ∀ r, RV r z v := by
  obtain ⟨i, v, h1, h2, h3, h4⟩ := zrT_ok h
  exact ⟨v, fun w => by simp [zeroValue, typeInfo, h1, h2], h3, h4⟩
theorem run_ag {t : Nat} {b : Bool} (h : agT t = some b) (w : World) : (isAgg t).run P w = .ok b w := by
  unfold agT at h
  unfold isAgg
  cases hu : undA t with
  | none => rw [hu] at h; cases h
  | some d =>
    rw [hu] at h
    rw [M.run_und (undA_ok hu)]
    cases d <;> simp_all
theorem fdT_ok {s f : Nat} {d : Field} (h : fdT s f = some d) : ∃ fs, P.underlying s = some (.struct fs) ∧ fs[f]? = some d := by
  unfold fdT at h
  split at h
  · rename_i fs hu
    rw [getO_eq, Array.getElem?_toList] at h
    exact ⟨fs, undA_ok hu, h⟩
  · cases h
theorem isU8_ok {t : Nat} (h : isU8 t = true) : P.underlying t = some (.int .u8) := by
  unfold isU8 at h
  split at h
  · rename_i hu; exact undA_ok hu
  · cases h
end Go.Proofs.YtefppgdfcnediaaGreat.X

/- Own executor, part 6: what an operation is to show; the operations on numbers and texts. -/
set_option linter.unusedVariables false
set_option linter.unusedSimpArgs false
set_option maxRecDepth 100000
namespace Go.Proofs.YtefppgdfcnediaaGreat.X
open Go Go.RowKit

/-- What is run comes to a value that u stands for, and to a memory that h' stands for. -/
def Out (m : Sem Next) (W0 : WX) (r : Gh) (w : World) (u : AV) (h' : HS) : Prop :=
  ∃ y r' w', (m.run P w = .ok (.value y) w' ∨ (m.run P w = .ok .skip w' ∧ y = undef)) ∧ Gh.le r r' ∧ RV r' u y ∧ Rel W0 r' h' w'
def Sat1 (g : G1) (m : Value → Sem Next) : Prop := ∀ v h k, g v h k = true → ∃ u h', k u h' = true ∧ ∀ W0 r w x, RV r v x → Rel W0 r h w → Out (m x) W0 r w u h'
def Sat2 (g : G2) (m : Value → Value → Sem Next) : Prop := ∀ v v' h k, g v v' h k = true → ∃ u h', k u h' = true ∧ ∀ W0 r w x x', RV r v x → RV r v' x' → Rel W0 r h w → Out (m x x') W0 r w u h'
def SatN (g : GN) (m : List Value → Sem Next) : Prop := ∀ l h k, g l h k = true → ∃ u h', k u h' = true ∧ ∀ W0 r w xs, RL r l xs → Rel W0 r h w → Out (m xs) W0 r w u h'
def SatF (xs : List Operand) (F : Fo) (m : (Operand → Value) → Sem Next) : Prop := ∀ cl e h k, F cl e h k = true → ∃ u h', k u h' = true ∧ ∀ W0 r w a, (∀ x ∈ xs, OpdR r e a x) → Rel W0 r h w → Out (m a.eval) W0 r w u h'
theorem SatF.sub {xs ys : List Operand} {F : Fo} {m : (Operand → Value) → Sem Next} (h : SatF xs F m) (hs : ∀ x ∈ xs, x ∈ ys) : SatF ys F m := by
  intro cl e hh k hk
  obtain ⟨u, h', h1, h2⟩ := h cl e hh k hk
  exact ⟨u, h', h1, fun W0 r w a he hR => h2 W0 r w a (fun x hx => he x (hs x hx)) hR⟩
theorem SatF.congr {xs : List Operand} {F : Fo} {m m' : (Operand → Value) → Sem Next} (h : SatF xs F m) (hm : ∀ ρ, m ρ = m' ρ) : SatF xs F m' := by
  have : m = m' := funext hm
  exact this ▸ h

theorem Out.value {m : Sem Next} {W0 : WX} {r : Gh} {w : World} {u : AV} {h : HS} {y : Value} (hm : m.run P w = .ok (.value y) w) (hv : RV r u y) (hR : Rel W0 r h w) : Out m W0 r w u h :=
  ⟨y, r, w, .inl hm, Gh.le_refl r, hv, hR⟩
/-- What gives a value, as the machine's next. -/
def vv (s : Sem Value) : Sem Next := do pure (.value (← s))
def uu (s : Sem Unit) : Sem Next := do s; pure .skip
theorem run_vv {s : Sem Value} {y : Value} {w w' : World} (h : s.run P w = .ok y w') : (vv s).run P w = .ok (.value y) w' := by simp [vv, h]
theorem run_uu {s : Sem Unit} {w w' : World} (h : s.run P w = .ok () w') : (uu s).run P w = .ok .skip w' := by simp [uu, h]
theorem Out.val {s : Sem Value} {W0 : WX} {r : Gh} {w : World} {u : AV} {h : HS} {y : Value} (hm : s.run P w = .ok y w) (hv : RV r u y) (hR : Rel W0 r h w) : Out (vv s) W0 r w u h :=
  .value (run_vv hm) hv hR

theorem onlyIf_ok {b : Bool} {x : Bx Fo} {cl : CL} {e : Env} {h : HS} {k : K} (hk : (onlyIf b x).f cl e h k = true) : b = true ∧ x.f cl e h k = true := by
  cases b with
  | false => cases hk
  | true => exact ⟨rfl, hk⟩
theorem sat_only {b : Bool} {x : Bx Fo} {xs : List Operand} {m : (Operand → Value) → Sem Next} (h : b = true → SatF xs x.f m) : SatF xs (onlyIf b x).f m := by
  intro cl e hh k hk
  obtain ⟨h1, h2⟩ := onlyIf_ok hk
  exact h h1 cl e hh k h2
theorem sat_bad {xs : List Operand} {m : (Operand → Value) → Sem Next} : SatF xs iBad.f m := fun _ _ _ _ hk => by cases hk
theorem sat_i1 {g : G1} {m : Value → Sem Next} (hg : Sat1 g m) (x : Operand) : SatF [x] (i1 g x).f fun ρ => m (ρ x) := by
  refine sat_only fun hx => ?_
  intro cl e h k hk
  have hk : g ((opdI x).f e) h k = true := by
    have e1 : (bx (opdI x) fun f => (⟨fun _ e h k => g (f e) h k⟩ : Bx Fo)).f cl e h k = g ((opdI x).f e) h k := by cases opdI x; rfl
    rw [e1] at hk; exact hk
  obtain ⟨u, h', h1, h2⟩ := hg _ h k hk
  exact ⟨u, h', h1, fun W0 r w a he hR => h2 W0 r w _ (opd_ok (he x (by simp)) hx) hR⟩
theorem sat_i2 {g : G2} {m : Value → Value → Sem Next} (hg : Sat2 g m) (x y : Operand) : SatF [x, y] (i2 g x y).f fun ρ => m (ρ x) (ρ y) := by
  refine sat_only fun hx => sat_only fun hy => ?_
  intro cl e h k hk
  have hk : g ((opdI x).f e) ((opdI y).f e) h k = true := by
    have e1 : (bx (opdI x) fun a => bx (opdI y) fun b => (⟨fun _ e h k => g (a e) (b e) h k⟩ : Bx Fo)).f cl e h k = g ((opdI x).f e) ((opdI y).f e) h k := by cases opdI x; cases opdI y; rfl
    rw [e1] at hk; exact hk
  obtain ⟨u, h', h1, h2⟩ := hg _ _ h k hk
  exact ⟨u, h', h1, fun W0 r w a he hR => h2 W0 r w _ _ (opd_ok (he x (by simp)) hx) (opd_ok (he y (by simp)) hy) hR⟩
theorem sat_i2b {g : Bx G2} {m : Value → Value → Sem Next} (hg : Sat2 g.f m) (x y : Operand) : SatF [x, y] (i2b g x y).f fun ρ => m (ρ x) (ρ y) := by
  cases g with
  | mk g => exact sat_i2 hg x y
theorem sat_iN {g : GN} {m : List Value → Sem Next} (hg : SatN g m) (xs : List Operand) : SatF xs (iN g xs).f fun ρ => m (xs.map ρ) := by
  refine sat_only fun hx => ?_
  intro cl e h k hk
  have hk : g ((opdL xs).f e) h k = true := by
    have e1 : (bx (opdL xs) fun f => (⟨fun _ e h k => g (f e) h k⟩ : Bx Fo)).f cl e h k = g ((opdL xs).f e) h k := by cases opdL xs; rfl
    rw [e1] at hk; exact hk
  obtain ⟨u, h', h1, h2⟩ := hg _ h k hk
  exact ⟨u, h', h1, fun W0 r w a he hR => h2 W0 r w _ (opds_ok he hx) hR⟩

def SatN3 (g : GN) (m : Value → Value → Value → Sem Next) : Prop := ∀ l h k, g l h k = true → ∃ u h', k u h' = true ∧ ∀ W0 r w x y z, RL r l [x, y, z] → Rel W0 r h w → Out (m x y z) W0 r w u h'
theorem sat_iN3 {g : GN} {m : Value → Value → Value → Sem Next} (hg : SatN3 g m) (a b c : Operand) : SatF [a, b, c] (iN g [a, b, c]).f fun ρ => m (ρ a) (ρ b) (ρ c) := by
  refine sat_only fun hx => ?_
  intro cl e h k hk
  have hk : g ((opdL [a, b, c]).f e) h k = true := by
    have e1 : (bx (opdL [a, b, c]) fun f => (⟨fun _ e h k => g (f e) h k⟩ : Bx Fo)).f cl e h k = g ((opdL [a, b, c]).f e) h k := by cases opdL [a, b, c]; rfl
    rw [e1] at hk; exact hk
  obtain ⟨u, h', h1, h2⟩ := hg _ h k hk
  exact ⟨u, h', h1, fun W0 r w a he hR => h2 W0 r w _ _ _ (opds_ok he hx) hR⟩

/-! ### New blocks: what makes one may do so later, too -/
def OutA (m : Sem Next) (W0 : WX) (r : Gh) (w : World) (i : Nat) (u : AV) (h : HS) : Prop :=
  ∃ y r' w', m.run P w = .ok (.value y) w' ∧ Gh.le r r' ∧ RV r' u y ∧ Rel (W0.drop i) r' h w'
def Sat1A (g : G1) (m : Value → Sem Next) : Prop := ∀ v h k, g v h k = true → ∃ u o, h.nx < 32768 ∧ k u (h.new o) = true ∧ ∀ W0 r w x h2, RV r v x → Rel W0 r h2 w → W0.x h.nx = some o → OutA (m x) W0 r w h.nx u h2
def Sat2A (g : G2) (m : Value → Value → Sem Next) : Prop := ∀ v v' h k, g v v' h k = true → ∃ u o, h.nx < 32768 ∧ k u (h.new o) = true ∧ ∀ W0 r w x x' h2, RV r v x → RV r v' x' → Rel W0 r h2 w → W0.x h.nx = some o → OutA (m x x') W0 r w h.nx u h2
def SatNA (g : GN) (m : List Value → Sem Next) : Prop := ∀ l h k, g l h k = true → ∃ u o, h.nx < 32768 ∧ k u (h.new o) = true ∧ ∀ W0 r w xs h2, RL r l xs → Rel W0 r h2 w → W0.x h.nx = some o → OutA (m xs) W0 r w h.nx u h2
def SatFA (xs : List Operand) (F : Fo) (m : (Operand → Value) → Sem Next) : Prop := ∀ cl e h k, F cl e h k = true → ∃ u o, h.nx < 32768 ∧ k u (h.new o) = true ∧ ∀ W0 r w a h2, (∀ x ∈ xs, OpdR r e a x) → Rel W0 r h2 w → W0.x h.nx = some o → OutA (m a.eval) W0 r w h.nx u h2
theorem SatFA.sat {xs : List Operand} {F : Fo} {m : (Operand → Value) → Sem Next} (hF : SatFA xs F m) : SatF xs F m := by
  intro cl e h k hk
  obtain ⟨u, o, h1, h2, h3⟩ := hF cl e h k hk
  refine ⟨u, _, h2, fun W0 r w a he hR => ?_⟩
  obtain ⟨y, r', w', k1, k2, k3, k4⟩ := h3 (W0.add h.nx o) r w a (h.new o) he (hR.pend o h1) (by show (if _ then _ else _) = _; rw [if_pos rfl])
  rw [WX.drop_add _ _ _ hR.newpen] at k4
  exact ⟨y, r', w', .inl k1, k2, k3, k4⟩
theorem satA_only {b : Bool} {x : Bx Fo} {xs : List Operand} {m : (Operand → Value) → Sem Next} (h : b = true → SatFA xs x.f m) : SatFA xs (onlyIf b x).f m := by
  intro cl e hh k hk
  obtain ⟨h1, h2⟩ := onlyIf_ok hk
  exact h h1 cl e hh k h2
theorem satA_bad {xs : List Operand} {m : (Operand → Value) → Sem Next} : SatFA xs iBad.f m := fun _ _ _ _ hk => by cases hk
theorem satA_i1 {g : G1} {m : Value → Sem Next} (hg : Sat1A g m) (x : Operand) : SatFA [x] (i1 g x).f fun ρ => m (ρ x) := by
  refine satA_only fun hx => ?_
  intro cl e h k hk
  have hk : g ((opdI x).f e) h k = true := by
    have e1 : (bx (opdI x) fun f => (⟨fun _ e h k => g (f e) h k⟩ : Bx Fo)).f cl e h k = g ((opdI x).f e) h k := by cases opdI x; rfl
    rw [e1] at hk; exact hk
  obtain ⟨u, o, h1, h2, h3⟩ := hg _ h k hk
  exact ⟨u, o, h1, h2, fun W0 r w a h2 he hR hp => h3 W0 r w _ h2 (opd_ok (he x (by simp)) hx) hR hp⟩
theorem satA_i2 {g : G2} {m : Value → Value → Sem Next} (hg : Sat2A g m) (x y : Operand) : SatFA [x, y] (i2 g x y).f fun ρ => m (ρ x) (ρ y) := by
  refine satA_only fun hx => satA_only fun hy => ?_
  intro cl e h k hk
  have hk : g ((opdI x).f e) ((opdI y).f e) h k = true := by
    have e1 : (bx (opdI x) fun a => bx (opdI y) fun b => (⟨fun _ e h k => g (a e) (b e) h k⟩ : Bx Fo)).f cl e h k = g ((opdI x).f e) ((opdI y).f e) h k := by cases opdI x; cases opdI y; rfl
    rw [e1] at hk; exact hk
  obtain ⟨u, o, h1, h2, h3⟩ := hg _ _ h k hk
  exact ⟨u, o, h1, h2, fun W0 r w a h2 he hR hp => h3 W0 r w _ _ h2 (opd_ok (he x (by simp)) hx) (opd_ok (he y (by simp)) hy) hR hp⟩
theorem satA_iN {g : GN} {m : List Value → Sem Next} (hg : SatNA g m) (xs : List Operand) : SatFA xs (iN g xs).f fun ρ => m (xs.map ρ) := by
  refine satA_only fun hx => ?_
  intro cl e h k hk
  have hk : g ((opdL xs).f e) h k = true := by
    have e1 : (bx (opdL xs) fun f => (⟨fun _ e h k => g (f e) h k⟩ : Bx Fo)).f cl e h k = g ((opdL xs).f e) h k := by cases opdL xs; rfl
    rw [e1] at hk; exact hk
  obtain ⟨u, o, h1, h2, h3⟩ := hg _ h k hk
  exact ⟨u, o, h1, h2, fun W0 r w a h2 he hR hp => h3 W0 r w _ h2 (opds_ok he hx) hR hp⟩

/-! ### Moves -/
theorem sat_id : Sat1 g_id fun x => pure (.value x) := fun v h k hk => ⟨v, h, hk, fun W0 r w x hx hR => .value rfl hx hR⟩
theorem pk_ok {v : AV} {x y : Ans} (h : pkV v x y = true) : v.t = 1 ∧ (v.b = true ∧ x = true ∨ v.b = false ∧ y = true) := by
  unfold pkV at h
  rw [tg_eq] at h
  obtain ⟨h1, h2⟩ := h
  cases hb : v.b with
  | true => rw [hb] at h2; exact ⟨h1, .inl ⟨rfl, h2⟩⟩
  | false => rw [hb] at h2; exact ⟨h1, .inr ⟨rfl, h2⟩⟩
theorem sat_pk (c a b : Operand) : SatF [c, a, b] (iPk c a b).f fun ρ => (do pure (.value (if ← asBool (ρ c) then ρ a else ρ b)) : Sem Next) := by
  refine sat_only fun hx => ?_
  intro cl e h k hk
  have e1 : (bx (opdI c) fun c => bx (opdI a) fun a => bx (opdI b) fun b => (⟨fun _ e h k => pkV (c e) (k (a e) h) (k (b e) h)⟩ : Bx Fo)).f cl e h k = pkV ((opdI c).f e) (k ((opdI a).f e) h) (k ((opdI b).f e) h) := by
    cases opdI c; cases opdI a; cases opdI b; rfl
  rw [e1] at hk
  have h3 : opdOk c = true ∧ opdOk a = true ∧ opdOk b = true := by
    have hx : (Bool.rec false (Bool.rec false (Bool.rec false true (opdOk b)) (opdOk a)) (opdOk c) : Bool) = true := hx
    cases h1 : opdOk c <;> cases h2 : opdOk a <;> cases h3 : opdOk b <;> rw [h1, h2, h3] at hx <;> first | exact ⟨rfl, rfl, rfl⟩ | cases hx
  obtain ⟨ht, hb⟩ := pk_ok hk
  rcases hb with ⟨hb, hk⟩ | ⟨hb, hk⟩
  · refine ⟨_, h, hk, fun W0 r w a' he hR => .value (y := a'.eval a) ?_ (opd_ok (he a (by simp)) h3.2.1) hR⟩
    have := (opd_ok (he c (by simp)) h3.1).b ht
    simp [this, asBool, hb]
  · refine ⟨_, h, hk, fun W0 r w a' he hR => .value (y := a'.eval b) ?_ (opd_ok (he b (by simp)) h3.2.2) hR⟩
    have := (opd_ok (he c (by simp)) h3.1).b ht
    simp [this, asBool, hb]

/-! ### Numbers -/
theorem knF_inj {a b : IntKind} (h : knF a = knF b) : a = b := by cases a <;> cases b <;> first | rfl | (exact absurd h (by decide))
theorem wk_kn (k : IntKind) : (wkOf k).kn = knF k := by cases k <;> rfl
theorem kq_ok {k : IntKind} {v : AV} {x : Ans} (h : kq (wkOf k) v x = true) : v.t = 0 ∧ v.k = k ∧ x = true := by
  unfold kq at h
  rw [tg_eq, brec] at h
  obtain ⟨h1, h2⟩ := h
  split at h2
  · rename_i h3
    have h3 := beq_tt.1 h3
    rw [wk_kn] at h3
    exact ⟨h1, knF_inj h3, h2⟩
  · cases h2
theorem RV.ik {r : Gh} {v : AV} {x : Value} {k : IntKind} (h : RV r v x) (h1 : v.t = 0) (h2 : v.k = k) : x = .int k v.n := by rw [h.i h1, h2]
theorem RV.mkI {r : Gh} (k : IntKind) (n : Int) : RV r (aInt k n) (.int k n) := .int rfl
theorem RV.mkB {r : Gh} (b : Bool) : RV r (aBool b) (.bool b) := .bool rfl
theorem RV.mkS {r : Gh} (s : ByteArray) {l : List Nat} (h : l = s.data.toList.map (·.toNat)) : RV r (aStr l) (.string s) := .str rfl h
end Go.Proofs.YtefppgdfcnediaaGreat.X

/- Own executor, part 7: the operations on numbers. -/
set_option linter.unusedVariables false
set_option linter.unusedSimpArgs false
set_option maxRecDepth 100000
namespace Go.Proofs.YtefppgdfcnediaaGreat.X
open Go Go.RowKit

theorem addI_eq (a b : Int) : addI a b = a + b := by
  cases a <;> cases b <;> first | rfl
theorem bEq_eq (x y : Bool) : bEq x y = (x == y) := by cases x <;> cases y <;> rfl
theorem dec_lt (a b : Int) : decide (a < b) = !decide (b ≤ a) := by
  by_cases h : a < b
  · have : ¬ b ≤ a := by omega
    simp [h, this]
  · have : b ≤ a := by omega
    simp [h, this]
theorem wrap_mod (k : IntKind) (n : Nat) : k.wrap ((n % 2 ^ k.bits : Nat) : Int) = k.wrap (n : Int) := by
  have e : ((n % 2 ^ k.bits : Nat) : Int) % (2 ^ k.bits : Int) = (n : Int) % (2 ^ k.bits : Int) := by
    rw [Int.natCast_emod]
    have : ((2 ^ k.bits : Nat) : Int) = (2 : Int) ^ k.bits := by simp
    rw [this, Int.emod_emod]
  unfold IntKind.wrap
  rw [e]
theorem bv_nat (k : IntKind) (x : Nat) : (BitVec.ofInt k.bits (Int.ofNat x)).toNat = x % 2 ^ k.bits := by
  have : BitVec.ofInt k.bits (Int.ofNat x) = BitVec.ofNat k.bits x := by
    apply BitVec.eq_of_toNat_eq
    simp [BitVec.toNat_ofInt]
  rw [this, BitVec.toNat_ofNat]
theorem bit_and (k : IntKind) (a b : Int) : bitF Nat.land (fun a b => k.wrap (BitVec.ofInt k.bits a &&& BitVec.ofInt k.bits b).toNat) (wkOf k) a b = k.wrap (BitVec.ofInt k.bits a &&& BitVec.ofInt k.bits b).toNat := by
  cases a with
  | ofNat x => cases b with
    | ofNat y =>
      show wrapF (wkOf k) (Int.ofNat (Nat.land x y)) = _
      rw [wrapF_eq, BitVec.toNat_and, bv_nat, bv_nat, ← Nat.and_mod_two_pow, wrap_mod]
      rfl
    | negSucc y => rfl
  | negSucc x => rfl
theorem bit_or (k : IntKind) (a b : Int) : bitF Nat.lor (fun a b => k.wrap (BitVec.ofInt k.bits a ||| BitVec.ofInt k.bits b).toNat) (wkOf k) a b = k.wrap (BitVec.ofInt k.bits a ||| BitVec.ofInt k.bits b).toNat := by
  cases a with
  | ofNat x => cases b with
    | ofNat y =>
      show wrapF (wkOf k) (Int.ofNat (Nat.lor x y)) = _
      rw [wrapF_eq, BitVec.toNat_or, bv_nat, bv_nat, ← Nat.or_mod_two_pow, wrap_mod]
      rfl
    | negSucc y => rfl
  | negSucc x => rfl
theorem bit_xor (k : IntKind) (a b : Int) : bitF Nat.xor (fun a b => k.wrap (BitVec.ofInt k.bits a ^^^ BitVec.ofInt k.bits b).toNat) (wkOf k) a b = k.wrap (BitVec.ofInt k.bits a ^^^ BitVec.ofInt k.bits b).toNat := by
  cases a with
  | ofNat x => cases b with
    | ofNat y =>
      show wrapF (wkOf k) (Int.ofNat (Nat.xor x y)) = _
      rw [wrapF_eq, BitVec.toNat_xor, bv_nat, bv_nat, ← Nat.xor_mod_two_pow, wrap_mod]
      rfl
    | negSucc y => rfl
  | negSucc x => rfl

theorem shr_eq (k : IntKind) (a b : Int) (hb : 0 ≤ b) : (Int.rec (fun m => Int.rec (fun n => Int.ofNat (Nat.shiftRight m (min n k.bits))) (fun _ => 0) b) (fun m => Int.fdiv (.negSucc m) (2 ^ (min b.toNat k.bits))) a : Int) = a.fdiv (2 ^ (min b.toNat k.bits)) := by
  cases a with
  | negSucc m => rfl
  | ofNat m => cases b with
    | negSucc n => exact absurd hb (by have := Int.negSucc_lt_zero n; omega)
    | ofNat n =>
      show Int.ofNat (m >>> (min n k.bits)) = Int.fdiv (Int.ofNat m) (2 ^ (min n k.bits))
      rw [Nat.shiftRight_eq_div_pow]
      have : (2 : Int) ^ (min n k.bits) = ((2 ^ (min n k.bits) : Nat) : Int) := by simp
      rw [this]
      exact (Int.ofNat_fdiv m _).symm ▸ rfl

theorem binI_ok (op : BinOp) (k : IntKind) (a b : Int) (h : HS) (c : K) (hk : (binI op (wkOf k)).f a b h c = true) :
    ∃ u y, c u h = true ∧ (∀ (t : TypeId) (w : World) (k' : IntKind), (shB op = true ∨ k' = k) → (binOp op t (.int k a) (.int k' b)).run P w = .ok y w) ∧ ∀ r, RV r u y := by
  have wk := wk_top k
  cases op
  case add =>
    have hk : okI (wkOf k).k (wrapF (wkOf k) (addI a b)) h c = true := hk
    rw [okI_eq, wk, wrapF_eq, addI_eq] at hk
    exact ⟨_, _, hk, fun t w k' hs => by rcases hs with hs | rfl; · cases hs
                                         simp [binOp, Op.intArith], fun r => .mkI _ _⟩
  case sub =>
    have hk : okI (wkOf k).k (wrapF (wkOf k) (a - b)) h c = true := hk
    rw [okI_eq, wk, wrapF_eq] at hk
    exact ⟨_, _, hk, fun t w k' hs => by rcases hs with hs | rfl; · cases hs
                                         simp [binOp, Op.intArith], fun r => .mkI _ _⟩
  case mul =>
    have hk : okI (wkOf k).k (wrapF (wkOf k) (a * b)) h c = true := hk
    rw [okI_eq, wk, wrapF_eq] at hk
    exact ⟨_, _, hk, fun t w k' hs => by rcases hs with hs | rfl; · cases hs
                                         simp [binOp, Op.intArith], fun r => .mkI _ _⟩
  case quo =>
    have hk : (Bool.rec (okI (wkOf k).k (wrapF (wkOf k) (a.tdiv b)) h c) bad (eqI b 0) : Ans) = true := hk
    rw [brec, eqI_eq] at hk
    split at hk
    · cases hk
    · rename_i h0
      have h0 : b ≠ 0 := by simpa using h0
      rw [okI_eq, wk, wrapF_eq] at hk
      exact ⟨_, _, hk, fun t w k' hs => by rcases hs with hs | rfl; · cases hs
                                           simp [binOp, Op.intDiv, h0], fun r => .mkI _ _⟩
  case rem =>
    have hk : (Bool.rec (okI (wkOf k).k (a.tmod b) h c) bad (eqI b 0) : Ans) = true := hk
    rw [brec, eqI_eq] at hk
    split at hk
    · cases hk
    · rename_i h0
      have h0 : b ≠ 0 := by simpa using h0
      rw [okI_eq, wk] at hk
      exact ⟨_, _, hk, fun t w k' hs => by rcases hs with hs | rfl; · cases hs
                                           simp [binOp, Op.intDiv, h0], fun r => .mkI _ _⟩
  case and =>
    have hk : okI (wkOf k).k (bitF Nat.land (fun a b => (wkOf k).k.wrap (BitVec.ofInt (wkOf k).k.bits a &&& BitVec.ofInt (wkOf k).k.bits b).toNat) (wkOf k) a b) h c = true := hk
    rw [okI_eq, wk, bit_and] at hk
    exact ⟨_, _, hk, fun t w k' hs => by rcases hs with hs | rfl; · cases hs
                                         simp [binOp, Op.intBits], fun r => .mkI _ _⟩
  case or =>
    have hk : okI (wkOf k).k (bitF Nat.lor (fun a b => (wkOf k).k.wrap (BitVec.ofInt (wkOf k).k.bits a ||| BitVec.ofInt (wkOf k).k.bits b).toNat) (wkOf k) a b) h c = true := hk
    rw [okI_eq, wk, bit_or] at hk
    exact ⟨_, _, hk, fun t w k' hs => by rcases hs with hs | rfl; · cases hs
                                         simp [binOp, Op.intBits], fun r => .mkI _ _⟩
  case xor =>
    have hk : okI (wkOf k).k (bitF Nat.xor (fun a b => (wkOf k).k.wrap (BitVec.ofInt (wkOf k).k.bits a ^^^ BitVec.ofInt (wkOf k).k.bits b).toNat) (wkOf k) a b) h c = true := hk
    rw [okI_eq, wk, bit_xor] at hk
    exact ⟨_, _, hk, fun t w k' hs => by rcases hs with hs | rfl; · cases hs
                                         simp [binOp, Op.intBits], fun r => .mkI _ _⟩
  case andNot =>
    have hk : okI (wkOf k).k ((wkOf k).k.wrap (BitVec.ofInt (wkOf k).k.bits a &&& ~~~(BitVec.ofInt (wkOf k).k.bits b)).toNat) h c = true := hk
    rw [okI_eq, wk] at hk
    exact ⟨_, _, hk, fun t w k' hs => by rcases hs with hs | rfl; · cases hs
                                         simp [binOp, Op.intBits], fun r => .mkI _ _⟩
  case shl =>
    have hk : (Bool.rec bad (okI (wkOf k).k (wrapF (wkOf k) (a * 2 ^ (min b.toNat (wkOf k).k.bits))) h c) (leI 0 b) : Ans) = true := hk
    rw [brec, leI_eq] at hk
    split at hk
    · rename_i h0
      have h0 : ¬ b < 0 := by simpa using h0
      rw [okI_eq, wk, wrapF_eq] at hk
      exact ⟨_, _, hk, fun t w k' hs => by simp [binOp, Op.shift, h0], fun r => .mkI _ _⟩
    · cases hk
  case shr =>
    have hk : (Bool.rec bad (okI (wkOf k).k (Int.rec (fun m => Int.rec (fun n => .ofNat (Nat.shiftRight m (min n (wkOf k).k.bits))) (fun _ => 0) b) (fun m => Int.fdiv (.negSucc m) (2 ^ (min b.toNat (wkOf k).k.bits))) a) h c) (leI 0 b) : Ans) = true := hk
    rw [brec, leI_eq] at hk
    split at hk
    · rename_i h0
      have h1 : 0 ≤ b := by simpa using h0
      have h0 : ¬ b < 0 := by omega
      rw [okI_eq, wk, shr_eq k a b h1] at hk
      exact ⟨_, _, hk, fun t w k' hs => by simp [binOp, Op.shift, h0], fun r => .mkI _ _⟩
    · cases hk
  case eql =>
    have hk : c (aBool (eqI a b)) h = true := hk
    rw [eqI_eq] at hk
    exact ⟨_, _, hk, fun t w k' hs => by rcases hs with hs | rfl; · cases hs
                                         simp [binOp, Op.intCmp], fun r => .mkB _⟩
  case neq =>
    have hk : c (aBool (Bool.rec true false (eqI a b))) h = true := hk
    rw [not_eq, eqI_eq] at hk
    exact ⟨_, _, hk, fun t w k' hs => by rcases hs with hs | rfl; · cases hs
                                         simp [binOp, Op.intCmp]; rfl, fun r => .mkB _⟩
  case lss =>
    have hk : c (aBool (Bool.rec true false (leI b a))) h = true := hk
    rw [not_eq, leI_eq] at hk
    exact ⟨_, _, hk, fun t w k' hs => by rcases hs with hs | rfl; · cases hs
                                         simp [binOp, Op.intCmp, dec_lt], fun r => .mkB _⟩
  case leq =>
    have hk : c (aBool (leI a b)) h = true := hk
    rw [leI_eq] at hk
    exact ⟨_, _, hk, fun t w k' hs => by rcases hs with hs | rfl; · cases hs
                                         simp [binOp, Op.intCmp], fun r => .mkB _⟩
  case gtr =>
    have hk : c (aBool (Bool.rec true false (leI a b))) h = true := hk
    rw [not_eq, leI_eq] at hk
    exact ⟨_, _, hk, fun t w k' hs => by rcases hs with hs | rfl; · cases hs
                                         simp [binOp, Op.intCmp, dec_lt], fun r => .mkB _⟩
  case geq =>
    have hk : c (aBool (leI b a)) h = true := hk
    rw [leI_eq] at hk
    exact ⟨_, _, hk, fun t w k' hs => by rcases hs with hs | rfl; · cases hs
                                         simp [binOp, Op.intCmp], fun r => .mkB _⟩
end Go.Proofs.YtefppgdfcnediaaGreat.X

/- Own executor, part 8: texts; operations that look at no memory. -/
set_option linter.unusedVariables false
set_option linter.unusedSimpArgs false
set_option maxRecDepth 100000
namespace Go.Proofs.YtefppgdfcnediaaGreat.X
open Go Go.RowKit

/-- A text's bytes, as numbers. -/
def nums (s : ByteArray) : List Nat := s.data.toList.map (·.toNat)
theorem nums_len (s : ByteArray) : (nums s).length = s.size := by
  unfold nums
  rw [List.length_map, Array.length_toList]; rfl

theorem eqS_eq : ∀ (a b : List Nat), eqS a b = (a == b)
  | [], [] => rfl
  | [], _ :: _ => rfl
  | _ :: _, [] => rfl
  | x :: r, y :: s => by
    show (Bool.rec false (eqS r s) (Nat.beq x y) : Bool) = _
    rw [brec, eqS_eq r s, List.cons_beq_cons]
    by_cases h : x = y
    · subst h; simp
    · have : ¬ Nat.beq x y = true := fun e => h (beq_tt.1 e)
      rw [if_neg this]
      simp [h]
theorem nums_eq (x y : ByteArray) : (nums x == nums y) = (x.toList == y.toList) := by
  rw [Go.ByteArray.toList_eq, Go.ByteArray.toList_eq, Bool.eq_iff_iff, beq_iff_eq, beq_iff_eq]
  exact List.map_inj_right (fun a b h => UInt8.toNat_inj.1 h)
theorem ltS_eq : ∀ (a b : List UInt8), ltS (a.map (·.toNat)) (b.map (·.toNat)) = Op.bytesLess a b
  | [], [] => rfl
  | [], _ :: _ => rfl
  | _ :: _, [] => rfl
  | x :: r, y :: s => by
    show (Bool.rec (Bool.rec false (ltS (r.map (·.toNat)) (s.map (·.toNat))) (Nat.beq x.toNat y.toNat)) true (Nat.blt x.toNat y.toNat) : Bool) = _
    rw [brec, brec, ltS_eq r s]
    simp only [Op.bytesLess]
    by_cases h1 : x < y
    · have : Nat.blt x.toNat y.toNat = true := blt_tt.2 (UInt8.lt_iff_toNat_lt.1 h1)
      simp [h1, this]
    · have : ¬ Nat.blt x.toNat y.toNat = true := fun e => h1 (UInt8.lt_iff_toNat_lt.2 (blt_tt.1 e))
      rw [if_neg this]
      by_cases h2 : x = y
      · subst h2
        have : Nat.beq x.toNat x.toNat = true := beq_tt.2 rfl
        simp [h1, this]
      · have : ¬ Nat.beq x.toNat y.toNat = true := fun e => h2 (UInt8.toNat_inj.1 (beq_tt.1 e))
        simp [h1, h2, this]
theorem less_tri : ∀ (a b : List UInt8), (!Op.bytesLess b a) = (Op.bytesLess a b || a == b)
  | [], [] => rfl
  | [], _ :: _ => rfl
  | _ :: _, [] => rfl
  | x :: r, y :: s => by
    simp only [Op.bytesLess, List.cons_beq_cons]
    have ih := less_tri r s
    by_cases h1 : x < y
    · have h2 : ¬ y < x := fun h => by have := UInt8.lt_iff_toNat_lt.1 h; have := UInt8.lt_iff_toNat_lt.1 h1; omega
      have h3 : y ≠ x := fun h => by subst h; exact h2 h1
      simp [h1, h2, h3]
    · by_cases h2 : x = y
      · subst h2
        simp [h1, ih]
      · have h3 : y < x := by
          refine UInt8.lt_iff_toNat_lt.2 ?_
          have a1 : ¬ x.toNat < y.toNat := fun h => h1 (UInt8.lt_iff_toNat_lt.2 h)
          have a2 : x.toNat ≠ y.toNat := fun h => h2 (UInt8.toNat_inj.1 h)
          omega
        simp [h1, h2, h3]
theorem nums_lt (x y : ByteArray) : ltS (nums x) (nums y) = Op.bytesLess x.toList y.toList := by
  rw [Go.ByteArray.toList_eq, Go.ByteArray.toList_eq]; exact ltS_eq _ _

theorem binS_ok (op : BinOp) (a b : List Nat) (h : HS) (c : K) (hk : (binS op).f a b h c = true) :
    ∃ u, c u h = true ∧ ∀ x y, a = nums x → b = nums y → ∃ z, (∀ (t : TypeId) (w : World), (binOp op t (.string x) (.string y)).run P w = .ok z w) ∧ ∀ r, RV r u z := by
  cases op
  case add =>
    have hk : andB (Nat.ble (Nat.add (lenL a) (lenL b)) 140737488355328) (c (aStr (appL a b)) h) = true := hk
    rw [andB_eq, lenL_eq, lenL_eq, appL_eq] at hk
    obtain ⟨h1, h2⟩ := hk
    refine ⟨_, h2, fun x y hx hy => ⟨.string (x ++ y), fun t w => ?_, fun r => .mkS _ ?_⟩⟩
    · subst hx; subst hy
      rw [nums_len, nums_len] at h1
      have h1 : x.size + y.size ≤ 140737488355328 := ble_tt.1 h1
      have h1 : ¬ (((x.size + y.size : Nat) : Int) > IntKind.i64.max) := by
        have : IntKind.i64.max = 9223372036854775807 := by decide
        omega
      simp only [binOp, Op.stringOp]
      rw [if_neg h1]
      rfl
    · subst hx; subst hy
      simp [nums, ByteArray.data_append]
  case eql =>
    have hk : c (aBool (eqS a b)) h = true := hk
    refine ⟨_, hk, fun x y hx hy => ⟨.bool (x.toList == y.toList), fun t w => by simp only [binOp, Op.stringOp]; rfl, fun r => ?_⟩⟩
    subst hx; subst hy; rw [eqS_eq, nums_eq]; exact .mkB _
  case neq =>
    have hk : c (aBool (Bool.rec true false (eqS a b))) h = true := hk
    refine ⟨_, hk, fun x y hx hy => ⟨.bool (!(x.toList == y.toList)), fun t w => by simp only [binOp, Op.stringOp]; rfl, fun r => ?_⟩⟩
    subst hx; subst hy; rw [not_eq, eqS_eq, nums_eq]; exact .mkB _
  case lss =>
    have hk : c (aBool (ltS a b)) h = true := hk
    refine ⟨_, hk, fun x y hx hy => ⟨.bool (Op.bytesLess x.toList y.toList), fun t w => by simp only [binOp, Op.stringOp]; rfl, fun r => ?_⟩⟩
    subst hx; subst hy; rw [nums_lt]; exact .mkB _
  case leq =>
    have hk : c (aBool (Bool.rec true false (ltS b a))) h = true := hk
    refine ⟨_, hk, fun x y hx hy => ⟨.bool (Op.bytesLess x.toList y.toList || x.toList == y.toList), fun t w => by simp only [binOp, Op.stringOp]; rfl, fun r => ?_⟩⟩
    subst hx; subst hy; rw [not_eq, nums_lt, less_tri]; exact .mkB _
  case gtr =>
    have hk : c (aBool (ltS b a)) h = true := hk
    refine ⟨_, hk, fun x y hx hy => ⟨.bool (!(Op.bytesLess x.toList y.toList || x.toList == y.toList)), fun t w => by simp only [binOp, Op.stringOp]; rfl, fun r => ?_⟩⟩
    subst hx; subst hy; rw [← less_tri, Bool.not_not, nums_lt]; exact .mkB _
  case geq =>
    have hk : c (aBool (Bool.rec true false (ltS a b))) h = true := hk
    refine ⟨_, hk, fun x y hx hy => ⟨.bool (!(Op.bytesLess x.toList y.toList)), fun t w => by simp only [binOp, Op.stringOp]; rfl, fun r => ?_⟩⟩
    subst hx; subst hy; rw [not_eq, nums_lt]; exact .mkB _
  all_goals cases hk

/-! ### The two-place operations -/
theorem guard_int (op : BinOp) (t : TypeId) (xo yo : Operand) (k k' : IntKind) (a b : Int) (w : World) : (eqGuard op t xo yo (.int k a) (.int k' b)).run P w = .ok () w := by
  cases op <;> simp [eqGuard]
theorem guard_str (op : BinOp) (t : TypeId) (xo yo : Operand) (a b : ByteArray) (w : World) : (eqGuard op t xo yo (.string a) (.string b)).run P w = .ok () w := by
  cases op <;> simp [eqGuard]
/-- What a two-place operation runs. -/
def b2 (op : BinOp) (t : TypeId) (xo yo : Operand) (a b : Value) : Sem Next := vv (do eqGuard op t xo yo a b; binOp op t a b)
theorem sat_bi (op : BinOp) (k : IntKind) (t : TypeId) (xo yo : Operand) : Sat2 (g_bi op (wkOf k)).f (b2 op t xo yo) := by
  intro x y h c hk
  have e1 : (g_bi op (wkOf k)).f x y h c = (Bool.rec (kq (wkOf k) x (kq (wkOf k) y ((binI op (wkOf k)).f x.n y.n h c))) (kq (wkOf k) x (tg y 0 ((binI op (wkOf k)).f x.n y.n h c))) (shB op) : Ans) := by
    unfold g_bi
    cases binI op (wkOf k)
    cases shB op <;> rfl
  rw [e1] at hk
  have key : x.t = 0 ∧ x.k = k ∧ y.t = 0 ∧ (shB op = true ∨ y.k = k) ∧ (binI op (wkOf k)).f x.n y.n h c = true := by
    rw [brec] at hk
    split at hk
    · rename_i hs
      obtain ⟨h1, h2, h3⟩ := kq_ok hk
      rw [tg_eq] at h3
      exact ⟨h1, h2, h3.1, .inl hs, h3.2⟩
    · obtain ⟨h1, h2, h3⟩ := kq_ok hk
      obtain ⟨h4, h5, h6⟩ := kq_ok h3
      exact ⟨h1, h2, h4, .inr h5, h6⟩
  obtain ⟨h1, h2, h3, h4, h5⟩ := key
  obtain ⟨u, z, k1, k2, k3⟩ := binI_ok op k x.n y.n h c h5
  refine ⟨u, h, k1, fun W0 r w a b ha hb hR => .val (y := z) ?_ (k3 r) hR⟩
  rw [ha.ik h1 h2, hb.i h3]
  simp only [Sem.run_bind, guard_int, Result.andThen_ok]
  exact k2 t w y.k h4
theorem sat_bs (op : BinOp) (t : TypeId) (xo yo : Operand) : Sat2 (g_bs op).f (b2 op t xo yo) := by
  intro x y h c hk
  have e1 : (g_bs op).f x y h c = tg x 2 (tg y 2 ((binS op).f x.s y.s h c)) := by
    unfold g_bs
    cases binS op
    rfl
  rw [e1, tg_eq, tg_eq] at hk
  obtain ⟨h1, h2, h3⟩ := hk
  obtain ⟨u, k1, k2⟩ := binS_ok op x.s y.s h c h3
  refine ⟨u, h, k1, fun W0 r w a b ha hb hR => ?_⟩
  obtain ⟨q, rfl, hq⟩ := ha.s h1
  obtain ⟨q', rfl, hq'⟩ := hb.s h2
  obtain ⟨z, k3, k4⟩ := k2 q q' hq hq'
  refine .val (y := z) ?_ (k4 r) hR
  simp only [Sem.run_bind, guard_str, Result.andThen_ok]
  exact k3 t w
end Go.Proofs.YtefppgdfcnediaaGreat.X

/- Own executor, part 9: operations that look at no memory. -/
set_option linter.unusedVariables false
set_option linter.unusedSimpArgs false
set_option maxRecDepth 100000
namespace Go.Proofs.YtefppgdfcnediaaGreat.X
open Go Go.RowKit

theorem sat_not : Sat1 g_not fun x => vv (Op.unary .not x) := by
  intro v h k hk
  unfold g_not at hk
  rw [tg_eq, not_eq] at hk
  refine ⟨_, h, hk.2, fun W0 r w x hx hR => .val (y := .bool (!v.b)) ?_ (.mkB _) hR⟩
  rw [hx.b hk.1]; rfl
theorem sat_neg (kd : IntKind) : Sat1 (g_neg (wkOf kd)) fun x => vv (Op.unary .neg x) := by
  intro v h k hk
  unfold g_neg at hk
  obtain ⟨h1, h2, h3⟩ := kq_ok hk
  rw [okI_eq, wk_top, wrapF_eq] at h3
  refine ⟨_, h, h3, fun W0 r w x hx hR => .val (y := .int kd (kd.wrap (0 - v.n))) ?_ (.mkI _ _) hR⟩
  rw [hx.ik h1 h2]; rfl
theorem sat_cpl (kd : IntKind) : Sat1 (g_cpl (wkOf kd)) fun x => vv (Op.unary .xor x) := by
  intro v h k hk
  unfold g_cpl at hk
  obtain ⟨h1, h2, h3⟩ := kq_ok hk
  rw [okI_eq, wk_top] at h3
  refine ⟨_, h, h3, fun W0 r w x hx hR => .val (y := .int kd (kd.wrap (BitVec.ofInt kd.bits (if kd.signed then -1 else kd.max) ^^^ BitVec.ofInt kd.bits v.n).toNat)) ?_ (.mkI _ _) hR⟩
  rw [hx.ik h1 h2]; rfl
theorem sat_cvtI {s t : TypeId} {k0 kd : IntKind} (hs : undA s = some (.int k0)) (ht : undA t = some (.int kd)) : Sat1 (g_cvtI (wkOf kd)) fun x => vv (convert s t x) := by
  intro v h k hk
  unfold g_cvtI at hk
  rw [tg_eq, okI_eq, wk_top, wrapF_eq] at hk
  refine ⟨_, h, hk.2, fun W0 r w x hx hR => .val (y := .int kd (kd.wrap v.n)) ?_ (.mkI _ _) hR⟩
  rw [hx.i hk.1]
  unfold convert
  rw [M.run_und (undA_ok hs), M.run_und (undA_ok ht)]
  rfl
theorem sat_str {s t : TypeId} (hs : undA s = some .string) (ht : undA t = some .string) : Sat1 g_str fun x => vv (convert s t x) := by
  intro v h k hk
  unfold g_str at hk
  rw [tg_eq] at hk
  refine ⟨_, h, hk.2, fun W0 r w x hx hR => ?_⟩
  have hx0 := hx
  obtain ⟨q, rfl, hq⟩ := hx.s hk.1
  refine .val (y := .string q) ?_ hx0 hR
  unfold convert
  rw [M.run_und (undA_ok hs), M.run_und (undA_ok ht)]
  rfl
/-- What a test for nil runs. -/
def nilC (x : Value) : Sem Next := match x with
  | .pointer none | .nilIface | .nilFunc => runtimePanic .nilDeref
  | .func (.method name) first captured =>
    match (first[0]? : Option Value) with
    | some .nilIface => runtimePanic .nilDeref
    | some (.iface t w) => do
      if (← nilAhead ((← program).types.size + Made.depth) t w name) != some false then
        unsupported (.noEntry "op/nilCheck.the method's receiver behind this interface value is a nil pointer, or cannot be seen to be none, and the arguments act or may panic (ledger 612)")
      pure (.value (.func (.method name) first captured))
    | _ => pure (.value (.func (.method name) first captured))
  | x => pure (.value x)
theorem sat_nil : Sat1 g_nil nilC := by
  intro v h k hk
  unfold g_nil at hk
  rw [brec] at hk
  split at hk
  · rename_i h1
    refine ⟨_, h, hk, fun W0 r w x hx hR => ?_⟩
    have hx0 := hx
    obtain ⟨b, c, rfl, _⟩ := hx.p (beq_tt.1 h1)
    exact .value rfl hx0 hR
  · rw [brec] at hk
    split at hk
    · rename_i h1
      refine ⟨_, h, hk, fun W0 r w x hx hR => ?_⟩
      have hx0 := hx
      obtain ⟨b, c, rfl, _⟩ := hx.f (beq_tt.1 h1)
      exact .value rfl hx0 hR
    · rw [tg_eq] at hk
      refine ⟨_, h, hk.2, fun W0 r w x hx hR => ?_⟩
      have hx0 := hx
      obtain ⟨b, c, _, rfl, _⟩ := hx.ic hk.1
      exact .value rfl hx0 hR

theorem sat_ext (i : Nat) : Sat1 (g_ext i) fun x => vv (Instr.extract x i) := by
  intro v h k hk
  unfold g_ext at hk
  rw [tg_eq, getN_eq] at hk
  obtain ⟨h1, u, h2, h3⟩ := hk
  refine ⟨u, h, h3, fun W0 r w x hx hR => ?_⟩
  obtain ⟨l, rfl, hl⟩ := hx.tu h1
  obtain ⟨y, hy, hv⟩ := hl.get h2
  refine .val (y := y) ?_ hv hR
  simp [Instr.extract, hy]
theorem sat_ifc (t : TypeId) (h0 : ∃ d, undA t = some d ∧ ∀ ms, d ≠ .interface ms) : Sat1 (g_ifc t) fun x => vv (Instr.makeInterface t x) := by
  intro v h k hk
  obtain ⟨d, hd, hn⟩ := h0
  refine ⟨_, h, hk, fun W0 r w x hx hR => .val (y := .iface t x) ?_ (.ifc rfl rfl hx) hR⟩
  unfold Instr.makeInterface
  rw [M.run_und (undA_ok hd)]
  cases d <;> first
    | rfl
    | exact absurd rfl (hn _)
theorem sat_fun (f n : Nat) : SatN (g_fun f n) fun xs => vv (Instr.makeFunc (.func f) ⟨xs.take n⟩ ⟨xs.drop n⟩) := by
  intro l h k hk
  unfold g_fun at hk
  rw [takeN_eq, dropN_eq] at hk
  refine ⟨_, h, hk.2, fun W0 r w xs hx hR => .val (y := .func (.func f) ⟨xs.take n⟩ ⟨xs.drop n⟩) rfl (.fn rfl (hx.take n) (hx.drop n)) hR⟩

theorem nat_ok {v : AV} {k : Nat → Ans} (h : natOf v k = true) : v.t = 0 ∧ ∃ n : Nat, v.n = (n : Int) ∧ k n = true := by
  unfold natOf at h
  rw [tg_eq] at h
  obtain ⟨h1, h2⟩ := h
  cases hn : v.n with
  | ofNat n => rw [hn] at h2; exact ⟨h1, n, rfl, h2⟩
  | negSucc n => rw [hn] at h2; cases h2
theorem sat_byte {t : TypeId} (ht : undA t = some .string) : Sat2 g_byte fun x i => vv (Instr.index t x i) := by
  intro v i h k hk
  unfold g_byte at hk
  rw [tg_eq] at hk
  obtain ⟨h1, hk⟩ := hk
  obtain ⟨h2, n, h3, hk⟩ := nat_ok hk
  rw [getN_eq] at hk
  obtain ⟨c, h4, hk⟩ := hk
  refine ⟨_, h, hk, fun W0 r w x y hx hy hR => ?_⟩
  obtain ⟨q, rfl, hq⟩ := hx.s h1
  rw [hy.i h2, h3]
  rw [hq, List.getElem?_map] at h4
  cases hb : q.data.toList[n]? with
  | none => rw [hb] at h4; cases h4
  | some b =>
    rw [hb] at h4
    simp only [Option.map_some, Option.some.injEq] at h4
    subst h4
    refine .val (y := .int .u8 b.toNat) ?_ (.mkI _ _) hR
    have hq2 : q[n]? = some b := by
      have h5 : n < q.data.toList.length := (List.getElem?_eq_some_iff.1 hb).1
      have h6 := (List.getElem?_eq_some_iff.1 hb).2
      have h7 : n < q.size := by
        have : q.data.toList.length = q.size := Array.length_toList
        omega
      rw [getElem?_pos q n h7, ByteArray.getElem_eq_getElem_data]
      simpa using h6
    unfold Instr.index
    simp only [asIntOf, Sem.run_bind, Sem.run_pure, Result.andThen_ok]
    rw [run_underlying (undA_ok ht)]
    simp [hq2]
theorem sat_min (f : Value → Value → Sem Value) (hf : ∀ k x k' y, f (.int k x) (.int k' y) = pure (.int k (if y < x then y else x))) : Sat2 g_min fun x y => vv (f x y) := by
  intro v u h k hk
  unfold g_min at hk
  rw [tg_eq, tg_eq, brec, leI_eq] at hk
  obtain ⟨h1, h2, hk⟩ := hk
  split at hk
  · rename_i h3
    have h3 : v.n ≤ u.n := by simpa using h3
    refine ⟨_, h, hk, fun W0 r w x y hx hy hR => .val (y := x) ?_ hx hR⟩
    rw [hx.i h1, hy.i h2, hf, if_neg (by omega)]; rfl
  · rename_i h3
    have h3 : ¬ v.n ≤ u.n := by simpa using h3
    refine ⟨_, h, hk, fun W0 r w x y hx hy hR => .val (y := .int v.k u.n) ?_ (.mkI _ _) hR⟩
    rw [hx.i h1, hy.i h2, hf, if_pos (by omega)]; rfl
theorem sat_max (f : Value → Value → Sem Value) (hf : ∀ k x k' y, f (.int k x) (.int k' y) = pure (.int k (if y > x then y else x))) : Sat2 g_max fun x y => vv (f x y) := by
  intro v u h k hk
  unfold g_max at hk
  rw [tg_eq, tg_eq, brec, leI_eq] at hk
  obtain ⟨h1, h2, hk⟩ := hk
  split at hk
  · rename_i h3
    have h3 : u.n ≤ v.n := by simpa using h3
    refine ⟨_, h, hk, fun W0 r w x y hx hy hR => .val (y := x) ?_ hx hR⟩
    rw [hx.i h1, hy.i h2, hf, if_neg (by omega)]; rfl
  · rename_i h3
    have h3 : ¬ u.n ≤ v.n := by simpa using h3
    refine ⟨_, h, hk, fun W0 r w x y hx hy hR => .val (y := .int v.k u.n) ?_ (.mkI _ _) hR⟩
    rw [hx.i h1, hy.i h2, hf, if_pos (by omega)]; rfl
end Go.Proofs.YtefppgdfcnediaaGreat.X

/- Own executor, part 10: addresses, parts, loads, stores, new blocks. -/
set_option linter.unusedVariables false
set_option linter.unusedSimpArgs false
set_option maxRecDepth 100000
namespace Go.Proofs.YtefppgdfcnediaaGreat.X
open Go Go.RowKit

theorem sat_fadr {s : TypeId} {f n : Nat} {d : Field} (hd : fdT s f = some d) (hn : szT d.type = some n) (h1 : 1 ≤ n) : Sat1 (g_fadr d.offset) fun x => vv (Instr.fieldAt s x f) := by
  intro v h k hk
  unfold g_fadr at hk
  rw [tg_eq, forceN_eq] at hk
  obtain ⟨ht, hk⟩ := hk
  refine ⟨_, h, hk, fun W0 r w x hx hR => ?_⟩
  obtain ⟨b, c, rfl, hr⟩ := hx.p ht
  obtain ⟨fs, hu, hf⟩ := fdT_ok hd
  refine .val (y := .pointer (some ⟨b, v.f.r + d.offset, none⟩)) ?_ (.ptr (v := aPtr v.f.p v.f.q (v.f.r + d.offset)) rfl hr) hR
  unfold Instr.fieldAt
  rw [M.run_und hu]
  have h0 : n ≠ 0 := by omega
  simp [hf, Instr.sureAddr, fieldPlace, run_sz hn, h0, M.addr_add]
theorem sat_ixA {t el : TypeId} {n w' : Nat} (ht : undA t = some (.array n el)) (hw : szT el = some w') : Sat2 (g_ixA n w') fun x i => vv (Instr.indexAt t x i) := by
  intro v i h k hk
  unfold g_ixA at hk
  rw [tg_eq] at hk
  obtain ⟨h1, hk⟩ := hk
  obtain ⟨h2, m, h3, hk⟩ := nat_ok hk
  rw [andB_eq, forceN_eq, blt_tt] at hk
  obtain ⟨h4, hk⟩ := hk
  refine ⟨_, h, hk, fun W0 r w x y hx hy hR => ?_⟩
  obtain ⟨b, c, rfl, hr⟩ := hx.p h1
  rw [hy.i h2, h3]
  refine .val (y := .pointer (some ⟨b, v.f.r + m * w', none⟩)) ?_ (.ptr (v := aPtr v.f.p v.f.q (v.f.r + m * w')) rfl hr) hR
  unfold Instr.indexAt
  simp only [asIntOf, Sem.run_bind, Sem.run_pure, Result.andThen_ok, run_underlying (undA_ok ht), Instr.sureAddr]
  have h5 : (0 : Int) ≤ (m : Int) ∧ (m : Int) < (n : Int) := by omega
  rw [if_pos h5]
  simp [run_sz hw, M.addr_add]
theorem sat_ixS {t el : TypeId} {w' : Nat} (ht : undA t = some (.slice el)) (hw : szT el = some w') : Sat2 (g_ixS w') fun x i => vv (Instr.indexAt t x i) := by
  intro v i h k hk
  unfold g_ixS at hk
  rw [tg_eq] at hk
  obtain ⟨h1, hk⟩ := hk
  obtain ⟨h2, m, h3, hk⟩ := nat_ok hk
  rw [andB_eq, forceN_eq, blt_tt] at hk
  obtain ⟨h4, hk⟩ := hk
  refine ⟨_, h, hk, fun W0 r w x y hx hy hR => ?_⟩
  obtain ⟨b, c, o, mm, rfl, hr, hu, ho, _⟩ := hx.sl h1
  have ho : o = v.f.r := by rcases ho with ho | ho; · exact ho
                            · omega
  subst ho
  rw [hy.i h2, h3]
  refine .val (y := .pointer (some ⟨b, v.f.r + m * w', none⟩)) ?_ (.ptr (v := aPtr v.f.p v.f.q (v.f.r + m * w')) rfl hr) hR
  unfold Instr.indexAt
  simp only [asIntOf, Sem.run_bind, Sem.run_pure, Result.andThen_ok, run_underlying (undA_ok ht)]
  have h5 : (0 : Int) ≤ (m : Int) ∧ (m : Int) < (v.f.u : Int) := by omega
  rw [if_pos h5]
  simp [run_sz hw, M.addr_add]

/-! ### A value of some cells -/
theorem asV_ok {ag : Bool} {cs : List AV} {k : AV → Ans} (hk : asV ag cs k = true) : ∃ u, k u = true ∧ ∀ r xs, RL r cs xs → Fl cs → ∃ y, RV r u y ∧ (ag = true ∧ y = .agg ⟨xs⟩ ∨ ag = false ∧ xs = [y]) := by
  unfold asV at hk
  cases ag with
  | true => exact ⟨_, hk, fun r xs hx hf => ⟨.agg ⟨xs⟩, .agg rfl hf hx, .inl ⟨rfl, rfl⟩⟩⟩
  | false =>
    cases cs with
    | nil => cases hk
    | cons v l => cases l with
      | nil =>
        refine ⟨v, hk, fun r xs hx hf => ?_⟩
        cases hx with
        | cons a b => cases b with
          | nil => exact ⟨_, a, .inr ⟨rfl, rfl⟩⟩
      | cons => cases hk
theorem sat_field {s : TypeId} {f n : Nat} {d : Field} {ag : Bool} (hd : fdT s f = some d) (hn : szT d.type = some n) (ha : agT d.type = some ag) : Sat1 (g_field d.offset n ag) fun x => vv (Instr.field s x f) := by
  intro v h k hk
  unfold g_field at hk
  rw [tg_eq, takeN_eq, dropN_eq] at hk
  obtain ⟨h1, hl, hk⟩ := hk
  obtain ⟨u, h2, h3⟩ := asV_ok hk
  refine ⟨u, h, h2, fun W0 r w x hx hR => ?_⟩
  obtain ⟨l, rfl, hl2, hf⟩ := hx.ag h1
  obtain ⟨fs, hu, hfs⟩ := fdT_ok hd
  obtain ⟨y, hy, hcase⟩ := h3 r _ ((hl2.drop d.offset).take n) ((hf.drop _).take _)
  refine .val (y := y) ?_ hy hR
  have hlen := hl2.len
  rw [List.length_drop] at hl
  unfold Instr.field
  rw [M.run_und hu]
  simp only [hfs, part, asAgg, Sem.run_bind, Sem.run_pure, Result.andThen_ok, run_ag ha]
  rcases hcase with ⟨rfl, rfl⟩ | ⟨rfl, hxs⟩
  · simp [run_sz hn, List.extract_eq_take_drop]
  · have hg : l[d.offset]? = some y := by
      have : ((l.drop d.offset).take n)[0]? = some y := by rw [hxs]; rfl
      have hn0 : 0 < n := by
        rcases Nat.eq_zero_or_pos n with h0 | h0
        · subst h0; simp at hxs
        · exact h0
      rw [List.getElem?_take_of_lt hn0, List.getElem?_drop] at this
      simpa using this
    simp [hg]
end Go.Proofs.YtefppgdfcnediaaGreat.X

/- Own executor, part 11: loads, stores, new blocks. -/
set_option linter.unusedVariables false
set_option linter.unusedSimpArgs false
set_option maxRecDepth 100000
namespace Go.Proofs.YtefppgdfcnediaaGreat.X
open Go Go.RowKit

theorem run_cells {w : World} {b off n : Nat} {m : List Value} {el : TypeId} {fz : Nat × Nat} (hb : w.heap[b]? = some (.cells ⟨m⟩ el fz)) (hl : ((m.drop off).take n).length = n) :
    (loadCells ⟨b, off, none⟩ n).run P w = .ok ⟨(m.drop off).take n⟩ w := by
  have := run_loadCells_list (P := P) w ⟨b, off, none⟩ ((m.drop off).take n) (fun j v hv => by
    rw [M.addr_add, M.cell_at hb]
    have hj : j < n := by
      have := (List.getElem?_eq_some_iff.1 hv).1
      rw [hl] at this; exact this
    rw [List.getElem?_take_of_lt hj, List.getElem?_drop] at hv
    simpa using hv)
  rw [hl] at this
  exact this
theorem run_var {w : World} {b off n : Nat} {m : List Value} {el t : TypeId} {fz : Nat × Nat} {ag : Bool} {y : Value} (hn : szT t = some n) (ha : agT t = some ag) (hb : w.heap[b]? = some (.cells ⟨m⟩ el fz)) (hl : ((m.drop off).take n).length = n)
    (hy : ag = true ∧ y = .agg ⟨(m.drop off).take n⟩ ∨ ag = false ∧ (m.drop off).take n = [y]) : (loadVar t ⟨b, off, none⟩).run P w = .ok y w := by
  unfold loadVar
  simp only [Sem.run_bind, run_ag ha, Result.andThen_ok]
  rcases hy with ⟨rfl, rfl⟩ | ⟨rfl, hy⟩
  · simp [run_sz hn, run_cells hb hl]
  · have hn1 : n = 1 := by rw [hy] at hl; simp at hl; omega
    subst hn1
    have hg : m[off]? = some y := by
      have : ((m.drop off).take 1)[0]? = some y := by rw [hy]; rfl
      rw [List.getElem?_take_of_lt (by omega), List.getElem?_drop] at this
      simpa using this
    have hc : w.cell? ⟨b, off, none⟩ = some y := by rw [M.cell_at hb]; simpa using hg
    simp [hc]

theorem sat_load {t : TypeId} {n : Nat} {ag : Bool} (hn : szT t = some n) (ha : agT t = some ag) : Sat1 (g_load n ag) fun x => vv (Instr.loadAt t x) := by
  intro v h k hk
  unfold g_load at hk
  rw [tg_eq] at hk
  obtain ⟨h1, hk⟩ := hk
  obtain ⟨cs, hk, hlen, hrd⟩ := rd_ok hk
  obtain ⟨u, hk, hu⟩ := asV_ok hk
  refine ⟨u, h, hk, fun W0 r w x hx hR => ?_⟩
  obtain ⟨b, c, rfl, hr⟩ := hx.p h1
  obtain ⟨hf, m, el, fz, hb, hl⟩ := hrd W0 r w b c hR hr
  obtain ⟨y, hy, hc⟩ := hu r _ hl hf
  refine .val (y := y) ?_ hy hR
  unfold Instr.loadAt
  simp only [Instr.sureAddr, Sem.run_bind, Sem.run_pure, Result.andThen_ok]
  exact run_var hn ha hb (by rw [← hl.len]; exact hlen) hc

theorem nt_ok {v : AV} {x : Ans} (h : nt v x = true) : v.t ≠ 14 ∧ x = true := by
  unfold nt at h
  rw [brec] at h
  split at h
  · cases h
  · rename_i h1; exact ⟨fun e => h1 (beq_tt.2 e), h⟩

/-- Values stored in a row. -/
theorem run_put {w : World} {b off : Nat} {m xs : List Value} {el : TypeId} {fz : Nat × Nat} (hb : w.heap[b]? = some (.cells ⟨m⟩ el fz)) (hz : fz.2 = 0 ∨ m.length ≤ fz.1) (hl : off + xs.length ≤ m.length) (h1 : ∀ x ∈ xs, x.oneCell' = true) :
    (storeCells ⟨b, off, none⟩ xs).run P w = .ok () (w.setRow b ⟨m.take off ++ xs ++ m.drop (off + xs.length)⟩) := by
  have := run_storeCells_T P b off el fz xs 0 ⟨m⟩ w hb hz (by simpa using hl) h1
  simpa using this

theorem sat_store {t : TypeId} {n : Nat} (hn : szT t = some n) : Sat2 (g_store n) fun x y => uu (Instr.storeAt t x y) := by
  intro v u h k hk
  unfold g_store at hk
  rw [tg_eq] at hk
  obtain ⟨h1, hk⟩ := hk
  obtain ⟨h2, hk⟩ := nt_ok hk
  rw [andB_eq, beq_tt, lenL_eq] at hk
  obtain ⟨h3, hk⟩ := hk
  obtain ⟨h', hk, hw⟩ := wr_ok hk
  refine ⟨_, h', hk, fun W0 r w x y hx hy hR => ?_⟩
  obtain ⟨b, c, rfl, hr⟩ := hx.p h1
  have hcs := hy.cells
  have hfl := Fl.cells hy h2
  obtain ⟨m, el, fz, hb, hz, hl, hR'⟩ := hw W0 r w b c _ hR hr hcs hfl
  refine ⟨undef, r, _, .inr ⟨run_uu ?_, rfl⟩, Gh.le_refl r, .und r, hR'⟩
  unfold Instr.storeAt storeVar
  simp only [Instr.sureAddr, Sem.run_bind, Sem.run_pure, Result.andThen_ok, run_sz hn]
  have hs : y.cells.size = n := by
    have e1 := hcs.len
    have e2 : y.cells.toList.length = y.cells.size := Array.length_toList
    omega
  rw [if_neg (by omega)]
  exact run_put hb hz hl (hcs.ones hfl)

/-- A new row of cells. -/
theorem newC_eq {h : HS} {cs : List AV} {k : Nat → HS → Ans} (hk : newC h cs k = true) : h.nx < 32768 ∧ k h.nx (h.new ⟨1, cs, 0, 0, 0, [], []⟩) = true := new_eq hk
theorem Rel.bornC {W0 : WX} {r : Gh} {h : HS} {w : World} {i : Nat} {cs : List AV} (hR : Rel W0 r h w) (hp : W0.x i = some ⟨1, cs, 0, 0, 0, [], []⟩) {xs : List Value} (el : TypeId) (c : Nat) (hx : RL r cs xs) (hf : Fl cs) :
    ∃ r', Gh.le r r' ∧ r' i 0 = some (w.heap.size, c) ∧ Rel (W0.drop i) r' h (w.alloc (.cells ⟨xs⟩ el)) :=
  hR.born hp _ c hf fun r' hle => .row rfl rfl (M.heap_alloc_new' w _) (hx.mono hle)
theorem run_newVar {t : TypeId} {v : Value} {w : World} : (newVar t v).run P w = .ok ⟨w.heap.size, 0, none⟩ (w.alloc (.cells v.cells t)) := by
  simp [newVar, newRow]

theorem sat_alloc {t : TypeId} {z : AV} (hz : zrT t = some z) : SatNA (g_alloc z.cells) fun _ => vv (Instr.alloc t true (.tuple #[])) := by
  intro l h k hk
  unfold g_alloc at hk
  obtain ⟨hn, hk⟩ := newC_eq hk
  obtain ⟨v, hv, hz1, hz2⟩ := run_zero hz
  refine ⟨_, _, hn, hk, fun W0 r w xs h2 _ hR hp => ?_⟩
  obtain ⟨r', hle, hi, hR'⟩ := hR.bornC hp t v.cells.size (hz2 r).cells (Fl.cells (hz2 r) hz1)
  refine ⟨.pointer (some ⟨w.heap.size, 0, none⟩), r', _, run_vv ?_, hle, .ptr (v := aPtr h.nx 0 0) rfl hi, hR'⟩
  unfold Instr.alloc
  simp only [Sem.run_bind, hv, Result.andThen_ok, run_newVar, Sem.run_pure]
theorem sat_box (t : TypeId) : Sat1A g_box fun x => vv (Instr.box t x) := by
  intro v h k hk
  unfold g_box at hk
  obtain ⟨h1, hk⟩ := nt_ok hk
  obtain ⟨hn, hk⟩ := newC_eq hk
  refine ⟨_, _, hn, hk, fun W0 r w x h2 hx hR hp => ?_⟩
  obtain ⟨r', hle, hi, hR'⟩ := hR.bornC hp t x.cells.size hx.cells (Fl.cells hx h1)
  refine ⟨.pointer (some ⟨w.heap.size, 0, none⟩), r', _, run_vv ?_, hle, .ptr (v := aPtr h.nx 0 0) rfl hi, hR'⟩
  unfold Instr.box
  simp only [Sem.run_bind, Result.andThen_ok, run_newVar, Sem.run_pure]
end Go.Proofs.YtefppgdfcnediaaGreat.X

/- Own executor, part 12: values and rows that are built. -/
set_option linter.unusedVariables false
set_option linter.unusedSimpArgs false
set_option maxRecDepth 100000
namespace Go.Proofs.YtefppgdfcnediaaGreat.X
open Go Go.RowKit

theorem fill_ok : ∀ {ps : List (Nat × Nat)} {z l : List AV} {k : List AV → Ans}, fill ps z l k = true → ∃ c, k c = true ∧ c.length = z.length ∧ l.length = ps.length ∧ ∀ (r : Gh) (zs xs : List Value), RL r z zs → Fl z → RL r l xs →
    ∃ cs, RL r c cs ∧ Fl c ∧ ∀ (place : Nat → Option (Nat × Nat)) (is : List Nat), is.length = ps.length → (∀ (j i : Nat) (p : Nat × Nat), is[j]? = some i → ps[j]? = some p → place i = some p) → Instr.fill place ⟨zs⟩ (is.zip xs) = some ⟨cs⟩
  | [], z, [], k, hk => by
    refine ⟨z, hk, rfl, rfl, fun r zs xs hz hf hx => ⟨zs, hz, hf, fun place is hl hp => ?_⟩⟩
    cases is with
    | nil => simp [Instr.fill]
    | cons => cases hl
  | [], z, _ :: _, k, hk => by cases hk
  | p :: ps, z, [], k, hk => by cases hk
  | p :: ps, z, v :: l, k, hk => by
    have hk : nt v (andB (Nat.beq (lenL v.cells) p.2) (putAt p.1 z v.cells fun z' => fill ps z' l k)) = true := hk
    obtain ⟨h1, hk⟩ := nt_ok hk
    rw [andB_eq, beq_tt, lenL_eq, putAt_eq] at hk
    obtain ⟨h2, h3, hk⟩ := hk
    obtain ⟨c, k1, k2, k3, k4⟩ := fill_ok hk
    refine ⟨c, k1, by rw [k2]; simp; omega, by simp [k3], fun r zs xs hz hf hx => ?_⟩
    cases hx with
    | cons hv hx =>
      rename_i x xs
      have hc := hv.cells
      have hfc := Fl.cells hv h1
      obtain ⟨cs, m1, m2, m3⟩ := k4 r _ _ (hz.put hc) (((hf.take _).app hfc).app (hf.drop _)) hx
      refine ⟨cs, m1, m2, fun place is hl hp => ?_⟩
      cases is with
      | nil => cases hl
      | cons i is =>
        have e1 := hc.len
        have e2 := hz.len
        have e3 : x.cells.toList.length = x.cells.size := Array.length_toList
        have e4 : (Array.mk zs).size = zs.length := rfl
        rw [List.zip_cons_cons]
        rw [M.fill_cons (off := p.1) (size := p.2) (hp 0 i p rfl rfl) (by omega) (by omega)]
        exact m3 place is (by simpa using hl) fun j i' p' h1 h2 => hp (j + 1) i' p' (by simpa using h1) (by simpa using h2)

/-- Rows of zeros. -/
theorem zeros_eq (z : Array Value) : ∀ n, ((Array.range (n * z.size)).map fun i => z[i % z.size]!).toList = (List.replicate n z.toList).flatten
  | 0 => by simp
  | n + 1 => by
    have ih := zeros_eq z n
    rw [Array.toList_map, Array.toList_range] at ih ⊢
    rw [Nat.succ_mul, List.range_add, List.map_append, ih, List.replicate_succ', List.flatten_append, List.flatten_singleton]
    congr 1
    rw [List.map_map]
    apply List.ext_getElem
    · simp
    · intro j h1 h2
      have hj : j < z.size := by simpa using h1
      simp [Nat.mul_add_mod', Nat.mod_eq_of_lt hj, hj]
end Go.Proofs.YtefppgdfcnediaaGreat.X

/- Own executor, part 13: values that are built. -/
set_option linter.unusedVariables false
set_option linter.unusedSimpArgs false
set_option maxRecDepth 100000
namespace Go.Proofs.YtefppgdfcnediaaGreat.X
open Go Go.RowKit

theorem plcs_ok : ∀ {fs : List Field} {pl : List (Nat × Nat)}, plcs fs = some pl → fs.mapM (fun f => (P.info? f.type).map fun i => (f.offset, i.size)) = some pl
  | [], pl, h => by
    have h : some [] = some pl := h
    simp only [Option.some.injEq] at h; subst h; rfl
  | f :: fs, pl, h => by
    have h : (match szT f.type, plcs fs with | some n, some l => some ((f.offset, n) :: l) | _, _ => none) = some pl := h
    split at h
    · rename_i n l h1 h2
      simp only [Option.some.injEq] at h; subst h
      obtain ⟨i, h3, h4⟩ := szT_ok h1
      simp [List.mapM_cons, h3, plcs_ok h2, h4]
    · cases h
theorem some_ok {pl : List (Nat × Nat)} : ∀ {is : List Nat} {l : List (Nat × Nat)}, some_ pl is = some l → is.length = l.length ∧ ∀ (j i : Nat) (p : Nat × Nat), is[j]? = some i → l[j]? = some p → pl[i]? = some p
  | [], l, h => by
    have h : some [] = some l := h
    simp only [Option.some.injEq] at h; subst h
    exact ⟨rfl, fun j i p h => by simp at h⟩
  | i :: is, l, h => by
    have h : (match getO i pl, some_ pl is with | some p, some l => some (p :: l) | _, _ => none) = some l := h
    split at h
    · rename_i p l' h1 h2
      simp only [Option.some.injEq] at h; subst h
      rw [getO_eq] at h1
      obtain ⟨k1, k2⟩ := some_ok h2
      refine ⟨by simp [k1], fun j i' p' h3 h4 => ?_⟩
      cases j with
      | zero =>
        simp at h3 h4; subst h3; subst h4; exact h1
      | succ j => exact k2 j i' p' (by simpa using h3) (by simpa using h4)
    · cases h


theorem bld_struct {t : TypeId} {z : AV} {fs : Array Field} {pl l : List (Nat × Nat)} {is : List Nat} (hz : zrT t = some z) (hu : undA t = some (.struct fs)) (hp : plcs fs.toList = some pl) (hl : some_ pl is = some l) (h13 : z.t = 13) :
    SatN (g_bld z.l l) fun xs => vv (Instr.build t ⟨is.zip xs⟩) := by
  intro vs h k hk
  unfold g_bld at hk
  obtain ⟨c, hk, k2, k3, k4⟩ := fill_ok hk
  refine ⟨_, h, hk, fun W0 r w xs hx hR => ?_⟩
  obtain ⟨i, v, h1, h2, h3, h4⟩ := zrT_ok hz
  obtain ⟨zs, rfl, hzs, hfz⟩ := (h4 r).ag h13
  obtain ⟨cs, m1, m2, m3⟩ := k4 r zs xs hzs hfz hx
  obtain ⟨e1, e2⟩ := some_ok hl
  refine .val (y := .agg ⟨cs⟩) (run_build w t _ _ ?_) (.agg rfl m2 m1) hR
  unfold Program.built
  rw [h1, undA_ok hu]
  simp only [h2, plcs_ok hp]
  exact m3 _ is e1 fun j i p h5 h6 => by simpa using e2 j i p h5 h6
theorem bld_array {t el : TypeId} {z : AV} {n w' : Nat} {is : List Nat} (hz : zrT t = some z) (hu : undA t = some (.array n el)) (hw : szT el = some w') (h13 : z.t = 13) :
    SatN (g_bld z.l (is.map fun i => (i * w', w'))) fun xs => vv (Instr.build t ⟨is.zip xs⟩) := by
  intro vs h k hk
  unfold g_bld at hk
  obtain ⟨c, hk, k2, k3, k4⟩ := fill_ok hk
  refine ⟨_, h, hk, fun W0 r w xs hx hR => ?_⟩
  obtain ⟨i, v, h1, h2, h3, h4⟩ := zrT_ok hz
  obtain ⟨ie, h5, h6⟩ := szT_ok hw
  obtain ⟨zs, rfl, hzs, hfz⟩ := (h4 r).ag h13
  obtain ⟨cs, m1, m2, m3⟩ := k4 r zs xs hzs hfz hx
  refine .val (y := .agg ⟨cs⟩) (run_build w t _ _ ?_) (.agg rfl m2 m1) hR
  unfold Program.built
  rw [h1, undA_ok hu]
  simp only [h2, h5, h6]
  refine m3 _ is (by simp) fun j i p h5 h6 => ?_
  rw [List.getElem?_map, h5] at h6
  simp at h6; subst h6; rfl
end Go.Proofs.YtefppgdfcnediaaGreat.X

/- Own executor, part 14: new lists. -/
set_option linter.unusedVariables false
set_option linter.unusedSimpArgs false
set_option maxRecDepth 100000
namespace Go.Proofs.YtefppgdfcnediaaGreat.X
open Go Go.RowKit

/-- A row of n zeros, as the model makes it. -/
theorem zeros_row {z : Array Value} {n s : Nat} (h : z.size = s) : ((Array.range (n * s)).map fun i => (if n * s = 0 then #[] else z)[i % (if n * s = 0 then #[] else z).size]!) = ⟨(List.replicate n z.toList).flatten⟩ := by
  apply Array.ext'
  by_cases h0 : n * s = 0
  · have : (List.replicate n z.toList).flatten = [] := by
      rcases Nat.mul_eq_zero.1 h0 with h1 | h1
      · subst h1; rfl
      · have : z.toList = [] := by
          apply List.eq_nil_of_length_eq_zero
          rw [Array.length_toList]; omega
        rw [this]; simp
    simp only [this]
    rw [h0]; simp
  · simp only [if_neg h0]
    rw [← h]; exact zeros_eq z n

theorem sat_bldL {t el : TypeId} {z : AV} {len w' : Nat} {is : List Nat} (hu : undA t = some (.slice el)) (hw : szT el = some w') (hz : zrT el = some z) (hlen : z.cells.length = w') (hmax : len * w' ≤ 16777216) :
    SatNA (g_bldL len (repL len z.cells) (is.map fun i => (i * w', w'))) fun xs => vv (Instr.buildSlice t len ⟨is.zip xs⟩) := by
  intro vs h k hk
  unfold g_bldL at hk
  obtain ⟨c, hk, k2, k3, k4⟩ := fill_ok hk
  obtain ⟨hnx, hk⟩ := newC_eq hk
  refine ⟨_, _, hnx, hk, fun W0 r w xs h2 hx hR hp => ?_⟩
  obtain ⟨v, hv, hz1, hz2⟩ := run_zero hz
  have hzc := (hz2 r).cells
  have hs : v.cells.size = w' := by
    have := hzc.len
    have e2 : v.cells.toList.length = v.cells.size := Array.length_toList
    omega
  obtain ⟨cs, m1, m2, m3⟩ := k4 r _ xs (by rw [repL_eq]; exact hzc.rep len) (by rw [repL_eq]; exact (Fl.cells (hz2 r) hz1).rep len) hx
  obtain ⟨r', hle, hi, hR'⟩ := hR.bornC hp el len m1 m2
  refine ⟨.slice (some ⟨w.heap.size, 0, none⟩) len len, r', _, run_vv ?_, hle, .slK (v := aSl h.nx 0 0 len 0 len) rfl rfl rfl hi (Nat.le_refl _) (.inl rfl), hR'⟩
  have hf : Instr.fill (fun i => some (i * w', w')) ((Array.range (len * w')).map fun i => (if len * w' = 0 then #[] else v.cells)[i % (if len * w' = 0 then #[] else v.cells).size]!) (is.zip xs) = some ⟨cs⟩ := by
    rw [zeros_row hs]
    refine m3 _ is (by simp) fun j i p h5 h6 => ?_
    rw [List.getElem?_map, h5] at h6
    simp at h6; subst h6; rfl
  unfold Instr.buildSlice
  rw [M.run_und (undA_ok hu)]
  simp only [Sem.run_bind, run_sz hw, Result.andThen_ok]
  rw [if_neg (by omega)]
  by_cases h0 : len * w' = 0
  · simp only [h0, if_true] at hf ⊢
    simp only [Sem.run_bind, Sem.run_pure, Result.andThen_ok, hf, newRow, run_newObj]
    rfl
  · simp only [h0, if_false] at hf ⊢
    simp only [Sem.run_bind, Sem.run_pure, hv, Result.andThen_ok, hf, newRow, run_newObj]
    rfl
end Go.Proofs.YtefppgdfcnediaaGreat.X

/- Own executor, part 15: parts of lists and of texts. -/
set_option linter.unusedVariables false
set_option linter.unusedSimpArgs false
set_option maxRecDepth 100000
namespace Go.Proofs.YtefppgdfcnediaaGreat.X
open Go Go.RowKit

theorem run_bnd {k : IntKind} {n : Nat} {y : Nat} {code : BoundsCode} (w : World) (h : n ≤ y) : (Instr.sliceBound (.int k (n : Int)) y code).run P w = .ok n w := by
  have := M.run_bound (P := P) (w := w) (k := k) (n := (n : Int)) (y := y) (code := code) ⟨by omega, by omega⟩
  simpa using this

theorem sat_elem {t el : TypeId} {n w' : Nat} {ag : Bool} (ht : undA t = some (.array n el)) (hw : szT el = some w') (ha : agT el = some ag) : Sat2 (g_elem n w' ag) fun x i => vv (Instr.index t x i) := by
  intro v i h k hk
  unfold g_elem at hk
  rw [tg_eq] at hk
  obtain ⟨h1, hk⟩ := hk
  obtain ⟨h2, m, h3, hk⟩ := nat_ok hk
  rw [andB_eq, blt_tt, takeN_eq, dropN_eq] at hk
  obtain ⟨h4, hl, hk⟩ := hk
  obtain ⟨u, h5, h6⟩ := asV_ok hk
  refine ⟨u, h, h5, fun W0 r w x y hx hy hR => ?_⟩
  obtain ⟨l, rfl, hl2, hf⟩ := hx.ag h1
  rw [hy.i h2, h3]
  obtain ⟨y, hy', hcase⟩ := h6 r _ ((hl2.drop (m * w')).take w') ((hf.drop _).take _)
  refine .val (y := y) ?_ hy' hR
  unfold Instr.index
  simp only [asIntOf, Sem.run_bind, Sem.run_pure, Result.andThen_ok, run_underlying (undA_ok ht)]
  have h7 : (0 : Int) ≤ (m : Int) ∧ (m : Int) < (n : Int) := by omega
  rw [if_pos h7]
  simp only [part, Sem.run_bind, run_sz hw, run_ag ha, Result.andThen_ok, Int.toNat_natCast]
  rcases hcase with ⟨rfl, rfl⟩ | ⟨rfl, hxs⟩
  · simp [run_sz hw, List.extract_eq_take_drop]
  · have hg : l[m * w']? = some y := by
      have : ((l.drop (m * w')).take w')[0]? = some y := by rw [hxs]; rfl
      have hn0 : 0 < w' := by
        rcases Nat.eq_zero_or_pos w' with h0 | h0
        · subst h0; simp at hxs
        · exact h0
      rw [List.getElem?_take_of_lt hn0, List.getElem?_drop] at this
      simpa using this
    simp [hg]
end Go.Proofs.YtefppgdfcnediaaGreat.X

/- Own executor, part 16: parts of texts. -/
set_option linter.unusedVariables false
set_option linter.unusedSimpArgs false
set_option maxRecDepth 100000
namespace Go.Proofs.YtefppgdfcnediaaGreat.X
open Go Go.RowKit

/-! ### Parts of texts -/
theorem nums_part (q : ByteArray) (l b : Nat) : nums (q.extract l b) = ((nums q).drop l).take (b - l) := by
  unfold nums
  rw [ByteArray.data_extract, Array.toList_extract, List.extract_eq_take_drop, List.map_take, List.map_drop]
theorem subS_ok {s : List Nat} {l b : Nat} {h : HS} {k : K} (hk : subS s l b h k = true) : l ≤ b ∧ b - l ≤ s.length - l ∧ k (aStr ((s.drop l).take (b - l))) h = true := by
  unfold subS at hk
  rw [andB_eq, ble_tt, takeN_eq, dropN_eq, List.length_drop] at hk
  exact ⟨hk.1, hk.2.1, hk.2.2⟩
theorem RL.split0 {r : Gh} {vs : List AV} {xs : List Value} {v : AV} (h : RL r vs xs) (h0 : vs[0]? = some v) : ∃ x m, xs = x :: m ∧ RV r v x ∧ RL r (vs.drop 1) m := by
  cases h with
  | nil => cases h0
  | cons a b => simp at h0; subst h0; exact ⟨_, _, rfl, a, b⟩
theorem RL.split1 {r : Gh} {vs : List AV} {xs : List Value} {v : AV} (h : RL r (vs.drop 1) xs) (h0 : vs[1]? = some v) : ∃ x m, xs = x :: m ∧ RV r v x ∧ RL r (vs.drop 2) m := by
  have h1 : (vs.drop 1)[0]? = some v := by rw [List.getElem?_drop]; exact h0
  obtain ⟨x, m, e, a, b⟩ := RL.split0 h h1
  rw [List.drop_drop] at b
  exact ⟨x, m, e, a, b⟩
theorem RL.split2 {r : Gh} {vs : List AV} {xs : List Value} {v : AV} (h : RL r (vs.drop 2) xs) (h0 : vs[2]? = some v) : ∃ x m, xs = x :: m ∧ RV r v x ∧ RL r (vs.drop 3) m := by
  have h1 : (vs.drop 2)[0]? = some v := by rw [List.getElem?_drop]; exact h0
  obtain ⟨x, m, e, a, b⟩ := RL.split0 h h1
  rw [List.drop_drop] at b
  exact ⟨x, m, e, a, b⟩
theorem RL.split3 {r : Gh} {vs : List AV} {xs : List Value} {v : AV} (h : RL r (vs.drop 3) xs) (h0 : vs[3]? = some v) : ∃ x m, xs = x :: m ∧ RV r v x ∧ RL r (vs.drop 4) m := by
  have h1 : (vs.drop 3)[0]? = some v := by rw [List.getElem?_drop]; exact h0
  obtain ⟨x, m, e, a, b⟩ := RL.split0 h h1
  rw [List.drop_drop] at b
  exact ⟨x, m, e, a, b⟩
/-- An optional number. -/
def oV : Bool → List Value → Option Value × List Value
  | true, x :: r => (some x, r)
  | _, l => (none, l)
theorem sat_slS {t : TypeId} (ht : undA t = some .string) (lo hi : Bool) : SatN (g_slS lo hi) fun xs => match xs with
    | x :: r => vv (Instr.sliceAt t x (oV lo r).1 (oV hi (oV lo r).2).1 none)
    | [] => pure .skip := by
  have run : ∀ (q : ByteArray) (a b : Option Value) (l m : Nat) (w : World), (Instr.sliceBounds false q.size q.size a b none).run P w = .ok (l, m, q.size) w → (Instr.sliceAt t (.string q) a b none).run P w = .ok (.string (q.extract l m)) w := by
    intro q a b l m w hb
    unfold Instr.sliceAt
    rw [M.run_und (undA_ok ht)]
    simp only
    unfold Instr.slice
    rw [M.run_und (undA_ok ht)]
    simp [hb]
  intro vs h k hk
  cases lo <;> cases hi
  · have hk : getN 0 vs (fun v => tg v 2 (k v h)) = true := hk
    rw [getN_eq] at hk
    obtain ⟨v, h1, hk⟩ := hk
    rw [tg_eq] at hk
    refine ⟨_, h, hk.2, fun W0 r w xs hx hR => ?_⟩
    cases hx with
    | nil => cases h1
    | cons a b =>
      simp at h1; subst h1
      have a0 := a
      obtain ⟨q, rfl, hq⟩ := a.s hk.1
      refine .val (y := .string (q.extract 0 q.size)) (run q none none 0 q.size w (by simp [Instr.sliceBounds])) ?_ hR
      refine .str hk.1 ?_
      show _ = nums _
      rw [nums_part, List.drop_zero, Nat.sub_zero, ← nums_len, List.take_length]; exact hq
  · have hk : getN 0 vs (fun v => tg v 2 (getN 1 vs fun b => natOf b fun b => subS v.s 0 b h k)) = true := hk
    rw [getN_eq] at hk
    obtain ⟨v, h1, hk⟩ := hk
    rw [tg_eq, getN_eq] at hk
    obtain ⟨h2, b, h3, hk⟩ := hk
    obtain ⟨h4, n, h5, hk⟩ := nat_ok hk
    obtain ⟨h6, h7, hk⟩ := subS_ok hk
    refine ⟨_, h, hk, fun W0 r w xs hx hR => ?_⟩
    obtain ⟨x, r1, rfl, ha, hx1⟩ := RL.split0 hx h1
    obtain ⟨y, r2, rfl, hb, hx2⟩ := RL.split1 hx1 h3
    obtain ⟨q, rfl, hq⟩ := ha.s h2
    have hl : v.s.length = q.size := by rw [hq]; exact nums_len q
    rw [hb.i h4, h5]
    refine .val (y := .string (q.extract 0 n)) (run q none (some _) 0 n w ?_) (.str rfl ?_) hR
    · have := run_bnd (k := b.k) (code := .sliceAlen) w (show n ≤ q.size by omega)
      simp [Instr.sliceBounds, this]
    · show _ = nums _
      rw [nums_part, hq]; rfl
  · have hk : getN 0 vs (fun v => tg v 2 (getN 1 vs fun a => natOf a fun a => subS v.s a (lenL v.s) h k)) = true := hk
    rw [getN_eq] at hk
    obtain ⟨v, h1, hk⟩ := hk
    rw [tg_eq, getN_eq] at hk
    obtain ⟨h2, b, h3, hk⟩ := hk
    obtain ⟨h4, n, h5, hk⟩ := nat_ok hk
    rw [lenL_eq] at hk
    obtain ⟨h6, h7, hk⟩ := subS_ok hk
    refine ⟨_, h, hk, fun W0 r w xs hx hR => ?_⟩
    obtain ⟨x, r1, rfl, ha, hx1⟩ := RL.split0 hx h1
    obtain ⟨y, r2, rfl, hb, hx2⟩ := RL.split1 hx1 h3
    obtain ⟨q, rfl, hq⟩ := ha.s h2
    have hl : v.s.length = q.size := by rw [hq]; exact nums_len q
    rw [hb.i h4, h5]
    refine .val (y := .string (q.extract n q.size)) (run q (some _) none n q.size w ?_) (.str rfl ?_) hR
    · have := run_bnd (k := b.k) (code := .sliceB) w (show n ≤ q.size by omega)
      simp [Instr.sliceBounds, this]
    · show _ = nums _
      rw [nums_part, ← hl, hq]; rfl
  · have hk : getN 0 vs (fun v => tg v 2 (getN 1 vs fun a => natOf a fun a => getN 2 vs fun b => natOf b fun b => andB (Nat.ble a (lenL v.s)) (subS v.s a b h k))) = true := hk
    rw [getN_eq] at hk
    obtain ⟨v, h1, hk⟩ := hk
    rw [tg_eq, getN_eq] at hk
    obtain ⟨h2, b, h3, hk⟩ := hk
    obtain ⟨h4, n, h5, hk⟩ := nat_ok hk
    rw [getN_eq] at hk
    obtain ⟨c, h8, hk⟩ := hk
    obtain ⟨h9, m, h10, hk⟩ := nat_ok hk
    rw [andB_eq, ble_tt, lenL_eq] at hk
    obtain ⟨h11, hk⟩ := hk
    obtain ⟨h6, h7, hk⟩ := subS_ok hk
    refine ⟨_, h, hk, fun W0 r w xs hx hR => ?_⟩
    obtain ⟨x, r1, rfl, ha, hx1⟩ := RL.split0 hx h1
    obtain ⟨y, r2, rfl, hb, hx2⟩ := RL.split1 hx1 h3
    obtain ⟨z, r3, rfl, hc, hx3⟩ := RL.split2 hx2 h8
    obtain ⟨q, rfl, hq⟩ := ha.s h2
    have hl : v.s.length = q.size := by rw [hq]; exact nums_len q
    rw [hb.i h4, h5, hc.i h9, h10]
    refine .val (y := .string (q.extract n m)) (run q (some _) (some _) n m w ?_) (.str rfl ?_) hR
    · have e1 := run_bnd (k := c.k) (code := .sliceAlen) w (show m ≤ q.size by omega)
      have e2 := run_bnd (k := b.k) (code := .sliceB) w h6
      simp [Instr.sliceBounds, e1, e2]
    · show _ = nums _
      rw [nums_part, hq]; rfl
end Go.Proofs.YtefppgdfcnediaaGreat.X

/- Own executor, part 17: lists that are made. -/
set_option linter.unusedVariables false
set_option linter.unusedSimpArgs false
set_option maxRecDepth 100000
namespace Go.Proofs.YtefppgdfcnediaaGreat.X
open Go Go.RowKit

theorem sat_mkS {t el : TypeId} {z : AV} {w' by_ : Nat} (hu : undA t = some (.slice el)) (hw : szT el = some w') (hb : byT el = some by_) (hz : zrT el = some z) (hlen : z.cells.length = w') :
    Sat2A (g_mkS z.cells by_) fun x y => vv (Instr.makeSlice t x y) := by
  intro v u h k hk
  unfold g_mkS at hk
  obtain ⟨h1, l, h2, hk⟩ := nat_ok hk
  obtain ⟨h3, c, h4, hk⟩ := nat_ok hk
  rw [andB_eq, andB_eq, andB_eq, ble_tt, ble_tt, ble_tt] at hk
  obtain ⟨h5, h6, h7, hk⟩ := hk
  have h7 : by_ * c ≤ 140737488355328 := h7
  obtain ⟨hnx, hk⟩ := newC_eq hk
  refine ⟨_, _, hnx, hk, fun W0 r w x y h2' hx hy hR hp => ?_⟩
  obtain ⟨ti, zv, e1, e2, hz1, hz2⟩ := zrT_ok hz
  obtain ⟨ti', e3, e4⟩ := szT_ok hw
  obtain ⟨ti'', e5, e6⟩ := byT_ok hb
  rw [e1, Option.some.injEq] at e3 e5
  subst e3; subst e5
  have hzc := (hz2 r).cells
  have hs : zv.cells.size = w' := by
    have := hzc.len
    have e2 : zv.cells.toList.length = zv.cells.size := Array.length_toList
    omega
  obtain ⟨r', hle, hi, hR'⟩ := hR.bornC hp (xs := (List.replicate c zv.cells.toList).flatten) el c (by rw [repL_eq]; exact hzc.rep c) (by rw [repL_eq]; exact (Fl.cells (hz2 r) hz1).rep c)
  refine ⟨.slice (some ⟨w.heap.size, 0, none⟩) l c, r', _, run_vv ?_, hle, .slK (v := aSl h.nx 0 0 l 0 c) rfl rfl rfl hi h5 (.inl rfl), hR'⟩
  rw [hx.i h1, hy.i h3, h2, h4]
  have c1 : ((ti.bytes : Int) * (c : Int)) = ((by_ * c : Nat) : Int) := by rw [e6]; simp
  have := run_make (P := P) w t el ti zv (undA_ok hu) e1 e2 v.k u.k (l : Int) (c : Int) (by omega) (by omega) (by rw [c1]; omega) (by omega)
  rw [Int.toNat_natCast, Int.toNat_natCast] at this
  rw [this]
  congr 3
  apply Array.ext'
  have hm : madeCells zv.cells (c * ti.size) = (Array.range (c * ti.size)).map fun i => zv.cells[i % zv.cells.size]! := rfl
  rw [hm, e4, ← hs]
  exact (zeros_eq zv.cells c)
end Go.Proofs.YtefppgdfcnediaaGreat.X

/- Own executor, part 18: parts of lists. -/
set_option linter.unusedVariables false
set_option linter.unusedSimpArgs false
set_option maxRecDepth 100000
namespace Go.Proofs.YtefppgdfcnediaaGreat.X
open Go Go.RowKit

theorem subL_ok {w : Nat} {f : RF} {a b : Nat} {h : HS} {k : K} (hk : subL w f a b h k = true) :
    a ≤ b ∧ (f.c = 1 ∧ b ≤ f.u ∧ k (aSl f.p f.q (f.r + a * w) (b - a) f.c (f.w + a)) h = true ∨ f.c ≠ 1 ∧ b ≤ f.w ∧ k (aSl f.p f.q (f.r + a * w) (b - a) f.c (f.w - a)) h = true) := by
  unfold subL at hk
  rw [andB_eq, andB_eq, ble_tt, forceN_eq, forceN_eq, forceN_eq] at hk
  obtain ⟨h1, h2, hk⟩ := hk
  refine ⟨h1, ?_⟩
  by_cases hc : f.c = 1
  · have hb : Nat.beq f.c 1 = true := beq_tt.2 hc
    rw [hb] at h2 hk
    exact .inl ⟨hc, ble_tt.1 h2, hk⟩
  · have hb : Nat.beq f.c 1 = false := beq_ff.2 hc
    rw [hb] at h2 hk
    exact .inr ⟨hc, ble_tt.1 h2, hk⟩
theorem subM_ok {w : Nat} {f : RF} {a b m : Nat} {h : HS} {k : K} (hk : subM w f a b m h k = true) :
    a ≤ b ∧ b ≤ m ∧ (f.c = 1 ∧ m ≤ f.u ∨ f.c ≠ 1 ∧ m ≤ f.w) ∧ k (aSl f.p f.q (f.r + a * w) (b - a) 0 (m - a)) h = true := by
  unfold subM at hk
  rw [andB_eq, andB_eq, andB_eq, ble_tt, ble_tt, forceN_eq, forceN_eq, forceN_eq] at hk
  obtain ⟨h1, h2, h3, hk⟩ := hk
  refine ⟨h1, h2, ?_, hk⟩
  by_cases hc : f.c = 1
  · rw [beq_tt.2 hc] at h3
    exact .inl ⟨hc, ble_tt.1 h3⟩
  · rw [beq_ff.2 hc] at h3
    exact .inr ⟨hc, ble_tt.1 h3⟩

/-- What the bounds come to. -/
def Bnds (lo hi mx : Bool) (xs : List Value) (isS : Bool) (u cap : Nat) (a b m : Nat) : Prop :=
  ∀ w0, (Instr.sliceBounds isS u cap (oV lo xs).1 (oV hi (oV lo xs).2).1 (oV mx (oV hi (oV lo xs).2).2).1).run P w0 = .ok (a, b, m) w0

theorem sl1_ok {w : Nat} {lo hi mx : Bool} {f : RF} {vs : List AV} {h : HS} {k : K} (hk : sl1 w lo hi mx f vs h k = true) :
    (mx = false ∧ ∃ a b, subL w f a b h k = true ∧ ∀ r xs isS cap, RL r (vs.drop 1) xs → b ≤ cap → Bnds lo hi mx xs isS f.u cap a b cap) ∨
    (mx = true ∧ ∃ a b m, subM w f a b m h k = true ∧ ∀ r xs isS cap, RL r (vs.drop 1) xs → m ≤ cap → Bnds lo hi mx xs isS f.u cap a b m) := by
  cases mx with
  | false =>
    refine .inl ⟨rfl, ?_⟩
    cases lo <;> cases hi
    · have hk : subL w f 0 f.u h k = true := hk
      refine ⟨_, _, hk, fun r xs isS cap hx hc w0 => ?_⟩
      simp [oV, Instr.sliceBounds]
    · have hk : getN 1 vs (fun b => natOf b fun b => subL w f 0 b h k) = true := hk
      rw [getN_eq] at hk
      obtain ⟨v, h1, hk⟩ := hk
      obtain ⟨h2, b, h3, hk⟩ := nat_ok hk
      refine ⟨_, _, hk, fun r xs isS cap hx hc w0 => ?_⟩
      obtain ⟨x, m, rfl, hv, hx⟩ := hx.split1 h1
      rw [hv.i h2, h3]
      have e1 := fun code => run_bnd (k := v.k) (code := code) w0 hc
      simp [oV, Instr.sliceBounds, e1]
    · have hk : getN 1 vs (fun b => natOf b fun b => subL w f b f.u h k) = true := hk
      rw [getN_eq] at hk
      obtain ⟨v, h1, hk⟩ := hk
      obtain ⟨h2, b, h3, hk⟩ := nat_ok hk
      refine ⟨_, _, hk, fun r xs isS cap hx hc w0 => ?_⟩
      obtain ⟨x, m, rfl, hv, hx⟩ := hx.split1 h1
      rw [hv.i h2, h3]
      have e1 := fun code => run_bnd (k := v.k) (code := code) w0 (subL_ok hk).1
      simp [oV, Instr.sliceBounds, e1]
    · have hk : getN 1 vs (fun a => natOf a fun a => getN 2 vs fun b => natOf b fun b => subL w f a b h k) = true := hk
      rw [getN_eq] at hk
      obtain ⟨v, h1, hk⟩ := hk
      obtain ⟨h2, a, h3, hk⟩ := nat_ok hk
      rw [getN_eq] at hk
      obtain ⟨u, h4, hk⟩ := hk
      obtain ⟨h5, b, h6, hk⟩ := nat_ok hk
      refine ⟨_, _, hk, fun r xs isS cap hx hc w0 => ?_⟩
      obtain ⟨x, m, rfl, hv, hx⟩ := hx.split1 h1
      obtain ⟨y, m, rfl, hu, hx⟩ := hx.split2 h4
      rw [hv.i h2, h3, hu.i h5, h6]
      have e1 := fun code => run_bnd (k := v.k) (code := code) w0 (subL_ok hk).1
      have e2 := fun code => run_bnd (k := u.k) (code := code) w0 hc
      simp [oV, Instr.sliceBounds, e1, e2]
  | true =>
    refine .inr ⟨rfl, ?_⟩
    cases lo <;> cases hi
    · cases hk
    · have hk : getN 1 vs (fun b => natOf b fun b => getN 2 vs fun m => natOf m fun m => subM w f 0 b m h k) = true := hk
      rw [getN_eq] at hk
      obtain ⟨v, h1, hk⟩ := hk
      obtain ⟨h2, b, h3, hk⟩ := nat_ok hk
      rw [getN_eq] at hk
      obtain ⟨u, h4, hk⟩ := hk
      obtain ⟨h5, m, h6, hk⟩ := nat_ok hk
      refine ⟨_, _, _, hk, fun r xs isS cap hx hc w0 => ?_⟩
      obtain ⟨x, l, rfl, hv, hx⟩ := hx.split1 h1
      obtain ⟨y, l, rfl, hu, hx⟩ := hx.split2 h4
      rw [hv.i h2, h3, hu.i h5, h6]
      have e1 := fun code => run_bnd (k := v.k) (code := code) w0 (subM_ok hk).2.1
      have e2 := fun code => run_bnd (k := u.k) (code := code) w0 hc
      simp [oV, Instr.sliceBounds, e1, e2]
    · cases hk
    · have hk : getN 1 vs (fun a => natOf a fun a => getN 2 vs fun b => natOf b fun b => getN 3 vs fun m => natOf m fun m => subM w f a b m h k) = true := hk
      rw [getN_eq] at hk
      obtain ⟨v, h1, hk⟩ := hk
      obtain ⟨h2, a, h3, hk⟩ := nat_ok hk
      rw [getN_eq] at hk
      obtain ⟨u, h4, hk⟩ := hk
      obtain ⟨h5, b, h6, hk⟩ := nat_ok hk
      rw [getN_eq] at hk
      obtain ⟨t, h7, hk⟩ := hk
      obtain ⟨h8, m, h9, hk⟩ := nat_ok hk
      refine ⟨_, _, _, hk, fun r xs isS cap hx hc w0 => ?_⟩
      obtain ⟨x, l, rfl, hv, hx⟩ := hx.split1 h1
      obtain ⟨y, l, rfl, hu, hx⟩ := hx.split2 h4
      obtain ⟨z, l, rfl, ht, hx⟩ := hx.split3 h7
      rw [hv.i h2, h3, hu.i h5, h6, ht.i h8, h9]
      have e1 := fun code => run_bnd (k := v.k) (code := code) w0 (subM_ok hk).1
      have e2 := fun code => run_bnd (k := u.k) (code := code) w0 (subM_ok hk).2.1
      have e3 := fun code => run_bnd (k := t.k) (code := code) w0 hc
      simp [oV, Instr.sliceBounds, e1, e2, e3]

/-- A part of a list. -/
theorem cut_ok {r : Gh} {w' : Nat} {f : RF} {bk o c m a b : Nat} (hr : r f.p f.q = some (bk, c)) (ho : o = f.r ∨ m = 0) (hm : f.c = 0 ∧ m = f.w ∨ f.c = 1 ∧ m + f.w = c) (hu : f.u ≤ m) {h : HS} {k : K}
    (hk : subL w' f a b h k = true) : b ≤ m ∧ ∃ v, k v h = true ∧ ∀ r', r' f.p f.q = some (bk, c) → RV r' v (.slice (if m = a then some ⟨bk, o, none⟩ else some ((⟨bk, o, none⟩ : Addr).add (a * w'))) (b - a) (m - a)) := by
  obtain ⟨h1, h2⟩ := subL_ok hk
  rcases h2 with ⟨hc, h2, hk⟩ | ⟨hc, h2, hk⟩
  · have hm : m + f.w = c := by rcases hm with hm | hm <;> omega
    have hb : b ≤ m := by omega
    refine ⟨hb, _, hk, fun r' hr' => ?_⟩
    by_cases he : m = a
    · rw [if_pos he]
      exact .slO (v := aSl f.p f.q (f.r + a * w') (b - a) f.c (f.w + a)) rfl hc (by show m - a + (f.w + a) = c; omega) hr' (by show b - a ≤ m - a; omega) (.inr (by omega))
    · rw [if_neg he, M.addr_add]
      exact .slO (v := aSl f.p f.q (f.r + a * w') (b - a) f.c (f.w + a)) rfl hc (by show m - a + (f.w + a) = c; omega) hr' (by show b - a ≤ m - a; omega) (.inl (by
        rcases ho with ho | ho
        · rw [ho]
        · omega))
  · have hc0 : f.c = 0 := by rcases hm with hm | hm <;> omega
    have hm : m = f.w := by rcases hm with hm | hm <;> omega
    have hb : b ≤ m := by omega
    refine ⟨hb, _, hk, fun r' hr' => ?_⟩
    by_cases he : m = a
    · rw [if_pos he]
      exact .slK (v := aSl f.p f.q (f.r + a * w') (b - a) f.c (f.w - a)) rfl hc0 (by show m - a = f.w - a; omega) hr' (by show b - a ≤ m - a; omega) (.inr (by omega))
    · rw [if_neg he, M.addr_add]
      exact .slK (v := aSl f.p f.q (f.r + a * w') (b - a) f.c (f.w - a)) rfl hc0 (by show m - a = f.w - a; omega) hr' (by show b - a ≤ m - a; omega) (.inl (by
        rcases ho with ho | ho
        · rw [ho]
        · omega))
theorem cutM_ok {r : Gh} {w' : Nat} {f : RF} {bk o c m0 a b m : Nat} (hr : r f.p f.q = some (bk, c)) (ho : o = f.r ∨ m0 = 0) (hm : f.c = 0 ∧ m0 = f.w ∨ f.c = 1 ∧ m0 + f.w = c) (hu : f.u ≤ m0) {h : HS} {k : K}
    (hk : subM w' f a b m h k = true) : m ≤ m0 ∧ ∃ v, k v h = true ∧ ∀ r', r' f.p f.q = some (bk, c) → RV r' v (.slice (if m = a then some ⟨bk, o, none⟩ else some ((⟨bk, o, none⟩ : Addr).add (a * w'))) (b - a) (m - a)) := by
  obtain ⟨h1, h2, h3, hk⟩ := subM_ok hk
  have hb : m ≤ m0 := by rcases hm with hm | hm <;> rcases h3 with h3 | h3 <;> omega
  refine ⟨hb, _, hk, fun r' hr' => ?_⟩
  by_cases he : m = a
  · rw [if_pos he]
    exact .slK (v := aSl f.p f.q (f.r + a * w') (b - a) 0 (m - a)) rfl rfl rfl hr' (by show b - a ≤ m - a; omega) (.inr (by omega))
  · rw [if_neg he, M.addr_add]
    exact .slK (v := aSl f.p f.q (f.r + a * w') (b - a) 0 (m - a)) rfl rfl rfl hr' (by show b - a ≤ m - a; omega) (.inl (by
      rcases ho with ho | ho
      · rw [ho]
      · omega))

open Classical in
theorem sat_slL {t el : TypeId} {w' : Nat} (ht : undA t = some (.slice el)) (hw : szT el = some w') (lo hi mx : Bool) : SatN (g_slL w' lo hi mx) fun xs => match xs with
    | x :: r => vv (Instr.sliceAt t x (oV lo r).1 (oV hi (oV lo r).2).1 (oV mx (oV hi (oV lo r).2).2).1)
    | [] => pure .skip := by
  have run : ∀ (a : Option Addr) (u cap : Nat) (lv hv mv : Option Value) (l m n : Nat) (w : World), (Instr.sliceBounds true u cap lv hv mv).run P w = .ok (l, m, n) w →
      (Instr.sliceAt t (.slice a u cap) lv hv mv).run P w = .ok (.slice (if n = l then a else a.map (·.add (l * w'))) (m - l) (n - l)) w := by
    intro a u cap lv hv mv l m n w hb
    unfold Instr.sliceAt
    rw [M.run_und (undA_ok ht)]
    simp only
    unfold Instr.slice
    rw [M.run_und (undA_ok ht)]
    simp [hb, run_sz hw]
  intro vs h k hk
  unfold g_slL at hk
  rw [getN_eq] at hk
  obtain ⟨v, h1, hk⟩ := hk
  rw [brec] at hk
  split at hk
  · rename_i h5
    have h5 := beq_tt.1 h5
    have fin : ∀ (a b n : Nat), a = 0 ∧ b = 0 ∧ n = 0 → (∀ r xs, RL r (vs.drop 1) xs → Bnds lo hi mx xs true 0 0 a b n) → ∀ (W0 : WX) (r : Gh) (w : World) (xs : List Value), RL r vs xs → Rel W0 r h w →
        Out (match xs with | x :: r => vv (Instr.sliceAt t x (oV lo r).1 (oV hi (oV lo r).2).1 (oV mx (oV hi (oV lo r).2).2).1) | [] => pure .skip) W0 r w (aTag 5) h := by
      rintro a b n ⟨rfl, rfl, rfl⟩ hB W0 r w xs hx hR
      obtain ⟨x, r1, rfl, ha, hx1⟩ := RL.split0 hx h1
      rw [ha.ns h5]
      exact .val (y := .slice none 0 0) (by rw [run none 0 0 _ _ _ _ _ _ w (hB r _ hx1 w)]; rfl) (.nilS rfl) hR
    rcases sl1_ok hk with ⟨rfl, a, b, hk, hB⟩ | ⟨rfl, a, b, m, hk, hB⟩
    · obtain ⟨k1, k2⟩ := subL_ok hk
      have k3 : b ≤ 0 ∧ k (aTag 5) h = true := by
        rcases k2 with ⟨k2, _⟩ | ⟨_, k2, k3⟩
        · cases k2
        · exact ⟨k2, k3⟩
      exact ⟨_, h, k3.2, fin a b 0 ⟨by omega, by omega, rfl⟩ fun r xs hx => hB r xs true 0 hx k3.1⟩
    · obtain ⟨k1, k2, k3, k4⟩ := subM_ok hk
      have k5 : m ≤ 0 := by
        rcases k3 with ⟨k3, _⟩ | ⟨_, k3⟩
        · cases k3
        · exact k3
      exact ⟨_, h, k4, fin a b m ⟨by omega, by omega, by omega⟩ fun r xs hx => hB r xs true 0 hx k5⟩
  · rw [tg_eq] at hk
    obtain ⟨h2, hk⟩ := hk
    have e5 : ∀ (m a c bk o b : Nat), (if m = a then some (⟨bk, o, none⟩ : Addr) else (some (⟨bk, o, none⟩ : Addr)).map (·.add (a * w'))) = (if m = a then some ⟨bk, o, none⟩ else some ((⟨bk, o, none⟩ : Addr).add (a * w'))) := fun _ _ _ _ _ _ => rfl
    rcases sl1_ok hk with ⟨rfl, a, b, hk, hB⟩ | ⟨rfl, a, b, m, hk, hB⟩
    · obtain ⟨k1, k2⟩ := subL_ok hk
      have key : ∃ v', k v' h = true ∧ (v' = aSl v.f.p v.f.q (v.f.r + a * w') (b - a) v.f.c (v.f.w + a) ∧ v.f.c = 1 ∨ v' = aSl v.f.p v.f.q (v.f.r + a * w') (b - a) v.f.c (v.f.w - a) ∧ v.f.c ≠ 1) := by
        rcases k2 with ⟨c1, _, c3⟩ | ⟨c1, _, c3⟩
        · exact ⟨_, c3, .inl ⟨rfl, c1⟩⟩
        · exact ⟨_, c3, .inr ⟨rfl, c1⟩⟩
      obtain ⟨v', hk', hv'⟩ := key
      refine ⟨v', h, hk', fun W0 r w xs hx hR => ?_⟩
      obtain ⟨x, r1, rfl, ha, hx1⟩ := RL.split0 hx h1
      obtain ⟨bk, c, o, mm, rfl, hr, hu, ho, hm⟩ := ha.sl h2
      have hk2 : subL w' v.f a b h (fun u _ => decide (u = v')) = true := by
        unfold subL at hk ⊢
        rw [andB_eq, andB_eq, forceN_eq, forceN_eq, forceN_eq] at hk ⊢
        refine ⟨hk.1, hk.2.1, ?_⟩
        rw [decide_eq_true_iff]
        rcases hv' with ⟨rfl, hc⟩ | ⟨rfl, hc⟩
        · rw [beq_tt.2 hc]; rfl
        · rw [beq_ff.2 hc]; rfl
      obtain ⟨q1, u, q2, q3⟩ := cut_ok hr ho hm hu hk2
      rw [decide_eq_true_iff] at q2
      subst q2
      exact .val (run _ _ _ _ _ _ _ _ _ w (hB r _ true mm hx1 q1 w)) (q3 r hr) hR
    · obtain ⟨k1, k2, k3, k4⟩ := subM_ok hk
      refine ⟨_, h, k4, fun W0 r w xs hx hR => ?_⟩
      obtain ⟨x, r1, rfl, ha, hx1⟩ := RL.split0 hx h1
      obtain ⟨bk, c, o, mm, rfl, hr, hu, ho, hm⟩ := ha.sl h2
      have hk2 : subM w' v.f a b m h (fun u _ => decide (u = aSl v.f.p v.f.q (v.f.r + a * w') (b - a) 0 (m - a))) = true := by
        unfold subM at hk ⊢
        rw [andB_eq, andB_eq, andB_eq, forceN_eq, forceN_eq, forceN_eq] at hk ⊢
        refine ⟨hk.1, hk.2.1, hk.2.2.1, ?_⟩
        rw [decide_eq_true_iff]
        rfl
      obtain ⟨q1, u, q2, q3⟩ := cutM_ok hr ho hm hu hk2
      rw [decide_eq_true_iff] at q2
      subst q2
      exact .val (run _ _ _ _ _ _ _ _ _ w (hB r _ true mm hx1 q1 w)) (q3 r hr) hR

theorem sat_slA {t el : TypeId} {n w' : Nat} (ht : undA t = some (.array n el)) (hw : szT el = some w') (lo hi : Bool) : SatN (g_slA n w' lo hi) fun xs => match xs with
    | x :: r => vv (Instr.sliceAt t x (oV lo r).1 (oV hi (oV lo r).2).1 none)
    | [] => pure .skip := by
  intro vs h k hk
  unfold g_slA at hk
  rw [getN_eq] at hk
  obtain ⟨v, h1, hk⟩ := hk
  rw [tg_eq] at hk
  obtain ⟨h2, hk⟩ := hk
  rcases sl1_ok hk with ⟨_, a, b, hk, hB⟩ | ⟨hc, _⟩
  · obtain ⟨k1, k2⟩ := subL_ok hk
    have k3 : b ≤ n ∧ k (aSl v.f.p v.f.q (v.f.r + a * w') (b - a) 0 (n - a)) h = true := by
      rcases k2 with ⟨k2, _⟩ | ⟨_, k2, k3⟩
      · cases k2
      · exact ⟨k2, k3⟩
    refine ⟨_, h, k3.2, fun W0 r w xs hx hR => ?_⟩
    obtain ⟨x, r1, rfl, ha, hx1⟩ := RL.split0 hx h1
    obtain ⟨bk, c, rfl, hr⟩ := ha.p h2
    have hb := hB r _ false n hx1 k3.1 w
    refine .val (y := .slice (some (if n = a then ⟨bk, v.f.r, none⟩ else (⟨bk, v.f.r, none⟩ : Addr).add (a * w'))) (b - a) (n - a)) ?_ ?_ hR
    · have hb : (Instr.sliceBounds false n n (oV lo r1).1 (oV hi (oV lo r1).2).1 none).run P w = .ok (a, b, n) w := hb
      unfold Instr.sliceAt
      rw [M.run_und (undA_ok ht)]
      simp [Instr.sureAddr, hb, run_sz hw]
    · by_cases he : n = a
      · rw [if_pos he]
        exact .slK (v := aSl v.f.p v.f.q (v.f.r + a * w') (b - a) 0 (n - a)) rfl rfl rfl hr (by show b - a ≤ n - a; omega) (.inr (by omega))
      · rw [if_neg he, M.addr_add]
        exact .slK (v := aSl v.f.p v.f.q (v.f.r + a * w') (b - a) 0 (n - a)) rfl rfl rfl hr (by show b - a ≤ n - a; omega) (.inl rfl)
  · cases hc
end Go.Proofs.YtefppgdfcnediaaGreat.X

/- Own executor, part 19: bytes and texts; lengths; values out of interface values. -/
set_option linter.unusedVariables false
set_option linter.unusedSimpArgs false
set_option maxRecDepth 100000
namespace Go.Proofs.YtefppgdfcnediaaGreat.X
open Go Go.RowKit

theorem bytesA_ok (r : Gh) : ∀ (l : List UInt8), RL r (bytesA (l.map (·.toNat))) (l.map fun b => Value.int .u8 b.toNat)
  | [] => .nil
  | b :: l => .cons (.int rfl) (bytesA_ok r l)
theorem bytesA_fl : ∀ (l : List Nat), Fl (bytesA l)
  | [] => .nil
  | n :: l => fun v hv => by
    rcases List.mem_cons.1 (show v ∈ aInt .u8 (.ofNat n) :: bytesA l from hv) with rfl | hv
    · exact ⟨by simp, by simp⟩
    · exact bytesA_fl l v hv
theorem bytesA_len : ∀ (l : List Nat), (bytesA l).length = l.length
  | [] => rfl
  | n :: l => congrArg Nat.succ (bytesA_len l)
theorem bytesRow_size (s : ByteArray) {cap : Nat} (h : s.size ≤ cap) : (bytesRow s cap).toList.length = cap := by
  have : s.data.size = s.size := rfl
  simp [bytesRow]; omega
theorem bytesRow_take (s : ByteArray) (cap : Nat) : (bytesRow s cap).toList.take s.size = s.data.toList.map fun b => Value.int .u8 b.toNat := by
  have : s.data.toList.length = s.size := Array.length_toList
  unfold bytesRow
  rw [Array.toList_append, List.take_append_of_le_length (by simp), Array.toList_map, List.take_of_length_le (by simp)]

theorem sat_s2b {s t el : TypeId} (hs : undA s = some .string) (ht : undA t = some (.slice el)) (he : P.underlying el = some (.int .u8)) : Sat1A g_s2b fun x => vv (convert s t x) := by
  intro v h k hk
  unfold g_s2b at hk
  rw [tg_eq, forceN_eq, andB_eq, ble_tt, lenL_eq] at hk
  obtain ⟨h1, h2, hk⟩ := hk
  obtain ⟨hnx, hk⟩ := new_eq hk
  refine ⟨_, _, hnx, hk, fun W0 r w x h2' hx hR hp => ?_⟩
  obtain ⟨q, rfl, hq⟩ := hx.s h1
  have hl : v.s.length = q.size := by rw [hq]; exact nums_len q
  have hge := grownCap_ge w q.size 0 el
  have hbl : (bytesA v.s).length = q.size := by rw [bytesA_len, hl]
  obtain ⟨r', hle, hi, hR'⟩ := hR.drew.born hp (.cells (bytesRow q (grownCap w q.size 0 el)) el ((bytesRow q (grownCap w q.size 0 el)).size, (bytesRow q (grownCap w q.size 0 el)).size + 1)) (grownCap w q.size 0 el) (bytesA_fl _) fun r' hle => by
    refine .grow (m := (bytesRow q (grownCap w q.size 0 el)).toList) rfl (Nat.le_refl _) (M.heap_alloc_new' w.drew _) (.inr (by simp)) (by rw [bytesRow_size q hge]; exact (Nat.mul_one _).symm) (fun _ => ?_) (fun hh => by cases hh)
    refine ⟨?_, ?_⟩
    · show (bytesA v.s).length ≤ _
      rw [hbl, bytesRow_size q hge]; exact hge
    · show RL r' (bytesA v.s) (List.take (bytesA v.s).length _)
      rw [hbl, bytesRow_take, hq]
      exact bytesA_ok r' _
  refine ⟨_, r', _, run_vv (run_bytes_of_string w s t el q (undA_ok hs) (undA_ok ht) he), hle, ?_, hR'⟩
  have hv : RV r' (aSl h.nx 0 0 v.s.length 1 0) (.slice (some ⟨w.heap.size, 0, none⟩) v.s.length (grownCap w q.size 0 el)) :=
    .slO (v := aSl h.nx 0 0 v.s.length 1 0) (c := grownCap w q.size 0 el) rfl rfl (Nat.add_zero _) hi (by show v.s.length ≤ _; omega) (.inl rfl)
  rw [hl] at hv ⊢
  exact hv

theorem bytesOf_ok : ∀ {cs : List AV} {k : List Nat → Ans}, bytesOf cs k = true → ∃ l : List UInt8, k (l.map (·.toNat)) = true ∧ l.length = cs.length ∧ ∀ r xs, RL r cs xs → xs = l.map fun b => Value.int .u8 b.toNat
  | [], k, hk => ⟨[], hk, rfl, fun r xs hx => by cases hx; rfl⟩
  | v :: cs, k, hk => by
    have hk : tg v 0 (andB (Nat.beq (knF v.k) 4) (Int.rec (fun n => andB (Nat.blt n 256) (bytesOf cs fun t => k (n :: t))) (fun _ => bad) v.n)) = true := hk
    rw [tg_eq, andB_eq, beq_tt] at hk
    obtain ⟨h1, h2, hk⟩ := hk
    have hkd : v.k = .u8 := knF_inj h2
    cases hn : v.n with
    | negSucc n => rw [hn] at hk; cases hk
    | ofNat n =>
      rw [hn] at hk
      have hk : andB (Nat.blt n 256) (bytesOf cs fun t => k (n :: t)) = true := hk
      rw [andB_eq, blt_tt] at hk
      obtain ⟨h3, hk⟩ := hk
      obtain ⟨l, k1, k2, k3⟩ := bytesOf_ok hk
      have e1 : (UInt8.ofNat n).toNat = n := by simp [Nat.mod_eq_of_lt h3]
      refine ⟨UInt8.ofNat n :: l, ?_, by simp [k2], fun r xs hx => ?_⟩
      · rw [List.map_cons, e1]; exact k1
      · cases hx with
        | cons a b =>
          rw [k3 r _ b, a.i h1, hkd, hn, List.map_cons, e1]; rfl

theorem sat_b2s {s t el : TypeId} (hs : undA s = some (.slice el)) (ht : undA t = some .string) (he : P.underlying el = some (.int .u8)) : Sat1 g_b2s fun x => vv (convert s t x) := by
  intro v h k hk
  unfold g_b2s at hk
  rw [brec] at hk
  split at hk
  · rename_i h5
    refine ⟨_, h, hk, fun W0 r w x hx hR => ?_⟩
    rw [hx.ns (beq_tt.1 h5)]
    refine .val (y := .string .empty) ?_ (.mkS _ rfl) hR
    rw [run_convert_bytes_string w s t el none 0 0 (undA_ok hs) he (undA_ok ht)]
    simp [Conv.bytesToString]
  · rw [tg_eq] at hk
    obtain ⟨h1, hk⟩ := hk
    obtain ⟨cs, hk, hlen, hrd⟩ := rd_ok hk
    obtain ⟨l, hk, hl, hls⟩ := bytesOf_ok hk
    refine ⟨_, h, hk, fun W0 r w x hx hR => ?_⟩
    obtain ⟨b, c, o, mm, rfl, hr, hu, ho, _⟩ := hx.sl h1
    obtain ⟨hf, m, el', fz, hb, hrl⟩ := hrd W0 r w b c hR hr
    refine .val (y := .string ⟨l.toArray⟩) ?_ (.mkS _ (by simp)) hR
    have e : v.f.u = l.length := by omega
    rw [e]
    refine run_convert_bytes_back w s t el _ mm l (undA_ok hs) he (undA_ok ht) fun j hj => ?_
    have ho : o = v.f.r := by
      rcases ho with ho | ho
      · exact ho
      · omega
    subst ho
    rw [M.addr_add, M.cell_at hb]
    have hxs := hls r _ hrl
    have : ((m.drop v.f.r).take v.f.u)[j]? = some (.int .u8 (l[j].toNat : Int)) := by
      rw [hxs, List.getElem?_map, List.getElem?_eq_getElem hj]; rfl
    rw [List.getElem?_take_of_lt (by omega), List.getElem?_drop] at this
    simpa using this

theorem sat_lenS {ts : Array TypeId} {t ty : TypeId} (h0 : ts[0]? = some t) (ht : undA t = some .string) : Sat1 g_lenS fun x => vv (Builtin.len_ ts ty #[x]) := by
  intro v h k hk
  unfold g_lenS at hk
  rw [tg_eq, forceN_eq, lenL_eq] at hk
  obtain ⟨h1, hk⟩ := hk
  refine ⟨_, h, hk, fun W0 r w x hx hR => ?_⟩
  obtain ⟨q, rfl, hq⟩ := hx.s h1
  have hl : v.s.length = q.size := by rw [hq]; exact nums_len q
  refine .val (y := .int .i64 (q.size : Nat)) ?_ (by rw [hl]; exact .mkI _ _) hR
  simp [Builtin.len_, h0, run_underlying (undA_ok ht), goInt]
theorem sat_lenL {ts : Array TypeId} {t ty el : TypeId} (h0 : ts[0]? = some t) (ht : undA t = some (.slice el)) : Sat1 g_lenL fun x => vv (Builtin.len_ ts ty #[x]) := by
  intro v h k hk
  unfold g_lenL at hk
  rw [brec] at hk
  split at hk
  · rename_i h5
    refine ⟨_, h, hk, fun W0 r w x hx hR => ?_⟩
    rw [hx.ns (beq_tt.1 h5)]
    refine .val (y := .int .i64 (0 : Nat)) ?_ (.mkI _ _) hR
    simp [Builtin.len_, h0, run_underlying (undA_ok ht), goInt]
  · rw [tg_eq] at hk
    refine ⟨_, h, hk.2, fun W0 r w x hx hR => ?_⟩
    obtain ⟨b, c, o, mm, rfl, _⟩ := hx.sl hk.1
    refine .val (y := .int .i64 (v.f.u : Nat)) ?_ (.mkI _ _) hR
    simp [Builtin.len_, h0, run_underlying (undA_ok ht), goInt]
theorem sat_cap {ts : Array TypeId} {t ty el : TypeId} (h0 : ts[0]? = some t) (ht : undA t = some (.slice el)) : Sat1 g_cap fun x => vv (Builtin.cap_ ts ty #[x]) := by
  intro v h k hk
  unfold g_cap at hk
  rw [brec] at hk
  split at hk
  · rename_i h5
    refine ⟨_, h, hk, fun W0 r w x hx hR => ?_⟩
    rw [hx.ns (beq_tt.1 h5)]
    refine .val (y := .int .i64 (0 : Nat)) ?_ (.mkI _ _) hR
    simp [Builtin.cap_, h0, run_underlying (undA_ok ht), goInt]
  · rw [tg_eq, brec] at hk
    obtain ⟨h1, hk⟩ := hk
    split at hk
    · cases hk
    · rename_i h2
      refine ⟨_, h, hk, fun W0 r w x hx hR => ?_⟩
      obtain ⟨b, c, o, mm, rfl, _, _, _, hm⟩ := hx.sl h1
      have hm : mm = v.f.w := by
        rcases hm with ⟨_, hm⟩ | ⟨hm, _⟩
        · exact hm
        · exact absurd (beq_tt.2 hm) h2
      subst hm
      refine .val (y := .int .i64 (v.f.w : Nat)) ?_ (.mkI _ _) hR
      simp [Builtin.cap_, h0, run_underlying (undA_ok ht), goInt]

theorem sat_tas {t xt : TypeId} {d : TypeDesc} (ht : undA t = some d) (hd : ∀ ms, d ≠ .interface ms) (cok : Bool) : Sat1 (g_tas t cok) fun x => vv (Instr.typeAssert x xt t cok) := by
  intro v h k hk
  unfold g_tas at hk
  rw [tg_eq, getN_eq] at hk
  obtain ⟨h1, x, h2, hk⟩ := hk
  rw [andB_eq, beq_tt] at hk
  obtain ⟨h3, hk⟩ := hk
  have run : ∀ (y : Value) (w : World), (Instr.typeAssert (.iface t y) xt t cok).run P w = .ok (if cok then .tuple #[y, .bool true] else y) w := by
    intro y w
    unfold Instr.typeAssert
    rw [M.run_und (undA_ok ht)]
    cases d with
    | interface ms => exact absurd rfl (hd ms)
    | _ => simp only [if_true]; rfl
  cases cok with
  | true =>
    have hk : k (aTup [x, aBool true]) h = true := hk
    refine ⟨_, h, hk, fun W0 r w y hy hR => ?_⟩
    obtain ⟨u, z, e1, rfl, hz⟩ := hy.ic h1
    rw [e1] at h2
    simp at h2; subst h2
    refine .val (y := .tuple #[z, .bool true]) (by rw [h3]; exact run z w) ?_ hR
    exact .tup (l := [z, .bool true]) rfl (.cons hz (.cons (.mkB _) .nil))
  | false =>
    have hk : k x h = true := hk
    refine ⟨_, h, hk, fun W0 r w y hy hR => ?_⟩
    obtain ⟨u, z, e1, rfl, hz⟩ := hy.ic h1
    rw [e1] at h2
    simp at h2; subst h2
    exact .val (y := z) (by rw [h3]; exact run z w) hz hR
end Go.Proofs.YtefppgdfcnediaaGreat.X

/- Own executor, part 20: maps. -/
set_option linter.unusedVariables false
set_option linter.unusedSimpArgs false
set_option maxRecDepth 100000
namespace Go.Proofs.YtefppgdfcnediaaGreat.X
open Go Go.RowKit

/-! ### Keys -/
def KD (d : TypeDesc) (kt : Nat) : Prop := (∃ k, d = .int k) ∧ kt = 0 ∨ d = .bool ∧ kt = 1 ∨ d = .string ∧ kt = 2
theorem keyT_ok {ke : TypeId} {kt : Nat} (h : keyT ke = some kt) : ∃ d, P.underlying ke = some d ∧ KD d kt := by
  unfold keyT at h
  split at h
  · rename_i k hu
    simp only [Option.some.injEq] at h; subst h
    exact ⟨_, undA_ok hu, .inl ⟨⟨k, rfl⟩, rfl⟩⟩
  · rename_i hu
    simp only [Option.some.injEq] at h; subst h
    exact ⟨_, undA_ok hu, .inr (.inl ⟨rfl, rfl⟩)⟩
  · rename_i hu
    simp only [Option.some.injEq] at h; subst h
    exact ⟨_, undA_ok hu, .inr (.inr ⟨rfl, rfl⟩)⟩
  · cases h
theorem bytes_ext {a b : ByteArray} (h : nums a = nums b) : a = b := by
  have h2 : a.data.toList = b.data.toList := (List.map_inj_right fun x y e => UInt8.toNat_inj.1 e).1 h
  have : a.data = b.data := Array.ext' h2
  cases a; cases b; simp at this; subst this; rfl
theorem eqK_ok {x y : AV} {c : Bool → Ans} (hk : eqK x y c = true) : ∃ b, c b = true ∧ ∀ d r u v, KD d x.t → RV r x u → RV r y v → Instr.sameNow d u v = some b ∧ (b = true → u = v) := by
  unfold eqK at hk
  rw [brec] at hk
  split at hk
  · rename_i h0
    have h0 := beq_tt.1 h0
    rw [brec] at hk
    split at hk
    · rename_i h1
      have h1 := beq_tt.1 h1
      rw [brec] at hk
      split at hk
      · rename_i h2
        have h2 := knF_inj (beq_tt.1 h2)
        rw [eqI_eq] at hk
        refine ⟨_, hk, fun d r u v hd hx hy => ?_⟩
        rw [hx.i h1, hy.i (by omega)]
        rcases hd with ⟨⟨k, rfl⟩, _⟩ | ⟨_, hd⟩ | ⟨_, hd⟩
        · refine ⟨by simp [Instr.sameNow, h2], fun h => ?_⟩
          rw [h2, eq_of_beq h]
        · omega
        · omega
      · cases hk
    · rename_i h1
      have h1 : x.t ≠ 0 := fun e => h1 (beq_tt.2 e)
      rw [brec] at hk
      split at hk
      · rename_i h2
        have h2 := beq_tt.1 h2
        rw [eqS_eq] at hk
        refine ⟨_, hk, fun d r u v hd hx hy => ?_⟩
        obtain ⟨p, rfl, hp⟩ := hx.s h2
        obtain ⟨q, rfl, hq⟩ := hy.s (by omega)
        rcases hd with ⟨_, hd⟩ | ⟨_, hd⟩ | ⟨rfl, _⟩
        · omega
        · omega
        · have e : (x.s == y.s) = (p == q) := by
            rw [hp, hq, beq_toListBytes]
            exact nums_eq p q
          refine ⟨by simp only [Instr.sameNow, e], fun h => ?_⟩
          rw [hp, hq] at h
          rw [bytes_ext (a := p) (b := q) (eq_of_beq h)]
      · rename_i h2
        have h2 : x.t ≠ 2 := fun e => h2 (beq_tt.2 e)
        rw [brec] at hk
        split at hk
        · rename_i h3
          have h3 := beq_tt.1 h3
          refine ⟨_, hk, fun d r u v hd hx hy => ?_⟩
          rw [hx.b h3, hy.b (by omega)]
          rcases hd with ⟨_, hd⟩ | ⟨rfl, _⟩ | ⟨_, hd⟩
          · omega
          · cases x.b <;> cases y.b <;> exact ⟨rfl, fun h => by first | rfl | cases h⟩
          · omega
        · cases hk
  · cases hk

theorem run_chk {ke : TypeId} {kt : Nat} (h : keyT ke = some kt) (b : Bool) (v : Value) (w : World) : (Instr.checkKey b 10000 ke v).run P w = .ok () w := by
  obtain ⟨d, hd, hk⟩ := keyT_ok h
  rw [show (10000 : Nat) = 9999 + 1 from rfl]
  unfold Instr.checkKey
  rw [M.run_und hd]
  rcases hk with ⟨⟨k, rfl⟩, _⟩ | ⟨rfl, _⟩ | ⟨rfl, _⟩ <;> rfl
theorem run_find {ke : TypeId} {d : TypeDesc} {u : Value} {fs : List MapEntry} {x : Option (Nat × Value)} (hd : P.underlying ke = some d) (h : Instr.findNow d u fs 0 = some x) (w : World) : (Instr.findKey ke u fs).run P w = .ok x w := by
  simp [Instr.findKey, underlying, hd, h]

/-! ### Entries -/
section
variable {r : Gh}
theorem RM.get : ∀ {es : List ME} {fs : List MapEntry} {j : Nat} {e : ME}, RM r es fs → es[j]? = some e → ∃ f, fs[j]? = some f ∧ RV r e.k f.key ∧ RV r e.v f.val ∧ f.born = e.b
  | [], [], j, e, _, h => by simp at h
  | e0 :: es, f :: fs, 0, e, ⟨h1, h2, h3, h4⟩, h => by
    simp at h; subst h
    exact ⟨f, rfl, h1, h2, h3⟩
  | e0 :: es, f :: fs, j + 1, e, ⟨h1, h2, h3, h4⟩, h => by
    obtain ⟨g, k1, k2⟩ := RM.get h4 (by simpa using h)
    exact ⟨g, by simpa using k1, k2⟩
  | [], _ :: _, _, _, h, _ => h.elim
  | _ :: _, [], _, _, h, _ => h.elim
theorem RM.len : ∀ {es : List ME} {fs : List MapEntry}, RM r es fs → es.length = fs.length
  | [], [], _ => rfl
  | _ :: _, _ :: _, ⟨_, _, _, h⟩ => congrArg Nat.succ h.len
  | [], _ :: _, h => h.elim
  | _ :: _, [], h => h.elim
theorem RM.set {v : AV} {y : Value} (hv : RV r v y) : ∀ {es : List ME} {fs : List MapEntry} {j : Nat}, RM r es fs → RM r (setE v j es) (fs.modify j fun e => { e with val := y })
  | [], [], j, _ => by cases j <;> trivial
  | e :: es, f :: fs, 0, ⟨h1, h2, h3, h4⟩ => by
    show RM r (⟨e.k, v, e.b⟩ :: es) _
    rw [List.modify_zero_cons]
    exact ⟨h1, hv, h3, h4⟩
  | e :: es, f :: fs, j + 1, ⟨h1, h2, h3, h4⟩ => by
    show RM r (e :: setE v j es) _
    rw [List.modify_succ_cons]
    exact ⟨h1, h2, h3, RM.set hv h4⟩
  | [], _ :: _, _, h => h.elim
  | _ :: _, [], _, h => h.elim
theorem RM.push {x v : AV} {u y : Value} {g : Nat} (hx : RV r x u) (hv : RV r v y) : ∀ {es : List ME} {fs : List MapEntry}, RM r es fs → RM r (es ++ [⟨x, v, g⟩]) (fs ++ [{ key := u, val := y, born := g }])
  | [], [], _ => ⟨hx, hv, rfl, trivial⟩
  | e :: es, f :: fs, ⟨h1, h2, h3, h4⟩ => ⟨h1, h2, h3, RM.push hx hv h4⟩
  | [], _ :: _, h => h.elim
  | _ :: _, [], h => h.elim
theorem RM.del : ∀ {es : List ME} {fs : List MapEntry} {j : Nat}, RM r es fs → RM r (delE j es) (fs.eraseIdx j)
  | [], [], j, _ => by cases j <;> trivial
  | e :: es, f :: fs, 0, ⟨h1, h2, h3, h4⟩ => h4
  | e :: es, f :: fs, j + 1, ⟨h1, h2, h3, h4⟩ => ⟨h1, h2, h3, RM.del h4⟩
  | [], _ :: _, _, h => h.elim
  | _ :: _, [], _, h => h.elim
end

theorem findA_ok {x : AV} : ∀ {es : List ME} {i : Nat} {k : Option Nat → AV → Ans}, findA x es i k = true →
    (∃ j e, es[j]? = some e ∧ k (some (i + j)) e.v = true ∧ ∀ d r u fs, KD d x.t → RV r x u → RM r es fs → ∃ f, fs[j]? = some f ∧ Instr.findNow d u fs i = some (some (i + j, f.val)) ∧ u = f.key) ∨
    (k none aUnd = true ∧ ∀ d r u fs, KD d x.t → RV r x u → RM r es fs → Instr.findNow d u fs i = some none)
  | [], i, k, hk => .inr ⟨hk, fun d r u fs hd hx hm => by
      cases fs with
      | nil => rfl
      | cons => exact hm.elim⟩
  | e :: es, i, k, hk => by
    have hk : eqK x e.k (fun b => Bool.rec (findA x es (Nat.succ i) k) (k (some i) e.v) b) = true := hk
    obtain ⟨b, hb, h⟩ := eqK_ok hk
    cases b with
    | true =>
      refine .inl ⟨0, e, rfl, hb, fun d r u fs hd hx hm => ?_⟩
      cases fs with
      | nil => exact hm.elim
      | cons f fs =>
        obtain ⟨h1, h2, h3, h4⟩ := hm
        obtain ⟨k1, k2⟩ := h d r u f.key hd hx h1
        exact ⟨f, rfl, by simp only [Instr.findNow, k1]; rfl, k2 rfl⟩
    | false =>
      have hb : findA x es (i + 1) k = true := hb
      rcases findA_ok hb with ⟨j, e', k1, k2, k3⟩ | ⟨k1, k2⟩
      · refine .inl ⟨j + 1, e', by simpa using k1, by rw [show i + (j + 1) = i + 1 + j by omega]; exact k2, fun d r u fs hd hx hm => ?_⟩
        cases fs with
        | nil => exact hm.elim
        | cons f fs =>
          obtain ⟨h1, h2, h3, h4⟩ := hm
          obtain ⟨q1, q2⟩ := h d r u f.key hd hx h1
          obtain ⟨f', m1, m2, m3⟩ := k3 d r u fs hd hx h4
          exact ⟨f', by simpa using m1, by simp only [Instr.findNow, q1]; rw [m2, show i + (j + 1) = i + 1 + j by omega], m3⟩
      · refine .inr ⟨k1, fun d r u fs hd hx hm => ?_⟩
        cases fs with
        | nil => exact hm.elim
        | cons f fs =>
          obtain ⟨h1, h2, h3, h4⟩ := hm
          obtain ⟨q1, q2⟩ := h d r u f.key hd hx h1
          simp only [Instr.findNow, q1]
          exact k2 d r u fs hd hx h4

/-! ### The block -/
theorem mapO_ok {h : HS} {i : Nat} {k : AO → Ans} (hk : mapO h i k = true) : (h.get i).t = 3 ∧ k (h.get i) = true := by
  unfold mapO at hk
  simp only [] at hk
  rw [andB_eq, beq_tt] at hk
  exact hk
section
variable {W0 : WX} {r : Gh} {h : HS} {w : World}
theorem Rel.mapAt (hR : Rel W0 r h w) {i b c : Nat} (hr : r i 0 = some (b, c)) (ht : (h.get i).t = 3) : ∃ fs, w.heap[b]? = some (.map ⟨fs⟩ (h.get i).g) ∧ RM r (h.get i).es fs := by
  have hB := hR.blk _ _ _ hr
  cases hB with
  | map a1 a0 a2 a3 => exact ⟨_, a2, a3⟩
  | row a1 => omega
  | grow a1 => omega
  | it0 a1 => omega
  | itM a1 => omega
theorem below_setH {n b : Nat} {o : Obj} (h : n ≤ b) (w : World) : Below n w (M.setH w b o) := by
  refine ⟨rfl, rfl, rfl, by simp [M.setH], fun k hk => ?_⟩
  exact M.setH_ne (by omega)
theorem Rel.putO (hR : Rel W0 r h w) {i b c : Nat} {o : AO} {O O' : Obj} (hr : r i 0 = some (b, c)) (ht : 3 ≤ (h.get i).t) (hc : o.c = []) (hb : w.heap[b]? = some O) (hB : Blk r o 0 b c (M.setH w b O')) :
    Rel W0 r (h.put i o) (M.setH w b O') := by
  have hd := hR.dom _ _ _ hr
  have hnx := hR.nx
  have hi : i < 32768 := by omega
  refine hR.upd (i := i) hi (fun j hj => get_put h i j _ hi hj) (Nat.le_refl _) hnx hd.1 (Gh.le_refl r) (below_setH hd.2.1 w) (fun b' _ hb' => M.setH_ne fun e => hb' 0 c (by rw [e]; exact hr)) (fun _ _ _ hx => .inl hx) ?_ (by rw [hc]; exact .nil) (hR.nopen hr)
  intro g' x hx
  have hg : g' = 0 := by
    have hB := hR.blk _ _ _ hx
    cases hB with
    | map a1 a0 => exact a0
    | row a1 => omega
    | grow a1 => omega
    | it0 a1 a0 => exact a0
    | itM a1 a0 => exact a0
  subst hg
  rw [hr, Option.some.injEq] at hx
  subst hx
  exact hB
theorem Rel.putM (hR : Rel W0 r h w) {i b c g : Nat} {es : List ME} {fs : List MapEntry} (hr : r i 0 = some (b, c)) (ht : (h.get i).t = 3) (hm : RM r es fs) :
    Rel W0 r (h.put i ⟨3, [], g, 0, 0, [], es⟩) (M.setH w b (.map ⟨fs⟩ g)) := by
  obtain ⟨fs0, hb, _⟩ := hR.mapAt hr ht
  exact hR.putO hr (by omega) rfl hb (.map rfl rfl (M.setH_same hb) hm)
end
theorem run_obj {w : World} {b : Nat} {fs : List MapEntry} {g : Nat} (h : w.heap[b]? = some (.map ⟨fs⟩ g)) : (getObj b).run P w = .ok (.map ⟨fs⟩ g) w := by simp [getObj, Sem.run, h]

/-! ### What is looked up -/
theorem sat_look {t ke el : TypeId} {z : AV} {kt : Nat} (ht : undA t = some (.map ke el)) (hz : zrT el = some z) (hk0 : keyT ke = some kt) (cok : Bool) : Sat2 (g_look kt z cok) fun x i => vv (Instr.lookup t x i cok) := by
  intro m x h k hk
  unfold g_look at hk
  rw [tg_eq] at hk
  obtain ⟨h1, hk⟩ := hk
  obtain ⟨zv, hzr, hz1, hz2⟩ := run_zero hz
  obtain ⟨d, hd, hkd⟩ := keyT_ok hk0
  have fin : ∀ (v : AV) (b : Bool), (Bool.rec (k v h) (k (aTup [v, aBool b]) h) cok : Ans) = true → ∃ u, k u h = true ∧ ∀ r y, RV r v y → RV r u (if cok then .tuple #[y, .bool b] else y) := by
    intro v b hb
    cases cok with
    | true => exact ⟨_, hb, fun r y hy => .tup (l := [y, .bool b]) rfl (.cons hy (.cons (.mkB _) .nil))⟩
    | false => exact ⟨_, hb, fun r y hy => hy⟩
  have hk : (Bool.rec (tg m 8 (mapO h m.f.p fun o => findA x o.es 0 fun i v => Option.rec (Bool.rec (k z h) (k (aTup [z, aBool false]) h) cok) (fun _ => Bool.rec (k v h) (k (aTup [v, aBool true]) h) cok) i)) (Bool.rec (k z h) (k (aTup [z, aBool false]) h) cok) (Nat.beq m.t 7) : Ans) = true := hk
  rw [brec] at hk
  split at hk
  · rename_i h7
    obtain ⟨u, hu, hv⟩ := fin z false hk
    refine ⟨u, h, hu, fun W0 r w y i hy hi hR => ?_⟩
    rw [hy.nm (beq_tt.1 h7)]
    refine .val (y := _) ?_ (hv r zv (hz2 r)) hR
    have hf := run_find (u := i) hd (show Instr.findNow d i [] 0 = some none from rfl)
    unfold Instr.lookup
    rw [M.run_und (undA_ok ht)]
    simp [run_chk hk0, hf, hzr]
  · rw [tg_eq] at hk
    obtain ⟨h8, hk⟩ := hk
    obtain ⟨h3, hk⟩ := mapO_ok hk
    rcases findA_ok hk with ⟨j, e, q1, q2, q3⟩ | ⟨q1, q2⟩
    · obtain ⟨u, hu, hv⟩ := fin e.v true q2
      refine ⟨u, h, hu, fun W0 r w y i hy hi hR => ?_⟩
      obtain ⟨b, c, rfl, hr⟩ := hy.m h8
      obtain ⟨fs, hb, hm⟩ := hR.mapAt hr h3
      obtain ⟨f, f1, f2, f3⟩ := q3 d r i fs (by rw [h1]; exact hkd) hi hm
      obtain ⟨f', g1, g2, g3, g4⟩ := hm.get q1
      rw [f1, Option.some.injEq] at g1; subst g1
      refine .val (y := _) ?_ (hv r f.val g3) hR
      have hf := run_find hd f2
      unfold Instr.lookup
      rw [M.run_und (undA_ok ht)]
      simp [run_obj hb, run_chk hk0, hf]
    · obtain ⟨u, hu, hv⟩ := fin z false q1
      refine ⟨u, h, hu, fun W0 r w y i hy hi hR => ?_⟩
      obtain ⟨b, c, rfl, hr⟩ := hy.m h8
      obtain ⟨fs, hb, hm⟩ := hR.mapAt hr h3
      refine .val (y := _) ?_ (hv r zv (hz2 r)) hR
      have hf := run_find hd (q2 d r i fs (by rw [h1]; exact hkd) hi hm)
      unfold Instr.lookup
      rw [M.run_und (undA_ok ht)]
      simp [run_obj hb, run_chk hk0, hf, hzr]
end Go.Proofs.YtefppgdfcnediaaGreat.X

/- Own executor, part 21: maps are written to, stepped through. -/
set_option linter.unusedVariables false
set_option linter.unusedSimpArgs false
set_option maxRecDepth 100000
namespace Go.Proofs.YtefppgdfcnediaaGreat.X
open Go Go.RowKit

theorem same_bits {d : TypeDesc} {kt : Nat} {r : Gh} {x : AV} {u : Value} (hd : KD d x.t) (hx : RV r x u) : Instr.sameBits 10000 u u = true := by
  rw [show (10000 : Nat) = 9999 + 1 from rfl]
  rcases hd with ⟨_, h⟩ | ⟨_, h⟩ | ⟨_, h⟩
  · rw [hx.i h]; simp [Instr.sameBits]
  · rw [hx.b h]; simp [Instr.sameBits]
  · obtain ⟨q, rfl, _⟩ := hx.s h
    show (q == q) = true
    rw [beq_toListBytes]; exact beq_self_eq_true _
theorem mod_key {fs : List MapEntry} {j : Nat} {f : MapEntry} {y : Value} (h : fs[j]? = some f) : (fs.modify j fun e => { e with key := f.key, val := y }) = fs.modify j fun e => { e with val := y } := by
  induction fs generalizing j with
  | nil => cases j <;> rfl
  | cons g fs ih =>
    cases j with
    | zero => simp at h; subst h; rfl
    | succ j => rw [List.modify_succ_cons, List.modify_succ_cons, ih (by simpa using h)]
theorem mod_self {fs : List MapEntry} {j : Nat} {f : MapEntry} (h : fs[j]? = some f) : (fs.modify j fun e => { e with key := f.key }) = fs := by
  induction fs generalizing j with
  | nil => cases j <;> rfl
  | cons g fs ih =>
    cases j with
    | zero => simp at h; subst h; rfl
    | succ j => rw [List.modify_succ_cons, ih (by simpa using h)]
theorem arr_mod {fs : List MapEntry} {j : Nat} {g : MapEntry → MapEntry} : (Array.mk fs).modify j g = ⟨fs.modify j g⟩ := by
  apply Array.ext'; simp
theorem arr_push {fs : List MapEntry} {g : MapEntry} : (Array.mk fs).push g = ⟨fs ++ [g]⟩ := by
  apply Array.ext'; simp
theorem arr_del {fs : List MapEntry} {j : Nat} : (Array.mk fs).eraseIdxIfInBounds j = ⟨fs.eraseIdx j⟩ := by
  apply Array.ext'
  exact Array.toList_eraseIdxIfInBounds ..

theorem sat_mup {t ke el : TypeId} {kt : Nat} (ht : undA t = some (.map ke el)) (hk0 : keyT ke = some kt) : SatN3 (g_mup kt) fun m x y => uu (Instr.mapUpdate t m x y) := by
  intro vs h k hk
  unfold g_mup at hk
  rw [getN_eq] at hk
  obtain ⟨m, v1, hk⟩ := hk
  rw [getN_eq] at hk
  obtain ⟨x, v2, hk⟩ := hk
  rw [getN_eq] at hk
  obtain ⟨v, v3, hk⟩ := hk
  rw [tg_eq, tg_eq] at hk
  obtain ⟨h1, h2, hk⟩ := hk
  obtain ⟨h3, hk⟩ := mapO_ok hk
  obtain ⟨d, hd, hkd⟩ := keyT_ok hk0
  have go : ∀ (h' : HS), (∀ W0 r w m' x' y', RV r m m' → RV r x x' → RV r v y' → Rel W0 r h w → Out (uu (Instr.mapUpdate t m' x' y')) W0 r w aUnd h') →
      ∀ W0 r w m' x' y', RL r vs [m', x', y'] → Rel W0 r h w → Out (uu (Instr.mapUpdate t m' x' y')) W0 r w aUnd h' := by
    intro h' hh W0 r w m' x' y' hx hR
    obtain ⟨a, r1, e1, ha, hx1⟩ := RL.split0 hx v1
    obtain ⟨b, r2, e2, hb, hx2⟩ := RL.split1 hx1 v2
    obtain ⟨c, r3, e3, hc, hx3⟩ := RL.split2 hx2 v3
    subst e3; subst e2
    simp only [List.cons.injEq] at e1
    obtain ⟨rfl, rfl, rfl, _⟩ := e1
    exact hh W0 r w _ _ _ ha hb hc hR
  rcases findA_ok hk with ⟨j, e, q1, q2, q3⟩ | ⟨q1, q2⟩
  · have q2 : k aUnd (h.put m.f.p ⟨3, [], (h.get m.f.p).g, 0, 0, [], setE v (0 + j) (h.get m.f.p).es⟩) = true := q2
    refine ⟨_, _, q2, go _ fun W0 r w m' x' y' hm hx hv hR => ?_⟩
    obtain ⟨b, c, rfl, hr⟩ := hm.m h2
    obtain ⟨fs, hb, hM⟩ := hR.mapAt hr h3
    obtain ⟨f, f1, f2, f3⟩ := q3 d r x' fs (by rw [h1]; exact hkd) hx hM
    rw [Nat.zero_add] at f2 ⊢
    refine ⟨undef, r, _, .inr ⟨run_uu ?_, rfl⟩, Gh.le_refl r, .und r, hR.putM hr h3 (hM.set hv)⟩
    have hs := same_bits (kt := kt) (d := d) (by rw [h1]; exact hkd) hx
    unfold Instr.mapUpdate
    rw [M.run_und (undA_ok ht)]
    subst f3
    have e1 : (Array.mk fs)[j]? = some f := by simpa using f1
    simp [run_obj hb, run_chk hk0, run_find hd f2, e1, f1, M.run_keep hs, M.run_setM hb]
    exact congrArg (fun l => M.setH w b (.map ⟨l⟩ (h.get m.f.p).g)) (mod_key (y := y') f1)
  · have q1 : (forceN (Nat.succ (h.get m.f.p).g) fun c => k aUnd (h.put m.f.p ⟨3, [], c, 0, 0, [], appL (h.get m.f.p).es [⟨x, v, (h.get m.f.p).g⟩]⟩)) = true := q1
    rw [forceN_eq, appL_eq] at q1
    refine ⟨_, _, q1, go _ fun W0 r w m' x' y' hm hx hv hR => ?_⟩
    obtain ⟨b, c, rfl, hr⟩ := hm.m h2
    obtain ⟨fs, hb, hM⟩ := hR.mapAt hr h3
    refine ⟨undef, r, _, .inr ⟨run_uu ?_, rfl⟩, Gh.le_refl r, .und r, hR.putM hr h3 (hM.push hx hv)⟩
    unfold Instr.mapUpdate
    rw [M.run_und (undA_ok ht)]
    simp [run_obj hb, run_chk hk0, run_find hd (q2 d r x' fs (by rw [h1]; exact hkd) hx hM), arr_push, M.run_setM hb]

theorem sat_del {ts : Array TypeId} {t ty ke el : TypeId} {kt : Nat} (h0 : ts[0]? = some t) (ht : undA t = some (.map ke el)) (hk0 : keyT ke = some kt) : Sat2 (g_del kt) fun m x => vv (Builtin.delete_ ts ty #[m, x]) := by
  intro m x h k hk
  unfold g_del at hk
  rw [tg_eq, tg_eq] at hk
  obtain ⟨h1, h2, hk⟩ := hk
  obtain ⟨h3, hk⟩ := mapO_ok hk
  obtain ⟨d, hd, hkd⟩ := keyT_ok hk0
  rcases findA_ok hk with ⟨j, e, q1, q2, q3⟩ | ⟨q1, q2⟩
  · have q2 : k aUnd (h.put m.f.p ⟨3, [], (h.get m.f.p).g, 0, 0, [], delE (0 + j) (h.get m.f.p).es⟩) = true := q2
    refine ⟨_, _, q2, fun W0 r w m' x' hm hx hR => ?_⟩
    obtain ⟨b, c, rfl, hr⟩ := hm.m h2
    obtain ⟨fs, hb, hM⟩ := hR.mapAt hr h3
    obtain ⟨f, f1, f2, f3⟩ := q3 d r x' fs (by rw [h1]; exact hkd) hx hM
    rw [Nat.zero_add] at f2 ⊢
    refine ⟨undef, r, _, .inl (run_vv ?_), Gh.le_refl r, .und r, hR.putM hr h3 (hM.del (j := j))⟩
    unfold Builtin.delete_
    simp only [h0, List.getElem?_toArray, List.getElem?_cons_zero, List.getElem?_cons_succ]
    simp [M.run_und (undA_ok ht), run_obj hb, run_chk hk0, run_find hd f2, arr_del, M.run_setM hb]
    rfl
  · have q1 : k aUnd h = true := q1
    refine ⟨_, _, q1, fun W0 r w m' x' hm hx hR => ?_⟩
    obtain ⟨b, c, rfl, hr⟩ := hm.m h2
    obtain ⟨fs, hb, hM⟩ := hR.mapAt hr h3
    have hs : M.setH w b (.map ⟨fs⟩ (h.get m.f.p).g) = w := by
      unfold M.setH
      congr 1
      apply Array.ext_getElem?
      intro i
      by_cases hi : b = i
      · subst hi
        rw [Array.getElem?_setIfInBounds_self_of_lt (Array.getElem?_eq_some_iff.1 hb).1, hb]
      · rw [Array.getElem?_setIfInBounds_ne hi]
    refine ⟨undef, r, w, .inl (run_vv ?_), Gh.le_refl r, .und r, hR⟩
    unfold Builtin.delete_
    simp only [h0, List.getElem?_toArray, List.getElem?_cons_zero, List.getElem?_cons_succ]
    simp [M.run_und (undA_ok ht), run_obj hb, run_chk hk0, run_find hd (q2 d r x' fs (by rw [h1]; exact hkd) hx hM), M.run_setM hb, hs]
    rfl

theorem sat_lenM {ts : Array TypeId} {t ty ke el : TypeId} (h0 : ts[0]? = some t) (ht : undA t = some (.map ke el)) : Sat1 g_lenM fun x => vv (Builtin.len_ ts ty #[x]) := by
  intro v h k hk
  unfold g_lenM at hk
  rw [brec] at hk
  split at hk
  · rename_i h7
    refine ⟨_, h, hk, fun W0 r w x hx hR => ?_⟩
    rw [hx.nm (beq_tt.1 h7)]
    refine .val (y := .int .i64 (0 : Nat)) ?_ (.mkI _ _) hR
    simp [Builtin.len_, h0, run_underlying (undA_ok ht), goInt]
  · rw [tg_eq] at hk
    obtain ⟨h8, hk⟩ := hk
    obtain ⟨h3, hk⟩ := mapO_ok hk
    rw [forceN_eq, lenL_eq] at hk
    refine ⟨_, h, hk, fun W0 r w x hx hR => ?_⟩
    obtain ⟨b, c, rfl, hr⟩ := hx.m h8
    obtain ⟨fs, hb, hM⟩ := hR.mapAt hr h3
    refine .val (y := .int .i64 (fs.length : Nat)) ?_ (by rw [hM.len]; exact .mkI _ _) hR
    simp [Builtin.len_, h0, run_underlying (undA_ok ht), goInt, run_obj hb]

theorem sat_clrM {ts : Array TypeId} {t ty ke el : TypeId} (h0 : ts[0]? = some t) (ht : undA t = some (.map ke el)) : Sat1 g_clrM fun x => vv (Builtin.clear_ ts ty #[x]) := by
  intro v h k hk
  unfold g_clrM at hk
  rw [brec] at hk
  split at hk
  · rename_i h7
    refine ⟨_, h, hk, fun W0 r w x hx hR => ?_⟩
    rw [hx.nm (beq_tt.1 h7)]
    refine .val (y := undef) ?_ (.und r) hR
    simp [Builtin.clear_, h0, run_underlying (undA_ok ht)]
    rfl
  · rw [tg_eq] at hk
    obtain ⟨h8, hk⟩ := hk
    obtain ⟨h3, hk⟩ := mapO_ok hk
    refine ⟨_, _, hk, fun W0 r w x hx hR => ?_⟩
    obtain ⟨b, c, rfl, hr⟩ := hx.m h8
    obtain ⟨fs, hb, hM⟩ := hR.mapAt hr h3
    refine ⟨undef, r, _, .inl (run_vv ?_), Gh.le_refl r, .und r, hR.putM hr h3 (es := []) (fs := []) trivial⟩
    simp [Builtin.clear_, h0, run_underlying (undA_ok ht), run_obj hb, M.run_setM hb]
    rfl

theorem allI_ok : ∀ {l : List AV} {x : Ans}, allI l x = true → (∀ v ∈ l, v.t = 0) ∧ x = true
  | [], x, h => ⟨fun v hv => by (cases hv), h⟩
  | v :: l, x, h => by
    have h : tg v 0 (allI l x) = true := h
    rw [tg_eq] at h
    obtain ⟨h1, h2⟩ := allI_ok h.2
    refine ⟨fun u hu => ?_, h2⟩
    rcases List.mem_cons.1 hu with rfl | hu
    · exact h.1
    · exact h1 u hu
theorem sat_map {t ke el : TypeId} (ht : undA t = some (.map ke el)) : SatNA g_map fun xs => vv (Instr.makeMap t xs.head?) := by
  intro l h k hk
  unfold g_map at hk
  obtain ⟨hi0, hk⟩ := allI_ok hk
  obtain ⟨hnx, hk⟩ := new_eq hk
  refine ⟨_, _, hnx, hk, fun W0 r w xs h2 hx hR hp => ?_⟩
  obtain ⟨r', hle, hi, hR'⟩ := hR.born hp (.map #[] 0) 0 .nil fun r' hle => .map (es := []) rfl rfl (M.heap_alloc_new' w _) trivial
  refine ⟨.map (some w.heap.size), r', _, run_vv ?_, hle, .map (v := aMap h.nx) rfl hi, hR'⟩
  cases hx with
  | nil => simp [Instr.makeMap]
  | cons a b =>
    have := a.i (hi0 _ List.mem_cons_self)
    subst this
    simp [Instr.makeMap, run_underlying (undA_ok ht), asInt, asIntOf]

/-! ### Entries that are held -/
theorem sat_men {t ke el : TypeId} {z : AV} {kt : Nat} (ht : undA t = some (.map ke el)) (hz : zrT el = some z) (hk0 : keyT ke = some kt) : Sat2 (g_men kt z) fun m x => vv (Instr.mapEntry t m x) := by
  intro m x h k hk
  unfold g_men at hk
  rw [tg_eq, tg_eq] at hk
  obtain ⟨h1, h2, hk⟩ := hk
  obtain ⟨h3, hk⟩ := mapO_ok hk
  obtain ⟨d, hd, hkd⟩ := keyT_ok hk0
  obtain ⟨zv, hzr, hz1, hz2⟩ := run_zero hz
  rcases findA_ok hk with ⟨j, e, q1, q2, q3⟩ | ⟨q1, q2⟩
  · have q2 : getN (0 + j) (h.get m.f.p).es (fun e' => k (aTup [e.v, aInt .i64 (.ofNat e'.b)]) h) = true := q2
    rw [getN_eq, Nat.zero_add, q1] at q2
    obtain ⟨e', e1, q2⟩ := q2
    simp only [Option.some.injEq] at e1; subst e1
    refine ⟨_, _, q2, fun W0 r w m' x' hm hx hR => ?_⟩
    obtain ⟨b, c, rfl, hr⟩ := hm.m h2
    obtain ⟨fs, hb, hM⟩ := hR.mapAt hr h3
    obtain ⟨f, f1, f2, f3⟩ := q3 d r x' fs (by rw [h1]; exact hkd) hx hM
    obtain ⟨f', g1, g2, g3, g4⟩ := hM.get q1
    rw [f1, Option.some.injEq] at g1; subst g1
    rw [Nat.zero_add] at f2
    have hs := same_bits (kt := kt) (d := d) (by rw [h1]; exact hkd) hx
    have hw : M.setH w b (.map ⟨fs⟩ (h.get m.f.p).g) = w := by
      unfold M.setH
      congr 1
      apply Array.ext_getElem?
      intro i
      by_cases hi : b = i
      · subst hi
        rw [Array.getElem?_setIfInBounds_self_of_lt (Array.getElem?_eq_some_iff.1 hb).1, hb]
      · rw [Array.getElem?_setIfInBounds_ne hi]
    refine .val (y := .tuple #[f.val, .int .i64 (f.born : Nat)]) ?_ (.tup (l := [f.val, .int .i64 (f.born : Nat)]) rfl (.cons g3 (.cons (by rw [g4]; exact .mkI _ _) .nil))) hR
    unfold Instr.mapEntry
    rw [M.run_und (undA_ok ht)]
    subst f3
    have e1 : (Array.mk fs)[j]? = some f := by simpa using f1
    have hw2 : M.setH w b (.map (fs.modify j fun e => { e with key := f.key }).toArray (h.get m.f.p).g) = w := by
      rw [mod_self f1]; exact hw
    simp [run_obj hb, run_chk hk0, run_find hd f2, e1, f1, M.run_keep hs, M.run_setM hb, goInt]
    exact hw2
  · have q1 : (forceN (Nat.succ (h.get m.f.p).g) fun c => k (aTup [z, aInt .i64 (.ofNat (h.get m.f.p).g)]) (h.put m.f.p ⟨3, [], c, 0, 0, [], appL (h.get m.f.p).es [⟨x, z, (h.get m.f.p).g⟩]⟩)) = true := q1
    rw [forceN_eq, appL_eq] at q1
    refine ⟨_, _, q1, fun W0 r w m' x' hm hx hR => ?_⟩
    obtain ⟨b, c, rfl, hr⟩ := hm.m h2
    obtain ⟨fs, hb, hM⟩ := hR.mapAt hr h3
    refine ⟨.tuple #[zv, .int .i64 ((h.get m.f.p).g : Nat)], r, _, .inl (run_vv ?_), Gh.le_refl r, .tup (l := [zv, .int .i64 ((h.get m.f.p).g : Nat)]) rfl (.cons (hz2 r) (.cons (.mkI _ _) .nil)), hR.putM hr h3 (hM.push hx (hz2 r))⟩
    unfold Instr.mapEntry
    rw [M.run_und (undA_ok ht)]
    simp [run_obj hb, run_chk hk0, run_find hd (q2 d r x' fs (by rw [h1]; exact hkd) hx hM), arr_push, hzr, M.run_setM hb, goInt]

theorem setB_ok {b : Nat} {v : AV} : ∀ {es : List ME} {k : List ME → Ans}, setB b v es k = true → ∃ es', k es' = true ∧ ∀ r y fs, RM r es fs → RV r v y → ∃ i, (Array.mk fs).findIdx? (fun e => (e.born : Int) == (b : Int)) = some i ∧ RM r es' (fs.modify i fun e => { e with val := y })
  | [], k, hk => by cases hk
  | e :: es, k, hk => by
    have hk : (Bool.rec (setB b v es fun l => k (e :: l)) (k (⟨e.k, v, e.b⟩ :: es)) (Nat.beq e.b b) : Ans) = true := hk
    rw [brec] at hk
    split at hk
    · rename_i h1
      have h1 := beq_tt.1 h1
      refine ⟨_, hk, fun r y fs hm hv => ?_⟩
      cases fs with
      | nil => exact hm.elim
      | cons f fs =>
        obtain ⟨a1, a2, a3, a4⟩ := hm
        refine ⟨0, ?_, ?_⟩
        · show (List.toArray (f :: fs)).findIdx? _ = _
          rw [List.findIdx?_toArray, List.findIdx?_cons]
          simp [a3, h1]
        · rw [List.modify_zero_cons]
          exact ⟨a1, hv, a3, a4⟩
    · rename_i h1
      have h1 : e.b ≠ b := fun x => h1 (beq_tt.2 x)
      obtain ⟨es', k1, k2⟩ := setB_ok hk
      refine ⟨_, k1, fun r y fs hm hv => ?_⟩
      cases fs with
      | nil => exact hm.elim
      | cons f fs =>
        obtain ⟨a1, a2, a3, a4⟩ := hm
        obtain ⟨i, m1, m2⟩ := k2 r y fs a4 hv
        refine ⟨i + 1, ?_, ?_⟩
        · have m1 : (List.toArray fs).findIdx? (fun e => (e.born : Int) == (b : Int)) = some i := m1
          show (List.toArray (f :: fs)).findIdx? _ = _
          rw [List.findIdx?_toArray] at m1 ⊢
          rw [List.findIdx?_cons, if_neg (by rw [a3]; simp; omega), m1]; rfl
        · rw [List.modify_succ_cons]
          exact ⟨a1, a2, a3, m2⟩
theorem sat_est {t : TypeId} : SatN3 g_est fun m s y => uu (Instr.entryStore t m s y) := by
  intro vs h k hk
  unfold g_est at hk
  rw [getN_eq] at hk
  obtain ⟨m, v1, hk⟩ := hk
  rw [getN_eq] at hk
  obtain ⟨s, v2, hk⟩ := hk
  rw [getN_eq] at hk
  obtain ⟨v, v3, hk⟩ := hk
  rw [tg_eq] at hk
  obtain ⟨h1, hk⟩ := hk
  obtain ⟨h3, hk⟩ := mapO_ok hk
  obtain ⟨h4, n, h5, hk⟩ := nat_ok hk
  obtain ⟨es', hk, hs⟩ := setB_ok hk
  refine ⟨_, _, hk, fun W0 r w m' s' y' hx hR => ?_⟩
  obtain ⟨a, r1, e1, ha, hx1⟩ := RL.split0 hx v1
  obtain ⟨b, r2, e2, hb, hx2⟩ := RL.split1 hx1 v2
  obtain ⟨c, r3, e3, hc, hx3⟩ := RL.split2 hx2 v3
  subst e3; subst e2
  simp only [List.cons.injEq] at e1
  obtain ⟨rfl, rfl, rfl, _⟩ := e1
  obtain ⟨bk, cc, rfl, hr⟩ := ha.m h1
  obtain ⟨fs, hbk, hM⟩ := hR.mapAt hr h3
  obtain ⟨i, i1, i2⟩ := hs r y' fs hM hc
  refine ⟨undef, r, _, .inr ⟨run_uu ?_, rfl⟩, Gh.le_refl r, .und r, hR.putM hr h3 i2⟩
  rw [hb.i h4, h5]
  unfold Instr.entryStore
  simp [run_obj hbk, asInt, asIntOf, i1, arr_mod, M.run_setM hbk]
end Go.Proofs.YtefppgdfcnediaaGreat.X

/- Own executor, part 22: steps through maps. -/
set_option linter.unusedVariables false
set_option linter.unusedSimpArgs false
set_option maxRecDepth 100000
namespace Go.Proofs.YtefppgdfcnediaaGreat.X
open Go Go.RowKit

theorem sat_rng {t ke el : TypeId} (ht : undA t = some (.map ke el)) : Sat1 g_rng fun x => vv (Instr.range t x) := by
  intro v h k hk
  unfold g_rng at hk
  rw [brec] at hk
  split at hk
  · rename_i h7
    obtain ⟨i, h', hk, hn⟩ := new_ok hk
    refine ⟨_, _, hk, fun W0 r w x hx hR => ?_⟩
    obtain ⟨r', hle, hi, hR'⟩ := hn W0 r w (.mapIter none 0 #[] 0) 0 hR .nil fun r' hle => .it0 rfl rfl (M.heap_alloc_new' w _)
    rw [hx.nm (beq_tt.1 h7)]
    refine ⟨.pointer (some ⟨w.heap.size, 0, none⟩), r', _, .inl (run_vv ?_), hle, .ptr (v := aPtr i 0 0) rfl hi, hR'⟩
    simp [Instr.range, run_underlying (undA_ok ht)]
  · rw [tg_eq] at hk
    obtain ⟨h8, hk⟩ := hk
    obtain ⟨h3, hk⟩ := mapO_ok hk
    obtain ⟨i, h', hk, hn⟩ := new_ok hk
    refine ⟨_, _, hk, fun W0 r w x hx hR => ?_⟩
    obtain ⟨b, c, rfl, hr⟩ := hx.m h8
    obtain ⟨fs, hb, hM⟩ := hR.mapAt hr h3
    obtain ⟨r', hle, hi, hR'⟩ := hn W0 r w (.mapIter (some b) (h.get v.f.p).g #[] (h.get v.f.p).g) 0 hR .nil fun r' hle => .itM rfl rfl (hle.m _ _ _ hr) (M.heap_alloc_new' w _)
    refine ⟨.pointer (some ⟨w.heap.size, 0, none⟩), r', _, .inl (run_vv ?_), hle, .ptr (v := aPtr i 0 0) rfl hi, hR'⟩
    simp [Instr.range, run_underlying (undA_ok ht), run_obj hb]

theorem memN_eq (n : Nat) : ∀ (l : List Nat), memN n l = l.contains n
  | [] => rfl
  | x :: l => by
    show (Bool.rec (memN n l) true (Nat.beq x n) : Bool) = _
    rw [brec, memN_eq n l, List.contains_cons]
    by_cases h : x = n
    · subst h; simp
    · have : Nat.beq x n = false := beq_ff.2 h
      rw [this]
      have : (n == x) = false := by simp [Ne.symm h]
      simp [this]
theorem oldE_eq {r : Gh} {n : Nat} : ∀ {es : List ME} {fs : List MapEntry}, RM r es fs → oldE n es = !fs.all fun f => decide (f.born ≥ n)
  | [], [], _ => rfl
  | e :: es, f :: fs, ⟨h1, h2, h3, h4⟩ => by
    show (Bool.rec (oldE n es) true (Nat.blt e.b n) : Bool) = _
    rw [brec, oldE_eq h4, List.all_cons, h3]
    by_cases h : e.b < n
    · rw [if_pos (blt_tt.2 h)]
      have : decide (e.b ≥ n) = false := by simp; omega
      simp [this]
    · rw [if_neg (fun x => h (blt_tt.1 x))]
      have : decide (e.b ≥ n) = true := by simp; omega
      simp [this]
  | [], _ :: _, h => h.elim
  | _ :: _, [], h => h.elim
theorem unseen_ok {r : Gh} {ex : List Nat} : ∀ {es : List ME} {fs : List MapEntry}, RM r es fs → RM r (unseen ex es) (fs.filter fun f => !ex.contains f.born)
  | [], [], _ => trivial
  | e :: es, f :: fs, ⟨h1, h2, h3, h4⟩ => by
    show RM r (Bool.rec (e :: unseen ex es) (unseen ex es) (memN e.b ex)) _
    have ih := unseen_ok (ex := ex) h4
    cases hm : memN e.b ex with
    | true =>
      rw [memN_eq] at hm
      rw [List.filter_cons_of_neg (by rw [h3, hm]; simp)]
      exact ih
    | false =>
      rw [memN_eq] at hm
      rw [List.filter_cons_of_pos (by rw [h3, hm]; rfl)]
      exact ⟨h1, h2, h3, ih⟩
  | [], _ :: _, h => h.elim
  | _ :: _, [], h => h.elim
theorem nilB_eq {α : Type} (l : List α) : nilB l = l.isEmpty := by cases l <;> rfl

theorem Rel.iter0 {W0 : WX} {r : Gh} {h : HS} {w : World} (hR : Rel W0 r h w) {i g b c : Nat} (hr : r i g = some (b, c)) (ht : (h.get i).t = 4) : w.heap[b]? = some (.mapIter none 0 #[] 0) := by
  have hB := hR.blk _ _ _ hr
  cases hB with
  | it0 a1 a0 a2 => exact a2
  | map a1 => omega
  | row a1 => omega
  | grow a1 => omega
  | itM a1 => omega
theorem Rel.iterM {W0 : WX} {r : Gh} {h : HS} {w : World} (hR : Rel W0 r h w) {i g b c : Nat} (hr : r i g = some (b, c)) (ht : (h.get i).t = 5) :
    g = 0 ∧ ∃ mb mc, r (h.get i).g 0 = some (mb, mc) ∧ w.heap[b]? = some (.mapIter (some mb) (h.get i).w ⟨(h.get i).ex.reverse⟩ (h.get i).st) := by
  have hB := hR.blk _ _ _ hr
  cases hB with
  | itM a1 a0 a2 a3 => exact ⟨a0, _, _, a2, a3⟩
  | map a1 => omega
  | row a1 => omega
  | grow a1 => omega
  | it0 a1 => omega
theorem run_it {w : World} {b : Nat} {m : Option Nat} {s : Nat} {seen : Array Nat} {l : Nat} (h : w.heap[b]? = some (.mapIter m s seen l)) : (getObj b).run P w = .ok (.mapIter m s seen l) w := by simp [getObj, Sem.run, h]
theorem run_setI {w : World} {b : Nat} {m : Option Nat} {s : Nat} {seen : Array Nat} {l : Nat} (h : w.heap[b]? = some (.mapIter m s seen l)) (o : Obj) : (setObj b o).run P w = .ok () (M.setH w b o) := by simp [setObj, Sem.run, h, M.setH]

theorem sat_next (t : TypeId) : Sat1 g_next fun x => vv (Instr.next x false t) := by
  intro v h k hk
  unfold g_next at hk
  rw [tg_eq, andB_eq, beq_tt] at hk
  obtain ⟨h1, h0, hk⟩ := hk
  simp only [] at hk
  rw [brec] at hk
  split at hk
  · rename_i h4
    have h4 := beq_tt.1 h4
    refine ⟨_, _, hk, fun W0 r w x hx hR => ?_⟩
    obtain ⟨b, c, rfl, hr⟩ := hx.p h1
    have hb := hR.iter0 hr h4
    refine .val (y := .tuple #[.bool false]) ?_ (.tup (l := [.bool false]) rfl (.cons (.mkB _) .nil)) hR
    rw [h0]
    simp [Instr.next, run_it hb]
  · rw [andB_eq, beq_tt] at hk
    obtain ⟨h5, hk⟩ := hk
    obtain ⟨h3, hk⟩ := mapO_ok hk
    rw [andB_eq] at hk
    obtain ⟨hc, hk⟩ := hk
    generalize hun : unseen (h.get v.f.p).ex (h.get (h.get v.f.p).g).es = un at hk
    have pre : ∀ (W0 : WX) (r : Gh) (w : World) (b c : Nat), Rel W0 r h w → r v.f.p v.f.q = some (b, c) → ∃ mb fs, r v.f.p 0 = some (b, c) ∧ w.heap[b]? = some (.mapIter (some mb) (h.get v.f.p).w ⟨(h.get v.f.p).ex.reverse⟩ (h.get v.f.p).st) ∧
        w.heap[mb]? = some (.map ⟨fs⟩ (h.get (h.get v.f.p).g).g) ∧ (∃ mc, r (h.get v.f.p).g 0 = some (mb, mc)) ∧ RM r un (fs.filter fun f => !(h.get v.f.p).ex.contains f.born) ∧
        (!(Array.mk (h.get v.f.p).ex.reverse).isEmpty && !(Array.mk fs).isEmpty && (Array.mk fs).all (·.born ≥ (h.get v.f.p).st)) = false ∧ ((Array.mk fs).filter fun e => !(Array.mk (h.get v.f.p).ex.reverse).contains e.born) = ⟨fs.filter fun f => !(h.get v.f.p).ex.contains f.born⟩ := by
      intro W0 r w b c hR hr
      obtain ⟨hg, mb, mc, k1, k2⟩ := hR.iterM hr h5
      obtain ⟨fs, k3, k4⟩ := hR.mapAt k1 h3
      refine ⟨mb, fs, by rw [hg] at hr; exact hr, k2, k3, ⟨mc, k1⟩, by rw [← hun]; exact unseen_ok k4, ?_, ?_⟩
      · rw [nilB_eq, nilB_eq, oldE_eq k4] at hc
        have e1 : (Array.mk (h.get v.f.p).ex.reverse).isEmpty = (h.get v.f.p).ex.isEmpty := by
          cases (h.get v.f.p).ex with
          | nil => rfl
          | cons => simp [Array.isEmpty]
        have e2 : (Array.mk fs).isEmpty = (h.get (h.get v.f.p).g).es.isEmpty := by
          have := k4.len
          cases fs with
          | nil => cases hq : (h.get (h.get v.f.p).g).es with
            | nil => rfl
            | cons => rw [hq] at this; cases this
          | cons => cases hq : (h.get (h.get v.f.p).g).es with
            | nil => rw [hq] at this; cases this
            | cons => simp [Array.isEmpty]
        have e3 : (Array.mk fs).all (·.born ≥ (h.get v.f.p).st) = fs.all fun f => decide (f.born ≥ (h.get v.f.p).st) := by simp
        rw [e1, e2, e3]
        cases q1 : (h.get v.f.p).ex.isEmpty <;> cases q2 : (h.get (h.get v.f.p).g).es.isEmpty <;> cases q3 : fs.all (fun f => decide (f.born ≥ (h.get v.f.p).st)) <;> rw [q1, q2, q3] at hc <;> first | rfl | cases hc
      · apply Array.ext'
        rw [Array.toList_filter]
        congr 1
        funext f
        congr 1
        rw [Bool.eq_iff_iff]
        simp
    cases un with
    | nil =>
      have hk : k (aTup [aBool false]) h = true := hk
      refine ⟨_, _, hk, fun W0 r w x hx hR => ?_⟩
      obtain ⟨b, c, rfl, hr⟩ := hx.p h1
      obtain ⟨mb, fs, q0, q1, q2, _, q3, q4, q5⟩ := pre W0 r w b c hR hr
      have hf : (fs.filter fun f => !(h.get v.f.p).ex.contains f.born) = [] := by
        cases hq : (fs.filter fun f => !(h.get v.f.p).ex.contains f.born) with
        | nil => rfl
        | cons => rw [hq] at q3; exact q3.elim
      rw [hf] at q5
      refine .val (y := .tuple #[.bool false]) ?_ (.tup (l := [.bool false]) rfl (.cons (.mkB _) .nil)) hR
      rw [h0]
      unfold Instr.next
      simp only [Sem.run_bind, run_it q1, run_obj q2, Result.andThen_ok, q4, Bool.false_eq_true, if_false]
      rw [q5]
      simp [choose, Sem.run, Question.forced]
    | cons e un =>
      cases un with
      | cons => cases hk
      | nil =>
        have hk : andB (Nat.blt e.b (h.get v.f.p).w) (k (aTup [aBool true, e.k, e.v]) (h.put v.f.p ⟨5, [], (h.get v.f.p).g, (h.get v.f.p).w, (h.get (h.get v.f.p).g).g, e.b :: (h.get v.f.p).ex, []⟩)) = true := hk
        rw [andB_eq, blt_tt] at hk
        obtain ⟨h6, hk⟩ := hk
        refine ⟨_, _, hk, fun W0 r w x hx hR => ?_⟩
        obtain ⟨b, c, rfl, hr⟩ := hx.p h1
        obtain ⟨mb, fs, q0, q1, q2, ⟨mc, q6⟩, q3, q4, q5⟩ := pre W0 r w b c hR hr
        cases hf : (fs.filter fun f => !(h.get v.f.p).ex.contains f.born) with
        | nil => rw [hf] at q3; exact q3.elim
        | cons f fs' =>
          rw [hf] at q3 q5
          obtain ⟨f1, f2, f3, f4⟩ := q3
          cases fs' with
          | cons => exact f4.elim
          | nil =>
            have hq1 : ({ w with drawn := w.drawn } : World) = w := rfl
            refine ⟨.tuple #[.bool true, f.key, f.val], r, M.setH w b (.mapIter (some mb) (h.get v.f.p).w ((Array.mk (h.get v.f.p).ex.reverse).push f.born) (h.get (h.get v.f.p).g).g), .inl (run_vv ?_), Gh.le_refl r,
              .tup (l := [.bool true, f.key, f.val]) rfl (.cons (.mkB _) (.cons f1 (.cons f2 .nil))), hR.putO q0 (by omega) rfl q1 (.itM rfl rfl q6 ?_)⟩
            · rw [h0]
              unfold Instr.next
              simp only [Sem.run_bind, run_it q1, run_obj q2, Result.andThen_ok, q4, Bool.false_eq_true, if_false]
              rw [q5]
              have b1 : decide (f.born < (h.get v.f.p).w) = true := by simp; omega
              have b2 : decide (f.born ≥ (h.get v.f.p).w) = false := by simp; omega
              have c1 : (#[f].filter fun x => decide (x.born < (h.get v.f.p).w)) = #[f] := by simp; omega
              have c2 : (#[f].filter fun x => decide (x.born ≥ (h.get v.f.p).w)) = #[] := by simp; omega
              have c0 : (⟨[f]⟩ : Array MapEntry) = #[f] := rfl
              rw [c0, c1, c2]
              simp [choose, Sem.run, Question.forced, run_setI q1]
            · rw [M.setH_same q1]
              congr 2
              rw [f3]
              apply Array.ext'
              simp

theorem sat_entry : Sat1 g_entry fun x => vv (Instr.entry x) := by
  intro v h k hk
  unfold g_entry at hk
  rw [tg_eq, andB_eq, beq_tt] at hk
  obtain ⟨h1, h0, hk⟩ := hk
  simp only [] at hk
  rw [andB_eq, beq_tt, getN_eq] at hk
  obtain ⟨h5, st, hs, hk⟩ := hk
  obtain ⟨h3, hk⟩ := mapO_ok hk
  rw [andB_eq, beq_tt] at hk
  obtain ⟨h6, hk⟩ := hk
  have fnd : ∀ (es : List ME), (List.rec bad (fun e _ ih => Bool.rec ih (k (aTup [e.k, e.v]) h) (Nat.beq e.b st)) es : Ans) = true → ∃ ek ev, k (aTup [ek, ev]) h = true ∧ ∀ r fs, RM r es fs → ∃ f : MapEntry, fs.find? (·.born == st) = some f ∧ RV r ek f.key ∧ RV r ev f.val := by
    intro es
    induction es with
    | nil => intro hk; cases hk
    | cons e es ih =>
      intro hk
      have hk : (Bool.rec (List.rec bad (fun e _ ih => Bool.rec ih (k (aTup [e.k, e.v]) h) (Nat.beq e.b st)) es) (k (aTup [e.k, e.v]) h) (Nat.beq e.b st) : Ans) = true := hk
      rw [brec] at hk
      split at hk
      · rename_i hb
        have hb := beq_tt.1 hb
        refine ⟨_, _, hk, fun r fs hm => ?_⟩
        cases fs with
        | nil => exact hm.elim
        | cons f fs =>
          obtain ⟨a1, a2, a3, a4⟩ := hm
          exact ⟨f, by rw [List.find?_cons_of_pos]; rw [a3, hb]; simp, a1, a2⟩
      · rename_i hb
        have hb : e.b ≠ st := fun x => hb (beq_tt.2 x)
        obtain ⟨ek, ev, k1, k2⟩ := ih hk
        refine ⟨ek, ev, k1, fun r fs hm => ?_⟩
        cases fs with
        | nil => exact hm.elim
        | cons f fs =>
          obtain ⟨a1, a2, a3, a4⟩ := hm
          obtain ⟨f', m1, m2⟩ := k2 r fs a4
          exact ⟨f', by rw [List.find?_cons_of_neg]; exact m1; rw [a3]; simp [hb], m2⟩
  obtain ⟨ek, ev, hk, hf⟩ := fnd _ hk
  refine ⟨_, h, hk, fun W0 r w x hx hR => ?_⟩
  obtain ⟨b, c, rfl, hr⟩ := hx.p h1
  obtain ⟨hg, mb, mc, k1, k2⟩ := hR.iterM hr h5
  obtain ⟨fs, k3, k4⟩ := hR.mapAt k1 h3
  obtain ⟨f, f1, f2, f3⟩ := hf r fs k4
  refine .val (y := .tuple #[f.key, f.val]) ?_ (.tup (l := [f.key, f.val]) rfl (.cons f2 (.cons f3 .nil))) hR
  rw [h0]
  have hbk : (Array.mk (h.get v.f.p).ex.reverse).back? = some st := by
    cases hq : (h.get v.f.p).ex with
    | nil => rw [hq] at hs; cases hs
    | cons a l => rw [hq] at hs; simp at hs; subst hs; simp [Array.back?]
  have hff : (Array.mk fs).find? (·.born == st) = some f := by
    rw [← f1]; simp
  unfold Instr.entry
  simp [run_it k2, run_obj k3, hbk, h6, hff]
end Go.Proofs.YtefppgdfcnediaaGreat.X

/- Own executor, part 23: appends, copies, what is cleared. -/
set_option linter.unusedVariables false
set_option linter.unusedSimpArgs false
set_option maxRecDepth 100000
namespace Go.Proofs.YtefppgdfcnediaaGreat.X
open Go Go.RowKit

/-! ### What is appended -/
structure SrcV (w : Nat) (x : Value) (n : Nat) (news : List Value) (W : World) : Prop where
  len : ∀ W' : World, (Builtin.lenOf x).run P W' = .ok n W'
  cells : ∀ m, m ≤ n → (Builtin.firstCells w m x).run P W = .ok (news.take (m * w)).toArray W
  cellsD : ∀ m, m ≤ n → (Builtin.firstCells w m x).run P W.drew = .ok (news.take (m * w)).toArray W.drew
  newsLen : news.length = n * w
theorem run_first {w b off n m c : Nat} {ms : List Value} {el : TypeId} {fz : Nat × Nat} {W : World} {u : Nat} (hb : W.heap[b]? = some (.cells ⟨ms⟩ el fz)) (hl : ((ms.drop off).take (n * w)).length = n * w) (hm : m ≤ n) :
    (Builtin.firstCells w m (.slice (some ⟨b, off, none⟩) u c)).run P W = .ok (((ms.drop off).take (n * w)).take (m * w)).toArray W := by
  have hmw : m * w ≤ n * w := Nat.mul_le_mul_right _ hm
  have e : ((ms.drop off).take (n * w)).take (m * w) = (ms.drop off).take (m * w) := by
    rw [List.take_take, Nat.min_eq_left hmw]
  have hl2 : ((ms.drop off).take (m * w)).length = m * w := by
    rw [← e, List.length_take, hl]; omega
  rw [e]
  exact run_cells hb hl2

theorem elems_ok {w : Nat} {h : HS} {y : AV} {k : Nat → List AV → Ans} (hk : elems w h y k = true) : ∃ m ys, k m ys = true ∧ ∀ (W0 : WX) (r : Gh) (W : World) (x : Value), Rel W0 r h W → RV r y x → ∃ news, RL r ys news ∧ Fl ys ∧ SrcV w x m news W := by
  unfold elems at hk
  rw [brec] at hk
  split at hk
  · rename_i h5
    refine ⟨_, _, hk, fun W0 r W x hR hx => ⟨[], .nil, .nil, ?_⟩⟩
    rw [hx.ns (beq_tt.1 h5)]
    exact ⟨fun _ => rfl, fun m hm => by simp [Builtin.firstCells], fun m hm => by simp [Builtin.firstCells], by simp⟩
  · rw [brec] at hk
    split at hk
    · rename_i h6
      have h6 := beq_tt.1 h6
      obtain ⟨cs, hk, hlen, hrd⟩ := rd_ok hk
      refine ⟨_, _, hk, fun W0 r W x hR hx => ?_⟩
      obtain ⟨b, c, o, mm, rfl, hr, hu, ho, _⟩ := hx.sl h6
      obtain ⟨hf, ms, el, fz, hb, hl⟩ := hrd W0 r W b c hR hr
      have hl : RL r cs ((ms.drop y.f.r).take (y.f.u * w)) := hl
      have hl2 : ((ms.drop y.f.r).take (y.f.u * w)).length = y.f.u * w := by rw [← hl.len]; exact hlen
      refine ⟨_, hl, hf, fun _ => rfl, fun m hm => ?_, fun m hm => ?_, hl2⟩
      · rcases ho with rfl | ho
        · exact run_first hb hl2 hm
        · have e1 : m = 0 := by omega
          subst e1
          simp [Builtin.firstCells, loadCells, loadCellsFrom]
      · rcases ho with rfl | ho
        · exact run_first (W := W.drew) hb hl2 hm
        · have e1 : m = 0 := by omega
          subst e1
          simp [Builtin.firstCells, loadCells, loadCellsFrom]
    · rw [tg_eq, andB_eq, beq_tt, forceN_eq, lenL_eq] at hk
      obtain ⟨h2, hw, hk⟩ := hk
      subst hw
      refine ⟨_, _, hk, fun W0 r W x hR hx => ?_⟩
      obtain ⟨q, rfl, hq⟩ := hx.s h2
      have hl : y.s.length = q.size := by rw [hq]; exact nums_len q
      have hex : ∀ m, ((q.extract 0 m).data.map fun b => Value.int .u8 b.toNat) = ((q.data.toList.map fun b => Value.int .u8 b.toNat).take (m * 1)).toArray := by
        intro m
        apply Array.ext'
        rw [Array.toList_map, ByteArray.data_extract, Array.toList_extract, List.extract_eq_take_drop]
        simp [List.map_take]
      refine ⟨q.data.toList.map fun b => Value.int .u8 b.toNat, by rw [hq]; exact bytesA_ok r _, bytesA_fl _, fun _ => by rw [hl]; rfl, fun m hm => ?_, fun m hm => ?_, ?_⟩
      · simp only [Builtin.firstCells, Sem.run_pure, hex]
      · simp only [Builtin.firstCells, Sem.run_pure, hex]
      · rw [List.length_map, Nat.mul_one, hl]
        exact Array.length_toList

/-! ### A new row -/
theorem isSrc_ok {d : TypeDesc} (h : isSrc d = true) : (∃ e, d = .slice e) ∨ d = .string := by
  cases d <;> first | exact .inl ⟨_, rfl⟩ | exact .inr rfl | cases h
theorem grow_run {t tx ty el : TypeId} {d : TypeDesc} {ti : TypeInfo} {zv : Value} {w' : Nat} (ht : P.underlying t = some (.slice el)) (hu : P.underlying tx = some d) (hd : isSrc d = true) (hi : P.info? el = some ti) (hz : ti.zero = some zv) (hw : ti.size = w')
    {W : World} {base : Option Addr} {u cap n : Nat} {x : Value} {olds news : List Value} (hold : (Builtin.firstCells w' u (.slice base u cap)).run P W.drew = .ok olds.toArray W.drew) (hs : SrcV w' x n news W)
    (hg : cap < u + n) (hby : (u + n) * ti.bytes ≤ 140737488355328) (h63 : u + n ≤ 140737488355328) :
    (Builtin.append_ #[t, tx] ty #[.slice base u cap, x]).run P W = .ok (.slice (some ⟨W.heap.size, 0, none⟩) (u + n) (grownCap W (u + n) cap el))
      (W.drew.alloc (.cells ((olds ++ news).toArray ++ Builtin.zeroCells zv.cells (grownCap W (u + n) cap el - (u + n))) el)) := by
  have hn : ¬ (u + n ≤ cap) := by omega
  have h63' : ¬ (9223372036854775807 < ((u : Int) + (n : Int))) := by omega
  have h48' : ¬ (281474976710656 < Builtin.nextslicecap (u + n) cap * ti.bytes) := by
    have := growslice_fits hg hby
    omega
  have hc := hs.cellsD n (Nat.le_refl n)
  have e : news.take (n * w') = news := List.take_of_length_le (by rw [hs.newsLen]; exact Nat.le_refl _)
  rw [e] at hc
  subst hw
  rcases isSrc_ok hd with ⟨e', rfl⟩ | rfl <;>
    (simp [Builtin.append_, run_underlying ht, run_underlying hu, sizeOf, typeInfo, zeroValue, hi, hz, hs.len, hn, h63', h48', Question.forced, hc, hold, newRow, grownCap]
     congr 2
     apply Array.ext'
     simp [List.append_assoc])
theorem room_run {t tx ty el : TypeId} {d : TypeDesc} {ti : TypeInfo} {w' : Nat} (ht : P.underlying t = some (.slice el)) (hu : P.underlying tx = some d) (hd : isSrc d = true) (hi : P.info? el = some ti) (hw : ti.size = w')
    {W : World} {b off u cap n : Nat} {x : Value} {m news : List Value} {et : TypeId} {fz : Nat × Nat} (hs : SrcV w' x n news W) (hroom : u + n ≤ cap) (hb : W.heap[b]? = some (.cells ⟨m⟩ et fz)) (hz : fz.2 = 0 ∨ m.length ≤ fz.1)
    (hl : off + u * w' + news.length ≤ m.length) (h1 : ∀ x ∈ news, x.oneCell' = true) :
    (Builtin.append_ #[t, tx] ty #[.slice (some ⟨b, off, none⟩) u cap, x]).run P W = .ok (.slice (some ⟨b, off, none⟩) (u + n) cap) (W.setRow b ⟨m.take (off + u * w') ++ news ++ m.drop (off + u * w' + news.length)⟩) := by
  have hc := hs.cells n (Nat.le_refl n)
  have e : news.take (n * w') = news := List.take_of_length_le (by rw [hs.newsLen]; exact Nat.le_refl _)
  rw [e] at hc
  have hst := run_put hb hz hl h1
  subst hw
  rcases isSrc_ok hd with ⟨e', rfl⟩ | rfl <;> simp [Builtin.append_, run_underlying ht, run_underlying hu, sizeOf, typeInfo, hi, hs.len, hroom, hc, Addr.add_lit, hst]
theorem none_run {t tx ty el : TypeId} {d : TypeDesc} {ti : TypeInfo} {w' : Nat} (ht : P.underlying t = some (.slice el)) (hu : P.underlying tx = some d) (hd : isSrc d = true) (hi : P.info? el = some ti) (hw : ti.size = w')
    {W : World} {base : Option Addr} {u cap : Nat} {x : Value} {news : List Value} (hs : SrcV w' x 0 news W) (hle : u ≤ cap) :
    (Builtin.append_ #[t, tx] ty #[.slice base u cap, x]).run P W = .ok (.slice base u cap) W := by
  have hc := hs.cells 0 (Nat.le_refl 0)
  rw [Nat.zero_mul, List.take_zero] at hc
  subst hw
  rcases isSrc_ok hd with ⟨e', rfl⟩ | rfl <;> cases base <;> simp [Builtin.append_, run_underlying ht, run_underlying hu, sizeOf, typeInfo, hi, hs.len, hle, hc, storeCells]

theorem grow_ok {w' by_ need : Nat} {c : List AV} {h : HS} {k : K} (hk : grow w' by_ need c h k = true) : need * by_ ≤ 140737488355328 ∧ need ≤ 140737488355328 ∧ ∃ i h', k (aSl i 0 0 need 1 0) h' = true ∧
    ∀ (W0 : WX) (r : Gh) (W : World) (cs zs : List Value) (el : TypeId) (cap : Nat), Rel W0 r h W → RL r c cs → Fl c → cs.length = need * w' → need ≤ cap → zs.length = (cap - need) * w' →
      ∃ r', Gh.le r r' ∧ RV r' (aSl i 0 0 need 1 0) (.slice (some ⟨W.heap.size, 0, none⟩) need cap) ∧ Rel W0 r' h' (W.drew.alloc (.cells ⟨cs ++ zs⟩ el)) := by
  unfold grow at hk
  rw [forceN_eq, andB_eq, andB_eq, ble_tt, ble_tt] at hk
  obtain ⟨h1, h2, hk⟩ := hk
  obtain ⟨i, h', hk, hn⟩ := new_ok hk
  refine ⟨h1, h2, i, h', hk, fun W0 r W cs zs el cap hR hc hf hl hcap hz => ?_⟩
  have hlen := hc.len
  obtain ⟨r', k1, k2, k3⟩ := hn W0 r W.drew (.cells ⟨cs ++ zs⟩ el) cap hR.drew hf fun r' hle => by
    refine .grow (m := cs ++ zs) rfl (Nat.le_refl _) (M.heap_alloc_new' W.drew _) (.inl rfl) ?_ (fun _ => ⟨?_, ?_⟩) (fun hh => by cases hh)
    · rw [List.length_append, hl, hz, ← Nat.add_mul]
      show (need + (cap - need)) * w' = cap * w'
      congr 1; omega
    · show c.length ≤ _
      rw [List.length_append]; omega
    · show RL r' c (List.take c.length (cs ++ zs))
      rw [hlen, List.take_left]
      exact hc.mono hle
  exact ⟨r', k1, .slO (v := aSl i 0 0 need 1 0) rfl rfl (Nat.add_zero _) k2 hcap (.inl rfl), k3⟩

theorem zlen {z : AV} {zv : Value} {r : Gh} {w' : Nat} (hz : RV r z zv) (hl : z.cells.length = w') (n : Nat) : (Builtin.zeroCells zv.cells n).toList.length = n * w' := by
  rw [Array.length_toList, size_zeroCells]
  have h1 := hz.cells.len
  have h2 : zv.cells.toList.length = zv.cells.size := Array.length_toList
  congr 1; omega

/-! ### A list that grows as it lies -/
theorem appO_ok {w' by_ m : Nat} {f : RF} {ys : List AV} {h : HS} {k : K} (hk : appO w' by_ f m ys h k = true) : f.r = 0 ∧ f.w = 0 ∧ (f.u + m) * by_ ≤ 140737488355328 ∧ f.u + m ≤ 140737488355328 ∧ ∃ h', k (aSl f.p (f.q + 1) 0 (f.u + m) 1 0) h' = true ∧
    ∀ (W0 : WX) (r : Gh) (W : World) (b c : Nat) (news : List Value), Rel W0 r h W → r f.p f.q = some (b, c) → RL r ys news → Fl ys → news.length = m * w' →
      ∃ ms el fz, W.heap[b]? = some (.cells ⟨ms⟩ el fz) ∧ (fz.2 = 0 ∨ ms.length ≤ fz.1) ∧ ms.length = c * w' ∧ f.u * w' ≤ ms.length ∧
        (f.u + m ≤ c → ∃ r', Gh.le r r' ∧ r' f.p (f.q + 1) = some (b, c) ∧ Rel W0 r' h' (W.setRow b ⟨ms.take (f.u * w') ++ news ++ ms.drop (f.u * w' + news.length)⟩)) ∧
        (∀ (zs : List Value) (el' : TypeId) (cap : Nat), f.u + m ≤ cap → zs.length = (cap - (f.u + m)) * w' → ∃ r', Gh.le r r' ∧ r' f.p (f.q + 1) = some (W.heap.size, cap) ∧ Rel W0 r' h' (W.drew.alloc (.cells ⟨ms.take (f.u * w') ++ news ++ zs⟩ el'))) := by
  unfold appO at hk
  simp only [] at hk
  generalize ho : h.get f.p = o at hk
  rw [andB_eq, andB_eq, andB_eq, andB_eq, andB_eq, beq_tt, beq_tt, beq_tt, beq_tt, beq_tt, lenL_eq, getN_eq] at hk
  obtain ⟨h1, h2, h3, h4, h5, e0, he0, hk⟩ := hk
  rw [andB_eq, ble_tt, forceN_eq, andB_eq, andB_eq, ble_tt, ble_tt, forceN_eq, appL_eq] at hk
  obtain ⟨h6, h7, h8, hk⟩ := hk
  have h4 : f.r + f.w = 0 := h4
  have h5 : f.u * w' = o.c.length := h5
  have h6 : e0 ≤ f.u * w' := h6
  have h7 : (f.u + m) * by_ ≤ 140737488355328 := h7
  have hk : k (aSl f.p (f.q + 1) 0 (f.u + m) 1 0) (h.put f.p ⟨2, o.c ++ ys, f.q + 1, w', o.st, (f.u + m) * w' :: o.ex, []⟩) = true := by rw [h3]; exact hk
  refine ⟨by omega, by omega, h7, h8, _, hk, fun W0 r W b c news hR hr hy hfy hnl => ?_⟩
  have hd := hR.dom _ _ _ hr
  have hnx := hR.nx
  have hid : f.p < 32768 := by omega
  have hB := hR.blk _ _ _ hr
  have hf := hR.fl _ _ _ hr
  rw [ho] at hB hf
  have hylen := hy.len
  cases hB with
  | row a1 => omega
  | map a1 => omega
  | it0 a1 => omega
  | itM a1 => omega
  | grow a1 a2 a3 a4 a5 a6 a7 =>
    rename_i ms el fz
    obtain ⟨b1, b2⟩ := a6 h3
    have hnone : r f.p (f.q + 1) = none := by
      cases hc : r f.p (f.q + 1) with
      | none => rfl
      | some x =>
        have hB := hR.blk _ _ _ hc
        rw [ho] at hB
        cases hB with
        | grow k1 k2 => omega
        | row k1 => omega
        | map k1 => omega
        | it0 k1 => omega
        | itM k1 => omega
    refine ⟨ms, el, fz, a3, a4, by rw [a5, h2], by omega, fun hroom => ?_, fun zs el' cap hcap hzl => ?_⟩
    · -- there is room
      let r' : Gh := ⟨fun j g => if j = f.p ∧ g = f.q + 1 then some (b, c) else r j g, r.x⟩
      have hle : Gh.le r r' := by
        refine ⟨?_, rfl⟩
        intro j g x hx
        show (if j = f.p ∧ g = f.q + 1 then some (b, c) else r j g) = _
        rw [if_neg (fun e => by rw [e.1, e.2, hnone] at hx; cases hx)]; exact hx
      have hr' : r' f.p (f.q + 1) = some (b, c) := by show (if _ then _ else _) = _; rw [if_pos ⟨rfl, rfl⟩]
      have hmul : (f.u + m) * w' ≤ c * w' := Nat.mul_le_mul_right _ hroom
      rw [Nat.add_mul] at hmul
      have hfit : f.u * w' + news.length ≤ ms.length := by rw [a5, h2, hnl]; exact hmul
      have hml : (ms.take (f.u * w') ++ news ++ ms.drop (f.u * w' + news.length)).length = ms.length := by simp; omega
      have hnew : W.setRow b ⟨ms.take (f.u * w') ++ news ++ ms.drop (f.u * w' + news.length)⟩ = W.setRow b ⟨ms.take (f.u * w') ++ news ++ ms.drop (f.u * w' + news.length)⟩ := rfl
      have hpre : ∀ n, n ≤ o.c.length → (ms.take (f.u * w') ++ news ++ ms.drop (f.u * w' + news.length)).take n = ms.take n := by
        intro n hn
        rw [List.append_assoc, List.take_append_of_le_length (by simp; omega), List.take_take, Nat.min_eq_left (by omega)]
      have hfull : (ms.take (f.u * w') ++ news ++ ms.drop (f.u * w' + news.length)).take (o.c.length + ys.length) = ms.take o.c.length ++ news := by
        rw [List.take_append_of_le_length (by simp; omega), List.take_of_length_le (by simp; omega), ← h5]
      refine ⟨r', hle, hr', hR.upd (i := f.p) hid (fun j hj => get_put h f.p j _ hid hj) (Nat.le_refl _) hnx hd.1 hle ⟨rfl, rfl, rfl, by simp, ?_⟩ ?_ ?_ ?_ ?_ (hR.nopen hr)⟩
      · intro q hq
        have := hd.2.1
        exact setRow_other W b q _ (by simp only at this; omega)
      · intro b' _ hb'
        exact setRow_other W b b' _ (fun e => hb' f.q c (by rw [e]; exact hr))
      · intro j g x hx
        have hx : (if j = f.p ∧ g = f.q + 1 then some (b, c) else r j g) = some x := hx
        by_cases hc : j = f.p ∧ g = f.q + 1
        · rw [if_pos hc, Option.some.injEq] at hx
          subst hx
          exact .inr ⟨hc.1, hd.2.1, by simp; exact hd.2.2, .inr ⟨f.q, c, hr⟩⟩
        · rw [if_neg hc] at hx
          exact .inl hx
      · intro g x hx
        have hx : (if f.p = f.p ∧ g = f.q + 1 then some (b, c) else r f.p g) = some x := hx
        by_cases hg : g = f.q + 1
        · rw [if_pos ⟨rfl, hg⟩, Option.some.injEq] at hx
          subst hx; subst hg
          refine .grow (m := ms.take (f.u * w') ++ news ++ ms.drop (f.u * w' + news.length)) rfl (Nat.le_refl _) (setRow_heap W b _ _ el _ a3) (by rw [hml]; exact a4) (by rw [hml, a5, h2]) (fun _ => ⟨?_, ?_⟩) (fun hh => by simp at hh)
          · show (o.c ++ ys).length ≤ _
            rw [hml, List.length_append, hylen]; omega
          · show RL r' (o.c ++ ys) (List.take (o.c ++ ys).length _)
            rw [List.length_append, hfull]
            exact (b2.mono hle).app (hy.mono hle)
        · rw [if_neg (fun e => hg e.2)] at hx
          have hB' := hR.blk _ _ _ hx
          rw [ho] at hB'
          cases hB' with
          | row k1 => omega
          | map k1 => omega
          | it0 k1 => omega
          | itM k1 => omega
          | grow k1 k2 k3 k4 k5 k6 k7 =>
            rename_i ms' el2 fz2
            have old : ∀ (m2 : List Value), m2.length = ms'.length → (∀ n, n ≤ o.c.length → m2.take n = ms'.take n) → (W.setRow b ⟨ms.take (f.u * w') ++ news ++ ms.drop (f.u * w' + news.length)⟩).heap[x.1]? = some (.cells ⟨m2⟩ el2 fz2) →
                Blk r' ⟨2, o.c ++ ys, f.q + 1, w', o.st, (f.u + m) * w' :: o.ex, []⟩ g x.1 x.2 (W.setRow b ⟨ms.take (f.u * w') ++ news ++ ms.drop (f.u * w' + news.length)⟩) := by
              intro m2 hl2 hp2 hh
              refine .grow (m := m2) rfl (by show g ≤ f.q + 1; omega) hh (by rw [hl2]; exact k4) (by rw [hl2, k5, h2]) (fun e => absurd e hg) (fun hlt hst n hn => ?_)
              have hst : o.st ≤ g := hst
              have hn : ((f.u + m) * w' :: o.ex)[f.q + 1 - g]? = some n := hn
              show n ≤ (o.c ++ ys).length ∧ n ≤ m2.length ∧ RL r' (List.take n (o.c ++ ys)) (List.take n m2)
              have hgq : g ≤ f.q := by omega
              rw [show f.q + 1 - g = (f.q - g) + 1 by omega, List.getElem?_cons_succ] at hn
              rcases Nat.lt_or_ge g f.q with h9 | h9
              · obtain ⟨p1, p2, p3⟩ := k7 (by omega) hst n (by rw [← h3]; exact hn)
                refine ⟨by rw [List.length_append]; omega, by omega, ?_⟩
                rw [List.take_append_of_le_length p1, hp2 n p1]
                exact p3.mono hle
              · have hgg : g = f.q := by omega
                subst hgg
                rw [Nat.sub_self, he0, Option.some.injEq] at hn
                subst hn
                obtain ⟨p1, p2⟩ := k6 h3
                have h6' : e0 ≤ o.c.length := by omega
                refine ⟨by rw [List.length_append]; omega, by omega, ?_⟩
                rw [List.take_append_of_le_length h6', hp2 _ h6']
                have := (p2.take e0).mono hle
                rwa [List.take_take, Nat.min_eq_left h6'] at this
            by_cases hxb : x.1 = b
            · rw [hxb] at k3 old ⊢
              rw [a3] at k3
              simp only [Option.some.injEq, Obj.cells.injEq, Array.mk.injEq] at k3
              obtain ⟨e1, e2, e3⟩ := k3
              subst e1; subst e2; subst e3
              exact old _ hml hpre (setRow_heap W b _ _ _ _ a3)
            · exact old ms' rfl (fun _ _ => rfl) ((setRow_other W b x.1 _ hxb).trans k3)
      · exact hf.app hfy
    · -- a new row
      let r' : Gh := ⟨fun j g => if j = f.p ∧ g = f.q + 1 then some (W.heap.size, cap) else r j g, r.x⟩
      have hle : Gh.le r r' := by
        refine ⟨?_, rfl⟩
        intro j g x hx
        show (if j = f.p ∧ g = f.q + 1 then some (W.heap.size, cap) else r j g) = _
        rw [if_neg (fun e => by rw [e.1, e.2, hnone] at hx; cases hx)]; exact hx
      have hr' : r' f.p (f.q + 1) = some (W.heap.size, cap) := by show (if _ then _ else _) = _; rw [if_pos ⟨rfl, rfl⟩]
      have hB0 := hR.below.size
      have hsz : (W.drew.alloc (.cells ⟨ms.take (f.u * w') ++ news ++ zs⟩ el')).heap.size = W.heap.size + 1 := Array.size_push ..
      have hheap : ∀ q, q < W.heap.size → (W.drew.alloc (.cells ⟨ms.take (f.u * w') ++ news ++ zs⟩ el')).heap[q]? = W.heap[q]? := fun q hq => Below.heap_alloc W.drew _ q hq
      have htk : (ms.take (f.u * w')).length = f.u * w' := by simp; omega
      refine ⟨r', hle, hr', hR.upd (i := f.p) hid (fun j hj => get_put h f.p j _ hid hj) (Nat.le_refl _) hnx hd.1 hle ?_ ?_ ?_ ?_ ?_ (hR.nopen hr)⟩
      · exact ((Below.refl W0.w.heap.size W).drew).alloc hB0 _
      · intro b' hb' _
        exact hheap b' hb'
      · intro j g x hx
        have hx : (if j = f.p ∧ g = f.q + 1 then some (W.heap.size, cap) else r j g) = some x := hx
        by_cases hc : j = f.p ∧ g = f.q + 1
        · rw [if_pos hc, Option.some.injEq] at hx
          subst hx
          exact .inr ⟨hc.1, hB0, by simp only; omega, .inl (Nat.le_refl _)⟩
        · rw [if_neg hc] at hx
          exact .inl hx
      · intro g x hx
        have hx : (if f.p = f.p ∧ g = f.q + 1 then some (W.heap.size, cap) else r f.p g) = some x := hx
        by_cases hg : g = f.q + 1
        · rw [if_pos ⟨rfl, hg⟩, Option.some.injEq] at hx
          subst hx; subst hg
          have hnewl : (ms.take (f.u * w') ++ news ++ zs).length = cap * w' := by
            rw [List.length_append, List.length_append, htk, hnl, hzl, ← Nat.add_mul, ← Nat.add_mul]
            congr 1; omega
          refine .grow (m := ms.take (f.u * w') ++ news ++ zs) rfl (Nat.le_refl _) (M.heap_alloc_new' W.drew _) (.inl rfl) hnewl (fun _ => ⟨?_, ?_⟩) (fun hh => by simp at hh)
          · show (o.c ++ ys).length ≤ _
            rw [List.length_append, List.length_append, List.length_append, hylen]; omega
          · show RL r' (o.c ++ ys) (List.take (o.c ++ ys).length _)
            rw [List.length_append, List.take_append_of_le_length (by simp; omega), List.take_of_length_le (by simp; omega), h5]
            exact (b2.mono hle).app (hy.mono hle)
        · rw [if_neg (fun e => hg e.2)] at hx
          have hB' := hR.blk _ _ _ hx
          have hxd := hR.dom _ _ _ hx
          rw [ho] at hB'
          cases hB' with
          | row k1 => omega
          | map k1 => omega
          | it0 k1 => omega
          | itM k1 => omega
          | grow k1 k2 k3 k4 k5 k6 k7 =>
            rename_i ms' el2 fz2
            refine .grow (m := ms') rfl (by show g ≤ f.q + 1; omega) ((hheap _ hxd.2.2).trans k3) k4 (by rw [k5, h2]) (fun e => absurd e hg) (fun hlt hst n hn => ?_)
            have hst : o.st ≤ g := hst
            have hn : ((f.u + m) * w' :: o.ex)[f.q + 1 - g]? = some n := hn
            show n ≤ (o.c ++ ys).length ∧ n ≤ ms'.length ∧ RL r' (List.take n (o.c ++ ys)) (List.take n ms')
            have hgq : g ≤ f.q := by omega
            rw [show f.q + 1 - g = (f.q - g) + 1 by omega, List.getElem?_cons_succ] at hn
            rcases Nat.lt_or_ge g f.q with h9 | h9
            · obtain ⟨p1, p2, p3⟩ := k7 (by omega) hst n (by rw [← h3]; exact hn)
              refine ⟨by rw [List.length_append]; omega, by omega, ?_⟩
              rw [List.take_append_of_le_length p1]
              exact p3.mono hle
            · have hgg : g = f.q := by omega
              subst hgg
              rw [Nat.sub_self, he0, Option.some.injEq] at hn
              subst hn
              obtain ⟨p1, p2⟩ := k6 h3
              have h6' : e0 ≤ o.c.length := by omega
              refine ⟨by rw [List.length_append]; omega, by omega, ?_⟩
              rw [List.take_append_of_le_length h6']
              have := (p2.take e0).mono hle
              rwa [List.take_take, Nat.min_eq_left h6'] at this
      · exact hf.app hfy
end Go.Proofs.YtefppgdfcnediaaGreat.X

/- Own executor, part 24: appends, copies, what is cleared. -/
set_option linter.unusedVariables false
set_option linter.unusedSimpArgs false
set_option maxRecDepth 100000
namespace Go.Proofs.YtefppgdfcnediaaGreat.X
open Go Go.RowKit

theorem alloc_eq (W : World) (olds news : List Value) (Z : Array Value) (el : TypeId) : W.drew.alloc (.cells ((olds ++ news).toArray ++ Z) el) = W.drew.alloc (.cells ⟨olds ++ news ++ Z.toList⟩ el) := by
  congr 2
  apply Array.ext'
  simp

theorem sat_app {t tx ty el : TypeId} {d : TypeDesc} {w' by_ : Nat} {z : AV} (ht : undA t = some (.slice el)) (hu : undA tx = some d) (hd : isSrc d = true) (hw : szT el = some w') (hb : byT el = some by_) (hz : zrT el = some z) (hlen : z.cells.length = w') :
    Sat2 (g_app w' by_) fun x y => vv (Builtin.append_ #[t, tx] ty #[x, y]) := by
  obtain ⟨ti, zv, e1, e2, hz1, hz2⟩ := zrT_ok hz
  obtain ⟨ti', e3, e4⟩ := szT_ok hw
  obtain ⟨ti'', e5, e6⟩ := byT_ok hb
  rw [e1, Option.some.injEq] at e3 e5
  subst e3; subst e5
  intro v u h k hk
  unfold g_app at hk
  obtain ⟨m, ys, hk, hs⟩ := elems_ok hk
  rw [brec] at hk
  split at hk
  · rename_i hm
    have hm := beq_tt.1 hm
    subst hm
    rw [brec] at hk
    split at hk
    · rename_i h5
      refine ⟨_, h, hk, fun W0 r w x y hx hy hR => ?_⟩
      obtain ⟨news, n1, n2, n3⟩ := hs W0 r w y hR hy
      have hx0 := hx
      rw [hx.ns (beq_tt.1 h5)] at hx0 ⊢
      exact .val (none_run (undA_ok ht) (undA_ok hu) hd e1 e4 n3 (Nat.le_refl _)) hx0 hR
    · rw [tg_eq] at hk
      obtain ⟨h6, hk⟩ := hk
      refine ⟨_, h, hk, fun W0 r w x y hx hy hR => ?_⟩
      obtain ⟨news, n1, n2, n3⟩ := hs W0 r w y hR hy
      have hx0 := hx
      obtain ⟨b, c, o, mm, rfl, hr, hle, ho, hm⟩ := hx.sl h6
      exact .val (none_run (undA_ok ht) (undA_ok hu) hd e1 e4 n3 hle) hx0 hR
  · rename_i hm
    have hm : m ≠ 0 := fun e => hm (beq_tt.2 e)
    rw [brec] at hk
    split at hk
    · rename_i h5
      obtain ⟨g1, g2, i, h', hk, hg⟩ := grow_ok hk
      refine ⟨_, h', hk, fun W0 r w x y hx hy hR => ?_⟩
      obtain ⟨news, n1, n2, n3⟩ := hs W0 r w y hR hy
      rw [hx.ns (beq_tt.1 h5)]
      have hcap := grownCap_ge w (0 + m) 0 el
      obtain ⟨r', k1, k2, k3⟩ := hg W0 r w news (Builtin.zeroCells zv.cells (grownCap w (0 + m) 0 el - (0 + m))).toList el (grownCap w (0 + m) 0 el) hR n1 n2 n3.newsLen (by omega) (by rw [zlen (hz2 r) hlen]; congr 2; omega)
      have hrun := grow_run (ty := ty) (undA_ok ht) (undA_ok hu) hd e1 e2 e4 (W := w) (base := none) (u := 0) (cap := 0) (olds := []) (by simp [Builtin.firstCells]) n3 (by omega) (by rw [e6, Nat.zero_add]; exact g1) (by omega)
      rw [alloc_eq, List.nil_append] at hrun
      refine ⟨_, r', _, .inl (run_vv hrun), k1, ?_, k3⟩
      rw [Nat.zero_add] at k2 ⊢
      exact k2
    · rw [tg_eq, brec] at hk
      obtain ⟨h6, hk⟩ := hk
      split at hk
      · rename_i hc
        have hc := beq_tt.1 hc
        obtain ⟨o1, o2, o3, o4, h', hk, ho⟩ := appO_ok hk
        refine ⟨_, h', hk, fun W0 r w x y hx hy hR => ?_⟩
        obtain ⟨news, n1, n2, n3⟩ := hs W0 r w y hR hy
        obtain ⟨b, c, o, mm, rfl, hr, hle, hoo, hmm⟩ := hx.sl h6
        have hmm : mm = c := by rcases hmm with hmm | hmm <;> omega
        subst hmm
        obtain ⟨ms, el2, fz, q1, q2, q3, q4, q5, q6⟩ := ho W0 r w b mm news hR hr n1 n2 n3.newsLen
        by_cases hroom : v.f.u + m ≤ mm
        · have ho0 : o = 0 := by rcases hoo with e | e <;> omega
          subst ho0
          obtain ⟨r', k1, k2, k3⟩ := q5 hroom
          have hmul : (v.f.u + m) * w' ≤ mm * w' := Nat.mul_le_mul_right _ hroom
          rw [Nat.add_mul] at hmul
          have hrun := room_run (ty := ty) (undA_ok ht) (undA_ok hu) hd e1 e4 (off := 0) n3 hroom q1 q2 (by rw [n3.newsLen]; omega) (n1.ones n2)
          rw [Nat.zero_add] at hrun
          exact ⟨_, r', _, .inl (run_vv hrun), k1, .slO (v := aSl v.f.p (v.f.q + 1) 0 (v.f.u + m) 1 0) rfl rfl (Nat.add_zero _) k2 hroom (.inl rfl), k3⟩
        · have hcap := grownCap_ge w (v.f.u + m) mm el
          obtain ⟨r', k1, k2, k3⟩ := q6 (Builtin.zeroCells zv.cells (grownCap w (v.f.u + m) mm el - (v.f.u + m))).toList el (grownCap w (v.f.u + m) mm el) hcap (zlen (hz2 r) hlen _)
          have hold : (Builtin.firstCells w' v.f.u (.slice (some ⟨b, o, none⟩) v.f.u mm)).run P w.drew = .ok (ms.take (v.f.u * w')).toArray w.drew := by
            by_cases hu0 : v.f.u = 0
            · rw [hu0]; simp [Builtin.firstCells, loadCells, loadCellsFrom]
            · have ho0 : o = 0 := by rcases hoo with e | e <;> omega
              subst ho0
              exact run_cells (w := w.drew) (off := 0) q1 (by rw [List.drop_zero, List.length_take]; omega)
          have hrun := grow_run (ty := ty) (undA_ok ht) (undA_ok hu) hd e1 e2 e4 (W := w) hold n3 (by omega) (by rw [e6]; exact o3) o4
          rw [alloc_eq] at hrun
          exact ⟨_, r', _, .inl (run_vv hrun), k1, .slO (v := aSl v.f.p (v.f.q + 1) 0 (v.f.u + m) 1 0) rfl rfl (Nat.add_zero _) k2 hcap (.inl rfl), k3⟩
      · rename_i hc
        have hc : v.f.c ≠ 1 := fun e => hc (beq_tt.2 e)
        unfold appK at hk
        rw [brec] at hk
        split at hk
        · rename_i hroom
          have hroom : v.f.u + m ≤ v.f.w := ble_tt.1 hroom
          obtain ⟨h', hk, hwr⟩ := wr_ok hk
          rw [forceN_eq] at hk
          refine ⟨_, h', hk, fun W0 r w x y hx hy hR => ?_⟩
          obtain ⟨news, n1, n2, n3⟩ := hs W0 r w y hR hy
          obtain ⟨b, c, o, mm, rfl, hr, hle, hoo, hmm⟩ := hx.sl h6
          have hmm : v.f.c = 0 ∧ mm = v.f.w := by rcases hmm with hmm | hmm <;> omega
          obtain ⟨hc0, rfl⟩ := hmm
          have ho0 : o = v.f.r := by rcases hoo with e | e <;> omega
          subst ho0
          obtain ⟨ms, el2, fz, q1, q2, q3, q4⟩ := hwr W0 r w b c news hR hr n1 n2
          have q3 : v.f.r + v.f.u * w' + news.length ≤ ms.length := q3
          have hrun := room_run (ty := ty) (undA_ok ht) (undA_ok hu) hd e1 e4 (off := v.f.r) n3 hroom q1 q2 q3 (n1.ones n2)
          exact ⟨_, r, _, .inl (run_vv hrun), Gh.le_refl r, .slK (v := aSl v.f.p v.f.q v.f.r (v.f.u + m) 0 v.f.w) rfl rfl rfl hr hroom (.inl rfl), q4⟩
        · rename_i hroom
          have hroom : ¬ v.f.u + m ≤ v.f.w := fun e => hroom (ble_tt.2 e)
          obtain ⟨old, hk, hol, hrd⟩ := rd_ok hk
          obtain ⟨g1, g2, i, h', hk, hg⟩ := grow_ok hk
          rw [appL_eq] at hg
          refine ⟨_, h', hk, fun W0 r w x y hx hy hR => ?_⟩
          obtain ⟨news, n1, n2, n3⟩ := hs W0 r w y hR hy
          obtain ⟨b, c, o, mm, rfl, hr, hle, hoo, hmm⟩ := hx.sl h6
          have hmm : mm = v.f.w := by rcases hmm with hmm | hmm <;> omega
          subst hmm
          obtain ⟨hf, ms, el2, fz, q1, q2⟩ := hrd W0 r w b c hR hr
          have hol : old.length = v.f.u * w' := hol
          have q2 : RL r old ((ms.drop v.f.r).take (v.f.u * w')) := q2
          have hl2 : ((ms.drop v.f.r).take (v.f.u * w')).length = v.f.u * w' := by rw [← q2.len]; exact hol
          have hcap := grownCap_ge w (v.f.u + m) v.f.w el
          obtain ⟨r', k1, k2, k3⟩ := hg W0 r w (((ms.drop v.f.r).take (v.f.u * w')) ++ news) (Builtin.zeroCells zv.cells (grownCap w (v.f.u + m) v.f.w el - (v.f.u + m))).toList el (grownCap w (v.f.u + m) v.f.w el) hR (q2.app n1) (hf.app n2)
            (by rw [List.length_append, hl2, n3.newsLen, ← Nat.add_mul]; rfl) hcap (zlen (hz2 r) hlen _)
          have hold : (Builtin.firstCells w' v.f.u (.slice (some ⟨b, o, none⟩) v.f.u v.f.w)).run P w.drew = .ok ((ms.drop v.f.r).take (v.f.u * w')).toArray w.drew := by
            by_cases hu0 : v.f.u = 0
            · rw [hu0]; simp [Builtin.firstCells, loadCells, loadCellsFrom]
            · have ho0 : o = v.f.r := by rcases hoo with e | e <;> omega
              subst ho0
              exact run_cells (w := w.drew) q1 hl2
          have hrun := grow_run (ty := ty) (undA_ok ht) (undA_ok hu) hd e1 e2 e4 (W := w) hold n3 (by omega) (by rw [e6]; exact g1) g2
          rw [alloc_eq] at hrun
          exact ⟨_, r', _, .inl (run_vv hrun), k1, k2, k3⟩

theorem sat_copy {ts : Array TypeId} {t ty el : TypeId} {w' : Nat} (h0 : ts[0]? = some t) (ht : undA t = some (.slice el)) (hw : szT el = some w') : Sat2 (g_copy w') fun x y => vv (Builtin.copy_ ts ty #[x, y]) := by
  intro v u h k hk
  unfold g_copy at hk
  obtain ⟨m, ys, hk, hs⟩ := elems_ok hk
  rw [brec] at hk
  split at hk
  · rename_i h5
    refine ⟨_, h, hk, fun W0 r w x y hx hy hR => ?_⟩
    obtain ⟨news, n1, n2, n3⟩ := hs W0 r w y hR hy
    rw [hx.ns (beq_tt.1 h5)]
    have hc := n3.cells 0 (Nat.zero_le _)
    refine .val (y := .int .i64 (0 : Nat)) ?_ (.mkI _ _) hR
    have hm0 : Nat.min m 0 = 0 := Nat.min_zero m
    simp [Builtin.copy_, h0, run_underlying (undA_ok ht), n3.len, run_sz hw, hm0, hc, goInt]
  · rw [tg_eq, forceN_eq, takeN_eq] at hk
    obtain ⟨h6, hl, hk⟩ := hk
    obtain ⟨h', hk, hwr⟩ := wr_ok hk
    refine ⟨_, h', hk, fun W0 r w x y hx hy hR => ?_⟩
    obtain ⟨news, n1, n2, n3⟩ := hs W0 r w y hR hy
    obtain ⟨b, c, o, mm, rfl, hr, hle, hoo, hmm⟩ := hx.sl h6
    have hc := n3.cells (Nat.min m v.f.u) (Nat.min_le_left _ _)
    obtain ⟨ms, el2, fz, q1, q2, q3, q4⟩ := hwr W0 r w b c (news.take (Nat.min m v.f.u * w')) hR hr (n1.take _) (n2.take _)
    refine ⟨.int .i64 (Nat.min m v.f.u : Nat), r, _, .inl (run_vv ?_), Gh.le_refl r, .mkI _ _, q4⟩
    have hst : (storeCells ⟨b, o, none⟩ (news.take (Nat.min m v.f.u * w'))).run P w = .ok () (w.setRow b ⟨ms.take v.f.r ++ news.take (Nat.min m v.f.u * w') ++ ms.drop (v.f.r + (news.take (Nat.min m v.f.u * w')).length)⟩) := by
      by_cases ho0 : o = v.f.r
      · subst ho0
        exact run_put q1 q2 q3 ((n1.take _).ones (n2.take _))
      · have hu0 : v.f.u = 0 := by rcases hoo with e | e <;> omega
        have hm0 : Nat.min m v.f.u = 0 := by rw [hu0]; exact Nat.min_zero m
        rw [hm0, Nat.zero_mul, List.take_zero]
        simp only [List.append_nil, List.length_nil, Nat.add_zero, List.take_append_drop, storeCells, Sem.run_pure]
        rw [setRow_self w b _ el2 fz q1]
    simp [Builtin.copy_, h0, run_underlying (undA_ok ht), n3.len, run_sz hw, hc, hst, goInt]

theorem sat_clrL {ts : Array TypeId} {t ty el : TypeId} {z : AV} (h0 : ts[0]? = some t) (ht : undA t = some (.slice el)) (hz : zrT el = some z) : Sat1 (g_clrL z.cells) fun x => vv (Builtin.clear_ ts ty #[x]) := by
  intro v h k hk
  unfold g_clrL at hk
  rw [brec] at hk
  split at hk
  · rename_i h5
    refine ⟨_, h, hk, fun W0 r w x hx hR => ?_⟩
    rw [hx.ns (beq_tt.1 h5)]
    refine .val (y := undef) ?_ (.und r) hR
    simp [Builtin.clear_, h0, run_underlying (undA_ok ht)]
    rfl
  · rw [tg_eq, brec] at hk
    obtain ⟨h6, hk⟩ := hk
    split at hk
    · rename_i hu0
      have hu0 := beq_tt.1 hu0
      refine ⟨_, h, hk, fun W0 r w x hx hR => ?_⟩
      obtain ⟨b, c, o, mm, rfl, hr, hle, hoo, hmm⟩ := hx.sl h6
      refine .val (y := undef) ?_ (.und r) hR
      simp [Builtin.clear_, h0, run_underlying (undA_ok ht), hu0]
      rfl
    · rename_i hu0
      have hu0 : v.f.u ≠ 0 := fun e => hu0 (beq_tt.2 e)
      obtain ⟨h', hk, hwr⟩ := wr_ok hk
      refine ⟨_, h', hk, fun W0 r w x hx hR => ?_⟩
      obtain ⟨b, c, o, mm, rfl, hr, hle, hoo, hmm⟩ := hx.sl h6
      have ho0 : o = v.f.r := by rcases hoo with e | e <;> omega
      subst ho0
      obtain ⟨zv, hzr, hz1, hz2⟩ := run_zero hz
      have hrl : RL r (repL' v.f.u z.cells) (List.replicate v.f.u zv.cells.toList).flatten := by rw [repL'_eq]; exact (hz2 r).cells.rep _
      have hfl : Fl (repL' v.f.u z.cells) := by rw [repL'_eq]; exact (Fl.cells (hz2 r) hz1).rep _
      obtain ⟨ms, el2, fz, q1, q2, q3, q4⟩ := hwr W0 r w b c _ hR hr hrl hfl
      refine ⟨undef, r, _, .inl (run_vv ?_), Gh.le_refl r, .und r, q4⟩
      have hst := run_put q1 q2 q3 (hrl.ones hfl)
      have hzc : (Builtin.zeroCells zv.cells v.f.u).toList = (List.replicate v.f.u zv.cells.toList).flatten := zeros_eq zv.cells v.f.u
      rw [← hzc] at hst ⊢
      obtain ⟨n, hn⟩ : ∃ n, v.f.u = n + 1 := ⟨v.f.u - 1, by omega⟩
      rw [hn] at hst ⊢
      simp [Builtin.clear_, h0, run_underlying (undA_ok ht), hzr, hst]
      rfl
end Go.Proofs.YtefppgdfcnediaaGreat.X

/- Own executor, part 25: what is equal. -/
set_option linter.unusedVariables false
set_option linter.unusedSimpArgs false
set_option maxRecDepth 100000
namespace Go.Proofs.YtefppgdfcnediaaGreat.X
open Go Go.RowKit

/-- Two values are equal, or not, in the model. -/
def EqR (t : TypeId) (a a' : Value) (b : Bool) (w : World) : Prop :=
  (binOp .eql t a a').run P w = .ok (.bool b) w ∧ (binOp .neq t a a').run P w = .ok (.bool (!b)) w
def EqG (t : TypeId) (xo yo : Operand) (a a' : Value) (w : World) : Prop := ∀ op, (eqGuard op t xo yo a a').run P w = .ok () w

theorem eqN_ok {n m : Nat} {cst : Bool} {x y : AV} {c : Bool → Ans} {both : Ans} (hk : eqN n m cst x y c both = true) :
    (x.t = n ∧ y.t = n ∧ cst = true ∧ c true = true) ∨ (x.t = n ∧ y.t = m ∧ c false = true) ∨ (x.t = m ∧ y.t = n ∧ c false = true) ∨ (x.t = m ∧ y.t = m ∧ both = true) := by
  unfold eqN at hk
  rw [brec] at hk
  split at hk
  · rename_i h1
    rw [brec] at hk
    split at hk
    · rename_i h2
      cases cst with
      | false => cases hk
      | true => exact .inl ⟨beq_tt.1 h1, beq_tt.1 h2, rfl, hk⟩
    · rw [tg_eq] at hk
      exact .inr (.inl ⟨beq_tt.1 h1, hk.1, hk.2⟩)
  · rw [tg_eq, brec] at hk
    obtain ⟨h1, hk⟩ := hk
    split at hk
    · rename_i h2
      exact .inr (.inr (.inl ⟨h1, beq_tt.1 h2, hk⟩))
    · rw [tg_eq] at hk
      exact .inr (.inr (.inr ⟨h1, hk.1, hk.2⟩))

theorem eqP_ok {x y : AV} {h : HS} {c : Bool → Ans} (hx : x.t = 4) (hy : y.t = 4) (hk : eqP x y h c = true) : ∃ b, c b = true ∧ ∀ (W0 : WX) (r : Gh) (w : World) (p q : Addr), RV r x (.pointer (some p)) → RV r y (.pointer (some q)) → Rel W0 r h w → (sameAddr p q).run P w = .ok b w := by
  unfold eqP at hk
  rw [brec] at hk
  split at hk
  · rename_i h1
    have h1 := beq_tt.1 h1
    rw [brec] at hk
    split at hk
    · rename_i h2
      have h2 := beq_tt.1 h2
      refine ⟨_, hk, fun W0 r w p q hp hq hR => ?_⟩
      obtain ⟨b, cc, e1, r1⟩ := hp.p hx
      obtain ⟨b', cc', e2, r2⟩ := hq.p hy
      rw [h1, h2, r2] at r1
      simp only [Option.some.injEq, Prod.mk.injEq, Value.pointer.injEq] at r1 e1 e2
      obtain ⟨rfl, rfl⟩ := r1
      subst e1; subst e2
      have e : Nat.beq x.f.r y.f.r = decide (x.f.r = y.f.r) := by
        rw [Bool.eq_iff_iff, beq_tt, decide_eq_true_iff]
      rw [e]
      by_cases ho : x.f.r = y.f.r
      · simp [sameAddr, ho]
      · simp [sameAddr, ho]
    · cases hk
  · rename_i h1
    have h1 : x.f.p ≠ y.f.p := fun e => h1 (beq_tt.2 e)
    rw [andB_eq, andB_eq, beq_tt, beq_tt] at hk
    obtain ⟨h2, h3, hk⟩ := hk
    refine ⟨_, hk, fun W0 r w p q hp hq hR => ?_⟩
    obtain ⟨b, cc, e1, r1⟩ := hp.p hx
    obtain ⟨b', cc', e2, r2⟩ := hq.p hy
    simp only [Option.some.injEq, Value.pointer.injEq] at e1 e2
    subst e1; subst e2
    have hne : b ≠ b' := fun e => h1 (hR.inj _ _ _ _ _ _ r1 r2 e)
    have row : ∀ (i g b c : Nat), r i g = some (b, c) → (h.get i).t = 1 → ∃ m el, w.heap[b]? = some (.cells m el (0, 0)) := by
      intro i g b c hr ht
      have hB := hR.blk _ _ _ hr
      cases hB with
      | row a1 a2 a3 => exact ⟨_, _, a3⟩
      | grow a1 => omega
      | map a1 => omega
      | it0 a1 => omega
      | itM a1 => omega
    obtain ⟨m1, el1, k1⟩ := row _ _ _ _ r1 h2
    obtain ⟨m2, el2, k2⟩ := row _ _ _ _ r2 h3
    exact run_sameAddr_other w (fun e => hne (by simp at e; exact e.1)) k1 k2

theorem equal_key {ty : TypeId} {d : TypeDesc} {kt n : Nat} {u v : Value} {b : Bool} (hd : P.underlying ty = some d) (hk : KD d kt) (h : Instr.sameNow d u v = some b) (w : World) : (Op.equalIn (n + 1) ty u v).run P w = .ok b w := by
  rcases hk with ⟨⟨k, rfl⟩, _⟩ | ⟨rfl, _⟩ | ⟨rfl, _⟩
  · cases u <;> cases v <;> first | (simp [Instr.sameNow] at h; done) | skip
    rename_i k1 a k2 b'
    simp only [Instr.sameNow] at h
    split at h
    · rename_i e
      subst e
      simp only [Option.some.injEq] at h; subst h
      unfold Op.equalIn
      rw [M.run_und hd]
      simp
    · cases h
  · cases u <;> cases v <;> first | (simp [Instr.sameNow] at h; done) | skip
    simp only [Instr.sameNow, Option.some.injEq] at h; subst h
    unfold Op.equalIn
    rw [M.run_und hd]; rfl
  · cases u <;> cases v <;> first | (simp [Instr.sameNow] at h; done) | skip
    simp only [Instr.sameNow, Option.some.injEq] at h; subst h
    unfold Op.equalIn
    rw [M.run_und hd]; rfl

/-! ### Rows of keys -/
theorem key_ag {ty : TypeId} {kt : Nat} (h : keyT ty = some kt) (w : World) : (isAgg ty).run P w = .ok false w := by
  obtain ⟨d, hd, hk⟩ := keyT_ok h
  unfold isAgg
  rw [M.run_und hd]
  rcases hk with ⟨⟨k, rfl⟩, _⟩ | ⟨rfl, _⟩ | ⟨rfl, _⟩ <;> rfl
theorem eqL_ok : ∀ {fs : List Field} {i : Nat} {ks : List Nat} {xs ys : List AV} {c : Bool → Ans}, flF fs i = some ks → eqL ks xs ys c = true → ∃ b, c b = true ∧ ∀ (r : Gh) (X Y : List Value), RL r xs (X.drop i) → RL r ys (Y.drop i) → ∀ w n, (Op.eqFields (n + 1) ⟨X⟩ ⟨Y⟩ fs).run P w = .ok b w
  | [], i, ks, xs, ys, c, hf, hk => by
    have hf : some [] = some ks := hf
    simp only [Option.some.injEq] at hf; subst hf
    exact ⟨true, hk, fun r X Y _ _ w n => rfl⟩
  | f :: fs, i, ks, xs, ys, c, hf, hk => by
    have hf : (Bool.rec none (match keyT f.type, flF fs (Nat.succ i) with | some k, some l => some (k :: l) | _, _ => none) (anB (Nat.beq f.offset i) (Bool.rec true false (f.name == "_"))) : Option (List Nat)) = some ks := hf
    rw [brec] at hf
    split at hf
    · rename_i ha
      have ha : Nat.beq f.offset i = true ∧ (f.name == "_") = false := by
        unfold anB at ha
        cases h1 : Nat.beq f.offset i <;> cases h2 : f.name == "_" <;> rw [h1, h2] at ha <;> first | exact ⟨rfl, rfl⟩ | cases ha
      obtain ⟨ho, hn⟩ := ha
      have ho := beq_tt.1 ho
      have hn : f.name ≠ "_" := by simpa using hn
      split at hf
      · rename_i kt l hkt hl
        simp only [Option.some.injEq] at hf; subst hf
        cases xs with
        | nil => cases hk
        | cons x xs =>
          cases ys with
          | nil => cases hk
          | cons y ys =>
            have hk : tg x kt (eqK x y fun b => Bool.rec (c false) (eqL l xs ys c) b) = true := hk
            rw [tg_eq] at hk
            obtain ⟨h1, hk⟩ := hk
            obtain ⟨b, hb, he⟩ := eqK_ok hk
            obtain ⟨d, hd, hkd⟩ := keyT_ok hkt
            have one : ∀ (r : Gh) (X Y : List Value), RL r (x :: xs) (X.drop i) → RL r (y :: ys) (Y.drop i) → ∃ u v, X[i]? = some u ∧ Y[i]? = some v ∧ Instr.sameNow d u v = some b ∧ RL r xs (X.drop (i + 1)) ∧ RL r ys (Y.drop (i + 1)) := by
              intro r X Y hX hY
              have g1 : (X.drop i).drop 1 = X.drop (i + 1) := by rw [List.drop_drop]
              have g2 : (Y.drop i).drop 1 = Y.drop (i + 1) := by rw [List.drop_drop]
              have g3 : (X.drop i)[0]? = X[i]? := by rw [List.getElem?_drop]; rfl
              have g4 : (Y.drop i)[0]? = Y[i]? := by rw [List.getElem?_drop]; rfl
              generalize X.drop i = X' at hX g1 g3
              generalize Y.drop i = Y' at hY g2 g4
              cases hX with
              | cons a1 a2 => cases hY with
                | cons b1 b2 => exact ⟨_, _, g3.symm, g4.symm, (he d r _ _ (by rw [h1]; exact hkd) a1 b1).1, by rw [← g1]; exact a2, by rw [← g2]; exact b2⟩
            have prt : ∀ (X : List Value) (u : Value) (w : World), X[i]? = some u → (part f.type ⟨X⟩ f.offset).run P w = .ok u w := by
              intro X u w hu
              rw [ho]
              simp [part, key_ag hkt, hu]
            cases b with
            | false =>
              refine ⟨false, hb, fun r X Y hX hY w n => ?_⟩
              obtain ⟨u, v, q1, q2, q3, _⟩ := one r X Y hX hY
              unfold Op.eqFields
              simp [hn, prt X u w q1, prt Y v w q2, equal_key hd hkd q3]
            | true =>
              have hb : eqL l xs ys c = true := hb
              obtain ⟨b', hb', hrest⟩ := eqL_ok hl hb
              refine ⟨b', hb', fun r X Y hX hY w n => ?_⟩
              obtain ⟨u, v, q1, q2, q3, q4, q5⟩ := one r X Y hX hY
              unfold Op.eqFields
              simp [hn, prt X u w q1, prt Y v w q2, equal_key hd hkd q3, hrest r X Y q4 q5 w n]
      · cases hf
    · cases hf

theorem EqR.mk {t : TypeId} {a a' : Value} {b : Bool} {w : World} (h : (Op.equal t a a').run P w = .ok b w) (h1 : binOp .eql t a a' = (do pure (.bool (← Op.equal t a a')))) (h2 : binOp .neq t a a' = (do pure (.bool (!(← Op.equal t a a'))))) : EqR t a a' b w := by
  refine ⟨?_, ?_⟩
  · rw [h1]; simp [h]
  · rw [h2]; simp [h]

theorem cst_or {xo yo : Operand} (h : orB (isC xo) (isC yo) = true) : (∃ v, xo = .const v) ∨ (∃ v, yo = .const v) := by
  unfold orB at h
  cases xo with
  | const v => exact .inl ⟨v, rfl⟩
  | _ => cases yo with
    | const v => exact .inr ⟨v, rfl⟩
    | _ => cases h
def EqOut (t : TypeId) (xo yo : Operand) (x y : AV) (h : HS) (c : Bool → Ans) : Prop :=
  ∃ b, c b = true ∧ ∀ (W0 : WX) (r : Gh) (w : World) (a a' : Value), RV r x a → RV r y a' → Rel W0 r h w → EqG t xo yo a a' w ∧ EqR t a a' b w
theorem eq_guard {t : TypeId} {xo yo : Operand} (a a' : Value) (w : World) (h1 : ∀ l l', a = .agg l → a' = .agg l' → False) (h2 : a = .nilIface → a' = .nilIface → False) : EqG t xo yo a a' w := by
  intro op
  cases op <;> simp only [eqGuard] <;> first
    | rfl
    | (simp only [Bool.not_true, Bool.false_eq_true, if_false]
       split
       · exact (h2 rfl rfl).elim
       · exact (h1 _ _ rfl rfl).elim
       · rfl)
theorem eq1000 (t : TypeId) (a a' : Value) : Op.equal t a a' = Op.equalIn (9999 + 1) t a a' := rfl
theorem eqD_bool {t : TypeId} {xo yo : Operand} {f : AV → AV → HS → (Bool → Ans) → Ans} (ht : undA t = some .bool) (hf : eqD .bool (orB (isC xo) (isC yo)) (szP .bool) (flT t .bool) = some f) {x y : AV} {h : HS} {c : Bool → Ans} (hk : f x y h c = true) : EqOut t xo yo x y h c := by
  have hu := undA_ok ht
  have hf : some (fun (x y : AV) (_ : HS) (c : Bool → Ans) => tg x 1 (tg y 1 (c (bEq x.b y.b)))) = some f := hf
  simp only [Option.some.injEq] at hf; subst hf
  rw [tg_eq, tg_eq] at hk
  refine ⟨_, hk.2.2, fun W0 r w a a' ha ha' hR => ?_⟩
  rw [ha.b hk.1, ha'.b hk.2.1]
  refine ⟨eq_guard _ _ w (by intro _ _ h; cases h) (by intro h; cases h), EqR.mk ?_ rfl rfl⟩
  rw [eq1000]
  have : bEq x.b y.b = (x.b == y.b) := by cases x.b <;> cases y.b <;> rfl
  unfold Op.equalIn
  rw [M.run_und hu, this]; rfl
theorem eqD_ptr {t : TypeId} {e : TypeId} {xo yo : Operand} {f : AV → AV → HS → (Bool → Ans) → Ans} (ht : undA t = some (.pointer e)) (hf : eqD (.pointer e) (orB (isC xo) (isC yo)) (szP (.pointer e)) (flT t (.pointer e)) = some f) {x y : AV} {h : HS} {c : Bool → Ans} (hk : f x y h c = true) : EqOut t xo yo x y h c := by
  have hu := undA_ok ht
  have hf : some (fun (x y : AV) (h : HS) (c : Bool → Ans) => eqN 3 4 true x y c (Bool.rec bad (eqP x y h c) (szP (.pointer e)))) = some f := hf
  simp only [Option.some.injEq] at hf; subst hf
  rcases eqN_ok hk with ⟨h1, h2, _, hc⟩ | ⟨h1, h2, hc⟩ | ⟨h1, h2, hc⟩ | ⟨h1, h2, hc⟩
  · refine ⟨_, hc, fun W0 r w a a' ha ha' hR => ?_⟩
    rw [ha.np h1, ha'.np h2]
    refine ⟨eq_guard _ _ w (by intro _ _ h; cases h) (by intro h; cases h), EqR.mk ?_ rfl rfl⟩
    rw [eq1000]; unfold Op.equalIn; rw [M.run_und hu]; rfl
  · refine ⟨_, hc, fun W0 r w a a' ha ha' hR => ?_⟩
    obtain ⟨b, cc, rfl, _⟩ := ha'.p h2
    rw [ha.np h1]
    refine ⟨eq_guard _ _ w (by intro _ _ h; cases h) (by intro h; cases h), EqR.mk ?_ rfl rfl⟩
    rw [eq1000]; unfold Op.equalIn; rw [M.run_und hu]; rfl
  · refine ⟨_, hc, fun W0 r w a a' ha ha' hR => ?_⟩
    obtain ⟨b, cc, rfl, _⟩ := ha.p h1
    rw [ha'.np h2]
    refine ⟨eq_guard _ _ w (by intro _ _ h; cases h) (by intro h; cases h), EqR.mk ?_ rfl rfl⟩
    rw [eq1000]; unfold Op.equalIn; rw [M.run_und hu]; rfl
  · cases hs : szP (.pointer e) with
    | false => rw [hs] at hc; cases hc
    | true =>
      rw [hs] at hc
      obtain ⟨b, hb, hsame⟩ := eqP_ok h1 h2 hc
      refine ⟨b, hb, fun W0 r w a a' ha ha' hR => ?_⟩
      have ha0 := ha
      have ha0' := ha'
      obtain ⟨b1, c1, rfl, _⟩ := ha.p h1
      obtain ⟨b2, c2, rfl, _⟩ := ha'.p h2
      have hsz : ∃ n, szT e = some n ∧ n ≠ 0 := by
        have hs : (match szT e with | some n => Nat.ble 1 n | none => false) = true := hs
        split at hs
        · rename_i n hn
          exact ⟨n, hn, by have := ble_tt.1 hs; omega⟩
        · cases hs
      obtain ⟨n, hn, hn0⟩ := hsz
      refine ⟨eq_guard _ _ w (by intro _ _ h; cases h) (by intro h; cases h), EqR.mk ?_ rfl rfl⟩
      rw [eq1000]
      have := hsame W0 r w _ _ ha0 ha0' hR
      unfold Op.equalIn
      rw [M.run_und hu]
      simp [run_sz hn, hn0, this]
theorem eqD_sl {t : TypeId} {e : TypeId} {xo yo : Operand} {f : AV → AV → HS → (Bool → Ans) → Ans} (ht : undA t = some (.slice e)) (hf : eqD (.slice e) (orB (isC xo) (isC yo)) (szP (.slice e)) (flT t (.slice e)) = some f) {x y : AV} {h : HS} {c : Bool → Ans} (hk : f x y h c = true) : EqOut t xo yo x y h c := by
  have hu := undA_ok ht
  have hf : some (fun (x y : AV) (_ : HS) (c : Bool → Ans) => eqN 5 6 true x y c bad) = some f := hf
  simp only [Option.some.injEq] at hf; subst hf
  rcases eqN_ok hk with ⟨h1, h2, _, hc⟩ | ⟨h1, h2, hc⟩ | ⟨h1, h2, hc⟩ | ⟨h1, h2, hc⟩
  · refine ⟨_, hc, fun W0 r w a a' ha ha' hR => ?_⟩
    rw [ha.ns h1, ha'.ns h2]
    refine ⟨eq_guard _ _ w (by intro _ _ h; cases h) (by intro h; cases h), EqR.mk ?_ rfl rfl⟩
    rw [eq1000]; unfold Op.equalIn; rw [M.run_und hu]; rfl
  · refine ⟨_, hc, fun W0 r w a a' ha ha' hR => ?_⟩
    obtain ⟨b, cc, o, mm, rfl, _⟩ := ha'.sl h2
    rw [ha.ns h1]
    refine ⟨eq_guard _ _ w (by intro _ _ h; cases h) (by intro h; cases h), EqR.mk ?_ rfl rfl⟩
    rw [eq1000]; unfold Op.equalIn; rw [M.run_und hu]; rfl
  · refine ⟨_, hc, fun W0 r w a a' ha ha' hR => ?_⟩
    obtain ⟨b, cc, o, mm, rfl, _⟩ := ha.sl h1
    rw [ha'.ns h2]
    refine ⟨eq_guard _ _ w (by intro _ _ h; cases h) (by intro h; cases h), EqR.mk ?_ rfl rfl⟩
    rw [eq1000]; unfold Op.equalIn; rw [M.run_und hu]; rfl
  · cases hc
theorem eqD_mp {t : TypeId} {e1 e2 : TypeId} {xo yo : Operand} {f : AV → AV → HS → (Bool → Ans) → Ans} (ht : undA t = some (.map e1 e2)) (hf : eqD (.map e1 e2) (orB (isC xo) (isC yo)) (szP (.map e1 e2)) (flT t (.map e1 e2)) = some f) {x y : AV} {h : HS} {c : Bool → Ans} (hk : f x y h c = true) : EqOut t xo yo x y h c := by
  have hu := undA_ok ht
  have hf : some (fun (x y : AV) (_ : HS) (c : Bool → Ans) => eqN 7 8 true x y c bad) = some f := hf
  simp only [Option.some.injEq] at hf; subst hf
  rcases eqN_ok hk with ⟨h1, h2, _, hc⟩ | ⟨h1, h2, hc⟩ | ⟨h1, h2, hc⟩ | ⟨h1, h2, hc⟩
  · refine ⟨_, hc, fun W0 r w a a' ha ha' hR => ?_⟩
    rw [ha.nm h1, ha'.nm h2]
    refine ⟨eq_guard _ _ w (by intro _ _ h; cases h) (by intro h; cases h), EqR.mk ?_ rfl rfl⟩
    rw [eq1000]; unfold Op.equalIn; rw [M.run_und hu]; rfl
  · refine ⟨_, hc, fun W0 r w a a' ha ha' hR => ?_⟩
    obtain ⟨b, cc, rfl, _⟩ := ha'.m h2
    rw [ha.nm h1]
    refine ⟨eq_guard _ _ w (by intro _ _ h; cases h) (by intro h; cases h), EqR.mk ?_ rfl rfl⟩
    rw [eq1000]; unfold Op.equalIn; rw [M.run_und hu]; rfl
  · refine ⟨_, hc, fun W0 r w a a' ha ha' hR => ?_⟩
    obtain ⟨b, cc, rfl, _⟩ := ha.m h1
    rw [ha'.nm h2]
    refine ⟨eq_guard _ _ w (by intro _ _ h; cases h) (by intro h; cases h), EqR.mk ?_ rfl rfl⟩
    rw [eq1000]; unfold Op.equalIn; rw [M.run_und hu]; rfl
  · cases hc
theorem eqD_fn {t : TypeId} {e1 : Array TypeId} {e2 : Array TypeId} {e3 : Bool} {xo yo : Operand} {f : AV → AV → HS → (Bool → Ans) → Ans} (ht : undA t = some (.func e1 e2 e3)) (hf : eqD (.func e1 e2 e3) (orB (isC xo) (isC yo)) (szP (.func e1 e2 e3)) (flT t (.func e1 e2 e3)) = some f) {x y : AV} {h : HS} {c : Bool → Ans} (hk : f x y h c = true) : EqOut t xo yo x y h c := by
  have hu := undA_ok ht
  have hf : some (fun (x y : AV) (_ : HS) (c : Bool → Ans) => eqN 10 9 true x y c bad) = some f := hf
  simp only [Option.some.injEq] at hf; subst hf
  rcases eqN_ok hk with ⟨h1, h2, _, hc⟩ | ⟨h1, h2, hc⟩ | ⟨h1, h2, hc⟩ | ⟨h1, h2, hc⟩
  · refine ⟨_, hc, fun W0 r w a a' ha ha' hR => ?_⟩
    rw [ha.nf h1, ha'.nf h2]
    refine ⟨eq_guard _ _ w (by intro _ _ h; cases h) (by intro h; cases h), EqR.mk ?_ rfl rfl⟩
    rw [eq1000]; unfold Op.equalIn; rw [M.run_und hu]; rfl
  · refine ⟨_, hc, fun W0 r w a a' ha ha' hR => ?_⟩
    obtain ⟨b, cc, rfl, _⟩ := ha'.f h2
    rw [ha.nf h1]
    refine ⟨eq_guard _ _ w (by intro _ _ h; cases h) (by intro h; cases h), EqR.mk ?_ rfl rfl⟩
    rw [eq1000]; unfold Op.equalIn; rw [M.run_und hu]; rfl
  · refine ⟨_, hc, fun W0 r w a a' ha ha' hR => ?_⟩
    obtain ⟨b, cc, rfl, _⟩ := ha.f h1
    rw [ha'.nf h2]
    refine ⟨eq_guard _ _ w (by intro _ _ h; cases h) (by intro h; cases h), EqR.mk ?_ rfl rfl⟩
    rw [eq1000]; unfold Op.equalIn; rw [M.run_und hu]; rfl
  · cases hc
theorem eqD_ifc {t : TypeId} {ms : Array (String × TypeId)} {xo yo : Operand} {f : AV → AV → HS → (Bool → Ans) → Ans} (ht : undA t = some (.interface ms)) (hf : eqD (.interface ms) (orB (isC xo) (isC yo)) (szP (.interface ms)) (flT t (.interface ms)) = some f) {x y : AV} {h : HS} {c : Bool → Ans} (hk : f x y h c = true) : EqOut t xo yo x y h c := by
  have hu := undA_ok ht
  have hf : some (fun (x y : AV) (_ : HS) (c : Bool → Ans) => eqN 12 11 (orB (isC xo) (isC yo)) x y c bad) = some f := hf
  simp only [Option.some.injEq] at hf; subst hf
  rcases eqN_ok hk with ⟨h1, h2, hcst, hc⟩ | ⟨h1, h2, hc⟩ | ⟨h1, h2, hc⟩ | ⟨h1, h2, hc⟩
  · refine ⟨_, hc, fun W0 r w a a' ha ha' hR => ?_⟩
    rw [ha.ni h1, ha'.ni h2]
    refine ⟨fun op => ?_, EqR.mk ?_ rfl rfl⟩
    · rcases cst_or hcst with ⟨v, rfl⟩ | ⟨v, rfl⟩ <;> cases op <;> first
        | rfl
        | (simp only [eqGuard, Bool.not_true, Bool.false_eq_true, if_false, Bool.or_true, if_true]
           rfl)
    · rw [eq1000]; unfold Op.equalIn; rw [M.run_und hu]; rfl
  · refine ⟨_, hc, fun W0 r w a a' ha ha' hR => ?_⟩
    obtain ⟨b, cc, _, rfl, _⟩ := ha'.ic h2
    rw [ha.ni h1]
    refine ⟨eq_guard _ _ w (by intro _ _ h; cases h) (by intro _ h; cases h), EqR.mk ?_ rfl rfl⟩
    rw [eq1000]; unfold Op.equalIn; rw [M.run_und hu]; rfl
  · refine ⟨_, hc, fun W0 r w a a' ha ha' hR => ?_⟩
    obtain ⟨b, cc, _, rfl, _⟩ := ha.ic h1
    rw [ha'.ni h2]
    refine ⟨eq_guard _ _ w (by intro _ _ h; cases h) (by intro h; cases h), EqR.mk ?_ rfl rfl⟩
    rw [eq1000]; unfold Op.equalIn; rw [M.run_und hu]; rfl
  · cases hc
theorem eqD_st {t : TypeId} {fs : Array Field} {xo yo : Operand} {f : AV → AV → HS → (Bool → Ans) → Ans} (ht : undA t = some (.struct fs)) (hf : eqD (.struct fs) (orB (isC xo) (isC yo)) (szP (.struct fs)) (flT t (.struct fs)) = some f) {x y : AV} {h : HS} {c : Bool → Ans} (hk : f x y h c = true) : EqOut t xo yo x y h c := by
  have hu := undA_ok ht
  have hf : (match flT t (.struct fs) with | some ks => some (fun (x y : AV) (_ : HS) (c : Bool → Ans) => tg x 13 (tg y 13 (eqL ks x.l y.l c))) | none => none) = some f := hf
  split at hf
  · rename_i ks hks
    simp only [Option.some.injEq] at hf; subst hf
    rw [tg_eq, tg_eq] at hk
    obtain ⟨h1, h2, hk⟩ := hk
    have hks : (Bool.rec none (flF fs.toList 0) (anB (Bool.rec true false (Program.stoodInHeld P t)) (Bool.rec true false (Program.eqGuardType P (Program.depth P) t))) : Option (List Nat)) = some ks := hks
    rw [brec] at hks
    split at hks
    · rename_i hg
      have hg : Program.stoodInHeld P t = false ∧ Program.eqGuardType P (Program.depth P) t = false := by
        unfold anB at hg
        cases q1 : Program.stoodInHeld P t <;> cases q2 : Program.eqGuardType P (Program.depth P) t <;> rw [q1, q2] at hg <;> first | exact ⟨rfl, rfl⟩ | cases hg
      obtain ⟨b, hb, he⟩ := eqL_ok hks hk
      refine ⟨b, hb, fun W0 r w a a' ha ha' hR => ?_⟩
      obtain ⟨l, rfl, hl, _⟩ := ha.ag h1
      obtain ⟨l', rfl, hl', _⟩ := ha'.ag h2
      have hfo : P.fieldsOf t = fs := by unfold Program.fieldsOf; rw [hu]
      have hq := run_equalIn_struct (P := P) w 9999 t ⟨l⟩ ⟨l'⟩ (by rw [hfo]; exact hu) hg.1
      rw [hfo, he r l l' hl hl' w 9998] at hq
      refine ⟨fun op => run_eqGuard_agg w op t xo yo ⟨l⟩ ⟨l'⟩ hg.2, ?_, ?_⟩
      · rw [run_eql_struct, hq]; rfl
      · rw [run_neq_struct, hq]; rfl
    · cases hks
  · cases hf
theorem eqD_ok {t : TypeId} {d : TypeDesc} {xo yo : Operand} {f : AV → AV → HS → (Bool → Ans) → Ans} (ht : undA t = some d) (hf : eqD d (orB (isC xo) (isC yo)) (szP d) (flT t d) = some f) {x y : AV} {h : HS} {c : Bool → Ans} (hk : f x y h c = true) : EqOut t xo yo x y h c := by
  cases d with
  | bool => exact eqD_bool ht hf hk
  | pointer e => exact eqD_ptr ht hf hk
  | slice e => exact eqD_sl ht hf hk
  | map e1 e2 => exact eqD_mp ht hf hk
  | func e1 e2 e3 => exact eqD_fn ht hf hk
  | interface ms => exact eqD_ifc ht hf hk
  | struct fs => exact eqD_st ht hf hk
  | _ => cases hf

theorem sat_bg {t : TypeId} {d : TypeDesc} (op : BinOp) (xo yo : Operand) (ht : undA t = some d) : Sat2 (binG op d (orB (isC xo) (isC yo)) (szP d) (flT t d)).f (b2 op t xo yo) := by
  intro x y h k hk
  unfold binG at hk
  split at hk
  · rename_i f hf
    obtain ⟨b, hb, he⟩ := eqD_ok (xo := xo) (yo := yo) ht hf hk
    refine ⟨_, h, hb, fun W0 r w a a' ha ha' hR => ?_⟩
    obtain ⟨h1, h2, h3⟩ := he W0 r w a a' ha ha' hR
    refine .val (y := .bool b) ?_ (.mkB _) hR
    simp only [Sem.run_bind, h1 .eql, Result.andThen_ok, h2]
  · rename_i f hf
    obtain ⟨b, hb, he⟩ := eqD_ok (xo := xo) (yo := yo) ht hf hk
    refine ⟨_, h, hb, fun W0 r w a a' ha ha' hR => ?_⟩
    obtain ⟨h1, h2, h3⟩ := he W0 r w a a' ha ha' hR
    rw [not_eq]
    refine .val (y := .bool (!b)) ?_ (.mkB _) hR
    simp only [Sem.run_bind, h1 .neq, Result.andThen_ok, h3]
  · cases hk
end Go.Proofs.YtefppgdfcnediaaGreat.X

/- Own executor, part 26: the operations, but for calls. -/
set_option linter.unusedVariables false
set_option linter.unusedSimpArgs false
set_option maxRecDepth 100000
namespace Go.Proofs.YtefppgdfcnediaaGreat.X
open Go Go.RowKit

def isCall (o : Op) : Bool := match o with
  | .call c => (match c.callee with | .builtin _ => false | _ => true)
  | _ => false

theorem zip_parts (ps : Array (Nat × Operand)) (ρ : Operand → Value) : (⟨(ps.toList.map fun p : Nat × Operand => p.1).zip ((ps.toList.map fun p : Nat × Operand => p.2).map ρ)⟩ : Array (Nat × Value)) = ps.map fun p => (p.1, ρ p.2) := by
  apply Array.ext'
  rw [Array.toList_map, List.map_map, List.zip_map']
  rfl
theorem arr1 {α : Type} {a : Array α} {x : α} (h : a.toList = [x]) : a = #[x] := Array.ext' h
theorem arr2 {α : Type} {a : Array α} {x y : α} (h : a.toList = [x, y]) : a = #[x, y] := Array.ext' h
theorem oV_some {lo : Option Operand} {ρ : Operand → Value} {l : List Value} : oV lo.isSome ((lo.toList).map ρ ++ l) = (lo.map ρ, l) := by cases lo <;> rfl
theorem opt_tail {lo : Option Operand} {ρ : Operand → Value} : oV lo.isSome ((lo.toList).map ρ) = (lo.map ρ, []) := by cases lo <;> rfl

section
variable {O : Oper}
theorem ex_vv {op : Op} {s : (Operand → Value) → Sem Value} (h : O.op = op) (hs : ∀ ρ, execOp ρ { O with op := op } = vv (s ρ)) (ρ : Operand → Value) : vv (s ρ) = execOp ρ O := by
  rw [← hs ρ, ← h]
theorem ex_uu {op : Op} {s : (Operand → Value) → Sem Unit} (h : O.op = op) (hs : ∀ ρ, execOp ρ { O with op := op } = uu (s ρ)) (ρ : Operand → Value) : uu (s ρ) = execOp ρ O := by
  rw [← hs ρ, ← h]
theorem ex_n {op : Op} {s : (Operand → Value) → Sem Next} (h : O.op = op) (hs : ∀ ρ, execOp ρ { O with op := op } = s ρ) (ρ : Operand → Value) : s ρ = execOp ρ O := by
  rw [← hs ρ, ← h]
/-- A call of a built-in function. -/
theorem ex_b {c : Call} {b : Builtin} {s : (Operand → Value) → Sem Value} (h : O.op = .call c) (hb : c.callee = .builtin b) (hs : ∀ ρ, builtin b c.argTypes O.type (c.args.map fun | .const _ => true | _ => false) (c.args.map ρ) = vv (s ρ)) (ρ : Operand → Value) : vv (s ρ) = execOp ρ O := by
  rw [← hs ρ]
  unfold execOp
  rw [h]
  simp only [resolve, hb]
  rfl

theorem compI_new {op : Op} (h : O.op = op) (hk : kindI op = 1) : SatFA op.operands.toList (compI op).f (fun ρ => execOp ρ O) := by
  cases op with
  | alloc t =>
    have hm := ex_vv (s := fun ρ => Instr.alloc t true (.tuple #[])) h (fun _ => by unfold execOp; rfl)
    show SatFA [] (match zrT t with | some z => iN (g_alloc z.cells) [] | none => iBad).f _
    split
    · rename_i z hz
      rw [← funext hm]
      exact satA_iN (sat_alloc hz) []
    · exact satA_bad
  | box t x =>
    have hm := ex_vv (s := fun ρ => Instr.box t (ρ x)) h (fun _ => by unfold execOp; rfl)
    rw [← funext hm]
    exact satA_i1 (sat_box t) x
  | buildSlice t len ps =>
    have hm := ex_vv (s := fun ρ => Instr.buildSlice t len (ps.map fun p => (p.1, ρ p.2))) h (fun _ => by unfold execOp; rfl)
    rw [← funext hm]
    have hz : (fun ρ => vv (Instr.buildSlice t len (ps.map fun p => (p.1, ρ p.2)))) = fun ρ => vv (Instr.buildSlice t len ⟨(ps.toList.map fun p : Nat × Operand => p.1).zip ((ps.toList.map fun p : Nat × Operand => p.2).map ρ)⟩) := by
      funext ρ; rw [zip_parts]
    rw [hz]
    show SatFA (ps.toList.map fun p : Nat × Operand => p.2).toArray.toList (match undA t with
      | some (.slice el) => (match szT el, zrT el with | some w, some z => onlyIf (anB (Nat.beq (lenL z.cells) w) (Nat.ble (Nat.mul len w) 16777216)) (iN (g_bldL len (repL len z.cells) ((ps.toList.map fun p : Nat × Operand => p.1).map fun i => (i * w, w))) (ps.toList.map fun p : Nat × Operand => p.2)) | _, _ => iBad)
      | _ => iBad).f _
    split
    · rename_i el hu
      split
      · rename_i w z hw hz
        refine satA_only fun hc => ?_
        have hc : Nat.beq (lenL z.cells) w = true ∧ Nat.ble (Nat.mul len w) 16777216 = true := by
          unfold anB at hc
          cases q1 : Nat.beq (lenL z.cells) w <;> cases q2 : Nat.ble (Nat.mul len w) 16777216 <;> rw [q1, q2] at hc <;> first | exact ⟨rfl, rfl⟩ | cases hc
        exact satA_iN (sat_bldL (is := ps.toList.map fun p : Nat × Operand => p.1) hu hw hz (by rw [← lenL_eq]; exact beq_tt.1 hc.1) (ble_tt.1 hc.2)) _
      · exact satA_bad
    · exact satA_bad
  | makeSlice t l c =>
    have hm := ex_vv (s := fun ρ => Instr.makeSlice t (ρ l) (ρ c)) h (fun _ => by unfold execOp; rfl)
    rw [← funext hm]
    show SatFA [l, c] (match undA t with
      | some (.slice el) => (match zrT el, byT el, szT el with | some z, some b, some w => onlyIf (Nat.beq (lenL z.cells) w) (i2 (g_mkS z.cells b) l c) | _, _, _ => iBad)
      | _ => iBad).f _
    split
    · rename_i el hu
      split
      · rename_i z b w hz hb hw
        exact satA_only fun hc => satA_i2 (sat_mkS hu hw hb hz (by rw [← lenL_eq]; exact beq_tt.1 hc)) l c
      · exact satA_bad
    · exact satA_bad
  | makeMap t r =>
    have hm := ex_vv (s := fun ρ => Instr.makeMap t (r.map ρ)) h (fun _ => by unfold execOp; rfl)
    rw [← funext hm]
    have hz : (fun ρ => vv (Instr.makeMap t (r.map ρ))) = fun ρ => vv (Instr.makeMap t (r.toList.map ρ).head?) := by
      funext ρ; cases r <;> rfl
    rw [hz]
    show SatFA r.toArray.toList (match undA t with | some (.map _ _) => iN g_map r.toList | _ => iBad).f _
    have hl : r.toArray.toList = r.toList := by cases r <;> rfl
    rw [hl]
    split
    · rename_i ke el hu
      exact satA_iN (sat_map hu) _
    · exact satA_bad
  | convert s d x =>
    have hm := ex_vv (s := fun ρ => convert s d (ρ x)) h (fun _ => by unfold execOp; rfl)
    rw [← funext hm]
    have hk : (match undA s, undA d with | some .string, some (.slice _) => 1 | _, _ => 0) = 1 := hk
    split at hk
    · rename_i el hs hd
      show SatFA [x] (match undA s, undA d with
        | some (.int _), some (.int k) => i1 (g_cvtI (wkOf k)) x
        | some .string, some .string => i1 g_str x
        | some .string, some (.slice el) => onlyIf (isU8 el) (i1 g_s2b x)
        | some (.slice el), some .string => onlyIf (isU8 el) (i1 g_b2s x)
        | _, _ => iBad).f _
      rw [hs, hd]
      exact satA_only fun hc => satA_i1 (sat_s2b hs hd (isU8_ok hc)) x
    · cases hk
  | call c =>
    exfalso
    have hk : (match c.callee with
      | .builtin .len => 0
      | .builtin .cap => 0
      | .builtin .min => 0
      | .builtin .max => 0
      | _ => 2) = 1 := hk
    split at hk <;> cases hk
  | _ => cases hk
end
end Go.Proofs.YtefppgdfcnediaaGreat.X

/- Own executor, part 27: the operations, but for calls. -/
set_option linter.unusedVariables false
set_option linter.unusedSimpArgs false
set_option maxRecDepth 100000
namespace Go.Proofs.YtefppgdfcnediaaGreat.X
open Go Go.RowKit

theorem c_operands {c : Call} {b : Builtin} (hb : c.callee = .builtin b) : ∀ x ∈ c.args.toList, x ∈ (Op.call c).operands.toList := by
  intro x hx
  show x ∈ c.operands.toList
  unfold Call.operands
  rw [hb]
  simp_all
theorem map2 {c : Call} {x y : Operand} (h : c.args.toList = [x, y]) (ρ : Operand → Value) : c.args.map ρ = #[ρ x, ρ y] := by
  rw [arr2 h]; simp
theorem map1 {c : Call} {x : Operand} (h : c.args.toList = [x]) (ρ : Operand → Value) : c.args.map ρ = #[ρ x] := by
  rw [arr1 h]; simp

section
variable {O : Oper}
theorem builtin_ok {c : Call} {b : Builtin} (h : O.op = .call c) (hb : c.callee = .builtin b) : SatF (Op.call c).operands.toList (compI (.call c)).f (fun ρ => execOp ρ O) := by
  have key : SatF c.args.toList (match b, c.args.toList, c.argTypes.toList with
      | .append, [x, y], [t, u] => (match undA t, undA u with
        | some (.slice el), some d => onlyIf (isSrc d) (match szT el, byT el, zrT el with | some w, some b, some z => onlyIf (Nat.beq (lenL z.cells) w) (i2 (g_app w b) x y) | _, _, _ => iBad)
        | _, _ => iBad)
      | .len, [x], t :: _ => (match undA t with
        | some .string => i1 g_lenS x
        | some (.slice _) => i1 g_lenL x
        | some (.map _ _) => i1 g_lenM x
        | _ => iBad)
      | .clear, [x], t :: _ => (match undA t with
        | some (.slice el) => (match zrT el with | some z => i1 (g_clrL z.cells) x | _ => iBad)
        | some (.map _ _) => i1 g_clrM x
        | _ => iBad)
      | .cap, [x], t :: _ => (match undA t with | some (.slice _) => i1 g_cap x | _ => iBad)
      | .min, [x, y], _ => i2 g_min x y
      | .max, [x, y], _ => i2 g_max x y
      | .delete, [x, y], t :: _ => (match undA t with
        | some (.map ke el) => (match keyT ke with | some kt => i2 (g_del kt) x y | none => iBad)
        | _ => iBad)
      | .copy, [x, y], t :: _ => (match undA t with
        | some (.slice el) => (match szT el with | some w => i2 (g_copy w) x y | none => iBad)
        | _ => iBad)
      | _, _, _ => iBad).f (fun ρ => execOp ρ O) := by
    split
    · rename_i x y t u ha hts
      rw [ha]
      have hm := ex_b (s := fun ρ => Builtin.append_ #[t, u] O.type #[ρ x, ρ y]) h hb (fun ρ => by rw [map2 ha, arr2 hts]; rfl)
      rw [← funext hm]
      split
      · rename_i el d ht hu
        refine sat_only fun hd => ?_
        split
        · rename_i w b z hw hb' hz
          exact sat_only fun hc => sat_i2 (sat_app ht hu hd hw hb' hz (by rw [← lenL_eq]; exact beq_tt.1 hc)) x y
        · exact sat_bad
      · exact sat_bad
    · rename_i x t ts ha hts
      rw [ha]
      have h0 : c.argTypes[0]? = some t := by rw [← Array.getElem?_toList, hts]; rfl
      have hm := ex_b (s := fun ρ => Builtin.len_ c.argTypes O.type #[ρ x]) h hb (fun ρ => by rw [map1 ha]; rfl)
      rw [← funext hm]
      split
      · rename_i ht; exact sat_i1 (sat_lenS h0 ht) x
      · rename_i ht; exact sat_i1 (sat_lenL h0 ht) x
      · rename_i ht; exact sat_i1 (sat_lenM h0 ht) x
      · exact sat_bad
    · rename_i x t ts ha hts
      rw [ha]
      have h0 : c.argTypes[0]? = some t := by rw [← Array.getElem?_toList, hts]; rfl
      have hm := ex_b (s := fun ρ => Builtin.clear_ c.argTypes O.type #[ρ x]) h hb (fun ρ => by rw [map1 ha]; rfl)
      rw [← funext hm]
      split
      · rename_i el ht
        split
        · rename_i z hz; exact sat_i1 (sat_clrL h0 ht hz) x
        · exact sat_bad
      · rename_i ht; exact sat_i1 (sat_clrM h0 ht) x
      · exact sat_bad
    · rename_i x t ts ha hts
      rw [ha]
      have h0 : c.argTypes[0]? = some t := by rw [← Array.getElem?_toList, hts]; rfl
      have hm := ex_b (s := fun ρ => Builtin.cap_ c.argTypes O.type #[ρ x]) h hb (fun ρ => by rw [map1 ha]; rfl)
      rw [← funext hm]
      split
      · rename_i ht; exact sat_i1 (sat_cap h0 ht) x
      · exact sat_bad
    · rename_i x y ha
      rw [ha]
      have hm := ex_b (s := fun ρ => Builtin.min_ c.argTypes O.type #[ρ x, ρ y]) h hb (fun ρ => by rw [map2 ha]; rfl)
      rw [← funext hm]
      exact sat_i2 (sat_min (fun x y => Builtin.min_ c.argTypes O.type #[x, y]) (fun _ _ _ _ => rfl)) x y
    · rename_i x y ha
      rw [ha]
      have hm := ex_b (s := fun ρ => Builtin.max_ c.argTypes O.type #[ρ x, ρ y]) h hb (fun ρ => by rw [map2 ha]; rfl)
      rw [← funext hm]
      exact sat_i2 (sat_max (fun x y => Builtin.max_ c.argTypes O.type #[x, y]) (fun _ _ _ _ => rfl)) x y
    · rename_i x y t ts ha hts
      rw [ha]
      have h0 : c.argTypes[0]? = some t := by rw [← Array.getElem?_toList, hts]; rfl
      have hm := ex_b (s := fun ρ => Builtin.delete_ c.argTypes O.type #[ρ x, ρ y]) h hb (fun ρ => by rw [map2 ha]; rfl)
      rw [← funext hm]
      split
      · rename_i ke el ht
        split
        · rename_i kt hk; exact sat_i2 (sat_del h0 ht hk) x y
        · exact sat_bad
      · exact sat_bad
    · rename_i x y t ts ha hts
      rw [ha]
      have h0 : c.argTypes[0]? = some t := by rw [← Array.getElem?_toList, hts]; rfl
      have hm := ex_b (s := fun ρ => Builtin.copy_ c.argTypes O.type #[ρ x, ρ y]) h hb (fun ρ => by rw [map2 ha]; rfl)
      rw [← funext hm]
      split
      · rename_i el ht
        split
        · rename_i w hw; exact sat_i2 (sat_copy h0 ht hw) x y
        · exact sat_bad
      · exact sat_bad
    · exact sat_bad
  have e : compI (.call c) = (match c.callee, c.args.toList with
      | .builtin b, args => (match b, args, c.argTypes.toList with
        | .append, [x, y], [t, u] => (match undA t, undA u with
          | some (.slice el), some d => onlyIf (isSrc d) (match szT el, byT el, zrT el with | some w, some b, some z => onlyIf (Nat.beq (lenL z.cells) w) (i2 (g_app w b) x y) | _, _, _ => iBad)
          | _, _ => iBad)
        | .len, [x], t :: _ => (match undA t with
          | some .string => i1 g_lenS x
          | some (.slice _) => i1 g_lenL x
          | some (.map _ _) => i1 g_lenM x
          | _ => iBad)
        | .clear, [x], t :: _ => (match undA t with
          | some (.slice el) => (match zrT el with | some z => i1 (g_clrL z.cells) x | _ => iBad)
          | some (.map _ _) => i1 g_clrM x
          | _ => iBad)
        | .cap, [x], t :: _ => (match undA t with | some (.slice _) => i1 g_cap x | _ => iBad)
        | .min, [x, y], _ => i2 g_min x y
        | .max, [x, y], _ => i2 g_max x y
        | .delete, [x, y], t :: _ => (match undA t with
          | some (.map ke el) => (match keyT ke with | some kt => i2 (g_del kt) x y | none => iBad)
          | _ => iBad)
        | .copy, [x, y], t :: _ => (match undA t with
          | some (.slice el) => (match szT el with | some w => i2 (g_copy w) x y | none => iBad)
          | _ => iBad)
        | _, _, _ => iBad)
      | .value f, _ => iCall f c.args.toList
      | .invoke r name, _ => iInv name r c.args.toList) := rfl
  rw [e]
  simp only [hb]
  exact key.sub (c_operands hb)

theorem compI_ok {op : Op} (h : O.op = op) (hc : isCall op = false) : SatF op.operands.toList (compI op).f (fun ρ => execOp ρ O) := by
  cases op with
  | alloc t => exact (compI_new h rfl).sat
  | box t x => exact (compI_new h rfl).sat
  | buildSlice t len ps => exact (compI_new h rfl).sat
  | makeSlice t l c => exact (compI_new h rfl).sat
  | makeMap t r => exact (compI_new h rfl).sat
  | move x =>
    rw [← funext (ex_n (s := fun ρ => pure (.value (ρ x))) h (fun _ => by unfold execOp; rfl))]
    exact sat_i1 sat_id x
  | assign x =>
    rw [← funext (ex_n (s := fun ρ => pure (.value (ρ x))) h (fun _ => by unfold execOp; rfl))]
    exact sat_i1 sat_id x
  | pick c a b =>
    rw [← funext (ex_n (s := fun ρ => (do pure (.value (if ← asBool (ρ c) then ρ a else ρ b)) : Sem Next)) h (fun _ => by unfold execOp; rfl))]
    exact sat_pk c a b
  | build t ps =>
    rw [← funext (ex_vv (s := fun ρ => Instr.build t (ps.map fun p => (p.1, ρ p.2))) h (fun _ => by unfold execOp; rfl))]
    have hz : (fun ρ => vv (Instr.build t (ps.map fun p => (p.1, ρ p.2)))) = fun ρ => vv (Instr.build t ⟨(ps.toList.map fun p : Nat × Operand => p.1).zip ((ps.toList.map fun p : Nat × Operand => p.2).map ρ)⟩) := by
      funext ρ; rw [zip_parts]
    rw [hz]
    show SatF (ps.toList.map fun p : Nat × Operand => p.2).toArray.toList (match zrT t, undA t with
      | some z, some (.struct fs) => (match plcs fs.toList with
        | some pl => (match some_ pl (ps.toList.map fun p : Nat × Operand => p.1) with | some l => onlyIf (Nat.beq z.t 13) (iN (g_bld z.l l) (ps.toList.map fun p : Nat × Operand => p.2)) | none => iBad)
        | none => iBad)
      | some z, some (.array _ el) => (match szT el with | some w => onlyIf (Nat.beq z.t 13) (iN (g_bld z.l ((ps.toList.map fun p : Nat × Operand => p.1).map fun i => (i * w, w))) (ps.toList.map fun p : Nat × Operand => p.2)) | none => iBad)
      | _, _ => iBad).f _
    split
    · rename_i z fs hzr hu
      split
      · rename_i pl hp
        split
        · rename_i l hl
          exact sat_only fun h13 => sat_iN (bld_struct hzr hu hp hl (beq_tt.1 h13)) _
        · exact sat_bad
      · exact sat_bad
    · rename_i z n el hzr hu
      split
      · rename_i w hw
        exact sat_only fun h13 => sat_iN (bld_array (is := ps.toList.map fun p : Nat × Operand => p.1) hzr hu hw (beq_tt.1 h13)) _
      · exact sat_bad
    · exact sat_bad
  | load t a =>
    rw [← funext (ex_vv (s := fun ρ => Instr.loadAt t (ρ a)) h (fun _ => by unfold execOp; rfl))]
    show SatF [a] (match szT t, agT t with | some n, some ag => i1 (g_load n ag) a | _, _ => iBad).f _
    split
    · rename_i n ag hn ha; exact sat_i1 (sat_load hn ha) a
    · exact sat_bad
  | store t a x =>
    rw [← funext (ex_uu (s := fun ρ => Instr.storeAt t (ρ a) (ρ x)) h (fun _ => by unfold execOp; rfl))]
    show SatF [a, x] (match szT t with | some n => i2 (g_store n) a x | none => iBad).f _
    split
    · rename_i n hn; exact sat_i2 (sat_store hn) a x
    · exact sat_bad
  | nilCheck x =>
    rw [← funext (ex_n (s := fun ρ => nilC (ρ x)) h (fun _ => by unfold execOp; rfl))]
    exact sat_i1 sat_nil x
  | binOp op t x y ty =>
    rw [← funext (ex_n (s := fun ρ => b2 op t x y (ρ x) (ρ y)) h (fun _ => by unfold execOp; rfl))]
    show SatF [x, y] (match undA t with
      | some (.int k) => i2b (g_bi op (wkOf k)) x y
      | some .string => i2b (g_bs op) x y
      | some d => i2b (binG op d (orB (isC x) (isC y)) (szP d) (flT t d)) x y
      | none => iBad).f _
    split
    · exact sat_i2b (sat_bi op _ t x y) x y
    · exact sat_i2b (sat_bs op t x y) x y
    · rename_i d hd; exact sat_i2b (sat_bg op x y hd) x y
    · exact sat_bad
  | unOp op t x =>
    rw [← funext (ex_vv (s := fun ρ => Op.unary op (ρ x)) h (fun _ => by unfold execOp; rfl))]
    show SatF [x] (match op, undA t with
      | .not, _ => i1 g_not x
      | .neg, some (.int k) => i1 (g_neg (wkOf k)) x
      | .xor, some (.int k) => i1 (g_cpl (wkOf k)) x
      | _, _ => iBad).f _
    split
    · exact sat_i1 sat_not x
    · exact sat_i1 (sat_neg _) x
    · exact sat_i1 (sat_cpl _) x
    · exact sat_bad
  | convert s d x =>
    rw [← funext (ex_vv (s := fun ρ => convert s d (ρ x)) h (fun _ => by unfold execOp; rfl))]
    show SatF [x] (match undA s, undA d with
        | some (.int _), some (.int k) => i1 (g_cvtI (wkOf k)) x
        | some .string, some .string => i1 g_str x
        | some .string, some (.slice el) => onlyIf (isU8 el) (i1 g_s2b x)
        | some (.slice el), some .string => onlyIf (isU8 el) (i1 g_b2s x)
        | _, _ => iBad).f _
    split
    · rename_i hs hd; exact sat_i1 (sat_cvtI hs hd) x
    · rename_i hs hd; exact sat_i1 (sat_str hs hd) x
    · rename_i el hs hd; exact sat_only fun hc => (satA_i1 (sat_s2b hs hd (isU8_ok hc)) x).sat
    · rename_i el hs hd; exact sat_only fun hc => sat_i1 (sat_b2s hs hd (isU8_ok hc)) x
    · exact sat_bad
  | makeInterface t x =>
    rw [← funext (ex_vv (s := fun ρ => Instr.makeInterface t (ρ x)) h (fun _ => by unfold execOp; rfl))]
    show SatF [x] (match undA t with | some (.interface _) => iBad | some _ => i1 (g_ifc t) x | none => iBad).f _
    split
    · exact sat_bad
    · rename_i d hn hd
      exact sat_i1 (sat_ifc t ⟨d, hd, fun ms e => hn ms e⟩) x
    · exact sat_bad
  | makeFunc fn fi ca =>
    cases fn with
    | func f =>
      have hz : (fun ρ => execOp ρ O) = fun ρ => vv (Instr.makeFunc (.func f) ⟨((fi.toList ++ ca.toList).map ρ).take fi.size⟩ ⟨((fi.toList ++ ca.toList).map ρ).drop fi.size⟩) := by
        funext ρ
        rw [← ex_vv (s := fun ρ => Instr.makeFunc (.func f) (fi.map ρ) (ca.map ρ)) h (fun _ => by unfold execOp; rfl) ρ]
        have e1 : ((fi.toList ++ ca.toList).map ρ).take fi.size = fi.toList.map ρ := by
          rw [List.map_append, List.take_left' (by simp)]
        have e2 : ((fi.toList ++ ca.toList).map ρ).drop fi.size = ca.toList.map ρ := by
          rw [List.map_append, List.drop_left' (by simp)]
        rw [e1, e2]
        have e3 : fi.map ρ = ⟨fi.toList.map ρ⟩ := by apply Array.ext'; simp
        have e4 : ca.map ρ = ⟨ca.toList.map ρ⟩ := by apply Array.ext'; simp
        rw [e3, e4]
      rw [hz]
      have := sat_iN (sat_fun f fi.size) (fi.toList ++ ca.toList)
      refine this.sub fun x hx => ?_
      show x ∈ (fi ++ ca).toList
      rw [Array.toList_append]; exact hx
    | _ => exact sat_bad
  | slice t x lo hi mx =>
    rw [← funext (ex_vv (s := fun ρ => Instr.sliceAt t (ρ x) (lo.map ρ) (hi.map ρ) (mx.map ρ)) h (fun _ => by unfold execOp; rfl))]
    have hops : (Op.slice t x lo hi mx).operands.toList = x :: (lo.toList ++ (hi.toList ++ mx.toList)) := by
      show (#[x] ++ lo.toArray ++ hi.toArray ++ mx.toArray).toList = _
      cases lo <;> cases hi <;> cases mx <;> rfl
    rw [hops]
    show SatF _ (match undA t with
      | some .string => onlyIf mx.isNone (iN (g_slS lo.isSome hi.isSome) (x :: (lo.toList ++ hi.toList)))
      | some (.slice el) => (match szT el with | some w => iN (g_slL w lo.isSome hi.isSome mx.isSome) (x :: (lo.toList ++ (hi.toList ++ mx.toList))) | none => iBad)
      | some (.array n el) => (match szT el with | some w => onlyIf mx.isNone (iN (g_slA n w lo.isSome hi.isSome) (x :: (lo.toList ++ hi.toList))) | none => iBad)
      | _ => iBad).f _
    split
    · rename_i hu
      refine sat_only fun hmx => ?_
      have hmx : mx = none := by cases mx <;> first | rfl | cases hmx
      subst hmx
      refine ((sat_iN (sat_slS hu lo.isSome hi.isSome) (x :: (lo.toList ++ hi.toList))).congr fun ρ => ?_).sub fun y hy => by simpa using hy
      rw [List.map_cons, List.map_append]
      simp only [oV_some, opt_tail]
      rfl
    · rename_i el hu
      split
      · rename_i w hw
        refine (sat_iN (sat_slL hu hw lo.isSome hi.isSome mx.isSome) (x :: (lo.toList ++ (hi.toList ++ mx.toList)))).congr fun ρ => ?_
        rw [List.map_cons, List.map_append, List.map_append]
        simp only [oV_some, opt_tail]
      · exact sat_bad
    · rename_i n el hu
      split
      · rename_i w hw
        refine sat_only fun hmx => ?_
        have hmx : mx = none := by cases mx <;> first | rfl | cases hmx
        subst hmx
        refine ((sat_iN (sat_slA hu hw lo.isSome hi.isSome) (x :: (lo.toList ++ hi.toList))).congr fun ρ => ?_).sub fun y hy => by simpa using hy
        rw [List.map_cons, List.map_append]
        simp only [oV_some, opt_tail]
        rfl
      · exact sat_bad
    · exact sat_bad
  | fieldAddr s x f =>
    rw [← funext (ex_vv (s := fun ρ => Instr.fieldAt s (ρ x) f) h (fun _ => by unfold execOp; rfl))]
    show SatF [x] (match fdT s f with
      | some fd => (match szT fd.type with | some n => onlyIf (Nat.ble 1 n) (i1 (g_fadr fd.offset) x) | none => iBad)
      | none => iBad).f _
    split
    · rename_i fd hf
      split
      · rename_i n hn; exact sat_only fun h1 => sat_i1 (sat_fadr hf hn (ble_tt.1 h1)) x
      · exact sat_bad
    · exact sat_bad
  | field s x f =>
    rw [← funext (ex_vv (s := fun ρ => Instr.field s (ρ x) f) h (fun _ => by unfold execOp; rfl))]
    show SatF [x] (match fdT s f with
      | some fd => (match szT fd.type, agT fd.type with | some n, some ag => i1 (g_field fd.offset n ag) x | _, _ => iBad)
      | none => iBad).f _
    split
    · rename_i fd hf
      split
      · rename_i n ag hn ha; exact sat_i1 (sat_field hf hn ha) x
      · exact sat_bad
    · exact sat_bad
  | indexAddr t x i =>
    rw [← funext (ex_vv (s := fun ρ => Instr.indexAt t (ρ x) (ρ i)) h (fun _ => by unfold execOp; rfl))]
    show SatF [x, i] (match undA t with
      | some (.array n el) => (match szT el with | some w => i2 (g_ixA n w) x i | none => iBad)
      | some (.slice el) => (match szT el with | some w => i2 (g_ixS w) x i | none => iBad)
      | _ => iBad).f _
    split
    · rename_i n el hu
      split
      · rename_i w hw; exact sat_i2 (sat_ixA hu hw) x i
      · exact sat_bad
    · rename_i el hu
      split
      · rename_i w hw; exact sat_i2 (sat_ixS hu hw) x i
      · exact sat_bad
    · exact sat_bad
  | index t x i =>
    rw [← funext (ex_vv (s := fun ρ => Instr.index t (ρ x) (ρ i)) h (fun _ => by unfold execOp; rfl))]
    show SatF [x, i] (match undA t with
      | some .string => i2 g_byte x i
      | some (.array n el) => (match szT el, agT el with | some w, some ag => i2 (g_elem n w ag) x i | _, _ => iBad)
      | _ => iBad).f _
    split
    · rename_i hu; exact sat_i2 (sat_byte hu) x i
    · rename_i n el hu
      split
      · rename_i w ag hw ha; exact sat_i2 (sat_elem hu hw ha) x i
      · exact sat_bad
    · exact sat_bad
  | lookup t x i cok =>
    rw [← funext (ex_vv (s := fun ρ => Instr.lookup t (ρ x) (ρ i) cok) h (fun _ => by unfold execOp; rfl))]
    show SatF [x, i] (match undA t with
      | some (.map ke el) => (match zrT el, keyT ke with | some z, some kt => i2 (g_look kt z cok) x i | _, _ => iBad)
      | _ => iBad).f _
    split
    · rename_i ke el hu
      split
      · rename_i z kt hz hk; exact sat_i2 (sat_look hu hz hk cok) x i
      · exact sat_bad
    · exact sat_bad
  | mapUpdate t m k x =>
    rw [← funext (ex_uu (s := fun ρ => Instr.mapUpdate t (ρ m) (ρ k) (ρ x)) h (fun _ => by unfold execOp; rfl))]
    show SatF [m, k, x] (match undA t with
      | some (.map ke _) => (match keyT ke with | some kt => iN (g_mup kt) [m, k, x] | none => iBad)
      | _ => iBad).f _
    split
    · rename_i ke el hu
      split
      · rename_i kt hk; exact sat_iN3 (sat_mup hu hk) m k x
      · exact sat_bad
    · exact sat_bad
  | insert t m k x =>
    rw [← funext (ex_uu (s := fun ρ => Instr.mapUpdate t (ρ m) (ρ k) (ρ x)) h (fun _ => by unfold execOp; rfl))]
    show SatF [m, k, x] (match undA t with
      | some (.map ke _) => (match keyT ke with | some kt => iN (g_mup kt) [m, k, x] | none => iBad)
      | _ => iBad).f _
    split
    · rename_i ke el hu
      split
      · rename_i kt hk; exact sat_iN3 (sat_mup hu hk) m k x
      · exact sat_bad
    · exact sat_bad
  | mapEntry t m k =>
    rw [← funext (ex_vv (s := fun ρ => Instr.mapEntry t (ρ m) (ρ k)) h (fun _ => by unfold execOp; rfl))]
    show SatF [m, k] (match undA t with
      | some (.map ke el) => (match zrT el, keyT ke with | some z, some kt => i2 (g_men kt z) m k | _, _ => iBad)
      | _ => iBad).f _
    split
    · rename_i ke el hu
      split
      · rename_i z kt hz hk; exact sat_i2 (sat_men hu hz hk) m k
      · exact sat_bad
    · exact sat_bad
  | entryStore t m s x =>
    rw [← funext (ex_uu (s := fun ρ => Instr.entryStore t (ρ m) (ρ s) (ρ x)) h (fun _ => by unfold execOp; rfl))]
    exact sat_iN3 sat_est m s x
  | typeAssert x xt t cok =>
    rw [← funext (ex_vv (s := fun ρ => Instr.typeAssert (ρ x) xt t cok) h (fun _ => by unfold execOp; rfl))]
    show SatF [x] (match undA t with | some (.interface _) => iBad | some _ => i1 (g_tas t cok) x | none => iBad).f _
    split
    · exact sat_bad
    · rename_i d hn hd
      exact sat_i1 (sat_tas hd (fun ms e => hn ms e) cok) x
    · exact sat_bad
  | range t x =>
    rw [← funext (ex_vv (s := fun ρ => Instr.range t (ρ x)) h (fun _ => by unfold execOp; rfl))]
    show SatF [x] (match undA t with | some (.map _ _) => i1 g_rng x | _ => iBad).f _
    split
    · rename_i ke el hu; exact sat_i1 (sat_rng hu) x
    · exact sat_bad
  | next it isS =>
    cases isS with
    | true => exact sat_bad
    | false =>
      rw [← funext (ex_vv (s := fun ρ => Instr.next (ρ it) false O.type) h (fun _ => by unfold execOp; rfl))]
      exact sat_i1 (sat_next O.type) it
  | entry it =>
    rw [← funext (ex_vv (s := fun ρ => Instr.entry (ρ it)) h (fun _ => by unfold execOp; rfl))]
    exact sat_i1 sat_entry it
  | extract x i =>
    rw [← funext (ex_vv (s := fun ρ => Instr.extract (ρ x) i) h (fun _ => by unfold execOp; rfl))]
    exact sat_i1 (sat_ext i) x
  | call c =>
    have hc : (match c.callee with | .builtin _ => false | _ => true) = false := hc
    split at hc
    · rename_i b hb; exact builtin_ok h hb
    · cases hc
  | _ => exact sat_bad
end
end Go.Proofs.YtefppgdfcnediaaGreat.X

/- Own executor, part 28: what makes nothing and writes nothing leaves its memory; values that are the same. -/
set_option linter.unusedVariables false
set_option linter.unusedSimpArgs false
set_option maxRecDepth 100000
namespace Go.Proofs.YtefppgdfcnediaaGreat.X
open Go Go.RowKit

def Same (F : Fo) : Prop := ∀ cl e h k, F cl e h k = F cl e h fun u _ => k u h
def Same1 (g : G1) : Prop := ∀ v h k, g v h k = g v h fun u _ => k u h
def Same2 (g : G2) : Prop := ∀ v v' h k, g v v' h k = g v v' h fun u _ => k u h
def SameN (g : GN) : Prop := ∀ l h k, g l h k = g l h fun u _ => k u h
theorem same_bad : Same iBad.f := fun _ _ _ _ => rfl
theorem same_only {b : Bool} {x : Bx Fo} (h : b = true → Same x.f) : Same (onlyIf b x).f := by
  cases b with
  | false => exact same_bad
  | true => exact h rfl
theorem same_i1 {g : G1} (hg : Same1 g) (x : Operand) : Same (i1 g x).f := by
  refine same_only fun _ => ?_
  intro cl e h k
  cases opdI x
  exact hg _ h k
theorem same_i2 {g : G2} (hg : Same2 g) (x y : Operand) : Same (i2 g x y).f := by
  refine same_only fun _ => same_only fun _ => ?_
  intro cl e h k
  cases opdI x; cases opdI y
  exact hg _ _ h k
theorem same_i2b {g : Bx G2} (hg : Same2 g.f) (x y : Operand) : Same (i2b g x y).f := by
  cases g
  exact same_i2 hg x y
theorem same_iN {g : GN} (hg : SameN g) (xs : List Operand) : Same (iN g xs).f := by
  refine same_only fun _ => ?_
  intro cl e h k
  cases opdL xs
  exact hg _ h k
theorem same_pk (c a b : Operand) : Same (iPk c a b).f := by
  refine same_only fun _ => ?_
  intro cl e h k
  cases opdI c; cases opdI a; cases opdI b
  rfl
theorem same_bi (op : BinOp) (w : WK) : Same2 (g_bi op w).f := by
  intro x y h k
  cases op <;> rfl
theorem same_bs (op : BinOp) : Same2 (g_bs op).f := by
  intro x y h k
  cases op <;> rfl
theorem same_bg (op : BinOp) (d : TypeDesc) (c s : Bool) (fl : Option (List Nat)) : Same2 (binG op d c s fl).f := by
  intro x y h k
  unfold binG
  split <;> rfl

theorem compI_same {op : Op} (hk : kindI op = 0) : Same (compI op).f := by
  cases op with
  | move x => exact same_i1 (fun _ _ _ => rfl) x
  | assign x => exact same_i1 (fun _ _ _ => rfl) x
  | pick c a b => exact same_pk c a b
  | build t ps =>
    show Same (match zrT t, undA t with
      | some z, some (.struct fs) => (match plcs fs.toList with
        | some pl => (match some_ pl (ps.toList.map fun p : Nat × Operand => p.1) with | some l => onlyIf (Nat.beq z.t 13) (iN (g_bld z.l l) (ps.toList.map fun p : Nat × Operand => p.2)) | none => iBad)
        | none => iBad)
      | some z, some (.array _ el) => (match szT el with | some w => onlyIf (Nat.beq z.t 13) (iN (g_bld z.l ((ps.toList.map fun p : Nat × Operand => p.1).map fun i => (i * w, w))) (ps.toList.map fun p : Nat × Operand => p.2)) | none => iBad)
      | _, _ => iBad).f
    split
    · split
      · split
        · exact same_only fun _ => same_iN (fun _ _ _ => rfl) _
        · exact same_bad
      · exact same_bad
    · split
      · exact same_only fun _ => same_iN (fun _ _ _ => rfl) _
      · exact same_bad
    · exact same_bad
  | load t a =>
    show Same (match szT t, agT t with | some n, some ag => i1 (g_load n ag) a | _, _ => iBad).f
    split
    · exact same_i1 (fun _ _ _ => rfl) a
    · exact same_bad
  | nilCheck x => exact same_i1 (fun _ _ _ => rfl) x
  | binOp op t x y ty =>
    show Same (match undA t with
      | some (.int k) => i2b (g_bi op (wkOf k)) x y
      | some .string => i2b (g_bs op) x y
      | some d => i2b (binG op d (orB (isC x) (isC y)) (szP d) (flT t d)) x y
      | none => iBad).f
    split
    · exact same_i2b (same_bi _ _) x y
    · exact same_i2b (same_bs _) x y
    · exact same_i2b (same_bg _ _ _ _ _) x y
    · exact same_bad
  | unOp op t x =>
    clear hk
    show Same (match op, undA t with
      | .not, _ => i1 g_not x
      | .neg, some (.int k) => i1 (g_neg (wkOf k)) x
      | .xor, some (.int k) => i1 (g_cpl (wkOf k)) x
      | _, _ => iBad).f
    split
    · exact same_i1 (fun _ _ _ => rfl) x
    · exact same_i1 (fun _ _ _ => rfl) x
    · exact same_i1 (fun _ _ _ => rfl) x
    · exact same_bad
  | convert s d x =>
    have hk : (match undA s, undA d with | some .string, some (.slice _) => 1 | _, _ => 0) = 0 := hk
    show Same (match undA s, undA d with
        | some (.int _), some (.int k) => i1 (g_cvtI (wkOf k)) x
        | some .string, some .string => i1 g_str x
        | some .string, some (.slice el) => onlyIf (isU8 el) (i1 g_s2b x)
        | some (.slice el), some .string => onlyIf (isU8 el) (i1 g_b2s x)
        | _, _ => iBad).f
    split
    · exact same_i1 (fun _ _ _ => rfl) x
    · exact same_i1 (fun _ _ _ => rfl) x
    · rename_i hs hd
      rw [hs, hd] at hk; cases hk
    · exact same_only fun _ => same_i1 (fun _ _ _ => rfl) x
    · exact same_bad
  | makeInterface t x =>
    show Same (match undA t with | some (.interface _) => iBad | some _ => i1 (g_ifc t) x | none => iBad).f
    split
    · exact same_bad
    · exact same_i1 (fun _ _ _ => rfl) x
    · exact same_bad
  | makeFunc fn fi ca =>
    cases fn with
    | func f => exact same_iN (fun _ _ _ => rfl) _
    | _ => exact same_bad
  | slice t x lo hi mx =>
    show Same (match undA t with
      | some .string => onlyIf mx.isNone (iN (g_slS lo.isSome hi.isSome) (x :: (lo.toList ++ hi.toList)))
      | some (.slice el) => (match szT el with | some w => iN (g_slL w lo.isSome hi.isSome mx.isSome) (x :: (lo.toList ++ (hi.toList ++ mx.toList))) | none => iBad)
      | some (.array n el) => (match szT el with | some w => onlyIf mx.isNone (iN (g_slA n w lo.isSome hi.isSome) (x :: (lo.toList ++ hi.toList))) | none => iBad)
      | _ => iBad).f
    split
    · exact same_only fun _ => same_iN (by cases lo <;> cases hi <;> exact fun _ _ _ => rfl) _
    · split
      · exact same_iN (by cases lo <;> cases hi <;> cases mx <;> exact fun _ _ _ => rfl) _
      · exact same_bad
    · split
      · exact same_only fun _ => same_iN (by cases lo <;> cases hi <;> exact fun _ _ _ => rfl) _
      · exact same_bad
    · exact same_bad
  | fieldAddr s x f =>
    show Same (match fdT s f with
      | some fd => (match szT fd.type with | some n => onlyIf (Nat.ble 1 n) (i1 (g_fadr fd.offset) x) | none => iBad)
      | none => iBad).f
    split
    · split
      · exact same_only fun _ => same_i1 (fun _ _ _ => rfl) x
      · exact same_bad
    · exact same_bad
  | field s x f =>
    show Same (match fdT s f with
      | some fd => (match szT fd.type, agT fd.type with | some n, some ag => i1 (g_field fd.offset n ag) x | _, _ => iBad)
      | none => iBad).f
    split
    · split
      · exact same_i1 (fun _ _ _ => rfl) x
      · exact same_bad
    · exact same_bad
  | indexAddr t x i =>
    show Same (match undA t with
      | some (.array n el) => (match szT el with | some w => i2 (g_ixA n w) x i | none => iBad)
      | some (.slice el) => (match szT el with | some w => i2 (g_ixS w) x i | none => iBad)
      | _ => iBad).f
    split
    · split
      · exact same_i2 (fun _ _ _ _ => rfl) x i
      · exact same_bad
    · split
      · exact same_i2 (fun _ _ _ _ => rfl) x i
      · exact same_bad
    · exact same_bad
  | index t x i =>
    show Same (match undA t with
      | some .string => i2 g_byte x i
      | some (.array n el) => (match szT el, agT el with | some w, some ag => i2 (g_elem n w ag) x i | _, _ => iBad)
      | _ => iBad).f
    split
    · exact same_i2 (fun _ _ _ _ => rfl) x i
    · split
      · exact same_i2 (fun _ _ _ _ => rfl) x i
      · exact same_bad
    · exact same_bad
  | lookup t x i cok =>
    show Same (match undA t with
      | some (.map ke el) => (match zrT el, keyT ke with | some z, some kt => i2 (g_look kt z cok) x i | _, _ => iBad)
      | _ => iBad).f
    split
    · split
      · exact same_i2 (fun _ _ _ _ => rfl) x i
      · exact same_bad
    · exact same_bad
  | typeAssert x xt t cok =>
    show Same (match undA t with | some (.interface _) => iBad | some _ => i1 (g_tas t cok) x | none => iBad).f
    split
    · exact same_bad
    · exact same_i1 (fun _ _ _ => rfl) x
    · exact same_bad
  | entry it => exact same_i1 (fun _ _ _ => rfl) it
  | extract x i => exact same_i1 (fun _ _ _ => rfl) x
  | call c =>
    obtain ⟨callee, args, ats⟩ := c
    cases callee with
    | value f => cases hk
    | invoke r n => cases hk
    | builtin b =>
      cases b with
      | len =>
        unfold compI
        dsimp only
        split
        all_goals first
          | contradiction
          | exact same_bad
          | (split <;> first | exact same_i1 (fun _ _ _ => rfl) _ | exact same_bad)
      | cap =>
        unfold compI
        dsimp only
        split
        all_goals first
          | contradiction
          | exact same_bad
          | (split <;> first | exact same_i1 (fun _ _ _ => rfl) _ | exact same_bad)
      | min =>
        unfold compI
        dsimp only
        split
        all_goals first
          | contradiction
          | exact same_bad
          | exact same_i2 (fun _ _ _ _ => rfl) _ _
      | max =>
        unfold compI
        dsimp only
        split
        all_goals first
          | contradiction
          | exact same_bad
          | exact same_i2 (fun _ _ _ _ => rfl) _ _
      | _ => cases hk
  | _ => cases hk
end Go.Proofs.YtefppgdfcnediaaGreat.X

/- Own executor, part 29: operations with their guards; calls. -/
set_option linter.unusedVariables false
set_option linter.unusedSimpArgs false
set_option maxRecDepth 100000
namespace Go.Proofs.YtefppgdfcnediaaGreat.X
open Go Go.RowKit

/-- What an operation looks at. -/
def OpsR (ops : Array Oper) (r : Gh) (e : Env) (a : Act) (o : Oper) : Prop := ∀ s ∈ M.slotsOf ops o, s < 512 → RV r ((gpB 3 s).f e) (a.tmps.getD s undef)
theorem OpsR.opd {ops : Array Oper} {r : Gh} {e : Env} {a : Act} {o : Oper} (h : OpsR ops r e a o) : ∀ x ∈ o.op.operands.toList, OpdR r e a x := by
  intro x hx t ht hlt
  subst ht
  exact h t (List.mem_append_left _ (List.mem_filterMap.2 ⟨_, hx, rfl⟩)) hlt
theorem EnvR.ops {r : Gh} {n : Nat} {e : Env} {a : Act} (h : EnvR r n e a) (ops : Array Oper) (o : Oper) : OpsR ops r e a o := fun s _ hs => h.get s hs

/-- The i-th operation, in a frame with slots like e, over a memory like H1: it comes to u and to H2. -/
def RealOp (ops : Array Oper) (i : Nat) (e : Env) (u : AV) (W1 : WX) (H1 : HS) (W2 : WX) (H2 : HS) : Prop :=
  ∀ (r : Gh) (a : Act) (w : World) (Q : Exit → Act → World → Prop) (K : Act → World → Prop), (∀ o, ops[i]? = some o → OpsR ops r e a o) → Rel W1 r H1 w →
    (∀ v r' w', Gh.le r r' → RV r' u v → Rel W2 r' H2 w' → K (a.put (M.dstOf ops i) v) w') → wpOp P ops Q i K a w

/-- What a call leaves. -/
def PostX (W : WX) (r : Gh) (u : AV) (h : HS) : Ending → World → Prop
  | .returned v, w' => ∃ r', Gh.le r r' ∧ RV r' u v ∧ Rel W r' h w'
  | .panicked _, _ => False
  | .outgrown, _ => False
def ClOK (cl : CL) : Prop := ∀ f args h k, cl f args h k = true → M.callable P f = true ∧ ∃ u h', k u h' = true ∧ ∀ W r w vs, RL r args vs → Rel W r h w → Calls P f vs.toArray w (PostX W r u h')

section
variable {ops : Array Oper} {i : Nat} {o : Oper} {e : Env} {h : HS} {k : K} {cl : CL}

theorem wp_of_out {W : WX} {r : Gh} {w : World} {a : Act} {u : AV} {h' : HS} {Q : Exit → Act → World → Prop} {K : Act → World → Prop} (hm : Out (execOp a.eval o) W r w u h')
    (hK : ∀ v r' w', Gh.le r r' → RV r' u v → Rel W r' h' w' → K (a.put o.dst v) w') : o.wp P a w K Q := by
  obtain ⟨y, r', w', hrun, h1, h2, h3⟩ := hm
  unfold Oper.wp
  rcases hrun with hrun | ⟨hrun, rfl⟩
  · rw [hrun]; exact hK y r' w' h1 h2 h3
  · rw [hrun]; exact hK undef r' w' h1 h2 h3
theorem wp_of_outA {W : WX} {r : Gh} {w : World} {a : Act} {u : AV} {h' : HS} {j : Nat} {Q : Exit → Act → World → Prop} {K : Act → World → Prop} (hm : OutA (execOp a.eval o) W r w j u h')
    (hK : ∀ v r' w', Gh.le r r' → RV r' u v → Rel (W.drop j) r' h' w' → K (a.put o.dst v) w') : o.wp P a w K Q := by
  obtain ⟨y, r', w', hrun, h1, h2, h3⟩ := hm
  unfold Oper.wp
  rw [hrun]; exact hK y r' w' h1 h2 h3

/-! ### Guards -/
theorem wanted_none (a : Act) (hg : o.guard = none) : Region.wanted o (yielded ops a.tmps) = true := by
  unfold Region.wanted; rw [hg]
theorem yields {r : Gh} {a : Act} {j s : Nat} {v : AV} (hd : (ops[j]?).bind (·.dst) = some s) (hv : RV r v (a.tmps.getD s undef)) : (v.t = 1 → yielded ops a.tmps j = some v.b) ∧ (v.t = 14 → yielded ops a.tmps j = none) := by
  unfold yielded
  rw [hd]
  simp only [Option.bind_some]
  refine ⟨fun ht => ?_, fun ht => ?_⟩
  · have := hv.b ht
    rw [Array.getD_eq_getD_getElem?] at this
    cases hq : a.tmps[s]? with
    | none => rw [hq] at this; cases this
    | some x => rw [hq] at this; simp only [Option.getD_some] at this; subst this; rfl
  · obtain ⟨l, hl, _⟩ := hv.tu ht
    rw [Array.getD_eq_getD_getElem?] at hl
    cases hq : a.tmps[s]? with
    | none => rfl
    | some x => rw [hq] at hl; simp only [Option.getD_some] at hl; subst hl; rfl
theorem grd_ok {v : AV} {w : Bool} {x y : Ans} (hk : grdV v w x y = true) : (v.t = 1 ∧ v.b = w ∧ x = true) ∨ (v.t = 1 ∧ v.b ≠ w ∧ y = true) ∨ (v.t = 14 ∧ y = true) := by
  unfold grdV at hk
  rw [brec] at hk
  split at hk
  · rename_i h1
    have h1 := beq_tt.1 h1
    cases hb : v.b <;> cases w <;> rw [hb] at hk
    · exact .inl ⟨h1, rfl, hk⟩
    · exact .inr (.inl ⟨h1, by simp, hk⟩)
    · exact .inr (.inl ⟨h1, by simp, hk⟩)
    · exact .inl ⟨h1, rfl, hk⟩
  · rw [tg_eq] at hk
    exact .inr (.inr hk)

/-- An operation with its guard: it goes, or it does not. -/
theorem gop_split (hi : ops[i]? = some o) (hk : (gopI ops.toList o).f cl e h k = true) :
    ((compI o.op).f cl e h k = true ∧ ∀ r a, OpsR ops r e a o → Region.wanted o (yielded ops a.tmps) = true) ∨
    (k aUnd h = true ∧ ∀ r a, OpsR ops r e a o → Region.wanted o (yielded ops a.tmps) = false) := by
  unfold gopI at hk
  split at hk
  · rename_i hg
    exact .inl ⟨hk, fun r a _ => wanted_none a hg⟩
  · rename_i j w hg
    split at hk
    · rename_i s hs
      rw [getO_eq, Array.getElem?_toList] at hs
      obtain ⟨h1, hk⟩ := onlyIf_ok hk
      have h1 := blt_tt.1 h1
      have e1 : (bx (compI o.op) fun f => bx (gpB 3 s) fun q => (⟨fun cl e h k => grdV (q e) w (f cl e h k) (k aUnd h)⟩ : Bx Fo)).f cl e h k = grdV ((gpB 3 s).f e) w ((compI o.op).f cl e h k) (k aUnd h) := by
        cases compI o.op; cases gpB 3 s; rfl
      rw [e1] at hk
      have hsl : s ∈ M.slotsOf ops o := by
        unfold M.slotsOf
        refine List.mem_append_right _ ?_
        rw [hg]
        have : M.dstOf ops j = some s := hs
        simp only [this]
        exact List.mem_singleton.2 rfl
      have hw : ∀ (a : Act), Region.wanted o (yielded ops a.tmps) = (yielded ops a.tmps j == some w) := by
        intro a; unfold Region.wanted; rw [hg]
      rcases grd_ok hk with ⟨g1, g2, g3⟩ | ⟨g1, g2, g3⟩ | ⟨g1, g3⟩
      · refine .inl ⟨g3, fun r a ha => ?_⟩
        rw [hw, (yields hs (ha s hsl h1)).1 g1, g2]
        simp
      · refine .inr ⟨g3, fun r a ha => ?_⟩
        rw [hw, (yields hs (ha s hsl h1)).1 g1]
        simp [g2]
      · refine .inr ⟨g3, fun r a ha => ?_⟩
        rw [hw, (yields hs (ha s hsl h1)).2 g1]
        simp
    · cases hk

theorem real_not (hi : ops[i]? = some o) (hw : ∀ r a, OpsR ops r e a o → Region.wanted o (yielded ops a.tmps) = false) (W : WX) (H : HS) : RealOp ops i e aUnd W H W H := by
  intro r a w Q K ho hR hK
  unfold wpOp
  rw [hi]
  simp only
  rw [if_neg (by rw [hw r a (ho o hi)]; simp)]
  have hd : M.dstOf ops i = o.dst := by unfold M.dstOf; rw [hi]; rfl
  rw [← hd]
  exact hK undef r w (Gh.le_refl r) (.und r) hR
theorem real_go {u : AV} {W1 W2 : WX} {H1 H2 : HS} (hi : ops[i]? = some o) (hw : ∀ r a, OpsR ops r e a o → Region.wanted o (yielded ops a.tmps) = true)
    (hgo : ∀ r a w Q K, OpsR ops r e a o → Rel W1 r H1 w → (∀ v r' w', Gh.le r r' → RV r' u v → Rel W2 r' H2 w' → K (a.put o.dst v) w') → o.wp P a w K Q) : RealOp ops i e u W1 H1 W2 H2 := by
  intro r a w Q K ho hR hK
  unfold wpOp
  rw [hi]
  simp only
  rw [if_pos (hw r a (ho o hi))]
  have hd : M.dstOf ops i = o.dst := by unfold M.dstOf; rw [hi]; rfl
  rw [hd] at hK
  exact .inl (hgo r a w Q K (ho o hi) hR hK)

/-! ### Calls -/
theorem method_run {t f : Nat} {name : String} (hm : methA t name = some f) (v : Value) (w : World) : (method (P.types.size + Made.depth) t v name).run P w = .ok (f, v) w := by
  unfold methA at hm
  split at hm
  · rename_i el ti hu ht
    split at hm
    · rename_i m hf
      split at hm
      · rename_i f' hp hfn
        simp only [Option.some.injEq] at hm; subst hm
        have hfind : ti.methods.find? (fun m => m.name == name) = some m := by rw [← hf]; simp
        have hsz : ∃ n, P.types.size + Made.depth = n + 1 := ⟨P.types.size + Made.depth - 1, by
          have : t < P.types.size := by rw [tyI_eq] at ht; exact (Array.getElem?_eq_some_iff.1 ht).1
          omega⟩
        obtain ⟨n, hn⟩ := hsz
        rw [hn]
        unfold method
        have hi := tyI_ok ht
        simp [typeInfo, hi, hfind, hp, follow, hfn, receiverAt, run_underlying (undA_ok hu), Place.get]
      · cases hm
    · cases hm
  · cases hm

theorem call_ok {c : Call} (hcl : ClOK cl) (hop : o.op = .call c) (hc : isCall (.call c) = true) (hk : (compI (.call c)).f cl e h k = true) :
    ∃ u h', k u h' = true ∧ ∀ (W : WX) (r : Gh) (a : Act) (w : World) (Q : Exit → Act → World → Prop) (K : Act → World → Prop), (∀ x ∈ (Op.call c).operands.toList, OpdR r e a x) → Rel W r h w →
      (∀ v r' w', Gh.le r r' → RV r' u v → Rel W r' h' w' → K (a.put o.dst v) w') → o.wp P a w K Q := by
  have fin : ∀ {f : Nat} {args : List AV} {u : AV} {h' : HS} (hcall : M.callable P f = true) (hsp : ∀ W r w vs, RL r args vs → Rel W r h w → Calls P f vs.toArray w (PostX W r u h'))
      {W : WX} {r : Gh} {a : Act} {w : World} {Q : Exit → Act → World → Prop} {K : Act → World → Prop} {vs : List Value} (hv : RL r args vs) (hR : Rel W r h w) (hrun : (execOp a.eval o).run P w = .ok (.enter f vs.toArray) w)
      (hK : ∀ v r' w', Gh.le r r' → RV r' u v → Rel W r' h' w' → K (a.put o.dst v) w'), o.wp P a w K Q := by
    intro f args u h' hcall hsp W r a w Q K vs hv hR hrun hK
    unfold Oper.wp
    rw [hrun]
    refine (hsp W r w vs hv hR).mono ?_
    intro en w' hp
    cases en with
    | returned v =>
      obtain ⟨r', k1, k2, k3⟩ := hp
      exact hK v r' w' k1 k2 k3
    | panicked c => exact hp.elim
    | outgrown => exact hp.elim
  obtain ⟨callee, args, ats⟩ := c
  cases callee with
  | builtin b => cases hc
  | value f =>
    have hk : (iCall f args.toList).f cl e h k = true := hk
    unfold iCall at hk
    obtain ⟨hok, hk⟩ := onlyIf_ok hk
    have hok : (Bool.rec false (opdsOk args.toList) (opdOk f) : Bool) = true := hok
    rw [brec] at hok
    split at hok
    · rename_i hfo
      have e1 : (bx (opdI f) fun f => bx (opdL args.toList) fun g => (⟨fun cl e h k => calV cl (f e) (g e) h k⟩ : Bx Fo)).f cl e h k = calV cl ((opdI f).f e) ((opdL args.toList).f e) h k := by
        cases opdI f; cases opdL args.toList; rfl
      rw [e1] at hk
      unfold calV at hk
      rw [tg_eq, appL_eq, appL_eq] at hk
      obtain ⟨h9, hk⟩ := hk
      obtain ⟨hcall, u, h', hk, hsp⟩ := hcl _ _ _ _ hk
      refine ⟨u, h', hk, fun W r a w Q K ho hR hK => ?_⟩
      have hf := opd_ok (ho f (by show f ∈ (Call.operands _).toList; simp [Call.operands])) hfo
      have has := opds_ok (fun x hx => ho x (by show x ∈ (Call.operands _).toList; simp [Call.operands]; exact .inr (by simpa using hx))) hok
      obtain ⟨fi, ca, hfv, hfi, hca⟩ := hf.f h9
      refine fin hcall hsp (hfi.app (has.app hca)) hR ?_ hK
      have hargs : (Array.mk fi ++ args.map a.eval) ++ Array.mk ca = (fi ++ (args.toList.map a.eval ++ ca)).toArray := by
        apply Array.ext'; simp
      simp only [execOp, hop, resolve, hfv, Deferred.ofValue, invoke, Sem.run_bind, Sem.run_pure, Result.andThen_ok, M.callFunc_enter hcall, hargs]
    · cases hok
  | invoke rv name =>
    have hk : (iInv name rv args.toList).f cl e h k = true := hk
    unfold iInv at hk
    obtain ⟨hok, hk⟩ := onlyIf_ok hk
    have hok : (Bool.rec false (opdsOk args.toList) (opdOk rv) : Bool) = true := hok
    rw [brec] at hok
    split at hok
    · rename_i hfo
      have e1 : (bx (opdI rv) fun r => bx (opdL args.toList) fun g => (⟨fun cl e h k => invV name cl (r e) (g e) h k⟩ : Bx Fo)).f cl e h k = invV name cl ((opdI rv).f e) ((opdL args.toList).f e) h k := by
        cases opdI rv; cases opdL args.toList; rfl
      rw [e1] at hk
      unfold invV at hk
      rw [tg_eq, getN_eq] at hk
      obtain ⟨h11, x, hx, hk⟩ := hk
      cases hm : methA ((opdI rv).f e).f.p name with
      | none => rw [hm] at hk; cases hk
      | some f =>
        rw [hm] at hk
        obtain ⟨hcall, u, h', hk, hsp⟩ := hcl _ _ _ _ hk
        refine ⟨u, h', hk, fun W r a w Q K ho hR hK => ?_⟩
        have hf := opd_ok (ho rv (by show rv ∈ (Call.operands _).toList; simp [Call.operands])) hfo
        have has := opds_ok (fun x hx => ho x (by show x ∈ (Call.operands _).toList; simp [Call.operands]; exact .inr (by simpa using hx))) hok
        obtain ⟨x', y, hl, hfv, hy⟩ := hf.ic h11
        rw [hl] at hx
        simp at hx; subst hx
        refine fin hcall hsp (vs := y :: args.toList.map a.eval) (.cons hy has) hR ?_ hK
        have hargs : #[y] ++ ((#[Value.iface ((opdI rv).f e).f.p y] ++ args.map a.eval).extract 1 (#[Value.iface ((opdI rv).f e).f.p y] ++ args.map a.eval).size) = (y :: args.toList.map a.eval).toArray := by
          apply Array.ext'
          simp
          exact List.take_of_length_le (by simp)
        have h0 : (#[Value.iface ((opdI rv).f e).f.p y] ++ args.map a.eval)[0]? = some (Value.iface ((opdI rv).f e).f.p y) := by
          rw [Array.getElem?_append_left (by simp)]; rfl
        simp only [execOp, hop, resolve, hfv, invoke, Sem.run_bind, Sem.run_pure, Result.andThen_ok, h0, callMethod, run_program, method_run hm, M.callFunc_enter hcall, hargs]
    · cases hok

/-- An operation, as it comes. -/
theorem gop_ok (hcl : ClOK cl) (hi : ops[i]? = some o) (hk : (gopI ops.toList o).f cl e h k = true) : ∃ u h', k u h' = true ∧ ∀ W, RealOp ops i e u W h W h' := by
  rcases gop_split hi hk with ⟨hk, hw⟩ | ⟨hk, hw⟩
  · cases hc : isCall o.op with
    | false =>
      obtain ⟨u, h', hk, hs⟩ := compI_ok (O := o) rfl hc cl e h k hk
      exact ⟨u, h', hk, fun W => real_go hi hw fun r a w Q K ho hR hK => wp_of_out (hs W r w a ho.opd hR) hK⟩
    | true =>
      cases hop : o.op with
      | call c =>
        rw [hop] at hk hc
        obtain ⟨u, h', hk, hs⟩ := call_ok hcl hop hc hk
        exact ⟨u, h', hk, fun W => real_go hi hw fun r a w Q K ho hR hK => hs W r a w Q K (by have := ho.opd; rw [hop] at this; exact this) hR hK⟩
      | _ => rw [hop] at hc; cases hc
  · exact ⟨aUnd, h, hk, fun W => real_not hi hw W h⟩
/-- One that makes a new block. -/
theorem gop_new (hi : ops[i]? = some o) (h1 : kindI o.op = 1) (hk : (gopI ops.toList o).f cl e h k = true) :
    (k aUnd h = true ∧ ∀ W H, RealOp ops i e aUnd W H W H) ∨ (∃ u p, h.nx < 32768 ∧ k u (h.new p) = true ∧ ∀ W H, W.x h.nx = some p → RealOp ops i e u W H (W.drop h.nx) H) := by
  rcases gop_split hi hk with ⟨hk, hw⟩ | ⟨hk, hw⟩
  · obtain ⟨u, p, h2, hk, hs⟩ := compI_new (O := o) rfl h1 cl e h k hk
    exact .inr ⟨u, p, h2, hk, fun W H hp => real_go hi hw fun r a w Q K ho hR hK => wp_of_outA (hs W r w a H ho.opd hR hp) hK⟩
  · exact .inl ⟨hk, fun W H => real_not hi hw W H⟩
/-- One that makes nothing and writes nothing. -/
theorem gop_same (h0 : kindI o.op = 0) (all : List Oper) : (gopI all o).f cl e h k = (gopI all o).f cl e h fun u _ => k u h := by
  have hs := compI_same h0
  unfold gopI
  split
  · exact hs cl e h k
  · split
    · rename_i s _
      cases Nat.blt s 512 with
      | false => rfl
      | true =>
        have e1 : ∀ k : K, (onlyIf true (bx (compI o.op) fun f => bx (gpB 3 s) fun q => (⟨fun cl e h k => grdV (q e) ‹Bool› (f cl e h k) (k aUnd h)⟩ : Bx Fo))).f cl e h k = grdV ((gpB 3 s).f e) ‹Bool› ((compI o.op).f cl e h k) (k aUnd h) := by
          intro k
          show (bx (compI o.op) fun f => bx (gpB 3 s) fun q => (⟨fun cl e h k => grdV (q e) ‹Bool› (f cl e h k) (k aUnd h)⟩ : Bx Fo)).f cl e h k = _
          cases compI o.op; cases gpB 3 s; rfl
        rw [e1, e1, hs cl e h k]
    · rfl
end
end Go.Proofs.YtefppgdfcnediaaGreat.X

/- Own executor, part 30: a region carried out in one order; values that are the same; what is looked at once more. -/
set_option linter.unusedVariables false
set_option linter.unusedSimpArgs false
set_option maxRecDepth 100000
namespace Go.Proofs.YtefppgdfcnediaaGreat.X
open Go Go.RowKit

theorem anB_eq {a b : Bool} : anB a b = true ↔ a = true ∧ b = true := by unfold anB; cases a <;> simp
theorem forceL_eq {β : Type} : ∀ (l : List Nat) (k : List Nat → β), forceL l k = k l
  | [], k => rfl
  | x :: l, k => by
    show forceA x (fun x => forceL l fun r => k (x :: r)) = _
    rw [forceA_eq, forceL_eq l]

/-! ### The same value -/
theorem eqRF_ok {x y : RF} (h : eqRF x y = true) : x = y := by
  unfold eqRF at h
  rw [anB_eq, anB_eq, anB_eq, anB_eq, anB_eq, beq_tt, beq_tt, beq_tt, beq_tt, beq_tt, beq_tt] at h
  obtain ⟨h1, h2, h3, h4, h5, h6⟩ := h
  cases x; cases y
  simp only at h1 h2 h3 h4 h5 h6
  subst h1; subst h2; subst h3; subst h4; subst h5; subst h6
  rfl
theorem bEq_ok {x y : Bool} (h : bEq x y = true) : x = y := by cases x <;> cases y <;> first | rfl | cases h
def SameV (f : AV → AV → Bool) : Prop := ∀ x y, f x y = true → x.t = y.t ∧ ∀ r v, RV r x v → RV r y v
theorem eqLs_ok {f : AV → AV → Bool} (hf : SameV f) : ∀ {l m : List AV}, eqLs f l m = true → (Fl l → Fl m) ∧ l.length = m.length ∧ ∀ r vs, RL r l vs → RL r m vs
  | [], [], h => ⟨id, rfl, fun r vs h => h⟩
  | [], _ :: _, h => by cases h
  | _ :: _, [], h => by cases h
  | x :: l, y :: m, h => by
    have h : anB (f x y) (eqLs f l m) = true := h
    rw [anB_eq] at h
    obtain ⟨k1, k2⟩ := hf x y h.1
    obtain ⟨k3, k4, k5⟩ := eqLs_ok hf h.2
    refine ⟨fun hl v hv => ?_, by simp [k4], fun r vs hx => ?_⟩
    · rcases List.mem_cons.1 hv with rfl | hv
      · rw [← k1]; exact hl x List.mem_cons_self
      · exact k3 (fun u hu => hl u (List.mem_cons_of_mem _ hu)) v hv
    · cases hx with
      | cons a b => exact .cons (k2 r _ a) (k5 r _ b)
theorem eqV_ok : ∀ d, SameV (eqV d)
  | 0, x, y, h => by cases h
  | d + 1, x, y, h => by
    have h : anB (Nat.beq x.t y.t) (anB (Nat.blt x.t 16) (anB (eqI x.n y.n) (anB (Nat.beq (knF x.k) (knF y.k)) (anB (bEq x.b y.b) (anB (eqS x.s y.s) (anB (eqRF x.f y.f) (anB (eqLs (eqV d) x.l y.l) (eqLs (eqV d) x.m y.m)))))))) = true := h
    rw [anB_eq, anB_eq, anB_eq, anB_eq, anB_eq, anB_eq, anB_eq, anB_eq, beq_tt, blt_tt, eqI_eq, beq_iff_eq, beq_tt, eqS_eq, beq_iff_eq] at h
    obtain ⟨et, e15, en, ek, eb, es, ef, el, em⟩ := h
    have ek := knF_inj ek
    have eb := bEq_ok eb
    have ef := eqRF_ok ef
    obtain ⟨l1, l2, l3⟩ := eqLs_ok (eqV_ok d) el
    obtain ⟨m1, m2, m3⟩ := eqLs_ok (eqV_ok d) em
    refine ⟨et, fun r v hv => ?_⟩
    cases hv with
    | int a => rw [en, ek]; exact .int (et ▸ a)
    | bool a => rw [eb]; exact .bool (et ▸ a)
    | str a b => exact .str (et ▸ a) (es ▸ b)
    | nilP a => exact .nilP (et ▸ a)
    | ptr a b => rw [ef]; rw [ef] at b; exact .ptr (et ▸ a) b
    | nilS a => exact .nilS (et ▸ a)
    | slK a b c d e f => rw [ef] at *; exact .slK (et ▸ a) b c d e f
    | slO a b c d e f => rw [ef] at *; exact .slO (et ▸ a) b c d e f
    | nilM a => exact .nilM (et ▸ a)
    | map a b => rw [ef] at b; exact .map (et ▸ a) b
    | fn a b c => rw [ef]; exact .fn (et ▸ a) (l3 r _ b) (m3 r _ c)
    | nilF a => exact .nilF (et ▸ a)
    | ifc a b c =>
      rw [ef]
      rename_i u z
      cases hy : y.l with
      | nil => rw [b, hy] at l2; cases l2
      | cons u' t => cases t with
        | cons => rw [b, hy] at l2; cases l2
        | nil =>
          have := l3 r [z] (by rw [b]; exact .one c)
          rw [hy] at this
          cases this with
          | cons q _ => exact .ifc (et ▸ a) hy q
    | nilI a => exact .nilI (et ▸ a)
    | agg a b c => exact .agg (et ▸ a) (l1 b) (l3 r _ c)
    | tup a b => exact .tup (et ▸ a) (l3 r _ b)
    | ext a b =>
      rw [ef] at b ⊢
      exact .ext (et ▸ a) b

/-! ### One order -/
/-- The slots behind the i-th operation. -/
noncomputable def dput (ops : Array Oper) (i : Nat) (u : AV) (e : Env) : Env := match M.dstOf ops i with | some d => (spB 3 d).f u e | none => e
theorem dsI_eq {ops : Array Oper} {i : Nat} {o : Oper} (hi : ops[i]? = some o) (u : AV) (e : Env) : (dsI o).f u e = dput ops i u e := by
  unfold dsI dput M.dstOf
  rw [hi]
  simp only [Option.bind_some]
  cases o.dst <;> rfl
/-- What a step is: with these slots and this memory, to this value and this memory. -/
def StepR (N : Nat) (ops : Array Oper) (i : Nat) (e : Env) (h : HS) (u : AV) (h1 : HS) : Prop :=
  ∃ o, ops[i]? = some o ∧ dsOk N o = true ∧ ((kindI o.op = 0 ∧ h1 = h) ∨
    (kindI o.op = 1 ∧ ((h1 = h ∧ ∀ W H, RealOp ops i e u W H W H) ∨ ∃ p, h.nx < 32768 ∧ h1 = h.new p ∧ ∀ W H, W.x h.nx = some p → RealOp ops i e u W H (W.drop h.nx) H)) ∨
    (kindI o.op ≠ 0 ∧ kindI o.op ≠ 1 ∧ ∀ W, RealOp ops i e u W h W h1))
def Chain (N : Nat) (ops : Array Oper) : List Nat → Env → HS → List RD → Env → HS → Prop
  | [], e, h, [], e', h' => e' = e ∧ h' = h
  | i :: is, e, h, r :: rs, e', h' => r.e = e ∧ r.h = h ∧ ∃ h1, StepR N ops i e h r.u h1 ∧ h.nx ≤ h1.nx ∧ Chain N ops is (dput ops i r.u e) h1 rs e' h'
  | [], _, _, _ :: _, _, _ => False
  | _ :: _, _, _, [], _, _ => False
theorem runI_ok {N : Nat} {ops : Array Oper} {cl : CL} (hcl : ClOK cl) {k : K3} : ∀ {ord : List Nat} {acc : List RD} {e : Env} {h : HS}, (runI N ops.toList ord).f cl k acc e h = true →
    ∃ rs e' h', k (rs.reverse ++ acc) e' h' = true ∧ Chain N ops ord e h rs e' h'
  | [], acc, e, h, hk => ⟨[], e, h, hk, rfl, rfl⟩
  | i :: is, acc, e, h, hk => by
    have e0 : runI N ops.toList (i :: is) = (match getO i ops.toList with
      | some o => Bool.rec ⟨fun _ _ _ _ _ => bad⟩ (bx (gopI ops.toList o) fun f => bx (dsI o) fun d => bx (runI N ops.toList is) fun g => ⟨fun cl k acc e h => f cl e h fun u h' => andB (Nat.ble h.nx h'.nx) (g cl k (⟨e, h, u⟩ :: acc) (d u e) h')⟩) (dsOk N o)
      | none => ⟨fun _ _ _ _ _ => bad⟩) := rfl
    rw [e0] at hk
    cases ho : getO i ops.toList with
    | none => rw [ho] at hk; cases hk
    | some o =>
      rw [ho] at hk
      simp only at hk
      have hi : ops[i]? = some o := by rw [getO_eq, Array.getElem?_toList] at ho; exact ho
      cases hd : dsOk N o with
      | false => rw [hd] at hk; cases hk
      | true =>
        rw [hd] at hk
        have e1 : (bx (gopI ops.toList o) fun f => bx (dsI o) fun d => bx (runI N ops.toList is) fun g => (⟨fun cl k acc e h => f cl e h fun u h' => andB (Nat.ble h.nx h'.nx) (g cl k (⟨e, h, u⟩ :: acc) (d u e) h')⟩ : Bx (CL → K3 → K3))).f cl k acc e h =
            (gopI ops.toList o).f cl e h fun u h' => andB (Nat.ble h.nx h'.nx) ((runI N ops.toList is).f cl k (⟨e, h, u⟩ :: acc) ((dsI o).f u e) h') := by
          cases gopI ops.toList o; cases dsI o; cases runI N ops.toList is; rfl
        have hk : ((gopI ops.toList o).f cl e h fun u h' => andB (Nat.ble h.nx h'.nx) ((runI N ops.toList is).f cl k (⟨e, h, u⟩ :: acc) ((dsI o).f u e) h')) = true := by rw [← e1]; exact hk
        have fin : ∀ (u : AV) (h1 : HS), StepR N ops i e h u h1 → andB (Nat.ble h.nx h1.nx) ((runI N ops.toList is).f cl k (⟨e, h, u⟩ :: acc) ((dsI o).f u e) h1) = true → ∃ rs e' h', k (rs.reverse ++ acc) e' h' = true ∧ Chain N ops (i :: is) e h rs e' h' := by
          intro u h1 hs hk
          rw [andB_eq, ble_tt] at hk
          obtain ⟨hnx, hk⟩ := hk
          obtain ⟨rs, e', h', k1, k2⟩ := runI_ok hcl hk
          rw [dsI_eq hi] at k2
          refine ⟨⟨e, h, u⟩ :: rs, e', h', ?_, rfl, rfl, h1, hs, hnx, k2⟩
          rw [List.reverse_cons, List.append_assoc]; exact k1
        by_cases h0 : kindI o.op = 0
        · rw [gop_same h0] at hk
          obtain ⟨u, h', hk, _⟩ := gop_ok hcl hi hk
          exact fin u h ⟨o, hi, hd, .inl ⟨h0, rfl⟩⟩ hk
        · by_cases h1 : kindI o.op = 1
          · rcases gop_new hi h1 hk with ⟨hk, hw⟩ | ⟨u, p, hn, hk, hw⟩
            · exact fin aUnd h ⟨o, hi, hd, .inr (.inl ⟨h1, .inl ⟨rfl, hw⟩⟩)⟩ hk
            · exact fin u _ ⟨o, hi, hd, .inr (.inl ⟨h1, .inr ⟨p, hn, rfl, hw⟩⟩)⟩ hk
          · obtain ⟨u, h', hk, hw⟩ := gop_ok hcl hi hk
            exact fin u h' ⟨o, hi, hd, .inr (.inr ⟨h0, h1, hw⟩)⟩ hk

/-! ### Once more -/
def AtT (n T : Nat) (acc : List RD) (h H : HS) : Prop := (T = n ∧ H = h) ∨ (T ≠ n ∧ ∃ r, acc[n - 1 - T]? = some r ∧ H = r.h)
theorem atT_ok {n T : Nat} {acc : List RD} {h : HS} {k : HS → Ans} (hk : atT n T acc h k = true) : ∃ H, AtT n T acc h H ∧ k H = true := by
  unfold atT at hk
  rw [brec] at hk
  split at hk
  · rename_i h1
    exact ⟨h, .inl ⟨beq_tt.1 h1, rfl⟩, hk⟩
  · rename_i h1
    rw [getN_eq] at hk
    obtain ⟨r, h2, hk⟩ := hk
    exact ⟨r.h, .inr ⟨fun e => h1 (beq_tt.2 e), r, h2, rfl⟩, hk⟩
open Classical in
theorem ck1_ok {ops : Array Oper} {i : Nat} {o : Oper} {cl : CL} (hcl : ClOK cl) (hi : ops[i]? = some o) (h0 : kindI o.op = 0) {n : Nat} {r : RD} {acc : List RD} {h : HS} {x : Ans} :
    ∀ {Ts : List Nat}, ck1 (gopI ops.toList o).f n Ts cl r acc h x = true → x = true ∧ ∀ T ∈ Ts, ∃ H, AtT n T acc h H ∧ ∀ W, RealOp ops i r.e r.u W H W H
  | [], hk => ⟨hk, fun T hT => by cases hT⟩
  | T :: Ts, hk => by
    have hk : (atT n T acc h fun H => (gopI ops.toList o).f cl r.e H fun u _ => Bool.rec bad (ck1 (gopI ops.toList o).f n Ts cl r acc h x) (eqV 12 u r.u)) = true := hk
    obtain ⟨H, hH, hk⟩ := atT_ok hk
    generalize hX : ck1 (gopI ops.toList o).f n Ts cl r acc h x = X at hk
    have hk2 : ((gopI ops.toList o).f cl r.e H fun u h' => decide ((Bool.rec bad X (eqV 12 u r.u) : Ans) = true ∧ h' = H)) = true := by
      rw [gop_same h0]
      have : (fun (u : AV) (_ : HS) => decide ((Bool.rec bad X (eqV 12 u r.u) : Ans) = true ∧ H = H)) = fun u _ => (Bool.rec bad X (eqV 12 u r.u) : Ans) := by
        funext u _
        cases (Bool.rec bad X (eqV 12 u r.u) : Ans) <;> simp
      rw [this]; exact hk
    obtain ⟨u, h', q1, q2⟩ := gop_ok hcl hi hk2
    rw [decide_eq_true_iff] at q1
    obtain ⟨q3, rfl⟩ := q1
    rw [brec] at q3
    split at q3
    · rename_i hv
      rw [← hX] at q3
      obtain ⟨k1, k2⟩ := ck1_ok hcl hi h0 q3
      refine ⟨k1, fun T' hT => ?_⟩
      rcases List.mem_cons.1 hT with rfl | hT
      · refine ⟨h', hH, fun W ρ a w Q K ho hR hK => ?_⟩
        exact q2 W ρ a w Q K ho hR fun v r' w' m1 m2 m3 => hK v r' w' m1 ((eqV_ok 12 u r.u hv).2 r' v m2) m3
      · exact k2 T' hT
    · cases q3
theorem cksI_ok {ops : Array Oper} {cl : CL} (hcl : ClOK cl) {n : Nat} {acc : List RD} {h : HS} {x : Ans} : ∀ {cs : List (Nat × Bx Fo × List Nat)}, (∀ c ∈ cs, ∃ (i : Nat) (o : Oper), ops[i]? = some o ∧ kindI o.op = 0 ∧ c.2.1 = gopI ops.toList o) → (cksI n cs).f cl acc h x = true →
    x = true ∧ ∀ c ∈ cs, ∃ r, acc[n - 1 - c.1]? = some r ∧ ∀ (i : Nat) (o : Oper), ops[i]? = some o → kindI o.op = 0 → c.2.1 = gopI ops.toList o → ∀ T ∈ c.2.2, ∃ H, AtT n T acc h H ∧ ∀ W, RealOp ops i r.e r.u W H W H
  | [], _, hk => ⟨hk, fun c hc => by cases hc⟩
  | c :: cs, hcs, hk => by
    have e1 : (cksI n (c :: cs)).f cl acc h x = getN (Nat.sub (Nat.sub n 1) c.1) acc fun r => ck1 c.2.1.f n c.2.2 cl r acc h ((cksI n cs).f cl acc h x) := by
      show (bx c.2.1 fun F => bx (cksI n cs) fun g => (⟨fun cl acc h x => getN (Nat.sub (Nat.sub n 1) c.1) acc fun r => ck1 F n c.2.2 cl r acc h (g cl acc h x)⟩ : Bx (CL → List RD → HS → Ans → Ans))).f cl acc h x = _
      cases c.2.1; cases cksI n cs; rfl
    rw [e1, getN_eq] at hk
    obtain ⟨r, hr, hk⟩ := hk
    obtain ⟨i, o, hi, h0, hc⟩ := hcs c List.mem_cons_self
    have hk0 := hk
    rw [hc] at hk
    obtain ⟨k1, _⟩ := ck1_ok hcl hi h0 hk
    obtain ⟨k3, k4⟩ := cksI_ok hcl (fun c' hc' => hcs c' (List.mem_cons_of_mem _ hc')) k1
    refine ⟨k3, fun c' hc' => ?_⟩
    rcases List.mem_cons.1 hc' with rfl | hc'
    · refine ⟨r, hr, fun i' o' hi' h0' hc'' => ?_⟩
      rw [hc''] at hk0
      exact (ck1_ok hcl hi' h0' hk0).2
    · exact k4 c' hc'
end Go.Proofs.YtefppgdfcnediaaGreat.X

/- Own executor, part 31: a region carried out in one order: times, slots, blocks that are made later. -/
set_option linter.unusedVariables false
set_option linter.unusedSimpArgs false
set_option maxRecDepth 100000
namespace Go.Proofs.YtefppgdfcnediaaGreat.X
open Go Go.RowKit

/-- The memory, and the slots, at a time. -/
noncomputable def memAt (rs : List RD) (h' : HS) (p : Nat) : HS := match rs[p]? with | some r => r.h | none => h'
noncomputable def envAt (rs : List RD) (e' : Env) (p : Nat) : Env := match rs[p]? with | some r => r.e | none => e'

section
variable {N : Nat} {ops : Array Oper}
theorem Chain.len : ∀ {ord : List Nat} {e : Env} {h : HS} {rs : List RD} {e' : Env} {h' : HS}, Chain N ops ord e h rs e' h' → rs.length = ord.length
  | [], e, h, [], e', h', _ => rfl
  | i :: is, e, h, r :: rs, e', h', ⟨_, _, _, _, _, hc⟩ => congrArg Nat.succ hc.len
  | [], _, _, _ :: _, _, _, h => h.elim
  | _ :: _, _, _, [], _, _, h => h.elim
theorem Chain.start : ∀ {ord : List Nat} {e : Env} {h : HS} {rs : List RD} {e' : Env} {h' : HS}, Chain N ops ord e h rs e' h' → memAt rs h' 0 = h ∧ envAt rs e' 0 = e
  | [], e, h, [], e', h', ⟨h1, h2⟩ => ⟨h2, h1⟩
  | i :: is, e, h, r :: rs, e', h', ⟨h1, h2, _⟩ => ⟨h2, h1⟩
  | [], _, _, _ :: _, _, _, h => h.elim
  | _ :: _, _, _, [], _, _, h => h.elim
theorem Chain.step : ∀ {ord : List Nat} {e : Env} {h : HS} {rs : List RD} {e' : Env} {h' : HS}, Chain N ops ord e h rs e' h' → ∀ p i, ord[p]? = some i →
    ∃ r, rs[p]? = some r ∧ StepR N ops i r.e r.h r.u (memAt rs h' (p + 1)) ∧ envAt rs e' (p + 1) = dput ops i r.u r.e ∧ r.h.nx ≤ (memAt rs h' (p + 1)).nx
  | [], e, h, [], e', h', _, p, i, hp => by simp at hp
  | j :: is, e, h, r :: rs, e', h', ⟨h1, h2, m, h3, h4, hc⟩, 0, i, hp => by
    simp at hp; subst hp
    obtain ⟨k1, k2⟩ := hc.start
    have e1 : memAt (r :: rs) h' (0 + 1) = memAt rs h' 0 := rfl
    have e2 : envAt (r :: rs) e' (0 + 1) = envAt rs e' 0 := rfl
    refine ⟨r, rfl, ?_, ?_, ?_⟩
    · rw [e1, k1, h1, h2]; exact h3
    · rw [e2, k2, h1]
    · rw [e1, k1, h2]; exact h4
  | j :: is, e, h, r :: rs, e', h', ⟨h1, h2, m, h3, h4, hc⟩, p + 1, i, hp => by
    obtain ⟨r', k1, k2, k3, k4⟩ := hc.step p i (by simpa using hp)
    exact ⟨r', by simpa using k1, k2, k3, k4⟩
  | [], _, _, _ :: _, _, _, h, _, _, _ => h.elim
  | _ :: _, _, _, [], _, _, h, _, _, _ => h.elim

theorem rec_mem {rs : List RD} {p : Nat} {r : RD} (h : rs[p]? = some r) (h' : HS) : memAt rs h' p = r.h := by unfold memAt; rw [h]
theorem rec_env {rs : List RD} {p : Nat} {r : RD} (h : rs[p]? = some r) (e' : Env) : envAt rs e' p = r.e := by unfold envAt; rw [h]

/-! ### Slots -/
theorem dsOk_ok {N d : Nat} {o : Oper} (h : dsOk N o = true) (hd : o.dst = some d) : d < 512 ∧ d < N := by
  unfold dsOk at h
  rw [hd] at h
  have h : (Bool.rec false (Nat.blt d 512) (Nat.blt d N) : Bool) = true := h
  rw [brec] at h
  split at h
  · rename_i h1; exact ⟨blt_tt.1 h, blt_tt.1 h1⟩
  · cases h
theorem dput_slot {i s : Nat} {u : AV} {e : Env} {o : Oper} (hi : ops[i]? = some o) (hd : dsOk N o = true) (hs : s < 512) :
    (M.dstOf ops i = some s → (gpB 3 s).f (dput ops i u e) = u) ∧ (M.dstOf ops i ≠ some s → (gpB 3 s).f (dput ops i u e) = (gpB 3 s).f e) := by
  have hdo : M.dstOf ops i = o.dst := by unfold M.dstOf; rw [hi]; rfl
  unfold dput
  cases hq : M.dstOf ops i with
  | none => exact ⟨fun h => (by cases h), fun _ => rfl⟩
  | some d =>
    have hlt : d < 512 := (dsOk_ok hd (by rw [← hdo]; exact hq)).1
    have hg := gp_sp 3 s d (by rw [p8]; exact hs) (by rw [p8]; exact hlt) u e
    refine ⟨fun h => ?_, fun h => ?_⟩
    · simp only [Option.some.injEq] at h
      exact hg.trans (if_pos h.symm)
    · exact hg.trans (if_neg (fun e => h (by rw [e])))

variable {ord : List Nat} {e : Env} {h : HS} {rs : List RD} {e' : Env} {h' : HS}
theorem Chain.old (hc : Chain N ops ord e h rs e' h') {s : Nat} (hs : s < 512) : ∀ p, p ≤ ord.length → (∀ q i, q < p → ord[q]? = some i → M.dstOf ops i ≠ some s) → (gpB 3 s).f (envAt rs e' p) = (gpB 3 s).f e
  | 0, _, _ => by rw [hc.start.2]
  | p + 1, hp, hn => by
    have hlt : p < ord.length := hp
    obtain ⟨r, k1, ⟨o, k2, k3, _⟩, k4, _⟩ := hc.step p _ (List.getElem?_eq_getElem hlt)
    rw [k4, (dput_slot k2 k3 hs).2 (hn p _ (Nat.lt_succ_self p) (List.getElem?_eq_getElem hlt)), ← rec_env k1 e']
    exact Chain.old hc hs p (by omega) fun q i hq => hn q i (by omega)
theorem Chain.new (hc : Chain N ops ord e h rs e' h') {s q i : Nat} {r : RD} (hs : s < 512) (hq : ord[q]? = some i) (hr : rs[q]? = some r) (hd : M.dstOf ops i = some s) : ∀ p, q < p → p ≤ ord.length → (∀ q' j, q < q' → q' < p → ord[q']? = some j → M.dstOf ops j ≠ some s) → (gpB 3 s).f (envAt rs e' p) = r.u
  | 0, h1, _, _ => by omega
  | p + 1, h1, hp, hn => by
    have hlt : p < ord.length := hp
    obtain ⟨r', k1, ⟨o, k2, k3, _⟩, k4, _⟩ := hc.step p _ (List.getElem?_eq_getElem hlt)
    rw [k4]
    by_cases hpq : p = q
    · subst hpq
      rw [hr, Option.some.injEq] at k1; subst k1
      have : ord[p] = i := by rw [List.getElem?_eq_getElem hlt, Option.some.injEq] at hq; exact hq
      rw [this] at k2 k4 ⊢
      exact (dput_slot k2 k3 hs).1 hd
    · rw [(dput_slot k2 k3 hs).2 (hn p _ (by omega) (Nat.lt_succ_self p) (List.getElem?_eq_getElem hlt)), ← rec_env k1 e']
      exact Chain.new hc hs hq hr hd p (by omega) (by omega) fun q' j h1 h2 => hn q' j h1 (by omega)
theorem Chain.nx (hc : Chain N ops ord e h rs e' h') : ∀ p q, p ≤ q → q ≤ ord.length → (memAt rs h' p).nx ≤ (memAt rs h' q).nx
  | p, 0, h1, _ => by rw [Nat.le_zero.1 h1]; exact Nat.le_refl _
  | p, q + 1, h1, h2 => by
    by_cases he : p = q + 1
    · rw [he]; exact Nat.le_refl _
    · have hlt : q < ord.length := h2
      obtain ⟨r, k1, _, _, k4⟩ := hc.step q _ (List.getElem?_eq_getElem hlt)
      rw [← rec_mem k1 h'] at k4
      exact Nat.le_trans (Chain.nx hc p q (by omega) (by omega)) k4
end

/-! ### Blocks that are made later -/
theorem Rel.less {W : World} {X X' : Nat → Option AO} {r : Gh} {h : HS} {w : World} (hR : Rel ⟨W, X⟩ r h w) (hx : ∀ j o, X' j = some o → X j = some o) : Rel ⟨W, X'⟩ r h w :=
  ⟨hR.below, hR.nx, hR.dom, hR.inj, hR.blk, hR.fl, fun i o hi => hR.pen i o (hx i o hi)⟩

/-- The block that the operation at time p makes. -/
noncomputable def alAt (ops : Array Oper) (ord : List Nat) (M : Nat → HS) (p : Nat) : Option (Nat × AO) :=
  match ord[p]?.bind (ops[·]?) with
  | some o => if kindI o.op = 1 ∧ (M p).nx ≠ (M (p + 1)).nx then some ((M p).nx, (M (p + 1)).get (M p).nx) else none
  | none => none
/-- The blocks that are still to be made, at time t, when S have come up. -/
def PXc (ops : Array Oper) (ord : List Nat) (M : Nat → HS) (S : Nat → Prop) (t j : Nat) (o : AO) : Prop := ∃ p i, p < t ∧ ord[p]? = some i ∧ alAt ops ord M p = some (j, o) ∧ ¬ S i
open Classical in
noncomputable def PX (x : Nat → Option AO) (ops : Array Oper) (ord : List Nat) (M : Nat → HS) (S : Nat → Prop) (t : Nat) : Nat → Option AO := fun j =>
  if hq : ∃ o, PXc ops ord M S t j o then some (Classical.choose hq) else x j

section
variable {N : Nat} {ops : Array Oper} {ord : List Nat} {e : Env} {h : HS} {rs : List RD} {e' : Env} {h' : HS} {x : Nat → Option AO}

theorem al_id {M : Nat → HS} {p j : Nat} {o : AO} (h : alAt ops ord M p = some (j, o)) : j = (M p).nx ∧ (M p).nx ≠ (M (p + 1)).nx ∧ o = (M (p + 1)).get j ∧ ∃ i q, ord[p]? = some i ∧ ops[i]? = some q ∧ kindI q.op = 1 := by
  unfold alAt at h
  split at h
  · rename_i q hq
    split at h
    · rename_i hk
      simp only [Option.some.injEq, Prod.mk.injEq] at h
      obtain ⟨rfl, rfl⟩ := h
      cases ho : ord[p]? with
      | none => rw [ho] at hq; cases hq
      | some i => rw [ho] at hq; exact ⟨rfl, hk.2, rfl, i, q, rfl, hq, hk.1⟩
    · cases h
  · cases h

theorem al_inj (hc : Chain N ops ord e h rs e' h') {p q j : Nat} {o o' : AO} (hp : alAt ops ord (memAt rs h') p = some (j, o)) (hq : alAt ops ord (memAt rs h') q = some (j, o')) : p = q ∧ o = o' := by
  obtain ⟨a1, a2, a3, i, _, a4, _⟩ := al_id hp
  obtain ⟨b1, b2, b3, i', _, b4, _⟩ := al_id hq
  have l1 : p < ord.length := (List.getElem?_eq_some_iff.1 a4).1
  have l2 : q < ord.length := (List.getElem?_eq_some_iff.1 b4).1
  have key : ∀ p q, p < q → q < ord.length → (memAt rs h' p).nx ≠ (memAt rs h' (p + 1)).nx → (memAt rs h' p).nx ≠ (memAt rs h' q).nx := by
    intro p q h1 h2 h3 h4
    have k1 := hc.nx p (p + 1) (by omega) (by omega)
    have k2 := hc.nx (p + 1) q (by omega) (by omega)
    omega
  have hpq : p = q := by
    rcases Nat.lt_trichotomy p q with hl | hl | hl
    · exact absurd (a1.symm.trans b1) (key p q hl l2 a2)
    · exact hl
    · exact absurd (b1.symm.trans a1) (key q p hl l1 b2)
  refine ⟨hpq, ?_⟩
  subst hpq
  rw [a3, b3]

theorem PX_of (hc : Chain N ops ord e h rs e' h') {S : Nat → Prop} {t j : Nat} {o : AO} (hp : PXc ops ord (memAt rs h') S t j o) : PX x ops ord (memAt rs h') S t j = some o := by
  unfold PX
  have hq : ∃ o, PXc ops ord (memAt rs h') S t j o := ⟨o, hp⟩
  rw [dif_pos hq]
  obtain ⟨p, i, _, _, a, _⟩ := hp
  obtain ⟨q, i', _, _, b, _⟩ := Classical.choose_spec hq
  rw [(al_inj hc b a).2]
theorem PX_or {S : Nat → Prop} {M : Nat → HS} {t j : Nat} {o : AO} (hp : PX x ops ord M S t j = some o) : PXc ops ord M S t j o ∨ ((∀ o', ¬ PXc ops ord M S t j o') ∧ x j = some o) := by
  unfold PX at hp
  split at hp
  · rename_i hq
    simp only [Option.some.injEq] at hp; subst hp
    exact .inl (Classical.choose_spec hq)
  · rename_i hq
    exact .inr ⟨fun o' ho => hq ⟨o', ho⟩, hp⟩
/-- Blocks of before lie below. -/
theorem PX_low (hc : Chain N ops ord e h rs e' h') (hx : ∀ j o, x j = some o → j < h.nx) {S : Nat → Prop} {t j : Nat} {o o' : AO} (hp : PXc ops ord (memAt rs h') S t j o) : x j ≠ some o' := by
  intro hj
  obtain ⟨p, i, _, hi, a, _⟩ := hp
  obtain ⟨a1, _⟩ := al_id a
  have hl : p < ord.length := (List.getElem?_eq_some_iff.1 hi).1
  have := hc.nx 0 p (by omega) (by omega)
  rw [hc.start.1] at this
  have := hx j o' hj
  omega

variable {W : World} {r : Gh} {w : World}
/-- Time goes on over what has not come up. -/
theorem PX_adv (hc : Chain N ops ord e h rs e' h') (hx : ∀ j o, x j = some o → j < h.nx) {S : Nat → Prop} {t i : Nat} {o : Oper} (ht : ord[t]? = some i) (hi : ops[i]? = some o) (h2 : kindI o.op ≠ 2) (hS : ¬ S i)
    (hk2 : kindI o.op = 0 ∨ kindI o.op = 1 ∨ kindI o.op = 2) (hR : Rel ⟨W, PX x ops ord (memAt rs h') S t⟩ r (memAt rs h' t) w) : Rel ⟨W, PX x ops ord (memAt rs h') S (t + 1)⟩ r (memAt rs h' (t + 1)) w := by
  obtain ⟨rd, k1, ⟨o', k2, _, k3⟩, _, _⟩ := hc.step t i ht
  rw [hi, Option.some.injEq] at k2; subst k2
  have hm := rec_mem k1 h'
  rw [← hm] at k3
  have stay : memAt rs h' (t + 1) = memAt rs h' t → Rel ⟨W, PX x ops ord (memAt rs h') S (t + 1)⟩ r (memAt rs h' (t + 1)) w := by
    intro he
    rw [he]
    refine hR.less fun j p hp => ?_
    rcases PX_or hp with ⟨q, i', q1, q2, q3, q4⟩ | ⟨q1, q2⟩
    · have hqt : q ≠ t := by
        rintro rfl
        obtain ⟨_, b2, _⟩ := al_id q3
        exact b2 (by rw [he])
      exact PX_of hc ⟨q, i', by omega, q2, q3, q4⟩
    · unfold PX
      rw [dif_neg]
      · exact q2
      · rintro ⟨o', q, i', m1, m2⟩
        exact q1 o' ⟨q, i', by omega, m2⟩
  rcases k3 with ⟨_, k3⟩ | ⟨hk1, ⟨k3, _⟩ | ⟨p, hn, k3, _⟩⟩ | ⟨c0, c1, _⟩
  · exact stay k3
  · exact stay k3
  · have hnx : (memAt rs h' t).nx ≠ (memAt rs h' (t + 1)).nx := by rw [k3]; show _ ≠ (memAt rs h' t).nx + 1; omega
    have hal : alAt ops ord (memAt rs h') t = some ((memAt rs h' t).nx, p) := by
      unfold alAt
      rw [ht]
      simp only [Option.bind_some, hi]
      rw [if_pos ⟨hk1, hnx⟩, k3, get_new _ _ _ hn hn, if_pos rfl]
    have := hR.pend p hn
    rw [← k3] at this
    refine this.less fun j q hq => ?_
    show (if j = (memAt rs h' t).nx then some p else PX x ops ord (memAt rs h') S t j) = some q
    rcases PX_or hq with ⟨m, i', q1, q2, q3, q4⟩ | ⟨q1, q2⟩
    · by_cases hj : j = (memAt rs h' t).nx
      · rw [if_pos hj]
        rw [hj] at q3
        rw [(al_inj hc hal q3).2]
      · rw [if_neg hj]
        have hmt : m ≠ t := by
          rintro rfl
          exact hj (al_id q3).1
        exact PX_of hc ⟨m, i', by omega, q2, q3, q4⟩
    · have hl : t < ord.length := (List.getElem?_eq_some_iff.1 ht).1
      have hnx0 := hc.nx 0 t (by omega) (by omega)
      rw [hc.start.1] at hnx0
      have hxj := hx j q q2
      rw [if_neg (by omega)]
      unfold PX
      rw [dif_neg]
      · exact q2
      · rintro ⟨o', m, i', m1, m2⟩
        exact q1 o' ⟨m, i', by omega, m2⟩
  · exfalso; omega
/-- More have come up. -/
theorem PX_more (hc : Chain N ops ord e h rs e' h') (hx : ∀ j o, x j = some o → j < h.nx) {S S' : Nat → Prop} {t : Nat} (hS : ∀ i, S i → S' i) {j : Nat} {o : AO} (hp : PX x ops ord (memAt rs h') S' t j = some o) : PX x ops ord (memAt rs h') S t j = some o := by
  rcases PX_or hp with ⟨m, i', q1, q2, q3, q4⟩ | ⟨q1, q2⟩
  · exact PX_of hc ⟨m, i', q1, q2, q3, fun hs => q4 (hS _ hs)⟩
  · unfold PX
    rw [dif_neg]
    · exact q2
    · rintro ⟨o', ho'⟩
      exact PX_low hc hx ho' q2
end
end Go.Proofs.YtefppgdfcnediaaGreat.X
