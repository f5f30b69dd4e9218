/- Own texts, laid together: CQ PV0 PY0 PC0 PC1 PC2 PC3 PC4 PXD PXA PY1 PV2 PV5 PV6 PY2 PVW PY3 PY4 PY5 PY6. -/
import Derived.Test.YtbnmhjobnepajaaGreatZ1
import Derived.Test.YtbnmhjobnepajaaGreatZ2
import Derived.Test.YtbnmhjobnepajaaGreatZ3
import Derived.Test.YtbnmhjobnepajaaGreatZ4
set_option linter.unusedVariables false
set_option linter.unusedSimpArgs false
set_option maxRecDepth 100000
namespace Go.Proofs.YtbnmhjobnepajaaGreat.M
open Go.Proofs
section
variable {α β γ δ s : Type}
theorem bmb {o : Option α} {F : α → Option δ} {F' : α → Option γ} {c : δ → β} {k : γ → Option β} (h : ∀ a, (F a).map c = (F' a).bind k) : (o.bind F).map c = (o.bind F').bind k := by cases o <;> simp [h]
theorem bmd {o : Option α} {F : α → Option δ} {F' : α → α → Option γ} {c : δ → β} {k : γ → Option β} (h : ∀ a, (F a).map c = (F' a a).bind k) : (o.bind F).map c = (o.bind fun a => o.bind fun b => F' a b).bind k := by cases o <;> simp [h]
theorem itm {p q : Prop} [Decidable p] [Decidable q] {a b : Option δ} {a' b' : Option γ} {c : δ → β} {k : γ → Option β} (hc : p ↔ q) (h1 : p → a.map c = a'.bind k) (h2 : ¬p → b.map c = b'.bind k) : (if p then a else b).map c = (if q then a' else b').bind k := by
  by_cases h : p
  · rw [if_pos h, if_pos (hc.1 h)]; exact h1 h
  · rw [if_neg h, if_neg fun hq => h (hc.2 hq)]; exact h2 h
theorem itb {p q : Prop} [Decidable p] [Decidable q] {a b a' b' : Option β} (hc : p ↔ q) (h1 : p → a = a') (h2 : ¬p → b = b') : (if p then a else b) = if q then a' else b' := by
  by_cases h : p
  · rw [if_pos h, if_pos (hc.1 h)]; exact h1 h
  · rw [if_neg h, if_neg fun hq => h (hc.2 hq)]; exact h2 h
theorem itn {p : Bool} {a b a' b' : Option β} (h1 : p = false → a = b') (h2 : p = true → b = a') : (if (!p) = true then a else b) = if p = true then a' else b' := by
  cases p
  · exact h1 rfl
  · exact h2 rfl
theorem bbb {o : Option α} {F F' : α → Option β} (h : ∀ a, F a = F' a) : o.bind F = o.bind F' := by cases o <;> simp [h]
theorem bbd {o : Option α} {F : α → Option β} {F' : α → α → Option β} (h : ∀ a, F' a a = F a) : (o.bind fun a => o.bind fun b => F' a b) = o.bind F := by cases o <;> simp [h]
theorem bb2 {o o' : Option α} {F F' : α → Option β} (ho : o = o') (h : ∀ a, F a = F' a) : o.bind F = o'.bind F' := by subst ho; cases o <;> simp [h]
theorem nS {o : Option α} {c : α → γ} {F : γ → Option β} {F' : α → Option β} (h : ∀ a, F (c a) = F' a) : (o.map c).bind F = o.bind F' := by cases o <;> simp [h]
theorem su {f : s → Option (s ⊕ γ)} {g : s → Option δ} {c : δ → γ} (B : (s → Option δ) → s → Option δ) (hst : ∀ self x, (B self x).map c = (f x).bind (Sum.elim (fun y => (self y).map c) some)) (hg : ∀ x, g x = B g x)
    (hl : ∀ (M : s → δ → Prop), (∀ self, (∀ x r, self x = some r → M x r) → ∀ x r, B self x = some r → M x r) → ∀ x r, g x = some r → M x r) (x : s) : aY f x = (g x).map c := by
  have un : ∀ x, aY f x = (f x).bind (Sum.elim (fun y => aY f y) some) := by
    intro x
    rw [aY]
    show (f x).bind _ = _
    cases f x with
    | none => rfl
    | some y => cases y <;> rfl
  refine Option.ext fun r => ⟨fun h => ?_, fun h => ?_⟩
  · refine aY.partial_correctness f (fun x r => (g x).map c = some r) (fun self ih x r hr => ?_) x r h
    rw [hg, hst]
    cases hf : f x with
    | none => rw [hf] at hr; cases hr
    | some y =>
      rw [hf] at hr
      cases y with
      | inl y => exact ih y r hr
      | inr y => exact hr
  · cases hgx : g x with
    | none => rw [hgx] at h; cases h
    | some d =>
      rw [hgx] at h
      simp only [Option.map_some, Option.some.injEq] at h
      subst h
      refine hl (fun x d => aY f x = some (c d)) (fun self ih x r hr => ?_) x d hgx
      have h1 := hst self x
      rw [hr] at h1
      rw [un]
      cases hf : f x with
      | none => rw [hf] at h1; cases h1
      | some y =>
        rw [hf] at h1
        cases y with
        | inl y =>
          cases hs : self y with
          | none => simp [hs] at h1
          | some z =>
            simp only [Option.bind_some, Sum.elim_inl, hs, Option.map_some, Option.some.injEq] at h1
            show aY f y = _
            rw [ih y z hs, h1]
        | inr y => exact h1.symm
end
theorem eq_18 : sG = f18 := by
  funext a0 a1
  unfold sG f18
  try simp only []
  rfl
theorem Fv : lS = f70 := by
  funext a0 a1
  unfold lS f70
  try simp only [eq_18]
  rfl
noncomputable def Qj (p0 : List UInt8) (self : (Int) → Option (Sum Int Bool)) (s : (Int)) : Option (Sum Int Bool) :=
  if (decide (s < (p0.length : Int))) = true then
  if (0 : Int) ≤ s ∧ s < (p0.length : Int) then
  if ((((((decide ((btS p0 s) < 97)) || (decide ((btS p0 s) > 122))) && ((decide ((btS p0 s) < 48)) || (decide ((btS p0 s) > 57)))) && ((btS p0 s) != 46)) && ((btS p0 s) != 45)) && ((btS p0 s) != 95)) = true then
  some (.inr false)
  else
  self (IntKind.wrap .i64 (s + 1))
  else none
  else
  some (.inl s)
theorem aaV (p0 : List UInt8) (self : (Int) → Option (Sum Int Bool)) (s : (Int)) : (Qj p0 self s).map (Sum.map (fun _ => ()) id) = (uk p0 s).bind (Sum.elim (fun y => (self y).map (Sum.map (fun _ => ()) id)) some) := by
  unfold Qj uk
  repeat' (first | rfl | refine bmd fun _ => ?_ | refine bmb fun _ => ?_ | refine itm Iff.rfl (fun _ => ?_) (fun _ => ?_))
theorem aal (p0 : List UInt8) (s : (Int)) : aY (uk p0) s = (yF p0 s).map (Sum.map (fun _ => ()) id) :=
  su (g := fun s => yF p0 s) (Qj p0) (aaV p0) (fun s => by show yF p0 s = _; rw [yF]; rfl)
    (fun M h s r => yF.partial_correctness p0 (fun a0 r => M (a0) r) (fun self ih a0 r hx => h (fun s => self s) (fun s r hr => ih s r hr) (a0) r hx) s r) s
theorem GX : zt = f71 := by
  funext p0
  unfold zt f71
  rw [aal]
  cases yF p0 0 with
  | none => rfl
  | some x => cases x <;> rfl
theorem acV : dm = fun p _ => f72 p f73 := by
  funext p x σ
  unfold dm
  rfl
theorem eq_24 : kR = f24 := by
  funext p x y σ
  unfold kR f24
  simp only [Fv, GX, acV]
  refine bbb fun r => itb Iff.rfl (fun _ => rfl) fun _ => bbb fun r9 => itb Iff.rfl (fun _ => rfl) fun _ => bbb fun i => bbd fun o => bbb fun z => ?_
  refine itb Iff.rfl (fun h => ?_) (fun h => ?_)
  · refine bbb fun i => bbd fun o => itn (fun _ => itn (fun _ => ?_) fun _ => rfl) fun _ => rfl
    refine bbb fun i => bbb fun o => bbb fun r => itb Iff.rfl (fun _ => rfl) fun _ => ?_
    refine bb2 (itb Iff.rfl (fun _ => bbb fun i => bbd fun o => rfl) fun _ => rfl) fun z => rfl
  · refine itn (fun _ => ?_) fun _ => rfl
    refine bbb fun i => bbb fun o => bbb fun r => itb Iff.rfl (fun _ => rfl) fun _ => ?_
    refine bb2 (itb Iff.rfl (fun _ => bbb fun i => bbd fun o => rfl) fun _ => rfl) fun z => rfl
noncomputable def Qg (p0 : Option Nat) (r7 : List (List UInt8)) (self : (List Int) × (Int) × (St) → Option ((List Int) × Int × St)) (s : (List Int) × (Int) × (St)) : Option ((List Int) × Int × St) :=
  if (decide (s.2.1 < (r7.length : Int))) = true then
  (ix r7 s.2.1) >>= fun x19 =>
  p0 >>= fun i21 =>
  (s.2.2.af[i21]?) >>= fun o22 =>
  ((bW .str (.ptr ax) x19 o22.2.1).getD (fF (.ptr ax))) >>= fun i24 =>
  (s.2.2.ai[i24]?) >>= fun o25 =>
  ((bW .str (.ptr ax) x19 o22.2.1).getD (fF (.ptr ax))) >>= fun i26 =>
  (s.2.2.ai[i26]?) >>= fun o27 =>
  if ((IntKind.wrap .i64 ((o25.1.length : Int) - o27.2.1)) == 0) = true then
  self (s.1, (IntKind.wrap .i64 (s.2.1 + 1)), s.2.2)
  else
  (if (decide ((s.1.length : Int) > 0)) = true then
  (ix s.1 0) >>= fun x49 =>
  if (IntKind.wrap .i64 ((IntKind.wrap .i64 ((o25.1.length : Int) - o27.2.1)) + 1)) ≠ 0 then
  if (0 : Int) ≤ 1 ∧ 1 ≤ (s.1.length : Int) then
  some (s.1.drop (Int.toNat 1), Int.tmod (if 0 > x49 then 0 else x49) (IntKind.wrap .i64 ((IntKind.wrap .i64 ((o25.1.length : Int) - o27.2.1)) + 1)))
  else none
  else none
  else
  some (s.1, 0) : Option ((List Int) × Int)) >>= fun z35 =>
  ((bW .str (.ptr ax) x19 o22.2.1).getD (fF (.ptr ax))) >>= fun i38 =>
  (s.2.2.ai[i38]?) >>= fun o39 =>
  ((bW .str (.ptr ax) x19 o22.2.1).getD (fF (.ptr ax))) >>= fun i40 =>
  (s.2.2.ai[i40]?) >>= fun o41 =>
  if (0 : Int) ≤ (IntKind.wrap .i64 (o41.2.1 + z35.2)) ∧ (IntKind.wrap .i64 (o41.2.1 + z35.2)) ≤ (o39.1.length : Int) then
  ((bW .str (.ptr ax) x19 o22.2.1).getD (fF (.ptr ax))) >>= fun i43 =>
  (s.2.2.ai[i43]?) >>= fun o44 =>
  ((bW .str (.ptr ax) x19 o22.2.1).getD (fF (.ptr ax))) >>= fun i45 =>
  ((s.2.2.aH i43 (o39.1.take (Int.toNat (IntKind.wrap .i64 (o41.2.1 + z35.2))), o44.2.1, ())).ai[i45]?) >>= fun o46 =>
  ((bW .str (.ptr ax) x19 o22.2.1).getD (fF (.ptr ax))) >>= fun i47 =>
  ((s.2.2.aH i43 (o39.1.take (Int.toNat (IntKind.wrap .i64 (o41.2.1 + z35.2))), o44.2.1, ())).ai[i47]?) >>= fun o48 =>
  self (z35.1, (IntKind.wrap .i64 (s.2.1 + 1)), ((s.2.2.aH i43 (o39.1.take (Int.toNat (IntKind.wrap .i64 (o41.2.1 + z35.2))), o44.2.1, ())).aH i47 (o48.1, (o46.1.length : Int), ())))
  else none
  else
  some ((s.1, s.2.1, s.2.2))
theorem aaS (p0 : Option Nat) (r7 : List (List UInt8)) (self : (List Int) × (Int) × (St) → Option ((List Int) × Int × St)) (s : (List Int) × (Int) × (St)) : (Qg p0 r7 self s).map (fun r => r.2.2) = (lN p0 r7 s).bind (Sum.elim (fun y => (self y).map (fun r => r.2.2)) some) := by
  unfold Qg lN
  repeat' (first | rfl | refine bmd fun _ => ?_ | refine bmb fun _ => ?_ | refine itm Iff.rfl (fun _ => ?_) (fun _ => ?_))
theorem aai (p0 : Option Nat) (r7 : List (List UInt8)) (s : (List Int) × (Int) × (St)) : aY (lN p0 r7) s = (vJ p0 r7 s.1 s.2.1 s.2.2).map (fun r => r.2.2) :=
  su (g := fun s => vJ p0 r7 s.1 s.2.1 s.2.2) (Qg p0 r7) (aaS p0 r7) (fun s => by show vJ p0 r7 s.1 s.2.1 s.2.2 = _; rw [vJ]; rfl)
    (fun M h s r => vJ.partial_correctness p0 r7 (fun a0 a1 a2 r => M (a0, a1, a2) r) (fun self ih a0 a1 a2 r hx => h (fun s => self s.1 s.2.1 s.2.2) (fun s r hr => ih s.1 s.2.1 s.2.2 r hr) (a0, a1, a2) r hx) s.1 s.2.1 s.2.2 r) s
theorem eq_27 : lM = f27 := by
  funext p0 p1 σ
  unfold lM f27
  simp only [aai]
  split
  · rfl
  refine bbb fun r => ?_
  refine nS fun z => ?_
  cases p0 <;> rfl
theorem Dw : iZ = f77 := by
  funext p x σ
  unfold iZ f77
  rw [Fv]
  refine bbb fun r => ?_
  split
  · rfl
  · exact bbb fun i => bbd fun o => rfl
theorem eq_28 : qG = f28 := by
  funext a0 a1 a2
  unfold qG f28
  try simp only [eq_18, Fv, GX, eq_24, eq_27, Dw]
  rfl
theorem eq_31 : qF = f31 := by
  funext p σ
  unfold qF f31
  cases p <;> simp
theorem adO : kS = f78 := by
  funext c σ
  unfold kS f78
  cases h : σ.aG[c]? <;> simp [St.fM, St.aH]
theorem acW : eG = fun p x => f72 p (f78 x.1) := by
  funext p x σ
  unfold eG
  rw [adO]; rfl
theorem eq_33 : qH = f33 := by
  funext p x σ
  unfold qH f33
  simp only [Dw, acW]
  cases h : f77 p x σ <;> simp [St.jh, St.dY, St.dC]
theorem adP : iM = f79 := by
  funext c d σ
  unfold iM f79
  cases h : σ.aG[c]? with
  | none => simp
  | some o =>
    obtain ⟨q, _⟩ := o
    cases q with
    | none => simp
    | some i =>
      cases h2 : σ.ai[i]? with
      | none => simp [h2]
      | some f =>
        cases h3 : σ.gV[d]? with
        | none => simp [h2]
        | some y => simp [h2, St.fM, St.aH]
theorem acX : dK = fun p x => f72 p (f79 x.1 x.2.1) := by
  funext p x σ
  unfold dK
  rw [adP]; rfl
theorem eq_35 : lQ = f35 := by
  funext p x y σ
  unfold lQ f35
  simp only [Dw, acX]
  show (f77 p x (σ.bU (y, ()))).bind _ = _
  cases h : f77 p x (σ.bU (y, ())) <;> simp [St.jh, St.dY, St.dC, St.y7, St.bU]
  split
  · by_cases h5 : y < 0
    · rw [if_neg (by omega), if_pos h5]
    · rw [if_pos (by omega), if_neg h5]
  · rfl
theorem adQ : jv = f81 := by
  funext c d σ
  unfold jv f81
  refine bbb fun o => bbb fun i => ?_
  cases h : σ.af[i]? with
  | none => simp
  | some o3 => simp [St.bF, St.aU]
theorem acY : dW = fun p x => f72 p (f81 x.1 x.2.1) := by
  funext p x σ
  unfold dW
  rw [adQ]; rfl
theorem eq_37 : nV = f37 := by
  funext p x σ
  unfold nV f37
  simp only [Dw, acY, List.getElem?_concat_length, Option.bind_some]
  rfl
noncomputable def Ql (p0 : List UInt8) (self : (Int) → Option (Sum Int Bool)) (s : (Int)) : Option (Sum Int Bool) :=
  if (decide (s < (p0.length : Int))) = true then
  if (0 : Int) ≤ s ∧ s < (p0.length : Int) then
  if (decide ((btS p0 s) < 97)) = true then
  some (.inr false)
  else
  if (0 : Int) ≤ s ∧ s < (p0.length : Int) then
  if (decide ((btS p0 s) > 122)) = true then
  some (.inr false)
  else
  self (IntKind.wrap .i64 (s + 1))
  else none
  else none
  else
  some (.inl s)
theorem aaX (p0 : List UInt8) (self : (Int) → Option (Sum Int Bool)) (s : (Int)) : (Ql p0 self s).map (Sum.map (fun _ => ()) id) = (uw p0 s).bind (Sum.elim (fun y => (self y).map (Sum.map (fun _ => ()) id)) some) := by
  unfold Ql uw
  repeat' (first | rfl | refine bmd fun _ => ?_ | refine bmb fun _ => ?_ | refine itm Iff.rfl (fun _ => ?_) (fun _ => ?_))
  rename_i h1 h2
  by_cases h3 : btS p0 s < 97
  · simp [h3]
  · simp only [h3, decide_false, Bool.false_eq_true, if_false, Bool.not_false, h2, and_self, implies_true, if_true, Bool.false_or]
    repeat' (first | rfl | refine bmd fun _ => ?_ | refine bmb fun _ => ?_ | refine itm Iff.rfl (fun _ => ?_) (fun _ => ?_))
theorem aan (p0 : List UInt8) (s : (Int)) : aY (uw p0) s = (vK p0 s).map (Sum.map (fun _ => ()) id) :=
  su (g := fun s => vK p0 s) (Ql p0) (aaX p0) (fun s => by show vK p0 s = _; rw [vK]; rfl)
    (fun M h s r => vK.partial_correctness p0 (fun a0 r => M (a0) r) (fun self ih a0 r hx => h (fun s => self s) (fun s r hr => ih s r hr) (a0) r hx) s r) s
theorem LX : zx = f95 := by
  funext p0
  unfold zx f95
  rw [aan]
  cases vK p0 0 with
  | none => rfl
  | some x => cases x <;> rfl
noncomputable def KQ (p0 : List UInt8) (self : (Int) × (Int) → Option (Sum (Int × Int) Int)) (s : (Int) × (Int)) : Option (Sum (Int × Int) Int) :=
  if (decide (s.2 < (p0.length : Int))) = true then
  if (0 : Int) ≤ s.2 ∧ s.2 < (p0.length : Int) then
  if (decide ((btS p0 s.2) < 48)) = true then
  some (.inr (-1))
  else
  if (0 : Int) ≤ s.2 ∧ s.2 < (p0.length : Int) then
  if ((decide ((btS p0 s.2) > 57)) || (decide (s.1 > 1099511627776))) = true then
  some (.inr (-1))
  else
  if (0 : Int) ≤ s.2 ∧ s.2 < (p0.length : Int) then
  self ((IntKind.wrap .i64 ((IntKind.wrap .i64 (s.1 * 10)) + (IntKind.wrap .i64 (IntKind.wrap .u8 ((btS p0 s.2) - 48))))), (IntKind.wrap .i64 (s.2 + 1)))
  else none
  else none
  else none
  else
  some (.inl (s.1, s.2))
theorem Yo (p0 : List UInt8) (self : (Int) × (Int) → Option (Sum (Int × Int) Int)) (s : (Int) × (Int)) : (KQ p0 self s).map (Sum.map (fun r => r.1) id) = (rW p0 s).bind (Sum.elim (fun y => (self y).map (Sum.map (fun r => r.1) id)) some) := by
  unfold KQ rW
  repeat' (first | rfl | refine bmd fun _ => ?_ | refine bmb fun _ => ?_ | refine itm Iff.rfl (fun _ => ?_) (fun _ => ?_))
  rename_i h1 h2
  by_cases h3 : btS p0 s.2 < 48
  · simp [h3]
  · simp only [h3, decide_false, Bool.false_eq_true, if_false, Bool.not_false, h2, and_self, implies_true, if_true, Bool.false_or]
    repeat' (first | rfl | refine bmd fun _ => ?_ | refine bmb fun _ => ?_ | refine itm Iff.rfl (fun _ => ?_) (fun _ => ?_))
theorem X5 (p0 : List UInt8) (s : (Int) × (Int)) : aY (rW p0) s = (wu p0 s.1 s.2).map (Sum.map (fun r => r.1) id) :=
  su (g := fun s => wu p0 s.1 s.2) (KQ p0) (Yo p0) (fun s => by show wu p0 s.1 s.2 = _; rw [wu]; rfl)
    (fun M h s r => wu.partial_correctness p0 (fun a0 a1 r => M (a0, a1) r) (fun self ih a0 a1 r hx => h (fun s => self s.1 s.2) (fun s r hr => ih s.1 s.2 r hr) (a0, a1) r hx) s.1 s.2 r) s
theorem Dv : uy = f140 := by
  funext p0
  unfold uy f140
  rw [X5]
  refine nS fun x => ?_
  cases x with
  | inr y => rfl
  | inl y =>
    show (if _ then _ else _) = _
    cases h : p0 == [] with
    | true => simp
    | false => simp [kC]
theorem Fz : nD = f97 := by
  funext p σ
  unfold nD f97
  rcases p with _ | i
  · rfl
  cases h2 : σ.aj[i]? with
  | none => simp [h2]
  | some o => simp [h2]
theorem BV : iP = f55 := by
  funext p σ
  unfold iP f55
  rw [Fz]
  rcases p with _ | i
  · rfl
  cases h2 : σ.aj[i]? with
  | none => simp [h2]
  | some o =>
    simp only [Option.isNone_some, Bool.not_false, if_true, Option.bind_some, h2, Bool.false_or, Bool.false_eq_true, if_false]
    show _ = Option.bind (some i) fun i => Option.bind σ.aj[i]? fun o => _
    simp only [Option.bind_some, h2]
    split
    · rfl
    refine bbb fun r => ?_
    cases r with
    | none => rfl
    | some j => exact bbd fun _ => rfl
theorem Dx : gy = f98 := by
  funext a0 a1 a2
  unfold gy f98
  try simp only [eq_18, Fv, GX, eq_24, eq_27, Dw, eq_28, eq_31, eq_33, eq_35, eq_37, LX, Dv, Fz, BV]
  rfl
theorem Fq : jC = f61 := by
  funext p0 σ
  unfold jC f61
  simp only [Dx, eq_33, Fz, BV]
  rcases p0 with _ | i
  · rfl
  refine itb Iff.rfl (fun _ => rfl) fun _ => bbb fun r7 => ?_
  by_cases h : (!r7.isNone) = true
  · simp only [if_pos h]
    show (Option.bind (Option.bind (some i) _) _) = Option.bind (some i) _
    simp only [Option.bind_some, Option.bind_assoc]
    refine bbb fun o => bbb fun r12 => bbb fun r13 => ?_
    by_cases h2 : (r13.1 != 0) = true
    · simp only [if_pos h2]; rfl
    · simp only [if_neg h2]; rfl
  · simp only [if_neg h]; rfl
theorem LU : rE = f110 := by
  funext a0
  unfold rE f110
  try simp only [eq_18, Fv, GX, eq_24, eq_27, Dw, eq_28, eq_31, eq_33, eq_35, eq_37, LX, Dv, Fz, BV, Dx, Fq]
  rfl
noncomputable def KR  (self : (Int) × (Int) → Option (Int × Int)) (s : (Int) × (Int)) : Option (Int × Int) :=
  if (decide (s.2 < 8)) = true then
  if ((IntKind.wrap .u32 ((BitVec.ofInt (IntKind.bits .u32) s.1 &&& BitVec.ofInt (IntKind.bits .u32) 1).toNat)) == 1) = true then
  self ((IntKind.wrap .u32 ((BitVec.ofInt (IntKind.bits .u32) (Int.fdiv s.1 (2 ^ 1)) ^^^ BitVec.ofInt (IntKind.bits .u32) 2197175160).toNat)), (IntKind.wrap .i64 (s.2 + 1)))
  else
  self ((Int.fdiv s.1 (2 ^ 1)), (IntKind.wrap .i64 (s.2 + 1)))
  else
  some ((s.1, s.2))
theorem Yp  (self : (Int) × (Int) → Option (Int × Int)) (s : (Int) × (Int)) : (KR  self s).map (fun r => r.1) = (nT s).bind (Sum.elim (fun y => (self y).map (fun r => r.1)) some) := by
  unfold KR nT
  repeat' (first | rfl | refine bmd fun _ => ?_ | refine bmb fun _ => ?_ | refine itm Iff.rfl (fun _ => ?_) (fun _ => ?_))
theorem X6  (s : (Int) × (Int)) : aY (nT) s = (qE s.1 s.2).map (fun r => r.1) :=
  su (g := fun s => qE s.1 s.2) (KR ) (Yp ) (fun s => by show qE s.1 s.2 = _; rw [qE]; rfl)
    (fun M h s r => qE.partial_correctness  (fun a0 a1 r => M (a0, a1) r) (fun self ih a0 a1 r hx => h (fun s => self s.1 s.2) (fun s r hr => ih s.1 s.2 r hr) (a0, a1) r hx) s.1 s.2 r) s
theorem IU : rO = f151 := by
  funext p0 p1
  unfold rO f151
  rw [X6]
  show Option.bind (Option.map _ (qE (IntKind.wrap .u32 ((BitVec.ofInt (IntKind.bits .u32) p0 ^^^ BitVec.ofInt (IntKind.bits .u32) (IntKind.wrap .u32 (p1))).toNat)) 0)) _ = _
  cases qE (IntKind.wrap .u32 ((BitVec.ofInt (IntKind.bits .u32) p0 ^^^ BitVec.ofInt (IntKind.bits .u32) (IntKind.wrap .u32 (p1))).toNat)) 0 <;> rfl
noncomputable def KP (p1 : List UInt8) (self : (Int) × (Int) → Option (Int × Int)) (s : (Int) × (Int)) : Option (Int × Int) :=
  if (decide (s.2 < (p1.length : Int))) = true then
  if (0 : Int) ≤ s.2 ∧ s.2 < (p1.length : Int) then
  f151 s.1 (btS p1 s.2) >>= fun r16 =>
  self (r16, (IntKind.wrap .i64 (s.2 + 1)))
  else none
  else
  some ((s.1, s.2))
theorem Yn (p1 : List UInt8) (self : (Int) × (Int) → Option (Int × Int)) (s : (Int) × (Int)) : (KP p1 self s).map (fun r => r.1) = (rM p1 s).bind (Sum.elim (fun y => (self y).map (fun r => r.1)) some) := by
  unfold KP rM
  rw [IU]
  repeat' (first | rfl | refine bmd fun _ => ?_ | refine bmb fun _ => ?_ | refine itm Iff.rfl (fun _ => ?_) (fun _ => ?_))
theorem X4 (p1 : List UInt8) (s : (Int) × (Int)) : aY (rM p1) s = (wo p1 s.1 s.2).map (fun r => r.1) :=
  su (g := fun s => wo p1 s.1 s.2) (KP p1) (Yn p1) (fun s => by show wo p1 s.1 s.2 = _; rw [wo]; rfl)
    (fun M h s r => wo.partial_correctness p1 (fun a0 a1 r => M (a0, a1) r) (fun self ih a0 a1 r hx => h (fun s => self s.1 s.2) (fun s r hr => ih s.1 s.2 r hr) (a0, a1) r hx) s.1 s.2 r) s
theorem LW : xN = f138 := by
  funext p0 p1
  unfold xN f138
  rw [X4]
  exact nS fun _ => rfl
theorem QI : wG = f111 := by
  funext a0
  unfold wG f111
  try simp only [eq_18, Fv, GX, eq_24, eq_27, Dw, eq_28, eq_31, eq_33, eq_35, eq_37, LX, Dv, Fz, BV, Dx, Fq, LU, IU, LW]
  rfl
theorem QH : xO = f108 := by
  funext a0
  unfold xO f108
  try simp only [eq_18, Fv, GX, eq_24, eq_27, Dw, eq_28, eq_31, eq_33, eq_35, eq_37, LX, Dv, Fz, BV, Dx, Fq, LU, IU, LW, QI]
  rfl
noncomputable def KO (p0 : List UInt8) (p1 : Int) (self : (Int) × (Int) → Option (Sum (Int × Int) (Int × Int × Int))) (s : (Int) × (Int)) : Option (Sum (Int × Int) (Int × Int × Int)) :=
  if (decide ((IntKind.wrap .i64 (p1 + s.2)) < (p0.length : Int))) = true then
  if (0 : Int) ≤ (IntKind.wrap .i64 (p1 + s.2)) ∧ (IntKind.wrap .i64 (p1 + s.2)) < (p0.length : Int) then
  if ((s.2 == 9) && (decide ((btS p0 (IntKind.wrap .i64 (p1 + s.2))) > 1))) = true then
  some (.inr (0, 0, 6))
  else
  if (0 : Int) ≤ (IntKind.wrap .i64 (7 * s.2)) then
  if (decide ((btS p0 (IntKind.wrap .i64 (p1 + s.2))) ≥ 128)) = true then
  self ((IntKind.wrap .u64 ((BitVec.ofInt (IntKind.bits .u64) s.1 ||| BitVec.ofInt (IntKind.bits .u64) (IntKind.wrap .u64 ((IntKind.wrap .u64 (IntKind.wrap .u8 ((BitVec.ofInt (IntKind.bits .u8) (btS p0 (IntKind.wrap .i64 (p1 + s.2))) &&& BitVec.ofInt (IntKind.bits .u8) 127).toNat))) * 2 ^ (min (Int.toNat (IntKind.wrap .i64 (7 * s.2))) (IntKind.bits .u64))))).toNat)), (IntKind.wrap .i64 (s.2 + 1)))
  else
  if (((btS p0 (IntKind.wrap .i64 (p1 + s.2))) == 0) && (decide (s.2 > 0))) = true then
  some (.inr (0, 0, 6))
  else
  (if ((IntKind.wrap .u64 ((BitVec.ofInt (IntKind.bits .u64) (IntKind.wrap .u64 ((BitVec.ofInt (IntKind.bits .u64) s.1 ||| BitVec.ofInt (IntKind.bits .u64) (IntKind.wrap .u64 ((IntKind.wrap .u64 (IntKind.wrap .u8 ((BitVec.ofInt (IntKind.bits .u8) (btS p0 (IntKind.wrap .i64 (p1 + s.2))) &&& BitVec.ofInt (IntKind.bits .u8) 127).toNat))) * 2 ^ (min (Int.toNat (IntKind.wrap .i64 (7 * s.2))) (IntKind.bits .u64))))).toNat)) &&& BitVec.ofInt (IntKind.bits .u64) 1).toNat)) == 1) = true then
  some (IntKind.wrap .i64 ((BitVec.ofInt (IntKind.bits .i64) (if IntKind.signed .i64 = true then -1 else IntKind.max .i64) ^^^ BitVec.ofInt (IntKind.bits .i64) (IntKind.wrap .i64 (Int.fdiv (IntKind.wrap .u64 ((BitVec.ofInt (IntKind.bits .u64) s.1 ||| BitVec.ofInt (IntKind.bits .u64) (IntKind.wrap .u64 ((IntKind.wrap .u64 (IntKind.wrap .u8 ((BitVec.ofInt (IntKind.bits .u8) (btS p0 (IntKind.wrap .i64 (p1 + s.2))) &&& BitVec.ofInt (IntKind.bits .u8) 127).toNat))) * 2 ^ (min (Int.toNat (IntKind.wrap .i64 (7 * s.2))) (IntKind.bits .u64))))).toNat)) (2 ^ 1)))).toNat))
  else
  some (IntKind.wrap .i64 (Int.fdiv (IntKind.wrap .u64 ((BitVec.ofInt (IntKind.bits .u64) s.1 ||| BitVec.ofInt (IntKind.bits .u64) (IntKind.wrap .u64 ((IntKind.wrap .u64 (IntKind.wrap .u8 ((BitVec.ofInt (IntKind.bits .u8) (btS p0 (IntKind.wrap .i64 (p1 + s.2))) &&& BitVec.ofInt (IntKind.bits .u8) 127).toNat))) * 2 ^ (min (Int.toNat (IntKind.wrap .i64 (7 * s.2))) (IntKind.bits .u64))))).toNat)) (2 ^ 1))) : Option Int) >>= fun z33 =>
  some (.inr (z33, IntKind.wrap .i64 ((IntKind.wrap .i64 (p1 + s.2)) + 1), 0))
  else none
  else none
  else
  some (.inl (s.1, s.2))
theorem Ym (p0 : List UInt8) (p1 : Int) (self : (Int) × (Int) → Option (Sum (Int × Int) (Int × Int × Int))) (s : (Int) × (Int)) : (KO p0 p1 self s).map (Sum.map (fun _ => ()) id) = (kG p0 p1 s).bind (Sum.elim (fun y => (self y).map (Sum.map (fun _ => ()) id)) some) := by
  unfold KO kG
  repeat' (first | rfl | refine bmd fun _ => ?_ | refine bmb fun _ => ?_ | refine itm Iff.rfl (fun _ => ?_) (fun _ => ?_))
theorem X3 (p0 : List UInt8) (p1 : Int) (s : (Int) × (Int)) : aY (kG p0 p1) s = (oZ p0 p1 s.1 s.2).map (Sum.map (fun _ => ()) id) :=
  su (g := fun s => oZ p0 p1 s.1 s.2) (KO p0 p1) (Ym p0 p1) (fun s => by show oZ p0 p1 s.1 s.2 = _; rw [oZ]; rfl)
    (fun M h s r => oZ.partial_correctness p0 p1 (fun a0 a1 r => M (a0, a1) r) (fun self ih a0 a1 r hx => h (fun s => self s.1 s.2) (fun s r hr => ih s.1 s.2 r hr) (a0, a1) r hx) s.1 s.2 r) s
theorem LV : fA = f113 := by
  funext p0 p1
  unfold fA f113
  simp only [X3]
  split
  · rfl
  refine nS fun x => ?_
  cases x <;> rfl
noncomputable def Qk  (self : (Int) × (jQ.den) × (Int) → Option (jQ.den × Int × Int)) (s : (Int) × (jQ.den) × (Int)) : Option (jQ.den × Int × Int) :=
  if (decide (s.1 ≥ 128)) = true then
  if (0 : Int) ≤ s.2.2 ∧ s.2.2 < (10 : Nat) then
  self ((Int.fdiv s.1 (2 ^ 7)), (y5 jQ s.2.1 (Int.toNat s.2.2) (IntKind.wrap .u8 ((BitVec.ofInt (IntKind.bits .u8) (IntKind.wrap .u8 (s.1)) ||| BitVec.ofInt (IntKind.bits .u8) 128).toNat))), (IntKind.wrap .i64 (s.2.2 + 1)))
  else none
  else
  some ((s.2.1, s.1, s.2.2))
theorem aaW  (self : (Int) × (jQ.den) × (Int) → Option (jQ.den × Int × Int)) (s : (Int) × (jQ.den) × (Int)) : (Qk  self s).map (fun r => (r.2.1, r.1, r.2.2)) = (nY s).bind (Sum.elim (fun y => (self y).map (fun r => (r.2.1, r.1, r.2.2))) some) := by
  unfold Qk nY
  repeat' (first | rfl | refine bmd fun _ => ?_ | refine bmb fun _ => ?_ | refine itm Iff.rfl (fun _ => ?_) (fun _ => ?_))
theorem aam  (s : (Int) × (jQ.den) × (Int)) : aY (nY) s = (Bq s.2.1 s.1 s.2.2).map (fun r => (r.2.1, r.1, r.2.2)) :=
  su (g := fun s => Bq s.2.1 s.1 s.2.2) (Qk ) (aaW ) (fun s => by show Bq s.2.1 s.1 s.2.2 = _; rw [Bq]; rfl)
    (fun M h s r => Bq.partial_correctness  (fun a0 a1 a2 r => M (a1, a0, a2) r) (fun self ih a0 a1 a2 r hx => h (fun s => self s.2.1 s.1 s.2.2) (fun s r hr => ih s.2.1 s.1 s.2.2 r hr) (a1, a0, a2) r hx) s.2.1 s.1 s.2.2 r) s
theorem SS : dX = f90 := by
  funext p0
  unfold dX f90
  refine bbb fun z => ?_
  rw [aam]
  refine nS fun z => ?_
  refine itb Iff.rfl (fun h => ?_) (fun _ => rfl)
  refine itb Iff.rfl (fun h2 => ?_) (fun _ => rfl)
  rw [if_pos (by obtain ⟨h3, h4⟩ := h2; omega)]
  rfl
theorem Wp : EE = f94 := by
  funext p0 p1 p2
  unfold EE f94
  simp only [LV, QH, SS]
  refine bbb fun r3 => itb Iff.rfl (fun _ => rfl) fun _ => itb Iff.rfl (fun _ => ?_) (fun _ => rfl)
  refine bbb fun r9 => itb Iff.rfl (fun _ => rfl) fun _ => bbb fun r14 => ?_
  by_cases h : (r9.1.length : Int) < (r14.length : Int)
  · simp [h]
  · have h1 : (r14.length : Int) ≤ (r9.1.length : Int) := by omega
    simp [h, h1]
noncomputable def Qh (p0 : List UInt8) (p1 : Int) (self : (List (List UInt8)) × (Int) → Option ((List (List UInt8)) × Int)) (s : (List (List UInt8)) × (Int)) : Option ((List (List UInt8)) × Int) :=
  if (decide (p1 ≥ 0)) = true then
  f94 p0 s.2 (IntKind.wrap .i64 (p1 + (s.1.length : Int))) >>= fun r16 =>
  if (!r16.2.2) = true then
  some ((s.1, s.2))
  else
  if (s.1.length + 1) * 16 ≤ 140737488355328 then
  self ((s.1 ++ [r16.1]), r16.2.1)
  else none
  else
  some ((s.1, s.2))
theorem aaT (p0 : List UInt8) (p1 : Int) (self : (List (List UInt8)) × (Int) → Option ((List (List UInt8)) × Int)) (s : (List (List UInt8)) × (Int)) : (Qh p0 p1 self s).map (fun r => r) = (uq p0 p1 s).bind (Sum.elim (fun y => (self y).map (fun r => r)) some) := by
  unfold Qh uq
  rw [Wp]
  repeat' (first | rfl | refine bmd fun _ => ?_ | refine bmb fun _ => ?_ | refine itm Iff.rfl (fun _ => ?_) (fun _ => ?_))
theorem aaj (p0 : List UInt8) (p1 : Int) (s : (List (List UInt8)) × (Int)) : aY (uq p0 p1) s = (zM p0 p1 s.1 s.2).map (fun r => r) :=
  su (g := fun s => zM p0 p1 s.1 s.2) (Qh p0 p1) (aaT p0 p1) (fun s => by show zM p0 p1 s.1 s.2 = _; rw [zM]; rfl)
    (fun M h s r => zM.partial_correctness p0 p1 (fun a0 a1 r => M (a0, a1) r) (fun self ih a0 a1 r hx => h (fun s => self s.1 s.2) (fun s r hr => ih s.1 s.2 r hr) (a0, a1) r hx) s.1 s.2 r) s
theorem Wl : zu = f49 := by
  funext p0 p1
  unfold zu f49
  rw [aaj]
  exact nS fun _ => rfl
theorem QJ : uo = f115 := by
  funext p0 p1 σ
  unfold uo f115
  simp only [Dx, eq_28, Wl]
  cases p0 <;> simp [St.aX, St.az, St.ay]
noncomputable def Qm (p0 : Option Nat) (r3 : List Int) (self : (Int) × (Int) × (Int) × (St) → Option (Sum (Int × Int × Int × St) (Int × St))) (s : (Int) × (Int) × (Int) × (St)) : Option (Sum (Int × Int × Int × St) (Int × St)) :=
  if (decide (s.2.2.1 < (r3.length : Int))) = true then
  (ix r3 s.2.2.1) >>= fun x19 =>
  if (decide (s.2.2.1 > 0)) = true then
  if (decide (s.1 > 0)) = true then
  some (.inl (s.1, s.2.1, s.2.2.1, s.2.2.2))
  else
  f55 p0 s.2.2.2 >>= fun r22 =>
  if (x19 != r22) = true then
  some (.inl (s.1, s.2.1, s.2.2.1, s.2.2.2))
  else
  f115 p0 x19 s.2.2.2 >>= fun r24 =>
  if (r24.1.2.2 != 0) = true then
  some (.inr (r24.1.2.2, r24.2))
  else
  p0 >>= fun i29 =>
  (r24.2.aj[i29]?) >>= fun o30 =>
  if (o30.2.2.2.1.length + 1) * 8 ≤ 140737488355328 then
  self (r24.1.2.1, (IntKind.wrap .i64 (s.2.2.1 + 1)), (IntKind.wrap .i64 (s.2.2.1 + 1)), (r24.2.bg i29 (o30.1, o30.2.1, o30.2.2.1, o30.2.2.2.1 ++ [r24.1.1], o30.2.2.2.2.1, ())))
  else none
  else
  f115 p0 x19 s.2.2.2 >>= fun r35 =>
  if (r35.1.2.2 != 0) = true then
  some (.inr (r35.1.2.2, r35.2))
  else
  p0 >>= fun i40 =>
  (r35.2.aj[i40]?) >>= fun o41 =>
  if (o41.2.2.2.1.length + 1) * 8 ≤ 140737488355328 then
  self (r35.1.2.1, (IntKind.wrap .i64 (s.2.2.1 + 1)), (IntKind.wrap .i64 (s.2.2.1 + 1)), (r35.2.bg i40 (o41.1, o41.2.1, o41.2.2.1, o41.2.2.2.1 ++ [r35.1.1], o41.2.2.2.2.1, ())))
  else none
  else
  some (.inl (s.1, s.2.1, s.2.2.1, s.2.2.2))
theorem aaY (p0 : Option Nat) (r3 : List Int) (self : (Int) × (Int) × (Int) × (St) → Option (Sum (Int × Int × Int × St) (Int × St))) (s : (Int) × (Int) × (Int) × (St)) : (Qm p0 r3 self s).map (Sum.map (fun r => (r.1, r.2.1, r.2.2.2)) id) = (lW p0 r3 s).bind (Sum.elim (fun y => (self y).map (Sum.map (fun r => (r.1, r.2.1, r.2.2.2)) id)) some) := by
  unfold Qm lW
  simp only [BV, QJ]
  refine itm Iff.rfl (fun _ => ?_) (fun _ => rfl)
  refine bmb fun x => ?_
  have tail : ∀ r : ((Option Nat) × Int × Int) × St, Option.map (Sum.map (fun r : Int × Int × Int × St => (r.1, r.2.1, r.2.2.2)) id) (if (r.1.2.2 != 0) = true then some (.inr (r.1.2.2, r.2)) else p0 >>= fun i29 => (r.2.aj[i29]?) >>= fun o30 => if (o30.2.2.2.1.length + 1) * 8 ≤ 140737488355328 then self (r.1.2.1, (IntKind.wrap .i64 (s.2.2.1 + 1)), (IntKind.wrap .i64 (s.2.2.1 + 1)), (r.2.bg i29 (o30.1, o30.2.1, o30.2.2.1, o30.2.2.2.1 ++ [r.1.1], o30.2.2.2.2.1, ()))) else none) =
      Option.bind (if (r.1.2.2 != 0) = true then some (.inr (.inr (r.1.2.2, r.2))) else Option.bind p0 fun x5 => Option.bind r.2.aj[x5]? fun x6 => if ((x6.2.2.2.1.length + 1) * 8) ≤ 140737488355328 then Option.bind p0 fun x7 => Option.bind r.2.aj[x7]? fun x8 => if x5 = x7 ∧ true = true then some (.inl (r.1.2.1, (IntKind.wrap .i64 (s.2.2.1 + 1), (IntKind.wrap .i64 (s.2.2.1 + 1), (r.2.qA (r.2.aj.set x7 (x8.1, (x8.2.1, (x8.2.2.1, ((x6.2.2.2.1 ++ [r.1.1]), x8.2.2.2.2)))))))))) else none else none) (Sum.elim (fun y => (self y).map (Sum.map (fun r : Int × Int × Int × St => (r.1, r.2.1, r.2.2.2)) id)) some) := by
    intro r
    refine itm Iff.rfl (fun _ => rfl) (fun _ => ?_)
    rcases p0 with _ | i
    · rfl
    show Option.map _ (Option.bind (some i) _) = Option.bind (Option.bind (some i) _) _
    simp only [Option.bind_some]
    cases h : r.2.aj[i]? with
    | none => rfl
    | some o =>
      show Option.map _ (ite _ _ _) = Option.bind (ite _ _ _) _
      refine itm Iff.rfl (fun _ => ?_) (fun _ => rfl)
      simp only [and_self, if_true]; rfl
  by_cases h9 : s.2.2.1 > 0
  · by_cases h7 : s.1 > 0
    · simp [h9, h7]
    · simp only [h9, h7, decide_true, decide_false, if_true, Bool.not_false, Bool.and_self, Bool.false_eq_true, if_false, Bool.false_or, Bool.true_and]
      refine bmb fun r22 => itm Iff.rfl (fun _ => rfl) fun _ => ?_
      exact bmb fun r => by have t := tail r; simp only [and_true] at t ⊢; exact t
  · simp only [h9, decide_false, Bool.false_eq_true, if_false, Bool.false_and]
    show Option.map _ (Option.bind _ _) = Option.bind (Option.bind (some 0) _) _
    rw [Option.bind_some]
    exact bmb fun r => by have t := tail r; simp only [and_true] at t ⊢; exact t
theorem aao (p0 : Option Nat) (r3 : List Int) (s : (Int) × (Int) × (Int) × (St)) : aY (lW p0 r3) s = (qY p0 r3 s.1 s.2.1 s.2.2.1 s.2.2.2).map (Sum.map (fun r => (r.1, r.2.1, r.2.2.2)) id) :=
  su (g := fun s => qY p0 r3 s.1 s.2.1 s.2.2.1 s.2.2.2) (Qm p0 r3) (aaY p0 r3) (fun s => by show qY p0 r3 s.1 s.2.1 s.2.2.1 s.2.2.2 = _; rw [qY]; rfl)
    (fun M h s r => qY.partial_correctness p0 r3 (fun a0 a1 a2 a3 r => M (a0, a1, a2, a3) r) (fun self ih a0 a1 a2 a3 r hx => h (fun s => self s.1 s.2.1 s.2.2.1 s.2.2.2) (fun s r hr => ih s.1 s.2.1 s.2.2.1 s.2.2.2 r hr) (a0, a1, a2, a3) r hx) s.1 s.2.1 s.2.2.1 s.2.2.2 r) s
noncomputable def Qn (p0 : Option Nat) (r3 : List Int) (z45 : Int × Int × Int × St) (o49 : aA dh) (self : (Int) × (St) → Option (Sum (Int × St) (Int × St))) (s : (Int) × (St)) : Option (Sum (Int × St) (Int × St)) :=
  if (decide (s.1 ≥ z45.2.1)) = true then
  (ix r3 s.1) >>= fun x62 =>
  f98 p0 (some s.2.ae.length) (s.2.az (x62, [], 0, ())) >>= fun r63 =>
  f37 o49.1 r63 (s.2.az (x62, [], 0, ())) >>= fun r64 =>
  if (r64.1 != 0) = true then
  some (.inr (r64.1, r64.2))
  else
  self ((IntKind.wrap .i64 (s.1 - 1)), r64.2)
  else
  some (.inl (s.1, s.2))
theorem aaZ (p0 : Option Nat) (r3 : List Int) (z45 : Int × Int × Int × St) (o49 : aA dh) (self : (Int) × (St) → Option (Sum (Int × St) (Int × St))) (s : (Int) × (St)) : (Qn p0 r3 z45 o49 self s).map (Sum.map (fun r => r.2) id) = (jD p0 r3 (z45.1, z45.2.1, z45.2.2.2) o49 s).bind (Sum.elim (fun y => (self y).map (Sum.map (fun r => r.2) id)) some) := by
  unfold Qn jD
  simp only [Dx, eq_37]
  repeat' (first | rfl | refine bmd fun _ => ?_ | refine bmb fun _ => ?_ | refine itm Iff.rfl (fun _ => ?_) (fun _ => ?_))
theorem aap (p0 : Option Nat) (r3 : List Int) (z45 : Int × Int × Int × St) (o49 : aA dh) (s : (Int) × (St)) : aY (jD p0 r3 (z45.1, z45.2.1, z45.2.2.2) o49) s = (Bv p0 r3 z45 o49 s.1 s.2).map (Sum.map (fun r => r.2) id) :=
  su (g := fun s => Bv p0 r3 z45 o49 s.1 s.2) (Qn p0 r3 z45 o49) (aaZ p0 r3 z45 o49) (fun s => by show Bv p0 r3 z45 o49 s.1 s.2 = _; rw [Bv]; rfl)
    (fun M h s r => Bv.partial_correctness p0 r3 z45 o49 (fun a0 a1 r => M (a0, a1) r) (fun self ih a0 a1 r hx => h (fun s => self s.1 s.2) (fun s r hr => ih s.1 s.2 r hr) (a0, a1) r hx) s.1 s.2 r) s
theorem Zq : pF = f96 := by
  funext p0 σ
  unfold pF f96
  simp only [aao]
  refine bbb fun r3 => ?_
  refine nS fun x => ?_
  cases x with
  | inr y => rfl
  | inl z =>
    rcases p0 with _ | i
    · rfl
    refine bbb fun o => ?_
    show Option.bind (aY (jD (some i) r3 (z.1, z.2.1, z.2.2.2) o) (_, _)) _ = _
    rw [aap]
    refine nS fun x => ?_
    cases x with
    | inr y => rfl
    | inl y =>
      refine itb Iff.rfl (fun _ => rfl) fun _ => ?_
      show Option.bind (some i) _ = Option.bind (some i) _
      simp only [Option.bind_some]
      cases h : y.2.aj[i]? with
      | none => rfl
      | some q =>
        show Option.bind (ix q.2.2.2.1 _) _ = Option.bind (ix q.2.2.2.1 _) _
        refine bbb fun x75 => itb Iff.rfl (fun _ => ?_) (fun _ => ?_)
        · show Option.bind (gy _ _ _) _ = _
          simp only [Dx, eq_35, Fq]
          rfl
        · simp only [Fq]; rfl
theorem Zo : Bz = f53 := by
  funext a0 a1 a2 a3
  unfold Bz f53
  try simp only [eq_18, Fv, GX, eq_24, eq_27, Dw, eq_28, eq_31, eq_33, eq_35, eq_37, LX, Dv, Fz, BV, Dx, Fq, LU, IU, LW, QI, QH, LV, SS, Wp, Wl, QJ, Zq]
  rfl
theorem Wn : lL = f54 := by
  funext p σ
  unfold lL f54
  rcases p with _ | i
  · rfl
  cases h2 : σ.aj[i]? with
  | none => simp [h2]
  | some o => simp [h2]
noncomputable def Qi (p0 : Option Nat) (p1 : Int) (σ : St) (self : (Int) → Option (Int)) (s : (Int)) : Option (Int) :=
  p0 >>= fun i22 =>
  (σ.aj[i22]?) >>= fun o23 =>
  (ix o23.2.2.2.1 s) >>= fun x24 =>
  x24 >>= fun i25 =>
  (σ.ae[i25]?) >>= fun o26 =>
  if (decide (o26.1 > p1)) = true then
  self (IntKind.wrap .i64 (s - 1))
  else
  some (s)
theorem aaU (p0 : Option Nat) (p1 : Int) (σ : St) (self : (Int) → Option (Int)) (s : (Int)) : (Qi p0 p1 σ self s).map (fun r => r) = (pz p0 p1 σ s).bind (Sum.elim (fun y => (self y).map (fun r => r)) some) := by
  unfold Qi pz
  repeat' (first | rfl | refine bmd fun _ => ?_ | refine bmb fun _ => ?_ | refine itm Iff.rfl (fun _ => ?_) (fun _ => ?_))
theorem aak (p0 : Option Nat) (p1 : Int) (σ : St) (s : (Int)) : aY (pz p0 p1 σ) s = (zN p0 p1 σ s).map (fun r => r) :=
  su (g := fun s => zN p0 p1 σ s) (Qi p0 p1 σ) (aaU p0 p1 σ) (fun s => by show zN p0 p1 σ s = _; rw [zN]; rfl)
    (fun M h s r => zN.partial_correctness p0 p1 σ (fun a0 r => M (a0) r) (fun self ih a0 r hx => h (fun s => self s) (fun s r hr => ih s r hr) (a0) r hx) s r) s
theorem Zp : um = f58 := by
  funext p0 p1 σ
  unfold um f58
  simp only [Wn, BV, aak, Option.map_id']
  split
  · rfl
  refine bbb fun r6 => ?_
  split
  · rfl
  refine bbb fun r9 => ?_
  split
  · rfl
  refine bbb fun i => bbb fun o => bbb fun z => ?_
  rcases p0 with _ | j
  · rfl
  cases h : σ.aj[j]? with
  | none => simp [h]
  | some q => simp [h]
theorem adR : xP = f89 := by
  funext a0
  unfold xP f89
  try simp only [eq_18, Fv, GX, eq_24, eq_27, Dw, eq_28, eq_31, eq_33, eq_35, eq_37, LX, Dv, Fz, BV, Dx, Fq, LU, IU, LW, QI, QH, LV, SS, Wp, Wl, QJ, Zq, Zo, Wn, Zp]
  rfl
theorem adS : uz = f99 := by
  funext a0 a1
  unfold uz f99
  try simp only [eq_18, Fv, GX, eq_24, eq_27, Dw, eq_28, eq_31, eq_33, eq_35, eq_37, LX, Dv, Fz, BV, Dx, Fq, LU, IU, LW, QI, QH, LV, SS, Wp, Wl, QJ, Zq, Zo, Wn, Zp, adR]
  rfl
theorem adN : qK = f59 := by
  funext p0 p1 σ
  unfold qK f59
  simp only [BV, Fz, Fq, adS, Dx, eq_24]
  rcases p0 with _ | i
  · rfl
  refine itb Iff.rfl (fun _ => rfl) fun _ => itb Iff.rfl (fun _ => rfl) fun _ => bbb fun r8 => bbb fun r10 => ?_
  cases r10 with
  | none =>
    simp only [Option.isNone_none, Bool.not_true, Bool.false_eq_true, if_false, if_true, Option.bind_assoc]
    refine bbb fun r17 => ?_
    by_cases h : (r17.1 != 0) = true
    · simp only [if_pos h]; rfl
    · simp only [if_neg h, Option.bind_some, kC]
      refine bbb fun r21 => ?_
      show Option.bind ((r17.2.aX (r17.2.ae ++ [(r8, [], 0, ())])).aj[i]?) _ = Option.bind ((r17.2.aX (r17.2.ae ++ [(r8, [], 0, ())])).aj[i]?) _
      refine bbb fun o25 => bbb fun r26 => bbb fun r27 => itb Iff.rfl (fun _ => rfl) fun _ => ?_
      cases h2 : r27.2.ae[r17.2.ae.length]? with
      | none => rfl
      | some o31 =>
        have h3 : r17.2.ae.length < r27.2.ae.length := (List.getElem?_eq_some_iff.1 h2).1
        simp only [Option.bind_some]
        refine itb Iff.rfl (fun _ => ?_) (fun _ => rfl)
        simp only [and_self, if_true, List.getElem?_set_self h3, Option.bind_some]
        show Option.bind r27.2.aj[i]? _ = Option.bind r27.2.aj[i]? _
        cases h4 : r27.2.aj[i]? with
        | none => rfl
        | some o38 =>
          simp only [Option.bind_some]
          refine itb Iff.rfl (fun _ => ?_) (fun _ => rfl)
          rfl
  | some j =>
    simp only [Option.isNone_some, Bool.not_false, Bool.false_eq_true, if_false, if_true, Option.bind_some]
    refine (bbb fun o45 => ?_ : Option.bind σ.ae[j]? _ = Option.bind σ.ae[j]? _)
    show Option.bind σ.aj[i]? _ = Option.bind σ.aj[i]? _
    cases h0 : σ.aj[i]? with
    | none => rfl
    | some o47 =>
    simp only [Option.bind_some]
    show _ = (if _ then _ else _)
    by_cases hd : decide (o45.2.2.1 ≥ o47.2.2.1) = true
    · simp only [if_pos hd, Option.bind_assoc]
      refine bbb fun r52 => ?_
      by_cases h : (r52.1 != 0) = true
      · simp only [if_pos h]; rfl
      · simp only [if_neg h, Option.bind_some, kC]
        refine bbb fun r21 => ?_
        refine bbb fun o25 => bbb fun r26 => bbb fun r27 => itb Iff.rfl (fun _ => rfl) fun _ => ?_
        cases h2 : r27.2.ae[r52.2.ae.length]? with
        | none => rfl
        | some o31 =>
          have h3 : r52.2.ae.length < r27.2.ae.length := (List.getElem?_eq_some_iff.1 h2).1
          simp only [Option.bind_some]
          refine itb Iff.rfl (fun _ => ?_) (fun _ => rfl)
          simp only [and_self, if_true, List.getElem?_set_self h3, Option.bind_some]
          show Option.bind r27.2.aj[i]? _ = Option.bind (Option.bind r27.2.aj[i]? _) _
          cases h4 : r27.2.aj[i]? with
          | none => rfl
          | some o38 =>
            simp only [Option.bind_some]
            show (if _ then _ else _) = Option.bind (if _ then _ else _) _
            split <;> rfl
    · simp only [if_neg hd, Option.bind_some, kC]
      refine bbb fun r81 => ?_
      rw [h0]
      simp only [Option.bind_some]
      refine bbb fun r26 => bbb fun r27 => itb Iff.rfl (fun _ => rfl) fun _ => ?_
      cases h2 : r27.2.ae[j]? with
      | none => rfl
      | some o31 =>
        have h3 : j < r27.2.ae.length := (List.getElem?_eq_some_iff.1 h2).1
        simp only [Option.bind_some]
        refine itb Iff.rfl (fun _ => ?_) (fun _ => rfl)
        simp only [and_self, if_true, List.getElem?_set_self h3, Option.bind_some]
        rfl
end Go.Proofs.YtbnmhjobnepajaaGreat.M


namespace Go.Proofs.YtbnmhjobnepajaaGreat.M

theorem aQ {x : Int} (h1 : -9223372036854775808 ≤ x) (h2 : x < 9223372036854775808) : IntKind.wrap .i64 x = x := by
  rw [IntKind.wrap_i64]; omega

noncomputable def okc (c : UInt8) : Bool := (97 ≤ c.toNat && c.toNat ≤ 122) || (48 ≤ c.toNat && c.toNat ≤ 57) || c.toNat == 46 || c.toNat == 45 || c.toNat == 95

noncomputable def Jf (s : List UInt8) : Bool := s.all okc && (0 < s.length && s.length ≤ 24)

theorem Bi {s : List UInt8} {n : Nat} (h : n < s.length) : btS s (n : Int) = (s[n].toNat : Int) := by
  simp [btS, h]

theorem Tj (s : List UInt8) (hs : s.length < 9223372036854775808) : ∀ (k n : Nat), n + k = s.length → yF s (n : Int) = some (cond ((s.drop n).all okc) (.inl (s.length : Int)) (.inr false))
  | 0, n, h => by
    rw [yF]
    have : n = s.length := by omega
    subst this
    simp
  | k + 1, n, h => by
    rw [yF]
    have hn : n < s.length := by omega
    have ih := Tj s hs k (n + 1) (by omega)
    have hw : IntKind.wrap .i64 ((n : Int) + 1) = ((n + 1 : Nat) : Int) := by rw [aQ (by omega) (by omega)]; omega
    rw [Bi hn, hw, ih]
    have hd : s.drop n = s[n] :: s.drop (n + 1) := by simp
    rw [hd]
    simp only [List.all_cons]
    have h1 : ((n : Int) < (s.length : Int)) := by omega
    have h0 : (0 : Int) ≤ (n : Int) := by omega
    simp only [h1, h0, decide_true, if_true, and_self]
    by_cases hc : okc s[n] = true
    · have : ((((((decide ((s[n].toNat : Int) < 97)) || (decide ((s[n].toNat : Int) > 122))) && ((decide ((s[n].toNat : Int) < 48)) || (decide ((s[n].toNat : Int) > 57)))) && ((s[n].toNat : Int) != 46)) && ((s[n].toNat : Int) != 45)) && ((s[n].toNat : Int) != 95)) = false := by
        unfold okc at hc
        simp only [Bool.or_eq_true, Bool.and_eq_true, decide_eq_true_eq, beq_iff_eq] at hc
        rw [Bool.eq_false_iff]
        simp only [ne_eq, Bool.and_eq_true, Bool.or_eq_true, decide_eq_true_eq, bne_iff_ne]
        omega
      rw [this, hc]
      simp
    · have : ((((((decide ((s[n].toNat : Int) < 97)) || (decide ((s[n].toNat : Int) > 122))) && ((decide ((s[n].toNat : Int) < 48)) || (decide ((s[n].toNat : Int) > 57)))) && ((s[n].toNat : Int) != 46)) && ((s[n].toNat : Int) != 45)) && ((s[n].toNat : Int) != 95)) = true := by
        unfold okc at hc
        simp only [Bool.or_eq_true, Bool.and_eq_true, decide_eq_true_eq, beq_iff_eq] at hc
        simp only [Bool.and_eq_true, Bool.or_eq_true, decide_eq_true_eq, bne_iff_ne]
        omega
      rw [this]
      simp only [Bool.not_eq_true] at hc
      rw [hc]
      simp

theorem adb (s : List UInt8) (hs : s.length < 9223372036854775808) : f71 s = some (Jf s) := by
  unfold f71
  rw [show (0 : Int) = ((0 : Nat) : Int) from rfl, Tj s hs s.length 0 (by omega)]
  simp only [List.drop_zero]
  unfold Jf
  by_cases h : s.all okc = true
  · rw [h]; simp
    congr 1
    exact decide_eq_decide.2 (by omega)
  · simp only [Bool.not_eq_true] at h
    rw [h]; simp
theorem lX {α : Type} {l : List α} {n : Nat} (h : n < l.length) : ix l (n : Int) = some l[n] := by
  simp [ix, h]

end Go.Proofs.YtbnmhjobnepajaaGreat.M


namespace Go.Proofs.YtbnmhjobnepajaaGreat.M

theorem w8 (x : Int) : IntKind.wrap .u8 x = x % 256 := by simp [IntKind.wrap, IntKind.bits, IntKind.signed]
theorem w64 (x : Int) : IntKind.wrap .u64 x = x % 18446744073709551616 := by simp [IntKind.wrap, IntKind.bits, IntKind.signed]

theorem Yc : ∀ b : Fin 256, ((BitVec.ofNat 8 b.val) ||| (BitVec.ofNat 8 128)).toNat = b.val % 128 + 128 := by decide +kernel
theorem UJ : ∀ b : Fin 256, ((BitVec.ofNat 8 b.val) &&& (BitVec.ofNat 8 127)).toNat = b.val % 128 := by decide +kernel

theorem vV (w m : Nat) : BitVec.ofInt w (m : Int) = BitVec.ofNat w m := by
  apply BitVec.eq_of_toNat_eq
  simp

theorem ad5 (x : Nat) : IntKind.wrap .u8 (((BitVec.ofInt (IntKind.bits .u8) (IntKind.wrap .u8 (x : Int)) ||| BitVec.ofInt (IntKind.bits .u8) 128).toNat : Nat) : Int) = ((x % 128 + 128 : Nat) : Int) := by
  have e1 : IntKind.wrap .u8 (x : Int) = ((x % 256 : Nat) : Int) := by rw [w8]; omega
  have h : (BitVec.ofInt 8 ((x % 256 : Nat) : Int) ||| BitVec.ofInt 8 128).toNat = x % 256 % 128 + 128 := by
    rw [vV]; exact Yc ⟨x % 256, Nat.mod_lt _ (by decide)⟩
  have h2 : (BitVec.ofInt (IntKind.bits .u8) ((x % 256 : Nat) : Int) ||| BitVec.ofInt (IntKind.bits .u8) 128).toNat = x % 256 % 128 + 128 := h
  rw [e1, h2, w8]
  omega

theorem YL {c : Nat} (hc : c < 256) : IntKind.wrap .u8 (((BitVec.ofInt (IntKind.bits .u8) (c : Int) &&& BitVec.ofInt (IntKind.bits .u8) 127).toNat : Nat) : Int) = ((c % 128 : Nat) : Int) := by
  have h : (BitVec.ofInt 8 (c : Int) &&& BitVec.ofInt 8 127).toNat = c % 128 := by
    rw [vV]; exact UJ ⟨c, hc⟩
  have h2 : (BitVec.ofInt (IntKind.bits .u8) (c : Int) &&& BitVec.ofInt (IntKind.bits .u8) 127).toNat = c % 128 := h
  rw [h2, w8]
  omega

noncomputable def vbI (u : Nat) : List Int := if u < 128 then [(u : Int)] else ((u % 128 + 128 : Nat) : Int) :: vbI (u / 128)
  termination_by u
  decreasing_by omega

theorem oM {u : Nat} (h : u < 128) : vbI u = [(u : Int)] := by rw [vbI, if_pos h]
theorem yh {u : Nat} (h : ¬ u < 128) : vbI u = ((u % 128 + 128 : Nat) : Int) :: vbI (u / 128) := by rw [vbI, if_neg h]

theorem GG : ∀ {n : Nat} {k : Kd} {x : k.den} {i : Nat} {z : Int}, xy n k = true → i < n → Ac k (y5 k x i z) = (Ac k x).set i z
  | 0, _, _, _, _, _, h => by omega
  | n + 1, k, x, i, z, hk, h => by
    unfold xy at hk
    split at hk
    · rename_i h0; cases h0
    · rename_i m b h0
      cases h0
      cases i with
      | zero => simp [y5, Ac]
      | succ i =>
        have ih := GG (x := x.2) (i := i) (z := z) hk (by omega)
        simp [y5, Ac, ih]
    · cases hk

theorem Gz : ∀ {n : Nat} {k : Kd} {x : k.den}, xy n k = true → (Ac k x).length = n
  | 0, k, x, hk => by
    cases k <;> simp [xy] at hk
    rfl
  | n + 1, k, x, hk => by
    unfold xy at hk
    split at hk
    · rename_i h0; cases h0
    · rename_i m b h0
      cases h0
      have ih := Gz (x := x.2) hk
      simp [Ac, ih]
    · cases hk

theorem take_set {α : Type} {l : List α} {n : Nat} (h : n < l.length) (z : α) : (l.set n z).take (n + 1) = l.take n ++ [z] := by
  rw [List.take_set, List.take_succ_eq_append_getElem h]
  rw [List.set_append_right _ _ (by simp; omega)]
  have : n - (l.take n).length = 0 := by simp; omega
  rw [this]
  rfl

theorem L6 : ∀ (k x n : Nat) (y : jQ.den) (pre : List Int), x < 128 ^ (k + 1) → n + k < 10 → (Ac jQ y).take n = pre →
    ∃ y2 : jQ.den, ∃ x2 n2 : Nat, Bq y (x : Int) (n : Int) = some (y2, (x2 : Int), (n2 : Int)) ∧ n2 < 10 ∧ x2 < 128 ∧ pre ++ vbI x = (Ac jQ y2).take n2 ++ [(x2 : Int)]
  | k, x, n, y, pre, hx, hn, hp => by
    rw [Bq]
    by_cases c : x < 128
    · exact ⟨y, x, n, by rw [if_neg (by simp; omega)], by omega, c, by rw [oM c, hp]⟩
    · rw [if_pos (by simp; omega), if_pos (by omega)]
      have e1 : Int.fdiv (x : Int) (2 ^ 7) = ((x / 128 : Nat) : Int) := by
        rw [Int.fdiv_eq_ediv_of_nonneg _ (by decide)]; norm_cast
      have hw : IntKind.wrap .i64 ((n : Int) + 1) = ((n + 1 : Nat) : Int) := by rw [aQ (by omega) (by omega)]; omega
      have hi : Int.toNat (n : Int) = n := by omega
      rw [e1, hw, ad5, hi]
      cases k with
      | zero => simp at hx; omega
      | succ k =>
        have hA : xy 10 jQ = true := rfl
        obtain ⟨y2, x2, n2, i1, i2, i3, i4⟩ := L6 k (x / 128) (n + 1) (y5 jQ y n ((x % 128 + 128 : Nat) : Int)) (pre ++ [((x % 128 + 128 : Nat) : Int)]) (by rw [Nat.div_lt_iff_lt_mul (by decide)]; rw [Nat.pow_succ] at hx; exact hx) (by omega) (by
          rw [GG hA (by omega), take_set (by rw [Gz hA]; omega), hp])
        refine ⟨y2, x2, n2, i1, i2, i3, ?_⟩
        rw [yh c, ← i4]; simp

noncomputable def oh (n : Nat) : List UInt8 := bQ (vbI (2 * n))

theorem LZ {n : Nat} (hn : n < 9223372036854775808) : f90 (n : Int) = some (oh n) := by
  unfold f90
  have c : ¬ ((n : Int) < 0) := by omega
  have e1 : IntKind.wrap .u64 (IntKind.wrap .u64 (n : Int) * 2 ^ 1) = ((2 * n : Nat) : Int) := by
    rw [w64, w64]; omega
  rw [if_neg (by simp), e1]
  simp only [Option.bind_eq_bind, Option.bind_some]
  obtain ⟨y2, x2, n2, h1, h2, h3, h4⟩ := L6 9 (2 * n) 0 (0, 0, 0, 0, 0, 0, 0, 0, 0, 0, ()) [] (by omega) (by omega) rfl
  rw [show (((0 : Nat) : Int)) = (0 : Int) from rfl] at h1
  rw [h1]
  simp only [Option.bind_some]
  have hw : IntKind.wrap .i64 ((n2 : Int) + 1) = ((n2 + 1 : Nat) : Int) := by rw [aQ (by omega) (by omega)]; omega
  rw [hw, if_pos (by omega), if_pos (by omega)]
  have hA : xy 10 jQ = true := rfl
  have hi : Int.toNat (n2 : Int) = n2 := by omega
  have hi2 : Int.toNat ((n2 + 1 : Nat) : Int) = n2 + 1 := by omega
  have hz : IntKind.wrap .u8 (x2 : Int) = (x2 : Int) := by rw [w8]; omega
  rw [hi, hi2, hz, GG hA h2, take_set (by rw [Gz hA]; exact h2), ← h4]
  rfl

theorem Xj : ∀ (k u : Nat), u < 128 ^ (k + 1) → (vbI u).length ≤ k + 1 := by
  intro k
  induction k with
  | zero => intro u h; rw [oM (by simpa using h)]; simp
  | succ k ih =>
    intro u h
    by_cases c : u < 128
    · rw [oM c]; simp
    · rw [yh c, List.length_cons]
      have := ih (u / 128) (by rw [Nat.div_lt_iff_lt_mul (by decide)]; rw [Nat.pow_succ] at h; exact h)
      omega

theorem wY {n : Nat} (h : n < 9223372036854775808) : (oh n).length ≤ 10 := by
  unfold oh bQ
  rw [List.length_map]
  exact Xj 9 (2 * n) (by omega)

theorem Xk (u : Nat) : 0 < (vbI u).length := by
  by_cases c : u < 128
  · rw [oM c]; simp
  · rw [yh c]; simp

theorem Xh {c : Nat} (h : c < 256) : (UInt8.ofNat ((c : Nat) : Int).toNat).toNat = c := by
  have : ((c : Nat) : Int).toNat = c := by omega
  rw [this, UInt8.toNat_ofNat_of_lt' (by show c < 256; exact h)]

theorem aaA {a b i : Nat} (h : a < 2 ^ i) (hs : a + b * 2 ^ i < 2 ^ 64) : (BitVec.ofInt (IntKind.bits .u64) (a : Int) ||| BitVec.ofInt (IntKind.bits .u64) ((b * 2 ^ i : Nat) : Int)).toNat = a + b * 2 ^ i := by
  have e1 : BitVec.ofInt (IntKind.bits .u64) (a : Int) = BitVec.ofNat 64 a := vV 64 a
  have e2 : BitVec.ofInt (IntKind.bits .u64) ((b * 2 ^ i : Nat) : Int) = BitVec.ofNat 64 (b * 2 ^ i) := vV 64 _
  rw [e1, e2]
  show (BitVec.ofNat 64 a ||| BitVec.ofNat 64 (b * 2 ^ i)).toNat = _
  rw [BitVec.toNat_or, BitVec.toNat_ofNat, BitVec.toNat_ofNat, Nat.mod_eq_of_lt (by omega), Nat.mod_eq_of_lt (by omega)]
  have := Nat.two_pow_add_eq_or_of_lt h b
  rw [Nat.or_comm, Nat.mul_comm b, ← this]; omega

theorem and_one (x : Nat) (hx : x < 2 ^ 64) : (BitVec.ofInt (IntKind.bits .u64) (x : Int) &&& BitVec.ofInt (IntKind.bits .u64) 1).toNat = x % 2 := by
  have e1 : BitVec.ofInt (IntKind.bits .u64) (x : Int) = BitVec.ofNat 64 x := vV 64 x
  have e2 : BitVec.ofInt (IntKind.bits .u64) 1 = BitVec.ofNat 64 1 := rfl
  rw [e1, e2]
  show (BitVec.ofNat 64 x &&& BitVec.ofNat 64 1).toNat = _
  rw [BitVec.toNat_and, BitVec.toNat_ofNat, BitVec.toNat_ofNat, Nat.mod_eq_of_lt hx, Nat.mod_eq_of_lt (by decide), Nat.and_one_is_mod]

theorem Qu {s : List UInt8} {n : Nat} {c : UInt8} {r : List UInt8} (h : s.drop n = c :: r) : n < s.length ∧ btS s (n : Int) = (c.toNat : Int) ∧ s.drop (n + 1) = r := by
  have hl : n < s.length := by
    rcases Nat.lt_or_ge n s.length with h1 | h1
    · exact h1
    · rw [List.drop_of_length_le h1] at h; cases h
  have h2 : s.drop n = s[n] :: s.drop (n + 1) := by simp
  rw [h] at h2
  injection h2 with h3 h4
  exact ⟨hl, by rw [Bi hl, h3], h4.symm⟩

theorem XQ (s : List UInt8) (p : Nat) (hs : s.length < 9223372036854775808) : ∀ (u i acc : Nat) (rest : List UInt8), s.drop (p + i) = bQ (vbI u) ++ rest → acc < 2 ^ (7 * i) → acc + u * 2 ^ (7 * i) < 2 ^ 63 → (acc + u * 2 ^ (7 * i)) % 2 = 0 → (0 < i → u ≠ 0) →
    oZ s (p : Int) (acc : Int) (i : Int) = some (.inr ((((acc + u * 2 ^ (7 * i)) / 2 : Nat) : Int), ((p + i + (vbI u).length : Nat) : Int), 0)) := by
  intro u
  induction u using Nat.strongRecOn with
  | ind u ih =>
    intro i acc rest hd ha ht hev hu
    have hi : i < 9 := by
      by_cases h0 : i = 0
      · omega
      · have hu1 : 1 ≤ u := by have := hu (by omega); omega
        have h1 : 2 ^ (7 * i) ≤ u * 2 ^ (7 * i) := Nat.le_mul_of_pos_left _ hu1
        have h2 : 2 ^ (7 * i) < 2 ^ 63 := by omega
        have := (Nat.pow_lt_pow_iff_right (a := 2) (by decide)).1 h2
        omega
    rw [oZ]
    have hhead : ∃ c : Nat, ∃ r, c < 256 ∧ s.drop (p + i) = (UInt8.ofNat ((c : Nat) : Int).toNat) :: r ∧ (u < 128 → c = u ∧ r = rest) ∧ (¬ u < 128 → c = u % 128 + 128 ∧ r = bQ (vbI (u / 128)) ++ rest) := by
      by_cases c : u < 128
      · exact ⟨u, rest, by omega, by rw [hd, oM c]; rfl, fun _ => ⟨rfl, rfl⟩, fun h => absurd c h⟩
      · exact ⟨u % 128 + 128, bQ (vbI (u / 128)) ++ rest, by omega, by rw [hd, yh c]; rfl, fun h => absurd h c, fun _ => ⟨rfl, rfl⟩⟩
    obtain ⟨c, r, hc, hd2, hsm, hbg⟩ := hhead
    obtain ⟨h1, h2, h3⟩ := Qu hd2
    rw [Xh hc] at h2
    have hw : IntKind.wrap .i64 ((p : Int) + (i : Int)) = ((p + i : Nat) : Int) := by rw [aQ (by omega) (by omega)]; omega
    have hw7 : IntKind.wrap .i64 (7 * (i : Int)) = ((7 * i : Nat) : Int) := by rw [aQ (by omega) (by omega)]; omega
    have hw1 : IntKind.wrap .i64 ((i : Int) + 1) = ((i + 1 : Nat) : Int) := by rw [aQ (by omega) (by omega)]; omega
    have hmin : min (Int.toNat ((7 * i : Nat) : Int)) (IntKind.bits .u64) = 7 * i := by
      have : Int.toNat ((7 * i : Nat) : Int) = 7 * i := by omega
      rw [this]
      show min (7 * i) 64 = 7 * i
      omega
    rw [hw, hw7, hw1, h2, hmin, YL hc]
    rw [if_pos (by simp; omega), if_pos (by omega), if_neg (by simp; omega), if_pos (by omega)]
    have hb : c % 128 ≤ u := by
      by_cases cc : u < 128
      · have := (hsm cc).1; omega
      · have := (hbg cc).1; omega
    have hle : (c % 128) * 2 ^ (7 * i) ≤ u * 2 ^ (7 * i) := Nat.mul_le_mul_right _ hb
    have e1 : IntKind.wrap .u64 (IntKind.wrap .u64 ((c % 128 : Nat) : Int) * 2 ^ (7 * i)) = (((c % 128) * 2 ^ (7 * i) : Nat) : Int) := by
      have e : IntKind.wrap .u64 ((c % 128 : Nat) : Int) = ((c % 128 : Nat) : Int) := by rw [w64]; omega
      have e0 : ((c % 128 : Nat) : Int) * 2 ^ (7 * i) = (((c % 128) * 2 ^ (7 * i) : Nat) : Int) := by push_cast; rfl
      rw [e, e0, w64]
      have : (((c % 128) * 2 ^ (7 * i) : Nat) : Int) < 18446744073709551616 := by
        have : (c % 128) * 2 ^ (7 * i) < 2 ^ 63 := by omega
        have h63 : (2 : Nat) ^ 63 < 18446744073709551616 := by decide
        omega
      omega
    have e2 : IntKind.wrap .u64 (((BitVec.ofInt (IntKind.bits .u64) (acc : Int) ||| BitVec.ofInt (IntKind.bits .u64) (((c % 128) * 2 ^ (7 * i) : Nat) : Int)).toNat : Nat) : Int) = ((acc + (c % 128) * 2 ^ (7 * i) : Nat) : Int) := by
      rw [aaA ha (by have : (2 : Nat) ^ 63 < 2 ^ 64 := by decide
                     omega), w64]
      have h63 : (2 : Nat) ^ 63 < 18446744073709551616 := by decide
      omega
    rw [e1, e2]
    by_cases cc : u < 128
    · obtain ⟨rfl, rfl⟩ := hsm cc
      have hm : c % 128 = c := by omega
      rw [if_neg (by simp; omega), if_neg (by simp only [Bool.and_eq_true, beq_iff_eq, decide_eq_true_eq, not_and]; intro h4 h5; exact hu (by omega) (by omega)), hm, oM cc]
      have h63 : (2 : Nat) ^ 63 < 2 ^ 64 := by decide
      rw [and_one _ (by omega), hev]
      have hne : ¬ ((IntKind.wrap .u64 ((0 : Nat) : Int) == 1) = true) := by decide
      rw [if_neg hne]
      simp only [Option.bind_eq_bind, Option.bind_some]
      have e3 : Int.fdiv ((acc + c * 2 ^ (7 * i) : Nat) : Int) (2 ^ 1) = (((acc + c * 2 ^ (7 * i)) / 2 : Nat) : Int) := by
        rw [Int.fdiv_eq_ediv_of_nonneg _ (by decide)]; norm_cast
      have h64 : (2 : Nat) ^ 63 = 9223372036854775808 := by decide
      rw [e3, aQ (by omega) (by omega), aQ (by omega) (by omega)]
      simp
    · obtain ⟨rfl, rfl⟩ := hbg cc
      rw [if_pos (by simp; omega)]
      have hm : (u % 128 + 128) % 128 = u % 128 := by omega
      rw [hm]
      have hsum : acc + u % 128 * 2 ^ (7 * i) + u / 128 * 2 ^ (7 * (i + 1)) = acc + u * 2 ^ (7 * i) := by
        have e : 2 ^ (7 * (i + 1)) = 128 * 2 ^ (7 * i) := by rw [Nat.mul_add, Nat.pow_add, Nat.mul_comm]
        rw [e, Nat.add_assoc, ← Nat.mul_assoc, ← Nat.add_mul]
        congr 2
        omega
      have hlt : acc + u % 128 * 2 ^ (7 * i) < 2 ^ (7 * (i + 1)) := by
        have e : 2 ^ (7 * (i + 1)) = 128 * 2 ^ (7 * i) := by rw [Nat.mul_add, Nat.pow_add, Nat.mul_comm]
        have h5 : u % 128 * 2 ^ (7 * i) ≤ 127 * 2 ^ (7 * i) := Nat.mul_le_mul_right _ (by omega)
        rw [e]; omega
      have := ih (u / 128) (by omega) (i + 1) (acc + u % 128 * 2 ^ (7 * i)) rest (by rw [← Nat.add_assoc]; exact h3) hlt (by rw [hsum]; exact ht) (by rw [hsum]; exact hev) (fun _ => by omega)
      rw [hsum] at this
      rw [this, yh cc, List.length_cons]
      congr 5
      omega

theorem LY (s : List UInt8) (p : Nat) (hs : s.length < 9223372036854775808) : ∀ (t : List UInt8) (i : Nat) (acc : Int), s.drop (p + i) = t → p + i ≤ s.length → (∀ c ∈ t, 128 ≤ c.toNat) → i + t.length ≤ 9 →
    ∃ z, oZ s (p : Int) acc (i : Int) = some (.inl z)
  | [], i, acc, hd, hp, ht, hi => by
    rw [oZ]
    have hl : s.length ≤ p + i := by
      have := congrArg List.length hd
      rw [List.length_drop] at this
      simp only [List.length_nil] at this
      omega
    have hw : IntKind.wrap .i64 ((p : Int) + (i : Int)) = ((p + i : Nat) : Int) := by rw [aQ (by omega) (by simp at hi; omega)]; omega
    rw [hw, if_neg (by simp; omega)]
    exact ⟨_, rfl⟩
  | c :: r, i, acc, hd, hp, ht, hi => by
    rw [oZ]
    obtain ⟨h1, h2, h3⟩ := Qu hd
    have hc := ht c List.mem_cons_self
    simp only [List.length_cons] at hi
    have hw : IntKind.wrap .i64 ((p : Int) + (i : Int)) = ((p + i : Nat) : Int) := by rw [aQ (by omega) (by omega)]; omega
    have hw7 : IntKind.wrap .i64 (7 * (i : Int)) = ((7 * i : Nat) : Int) := by rw [aQ (by omega) (by omega)]; omega
    have hw1 : IntKind.wrap .i64 ((i : Int) + 1) = ((i + 1 : Nat) : Int) := by rw [aQ (by omega) (by omega)]; omega
    rw [hw, hw7, hw1, h2, if_pos (by simp; omega), if_pos (by omega), if_neg (by simp; omega), if_pos (by omega), if_pos (by simp; omega)]
    exact LY s p hs r (i + 1) _ (by rw [← Nat.add_assoc]; exact h3) (by omega) (fun x hx => ht x (List.mem_cons_of_mem _ hx)) (by omega)

theorem Yy (u : Nat) : ∃ pre l, bQ (vbI u) = pre ++ [l] ∧ ∀ c ∈ pre, 128 ≤ UInt8.toNat c := by
  induction u using Nat.strongRecOn with
  | ind u ih =>
    by_cases c : u < 128
    · exact ⟨[], _, by rw [oM c]; rfl, by simp⟩
    · obtain ⟨pre, l, h1, h2⟩ := ih (u / 128) (by omega)
      refine ⟨UInt8.ofNat (((u % 128 + 128 : Nat) : Int).toNat) :: pre, l, ?_, ?_⟩
      · rw [yh c]
        show _ :: bQ (vbI (u / 128)) = _
        rw [h1]; rfl
      · intro x hx
        rcases List.mem_cons.1 hx with rfl | hx
        · rw [Xh (by omega)]; omega
        · exact h2 x hx

theorem S9 {s : List UInt8} {p k : Nat} {rest : List UInt8} (hs : s.length < 9223372036854775808) (hk : k < 4611686018427387904) (hp : p ≤ s.length) (hd : s.drop p = oh k ++ rest) :
    f113 s (p : Int) = some ((k : Int), ((p + (oh k).length : Nat) : Int), 0) := by
  unfold f113
  rw [if_neg (by simp; omega)]
  have := XQ s p hs (2 * k) 0 0 rest (by simpa [oh] using hd) (by simp) (by simp; omega) (by simp) (by simp)
  rw [show (((0 : Nat) : Int)) = (0 : Int) from rfl] at this
  rw [this]
  simp [oh, bQ]

theorem XP {s : List UInt8} {p k : Nat} {t : List UInt8} (hs : s.length < 9223372036854775808) (hk : k < 4611686018427387904) (hp : p ≤ s.length) (hd : s.drop p = t) (ht : t <+: oh k) (hn : t.length < (oh k).length) :
    f113 s (p : Int) = some (0, 0, 5) := by
  unfold f113
  rw [if_neg (by simp; omega)]
  obtain ⟨pre, l, h1, h2⟩ := Yy (2 * k)
  have h3 : oh k = pre ++ [l] := h1
  have hl := wY (n := k) (by omega)
  have h4 : t <+: pre := by
    rw [h3] at ht hn
    rw [List.length_append] at hn
    simp only [List.length_cons, List.length_nil] at hn
    exact List.prefix_of_prefix_length_le ht (List.prefix_append _ _) (by omega)
  obtain ⟨z, hz⟩ := LY s p hs t 0 0 (by simpa using hd) (by omega) (fun c hc => h2 c (h4.subset hc)) (by omega)
  rw [show (((0 : Nat) : Int)) = (0 : Int) from rfl] at hz
  rw [hz]
  rfl
end Go.Proofs.YtbnmhjobnepajaaGreat.M


namespace Go.Proofs.YtbnmhjobnepajaaGreat.M

theorem H8 {s γ : Type} {f : s → Option (s ⊕ γ)} (x : s) : aY f x = (f x).bind (Sum.elim (fun y => aY f y) some) := by
  rw [aY]
  show (f x).bind _ = _
  cases f x with
  | none => rfl
  | some y => cases y <;> rfl

theorem kZ {s γ : Type} {f : s → Option (s ⊕ γ)} {x y : s} (h : f x = some (.inl y)) : aY f x = aY f y := by rw [H8, h]; rfl
theorem jP {s γ : Type} {f : s → Option (s ⊕ γ)} {x : s} {r : γ} (h : f x = some (.inr r)) : aY f x = some r := by rw [H8, h]; rfl

noncomputable def sD {α : Type} (P : Nat → α → Bool) : Nat → List α → Bool
  | _, [] => true
  | i, x :: r => P i x && sD P (i + 1) r
theorem yC {α : Type} {P : α → Bool} : ∀ {i : Nat} {l : List α}, sD (fun _ x => P x) i l = l.all P
  | _, [] => rfl
  | i, x :: r => by rw [sD, List.all_cons, yC]
theorem dD {i : Nat} (h : i < 9223372036854775807) : IntKind.wrap .i64 ((i : Int) + 1) = ((i + 1 : Nat) : Int) := by rw [aQ (by omega) (by omega)]; omega

theorem V3 {α β : Type} {l : List α} {F : Int → Option (Int ⊕ (Unit ⊕ β))} (P : Nat → α → Bool) {e : β} (hF : ∀ i (h : i < l.length), F (i : Int) = some (if P i l[i] = true then .inl ((i + 1 : Nat) : Int) else .inr (.inr e))) (hE : F (l.length : Int) = some (.inr (.inl ()))) :
    ∀ (k i : Nat), i + k = l.length → aY F (i : Int) = some (if sD P i (l.drop i) = true then .inl () else .inr e)
  | 0, i, hi => by
    have : i = l.length := by omega
    subst this
    rw [H8, hE]
    simp [sD]
  | k + 1, i, hi => by
    have hl : i < l.length := by omega
    have hd : l.drop i = l[i] :: l.drop (i + 1) := by simp
    rw [H8, hF i hl, hd]
    by_cases hp : P i l[i] = true
    · rw [if_pos hp]
      show aY F (((i + 1 : Nat)) : Int) = _
      rw [V3 P hF hE k (i + 1) (by omega)]
      simp only [sD, hp, Bool.true_and]
    · rw [if_neg hp]
      simp [sD, hp]
theorem IL {α β : Type} {l : List α} {F : Int → Option (Int ⊕ (Unit ⊕ β))} (P : Nat → α → Bool) {e : β} (hF : ∀ i (h : i < l.length), F (i : Int) = some (if P i l[i] = true then .inl ((i + 1 : Nat) : Int) else .inr (.inr e))) (hE : F (l.length : Int) = some (.inr (.inl ()))) :
    aY F 0 = some (if sD P 0 l = true then .inl () else .inr e) := by
  have := V3 P hF hE l.length 0 (by omega)
  simpa using this

noncomputable def zz (n : Int) : Nat := if 0 ≤ n then (2 * n).toNat else (-2 * n - 1).toNat
noncomputable def unz (u : Nat) : Int := if u % 2 = 0 then ((u / 2 : Nat) : Int) else -((u / 2 : Nat) : Int) - 1
theorem adE (n : Int) : unz (zz n) = n := by
  unfold unz zz
  split <;> split <;> omega
noncomputable def zI (n : Int) : List Int := vbI (zz n)
noncomputable def fB (n : Int) : List UInt8 := bQ (zI n)
theorem acA {n : Int} (h1 : -9223372036854775808 ≤ n) (h2 : n < 9223372036854775808) : zz n < 18446744073709551616 := by
  unfold zz; split <;> omega
theorem ad3 {x : Nat} (h : x < 18446744073709551616) : ((BitVec.ofInt (IntKind.bits .u64) (if IntKind.signed .u64 = true then -1 else IntKind.max .u64) ^^^ BitVec.ofInt (IntKind.bits .u64) (x : Int)).toNat : Int) = 18446744073709551615 - (x : Int) := by
  have e1 : BitVec.ofInt (IntKind.bits .u64) (x : Int) = BitVec.ofNat 64 x := vV 64 x
  have e2 : BitVec.ofInt (IntKind.bits .u64) (if IntKind.signed .u64 = true then -1 else IntKind.max .u64) = BitVec.allOnes 64 := by rfl
  rw [e1, e2]
  show ((BitVec.allOnes 64 ^^^ BitVec.ofNat 64 x).toNat : Int) = _
  rw [BitVec.allOnes_xor, BitVec.toNat_not, BitVec.toNat_ofNat, Nat.mod_eq_of_lt (by omega)]
  omega
theorem adv {x : Nat} (h : x < 9223372036854775808) : IntKind.wrap .i64 ((BitVec.ofInt (IntKind.bits .i64) (if IntKind.signed .i64 = true then -1 else IntKind.max .i64) ^^^ BitVec.ofInt (IntKind.bits .i64) (x : Int)).toNat : Int) = -(x : Int) - 1 := by
  have e1 : BitVec.ofInt (IntKind.bits .i64) (x : Int) = BitVec.ofNat 64 x := vV 64 x
  have e2 : BitVec.ofInt (IntKind.bits .i64) (if IntKind.signed .i64 = true then -1 else IntKind.max .i64) = BitVec.allOnes 64 := by rfl
  rw [e1, e2]
  show IntKind.wrap .i64 ((BitVec.allOnes 64 ^^^ BitVec.ofNat 64 x).toNat : Int) = _
  rw [BitVec.allOnes_xor, BitVec.toNat_not, BitVec.toNat_ofNat, Nat.mod_eq_of_lt (by omega), IntKind.wrap_i64]
  omega

theorem abS {n : Int} (h1 : -9223372036854775808 ≤ n) (h2 : n < 9223372036854775808) : f90 n = some (fB n) := by
  unfold f90
  have e1 : (if (decide (n < 0)) = true then some (IntKind.wrap .u64 ((BitVec.ofInt (IntKind.bits .u64) (if IntKind.signed .u64 = true then -1 else IntKind.max .u64) ^^^ BitVec.ofInt (IntKind.bits .u64) (IntKind.wrap .u64 ((IntKind.wrap .u64 (n)) * 2 ^ 1))).toNat)) else some (IntKind.wrap .u64 ((IntKind.wrap .u64 (n)) * 2 ^ 1)) : Option Int) = some ((zz n : Nat) : Int) := by
    by_cases c : n < 0
    · have e2 : IntKind.wrap .u64 (IntKind.wrap .u64 n * 2 ^ 1) = ((18446744073709551616 + 2 * n).toNat : Int) := by
        rw [w64, w64]; omega
      rw [if_pos (by simpa using c), e2, ad3 (by omega), w64]
      congr 1
      unfold zz
      rw [if_neg (by omega)]
      omega
    · rw [if_neg (by simpa using c), w64, w64]
      congr 1
      unfold zz
      rw [if_pos (by omega)]
      omega
  rw [e1]
  simp only [Option.bind_eq_bind, Option.bind_some]
  obtain ⟨y2, x2, n2, g1, g2, g3, g4⟩ := L6 9 (zz n) 0 (0, 0, 0, 0, 0, 0, 0, 0, 0, 0, ()) [] (by have := acA h1 h2; omega) (by omega) rfl
  rw [show (((0 : Nat) : Int)) = (0 : Int) from rfl] at g1
  rw [g1]
  simp only [Option.bind_some]
  have hw : IntKind.wrap .i64 ((n2 : Int) + 1) = ((n2 + 1 : Nat) : Int) := by rw [aQ (by omega) (by omega)]; omega
  rw [hw, if_pos (by omega), if_pos (by omega)]
  have hA : xy 10 jQ = true := rfl
  have hi : Int.toNat (n2 : Int) = n2 := by omega
  have hi2 : Int.toNat ((n2 + 1 : Nat) : Int) = n2 + 1 := by omega
  have hz : IntKind.wrap .u8 (x2 : Int) = (x2 : Int) := by rw [w8]; omega
  rw [hi, hi2, hz, GG hA g2, take_set (by rw [Gz hA]; exact g2), ← g4]
  rfl

theorem y9 {n : Int} (h1 : -9223372036854775808 ≤ n) (h2 : n < 9223372036854775808) : (zI n).length ≤ 10 := by
  refine Xj 9 (zz n) ?_
  have := acA h1 h2
  omega
theorem aa2 (u : Nat) : ∀ x ∈ vbI u, 0 ≤ x ∧ x < 256 := by
  induction u using Nat.strongRecOn with
  | ind u ih =>
    intro x hx
    by_cases c : u < 128
    · rw [oM c] at hx
      simp only [List.mem_singleton] at hx
      omega
    · rw [yh c] at hx
      rcases List.mem_cons.1 hx with rfl | hx
      · omega
      · exact ih _ (by omega) x hx
theorem Vs {l : List Int} (h : ∀ x ∈ l, 0 ≤ x ∧ x < 256) : kN (bQ l) = l := by
  unfold kN bQ
  rw [List.map_map]
  refine (List.map_congr_left fun x hx => ?_).trans (List.map_id l)
  obtain ⟨h1, h2⟩ := h x hx
  simp only [Function.comp, id]
  have := Xh (c := x.toNat) (by omega)
  have e : ((x.toNat : Nat) : Int) = x := by omega
  rw [e] at this
  omega
theorem Jd (n : Int) : kN (fB n) = zI n := Vs (aa2 _)
theorem UN (s : List UInt8) : bQ (kN s) = s := by
  unfold kN bQ
  rw [List.map_map]
  refine (List.map_congr_left fun x hx => ?_).trans (List.map_id s)
  simp
theorem yl (a b : List Int) : bQ (a ++ b) = bQ a ++ bQ b := by unfold bQ; rw [List.map_append]
theorem AY (s : List UInt8) : (kN s).length = s.length := by simp [kN]
theorem IK (s : List Int) : (bQ s).length = s.length := by simp [bQ]
end Go.Proofs.YtbnmhjobnepajaaGreat.M


namespace Go.Proofs.YtbnmhjobnepajaaGreat.M

theorem U5 (s : List UInt8) (p : Nat) (hs : s.length < 9223372036854775808) : ∀ (u i acc : Nat) (rest : List UInt8), s.drop (p + i) = bQ (vbI u) ++ rest → acc < 2 ^ (7 * i) → acc + u * 2 ^ (7 * i) < 2 ^ 63 → (0 < i → u ≠ 0) →
    oZ s (p : Int) (acc : Int) (i : Int) = some (.inr (unz (acc + u * 2 ^ (7 * i)), ((p + i + (vbI u).length : Nat) : Int), 0)) := by
  intro u
  induction u using Nat.strongRecOn with
  | ind u ih =>
    intro i acc rest hd ha ht hu
    have hi : i < 9 := by
      by_cases h0 : i = 0
      · omega
      · have hu1 : 1 ≤ u := by have := hu (by omega); omega
        have h1 : 2 ^ (7 * i) ≤ u * 2 ^ (7 * i) := Nat.le_mul_of_pos_left _ hu1
        have h2 : 2 ^ (7 * i) < 2 ^ 63 := by omega
        have := (Nat.pow_lt_pow_iff_right (a := 2) (by decide)).1 h2
        omega
    rw [oZ]
    have hhead : ∃ c : Nat, ∃ r, c < 256 ∧ s.drop (p + i) = (UInt8.ofNat ((c : Nat) : Int).toNat) :: r ∧ (u < 128 → c = u ∧ r = rest) ∧ (¬ u < 128 → c = u % 128 + 128 ∧ r = bQ (vbI (u / 128)) ++ rest) := by
      by_cases c : u < 128
      · exact ⟨u, rest, by omega, by rw [hd, oM c]; rfl, fun _ => ⟨rfl, rfl⟩, fun h => absurd c h⟩
      · exact ⟨u % 128 + 128, bQ (vbI (u / 128)) ++ rest, by omega, by rw [hd, yh c]; rfl, fun h => absurd h c, fun _ => ⟨rfl, rfl⟩⟩
    obtain ⟨c, r, hc, hd2, hsm, hbg⟩ := hhead
    obtain ⟨h1, h2, h3⟩ := Qu hd2
    rw [Xh hc] at h2
    have hw : IntKind.wrap .i64 ((p : Int) + (i : Int)) = ((p + i : Nat) : Int) := by rw [aQ (by omega) (by omega)]; omega
    have hw7 : IntKind.wrap .i64 (7 * (i : Int)) = ((7 * i : Nat) : Int) := by rw [aQ (by omega) (by omega)]; omega
    have hw1 : IntKind.wrap .i64 ((i : Int) + 1) = ((i + 1 : Nat) : Int) := by rw [aQ (by omega) (by omega)]; omega
    have hmin : min (Int.toNat ((7 * i : Nat) : Int)) (IntKind.bits .u64) = 7 * i := by
      have : Int.toNat ((7 * i : Nat) : Int) = 7 * i := by omega
      rw [this]
      show min (7 * i) 64 = 7 * i
      omega
    rw [hw, hw7, hw1, h2, hmin, YL hc]
    rw [if_pos (by simp; omega), if_pos (by omega), if_neg (by simp; omega), if_pos (by omega)]
    have hb : c % 128 ≤ u := by
      by_cases cc : u < 128
      · have := (hsm cc).1; omega
      · have := (hbg cc).1; omega
    have hle : (c % 128) * 2 ^ (7 * i) ≤ u * 2 ^ (7 * i) := Nat.mul_le_mul_right _ hb
    have e1 : IntKind.wrap .u64 (IntKind.wrap .u64 ((c % 128 : Nat) : Int) * 2 ^ (7 * i)) = (((c % 128) * 2 ^ (7 * i) : Nat) : Int) := by
      have e : IntKind.wrap .u64 ((c % 128 : Nat) : Int) = ((c % 128 : Nat) : Int) := by rw [w64]; omega
      have e0 : ((c % 128 : Nat) : Int) * 2 ^ (7 * i) = (((c % 128) * 2 ^ (7 * i) : Nat) : Int) := by push_cast; rfl
      rw [e, e0, w64]
      have : (((c % 128) * 2 ^ (7 * i) : Nat) : Int) < 18446744073709551616 := by
        have : (c % 128) * 2 ^ (7 * i) < 2 ^ 63 := by omega
        have h63 : (2 : Nat) ^ 63 < 18446744073709551616 := by decide
        omega
      omega
    have e2 : IntKind.wrap .u64 (((BitVec.ofInt (IntKind.bits .u64) (acc : Int) ||| BitVec.ofInt (IntKind.bits .u64) (((c % 128) * 2 ^ (7 * i) : Nat) : Int)).toNat : Nat) : Int) = ((acc + (c % 128) * 2 ^ (7 * i) : Nat) : Int) := by
      rw [aaA ha (by have : (2 : Nat) ^ 63 < 2 ^ 64 := by decide
                     omega), w64]
      have h63 : (2 : Nat) ^ 63 < 18446744073709551616 := by decide
      omega
    rw [e1, e2]
    by_cases cc : u < 128
    · obtain ⟨rfl, rfl⟩ := hsm cc
      have hm : c % 128 = c := by omega
      rw [if_neg (by simp; omega), if_neg (by simp only [Bool.and_eq_true, beq_iff_eq, decide_eq_true_eq, not_and]; intro h4 h5; exact hu (by omega) (by omega)), hm, oM cc]
      have h63 : (2 : Nat) ^ 63 < 2 ^ 64 := by decide
      have h64 : (2 : Nat) ^ 63 = 9223372036854775808 := by decide
      rw [and_one _ (by omega)]
      generalize hT : acc + c * 2 ^ (7 * i) = T at *
      have e3 : Int.fdiv ((T : Nat) : Int) (2 ^ 1) = ((T / 2 : Nat) : Int) := by
        rw [Int.fdiv_eq_ediv_of_nonneg _ (by decide)]; norm_cast
      have hl : IntKind.wrap .i64 (((p + i : Nat) : Int) + 1) = ((p + i + 1 : Nat) : Int) := by rw [aQ (by omega) (by omega)]; omega
      rw [e3, hl]
      by_cases hev : T % 2 = 0
      · have hne : ¬ ((IntKind.wrap .u64 ((T % 2 : Nat) : Int) == 1) = true) := by rw [hev]; decide
        rw [if_neg hne]
        simp only [Option.bind_eq_bind, Option.bind_some]
        rw [aQ (by omega) (by omega)]
        unfold unz
        rw [if_pos hev]
        simp
      · have hp : (IntKind.wrap .u64 ((T % 2 : Nat) : Int) == 1) = true := by rw [show T % 2 = 1 by omega]; decide
        rw [if_pos hp]
        simp only [Option.bind_eq_bind, Option.bind_some]
        rw [aQ (x := ((T / 2 : Nat) : Int)) (by omega) (by omega), adv (by omega)]
        unfold unz
        rw [if_neg hev]
        simp
    · obtain ⟨rfl, rfl⟩ := hbg cc
      rw [if_pos (by simp; omega)]
      have hm : (u % 128 + 128) % 128 = u % 128 := by omega
      rw [hm]
      have hsum : acc + u % 128 * 2 ^ (7 * i) + u / 128 * 2 ^ (7 * (i + 1)) = acc + u * 2 ^ (7 * i) := by
        have e : 2 ^ (7 * (i + 1)) = 128 * 2 ^ (7 * i) := by rw [Nat.mul_add, Nat.pow_add, Nat.mul_comm]
        rw [e, Nat.add_assoc, ← Nat.mul_assoc, ← Nat.add_mul]
        congr 2
        omega
      have hlt : acc + u % 128 * 2 ^ (7 * i) < 2 ^ (7 * (i + 1)) := by
        have e : 2 ^ (7 * (i + 1)) = 128 * 2 ^ (7 * i) := by rw [Nat.mul_add, Nat.pow_add, Nat.mul_comm]
        have h5 : u % 128 * 2 ^ (7 * i) ≤ 127 * 2 ^ (7 * i) := Nat.mul_le_mul_right _ (by omega)
        rw [e]; omega
      have := ih (u / 128) (by omega) (i + 1) (acc + u % 128 * 2 ^ (7 * i)) rest (by rw [← Nat.add_assoc]; exact h3) hlt (by rw [hsum]; exact ht) (fun _ => by omega)
      rw [hsum] at this
      rw [this, yh cc, List.length_cons]
      congr 5
      omega

theorem XO {s : List UInt8} {p : Nat} {n : Int} {rest : List UInt8} (hs : s.length < 9223372036854775808) (h1 : -2199023255552 ≤ n) (h2 : n ≤ 2199023255552) (hp : p ≤ s.length) (hd : s.drop p = fB n ++ rest) :
    f113 s (p : Int) = some (n, ((p + (fB n).length : Nat) : Int), 0) := by
  unfold f113
  rw [if_neg (by simp; omega)]
  have hz : zz n < 4611686018427387904 := by unfold zz; split <;> omega
  have := U5 s p hs (zz n) 0 0 rest (by simpa [fB, zI] using hd) (by simp) (by simp; omega) (by simp)
  simp only [Nat.zero_add, Nat.mul_zero, Nat.pow_zero, Nat.mul_one, Nat.add_zero, adE] at this
  rw [show (0 : Int) = ((0 : Nat) : Int) from rfl, this]
  simp [fB, zI, bQ]
end Go.Proofs.YtbnmhjobnepajaaGreat.M


namespace Go.Proofs.YtbnmhjobnepajaaGreat.M

noncomputable def ji : List UInt8 → List UInt8 → List (List UInt8)
  | [], w => [w]
  | c :: r, w => if c = 47 then w :: ji r [] else ji r (w ++ [c])
noncomputable def UQ (c : UInt8) : Bool := (97 ≤ c.toNat && c.toNat ≤ 122) || (48 ≤ c.toNat && c.toNat ≤ 57) || c.toNat == 45 || c.toNat == 95
noncomputable def uV (p : List UInt8) : Bool := decide (0 < p.length) && p.all UQ
noncomputable def uZ (s : List UInt8) : Bool := decide (s.length ≤ 32) && ((ji s []).all uV && decide ((ji s []).length ≤ 4))

theorem abm {s : List UInt8} {i : Nat} (h : i < s.length) : (btS s (i : Int) == 47) = decide (s[i] = 47) := by
  rw [Bi h, Bool.eq_iff_iff]
  simp only [beq_iff_eq, decide_eq_true_eq]
  constructor
  · intro h; apply UInt8.toNat_inj.1; show s[i].toNat = 47; omega
  · intro h; rw [h]; rfl

theorem Gj {s : List UInt8} (hs : s.length ≤ 32) : ∀ (k i fr : Nat) (out : List (List UInt8)), i + k = s.length → fr ≤ i → out.length ≤ i →
    ∃ out' fr', aY (kT s) (out, (fr : Int), (i : Int)) = some (out', ((fr' : Nat) : Int)) ∧ fr' ≤ s.length ∧ out'.length ≤ s.length ∧ out' ++ [s.drop fr'] = out ++ ji (s.drop i) ((s.take i).drop fr)
  | 0, i, fr, out, hi, hf, ho => by
    have : i = s.length := by omega
    subst this
    refine ⟨out, fr, jP (by unfold kT; simp), hf, ho, ?_⟩
    simp [ji]
  | k + 1, i, fr, out, hi, hf, ho => by
    have hl : i < s.length := by omega
    have hd : s.drop i = s[i] :: s.drop (i + 1) := by simp
    have hw := dD (i := i) (by omega)
    rw [hd]
    by_cases c : s[i] = 47
    · rw [kZ (y := (out ++ [(s.take i).drop fr], ((i + 1 : Nat) : Int), ((i + 1 : Nat) : Int))) (by
        unfold kT
        simp only [hw, abm hl]
        rw [if_pos (by simp; omega), if_pos (by omega), if_pos (by simpa using c), if_pos (by omega), if_pos (by omega)]
        simp)]
      obtain ⟨o', f', h1, h2, h3, h4⟩ := Gj hs k (i + 1) (i + 1) (out ++ [(s.take i).drop fr]) (by omega) (by omega) (by simp; omega)
      refine ⟨o', f', h1, h2, h3, ?_⟩
      rw [h4]
      have e0 : (s.take (i + 1)).drop (i + 1) = [] := by simp
      rw [e0]
      simp [ji, c]
    · rw [kZ (y := (out, (fr : Int), ((i + 1 : Nat) : Int))) (by
        unfold kT
        simp only [hw, abm hl]
        rw [if_pos (by simp; omega), if_pos (by omega), if_neg (by simpa using c)])]
      obtain ⟨o', f', h1, h2, h3, h4⟩ := Gj hs k (i + 1) fr out (by omega) (by omega) (by omega)
      refine ⟨o', f', h1, h2, h3, ?_⟩
      rw [h4]
      have e0 : (s.take (i + 1)).drop fr = (s.take i).drop fr ++ [s[i]] := by
        rw [List.take_succ_eq_append_getElem hl, List.drop_append_of_le_length (by simp; omega)]
      rw [e0]
      simp [ji, c]
theorem parts_eq {s : List UInt8} (hs : s.length ≤ 32) : rU s = some (ji s []) := by
  unfold rU
  obtain ⟨o', f', h1, h2, h3, h4⟩ := Gj hs s.length 0 0 [] (by omega) (by omega) (by simp)
  rw [show (0 : Int) = ((0 : Nat) : Int) from rfl, h1]
  simp only [Option.bind_some]
  rw [if_pos (by omega), if_pos (by omega)]
  simpa using h4

theorem Gn {s : List UInt8} (hs : s.length ≤ 32) : ∀ (k i : Nat) (w : List UInt8) (out : List (List UInt8)), i + k = s.length → w.length ≤ i → out.length ≤ i →
    ∃ out' w', aY (ik s 47) (out, w, (i : Int)) = some (out', w') ∧ out'.length ≤ s.length ∧ out' ++ [w'] = out ++ ji (s.drop i) w
  | 0, i, w, out, hi, hf, ho => by
    have : i = s.length := by omega
    subst this
    refine ⟨out, w, jP (by unfold ik; simp), ho, ?_⟩
    simp [ji]
  | k + 1, i, w, out, hi, hf, ho => by
    have hl : i < s.length := by omega
    have hd : s.drop i = s[i] :: s.drop (i + 1) := by simp
    have hw := dD (i := i) (by omega)
    rw [hd]
    by_cases c : s[i] = 47
    · rw [kZ (y := (out ++ [w], [], ((i + 1 : Nat) : Int))) (by
        unfold ik
        simp only [hw, abm hl]
        rw [if_pos (by simp; omega), if_pos (by omega), if_pos (by simpa using c), if_pos (by omega)])]
      obtain ⟨o', f', h1, h3, h4⟩ := Gn hs k (i + 1) [] (out ++ [w]) (by omega) (by simp) (by simp; omega)
      refine ⟨o', f', h1, h3, ?_⟩
      rw [h4]
      simp [ji, c]
    · have e0 : (s.take ((((i + 1 : Nat) : Int)).toNat)).drop ((i : Int)).toNat = [s[i]] := by
        rw [show (((i + 1 : Nat) : Int)).toNat = i + 1 by omega, show ((i : Int)).toNat = i by omega, List.take_succ_eq_append_getElem hl, List.drop_append_of_le_length (by simp; omega)]
        simp
      rw [kZ (y := (out, w ++ [s[i]], ((i + 1 : Nat) : Int))) (by
        unfold ik
        simp only [hw, abm hl]
        rw [if_pos (by simp; omega), if_pos (by omega), if_neg (by simpa using c), if_pos (by omega), e0, if_pos (by simp; omega)])]
      obtain ⟨o', f', h1, h3, h4⟩ := Gn hs k (i + 1) (w ++ [s[i]]) out (by omega) (by simp; omega) (by omega)
      refine ⟨o', f', h1, h3, ?_⟩
      rw [h4]
      simp [ji, c]
theorem aaR {s : List UInt8} (hs : s.length ≤ 32) : lT s = some (ji s []) := by
  unfold lT pY
  obtain ⟨o', f', h1, h3, h4⟩ := Gn hs s.length 0 [] [] (by omega) (by simp) (by simp)
  rw [show (0 : Int) = ((0 : Nat) : Int) from rfl, h1]
  simp only [Option.bind_some]
  rw [if_pos (by omega)]
  simpa using h4

theorem aaB {p : List UInt8} (hp : p.length < 4611686018427387904) : rV p = some (uV p) := by
  unfold rV uV
  by_cases hn : p = []
  · subst hn; rfl
  have hl : 0 < p.length := List.length_pos_iff.2 hn
  rw [if_neg (by simpa using hn), IL (l := p) (fun _ c => UQ c) (e := false) (fun i hi => ?_) (by unfold sJ; simp), yC]
  · rw [decide_eq_true hl]
    cases p.all UQ <;> rfl
  · unfold sJ
    simp only [dD (i := i) (by omega), Bi hi]
    rw [if_pos (by simp; omega), if_pos (by omega)]
    unfold UQ
    generalize p[i].toNat = n
    by_cases c1 : 97 ≤ n ∧ n ≤ 122
    · rw [if_pos (by simp; omega), if_pos (by simp; omega)]
    rw [if_neg (by simp; omega)]
    by_cases c2 : 48 ≤ n ∧ n ≤ 57
    · rw [if_pos (by simp; omega), if_pos (by simp; omega)]
    rw [if_neg (by simp; omega)]
    by_cases c3 : n = 45
    · rw [if_pos (by simp; omega), if_pos (by simp; omega)]
    rw [if_neg (by simp; omega)]
    by_cases c4 : n = 95
    · rw [if_pos (by simp; omega), if_pos (by simp; omega)]
    rw [if_neg (by simp; omega), if_neg (by simp; omega)]
theorem Yd {p : List UInt8} (hp : p.length < 4611686018427387904) : lU p = some (uV p) := by
  unfold lU uV
  rw [IL (l := p) (fun _ c => UQ c) (e := false) (fun i hi => ?_) (by unfold nC; simp), yC]
  · cases p.all UQ <;> simp [kC]
  · unfold nC
    simp only [dD (i := i) (by omega), Bi hi]
    rw [if_pos (by simp; omega), if_pos (by omega)]
    unfold UQ
    generalize p[i].toNat = n
    by_cases c : (97 ≤ n ∧ n ≤ 122) ∨ (48 ≤ n ∧ n ≤ 57) ∨ n = 45 ∨ n = 95
    · rw [if_neg (by simp; omega), if_pos (by simp; omega)]
    · rw [if_pos (by simp; omega), if_neg (by simp; omega)]

theorem BR : ∀ (s w : List UInt8) (M : Nat), s.length + w.length ≤ M → (ji s w).length ≤ s.length + 1 ∧ ∀ p ∈ ji s w, p.length ≤ M
  | [], w, M, h => ⟨by simp [ji], fun p hp => by simp [ji] at hp; subst hp; simpa using h⟩
  | c :: r, w, M, h => by
    simp only [List.length_cons] at h
    unfold ji
    split
    · obtain ⟨h1, h2⟩ := BR r [] M (by simp; omega)
      refine ⟨by simp; omega, fun p hp => ?_⟩
      rcases List.mem_cons.1 hp with rfl | hp
      · omega
      · exact h2 p hp
    · obtain ⟨h1, h2⟩ := BR r (w ++ [c]) M (by simp; omega)
      exact ⟨by simp; omega, h2⟩

theorem Yw (s : List UInt8) : qI s = some (uZ s) := by
  unfold qI ja uZ
  by_cases h : s.length ≤ 32
  · obtain ⟨g1, g2⟩ := BR s [] 32 (by simpa using h)
    rw [if_neg (by simp; omega), parts_eq h]
    simp only [Option.bind_some]
    rw [IL (l := ji s []) (fun _ c => uV c) (e := false) (fun i hi => ?_) (by unfold iJ; simp), yC]
    · rw [decide_eq_true h]
      cases (ji s []).all uV <;> simp [kC]
      omega
    · unfold iJ sH
      simp only [dD (i := i) (by omega), lX hi, Option.bind_some, aaB (p := (ji s [])[i]) (by have := g2 _ (List.getElem_mem hi); omega)]
      rw [if_pos (by simp; omega)]
      cases uV (ji s [])[i] <;> rfl
  · rw [if_pos (by simp; omega), decide_eq_false h]; rfl
theorem VG (s : List UInt8) : lh s = some (uZ s) := by
  unfold lh uZ
  by_cases h : s.length ≤ 32
  · obtain ⟨g1, g2⟩ := BR s [] 32 (by simpa using h)
    rw [if_neg (by simp; omega), aaR h]
    simp only [Option.bind_some]
    rw [IL (l := ji s []) (fun _ c => uV c) (e := false) (fun i hi => ?_) (by unfold mG; simp), yC]
    · rw [decide_eq_true h]
      cases (ji s []).all uV <;> simp [kC]
      omega
    · unfold mG
      simp only [dD (i := i) (by omega), lX hi, Option.bind_some, Yd (p := (ji s [])[i]) (by have := g2 _ (List.getElem_mem hi); omega)]
      rw [if_pos (by simp; omega)]
      cases uV (ji s [])[i] <;> rfl
  · rw [if_pos (by simp; omega), decide_eq_false h]; rfl
end Go.Proofs.YtbnmhjobnepajaaGreat.M


namespace Go.Proofs.YtbnmhjobnepajaaGreat.M

abbrev jG : Type := Int × Int × List UInt8 × Int × List Int × Int × Unit
abbrev VdT : Type := Int × Int × Unit
noncomputable def I64 (n : Int) : Prop := -9223372036854775808 ≤ n ∧ n < 9223372036854775808
noncomputable def inR (n a b : Int) : Bool := decide (n ≥ a) && decide (n ≤ b)
theorem He {n a b : Int} : inR n a b = true ↔ a ≤ n ∧ n ≤ b := by unfold inR; simp
noncomputable def BU (l : List Int) (most : Nat) : Bool := l.all (fun n => inR n (-1099511627776) 1099511627776) && decide (l.length ≤ most)
noncomputable def BA (client seq : Int) (stream : List UInt8) : Bool := inR client 0 5 && inR seq 1 1099511627776 && uZ stream
noncomputable def lH (c : jG) : Bool := BA c.1 c.2.1 c.2.2.1 && inR c.2.2.2.1 0 11 && BU c.2.2.2.2.1 4 && inR c.2.2.2.2.2.1 (-1) 1099511627776
noncomputable def N7 (l : List VdT) (i : Nat) (v : VdT) : Bool := inR v.1 1 1099511627776 && inR v.2.1 0 63 && !(decide (0 < i) && decide (v.1 ≤ (l.getD (i - 1) (0, 0, ())).1))
noncomputable def lJ (l : List VdT) : Bool := sD (N7 l) 0 l && decide (l.length ≤ 32)

theorem Bf (n a b : Int) : gq n a b = some (inR n a b) := rfl
theorem Gt (n a b : Int) : dV n a b = some (inR n a b) := rfl

theorem values_eq {l : List Int} (hl : l.length < 4611686018427387904) (m : Nat) : ui l (m : Int) = some (BU l m) := by
  unfold ui BU
  rw [IL (l := l) (fun _ n => inR n (-1099511627776) 1099511627776) (e := false) (fun i hi => ?_) (by unfold uj; simp), yC]
  · cases l.all (fun n => inR n (-1099511627776) 1099511627776) <;> simp [kC]
  · unfold uj
    simp only [dD (i := i) (by omega), lX hi, Option.bind_some, Bf]
    rw [if_pos (by simp; omega)]
    cases inR l[i] (-1099511627776) 1099511627776 <;> rfl
theorem VL {l : List Int} (hl : l.length < 4611686018427387904) (m : Nat) : lu l (m : Int) = some (BU l m) := by
  unfold lu BU
  rw [IL (l := l) (fun _ n => inR n (-1099511627776) 1099511627776) (e := false) (fun i hi => ?_) (by unfold mJ; simp), yC]
  · cases l.all (fun n => inR n (-1099511627776) 1099511627776) <;> simp [kC]
  · unfold mJ pX
    simp only [dD (i := i) (by omega), lX hi, Option.bind_some]
    rw [if_pos (by simp; omega)]
    show (if (!(inR l[i] (-1099511627776) 1099511627776)) = true then _ else _) = _
    cases inR l[i] (-1099511627776) 1099511627776 <;> rfl
theorem head_eq (a b : Int) (s : List UInt8) : xQ a b s = some (BA a b s) := by
  unfold xQ BA
  simp only [Bf, Yw, Option.bind_some]
  cases inR a 0 5 <;> cases inR b 1 1099511627776 <;> cases uZ s <;> rfl
theorem ZW (a b : Int) (s : List UInt8) : mY a b s = some (BA a b s) := by
  unfold mY BA
  simp only [Gt, VG, Option.bind_some]
  cases inR a 0 5 <;> cases inR b 1 1099511627776 <;> cases uZ s <;> rfl
theorem YX {c : jG} (hl : c.2.2.2.2.1.length < 4611686018427387904) : wH c = some (lH c) := by
  unfold wH lH
  simp only [Bf, head_eq, show (4 : Int) = ((4 : Nat) : Int) from rfl, values_eq hl, Option.bind_some]
  cases BA c.1 c.2.1 c.2.2.1 <;> cases inR c.2.2.2.1 0 11 <;> cases BU c.2.2.2.2.1 4 <;> cases inR c.2.2.2.2.2.1 (-1) 1099511627776 <;> rfl
theorem abo {c : jG} (hl : c.2.2.2.2.1.length < 4611686018427387904) : kU c = some (lH c) := by
  unfold kU lH
  simp only [Gt, ZW, show (4 : Int) = ((4 : Nat) : Int) from rfl, VL hl, Option.bind_some]
  cases BA c.1 c.2.1 c.2.2.1 <;> cases inR c.2.2.2.1 0 11 <;> cases BU c.2.2.2.2.1 4 <;> cases inR c.2.2.2.2.2.1 (-1) 1099511627776 <;> rfl

theorem WU {l : List VdT} {i : Nat} (hi : i < l.length) (h0 : 0 < i) : ix l (IntKind.wrap .i64 ((i : Int) - 1)) = some (l.getD (i - 1) (0, 0, ())) ∨ 9223372036854775807 ≤ i := by
  by_cases h : i < 9223372036854775807
  · left
    have hw : IntKind.wrap .i64 ((i : Int) - 1) = ((i - 1 : Nat) : Int) := by rw [aQ (by omega) (by omega)]; omega
    rw [hw, lX (by omega), List.getD_eq_getElem?_getD, List.getElem?_eq_getElem (by omega)]; rfl
  · right; omega
theorem JP {l : List VdT} (hl : l.length < 4611686018427387904) : ny l = some (lJ l) := by
  unfold ny lJ
  rw [IL (l := l) (N7 l) (e := false) (fun i hi => ?_) (by unfold qZ; simp)]
  · cases sD (N7 l) 0 l <;> simp [kC]
    omega
  · unfold qZ
    simp only [dD (i := i) (by omega), lX hi, Option.bind_some, Bf]
    rw [if_pos (by simp; omega)]
    unfold N7
    cases inR l[i].1 1 1099511627776 with
    | false => rfl
    | true =>
      cases inR l[i].2.1 0 63 with
      | false => rfl
      | true =>
        simp only [Bool.not_true, Bool.not_false, if_true, Bool.true_and]
        by_cases h0 : 0 < i
        · rcases WU hi h0 with h | h
          · rw [if_pos (by simp; omega), h]
            simp only [Option.bind_some, decide_eq_true h0, Bool.true_and]
            by_cases hv : l[i].1 ≤ (l.getD (i - 1) (0, 0, ())).1
            · rw [if_pos (by simpa using hv), if_neg (by simpa using hv)]
            · rw [if_neg (by simpa using hv), if_pos (by simpa using hv)]
          · omega
        · rw [if_neg (by simp; omega), decide_eq_false h0]; rfl
theorem Rz {l : List VdT} (hl : l.length < 4611686018427387904) : jK l = some (lJ l) := by
  unfold jK lJ
  rw [IL (l := l) (N7 l) (e := false) (fun i hi => ?_) (by unfold kV; simp)]
  · cases sD (N7 l) 0 l <;> simp [kC]
    omega
  · unfold kV
    simp only [dD (i := i) (by omega), lX hi, Option.bind_some, Gt]
    rw [if_pos (by simp; omega)]
    unfold N7
    cases inR l[i].1 1 1099511627776 with
    | false => rfl
    | true =>
      cases inR l[i].2.1 0 63 with
      | false => rfl
      | true =>
        simp only [Bool.not_true, Bool.not_false, if_true, Bool.true_and]
        by_cases h0 : 0 < i
        · rcases WU hi h0 with h | h
          · rw [if_pos (by simp; omega), h]
            simp only [Option.bind_some, decide_eq_true h0, Bool.true_and]
            by_cases hv : l[i].1 ≤ (l.getD (i - 1) (0, 0, ())).1
            · rw [if_pos (by simpa using hv), if_neg (by simpa using hv)]
            · rw [if_neg (by simpa using hv), if_pos (by simpa using hv)]
          · omega
        · rw [if_neg (by simp; omega), decide_eq_false h0]; rfl

noncomputable def xn (s : List UInt8) : List UInt8 := fB (s.length : Int) ++ s
noncomputable def BJ (l : List Int) : List UInt8 := fB (l.length : Int) ++ l.flatMap fB
noncomputable def xm (c : jG) : List UInt8 := fB c.1 ++ (fB c.2.1 ++ (xn c.2.2.1 ++ (fB c.2.2.2.1 ++ (BJ c.2.2.2.2.1 ++ fB c.2.2.2.2.2.1))))
noncomputable def sQ (l : List VdT) : List UInt8 := fB (l.length : Int) ++ l.flatMap (fun v => fB v.1 ++ fB v.2.1)

theorem acU : dX = f90 := SS
theorem number_eq {n : Int} (h : I64 n) : dX n = some (fB n) := by rw [acU]; exact abS h.1 h.2
theorem zl {n : Nat} (h : n < 9223372036854775808) : I64 (n : Int) := ⟨by omega, by omega⟩
theorem wZ {n : Int} (h : I64 n) : (fB n).length ≤ 10 := by unfold fB; rw [IK]; exact y9 h.1 h.2
theorem QR : ∀ {l : List Int}, bQ (l.flatMap zI) = l.flatMap fB
  | [] => rfl
  | x :: r => by rw [List.flatMap_cons, List.flatMap_cons, yl, QR]; rfl
theorem ZN {l : List Int} (h : ∀ n ∈ l, I64 n) : (l.flatMap zI).length ≤ 10 * l.length := by
  induction l with
  | nil => simp
  | cons x r ih =>
    have h1 := y9 (h x List.mem_cons_self).1 (h x List.mem_cons_self).2
    have h2 := ih fun n hn => h n (List.mem_cons_of_mem _ hn)
    rw [List.flatMap_cons, List.length_append, List.length_cons]; omega

theorem OH {l : List Int} (h : ∀ n ∈ l, I64 n) : ∀ (k i : Nat) (b : List Int), i + k = l.length → b.length + 10 * k ≤ 140737488355328 → l.length < 4611686018427387904 →
    aY (pg l) (b, (i : Int)) = some (b ++ (l.drop i).flatMap zI)
  | 0, i, b, hi, hb, hl => by
    have : i = l.length := by omega
    subst this
    rw [jP (r := b) (by unfold pg; simp)]
    simp
  | k + 1, i, b, hi, hb, hl => by
    have hlt : i < l.length := by omega
    have hn := h l[i] (List.getElem_mem hlt)
    have hz := y9 hn.1 hn.2
    rw [kZ (y := (b ++ zI l[i], ((i + 1 : Nat) : Int))) (by
      unfold pg
      simp only [dD (i := i) (by omega), lX hlt, Option.bind_some, number_eq hn, Jd]
      rw [if_pos (by simp; omega), if_pos (by omega)]), OH h k (i + 1) _ (by omega) (by rw [List.length_append]; omega) hl]
    have hd : l.drop i = l[i] :: l.drop (i + 1) := by simp
    rw [hd, List.flatMap_cons, List.append_assoc]
theorem GL {b l : List Int} (h : ∀ n ∈ l, I64 n) (hb : b.length + 10 * l.length ≤ 140737488355328) : jq b l = some (b ++ l.flatMap zI) := by
  unfold jq
  have := OH h l.length 0 b (by omega) hb (by omega)
  rw [show (0 : Int) = ((0 : Nat) : Int) from rfl, this]
  simp

theorem N8 {l : List Int} (h : ∀ n ∈ l, I64 n) : ∀ (k i : Nat) (b : List Int), i + k = l.length → b.length + 10 * k ≤ 140737488355328 → l.length ≤ 256 →
    aY (dU l) (b, (i : Int)) = some (.inl (b ++ (l.drop i).flatMap zI))
  | 0, i, b, hi, hb, hl => by
    have : i = l.length := by omega
    subst this
    rw [jP (r := .inl b) (by unfold dU; simp)]
    simp
  | k + 1, i, b, hi, hb, hl => by
    have hlt : i < l.length := by omega
    have hn := h l[i] (List.getElem_mem hlt)
    have hz := y9 hn.1 hn.2
    rw [kZ (y := (b ++ zI l[i], ((i + 1 : Nat) : Int))) (by
      unfold dU sK
      simp only [dD (i := i) (by omega), lX hlt, Option.bind_some, number_eq hn, Jd]
      rw [if_pos (by simp; omega), if_neg (by decide), if_pos (by omega)]), N8 h k (i + 1) _ (by omega) (by rw [List.length_append]; omega) hl]
    have hd : l.drop i = l[i] :: l.drop (i + 1) := by simp
    rw [hd, List.flatMap_cons, List.append_assoc]
theorem aa4 {l : List Int} (h : ∀ n ∈ l, I64 n) : qJ l = some (if l.length > 256 then ([], 4) else (BJ l, 0)) := by
  unfold qJ gU
  by_cases hl : l.length > 256
  · rw [if_pos (by simp; omega), if_pos hl]; rfl
  · have hi : I64 (l.length : Int) := zl (by omega)
    have h1 := wZ hi
    rw [if_neg (by simp; omega), if_neg hl, number_eq hi]
    simp only [Option.bind_some, Jd]
    rw [if_pos (by omega)]
    have h2 := y9 hi.1 hi.2
    have := N8 h l.length 0 (zI (l.length : Int)) (by omega) (by omega) (by omega)
    rw [show ((0 : Nat) : Int) = (0 : Int) from rfl] at this
    rw [this]
    simp only [Option.bind_some, kC, List.drop_zero, yl, QR]
    rfl
theorem aa5 {s : List UInt8} (hs : s.length < 4611686018427387904) : wz s = some (if s.length > 4096 then ([], 4) else (xn s, 0)) := by
  unfold wz
  by_cases hl : s.length > 4096
  · rw [if_pos (by simp; omega), if_pos hl]
  · have hi : I64 (s.length : Int) := zl (by omega)
    have h1 := wZ hi
    rw [if_neg (by simp; omega), if_neg hl, number_eq hi]
    simp only [Option.bind_some]
    rw [if_pos (by omega)]
    rfl

theorem Z8 {s : List UInt8} (h : s.length ≤ 4096) : (xn s).length ≤ 4106 := by
  have := wZ (zl (n := s.length) (by omega))
  unfold xn
  rw [List.length_append]; omega
theorem O9 {l : List Int} (h : ∀ n ∈ l, I64 n) : (l.flatMap fB).length ≤ 10 * l.length := by
  rw [← QR, IK]; exact ZN h
theorem Z7 {l : List Int} (h : ∀ n ∈ l, I64 n) (hl : l.length ≤ 256) : (BJ l).length ≤ 2570 := by
  have h1 := wZ (zl (n := l.length) (by omega))
  have h2 := O9 h
  unfold BJ
  rw [List.length_append]; omega

theorem Y4 {b : List Int} {s : List UInt8} (hs : s.length < 4611686018427387904) (hb : b.length ≤ 100000) : ∃ t, xR b s = some (b ++ kN t) ∧ t.length ≤ 4106 ∧ (s.length ≤ 4096 → t = xn s) := by
  unfold xR
  rw [aa5 hs]
  by_cases hl : s.length > 4096
  · rw [if_pos hl]
    refine ⟨[], ?_, by simp, fun h => by omega⟩
    simp only [Option.bind_some]
    rw [if_pos (by simp [kN]; omega)]
  · rw [if_neg hl]
    have := Z8 (s := s) (by omega)
    refine ⟨xn s, ?_, this, fun _ => rfl⟩
    simp only [Option.bind_some]
    rw [if_pos (by rw [AY]; omega)]
theorem YZ {b l : List Int} (h : ∀ n ∈ l, I64 n) (hb : b.length ≤ 100000) : ∃ t, rQ b l = some (b ++ kN t) ∧ t.length ≤ 2570 ∧ (l.length ≤ 256 → t = BJ l) := by
  unfold rQ
  rw [aa4 h]
  by_cases hl : l.length > 256
  · rw [if_pos hl]
    refine ⟨[], ?_, by simp, fun h => by omega⟩
    simp only [Option.bind_some]
    rw [if_pos (by simp [kN]; omega)]
  · rw [if_neg hl]
    have := Z7 h (by omega)
    refine ⟨BJ l, ?_, this, fun _ => rfl⟩
    simp only [Option.bind_some]
    rw [if_pos (by rw [AY]; omega)]

structure KT (c : jG) : Prop where
  a : I64 c.1
  b : I64 c.2.1
  s : c.2.2.1.length < 4611686018427387904
  r : I64 c.2.2.2.1
  l : ∀ n ∈ c.2.2.2.2.1, I64 n
  n : c.2.2.2.2.1.length ≤ 1048576
  e : I64 c.2.2.2.2.2.1
theorem Ir {s : List UInt8} (h : uZ s = true) : s.length ≤ 32 := by
  unfold uZ at h
  simp only [Bool.and_eq_true, decide_eq_true_eq] at h
  exact h.1
theorem Xq {c : jG} (h : KT c) : ug c = some (if lH c = true then (xm c, 0) else ([], 2)) := by
  unfold ug
  rw [GL (l := [c.1, c.2.1]) (by simp only [List.mem_cons, List.not_mem_nil, or_false, forall_eq_or_imp, forall_eq]; exact ⟨h.a, h.b⟩) (by simp)]
  have l1 := y9 h.a.1 h.a.2
  have l2 := y9 h.b.1 h.b.2
  have l3 := y9 h.r.1 h.r.2
  simp only [Option.bind_some, List.flatMap_cons, List.flatMap_nil, List.append_nil, List.nil_append]
  obtain ⟨t, t1, t2, t3⟩ := Y4 (b := zI c.1 ++ zI c.2.1) h.s (by simp; omega)
  rw [t1]
  simp only [Option.bind_some]
  have tl : (kN t).length = t.length := AY t
  rw [GL (l := [c.2.2.2.1]) (by simpa using h.r) (by simp [AY]; omega)]
  simp only [Option.bind_some, List.flatMap_cons, List.flatMap_nil, List.append_nil]
  obtain ⟨u, u1, u2, u3⟩ := YZ (b := zI c.1 ++ zI c.2.1 ++ kN t ++ zI c.2.2.2.1) h.l (by simp [AY]; omega)
  rw [u1]
  simp only [Option.bind_some]
  rw [YX (by have := h.n; omega), GL (l := [c.2.2.2.2.2.1]) (by simpa using h.e) (by simp [AY]; omega)]
  simp only [Option.bind_some, List.flatMap_cons, List.flatMap_nil, List.append_nil]
  unfold uh
  by_cases hc : lH c = true
  · rw [if_neg (by rw [hc]; simp), if_pos hc]
    have hc' := hc
    unfold lH BA at hc'
    simp only [Bool.and_eq_true] at hc'
    have hs := Ir hc'.1.1.1.2
    have hn : c.2.2.2.2.1.length ≤ 4 := by
      have := hc'.1.2
      unfold BU at this
      simp only [Bool.and_eq_true, decide_eq_true_eq] at this
      exact this.2
    rw [t3 (by omega), u3 (by omega)]
    simp only [Option.bind_some, yl, UN]
    unfold xm
    simp only [List.append_assoc]
    rfl
  · rw [if_pos (by simpa using hc), if_neg hc]; rfl

theorem Qc {l : List VdT} (h : ∀ v ∈ l, I64 v.1 ∧ I64 v.2.1) : ∀ (k i : Nat) (b : List Int), i + k = l.length → b.length + 20 * k ≤ 140737488355328 → l.length < 4611686018427387904 →
    aY (bJ l) (b, (i : Int)) = some (b ++ (l.drop i).flatMap (fun v => zI v.1 ++ zI v.2.1))
  | 0, i, b, hi, hb, hl => by
    have : i = l.length := by omega
    subst this
    rw [jP (r := b) (by unfold bJ; simp)]
    simp
  | k + 1, i, b, hi, hb, hl => by
    have hlt : i < l.length := by omega
    have hn := h l[i] (List.getElem_mem hlt)
    have hz := y9 hn.1.1 hn.1.2
    have hz2 := y9 hn.2.1 hn.2.2
    rw [kZ (y := (b ++ (zI l[i].1 ++ zI l[i].2.1), ((i + 1 : Nat) : Int))) (by
      unfold bJ oN
      simp only [dD (i := i) (by omega), lX hlt, Option.bind_some]
      rw [if_pos (by simp; omega), GL (l := [l[i].1, l[i].2.1]) (by simp only [List.mem_cons, List.not_mem_nil, or_false, forall_eq_or_imp, forall_eq]; exact hn) (by simp; omega)]
      simp), Qc h k (i + 1) _ (by omega) (by simp only [List.length_append]; omega) hl]
    have hd : l.drop i = l[i] :: l.drop (i + 1) := by simp
    rw [hd, List.flatMap_cons, List.append_assoc]
theorem WB : ∀ {l : List VdT}, bQ (l.flatMap (fun v => zI v.1 ++ zI v.2.1)) = l.flatMap (fun v => fB v.1 ++ fB v.2.1)
  | [] => rfl
  | x :: r => by rw [List.flatMap_cons, List.flatMap_cons, yl, yl, WB]; rfl
theorem CZ {l : List VdT} (h : ∀ v ∈ l, I64 v.1 ∧ I64 v.2.1) (hl : l.length ≤ 1048576) : jV l = some (if lJ l = true then (sQ l, 0) else ([], 2)) := by
  unfold jV dZ
  have hi : I64 (l.length : Int) := zl (by omega)
  have h2 := y9 hi.1 hi.2
  rw [JP (by omega), GL (l := [(l.length : Int)]) (by simpa using hi) (by simp)]
  simp only [Option.bind_some, List.flatMap_cons, List.flatMap_nil, List.append_nil, List.nil_append]
  have := Qc h l.length 0 (zI (l.length : Int)) (by omega) (by omega) (by omega)
  rw [show ((0 : Nat) : Int) = (0 : Int) from rfl] at this
  rw [this]
  simp only [Option.bind_some, List.drop_zero]
  unfold uh
  by_cases hc : lJ l = true
  · rw [if_neg (by rw [hc]; simp), if_pos hc, yl, WB]; rfl
  · rw [if_pos (by simpa using hc), if_neg hc]; rfl
end Go.Proofs.YtbnmhjobnepajaaGreat.M


namespace Go.Proofs.YtbnmhjobnepajaaGreat.M

theorem pU {α : Type} {s a r : List α} {p : Nat} (h : s.drop p = a ++ r) : s.drop (p + a.length) = r := by
  rw [← List.drop_drop, h, List.drop_left]
theorem Wh {α : Type} {s a r : List α} {p : Nat} (h : s.drop p = a ++ r) (ha : 0 < a.length) : p + a.length ≤ s.length := by
  have := congrArg List.length h
  rw [List.length_drop, List.length_append] at this
  omega
theorem Ie (n : Int) : 0 < (fB n).length := by unfold fB; rw [IK]; exact Xk _

noncomputable def Val (n : Int) : Prop := -2199023255552 ≤ n ∧ n ≤ 2199023255552
theorem aaI {s : List UInt8} {p : Nat} {n : Int} {rest : List UInt8} (hs : s.length < 1073741824) (hn : Val n) (hd : s.drop p = fB n ++ rest) : fA s (p : Int) = some (n, ((p + (fB n).length : Nat) : Int), 0) := by
  have := Wh hd (Ie n)
  rw [LV]; exact XO (by omega) hn.1 hn.2 (by omega) hd
theorem count_eq {s : List UInt8} {p n : Nat} {m : Int} {rest : List UInt8} (hs : s.length < 1073741824) (hn : (n : Int) ≤ m) (hm : m ≤ 10000) (hd : s.drop p = fB (n : Int) ++ rest) : qf s (p : Int) m = some ((n : Int), ((p + (fB (n : Int)).length : Nat) : Int), 0) := by
  unfold qf
  rw [aaI hs ⟨by omega, by omega⟩ hd]
  simp only [Option.bind_some]
  rw [if_neg (by decide), if_neg (by simp), if_neg (by simp; omega)]
theorem aaL {s : List UInt8} {p : Nat} {t rest : List UInt8} (hs : s.length < 1073741824) (ht : t.length ≤ 4096) (hd : s.drop p = xn t ++ rest) : pq s (p : Int) = some (t, ((p + (xn t).length : Nat) : Int), 0) := by
  have hd' := hd
  unfold xn at hd'
  rw [List.append_assoc] at hd'
  have h1 := Wh hd (by unfold xn; rw [List.length_append]; have := Ie (t.length : Int); omega)
  have h2 := pU hd'
  have e1 : (xn t).length = (fB (t.length : Int)).length + t.length := by unfold xn; rw [List.length_append]
  unfold pq
  rw [count_eq (m := 4096) hs (by omega) (by omega) hd']
  simp only [Option.bind_some]
  have hw : IntKind.wrap .i64 ((s.length : Int) - ((p + (fB (t.length : Int)).length : Nat) : Int)) = ((s.length - (p + (fB (t.length : Int)).length) : Nat) : Int) := by rw [aQ (by omega) (by omega)]; omega
  have hw2 : IntKind.wrap .i64 (((p + (fB (t.length : Int)).length : Nat) : Int) + (t.length : Int)) = ((p + (xn t).length : Nat) : Int) := by rw [aQ (by omega) (by omega)]; omega
  rw [hw, hw2, if_neg (by decide), if_neg (by simp; omega), if_pos (by omega)]
  rw [show (((p + (xn t).length : Nat) : Int)).toNat = p + (xn t).length by omega, show (((p + (fB (t.length : Int)).length : Nat) : Int)).toNat = p + (fB (t.length : Int)).length by omega]
  congr 2
  rw [List.drop_take, h2, show p + (xn t).length - (p + (fB (t.length : Int)).length) = t.length by omega, List.take_left]

theorem NH {s : List UInt8} {x0 : Int × Int × Int} {l : List Int} (hs : s.length < 1073741824) (hl : l.length ≤ 256) (hx : x0.1 = (l.length : Int)) (hv : ∀ n ∈ l, Val n) : ∀ (k i p : Nat) (rest : List UInt8), i + k = l.length → s.drop p = (l.drop i).flatMap fB ++ rest →
    aY (dM s x0) ((p : Int), l.take i, (i : Int)) = some (.inl (((p + ((l.drop i).flatMap fB).length : Nat) : Int), l))
  | 0, i, p, rest, hi, hd => by
    have : i = l.length := by omega
    subst this
    rw [jP (r := .inl ((p : Int), l)) (by unfold dM; simp [hx])]
    simp
  | k + 1, i, p, rest, hi, hd => by
    have hlt : i < l.length := by omega
    have hdi : l.drop i = l[i] :: l.drop (i + 1) := by simp
    have hd' := hd
    rw [hdi, List.flatMap_cons, List.append_assoc] at hd'
    rw [kZ (y := (((p + (fB l[i]).length : Nat) : Int), l.take (i + 1), ((i + 1 : Nat) : Int))) (by
      unfold dM
      simp only [dD (i := i) (by omega), aaI hs (hv _ (List.getElem_mem hlt)) hd', Option.bind_some, hx]
      rw [if_pos (by simp; omega), if_neg (by decide), if_pos (by simp; omega), List.take_succ_eq_append_getElem hlt]), NH hs hl hx hv k (i + 1) _ rest (by omega) (pU hd')]
    rw [hdi, List.flatMap_cons, List.length_append]
    congr 3
    omega
theorem aaK {s : List UInt8} {p : Nat} {l : List Int} {rest : List UInt8} (hs : s.length < 1073741824) (hl : l.length ≤ 256) (hv : ∀ n ∈ l, Val n) (hd : s.drop p = BJ l ++ rest) : lV s (p : Int) = some (l, ((p + (BJ l).length : Nat) : Int), 0) := by
  have hd' := hd
  unfold BJ at hd'
  rw [List.append_assoc] at hd'
  unfold lV gu
  rw [count_eq (m := 256) hs (by omega) (by omega) hd']
  simp only [Option.bind_some]
  rw [if_neg (by decide)]
  have := NH (x0 := ((l.length : Int), ((p + (fB (l.length : Int)).length : Nat) : Int), 0)) hs hl rfl hv l.length 0 (p + (fB (l.length : Int)).length) rest (by omega) (pU hd')
  simp only [List.take_zero, List.drop_zero] at this
  rw [show ((0 : Nat) : Int) = (0 : Int) from rfl] at this
  rw [this]
  simp only [Option.bind_some, kC]
  unfold BJ
  rw [List.length_append, Nat.add_assoc]

noncomputable def rdr (σ : St) (x : aA jT) : St := σ.bn (σ.au ++ [x])
theorem wB (σ : St) (x : aA jT) : (rdr σ x).au[σ.au.length]? = some x := by
  unfold rdr St.bn
  simp
theorem EL (σ : St) (x y : aA jT) : (rdr σ x).au.set σ.au.length y = (rdr σ y).au := by
  unfold rdr St.bn
  simp
theorem y8 {σ : St} {s : List UInt8} {p : Nat} {n : Int} {rest : List UInt8} (hs : s.length < 1073741824) (hn : Val n) (hd : s.drop p = fB n ++ rest) :
    cO (some σ.au.length) (rdr σ (s, (p : Int), 0, ())) = some (n, rdr σ (s, ((p + (fB n).length : Nat) : Int), 0, ())) := by
  unfold cO
  have hg := wB σ (s, (p : Int), 0, ())
  simp only [Option.bind_some, hg, aaI hs hn hd]
  rw [if_neg (by decide)]
  have h1 := EL σ (s, (p : Int), 0, ()) (s, ((p + (fB n).length : Nat) : Int), 0, ())
  have h2 := wB σ (s, ((p + (fB n).length : Nat) : Int), 0, ())
  have h3 := EL σ (s, ((p + (fB n).length : Nat) : Int), 0, ()) (s, ((p + (fB n).length : Nat) : Int), 0, ())
  rw [h1, h2]
  simp only [Option.bind_some]
  rw [h3]
  rfl
theorem Yt {σ : St} {s : List UInt8} {p : Nat} {t rest : List UInt8} (hs : s.length < 1073741824) (ht : t.length ≤ 4096) (hd : s.drop p = xn t ++ rest) :
    mV (some σ.au.length) (rdr σ (s, (p : Int), 0, ())) = some (t, rdr σ (s, ((p + (xn t).length : Nat) : Int), 0, ())) := by
  unfold mV
  have hg := wB σ (s, (p : Int), 0, ())
  simp only [Option.bind_some, hg, aaL hs ht hd]
  rw [if_neg (by decide)]
  have h1 := EL σ (s, (p : Int), 0, ()) (s, ((p + (xn t).length : Nat) : Int), 0, ())
  have h2 := wB σ (s, ((p + (xn t).length : Nat) : Int), 0, ())
  have h3 := EL σ (s, ((p + (xn t).length : Nat) : Int), 0, ()) (s, ((p + (xn t).length : Nat) : Int), 0, ())
  rw [h1, h2]
  simp only [Option.bind_some]
  rw [h3]
  rfl
theorem Yr {σ : St} {s : List UInt8} {p : Nat} {l : List Int} {rest : List UInt8} (hs : s.length < 1073741824) (hl : l.length ≤ 256) (hv : ∀ n ∈ l, Val n) (hd : s.drop p = BJ l ++ rest) :
    kE (some σ.au.length) (rdr σ (s, (p : Int), 0, ())) = some (l, rdr σ (s, ((p + (BJ l).length : Nat) : Int), 0, ())) := by
  unfold kE
  have hg := wB σ (s, (p : Int), 0, ())
  simp only [Option.bind_some, hg, aaK hs hl hv hd]
  rw [if_neg (by decide)]
  have h1 := EL σ (s, (p : Int), 0, ()) (s, ((p + (BJ l).length : Nat) : Int), 0, ())
  have h2 := wB σ (s, ((p + (BJ l).length : Nat) : Int), 0, ())
  have h3 := EL σ (s, ((p + (BJ l).length : Nat) : Int), 0, ()) (s, ((p + (BJ l).length : Nat) : Int), 0, ())
  rw [h1, h2]
  simp only [Option.bind_some]
  rw [h3]
  rfl

theorem wF {c : jG} (h : lH c = true) : (0 ≤ c.1 ∧ c.1 ≤ 5) ∧ (1 ≤ c.2.1 ∧ c.2.1 ≤ 1099511627776) ∧ c.2.2.1.length ≤ 32 ∧ (0 ≤ c.2.2.2.1 ∧ c.2.2.2.1 ≤ 11) ∧ (∀ n ∈ c.2.2.2.2.1, -1099511627776 ≤ n ∧ n ≤ 1099511627776) ∧ c.2.2.2.2.1.length ≤ 4 ∧ (-1 ≤ c.2.2.2.2.2.1 ∧ c.2.2.2.2.2.1 ≤ 1099511627776) := by
  unfold lH BA BU at h
  simp only [Bool.and_eq_true, List.all_eq_true, decide_eq_true_eq, He] at h
  obtain ⟨⟨⟨⟨⟨h1, h2⟩, h3⟩, h4⟩, h5, h6⟩, h7⟩ := h
  exact ⟨h1, h2, Ir h3, h4, h5, h6, h7⟩
theorem HY {c : jG} (h : lH c = true) : (xm c).length ≤ 200 ∧ 0 < (xm c).length := by
  obtain ⟨h1, h2, h3, h4, h5, h6, h7⟩ := wF h
  have z : ∀ {n : Int}, -1099511627776 ≤ n → n ≤ 1099511627776 → (fB n).length ≤ 10 := fun a b => wZ ⟨by omega, by omega⟩
  have a1 := z (n := c.1) (by omega) (by omega)
  have a2 := z (n := c.2.1) (by omega) (by omega)
  have a3 := z (n := c.2.2.2.1) (by omega) (by omega)
  have a4 := z (n := c.2.2.2.2.2.1) (by omega) (by omega)
  have a5 := z (n := (c.2.2.1.length : Int)) (by omega) (by omega)
  have a6 := z (n := (c.2.2.2.2.1.length : Int)) (by omega) (by omega)
  have a7 := O9 (l := c.2.2.2.2.1) (fun n hn => ⟨by have := h5 n hn; omega, by have := h5 n hn; omega⟩)
  have p1 := Ie c.1
  unfold xm xn BJ
  simp only [List.length_append]
  omega

theorem abK {σ : St} {s : List UInt8} {p : Nat} {c : jG} (hc : lH c = true) : fU (some σ.au.length) c () (rdr σ (s, (p : Int), 0, ())) = some ((c, (p : Int), 0), rdr σ (s, (p : Int), 0, ())) := by
  unfold fU
  have hg := wB σ (s, (p : Int), 0, ())
  simp only [Option.bind_some, hg, YX (c := c) (by have := (wF hc).2.2.2.2.2.1; omega), hc]
  simp [hg]
theorem UD {σ : St} {c : jG} (hc : lH c = true) : rP (xm c) 0 σ = some ((c, ((xm c).length : Int), 0), rdr σ (xm c, ((xm c).length : Int), 0, ())) := by
  obtain ⟨h1, h2, h3, h4, h5, h6, h7⟩ := wF hc
  have hl := (HY hc).1
  generalize hsd : xm c = s at *
  have hs : s.length < 1073741824 := by omega
  have d0 : s.drop 0 = fB c.1 ++ (fB c.2.1 ++ (xn c.2.2.1 ++ (fB c.2.2.2.1 ++ (BJ c.2.2.2.2.1 ++ (fB c.2.2.2.2.2.1 ++ []))))) := by
    rw [← hsd, List.append_nil]; rfl
  have d1 := pU d0
  have d2 := pU d1
  have d3 := pU d2
  have d4 := pU d3
  have d5 := pU d4
  unfold rP
  have e0 : σ.bn (σ.au ++ [(s, (0 : Int), (0 : Int), ())]) = rdr σ (s, ((0 : Nat) : Int), 0, ()) := rfl
  rw [e0, y8 hs ⟨by omega, by omega⟩ d0]
  simp only [Option.bind_some]
  rw [y8 hs ⟨by omega, by omega⟩ d1]
  simp only [Option.bind_some]
  rw [Yt hs (by omega) d2]
  simp only [Option.bind_some]
  rw [y8 hs ⟨by omega, by omega⟩ d3]
  simp only [Option.bind_some]
  rw [Yr hs (by omega) (fun n hn => ⟨by have := h5 n hn; omega, by have := h5 n hn; omega⟩) d4]
  simp only [Option.bind_some]
  rw [y8 hs ⟨by omega, by omega⟩ d5]
  simp only [Option.bind_some]
  have hc' : lH (c.1, c.2.1, c.2.2.1, c.2.2.2.1, c.2.2.2.2.1, c.2.2.2.2.2.1, ()) = true := hc
  rw [abK hc']
  have hend : 0 + (fB c.1).length + (fB c.2.1).length + (xn c.2.2.1).length + (fB c.2.2.2.1).length + (BJ c.2.2.2.2.1).length + (fB c.2.2.2.2.2.1).length = s.length := by
    rw [← hsd]
    unfold xm
    simp only [List.length_append]
    omega
  rw [hend]
  rfl
theorem Yz {σ : St} {c : jG} (hc : lH c = true) : dS (xm c) () σ = some ((c, true), rdr σ (xm c, ((xm c).length : Int), 0, ())) := by
  unfold dS
  rw [UD hc]
  simp

theorem Gs {l : List VdT} (h : lJ l = true) : l.length ≤ 32 ∧ ∀ v ∈ l, (1 ≤ v.1 ∧ v.1 ≤ 1099511627776) ∧ 0 ≤ v.2.1 ∧ v.2.1 ≤ 63 := by
  unfold lJ at h
  simp only [Bool.and_eq_true, decide_eq_true_eq] at h
  obtain ⟨h1, h2⟩ := h
  refine ⟨h2, fun v hv => ?_⟩
  have key : ∀ (m : List VdT) (i : Nat), sD (N7 l) i m = true → ∀ v ∈ m, (1 ≤ v.1 ∧ v.1 ≤ 1099511627776) ∧ 0 ≤ v.2.1 ∧ v.2.1 ≤ 63 := by
    intro m
    induction m with
    | nil => intro i _ v hv; simp at hv
    | cons x r ih =>
      intro i hx v hv
      unfold sD at hx
      rw [Bool.and_eq_true] at hx
      rcases List.mem_cons.1 hv with rfl | hv
      · have := hx.1
        unfold N7 at this
        simp only [Bool.and_eq_true, He] at this
        exact ⟨this.1.1, this.1.2⟩
      · exact ih (i + 1) hx.2 v hv
  exact key l 0 h1 v hv
theorem PY {s : List UInt8} {σ : St} {x0 : Int × St} {l : List VdT} (hs : s.length < 1073741824) (hx : x0.1 = (l.length : Int)) (hl : l.length ≤ 32) (hv : ∀ v ∈ l, (1 ≤ v.1 ∧ v.1 ≤ 1099511627776) ∧ 0 ≤ v.2.1 ∧ v.2.1 ≤ 63) : ∀ (k i p : Nat) (rest : List UInt8), i + k = l.length → s.drop p = (l.drop i).flatMap (fun v => fB v.1 ++ fB v.2.1) ++ rest →
    aY (bG (some σ.au.length) x0) (l.take i, (i : Int), rdr σ (s, (p : Int), 0, ())) = some (l, rdr σ (s, ((p + ((l.drop i).flatMap (fun v => fB v.1 ++ fB v.2.1)).length : Nat) : Int), 0, ()))
  | 0, i, p, rest, hi, hd => by
    have : i = l.length := by omega
    subst this
    rw [jP (r := (l, rdr σ (s, (p : Int), 0, ()))) (by unfold bG; simp [hx])]
    simp
  | k + 1, i, p, rest, hi, hd => by
    have hlt : i < l.length := by omega
    have hdi : l.drop i = l[i] :: l.drop (i + 1) := by simp
    have hd' := hd
    rw [hdi, List.flatMap_cons, List.append_assoc, List.append_assoc] at hd'
    have hd2 := pU hd'
    obtain ⟨v1, v2⟩ := hv _ (List.getElem_mem hlt)
    rw [kZ (y := (l.take (i + 1), ((i + 1 : Nat) : Int), rdr σ (s, ((p + (fB l[i].1).length + (fB l[i].2.1).length : Nat) : Int), 0, ()))) (by
      unfold bG nU
      have hlt' : (i : Int) < x0.1 := by omega
      have hg := wB σ (s, (p : Int), 0, ())
      simp only [hlt', decide_true, if_true, Option.bind_some, hg, dD (i := i) (by omega), beq_self_eq_true, Bool.and_self, y8 hs (n := l[i].1) ⟨by omega, by omega⟩ hd', y8 hs (n := l[i].2.1) ⟨by omega, by omega⟩ hd2]
      rw [if_pos (by simp; omega), List.take_succ_eq_append_getElem hlt]), PY hs hx hl hv k (i + 1) _ rest (by omega) (pU hd2)]
    rw [hdi, List.flatMap_cons, List.length_append, List.length_append]
    rw [show p + (fB l[i].1).length + (fB l[i].2.1).length + ((l.drop (i + 1)).flatMap fun v => fB v.1 ++ fB v.2.1).length = p + ((fB l[i].1).length + (fB l[i].2.1).length + ((l.drop (i + 1)).flatMap fun v => fB v.1 ++ fB v.2.1).length) by omega]
theorem acj {s : List UInt8} {σ : St} {l : List VdT} {p : Nat} {rest : List UInt8} (hs : s.length < 1073741824) (hl : l.length ≤ 32) (hv : ∀ v ∈ l, (1 ≤ v.1 ∧ v.1 ≤ 1099511627776) ∧ 0 ≤ v.2.1 ∧ v.2.1 ≤ 63) (hd : s.drop p = sQ l ++ rest) :
    bZ (some σ.au.length) 32 () (rdr σ (s, (p : Int), 0, ())) = some (l, rdr σ (s, ((p + (sQ l).length : Nat) : Int), 0, ())) := by
  unfold bZ
  have hd' := hd
  unfold sQ at hd'
  rw [List.append_assoc] at hd'
  rw [y8 hs (n := (l.length : Int)) ⟨by omega, by omega⟩ hd']
  have hin : inR (l.length : Int) 0 32 = true := He.2 ⟨by omega, by omega⟩
  have hg := wB σ (s, ((p + (fB (l.length : Int)).length : Nat) : Int), 0, ())
  simp only [Option.bind_some, hg, beq_self_eq_true, if_true, Bf, hin, Bool.not_true, Bool.and_false, Bool.false_eq_true, if_false]
  have := PY (σ := σ) (x0 := ((l.length : Int), rdr σ (s, ((p + (fB (l.length : Int)).length : Nat) : Int), 0, ()))) hs rfl hl hv l.length 0 (p + (fB (l.length : Int)).length) rest (by omega) (pU hd')
  simp only [List.take_zero, List.drop_zero] at this
  rw [show ((0 : Nat) : Int) = (0 : Int) from rfl] at this
  rw [this]
  simp only [Option.bind_some]
  unfold sQ
  rw [List.length_append, Nat.add_assoc]
theorem H5 {l : List VdT} (h : lJ l = true) : (sQ l).length ≤ 700 ∧ 0 < (sQ l).length := by
  obtain ⟨h1, h2⟩ := Gs h
  have a1 := wZ (n := (l.length : Int)) (zl (by omega))
  have p1 := Ie (l.length : Int)
  have key : ∀ (m : List VdT), (∀ v ∈ m, v ∈ l) → (m.flatMap (fun v => fB v.1 ++ fB v.2.1)).length ≤ 20 * m.length := by
    intro m
    induction m with
    | nil => intro _; simp
    | cons x r ih =>
      intro hm
      have := ih fun v hv => hm v (List.mem_cons_of_mem _ hv)
      obtain ⟨b1, b2⟩ := h2 x (hm x List.mem_cons_self)
      have c1 := wZ (n := x.1) ⟨by omega, by omega⟩
      have c2 := wZ (n := x.2.1) ⟨by omega, by omega⟩
      rw [List.flatMap_cons, List.length_append, List.length_append, List.length_cons]; omega
  have := key l fun _ h => h
  unfold sQ
  rw [List.length_append]
  omega
theorem YA {σ : St} {l : List VdT} (h : lJ l = true) : bV (sQ l) () σ = some ((l, true), rdr σ (sQ l, ((sQ l).length : Int), 0, ())) := by
  obtain ⟨h1, h2⟩ := Gs h
  have hl := (H5 h).1
  unfold bV pV
  have e0 : σ.bn (σ.au ++ [(sQ l, (0 : Int), (0 : Int), ())]) = rdr σ (sQ l, ((0 : Nat) : Int), 0, ()) := rfl
  rw [e0, acj (rest := []) (by omega) h1 h2 (by simp)]
  simp only [Option.bind_some, Nat.zero_add]
  have e1 : dJ (some σ.au.length) l () (rdr σ (sQ l, ((sQ l).length : Int), 0, ())) = some ((l, ((sQ l).length : Int), 0), rdr σ (sQ l, ((sQ l).length : Int), 0, ())) := by
    unfold dJ
    have hg := wB σ (sQ l, ((sQ l).length : Int), 0, ())
    simp only [Option.bind_some, hg, JP (l := l) (by omega), h]
    simp [hg]
  rw [e1]
  simp
end Go.Proofs.YtbnmhjobnepajaaGreat.M


namespace Go.Proofs.YtbnmhjobnepajaaGreat.M

theorem N9 {x : Int} (h1 : 0 ≤ x) (h2 : x < 256) : IntKind.wrap .u8 x = x := by
  have : IntKind.wrap .u8 x = x % 256 := by simp [IntKind.wrap, IntKind.bits, IntKind.signed]
  rw [this]; omega

noncomputable def dgt (n : Nat) : UInt8 := UInt8.ofNat (48 + n)

theorem GR {n : Nat} (h : n < 10) : (dgt n).toNat = 48 + n := by
  unfold dgt
  rw [UInt8.toNat_ofNat_of_lt' (by show 48 + n < 256; omega)]

noncomputable def dig (n : Nat) : List UInt8 := if n < 10 then [dgt n] else dig (n / 10) ++ [dgt (n % 10)]
  termination_by n
  decreasing_by omega

theorem sW {n : Nat} (h : n < 10) : dig n = [dgt n] := by rw [dig, if_pos h]
theorem ED {n : Nat} (h : ¬ n < 10) : dig n = dig (n / 10) ++ [dgt (n % 10)] := by rw [dig, if_neg h]

theorem We : ∀ (k n : Nat), n < 10 ^ (k + 1) → (dig n).length ≤ k + 1 := by
  intro k
  induction k with
  | zero => intro n h; rw [sW (by simpa using h)]; simp
  | succ k ih =>
    intro n h
    by_cases c : n < 10
    · rw [sW c]; simp
    · rw [ED c, List.length_append]
      have := ih (n / 10) (by rw [Nat.div_lt_iff_lt_mul (by decide)]; rw [Nat.pow_succ] at h; exact h)
      simp only [List.length_cons, List.length_nil]; omega

theorem IP {n : Nat} (h : n ≤ 1099511627776) : (dig n).length ≤ 13 := We 12 n (by omega)

theorem QE (n : Nat) : 0 < (dig n).length := by
  by_cases c : n < 10
  · rw [sW c]; simp
  · rw [ED c]; simp

theorem V9 (n : Nat) : ∀ c ∈ dig n, 48 ≤ c.toNat ∧ c.toNat ≤ 57 := by
  induction n using Nat.strongRecOn with
  | ind n ih =>
    intro c hc
    by_cases h : n < 10
    · rw [sW h] at hc
      simp only [List.mem_cons, List.not_mem_nil, or_false] at hc
      subst hc; rw [GR h]; omega
    · rw [ED h, List.mem_append] at hc
      rcases hc with hc | hc
      · exact ih _ (by omega) c hc
      · simp only [List.mem_cons, List.not_mem_nil, or_false] at hc
        subst hc; rw [GR (by omega)]; omega

noncomputable def Gq (v : Nat) (s : List UInt8) : Nat := s.foldl (fun v c => v * 10 + (c.toNat - 48)) v

theorem aa1 (v : Nat) (s t : List UInt8) : Gq v (s ++ t) = Gq (Gq v s) t := by unfold Gq; rw [List.foldl_append]

theorem Qa (v : Nat) (c : UInt8) (r : List UInt8) : Gq v (c :: r) = Gq (v * 10 + (c.toNat - 48)) r := by unfold Gq; rw [List.foldl_cons]

theorem Iz (n : Nat) : Gq 0 (dig n) = n := by
  induction n using Nat.strongRecOn with
  | ind n ih =>
    by_cases h : n < 10
    · rw [sW h]; simp only [Gq, List.foldl_cons, List.foldl_nil]; rw [GR h]; omega
    · rw [ED h, aa1, ih _ (by omega)]
      simp only [Gq, List.foldl_cons, List.foldl_nil]; rw [GR (by omega)]; omega

theorem abH {m n : Nat} (h : dig m = dig n) : m = n := by rw [← Iz m, h, Iz]

theorem Yx (v : Nat) (s : List UInt8) : v ≤ Gq v s := by
  induction s generalizing v with
  | nil => exact Nat.le_refl _
  | cons c r ih =>
    have := ih (v * 10 + (c.toNat - 48))
    simp only [Gq, List.foldl_cons] at this ⊢
    omega

theorem ab6 {c : UInt8} (h : 48 ≤ c.toNat ∧ c.toNat ≤ 57) : okc c = true := by
  unfold okc
  simp only [Bool.or_eq_true, Bool.and_eq_true, decide_eq_true_eq, beq_iff_eq]
  omega

end Go.Proofs.YtbnmhjobnepajaaGreat.M


namespace Go.Proofs.YtbnmhjobnepajaaGreat.M

theorem IV : ∀ (k n : Nat) (x : Int), n + k = 8 → ∃ y, qE x (n : Int) = some (y, 8)
  | 0, n, x, h => by
    rw [qE]
    have : n = 8 := by omega
    subst this
    exact ⟨x, by simp⟩
  | k + 1, n, x, h => by
    rw [qE]
    have hw : IntKind.wrap .i64 ((n : Int) + 1) = ((n + 1 : Nat) : Int) := by rw [aQ (by omega) (by omega)]; omega
    have h1 : ((n : Int) < 8) := by omega
    rw [hw]
    simp only [h1, decide_true, if_true]
    split
    · exact IV k (n + 1) _ (by omega)
    · exact IV k (n + 1) _ (by omega)

theorem XR (a b : Int) : ∃ y, f151 a b = some y := by
  unfold f151
  obtain ⟨y, h⟩ := IV 8 0 (IntKind.wrap .u32 ((BitVec.ofInt (IntKind.bits .u32) a ^^^ BitVec.ofInt (IntKind.bits .u32) (IntKind.wrap .u32 (b))).toNat)) (by omega)
  rw [show (((0 : Nat) : Int)) = (0 : Int) from rfl] at h
  exact ⟨y, by rw [h]; rfl⟩

theorem O0 (s : List UInt8) (hs : s.length < 9223372036854775808) : ∀ (k n : Nat) (x : Int), n + k = s.length → ∃ y, wo s x (n : Int) = some y
  | 0, n, x, h => by
    rw [wo]
    have : n = s.length := by omega
    subst this
    exact ⟨_, by simp; rfl⟩
  | k + 1, n, x, h => by
    rw [wo]
    have hn : n < s.length := by omega
    have hw : IntKind.wrap .i64 ((n : Int) + 1) = ((n + 1 : Nat) : Int) := by rw [aQ (by omega) (by omega)]; omega
    have h1 : ((n : Int) < (s.length : Int)) := by omega
    have h0 : (0 : Int) ≤ (n : Int) := by omega
    obtain ⟨z, hz⟩ := XR x (btS s (n : Int))
    obtain ⟨y, ih⟩ := O0 s hs k (n + 1) z (by omega)
    refine ⟨y, ?_⟩
    simp only [h1, h0, decide_true, if_true, and_self, hz, Option.bind_eq_bind, Option.bind_some, hw, ih]

noncomputable def crc (s : List UInt8) : Int := (f111 s).getD 0

theorem Wv {s : List UInt8} (hs : s.length < 9223372036854775808) : f111 s = some (crc s) := by
  have : ∃ y, f111 s = some y := by
    unfold f111 f138
    obtain ⟨y, h⟩ := O0 s hs s.length 0 (IntKind.wrap .u32 ((BitVec.ofInt (IntKind.bits .u32) (if IntKind.signed .u32 = true then -1 else IntKind.max .u32) ^^^ BitVec.ofInt (IntKind.bits .u32) 0).toNat)) (by omega)
    rw [show (((0 : Nat) : Int)) = (0 : Int) from rfl] at h
    exact ⟨_, by rw [h]; rfl⟩
  obtain ⟨y, h⟩ := this
  unfold crc
  rw [h]; rfl

noncomputable def VI (s : List UInt8) : List UInt8 := bQ [IntKind.wrap .u8 (crc s), IntKind.wrap .u8 (Int.fdiv (crc s) (2 ^ 8)), IntKind.wrap .u8 (Int.fdiv (crc s) (2 ^ 16)), IntKind.wrap .u8 (Int.fdiv (crc s) (2 ^ 24))]
noncomputable def Ep (s : List UInt8) : List UInt8 := s ++ VI s
noncomputable def JI (s : List UInt8) : Option (List UInt8) := if 4 ≤ s.length ∧ VI (s.take (s.length - 4)) = s.drop (s.length - 4) then some (s.take (s.length - 4)) else none

theorem Us (s : List UInt8) : (VI s).length = 4 := by simp [VI, bQ]
theorem Jn (s : List UInt8) : (Ep s).length = s.length + 4 := by unfold Ep; rw [List.length_append, Us]

theorem Nu (s : List UInt8) : JI (Ep s) = some s := by
  unfold JI
  have hl := Jn s
  have e1 : (Ep s).length - 4 = s.length := by omega
  have e2 : (Ep s).take s.length = s := by unfold Ep; simp
  have e3 : (Ep s).drop s.length = VI s := by unfold Ep; simp
  rw [e1, e2, e3, if_pos ⟨by omega, rfl⟩]

theorem SY (s : List UInt8) : f110 (crc s) = some (VI s) := rfl

theorem adg {s : List UInt8} (hs : s.length + 4 < 9223372036854775808) : f89 s = some (Ep s) := by
  unfold f89
  have hl := Us s
  simp only [Wv (s := s) (by omega), SY, Option.bind_eq_bind, Option.bind_some]
  rw [if_pos (by omega)]
  rfl

theorem abP {s : List UInt8} (hs : s.length < 9223372036854775808) : (∃ t, JI s = some t ∧ f108 s = some (t, 0)) ∨ (JI s = none ∧ ∃ e : Int, e ≠ 0 ∧ f108 s = some ([], e)) := by
  unfold f108
  have hw : IntKind.wrap .i64 ((s.length : Int) - 4) = (s.length : Int) - 4 := aQ (by omega) (by omega)
  rw [hw]
  by_cases c : s.length < 4
  · refine .inr ⟨?_, 5, by decide, by rw [if_pos (by simp; omega)]⟩
    unfold JI
    rw [if_neg (by omega)]
  have e1 : Int.toNat ((s.length : Int) - 4) = s.length - 4 := by omega
  have hg : (0 : Int) ≤ (s.length : Int) - 4 ∧ (s.length : Int) - 4 ≤ (s.length : Int) := by omega
  have hl : (s.take (s.length - 4)).length < 9223372036854775808 := by rw [List.length_take]; omega
  rw [if_neg (by simp; omega), if_pos hg]
  simp only [e1, Wv hl, SY, Option.bind_eq_bind, Option.bind_some]
  rw [if_pos hg, if_pos hg]
  unfold JI
  by_cases c2 : VI (s.take (s.length - 4)) = s.drop (s.length - 4)
  · refine .inl ⟨s.take (s.length - 4), ?_, ?_⟩
    · rw [if_pos ⟨by omega, c2⟩]
    · rw [if_neg (by simp [c2])]
  · refine .inr ⟨?_, 7, by decide, ?_⟩
    · rw [if_neg (fun h => c2 h.2)]
    · rw [if_pos (by simpa using c2)]

end Go.Proofs.YtbnmhjobnepajaaGreat.M


namespace Go.Proofs.YtbnmhjobnepajaaGreat.M

theorem abR : ∀ (n : Nat), n < 9223372036854775808 → nZ (n : Int) = some (dig n) := by
  intro n
  induction n using Nat.strongRecOn with
  | ind n ih =>
    intro hn
    rw [nZ]
    by_cases h : n < 10
    · have h1 : ((n : Int) < 10) := by omega
      rw [if_pos (by simpa using h1), sW h, aQ (by omega) (by omega), N9 (by omega) (by omega)]
      simp only [bQ, List.map_cons, List.map_nil, dgt]
      congr 3
    · have h1 : ¬ ((n : Int) < 10) := by omega
      rw [if_neg (by simpa using h1)]
      have e1 : Int.tdiv (n : Int) 10 = ((n / 10 : Nat) : Int) := by
        rw [Int.tdiv_eq_ediv_of_nonneg (by omega)]; omega
      have e2 : Int.tmod (n : Int) 10 = ((n % 10 : Nat) : Int) := by
        rw [Int.tmod_eq_emod_of_nonneg (by omega)]; omega
      rw [e1, e2, aQ (x := ((n / 10 : Nat) : Int)) (by omega) (by omega), ih _ (by omega) (by omega), aQ (by omega) (by omega), N9 (by omega) (by omega)]
      have e3 : bQ [(48 + ((n % 10 : Nat) : Int))] = [dgt (n % 10)] := by
        simp only [bQ, List.map_cons, List.map_nil, dgt]
        congr 2
      have hl := We 18 (n / 10) (by omega)
      simp only [Option.bind_eq_bind, Option.bind_some, e3]
      rw [if_pos (by simp only [List.length_cons, List.length_nil]; omega), ED h]

theorem O3 (s : List UInt8) (hs : s.length < 9223372036854775808) : ∀ (k n : Nat) (v : Nat), n + k = s.length → v ≤ 1099511627776 → (∀ c ∈ s.drop n, 48 ≤ c.toNat ∧ c.toNat ≤ 57) → Gq v (s.drop n) ≤ 1099511627776 →
    wu s (v : Int) (n : Int) = some (.inl (((Gq v (s.drop n) : Nat) : Int), (s.length : Int)))
  | 0, n, v, h, hv, hc, hw => by
    rw [wu]
    have : n = s.length := by omega
    subst this
    simp [Gq]
  | k + 1, n, v, h, hv, hc, hw => by
    rw [wu]
    have hn : n < s.length := by omega
    have hw1 : IntKind.wrap .i64 ((n : Int) + 1) = ((n + 1 : Nat) : Int) := by rw [aQ (by omega) (by omega)]; omega
    have hd : s.drop n = s[n] :: s.drop (n + 1) := by simp
    have h1 : ((n : Int) < (s.length : Int)) := by omega
    have h0 : (0 : Int) ≤ (n : Int) := by omega
    rw [hd] at hc hw
    have hc1 := hc _ List.mem_cons_self
    rw [Qa] at hw
    have hm := Yx (v * 10 + (s[n].toNat - 48)) (s.drop (n + 1))
    rw [Bi hn, hw1, hd]
    simp only [h1, h0, decide_true, if_true, and_self]
    rw [if_neg (by simp; omega), if_neg (by simp; omega)]
    have e1 : IntKind.wrap .i64 (IntKind.wrap .i64 ((v : Int) * 10) + IntKind.wrap .i64 (IntKind.wrap .u8 ((s[n].toNat : Int) - 48))) = ((v * 10 + (s[n].toNat - 48) : Nat) : Int) := by
      rw [N9 (by omega) (by omega), aQ (x := (s[n].toNat : Int) - 48) (by omega) (by omega), aQ (x := (v : Int) * 10) (by omega) (by omega), aQ (by omega) (by omega)]
      omega
    rw [e1, O3 s hs k (n + 1) (v * 10 + (s[n].toNat - 48)) (by omega) (by omega) (fun c hc2 => hc c (List.mem_cons_of_mem _ hc2)) hw, Qa]

theorem Zh {n : Nat} (hn : 0 < n) : ∃ c r, dig n = c :: r ∧ c.toNat ≠ 48 := by
  induction n using Nat.strongRecOn with
  | ind n ih =>
    by_cases h : n < 10
    · exact ⟨dgt n, [], sW h, by rw [GR h]; omega⟩
    · obtain ⟨c, r, h1, h2⟩ := ih (n / 10) (by omega) (by omega)
      exact ⟨c, r ++ [dgt (n % 10)], by rw [ED h, h1]; rfl, h2⟩

theorem Tc {n : Nat} (hn : n ≤ 1099511627776) : f140 (dig n) = some (n : Int) := by
  have hl := IP hn
  have hp := QE n
  have h0 := O3 (dig n) (by omega) (dig n).length 0 0 (by omega) (by omega) (by rw [List.drop_zero]; exact V9 n) (by rw [List.drop_zero, Iz]; exact hn)
  rw [show (((0 : Nat) : Int)) = (0 : Int) from rfl, List.drop_zero, Iz] at h0
  unfold f140
  rw [h0]
  simp only [Option.bind_eq_bind, Option.bind_some]
  have hne : dig n ≠ [] := fun e => by rw [e] at hp; simp at hp
  rw [if_neg (by simpa using hne), if_pos (by omega)]
  rw [if_neg]
  simp only [Bool.or_eq_true, Bool.and_eq_true, not_or, not_and]
  refine ⟨fun h1 => ?_, by simp; omega⟩
  by_cases c : n = 0
  · subst c
    rw [sW (by decide)]
    decide
  · obtain ⟨c, r, h2, h3⟩ := Zh (n := n) (by omega)
    rw [h2] at h1
    have : btS (c :: r) 0 = (c.toNat : Int) := by
      have := Bi (s := c :: r) (n := 0) (by simp)
      simpa using this
    rw [this] at h1
    simp at h1
    omega

abbrev nmL : List UInt8 := [99, 109, 100, 115]
theorem abT : f95 nmL = some true := by
  unfold f95
  rw [vK, vK, vK, vK, vK]
  rfl

noncomputable def bH (n : Nat) : List UInt8 := [99, 109, 100, 115, 46] ++ dig n
theorem O7 {m n : Nat} (h : bH m = bH n) : m = n := abH (List.append_cancel_left h)
theorem EG {n : Nat} (h : n ≤ 1099511627776) : (bH n).length ≤ 18 := by
  have := IP h
  unfold bH
  rw [List.length_append]; simp only [List.length_cons, List.length_nil]; omega
theorem xZ {n : Nat} (h : n ≤ 1099511627776) : Jf (bH n) = true := by
  have hl := EG h
  unfold Jf
  have h1 : (bH n).all okc = true := by
    unfold bH
    rw [List.all_append, Bool.and_eq_true]
    refine ⟨by decide, List.all_eq_true.2 (fun c hc => ab6 (V9 n c hc))⟩
  have h2 : 0 < (bH n).length := by unfold bH; rw [List.length_append]; simp only [List.length_cons]; omega
  rw [h1]
  simp only [Bool.true_and, Bool.and_eq_true, decide_eq_true_eq]
  omega

noncomputable def oU (n : Nat) (x : List UInt8) : List UInt8 := Ep (oh n ++ x)
noncomputable def iE (n : Nat) (x : List UInt8) : List UInt8 := oh (oU n x).length ++ oU n x

abbrev OkR (x : List UInt8) : Prop := x.length ≤ 1024
abbrev OkN (n : Nat) : Prop := n < 4611686018427387904

theorem Ei {n : Nat} {x : List UInt8} (hn : OkN n) (hx : OkR x) : (oU n x).length ≤ 1038 := by
  have := wY (n := n) (by unfold OkN at hn; omega)
  unfold oU
  rw [Jn, List.length_append]
  unfold OkR at hx; omega

theorem ND {n : Nat} {x : List UInt8} (hn : OkN n) (hx : OkR x) : (iE n x).length ≤ 1048 := by
  have h1 := Ei hn hx
  have := wY (n := (oU n x).length) (by omega)
  unfold iE
  rw [List.length_append]; omega

theorem aax (n : Nat) : 0 < (oh n).length := by
  unfold oh bQ; rw [List.length_map]; exact Xk _

theorem NF (n : Nat) (x : List UInt8) : 0 < (iE n x).length := by
  have := aax (oU n x).length
  unfold iE; rw [List.length_append]; omega

theorem Va {n : Nat} {x : List UInt8} (hn : OkN n) (hx : OkR x) : f99 (n : Int) x = some (iE n x) := by
  unfold OkN at hn
  have h0 := wY (n := n) (by omega)
  have h1 := Ei hn hx
  have h2 := wY (n := (oU n x).length) (by omega)
  unfold OkR at hx
  unfold f99
  rw [LZ (by omega)]
  simp only [Option.bind_eq_bind, Option.bind_some]
  rw [if_pos (by omega), adg (by rw [List.length_append]; omega)]
  have e : Ep (oh n ++ x) = oU n x := rfl
  rw [e]
  simp only [Option.bind_some]
  rw [LZ (by omega)]
  simp only [Option.bind_some]
  rw [if_pos (by omega)]
  rfl

theorem XT {s rest x : List UInt8} {p n : Nat} (hs : s.length < 4611686018427387904) (hp : p ≤ s.length) (hn : OkN n) (hx : OkR x) (hd : s.drop p = iE n x ++ rest) :
    f94 s (p : Int) (n : Int) = some (x, ((p + (iE n x).length : Nat) : Int), true) := by
  unfold OkN at hn
  have hT := Ei hn hx
  have hlen : p + (iE n x).length + rest.length = s.length := by
    have := congrArg List.length hd
    rw [List.length_drop, List.length_append] at this; omega
  have hB : (iE n x).length = (oh (oU n x).length).length + (oU n x).length := by unfold iE; rw [List.length_append]
  have hd2 : s.drop p = oh (oU n x).length ++ (oU n x ++ rest) := by rw [hd]; unfold iE; rw [List.append_assoc]
  unfold f94
  rw [S9 (k := (oU n x).length) (by omega) (by omega) hp hd2]
  simp only [Option.bind_eq_bind, Option.bind_some]
  have hw1 : IntKind.wrap .i64 ((s.length : Int) - ((p + (oh (oU n x).length).length : Nat) : Int)) = (s.length : Int) - ((p + (oh (oU n x).length).length : Nat) : Int) := aQ (by omega) (by omega)
  have hw2 : IntKind.wrap .i64 (((p + (oh (oU n x).length).length : Nat) : Int) + ((oU n x).length : Int)) = ((p + (iE n x).length : Nat) : Int) := by rw [aQ (by omega) (by omega)]; omega
  rw [hw1, hw2, if_neg (by simp; omega), if_pos (by omega)]
  have hi1 : Int.toNat ((p + (iE n x).length : Nat) : Int) = p + (iE n x).length := by omega
  have hi2 : Int.toNat ((p + (oh (oU n x).length).length : Nat) : Int) = p + (oh (oU n x).length).length := by omega
  have hsub : (s.take (p + (iE n x).length)).drop (p + (oh (oU n x).length).length) = oU n x := by
    rw [List.drop_take, ← List.drop_drop, hd2]
    have : p + (iE n x).length - (p + (oh (oU n x).length).length) = (oU n x).length := by omega
    rw [this, List.drop_left, List.take_left]
  rw [hi1, hi2, hsub]
  rcases abP (s := oU n x) (by omega) with ⟨t, h1, h2⟩ | ⟨h1, _⟩
  · have e : JI (oU n x) = some (oh n ++ x) := Nu _
    rw [e] at h1
    simp only [Option.some.injEq] at h1
    subst h1
    rw [h2, LZ (by omega)]
    have hnl := wY (n := n) (by omega)
    unfold OkR at hx
    simp only [Option.bind_some]
    have hi3 : Int.toNat (((oh n).length : Nat) : Int) = (oh n).length := by omega
    have hw3 : IntKind.wrap .i64 (((oh n ++ x).length : Int) - ((oh n).length : Int)) = (x.length : Int) := by
      rw [List.length_append, aQ (by omega) (by omega)]; omega
    have hg : (0 : Int) ≤ ((oh n).length : Int) ∧ ((oh n).length : Int) ≤ ((oh n ++ x).length : Int) := by rw [List.length_append]; omega
    rw [if_neg (by simp), if_neg (by simp; omega), if_pos hg, hi3, hw3, if_neg (by simp; omega), if_pos hg]
    simp
  · have e : JI (oU n x) = some (oh n ++ x) := Nu _
    rw [e] at h1; cases h1

theorem ZI {s t x : List UInt8} {p n : Nat} (hs : s.length < 4611686018427387904) (hp : p ≤ s.length) (hn : OkN n) (hx : OkR x) (hd : s.drop p = t) (ht : t <+: iE n x) (hl : t.length < (iE n x).length) :
    f94 s (p : Int) (n : Int) = some ([], 0, false) := by
  have hT := Ei hn hx
  have hlen : p + t.length = s.length := by
    have := congrArg List.length hd
    rw [List.length_drop] at this; omega
  have hB : (iE n x).length = (oh (oU n x).length).length + (oU n x).length := by unfold iE; rw [List.length_append]
  unfold f94
  by_cases c : t.length < (oh (oU n x).length).length
  · rw [XP (k := (oU n x).length) (by omega) (by omega) hp hd (List.prefix_of_prefix_length_le ht (by unfold iE; exact List.prefix_append _ _) (by omega)) c]
    rfl
  · have h2 : oh (oU n x).length <+: t := List.prefix_of_prefix_length_le (by unfold iE; exact List.prefix_append _ _) ht (by omega)
    obtain ⟨r, hr⟩ := h2
    rw [S9 (k := (oU n x).length) (rest := r) (by omega) (by omega) hp (by rw [hd, hr])]
    simp only [Option.bind_eq_bind, Option.bind_some]
    have hw1 : IntKind.wrap .i64 ((s.length : Int) - ((p + (oh (oU n x).length).length : Nat) : Int)) = (s.length : Int) - ((p + (oh (oU n x).length).length : Nat) : Int) := aQ (by omega) (by omega)
    rw [hw1, if_pos (by simp; right; omega)]

noncomputable def gI : Nat → List (List UInt8) → List UInt8
  | _, [] => []
  | n, x :: r => iE n x ++ gI (n + 1) r

theorem Be : ∀ (n : Nat) (l l' : List (List UInt8)), gI n (l ++ l') = gI n l ++ gI (n + l.length) l'
  | n, [], l' => by simp [gI]
  | n, x :: r, l' => by
    have := Be (n + 1) r l'
    simp only [List.cons_append, gI, this, List.append_assoc, List.length_cons]
    have e : n + 1 + r.length = n + (r.length + 1) := by omega
    rw [e]

theorem Ug : ∀ (n : Nat) (l : List (List UInt8)), OkN (n + l.length) → (∀ x ∈ l, OkR x) → (gI n l).length ≤ l.length * 1048
  | n, [], _, _ => by simp [gI]
  | n, x :: r, hn, hx => by
    have hn' : n + (r.length + 1) < 4611686018427387904 := hn
    have h1 := ND (n := n) (x := x) (by unfold OkN; omega) (hx x List.mem_cons_self)
    have h2 := Ug (n + 1) r (by unfold OkN; omega) (fun y hy => hx y (List.mem_cons_of_mem _ hy))
    simp only [gI, List.length_append, List.length_cons]
    omega

noncomputable def Gx (n : Nat) (t : List UInt8) : Prop := ∃ x, OkR x ∧ t <+: iE n x ∧ t.length < (iE n x).length

theorem Gx.nil (n : Nat) : Gx n [] := ⟨[], by decide, List.nil_prefix, NF n []⟩

theorem Ti (s : List UInt8) (f : Nat) (hs : s.length < 1099511627776) (t : List UInt8) : ∀ (rem pre : List (List UInt8)), s = gI f pre ++ (gI (f + pre.length) rem ++ t) → OkN (f + pre.length + rem.length) → (∀ x ∈ rem, OkR x) → Gx (f + pre.length + rem.length) t → pre.length ≤ s.length →
    zM s (f : Int) pre (((gI f pre).length : Nat) : Int) = some (pre ++ rem, ((gI f (pre ++ rem)).length : Int))
  | [], pre, hse, hn, hx, ⟨y, hy, ht, htl⟩, hpl => by
    rw [zM]
    simp only [List.length_nil, Nat.add_zero] at hn ht htl
    have hn' : f + pre.length < 4611686018427387904 := hn
    have hl : (gI f pre).length ≤ s.length := by rw [hse]; simp
    have hd : s.drop (gI f pre).length = t := by rw [hse]; simp [gI]
    have hw : IntKind.wrap .i64 ((f : Int) + (pre.length : Int)) = ((f + pre.length : Nat) : Int) := by rw [aQ (by omega) (by omega)]; omega
    rw [if_pos (by simp), hw, ZI (by omega) hl hn hy hd ht htl]
    simp
  | x :: rem, pre, hse, hn, hx, ht, hpl => by
    rw [zM]
    have hn' : f + pre.length + (rem.length + 1) < 4611686018427387904 := hn
    have hxx := hx x List.mem_cons_self
    have hl : (gI f pre).length ≤ s.length := by rw [hse]; simp
    have hd : s.drop (gI f pre).length = iE (f + pre.length) x ++ (gI (f + pre.length + 1) rem ++ t) := by rw [hse]; simp [gI]
    have hw : IntKind.wrap .i64 ((f : Int) + (pre.length : Int)) = ((f + pre.length : Nat) : Int) := by rw [aQ (by omega) (by omega)]; omega
    have hpos := NF (f + pre.length) x
    have hgr : (gI f pre).length + (iE (f + pre.length) x).length ≤ s.length := by
      have := congrArg List.length hd
      rw [List.length_drop, List.length_append] at this; omega
    rw [if_pos (by simp), hw, XT (by omega) hl (by unfold OkN; omega) hxx hd]
    simp only [Option.bind_eq_bind, Option.bind_some, Bool.not_true, Bool.false_eq_true, if_false]
    rw [if_pos (by omega)]
    have hlen1 : (pre ++ [x]).length = pre.length + 1 := by simp
    have hseg : gI f (pre ++ [x]) = gI f pre ++ iE (f + pre.length) x := by rw [Be]; simp [gI]
    have hpl2 : ∀ (n : Nat) (l : List (List UInt8)), l.length ≤ (gI n l).length := by
      intro n l
      induction l generalizing n with
      | nil => simp
      | cons a r ih =>
        have := ih (n + 1)
        have := NF n a
        simp only [gI, List.length_append, List.length_cons]; omega
    have ht2 : Gx (f + (pre ++ [x]).length + rem.length) t := by
      have e : f + (pre ++ [x]).length + rem.length = f + pre.length + (x :: rem).length := by simp only [List.length_append, List.length_cons, List.length_nil]; omega
      rw [e]; exact ht
    have hs2 : s = gI f (pre ++ [x]) ++ (gI (f + (pre ++ [x]).length) rem ++ t) := by
      rw [hse, hseg, hlen1]
      simp only [gI, List.append_assoc]
      rfl
    have := Ti s f hs t rem (pre ++ [x]) hs2 (by rw [hlen1]; unfold OkN; omega) (fun y hy => hx y (List.mem_cons_of_mem _ hy)) ht2 (by have h5 := hpl2 f (pre ++ [x]); rw [hseg] at h5; have h6 : (gI f pre ++ iE (f + pre.length) x).length = (gI f pre).length + (iE (f + pre.length) x).length := List.length_append; omega)
    have e1 : ((gI f (pre ++ [x])).length : Int) = (((gI f pre).length + (iE (f + pre.length) x).length : Nat) : Int) := by rw [hseg, List.length_append]
    rw [e1] at this
    rw [this]
    simp

theorem ac7 {s t : List UInt8} {f : Nat} {recs : List (List UInt8)} (hs : s.length < 1099511627776) (hse : s = gI f recs ++ t) (hn : OkN (f + recs.length)) (hx : ∀ x ∈ recs, OkR x) (ht : Gx (f + recs.length) t) :
    f49 s (f : Int) = some (recs, ((gI f recs).length : Int)) := by
  unfold f49
  have := Ti s f hs t recs [] (by simpa [gI] using hse) (by simpa using hn) hx (by simpa using ht) (by simp)
  simp only [gI, List.length_nil, List.nil_append] at this
  rw [show (((0 : Nat) : Int)) = (0 : Int) from rfl] at this
  rw [this]
  rfl

theorem PU : ∀ (n : Nat) (l : List (List UInt8)) (j : Nat), (∀ x ∈ l, OkR x) → ∃ m t, m ≤ l.length ∧ (gI n l).take j = gI n (l.take m) ++ t ∧ Gx (n + m) t
  | n, [], j, _ => ⟨0, [], Nat.le_refl _, by simp [gI], Gx.nil _⟩
  | n, x :: r, j, hx => by
    by_cases c : j < (iE n x).length
    · refine ⟨0, (iE n x).take j, Nat.zero_le _, ?_, x, hx x List.mem_cons_self, List.take_prefix _ _, ?_⟩
      · simp only [gI, List.take_zero, List.nil_append]
        rw [List.take_append_of_le_length (by omega)]
      · rw [List.length_take, Nat.add_zero]; omega
    · obtain ⟨m, t, h1, h2, h3⟩ := PU (n + 1) r (j - (iE n x).length) (fun y hy => hx y (List.mem_cons_of_mem _ hy))
      have e : n + (m + 1) = n + 1 + m := by omega
      refine ⟨m + 1, t, by simp only [List.length_cons]; omega, ?_, by rw [e]; exact h3⟩
      simp only [gI, List.take_succ_cons]
      rw [List.take_append, List.take_of_length_le (l := iE n x) (by omega), h2, List.append_assoc]
end Go.Proofs.YtbnmhjobnepajaaGreat.M


namespace Go.Proofs.YtbnmhjobnepajaaGreat.M

abbrev FR : Type := List UInt8 × List UInt8 × List UInt8 × Unit
abbrev AD : Type := Int × List FR × Int × Bool × Unit
theorem ltr {a b c : List UInt8} (h1 : a < b) (h2 : b < c) : a < c := List.lt_trans h1 h2
theorem aeg (a : List UInt8) : ¬ a < a := List.lt_irrefl a
theorem lne {a b : List UInt8} (h : a < b) : a ≠ b := fun e => aeg b (e ▸ h)
theorem ad1 {a b : List UInt8} (h1 : ¬ a < b) (h2 : a ≠ b) : b < a := by
  have h : b ≤ a := List.not_lt.1 h1
  rcases List.le_iff_lt_or_eq.1 h with h | h
  · exact h
  · exact absurd h.symm h2

noncomputable def iq (f : FR) : Nat := f.2.1.length + f.2.2.1.length
noncomputable def iW : List FR → Nat
  | [] => 0
  | f :: r => iq f + iW r
noncomputable def jX (s : List UInt8) : List FR → Option FR
  | [] => none
  | f :: r => cond (f.1 == s) (some f) (jX s r)
noncomputable def nP (f : FR) : Bool → List FR → List FR
  | done, [] => cond done [] [f]
  | done, g :: r => (cond (!done && !decide (g.1 < f.1)) [f] []) ++ ((cond (g.1 == f.1) [] [g]) ++ nP f (done || !decide (g.1 < f.1)) r)
noncomputable def kQ (s : List UInt8) : List FR → List FR
  | [] => []
  | f :: r => (cond (f.1 == s) [] [f]) ++ kQ s r

theorem Iw (l l' : List FR) : iW (l ++ l') = iW l + iW l' := by
  induction l with
  | nil => simp [iW]
  | cons f r ih => simp only [List.cons_append, iW, ih]; omega

theorem vY {l l' : List FR} (h : l.Perm l') : iW l = iW l' := by
  induction h with
  | nil => rfl
  | cons f _ ih => simp [iW, ih]
  | swap f g r => simp only [iW]; omega
  | trans _ _ h1 h2 => rw [h1, h2]

theorem oC (s : List UInt8) (L : List FR) : kQ s L = L.filter (fun g => !(g.1 == s)) := by
  induction L with
  | nil => rfl
  | cons f r ih =>
    cases h : (f.1 == s)
    · rw [List.filter_cons_of_pos (by simp [h])]; simp [kQ, h, ih]
    · rw [List.filter_cons_of_neg (by simp [h])]; simp [kQ, h, ih]

theorem PV (f : FR) (L : List FR) : nP f true L = kQ f.1 L := by
  induction L with
  | nil => rfl
  | cons g r ih => simp [nP, kQ, ih]

theorem oL (f : FR) (L : List FR) : (nP f false L).Perm (f :: kQ f.1 L) := by
  induction L with
  | nil => exact List.Perm.refl _
  | cons g r ih =>
    simp only [nP, kQ]
    by_cases h : g.1 < f.1
    · have hb : (g.1 == f.1) = false := by simpa using lne h
      simp only [h, decide_true, Bool.not_true, Bool.and_false, cond_false, hb, Bool.or_self, List.nil_append, List.singleton_append]
      exact (List.Perm.cons g ih).trans (List.Perm.swap f g _)
    · simp only [h, decide_false, Bool.not_false, Bool.and_self, cond_true, Bool.or_true, PV, List.singleton_append]
      exact List.Perm.refl _

theorem Pv {s : List UInt8} {L : List FR} {g : FR} : g ∈ kQ s L ↔ g ∈ L ∧ g.1 ≠ s := by
  rw [oC, List.mem_filter]; simp

theorem Ib {f : FR} {L : List FR} {g : FR} : g ∈ nP f false L ↔ g = f ∨ (g ∈ L ∧ g.1 ≠ f.1) := by
  rw [(oL f L).mem_iff, List.mem_cons, Pv]

abbrev ry (L : List FR) : Prop := L.Pairwise (fun f g => f.1 < g.1)

theorem ry.drop {L : List FR} (h : ry L) (s : List UInt8) : ry (kQ s L) := by
  rw [oC]; exact h.filter _

theorem ry.set {f : FR} {L : List FR} (h : ry L) : ry (nP f false L) := by
  induction L with
  | nil => simp [nP, ry]
  | cons g r ih =>
    have hr := List.pairwise_cons.1 h
    simp only [nP]
    by_cases hg : g.1 < f.1
    · have hb : (g.1 == f.1) = false := by simpa using lne hg
      simp only [hg, decide_true, Bool.not_true, Bool.and_false, cond_false, hb, Bool.or_self, List.nil_append, List.singleton_append]
      refine List.pairwise_cons.2 ⟨fun x hx => ?_, ih hr.2⟩
      rcases Ib.1 hx with rfl | ⟨hx, _⟩
      · exact hg
      · exact hr.1 x hx
    · simp only [hg, decide_false, Bool.not_false, Bool.and_self, cond_true, Bool.or_true, PV, List.singleton_append]
      have hd : ry (cond (g.1 == f.1) [] [g] ++ kQ f.1 r) := h.drop f.1
      refine List.pairwise_cons.2 ⟨fun x hx => ?_, hd⟩
      have hx' : x ∈ kQ f.1 (g :: r) := hx
      obtain ⟨hx1, hx2⟩ := Pv.1 hx'
      rcases List.mem_cons.1 hx1 with rfl | hx1
      · exact ad1 hg hx2
      · by_cases he : g.1 = f.1
        · rw [← he]; exact hr.1 x hx1
        · exact ltr (ad1 hg he) (hr.1 x hx1)

theorem sN {s : List UInt8} {L : List FR} {f : FR} (h : jX s L = some f) : f ∈ L ∧ f.1 = s := by
  induction L with
  | nil => simp [jX] at h
  | cons g r ih =>
    simp only [jX] at h
    cases hg : (g.1 == s)
    · rw [hg] at h; obtain ⟨h1, h2⟩ := ih h; exact ⟨List.mem_cons_of_mem _ h1, h2⟩
    · rw [hg] at h; simp only [cond_true, Option.some.injEq] at h; subst h; exact ⟨List.mem_cons_self, by simpa using hg⟩

theorem Md {s : List UInt8} {L : List FR} (h : jX s L = none) : ∀ f ∈ L, f.1 ≠ s := by
  induction L with
  | nil => simp
  | cons g r ih =>
    simp only [jX] at h
    cases hg : (g.1 == s)
    · rw [hg] at h
      intro f hf
      rcases List.mem_cons.1 hf with rfl | hf
      · simpa using hg
      · exact ih h f hf
    · rw [hg] at h; simp at h

theorem GZ {s : List UInt8} {L : List FR} (hs : ry L) {f : FR} (h1 : f ∈ L) (h2 : f.1 = s) : jX s L = some f := by
  induction L with
  | nil => simp at h1
  | cons g r ih =>
    have hr := List.pairwise_cons.1 hs
    simp only [jX]
    rcases List.mem_cons.1 h1 with rfl | h1
    · simp [h2]
    · have : (g.1 == s) = false := by
        have := lne (hr.1 f h1); rw [h2] at this; simpa using this
      rw [this]; exact ih hr.2 h1

theorem ZK {s : List UInt8} {L : List FR} (h : ∀ f ∈ L, f.1 ≠ s) : jX s L = none := by
  cases hf : jX s L with
  | none => rfl
  | some f => obtain ⟨h1, h2⟩ := sN hf; exact absurd h2 (h f h1)

theorem Bo {s : List UInt8} {L : List FR} (h : jX s L = none) : kQ s L = L := by
  rw [oC, List.filter_eq_self]
  intro f hf
  simpa using Md h f hf

theorem FZ {s : List UInt8} {L : List FR} (hs : ry L) {f : FR} (h : jX s L = some f) : L.Perm (f :: kQ s L) := by
  induction L with
  | nil => simp [jX] at h
  | cons g r ih =>
    have hr := List.pairwise_cons.1 hs
    simp only [jX] at h
    cases hg : (g.1 == s)
    · rw [hg] at h
      simp only [kQ, hg, cond_false, List.singleton_append]
      exact (List.Perm.cons g (ih hr.2 h)).trans (List.Perm.swap f g _)
    · rw [hg] at h; simp only [cond_true, Option.some.injEq] at h; subst h
      simp only [kQ, hg, cond_true, List.nil_append]
      have : kQ s r = r := by
        rw [oC, List.filter_eq_self]
        intro x hx
        have h1 := lne (hr.1 x hx)
        have h2 : g.1 = s := by simpa using hg
        rw [h2] at h1
        simpa using fun e => h1 e.symm
      rw [this]

noncomputable def qU (keep : List Int) (n : Nat) : Nat := match keep with
  | [] => 0
  | x :: _ => (if 0 < x then Int.tmod x (n + 1) else 0).toNat

noncomputable def jS : List FR → List Int → List FR
  | [], _ => []
  | f :: r, keep => cond f.2.2.1.isEmpty ((f.1, f.2.1, [], ()) :: jS r keep) ((f.1, f.2.1 ++ f.2.2.1.take (qU keep f.2.2.1.length), [], ()) :: jS r keep.tail)

theorem ZZ (keep : List Int) (n : Nat) : qU keep n ≤ n := by
  cases keep with
  | nil => simp [qU]
  | cons x r =>
    simp only [qU]
    split
    · have := Int.tmod_lt_of_pos x (b := (n : Int) + 1) (by omega)
      omega
    · simp

noncomputable def qN (A : AD) (L : List FR) : AD := (A.1, L, A.2.2.1, A.2.2.2.1, ())
noncomputable def wI (A : AD) : Bool × AD := if A.2.2.1 = 0 then (false, A) else (A.2.2.1 == 1, (A.1, A.2.1, A.2.2.1 - 1, A.2.2.1 == 1, ()))
noncomputable def xu (A : AD) (k : AD → AD) : Int × AD := if (wI A).1 = true then (11, (wI A).2) else (0, k (wI A).2)
noncomputable def ni (s : List UInt8) : FR := (s, [], [], ())
noncomputable def tK (f : FR) (b : List UInt8) : FR := (f.1, f.2.1, f.2.2.1 ++ b, ())
noncomputable def Eo (s : List UInt8) (f : FR) : FR := (s, f.2.1 ++ f.2.2.1, [], ())
noncomputable def IM (s : List UInt8) (f : FR) (n : Nat) : FR := if n ≤ f.2.1.length then (s, f.2.1.take n, [], ()) else (s, f.2.1, f.2.2.1.take (n - f.2.1.length), ())
abbrev full (A : AD) (s b : List UInt8) : Prop := ((jX s A.2.1).isNone = true ∧ 128 ≤ A.2.1.length) ∨ (65536 < b.length + iq ((jX s A.2.1).getD (ni s))) ∨ A.1 < (b.length : Int) + iW A.2.1

noncomputable def vZ (A : AD) (s b : List UInt8) : Int × AD :=
  if A.2.2.2.1 = true then (11, A) else if Jf s = false then (2, A) else
  if full A s b then (10, A) else
  xu (qN A (nP (tK ((jX s A.2.1).getD (ni s)) b) false A.2.1)) id

noncomputable def PW (A : AD) (s : List UInt8) (k : FR → Int × AD) : Int × AD :=
  if A.2.2.2.1 = true then (11, A) else match jX s A.2.1 with
    | none => (8, A)
    | some f => k f

noncomputable def NV (A : AD) (s : List UInt8) : Int × AD := PW A s fun f => xu A (fun B => qN B (nP (Eo s f) false B.2.1))
noncomputable def Ry (A : AD) (s : List UInt8) (n : Int) : Int × AD := PW A s fun f => if n < 0 ∨ (iq f : Int) < n then (3, A) else xu A (fun B => qN B (nP (IM s f n.toNat) false B.2.1))
noncomputable def Dn (A : AD) (keep : List Int) : AD := (A.1, jS A.2.1 keep, 0, false, ())
noncomputable def readA (A : AD) (s : List UInt8) : List UInt8 × Int := if A.2.2.2.1 = true then ([], 11) else match jX s A.2.1 with
  | none => ([], 8)
  | some f => (f.2.1 ++ f.2.2.1, 0)
structure OkA (A : AD) : Prop where
  sorted : ry A.2.1
  files : A.2.1.length ≤ 128
  each : ∀ f ∈ A.2.1, iq f ≤ 65536
  used : (iW A.2.1 : Int) ≤ A.1
  room : A.1 ≤ 1048576
  armed : 0 ≤ A.2.2.1 ∧ A.2.2.1 < 9223372036854775808

theorem OkA.goes {A : AD} (h : OkA A) : OkA (wI A).2 := by
  unfold wI
  split
  · exact h
  · obtain ⟨h1, h2, h3, h4, h5, h6⟩ := h
    exact ⟨h1, h2, h3, h4, h5, by have := h6; simp only; omega⟩

theorem WG (A : AD) : (wI A).2.2.1 = A.2.1 ∧ (wI A).2.1 = A.1 := by
  unfold wI; split <;> exact ⟨rfl, rfl⟩

theorem NR (f : FR) (L : List FR) : (nP f false L).length = (kQ f.1 L).length + 1 := by
  rw [(oL f L).length_eq]; rfl

theorem Jq (f : FR) (L : List FR) : iW (nP f false L) = iq f + iW (kQ f.1 L) := by
  rw [vY (oL f L)]; rfl

theorem OkA.put {A : AD} (h : OkA A) {g f : FR} {s : List UInt8} (hf : jX s A.2.1 = some f) (hg : g.1 = s) (hle : iq g ≤ iq f) : OkA (qN A (nP g false A.2.1)) := by
  obtain ⟨h1, h2, h3, h4, h5, h6⟩ := h
  have hp := FZ h1 hf
  have hl := hp.length_eq
  have hu := vY hp
  simp only [List.length_cons, iW] at hl hu
  refine ⟨h1.set, ?_, ?_, ?_, h5, h6⟩
  · simp only [qN, NR, hg]; omega
  · intro x hx
    rcases Ib.1 hx with rfl | ⟨hx, _⟩
    · exact Nat.le_trans hle (h3 f (sN hf).1)
    · exact h3 x hx
  · simp only [qN, Jq, hg]; omega

theorem FY : ∀ (L : List FR) (keep : List Int), (jS L keep).length = L.length
  | [], _ => rfl
  | f :: r, keep => by
    unfold jS
    cases f.2.2.1.isEmpty
    · simp [FY r]
    · simp [FY r]

theorem Bl : ∀ (L : List FR) (keep : List Int), (jS L keep).map (·.1) = L.map (·.1)
  | [], _ => rfl
  | f :: r, keep => by
    unfold jS
    cases f.2.2.1.isEmpty
    · simp [Bl r]
    · simp [Bl r]

theorem Dq : ∀ (L : List FR) (keep : List Int), iW (jS L keep) ≤ iW L
  | [], _ => Nat.le_refl _
  | f :: r, keep => by
    unfold jS
    have h1 := Dq r keep
    have h2 := Dq r keep.tail
    cases f.2.2.1.isEmpty
    · simp only [cond_false, iW, iq, List.length_append, List.length_take, List.length_nil]; omega
    · simp only [cond_true, iW, iq, List.length_nil]; omega

theorem Dp {m : Nat} : ∀ (L : List FR) (keep : List Int), (∀ f ∈ L, iq f ≤ m) → ∀ f ∈ jS L keep, iq f ≤ m
  | [], _, _ => by simp [jS]
  | f :: r, keep, h => by
    have hf := h f List.mem_cons_self
    have h1 := Dp r keep (fun x hx => h x (List.mem_cons_of_mem _ hx))
    have h2 := Dp r keep.tail (fun x hx => h x (List.mem_cons_of_mem _ hx))
    unfold jS
    unfold iq at hf
    intro x hx
    cases hb : f.2.2.1.isEmpty
    · rw [hb] at hx
      simp only [cond_false, List.mem_cons] at hx
      rcases hx with rfl | hx
      · simp only [iq, List.length_append, List.length_take, List.length_nil]; omega
      · exact h2 x hx
    · rw [hb] at hx
      simp only [cond_true, List.mem_cons] at hx
      rcases hx with rfl | hx
      · simp only [iq, List.length_nil]; omega
      · exact h1 x hx

theorem Ju {L L' : List FR} (h : L.map (·.1) = L'.map (·.1)) (hs : ry L) : ry L' := by
  have h1 : (L.map (·.1)).Pairwise (· < ·) := List.pairwise_map.2 hs
  rw [h] at h1
  exact List.pairwise_map.1 h1

theorem OkA.Y3 {A : AD} (h : OkA A) (keep : List Int) : OkA (Dn A keep) := by
  obtain ⟨h1, h2, h3, h4, h5, h6⟩ := h
  have hl := FY A.2.1 keep
  have hu := Dq A.2.1 keep
  refine ⟨Ju (Bl A.2.1 keep).symm h1, ?_, Dp _ _ h3, ?_, h5, ?_⟩
  · simp only [Dn]; omega
  · simp only [Dn]; omega
  · simp only [Dn]; omega

theorem OkA.appended {A : AD} (h : OkA A) {s b : List UInt8} (hc : ¬ full A s b) : OkA (qN A (nP (tK ((jX s A.2.1).getD (ni s)) b) false A.2.1)) := by
  obtain ⟨h1, h2, h3, h4, h5, h6⟩ := h
  simp only [full, not_or, not_and, Nat.not_le, Nat.not_lt, Int.not_lt] at hc
  obtain ⟨c1, c2, c3⟩ := hc
  cases hf : jX s A.2.1 with
  | none =>
    rw [hf] at c1 c2
    have c1 := c1 rfl
    have hd := Bo hf
    have e1 : (tK ((none : Option FR).getD (ni s)) b).1 = s := rfl
    refine ⟨h1.set, ?_, ?_, ?_, h5, h6⟩
    · simp only [qN, NR, e1, hd]; omega
    · intro x hx
      rcases Ib.1 hx with rfl | ⟨hx, _⟩
      · simp only [Option.getD_none, iq, ni, tK, List.length_append, List.length_nil] at c2 ⊢; omega
      · exact h3 x hx
    · simp only [qN, Jq, e1, hd]
      simp only [Option.getD_none, iq, ni, tK, List.length_append, List.length_nil] at c2 ⊢; omega
  | some f =>
    rw [hf] at c1 c2
    have hn := (sN hf).2
    have hp := FZ h1 hf
    have hl := hp.length_eq
    have hu := vY hp
    simp only [List.length_cons, iW] at hl hu
    have e1 : (tK ((some f).getD (ni s)) b).1 = s := hn
    refine ⟨h1.set, ?_, ?_, ?_, h5, h6⟩
    · simp only [qN, NR, e1]; omega
    · intro x hx
      rcases Ib.1 hx with rfl | ⟨hx, _⟩
      · simp only [Option.getD_some, iq, tK, List.length_append] at c2 ⊢; omega
      · exact h3 x hx
    · simp only [qN, Jq, e1]
      simp only [Option.getD_some, iq, tK, List.length_append] at c2 hu ⊢; omega

theorem Xi {A : AD} (hA : OkA A) : IntKind.wrap .i64 (A.1 - ((iW A.2.1 : Nat) : Int)) = A.1 - ((iW A.2.1 : Nat) : Int) := by
  have h1 := hA.used; have h2 := hA.room
  rw [aQ (by omega) (by omega)]

end Go.Proofs.YtbnmhjobnepajaaGreat.M


namespace Go.Proofs.YtbnmhjobnepajaaGreat.M

abbrev ME : Type := List UInt8 × Option Nat

section
variable {m : List ME} {s : List UInt8}

noncomputable def Keys (m : List ME) : Prop := (m.map (·.1)).Nodup

theorem JF (q : ME) (r : List ME) : bW .str (.ptr ax) s (q :: r) = cond (s == q.1) (some q.2) (bW .str (.ptr ax) s r) := by
  obtain ⟨k, v⟩ := q
  simp only [bW, vG]
  cases (s == k) <;> rfl

theorem Vo (hk : Keys m) {v : Option Nat} (h : (s, v) ∈ m) : bW .str (.ptr ax) s m = some v := by
  induction m with
  | nil => simp at h
  | cons q r ih =>
    rw [JF]
    unfold Keys at hk
    rw [List.map_cons, List.nodup_cons] at hk
    rcases List.mem_cons.1 h with rfl | h
    · simp
    · have : (s == q.1) = false := by
        have : s ≠ q.1 := fun e => hk.1 (by rw [← e]; exact List.mem_map.2 ⟨_, h, rfl⟩)
        simpa using this
      rw [this]; exact ih hk.2 h

theorem X7 (h : ∀ q ∈ m, q.1 ≠ s) : bW .str (.ptr ax) s m = none := by
  induction m with
  | nil => rfl
  | cons q r ih =>
    rw [JF]
    have : (s == q.1) = false := by
      have := h q List.mem_cons_self
      simpa using fun e => this e.symm
    rw [this]; exact ih (fun q hq => h q (List.mem_cons_of_mem _ hq))

noncomputable def others (s : List UInt8) (m : List ME) : List ME := m.filter (fun q => !(q.1 == s))

theorem TN (h : ∀ q ∈ m, q.1 ≠ s) : others s m = m := by
  unfold others; rw [List.filter_eq_self]; intro q hq; simpa using h q hq

theorem TK (hk : Keys m) (v : Option Nat) : (oQ .str (.ptr ax) s v m).Perm ((s, v) :: others s m) := by
  induction m with
  | nil => exact List.Perm.refl _
  | cons q r ih =>
    obtain ⟨k, u⟩ := q
    unfold Keys at hk
    rw [List.map_cons, List.nodup_cons] at hk
    simp only [oQ, vG]
    cases hs : (s == k) with
    | true =>
      have he : s = k := by simpa using hs
      subst he
      have : others s ((s, u) :: r) = r := by
        unfold others
        rw [List.filter_cons_of_neg (by simp)]
        exact TN (fun q hq e => hk.1 (by rw [← e]; exact List.mem_map.2 ⟨q, hq, rfl⟩))
      rw [this]
    | false =>
      have : others s ((k, u) :: r) = (k, u) :: others s r := by
        unfold others
        rw [List.filter_cons_of_pos]
        have : s ≠ k := by simpa using hs
        simpa using fun e => this e.symm
      rw [this]
      exact (List.Perm.cons _ (ih hk.2)).trans (List.Perm.swap _ _ _)

end

noncomputable def cont (f : FR) : aA eP := (f.2.1 ++ f.2.2.1, (f.2.1.length : Int), ())
noncomputable def entry (q : FR × Nat) : ME := (q.1.1, some q.2)
noncomputable def rest (s : List UInt8) (qs : List (FR × Nat)) : List (FR × Nat) := qs.filter (fun q => !(q.1.1 == s))

structure DVq (σ : St) (d n0 : Nat) (A : AD) (o : aA dN) (qs : List (FR × Nat)) : Prop where
  ho : σ.af[d]? = some o
  room : o.1 = A.1
  armed : o.2.2.1 = A.2.2.1
  down : o.2.2.2.1 = A.2.2.2.1
  map : o.2.1.Perm (qs.map entry)
  files : (qs.map (·.1)).Perm A.2.1
  nodup : (qs.map (·.2)).Nodup
  lie : ∀ q ∈ qs, σ.ai[q.2]? = some (cont q.1) ∧ n0 ≤ q.2
  base : n0 ≤ σ.ai.length

noncomputable def DV (σ : St) (d n0 : Nat) (A : AD) : Prop := ∃ o qs, DVq σ d n0 A o qs

noncomputable def vk (σ : St) := (σ.up, σ.aj, σ.ae)

structure FrD (σ σ' : St) (d n0 : Nat) : Prop where
  oth : vk σ' = vk σ
  up : σ'.up = σ.up
  af : ∀ i, i ≠ d → i < σ.af.length → σ'.af[i]? = σ.af[i]?
  l105 : σ.af.length ≤ σ'.af.length
  ai : ∀ j, j < n0 → σ'.ai[j]? = σ.ai[j]?
  l108 : σ.ai.length ≤ σ'.ai.length

theorem FrD.refl (σ : St) (d n0 : Nat) : FrD σ σ d n0 := ⟨rfl, rfl, fun _ _ _ => rfl, Nat.le_refl _, fun _ _ => rfl, Nat.le_refl _⟩
theorem FrD.trans {σ σ' σ'' : St} {d n0 : Nat} (h1 : FrD σ σ' d n0) (h2 : FrD σ' σ'' d n0) : FrD σ σ'' d n0 :=
  ⟨h2.oth.trans h1.oth, h2.up.trans h1.up, fun i hi hl => (h2.af i hi (Nat.lt_of_lt_of_le hl h1.l105)).trans (h1.af i hi hl), Nat.le_trans h1.l105 h2.l105, fun j hj => (h2.ai j hj).trans (h1.ai j hj), Nat.le_trans h1.l108 h2.l108⟩

section
variable {σ : St} {d n0 : Nat} {A : AD} {o : aA dN} {qs : List (FR × Nat)}

theorem DVq.same (h : DVq σ d n0 A o qs) {σ' : St} (h1 : σ'.af = σ.af) (h2 : σ'.ai = σ.ai) : DVq σ' d n0 A o qs := by
  obtain ⟨a1, a2, a3, a4, a5, a6, a7, a8, a9⟩ := h
  exact ⟨by rw [h1]; exact a1, a2, a3, a4, a5, a6, a7, by rw [h2]; exact a8, by rw [h2]; exact a9⟩

theorem DVq.names (h : DVq σ d n0 A o qs) (hs : ry A.2.1) : (qs.map (fun q => q.1.1)).Nodup := by
  have h1 : (A.2.1.map (·.1)).Nodup := by
    have : (A.2.1.map (·.1)).Pairwise (· < ·) := List.pairwise_map.2 hs
    exact this.imp (fun h => lne h)
  have h2 := (h.files.map (·.1)).nodup_iff.2 h1
  rw [List.map_map] at h2
  exact h2

theorem DVq.keys (h : DVq σ d n0 A o qs) (hs : ry A.2.1) : Keys o.2.1 := by
  unfold Keys
  refine (h.map.map (·.1)).nodup_iff.2 ?_
  rw [List.map_map]
  exact h.names hs

theorem DVq.len (h : DVq σ d n0 A o qs) : o.2.1.length = A.2.1.length := by
  have h1 := h.map.length_eq
  have h2 := h.files.length_eq
  simp only [List.length_map] at h1 h2
  omega

theorem DVq.look (h : DVq σ d n0 A o qs) (hs : ry A.2.1) (s : List UInt8) :
    (jX s A.2.1 = none ∧ bW .str (.ptr ax) s o.2.1 = none ∧ ∀ q ∈ qs, q.1.1 ≠ s) ∨ ∃ f j, jX s A.2.1 = some f ∧ bW .str (.ptr ax) s o.2.1 = some (some j) ∧ (f, j) ∈ qs ∧ f.1 = s ∧ σ.ai[j]? = some (cont f) := by
  cases hf : jX s A.2.1 with
  | none =>
    have hq : ∀ q ∈ qs, q.1.1 ≠ s := fun q hq => Md hf q.1 (h.files.mem_iff.1 (List.mem_map.2 ⟨q, hq, rfl⟩))
    refine .inl ⟨rfl, X7 (fun q hq2 => ?_), hq⟩
    obtain ⟨p, hp, rfl⟩ := List.mem_map.1 (h.map.mem_iff.1 hq2)
    exact hq p hp
  | some f =>
    obtain ⟨h1, h2⟩ := sN hf
    obtain ⟨q, hq, rfl⟩ := List.mem_map.1 (h.files.mem_iff.2 h1)
    refine .inr ⟨q.1, q.2, rfl, Vo (h.keys hs) ?_, hq, h2, (h.lie q hq).1⟩
    refine h.map.mem_iff.2 (List.mem_map.2 ⟨q, hq, ?_⟩)
    unfold entry; rw [h2]

theorem rest_none {s : List UInt8} (h : ∀ q ∈ qs, q.1.1 ≠ s) : rest s qs = qs := by
  unfold rest; rw [List.filter_eq_self]; intro q hq; simpa using h q hq

theorem Yh {f : FR} {j : Nat} (hn : (qs.map (fun q => q.1.1)).Nodup) (hq : (f, j) ∈ qs) : qs.Perm ((f, j) :: rest f.1 qs) := by
  induction qs with
  | nil => simp at hq
  | cons p r ih =>
    rw [List.map_cons, List.nodup_cons] at hn
    rcases List.mem_cons.1 hq with rfl | hq
    · have : rest f.1 ((f, j) :: r) = r := by
        unfold rest
        rw [List.filter_cons_of_neg (by simp)]
        exact rest_none (fun q hq e => hn.1 (by rw [← e]; exact List.mem_map.2 ⟨q, hq, rfl⟩))
      rw [this]
    · have : rest f.1 (p :: r) = p :: rest f.1 r := by
        unfold rest
        rw [List.filter_cons_of_pos]
        have : p.1.1 ≠ f.1 := fun e => hn.1 (by rw [e]; exact List.mem_map.2 ⟨(f, j), hq, rfl⟩)
        simpa using this
      rw [this]
      exact (List.Perm.cons _ (ih hn.2 hq)).trans (List.Perm.swap _ _ _)

theorem aaG (s : List UInt8) : (rest s qs).map entry = others s (qs.map entry) := by
  unfold rest others
  rw [List.filter_map]
  rfl

theorem Ua (s : List UInt8) : (rest s qs).map (·.1) = kQ s (qs.map (·.1)) := by
  unfold rest
  rw [oC, List.filter_map]
  rfl

theorem zq {s : List UInt8} {L L' : List FR} (h : L.Perm L') : (kQ s L).Perm (kQ s L') := by
  rw [oC, oC]; exact h.filter _

theorem Nk {s : List UInt8} {q : FR × Nat} : q ∈ rest s qs ↔ q ∈ qs ∧ q.1.1 ≠ s := by
  unfold rest; rw [List.mem_filter]; simp

theorem DVq.perm (h : DVq σ d n0 A o qs) {L : List FR} (hL : A.2.1.Perm L) : DVq σ d n0 (qN A L) o qs := by
  obtain ⟨a1, a2, a3, a4, a5, a6, a7, a8, a9⟩ := h
  exact ⟨a1, a2, a3, a4, a5, a6.trans hL, a7, a8, a9⟩

theorem SB {g : FR} {L L' : List FR} (h : L.Perm (kQ g.1 L')) : (g :: L).Perm (nP g false L') :=
  (List.Perm.cons g h).trans (oL g L').symm

theorem DVq.upd (h : DVq σ d n0 A o qs) (hs : ry A.2.1) {f g : FR} {j : Nat} (hq : (f, j) ∈ qs) (hg : g.1 = f.1) :
    DVq (σ.aH j (cont g)) d n0 (qN A (nP g false A.2.1)) o ((g, j) :: rest f.1 qs) := by
  have hp := Yh (h.names hs) hq
  have hj := (h.lie _ hq).1
  have hnd : (j :: (rest f.1 qs).map (fun q => q.2)).Nodup := (hp.map (fun q : FR × Nat => q.2)).nodup_iff.1 h.nodup
  refine ⟨h.ho, h.room, h.armed, h.down, ?_, ?_, hnd, ?_, ?_⟩
  · refine h.map.trans ((hp.map entry).trans ?_)
    rw [List.map_cons, List.map_cons]
    have : entry (g, j) = entry (f, j) := by unfold entry; rw [hg]
    rw [this]
  · rw [List.map_cons, Ua, ← hg]
    exact SB (zq h.files)
  · intro q hq2
    rcases List.mem_cons.1 hq2 with rfl | hq2
    · exact ⟨sU hj, (h.lie _ hq).2⟩
    · have hne : j ≠ q.2 := fun e => (List.nodup_cons.1 hnd).1 (by rw [e]; exact List.mem_map.2 ⟨q, hq2, rfl⟩)
      obtain ⟨e1, e2⟩ := h.lie q (Nk.1 hq2).1
      refine ⟨?_, e2⟩
      simp only [St.aH]
      rw [List.getElem?_set_ne hne]; exact e1
  · simpa [St.aH] using h.base

theorem DD {j : Nat} {x : aA eP} (hj : n0 ≤ j) : FrD σ (σ.aH j x) d n0 := by
  refine ⟨rfl, rfl, fun _ _ _ => rfl, Nat.le_refl _, fun i hi => ?_, by simp [St.aH]⟩
  simp only [St.aH]
  rw [List.getElem?_set_ne (by omega)]

theorem G6 {x : aA dN} : FrD σ (σ.aU d x) d n0 := by
  refine ⟨rfl, rfl, fun i hi _ => ?_, by simp [St.aU], fun _ _ => rfl, Nat.le_refl _⟩
  simp only [St.aU]
  rw [List.getElem?_set_ne (Ne.symm hi)]

theorem QT {x : aA eP} (hb : n0 ≤ σ.ai.length) : FrD σ (σ.ed x) d n0 := by
  refine ⟨rfl, rfl, fun _ _ _ => rfl, Nat.le_refl _, fun j hj => ?_, by simp [St.ed]⟩
  simp only [St.ed]
  rw [List.getElem?_append_left (by omega)]

theorem DVq.link (h : DVq σ d n0 A o qs) (hs : ry A.2.1) {g : FR} {j : Nat} (hj : j ∉ qs.map (·.2)) (hc : σ.ai[j]? = some (cont g)) (hb : n0 ≤ j) :
    DVq (σ.aU d (o.1, oQ .str (.ptr ax) g.1 (some j) o.2.1, o.2.2.1, o.2.2.2.1, ())) d n0 (qN A (nP g false A.2.1)) (o.1, oQ .str (.ptr ax) g.1 (some j) o.2.1, o.2.2.1, o.2.2.2.1, ()) ((g, j) :: rest g.1 qs) := by
  refine ⟨ou h.ho, h.room, h.armed, h.down, ?_, ?_, ?_, ?_, h.base⟩
  · refine (TK (h.keys hs) (some j)).trans ?_
    rw [List.map_cons, aaG]
    exact List.Perm.cons _ (h.map.filter _)
  · rw [List.map_cons, Ua]
    exact SB (zq h.files)
  · rw [List.map_cons, List.nodup_cons]
    refine ⟨fun hm => hj ?_, (List.filter_sublist.map _).nodup h.nodup⟩
    obtain ⟨q, hq, e⟩ := List.mem_map.1 hm
    exact List.mem_map.2 ⟨q, (Nk.1 hq).1, e⟩
  · intro q hq
    rcases List.mem_cons.1 hq with rfl | hq
    · exact ⟨hc, hb⟩
    · exact h.lie q (Nk.1 hq).1

theorem DVq.state (h : DVq σ d n0 A o qs) {a : Int} {b : Bool} : DVq (σ.aU d (o.1, o.2.1, a, b, ())) d n0 (A.1, A.2.1, a, b, ()) (o.1, o.2.1, a, b, ()) qs :=
  ⟨ou h.ho, h.room, rfl, rfl, h.map, h.files, h.nodup, h.lie, h.base⟩

theorem Iy : ∀ {qs : List (FR × Nat)}, (∀ q ∈ qs, σ.ai[q.2]? = some (cont q.1)) → Cm (qs.map entry) σ = some (iW (qs.map (·.1)))
  | [], _ => rfl
  | q :: r, h => by
    refine oz.2 ⟨q.2, cont q.1, iW (r.map (·.1)), rfl, h q List.mem_cons_self, Iy (fun p hp => h p (List.mem_cons_of_mem _ hp)), ?_⟩
    simp [iW, iq, cont]

theorem Zw (h : DVq σ d n0 A o qs) (hA : OkA A) : fP (some d) σ = some ((iW A.2.1 : Nat) : Int) := by
  unfold fP
  have h1 := Iy (σ := σ) (qs := qs) (fun q hq => (h.lie q hq).1)
  have h2 := Gp h.map.symm h1
  rw [vY h.files] at h2
  have h3 := hA.used; have h4 := hA.room
  simp [h.ho, h2]
  rw [aQ (by omega) (by omega)]

theorem Yl {l l' : List (List UInt8)} (h : l.Perm l') (hs : l'.Pairwise (· < ·)) : sorted l = l' := by
  unfold sorted
  have hp := (List.mergeSort_perm l (fun x y => decide (x ≤ y))).trans h
  refine hp.eq_of_pairwise (le := fun x y => x ≤ y) ?_ ?_ ?_
  · intro a b _ _ h1 h2; exact List.le_antisymm h1 h2
  · have := List.pairwise_mergeSort (le := fun x y : List UInt8 => decide (x ≤ y)) (fun a b c h1 h2 => by simp only [decide_eq_true_eq] at *; exact List.le_trans h1 h2) (fun a b => by simp only [Bool.or_eq_true, decide_eq_true_eq]; exact List.le_total a b) l
    exact this.imp (fun h => by simpa using h)
  · exact hs.imp (fun h => List.le_of_lt h)

theorem Zx (h : DVq σ d n0 A o qs) (hA : OkA A) : gX (some d) σ = some (A.2.1.map (·.1)) := by
  unfold gX
  have hl := h.len
  have hf := hA.files
  have hp : (o.2.1.map (·.1)).Perm (A.2.1.map (·.1)) := by
    refine (h.map.map (·.1)).trans ?_
    rw [List.map_map]
    have := h.files.map (·.1)
    rw [List.map_map] at this
    exact this
  have hs := Yl hp (List.pairwise_map.2 hA.sorted)
  have hg : (o.2.1.length + 1) * 16 ≤ 140737488355328 := by omega
  simp [h.ho, hs, hg]

theorem ZF (h : DVq σ d n0 A o qs) : f70 (some d) σ = some (if A.2.2.2.1 = true then 11 else 0) := by
  unfold f70
  have := h.down
  simp only [h.ho, Option.isNone_some, Option.bind_eq_bind, Option.bind_some, this]
  rw [if_neg (by decide)]
  split <;> rfl

theorem IW (h : DVq σ d n0 A o qs) (hA : OkA A) (s : List UInt8) :
    (A.2.2.2.1 = true ∧ f77 (some d) s σ = some (none, 11)) ∨ (A.2.2.2.1 = false ∧ ((jX s A.2.1 = none ∧ f77 (some d) s σ = some (none, 8)) ∨ ∃ f j, jX s A.2.1 = some f ∧ (f, j) ∈ qs ∧ f.1 = s ∧ σ.ai[j]? = some (cont f) ∧ bW .str (.ptr ax) s o.2.1 = some (some j) ∧ f77 (some d) s σ = some (some j, 0))) := by
  unfold f77
  rw [ZF h]
  simp only [h.ho, Option.bind_eq_bind, Option.bind_some]
  cases hd : A.2.2.2.1 with
  | true => exact .inl ⟨rfl, by simp⟩
  | false =>
    refine .inr ⟨rfl, ?_⟩
    rcases h.look hA.sorted s with ⟨h1, h2, _⟩ | ⟨f, j, h1, h2, h3, h4, h5⟩
    · exact .inl ⟨h1, by simp [h2, fF]⟩
    · exact .inr ⟨f, j, h1, h3, h4, h5, h2, by simp [h2]⟩

theorem ac2 (h : DVq σ d n0 A o qs) (hA : OkA A) (s : List UInt8) : f28 (some d) s σ = some (readA A s) := by
  unfold f28 readA
  rcases IW h hA s with ⟨h1, h2⟩ | ⟨h1, ⟨h2, h3⟩ | ⟨f, j, h2, h3, h4, h5, _, h6⟩⟩
  · simp [h1, h2]
  · simp [h1, h2, h3]
  · simp [h1, h2, h6, h5, cont]

theorem ac3 (h : DVq σ d n0 A o qs) : f31 (some d) σ = some A.2.2.2.1 := by
  unfold f31
  simp [h.ho, h.down]
end
end Go.Proofs.YtbnmhjobnepajaaGreat.M


namespace Go.Proofs.YtbnmhjobnepajaaGreat.M

noncomputable def Oth (σ σ1 : St) : Prop := σ1.ai = σ.ai ∧ σ1.aG = σ.aG ∧ σ1.gV = σ.gV ∧ σ1.sV = σ.sV ∧ σ1.mi = σ.mi

section
variable {σ : St} {d n0 : Nat} {A : AD} {o : aA dN} {qs : List (FR × Nat)}

theorem NM {X Y : aA dN} : (σ.aU d X).aU d Y = σ.aU d Y := by unfold St.aU; simp
theorem NP {j : Nat} {X Y : aA eP} : (σ.aH j X).aH j Y = σ.aH j Y := by unfold St.aH; simp

theorem FrD.of {σ' : St} (h1 : σ'.up = σ.up) (h2 : σ'.af = σ.af) (h3 : σ'.ai = σ.ai) (h4 : vk σ' = vk σ := by rfl) : FrD σ σ' d n0 :=
  ⟨h4, h1, fun i _ _ => by rw [h2], by rw [h2]; exact Nat.le_refl _, fun i _ => by rw [h3], by rw [h3]; exact Nat.le_refl _⟩

theorem DV.same {σ' : St} (h : DV σ d n0 A) (h1 : σ'.af = σ.af) (h2 : σ'.ai = σ.ai) : DV σ' d n0 A := by
  obtain ⟨o, qs, h⟩ := h
  exact ⟨o, qs, h.same h1 h2⟩

noncomputable def Gives (r : Option (Int × St)) (σ : St) (d n0 : Nat) (p : Int × AD) : Prop := ∃ σ', r = some (p.1, σ') ∧ DV σ' d n0 p.2 ∧ FrD σ σ' d n0

theorem Gives.from {r : Option (Int × St)} {σ0 : St} {p : Int × AD} (h : Gives r σ d n0 p) (hf : FrD σ0 σ d n0) : Gives r σ0 d n0 p := by
  obtain ⟨σ', e1, e2, e3⟩ := h
  exact ⟨σ', e1, e2, hf.trans e3⟩

theorem QK (h : DVq σ d n0 A o qs) (hA : OkA A) (hd : A.2.2.2.1 = false) {p1 : St → Option (Unit × St)} {k : AD → AD}
    (hp : ∀ σ1 o1, DVq σ1 d n0 (wI A).2 o1 qs → o1.2.1 = o.2.1 → Oth σ σ1 → ∃ σ2, p1 σ1 = some ((), σ2) ∧ DV σ2 d n0 (k (wI A).2) ∧ FrD σ1 σ2 d n0) :
    Gives (f72 (some d) p1 σ) σ d n0 (xu A k) := by
  unfold f72 xu
  simp only [h.ho, Option.bind_eq_bind, Option.bind_some, h.armed]
  by_cases h0 : A.2.2.1 = 0
  · have hg : wI A = (false, A) := by unfold wI; rw [if_pos h0]
    rw [hg] at hp ⊢
    obtain ⟨σ2, e1, e2, e3⟩ := hp σ o h rfl ⟨rfl, rfl, rfl, rfl, rfl⟩
    exact ⟨σ2, by simp [h0, e1], e2, e3⟩
  · have ha := hA.armed
    have hw : IntKind.wrap .i64 (A.2.2.1 - 1) = A.2.2.1 - 1 := aQ (by omega) (by omega)
    have hg : wI A = (A.2.2.1 == 1, (A.1, A.2.1, A.2.2.1 - 1, A.2.2.1 == 1, ())) := by unfold wI; rw [if_neg h0]
    have hpos : decide (A.2.2.1 > 0) = true := by simp; omega
    rw [hg] at hp ⊢
    simp only [hpos, if_true, hw, ou h.ho, Option.bind_some, NM]
    by_cases h1 : A.2.2.1 = 1
    · refine ⟨_, by simp [h1]; rfl, ?_, G6⟩
      have := h.state (a := A.2.2.1 - 1) (b := true)
      rw [h1] at this ⊢
      exact ⟨_, _, this⟩
    · have e : ((A.2.2.1 - 1 == 0) : Bool) = false := by
        have : ¬ (A.2.2.1 - 1 = 0) := by omega
        simpa using this
      have e2 : ((A.2.2.1 == 1) : Bool) = false := by simpa using h1
      rw [e2] at hp
      have hq := h.state (a := A.2.2.1 - 1) (b := o.2.2.2.1)
      have hdn : o.2.2.2.1 = false := h.down.trans hd
      rw [hdn] at hq
      obtain ⟨σ2, e3, e4, e5⟩ := hp _ _ hq rfl ⟨rfl, rfl, rfl, rfl, rfl⟩
      refine ⟨σ2, ?_, ?_, G6.trans e5⟩
      · rw [hdn]; simp [e, e2, e3]
      · simp only [e2]; exact e4

theorem ac4 (h : DV σ d n0 A) (hA : OkA A) (s : List UInt8) : Gives (f33 (some d) s σ) σ d n0 (NV A s) := by
  obtain ⟨o, qs, h⟩ := h
  unfold f33 NV PW
  rcases IW h hA s with ⟨h1, h2⟩ | ⟨h1, ⟨h2, h3⟩ | ⟨f, j, h2, h3, h4, h5, _, h6⟩⟩
  · rw [h2, if_pos h1]
    exact ⟨(σ.dY (none, ())).dC σ.aG.length (none, ()), by simp, ⟨o, qs, h.same rfl rfl⟩, FrD.of rfl rfl rfl⟩
  · rw [h3, if_neg (by rw [h1]; decide), h2]
    exact ⟨(σ.dY (none, ())).dC σ.aG.length (none, ()), by simp, ⟨o, qs, h.same rfl rfl⟩, FrD.of rfl rfl rfl⟩
  · rw [h6, if_neg (by rw [h1]; decide), h2]
    simp only [Option.bind_eq_bind, Option.bind_some]
    rw [if_neg (by decide)]
    have hh : DVq ((σ.dY (none, ())).dC σ.aG.length (some j, ())) d n0 A o qs := h.same rfl rfl
    have hc : ((σ.dY (none, ())).dC σ.aG.length (some j, ())).aG[σ.aG.length]? = some (some j, ()) := Es Pm
    refine Gives.from ?_ (FrD.of (σ' := (σ.dY (none, ())).dC σ.aG.length (some j, ())) rfl rfl rfl)
    obtain ⟨σ', e1, e2, e3⟩ := QK hh hA h1 (p1 := f78 σ.aG.length) (k := fun B => qN B (nP (Eo s f) false B.2.1)) (by
      intro σ1 o1 q1 q2 q3
      have hj := (q1.lie _ h3).1
      have hc1 : σ1.aG[σ.aG.length]? = some (some j, ()) := by rw [q3.2.1]; exact hc
      refine ⟨σ1.aH j (cont (Eo s f)), ?_, ⟨_, _, q1.upd hA.goes.sorted h3 h4.symm⟩, DD (q1.lie _ h3).2⟩
      unfold f78
      simp [hc1, hj, cont, Eo])
    exact ⟨σ', by rw [e1]; rfl, e2, e3⟩

theorem ac6 (h : DV σ d n0 A) (hA : OkA A) (s : List UInt8) (n : Int) : Gives (f35 (some d) s n σ) σ d n0 (Ry A s n) := by
  obtain ⟨o, qs, h⟩ := h
  unfold f35 Ry PW
  have h' : DVq (σ.bU (n, ())) d n0 A o qs := h.same rfl rfl
  rcases IW h' hA s with ⟨h1, h2⟩ | ⟨h1, ⟨h2, h3⟩ | ⟨f, j, h2, h3, h4, h5, _, h6⟩⟩
  · rw [h2, if_pos h1]
    exact ⟨((σ.bU (n, ())).dY (none, ())).dC (σ.bU (n, ())).aG.length (none, ()), by simp, ⟨o, qs, h.same rfl rfl⟩, FrD.of rfl rfl rfl⟩
  · rw [h3, if_neg (by rw [h1]; decide), h2]
    exact ⟨((σ.bU (n, ())).dY (none, ())).dC (σ.bU (n, ())).aG.length (none, ()), by simp, ⟨o, qs, h.same rfl rfl⟩, FrD.of rfl rfl rfl⟩
  · rw [h6, if_neg (by rw [h1]; decide), h2]
    simp only [Option.bind_eq_bind, Option.bind_some]
    rw [if_neg (by decide)]
    have hfs := hA.each f (sN h2).1
    by_cases c1 : n < 0
    · rw [if_pos (by simpa using c1), if_pos (.inl c1)]
      exact ⟨_, rfl, ⟨o, qs, h.same rfl rfl⟩, FrD.of rfl rfl rfl⟩
    rw [if_neg (by simpa using c1)]
    have hl : (((σ.bU (n, ())).dY (none, ())).dC ((σ.bU (n, ())).aG.length) (some j, ())).ai[j]? = some (cont f) := h5
    rw [hl]
    simp only [Option.bind_some]
    have hcl : (cont f).1.length = iq f := by simp [cont, iq]
    by_cases c2 : (iq f : Int) < n
    · rw [if_pos (by rw [hcl]; simpa using c2), if_pos (.inr c2)]
      exact ⟨_, rfl, ⟨o, qs, h.same rfl rfl⟩, FrD.of rfl rfl rfl⟩
    rw [if_neg (by rw [hcl]; simpa using c2), if_neg (by simp only [not_or]; exact ⟨c1, c2⟩)]
    have hh : DVq (((σ.bU (n, ())).dY (none, ())).dC ((σ.bU (n, ())).aG.length) (some j, ())) d n0 A o qs := h.same rfl rfl
    have hc : (((σ.bU (n, ())).dY (none, ())).dC ((σ.bU (n, ())).aG.length) (some j, ())).aG[(σ.bU (n, ())).aG.length]? = some (some j, ()) := Es Pm
    have hc3 : (((σ.bU (n, ())).dY (none, ())).dC ((σ.bU (n, ())).aG.length) (some j, ())).gV[σ.gV.length]? = some (n, ()) := by
      show (σ.bU (n, ())).gV[σ.gV.length]? = _
      exact ZV
    refine Gives.from ?_ (FrD.of (σ' := ((σ.bU (n, ())).dY (none, ())).dC ((σ.bU (n, ())).aG.length) (some j, ())) rfl rfl rfl)
    obtain ⟨σ', e1, e2, e3⟩ := QK hh hA h1 (p1 := f79 ((σ.bU (n, ())).aG.length) σ.gV.length) (k := fun B => qN B (nP (IM s f n.toNat) false B.2.1)) (by
      intro σ1 o1 q1 q2 q3
      have hj := (q1.lie _ h3).1
      have hc1 : σ1.aG[(σ.bU (n, ())).aG.length]? = some (some j, ()) := by rw [q3.2.1]; exact hc
      have hc2 : σ1.gV[σ.gV.length]? = some (n, ()) := by rw [q3.2.2.1]; exact hc3
      have hn1 : (IM s f n.toNat).1 = f.1 := by rw [h4]; unfold IM; split <;> rfl
      refine ⟨σ1.aH j (cont (IM s f n.toNat)), ?_, ⟨_, _, q1.upd hA.goes.sorted h3 hn1⟩, DD (q1.lie _ h3).2⟩
      unfold f79
      have hg : (0 : Int) ≤ n ∧ n ≤ ((cont f).1.length : Int) := by rw [hcl]; omega
      simp only [hc1, hc2, hj, Option.bind_eq_bind, Option.bind_some, hg, and_self, if_true, sU hj, NP]
      have : ((f.2.1 ++ f.2.2.1).take n.toNat, (if n < (f.2.1.length : Int) then n else (f.2.1.length : Int)), ()) = cont (IM s f n.toNat) := by
        unfold IM cont
        by_cases c3 : n.toNat ≤ f.2.1.length
        · rw [if_pos c3]
          simp only [List.append_nil, List.length_take]
          rw [List.take_append_of_le_length c3]
          congr 2
          split <;> omega
        · rw [if_neg c3]
          simp only []
          rw [List.take_append, List.take_of_length_le (l := f.2.1) (by omega)]
          congr 2
          rw [if_neg (by omega)]
      exact congrArg (fun X => some ((), σ1.aH j X)) this)
    exact ⟨σ', by rw [e1]; rfl, e2, e3⟩

theorem ZH {B : AD} : ∀ σ1 o1, DVq σ1 d n0 B o1 qs → o1.2.1 = o.2.1 → Oth σ σ1 → ∃ σ2, f73 σ1 = some ((), σ2) ∧ DV σ2 d n0 (id B) ∧ FrD σ1 σ2 d n0 :=
  fun σ1 o1 q1 _ _ => ⟨σ1, rfl, ⟨_, _, q1⟩, FrD.refl _ _ _⟩

theorem Zy (h : DV σ d n0 A) (hA : OkA A) (s b : List UInt8) (hs : s.length < 9223372036854775808) : Gives (f24 (some d) s b σ) σ d n0 (vZ A s b) := by
  obtain ⟨o, qs, h⟩ := h
  unfold f24 vZ
  rw [ZF h]
  simp only [Option.bind_eq_bind, Option.bind_some, adb s hs, h.ho]
  cases hd : A.2.2.2.1 with
  | true => exact ⟨_, by simp, ⟨o, qs, h⟩, FrD.refl _ _ _⟩
  | false =>
    simp only [Bool.false_eq_true, if_false]
    rw [if_neg (by decide)]
    cases hn : Jf s with
    | false => exact ⟨_, by simp, ⟨o, qs, h⟩, FrD.refl _ _ _⟩
    | true =>
      simp only [Bool.not_true, Bool.false_eq_true, if_false, Bool.true_eq_false]
      have hdB : ∀ L, (qN A L).2.2.2.1 = false := fun L => hd
      have hlen := h.len
      rcases h.look hA.sorted s with ⟨h1, h2, h3⟩ | ⟨f, j, h1, h2, h3, h4, h5⟩
      · simp only [h2, Option.getD_none, fF, Option.isNone_none, Bool.not_true, Bool.false_eq_true, if_false, if_true, Option.bind_some, Zw h hA, h.room, Xi hA, decide_eq_true_eq]
        have hw : IntKind.wrap .i64 (65536 - 0) = 65536 := by decide
        rw [hw, hlen]
        have hsz : iq (ni s) = 0 := rfl
        by_cases c1 : (A.2.1.length : Int) ≥ 128
        · rw [if_pos c1, if_pos (.inl ⟨by rw [h1]; rfl, by omega⟩)]
          exact ⟨_, rfl, ⟨o, qs, h⟩, FrD.refl _ _ _⟩
        rw [if_neg c1]
        by_cases c2 : (b.length : Int) > 65536
        · rw [if_pos c2, if_pos (.inr (.inl (by rw [h1]; simp only [Option.getD_none, hsz]; omega)))]
          exact ⟨_, rfl, ⟨o, qs, h⟩, FrD.refl _ _ _⟩
        rw [if_neg c2]
        by_cases c3 : (b.length : Int) > A.1 - ((iW A.2.1 : Nat) : Int)
        · rw [if_pos c3, if_pos (.inr (.inr (by omega)))]
          exact ⟨_, rfl, ⟨o, qs, h⟩, FrD.refl _ _ _⟩
        rw [if_neg c3]
        have hc : ¬ full A s b := by
          simp only [full, h1, Option.getD_none, hsz, not_or, not_and]
          exact ⟨fun _ => by omega, by omega, by omega⟩
        rw [if_neg hc]
        have hB := hA.appended hc
        rw [h1] at hB ⊢
        have e0 : (σ.ed ([], 0, ())).af[d]? = some o := h.ho
        rw [e0]
        simp only [Option.bind_some]
        have q0 : DVq (σ.ed ([], 0, ())) d n0 A o qs := by
          refine ⟨h.ho, h.room, h.armed, h.down, h.map, h.files, h.nodup, fun q hq => ?_, by have := h.base; simp [St.ed]; omega⟩
          obtain ⟨a1, a2⟩ := h.lie q hq
          refine ⟨?_, a2⟩
          simp only [St.ed]
          rw [List.getElem?_append_left (List.getElem?_eq_some_iff.1 a1).1]; exact a1
        have hnew : σ.ai.length ∉ qs.map (·.2) := fun hm => by
          obtain ⟨q, hq, e⟩ := List.mem_map.1 hm
          have := (List.getElem?_eq_some_iff.1 (h.lie q hq).1).1
          omega
        have q1 := q0.link (g := ni s) (j := σ.ai.length) hA.sorted hnew FH h.base
        have q2 := q1.upd (g := tK (ni s) b) hA.sorted.set List.mem_cons_self rfl
        have q3 := q2.perm (L := nP (tK (ni s) b) false A.2.1) (by
          refine (oL _ _).trans (List.Perm.trans ?_ (oL _ _).symm)
          refine List.Perm.cons _ ?_
          refine (zq (oL _ _)).trans ?_
          have e1 : (tK (ni s) b).1 = s := rfl
          have e2 : (ni s).1 = s := rfl
          rw [e1, e2]
          simp only [kQ, e2, beq_self_eq_true, cond_true, List.nil_append]
          rw [Bo (L := kQ s A.2.1)]
          rw [Bo h1]; exact h1)
        have g1 : ((σ.ed ([], 0, ())).aU d (o.1, oQ .str (.ptr ax) s (some σ.ai.length) o.2.1, o.2.2.1, o.2.2.2.1, ())).ai[σ.ai.length]? = some ([], 0, ()) := FH
        rw [g1]
        simp only [Option.bind_some]
        have hl : ([] : List UInt8).length + b.length ≤ 9223372036854775807 := by simp; omega
        rw [if_pos hl]
        have hB' : OkA (qN (qN A (nP (ni s) false A.2.1)) (nP (tK (ni s) b) false A.2.1)) := hB
        obtain ⟨σ', e1, e2, e3⟩ := QK (k := id) q3 hB' (hdB _) ZH
        refine ⟨σ', ?_, e2, ((QT h.base).trans (G6.trans (DD h.base))).trans e3⟩
        have e4 : (([] : List UInt8) ++ b, (0 : Int), ()) = cont (tK (ni s) b) := rfl
        rw [e4]
        have e5 : (ni s).1 = s := rfl
        rw [e5] at e1
        rw [e1]; rfl
      · have hfs := hA.each f (sN h1).1
        have hcl : (cont f).1.length = iq f := by simp [cont, iq]
        simp only [h2, Option.getD_some, Option.isNone_some, Bool.not_false, Bool.false_eq_true, if_false, if_true, Option.bind_some, Zw h hA, h.room, Xi hA, decide_eq_true_eq, h5, hcl]
        have hw : IntKind.wrap .i64 (65536 - (iq f : Int)) = 65536 - (iq f : Int) := aQ (by omega) (by omega)
        rw [hw]
        by_cases c2 : (b.length : Int) > 65536 - (iq f : Int)
        · rw [if_pos c2, if_pos (.inr (.inl (by rw [h1]; simp only [Option.getD_some]; omega)))]
          exact ⟨_, rfl, ⟨o, qs, h⟩, FrD.refl _ _ _⟩
        rw [if_neg c2]
        by_cases c3 : (b.length : Int) > A.1 - ((iW A.2.1 : Nat) : Int)
        · rw [if_pos c3, if_pos (.inr (.inr (by omega)))]
          exact ⟨_, rfl, ⟨o, qs, h⟩, FrD.refl _ _ _⟩
        rw [if_neg c3]
        have hc : ¬ full A s b := by
          simp only [full, h1, Option.getD_some, not_or, not_and]
          exact ⟨fun h => by simp at h, by omega, by omega⟩
        rw [if_neg hc]
        have hB := hA.appended hc
        rw [h1] at hB ⊢
        have q2 := h.upd (g := tK f b) hA.sorted h3 rfl
        have hl : iq f + b.length ≤ 9223372036854775807 := by omega
        rw [if_pos hl]
        obtain ⟨σ', e1, e2, e3⟩ := QK (k := id) q2 hB (hdB _) ZH
        refine ⟨σ', ?_, e2, (DD (h.lie _ h3).2).trans e3⟩
        have e4 : ((cont f).1 ++ b, (cont f).2.1, ()) = cont (tK f b) := by simp [cont, tK]
        rw [e4]
        rw [e1]; rfl

theorem Tf (d n0 : Nat) (A0 : AD) : ∀ (suf pre : List FR) (keep : List Int) (σ : St) (A : AD), DV σ d n0 A → A.2.1 = pre ++ suf → ry (pre ++ suf) → pre.length + suf.length ≤ 128 → (∀ f ∈ suf, iq f ≤ 65536) →
    ∃ keep' σ', vJ (some d) ((pre ++ suf).map (·.1)) keep ((pre.length : Nat) : Int) σ = some (keep', ((pre.length + suf.length : Nat) : Int), σ') ∧ DV σ' d n0 (qN A (pre ++ jS suf keep)) ∧ FrD σ σ' d n0
  | [], pre, keep, σ, A, h, hL, hs, hl, hf => by
    rw [vJ]
    refine ⟨keep, σ, ?_, ?_, FrD.refl _ _ _⟩
    · simp
    · simp only [jS]; rw [← hL]; exact h
  | f :: r, pre, keep, σ, A, h, hL, hs, hl, hf => by
    rw [vJ]
    obtain ⟨o, qs, h⟩ := h
    have hsA : ry A.2.1 := by rw [hL]; exact hs
    have hfs := hf f List.mem_cons_self
    have hfd : jX f.1 A.2.1 = some f := GZ hsA (by rw [hL]; simp) rfl
    have hlook := h.look hsA f.1
    rw [hfd] at hlook
    rcases hlook with ⟨h1, _⟩ | ⟨f', j, h1, h2, h3, h4, h5⟩
    · cases h1
    simp only [Option.some.injEq] at h1; subst h1
    have hn : pre.length < ((pre ++ f :: r).map (·.1)).length := by simp
    have hix : ix ((pre ++ f :: r).map (·.1)) ((pre.length : Nat) : Int) = some f.1 := by rw [lX hn]; simp
    have hlt : ((pre.length : Nat) : Int) < (((pre ++ f :: r).map (·.1)).length : Int) := by omega
    simp only [List.length_cons] at hl
    have hw : IntKind.wrap .i64 ((pre.length : Int) + 1) = (((pre ++ [f]).length : Nat) : Int) := by rw [aQ (by omega) (by omega)]; simp
    have hmore : IntKind.wrap .i64 (((cont f).1.length : Int) - (cont f).2.1) = (f.2.2.1.length : Int) := by
      unfold iq at hfs
      have : ((cont f).1.length : Int) - (cont f).2.1 = (f.2.2.1.length : Int) := by simp [cont]; omega
      rw [this, aQ (by omega) (by omega)]
    have happ : (pre ++ [f]) ++ r = pre ++ f :: r := by simp
    simp only [hlt, decide_true, if_true, hix, Option.bind_eq_bind, Option.bind_some, h.ho, h2, Option.getD_some, h5, hmore, hw]
    have next : ∀ (g : FR) (keep2 : List Int) (σ2 : St), g.1 = f.1 → DV σ2 d n0 (qN A (pre ++ g :: r)) → FrD σ σ2 d n0 →
        ∃ keep' σ', vJ (some d) ((pre ++ f :: r).map (·.1)) keep2 (((pre ++ [f]).length : Nat) : Int) σ2 = some (keep', ((pre.length + (f :: r).length : Nat) : Int), σ') ∧ DV σ' d n0 (qN A (pre ++ g :: jS r keep2)) ∧ FrD σ σ' d n0 := by
      intro g keep2 σ2 hg hv hfr
      have hnm : (pre ++ f :: r).map (·.1) = ((pre ++ [g]) ++ r).map (·.1) := by simp [hg]
      obtain ⟨k', σ', e1, e2, e3⟩ := Tf d n0 A0 r (pre ++ [g]) keep2 σ2 (qN A (pre ++ g :: r)) hv (by simp [qN]) (Ju hnm hs) (by simp; omega) (fun x hx => hf x (List.mem_cons_of_mem _ hx))
      refine ⟨k', σ', ?_, ?_, hfr.trans e3⟩
      · rw [hnm]
        have hpl : (pre ++ [f]).length = (pre ++ [g]).length := by simp
        rw [hpl, e1]
        simp only [List.length_append, List.length_cons, List.length_nil]
        congr 3
        omega
      · have : (pre ++ [g]) ++ jS r keep2 = pre ++ g :: jS r keep2 := by simp
        rw [this] at e2; exact e2
    simp only [jS]
    cases hm : f.2.2.1 with
    | nil =>
      have e : ((f.1, f.2.1, [], ()) : FR) = f := by rw [← hm]
      have h0 : (((([] : List UInt8).length : Int) == 0) : Bool) = true := rfl
      rw [if_pos h0]
      simp only [List.isEmpty_nil, cond_true, e]
      refine next f keep σ rfl ?_ (FrD.refl _ _ _)
      rw [← hL]; exact ⟨o, qs, h⟩
    | cons c t =>
      have h0 : ((((c :: t : List UInt8).length : Int) == 0) : Bool) = false := by
        have : ¬ (((c :: t : List UInt8).length : Int) = 0) := by simp only [List.length_cons]; omega
        simpa using this
      have hkl := ZZ keep (c :: t).length
      have hfs' := hfs
      unfold iq at hfs'
      rw [hm] at hfs'
      have hw1 : IntKind.wrap .i64 (((c :: t : List UInt8).length : Int) + 1) = ((c :: t : List UInt8).length : Int) + 1 := aQ (by omega) (by omega)
      rw [h0]
      simp only [Bool.false_eq_true, if_false, List.isEmpty_cons, cond_false, hw1]
      have hz : ((if decide ((keep.length : Int) > 0) = true then
          (ix keep 0).bind fun x49 => if ((c :: t : List UInt8).length : Int) + 1 ≠ 0 then if (0 : Int) ≤ 1 ∧ 1 ≤ (keep.length : Int) then some (keep.drop (Int.toNat 1), Int.tmod (if 0 > x49 then 0 else x49) (((c :: t : List UInt8).length : Int) + 1)) else none else none
          else some (keep, 0)) : Option (List Int × Int)) = some (keep.tail, ((qU keep (c :: t).length : Nat) : Int)) := by
        cases keep with
        | nil => simp [qU]
        | cons y r' =>
          have hne : ((c :: t : List UInt8).length : Int) + 1 ≠ 0 := by omega
          have hgt : ((y :: r').length : Int) > 0 := by simp only [List.length_cons]; omega
          have hle : (0 : Int) ≤ 1 ∧ 1 ≤ ((y :: r').length : Int) := ⟨by decide, by simp only [List.length_cons]; omega⟩
          have hix0 : ix (y :: r') 0 = some y := rfl
          rw [if_pos (decide_eq_true hgt), hix0, Option.bind_some, if_pos hne, if_pos hle]
          congr 1
          have : (if 0 > y then (0 : Int) else y).tmod (((c :: t : List UInt8).length : Int) + 1) = ((qU (y :: r') (c :: t).length : Nat) : Int) := by
            simp only [qU]
            by_cases hy : 0 < y
            · rw [if_neg (by omega), if_pos hy]
              have := Int.tmod_nonneg (((c :: t : List UInt8).length : Int) + 1) (Int.le_of_lt hy)
              omega
            · rw [if_neg hy]
              have : (if 0 > y then (0 : Int) else y) = 0 := by split <;> omega
              rw [this]; simp
          rw [this]; rfl
      rw [hz]
      simp only [Option.bind_some]
      have hsafe : (cont f).2.1 = (f.2.1.length : Int) := rfl
      have hb : (cont f).1 = f.2.1 ++ c :: t := by rw [← hm]; rfl
      have hw2 : IntKind.wrap .i64 ((f.2.1.length : Int) + ((qU keep (c :: t).length : Nat) : Int)) = ((f.2.1.length + qU keep (c :: t).length : Nat) : Int) := by rw [aQ (by omega) (by omega)]; omega
      rw [hsafe, hw2, hb]
      rw [if_pos ⟨by omega, by simp only [List.length_append]; omega⟩]
      simp only [sU h5, Option.bind_some, NP, Int.toNat_natCast]
      have hcont : ((f.2.1 ++ c :: t).take (f.2.1.length + qU keep (c :: t).length), ((((f.2.1 ++ c :: t).take (f.2.1.length + qU keep (c :: t).length)).length : Nat) : Int), ()) = cont (f.1, f.2.1 ++ (c :: t).take (qU keep (c :: t).length), [], ()) := by
        have : (f.2.1 ++ c :: t).take (f.2.1.length + qU keep (c :: t).length) = f.2.1 ++ (c :: t).take (qU keep (c :: t).length) := by
          rw [List.take_append, List.take_of_length_le (l := f.2.1) (by omega)]; simp
        simp only [cont, this, List.append_nil]
      rw [hcont]
      refine next (f.1, f.2.1 ++ (c :: t).take (qU keep (c :: t).length), [], ()) keep.tail _ rfl ?_ (DD (h.lie _ h3).2)
      have q1 := h.upd (g := (f.1, f.2.1 ++ (c :: t).take (qU keep (c :: t).length), [], ())) hsA h3 rfl
      refine ⟨_, _, q1.perm (L := pre ++ (f.1, f.2.1 ++ (c :: t).take (qU keep (c :: t).length), [], ()) :: r) ?_⟩
      refine (oL _ _).trans (List.Perm.trans ?_ List.perm_middle.symm)
      refine List.Perm.cons _ ?_
      have p1 := FZ hsA hfd
      rw [hL] at p1
      have p2 : (f :: (pre ++ r)).Perm (f :: kQ f.1 A.2.1) := by
        rw [hL]; exact List.perm_middle.symm.trans p1
      exact (List.Perm.cons_inv p2).symm

theorem ac1 (h : DV σ d n0 A) (hA : OkA A) (keep : List Int) : Gives (f27 (some d) keep σ) σ d n0 (0, Dn A keep) := by
  have hf := hA.files
  obtain ⟨k', σ', e1, e2, e3⟩ := Tf d n0 A A.2.1 [] keep σ A h rfl hA.sorted (by simp; exact hf) hA.each
  obtain ⟨o, qs, h⟩ := h
  obtain ⟨o2, qs2, h2⟩ := e2
  unfold f27
  rw [Zx h hA]
  have e1' : vJ (some d) (A.2.1.map (·.1)) keep 0 σ = some (k', ((0 + A.2.1.length : Nat) : Int), σ') := e1
  simp only [Option.isNone_some, Option.bind_eq_bind, Option.bind_some, e1', h2.ho, ou h2.ho, NM]
  rw [if_neg (by decide)]
  exact ⟨_, rfl, ⟨_, _, h2.state⟩, e3.trans G6⟩

theorem ac0 {room : Int} (h1 : 0 ≤ room) (h2 : room ≤ 1048576) : f18 room σ = some ((some σ.af.length, 0), σ.oJ (room, [], 0, false, ())) ∧ DV (σ.oJ (room, [], 0, false, ())) σ.af.length σ.ai.length (room, [], 0, false, ()) ∧ OkA (room, [], 0, false, ()) := by
  refine ⟨?_, ⟨(room, [], 0, false, ()), [], ?_⟩, ?_⟩
  · unfold f18
    have c1 : ¬ room < 0 := by omega
    have c2 : ¬ room > 1048576 := by omega
    simp [c1, c2]
  · exact ⟨Oi, rfl, rfl, rfl, List.Perm.refl _, List.Perm.refl _, List.nodup_nil, by simp, Nat.le_refl _⟩
  · exact ⟨List.Pairwise.nil, Nat.zero_le _, fun f hf => by simp at hf, h1, h2, Int.le_refl 0, (by decide : (0 : Int) < 9223372036854775808)⟩
end
end Go.Proofs.YtbnmhjobnepajaaGreat.M


namespace Go.Proofs.YtbnmhjobnepajaaGreat.M

abbrev Sg : Type := Nat × List (List UInt8)
noncomputable def sgB (g : Sg) : List UInt8 := gI g.1 g.2
noncomputable def sgN (g : Sg) : Nat := g.1 + g.2.length
noncomputable def aN (segs : List Sg) : Nat := match segs.getLast? with
  | none => 0
  | some g => sgN g

theorem jf (pre : List Sg) (g : Sg) : aN (pre ++ [g]) = sgN g := by simp [aN]

noncomputable def Chn : Option Nat → List Sg → Prop
  | _, [] => True
  | e, g :: r => (∀ n, e = some n → g.1 = n) ∧ (r ≠ [] → 0 < g.2.length) ∧ Chn (some (sgN g)) r

theorem Chn.ge : ∀ {r : List Sg} {n : Nat}, Chn (some n) r → ∀ h ∈ r, n ≤ h.1
  | [], _, _ => by simp
  | g :: r, n, h => by
    obtain ⟨h1, h2, h3⟩ := h
    intro x hx
    have := h1 n rfl
    rcases List.mem_cons.1 hx with rfl | hx
    · omega
    · have := h3.ge x hx
      unfold sgN at this; omega

theorem Chn.rise : ∀ {r : List Sg} {e : Option Nat}, Chn e r → r.Pairwise (fun g h => g.1 < h.1)
  | [], _, _ => List.Pairwise.nil
  | g :: r, e, h => by
    obtain ⟨h1, h2, h3⟩ := h
    refine List.pairwise_cons.2 ⟨fun x hx => ?_, h3.rise⟩
    have := h3.ge x hx
    have := h2 (List.ne_nil_of_mem hx)
    unfold sgN at *; omega

theorem Chn.last : ∀ {pre : List Sg} {e : Option Nat} {g h : Sg}, Chn e (pre ++ [g]) → h.1 = g.1 → Chn e (pre ++ [h])
  | [], e, g, h, hc, he => by
    obtain ⟨h1, h2, h3⟩ := hc
    exact ⟨fun n hn => by rw [he]; exact h1 n hn, by simp, trivial⟩
  | a :: pre, e, g, h, hc, he => by
    obtain ⟨h1, h2, h3⟩ := hc
    refine ⟨h1, fun _ => h2 (by simp), ?_⟩
    exact Chn.last (pre := pre) h3 he

theorem Chn.snoc : ∀ {pre : List Sg} {e : Option Nat} {g h : Sg}, Chn e (pre ++ [g]) → h.1 = sgN g → 0 < g.2.length → Chn e (pre ++ [g] ++ [h])
  | [], e, g, h, hc, he, hp => by
    obtain ⟨h1, h2, h3⟩ := hc
    exact ⟨h1, fun _ => hp, fun n hn => by rw [he]; simpa using hn, by simp, trivial⟩
  | a :: pre, e, g, h, hc, he, hp => by
    obtain ⟨h1, h2, h3⟩ := hc
    refine ⟨h1, fun _ => h2 (by simp), ?_⟩
    exact Chn.snoc (pre := pre) h3 he hp

structure Good (segs : List Sg) : Prop where
  chain : Chn none segs
  recs : ∀ g ∈ segs, ∀ x ∈ g.2, OkR x
  top : ∀ g ∈ segs, sgN g ≤ 1000000

theorem Good.len {segs : List Sg} (h : Good segs) {g : Sg} (hg : g ∈ segs) : (sgB g).length ≤ g.2.length * 1048 := by
  have := h.top g hg
  unfold sgN at this
  exact Ug g.1 g.2 (by unfold OkN; omega) (h.recs g hg)

theorem Good.adY {segs : List Sg} (h : Good segs) {g : Sg} (hg : g ∈ segs) : (sgB g).length ≤ 1048000000 := by
  have h1 := h.len hg
  have h2 := h.top g hg
  unfold sgN at h2
  omega

abbrev Lie (σ : St) (j : Nat) (g : Sg) : Prop := σ.ae[j]? = some ((g.1 : Int), g.2, ((sgB g).length : Int), ())

structure LG (σ : St) (l d : Nat) (most : Int) (js : List Nat) (segs : List Sg) (safe : Nat) : Prop where
  lo : σ.aj[l]? = some (some d, nmL, most, js.map some, (safe : Int), ())
  nd : js.Nodup
  lie : cu (Lie σ) js segs

theorem cu.app {α β : Type} {R : α → β → Prop} : ∀ {a : List α} {b : List β} {a' : List α} {b' : List β}, cu R a b → cu R a' b' → cu R (a ++ a') (b ++ b')
  | [], [], _, _, _, h => h
  | _ :: _, _ :: _, _, _, ⟨h1, h2⟩, h => ⟨h1, cu.app h2 h⟩
  | [], _ :: _, _, _, h, _ => h.elim
  | _ :: _, [], _, _, h, _ => h.elim

theorem cu.split {α β : Type} {R : α → β → Prop} : ∀ {a : List α} {b : List β} {y : β}, cu R a (b ++ [y]) → ∃ a' x, a = a' ++ [x] ∧ cu R a' b ∧ R x y
  | [], b, y, h => by cases b <;> exact h.elim
  | x :: a, [], y, h => by
    obtain ⟨h1, h2⟩ := h
    cases a with
    | nil => exact ⟨[], x, rfl, trivial, h1⟩
    | cons _ _ => exact h2.elim
  | x :: a, z :: b, y, h => by
    obtain ⟨h1, h2⟩ := h
    obtain ⟨a', x', e, h3, h4⟩ := cu.split (b := b) h2
    exact ⟨x :: a', x', by rw [e]; rfl, ⟨h1, h3⟩, h4⟩

theorem cu.nth {α β : Type} {R : α → β → Prop} : ∀ {a : List α} {b : List β} (h : cu R a b) (i : Nat) (h1 : i < a.length) (h2 : i < b.length), R a[i] b[i]
  | [], _, _, i, h1, _ => by simp at h1
  | _ :: _, [], h, _, _, _ => h.elim
  | x :: a, y :: b, h, 0, _, _ => h.1
  | x :: a, y :: b, h, i + 1, h1, h2 => cu.nth h.2 i (by simpa using h1) (by simpa using h2)

theorem cu.len {α β : Type} {R : α → β → Prop} : ∀ {a : List α} {b : List β}, cu R a b → a.length = b.length
  | [], [], _ => rfl
  | _ :: _, _ :: _, ⟨_, h⟩ => by simp [cu.len h]
  | [], _ :: _, h => h.elim
  | _ :: _, [], h => h.elim

theorem cu.Vk {α β : Type} {R S : α → β → Prop} : ∀ {a : List α} {b : List β}, cu R a b → (∀ x ∈ a, ∀ y, R x y → S x y) → cu S a b
  | [], [], _, _ => trivial
  | x :: _, y :: _, ⟨h1, h2⟩, h => ⟨h x List.mem_cons_self y h1, cu.Vk h2 (fun z hz => h z (List.mem_cons_of_mem _ hz))⟩
  | [], _ :: _, h, _ => h.elim
  | _ :: _, [], h, _ => h.elim

section
variable {σ : St} {l d : Nat} {most : Int} {js : List Nat} {segs : List Sg} {safe : Nat}

theorem LG.same (h : LG σ l d most js segs safe) {σ' : St} (e : vk σ' = vk σ) : LG σ' l d most js segs safe := by
  have h1 : σ'.aj = σ.aj := congrArg (fun x => x.2.1) e
  have h2 : σ'.ae = σ.ae := congrArg (fun x => x.2.2) e
  refine ⟨by rw [h1]; exact h.lo, h.nd, h.lie.Vk (fun j _ g hg => ?_)⟩
  show σ'.ae[j]? = _
  rw [h2]; exact hg

theorem LG.lt (h : LG σ l d most js segs safe) : ∀ j ∈ js, j < σ.ae.length := by
  intro j hj
  obtain ⟨i, hi, rfl⟩ := List.getElem_of_mem hj
  have hl := cu.len h.lie
  have := cu.nth h.lie i hi (by omega)
  exact (List.getElem?_eq_some_iff.1 this).1

theorem LG.split {pre : List Sg} {g : Sg} (h : LG σ l d most js (pre ++ [g]) safe) : ∃ jp j, js = jp ++ [j] ∧ cu (Lie σ) jp pre ∧ Lie σ j g :=
  cu.split h.lie

theorem Mc (h : LG σ l d most js [] safe) : f97 (some l) σ = some none := by
  have : js = [] := by
    have := cu.len h.lie
    exact List.eq_nil_of_length_eq_zero (by simpa using this)
  subst this
  unfold f97
  simp [h.lo]

theorem L9 {pre : List Sg} {g : Sg} (h : LG σ l d most js (pre ++ [g]) safe) (hl : pre.length < 1000000) {jp : List Nat} {j : Nat} (e : js = jp ++ [j]) : f97 (some l) σ = some (some j) := by
  subst e
  have hlen := cu.len h.lie
  simp only [List.length_append, List.length_cons, List.length_nil] at hlen
  unfold f97
  simp only [h.lo, Option.bind_eq_bind, Option.bind_some]
  rw [if_neg (by simp; omega)]
  have hw : IntKind.wrap .i64 ((((jp ++ [j]).map some).length : Int) - 1) = ((jp.length : Nat) : Int) := by
    simp only [List.length_map, List.length_append, List.length_cons, List.length_nil]
    rw [aQ (by omega) (by omega)]; omega
  have hi : jp.length < ((jp ++ [j]).map some).length := by simp
  rw [hw, lX hi]
  simp

theorem TL (hg : Good segs) : aN segs ≤ 1000000 := by
  rcases List.eq_nil_or_concat segs with rfl | ⟨pre, g, rfl⟩
  · simp [aN]
  · rw [List.concat_eq_append] at *
    rw [jf]
    exact hg.top g (by simp)

theorem Dz (h : LG σ l d most js segs safe) (hg : Good segs) (hl : segs.length ≤ 1000000) : f55 (some l) σ = some ((aN segs : Nat) : Int) := by
  rcases List.eq_nil_or_concat segs with rfl | ⟨pre, g, rfl⟩
  · have : js = [] := by
      have := cu.len h.lie
      exact List.eq_nil_of_length_eq_zero (by simpa using this)
    subst this
    unfold f55
    simp [h.lo, aN]
  · rw [List.concat_eq_append] at *
    obtain ⟨jp, j, e, h1, h2⟩ := h.split
    have e97 := L9 h (by simp at hl; omega) e
    have ht := hg.top g (by simp)
    unfold sgN at ht
    unfold f55
    simp only [h.lo, e97, Option.isNone_some, Bool.false_eq_true, if_false, Option.bind_eq_bind, Option.bind_some]
    rw [if_neg (by rw [e]; simp; omega), h2]
    simp only [Option.bind_some]
    rw [jf, aQ (by omega) (by omega)]
    unfold sgN
    congr 1

theorem QL (h : LG σ l d most js segs safe) {j : Nat} {g : Int} {x : aA dP} (hj : σ.ae[j]? = some x) {n : Nat} (hx : x.1 = (n : Int)) (hn : n ≤ 1099511627776) : f98 (some l) (some j) σ = some (bH n) := by
  have hl := IP hn
  unfold f98
  simp only [h.lo, hj, hx, abR n (by omega), Option.bind_eq_bind, Option.bind_some]
  rw [if_pos (by decide), if_pos (by simp; omega)]
  rfl

theorem QM (h : LG σ l d most js segs safe) {j : Nat} {g : Sg} (hj : Lie σ j g) (hn : g.1 ≤ 1099511627776) : f98 (some l) (some j) σ = some (bH g.1) :=
  QL (g := 0) h hj rfl hn

noncomputable def DC (segs : List Sg) : Nat := match segs with
  | [] => 0
  | g :: _ => g.1

theorem ZA (h : LG σ l d most js segs safe) : f54 (some l) σ = some ((DC segs : Nat) : Int) := by
  obtain ⟨lo, nd, lie⟩ := h
  cases segs with
  | nil =>
    cases js with
    | nil => unfold f54; simp [lo, DC]
    | cons _ _ => exact lie.elim
  | cons g r =>
    cases js with
    | nil => exact lie.elim
    | cons j jr =>
      obtain ⟨h1, h2⟩ := lie
      unfold f54
      simp only [lo, Option.isNone_some, Bool.false_eq_true, if_false, Option.bind_eq_bind, Option.bind_some]
      have hx : ix ((j :: jr).map some) 0 = some (some j) := by
        have := lX (l := (j :: jr).map some) (n := 0) (by simp)
        simpa using this
      rw [if_neg (by simp; omega), hx]
      simp only [Option.bind_some, h1]
      rfl

theorem U7 (h : LG σ l d most js segs safe) : f60 (some l) σ = some (safe : Int) := by
  unfold f60
  simp [h.lo]
end

noncomputable def lgF (g : Sg) (s : Nat) : FR := (bH g.1, gI g.1 (g.2.take s), gI (g.1 + s) (g.2.drop s), ())
noncomputable def lgA (g : Sg) : FR := (bH g.1, sgB g, [], ())

theorem Q7 (g : Sg) : lgF g g.2.length = lgA g := by simp [lgF, lgA, sgB, gI]

theorem Pq (g : Sg) {s : Nat} (hs : s ≤ g.2.length) : (lgF g s).2.1 ++ (lgF g s).2.2.1 = sgB g := by
  unfold lgF sgB
  simp only []
  have h1 : (g.2.take s).length = s := by rw [List.length_take]; omega
  have h2 := Be g.1 (g.2.take s) (g.2.drop s)
  rw [h1, List.take_append_drop] at h2
  exact h2.symm

inductive DLs (L : List FR) : List Sg → Nat → Prop
  | none : L = [] → DLs L [] 0
  | some {pre : List Sg} {g : Sg} {s : Nat} : L.Perm (pre.map lgA ++ [lgF g s]) → s ≤ g.2.length → DLs L (pre ++ [g]) s

theorem DLs.inv {L : List FR} {pre : List Sg} {g : Sg} {s : Nat} (h : DLs L (pre ++ [g]) s) : L.Perm (pre.map lgA ++ [lgF g s]) ∧ s ≤ g.2.length := by
  generalize hs : pre ++ [g] = segs at h
  cases h with
  | none _ => simp at hs
  | some h1 h2 =>
    obtain ⟨rfl, e⟩ := List.append_inj' hs rfl
    simp only [List.cons.injEq, and_true] at e
    subst e
    exact ⟨h1, h2⟩

theorem DLs.inv0 {L : List FR} {s : Nat} (h : DLs L [] s) : L = [] ∧ s = 0 := by
  generalize hs : ([] : List Sg) = segs at h
  cases h with
  | none h => exact ⟨h, rfl⟩
  | some _ _ => simp at hs

noncomputable def Ya (x : List UInt8) : Option Int := if 5 < x.length ∧ x.take 5 = [99, 109, 100, 115, 46] then (f140 (x.drop 5)) >>= fun v => if 0 ≤ v then some v else none else none

theorem Pz {n : Nat} (hn : n ≤ 1099511627776) : Ya (bH n) = some (n : Int) := by
  unfold Ya
  have hp := QE n
  have e1 : (bH n).drop 5 = dig n := rfl
  have e2 : (bH n).take 5 = [99, 109, 100, 115, 46] := rfl
  have e3 : (bH n).length = (dig n).length + 5 := rfl
  rw [if_pos ⟨by omega, e2⟩, e1, Tc hn]
  simp only [Option.bind_eq_bind, Option.bind_some]
  rw [if_pos (by omega)]

section
variable {σ : St} {l d n0 : Nat} {A : AD}

theorem OZ {o : aA dh} (h : σ.aj[l]? = some o) (hnm : o.2.1 = nmL) (names : List (List UInt8)) (hN : ∀ x ∈ names, ∃ n : Nat, n ≤ 1099511627776 ∧ x = bH n) (hl : names.length ≤ 128) : ∀ (m i : Nat) (acc : List Int), i + m = names.length → acc.length ≤ i →
    dF (some l) σ names acc (i : Int) = some (acc ++ (names.drop i).filterMap Ya, (names.length : Int))
  | 0, i, acc, hi, ha => by
    rw [dF]
    have : i = names.length := by omega
    subst this
    simp
  | m + 1, i, acc, hi, ha => by
    rw [dF]
    have hn : i < names.length := by omega
    have hw : IntKind.wrap .i64 ((i : Int) + 1) = ((i + 1 : Nat) : Int) := by rw [aQ (by omega) (by omega)]; omega
    have hd : names.drop i = names[i] :: names.drop (i + 1) := by simp
    have h1 : ((i : Int) < (names.length : Int)) := by omega
    obtain ⟨n, hn1, hn2⟩ := hN names[i] (List.getElem_mem hn)
    have e4 : IntKind.wrap .i64 (((nmL.length : Nat) : Int) + 1) = 5 := by decide
    have t4 : Int.toNat 5 = 5 := rfl
    have hlen := EG hn1
    have hp := QE n
    have e1 : (bH n).drop 5 = dig n := rfl
    have e2 : (bH n).take 5 = [99, 109, 100, 115, 46] := rfl
    have e3 : (bH n).length = (dig n).length + 5 := rfl
    simp only [h1, decide_true, if_true, lX hn, Option.bind_eq_bind, Option.bind_some, h, hnm, e4, hw, hn2]
    rw [if_pos (by simp; omega), if_pos (by omega)]
    simp only [t4]
    rw [if_pos (by decide), e2]
    have e5 : nmL ++ [46] = ([99, 109, 100, 115, 46] : List UInt8) := rfl
    rw [e5, if_pos (by simp), if_pos (by omega), e1, Dv, Tc hn1]
    simp only [Option.bind_some]
    rw [if_pos (by simp), if_pos (by omega), OZ h hnm names hN hl m (i + 1) (acc ++ [(n : Int)]) (by omega) (by simp; omega), hd, List.filterMap_cons, hn2, Pz hn1]
    simp

theorem Uj {l l' : List Int} (h : l.Perm l') (hs : l'.Pairwise (· < ·)) : uY l = l' := by
  unfold uY
  have hp := (List.mergeSort_perm l (fun x y => decide (x ≤ y))).trans h
  refine hp.eq_of_pairwise (le := fun x y => x ≤ y) ?_ ?_ ?_
  · intro a b _ _ h1 h2; omega
  · have := List.pairwise_mergeSort (le := fun x y : Int => decide (x ≤ y)) (fun a b c h1 h2 => by simp only [decide_eq_true_eq] at *; omega) (fun a b => by simp only [Bool.or_eq_true, decide_eq_true_eq]; omega) l
    exact this.imp (fun h => by simpa using h)
  · exact hs.imp (fun h => by omega)

noncomputable def sO (segs : List Sg) : List Int := segs.map (fun g => (g.1 : Int))

theorem Wy {o : aA dh} (h : σ.aj[l]? = some o) (hnm : o.2.1 = nmL) (ho : o.1 = some d) (hD : DV σ d n0 A) (hA : OkA A) {segs : List Sg} (hN : (A.2.1.map (·.1)).Perm (segs.map (fun g => bH g.1))) (hg : Good segs) : jd (some l) σ = some (sO segs) := by
  obtain ⟨od, qs, hq⟩ := hD
  have hf := hA.files
  unfold jd
  simp only [h, ho, Zx hq hA, Option.bind_eq_bind, Option.bind_some]
  have htop : ∀ g ∈ segs, g.1 ≤ 1099511627776 := fun g hg2 => by have := hg.top g hg2; unfold sgN at this; omega
  have hNn : ∀ x ∈ A.2.1.map (·.1), ∃ n : Nat, n ≤ 1099511627776 ∧ x = bH n := by
    intro x hx
    obtain ⟨g, hg2, rfl⟩ := List.mem_map.1 (hN.mem_iff.1 hx)
    exact ⟨g.1, htop g hg2, rfl⟩
  have e := OZ h hnm (A.2.1.map (·.1)) hNn (by simpa using hf) (A.2.1.map (·.1)).length 0 [] (by omega) (by simp)
  rw [show (((0 : Nat) : Int)) = (0 : Int) from rfl] at e
  rw [e]
  simp only [Option.bind_some, List.nil_append, List.drop_zero]
  have hlen : ((A.2.1.map (·.1)).filterMap Ya).length ≤ 128 := by
    refine Nat.le_trans (List.length_filterMap_le _ _) ?_
    simpa using hf
  rw [if_pos (by omega)]
  congr 1
  refine Uj ?_ ?_
  · refine (hN.filterMap Ya).trans ?_
    have : ∀ r : List Sg, (∀ g ∈ r, g ∈ segs) → (r.map (fun g => bH g.1)).filterMap Ya = sO r := by
      intro r
      induction r with
      | nil => intro _; rfl
      | cons g r ih =>
        intro hr
        rw [List.map_cons, List.filterMap_cons, Pz (htop g (hr g List.mem_cons_self)), ih (fun x hx => hr x (List.mem_cons_of_mem _ hx))]
        rfl
    rw [this segs (fun g hg => hg)]
  · unfold sO
    rw [List.pairwise_map]
    exact hg.chain.rise.imp (fun h => by omega)
end
end Go.Proofs.YtbnmhjobnepajaaGreat.M


namespace Go.Proofs.YtbnmhjobnepajaaGreat.M

theorem U0 {s : List UInt8} {L : List FR} (h : ∀ f ∈ L, f.1 ≠ s) : kQ s L = L := by
  rw [oC, List.filter_eq_self]
  intro f hf; simpa using h f hf

theorem QF (s : List UInt8) (L L' : List FR) : kQ s (L ++ L') = kQ s L ++ kQ s L' := by
  rw [oC, oC, oC, List.filter_append]

theorem XK {s : List UInt8} {L : List FR} (h : ∀ f ∈ L, f.1 = s) : kQ s L = [] := by
  rw [oC, List.filter_eq_nil_iff]
  intro f hf; simpa using h f hf

theorem zH {A : AD} (hA : OkA A) (hd : A.2.2.2.1 = false) (k : AD → AD) : ∃ B : AD, B.1 = A.1 ∧ B.2.1 = A.2.1 ∧ OkA B ∧ (A.2.2.1 = 0 → B.2.2.1 = 0) ∧
    ((B.2.2.2.1 = false ∧ xu A k = (0, k B)) ∨ (B.2.2.2.1 = true ∧ A.2.2.1 ≠ 0 ∧ xu A k = (11, B))) := by
  refine ⟨(wI A).2, (WG A).2, (WG A).1, hA.goes, ?_, ?_⟩
  · intro h
    unfold wI
    rw [if_pos h]; exact h
  · unfold xu wI
    by_cases h : A.2.2.1 = 0
    · rw [if_pos h]
      exact .inl ⟨hd, by simp⟩
    · rw [if_neg h]
      by_cases h1 : A.2.2.1 = 1
      · exact .inr ⟨by simp [h1], h, by simp [h1]⟩
      · have e : ((A.2.2.1 == 1) : Bool) = false := by simpa using h1
        exact .inl ⟨by simp [e], by simp [e]⟩

abbrev lI (A : AD) : Bool := A.2.2.2.1
abbrev oW (A : AD) : Int := A.2.2.1

end Go.Proofs.YtbnmhjobnepajaaGreat.M


namespace Go.Proofs.YtbnmhjobnepajaaGreat.M

structure Fw (σ σ' : St) (d n0 : Nat) : Prop where
  up : σ'.up = σ.up
  af : ∀ i, i ≠ d → i < σ.af.length → σ'.af[i]? = σ.af[i]?
  l105 : σ.af.length ≤ σ'.af.length
  ai : ∀ j, j < n0 → σ'.ai[j]? = σ.ai[j]?
  l108 : σ.ai.length ≤ σ'.ai.length

structure ExW (σ σ' : St) (l : Nat) : Prop where
  aj : ∀ i, i ≠ l → i < σ.aj.length → σ'.aj[i]? = σ.aj[i]?
  l128 : σ.aj.length ≤ σ'.aj.length
  ae : ∀ j, j < σ.ae.length → σ'.ae[j]? = σ.ae[j]?
  l130 : σ.ae.length ≤ σ'.ae.length

section
variable {σ : St} {l d n0 : Nat} {most : Int} {js : List Nat} {segs : List Sg} {safe s : Nat} {A : AD}

theorem ExW.trans {σ σ' σ'' : St} (h1 : ExW σ σ' l) (h2 : ExW σ' σ'' l) : ExW σ σ'' l :=
  ⟨fun i hi hl => (h2.aj i hi (Nat.lt_of_lt_of_le hl h1.l128)).trans (h1.aj i hi hl), Nat.le_trans h1.l128 h2.l128, fun j hj => (h2.ae j (Nat.lt_of_lt_of_le hj h1.l130)).trans (h1.ae j hj), Nat.le_trans h1.l130 h2.l130⟩
theorem ExW.of {σ' : St} (h1 : σ'.aj = σ.aj) (h2 : σ'.ae = σ.ae) : ExW σ σ' l := ⟨fun _ _ _ => by rw [h1], by rw [h1]; exact Nat.le_refl _, fun _ _ => by rw [h2], by rw [h2]; exact Nat.le_refl _⟩
theorem FrD.ex {σ' : St} (h : FrD σ σ' d n0) : ExW σ σ' l := ExW.of (congrArg (fun x => x.2.1) h.oth) (congrArg (fun x => x.2.2) h.oth)
theorem ExW.set (x : aA dh) : ExW σ (σ.bg l x) l := by
  refine ⟨fun i hi hl => ?_, by simp [St.bg], fun _ _ => rfl, Nat.le_refl _⟩
  simp only [St.bg]
  rw [List.getElem?_set_ne (Ne.symm hi)]
theorem ExW.add (x : aA dP) : ExW σ (σ.az x) l := by
  refine ⟨fun i hi hl => rfl, Nat.le_refl _, fun j hj => ?_, by simp [St.az]⟩
  simp only [St.az]
  rw [List.getElem?_append_left hj]
theorem Fw.trans {σ σ' σ'' : St} (h1 : Fw σ σ' d n0) (h2 : Fw σ' σ'' d n0) : Fw σ σ'' d n0 :=
  ⟨h2.up.trans h1.up, fun i hi hl => (h2.af i hi (Nat.lt_of_lt_of_le hl h1.l105)).trans (h1.af i hi hl), Nat.le_trans h1.l105 h2.l105, fun j hj => (h2.ai j hj).trans (h1.ai j hj), Nat.le_trans h1.l108 h2.l108⟩
theorem FrD.fw {σ σ' : St} (h : FrD σ σ' d n0) : Fw σ σ' d n0 := ⟨h.up, h.af, h.l105, h.ai, h.l108⟩
theorem Fw.of {σ' : St} (h1 : σ'.up = σ.up) (h2 : σ'.af = σ.af) (h3 : σ'.ai = σ.ai) : Fw σ σ' d n0 :=
  ⟨h1, fun i _ _ => by rw [h2], by rw [h2]; exact Nat.le_refl _, fun i _ => by rw [h3], by rw [h3]; exact Nat.le_refl _⟩
theorem LG.put (h : LG σ l d most js segs safe) (n : Nat) : LG (σ.bg l (some d, nmL, most, js.map some, (n : Int), ())) l d most js segs n :=
  ⟨qO h.lo, h.nd, h.lie⟩

theorem LG.add (h : LG σ l d most js segs safe) (x : aA dP) : LG (σ.az x) l d most js segs safe := by
  refine ⟨h.lo, h.nd, h.lie.Vk (fun j hj g hg => ?_)⟩
  show (σ.ae ++ [x])[j]? = _
  rw [List.getElem?_append_left (h.lt j hj)]; exact hg

theorem LG.link (h : LG σ l d most js segs safe) {j : Nat} {g : Sg} (hj : Lie σ j g) (hn : j ∉ js) : LG (σ.bg l (some d, nmL, most, js.map some ++ [some j], (safe : Int), ())) l d most (js ++ [j]) (segs ++ [g]) safe := by
  refine ⟨?_, ?_, ?_⟩
  · rw [List.map_append]; exact qO h.lo
  · rw [List.nodup_append]
    refine ⟨h.nd, by simp, fun a ha b hb e => ?_⟩
    simp only [List.mem_cons, List.not_mem_nil, or_false] at hb
    rw [e, hb] at ha
    exact hn ha
  · exact cu.app h.lie (show cu _ [j] [g] from ⟨hj, trivial⟩)

theorem NQ {x y : aA dP} : (σ.az x).ay σ.ae.length y = σ.az y := by
  unfold St.ay St.az
  simp

noncomputable def kK (segs : List Sg) : Nat := match segs.getLast? with
  | none => 0
  | some g => g.2.length

theorem qy (pre : List Sg) (g : Sg) : kK (pre ++ [g]) = g.2.length := by simp [kK]

theorem Good.Xg (hg : Good segs) {g : Sg} (h : g ∈ segs) : g.1 ≤ 1099511627776 := by
  have := hg.top g h
  unfold sgN at this; omega

theorem QQ {pre : List Sg} {g : Sg} (h : Chn none (pre ++ [g])) : ∀ f ∈ pre.map lgA, f.1 ≠ bH g.1 := by
  intro f hf
  obtain ⟨a, ha, rfl⟩ := List.mem_map.1 hf
  have := (List.pairwise_append.1 h.rise).2.2 a ha g (by simp)
  intro e
  exact Nat.ne_of_lt this (O7 e)

theorem I9 {L : List FR} {pre : List Sg} {g : Sg} {f : FR} (hL : L.Perm (pre.map lgA ++ [f])) (hf : f.1 = bH g.1) (hs : ry L) : jX (bH g.1) L = some f :=
  GZ hs (hL.mem_iff.2 (by simp)) hf

theorem MX {L : List FR} {pre : List Sg} {g : Sg} {f f' : FR} (hL : L.Perm (pre.map lgA ++ [f])) (hf : f.1 = bH g.1) (hf' : f'.1 = bH g.1) (hc : Chn none (pre ++ [g])) : (nP f' false L).Perm (pre.map lgA ++ [f']) := by
  refine (oL f' L).trans ?_
  rw [hf']
  have h1 := zq (s := bH g.1) hL
  rw [QF, U0 (QQ hc), XK (L := [f]) (fun x hx => by simp only [List.mem_cons, List.not_mem_nil, or_false] at hx; rw [hx]; exact hf), List.append_nil] at h1
  exact (List.Perm.cons f' h1).trans (List.perm_append_comm (l₁ := [f']))

theorem U8 (h : LG σ l d most js segs safe) (hD : DV σ d n0 A) (hA : OkA A) (hg : Good segs) (hlen : segs.length ≤ 1000000) (hL : DLs A.2.1 segs s) (hd : lI A = false) :
    ∃ σ' B e, f61 (some l) σ = some (e, σ') ∧ Fw σ σ' d n0 ∧ ExW σ σ' l ∧ B.1 = A.1 ∧ (oW A = 0 → oW B = 0) ∧ DV σ' d n0 B ∧ OkA B ∧
      ((e = 0 ∧ lI B = false ∧ LG σ' l d most js segs (aN segs) ∧ DLs B.2.1 segs (kK segs)) ∨ (e = 11 ∧ lI B = true ∧ oW A ≠ 0 ∧ LG σ' l d most js segs safe ∧ DLs B.2.1 segs s)) := by
  rcases List.eq_nil_or_concat segs with rfl | ⟨pre, g, rfl⟩
  · obtain ⟨h1, h2⟩ := hL.inv0
    refine ⟨σ.bg l (some d, nmL, most, js.map some, ((aN [] : Nat) : Int), ()), A, 0, ?_, Fw.of rfl rfl rfl, ExW.set _, rfl, id, hD.same rfl rfl, hA, .inl ⟨rfl, hd, h.put _, ?_⟩⟩
    · unfold f61
      have hlo := h.lo
      simp only [Option.isNone_some, Bool.false_eq_true, if_false, Mc h, Dz h hg hlen, hlo, Option.bind_eq_bind, Option.bind_some]
      rw [if_neg (by simp)]
    · rw [h1]; exact .none rfl
  · rw [List.concat_eq_append] at *
    obtain ⟨hp, hs⟩ := hL.inv
    obtain ⟨jp, j, e, h1, h2⟩ := h.split
    have htop := hg.Xg (g := g) (by simp)
    obtain ⟨σ1, g1, g2, g3⟩ := ac4 hD hA (bH g.1)
    have hfd := I9 hp rfl hA.sorted
    have e0 : NV A (bH g.1) = xu A (fun B => qN B (nP (Eo (bH g.1) (lgF g s)) false B.2.1)) := by
      unfold NV PW
      rw [if_neg (by rw [show A.2.2.2.1 = false from hd]; decide), hfd]
    have hsf : Eo (bH g.1) (lgF g s) = lgF g g.2.length := by
      rw [Q7]
      unfold Eo lgA
      rw [Pq g hs]
    have hlo := h.lo
    have e1 : f61 (some l) σ = some (if (NV A (bH g.1)).1 = 0 then (0, σ1.bg l (some d, nmL, most, js.map some, ((aN (pre ++ [g]) : Nat) : Int), ())) else ((NV A (bH g.1)).1, σ1)) := by
      have h' := h.same g3.oth
      have hlo' := h'.lo
      unfold f61
      simp only [Option.isNone_some, Bool.false_eq_true, if_false, L9 h (by simp at hlen; omega) e, hlo, QM h h2 htop, g1, Option.bind_eq_bind, Option.bind_some, Bool.not_false, if_true]
      by_cases c : (NV A (bH g.1)).1 = 0
      · rw [if_neg (by simp [c]), if_pos c, Dz h' hg hlen]
        simp only [Option.bind_some, hlo']
      · rw [if_pos (by simpa using c), if_neg c]
    obtain ⟨B, b1, b2, b3, b4, ⟨b5, b6⟩ | ⟨b5, b6, b7⟩⟩ := zH hA hd (fun B => qN B (nP (Eo (bH g.1) (lgF g s)) false B.2.1))
    · rw [e0, b6] at g2 e1
      refine ⟨σ1.bg l (some d, nmL, most, js.map some, ((aN (pre ++ [g]) : Nat) : Int), ()), qN B (nP (Eo (bH g.1) (lgF g s)) false B.2.1), 0, by rw [e1]; rfl, g3.fw.trans (Fw.of rfl rfl rfl), g3.ex.trans (ExW.set _), b1, b4, g2.same rfl rfl, ?_, .inl ⟨rfl, b5, (h.same g3.oth).put _, ?_⟩⟩
      · refine b3.put (f := lgF g s) (s := bH g.1) (by rw [b2]; exact hfd) rfl ?_
        simp [iq, Eo]
      · show DLs (nP (Eo (bH g.1) (lgF g s)) false B.2.1) (pre ++ [g]) (kK (pre ++ [g]))
        rw [b2, hsf, qy]
        exact .some (MX hp rfl rfl hg.chain) (Nat.le_refl _)
    · rw [e0, b7] at g2 e1
      exact ⟨σ1, B, 11, by rw [e1]; rfl, g3.fw, g3.ex, b1, b4, g2, b3, .inr ⟨rfl, b5, b6, h.same g3.oth, by rw [b2]; exact .some hp hs⟩⟩

theorem abQ (h : LG σ l d most js segs safe) (hD : DV σ d n0 A) (hA : OkA A) {g : Sg} {t : List UInt8} (hr : readA A (bH g.1) = (sgB g ++ t, 0)) (ht : Gx (sgN g) t) (hx : ∀ x ∈ g.2, OkR x) (hn : sgN g ≤ 1000000) :
    f115 (some l) (g.1 : Int) σ = some ((some σ.ae.length, (t.length : Int), 0), σ.az ((g.1 : Int), g.2, ((sgB g).length : Int), ())) := by
  unfold sgN at hn ht
  have h1 := h.add ((g.1 : Int), [], 0, ())
  obtain ⟨o, qs, hq⟩ := hD
  have e28 := ac2 (hq.same (σ' := σ.az ((g.1 : Int), [], 0, ())) rfl rfl) hA (bH g.1)
  have e98 := QL (g := 0) h1 (j := σ.ae.length) oD (n := g.1) rfl (by omega)
  have hl := hA.each
  have hlen : (sgB g ++ t).length ≤ 65536 := by
    unfold readA at hr
    split at hr
    · simp at hr
    · split at hr
      · simp at hr
      · rename_i f hf
        simp only [Prod.mk.injEq, and_true] at hr
        have := hA.each f (sN hf).1
        unfold iq at this
        rw [← hr]; simp only [List.length_append]; omega
  have e49 := ac7 (s := sgB g ++ t) (f := g.1) (recs := g.2) (t := t) (by omega) rfl (by unfold OkN; omega) hx ht
  have hlo : (σ.az ((g.1 : Int), [], 0, ())).aj[l]? = some (some d, nmL, most, js.map some, (safe : Int), ()) := h1.lo
  unfold f115
  simp only [hlo, e98, e28, hr, Option.bind_eq_bind, Option.bind_some]
  rw [if_neg (by simp), e49]
  simp only [Option.bind_some]
  rw [NQ, NQ]
  have hw : IntKind.wrap .i64 (((sgB g ++ t).length : Int) - ((gI g.1 g.2).length : Int)) = (t.length : Int) := by
    have : (sgB g ++ t).length = (gI g.1 g.2).length + t.length := by rw [List.length_append]; rfl
    rw [this, aQ (by omega) (by omega)]; omega
  rw [hw]
  rfl

theorem Tm (done : List Sg) (r3 : List Int) (x7 x8 : Int) (h : LG σ l d most js done safe) (hD : DV σ d n0 A) (hA : OkA A) {g : Sg} {t : List UInt8} (hi : r3[done.length]? = some (g.1 : Int)) (h7 : done ≠ [] → x7 = 0 ∧ aN done = g.1) (hgd : Good done) (hdl : done.length ≤ 1000)
    (hr : readA A (bH g.1) = (sgB g ++ t, 0)) (ht : Gx (sgN g) t) (hx : ∀ x ∈ g.2, OkR x) (hn : sgN g ≤ 1000000) :
    ∃ σ', qY (some l) r3 x7 x8 ((done.length : Nat) : Int) σ = qY (some l) r3 (t.length : Int) (((done ++ [g]).length : Nat) : Int) (((done ++ [g]).length : Nat) : Int) σ' ∧ LG σ' l d most (js ++ [σ.ae.length]) (done ++ [g]) safe ∧ σ'.af = σ.af ∧ σ'.ai = σ.ai ∧ σ'.up = σ.up ∧ ExW σ σ' l := by
  have hlt := (List.getElem?_eq_some_iff.1 hi).1
  have hget := (List.getElem?_eq_some_iff.1 hi).2
  have e115 := abQ h hD hA hr ht hx hn
  have h1 := h.add ((g.1 : Int), g.2, ((sgB g).length : Int), ())
  have hnj : σ.ae.length ∉ js := fun hm => by have := h.lt _ hm; omega
  have h2 := h1.link (j := σ.ae.length) (g := g) oD hnj
  have hjl := cu.len h.lie
  have hlo : (σ.az ((g.1 : Int), g.2, ((sgB g).length : Int), ())).aj[l]? = some (some d, nmL, most, js.map some, (safe : Int), ()) := h1.lo
  have hw : IntKind.wrap .i64 ((done.length : Int) + 1) = (((done ++ [g]).length : Nat) : Int) := by rw [aQ (by omega) (by omega)]; simp
  refine ⟨_, ?_, h2, rfl, rfl, rfl, (ExW.add _).trans (ExW.set _)⟩
  conv => lhs; rw [qY]
  rw [if_pos (by simp; omega), lX hlt, hget]
  simp only [Option.bind_eq_bind, Option.bind_some]
  by_cases c : done = []
  · subst c
    rw [if_neg (by simp), e115]
    simp only [Option.bind_some]
    rw [if_neg (by simp)]
    simp only [Option.bind_some, hlo, hw]
    rw [if_pos (by rw [List.length_map]; omega)]
  · obtain ⟨h3, h4⟩ := h7 c
    subst h3
    have hpos : 0 < done.length := List.length_pos_iff.2 c
    rw [if_pos (by simp; omega), if_neg (by simp), Dz h hgd (by omega), h4]
    simp only [Option.bind_some]
    rw [if_neg (by simp), e115]
    simp only [Option.bind_some]
    rw [if_neg (by simp)]
    simp only [Option.bind_some, hlo, hw]
    rw [if_pos (by rw [List.length_map]; omega)]
end
end Go.Proofs.YtbnmhjobnepajaaGreat.M


namespace Go.Proofs.YtbnmhjobnepajaaGreat.M

theorem Chn.aaC : ∀ {a b : List Sg} {e : Option Nat}, Chn e (a ++ b) → Chn e a
  | [], _, _, _ => trivial
  | g :: a, b, e, h => by
    obtain ⟨h1, h2, h3⟩ := h
    refine ⟨h1, fun hn => h2 (fun he => hn ?_), Chn.aaC h3⟩
    exact (List.append_eq_nil_iff.1 he).1

theorem Chn.next : ∀ {pre : List Sg} {b a : Sg} {r : List Sg} {e : Option Nat}, Chn e (pre ++ [b] ++ a :: r) → sgN b = a.1
  | [], b, a, r, e, h => by
    obtain ⟨h1, h2, h3⟩ := h
    exact (h3.1 _ rfl).symm
  | c :: pre, b, a, r, e, h => Chn.next (pre := pre) h.2.2

theorem Good.aaC {a b : List Sg} (h : Good (a ++ b)) : Good a :=
  ⟨h.chain.aaC, fun g hg => h.recs g (List.mem_append.2 (.inl hg)), fun g hg => h.top g (List.mem_append.2 (.inl hg))⟩

noncomputable def ve (g : Sg) (t : List UInt8) : FR := (bH g.1, sgB g ++ t, [], ())

section
variable {σ : St} {l d n0 : Nat} {most : Int} {js : List Nat} {segs : List Sg} {safe s : Nat} {A : AD}

theorem O5 {g : Sg} {t : List UInt8} (ht : Gx (sgN g) t) (hA : OkA A) : ∀ (mid done : List Sg) (js : List Nat) (σ : St) (x7 x8 : Int), LG σ l d most js done safe → DV σ d n0 A → (done ≠ [] → x7 = 0) → Good (done ++ (mid ++ [g])) → (done ++ (mid ++ [g])).length ≤ 1000 →
    (∀ a ∈ mid, readA A (bH a.1) = (sgB a, 0)) → readA A (bH g.1) = (sgB g ++ t, 0) →
    ∃ σ' js', qY (some l) (sO (done ++ (mid ++ [g]))) x7 x8 ((done.length : Nat) : Int) σ = some (.inl ((t.length : Int), (((done ++ (mid ++ [g])).length : Nat) : Int), (((done ++ (mid ++ [g])).length : Nat) : Int), σ')) ∧ LG σ' l d most js' (done ++ (mid ++ [g])) safe ∧ σ'.af = σ.af ∧ σ'.ai = σ.ai ∧ σ'.up = σ.up ∧ ExW σ σ' l
  | [], done, js, σ, x7, x8, h, hD, h7, hg, hlen, hm, hr => by
    rw [List.nil_append] at *
    have hgm : g ∈ done ++ [g] := by simp
    obtain ⟨σ', e, h1, h2, h3, h4, h5⟩ := Tm (t := t) done (sO (done ++ [g])) x7 x8 h hD hA (g := g) (by simp [sO]) (fun hn => ⟨h7 hn, by
      rcases List.eq_nil_or_concat done with rfl | ⟨pre, b, rfl⟩
      · exact absurd rfl hn
      · rw [List.concat_eq_append] at *
        rw [jf]; exact hg.chain.next⟩) hg.aaC (by simp at hlen; omega) hr ht (hg.recs g hgm) (hg.top g hgm)
    refine ⟨σ', _, ?_, h1, h2, h3, h4, h5⟩
    rw [e, qY]
    rw [if_neg (by simp [sO])]
  | a :: mid, done, js, σ, x7, x8, h, hD, h7, hg, hlen, hm, hr => by
    have ham : a ∈ done ++ (a :: mid ++ [g]) := by simp
    have hgood : Good done := hg.aaC
    have hr1 : readA A (bH a.1) = (sgB a ++ [], 0) := by rw [List.append_nil]; exact hm a List.mem_cons_self
    obtain ⟨σ1, e, h1, h2, h3, h4, h5⟩ := Tm (t := []) done (sO (done ++ (a :: mid ++ [g]))) x7 x8 h hD hA (g := a) (by simp [sO]) (fun hn => ⟨h7 hn, by
      rcases List.eq_nil_or_concat done with rfl | ⟨pre, b, rfl⟩
      · exact absurd rfl hn
      · rw [List.concat_eq_append] at *
        rw [jf]; exact hg.chain.next⟩) hgood (by simp at hlen; omega) hr1 (Gx.nil _) (hg.recs a ham) (hg.top a ham)
    have ea : done ++ (a :: mid ++ [g]) = (done ++ [a]) ++ (mid ++ [g]) := by simp
    rw [ea] at e hg hlen ⊢
    obtain ⟨σ', js', i1, i2, i3, i4, i5, i6⟩ := O5 ht hA mid (done ++ [a]) _ σ1 0 (((done ++ [a]).length : Nat) : Int) h1 (hD.same h2 h3) (fun _ => rfl) hg hlen (fun x hx => hm x (List.mem_cons_of_mem _ hx)) hr
    refine ⟨σ', js', ?_, i2, i3.trans h2, i4.trans h3, i5.trans h4, h5.trans i6⟩
    rw [e]; exact i1

theorem L8 {p0 : Option Nat} {r3 : List Int} {z : Int × Int × Int × St} {o : aA dh} {x : Int} (h : x < z.2.1) : Bv p0 r3 z o x σ = some (.inl (x, σ)) := by
  rw [Bv]
  rw [if_neg (by simp; omega)]

theorem VJ {L : List FR} {pre : List Sg} {g : Sg} {t : List UInt8} (hp : A.2.1.Perm (pre.map lgA ++ [ve g t])) (hA : OkA A) (hd : lI A = false) :
    (∀ a ∈ pre, readA A (bH a.1) = (sgB a, 0)) ∧ readA A (bH g.1) = (sgB g ++ t, 0) := by
  have hdd : A.2.2.2.1 = false := hd
  refine ⟨fun a ha => ?_, ?_⟩
  · have hf : jX (bH a.1) A.2.1 = some (lgA a) := GZ hA.sorted (hp.mem_iff.2 (List.mem_append.2 (.inl (List.mem_map.2 ⟨a, ha, rfl⟩)))) rfl
    unfold readA
    rw [if_neg (by rw [hdd]; decide), hf]
    simp [lgA]
  · have hf : jX (bH g.1) A.2.1 = some (ve g t) := GZ hA.sorted (hp.mem_iff.2 (by simp)) rfl
    unfold readA
    rw [if_neg (by rw [hdd]; decide), hf]
    simp [ve]

theorem adh {pre : List Sg} {g : Sg} {t : List UInt8} (h : LG σ l d most [] [] 0) (hD : DV σ d n0 A) (hA : OkA A) (hd : lI A = false) (h0 : oW A = 0) (hg : Good (pre ++ [g])) (hlen : (pre ++ [g]).length ≤ 1000) (ht : Gx (sgN g) t) (hp : A.2.1.Perm (pre.map lgA ++ [ve g t])) :
    ∃ σ' B js', f96 (some l) σ = some (0, σ') ∧ Fw σ σ' d n0 ∧ ExW σ σ' l ∧ B.1 = A.1 ∧ oW B = 0 ∧ lI B = false ∧ DV σ' d n0 B ∧ OkA B ∧ LG σ' l d most js' (pre ++ [g]) (aN (pre ++ [g])) ∧ DLs B.2.1 (pre ++ [g]) (kK (pre ++ [g])) := by
  have hlo := h.lo
  obtain ⟨r1, r2⟩ := VJ (L := []) hp hA hd
  have e114 := Wy (o := (some d, nmL, most, ([] : List Nat).map some, (((0 : Nat) : Nat) : Int), ())) hlo rfl rfl hD hA (segs := pre ++ [g]) (by
    refine (hp.map _).trans ?_
    rw [List.map_append, List.map_append, List.map_map]
    exact List.Perm.refl _) hg
  obtain ⟨σ1, js1, i1, i2, i3, i4, i5, i6⟩ := O5 ht hA pre [] [] σ 0 0 h hD (by simp) hg hlen r1 r2
  rw [List.nil_append] at i1 i2
  have i1' : qY (some l) (sO (pre ++ [g])) 0 0 0 σ = some (.inl ((t.length : Int), (((pre ++ [g]).length : Nat) : Int), (((pre ++ [g]).length : Nat) : Int), σ1)) := i1
  have hlo1 := i2.lo
  have hD1 : DV σ1 d n0 A := hD.same i3 i4
  have hfw1 : Fw σ σ1 d n0 := Fw.of i5 i3 i4
  obtain ⟨jp, j, ej, l1, l2⟩ := i2.split
  have htop := hg.Xg (g := g) (by simp)
  have hlB := hg.adY (g := g) (by simp)
  have hl1 : IntKind.wrap .i64 (((sO (pre ++ [g])).length : Int) - 1) = ((pre.length : Nat) : Int) := by
    simp only [sO, List.length_map, List.length_append, List.length_cons, List.length_nil] at hlen ⊢
    rw [aQ (by omega) (by omega)]; omega
  have hw1 : IntKind.wrap .i64 ((((pre ++ [g]).length : Nat) : Int) - 1) = ((pre.length : Nat) : Int) := by
    simp only [List.length_append, List.length_cons, List.length_nil] at hlen ⊢
    rw [aQ (by omega) (by omega)]; omega
  have hjl : jp.length = pre.length := cu.len l1
  have hix : ix (js1.map some) ((pre.length : Nat) : Int) = some (some j) := by
    rw [ej, ← hjl]
    have hi : jp.length < ((jp ++ [j]).map some).length := by simp
    rw [lX hi]; simp
  have common : f96 (some l) σ = (if (decide ((t.length : Int) > 0)) = true then
      f98 (some l) (some j) σ1 >>= fun r79 => (σ1.ae[j]?) >>= fun o81 => f35 (some d) r79 o81.2.2.1 σ1 >>= fun r82 => if (r82.1 != 0) = true then some (r82.1, r82.2) else f61 (some l) r82.2 >>= fun r86 => some (r86.1, r86.2)
    else f61 (some l) σ1 >>= fun r88 => some (r88.1, r88.2)) := by
    unfold f96
    rw [e114]
    simp only [Option.bind_eq_bind, Option.bind_some]
    rw [i1']
    simp only [Option.bind_some, hlo1]
    rw [hl1, L8 (by simp; omega)]
    simp only [Option.bind_some, hlo1]
    rw [if_neg (by simp; omega), hw1, hix]
    rfl
  -- torn or not: the files are whole then
  have fin : ∀ (σ2 : St) (A2 : AD), LG σ2 l d most js1 (pre ++ [g]) 0 → DV σ2 d n0 A2 → OkA A2 → lI A2 = false → oW A2 = 0 → A2.2.1.Perm (pre.map lgA ++ [lgA g]) → A2.1 = A.1 → Fw σ σ2 d n0 → ExW σ σ2 l →
      ∃ σ' B, f61 (some l) σ2 = some (0, σ') ∧ Fw σ σ' d n0 ∧ ExW σ σ' l ∧ B.1 = A.1 ∧ oW B = 0 ∧ lI B = false ∧ DV σ' d n0 B ∧ OkA B ∧ LG σ' l d most js1 (pre ++ [g]) (aN (pre ++ [g])) ∧ DLs B.2.1 (pre ++ [g]) (kK (pre ++ [g])) := by
    intro σ2 A2 k1 k2 k3 k4 k5 k6 k7 k8 k9
    have hdl : DLs A2.2.1 (pre ++ [g]) g.2.length := .some (by rw [Q7]; exact k6) (Nat.le_refl _)
    obtain ⟨σ', B, e, f1, f2, f2x, f3, f4, f5, f6, ⟨rfl, f7, f8, f9⟩ | ⟨_, _, f7, _⟩⟩ := U8 k1 k2 k3 hg (by omega) hdl k4
    · exact ⟨σ', B, f1, k8.trans f2, k9.trans f2x, f3.trans k7, f4 k5, f7, f5, f6, f8, f9⟩
    · exact absurd k5 f7
  by_cases c : t = []
  · subst c
    obtain ⟨σ', B, f1, f2⟩ := fin σ1 A i2 hD1 hA hd h0 (by
      have : ve g [] = lgA g := by simp [ve, lgA]
      rw [← this]; exact hp) rfl hfw1 i6
    refine ⟨σ', B, js1, ?_, f2⟩
    rw [common, if_neg (by simp), f1]
    rfl
  · have hpos : 0 < t.length := List.length_pos_iff.2 c
    obtain ⟨σ2, g1, g2, g3⟩ := ac6 hD1 hA (bH g.1) ((sgB g).length : Int)
    have hfd := I9 hp rfl hA.sorted
    have e0 : Ry A (bH g.1) ((sgB g).length : Int) = xu A (fun B => qN B (nP (IM (bH g.1) (ve g t) (sgB g).length) false B.2.1)) := by
      unfold Ry PW
      rw [if_neg (by rw [show A.2.2.2.1 = false from hd]; decide), hfd]
      simp only []
      have hsz : iq (ve g t) = (sgB g).length + t.length := by simp [iq, ve]
      rw [if_neg (by rw [hsz]; omega)]
      have : Int.toNat ((sgB g).length : Int) = (sgB g).length := by omega
      rw [this]
    have hcut : IM (bH g.1) (ve g t) (sgB g).length = lgA g := by
      unfold IM ve lgA
      rw [if_pos (by simp)]
      simp
    obtain ⟨B, b1, b2, b3, b4, ⟨b5, b6⟩ | ⟨b5, b6, b7⟩⟩ := zH hA hd (fun B => qN B (nP (IM (bH g.1) (ve g t) (sgB g).length) false B.2.1))
    case inr => exact absurd h0 b6
    rw [e0, b6] at g1 g2
    have hok : OkA (qN B (nP (IM (bH g.1) (ve g t) (sgB g).length) false B.2.1)) := by
      refine b3.put (f := ve g t) (s := bH g.1) (by rw [b2]; exact hfd) (by rw [hcut]; rfl) ?_
      rw [hcut]; simp [iq, lgA, ve]
    obtain ⟨σ', B2, f1, f2⟩ := fin σ2 _ (i2.same g3.oth) g2 hok b5 (b4 h0) (by
      show (nP (IM (bH g.1) (ve g t) (sgB g).length) false B.2.1).Perm _
      rw [b2, hcut]
      exact MX hp rfl rfl hg.chain) b1 (hfw1.trans g3.fw) (i6.trans g3.ex)
    refine ⟨σ', B2, js1, ?_, f2⟩
    rw [common, if_pos (by simpa using hpos), QM i2 l2 htop]
    simp only [Option.bind_eq_bind, Option.bind_some, l2]
    rw [g1]
    simp only [Option.bind_some]
    rw [if_neg (by simp), f1]
    rfl

theorem ZJ (h : LG σ l d most [] [] 0) (hD : DV σ d n0 A) (hA : OkA A) (hL : A.2.1 = []) : f96 (some l) σ = some (0, σ) := by
  have hlo := h.lo
  have e114 := Wy (o := (some d, nmL, most, ([] : List Nat).map some, (((0 : Nat) : Nat) : Int), ())) hlo rfl rfl hD hA (segs := []) (by rw [hL]; exact List.Perm.refl _) ⟨trivial, by simp, by simp⟩
  unfold f96
  rw [e114]
  simp only [Option.bind_eq_bind, Option.bind_some]
  have e1 : qY (some l) (sO []) 0 0 0 σ = some (.inl (0, 0, 0, σ)) := by
    rw [qY]
    rw [if_neg (by simp [sO])]
  rw [e1]
  simp only [Option.bind_some, hlo]
  rw [L8 (by simp [sO]; decide)]
  simp

theorem Zz (hD : DV σ d n0 A) (hd : lI A = false) (h1 : 64 ≤ most) (h2 : most ≤ 65536) : f53 (some d) nmL most σ = f96 (some σ.aj.length) (σ.gW (some d, nmL, most, [], 0, ())) >>= fun r15 => if (r15.1 != 0) = true then some ((none, r15.1), r15.2) else some ((some σ.aj.length, 0), r15.2) := by
  obtain ⟨o, qs, hq⟩ := hD
  unfold f53
  simp only [Option.isNone_some, Bool.false_eq_true, if_false, abT, ac3 hq, show A.2.2.2.1 = false from hd, Option.bind_eq_bind, Option.bind_some]
  rw [if_neg (by simp; omega)]

theorem LG.new (σ : St) (d : Nat) (most : Int) : LG (σ.gW (some d, nmL, most, [], 0, ())) σ.aj.length d most [] [] 0 :=
  ⟨TA, List.nodup_nil, trivial⟩

theorem ExW.gW (x : aA dh) : ExW σ (σ.gW x) σ.aj.length := by
  refine ⟨fun i hi hl => ?_, by simp [St.gW], fun _ _ => rfl, Nat.le_refl _⟩
  simp only [St.gW]
  rw [List.getElem?_append_left hl]

theorem PD (hD : DV σ d n0 A) (hA : OkA A) (hd : lI A = false) (hL : A.2.1 = []) (h1 : 64 ≤ most) (h2 : most ≤ 65536) :
    ∃ σ', f53 (some d) nmL most σ = some ((some σ.aj.length, 0), σ') ∧ Fw σ σ' d n0 ∧ ExW σ σ' σ.aj.length ∧ DV σ' d n0 A ∧ LG σ' σ.aj.length d most [] [] 0 := by
  refine ⟨σ.gW (some d, nmL, most, [], 0, ()), ?_, Fw.of rfl rfl rfl, ExW.gW _, hD.same rfl rfl, LG.new σ d most⟩
  rw [Zz hD hd h1 h2, ZJ (LG.new σ d most) (hD.same rfl rfl) hA hL]
  rfl

theorem Yb {pre : List Sg} {g : Sg} {t : List UInt8} (hD : DV σ d n0 A) (hA : OkA A) (hd : lI A = false) (h0 : oW A = 0) (hg : Good (pre ++ [g])) (hlen : (pre ++ [g]).length ≤ 1000) (ht : Gx (sgN g) t) (hp : A.2.1.Perm (pre.map lgA ++ [ve g t])) (h1 : 64 ≤ most) (h2 : most ≤ 65536) :
    ∃ σ' B js', f53 (some d) nmL most σ = some ((some σ.aj.length, 0), σ') ∧ Fw σ σ' d n0 ∧ ExW σ σ' σ.aj.length ∧ B.1 = A.1 ∧ oW B = 0 ∧ lI B = false ∧ DV σ' d n0 B ∧ OkA B ∧ LG σ' σ.aj.length d most js' (pre ++ [g]) (aN (pre ++ [g])) ∧ DLs B.2.1 (pre ++ [g]) (kK (pre ++ [g])) := by
  obtain ⟨σ', B, js', e, f1, f1x, f2⟩ := adh (LG.new σ d most) (hD.same rfl rfl) hA hd h0 hg hlen ht hp
  refine ⟨σ', B, js', ?_, (Fw.of rfl rfl rfl : Fw σ (σ.gW (some d, nmL, most, [], 0, ())) d n0).trans f1, (ExW.gW _).trans f1x, f2⟩
  rw [Zz hD hd h1 h2, e]
  rfl
end
end Go.Proofs.YtbnmhjobnepajaaGreat.M


namespace Go.Proofs.YtbnmhjobnepajaaGreat.M

noncomputable def Jm (segs : List Sg) (s : Nat) : Nat := match segs.getLast? with
  | none => 0
  | some g => g.1 + s
theorem oq (pre : List Sg) (g : Sg) (s : Nat) : Jm (pre ++ [g]) s = g.1 + s := by simp [Jm]
theorem BP (segs : List Sg) : Jm segs (kK segs) = aN segs := by
  rcases List.eq_nil_or_concat segs with rfl | ⟨pre, g, rfl⟩
  · rfl
  · rw [List.concat_eq_append, oq, qy, jf]; rfl

inductive More : List Sg → List UInt8 → List Sg → Prop
  | fresh {segs : List Sg} {x : List UInt8} : (segs = [] ∨ 0 < kK segs) → More segs x (segs ++ [(aN segs, [x])])
  | same {pre : List Sg} {g : Sg} {x : List UInt8} : More (pre ++ [g]) x (pre ++ [(g.1, g.2 ++ [x])])

theorem More.next {segs segs' : List Sg} {x : List UInt8} (h : More segs x segs') : aN segs' = aN segs + 1 := by
  cases h with
  | fresh h => rw [jf]; rfl
  | same => rw [jf, jf]; unfold sgN; simp only [List.length_append, List.length_cons, List.length_nil]; omega

theorem More.len {segs segs' : List Sg} {x : List UInt8} (h : More segs x segs') : segs'.length ≤ segs.length + 1 ∧ segs' ≠ [] := by
  cases h with
  | fresh h => simp
  | same => simp

theorem More.good {segs segs' : List Sg} {x : List UInt8} (h : More segs x segs') (hg : Good segs) (hx : OkR x) (hn : aN segs + 1 ≤ 1000000) : Good segs' := by
  cases h with
  | @fresh segs x h =>
    refine ⟨?_, ?_, ?_⟩
    · rcases List.eq_nil_or_concat segs with rfl | ⟨pre, g, rfl⟩
      · exact ⟨by simp, by simp, trivial⟩
      · rw [List.concat_eq_append] at *
        refine hg.chain.snoc (by rw [jf]) ?_
        rcases h with h | h
        · simp at h
        · rwa [qy] at h
    · intro a ha
      rcases List.mem_append.1 ha with ha | ha
      · exact hg.recs a ha
      · simp only [List.mem_cons, List.not_mem_nil, or_false] at ha
        subst ha
        intro y hy
        simp only [List.mem_cons, List.not_mem_nil, or_false] at hy
        rw [hy]; exact hx
    · intro a ha
      rcases List.mem_append.1 ha with ha | ha
      · exact hg.top a ha
      · simp only [List.mem_cons, List.not_mem_nil, or_false] at ha
        subst ha
        unfold sgN
        simp only [List.length_cons, List.length_nil]; omega
  | @same pre g x =>
    have hgm : g ∈ pre ++ [g] := by simp
    refine ⟨hg.chain.last rfl, ?_, ?_⟩
    · intro a ha
      rcases List.mem_append.1 ha with ha | ha
      · exact hg.recs a (List.mem_append.2 (.inl ha))
      · simp only [List.mem_cons, List.not_mem_nil, or_false] at ha
        subst ha
        intro y hy
        rcases List.mem_append.1 hy with hy | hy
        · exact hg.recs g hgm y hy
        · simp only [List.mem_cons, List.not_mem_nil, or_false] at hy
          rw [hy]; exact hx
    · intro a ha
      rcases List.mem_append.1 ha with ha | ha
      · exact hg.top a (List.mem_append.2 (.inl ha))
      · simp only [List.mem_cons, List.not_mem_nil, or_false] at ha
        subst ha
        rw [jf] at hn
        unfold sgN at *
        simp only [List.length_append, List.length_cons, List.length_nil]; omega

section
variable {σ : St} {l d n0 : Nat} {most : Int} {js : List Nat} {segs : List Sg} {safe s : Nat} {A : AD}

structure WS (σ : St) (l d n0 : Nat) (most : Int) (A : AD) (js : List Nat) (segs : List Sg) (safe s : Nat) : Prop where
  lg : LG σ l d most js segs safe
  dv : DV σ d n0 A
  ok : OkA A
  dl : DLs A.2.1 segs s
  good : Good segs
  len : segs.length ≤ 900
  sf : safe = Jm segs s

theorem XV (hg : Good segs) (hne : segs = [] ∨ 0 < kK segs) : ∀ g ∈ segs, g.1 ≠ aN segs := by
  rcases List.eq_nil_or_concat segs with rfl | ⟨pre, g, rfl⟩
  · simp
  · rw [List.concat_eq_append] at *
    rw [jf]
    have hpos : 0 < g.2.length := by
      rcases hne with h | h
      · simp at h
      · rwa [qy] at h
    intro a ha
    rcases List.mem_append.1 ha with ha | ha
    · have := (List.pairwise_append.1 hg.chain.rise).2.2 a ha g (by simp)
      unfold sgN; omega
    · simp only [List.mem_cons, List.not_mem_nil, or_false] at ha
      subst ha
      unfold sgN; omega

theorem DLs.all {L : List FR} (h : DLs L segs (kK segs)) : L.Perm (segs.map lgA) := by
  rcases List.eq_nil_or_concat segs with rfl | ⟨pre, g, rfl⟩
  · rw [(h.inv0).1]; exact List.Perm.refl _
  · rw [List.concat_eq_append] at *
    have := h.inv.1
    rw [qy, Q7] at this
    rw [List.map_append]; exact this

theorem acg {L : List FR} {f : FR} (hL : L.Perm (segs.map lgA)) (hf : ∀ g ∈ segs, bH g.1 ≠ f.1) : jX f.1 L = none ∧ (nP f false L).Perm (segs.map lgA ++ [f]) := by
  have hno : jX f.1 L = none := ZK (fun a ha => by
    obtain ⟨g, hg, rfl⟩ := List.mem_map.1 (hL.mem_iff.1 ha)
    exact hf g hg)
  refine ⟨hno, ?_⟩
  refine (oL f L).trans ?_
  rw [Bo hno]
  exact (List.Perm.cons f hL).trans (List.perm_append_comm (l₁ := [f]))

noncomputable def szR (l : List (List UInt8)) : Nat := (l.map (fun x => 24 + x.length)).sum
noncomputable def szS (segs : List Sg) : Nat := (segs.map (fun g => szR g.2)).sum

theorem Rq {n : Nat} {x : List UInt8} (hn : OkN n) (hx : OkR x) : (iE n x).length ≤ 24 + x.length := by
  have h0 := wY (n := n) (by unfold OkN at hn; omega)
  have h1 := Ei hn hx
  have h2 := wY (n := (oU n x).length) (by omega)
  have h3 : (oU n x).length = (oh n).length + x.length + 4 := by unfold oU; rw [Jn, List.length_append]
  unfold iE
  rw [List.length_append]; omega

theorem WZ : ∀ (n : Nat) (l : List (List UInt8)), OkN (n + l.length) → (∀ x ∈ l, OkR x) → (gI n l).length ≤ szR l
  | n, [], _, _ => by simp [gI]
  | n, x :: r, hn, hx => by
    have hn' : n + (r.length + 1) < 4611686018427387904 := hn
    have h1 := Rq (n := n) (x := x) (by unfold OkN; omega) (hx x List.mem_cons_self)
    have h2 := WZ (n + 1) r (by unfold OkN; omega) (fun y hy => hx y (List.mem_cons_of_mem _ hy))
    unfold szR at h2 ⊢
    simp only [gI, List.length_append, List.map_cons, List.sum_cons]
    omega

theorem DLs.used {L : List FR} (h : DLs L segs s) (hg : Good segs) : iW L ≤ szS segs := by
  have each : ∀ g ∈ segs, (sgB g).length ≤ szR g.2 := by
    intro g hgm
    have := hg.top g hgm
    unfold sgN at this
    exact WZ g.1 g.2 (by unfold OkN; omega) (hg.recs g hgm)
  have all : ∀ r : List Sg, (∀ g ∈ r, g ∈ segs) → iW (r.map lgA) ≤ szS r := by
    intro r
    induction r with
    | nil => intro _; simp [iW]
    | cons g r ih =>
      intro hr
      have h1 := each g (hr g List.mem_cons_self)
      have h2 := ih (fun x hx => hr x (List.mem_cons_of_mem _ hx))
      unfold szS at h2 ⊢
      simp only [List.map_cons, iW, List.sum_cons, iq, lgA, List.length_nil]
      omega
  rcases List.eq_nil_or_concat segs with rfl | ⟨pre, g, rfl⟩
  · rw [(h.inv0).1]; simp [iW]
  · rw [List.concat_eq_append] at *
    obtain ⟨hp, hs⟩ := h.inv
    rw [vY hp, Iw]
    have h1 := all pre (fun x hx => List.mem_append.2 (.inl hx))
    have h2 := each g (by simp)
    have h3 : iW [lgF g s] = (sgB g).length := by
      have := congrArg List.length (Pq g hs)
      rw [List.length_append] at this
      simp only [iW, iq]; omega
    unfold szS at h1 ⊢
    rw [List.map_append, List.sum_append, h3]
    simp only [List.map_cons, List.map_nil, List.sum_cons, List.sum_nil]
    omega

noncomputable def Over (A : AD) (segs : List Sg) (x : List UInt8) : Prop := A.1 < ((24 + x.length + szS segs : Nat) : Int) ∨ 128 ≤ segs.length ∨ 65536 < 24 + x.length + szS segs

theorem Vf (h : LG σ l d most js segs safe) (hD : DV σ d n0 A) (hA : OkA A) (hg : Good segs) (hd : lI A = false) (hL : DLs A.2.1 segs (kK segs)) {x : List UInt8} (hx : OkR x) (hn : aN segs + 1 ≤ 1000000) (hne : segs = [] ∨ 0 < kK segs) :
    ∃ e σ2 B, f24 (some d) (bH (aN segs)) (iE (aN segs) x) (σ.az ((aN segs : Int), [], 0, ())) = some (e, σ2) ∧ Fw σ σ2 d n0 ∧ B.1 = A.1 ∧ (oW A = 0 → oW B = 0) ∧ DV σ2 d n0 B ∧ OkA B ∧ σ2.ae[σ.ae.length]? = some ((aN segs : Int), [], 0, ()) ∧ LG σ2 l d most js segs safe ∧
      ((e = 0 ∧ lI B = false ∧ DLs B.2.1 (segs ++ [(aN segs, [x])]) 0 ∧
          LG ((σ2.ay σ.ae.length ((aN segs : Int), [x], ((iE (aN segs) x).length : Int), ())).bg l (some d, nmL, most, js.map some ++ [some σ.ae.length], (safe : Int), ())) l d most (js ++ [σ.ae.length]) (segs ++ [(aN segs, [x])]) safe) ∨
       (e = 10 ∧ lI B = false ∧ DLs B.2.1 segs (kK segs) ∧ Over A segs x) ∨
       (e = 11 ∧ lI B = true ∧ oW A ≠ 0 ∧ DLs B.2.1 (segs ++ [(aN segs, [x])]) 0)) := by
  have hle := TL hg
  have hnm := EG (n := aN segs) (by omega)
  have h1 := h.add ((aN segs : Int), [], 0, ())
  obtain ⟨σ2, g1, g2, g3⟩ := Zy (hD.same (σ' := σ.az ((aN segs : Int), [], 0, ())) rfl rfl) hA (bH (aN segs)) (iE (aN segs) x) (by omega)
  have h2 := h1.same g3.oth
  have e130 : σ2.ae = (σ.az ((aN segs : Int), [], 0, ())).ae := congrArg (fun x => x.2.2) g3.oth
  have hnew : σ2.ae[σ.ae.length]? = some ((aN segs : Int), [], 0, ()) := by rw [e130]; exact oD
  have hfw : Fw σ σ2 d n0 := (Fw.of rfl rfl rfl : Fw σ (σ.az ((aN segs : Int), [], 0, ())) d n0).trans g3.fw
  have hall := hL.all
  have hap := XV hg hne
  obtain ⟨s1, s2⟩ := acg (f := lgF (aN segs, [x]) 0) hall (fun g hgm e => hap g hgm (O7 e))
  have hfl : (lgF (aN segs, [x]) 0).1 = bH (aN segs) := rfl
  rw [hfl] at s1
  have hmore : tK (ni (bH (aN segs))) (iE (aN segs) x) = lgF (aN segs, [x]) 0 := by
    simp [tK, ni, lgF, gI]
  by_cases hc : full A (bH (aN segs)) (iE (aN segs) x)
  · have e0 : vZ A (bH (aN segs)) (iE (aN segs) x) = (10, A) := by
      unfold vZ
      rw [if_neg (by rw [show A.2.2.2.1 = false from hd]; decide), if_neg (by rw [xZ (by omega)]; decide), if_pos hc]
    rw [e0] at g1 g2
    refine ⟨10, σ2, A, g1, hfw, rfl, id, g2, hA, hnew, h2, .inr (.inl ⟨rfl, hd, hL, ?_⟩)⟩
    have hu := hL.used hg
    have hb := Rq (n := aN segs) (x := x) (by unfold OkN; omega) hx
    have hlen : A.2.1.length = segs.length := by rw [hall.length_eq]; simp
    unfold Over
    unfold full at hc
    rw [s1] at hc
    simp only [Option.getD_none] at hc
    have hz : iq (ni (bH (aN segs))) = 0 := rfl
    rw [hz] at hc
    rcases hc with ⟨_, hc⟩ | hc | hc
    · right; left; omega
    · right; right; omega
    · left; omega
  · have hB := hA.appended hc
    rw [s1] at hB
    have e0 : vZ A (bH (aN segs)) (iE (aN segs) x) = xu (qN A (nP (lgF (aN segs, [x]) 0) false A.2.1)) id := by
      unfold vZ
      rw [if_neg (by rw [show A.2.2.2.1 = false from hd]; decide), if_neg (by rw [xZ (by omega)]; decide), if_neg hc, s1]
      simp only [Option.getD_none, hmore]
    simp only [Option.getD_none, hmore] at hB
    have hdl : DLs (nP (lgF (aN segs, [x]) 0) false A.2.1) (segs ++ [(aN segs, [x])]) 0 := .some s2 (Nat.zero_le _)
    obtain ⟨B, b1, b2, b3, b4, ⟨b5, b6⟩ | ⟨b5, b6, b7⟩⟩ := zH (A := qN A (nP (lgF (aN segs, [x]) 0) false A.2.1)) hB hd id
    · rw [e0, b6] at g1 g2
      refine ⟨0, σ2, B, g1, hfw, b1, b4, g2, b3, hnew, h2, .inl ⟨rfl, b5, by rw [b2]; exact hdl, ?_⟩⟩
      have hnj : σ.ae.length ∉ js := fun hm => by have := h.lt _ hm; omega
      have h3 : LG (σ2.ay σ.ae.length ((aN segs : Int), [x], ((iE (aN segs) x).length : Int), ())) l d most js segs safe := by
        refine ⟨h2.lo, h2.nd, h2.lie.Vk (fun j hj g hgj => ?_)⟩
        show (σ2.ae.set σ.ae.length _)[j]? = _
        rw [List.getElem?_set_ne (fun e : σ.ae.length = j => hnj (by rw [e]; exact hj))]; exact hgj
      have := h3.link (j := σ.ae.length) (g := (aN segs, [x])) (by
        have e : sgB (aN segs, [x]) = iE (aN segs) x := by simp [sgB, gI]
        show _ = some (((aN segs : Nat) : Int), [x], ((sgB (aN segs, [x])).length : Int), ())
        rw [e]; exact xe hnew) hnj
      exact this
    · rw [e0, b7] at g1 g2
      exact ⟨11, σ2, B, g1, hfw, b1, b4, g2, b3, hnew, h2, .inr (.inr ⟨rfl, b5, b6, by rw [b2]; exact hdl⟩)⟩

theorem TG {g : Sg} {x : List UInt8} (hs : s ≤ g.2.length) : tK (lgF g s) (iE (sgN g) x) = lgF (g.1, g.2 ++ [x]) s := by
  unfold tK lgF
  simp only []
  rw [List.take_append_of_le_length hs, List.drop_append_of_le_length hs, Be]
  have : g.1 + s + (g.2.drop s).length = sgN g := by rw [List.length_drop]; unfold sgN; omega
  rw [this]
  simp [gI]

theorem Yi {pre : List Sg} {g : Sg} (hD : DV σ d n0 A) (hA : OkA A) (hg : Good (pre ++ [g])) (hd : lI A = false) (hL : DLs A.2.1 (pre ++ [g]) s) {x : List UInt8} (hx : OkR x) :
    ∃ e σ2 B, f24 (some d) (bH g.1) (iE (sgN g) x) σ = some (e, σ2) ∧ FrD σ σ2 d n0 ∧ B.1 = A.1 ∧ (oW A = 0 → oW B = 0) ∧ DV σ2 d n0 B ∧ OkA B ∧
      ((e = 0 ∧ lI B = false ∧ DLs B.2.1 (pre ++ [(g.1, g.2 ++ [x])]) s) ∨ (e = 10 ∧ lI B = false ∧ DLs B.2.1 (pre ++ [g]) s ∧ Over A (pre ++ [g]) x) ∨ (e = 11 ∧ lI B = true ∧ oW A ≠ 0 ∧ DLs B.2.1 (pre ++ [(g.1, g.2 ++ [x])]) s)) := by
  have htop := hg.Xg (g := g) (by simp)
  have hnm := EG htop
  obtain ⟨hp, hs⟩ := hL.inv
  obtain ⟨σ2, g1, g2, g3⟩ := Zy hD hA (bH g.1) (iE (sgN g) x) (by omega)
  have hfd := I9 hp rfl hA.sorted
  by_cases hc : full A (bH g.1) (iE (sgN g) x)
  · have e0 : vZ A (bH g.1) (iE (sgN g) x) = (10, A) := by
      unfold vZ
      rw [if_neg (by rw [show A.2.2.2.1 = false from hd]; decide), if_neg (by rw [xZ htop]; decide), if_pos hc]
    rw [e0] at g1 g2
    refine ⟨10, σ2, A, g1, g3, rfl, id, g2, hA, .inr (.inl ⟨rfl, hd, hL, ?_⟩)⟩
    have hu := hL.used hg
    have htg := hg.top g (by simp)
    have hb := Rq (n := sgN g) (x := x) (by unfold OkN; omega) hx
    have hfs : iq (lgF g s) ≤ iW A.2.1 := by
      rw [vY hp, Iw]
      simp only [iW]; omega
    unfold Over
    unfold full at hc
    rw [hfd] at hc
    simp only [Option.getD_some] at hc
    rcases hc with ⟨hc, _⟩ | hc | hc
    · simp at hc
    · right; right; omega
    · left; omega
  · have hB := hA.appended hc
    rw [hfd] at hB
    simp only [Option.getD_some, TG hs] at hB
    have e0 : vZ A (bH g.1) (iE (sgN g) x) = xu (qN A (nP (lgF (g.1, g.2 ++ [x]) s) false A.2.1)) id := by
      unfold vZ
      rw [if_neg (by rw [show A.2.2.2.1 = false from hd]; decide), if_neg (by rw [xZ htop]; decide), if_neg hc, hfd]
      simp only [Option.getD_some, TG hs]
    have hdl : DLs (nP (lgF (g.1, g.2 ++ [x]) s) false A.2.1) (pre ++ [(g.1, g.2 ++ [x])]) s := by
      refine .some (MX hp rfl rfl hg.chain) ?_
      rw [List.length_append]; omega
    obtain ⟨B, b1, b2, b3, b4, ⟨b5, b6⟩ | ⟨b5, b6, b7⟩⟩ := zH (A := qN A (nP (lgF (g.1, g.2 ++ [x]) s) false A.2.1)) hB hd id
    · rw [e0, b6] at g1 g2
      exact ⟨0, σ2, B, g1, g3, b1, b4, g2, b3, .inl ⟨rfl, b5, by rw [b2]; exact hdl⟩⟩
    · rw [e0, b7] at g1 g2
      exact ⟨11, σ2, B, g1, g3, b1, b4, g2, b3, .inr (.inr ⟨rfl, b5, b6, by rw [b2]; exact hdl⟩)⟩

theorem LG.more {pre : List Sg} {g : Sg} {x : List UInt8} {jp : List Nat} {j : Nat} (h : LG σ l d most (jp ++ [j]) (pre ++ [g]) safe) :
    LG (σ.ay j ((g.1 : Int), g.2 ++ [x], ((sgB (g.1, g.2 ++ [x])).length : Int), ())) l d most (jp ++ [j]) (pre ++ [(g.1, g.2 ++ [x])]) safe := by
  obtain ⟨jp', j', e, h1, h2⟩ := h.split
  obtain ⟨rfl, ej⟩ := List.append_inj' e rfl
  simp only [List.cons.injEq, and_true] at ej
  subst ej
  have hnj : j ∉ jp := fun hm => (List.nodup_append.1 h.nd).2.2 j hm j (by simp) rfl
  refine ⟨h.lo, h.nd, cu.app (h1.Vk (fun k hk a ha => ?_)) (show cu _ [j] [_] from ⟨?_, trivial⟩)⟩
  · show (σ.ae.set j _)[k]? = _
    rw [List.getElem?_set_ne (fun e : j = k => hnj (by rw [e]; exact hk))]; exact ha
  · exact xe h2

theorem Gl {j : Nat} {x y : aA dP} : (σ.ay j x).ay j y = σ.ay j y := by unfold St.ay; simp

structure Qe (σ : St) (l d n0 : Nat) (most : Int) (A : AD) (js : List Nat) (segs : List Sg) (safe s : Nat) (x : List UInt8) (v e : Int) (σ' : St) (B : AD) (js' : List Nat) (segs' : List Sg) (safe' s' : Nat) : Prop where
  run : f59 (some l) x σ = some ((v, e), σ')
  fw : Fw σ σ' d n0
  room : B.1 = A.1
  arm : oW A = 0 → oW B = 0
  out : (e = 0 ∧ v = (aN segs : Int) ∧ lI B = false ∧ More segs x segs' ∧ safe' ≤ aN segs ∧ WS σ' l d n0 most B js' segs' safe' s') ∨
        (e = 10 ∧ lI B = false ∧ segs' = segs ∧ Over A segs x ∧ WS σ' l d n0 most B js' segs' safe' s') ∨
        (e = 11 ∧ lI B = true ∧ oW A ≠ 0 ∧ (segs' = segs ∨ More segs x segs') ∧ f60 (some l) σ' = some (safe' : Int) ∧ safe' ≤ Jm segs' s' ∧ DV σ' d n0 B ∧ OkA B ∧ DLs B.2.1 segs' s')
  up : safe ≤ safe'

theorem BQ (h : WS σ l d n0 most A js segs safe s) : safe ≤ aN segs := by
  rw [h.sf]
  have hd := h.dl
  rcases List.eq_nil_or_concat segs with rfl | ⟨pre, g, rfl⟩
  · exact Nat.le_refl _
  · rw [List.concat_eq_append] at *
    rw [oq, jf]
    have := hd.inv.2
    unfold sgN; omega

theorem Xp {B : AD} {x : List UInt8} (e : B.1 = A.1) (h : Over B segs x) : Over A segs x := by
  unfold Over at *
  rw [e] at h
  exact h

theorem O4 (h : WS σ l d n0 most A js segs safe s) (hd : lI A = false) {x : List UInt8} (hx : OkR x) (hn : aN segs + 1 ≤ 1000000) (hln : segs.length ≤ 800) (hne : segs = [] ∨ 0 < kK segs)
    (hfr : ∀ (σ1 : St) (B1 : AD), LG σ1 l d most js segs (aN segs) → f61 (some l) σ = some (0, σ1) → ∀ (e : Int) (σ2 : St), f24 (some d) (bH (aN segs)) (iE (aN segs) x) (σ1.az ((aN segs : Int), [], 0, ())) = some (e, σ2) → σ2.ae[σ1.ae.length]? = some ((aN segs : Int), [], 0, ()) → LG σ2 l d most js segs (aN segs) →
      f59 (some l) x σ = some (if e = 0 then (((aN segs : Int), 0), (σ2.ay σ1.ae.length ((aN segs : Int), [x], ((iE (aN segs) x).length : Int), ())).bg l (some d, nmL, most, js.map some ++ [some σ1.ae.length], (aN segs : Int), ())) else ((0, e), σ2)))
    (hfail : ∀ (σ1 : St), f61 (some l) σ = some (11, σ1) → f59 (some l) x σ = some ((0, 11), σ1)) :
    ∃ v e σ' B js' segs' safe' s', Qe σ l d n0 most A js segs safe s x v e σ' B js' segs' safe' s' := by
  have hsn := BQ h
  obtain ⟨σ1, B1, e1, g1, r1, _, a1, v1, k1, k2, ⟨rfl, d1, l1, m1⟩ | ⟨rfl, d1, w1, l1, m1⟩⟩ := U8 h.lg h.dv h.ok h.good (by have := h.len; omega) h.dl hd
  · obtain ⟨e2, σ2, B2, g2, r2, a2, v2, k3, k4, n2, l2, o⟩ := Vf l1 k1 k2 h.good d1 m1 hx hn hne
    have hrun := hfr σ1 B1 l1 g1 e2 σ2 g2 n2 l2
    have hmore : More segs x (segs ++ [(aN segs, [x])]) := .fresh hne
    rcases o with ⟨rfl, o1, o2, o3⟩ | ⟨rfl, o1, o2, o2x⟩ | ⟨rfl, o1, o2, o3⟩
    · rw [if_pos rfl] at hrun
      refine ⟨_, _, _, B2, _, _, aN segs, 0, hrun, (r1.trans r2).trans (Fw.of rfl rfl rfl), a2.trans a1, fun hh => v2 (v1 hh), .inl ⟨rfl, rfl, o1, hmore, Nat.le_refl _, o3, k3.same rfl rfl, k4, o2, hmore.good h.good hx hn, ?_, ?_⟩, hsn⟩
      · rw [List.length_append]; simp only [List.length_cons, List.length_nil]; omega
      · rw [oq]; rfl
    · rw [if_neg (by decide)] at hrun
      exact ⟨_, _, _, B2, _, _, aN segs, kK segs, hrun, r1.trans r2, a2.trans a1, fun hh => v2 (v1 hh), .inr (.inl ⟨rfl, o1, rfl, Xp (segs := segs) a1 o2x, l2, k3, k4, o2, h.good, h.len, (BP segs).symm⟩), hsn⟩
    · rw [if_neg (by decide)] at hrun
      exact ⟨_, _, _, B2, js, _, aN segs, 0, hrun, r1.trans r2, a2.trans a1, fun hh => v2 (v1 hh), .inr (.inr ⟨rfl, o1, fun hh => o2 (v1 hh), .inr hmore, U7 l2, by rw [oq]; exact Nat.le_refl _, k3, k4, o3⟩), hsn⟩
  · have hrun := hfail σ1 g1
    exact ⟨_, _, σ1, B1, js, segs, safe, s, hrun, r1, a1, v1, .inr (.inr ⟨rfl, d1, w1, .inl rfl, U7 l1, by rw [← h.sf]; exact Nat.le_refl _, k1, k2, m1⟩), Nat.le_refl _⟩
end
end Go.Proofs.YtbnmhjobnepajaaGreat.M


namespace Go.Proofs.YtbnmhjobnepajaaGreat.M

section
variable {σ : St} {l d n0 : Nat} {most : Int} {js : List Nat} {segs : List Sg} {safe s : Nat} {A : AD}

theorem ZC (h : WS σ l d n0 most A js [] safe s) (hd : lI A = false) {x : List UInt8} (hx : OkR x) : ∃ v e σ' B js' segs' safe' s', Qe σ l d n0 most A js [] safe s x v e σ' B js' segs' safe' s' := by
  have hx' : x.length ≤ 1024 := hx
  have hn0 : aN [] = 0 := rfl
  have hj : js = [] := by
    have := cu.len h.lg.lie
    exact List.eq_nil_of_length_eq_zero (by simpa using this)
  refine O4 h hd hx (by decide) (by simp) (.inl rfl) ?_ ?_
  · intro σ1 B1 l1 g1 e σ2 g2 n2 l2
    have h1 := l1.add ((aN [] : Int), [], 0, ())
    have hlo1 := h1.lo
    have hlo2 := l2.lo
    have e98 := QL (g := 0) h1 (j := σ1.ae.length) oD (n := aN []) rfl (by decide)
    unfold f59
    simp only [Option.isNone_some, Bool.false_eq_true, if_false, Dz h.lg h.good (by simp), Mc h.lg, Option.bind_eq_bind, Option.bind_some]
    rw [if_neg (by simp; omega)]
    simp only [Option.isNone_none, if_true]
    rw [g1]
    simp only [Option.bind_some]
    rw [if_neg (by simp), Va (by decide) hx]
    simp only [Option.bind_some, hlo1, e98]
    rw [g2]
    simp only [Option.bind_some]
    by_cases c : e = 0
    · subst c
      rw [if_neg (by simp), if_pos rfl, n2]
      simp only [Option.bind_some]
      rw [if_pos (by decide), Gl]
      have hlo3 : (σ2.ay σ1.ae.length ((aN [] : Int), [] ++ [x], IntKind.wrap .i64 (0 + ((iE (aN []) x).length : Int)), ())).aj[l]? = some (some d, nmL, most, js.map some, ((aN [] : Nat) : Int), ()) := hlo2
      rw [hlo3]
      simp only [Option.bind_some]
      have hrl := ND (n := aN []) (by decide) hx
      rw [if_pos (by rw [hj]; decide)]
      have hw : IntKind.wrap .i64 (0 + ((iE (aN []) x).length : Int)) = ((iE (aN []) x).length : Int) := by rw [aQ (by omega) (by omega)]; omega
      rw [hw]
      rfl
    · rw [if_pos (by simpa using c), if_neg c]
  · intro σ1 g1
    unfold f59
    simp only [Option.isNone_some, Bool.false_eq_true, if_false, Dz h.lg h.good (by simp), Mc h.lg, Option.bind_eq_bind, Option.bind_some]
    rw [if_neg (by simp; omega)]
    simp only [Option.isNone_none, if_true]
    rw [g1]
    simp only [Option.bind_some]
    rw [if_pos (by simp)]

theorem ZE {pre : List Sg} {g : Sg} (h : WS σ l d n0 most A js (pre ++ [g]) safe s) (hd : lI A = false) {x : List UInt8} (hx : OkR x) (hn : aN (pre ++ [g]) + 1 ≤ 1000000) (hln : (pre ++ [g]).length ≤ 800) (hmo : 1 ≤ most) :
    ∃ v e σ' B js' segs' safe' s', Qe σ l d n0 most A js (pre ++ [g]) safe s x v e σ' B js' segs' safe' s' := by
  have hx' : x.length ≤ 1024 := hx
  obtain ⟨jp, j, ej, q1, q2⟩ := h.lg.split
  have hjl : jp.length = pre.length := cu.len q1
  have hlo := h.lg.lo
  have htop := h.good.Xg (g := g) (by simp)
  have htg := h.good.top g (by simp)
  have hlB := h.good.adY (g := g) (by simp)
  have hrl := ND (n := aN (pre ++ [g])) (by unfold OkN; omega) hx
  have e97 := L9 h.lg (by simp at hln; omega) ej
  have e55 := Dz h.lg h.good (by omega)
  have hml : (js.map some).length = pre.length + 1 := by rw [ej]; simp [hjl]
  have hml2 : (js.map some).length ≤ 800 := by rw [hml]; simp at hln; omega
  by_cases hfresh : most ≤ ((sgB g).length : Int)
  · have hpos : 0 < g.2.length := by
      rcases Nat.eq_zero_or_pos g.2.length with h0 | h0
      · have : g.2 = [] := List.eq_nil_of_length_eq_zero h0
        unfold sgB at hfresh
        rw [this] at hfresh
        simp [gI] at hfresh
        omega
      · exact h0
    refine O4 h hd hx hn hln (.inr (by rw [qy]; exact hpos)) ?_ ?_
    · intro σ1 B1 l1 g1 e σ2 g2 n2 l2
      have h1 := l1.add ((aN (pre ++ [g]) : Int), [], 0, ())
      have hlo1 := h1.lo
      have hlo2 := l2.lo
      have e98 := QL (g := 0) h1 (j := σ1.ae.length) oD (n := aN (pre ++ [g])) rfl (by omega)
      unfold f59
      simp only [Option.isNone_some, Bool.false_eq_true, if_false, e55, e97, q2, hlo, Option.bind_eq_bind, Option.bind_some]
      rw [if_neg (by simp; omega), if_pos (by simpa using hfresh), g1]
      simp only [Option.bind_some]
      rw [if_neg (by simp), Va (by unfold OkN; omega) hx]
      simp only [Option.bind_some, hlo1, e98]
      rw [g2]
      simp only [Option.bind_some]
      by_cases c : e = 0
      · subst c
        rw [if_neg (by simp), if_pos rfl, n2]
        simp only [Option.bind_some]
        rw [if_pos (by simp), if_pos (by simpa using hfresh), Gl]
        have hlo3 : (σ2.ay σ1.ae.length ((aN (pre ++ [g]) : Int), [] ++ [x], IntKind.wrap .i64 (0 + ((iE (aN (pre ++ [g])) x).length : Int)), ())).aj[l]? = some (some d, nmL, most, js.map some, ((aN (pre ++ [g]) : Nat) : Int), ()) := hlo2
        rw [hlo3]
        simp only [Option.bind_some]
        rw [if_pos (by omega)]
        have hw : IntKind.wrap .i64 (0 + ((iE (aN (pre ++ [g])) x).length : Int)) = ((iE (aN (pre ++ [g])) x).length : Int) := by rw [aQ (by omega) (by omega)]; omega
        rw [hw]
        rfl
      · rw [if_pos (by simpa using c), if_neg c]
    · intro σ1 g1
      unfold f59
      simp only [Option.isNone_some, Bool.false_eq_true, if_false, e55, e97, q2, hlo, Option.bind_eq_bind, Option.bind_some]
      rw [if_neg (by simp; omega), if_pos (by simpa using hfresh), g1]
      simp only [Option.bind_some]
      rw [if_pos (by simp)]
  · obtain ⟨e, σ2, B, g2, r2, a2, v2, k3, k4, o⟩ := Yi h.dv h.ok h.good hd h.dl hx
    have hnx : aN (pre ++ [g]) = sgN g := jf pre g
    have l2 := h.lg.same r2.oth
    have hlo2 := l2.lo
    have q2' : σ2.ae[j]? = some ((g.1 : Int), g.2, ((sgB g).length : Int), ()) := by
      obtain ⟨jp', j', e', q3, q4⟩ := l2.split
      rw [ej] at e'
      obtain ⟨_, e''⟩ := List.append_inj' e' rfl
      simp only [List.cons.injEq, and_true] at e''
      rw [e'']; exact q4
    have hrun : f59 (some l) x σ = some (if e = 0 then (((aN (pre ++ [g]) : Int), 0), σ2.ay j ((g.1 : Int), g.2 ++ [x], ((sgB (g.1, g.2 ++ [x])).length : Int), ())) else ((0, e), σ2)) := by
      unfold f59
      simp only [Option.isNone_some, Bool.false_eq_true, if_false, e55, e97, q2, hlo, Option.bind_eq_bind, Option.bind_some]
      rw [if_neg (by simp; omega), if_neg (by simpa using hfresh), Va (by unfold OkN; omega) hx, QM h.lg q2 htop]
      simp only [Option.bind_some]
      rw [hnx, g2]
      simp only [Option.bind_some]
      by_cases c : e = 0
      · subst c
        rw [if_neg (by simp), if_pos rfl, q2']
        simp only [Option.bind_some]
        unfold sgN at htg
        rw [if_pos (by omega), if_neg (by simpa using hfresh), Gl]
        simp only [Option.bind_some]
        have hsz : ((sgB (g.1, g.2 ++ [x])).length : Int) = ((sgB g).length : Int) + ((iE (sgN g) x).length : Int) := by
          unfold sgB
          rw [Be, List.length_append]
          simp only [gI, List.append_nil]
          unfold sgN
          push_cast; rfl
        rw [hnx] at hrl
        have hw : IntKind.wrap .i64 (((sgB g).length : Int) + ((iE (sgN g) x).length : Int)) = ((sgB (g.1, g.2 ++ [x])).length : Int) := by rw [hsz, aQ (by omega) (by omega)]
        rw [hw]
      · rw [if_pos (by simpa using c), if_neg c]
    have hmore : More (pre ++ [g]) x (pre ++ [(g.1, g.2 ++ [x])]) := .same
    rcases o with ⟨rfl, o1, o2⟩ | ⟨rfl, o1, o2, o2x⟩ | ⟨rfl, o1, o2, o3⟩
    · rw [if_pos rfl] at hrun
      refine ⟨_, _, _, B, js, _, safe, s, hrun, r2.fw.trans (Fw.of rfl rfl rfl), a2, v2, .inl ⟨rfl, rfl, o1, hmore, BQ h, ?_, k3.same rfl rfl, k4, o2, hmore.good h.good hx hn, by have := hmore.len.1; omega, ?_⟩, Nat.le_refl _⟩
      · rw [ej] at l2 ⊢
        exact l2.more
      · rw [h.sf, oq, oq]
    · rw [if_neg (by decide)] at hrun
      exact ⟨_, _, _, B, js, _, safe, s, hrun, r2.fw, a2, v2, .inr (.inl ⟨rfl, o1, rfl, o2x, l2, k3, k4, o2, h.good, h.len, h.sf⟩), Nat.le_refl _⟩
    · rw [if_neg (by decide)] at hrun
      exact ⟨_, _, _, B, js, _, safe, s, hrun, r2.fw, a2, v2, .inr (.inr ⟨rfl, o1, o2, .inr hmore, U7 l2, by rw [h.sf, oq, oq]; exact Nat.le_refl _, k3, k4, o3⟩), Nat.le_refl _⟩

theorem ac9 (h : WS σ l d n0 most A js segs safe s) (hd : lI A = false) {x : List UInt8} (hx : OkR x) (hn : aN segs + 1 ≤ 1000000) (hln : segs.length ≤ 800) (hmo : 1 ≤ most) :
    ∃ v e σ' B js' segs' safe' s', Qe σ l d n0 most A js segs safe s x v e σ' B js' segs' safe' s' := by
  rcases List.eq_nil_or_concat segs with rfl | ⟨pre, g, rfl⟩
  · exact ZC h hd hx
  · rw [List.concat_eq_append] at *
    exact ZE h hd hx hn hln hmo

end
end Go.Proofs.YtbnmhjobnepajaaGreat.M

