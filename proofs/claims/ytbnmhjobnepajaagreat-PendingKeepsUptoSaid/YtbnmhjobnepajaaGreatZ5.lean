/- Own texts, laid together: CQ PV0 PY0 PC0 PC1 PC2 PC3 PC4 PXD PXA PY1 PV2 PV5 PV6 PY2 PVW PY3 PY4 PY5. -/
import Derived.Test.YtbnmhjobnepajaaGreatZ1
import Derived.Test.YtbnmhjobnepajaaGreatZ2
import Derived.Test.YtbnmhjobnepajaaGreatZ3
import Derived.Test.YtbnmhjobnepajaaGreatZ4
set_option linter.unusedVariables false
set_option linter.unusedSimpArgs false
set_option maxRecDepth 100000
namespace Go.Proofs.YtbnmhjobnepajaaGreat.M
open Go.Proofs
section
variable {α β γ δ s : Type}
theorem bmb {o : Option α} {F : α → Option δ} {F' : α → Option γ} {c : δ → β} {k : γ → Option β} (h : ∀ a, (F a).map c = (F' a).bind k) : (o.bind F).map c = (o.bind F').bind k := by cases o <;> simp [h]
theorem bmd {o : Option α} {F : α → Option δ} {F' : α → α → Option γ} {c : δ → β} {k : γ → Option β} (h : ∀ a, (F a).map c = (F' a a).bind k) : (o.bind F).map c = (o.bind fun a => o.bind fun b => F' a b).bind k := by cases o <;> simp [h]
theorem itm {p q : Prop} [Decidable p] [Decidable q] {a b : Option δ} {a' b' : Option γ} {c : δ → β} {k : γ → Option β} (hc : p ↔ q) (h1 : p → a.map c = a'.bind k) (h2 : ¬p → b.map c = b'.bind k) : (if p then a else b).map c = (if q then a' else b').bind k := by
  by_cases h : p
  · rw [if_pos h, if_pos (hc.1 h)]; exact h1 h
  · rw [if_neg h, if_neg fun hq => h (hc.2 hq)]; exact h2 h
theorem itb {p q : Prop} [Decidable p] [Decidable q] {a b a' b' : Option β} (hc : p ↔ q) (h1 : p → a = a') (h2 : ¬p → b = b') : (if p then a else b) = if q then a' else b' := by
  by_cases h : p
  · rw [if_pos h, if_pos (hc.1 h)]; exact h1 h
  · rw [if_neg h, if_neg fun hq => h (hc.2 hq)]; exact h2 h
theorem itn {p : Bool} {a b a' b' : Option β} (h1 : p = false → a = b') (h2 : p = true → b = a') : (if (!p) = true then a else b) = if p = true then a' else b' := by
  cases p
  · exact h1 rfl
  · exact h2 rfl
theorem bbb {o : Option α} {F F' : α → Option β} (h : ∀ a, F a = F' a) : o.bind F = o.bind F' := by cases o <;> simp [h]
theorem bbd {o : Option α} {F : α → Option β} {F' : α → α → Option β} (h : ∀ a, F' a a = F a) : (o.bind fun a => o.bind fun b => F' a b) = o.bind F := by cases o <;> simp [h]
theorem bb2 {o o' : Option α} {F F' : α → Option β} (ho : o = o') (h : ∀ a, F a = F' a) : o.bind F = o'.bind F' := by subst ho; cases o <;> simp [h]
theorem nU {o : Option α} {c : α → γ} {F : γ → Option β} {F' : α → Option β} (h : ∀ a, F (c a) = F' a) : (o.map c).bind F = o.bind F' := by cases o <;> simp [h]
theorem sK {f : s → Option (s ⊕ γ)} {g : s → Option δ} {c : δ → γ} (B : (s → Option δ) → s → Option δ) (hst : ∀ self x, (B self x).map c = (f x).bind (Sum.elim (fun y => (self y).map c) some)) (hg : ∀ x, g x = B g x)
    (hl : ∀ (M : s → δ → Prop), (∀ self, (∀ x r, self x = some r → M x r) → ∀ x r, B self x = some r → M x r) → ∀ x r, g x = some r → M x r) (x : s) : aY f x = (g x).map c := by
  have un : ∀ x, aY f x = (f x).bind (Sum.elim (fun y => aY f y) some) := by
    intro x
    rw [aY]
    show (f x).bind _ = _
    cases f x with
    | none => rfl
    | some y => cases y <;> rfl
  refine Option.ext fun r => ⟨fun h => ?_, fun h => ?_⟩
  · refine aY.partial_correctness f (fun x r => (g x).map c = some r) (fun self ih x r hr => ?_) x r h
    rw [hg, hst]
    cases hf : f x with
    | none => rw [hf] at hr; cases hr
    | some y =>
      rw [hf] at hr
      cases y with
      | inl y => exact ih y r hr
      | inr y => exact hr
  · cases hgx : g x with
    | none => rw [hgx] at h; cases h
    | some d =>
      rw [hgx] at h
      simp only [Option.map_some, Option.some.injEq] at h
      subst h
      refine hl (fun x d => aY f x = some (c d)) (fun self ih x r hr => ?_) x d hgx
      have h1 := hst self x
      rw [hr] at h1
      rw [un]
      cases hf : f x with
      | none => rw [hf] at h1; cases h1
      | some y =>
        rw [hf] at h1
        cases y with
        | inl y =>
          cases hs : self y with
          | none => simp [hs] at h1
          | some z =>
            simp only [Option.bind_some, Sum.elim_inl, hs, Option.map_some, Option.some.injEq] at h1
            show aY f y = _
            rw [ih y z hs, h1]
        | inr y => exact h1.symm
end
theorem eq_18 : sO = f18 := by
  funext a0 a1
  unfold sO f18
  try simp only []
  rfl
theorem DU : jU = f70 := by
  funext a0 a1
  unfold jU f70
  try simp only [eq_18]
  rfl
noncomputable def QE (p0 : List UInt8) (self : (Int) → Option (Sum Int Bool)) (s : (Int)) : Option (Sum Int Bool) :=
  if (decide (s < (p0.length : Int))) = true then
  if (0 : Int) ≤ s ∧ s < (p0.length : Int) then
  if ((((((decide ((btS p0 s) < 97)) || (decide ((btS p0 s) > 122))) && ((decide ((btS p0 s) < 48)) || (decide ((btS p0 s) > 57)))) && ((btS p0 s) != 46)) && ((btS p0 s) != 45)) && ((btS p0 s) != 95)) = true then
  some (.inr false)
  else
  self (IntKind.wrap .i64 (s + 1))
  else none
  else
  some (.inl s)
theorem abb (p0 : List UInt8) (self : (Int) → Option (Sum Int Bool)) (s : (Int)) : (QE p0 self s).map (Sum.map (fun _ => ()) id) = (uA p0 s).bind (Sum.elim (fun y => (self y).map (Sum.map (fun _ => ()) id)) some) := by
  unfold QE uA
  repeat' (first | rfl | refine bmd fun _ => ?_ | refine bmb fun _ => ?_ | refine itm Iff.rfl (fun _ => ?_) (fun _ => ?_))
theorem aaC (p0 : List UInt8) (s : (Int)) : aY (uA p0) s = (yL p0 s).map (Sum.map (fun _ => ()) id) :=
  sK (g := fun s => yL p0 s) (QE p0) (abb p0) (fun s => by show yL p0 s = _; rw [yL]; rfl)
    (fun M h s r => yL.partial_correctness p0 (fun a0 r => M (a0) r) (fun self ih a0 r hx => h (fun s => self s) (fun s r hr => ih s r hr) (a0) r hx) s r) s
theorem FV : zB = f71 := by
  funext p0
  unfold zB f71
  rw [aaC]
  cases yL p0 0 with
  | none => rfl
  | some x => cases x <;> rfl
theorem adb : dE = fun p _ => f72 p f73 := by
  funext p x σ
  unfold dE
  rfl
theorem eq_24 : lh = f24 := by
  funext p x y σ
  unfold lh f24
  simp only [DU, FV, adb]
  refine bbb fun r => itb Iff.rfl (fun _ => rfl) fun _ => bbb fun r9 => itb Iff.rfl (fun _ => rfl) fun _ => bbb fun i => bbd fun o => bbb fun z => ?_
  refine itb Iff.rfl (fun h => ?_) (fun h => ?_)
  · refine bbb fun i => bbd fun o => itn (fun _ => itn (fun _ => ?_) fun _ => rfl) fun _ => rfl
    refine bbb fun i => bbb fun o => bbb fun r => itb Iff.rfl (fun _ => rfl) fun _ => ?_
    refine bb2 (itb Iff.rfl (fun _ => bbb fun i => bbd fun o => rfl) fun _ => rfl) fun z => rfl
  · refine itn (fun _ => ?_) fun _ => rfl
    refine bbb fun i => bbb fun o => bbb fun r => itb Iff.rfl (fun _ => rfl) fun _ => ?_
    refine bb2 (itb Iff.rfl (fun _ => bbb fun i => bbd fun o => rfl) fun _ => rfl) fun z => rfl
noncomputable def QB (p0 : Option Nat) (r7 : List (List UInt8)) (self : (List Int) × (Int) × (St) → Option ((List Int) × Int × St)) (s : (List Int) × (Int) × (St)) : Option ((List Int) × Int × St) :=
  if (decide (s.2.1 < (r7.length : Int))) = true then
  (ix r7 s.2.1) >>= fun x19 =>
  p0 >>= fun i21 =>
  (s.2.2.ah[i21]?) >>= fun o22 =>
  ((dm .str (.ptr ax) x19 o22.2.1).getD (fZ (.ptr ax))) >>= fun i24 =>
  (s.2.2.aj[i24]?) >>= fun o25 =>
  ((dm .str (.ptr ax) x19 o22.2.1).getD (fZ (.ptr ax))) >>= fun i26 =>
  (s.2.2.aj[i26]?) >>= fun o27 =>
  if ((IntKind.wrap .i64 ((o25.1.length : Int) - o27.2.1)) == 0) = true then
  self (s.1, (IntKind.wrap .i64 (s.2.1 + 1)), s.2.2)
  else
  (if (decide ((s.1.length : Int) > 0)) = true then
  (ix s.1 0) >>= fun x49 =>
  if (IntKind.wrap .i64 ((IntKind.wrap .i64 ((o25.1.length : Int) - o27.2.1)) + 1)) ≠ 0 then
  if (0 : Int) ≤ 1 ∧ 1 ≤ (s.1.length : Int) then
  some (s.1.drop (Int.toNat 1), Int.tmod (if 0 > x49 then 0 else x49) (IntKind.wrap .i64 ((IntKind.wrap .i64 ((o25.1.length : Int) - o27.2.1)) + 1)))
  else none
  else none
  else
  some (s.1, 0) : Option ((List Int) × Int)) >>= fun z35 =>
  ((dm .str (.ptr ax) x19 o22.2.1).getD (fZ (.ptr ax))) >>= fun i38 =>
  (s.2.2.aj[i38]?) >>= fun o39 =>
  ((dm .str (.ptr ax) x19 o22.2.1).getD (fZ (.ptr ax))) >>= fun i40 =>
  (s.2.2.aj[i40]?) >>= fun o41 =>
  if (0 : Int) ≤ (IntKind.wrap .i64 (o41.2.1 + z35.2)) ∧ (IntKind.wrap .i64 (o41.2.1 + z35.2)) ≤ (o39.1.length : Int) then
  ((dm .str (.ptr ax) x19 o22.2.1).getD (fZ (.ptr ax))) >>= fun i43 =>
  (s.2.2.aj[i43]?) >>= fun o44 =>
  ((dm .str (.ptr ax) x19 o22.2.1).getD (fZ (.ptr ax))) >>= fun i45 =>
  ((s.2.2.aH i43 (o39.1.take (Int.toNat (IntKind.wrap .i64 (o41.2.1 + z35.2))), o44.2.1, ())).aj[i45]?) >>= fun o46 =>
  ((dm .str (.ptr ax) x19 o22.2.1).getD (fZ (.ptr ax))) >>= fun i47 =>
  ((s.2.2.aH i43 (o39.1.take (Int.toNat (IntKind.wrap .i64 (o41.2.1 + z35.2))), o44.2.1, ())).aj[i47]?) >>= fun o48 =>
  self (z35.1, (IntKind.wrap .i64 (s.2.1 + 1)), ((s.2.2.aH i43 (o39.1.take (Int.toNat (IntKind.wrap .i64 (o41.2.1 + z35.2))), o44.2.1, ())).aH i47 (o48.1, (o46.1.length : Int), ())))
  else none
  else
  some ((s.1, s.2.1, s.2.2))
theorem aa8 (p0 : Option Nat) (r7 : List (List UInt8)) (self : (List Int) × (Int) × (St) → Option ((List Int) × Int × St)) (s : (List Int) × (Int) × (St)) : (QB p0 r7 self s).map (fun r => r.2.2) = (lV p0 r7 s).bind (Sum.elim (fun y => (self y).map (fun r => r.2.2)) some) := by
  unfold QB lV
  repeat' (first | rfl | refine bmd fun _ => ?_ | refine bmb fun _ => ?_ | refine itm Iff.rfl (fun _ => ?_) (fun _ => ?_))
theorem aaz (p0 : Option Nat) (r7 : List (List UInt8)) (s : (List Int) × (Int) × (St)) : aY (lV p0 r7) s = (vT p0 r7 s.1 s.2.1 s.2.2).map (fun r => r.2.2) :=
  sK (g := fun s => vT p0 r7 s.1 s.2.1 s.2.2) (QB p0 r7) (aa8 p0 r7) (fun s => by show vT p0 r7 s.1 s.2.1 s.2.2 = _; rw [vT]; rfl)
    (fun M h s r => vT.partial_correctness p0 r7 (fun a0 a1 a2 r => M (a0, a1, a2) r) (fun self ih a0 a1 a2 r hx => h (fun s => self s.1 s.2.1 s.2.2) (fun s r hr => ih s.1 s.2.1 s.2.2 r hr) (a0, a1, a2) r hx) s.1 s.2.1 s.2.2 r) s
theorem eq_27 : gJ = f27 := by
  funext p0 p1 σ
  unfold gJ f27
  simp only [aaz]
  split
  · rfl
  refine bbb fun r => ?_
  refine nU fun z => ?_
  cases p0 <;> rfl
theorem CE : jl = f77 := by
  funext p x σ
  unfold jl f77
  rw [DU]
  refine bbb fun r => ?_
  split
  · rfl
  · exact bbb fun i => bbd fun o => rfl
theorem eq_28 : qK = f28 := by
  funext a0 a1 a2
  unfold qK f28
  try simp only [eq_18, DU, FV, eq_24, eq_27, CE]
  rfl
theorem eq_31 : qJ = f31 := by
  funext p σ
  unfold qJ f31
  cases p <;> simp
theorem eq_32 : oD = f32 := by
  funext a0 a1 a2
  unfold oD f32
  try simp only [eq_18, DU, FV, eq_24, eq_27, CE, eq_28, eq_31]
  rfl
theorem ad6 : lu = f78 := by
  funext c σ
  unfold lu f78
  cases h : σ.aG[c]? <;> simp [St.gy, St.aH]
theorem ade : fC = fun p x => f72 p (f78 x.1) := by
  funext p x σ
  unfold fC
  rw [ad6]; rfl
theorem eq_33 : qL = f33 := by
  funext p x σ
  unfold qL f33
  simp only [CE, ade]
  cases h : f77 p x σ <;> simp [St.jA, St.eQ, St.dH]
theorem ad7 : iZ = f79 := by
  funext c d σ
  unfold iZ f79
  cases h : σ.aG[c]? with
  | none => simp
  | some o =>
    obtain ⟨q, _⟩ := o
    cases q with
    | none => simp
    | some i =>
      cases h2 : σ.aj[i]? with
      | none => simp [h2]
      | some f =>
        cases h3 : σ.iE[d]? with
        | none => simp [h2]
        | some y => simp [h2, St.gy, St.aH]
theorem adf : dP = fun p x => f72 p (f79 x.1 x.2.1) := by
  funext p x σ
  unfold dP
  rw [ad7]; rfl
theorem eq_35 : lW = f35 := by
  funext p x y σ
  unfold lW f35
  simp only [CE, adf]
  show (f77 p x (σ.cO (y, ()))).bind _ = _
  cases h : f77 p x (σ.cO (y, ())) <;> simp [St.jA, St.eQ, St.dH, St.zi, St.cO]
  split
  · by_cases h5 : y < 0
    · rw [if_neg (by omega), if_pos h5]
    · rw [if_pos (by omega), if_neg h5]
  · rfl
theorem ad8 : jG = f81 := by
  funext c d σ
  unfold jG f81
  refine bbb fun o => bbb fun i => ?_
  cases h : σ.ah[i]? with
  | none => simp
  | some o3 => simp [St.bG, St.aS]
theorem adg : eG = fun p x => f72 p (f81 x.1 x.2.1) := by
  funext p x σ
  unfold eG
  rw [ad8]; rfl
theorem eq_37 : nY = f37 := by
  funext p x σ
  unfold nY f37
  simp only [CE, adg, List.getElem?_concat_length, Option.bind_some]
  rfl
noncomputable def QG (p0 : List UInt8) (self : (Int) → Option (Sum Int Bool)) (s : (Int)) : Option (Sum Int Bool) :=
  if (decide (s < (p0.length : Int))) = true then
  if (0 : Int) ≤ s ∧ s < (p0.length : Int) then
  if (decide ((btS p0 s) < 97)) = true then
  some (.inr false)
  else
  if (0 : Int) ≤ s ∧ s < (p0.length : Int) then
  if (decide ((btS p0 s) > 122)) = true then
  some (.inr false)
  else
  self (IntKind.wrap .i64 (s + 1))
  else none
  else none
  else
  some (.inl s)
theorem abe (p0 : List UInt8) (self : (Int) → Option (Sum Int Bool)) (s : (Int)) : (QG p0 self s).map (Sum.map (fun _ => ()) id) = (uF p0 s).bind (Sum.elim (fun y => (self y).map (Sum.map (fun _ => ()) id)) some) := by
  unfold QG uF
  repeat' (first | rfl | refine bmd fun _ => ?_ | refine bmb fun _ => ?_ | refine itm Iff.rfl (fun _ => ?_) (fun _ => ?_))
  rename_i h1 h2
  by_cases h3 : btS p0 s < 97
  · simp [h3]
  · simp only [h3, decide_false, Bool.false_eq_true, if_false, Bool.not_false, h2, and_self, implies_true, if_true, Bool.false_or]
    repeat' (first | rfl | refine bmd fun _ => ?_ | refine bmb fun _ => ?_ | refine itm Iff.rfl (fun _ => ?_) (fun _ => ?_))
theorem aaE (p0 : List UInt8) (s : (Int)) : aY (uF p0) s = (vU p0 s).map (Sum.map (fun _ => ()) id) :=
  sK (g := fun s => vU p0 s) (QG p0) (abe p0) (fun s => by show vU p0 s = _; rw [vU]; rfl)
    (fun M h s r => vU.partial_correctness p0 (fun a0 r => M (a0) r) (fun self ih a0 r hx => h (fun s => self s) (fun s r hr => ih s r hr) (a0) r hx) s r) s
theorem MK : zD = f95 := by
  funext p0
  unfold zD f95
  rw [aaE]
  cases vU p0 0 with
  | none => rfl
  | some x => cases x <;> rfl
noncomputable def Lm (p0 : List UInt8) (self : (Int) × (Int) → Option (Sum (Int × Int) Int)) (s : (Int) × (Int)) : Option (Sum (Int × Int) Int) :=
  if (decide (s.2 < (p0.length : Int))) = true then
  if (0 : Int) ≤ s.2 ∧ s.2 < (p0.length : Int) then
  if (decide ((btS p0 s.2) < 48)) = true then
  some (.inr (-1))
  else
  if (0 : Int) ≤ s.2 ∧ s.2 < (p0.length : Int) then
  if ((decide ((btS p0 s.2) > 57)) || (decide (s.1 > 1099511627776))) = true then
  some (.inr (-1))
  else
  if (0 : Int) ≤ s.2 ∧ s.2 < (p0.length : Int) then
  self ((IntKind.wrap .i64 ((IntKind.wrap .i64 (s.1 * 10)) + (IntKind.wrap .i64 (IntKind.wrap .u8 ((btS p0 s.2) - 48))))), (IntKind.wrap .i64 (s.2 + 1)))
  else none
  else none
  else none
  else
  some (.inl (s.1, s.2))
theorem YH (p0 : List UInt8) (self : (Int) × (Int) → Option (Sum (Int × Int) Int)) (s : (Int) × (Int)) : (Lm p0 self s).map (Sum.map (fun r => r.1) id) = (sH p0 s).bind (Sum.elim (fun y => (self y).map (Sum.map (fun r => r.1) id)) some) := by
  unfold Lm sH
  repeat' (first | rfl | refine bmd fun _ => ?_ | refine bmb fun _ => ?_ | refine itm Iff.rfl (fun _ => ?_) (fun _ => ?_))
  rename_i h1 h2
  by_cases h3 : btS p0 s.2 < 48
  · simp [h3]
  · simp only [h3, decide_false, Bool.false_eq_true, if_false, Bool.not_false, h2, and_self, implies_true, if_true, Bool.false_or]
    repeat' (first | rfl | refine bmd fun _ => ?_ | refine bmb fun _ => ?_ | refine itm Iff.rfl (fun _ => ?_) (fun _ => ?_))
theorem Yn (p0 : List UInt8) (s : (Int) × (Int)) : aY (sH p0) s = (wI p0 s.1 s.2).map (Sum.map (fun r => r.1) id) :=
  sK (g := fun s => wI p0 s.1 s.2) (Lm p0) (YH p0) (fun s => by show wI p0 s.1 s.2 = _; rw [wI]; rfl)
    (fun M h s r => wI.partial_correctness p0 (fun a0 a1 r => M (a0, a1) r) (fun self ih a0 a1 r hx => h (fun s => self s.1 s.2) (fun s r hr => ih s.1 s.2 r hr) (a0, a1) r hx) s.1 s.2 r) s
theorem DR : uG = f140 := by
  funext p0
  unfold uG f140
  rw [Yn]
  refine nU fun x => ?_
  cases x with
  | inr y => rfl
  | inl y =>
    show (if _ then _ else _) = _
    cases h : p0 == [] with
    | true => simp
    | false => simp [jR]
theorem FW : nI = f97 := by
  funext p σ
  unfold nI f97
  rcases p with _ | i
  · rfl
  cases h2 : σ.ak[i]? with
  | none => simp [h2]
  | some o => simp [h2]
theorem CB : jc = f55 := by
  funext p σ
  unfold jc f55
  rw [FW]
  rcases p with _ | i
  · rfl
  cases h2 : σ.ak[i]? with
  | none => simp [h2]
  | some o =>
    simp only [Option.isNone_some, Bool.not_false, if_true, Option.bind_some, h2, Bool.false_or, Bool.false_eq_true, if_false]
    show _ = Option.bind (some i) fun i => Option.bind σ.ak[i]? fun o => _
    simp only [Option.bind_some, h2]
    split
    · rfl
    refine bbb fun r => ?_
    cases r with
    | none => rfl
    | some j => exact bbd fun _ => rfl
theorem DW : gY = f98 := by
  funext a0 a1 a2
  unfold gY f98
  try simp only [eq_18, DU, FV, eq_24, eq_27, CE, eq_28, eq_31, eq_32, eq_33, eq_35, eq_37, MK, DR, FW, CB]
  rfl
theorem FU : jL = f61 := by
  funext p0 σ
  unfold jL f61
  simp only [DW, eq_33, FW, CB]
  rcases p0 with _ | i
  · rfl
  refine itb Iff.rfl (fun _ => rfl) fun _ => bbb fun r7 => ?_
  by_cases h : (!r7.isNone) = true
  · simp only [if_pos h]
    show (Option.bind (Option.bind (some i) _) _) = Option.bind (some i) _
    simp only [Option.bind_some, Option.bind_assoc]
    refine bbb fun o => bbb fun r12 => bbb fun r13 => ?_
    by_cases h2 : (r13.1 != 0) = true
    · simp only [if_pos h2]; rfl
    · simp only [if_neg h2]; rfl
  · simp only [if_neg h]; rfl
theorem MH : rM = f110 := by
  funext a0
  unfold rM f110
  try simp only [eq_18, DU, FV, eq_24, eq_27, CE, eq_28, eq_31, eq_32, eq_33, eq_35, eq_37, MK, DR, FW, CB, DW, FU]
  rfl
noncomputable def Lp  (self : (Int) × (Int) → Option (Int × Int)) (s : (Int) × (Int)) : Option (Int × Int) :=
  if (decide (s.2 < 8)) = true then
  if ((IntKind.wrap .u32 ((BitVec.ofInt (IntKind.bits .u32) s.1 &&& BitVec.ofInt (IntKind.bits .u32) 1).toNat)) == 1) = true then
  self ((IntKind.wrap .u32 ((BitVec.ofInt (IntKind.bits .u32) (Int.fdiv s.1 (2 ^ 1)) ^^^ BitVec.ofInt (IntKind.bits .u32) 2197175160).toNat)), (IntKind.wrap .i64 (s.2 + 1)))
  else
  self ((Int.fdiv s.1 (2 ^ 1)), (IntKind.wrap .i64 (s.2 + 1)))
  else
  some ((s.1, s.2))
theorem YI  (self : (Int) × (Int) → Option (Int × Int)) (s : (Int) × (Int)) : (Lp  self s).map (fun r => r.1) = (nV s).bind (Sum.elim (fun y => (self y).map (fun r => r.1)) some) := by
  unfold Lp nV
  repeat' (first | rfl | refine bmd fun _ => ?_ | refine bmb fun _ => ?_ | refine itm Iff.rfl (fun _ => ?_) (fun _ => ?_))
theorem Yo  (s : (Int) × (Int)) : aY (nV) s = (qI s.1 s.2).map (fun r => r.1) :=
  sK (g := fun s => qI s.1 s.2) (Lp ) (YI ) (fun s => by show qI s.1 s.2 = _; rw [qI]; rfl)
    (fun M h s r => qI.partial_correctness  (fun a0 a1 r => M (a0, a1) r) (fun self ih a0 a1 r hx => h (fun s => self s.1 s.2) (fun s r hr => ih s.1 s.2 r hr) (a0, a1) r hx) s.1 s.2 r) s
theorem Jd : rZ = f151 := by
  funext p0 p1
  unfold rZ f151
  rw [Yo]
  show Option.bind (Option.map _ (qI (IntKind.wrap .u32 ((BitVec.ofInt (IntKind.bits .u32) p0 ^^^ BitVec.ofInt (IntKind.bits .u32) (IntKind.wrap .u32 (p1))).toNat)) 0)) _ = _
  cases qI (IntKind.wrap .u32 ((BitVec.ofInt (IntKind.bits .u32) p0 ^^^ BitVec.ofInt (IntKind.bits .u32) (IntKind.wrap .u32 (p1))).toNat)) 0 <;> rfl
noncomputable def Ll (p1 : List UInt8) (self : (Int) × (Int) → Option (Int × Int)) (s : (Int) × (Int)) : Option (Int × Int) :=
  if (decide (s.2 < (p1.length : Int))) = true then
  if (0 : Int) ≤ s.2 ∧ s.2 < (p1.length : Int) then
  f151 s.1 (btS p1 s.2) >>= fun r16 =>
  self (r16, (IntKind.wrap .i64 (s.2 + 1)))
  else none
  else
  some ((s.1, s.2))
theorem YG (p1 : List UInt8) (self : (Int) × (Int) → Option (Int × Int)) (s : (Int) × (Int)) : (Ll p1 self s).map (fun r => r.1) = (rW p1 s).bind (Sum.elim (fun y => (self y).map (fun r => r.1)) some) := by
  unfold Ll rW
  rw [Jd]
  repeat' (first | rfl | refine bmd fun _ => ?_ | refine bmb fun _ => ?_ | refine itm Iff.rfl (fun _ => ?_) (fun _ => ?_))
theorem Ym (p1 : List UInt8) (s : (Int) × (Int)) : aY (rW p1) s = (wH p1 s.1 s.2).map (fun r => r.1) :=
  sK (g := fun s => wH p1 s.1 s.2) (Ll p1) (YG p1) (fun s => by show wH p1 s.1 s.2 = _; rw [wH]; rfl)
    (fun M h s r => wH.partial_correctness p1 (fun a0 a1 r => M (a0, a1) r) (fun self ih a0 a1 r hx => h (fun s => self s.1 s.2) (fun s r hr => ih s.1 s.2 r hr) (a0, a1) r hx) s.1 s.2 r) s
theorem MJ : xW = f138 := by
  funext p0 p1
  unfold xW f138
  rw [Ym]
  exact nU fun _ => rfl
theorem Q8 : wO = f111 := by
  funext a0
  unfold wO f111
  try simp only [eq_18, DU, FV, eq_24, eq_27, CE, eq_28, eq_31, eq_32, eq_33, eq_35, eq_37, MK, DR, FW, CB, DW, FU, MH, Jd, MJ]
  rfl
theorem Q7 : xX = f108 := by
  funext a0
  unfold xX f108
  try simp only [eq_18, DU, FV, eq_24, eq_27, CE, eq_28, eq_31, eq_32, eq_33, eq_35, eq_37, MK, DR, FW, CB, DW, FU, MH, Jd, MJ, Q8]
  rfl
noncomputable def Lj (p0 : List UInt8) (p1 : Int) (self : (Int) × (Int) → Option (Sum (Int × Int) (Int × Int × Int))) (s : (Int) × (Int)) : Option (Sum (Int × Int) (Int × Int × Int)) :=
  if (decide ((IntKind.wrap .i64 (p1 + s.2)) < (p0.length : Int))) = true then
  if (0 : Int) ≤ (IntKind.wrap .i64 (p1 + s.2)) ∧ (IntKind.wrap .i64 (p1 + s.2)) < (p0.length : Int) then
  if ((s.2 == 9) && (decide ((btS p0 (IntKind.wrap .i64 (p1 + s.2))) > 1))) = true then
  some (.inr (0, 0, 6))
  else
  if (0 : Int) ≤ (IntKind.wrap .i64 (7 * s.2)) then
  if (decide ((btS p0 (IntKind.wrap .i64 (p1 + s.2))) ≥ 128)) = true then
  self ((IntKind.wrap .u64 ((BitVec.ofInt (IntKind.bits .u64) s.1 ||| BitVec.ofInt (IntKind.bits .u64) (IntKind.wrap .u64 ((IntKind.wrap .u64 (IntKind.wrap .u8 ((BitVec.ofInt (IntKind.bits .u8) (btS p0 (IntKind.wrap .i64 (p1 + s.2))) &&& BitVec.ofInt (IntKind.bits .u8) 127).toNat))) * 2 ^ (min (Int.toNat (IntKind.wrap .i64 (7 * s.2))) (IntKind.bits .u64))))).toNat)), (IntKind.wrap .i64 (s.2 + 1)))
  else
  if (((btS p0 (IntKind.wrap .i64 (p1 + s.2))) == 0) && (decide (s.2 > 0))) = true then
  some (.inr (0, 0, 6))
  else
  (if ((IntKind.wrap .u64 ((BitVec.ofInt (IntKind.bits .u64) (IntKind.wrap .u64 ((BitVec.ofInt (IntKind.bits .u64) s.1 ||| BitVec.ofInt (IntKind.bits .u64) (IntKind.wrap .u64 ((IntKind.wrap .u64 (IntKind.wrap .u8 ((BitVec.ofInt (IntKind.bits .u8) (btS p0 (IntKind.wrap .i64 (p1 + s.2))) &&& BitVec.ofInt (IntKind.bits .u8) 127).toNat))) * 2 ^ (min (Int.toNat (IntKind.wrap .i64 (7 * s.2))) (IntKind.bits .u64))))).toNat)) &&& BitVec.ofInt (IntKind.bits .u64) 1).toNat)) == 1) = true then
  some (IntKind.wrap .i64 ((BitVec.ofInt (IntKind.bits .i64) (if IntKind.signed .i64 = true then -1 else IntKind.max .i64) ^^^ BitVec.ofInt (IntKind.bits .i64) (IntKind.wrap .i64 (Int.fdiv (IntKind.wrap .u64 ((BitVec.ofInt (IntKind.bits .u64) s.1 ||| BitVec.ofInt (IntKind.bits .u64) (IntKind.wrap .u64 ((IntKind.wrap .u64 (IntKind.wrap .u8 ((BitVec.ofInt (IntKind.bits .u8) (btS p0 (IntKind.wrap .i64 (p1 + s.2))) &&& BitVec.ofInt (IntKind.bits .u8) 127).toNat))) * 2 ^ (min (Int.toNat (IntKind.wrap .i64 (7 * s.2))) (IntKind.bits .u64))))).toNat)) (2 ^ 1)))).toNat))
  else
  some (IntKind.wrap .i64 (Int.fdiv (IntKind.wrap .u64 ((BitVec.ofInt (IntKind.bits .u64) s.1 ||| BitVec.ofInt (IntKind.bits .u64) (IntKind.wrap .u64 ((IntKind.wrap .u64 (IntKind.wrap .u8 ((BitVec.ofInt (IntKind.bits .u8) (btS p0 (IntKind.wrap .i64 (p1 + s.2))) &&& BitVec.ofInt (IntKind.bits .u8) 127).toNat))) * 2 ^ (min (Int.toNat (IntKind.wrap .i64 (7 * s.2))) (IntKind.bits .u64))))).toNat)) (2 ^ 1))) : Option Int) >>= fun z33 =>
  some (.inr (z33, IntKind.wrap .i64 ((IntKind.wrap .i64 (p1 + s.2)) + 1), 0))
  else none
  else none
  else
  some (.inl (s.1, s.2))
theorem YF (p0 : List UInt8) (p1 : Int) (self : (Int) × (Int) → Option (Sum (Int × Int) (Int × Int × Int))) (s : (Int) × (Int)) : (Lj p0 p1 self s).map (Sum.map (fun _ => ()) id) = (kP p0 p1 s).bind (Sum.elim (fun y => (self y).map (Sum.map (fun _ => ()) id)) some) := by
  unfold Lj kP
  repeat' (first | rfl | refine bmd fun _ => ?_ | refine bmb fun _ => ?_ | refine itm Iff.rfl (fun _ => ?_) (fun _ => ?_))
theorem Yl (p0 : List UInt8) (p1 : Int) (s : (Int) × (Int)) : aY (kP p0 p1) s = (pg p0 p1 s.1 s.2).map (Sum.map (fun _ => ()) id) :=
  sK (g := fun s => pg p0 p1 s.1 s.2) (Lj p0 p1) (YF p0 p1) (fun s => by show pg p0 p1 s.1 s.2 = _; rw [pg]; rfl)
    (fun M h s r => pg.partial_correctness p0 p1 (fun a0 a1 r => M (a0, a1) r) (fun self ih a0 a1 r hx => h (fun s => self s.1 s.2) (fun s r hr => ih s.1 s.2 r hr) (a0, a1) r hx) s.1 s.2 r) s
theorem MI : fK = f113 := by
  funext p0 p1
  unfold fK f113
  simp only [Yl]
  split
  · rfl
  refine nU fun x => ?_
  cases x <;> rfl
noncomputable def QF  (self : (Int) × (jZ.den) × (Int) → Option (jZ.den × Int × Int)) (s : (Int) × (jZ.den) × (Int)) : Option (jZ.den × Int × Int) :=
  if (decide (s.1 ≥ 128)) = true then
  if (0 : Int) ≤ s.2.2 ∧ s.2.2 < (10 : Nat) then
  self ((Int.fdiv s.1 (2 ^ 7)), (zh jZ s.2.1 (Int.toNat s.2.2) (IntKind.wrap .u8 ((BitVec.ofInt (IntKind.bits .u8) (IntKind.wrap .u8 (s.1)) ||| BitVec.ofInt (IntKind.bits .u8) 128).toNat))), (IntKind.wrap .i64 (s.2.2 + 1)))
  else none
  else
  some ((s.2.1, s.1, s.2.2))
theorem abd  (self : (Int) × (jZ.den) × (Int) → Option (jZ.den × Int × Int)) (s : (Int) × (jZ.den) × (Int)) : (QF  self s).map (fun r => (r.2.1, r.1, r.2.2)) = (nZ s).bind (Sum.elim (fun y => (self y).map (fun r => (r.2.1, r.1, r.2.2))) some) := by
  unfold QF nZ
  repeat' (first | rfl | refine bmd fun _ => ?_ | refine bmb fun _ => ?_ | refine itm Iff.rfl (fun _ => ?_) (fun _ => ?_))
theorem aaD  (s : (Int) × (jZ.den) × (Int)) : aY (nZ) s = (BH s.2.1 s.1 s.2.2).map (fun r => (r.2.1, r.1, r.2.2)) :=
  sK (g := fun s => BH s.2.1 s.1 s.2.2) (QF ) (abd ) (fun s => by show BH s.2.1 s.1 s.2.2 = _; rw [BH]; rfl)
    (fun M h s r => BH.partial_correctness  (fun a0 a1 a2 r => M (a1, a0, a2) r) (fun self ih a0 a1 a2 r hx => h (fun s => self s.2.1 s.1 s.2.2) (fun s r hr => ih s.2.1 s.1 s.2.2 r hr) (a1, a0, a2) r hx) s.2.1 s.1 s.2.2 r) s
theorem TD : eP = f90 := by
  funext p0
  unfold eP f90
  refine bbb fun z => ?_
  rw [aaD]
  refine nU fun z => ?_
  refine itb Iff.rfl (fun h => ?_) (fun _ => rfl)
  refine itb Iff.rfl (fun h2 => ?_) (fun _ => rfl)
  rw [if_pos (by obtain ⟨h3, h4⟩ := h2; omega)]
  rfl
theorem WV : EU = f94 := by
  funext p0 p1 p2
  unfold EU f94
  simp only [MI, Q7, TD]
  refine bbb fun r3 => itb Iff.rfl (fun _ => rfl) fun _ => itb Iff.rfl (fun _ => ?_) (fun _ => rfl)
  refine bbb fun r9 => itb Iff.rfl (fun _ => rfl) fun _ => bbb fun r14 => ?_
  by_cases h : (r9.1.length : Int) < (r14.length : Int)
  · simp [h]
  · have h1 : (r14.length : Int) ≤ (r9.1.length : Int) := by omega
    simp [h, h1]
noncomputable def QC (p0 : List UInt8) (p1 : Int) (self : (List (List UInt8)) × (Int) → Option ((List (List UInt8)) × Int)) (s : (List (List UInt8)) × (Int)) : Option ((List (List UInt8)) × Int) :=
  if (decide (p1 ≥ 0)) = true then
  f94 p0 s.2 (IntKind.wrap .i64 (p1 + (s.1.length : Int))) >>= fun r16 =>
  if (!r16.2.2) = true then
  some ((s.1, s.2))
  else
  if (s.1.length + 1) * 16 ≤ 140737488355328 then
  self ((s.1 ++ [r16.1]), r16.2.1)
  else none
  else
  some ((s.1, s.2))
theorem aa9 (p0 : List UInt8) (p1 : Int) (self : (List (List UInt8)) × (Int) → Option ((List (List UInt8)) × Int)) (s : (List (List UInt8)) × (Int)) : (QC p0 p1 self s).map (fun r => r) = (uD p0 p1 s).bind (Sum.elim (fun y => (self y).map (fun r => r)) some) := by
  unfold QC uD
  rw [WV]
  repeat' (first | rfl | refine bmd fun _ => ?_ | refine bmb fun _ => ?_ | refine itm Iff.rfl (fun _ => ?_) (fun _ => ?_))
theorem aaA (p0 : List UInt8) (p1 : Int) (s : (List (List UInt8)) × (Int)) : aY (uD p0 p1) s = (zT p0 p1 s.1 s.2).map (fun r => r) :=
  sK (g := fun s => zT p0 p1 s.1 s.2) (QC p0 p1) (aa9 p0 p1) (fun s => by show zT p0 p1 s.1 s.2 = _; rw [zT]; rfl)
    (fun M h s r => zT.partial_correctness p0 p1 (fun a0 a1 r => M (a0, a1) r) (fun self ih a0 a1 r hx => h (fun s => self s.1 s.2) (fun s r hr => ih s.1 s.2 r hr) (a0, a1) r hx) s.1 s.2 r) s
theorem WT : zC = f49 := by
  funext p0 p1
  unfold zC f49
  rw [aaA]
  exact nU fun _ => rfl
theorem Q9 : uC = f115 := by
  funext p0 p1 σ
  unfold uC f115
  simp only [DW, eq_28, WT]
  cases p0 <;> simp [St.aZ, St.az, St.ay]
noncomputable def QH (p0 : Option Nat) (r3 : List Int) (self : (Int) × (Int) × (Int) × (St) → Option (Sum (Int × Int × Int × St) (Int × St))) (s : (Int) × (Int) × (Int) × (St)) : Option (Sum (Int × Int × Int × St) (Int × St)) :=
  if (decide (s.2.2.1 < (r3.length : Int))) = true then
  (ix r3 s.2.2.1) >>= fun x19 =>
  if (decide (s.2.2.1 > 0)) = true then
  if (decide (s.1 > 0)) = true then
  some (.inl (s.1, s.2.1, s.2.2.1, s.2.2.2))
  else
  f55 p0 s.2.2.2 >>= fun r22 =>
  if (x19 != r22) = true then
  some (.inl (s.1, s.2.1, s.2.2.1, s.2.2.2))
  else
  f115 p0 x19 s.2.2.2 >>= fun r24 =>
  if (r24.1.2.2 != 0) = true then
  some (.inr (r24.1.2.2, r24.2))
  else
  p0 >>= fun i29 =>
  (r24.2.ak[i29]?) >>= fun o30 =>
  if (o30.2.2.2.1.length + 1) * 8 ≤ 140737488355328 then
  self (r24.1.2.1, (IntKind.wrap .i64 (s.2.2.1 + 1)), (IntKind.wrap .i64 (s.2.2.1 + 1)), (r24.2.bu i29 (o30.1, o30.2.1, o30.2.2.1, o30.2.2.2.1 ++ [r24.1.1], o30.2.2.2.2.1, ())))
  else none
  else
  f115 p0 x19 s.2.2.2 >>= fun r35 =>
  if (r35.1.2.2 != 0) = true then
  some (.inr (r35.1.2.2, r35.2))
  else
  p0 >>= fun i40 =>
  (r35.2.ak[i40]?) >>= fun o41 =>
  if (o41.2.2.2.1.length + 1) * 8 ≤ 140737488355328 then
  self (r35.1.2.1, (IntKind.wrap .i64 (s.2.2.1 + 1)), (IntKind.wrap .i64 (s.2.2.1 + 1)), (r35.2.bu i40 (o41.1, o41.2.1, o41.2.2.1, o41.2.2.2.1 ++ [r35.1.1], o41.2.2.2.2.1, ())))
  else none
  else
  some (.inl (s.1, s.2.1, s.2.2.1, s.2.2.2))
theorem abf (p0 : Option Nat) (r3 : List Int) (self : (Int) × (Int) × (Int) × (St) → Option (Sum (Int × Int × Int × St) (Int × St))) (s : (Int) × (Int) × (Int) × (St)) : (QH p0 r3 self s).map (Sum.map (fun r => (r.1, r.2.1, r.2.2.2)) id) = (mf p0 r3 s).bind (Sum.elim (fun y => (self y).map (Sum.map (fun r => (r.1, r.2.1, r.2.2.2)) id)) some) := by
  unfold QH mf
  simp only [CB, Q9]
  refine itm Iff.rfl (fun _ => ?_) (fun _ => rfl)
  refine bmb fun x => ?_
  have tail : ∀ r : ((Option Nat) × Int × Int) × St, Option.map (Sum.map (fun r : Int × Int × Int × St => (r.1, r.2.1, r.2.2.2)) id) (if (r.1.2.2 != 0) = true then some (.inr (r.1.2.2, r.2)) else p0 >>= fun i29 => (r.2.ak[i29]?) >>= fun o30 => if (o30.2.2.2.1.length + 1) * 8 ≤ 140737488355328 then self (r.1.2.1, (IntKind.wrap .i64 (s.2.2.1 + 1)), (IntKind.wrap .i64 (s.2.2.1 + 1)), (r.2.bu i29 (o30.1, o30.2.1, o30.2.2.1, o30.2.2.2.1 ++ [r.1.1], o30.2.2.2.2.1, ()))) else none) =
      Option.bind (if (r.1.2.2 != 0) = true then some (.inr (.inr (r.1.2.2, r.2))) else Option.bind p0 fun x5 => Option.bind r.2.ak[x5]? fun x6 => if ((x6.2.2.2.1.length + 1) * 8) ≤ 140737488355328 then Option.bind p0 fun x7 => Option.bind r.2.ak[x7]? fun x8 => if x5 = x7 ∧ true = true then some (.inl (r.1.2.1, (IntKind.wrap .i64 (s.2.2.1 + 1), (IntKind.wrap .i64 (s.2.2.1 + 1), (r.2.qE (r.2.ak.set x7 (x8.1, (x8.2.1, (x8.2.2.1, ((x6.2.2.2.1 ++ [r.1.1]), x8.2.2.2.2)))))))))) else none else none) (Sum.elim (fun y => (self y).map (Sum.map (fun r : Int × Int × Int × St => (r.1, r.2.1, r.2.2.2)) id)) some) := by
    intro r
    refine itm Iff.rfl (fun _ => rfl) (fun _ => ?_)
    rcases p0 with _ | i
    · rfl
    show Option.map _ (Option.bind (some i) _) = Option.bind (Option.bind (some i) _) _
    simp only [Option.bind_some]
    cases h : r.2.ak[i]? with
    | none => rfl
    | some o =>
      show Option.map _ (ite _ _ _) = Option.bind (ite _ _ _) _
      refine itm Iff.rfl (fun _ => ?_) (fun _ => rfl)
      simp only [and_self, if_true]; rfl
  by_cases h9 : s.2.2.1 > 0
  · by_cases h7 : s.1 > 0
    · simp [h9, h7]
    · simp only [h9, h7, decide_true, decide_false, if_true, Bool.not_false, Bool.and_self, Bool.false_eq_true, if_false, Bool.false_or, Bool.true_and]
      refine bmb fun r22 => itm Iff.rfl (fun _ => rfl) fun _ => ?_
      exact bmb fun r => by have t := tail r; simp only [and_true] at t ⊢; exact t
  · simp only [h9, decide_false, Bool.false_eq_true, if_false, Bool.false_and]
    show Option.map _ (Option.bind _ _) = Option.bind (Option.bind (some 0) _) _
    rw [Option.bind_some]
    exact bmb fun r => by have t := tail r; simp only [and_true] at t ⊢; exact t
theorem aaF (p0 : Option Nat) (r3 : List Int) (s : (Int) × (Int) × (Int) × (St)) : aY (mf p0 r3) s = (rC p0 r3 s.1 s.2.1 s.2.2.1 s.2.2.2).map (Sum.map (fun r => (r.1, r.2.1, r.2.2.2)) id) :=
  sK (g := fun s => rC p0 r3 s.1 s.2.1 s.2.2.1 s.2.2.2) (QH p0 r3) (abf p0 r3) (fun s => by show rC p0 r3 s.1 s.2.1 s.2.2.1 s.2.2.2 = _; rw [rC]; rfl)
    (fun M h s r => rC.partial_correctness p0 r3 (fun a0 a1 a2 a3 r => M (a0, a1, a2, a3) r) (fun self ih a0 a1 a2 a3 r hx => h (fun s => self s.1 s.2.1 s.2.2.1 s.2.2.2) (fun s r hr => ih s.1 s.2.1 s.2.2.1 s.2.2.2 r hr) (a0, a1, a2, a3) r hx) s.1 s.2.1 s.2.2.1 s.2.2.2 r) s
noncomputable def QI (p0 : Option Nat) (r3 : List Int) (z45 : Int × Int × Int × St) (o49 : aA dD) (self : (Int) × (St) → Option (Sum (Int × St) (Int × St))) (s : (Int) × (St)) : Option (Sum (Int × St) (Int × St)) :=
  if (decide (s.1 ≥ z45.2.1)) = true then
  (ix r3 s.1) >>= fun x62 =>
  f98 p0 (some s.2.ae.length) (s.2.az (x62, [], 0, ())) >>= fun r63 =>
  f37 o49.1 r63 (s.2.az (x62, [], 0, ())) >>= fun r64 =>
  if (r64.1 != 0) = true then
  some (.inr (r64.1, r64.2))
  else
  self ((IntKind.wrap .i64 (s.1 - 1)), r64.2)
  else
  some (.inl (s.1, s.2))
theorem abg (p0 : Option Nat) (r3 : List Int) (z45 : Int × Int × Int × St) (o49 : aA dD) (self : (Int) × (St) → Option (Sum (Int × St) (Int × St))) (s : (Int) × (St)) : (QI p0 r3 z45 o49 self s).map (Sum.map (fun r => r.2) id) = (jM p0 r3 (z45.1, z45.2.1, z45.2.2.2) o49 s).bind (Sum.elim (fun y => (self y).map (Sum.map (fun r => r.2) id)) some) := by
  unfold QI jM
  simp only [DW, eq_37]
  repeat' (first | rfl | refine bmd fun _ => ?_ | refine bmb fun _ => ?_ | refine itm Iff.rfl (fun _ => ?_) (fun _ => ?_))
theorem aaG (p0 : Option Nat) (r3 : List Int) (z45 : Int × Int × Int × St) (o49 : aA dD) (s : (Int) × (St)) : aY (jM p0 r3 (z45.1, z45.2.1, z45.2.2.2) o49) s = (BI p0 r3 z45 o49 s.1 s.2).map (Sum.map (fun r => r.2) id) :=
  sK (g := fun s => BI p0 r3 z45 o49 s.1 s.2) (QI p0 r3 z45 o49) (abg p0 r3 z45 o49) (fun s => by show BI p0 r3 z45 o49 s.1 s.2 = _; rw [BI]; rfl)
    (fun M h s r => BI.partial_correctness p0 r3 z45 o49 (fun a0 a1 r => M (a0, a1) r) (fun self ih a0 a1 r hx => h (fun s => self s.1 s.2) (fun s r hr => ih s.1 s.2 r hr) (a0, a1) r hx) s.1 s.2 r) s
theorem ZK : pG = f96 := by
  funext p0 σ
  unfold pG f96
  simp only [aaF]
  refine bbb fun r3 => ?_
  refine nU fun x => ?_
  cases x with
  | inr y => rfl
  | inl z =>
    rcases p0 with _ | i
    · rfl
    refine bbb fun o => ?_
    show Option.bind (aY (jM (some i) r3 (z.1, z.2.1, z.2.2.2) o) (_, _)) _ = _
    rw [aaG]
    refine nU fun x => ?_
    cases x with
    | inr y => rfl
    | inl y =>
      refine itb Iff.rfl (fun _ => rfl) fun _ => ?_
      show Option.bind (some i) _ = Option.bind (some i) _
      simp only [Option.bind_some]
      cases h : y.2.ak[i]? with
      | none => rfl
      | some q =>
        show Option.bind (ix q.2.2.2.1 _) _ = Option.bind (ix q.2.2.2.1 _) _
        refine bbb fun x75 => itb Iff.rfl (fun _ => ?_) (fun _ => ?_)
        · show Option.bind (gY _ _ _) _ = _
          simp only [DW, eq_35, FU]
          rfl
        · simp only [FU]; rfl
theorem ZI : BJ = f53 := by
  funext a0 a1 a2 a3
  unfold BJ f53
  try simp only [eq_18, DU, FV, eq_24, eq_27, CE, eq_28, eq_31, eq_32, eq_33, eq_35, eq_37, MK, DR, FW, CB, DW, FU, MH, Jd, MJ, Q8, Q7, MI, TD, WV, WT, Q9, ZK]
  rfl
theorem WU : lU = f54 := by
  funext p σ
  unfold lU f54
  rcases p with _ | i
  · rfl
  cases h2 : σ.ak[i]? with
  | none => simp [h2]
  | some o => simp [h2]
noncomputable def QD (p0 : Option Nat) (p1 : Int) (σ : St) (self : (Int) → Option (Int)) (s : (Int)) : Option (Int) :=
  p0 >>= fun i22 =>
  (σ.ak[i22]?) >>= fun o23 =>
  (ix o23.2.2.2.1 s) >>= fun x24 =>
  x24 >>= fun i25 =>
  (σ.ae[i25]?) >>= fun o26 =>
  if (decide (o26.1 > p1)) = true then
  self (IntKind.wrap .i64 (s - 1))
  else
  some (s)
theorem aba (p0 : Option Nat) (p1 : Int) (σ : St) (self : (Int) → Option (Int)) (s : (Int)) : (QD p0 p1 σ self s).map (fun r => r) = (pF p0 p1 σ s).bind (Sum.elim (fun y => (self y).map (fun r => r)) some) := by
  unfold QD pF
  repeat' (first | rfl | refine bmd fun _ => ?_ | refine bmb fun _ => ?_ | refine itm Iff.rfl (fun _ => ?_) (fun _ => ?_))
theorem aaB (p0 : Option Nat) (p1 : Int) (σ : St) (s : (Int)) : aY (pF p0 p1 σ) s = (zU p0 p1 σ s).map (fun r => r) :=
  sK (g := fun s => zU p0 p1 σ s) (QD p0 p1 σ) (aba p0 p1 σ) (fun s => by show zU p0 p1 σ s = _; rw [zU]; rfl)
    (fun M h s r => zU.partial_correctness p0 p1 σ (fun a0 r => M (a0) r) (fun self ih a0 r hx => h (fun s => self s) (fun s r hr => ih s r hr) (a0) r hx) s r) s
theorem ZJ : uB = f58 := by
  funext p0 p1 σ
  unfold uB f58
  simp only [WU, CB, aaB, Option.map_id']
  split
  · rfl
  refine bbb fun r6 => ?_
  split
  · rfl
  refine bbb fun r9 => ?_
  split
  · rfl
  refine bbb fun i => bbb fun o => bbb fun z => ?_
  rcases p0 with _ | j
  · rfl
  cases h : σ.ak[j]? with
  | none => simp [h]
  | some q => simp [h]
theorem ad9 : xY = f89 := by
  funext a0
  unfold xY f89
  try simp only [eq_18, DU, FV, eq_24, eq_27, CE, eq_28, eq_31, eq_32, eq_33, eq_35, eq_37, MK, DR, FW, CB, DW, FU, MH, Jd, MJ, Q8, Q7, MI, TD, WV, WT, Q9, ZK, ZI, WU, ZJ]
  rfl
theorem aea : uH = f99 := by
  funext a0 a1
  unfold uH f99
  try simp only [eq_18, DU, FV, eq_24, eq_27, CE, eq_28, eq_31, eq_32, eq_33, eq_35, eq_37, MK, DR, FW, CB, DW, FU, MH, Jd, MJ, Q8, Q7, MI, TD, WV, WT, Q9, ZK, ZI, WU, ZJ, ad9]
  rfl
theorem ad5 : qO = f59 := by
  funext p0 p1 σ
  unfold qO f59
  simp only [CB, FW, FU, aea, DW, eq_24]
  rcases p0 with _ | i
  · rfl
  refine itb Iff.rfl (fun _ => rfl) fun _ => itb Iff.rfl (fun _ => rfl) fun _ => bbb fun r8 => bbb fun r10 => ?_
  cases r10 with
  | none =>
    simp only [Option.isNone_none, Bool.not_true, Bool.false_eq_true, if_false, if_true, Option.bind_assoc]
    refine bbb fun r17 => ?_
    by_cases h : (r17.1 != 0) = true
    · simp only [if_pos h]; rfl
    · simp only [if_neg h, Option.bind_some, jR]
      refine bbb fun r21 => ?_
      show Option.bind ((r17.2.aZ (r17.2.ae ++ [(r8, [], 0, ())])).ak[i]?) _ = Option.bind ((r17.2.aZ (r17.2.ae ++ [(r8, [], 0, ())])).ak[i]?) _
      refine bbb fun o25 => bbb fun r26 => bbb fun r27 => itb Iff.rfl (fun _ => rfl) fun _ => ?_
      cases h2 : r27.2.ae[r17.2.ae.length]? with
      | none => rfl
      | some o31 =>
        have h3 : r17.2.ae.length < r27.2.ae.length := (List.getElem?_eq_some_iff.1 h2).1
        simp only [Option.bind_some]
        refine itb Iff.rfl (fun _ => ?_) (fun _ => rfl)
        simp only [and_self, if_true, List.getElem?_set_self h3, Option.bind_some]
        show Option.bind r27.2.ak[i]? _ = Option.bind r27.2.ak[i]? _
        cases h4 : r27.2.ak[i]? with
        | none => rfl
        | some o38 =>
          simp only [Option.bind_some]
          refine itb Iff.rfl (fun _ => ?_) (fun _ => rfl)
          rfl
  | some j =>
    simp only [Option.isNone_some, Bool.not_false, Bool.false_eq_true, if_false, if_true, Option.bind_some]
    refine (bbb fun o45 => ?_ : Option.bind σ.ae[j]? _ = Option.bind σ.ae[j]? _)
    show Option.bind σ.ak[i]? _ = Option.bind σ.ak[i]? _
    cases h0 : σ.ak[i]? with
    | none => rfl
    | some o47 =>
    simp only [Option.bind_some]
    show _ = (if _ then _ else _)
    by_cases hd : decide (o45.2.2.1 ≥ o47.2.2.1) = true
    · simp only [if_pos hd, Option.bind_assoc]
      refine bbb fun r52 => ?_
      by_cases h : (r52.1 != 0) = true
      · simp only [if_pos h]; rfl
      · simp only [if_neg h, Option.bind_some, jR]
        refine bbb fun r21 => ?_
        refine bbb fun o25 => bbb fun r26 => bbb fun r27 => itb Iff.rfl (fun _ => rfl) fun _ => ?_
        cases h2 : r27.2.ae[r52.2.ae.length]? with
        | none => rfl
        | some o31 =>
          have h3 : r52.2.ae.length < r27.2.ae.length := (List.getElem?_eq_some_iff.1 h2).1
          simp only [Option.bind_some]
          refine itb Iff.rfl (fun _ => ?_) (fun _ => rfl)
          simp only [and_self, if_true, List.getElem?_set_self h3, Option.bind_some]
          show Option.bind r27.2.ak[i]? _ = Option.bind (Option.bind r27.2.ak[i]? _) _
          cases h4 : r27.2.ak[i]? with
          | none => rfl
          | some o38 =>
            simp only [Option.bind_some]
            show (if _ then _ else _) = Option.bind (if _ then _ else _) _
            split <;> rfl
    · simp only [if_neg hd, Option.bind_some, jR]
      refine bbb fun r81 => ?_
      rw [h0]
      simp only [Option.bind_some]
      refine bbb fun r26 => bbb fun r27 => itb Iff.rfl (fun _ => rfl) fun _ => ?_
      cases h2 : r27.2.ae[j]? with
      | none => rfl
      | some o31 =>
        have h3 : j < r27.2.ae.length := (List.getElem?_eq_some_iff.1 h2).1
        simp only [Option.bind_some]
        refine itb Iff.rfl (fun _ => ?_) (fun _ => rfl)
        simp only [and_self, if_true, List.getElem?_set_self h3, Option.bind_some]
        rfl
end Go.Proofs.YtbnmhjobnepajaaGreat.M


namespace Go.Proofs.YtbnmhjobnepajaaGreat.M

theorem aP {x : Int} (h1 : -9223372036854775808 ≤ x) (h2 : x < 9223372036854775808) : IntKind.wrap .i64 x = x := by
  rw [IntKind.wrap_i64]; omega

noncomputable def okc (c : UInt8) : Bool := (97 ≤ c.toNat && c.toNat ≤ 122) || (48 ≤ c.toNat && c.toNat ≤ 57) || c.toNat == 46 || c.toNat == 45 || c.toNat == 95

noncomputable def Jt (s : List UInt8) : Bool := s.all okc && (0 < s.length && s.length ≤ 24)

theorem BC {s : List UInt8} {n : Nat} (h : n < s.length) : btS s (n : Int) = (s[n].toNat : Int) := by
  simp [btS, h]

theorem TN (s : List UInt8) (hs : s.length < 9223372036854775808) : ∀ (k n : Nat), n + k = s.length → yL s (n : Int) = some (cond ((s.drop n).all okc) (.inl (s.length : Int)) (.inr false))
  | 0, n, h => by
    rw [yL]
    have : n = s.length := by omega
    subst this
    simp
  | k + 1, n, h => by
    rw [yL]
    have hn : n < s.length := by omega
    have ih := TN s hs k (n + 1) (by omega)
    have hw : IntKind.wrap .i64 ((n : Int) + 1) = ((n + 1 : Nat) : Int) := by rw [aP (by omega) (by omega)]; omega
    rw [BC hn, hw, ih]
    have hd : s.drop n = s[n] :: s.drop (n + 1) := by simp
    rw [hd]
    simp only [List.all_cons]
    have h1 : ((n : Int) < (s.length : Int)) := by omega
    have h0 : (0 : Int) ≤ (n : Int) := by omega
    simp only [h1, h0, decide_true, if_true, and_self]
    by_cases hc : okc s[n] = true
    · have : ((((((decide ((s[n].toNat : Int) < 97)) || (decide ((s[n].toNat : Int) > 122))) && ((decide ((s[n].toNat : Int) < 48)) || (decide ((s[n].toNat : Int) > 57)))) && ((s[n].toNat : Int) != 46)) && ((s[n].toNat : Int) != 45)) && ((s[n].toNat : Int) != 95)) = false := by
        unfold okc at hc
        simp only [Bool.or_eq_true, Bool.and_eq_true, decide_eq_true_eq, beq_iff_eq] at hc
        rw [Bool.eq_false_iff]
        simp only [ne_eq, Bool.and_eq_true, Bool.or_eq_true, decide_eq_true_eq, bne_iff_ne]
        omega
      rw [this, hc]
      simp
    · have : ((((((decide ((s[n].toNat : Int) < 97)) || (decide ((s[n].toNat : Int) > 122))) && ((decide ((s[n].toNat : Int) < 48)) || (decide ((s[n].toNat : Int) > 57)))) && ((s[n].toNat : Int) != 46)) && ((s[n].toNat : Int) != 45)) && ((s[n].toNat : Int) != 95)) = true := by
        unfold okc at hc
        simp only [Bool.or_eq_true, Bool.and_eq_true, decide_eq_true_eq, beq_iff_eq] at hc
        simp only [Bool.and_eq_true, Bool.or_eq_true, decide_eq_true_eq, bne_iff_ne]
        omega
      rw [this]
      simp only [Bool.not_eq_true] at hc
      rw [hc]
      simp

theorem adv (s : List UInt8) (hs : s.length < 9223372036854775808) : f71 s = some (Jt s) := by
  unfold f71
  rw [show (0 : Int) = ((0 : Nat) : Int) from rfl, TN s hs s.length 0 (by omega)]
  simp only [List.drop_zero]
  unfold Jt
  by_cases h : s.all okc = true
  · rw [h]; simp
    congr 1
    exact decide_eq_decide.2 (by omega)
  · simp only [Bool.not_eq_true] at h
    rw [h]; simp
theorem jO {α : Type} {l : List α} {n : Nat} (h : n < l.length) : ix l (n : Int) = some l[n] := by
  simp [ix, h]

end Go.Proofs.YtbnmhjobnepajaaGreat.M


namespace Go.Proofs.YtbnmhjobnepajaaGreat.M

theorem w8 (x : Int) : IntKind.wrap .u8 x = x % 256 := by simp [IntKind.wrap, IntKind.bits, IntKind.signed]
theorem w64 (x : Int) : IntKind.wrap .u64 x = x % 18446744073709551616 := by simp [IntKind.wrap, IntKind.bits, IntKind.signed]

theorem Yv : ∀ b : Fin 256, ((BitVec.ofNat 8 b.val) ||| (BitVec.ofNat 8 128)).toNat = b.val % 128 + 128 := by decide +kernel
theorem U4 : ∀ b : Fin 256, ((BitVec.ofNat 8 b.val) &&& (BitVec.ofNat 8 127)).toNat = b.val % 128 := by decide +kernel

theorem wB (w m : Nat) : BitVec.ofInt w (m : Int) = BitVec.ofNat w m := by
  apply BitVec.eq_of_toNat_eq
  simp

theorem aem (x : Nat) : IntKind.wrap .u8 (((BitVec.ofInt (IntKind.bits .u8) (IntKind.wrap .u8 (x : Int)) ||| BitVec.ofInt (IntKind.bits .u8) 128).toNat : Nat) : Int) = ((x % 128 + 128 : Nat) : Int) := by
  have e1 : IntKind.wrap .u8 (x : Int) = ((x % 256 : Nat) : Int) := by rw [w8]; omega
  have h : (BitVec.ofInt 8 ((x % 256 : Nat) : Int) ||| BitVec.ofInt 8 128).toNat = x % 256 % 128 + 128 := by
    rw [wB]; exact Yv ⟨x % 256, Nat.mod_lt _ (by decide)⟩
  have h2 : (BitVec.ofInt (IntKind.bits .u8) ((x % 256 : Nat) : Int) ||| BitVec.ofInt (IntKind.bits .u8) 128).toNat = x % 256 % 128 + 128 := h
  rw [e1, h2, w8]
  omega

theorem Y2 {c : Nat} (hc : c < 256) : IntKind.wrap .u8 (((BitVec.ofInt (IntKind.bits .u8) (c : Int) &&& BitVec.ofInt (IntKind.bits .u8) 127).toNat : Nat) : Int) = ((c % 128 : Nat) : Int) := by
  have h : (BitVec.ofInt 8 (c : Int) &&& BitVec.ofInt 8 127).toNat = c % 128 := by
    rw [wB]; exact U4 ⟨c, hc⟩
  have h2 : (BitVec.ofInt (IntKind.bits .u8) (c : Int) &&& BitVec.ofInt (IntKind.bits .u8) 127).toNat = c % 128 := h
  rw [h2, w8]
  omega

noncomputable def vbI (u : Nat) : List Int := if u < 128 then [(u : Int)] else ((u % 128 + 128 : Nat) : Int) :: vbI (u / 128)
  termination_by u
  decreasing_by omega

theorem oN {u : Nat} (h : u < 128) : vbI u = [(u : Int)] := by rw [vbI, if_pos h]
theorem yx {u : Nat} (h : ¬ u < 128) : vbI u = ((u % 128 + 128 : Nat) : Int) :: vbI (u / 128) := by rw [vbI, if_neg h]

theorem G8 : ∀ {n : Nat} {k : Kd} {x : k.den} {i : Nat} {z : Int}, xH n k = true → i < n → Aj k (zh k x i z) = (Aj k x).set i z
  | 0, _, _, _, _, _, h => by omega
  | n + 1, k, x, i, z, hk, h => by
    unfold xH at hk
    split at hk
    · rename_i h0; cases h0
    · rename_i m b h0
      cases h0
      cases i with
      | zero => simp [zh, Aj]
      | succ i =>
        have ih := G8 (x := x.2) (i := i) (z := z) hk (by omega)
        simp [zh, Aj, ih]
    · cases hk

theorem G7 : ∀ {n : Nat} {k : Kd} {x : k.den}, xH n k = true → (Aj k x).length = n
  | 0, k, x, hk => by
    cases k <;> simp [xH] at hk
    rfl
  | n + 1, k, x, hk => by
    unfold xH at hk
    split at hk
    · rename_i h0; cases h0
    · rename_i m b h0
      cases h0
      have ih := G7 (x := x.2) hk
      simp [Aj, ih]
    · cases hk

theorem take_set {α : Type} {l : List α} {n : Nat} (h : n < l.length) (z : α) : (l.set n z).take (n + 1) = l.take n ++ [z] := by
  rw [List.take_set, List.take_succ_eq_append_getElem h]
  rw [List.set_append_right _ _ (by simp; omega)]
  have : n - (l.take n).length = 0 := by simp; omega
  rw [this]
  rfl

theorem MO : ∀ (k x n : Nat) (y : jZ.den) (pre : List Int), x < 128 ^ (k + 1) → n + k < 10 → (Aj jZ y).take n = pre →
    ∃ y2 : jZ.den, ∃ x2 n2 : Nat, BH y (x : Int) (n : Int) = some (y2, (x2 : Int), (n2 : Int)) ∧ n2 < 10 ∧ x2 < 128 ∧ pre ++ vbI x = (Aj jZ y2).take n2 ++ [(x2 : Int)]
  | k, x, n, y, pre, hx, hn, hp => by
    rw [BH]
    by_cases c : x < 128
    · exact ⟨y, x, n, by rw [if_neg (by simp; omega)], by omega, c, by rw [oN c, hp]⟩
    · rw [if_pos (by simp; omega), if_pos (by omega)]
      have e1 : Int.fdiv (x : Int) (2 ^ 7) = ((x / 128 : Nat) : Int) := by
        rw [Int.fdiv_eq_ediv_of_nonneg _ (by decide)]; norm_cast
      have hw : IntKind.wrap .i64 ((n : Int) + 1) = ((n + 1 : Nat) : Int) := by rw [aP (by omega) (by omega)]; omega
      have hi : Int.toNat (n : Int) = n := by omega
      rw [e1, hw, aem, hi]
      cases k with
      | zero => simp at hx; omega
      | succ k =>
        have hA : xH 10 jZ = true := rfl
        obtain ⟨y2, x2, n2, i1, i2, i3, i4⟩ := MO k (x / 128) (n + 1) (zh jZ y n ((x % 128 + 128 : Nat) : Int)) (pre ++ [((x % 128 + 128 : Nat) : Int)]) (by rw [Nat.div_lt_iff_lt_mul (by decide)]; rw [Nat.pow_succ] at hx; exact hx) (by omega) (by
          rw [G8 hA (by omega), take_set (by rw [G7 hA]; omega), hp])
        refine ⟨y2, x2, n2, i1, i2, i3, ?_⟩
        rw [yx c, ← i4]; simp

noncomputable def oq (n : Nat) : List UInt8 := cu (vbI (2 * n))

theorem MN {n : Nat} (hn : n < 9223372036854775808) : f90 (n : Int) = some (oq n) := by
  unfold f90
  have c : ¬ ((n : Int) < 0) := by omega
  have e1 : IntKind.wrap .u64 (IntKind.wrap .u64 (n : Int) * 2 ^ 1) = ((2 * n : Nat) : Int) := by
    rw [w64, w64]; omega
  rw [if_neg (by simp), e1]
  simp only [Option.bind_eq_bind, Option.bind_some]
  obtain ⟨y2, x2, n2, h1, h2, h3, h4⟩ := MO 9 (2 * n) 0 (0, 0, 0, 0, 0, 0, 0, 0, 0, 0, ()) [] (by omega) (by omega) rfl
  rw [show (((0 : Nat) : Int)) = (0 : Int) from rfl] at h1
  rw [h1]
  simp only [Option.bind_some]
  have hw : IntKind.wrap .i64 ((n2 : Int) + 1) = ((n2 + 1 : Nat) : Int) := by rw [aP (by omega) (by omega)]; omega
  rw [hw, if_pos (by omega), if_pos (by omega)]
  have hA : xH 10 jZ = true := rfl
  have hi : Int.toNat (n2 : Int) = n2 := by omega
  have hi2 : Int.toNat ((n2 + 1 : Nat) : Int) = n2 + 1 := by omega
  have hz : IntKind.wrap .u8 (x2 : Int) = (x2 : Int) := by rw [w8]; omega
  rw [hi, hi2, hz, G8 hA h2, take_set (by rw [G7 hA]; exact h2), ← h4]
  rfl

theorem XF : ∀ (k u : Nat), u < 128 ^ (k + 1) → (vbI u).length ≤ k + 1 := by
  intro k
  induction k with
  | zero => intro u h; rw [oN (by simpa using h)]; simp
  | succ k ih =>
    intro u h
    by_cases c : u < 128
    · rw [oN c]; simp
    · rw [yx c, List.length_cons]
      have := ih (u / 128) (by rw [Nat.div_lt_iff_lt_mul (by decide)]; rw [Nat.pow_succ] at h; exact h)
      omega

theorem xm {n : Nat} (h : n < 9223372036854775808) : (oq n).length ≤ 10 := by
  unfold oq cu
  rw [List.length_map]
  exact XF 9 (2 * n) (by omega)

theorem XG (u : Nat) : 0 < (vbI u).length := by
  by_cases c : u < 128
  · rw [oN c]; simp
  · rw [yx c]; simp

theorem XD {c : Nat} (h : c < 256) : (UInt8.ofNat ((c : Nat) : Int).toNat).toNat = c := by
  have : ((c : Nat) : Int).toNat = c := by omega
  rw [this, UInt8.toNat_ofNat_of_lt' (by show c < 256; exact h)]

theorem aaQ {a b i : Nat} (h : a < 2 ^ i) (hs : a + b * 2 ^ i < 2 ^ 64) : (BitVec.ofInt (IntKind.bits .u64) (a : Int) ||| BitVec.ofInt (IntKind.bits .u64) ((b * 2 ^ i : Nat) : Int)).toNat = a + b * 2 ^ i := by
  have e1 : BitVec.ofInt (IntKind.bits .u64) (a : Int) = BitVec.ofNat 64 a := wB 64 a
  have e2 : BitVec.ofInt (IntKind.bits .u64) ((b * 2 ^ i : Nat) : Int) = BitVec.ofNat 64 (b * 2 ^ i) := wB 64 _
  rw [e1, e2]
  show (BitVec.ofNat 64 a ||| BitVec.ofNat 64 (b * 2 ^ i)).toNat = _
  rw [BitVec.toNat_or, BitVec.toNat_ofNat, BitVec.toNat_ofNat, Nat.mod_eq_of_lt (by omega), Nat.mod_eq_of_lt (by omega)]
  have := Nat.two_pow_add_eq_or_of_lt h b
  rw [Nat.or_comm, Nat.mul_comm b, ← this]; omega

theorem and_one (x : Nat) (hx : x < 2 ^ 64) : (BitVec.ofInt (IntKind.bits .u64) (x : Int) &&& BitVec.ofInt (IntKind.bits .u64) 1).toNat = x % 2 := by
  have e1 : BitVec.ofInt (IntKind.bits .u64) (x : Int) = BitVec.ofNat 64 x := wB 64 x
  have e2 : BitVec.ofInt (IntKind.bits .u64) 1 = BitVec.ofNat 64 1 := rfl
  rw [e1, e2]
  show (BitVec.ofNat 64 x &&& BitVec.ofNat 64 1).toNat = _
  rw [BitVec.toNat_and, BitVec.toNat_ofNat, BitVec.toNat_ofNat, Nat.mod_eq_of_lt hx, Nat.mod_eq_of_lt (by decide), Nat.and_one_is_mod]

theorem QQ {s : List UInt8} {n : Nat} {c : UInt8} {r : List UInt8} (h : s.drop n = c :: r) : n < s.length ∧ btS s (n : Int) = (c.toNat : Int) ∧ s.drop (n + 1) = r := by
  have hl : n < s.length := by
    rcases Nat.lt_or_ge n s.length with h1 | h1
    · exact h1
    · rw [List.drop_of_length_le h1] at h; cases h
  have h2 : s.drop n = s[n] :: s.drop (n + 1) := by simp
  rw [h] at h2
  injection h2 with h3 h4
  exact ⟨hl, by rw [BC hl, h3], h4.symm⟩

theorem Yb (s : List UInt8) (p : Nat) (hs : s.length < 9223372036854775808) : ∀ (u i acc : Nat) (rest : List UInt8), s.drop (p + i) = cu (vbI u) ++ rest → acc < 2 ^ (7 * i) → acc + u * 2 ^ (7 * i) < 2 ^ 63 → (acc + u * 2 ^ (7 * i)) % 2 = 0 → (0 < i → u ≠ 0) →
    pg s (p : Int) (acc : Int) (i : Int) = some (.inr ((((acc + u * 2 ^ (7 * i)) / 2 : Nat) : Int), ((p + i + (vbI u).length : Nat) : Int), 0)) := by
  intro u
  induction u using Nat.strongRecOn with
  | ind u ih =>
    intro i acc rest hd ha ht hev hu
    have hi : i < 9 := by
      by_cases h0 : i = 0
      · omega
      · have hu1 : 1 ≤ u := by have := hu (by omega); omega
        have h1 : 2 ^ (7 * i) ≤ u * 2 ^ (7 * i) := Nat.le_mul_of_pos_left _ hu1
        have h2 : 2 ^ (7 * i) < 2 ^ 63 := by omega
        have := (Nat.pow_lt_pow_iff_right (a := 2) (by decide)).1 h2
        omega
    rw [pg]
    have hhead : ∃ c : Nat, ∃ r, c < 256 ∧ s.drop (p + i) = (UInt8.ofNat ((c : Nat) : Int).toNat) :: r ∧ (u < 128 → c = u ∧ r = rest) ∧ (¬ u < 128 → c = u % 128 + 128 ∧ r = cu (vbI (u / 128)) ++ rest) := by
      by_cases c : u < 128
      · exact ⟨u, rest, by omega, by rw [hd, oN c]; rfl, fun _ => ⟨rfl, rfl⟩, fun h => absurd c h⟩
      · exact ⟨u % 128 + 128, cu (vbI (u / 128)) ++ rest, by omega, by rw [hd, yx c]; rfl, fun h => absurd h c, fun _ => ⟨rfl, rfl⟩⟩
    obtain ⟨c, r, hc, hd2, hsm, hbg⟩ := hhead
    obtain ⟨h1, h2, h3⟩ := QQ hd2
    rw [XD hc] at h2
    have hw : IntKind.wrap .i64 ((p : Int) + (i : Int)) = ((p + i : Nat) : Int) := by rw [aP (by omega) (by omega)]; omega
    have hw7 : IntKind.wrap .i64 (7 * (i : Int)) = ((7 * i : Nat) : Int) := by rw [aP (by omega) (by omega)]; omega
    have hw1 : IntKind.wrap .i64 ((i : Int) + 1) = ((i + 1 : Nat) : Int) := by rw [aP (by omega) (by omega)]; omega
    have hmin : min (Int.toNat ((7 * i : Nat) : Int)) (IntKind.bits .u64) = 7 * i := by
      have : Int.toNat ((7 * i : Nat) : Int) = 7 * i := by omega
      rw [this]
      show min (7 * i) 64 = 7 * i
      omega
    rw [hw, hw7, hw1, h2, hmin, Y2 hc]
    rw [if_pos (by simp; omega), if_pos (by omega), if_neg (by simp; omega), if_pos (by omega)]
    have hb : c % 128 ≤ u := by
      by_cases cc : u < 128
      · have := (hsm cc).1; omega
      · have := (hbg cc).1; omega
    have hle : (c % 128) * 2 ^ (7 * i) ≤ u * 2 ^ (7 * i) := Nat.mul_le_mul_right _ hb
    have e1 : IntKind.wrap .u64 (IntKind.wrap .u64 ((c % 128 : Nat) : Int) * 2 ^ (7 * i)) = (((c % 128) * 2 ^ (7 * i) : Nat) : Int) := by
      have e : IntKind.wrap .u64 ((c % 128 : Nat) : Int) = ((c % 128 : Nat) : Int) := by rw [w64]; omega
      have e0 : ((c % 128 : Nat) : Int) * 2 ^ (7 * i) = (((c % 128) * 2 ^ (7 * i) : Nat) : Int) := by push_cast; rfl
      rw [e, e0, w64]
      have : (((c % 128) * 2 ^ (7 * i) : Nat) : Int) < 18446744073709551616 := by
        have : (c % 128) * 2 ^ (7 * i) < 2 ^ 63 := by omega
        have h63 : (2 : Nat) ^ 63 < 18446744073709551616 := by decide
        omega
      omega
    have e2 : IntKind.wrap .u64 (((BitVec.ofInt (IntKind.bits .u64) (acc : Int) ||| BitVec.ofInt (IntKind.bits .u64) (((c % 128) * 2 ^ (7 * i) : Nat) : Int)).toNat : Nat) : Int) = ((acc + (c % 128) * 2 ^ (7 * i) : Nat) : Int) := by
      rw [aaQ ha (by have : (2 : Nat) ^ 63 < 2 ^ 64 := by decide
                     omega), w64]
      have h63 : (2 : Nat) ^ 63 < 18446744073709551616 := by decide
      omega
    rw [e1, e2]
    by_cases cc : u < 128
    · obtain ⟨rfl, rfl⟩ := hsm cc
      have hm : c % 128 = c := by omega
      rw [if_neg (by simp; omega), if_neg (by simp only [Bool.and_eq_true, beq_iff_eq, decide_eq_true_eq, not_and]; intro h4 h5; exact hu (by omega) (by omega)), hm, oN cc]
      have h63 : (2 : Nat) ^ 63 < 2 ^ 64 := by decide
      rw [and_one _ (by omega), hev]
      have hne : ¬ ((IntKind.wrap .u64 ((0 : Nat) : Int) == 1) = true) := by decide
      rw [if_neg hne]
      simp only [Option.bind_eq_bind, Option.bind_some]
      have e3 : Int.fdiv ((acc + c * 2 ^ (7 * i) : Nat) : Int) (2 ^ 1) = (((acc + c * 2 ^ (7 * i)) / 2 : Nat) : Int) := by
        rw [Int.fdiv_eq_ediv_of_nonneg _ (by decide)]; norm_cast
      have h64 : (2 : Nat) ^ 63 = 9223372036854775808 := by decide
      rw [e3, aP (by omega) (by omega), aP (by omega) (by omega)]
      simp
    · obtain ⟨rfl, rfl⟩ := hbg cc
      rw [if_pos (by simp; omega)]
      have hm : (u % 128 + 128) % 128 = u % 128 := by omega
      rw [hm]
      have hsum : acc + u % 128 * 2 ^ (7 * i) + u / 128 * 2 ^ (7 * (i + 1)) = acc + u * 2 ^ (7 * i) := by
        have e : 2 ^ (7 * (i + 1)) = 128 * 2 ^ (7 * i) := by rw [Nat.mul_add, Nat.pow_add, Nat.mul_comm]
        rw [e, Nat.add_assoc, ← Nat.mul_assoc, ← Nat.add_mul]
        congr 2
        omega
      have hlt : acc + u % 128 * 2 ^ (7 * i) < 2 ^ (7 * (i + 1)) := by
        have e : 2 ^ (7 * (i + 1)) = 128 * 2 ^ (7 * i) := by rw [Nat.mul_add, Nat.pow_add, Nat.mul_comm]
        have h5 : u % 128 * 2 ^ (7 * i) ≤ 127 * 2 ^ (7 * i) := Nat.mul_le_mul_right _ (by omega)
        rw [e]; omega
      have := ih (u / 128) (by omega) (i + 1) (acc + u % 128 * 2 ^ (7 * i)) rest (by rw [← Nat.add_assoc]; exact h3) hlt (by rw [hsum]; exact ht) (by rw [hsum]; exact hev) (fun _ => by omega)
      rw [hsum] at this
      rw [this, yx cc, List.length_cons]
      congr 5
      omega

theorem MM (s : List UInt8) (p : Nat) (hs : s.length < 9223372036854775808) : ∀ (t : List UInt8) (i : Nat) (acc : Int), s.drop (p + i) = t → p + i ≤ s.length → (∀ c ∈ t, 128 ≤ c.toNat) → i + t.length ≤ 9 →
    ∃ z, pg s (p : Int) acc (i : Int) = some (.inl z)
  | [], i, acc, hd, hp, ht, hi => by
    rw [pg]
    have hl : s.length ≤ p + i := by
      have := congrArg List.length hd
      rw [List.length_drop] at this
      simp only [List.length_nil] at this
      omega
    have hw : IntKind.wrap .i64 ((p : Int) + (i : Int)) = ((p + i : Nat) : Int) := by rw [aP (by omega) (by simp at hi; omega)]; omega
    rw [hw, if_neg (by simp; omega)]
    exact ⟨_, rfl⟩
  | c :: r, i, acc, hd, hp, ht, hi => by
    rw [pg]
    obtain ⟨h1, h2, h3⟩ := QQ hd
    have hc := ht c List.mem_cons_self
    simp only [List.length_cons] at hi
    have hw : IntKind.wrap .i64 ((p : Int) + (i : Int)) = ((p + i : Nat) : Int) := by rw [aP (by omega) (by omega)]; omega
    have hw7 : IntKind.wrap .i64 (7 * (i : Int)) = ((7 * i : Nat) : Int) := by rw [aP (by omega) (by omega)]; omega
    have hw1 : IntKind.wrap .i64 ((i : Int) + 1) = ((i + 1 : Nat) : Int) := by rw [aP (by omega) (by omega)]; omega
    rw [hw, hw7, hw1, h2, if_pos (by simp; omega), if_pos (by omega), if_neg (by simp; omega), if_pos (by omega), if_pos (by simp; omega)]
    exact MM s p hs r (i + 1) _ (by rw [← Nat.add_assoc]; exact h3) (by omega) (fun x hx => ht x (List.mem_cons_of_mem _ hx)) (by omega)

theorem YQ (u : Nat) : ∃ pre l, cu (vbI u) = pre ++ [l] ∧ ∀ c ∈ pre, 128 ≤ UInt8.toNat c := by
  induction u using Nat.strongRecOn with
  | ind u ih =>
    by_cases c : u < 128
    · exact ⟨[], _, by rw [oN c]; rfl, by simp⟩
    · obtain ⟨pre, l, h1, h2⟩ := ih (u / 128) (by omega)
      refine ⟨UInt8.ofNat (((u % 128 + 128 : Nat) : Int).toNat) :: pre, l, ?_, ?_⟩
      · rw [yx c]
        show _ :: cu (vbI (u / 128)) = _
        rw [h1]; rfl
      · intro x hx
        rcases List.mem_cons.1 hx with rfl | hx
        · rw [XD (by omega)]; omega
        · exact h2 x hx

theorem TI {s : List UInt8} {p k : Nat} {rest : List UInt8} (hs : s.length < 9223372036854775808) (hk : k < 4611686018427387904) (hp : p ≤ s.length) (hd : s.drop p = oq k ++ rest) :
    f113 s (p : Int) = some ((k : Int), ((p + (oq k).length : Nat) : Int), 0) := by
  unfold f113
  rw [if_neg (by simp; omega)]
  have := Yb s p hs (2 * k) 0 0 rest (by simpa [oq] using hd) (by simp) (by simp; omega) (by simp) (by simp)
  rw [show (((0 : Nat) : Int)) = (0 : Int) from rfl] at this
  rw [this]
  simp [oq, cu]

theorem Ya {s : List UInt8} {p k : Nat} {t : List UInt8} (hs : s.length < 9223372036854775808) (hk : k < 4611686018427387904) (hp : p ≤ s.length) (hd : s.drop p = t) (ht : t <+: oq k) (hn : t.length < (oq k).length) :
    f113 s (p : Int) = some (0, 0, 5) := by
  unfold f113
  rw [if_neg (by simp; omega)]
  obtain ⟨pre, l, h1, h2⟩ := YQ (2 * k)
  have h3 : oq k = pre ++ [l] := h1
  have hl := xm (n := k) (by omega)
  have h4 : t <+: pre := by
    rw [h3] at ht hn
    rw [List.length_append] at hn
    simp only [List.length_cons, List.length_nil] at hn
    exact List.prefix_of_prefix_length_le ht (List.prefix_append _ _) (by omega)
  obtain ⟨z, hz⟩ := MM s p hs t 0 0 (by simpa using hd) (by omega) (fun c hc => h2 c (h4.subset hc)) (by omega)
  rw [show (((0 : Nat) : Int)) = (0 : Int) from rfl] at hz
  rw [hz]
  rfl
end Go.Proofs.YtbnmhjobnepajaaGreat.M


namespace Go.Proofs.YtbnmhjobnepajaaGreat.M

theorem Io {s γ : Type} {f : s → Option (s ⊕ γ)} (x : s) : aY f x = (f x).bind (Sum.elim (fun y => aY f y) some) := by
  rw [aY]
  show (f x).bind _ = _
  cases f x with
  | none => rfl
  | some y => cases y <;> rfl

theorem lI {s γ : Type} {f : s → Option (s ⊕ γ)} {x y : s} (h : f x = some (.inl y)) : aY f x = aY f y := by rw [Io, h]; rfl
theorem jw {s γ : Type} {f : s → Option (s ⊕ γ)} {x : s} {r : γ} (h : f x = some (.inr r)) : aY f x = some r := by rw [Io, h]; rfl

noncomputable def qH {α : Type} (P : Nat → α → Bool) : Nat → List α → Bool
  | _, [] => true
  | i, x :: r => P i x && qH P (i + 1) r
theorem yI {α : Type} {P : α → Bool} : ∀ {i : Nat} {l : List α}, qH (fun _ x => P x) i l = l.all P
  | _, [] => rfl
  | i, x :: r => by rw [qH, List.all_cons, yI]
theorem bI {i : Nat} (h : i < 9223372036854775807) : IntKind.wrap .i64 ((i : Int) + 1) = ((i + 1 : Nat) : Int) := by rw [aP (by omega) (by omega)]; omega

theorem WB {α β : Type} {l : List α} {F : Int → Option (Int ⊕ (Unit ⊕ β))} (P : Nat → α → Bool) {e : β} (hF : ∀ i (h : i < l.length), F (i : Int) = some (if P i l[i] = true then .inl ((i + 1 : Nat) : Int) else .inr (.inr e))) (hE : F (l.length : Int) = some (.inr (.inl ()))) :
    ∀ (k i : Nat), i + k = l.length → aY F (i : Int) = some (if qH P i (l.drop i) = true then .inl () else .inr e)
  | 0, i, hi => by
    have : i = l.length := by omega
    subst this
    rw [Io, hE]
    simp [qH]
  | k + 1, i, hi => by
    have hl : i < l.length := by omega
    have hd : l.drop i = l[i] :: l.drop (i + 1) := by simp
    rw [Io, hF i hl, hd]
    by_cases hp : P i l[i] = true
    · rw [if_pos hp]
      show aY F (((i + 1 : Nat)) : Int) = _
      rw [WB P hF hE k (i + 1) (by omega)]
      simp only [qH, hp, Bool.true_and]
    · rw [if_neg hp]
      simp [qH, hp]
theorem Fg {α β : Type} {l : List α} {F : Int → Option (Int ⊕ (Unit ⊕ β))} (P : Nat → α → Bool) {e : β} (hF : ∀ i (h : i < l.length), F (i : Int) = some (if P i l[i] = true then .inl ((i + 1 : Nat) : Int) else .inr (.inr e))) (hE : F (l.length : Int) = some (.inr (.inl ()))) :
    aY F 0 = some (if qH P 0 l = true then .inl () else .inr e) := by
  have := WB P hF hE l.length 0 (by omega)
  simpa using this

noncomputable def zz (n : Int) : Nat := if 0 ≤ n then (2 * n).toNat else (-2 * n - 1).toNat
noncomputable def unz (u : Nat) : Int := if u % 2 = 0 then ((u / 2 : Nat) : Int) else -((u / 2 : Nat) : Int) - 1
theorem adV (n : Int) : unz (zz n) = n := by
  unfold unz zz
  split <;> split <;> omega
noncomputable def zI (n : Int) : List Int := vbI (zz n)
noncomputable def fM (n : Int) : List UInt8 := cu (zI n)
theorem acQ {n : Int} (h1 : -9223372036854775808 ≤ n) (h2 : n < 9223372036854775808) : zz n < 18446744073709551616 := by
  unfold zz; split <;> omega
theorem aek {x : Nat} (h : x < 18446744073709551616) : ((BitVec.ofInt (IntKind.bits .u64) (if IntKind.signed .u64 = true then -1 else IntKind.max .u64) ^^^ BitVec.ofInt (IntKind.bits .u64) (x : Int)).toNat : Int) = 18446744073709551615 - (x : Int) := by
  have e1 : BitVec.ofInt (IntKind.bits .u64) (x : Int) = BitVec.ofNat 64 x := wB 64 x
  have e2 : BitVec.ofInt (IntKind.bits .u64) (if IntKind.signed .u64 = true then -1 else IntKind.max .u64) = BitVec.allOnes 64 := by rfl
  rw [e1, e2]
  show ((BitVec.allOnes 64 ^^^ BitVec.ofNat 64 x).toNat : Int) = _
  rw [BitVec.allOnes_xor, BitVec.toNat_not, BitVec.toNat_ofNat, Nat.mod_eq_of_lt (by omega)]
  omega
theorem adM {x : Nat} (h : x < 9223372036854775808) : IntKind.wrap .i64 ((BitVec.ofInt (IntKind.bits .i64) (if IntKind.signed .i64 = true then -1 else IntKind.max .i64) ^^^ BitVec.ofInt (IntKind.bits .i64) (x : Int)).toNat : Int) = -(x : Int) - 1 := by
  have e1 : BitVec.ofInt (IntKind.bits .i64) (x : Int) = BitVec.ofNat 64 x := wB 64 x
  have e2 : BitVec.ofInt (IntKind.bits .i64) (if IntKind.signed .i64 = true then -1 else IntKind.max .i64) = BitVec.allOnes 64 := by rfl
  rw [e1, e2]
  show IntKind.wrap .i64 ((BitVec.allOnes 64 ^^^ BitVec.ofNat 64 x).toNat : Int) = _
  rw [BitVec.allOnes_xor, BitVec.toNat_not, BitVec.toNat_ofNat, Nat.mod_eq_of_lt (by omega), IntKind.wrap_i64]
  omega

theorem aca {n : Int} (h1 : -9223372036854775808 ≤ n) (h2 : n < 9223372036854775808) : f90 n = some (fM n) := by
  unfold f90
  have e1 : (if (decide (n < 0)) = true then some (IntKind.wrap .u64 ((BitVec.ofInt (IntKind.bits .u64) (if IntKind.signed .u64 = true then -1 else IntKind.max .u64) ^^^ BitVec.ofInt (IntKind.bits .u64) (IntKind.wrap .u64 ((IntKind.wrap .u64 (n)) * 2 ^ 1))).toNat)) else some (IntKind.wrap .u64 ((IntKind.wrap .u64 (n)) * 2 ^ 1)) : Option Int) = some ((zz n : Nat) : Int) := by
    by_cases c : n < 0
    · have e2 : IntKind.wrap .u64 (IntKind.wrap .u64 n * 2 ^ 1) = ((18446744073709551616 + 2 * n).toNat : Int) := by
        rw [w64, w64]; omega
      rw [if_pos (by simpa using c), e2, aek (by omega), w64]
      congr 1
      unfold zz
      rw [if_neg (by omega)]
      omega
    · rw [if_neg (by simpa using c), w64, w64]
      congr 1
      unfold zz
      rw [if_pos (by omega)]
      omega
  rw [e1]
  simp only [Option.bind_eq_bind, Option.bind_some]
  obtain ⟨y2, x2, n2, g1, g2, g3, g4⟩ := MO 9 (zz n) 0 (0, 0, 0, 0, 0, 0, 0, 0, 0, 0, ()) [] (by have := acQ h1 h2; omega) (by omega) rfl
  rw [show (((0 : Nat) : Int)) = (0 : Int) from rfl] at g1
  rw [g1]
  simp only [Option.bind_some]
  have hw : IntKind.wrap .i64 ((n2 : Int) + 1) = ((n2 + 1 : Nat) : Int) := by rw [aP (by omega) (by omega)]; omega
  rw [hw, if_pos (by omega), if_pos (by omega)]
  have hA : xH 10 jZ = true := rfl
  have hi : Int.toNat (n2 : Int) = n2 := by omega
  have hi2 : Int.toNat ((n2 + 1 : Nat) : Int) = n2 + 1 := by omega
  have hz : IntKind.wrap .u8 (x2 : Int) = (x2 : Int) := by rw [w8]; omega
  rw [hi, hi2, hz, G8 hA g2, take_set (by rw [G7 hA]; exact g2), ← g4]
  rfl

theorem zl {n : Int} (h1 : -9223372036854775808 ≤ n) (h2 : n < 9223372036854775808) : (zI n).length ≤ 10 := by
  refine XF 9 (zz n) ?_
  have := acQ h1 h2
  omega
theorem abk (u : Nat) : ∀ x ∈ vbI u, 0 ≤ x ∧ x < 256 := by
  induction u using Nat.strongRecOn with
  | ind u ih =>
    intro x hx
    by_cases c : u < 128
    · rw [oN c] at hx
      simp only [List.mem_singleton] at hx
      omega
    · rw [yx c] at hx
      rcases List.mem_cons.1 hx with rfl | hx
      · omega
      · exact ih _ (by omega) x hx
theorem VN {l : List Int} (h : ∀ x ∈ l, 0 ≤ x ∧ x < 256) : kW (cu l) = l := by
  unfold kW cu
  rw [List.map_map]
  refine (List.map_congr_left fun x hx => ?_).trans (List.map_id l)
  obtain ⟨h1, h2⟩ := h x hx
  simp only [Function.comp, id]
  have := XD (c := x.toNat) (by omega)
  have e : ((x.toNat : Nat) : Int) = x := by omega
  rw [e] at this
  omega
theorem Jr (n : Int) : kW (fM n) = zI n := VN (abk _)
theorem U8 (s : List UInt8) : cu (kW s) = s := by
  unfold kW cu
  rw [List.map_map]
  refine (List.map_congr_left fun x hx => ?_).trans (List.map_id s)
  simp
theorem yA (a b : List Int) : cu (a ++ b) = cu a ++ cu b := by unfold cu; rw [List.map_append]
theorem Bg (s : List UInt8) : (kW s).length = s.length := by simp [kW]
theorem I9 (s : List Int) : (cu s).length = s.length := by simp [cu]
end Go.Proofs.YtbnmhjobnepajaaGreat.M


namespace Go.Proofs.YtbnmhjobnepajaaGreat.M

theorem Vp (s : List UInt8) (p : Nat) (hs : s.length < 9223372036854775808) : ∀ (u i acc : Nat) (rest : List UInt8), s.drop (p + i) = cu (vbI u) ++ rest → acc < 2 ^ (7 * i) → acc + u * 2 ^ (7 * i) < 2 ^ 63 → (0 < i → u ≠ 0) →
    pg s (p : Int) (acc : Int) (i : Int) = some (.inr (unz (acc + u * 2 ^ (7 * i)), ((p + i + (vbI u).length : Nat) : Int), 0)) := by
  intro u
  induction u using Nat.strongRecOn with
  | ind u ih =>
    intro i acc rest hd ha ht hu
    have hi : i < 9 := by
      by_cases h0 : i = 0
      · omega
      · have hu1 : 1 ≤ u := by have := hu (by omega); omega
        have h1 : 2 ^ (7 * i) ≤ u * 2 ^ (7 * i) := Nat.le_mul_of_pos_left _ hu1
        have h2 : 2 ^ (7 * i) < 2 ^ 63 := by omega
        have := (Nat.pow_lt_pow_iff_right (a := 2) (by decide)).1 h2
        omega
    rw [pg]
    have hhead : ∃ c : Nat, ∃ r, c < 256 ∧ s.drop (p + i) = (UInt8.ofNat ((c : Nat) : Int).toNat) :: r ∧ (u < 128 → c = u ∧ r = rest) ∧ (¬ u < 128 → c = u % 128 + 128 ∧ r = cu (vbI (u / 128)) ++ rest) := by
      by_cases c : u < 128
      · exact ⟨u, rest, by omega, by rw [hd, oN c]; rfl, fun _ => ⟨rfl, rfl⟩, fun h => absurd c h⟩
      · exact ⟨u % 128 + 128, cu (vbI (u / 128)) ++ rest, by omega, by rw [hd, yx c]; rfl, fun h => absurd h c, fun _ => ⟨rfl, rfl⟩⟩
    obtain ⟨c, r, hc, hd2, hsm, hbg⟩ := hhead
    obtain ⟨h1, h2, h3⟩ := QQ hd2
    rw [XD hc] at h2
    have hw : IntKind.wrap .i64 ((p : Int) + (i : Int)) = ((p + i : Nat) : Int) := by rw [aP (by omega) (by omega)]; omega
    have hw7 : IntKind.wrap .i64 (7 * (i : Int)) = ((7 * i : Nat) : Int) := by rw [aP (by omega) (by omega)]; omega
    have hw1 : IntKind.wrap .i64 ((i : Int) + 1) = ((i + 1 : Nat) : Int) := by rw [aP (by omega) (by omega)]; omega
    have hmin : min (Int.toNat ((7 * i : Nat) : Int)) (IntKind.bits .u64) = 7 * i := by
      have : Int.toNat ((7 * i : Nat) : Int) = 7 * i := by omega
      rw [this]
      show min (7 * i) 64 = 7 * i
      omega
    rw [hw, hw7, hw1, h2, hmin, Y2 hc]
    rw [if_pos (by simp; omega), if_pos (by omega), if_neg (by simp; omega), if_pos (by omega)]
    have hb : c % 128 ≤ u := by
      by_cases cc : u < 128
      · have := (hsm cc).1; omega
      · have := (hbg cc).1; omega
    have hle : (c % 128) * 2 ^ (7 * i) ≤ u * 2 ^ (7 * i) := Nat.mul_le_mul_right _ hb
    have e1 : IntKind.wrap .u64 (IntKind.wrap .u64 ((c % 128 : Nat) : Int) * 2 ^ (7 * i)) = (((c % 128) * 2 ^ (7 * i) : Nat) : Int) := by
      have e : IntKind.wrap .u64 ((c % 128 : Nat) : Int) = ((c % 128 : Nat) : Int) := by rw [w64]; omega
      have e0 : ((c % 128 : Nat) : Int) * 2 ^ (7 * i) = (((c % 128) * 2 ^ (7 * i) : Nat) : Int) := by push_cast; rfl
      rw [e, e0, w64]
      have : (((c % 128) * 2 ^ (7 * i) : Nat) : Int) < 18446744073709551616 := by
        have : (c % 128) * 2 ^ (7 * i) < 2 ^ 63 := by omega
        have h63 : (2 : Nat) ^ 63 < 18446744073709551616 := by decide
        omega
      omega
    have e2 : IntKind.wrap .u64 (((BitVec.ofInt (IntKind.bits .u64) (acc : Int) ||| BitVec.ofInt (IntKind.bits .u64) (((c % 128) * 2 ^ (7 * i) : Nat) : Int)).toNat : Nat) : Int) = ((acc + (c % 128) * 2 ^ (7 * i) : Nat) : Int) := by
      rw [aaQ ha (by have : (2 : Nat) ^ 63 < 2 ^ 64 := by decide
                     omega), w64]
      have h63 : (2 : Nat) ^ 63 < 18446744073709551616 := by decide
      omega
    rw [e1, e2]
    by_cases cc : u < 128
    · obtain ⟨rfl, rfl⟩ := hsm cc
      have hm : c % 128 = c := by omega
      rw [if_neg (by simp; omega), if_neg (by simp only [Bool.and_eq_true, beq_iff_eq, decide_eq_true_eq, not_and]; intro h4 h5; exact hu (by omega) (by omega)), hm, oN cc]
      have h63 : (2 : Nat) ^ 63 < 2 ^ 64 := by decide
      have h64 : (2 : Nat) ^ 63 = 9223372036854775808 := by decide
      rw [and_one _ (by omega)]
      generalize hT : acc + c * 2 ^ (7 * i) = T at *
      have e3 : Int.fdiv ((T : Nat) : Int) (2 ^ 1) = ((T / 2 : Nat) : Int) := by
        rw [Int.fdiv_eq_ediv_of_nonneg _ (by decide)]; norm_cast
      have hl : IntKind.wrap .i64 (((p + i : Nat) : Int) + 1) = ((p + i + 1 : Nat) : Int) := by rw [aP (by omega) (by omega)]; omega
      rw [e3, hl]
      by_cases hev : T % 2 = 0
      · have hne : ¬ ((IntKind.wrap .u64 ((T % 2 : Nat) : Int) == 1) = true) := by rw [hev]; decide
        rw [if_neg hne]
        simp only [Option.bind_eq_bind, Option.bind_some]
        rw [aP (by omega) (by omega)]
        unfold unz
        rw [if_pos hev]
        simp
      · have hp : (IntKind.wrap .u64 ((T % 2 : Nat) : Int) == 1) = true := by rw [show T % 2 = 1 by omega]; decide
        rw [if_pos hp]
        simp only [Option.bind_eq_bind, Option.bind_some]
        rw [aP (x := ((T / 2 : Nat) : Int)) (by omega) (by omega), adM (by omega)]
        unfold unz
        rw [if_neg hev]
        simp
    · obtain ⟨rfl, rfl⟩ := hbg cc
      rw [if_pos (by simp; omega)]
      have hm : (u % 128 + 128) % 128 = u % 128 := by omega
      rw [hm]
      have hsum : acc + u % 128 * 2 ^ (7 * i) + u / 128 * 2 ^ (7 * (i + 1)) = acc + u * 2 ^ (7 * i) := by
        have e : 2 ^ (7 * (i + 1)) = 128 * 2 ^ (7 * i) := by rw [Nat.mul_add, Nat.pow_add, Nat.mul_comm]
        rw [e, Nat.add_assoc, ← Nat.mul_assoc, ← Nat.add_mul]
        congr 2
        omega
      have hlt : acc + u % 128 * 2 ^ (7 * i) < 2 ^ (7 * (i + 1)) := by
        have e : 2 ^ (7 * (i + 1)) = 128 * 2 ^ (7 * i) := by rw [Nat.mul_add, Nat.pow_add, Nat.mul_comm]
        have h5 : u % 128 * 2 ^ (7 * i) ≤ 127 * 2 ^ (7 * i) := Nat.mul_le_mul_right _ (by omega)
        rw [e]; omega
      have := ih (u / 128) (by omega) (i + 1) (acc + u % 128 * 2 ^ (7 * i)) rest (by rw [← Nat.add_assoc]; exact h3) hlt (by rw [hsum]; exact ht) (fun _ => by omega)
      rw [hsum] at this
      rw [this, yx cc, List.length_cons]
      congr 5
      omega

theorem X9 {s : List UInt8} {p : Nat} {n : Int} {rest : List UInt8} (hs : s.length < 9223372036854775808) (h1 : -2199023255552 ≤ n) (h2 : n ≤ 2199023255552) (hp : p ≤ s.length) (hd : s.drop p = fM n ++ rest) :
    f113 s (p : Int) = some (n, ((p + (fM n).length : Nat) : Int), 0) := by
  unfold f113
  rw [if_neg (by simp; omega)]
  have hz : zz n < 4611686018427387904 := by unfold zz; split <;> omega
  have := Vp s p hs (zz n) 0 0 rest (by simpa [fM, zI] using hd) (by simp) (by simp; omega) (by simp)
  simp only [Nat.zero_add, Nat.mul_zero, Nat.pow_zero, Nat.mul_one, Nat.add_zero, adV] at this
  rw [show (0 : Int) = ((0 : Nat) : Int) from rfl, this]
  simp [fM, zI, cu]
end Go.Proofs.YtbnmhjobnepajaaGreat.M


namespace Go.Proofs.YtbnmhjobnepajaaGreat.M

noncomputable def jB : List UInt8 → List UInt8 → List (List UInt8)
  | [], w => [w]
  | c :: r, w => if c = 47 then w :: jB r [] else jB r (w ++ [c])
noncomputable def Va (c : UInt8) : Bool := (97 ≤ c.toNat && c.toNat ≤ 122) || (48 ≤ c.toNat && c.toNat ≤ 57) || c.toNat == 45 || c.toNat == 95
noncomputable def vk (p : List UInt8) : Bool := decide (0 < p.length) && p.all Va
noncomputable def vF (s : List UInt8) : Bool := decide (s.length ≤ 32) && ((jB s []).all vk && decide ((jB s []).length ≤ 4))

theorem abG {s : List UInt8} {i : Nat} (h : i < s.length) : (btS s (i : Int) == 47) = decide (s[i] = 47) := by
  rw [BC h, Bool.eq_iff_iff]
  simp only [beq_iff_eq, decide_eq_true_eq]
  constructor
  · intro h; apply UInt8.toNat_inj.1; show s[i].toNat = 47; omega
  · intro h; rw [h]; rfl

theorem GG {s : List UInt8} (hs : s.length ≤ 32) : ∀ (k i fr : Nat) (out : List (List UInt8)), i + k = s.length → fr ≤ i → out.length ≤ i →
    ∃ out' fr', aY (lC s) (out, (fr : Int), (i : Int)) = some (out', ((fr' : Nat) : Int)) ∧ fr' ≤ s.length ∧ out'.length ≤ s.length ∧ out' ++ [s.drop fr'] = out ++ jB (s.drop i) ((s.take i).drop fr)
  | 0, i, fr, out, hi, hf, ho => by
    have : i = s.length := by omega
    subst this
    refine ⟨out, fr, jw (by unfold lC; simp), hf, ho, ?_⟩
    simp [jB]
  | k + 1, i, fr, out, hi, hf, ho => by
    have hl : i < s.length := by omega
    have hd : s.drop i = s[i] :: s.drop (i + 1) := by simp
    have hw := bI (i := i) (by omega)
    rw [hd]
    by_cases c : s[i] = 47
    · rw [lI (y := (out ++ [(s.take i).drop fr], ((i + 1 : Nat) : Int), ((i + 1 : Nat) : Int))) (by
        unfold lC
        simp only [hw, abG hl]
        rw [if_pos (by simp; omega), if_pos (by omega), if_pos (by simpa using c), if_pos (by omega), if_pos (by omega)]
        simp)]
      obtain ⟨o', f', h1, h2, h3, h4⟩ := GG hs k (i + 1) (i + 1) (out ++ [(s.take i).drop fr]) (by omega) (by omega) (by simp; omega)
      refine ⟨o', f', h1, h2, h3, ?_⟩
      rw [h4]
      have e0 : (s.take (i + 1)).drop (i + 1) = [] := by simp
      rw [e0]
      simp [jB, c]
    · rw [lI (y := (out, (fr : Int), ((i + 1 : Nat) : Int))) (by
        unfold lC
        simp only [hw, abG hl]
        rw [if_pos (by simp; omega), if_pos (by omega), if_neg (by simpa using c)])]
      obtain ⟨o', f', h1, h2, h3, h4⟩ := GG hs k (i + 1) fr out (by omega) (by omega) (by omega)
      refine ⟨o', f', h1, h2, h3, ?_⟩
      rw [h4]
      have e0 : (s.take (i + 1)).drop fr = (s.take i).drop fr ++ [s[i]] := by
        rw [List.take_succ_eq_append_getElem hl, List.drop_append_of_le_length (by simp; omega)]
      rw [e0]
      simp [jB, c]
theorem parts_eq {s : List UInt8} (hs : s.length ≤ 32) : sF s = some (jB s []) := by
  unfold sF
  obtain ⟨o', f', h1, h2, h3, h4⟩ := GG hs s.length 0 0 [] (by omega) (by omega) (by simp)
  rw [show (0 : Int) = ((0 : Nat) : Int) from rfl, h1]
  simp only [Option.bind_some]
  rw [if_pos (by omega), if_pos (by omega)]
  simpa using h4

theorem GL {s : List UInt8} (hs : s.length ≤ 32) : ∀ (k i : Nat) (w : List UInt8) (out : List (List UInt8)), i + k = s.length → w.length ≤ i → out.length ≤ i →
    ∃ out' w', aY (iL s 47) (out, w, (i : Int)) = some (out', w') ∧ out'.length ≤ s.length ∧ out' ++ [w'] = out ++ jB (s.drop i) w
  | 0, i, w, out, hi, hf, ho => by
    have : i = s.length := by omega
    subst this
    refine ⟨out, w, jw (by unfold iL; simp), ho, ?_⟩
    simp [jB]
  | k + 1, i, w, out, hi, hf, ho => by
    have hl : i < s.length := by omega
    have hd : s.drop i = s[i] :: s.drop (i + 1) := by simp
    have hw := bI (i := i) (by omega)
    rw [hd]
    by_cases c : s[i] = 47
    · rw [lI (y := (out ++ [w], [], ((i + 1 : Nat) : Int))) (by
        unfold iL
        simp only [hw, abG hl]
        rw [if_pos (by simp; omega), if_pos (by omega), if_pos (by simpa using c), if_pos (by omega)])]
      obtain ⟨o', f', h1, h3, h4⟩ := GL hs k (i + 1) [] (out ++ [w]) (by omega) (by simp) (by simp; omega)
      refine ⟨o', f', h1, h3, ?_⟩
      rw [h4]
      simp [jB, c]
    · have e0 : (s.take ((((i + 1 : Nat) : Int)).toNat)).drop ((i : Int)).toNat = [s[i]] := by
        rw [show (((i + 1 : Nat) : Int)).toNat = i + 1 by omega, show ((i : Int)).toNat = i by omega, List.take_succ_eq_append_getElem hl, List.drop_append_of_le_length (by simp; omega)]
        simp
      rw [lI (y := (out, w ++ [s[i]], ((i + 1 : Nat) : Int))) (by
        unfold iL
        simp only [hw, abG hl]
        rw [if_pos (by simp; omega), if_pos (by omega), if_neg (by simpa using c), if_pos (by omega), e0, if_pos (by simp; omega)])]
      obtain ⟨o', f', h1, h3, h4⟩ := GL hs k (i + 1) (w ++ [s[i]]) out (by omega) (by simp; omega) (by omega)
      refine ⟨o', f', h1, h3, ?_⟩
      rw [h4]
      simp [jB, c]
theorem aa7 {s : List UInt8} (hs : s.length ≤ 32) : lX s = some (jB s []) := by
  unfold lX qg
  obtain ⟨o', f', h1, h3, h4⟩ := GL hs s.length 0 [] [] (by omega) (by simp) (by simp)
  rw [show (0 : Int) = ((0 : Nat) : Int) from rfl, h1]
  simp only [Option.bind_some]
  rw [if_pos (by omega)]
  simpa using h4

theorem aaR {p : List UInt8} (hp : p.length < 4611686018427387904) : sG p = some (vk p) := by
  unfold sG vk
  by_cases hn : p = []
  · subst hn; rfl
  have hl : 0 < p.length := List.length_pos_iff.2 hn
  rw [if_neg (by simpa using hn), Fg (l := p) (fun _ c => Va c) (e := false) (fun i hi => ?_) (by unfold sS; simp), yI]
  · rw [decide_eq_true hl]
    cases p.all Va <;> rfl
  · unfold sS
    simp only [bI (i := i) (by omega), BC hi]
    rw [if_pos (by simp; omega), if_pos (by omega)]
    unfold Va
    generalize p[i].toNat = n
    by_cases c1 : 97 ≤ n ∧ n ≤ 122
    · rw [if_pos (by simp; omega), if_pos (by simp; omega)]
    rw [if_neg (by simp; omega)]
    by_cases c2 : 48 ≤ n ∧ n ≤ 57
    · rw [if_pos (by simp; omega), if_pos (by simp; omega)]
    rw [if_neg (by simp; omega)]
    by_cases c3 : n = 45
    · rw [if_pos (by simp; omega), if_pos (by simp; omega)]
    rw [if_neg (by simp; omega)]
    by_cases c4 : n = 95
    · rw [if_pos (by simp; omega), if_pos (by simp; omega)]
    rw [if_neg (by simp; omega), if_neg (by simp; omega)]
theorem Yw {p : List UInt8} (hp : p.length < 4611686018427387904) : lY p = some (vk p) := by
  unfold lY vk
  rw [Fg (l := p) (fun _ c => Va c) (e := false) (fun i hi => ?_) (by unfold nH; simp), yI]
  · cases p.all Va <;> simp [jR]
  · unfold nH
    simp only [bI (i := i) (by omega), BC hi]
    rw [if_pos (by simp; omega), if_pos (by omega)]
    unfold Va
    generalize p[i].toNat = n
    by_cases c : (97 ≤ n ∧ n ≤ 122) ∨ (48 ≤ n ∧ n ≤ 57) ∨ n = 45 ∨ n = 95
    · rw [if_neg (by simp; omega), if_pos (by simp; omega)]
    · rw [if_pos (by simp; omega), if_neg (by simp; omega)]

theorem Cj : ∀ (s w : List UInt8) (M : Nat), s.length + w.length ≤ M → (jB s w).length ≤ s.length + 1 ∧ ∀ p ∈ jB s w, p.length ≤ M
  | [], w, M, h => ⟨by simp [jB], fun p hp => by simp [jB] at hp; subst hp; simpa using h⟩
  | c :: r, w, M, h => by
    simp only [List.length_cons] at h
    unfold jB
    split
    · obtain ⟨h1, h2⟩ := Cj r [] M (by simp; omega)
      refine ⟨by simp; omega, fun p hp => ?_⟩
      rcases List.mem_cons.1 hp with rfl | hp
      · omega
      · exact h2 p hp
    · obtain ⟨h1, h2⟩ := Cj r (w ++ [c]) M (by simp; omega)
      exact ⟨by simp; omega, h2⟩

theorem YO (s : List UInt8) : qM s = some (vF s) := by
  unfold qM jm vF
  by_cases h : s.length ≤ 32
  · obtain ⟨g1, g2⟩ := Cj s [] 32 (by simpa using h)
    rw [if_neg (by simp; omega), parts_eq h]
    simp only [Option.bind_some]
    rw [Fg (l := jB s []) (fun _ c => vk c) (e := false) (fun i hi => ?_) (by unfold iU; simp), yI]
    · rw [decide_eq_true h]
      cases (jB s []).all vk <;> simp [jR]
      omega
    · unfold iU sQ
      simp only [bI (i := i) (by omega), jO hi, Option.bind_some, aaR (p := (jB s [])[i]) (by have := g2 _ (List.getElem_mem hi); omega)]
      rw [if_pos (by simp; omega)]
      cases vk (jB s [])[i] <;> rfl
  · rw [if_pos (by simp; omega), decide_eq_false h]; rfl
theorem V5 (s : List UInt8) : lK s = some (vF s) := by
  unfold lK vF
  by_cases h : s.length ≤ 32
  · obtain ⟨g1, g2⟩ := Cj s [] 32 (by simpa using h)
    rw [if_neg (by simp; omega), aa7 h]
    simp only [Option.bind_some]
    rw [Fg (l := jB s []) (fun _ c => vk c) (e := false) (fun i hi => ?_) (by unfold mO; simp), yI]
    · rw [decide_eq_true h]
      cases (jB s []).all vk <;> simp [jR]
      omega
    · unfold mO
      simp only [bI (i := i) (by omega), jO hi, Option.bind_some, Yw (p := (jB s [])[i]) (by have := g2 _ (List.getElem_mem hi); omega)]
      rw [if_pos (by simp; omega)]
      cases vk (jB s [])[i] <;> rfl
  · rw [if_pos (by simp; omega), decide_eq_false h]; rfl
end Go.Proofs.YtbnmhjobnepajaaGreat.M


namespace Go.Proofs.YtbnmhjobnepajaaGreat.M

abbrev iV : Type := Int × Int × List UInt8 × Int × List Int × Int × Unit
abbrev VdT : Type := Int × Int × Unit
noncomputable def I64 (n : Int) : Prop := -9223372036854775808 ≤ n ∧ n < 9223372036854775808
noncomputable def inR (n a b : Int) : Bool := decide (n ≥ a) && decide (n ≤ b)
theorem H5 {n a b : Int} : inR n a b = true ↔ a ≤ n ∧ n ≤ b := by unfold inR; simp
noncomputable def Cm (l : List Int) (most : Nat) : Bool := l.all (fun n => inR n (-1099511627776) 1099511627776) && decide (l.length ≤ most)
noncomputable def BK (client seq : Int) (stream : List UInt8) : Bool := inR client 0 5 && inR seq 1 1099511627776 && vF stream
noncomputable def kU (c : iV) : Bool := BK c.1 c.2.1 c.2.2.1 && inR c.2.2.2.1 0 11 && Cm c.2.2.2.2.1 4 && inR c.2.2.2.2.2.1 (-1) 1099511627776
noncomputable def Ox (l : List VdT) (i : Nat) (v : VdT) : Bool := inR v.1 1 1099511627776 && inR v.2.1 0 63 && !(decide (0 < i) && decide (v.1 ≤ (l.getD (i - 1) (0, 0, ())).1))
noncomputable def kL (l : List VdT) : Bool := qH (Ox l) 0 l && decide (l.length ≤ 32)

theorem Bz (n a b : Int) : gW n a b = some (inR n a b) := rfl
theorem GU (n a b : Int) : eF n a b = some (inR n a b) := rfl

theorem values_eq {l : List Int} (hl : l.length < 4611686018427387904) (m : Nat) : uy l (m : Int) = some (Cm l m) := by
  unfold uy Cm
  rw [Fg (l := l) (fun _ n => inR n (-1099511627776) 1099511627776) (e := false) (fun i hi => ?_) (by unfold uz; simp), yI]
  · cases l.all (fun n => inR n (-1099511627776) 1099511627776) <;> simp [jR]
  · unfold uz
    simp only [bI (i := i) (by omega), jO hi, Option.bind_some, Bz]
    rw [if_pos (by simp; omega)]
    cases inR l[i] (-1099511627776) 1099511627776 <;> rfl
theorem V9 {l : List Int} (hl : l.length < 4611686018427387904) (m : Nat) : lL l (m : Int) = some (Cm l m) := by
  unfold lL Cm
  rw [Fg (l := l) (fun _ n => inR n (-1099511627776) 1099511627776) (e := false) (fun i hi => ?_) (by unfold mP; simp), yI]
  · cases l.all (fun n => inR n (-1099511627776) 1099511627776) <;> simp [jR]
  · unfold mP qf
    simp only [bI (i := i) (by omega), jO hi, Option.bind_some]
    rw [if_pos (by simp; omega)]
    show (if (!(inR l[i] (-1099511627776) 1099511627776)) = true then _ else _) = _
    cases inR l[i] (-1099511627776) 1099511627776 <;> rfl
theorem head_eq (a b : Int) (s : List UInt8) : xZ a b s = some (BK a b s) := by
  unfold xZ BK
  simp only [Bz, YO, Option.bind_some]
  cases inR a 0 5 <;> cases inR b 1 1099511627776 <;> cases vF s <;> rfl
theorem aaj (a b : Int) (s : List UInt8) : ni a b s = some (BK a b s) := by
  unfold ni BK
  simp only [GU, V5, Option.bind_some]
  cases inR a 0 5 <;> cases inR b 1 1099511627776 <;> cases vF s <;> rfl
theorem Zf {c : iV} (hl : c.2.2.2.2.1.length < 4611686018427387904) : wP c = some (kU c) := by
  unfold wP kU
  simp only [Bz, head_eq, show (4 : Int) = ((4 : Nat) : Int) from rfl, values_eq hl, Option.bind_some]
  cases BK c.1 c.2.1 c.2.2.1 <;> cases inR c.2.2.2.1 0 11 <;> cases Cm c.2.2.2.2.1 4 <;> cases inR c.2.2.2.2.2.1 (-1) 1099511627776 <;> rfl
theorem abI {c : iV} (hl : c.2.2.2.2.1.length < 4611686018427387904) : lD c = some (kU c) := by
  unfold lD kU
  simp only [GU, aaj, show (4 : Int) = ((4 : Nat) : Int) from rfl, V9 hl, Option.bind_some]
  cases BK c.1 c.2.1 c.2.2.1 <;> cases inR c.2.2.2.1 0 11 <;> cases Cm c.2.2.2.2.1 4 <;> cases inR c.2.2.2.2.2.1 (-1) 1099511627776 <;> rfl

theorem Xo {l : List VdT} {i : Nat} (hi : i < l.length) (h0 : 0 < i) : ix l (IntKind.wrap .i64 ((i : Int) - 1)) = some (l.getD (i - 1) (0, 0, ())) ∨ 9223372036854775807 ≤ i := by
  by_cases h : i < 9223372036854775807
  · left
    have hw : IntKind.wrap .i64 ((i : Int) - 1) = ((i - 1 : Nat) : Int) := by rw [aP (by omega) (by omega)]; omega
    rw [hw, jO (by omega), List.getD_eq_getElem?_getD, List.getElem?_eq_getElem (by omega)]; rfl
  · right; omega
theorem J7 {l : List VdT} (hl : l.length < 4611686018427387904) : nD l = some (kL l) := by
  unfold nD kL
  rw [Fg (l := l) (Ox l) (e := false) (fun i hi => ?_) (by unfold rD; simp)]
  · cases qH (Ox l) 0 l <;> simp [jR]
    omega
  · unfold rD
    simp only [bI (i := i) (by omega), jO hi, Option.bind_some, Bz]
    rw [if_pos (by simp; omega)]
    unfold Ox
    cases inR l[i].1 1 1099511627776 with
    | false => rfl
    | true =>
      cases inR l[i].2.1 0 63 with
      | false => rfl
      | true =>
        simp only [Bool.not_true, Bool.not_false, if_true, Bool.true_and]
        by_cases h0 : 0 < i
        · rcases Xo hi h0 with h | h
          · rw [if_pos (by simp; omega), h]
            simp only [Option.bind_some, decide_eq_true h0, Bool.true_and]
            by_cases hv : l[i].1 ≤ (l.getD (i - 1) (0, 0, ())).1
            · rw [if_pos (by simpa using hv), if_neg (by simpa using hv)]
            · rw [if_neg (by simpa using hv), if_pos (by simpa using hv)]
          · omega
        · rw [if_neg (by simp; omega), decide_eq_false h0]; rfl
theorem SA {l : List VdT} (hl : l.length < 4611686018427387904) : jW l = some (kL l) := by
  unfold jW kL
  rw [Fg (l := l) (Ox l) (e := false) (fun i hi => ?_) (by unfold lF; simp)]
  · cases qH (Ox l) 0 l <;> simp [jR]
    omega
  · unfold lF
    simp only [bI (i := i) (by omega), jO hi, Option.bind_some, GU]
    rw [if_pos (by simp; omega)]
    unfold Ox
    cases inR l[i].1 1 1099511627776 with
    | false => rfl
    | true =>
      cases inR l[i].2.1 0 63 with
      | false => rfl
      | true =>
        simp only [Bool.not_true, Bool.not_false, if_true, Bool.true_and]
        by_cases h0 : 0 < i
        · rcases Xo hi h0 with h | h
          · rw [if_pos (by simp; omega), h]
            simp only [Option.bind_some, decide_eq_true h0, Bool.true_and]
            by_cases hv : l[i].1 ≤ (l.getD (i - 1) (0, 0, ())).1
            · rw [if_pos (by simpa using hv), if_neg (by simpa using hv)]
            · rw [if_neg (by simpa using hv), if_pos (by simpa using hv)]
          · omega
        · rw [if_neg (by simp; omega), decide_eq_false h0]; rfl

noncomputable def xA (s : List UInt8) : List UInt8 := fM (s.length : Int) ++ s
noncomputable def BU (l : List Int) : List UInt8 := fM (l.length : Int) ++ l.flatMap fM
noncomputable def xy (c : iV) : List UInt8 := fM c.1 ++ (fM c.2.1 ++ (xA c.2.2.1 ++ (fM c.2.2.2.1 ++ (BU c.2.2.2.2.1 ++ fM c.2.2.2.2.2.1))))
noncomputable def sZ (l : List VdT) : List UInt8 := fM (l.length : Int) ++ l.flatMap (fun v => fM v.1 ++ fM v.2.1)

theorem ada : eP = f90 := TD
theorem number_eq {n : Int} (h : I64 n) : eP n = some (fM n) := by rw [ada]; exact aca h.1 h.2
theorem zx {n : Nat} (h : n < 9223372036854775808) : I64 (n : Int) := ⟨by omega, by omega⟩
theorem xn {n : Int} (h : I64 n) : (fM n).length ≤ 10 := by unfold fM; rw [I9]; exact zl h.1 h.2
theorem Ro : ∀ {l : List Int}, cu (l.flatMap zI) = l.flatMap fM
  | [] => rfl
  | x :: r => by rw [List.flatMap_cons, List.flatMap_cons, yA, Ro]; rfl
theorem aab {l : List Int} (h : ∀ n ∈ l, I64 n) : (l.flatMap zI).length ≤ 10 * l.length := by
  induction l with
  | nil => simp
  | cons x r ih =>
    have h1 := zl (h x List.mem_cons_self).1 (h x List.mem_cons_self).2
    have h2 := ih fun n hn => h n (List.mem_cons_of_mem _ hn)
    rw [List.flatMap_cons, List.length_append, List.length_cons]; omega

theorem O8 {l : List Int} (h : ∀ n ∈ l, I64 n) : ∀ (k i : Nat) (b : List Int), i + k = l.length → b.length + 10 * k ≤ 140737488355328 → l.length < 4611686018427387904 →
    aY (pq l) (b, (i : Int)) = some (b ++ (l.drop i).flatMap zI)
  | 0, i, b, hi, hb, hl => by
    have : i = l.length := by omega
    subst this
    rw [jw (r := b) (by unfold pq; simp)]
    simp
  | k + 1, i, b, hi, hb, hl => by
    have hlt : i < l.length := by omega
    have hn := h l[i] (List.getElem_mem hlt)
    have hz := zl hn.1 hn.2
    rw [lI (y := (b ++ zI l[i], ((i + 1 : Nat) : Int))) (by
      unfold pq
      simp only [bI (i := i) (by omega), jO hlt, Option.bind_some, number_eq hn, Jr]
      rw [if_pos (by simp; omega), if_pos (by omega)]), O8 h k (i + 1) _ (by omega) (by rw [List.length_append]; omega) hl]
    have hd : l.drop i = l[i] :: l.drop (i + 1) := by simp
    rw [hd, List.flatMap_cons, List.append_assoc]
theorem Hf {b l : List Int} (h : ∀ n ∈ l, I64 n) (hb : b.length + 10 * l.length ≤ 140737488355328) : jF b l = some (b ++ l.flatMap zI) := by
  unfold jF
  have := O8 h l.length 0 b (by omega) hb (by omega)
  rw [show (0 : Int) = ((0 : Nat) : Int) from rfl, this]
  simp

theorem Oy {l : List Int} (h : ∀ n ∈ l, I64 n) : ∀ (k i : Nat) (b : List Int), i + k = l.length → b.length + 10 * k ≤ 140737488355328 → l.length ≤ 256 →
    aY (eu l) (b, (i : Int)) = some (.inl (b ++ (l.drop i).flatMap zI))
  | 0, i, b, hi, hb, hl => by
    have : i = l.length := by omega
    subst this
    rw [jw (r := .inl b) (by unfold eu; simp)]
    simp
  | k + 1, i, b, hi, hb, hl => by
    have hlt : i < l.length := by omega
    have hn := h l[i] (List.getElem_mem hlt)
    have hz := zl hn.1 hn.2
    rw [lI (y := (b ++ zI l[i], ((i + 1 : Nat) : Int))) (by
      unfold eu sU
      simp only [bI (i := i) (by omega), jO hlt, Option.bind_some, number_eq hn, Jr]
      rw [if_pos (by simp; omega), if_neg (by decide), if_pos (by omega)]), Oy h k (i + 1) _ (by omega) (by rw [List.length_append]; omega) hl]
    have hd : l.drop i = l[i] :: l.drop (i + 1) := by simp
    rw [hd, List.flatMap_cons, List.append_assoc]
theorem abm {l : List Int} (h : ∀ n ∈ l, I64 n) : qN l = some (if l.length > 256 then ([], 4) else (BU l, 0)) := by
  unfold qN iD
  by_cases hl : l.length > 256
  · rw [if_pos (by simp; omega), if_pos hl]; rfl
  · have hi : I64 (l.length : Int) := zx (by omega)
    have h1 := xn hi
    rw [if_neg (by simp; omega), if_neg hl, number_eq hi]
    simp only [Option.bind_some, Jr]
    rw [if_pos (by omega)]
    have h2 := zl hi.1 hi.2
    have := Oy h l.length 0 (zI (l.length : Int)) (by omega) (by omega) (by omega)
    rw [show ((0 : Nat) : Int) = (0 : Int) from rfl] at this
    rw [this]
    simp only [Option.bind_some, jR, List.drop_zero, yA, Ro]
    rfl
theorem abn {s : List UInt8} (hs : s.length < 4611686018427387904) : wJ s = some (if s.length > 4096 then ([], 4) else (xA s, 0)) := by
  unfold wJ
  by_cases hl : s.length > 4096
  · rw [if_pos (by simp; omega), if_pos hl]
  · have hi : I64 (s.length : Int) := zx (by omega)
    have h1 := xn hi
    rw [if_neg (by simp; omega), if_neg hl, number_eq hi]
    simp only [Option.bind_some]
    rw [if_pos (by omega)]
    rfl

theorem aaq {s : List UInt8} (h : s.length ≤ 4096) : (xA s).length ≤ 4106 := by
  have := xn (zx (n := s.length) (by omega))
  unfold xA
  rw [List.length_append]; omega
theorem PQ {l : List Int} (h : ∀ n ∈ l, I64 n) : (l.flatMap fM).length ≤ 10 * l.length := by
  rw [← Ro, I9]; exact aab h
theorem aap {l : List Int} (h : ∀ n ∈ l, I64 n) (hl : l.length ≤ 256) : (BU l).length ≤ 2570 := by
  have h1 := xn (zx (n := l.length) (by omega))
  have h2 := PQ h
  unfold BU
  rw [List.length_append]; omega

theorem Zl {b : List Int} {s : List UInt8} (hs : s.length < 4611686018427387904) (hb : b.length ≤ 100000) : ∃ t, yc b s = some (b ++ kW t) ∧ t.length ≤ 4106 ∧ (s.length ≤ 4096 → t = xA s) := by
  unfold yc
  rw [abn hs]
  by_cases hl : s.length > 4096
  · rw [if_pos hl]
    refine ⟨[], ?_, by simp, fun h => by omega⟩
    simp only [Option.bind_some]
    rw [if_pos (by simp [kW]; omega)]
  · rw [if_neg hl]
    have := aaq (s := s) (by omega)
    refine ⟨xA s, ?_, this, fun _ => rfl⟩
    simp only [Option.bind_some]
    rw [if_pos (by rw [Bg]; omega)]
theorem Zh {b l : List Int} (h : ∀ n ∈ l, I64 n) (hb : b.length ≤ 100000) : ∃ t, sD b l = some (b ++ kW t) ∧ t.length ≤ 2570 ∧ (l.length ≤ 256 → t = BU l) := by
  unfold sD
  rw [abm h]
  by_cases hl : l.length > 256
  · rw [if_pos hl]
    refine ⟨[], ?_, by simp, fun h => by omega⟩
    simp only [Option.bind_some]
    rw [if_pos (by simp [kW]; omega)]
  · rw [if_neg hl]
    have := aap h (by omega)
    refine ⟨BU l, ?_, this, fun _ => rfl⟩
    simp only [Option.bind_some]
    rw [if_pos (by rw [Bg]; omega)]

structure IX (c : iV) : Prop where
  a : I64 c.1
  b : I64 c.2.1
  s : c.2.2.1.length < 4611686018427387904
  r : I64 c.2.2.2.1
  l : ∀ n ∈ c.2.2.2.2.1, I64 n
  n : c.2.2.2.2.1.length ≤ 1048576
  e : I64 c.2.2.2.2.2.1
theorem IM {s : List UInt8} (h : vF s = true) : s.length ≤ 32 := by
  unfold vF at h
  simp only [Bool.and_eq_true, decide_eq_true_eq] at h
  exact h.1
theorem XN {c : iV} (h : IX c) : uq c = some (if kU c = true then (xy c, 0) else ([], 2)) := by
  unfold uq
  rw [Hf (l := [c.1, c.2.1]) (by simp only [List.mem_cons, List.not_mem_nil, or_false, forall_eq_or_imp, forall_eq]; exact ⟨h.a, h.b⟩) (by simp)]
  have l1 := zl h.a.1 h.a.2
  have l2 := zl h.b.1 h.b.2
  have l3 := zl h.r.1 h.r.2
  simp only [Option.bind_some, List.flatMap_cons, List.flatMap_nil, List.append_nil, List.nil_append]
  obtain ⟨t, t1, t2, t3⟩ := Zl (b := zI c.1 ++ zI c.2.1) h.s (by simp; omega)
  rw [t1]
  simp only [Option.bind_some]
  have tl : (kW t).length = t.length := Bg t
  rw [Hf (l := [c.2.2.2.1]) (by simpa using h.r) (by simp [Bg]; omega)]
  simp only [Option.bind_some, List.flatMap_cons, List.flatMap_nil, List.append_nil]
  obtain ⟨u, u1, u2, u3⟩ := Zh (b := zI c.1 ++ zI c.2.1 ++ kW t ++ zI c.2.2.2.1) h.l (by simp [Bg]; omega)
  rw [u1]
  simp only [Option.bind_some]
  rw [Zf (by have := h.n; omega), Hf (l := [c.2.2.2.2.2.1]) (by simpa using h.e) (by simp [Bg]; omega)]
  simp only [Option.bind_some, List.flatMap_cons, List.flatMap_nil, List.append_nil]
  unfold uw
  by_cases hc : kU c = true
  · rw [if_neg (by rw [hc]; simp), if_pos hc]
    have hc' := hc
    unfold kU BK at hc'
    simp only [Bool.and_eq_true] at hc'
    have hs := IM hc'.1.1.1.2
    have hn : c.2.2.2.2.1.length ≤ 4 := by
      have := hc'.1.2
      unfold Cm at this
      simp only [Bool.and_eq_true, decide_eq_true_eq] at this
      exact this.2
    rw [t3 (by omega), u3 (by omega)]
    simp only [Option.bind_some, yA, U8]
    unfold xy
    simp only [List.append_assoc]
    rfl
  · rw [if_pos (by simpa using hc), if_neg hc]; rfl

theorem Qx {l : List VdT} (h : ∀ v ∈ l, I64 v.1 ∧ I64 v.2.1) : ∀ (k i : Nat) (b : List Int), i + k = l.length → b.length + 20 * k ≤ 140737488355328 → l.length < 4611686018427387904 →
    aY (bT l) (b, (i : Int)) = some (b ++ (l.drop i).flatMap (fun v => zI v.1 ++ zI v.2.1))
  | 0, i, b, hi, hb, hl => by
    have : i = l.length := by omega
    subst this
    rw [jw (r := b) (by unfold bT; simp)]
    simp
  | k + 1, i, b, hi, hb, hl => by
    have hlt : i < l.length := by omega
    have hn := h l[i] (List.getElem_mem hlt)
    have hz := zl hn.1.1 hn.1.2
    have hz2 := zl hn.2.1 hn.2.2
    rw [lI (y := (b ++ (zI l[i].1 ++ zI l[i].2.1), ((i + 1 : Nat) : Int))) (by
      unfold bT oO
      simp only [bI (i := i) (by omega), jO hlt, Option.bind_some]
      rw [if_pos (by simp; omega), Hf (l := [l[i].1, l[i].2.1]) (by simp only [List.mem_cons, List.not_mem_nil, or_false, forall_eq_or_imp, forall_eq]; exact hn) (by simp; omega)]
      simp), Qx h k (i + 1) _ (by omega) (by simp only [List.length_append]; omega) hl]
    have hd : l.drop i = l[i] :: l.drop (i + 1) := by simp
    rw [hd, List.flatMap_cons, List.append_assoc]
theorem Xb : ∀ {l : List VdT}, cu (l.flatMap (fun v => zI v.1 ++ zI v.2.1)) = l.flatMap (fun v => fM v.1 ++ fM v.2.1)
  | [] => rfl
  | x :: r => by rw [List.flatMap_cons, List.flatMap_cons, yA, yA, Xb]; rfl
theorem Du {l : List VdT} (h : ∀ v ∈ l, I64 v.1 ∧ I64 v.2.1) (hl : l.length ≤ 1048576) : kE l = some (if kL l = true then (sZ l, 0) else ([], 2)) := by
  unfold kE eU
  have hi : I64 (l.length : Int) := zx (by omega)
  have h2 := zl hi.1 hi.2
  rw [J7 (by omega), Hf (l := [(l.length : Int)]) (by simpa using hi) (by simp)]
  simp only [Option.bind_some, List.flatMap_cons, List.flatMap_nil, List.append_nil, List.nil_append]
  have := Qx h l.length 0 (zI (l.length : Int)) (by omega) (by omega) (by omega)
  rw [show ((0 : Nat) : Int) = (0 : Int) from rfl] at this
  rw [this]
  simp only [Option.bind_some, List.drop_zero]
  unfold uw
  by_cases hc : kL l = true
  · rw [if_neg (by rw [hc]; simp), if_pos hc, yA, Xb]; rfl
  · rw [if_pos (by simpa using hc), if_neg hc]; rfl
end Go.Proofs.YtbnmhjobnepajaaGreat.M


namespace Go.Proofs.YtbnmhjobnepajaaGreat.M

theorem pW {α : Type} {s a r : List α} {p : Nat} (h : s.drop p = a ++ r) : s.drop (p + a.length) = r := by
  rw [← List.drop_drop, h, List.drop_left]
theorem WN {α : Type} {s a r : List α} {p : Nat} (h : s.drop p = a ++ r) (ha : 0 < a.length) : p + a.length ≤ s.length := by
  have := congrArg List.length h
  rw [List.length_drop, List.length_append] at this
  omega
theorem Iw (n : Int) : 0 < (fM n).length := by unfold fM; rw [I9]; exact XG _

noncomputable def Val (n : Int) : Prop := -2199023255552 ≤ n ∧ n ≤ 2199023255552
theorem aaY {s : List UInt8} {p : Nat} {n : Int} {rest : List UInt8} (hs : s.length < 1073741824) (hn : Val n) (hd : s.drop p = fM n ++ rest) : fK s (p : Int) = some (n, ((p + (fM n).length : Nat) : Int), 0) := by
  have := WN hd (Iw n)
  rw [MI]; exact X9 (by omega) hn.1 hn.2 (by omega) hd
theorem count_eq {s : List UInt8} {p n : Nat} {m : Int} {rest : List UInt8} (hs : s.length < 1073741824) (hn : (n : Int) ≤ m) (hm : m ≤ 10000) (hd : s.drop p = fM (n : Int) ++ rest) : qh s (p : Int) m = some ((n : Int), ((p + (fM (n : Int)).length : Nat) : Int), 0) := by
  unfold qh
  rw [aaY hs ⟨by omega, by omega⟩ hd]
  simp only [Option.bind_some]
  rw [if_neg (by decide), if_neg (by simp), if_neg (by simp; omega)]
theorem aa1 {s : List UInt8} {p : Nat} {t rest : List UInt8} (hs : s.length < 1073741824) (ht : t.length ≤ 4096) (hd : s.drop p = xA t ++ rest) : pz s (p : Int) = some (t, ((p + (xA t).length : Nat) : Int), 0) := by
  have hd' := hd
  unfold xA at hd'
  rw [List.append_assoc] at hd'
  have h1 := WN hd (by unfold xA; rw [List.length_append]; have := Iw (t.length : Int); omega)
  have h2 := pW hd'
  have e1 : (xA t).length = (fM (t.length : Int)).length + t.length := by unfold xA; rw [List.length_append]
  unfold pz
  rw [count_eq (m := 4096) hs (by omega) (by omega) hd']
  simp only [Option.bind_some]
  have hw : IntKind.wrap .i64 ((s.length : Int) - ((p + (fM (t.length : Int)).length : Nat) : Int)) = ((s.length - (p + (fM (t.length : Int)).length) : Nat) : Int) := by rw [aP (by omega) (by omega)]; omega
  have hw2 : IntKind.wrap .i64 (((p + (fM (t.length : Int)).length : Nat) : Int) + (t.length : Int)) = ((p + (xA t).length : Nat) : Int) := by rw [aP (by omega) (by omega)]; omega
  rw [hw, hw2, if_neg (by decide), if_neg (by simp; omega), if_pos (by omega)]
  rw [show (((p + (xA t).length : Nat) : Int)).toNat = p + (xA t).length by omega, show (((p + (fM (t.length : Int)).length : Nat) : Int)).toNat = p + (fM (t.length : Int)).length by omega]
  congr 2
  rw [List.drop_take, h2, show p + (xA t).length - (p + (fM (t.length : Int)).length) = t.length by omega, List.take_left]

theorem N8 {s : List UInt8} {x0 : Int × Int × Int} {l : List Int} (hs : s.length < 1073741824) (hl : l.length ≤ 256) (hx : x0.1 = (l.length : Int)) (hv : ∀ n ∈ l, Val n) : ∀ (k i p : Nat) (rest : List UInt8), i + k = l.length → s.drop p = (l.drop i).flatMap fM ++ rest →
    aY (dU s x0) ((p : Int), l.take i, (i : Int)) = some (.inl (((p + ((l.drop i).flatMap fM).length : Nat) : Int), l))
  | 0, i, p, rest, hi, hd => by
    have : i = l.length := by omega
    subst this
    rw [jw (r := .inl ((p : Int), l)) (by unfold dU; simp [hx])]
    simp
  | k + 1, i, p, rest, hi, hd => by
    have hlt : i < l.length := by omega
    have hdi : l.drop i = l[i] :: l.drop (i + 1) := by simp
    have hd' := hd
    rw [hdi, List.flatMap_cons, List.append_assoc] at hd'
    rw [lI (y := (((p + (fM l[i]).length : Nat) : Int), l.take (i + 1), ((i + 1 : Nat) : Int))) (by
      unfold dU
      simp only [bI (i := i) (by omega), aaY hs (hv _ (List.getElem_mem hlt)) hd', Option.bind_some, hx]
      rw [if_pos (by simp; omega), if_neg (by decide), if_pos (by simp; omega), List.take_succ_eq_append_getElem hlt]), N8 hs hl hx hv k (i + 1) _ rest (by omega) (pW hd')]
    rw [hdi, List.flatMap_cons, List.length_append]
    congr 3
    omega
theorem aa0 {s : List UInt8} {p : Nat} {l : List Int} {rest : List UInt8} (hs : s.length < 1073741824) (hl : l.length ≤ 256) (hv : ∀ n ∈ l, Val n) (hd : s.drop p = BU l ++ rest) : lZ s (p : Int) = some (l, ((p + (BU l).length : Nat) : Int), 0) := by
  have hd' := hd
  unfold BU at hd'
  rw [List.append_assoc] at hd'
  unfold lZ gX
  rw [count_eq (m := 256) hs (by omega) (by omega) hd']
  simp only [Option.bind_some]
  rw [if_neg (by decide)]
  have := N8 (x0 := ((l.length : Int), ((p + (fM (l.length : Int)).length : Nat) : Int), 0)) hs hl rfl hv l.length 0 (p + (fM (l.length : Int)).length) rest (by omega) (pW hd')
  simp only [List.take_zero, List.drop_zero] at this
  rw [show ((0 : Nat) : Int) = (0 : Int) from rfl] at this
  rw [this]
  simp only [Option.bind_some, jR]
  unfold BU
  rw [List.length_append, Nat.add_assoc]

noncomputable def rdr (σ : St) (x : aA kC) : St := σ.bz (σ.au ++ [x])
theorem wK (σ : St) (x : aA kC) : (rdr σ x).au[σ.au.length]? = some x := by
  unfold rdr St.bz
  simp
theorem E8 (σ : St) (x y : aA kC) : (rdr σ x).au.set σ.au.length y = (rdr σ y).au := by
  unfold rdr St.bz
  simp
theorem zk {σ : St} {s : List UInt8} {p : Nat} {n : Int} {rest : List UInt8} (hs : s.length < 1073741824) (hn : Val n) (hd : s.drop p = fM n ++ rest) :
    dB (some σ.au.length) (rdr σ (s, (p : Int), 0, ())) = some (n, rdr σ (s, ((p + (fM n).length : Nat) : Int), 0, ())) := by
  unfold dB
  have hg := wK σ (s, (p : Int), 0, ())
  simp only [Option.bind_some, hg, aaY hs hn hd]
  rw [if_neg (by decide)]
  have h1 := E8 σ (s, (p : Int), 0, ()) (s, ((p + (fM n).length : Nat) : Int), 0, ())
  have h2 := wK σ (s, ((p + (fM n).length : Nat) : Int), 0, ())
  have h3 := E8 σ (s, ((p + (fM n).length : Nat) : Int), 0, ()) (s, ((p + (fM n).length : Nat) : Int), 0, ())
  rw [h1, h2]
  simp only [Option.bind_some]
  rw [h3]
  rfl
theorem YL {σ : St} {s : List UInt8} {p : Nat} {t rest : List UInt8} (hs : s.length < 1073741824) (ht : t.length ≤ 4096) (hd : s.drop p = xA t ++ rest) :
    mZ (some σ.au.length) (rdr σ (s, (p : Int), 0, ())) = some (t, rdr σ (s, ((p + (xA t).length : Nat) : Int), 0, ())) := by
  unfold mZ
  have hg := wK σ (s, (p : Int), 0, ())
  simp only [Option.bind_some, hg, aa1 hs ht hd]
  rw [if_neg (by decide)]
  have h1 := E8 σ (s, (p : Int), 0, ()) (s, ((p + (xA t).length : Nat) : Int), 0, ())
  have h2 := wK σ (s, ((p + (xA t).length : Nat) : Int), 0, ())
  have h3 := E8 σ (s, ((p + (xA t).length : Nat) : Int), 0, ()) (s, ((p + (xA t).length : Nat) : Int), 0, ())
  rw [h1, h2]
  simp only [Option.bind_some]
  rw [h3]
  rfl
theorem YK {σ : St} {s : List UInt8} {p : Nat} {l : List Int} {rest : List UInt8} (hs : s.length < 1073741824) (hl : l.length ≤ 256) (hv : ∀ n ∈ l, Val n) (hd : s.drop p = BU l ++ rest) :
    kN (some σ.au.length) (rdr σ (s, (p : Int), 0, ())) = some (l, rdr σ (s, ((p + (BU l).length : Nat) : Int), 0, ())) := by
  unfold kN
  have hg := wK σ (s, (p : Int), 0, ())
  simp only [Option.bind_some, hg, aa0 hs hl hv hd]
  rw [if_neg (by decide)]
  have h1 := E8 σ (s, (p : Int), 0, ()) (s, ((p + (BU l).length : Nat) : Int), 0, ())
  have h2 := wK σ (s, ((p + (BU l).length : Nat) : Int), 0, ())
  have h3 := E8 σ (s, ((p + (BU l).length : Nat) : Int), 0, ()) (s, ((p + (BU l).length : Nat) : Int), 0, ())
  rw [h1, h2]
  simp only [Option.bind_some]
  rw [h3]
  rfl

theorem tH {c : iV} (h : kU c = true) : (0 ≤ c.1 ∧ c.1 ≤ 5) ∧ (1 ≤ c.2.1 ∧ c.2.1 ≤ 1099511627776) ∧ c.2.2.1.length ≤ 32 ∧ (0 ≤ c.2.2.2.1 ∧ c.2.2.2.1 ≤ 11) ∧ (∀ n ∈ c.2.2.2.2.1, -1099511627776 ≤ n ∧ n ≤ 1099511627776) ∧ c.2.2.2.2.1.length ≤ 4 ∧ (-1 ≤ c.2.2.2.2.2.1 ∧ c.2.2.2.2.2.1 ≤ 1099511627776) := by
  unfold kU BK Cm at h
  simp only [Bool.and_eq_true, List.all_eq_true, decide_eq_true_eq, H5] at h
  obtain ⟨⟨⟨⟨⟨h1, h2⟩, h3⟩, h4⟩, h5, h6⟩, h7⟩ := h
  exact ⟨h1, h2, IM h3, h4, h5, h6, h7⟩
theorem Be {c : iV} (h : kU c = true) : (xy c).length ≤ 200 ∧ 0 < (xy c).length := by
  obtain ⟨h1, h2, h3, h4, h5, h6, h7⟩ := tH h
  have z : ∀ {n : Int}, -1099511627776 ≤ n → n ≤ 1099511627776 → (fM n).length ≤ 10 := fun a b => xn ⟨by omega, by omega⟩
  have a1 := z (n := c.1) (by omega) (by omega)
  have a2 := z (n := c.2.1) (by omega) (by omega)
  have a3 := z (n := c.2.2.2.1) (by omega) (by omega)
  have a4 := z (n := c.2.2.2.2.2.1) (by omega) (by omega)
  have a5 := z (n := (c.2.2.1.length : Int)) (by omega) (by omega)
  have a6 := z (n := (c.2.2.2.2.1.length : Int)) (by omega) (by omega)
  have a7 := PQ (l := c.2.2.2.2.1) (fun n hn => ⟨by have := h5 n hn; omega, by have := h5 n hn; omega⟩)
  have p1 := Iw c.1
  unfold xy xA BU
  simp only [List.length_append]
  omega

theorem ab2 {σ : St} {s : List UInt8} {p : Nat} {c : iV} (hc : kU c = true) : gI (some σ.au.length) c () (rdr σ (s, (p : Int), 0, ())) = some ((c, (p : Int), 0), rdr σ (s, (p : Int), 0, ())) := by
  unfold gI
  have hg := wK σ (s, (p : Int), 0, ())
  simp only [Option.bind_some, hg, Zf (c := c) (by have := (tH hc).2.2.2.2.2.1; omega), hc]
  simp [hg]
theorem UZ {σ : St} {c : iV} (hc : kU c = true) : su (xy c) 0 σ = some ((c, ((xy c).length : Int), 0), rdr σ (xy c, ((xy c).length : Int), 0, ())) := by
  obtain ⟨h1, h2, h3, h4, h5, h6, h7⟩ := tH hc
  have hl := (Be hc).1
  generalize hsd : xy c = s at *
  have hs : s.length < 1073741824 := by omega
  have d0 : s.drop 0 = fM c.1 ++ (fM c.2.1 ++ (xA c.2.2.1 ++ (fM c.2.2.2.1 ++ (BU c.2.2.2.2.1 ++ (fM c.2.2.2.2.2.1 ++ []))))) := by
    rw [← hsd, List.append_nil]; rfl
  have d1 := pW d0
  have d2 := pW d1
  have d3 := pW d2
  have d4 := pW d3
  have d5 := pW d4
  unfold su
  have e0 : σ.bz (σ.au ++ [(s, (0 : Int), (0 : Int), ())]) = rdr σ (s, ((0 : Nat) : Int), 0, ()) := rfl
  rw [e0, zk hs ⟨by omega, by omega⟩ d0]
  simp only [Option.bind_some]
  rw [zk hs ⟨by omega, by omega⟩ d1]
  simp only [Option.bind_some]
  rw [YL hs (by omega) d2]
  simp only [Option.bind_some]
  rw [zk hs ⟨by omega, by omega⟩ d3]
  simp only [Option.bind_some]
  rw [YK hs (by omega) (fun n hn => ⟨by have := h5 n hn; omega, by have := h5 n hn; omega⟩) d4]
  simp only [Option.bind_some]
  rw [zk hs ⟨by omega, by omega⟩ d5]
  simp only [Option.bind_some]
  have hc' : kU (c.1, c.2.1, c.2.2.1, c.2.2.2.1, c.2.2.2.2.1, c.2.2.2.2.2.1, ()) = true := hc
  rw [ab2 hc']
  have hend : 0 + (fM c.1).length + (fM c.2.1).length + (xA c.2.2.1).length + (fM c.2.2.2.1).length + (BU c.2.2.2.2.1).length + (fM c.2.2.2.2.2.1).length = s.length := by
    rw [← hsd]
    unfold xy
    simp only [List.length_append]
    omega
  rw [hend]
  rfl
theorem YR {σ : St} {c : iV} (hc : kU c = true) : dZ (xy c) () σ = some ((c, true), rdr σ (xy c, ((xy c).length : Int), 0, ())) := by
  unfold dZ
  rw [UZ hc]
  simp

theorem GR {l : List VdT} (h : kL l = true) : l.length ≤ 32 ∧ ∀ v ∈ l, (1 ≤ v.1 ∧ v.1 ≤ 1099511627776) ∧ 0 ≤ v.2.1 ∧ v.2.1 ≤ 63 := by
  unfold kL at h
  simp only [Bool.and_eq_true, decide_eq_true_eq] at h
  obtain ⟨h1, h2⟩ := h
  refine ⟨h2, fun v hv => ?_⟩
  have key : ∀ (m : List VdT) (i : Nat), qH (Ox l) i m = true → ∀ v ∈ m, (1 ≤ v.1 ∧ v.1 ≤ 1099511627776) ∧ 0 ≤ v.2.1 ∧ v.2.1 ≤ 63 := by
    intro m
    induction m with
    | nil => intro i _ v hv; simp at hv
    | cons x r ih =>
      intro i hx v hv
      unfold qH at hx
      rw [Bool.and_eq_true] at hx
      rcases List.mem_cons.1 hv with rfl | hv
      · have := hx.1
        unfold Ox at this
        simp only [Bool.and_eq_true, H5] at this
        exact ⟨this.1.1, this.1.2⟩
      · exact ih (i + 1) hx.2 v hv
  exact key l 0 h1 v hv
theorem Qn {s : List UInt8} {σ : St} {x0 : Int × St} {l : List VdT} (hs : s.length < 1073741824) (hx : x0.1 = (l.length : Int)) (hl : l.length ≤ 32) (hv : ∀ v ∈ l, (1 ≤ v.1 ∧ v.1 ≤ 1099511627776) ∧ 0 ≤ v.2.1 ∧ v.2.1 ≤ 63) : ∀ (k i p : Nat) (rest : List UInt8), i + k = l.length → s.drop p = (l.drop i).flatMap (fun v => fM v.1 ++ fM v.2.1) ++ rest →
    aY (bJ (some σ.au.length) x0) (l.take i, (i : Int), rdr σ (s, (p : Int), 0, ())) = some (l, rdr σ (s, ((p + ((l.drop i).flatMap (fun v => fM v.1 ++ fM v.2.1)).length : Nat) : Int), 0, ()))
  | 0, i, p, rest, hi, hd => by
    have : i = l.length := by omega
    subst this
    rw [jw (r := (l, rdr σ (s, (p : Int), 0, ()))) (by unfold bJ; simp [hx])]
    simp
  | k + 1, i, p, rest, hi, hd => by
    have hlt : i < l.length := by omega
    have hdi : l.drop i = l[i] :: l.drop (i + 1) := by simp
    have hd' := hd
    rw [hdi, List.flatMap_cons, List.append_assoc, List.append_assoc] at hd'
    have hd2 := pW hd'
    obtain ⟨v1, v2⟩ := hv _ (List.getElem_mem hlt)
    rw [lI (y := (l.take (i + 1), ((i + 1 : Nat) : Int), rdr σ (s, ((p + (fM l[i].1).length + (fM l[i].2.1).length : Nat) : Int), 0, ()))) (by
      unfold bJ nX
      have hlt' : (i : Int) < x0.1 := by omega
      have hg := wK σ (s, (p : Int), 0, ())
      simp only [hlt', decide_true, if_true, Option.bind_some, hg, bI (i := i) (by omega), beq_self_eq_true, Bool.and_self, zk hs (n := l[i].1) ⟨by omega, by omega⟩ hd', zk hs (n := l[i].2.1) ⟨by omega, by omega⟩ hd2]
      rw [if_pos (by simp; omega), List.take_succ_eq_append_getElem hlt]), Qn hs hx hl hv k (i + 1) _ rest (by omega) (pW hd2)]
    rw [hdi, List.flatMap_cons, List.length_append, List.length_append]
    rw [show p + (fM l[i].1).length + (fM l[i].2.1).length + ((l.drop (i + 1)).flatMap fun v => fM v.1 ++ fM v.2.1).length = p + ((fM l[i].1).length + (fM l[i].2.1).length + ((l.drop (i + 1)).flatMap fun v => fM v.1 ++ fM v.2.1).length) by omega]
theorem acC {s : List UInt8} {σ : St} {l : List VdT} {p : Nat} {rest : List UInt8} (hs : s.length < 1073741824) (hl : l.length ≤ 32) (hv : ∀ v ∈ l, (1 ≤ v.1 ∧ v.1 ≤ 1099511627776) ∧ 0 ≤ v.2.1 ∧ v.2.1 ≤ 63) (hd : s.drop p = sZ l ++ rest) :
    dw (some σ.au.length) 32 () (rdr σ (s, (p : Int), 0, ())) = some (l, rdr σ (s, ((p + (sZ l).length : Nat) : Int), 0, ())) := by
  unfold dw
  have hd' := hd
  unfold sZ at hd'
  rw [List.append_assoc] at hd'
  rw [zk hs (n := (l.length : Int)) ⟨by omega, by omega⟩ hd']
  have hin : inR (l.length : Int) 0 32 = true := H5.2 ⟨by omega, by omega⟩
  have hg := wK σ (s, ((p + (fM (l.length : Int)).length : Nat) : Int), 0, ())
  simp only [Option.bind_some, hg, beq_self_eq_true, if_true, Bz, hin, Bool.not_true, Bool.and_false, Bool.false_eq_true, if_false]
  have := Qn (σ := σ) (x0 := ((l.length : Int), rdr σ (s, ((p + (fM (l.length : Int)).length : Nat) : Int), 0, ()))) hs rfl hl hv l.length 0 (p + (fM (l.length : Int)).length) rest (by omega) (pW hd')
  simp only [List.take_zero, List.drop_zero] at this
  rw [show ((0 : Nat) : Int) = (0 : Int) from rfl] at this
  rw [this]
  simp only [Option.bind_some]
  unfold sZ
  rw [List.length_append, Nat.add_assoc]
theorem Bf {l : List VdT} (h : kL l = true) : (sZ l).length ≤ 700 ∧ 0 < (sZ l).length := by
  obtain ⟨h1, h2⟩ := GR h
  have a1 := xn (n := (l.length : Int)) (zx (by omega))
  have p1 := Iw (l.length : Int)
  have key : ∀ (m : List VdT), (∀ v ∈ m, v ∈ l) → (m.flatMap (fun v => fM v.1 ++ fM v.2.1)).length ≤ 20 * m.length := by
    intro m
    induction m with
    | nil => intro _; simp
    | cons x r ih =>
      intro hm
      have := ih fun v hv => hm v (List.mem_cons_of_mem _ hv)
      obtain ⟨b1, b2⟩ := h2 x (hm x List.mem_cons_self)
      have c1 := xn (n := x.1) ⟨by omega, by omega⟩
      have c2 := xn (n := x.2.1) ⟨by omega, by omega⟩
      rw [List.flatMap_cons, List.length_append, List.length_append, List.length_cons]; omega
  have := key l fun _ h => h
  unfold sZ
  rw [List.length_append]
  omega
theorem YS {σ : St} {l : List VdT} (h : kL l = true) : dh (sZ l) () σ = some ((l, true), rdr σ (sZ l, ((sZ l).length : Int), 0, ())) := by
  obtain ⟨h1, h2⟩ := GR h
  have hl := (Bf h).1
  unfold dh pX
  have e0 : σ.bz (σ.au ++ [(sZ l, (0 : Int), (0 : Int), ())]) = rdr σ (sZ l, ((0 : Nat) : Int), 0, ()) := rfl
  rw [e0, acC (rest := []) (by omega) h1 h2 (by simp)]
  simp only [Option.bind_some, Nat.zero_add]
  have e1 : dN (some σ.au.length) l () (rdr σ (sZ l, ((sZ l).length : Int), 0, ())) = some ((l, ((sZ l).length : Int), 0), rdr σ (sZ l, ((sZ l).length : Int), 0, ())) := by
    unfold dN
    have hg := wK σ (sZ l, ((sZ l).length : Int), 0, ())
    simp only [Option.bind_some, hg, J7 (l := l) (by omega), h]
    simp [hg]
  rw [e1]
  simp
end Go.Proofs.YtbnmhjobnepajaaGreat.M


namespace Go.Proofs.YtbnmhjobnepajaaGreat.M

theorem Oz {x : Int} (h1 : 0 ≤ x) (h2 : x < 256) : IntKind.wrap .u8 x = x := by
  have : IntKind.wrap .u8 x = x % 256 := by simp [IntKind.wrap, IntKind.bits, IntKind.signed]
  rw [this]; omega

noncomputable def dgt (n : Nat) : UInt8 := UInt8.ofNat (48 + n)

theorem Hm {n : Nat} (h : n < 10) : (dgt n).toNat = 48 + n := by
  unfold dgt
  rw [UInt8.toNat_ofNat_of_lt' (by show 48 + n < 256; omega)]

noncomputable def dig (n : Nat) : List UInt8 := if n < 10 then [dgt n] else dig (n / 10) ++ [dgt (n % 10)]
  termination_by n
  decreasing_by omega

theorem tJ {n : Nat} (h : n < 10) : dig n = [dgt n] := by rw [dig, if_pos h]
theorem ET {n : Nat} (h : ¬ n < 10) : dig n = dig (n / 10) ++ [dgt (n % 10)] := by rw [dig, if_neg h]

theorem WM : ∀ (k n : Nat), n < 10 ^ (k + 1) → (dig n).length ≤ k + 1 := by
  intro k
  induction k with
  | zero => intro n h; rw [tJ (by simpa using h)]; simp
  | succ k ih =>
    intro n h
    by_cases c : n < 10
    · rw [tJ c]; simp
    · rw [ET c, List.length_append]
      have := ih (n / 10) (by rw [Nat.div_lt_iff_lt_mul (by decide)]; rw [Nat.pow_succ] at h; exact h)
      simp only [List.length_cons, List.length_nil]; omega

theorem Jb {n : Nat} (h : n ≤ 1099511627776) : (dig n).length ≤ 13 := WM 12 n (by omega)

theorem Q3 (n : Nat) : 0 < (dig n).length := by
  by_cases c : n < 10
  · rw [tJ c]; simp
  · rw [ET c]; simp

theorem WL (n : Nat) : ∀ c ∈ dig n, 48 ≤ c.toNat ∧ c.toNat ≤ 57 := by
  induction n using Nat.strongRecOn with
  | ind n ih =>
    intro c hc
    by_cases h : n < 10
    · rw [tJ h] at hc
      simp only [List.mem_cons, List.not_mem_nil, or_false] at hc
      subst hc; rw [Hm h]; omega
    · rw [ET h, List.mem_append] at hc
      rcases hc with hc | hc
      · exact ih _ (by omega) c hc
      · simp only [List.mem_cons, List.not_mem_nil, or_false] at hc
        subst hc; rw [Hm (by omega)]; omega

noncomputable def GN (v : Nat) (s : List UInt8) : Nat := s.foldl (fun v c => v * 10 + (c.toNat - 48)) v

theorem abj (v : Nat) (s t : List UInt8) : GN v (s ++ t) = GN (GN v s) t := by unfold GN; rw [List.foldl_append]

theorem Qv (v : Nat) (c : UInt8) (r : List UInt8) : GN v (c :: r) = GN (v * 10 + (c.toNat - 48)) r := by unfold GN; rw [List.foldl_cons]

theorem IV (n : Nat) : GN 0 (dig n) = n := by
  induction n using Nat.strongRecOn with
  | ind n ih =>
    by_cases h : n < 10
    · rw [tJ h]; simp only [GN, List.foldl_cons, List.foldl_nil]; rw [Hm h]; omega
    · rw [ET h, abj, ih _ (by omega)]
      simp only [GN, List.foldl_cons, List.foldl_nil]; rw [Hm (by omega)]; omega

theorem abY {m n : Nat} (h : dig m = dig n) : m = n := by rw [← IV m, h, IV]

theorem YP (v : Nat) (s : List UInt8) : v ≤ GN v s := by
  induction s generalizing v with
  | nil => exact Nat.le_refl _
  | cons c r ih =>
    have := ih (v * 10 + (c.toNat - 48))
    simp only [GN, List.foldl_cons] at this ⊢
    omega

theorem acp {c : UInt8} (h : 48 ≤ c.toNat ∧ c.toNat ≤ 57) : okc c = true := by
  unfold okc
  simp only [Bool.or_eq_true, Bool.and_eq_true, decide_eq_true_eq, beq_iff_eq]
  omega

end Go.Proofs.YtbnmhjobnepajaaGreat.M


namespace Go.Proofs.YtbnmhjobnepajaaGreat.M

theorem Je : ∀ (k n : Nat) (x : Int), n + k = 8 → ∃ y, qI x (n : Int) = some (y, 8)
  | 0, n, x, h => by
    rw [qI]
    have : n = 8 := by omega
    subst this
    exact ⟨x, by simp⟩
  | k + 1, n, x, h => by
    rw [qI]
    have hw : IntKind.wrap .i64 ((n : Int) + 1) = ((n + 1 : Nat) : Int) := by rw [aP (by omega) (by omega)]; omega
    have h1 : ((n : Int) < 8) := by omega
    rw [hw]
    simp only [h1, decide_true, if_true]
    split
    · exact Je k (n + 1) _ (by omega)
    · exact Je k (n + 1) _ (by omega)

theorem Yc (a b : Int) : ∃ y, f151 a b = some y := by
  unfold f151
  obtain ⟨y, h⟩ := Je 8 0 (IntKind.wrap .u32 ((BitVec.ofInt (IntKind.bits .u32) a ^^^ BitVec.ofInt (IntKind.bits .u32) (IntKind.wrap .u32 (b))).toNat)) (by omega)
  rw [show (((0 : Nat) : Int)) = (0 : Int) from rfl] at h
  exact ⟨y, by rw [h]; rfl⟩

theorem PD (s : List UInt8) (hs : s.length < 9223372036854775808) : ∀ (k n : Nat) (x : Int), n + k = s.length → ∃ y, wH s x (n : Int) = some y
  | 0, n, x, h => by
    rw [wH]
    have : n = s.length := by omega
    subst this
    exact ⟨_, by simp; rfl⟩
  | k + 1, n, x, h => by
    rw [wH]
    have hn : n < s.length := by omega
    have hw : IntKind.wrap .i64 ((n : Int) + 1) = ((n + 1 : Nat) : Int) := by rw [aP (by omega) (by omega)]; omega
    have h1 : ((n : Int) < (s.length : Int)) := by omega
    have h0 : (0 : Int) ≤ (n : Int) := by omega
    obtain ⟨z, hz⟩ := Yc x (btS s (n : Int))
    obtain ⟨y, ih⟩ := PD s hs k (n + 1) z (by omega)
    refine ⟨y, ?_⟩
    simp only [h1, h0, decide_true, if_true, and_self, hz, Option.bind_eq_bind, Option.bind_some, hw, ih]

noncomputable def crc (s : List UInt8) : Int := (f111 s).getD 0

theorem WZ {s : List UInt8} (hs : s.length < 9223372036854775808) : f111 s = some (crc s) := by
  have : ∃ y, f111 s = some y := by
    unfold f111 f138
    obtain ⟨y, h⟩ := PD s hs s.length 0 (IntKind.wrap .u32 ((BitVec.ofInt (IntKind.bits .u32) (if IntKind.signed .u32 = true then -1 else IntKind.max .u32) ^^^ BitVec.ofInt (IntKind.bits .u32) 0).toNat)) (by omega)
    rw [show (((0 : Nat) : Int)) = (0 : Int) from rfl] at h
    exact ⟨_, by rw [h]; rfl⟩
  obtain ⟨y, h⟩ := this
  unfold crc
  rw [h]; rfl

noncomputable def V6 (s : List UInt8) : List UInt8 := cu [IntKind.wrap .u8 (crc s), IntKind.wrap .u8 (Int.fdiv (crc s) (2 ^ 8)), IntKind.wrap .u8 (Int.fdiv (crc s) (2 ^ 16)), IntKind.wrap .u8 (Int.fdiv (crc s) (2 ^ 24))]
noncomputable def EK (s : List UInt8) : List UInt8 := s ++ V6 s
noncomputable def JY (s : List UInt8) : Option (List UInt8) := if 4 ≤ s.length ∧ V6 (s.take (s.length - 4)) = s.drop (s.length - 4) then some (s.take (s.length - 4)) else none

theorem UM (s : List UInt8) : (V6 s).length = 4 := by simp [V6, cu]
theorem JB (s : List UInt8) : (EK s).length = s.length + 4 := by unfold EK; rw [List.length_append, UM]

theorem NS (s : List UInt8) : JY (EK s) = some s := by
  unfold JY
  have hl := JB s
  have e1 : (EK s).length - 4 = s.length := by omega
  have e2 : (EK s).take s.length = s := by unfold EK; simp
  have e3 : (EK s).drop s.length = V6 s := by unfold EK; simp
  rw [e1, e2, e3, if_pos ⟨by omega, rfl⟩]

theorem TG (s : List UInt8) : f110 (crc s) = some (V6 s) := rfl

theorem ady {s : List UInt8} (hs : s.length + 4 < 9223372036854775808) : f89 s = some (EK s) := by
  unfold f89
  have hl := UM s
  simp only [WZ (s := s) (by omega), TG, Option.bind_eq_bind, Option.bind_some]
  rw [if_pos (by omega)]
  rfl

theorem ab7 {s : List UInt8} (hs : s.length < 9223372036854775808) : (∃ t, JY s = some t ∧ f108 s = some (t, 0)) ∨ (JY s = none ∧ ∃ e : Int, e ≠ 0 ∧ f108 s = some ([], e)) := by
  unfold f108
  have hw : IntKind.wrap .i64 ((s.length : Int) - 4) = (s.length : Int) - 4 := aP (by omega) (by omega)
  rw [hw]
  by_cases c : s.length < 4
  · refine .inr ⟨?_, 5, by decide, by rw [if_pos (by simp; omega)]⟩
    unfold JY
    rw [if_neg (by omega)]
  have e1 : Int.toNat ((s.length : Int) - 4) = s.length - 4 := by omega
  have hg : (0 : Int) ≤ (s.length : Int) - 4 ∧ (s.length : Int) - 4 ≤ (s.length : Int) := by omega
  have hl : (s.take (s.length - 4)).length < 9223372036854775808 := by rw [List.length_take]; omega
  rw [if_neg (by simp; omega), if_pos hg]
  simp only [e1, WZ hl, TG, Option.bind_eq_bind, Option.bind_some]
  rw [if_pos hg, if_pos hg]
  unfold JY
  by_cases c2 : V6 (s.take (s.length - 4)) = s.drop (s.length - 4)
  · refine .inl ⟨s.take (s.length - 4), ?_, ?_⟩
    · rw [if_pos ⟨by omega, c2⟩]
    · rw [if_neg (by simp [c2])]
  · refine .inr ⟨?_, 7, by decide, ?_⟩
    · rw [if_neg (fun h => c2 h.2)]
    · rw [if_pos (by simpa using c2)]

end Go.Proofs.YtbnmhjobnepajaaGreat.M


namespace Go.Proofs.YtbnmhjobnepajaaGreat.M

theorem ab9 : ∀ (n : Nat), n < 9223372036854775808 → og (n : Int) = some (dig n) := by
  intro n
  induction n using Nat.strongRecOn with
  | ind n ih =>
    intro hn
    rw [og]
    by_cases h : n < 10
    · have h1 : ((n : Int) < 10) := by omega
      rw [if_pos (by simpa using h1), tJ h, aP (by omega) (by omega), Oz (by omega) (by omega)]
      simp only [cu, List.map_cons, List.map_nil, dgt]
      congr 3
    · have h1 : ¬ ((n : Int) < 10) := by omega
      rw [if_neg (by simpa using h1)]
      have e1 : Int.tdiv (n : Int) 10 = ((n / 10 : Nat) : Int) := by
        rw [Int.tdiv_eq_ediv_of_nonneg (by omega)]; omega
      have e2 : Int.tmod (n : Int) 10 = ((n % 10 : Nat) : Int) := by
        rw [Int.tmod_eq_emod_of_nonneg (by omega)]; omega
      rw [e1, e2, aP (x := ((n / 10 : Nat) : Int)) (by omega) (by omega), ih _ (by omega) (by omega), aP (by omega) (by omega), Oz (by omega) (by omega)]
      have e3 : cu [(48 + ((n % 10 : Nat) : Int))] = [dgt (n % 10)] := by
        simp only [cu, List.map_cons, List.map_nil, dgt]
        congr 2
      have hl := WM 18 (n / 10) (by omega)
      simp only [Option.bind_eq_bind, Option.bind_some, e3]
      rw [if_pos (by simp only [List.length_cons, List.length_nil]; omega), ET h]

theorem PE (s : List UInt8) (hs : s.length < 9223372036854775808) : ∀ (k n : Nat) (v : Nat), n + k = s.length → v ≤ 1099511627776 → (∀ c ∈ s.drop n, 48 ≤ c.toNat ∧ c.toNat ≤ 57) → GN v (s.drop n) ≤ 1099511627776 →
    wI s (v : Int) (n : Int) = some (.inl (((GN v (s.drop n) : Nat) : Int), (s.length : Int)))
  | 0, n, v, h, hv, hc, hw => by
    rw [wI]
    have : n = s.length := by omega
    subst this
    simp [GN]
  | k + 1, n, v, h, hv, hc, hw => by
    rw [wI]
    have hn : n < s.length := by omega
    have hw1 : IntKind.wrap .i64 ((n : Int) + 1) = ((n + 1 : Nat) : Int) := by rw [aP (by omega) (by omega)]; omega
    have hd : s.drop n = s[n] :: s.drop (n + 1) := by simp
    have h1 : ((n : Int) < (s.length : Int)) := by omega
    have h0 : (0 : Int) ≤ (n : Int) := by omega
    rw [hd] at hc hw
    have hc1 := hc _ List.mem_cons_self
    rw [Qv] at hw
    have hm := YP (v * 10 + (s[n].toNat - 48)) (s.drop (n + 1))
    rw [BC hn, hw1, hd]
    simp only [h1, h0, decide_true, if_true, and_self]
    rw [if_neg (by simp; omega), if_neg (by simp; omega)]
    have e1 : IntKind.wrap .i64 (IntKind.wrap .i64 ((v : Int) * 10) + IntKind.wrap .i64 (IntKind.wrap .u8 ((s[n].toNat : Int) - 48))) = ((v * 10 + (s[n].toNat - 48) : Nat) : Int) := by
      rw [Oz (by omega) (by omega), aP (x := (s[n].toNat : Int) - 48) (by omega) (by omega), aP (x := (v : Int) * 10) (by omega) (by omega), aP (by omega) (by omega)]
      omega
    rw [e1, PE s hs k (n + 1) (v * 10 + (s[n].toNat - 48)) (by omega) (by omega) (fun c hc2 => hc c (List.mem_cons_of_mem _ hc2)) hw, Qv]

theorem Zz {n : Nat} (hn : 0 < n) : ∃ c r, dig n = c :: r ∧ c.toNat ≠ 48 := by
  induction n using Nat.strongRecOn with
  | ind n ih =>
    by_cases h : n < 10
    · exact ⟨dgt n, [], tJ h, by rw [Hm h]; omega⟩
    · obtain ⟨c, r, h1, h2⟩ := ih (n / 10) (by omega) (by omega)
      exact ⟨c, r ++ [dgt (n % 10)], by rw [ET h, h1]; rfl, h2⟩

theorem TJ {n : Nat} (hn : n ≤ 1099511627776) : f140 (dig n) = some (n : Int) := by
  have hl := Jb hn
  have hp := Q3 n
  have h0 := PE (dig n) (by omega) (dig n).length 0 0 (by omega) (by omega) (by rw [List.drop_zero]; exact WL n) (by rw [List.drop_zero, IV]; exact hn)
  rw [show (((0 : Nat) : Int)) = (0 : Int) from rfl, List.drop_zero, IV] at h0
  unfold f140
  rw [h0]
  simp only [Option.bind_eq_bind, Option.bind_some]
  have hne : dig n ≠ [] := fun e => by rw [e] at hp; simp at hp
  rw [if_neg (by simpa using hne), if_pos (by omega)]
  rw [if_neg]
  simp only [Bool.or_eq_true, Bool.and_eq_true, not_or, not_and]
  refine ⟨fun h1 => ?_, by simp; omega⟩
  by_cases c : n = 0
  · subst c
    rw [tJ (by decide)]
    decide
  · obtain ⟨c, r, h2, h3⟩ := Zz (n := n) (by omega)
    rw [h2] at h1
    have : btS (c :: r) 0 = (c.toNat : Int) := by
      have := BC (s := c :: r) (n := 0) (by simp)
      simpa using this
    rw [this] at h1
    simp at h1
    omega

abbrev nmL : List UInt8 := [99, 109, 100, 115]
theorem acb : f95 nmL = some true := by
  unfold f95
  rw [vU, vU, vU, vU, vU]
  rfl

noncomputable def bP (n : Nat) : List UInt8 := [99, 109, 100, 115, 46] ++ dig n
theorem PL {m n : Nat} (h : bP m = bP n) : m = n := abY (List.append_cancel_left h)
theorem EX {n : Nat} (h : n ≤ 1099511627776) : (bP n).length ≤ 18 := by
  have := Jb h
  unfold bP
  rw [List.length_append]; simp only [List.length_cons, List.length_nil]; omega
theorem yt {n : Nat} (h : n ≤ 1099511627776) : Jt (bP n) = true := by
  have hl := EX h
  unfold Jt
  have h1 : (bP n).all okc = true := by
    unfold bP
    rw [List.all_append, Bool.and_eq_true]
    refine ⟨by decide, List.all_eq_true.2 (fun c hc => acp (WL n c hc))⟩
  have h2 : 0 < (bP n).length := by unfold bP; rw [List.length_append]; simp only [List.length_cons]; omega
  rw [h1]
  simp only [Bool.true_and, Bool.and_eq_true, decide_eq_true_eq]
  omega

noncomputable def oV (n : Nat) (x : List UInt8) : List UInt8 := EK (oq n ++ x)
noncomputable def iT (n : Nat) (x : List UInt8) : List UInt8 := oq (oV n x).length ++ oV n x

abbrev OkR (x : List UInt8) : Prop := x.length ≤ 1024
abbrev OkN (n : Nat) : Prop := n < 4611686018427387904

theorem EG {n : Nat} {x : List UInt8} (hn : OkN n) (hx : OkR x) : (oV n x).length ≤ 1038 := by
  have := xm (n := n) (by unfold OkN at hn; omega)
  unfold oV
  rw [JB, List.length_append]
  unfold OkR at hx; omega

theorem NY {n : Nat} {x : List UInt8} (hn : OkN n) (hx : OkR x) : (iT n x).length ≤ 1048 := by
  have h1 := EG hn hx
  have := xm (n := (oV n x).length) (by omega)
  unfold iT
  rw [List.length_append]; omega

theorem aaO (n : Nat) : 0 < (oq n).length := by
  unfold oq cu; rw [List.length_map]; exact XG _

theorem NZ (n : Nat) (x : List UInt8) : 0 < (iT n x).length := by
  have := aaO (oV n x).length
  unfold iT; rw [List.length_append]; omega

theorem Vw {n : Nat} {x : List UInt8} (hn : OkN n) (hx : OkR x) : f99 (n : Int) x = some (iT n x) := by
  unfold OkN at hn
  have h0 := xm (n := n) (by omega)
  have h1 := EG hn hx
  have h2 := xm (n := (oV n x).length) (by omega)
  unfold OkR at hx
  unfold f99
  rw [MN (by omega)]
  simp only [Option.bind_eq_bind, Option.bind_some]
  rw [if_pos (by omega), ady (by rw [List.length_append]; omega)]
  have e : EK (oq n ++ x) = oV n x := rfl
  rw [e]
  simp only [Option.bind_some]
  rw [MN (by omega)]
  simp only [Option.bind_some]
  rw [if_pos (by omega)]
  rfl

theorem Yd {s rest x : List UInt8} {p n : Nat} (hs : s.length < 4611686018427387904) (hp : p ≤ s.length) (hn : OkN n) (hx : OkR x) (hd : s.drop p = iT n x ++ rest) :
    f94 s (p : Int) (n : Int) = some (x, ((p + (iT n x).length : Nat) : Int), true) := by
  unfold OkN at hn
  have hT := EG hn hx
  have hlen : p + (iT n x).length + rest.length = s.length := by
    have := congrArg List.length hd
    rw [List.length_drop, List.length_append] at this; omega
  have hB : (iT n x).length = (oq (oV n x).length).length + (oV n x).length := by unfold iT; rw [List.length_append]
  have hd2 : s.drop p = oq (oV n x).length ++ (oV n x ++ rest) := by rw [hd]; unfold iT; rw [List.append_assoc]
  unfold f94
  rw [TI (k := (oV n x).length) (by omega) (by omega) hp hd2]
  simp only [Option.bind_eq_bind, Option.bind_some]
  have hw1 : IntKind.wrap .i64 ((s.length : Int) - ((p + (oq (oV n x).length).length : Nat) : Int)) = (s.length : Int) - ((p + (oq (oV n x).length).length : Nat) : Int) := aP (by omega) (by omega)
  have hw2 : IntKind.wrap .i64 (((p + (oq (oV n x).length).length : Nat) : Int) + ((oV n x).length : Int)) = ((p + (iT n x).length : Nat) : Int) := by rw [aP (by omega) (by omega)]; omega
  rw [hw1, hw2, if_neg (by simp; omega), if_pos (by omega)]
  have hi1 : Int.toNat ((p + (iT n x).length : Nat) : Int) = p + (iT n x).length := by omega
  have hi2 : Int.toNat ((p + (oq (oV n x).length).length : Nat) : Int) = p + (oq (oV n x).length).length := by omega
  have hsub : (s.take (p + (iT n x).length)).drop (p + (oq (oV n x).length).length) = oV n x := by
    rw [List.drop_take, ← List.drop_drop, hd2]
    have : p + (iT n x).length - (p + (oq (oV n x).length).length) = (oV n x).length := by omega
    rw [this, List.drop_left, List.take_left]
  rw [hi1, hi2, hsub]
  rcases ab7 (s := oV n x) (by omega) with ⟨t, h1, h2⟩ | ⟨h1, _⟩
  · have e : JY (oV n x) = some (oq n ++ x) := NS _
    rw [e] at h1
    simp only [Option.some.injEq] at h1
    subst h1
    rw [h2, MN (by omega)]
    have hnl := xm (n := n) (by omega)
    unfold OkR at hx
    simp only [Option.bind_some]
    have hi3 : Int.toNat (((oq n).length : Nat) : Int) = (oq n).length := by omega
    have hw3 : IntKind.wrap .i64 (((oq n ++ x).length : Int) - ((oq n).length : Int)) = (x.length : Int) := by
      rw [List.length_append, aP (by omega) (by omega)]; omega
    have hg : (0 : Int) ≤ ((oq n).length : Int) ∧ ((oq n).length : Int) ≤ ((oq n ++ x).length : Int) := by rw [List.length_append]; omega
    rw [if_neg (by simp), if_neg (by simp; omega), if_pos hg, hi3, hw3, if_neg (by simp; omega), if_pos hg]
    simp
  · have e : JY (oV n x) = some (oq n ++ x) := NS _
    rw [e] at h1; cases h1

theorem Z4 {s t x : List UInt8} {p n : Nat} (hs : s.length < 4611686018427387904) (hp : p ≤ s.length) (hn : OkN n) (hx : OkR x) (hd : s.drop p = t) (ht : t <+: iT n x) (hl : t.length < (iT n x).length) :
    f94 s (p : Int) (n : Int) = some ([], 0, false) := by
  have hT := EG hn hx
  have hlen : p + t.length = s.length := by
    have := congrArg List.length hd
    rw [List.length_drop] at this; omega
  have hB : (iT n x).length = (oq (oV n x).length).length + (oV n x).length := by unfold iT; rw [List.length_append]
  unfold f94
  by_cases c : t.length < (oq (oV n x).length).length
  · rw [Ya (k := (oV n x).length) (by omega) (by omega) hp hd (List.prefix_of_prefix_length_le ht (by unfold iT; exact List.prefix_append _ _) (by omega)) c]
    rfl
  · have h2 : oq (oV n x).length <+: t := List.prefix_of_prefix_length_le (by unfold iT; exact List.prefix_append _ _) ht (by omega)
    obtain ⟨r, hr⟩ := h2
    rw [TI (k := (oV n x).length) (rest := r) (by omega) (by omega) hp (by rw [hd, hr])]
    simp only [Option.bind_eq_bind, Option.bind_some]
    have hw1 : IntKind.wrap .i64 ((s.length : Int) - ((p + (oq (oV n x).length).length : Nat) : Int)) = (s.length : Int) - ((p + (oq (oV n x).length).length : Nat) : Int) := aP (by omega) (by omega)
    rw [hw1, if_pos (by simp; right; omega)]

noncomputable def iq : Nat → List (List UInt8) → List UInt8
  | _, [] => []
  | n, x :: r => iT n x ++ iq (n + 1) r

theorem Bv : ∀ (n : Nat) (l l' : List (List UInt8)), iq n (l ++ l') = iq n l ++ iq (n + l.length) l'
  | n, [], l' => by simp [iq]
  | n, x :: r, l' => by
    have := Bv (n + 1) r l'
    simp only [List.cons_append, iq, this, List.append_assoc, List.length_cons]
    have e : n + 1 + r.length = n + (r.length + 1) := by omega
    rw [e]

theorem UC : ∀ (n : Nat) (l : List (List UInt8)), OkN (n + l.length) → (∀ x ∈ l, OkR x) → (iq n l).length ≤ l.length * 1048
  | n, [], _, _ => by simp [iq]
  | n, x :: r, hn, hx => by
    have hn' : n + (r.length + 1) < 4611686018427387904 := hn
    have h1 := NY (n := n) (x := x) (by unfold OkN; omega) (hx x List.mem_cons_self)
    have h2 := UC (n + 1) r (by unfold OkN; omega) (fun y hy => hx y (List.mem_cons_of_mem _ hy))
    simp only [iq, List.length_append, List.length_cons]
    omega

noncomputable def G5 (n : Nat) (t : List UInt8) : Prop := ∃ x, OkR x ∧ t <+: iT n x ∧ t.length < (iT n x).length

theorem G5.nil (n : Nat) : G5 n [] := ⟨[], by decide, List.nil_prefix, NZ n []⟩

theorem TM (s : List UInt8) (f : Nat) (hs : s.length < 1099511627776) (t : List UInt8) : ∀ (rem pre : List (List UInt8)), s = iq f pre ++ (iq (f + pre.length) rem ++ t) → OkN (f + pre.length + rem.length) → (∀ x ∈ rem, OkR x) → G5 (f + pre.length + rem.length) t → pre.length ≤ s.length →
    zT s (f : Int) pre (((iq f pre).length : Nat) : Int) = some (pre ++ rem, ((iq f (pre ++ rem)).length : Int))
  | [], pre, hse, hn, hx, ⟨y, hy, ht, htl⟩, hpl => by
    rw [zT]
    simp only [List.length_nil, Nat.add_zero] at hn ht htl
    have hn' : f + pre.length < 4611686018427387904 := hn
    have hl : (iq f pre).length ≤ s.length := by rw [hse]; simp
    have hd : s.drop (iq f pre).length = t := by rw [hse]; simp [iq]
    have hw : IntKind.wrap .i64 ((f : Int) + (pre.length : Int)) = ((f + pre.length : Nat) : Int) := by rw [aP (by omega) (by omega)]; omega
    rw [if_pos (by simp), hw, Z4 (by omega) hl hn hy hd ht htl]
    simp
  | x :: rem, pre, hse, hn, hx, ht, hpl => by
    rw [zT]
    have hn' : f + pre.length + (rem.length + 1) < 4611686018427387904 := hn
    have hxx := hx x List.mem_cons_self
    have hl : (iq f pre).length ≤ s.length := by rw [hse]; simp
    have hd : s.drop (iq f pre).length = iT (f + pre.length) x ++ (iq (f + pre.length + 1) rem ++ t) := by rw [hse]; simp [iq]
    have hw : IntKind.wrap .i64 ((f : Int) + (pre.length : Int)) = ((f + pre.length : Nat) : Int) := by rw [aP (by omega) (by omega)]; omega
    have hpos := NZ (f + pre.length) x
    have hgr : (iq f pre).length + (iT (f + pre.length) x).length ≤ s.length := by
      have := congrArg List.length hd
      rw [List.length_drop, List.length_append] at this; omega
    rw [if_pos (by simp), hw, Yd (by omega) hl (by unfold OkN; omega) hxx hd]
    simp only [Option.bind_eq_bind, Option.bind_some, Bool.not_true, Bool.false_eq_true, if_false]
    rw [if_pos (by omega)]
    have hlen1 : (pre ++ [x]).length = pre.length + 1 := by simp
    have hseg : iq f (pre ++ [x]) = iq f pre ++ iT (f + pre.length) x := by rw [Bv]; simp [iq]
    have hpl2 : ∀ (n : Nat) (l : List (List UInt8)), l.length ≤ (iq n l).length := by
      intro n l
      induction l generalizing n with
      | nil => simp
      | cons a r ih =>
        have := ih (n + 1)
        have := NZ n a
        simp only [iq, List.length_append, List.length_cons]; omega
    have ht2 : G5 (f + (pre ++ [x]).length + rem.length) t := by
      have e : f + (pre ++ [x]).length + rem.length = f + pre.length + (x :: rem).length := by simp only [List.length_append, List.length_cons, List.length_nil]; omega
      rw [e]; exact ht
    have hs2 : s = iq f (pre ++ [x]) ++ (iq (f + (pre ++ [x]).length) rem ++ t) := by
      rw [hse, hseg, hlen1]
      simp only [iq, List.append_assoc]
      rfl
    have := TM s f hs t rem (pre ++ [x]) hs2 (by rw [hlen1]; unfold OkN; omega) (fun y hy => hx y (List.mem_cons_of_mem _ hy)) ht2 (by have h5 := hpl2 f (pre ++ [x]); rw [hseg] at h5; have h6 : (iq f pre ++ iT (f + pre.length) x).length = (iq f pre).length + (iT (f + pre.length) x).length := List.length_append; omega)
    have e1 : ((iq f (pre ++ [x])).length : Int) = (((iq f pre).length + (iT (f + pre.length) x).length : Nat) : Int) := by rw [hseg, List.length_append]
    rw [e1] at this
    rw [this]
    simp

theorem adr {s t : List UInt8} {f : Nat} {recs : List (List UInt8)} (hs : s.length < 1099511627776) (hse : s = iq f recs ++ t) (hn : OkN (f + recs.length)) (hx : ∀ x ∈ recs, OkR x) (ht : G5 (f + recs.length) t) :
    f49 s (f : Int) = some (recs, ((iq f recs).length : Int)) := by
  unfold f49
  have := TM s f hs t recs [] (by simpa [iq] using hse) (by simpa using hn) hx (by simpa using ht) (by simp)
  simp only [iq, List.length_nil, List.nil_append] at this
  rw [show (((0 : Nat) : Int)) = (0 : Int) from rfl] at this
  rw [this]
  rfl

theorem Qk : ∀ (n : Nat) (l : List (List UInt8)) (j : Nat), (∀ x ∈ l, OkR x) → ∃ m t, m ≤ l.length ∧ (iq n l).take j = iq n (l.take m) ++ t ∧ G5 (n + m) t
  | n, [], j, _ => ⟨0, [], Nat.le_refl _, by simp [iq], G5.nil _⟩
  | n, x :: r, j, hx => by
    by_cases c : j < (iT n x).length
    · refine ⟨0, (iT n x).take j, Nat.zero_le _, ?_, x, hx x List.mem_cons_self, List.take_prefix _ _, ?_⟩
      · simp only [iq, List.take_zero, List.nil_append]
        rw [List.take_append_of_le_length (by omega)]
      · rw [List.length_take, Nat.add_zero]; omega
    · obtain ⟨m, t, h1, h2, h3⟩ := Qk (n + 1) r (j - (iT n x).length) (fun y hy => hx y (List.mem_cons_of_mem _ hy))
      have e : n + (m + 1) = n + 1 + m := by omega
      refine ⟨m + 1, t, by simp only [List.length_cons]; omega, ?_, by rw [e]; exact h3⟩
      simp only [iq, List.take_succ_cons]
      rw [List.take_append, List.take_of_length_le (l := iT n x) (by omega), h2, List.append_assoc]
end Go.Proofs.YtbnmhjobnepajaaGreat.M


namespace Go.Proofs.YtbnmhjobnepajaaGreat.M

abbrev FR : Type := List UInt8 × List UInt8 × List UInt8 × Unit
abbrev AD : Type := Int × List FR × Int × Bool × Unit
theorem ltr {a b c : List UInt8} (h1 : a < b) (h2 : b < c) : a < c := List.lt_trans h1 h2
theorem aex (a : List UInt8) : ¬ a < a := List.lt_irrefl a
theorem lne {a b : List UInt8} (h : a < b) : a ≠ b := fun e => aex b (e ▸ h)
theorem aei {a b : List UInt8} (h1 : ¬ a < b) (h2 : a ≠ b) : b < a := by
  have h : b ≤ a := List.not_lt.1 h1
  rcases List.le_iff_lt_or_eq.1 h with h | h
  · exact h
  · exact absurd h.symm h2

noncomputable def iM (f : FR) : Nat := f.2.1.length + f.2.2.1.length
noncomputable def ji : List FR → Nat
  | [] => 0
  | f :: r => iM f + ji r
noncomputable def kF (s : List UInt8) : List FR → Option FR
  | [] => none
  | f :: r => cond (f.1 == s) (some f) (kF s r)
noncomputable def nS (f : FR) : Bool → List FR → List FR
  | done, [] => cond done [] [f]
  | done, g :: r => (cond (!done && !decide (g.1 < f.1)) [f] []) ++ ((cond (g.1 == f.1) [] [g]) ++ nS f (done || !decide (g.1 < f.1)) r)
noncomputable def kZ (s : List UInt8) : List FR → List FR
  | [] => []
  | f :: r => (cond (f.1 == s) [] [f]) ++ kZ s r

theorem IQ (l l' : List FR) : ji (l ++ l') = ji l + ji l' := by
  induction l with
  | nil => simp [ji]
  | cons f r ih => simp only [List.cons_append, ji, ih]; omega

theorem wF {l l' : List FR} (h : l.Perm l') : ji l = ji l' := by
  induction h with
  | nil => rfl
  | cons f _ ih => simp [ji, ih]
  | swap f g r => simp only [ji]; omega
  | trans _ _ h1 h2 => rw [h1, h2]

theorem oC (s : List UInt8) (L : List FR) : kZ s L = L.filter (fun g => !(g.1 == s)) := by
  induction L with
  | nil => rfl
  | cons f r ih =>
    cases h : (f.1 == s)
    · rw [List.filter_cons_of_pos (by simp [h])]; simp [kZ, h, ih]
    · rw [List.filter_cons_of_neg (by simp [h])]; simp [kZ, h, ih]

theorem Ql (f : FR) (L : List FR) : nS f true L = kZ f.1 L := by
  induction L with
  | nil => rfl
  | cons g r ih => simp [nS, kZ, ih]

theorem oM (f : FR) (L : List FR) : (nS f false L).Perm (f :: kZ f.1 L) := by
  induction L with
  | nil => exact List.Perm.refl _
  | cons g r ih =>
    simp only [nS, kZ]
    by_cases h : g.1 < f.1
    · have hb : (g.1 == f.1) = false := by simpa using lne h
      simp only [h, decide_true, Bool.not_true, Bool.and_false, cond_false, hb, Bool.or_self, List.nil_append, List.singleton_append]
      exact (List.Perm.cons g ih).trans (List.Perm.swap f g _)
    · simp only [h, decide_false, Bool.not_false, Bool.and_self, cond_true, Bool.or_true, Ql, List.singleton_append]
      exact List.Perm.refl _

theorem P5 {s : List UInt8} {L : List FR} {g : FR} : g ∈ kZ s L ↔ g ∈ L ∧ g.1 ≠ s := by
  rw [oC, List.mem_filter]; simp

theorem Ir {f : FR} {L : List FR} {g : FR} : g ∈ nS f false L ↔ g = f ∨ (g ∈ L ∧ g.1 ≠ f.1) := by
  rw [(oM f L).mem_iff, List.mem_cons, P5]

abbrev rG (L : List FR) : Prop := L.Pairwise (fun f g => f.1 < g.1)

theorem rG.drop {L : List FR} (h : rG L) (s : List UInt8) : rG (kZ s L) := by
  rw [oC]; exact h.filter _

theorem rG.set {f : FR} {L : List FR} (h : rG L) : rG (nS f false L) := by
  induction L with
  | nil => simp [nS, rG]
  | cons g r ih =>
    have hr := List.pairwise_cons.1 h
    simp only [nS]
    by_cases hg : g.1 < f.1
    · have hb : (g.1 == f.1) = false := by simpa using lne hg
      simp only [hg, decide_true, Bool.not_true, Bool.and_false, cond_false, hb, Bool.or_self, List.nil_append, List.singleton_append]
      refine List.pairwise_cons.2 ⟨fun x hx => ?_, ih hr.2⟩
      rcases Ir.1 hx with rfl | ⟨hx, _⟩
      · exact hg
      · exact hr.1 x hx
    · simp only [hg, decide_false, Bool.not_false, Bool.and_self, cond_true, Bool.or_true, Ql, List.singleton_append]
      have hd : rG (cond (g.1 == f.1) [] [g] ++ kZ f.1 r) := h.drop f.1
      refine List.pairwise_cons.2 ⟨fun x hx => ?_, hd⟩
      have hx' : x ∈ kZ f.1 (g :: r) := hx
      obtain ⟨hx1, hx2⟩ := P5.1 hx'
      rcases List.mem_cons.1 hx1 with rfl | hx1
      · exact aei hg hx2
      · by_cases he : g.1 = f.1
        · rw [← he]; exact hr.1 x hx1
        · exact ltr (aei hg he) (hr.1 x hx1)

theorem sV {s : List UInt8} {L : List FR} {f : FR} (h : kF s L = some f) : f ∈ L ∧ f.1 = s := by
  induction L with
  | nil => simp [kF] at h
  | cons g r ih =>
    simp only [kF] at h
    cases hg : (g.1 == s)
    · rw [hg] at h; obtain ⟨h1, h2⟩ := ih h; exact ⟨List.mem_cons_of_mem _ h1, h2⟩
    · rw [hg] at h; simp only [cond_true, Option.some.injEq] at h; subst h; exact ⟨List.mem_cons_self, by simpa using hg⟩

theorem MV {s : List UInt8} {L : List FR} (h : kF s L = none) : ∀ f ∈ L, f.1 ≠ s := by
  induction L with
  | nil => simp
  | cons g r ih =>
    simp only [kF] at h
    cases hg : (g.1 == s)
    · rw [hg] at h
      intro f hf
      rcases List.mem_cons.1 hf with rfl | hf
      · simpa using hg
      · exact ih h f hf
    · rw [hg] at h; simp at h

theorem Ht {s : List UInt8} {L : List FR} (hs : rG L) {f : FR} (h1 : f ∈ L) (h2 : f.1 = s) : kF s L = some f := by
  induction L with
  | nil => simp at h1
  | cons g r ih =>
    have hr := List.pairwise_cons.1 hs
    simp only [kF]
    rcases List.mem_cons.1 h1 with rfl | h1
    · simp [h2]
    · have : (g.1 == s) = false := by
        have := lne (hr.1 f h1); rw [h2] at this; simpa using this
      rw [this]; exact ih hr.2 h1

theorem Z7 {s : List UInt8} {L : List FR} (h : ∀ f ∈ L, f.1 ≠ s) : kF s L = none := by
  cases hf : kF s L with
  | none => rfl
  | some f => obtain ⟨h1, h2⟩ := sV hf; exact absurd h2 (h f h1)

theorem BG {s : List UInt8} {L : List FR} (h : kF s L = none) : kZ s L = L := by
  rw [oC, List.filter_eq_self]
  intro f hf
  simpa using MV h f hf

theorem Gp {s : List UInt8} {L : List FR} (hs : rG L) {f : FR} (h : kF s L = some f) : L.Perm (f :: kZ s L) := by
  induction L with
  | nil => simp [kF] at h
  | cons g r ih =>
    have hr := List.pairwise_cons.1 hs
    simp only [kF] at h
    cases hg : (g.1 == s)
    · rw [hg] at h
      simp only [kZ, hg, cond_false, List.singleton_append]
      exact (List.Perm.cons g (ih hr.2 h)).trans (List.Perm.swap f g _)
    · rw [hg] at h; simp only [cond_true, Option.some.injEq] at h; subst h
      simp only [kZ, hg, cond_true, List.nil_append]
      have : kZ s r = r := by
        rw [oC, List.filter_eq_self]
        intro x hx
        have h1 := lne (hr.1 x hx)
        have h2 : g.1 = s := by simpa using hg
        rw [h2] at h1
        simpa using fun e => h1 e.symm
      rw [this]

noncomputable def qY (keep : List Int) (n : Nat) : Nat := match keep with
  | [] => 0
  | x :: _ => (if 0 < x then Int.tmod x (n + 1) else 0).toNat

noncomputable def kz : List FR → List Int → List FR
  | [], _ => []
  | f :: r, keep => cond f.2.2.1.isEmpty ((f.1, f.2.1, [], ()) :: kz r keep) ((f.1, f.2.1 ++ f.2.2.1.take (qY keep f.2.2.1.length), [], ()) :: kz r keep.tail)

theorem aam (keep : List Int) (n : Nat) : qY keep n ≤ n := by
  cases keep with
  | nil => simp [qY]
  | cons x r =>
    simp only [qY]
    split
    · have := Int.tmod_lt_of_pos x (b := (n : Int) + 1) (by omega)
      omega
    · simp

noncomputable def qR (A : AD) (L : List FR) : AD := (A.1, L, A.2.2.1, A.2.2.2.1, ())
noncomputable def wQ (A : AD) : Bool × AD := if A.2.2.1 = 0 then (false, A) else (A.2.2.1 == 1, (A.1, A.2.1, A.2.2.1 - 1, A.2.2.1 == 1, ()))
noncomputable def xC (A : AD) (k : AD → AD) : Int × AD := if (wQ A).1 = true then (11, (wQ A).2) else (0, k (wQ A).2)
noncomputable def nC (s : List UInt8) : FR := (s, [], [], ())
noncomputable def uf (f : FR) (b : List UInt8) : FR := (f.1, f.2.1, f.2.2.1 ++ b, ())
noncomputable def EJ (s : List UInt8) (f : FR) : FR := (s, f.2.1 ++ f.2.2.1, [], ())
noncomputable def Ja (s : List UInt8) (f : FR) (n : Nat) : FR := if n ≤ f.2.1.length then (s, f.2.1.take n, [], ()) else (s, f.2.1, f.2.2.1.take (n - f.2.1.length), ())
abbrev full (A : AD) (s b : List UInt8) : Prop := ((kF s A.2.1).isNone = true ∧ 128 ≤ A.2.1.length) ∨ (65536 < b.length + iM ((kF s A.2.1).getD (nC s))) ∨ A.1 < (b.length : Int) + ji A.2.1

noncomputable def wG (A : AD) (s b : List UInt8) : Int × AD :=
  if A.2.2.2.1 = true then (11, A) else if Jt s = false then (2, A) else
  if full A s b then (10, A) else
  xC (qR A (nS (uf ((kF s A.2.1).getD (nC s)) b) false A.2.1)) id

noncomputable def Qm (A : AD) (s : List UInt8) (k : FR → Int × AD) : Int × AD :=
  if A.2.2.2.1 = true then (11, A) else match kF s A.2.1 with
    | none => (8, A)
    | some f => k f

noncomputable def Oo (A : AD) (s : List UInt8) : Int × AD := Qm A s fun f => xC A (fun B => qR B (nS (EJ s f) false B.2.1))
noncomputable def Sz (A : AD) (s : List UInt8) (n : Int) : Int × AD := Qm A s fun f => if n < 0 ∨ (iM f : Int) < n then (3, A) else xC A (fun B => qR B (nS (Ja s f n.toNat) false B.2.1))
noncomputable def abz (A : AD) (n : Int) : Int × AD := if A.2.2.2.1 = true then (11, A) else if n < 1 then (2, A) else (0, (A.1, A.2.1, n, A.2.2.2.1, ()))
noncomputable def DI (A : AD) (keep : List Int) : AD := (A.1, kz A.2.1 keep, 0, false, ())
noncomputable def readA (A : AD) (s : List UInt8) : List UInt8 × Int := if A.2.2.2.1 = true then ([], 11) else match kF s A.2.1 with
  | none => ([], 8)
  | some f => (f.2.1 ++ f.2.2.1, 0)
structure OkA (A : AD) : Prop where
  sorted : rG A.2.1
  files : A.2.1.length ≤ 128
  each : ∀ f ∈ A.2.1, iM f ≤ 65536
  used : (ji A.2.1 : Int) ≤ A.1
  room : A.1 ≤ 1048576
  armed : 0 ≤ A.2.2.1 ∧ A.2.2.1 < 9223372036854775808

theorem OkA.goes {A : AD} (h : OkA A) : OkA (wQ A).2 := by
  unfold wQ
  split
  · exact h
  · obtain ⟨h1, h2, h3, h4, h5, h6⟩ := h
    exact ⟨h1, h2, h3, h4, h5, by have := h6; simp only; omega⟩

theorem Xe (A : AD) : (wQ A).2.2.1 = A.2.1 ∧ (wQ A).2.1 = A.1 := by
  unfold wQ; split <;> exact ⟨rfl, rfl⟩

theorem Oi (f : FR) (L : List FR) : (nS f false L).length = (kZ f.1 L).length + 1 := by
  rw [(oM f L).length_eq]; rfl

theorem JE (f : FR) (L : List FR) : ji (nS f false L) = iM f + ji (kZ f.1 L) := by
  rw [wF (oM f L)]; rfl

theorem OkA.put {A : AD} (h : OkA A) {g f : FR} {s : List UInt8} (hf : kF s A.2.1 = some f) (hg : g.1 = s) (hle : iM g ≤ iM f) : OkA (qR A (nS g false A.2.1)) := by
  obtain ⟨h1, h2, h3, h4, h5, h6⟩ := h
  have hp := Gp h1 hf
  have hl := hp.length_eq
  have hu := wF hp
  simp only [List.length_cons, ji] at hl hu
  refine ⟨h1.set, ?_, ?_, ?_, h5, h6⟩
  · simp only [qR, Oi, hg]; omega
  · intro x hx
    rcases Ir.1 hx with rfl | ⟨hx, _⟩
    · exact Nat.le_trans hle (h3 f (sV hf).1)
    · exact h3 x hx
  · simp only [qR, JE, hg]; omega

theorem Gn : ∀ (L : List FR) (keep : List Int), (kz L keep).length = L.length
  | [], _ => rfl
  | f :: r, keep => by
    unfold kz
    cases f.2.2.1.isEmpty
    · simp [Gn r]
    · simp [Gn r]

theorem BF : ∀ (L : List FR) (keep : List Int), (kz L keep).map (·.1) = L.map (·.1)
  | [], _ => rfl
  | f :: r, keep => by
    unfold kz
    cases f.2.2.1.isEmpty
    · simp [BF r]
    · simp [BF r]

theorem DK : ∀ (L : List FR) (keep : List Int), ji (kz L keep) ≤ ji L
  | [], _ => Nat.le_refl _
  | f :: r, keep => by
    unfold kz
    have h1 := DK r keep
    have h2 := DK r keep.tail
    cases f.2.2.1.isEmpty
    · simp only [cond_false, ji, iM, List.length_append, List.length_take, List.length_nil]; omega
    · simp only [cond_true, ji, iM, List.length_nil]; omega

theorem DJ {m : Nat} : ∀ (L : List FR) (keep : List Int), (∀ f ∈ L, iM f ≤ m) → ∀ f ∈ kz L keep, iM f ≤ m
  | [], _, _ => by simp [kz]
  | f :: r, keep, h => by
    have hf := h f List.mem_cons_self
    have h1 := DJ r keep (fun x hx => h x (List.mem_cons_of_mem _ hx))
    have h2 := DJ r keep.tail (fun x hx => h x (List.mem_cons_of_mem _ hx))
    unfold kz
    unfold iM at hf
    intro x hx
    cases hb : f.2.2.1.isEmpty
    · rw [hb] at hx
      simp only [cond_false, List.mem_cons] at hx
      rcases hx with rfl | hx
      · simp only [iM, List.length_append, List.length_take, List.length_nil]; omega
      · exact h2 x hx
    · rw [hb] at hx
      simp only [cond_true, List.mem_cons] at hx
      rcases hx with rfl | hx
      · simp only [iM, List.length_nil]; omega
      · exact h1 x hx

theorem JJ {L L' : List FR} (h : L.map (·.1) = L'.map (·.1)) (hs : rG L) : rG L' := by
  have h1 : (L.map (·.1)).Pairwise (· < ·) := List.pairwise_map.2 hs
  rw [h] at h1
  exact List.pairwise_map.1 h1

theorem OkA.WC {A : AD} (h : OkA A) (keep : List Int) : OkA (DI A keep) := by
  obtain ⟨h1, h2, h3, h4, h5, h6⟩ := h
  have hl := Gn A.2.1 keep
  have hu := DK A.2.1 keep
  refine ⟨JJ (BF A.2.1 keep).symm h1, ?_, DJ _ _ h3, ?_, h5, ?_⟩
  · simp only [DI]; omega
  · simp only [DI]; omega
  · simp only [DI]; omega

theorem OkA.appended {A : AD} (h : OkA A) {s b : List UInt8} (hc : ¬ full A s b) : OkA (qR A (nS (uf ((kF s A.2.1).getD (nC s)) b) false A.2.1)) := by
  obtain ⟨h1, h2, h3, h4, h5, h6⟩ := h
  simp only [full, not_or, not_and, Nat.not_le, Nat.not_lt, Int.not_lt] at hc
  obtain ⟨c1, c2, c3⟩ := hc
  cases hf : kF s A.2.1 with
  | none =>
    rw [hf] at c1 c2
    have c1 := c1 rfl
    have hd := BG hf
    have e1 : (uf ((none : Option FR).getD (nC s)) b).1 = s := rfl
    refine ⟨h1.set, ?_, ?_, ?_, h5, h6⟩
    · simp only [qR, Oi, e1, hd]; omega
    · intro x hx
      rcases Ir.1 hx with rfl | ⟨hx, _⟩
      · simp only [Option.getD_none, iM, nC, uf, List.length_append, List.length_nil] at c2 ⊢; omega
      · exact h3 x hx
    · simp only [qR, JE, e1, hd]
      simp only [Option.getD_none, iM, nC, uf, List.length_append, List.length_nil] at c2 ⊢; omega
  | some f =>
    rw [hf] at c1 c2
    have hn := (sV hf).2
    have hp := Gp h1 hf
    have hl := hp.length_eq
    have hu := wF hp
    simp only [List.length_cons, ji] at hl hu
    have e1 : (uf ((some f).getD (nC s)) b).1 = s := hn
    refine ⟨h1.set, ?_, ?_, ?_, h5, h6⟩
    · simp only [qR, Oi, e1]; omega
    · intro x hx
      rcases Ir.1 hx with rfl | ⟨hx, _⟩
      · simp only [Option.getD_some, iM, uf, List.length_append] at c2 ⊢; omega
      · exact h3 x hx
    · simp only [qR, JE, e1]
      simp only [Option.getD_some, iM, uf, List.length_append] at c2 hu ⊢; omega

theorem XE {A : AD} (hA : OkA A) : IntKind.wrap .i64 (A.1 - ((ji A.2.1 : Nat) : Int)) = A.1 - ((ji A.2.1 : Nat) : Int) := by
  have h1 := hA.used; have h2 := hA.room
  rw [aP (by omega) (by omega)]

end Go.Proofs.YtbnmhjobnepajaaGreat.M


namespace Go.Proofs.YtbnmhjobnepajaaGreat.M

abbrev ME : Type := List UInt8 × Option Nat

section
variable {m : List ME} {s : List UInt8}

noncomputable def Keys (m : List ME) : Prop := (m.map (·.1)).Nodup

theorem JV (q : ME) (r : List ME) : dm .str (.ptr ax) s (q :: r) = cond (s == q.1) (some q.2) (dm .str (.ptr ax) s r) := by
  obtain ⟨k, v⟩ := q
  simp only [dm, vO]
  cases (s == k) <;> rfl

theorem VJ (hk : Keys m) {v : Option Nat} (h : (s, v) ∈ m) : dm .str (.ptr ax) s m = some v := by
  induction m with
  | nil => simp at h
  | cons q r ih =>
    rw [JV]
    unfold Keys at hk
    rw [List.map_cons, List.nodup_cons] at hk
    rcases List.mem_cons.1 h with rfl | h
    · simp
    · have : (s == q.1) = false := by
        have : s ≠ q.1 := fun e => hk.1 (by rw [← e]; exact List.mem_map.2 ⟨_, h, rfl⟩)
        simpa using this
      rw [this]; exact ih hk.2 h

theorem Yp (h : ∀ q ∈ m, q.1 ≠ s) : dm .str (.ptr ax) s m = none := by
  induction m with
  | nil => rfl
  | cons q r ih =>
    rw [JV]
    have : (s == q.1) = false := by
      have := h q List.mem_cons_self
      simpa using fun e => this e.symm
    rw [this]; exact ih (fun q hq => h q (List.mem_cons_of_mem _ hq))

noncomputable def others (s : List UInt8) (m : List ME) : List ME := m.filter (fun q => !(q.1 == s))

theorem Uj (h : ∀ q ∈ m, q.1 ≠ s) : others s m = m := by
  unfold others; rw [List.filter_eq_self]; intro q hq; simpa using h q hq

theorem Uf (hk : Keys m) (v : Option Nat) : (oU .str (.ptr ax) s v m).Perm ((s, v) :: others s m) := by
  induction m with
  | nil => exact List.Perm.refl _
  | cons q r ih =>
    obtain ⟨k, u⟩ := q
    unfold Keys at hk
    rw [List.map_cons, List.nodup_cons] at hk
    simp only [oU, vO]
    cases hs : (s == k) with
    | true =>
      have he : s = k := by simpa using hs
      subst he
      have : others s ((s, u) :: r) = r := by
        unfold others
        rw [List.filter_cons_of_neg (by simp)]
        exact Uj (fun q hq e => hk.1 (by rw [← e]; exact List.mem_map.2 ⟨q, hq, rfl⟩))
      rw [this]
    | false =>
      have : others s ((k, u) :: r) = (k, u) :: others s r := by
        unfold others
        rw [List.filter_cons_of_pos]
        have : s ≠ k := by simpa using hs
        simpa using fun e => this e.symm
      rw [this]
      exact (List.Perm.cons _ (ih hk.2)).trans (List.Perm.swap _ _ _)

end

noncomputable def cont (f : FR) : aA fD := (f.2.1 ++ f.2.2.1, (f.2.1.length : Int), ())
noncomputable def entry (q : FR × Nat) : ME := (q.1.1, some q.2)
noncomputable def rest (s : List UInt8) (qs : List (FR × Nat)) : List (FR × Nat) := qs.filter (fun q => !(q.1.1 == s))

structure DVq (σ : St) (d n0 : Nat) (A : AD) (o : aA dV) (qs : List (FR × Nat)) : Prop where
  ho : σ.ah[d]? = some o
  room : o.1 = A.1
  armed : o.2.2.1 = A.2.2.1
  down : o.2.2.2.1 = A.2.2.2.1
  map : o.2.1.Perm (qs.map entry)
  files : (qs.map (·.1)).Perm A.2.1
  nodup : (qs.map (·.2)).Nodup
  lie : ∀ q ∈ qs, σ.aj[q.2]? = some (cont q.1) ∧ n0 ≤ q.2
  base : n0 ≤ σ.aj.length

noncomputable def DV (σ : St) (d n0 : Nat) (A : AD) : Prop := ∃ o qs, DVq σ d n0 A o qs

noncomputable def vI (σ : St) := (σ.up, σ.ak, σ.ae)

structure FrD (σ σ' : St) (d n0 : Nat) : Prop where
  oth : vI σ' = vI σ
  up : σ'.up = σ.up
  ah : ∀ i, i ≠ d → i < σ.ah.length → σ'.ah[i]? = σ.ah[i]?
  l105 : σ.ah.length ≤ σ'.ah.length
  aj : ∀ j, j < n0 → σ'.aj[j]? = σ.aj[j]?
  l108 : σ.aj.length ≤ σ'.aj.length

theorem FrD.refl (σ : St) (d n0 : Nat) : FrD σ σ d n0 := ⟨rfl, rfl, fun _ _ _ => rfl, Nat.le_refl _, fun _ _ => rfl, Nat.le_refl _⟩
theorem FrD.trans {σ σ' σ'' : St} {d n0 : Nat} (h1 : FrD σ σ' d n0) (h2 : FrD σ' σ'' d n0) : FrD σ σ'' d n0 :=
  ⟨h2.oth.trans h1.oth, h2.up.trans h1.up, fun i hi hl => (h2.ah i hi (Nat.lt_of_lt_of_le hl h1.l105)).trans (h1.ah i hi hl), Nat.le_trans h1.l105 h2.l105, fun j hj => (h2.aj j hj).trans (h1.aj j hj), Nat.le_trans h1.l108 h2.l108⟩

section
variable {σ : St} {d n0 : Nat} {A : AD} {o : aA dV} {qs : List (FR × Nat)}

theorem DVq.same (h : DVq σ d n0 A o qs) {σ' : St} (h1 : σ'.ah = σ.ah) (h2 : σ'.aj = σ.aj) : DVq σ' d n0 A o qs := by
  obtain ⟨a1, a2, a3, a4, a5, a6, a7, a8, a9⟩ := h
  exact ⟨by rw [h1]; exact a1, a2, a3, a4, a5, a6, a7, by rw [h2]; exact a8, by rw [h2]; exact a9⟩

theorem DVq.names (h : DVq σ d n0 A o qs) (hs : rG A.2.1) : (qs.map (fun q => q.1.1)).Nodup := by
  have h1 : (A.2.1.map (·.1)).Nodup := by
    have : (A.2.1.map (·.1)).Pairwise (· < ·) := List.pairwise_map.2 hs
    exact this.imp (fun h => lne h)
  have h2 := (h.files.map (·.1)).nodup_iff.2 h1
  rw [List.map_map] at h2
  exact h2

theorem DVq.keys (h : DVq σ d n0 A o qs) (hs : rG A.2.1) : Keys o.2.1 := by
  unfold Keys
  refine (h.map.map (·.1)).nodup_iff.2 ?_
  rw [List.map_map]
  exact h.names hs

theorem DVq.len (h : DVq σ d n0 A o qs) : o.2.1.length = A.2.1.length := by
  have h1 := h.map.length_eq
  have h2 := h.files.length_eq
  simp only [List.length_map] at h1 h2
  omega

theorem DVq.look (h : DVq σ d n0 A o qs) (hs : rG A.2.1) (s : List UInt8) :
    (kF s A.2.1 = none ∧ dm .str (.ptr ax) s o.2.1 = none ∧ ∀ q ∈ qs, q.1.1 ≠ s) ∨ ∃ f j, kF s A.2.1 = some f ∧ dm .str (.ptr ax) s o.2.1 = some (some j) ∧ (f, j) ∈ qs ∧ f.1 = s ∧ σ.aj[j]? = some (cont f) := by
  cases hf : kF s A.2.1 with
  | none =>
    have hq : ∀ q ∈ qs, q.1.1 ≠ s := fun q hq => MV hf q.1 (h.files.mem_iff.1 (List.mem_map.2 ⟨q, hq, rfl⟩))
    refine .inl ⟨rfl, Yp (fun q hq2 => ?_), hq⟩
    obtain ⟨p, hp, rfl⟩ := List.mem_map.1 (h.map.mem_iff.1 hq2)
    exact hq p hp
  | some f =>
    obtain ⟨h1, h2⟩ := sV hf
    obtain ⟨q, hq, rfl⟩ := List.mem_map.1 (h.files.mem_iff.2 h1)
    refine .inr ⟨q.1, q.2, rfl, VJ (h.keys hs) ?_, hq, h2, (h.lie q hq).1⟩
    refine h.map.mem_iff.2 (List.mem_map.2 ⟨q, hq, ?_⟩)
    unfold entry; rw [h2]

theorem rest_none {s : List UInt8} (h : ∀ q ∈ qs, q.1.1 ≠ s) : rest s qs = qs := by
  unfold rest; rw [List.filter_eq_self]; intro q hq; simpa using h q hq

theorem YA {f : FR} {j : Nat} (hn : (qs.map (fun q => q.1.1)).Nodup) (hq : (f, j) ∈ qs) : qs.Perm ((f, j) :: rest f.1 qs) := by
  induction qs with
  | nil => simp at hq
  | cons p r ih =>
    rw [List.map_cons, List.nodup_cons] at hn
    rcases List.mem_cons.1 hq with rfl | hq
    · have : rest f.1 ((f, j) :: r) = r := by
        unfold rest
        rw [List.filter_cons_of_neg (by simp)]
        exact rest_none (fun q hq e => hn.1 (by rw [← e]; exact List.mem_map.2 ⟨q, hq, rfl⟩))
      rw [this]
    · have : rest f.1 (p :: r) = p :: rest f.1 r := by
        unfold rest
        rw [List.filter_cons_of_pos]
        have : p.1.1 ≠ f.1 := fun e => hn.1 (by rw [e]; exact List.mem_map.2 ⟨(f, j), hq, rfl⟩)
        simpa using this
      rw [this]
      exact (List.Perm.cons _ (ih hn.2 hq)).trans (List.Perm.swap _ _ _)

theorem aaW (s : List UInt8) : (rest s qs).map entry = others s (qs.map entry) := by
  unfold rest others
  rw [List.filter_map]
  rfl

theorem Uw (s : List UInt8) : (rest s qs).map (·.1) = kZ s (qs.map (·.1)) := by
  unfold rest
  rw [oC, List.filter_map]
  rfl

theorem zA {s : List UInt8} {L L' : List FR} (h : L.Perm L') : (kZ s L).Perm (kZ s L') := by
  rw [oC, oC]; exact h.filter _

theorem NI {s : List UInt8} {q : FR × Nat} : q ∈ rest s qs ↔ q ∈ qs ∧ q.1.1 ≠ s := by
  unfold rest; rw [List.mem_filter]; simp

theorem DVq.perm (h : DVq σ d n0 A o qs) {L : List FR} (hL : A.2.1.Perm L) : DVq σ d n0 (qR A L) o qs := by
  obtain ⟨a1, a2, a3, a4, a5, a6, a7, a8, a9⟩ := h
  exact ⟨a1, a2, a3, a4, a5, a6.trans hL, a7, a8, a9⟩

theorem Tj {g : FR} {L L' : List FR} (h : L.Perm (kZ g.1 L')) : (g :: L).Perm (nS g false L') :=
  (List.Perm.cons g h).trans (oM g L').symm

theorem DVq.upd (h : DVq σ d n0 A o qs) (hs : rG A.2.1) {f g : FR} {j : Nat} (hq : (f, j) ∈ qs) (hg : g.1 = f.1) :
    DVq (σ.aH j (cont g)) d n0 (qR A (nS g false A.2.1)) o ((g, j) :: rest f.1 qs) := by
  have hp := YA (h.names hs) hq
  have hj := (h.lie _ hq).1
  have hnd : (j :: (rest f.1 qs).map (fun q => q.2)).Nodup := (hp.map (fun q : FR × Nat => q.2)).nodup_iff.1 h.nodup
  refine ⟨h.ho, h.room, h.armed, h.down, ?_, ?_, hnd, ?_, ?_⟩
  · refine h.map.trans ((hp.map entry).trans ?_)
    rw [List.map_cons, List.map_cons]
    have : entry (g, j) = entry (f, j) := by unfold entry; rw [hg]
    rw [this]
  · rw [List.map_cons, Uw, ← hg]
    exact Tj (zA h.files)
  · intro q hq2
    rcases List.mem_cons.1 hq2 with rfl | hq2
    · exact ⟨tu hj, (h.lie _ hq).2⟩
    · have hne : j ≠ q.2 := fun e => (List.nodup_cons.1 hnd).1 (by rw [e]; exact List.mem_map.2 ⟨q, hq2, rfl⟩)
      obtain ⟨e1, e2⟩ := h.lie q (NI.1 hq2).1
      refine ⟨?_, e2⟩
      simp only [St.aH]
      rw [List.getElem?_set_ne hne]; exact e1
  · simpa [St.aH] using h.base

theorem Eb {j : Nat} {x : aA fD} (hj : n0 ≤ j) : FrD σ (σ.aH j x) d n0 := by
  refine ⟨rfl, rfl, fun _ _ _ => rfl, Nat.le_refl _, fun i hi => ?_, by simp [St.aH]⟩
  simp only [St.aH]
  rw [List.getElem?_set_ne (by omega)]

theorem Ea {x : aA dV} : FrD σ (σ.aS d x) d n0 := by
  refine ⟨rfl, rfl, fun i hi _ => ?_, by simp [St.aS], fun _ _ => rfl, Nat.le_refl _⟩
  simp only [St.aS]
  rw [List.getElem?_set_ne (Ne.symm hi)]

theorem Rq {x : aA fD} (hb : n0 ≤ σ.aj.length) : FrD σ (σ.eY x) d n0 := by
  refine ⟨rfl, rfl, fun _ _ _ => rfl, Nat.le_refl _, fun j hj => ?_, by simp [St.eY]⟩
  simp only [St.eY]
  rw [List.getElem?_append_left (by omega)]

theorem DVq.link (h : DVq σ d n0 A o qs) (hs : rG A.2.1) {g : FR} {j : Nat} (hj : j ∉ qs.map (·.2)) (hc : σ.aj[j]? = some (cont g)) (hb : n0 ≤ j) :
    DVq (σ.aS d (o.1, oU .str (.ptr ax) g.1 (some j) o.2.1, o.2.2.1, o.2.2.2.1, ())) d n0 (qR A (nS g false A.2.1)) (o.1, oU .str (.ptr ax) g.1 (some j) o.2.1, o.2.2.1, o.2.2.2.1, ()) ((g, j) :: rest g.1 qs) := by
  refine ⟨ou h.ho, h.room, h.armed, h.down, ?_, ?_, ?_, ?_, h.base⟩
  · refine (Uf (h.keys hs) (some j)).trans ?_
    rw [List.map_cons, aaW]
    exact List.Perm.cons _ (h.map.filter _)
  · rw [List.map_cons, Uw]
    exact Tj (zA h.files)
  · rw [List.map_cons, List.nodup_cons]
    refine ⟨fun hm => hj ?_, (List.filter_sublist.map _).nodup h.nodup⟩
    obtain ⟨q, hq, e⟩ := List.mem_map.1 hm
    exact List.mem_map.2 ⟨q, (NI.1 hq).1, e⟩
  · intro q hq
    rcases List.mem_cons.1 hq with rfl | hq
    · exact ⟨hc, hb⟩
    · exact h.lie q (NI.1 hq).1

theorem DVq.state (h : DVq σ d n0 A o qs) {a : Int} {b : Bool} : DVq (σ.aS d (o.1, o.2.1, a, b, ())) d n0 (A.1, A.2.1, a, b, ()) (o.1, o.2.1, a, b, ()) qs :=
  ⟨ou h.ho, h.room, rfl, rfl, h.map, h.files, h.nodup, h.lie, h.base⟩

theorem IU : ∀ {qs : List (FR × Nat)}, (∀ q ∈ qs, σ.aj[q.2]? = some (cont q.1)) → C9 (qs.map entry) σ = some (ji (qs.map (·.1)))
  | [], _ => rfl
  | q :: r, h => by
    refine oz.2 ⟨q.2, cont q.1, ji (r.map (·.1)), rfl, h q List.mem_cons_self, IU (fun p hp => h p (List.mem_cons_of_mem _ hp)), ?_⟩
    simp [ji, iM, cont]

theorem ZP (h : DVq σ d n0 A o qs) (hA : OkA A) : gB (some d) σ = some ((ji A.2.1 : Nat) : Int) := by
  unfold gB
  have h1 := IU (σ := σ) (qs := qs) (fun q hq => (h.lie q hq).1)
  have h2 := GM h.map.symm h1
  rw [wF h.files] at h2
  have h3 := hA.used; have h4 := hA.room
  simp [h.ho, h2]
  rw [aP (by omega) (by omega)]

theorem YE {l l' : List (List UInt8)} (h : l.Perm l') (hs : l'.Pairwise (· < ·)) : sorted l = l' := by
  unfold sorted
  have hp := (List.mergeSort_perm l (fun x y => decide (x ≤ y))).trans h
  refine hp.eq_of_pairwise (le := fun x y => x ≤ y) ?_ ?_ ?_
  · intro a b _ _ h1 h2; exact List.le_antisymm h1 h2
  · have := List.pairwise_mergeSort (le := fun x y : List UInt8 => decide (x ≤ y)) (fun a b c h1 h2 => by simp only [decide_eq_true_eq] at *; exact List.le_trans h1 h2) (fun a b => by simp only [Bool.or_eq_true, decide_eq_true_eq]; exact List.le_total a b) l
    exact this.imp (fun h => by simpa using h)
  · exact hs.imp (fun h => List.le_of_lt h)

theorem ZQ (h : DVq σ d n0 A o qs) (hA : OkA A) : iH (some d) σ = some (A.2.1.map (·.1)) := by
  unfold iH
  have hl := h.len
  have hf := hA.files
  have hp : (o.2.1.map (·.1)).Perm (A.2.1.map (·.1)) := by
    refine (h.map.map (·.1)).trans ?_
    rw [List.map_map]
    have := h.files.map (·.1)
    rw [List.map_map] at this
    exact this
  have hs := YE hp (List.pairwise_map.2 hA.sorted)
  have hg : (o.2.1.length + 1) * 16 ≤ 140737488355328 := by omega
  simp [h.ho, hs, hg]

theorem Vu (h : DVq σ d n0 A o qs) : f70 (some d) σ = some (if A.2.2.2.1 = true then 11 else 0) := by
  unfold f70
  have := h.down
  simp only [h.ho, Option.isNone_some, Option.bind_eq_bind, Option.bind_some, this]
  rw [if_neg (by decide)]
  split <;> rfl

theorem Jf (h : DVq σ d n0 A o qs) (hA : OkA A) (s : List UInt8) :
    (A.2.2.2.1 = true ∧ f77 (some d) s σ = some (none, 11)) ∨ (A.2.2.2.1 = false ∧ ((kF s A.2.1 = none ∧ f77 (some d) s σ = some (none, 8)) ∨ ∃ f j, kF s A.2.1 = some f ∧ (f, j) ∈ qs ∧ f.1 = s ∧ σ.aj[j]? = some (cont f) ∧ dm .str (.ptr ax) s o.2.1 = some (some j) ∧ f77 (some d) s σ = some (some j, 0))) := by
  unfold f77
  rw [Vu h]
  simp only [h.ho, Option.bind_eq_bind, Option.bind_some]
  cases hd : A.2.2.2.1 with
  | true => exact .inl ⟨rfl, by simp⟩
  | false =>
    refine .inr ⟨rfl, ?_⟩
    rcases h.look hA.sorted s with ⟨h1, h2, _⟩ | ⟨f, j, h1, h2, h3, h4, h5⟩
    · exact .inl ⟨h1, by simp [h2, fZ]⟩
    · exact .inr ⟨f, j, h1, h3, h4, h5, h2, by simp [h2]⟩

theorem adl (h : DVq σ d n0 A o qs) (hA : OkA A) (s : List UInt8) : f28 (some d) s σ = some (readA A s) := by
  unfold f28 readA
  rcases Jf h hA s with ⟨h1, h2⟩ | ⟨h1, ⟨h2, h3⟩ | ⟨f, j, h2, h3, h4, h5, _, h6⟩⟩
  · simp [h1, h2]
  · simp [h1, h2, h3]
  · simp [h1, h2, h6, h5, cont]

theorem adm (h : DVq σ d n0 A o qs) : f31 (some d) σ = some A.2.2.2.1 := by
  unfold f31
  simp [h.ho, h.down]
end
end Go.Proofs.YtbnmhjobnepajaaGreat.M


namespace Go.Proofs.YtbnmhjobnepajaaGreat.M

noncomputable def Oth (σ σ1 : St) : Prop := σ1.aj = σ.aj ∧ σ1.aG = σ.aG ∧ σ1.iE = σ.iE ∧ σ1.tC = σ.tC ∧ σ1.mG = σ.mG

section
variable {σ : St} {d n0 : Nat} {A : AD} {o : aA dV} {qs : List (FR × Nat)}

theorem Oe {X Y : aA dV} : (σ.aS d X).aS d Y = σ.aS d Y := by unfold St.aS; simp
theorem Og {j : Nat} {X Y : aA fD} : (σ.aH j X).aH j Y = σ.aH j Y := by unfold St.aH; simp

theorem FrD.of {σ' : St} (h1 : σ'.up = σ.up) (h2 : σ'.ah = σ.ah) (h3 : σ'.aj = σ.aj) (h4 : vI σ' = vI σ := by rfl) : FrD σ σ' d n0 :=
  ⟨h4, h1, fun i _ _ => by rw [h2], by rw [h2]; exact Nat.le_refl _, fun i _ => by rw [h3], by rw [h3]; exact Nat.le_refl _⟩

theorem DV.same {σ' : St} (h : DV σ d n0 A) (h1 : σ'.ah = σ.ah) (h2 : σ'.aj = σ.aj) : DV σ' d n0 A := by
  obtain ⟨o, qs, h⟩ := h
  exact ⟨o, qs, h.same h1 h2⟩

noncomputable def Gives (r : Option (Int × St)) (σ : St) (d n0 : Nat) (p : Int × AD) : Prop := ∃ σ', r = some (p.1, σ') ∧ DV σ' d n0 p.2 ∧ FrD σ σ' d n0

theorem Gives.from {r : Option (Int × St)} {σ0 : St} {p : Int × AD} (h : Gives r σ d n0 p) (hf : FrD σ0 σ d n0) : Gives r σ0 d n0 p := by
  obtain ⟨σ', e1, e2, e3⟩ := h
  exact ⟨σ', e1, e2, hf.trans e3⟩

theorem Rh (h : DVq σ d n0 A o qs) (hA : OkA A) (hd : A.2.2.2.1 = false) {p1 : St → Option (Unit × St)} {k : AD → AD}
    (hp : ∀ σ1 o1, DVq σ1 d n0 (wQ A).2 o1 qs → o1.2.1 = o.2.1 → Oth σ σ1 → ∃ σ2, p1 σ1 = some ((), σ2) ∧ DV σ2 d n0 (k (wQ A).2) ∧ FrD σ1 σ2 d n0) :
    Gives (f72 (some d) p1 σ) σ d n0 (xC A k) := by
  unfold f72 xC
  simp only [h.ho, Option.bind_eq_bind, Option.bind_some, h.armed]
  by_cases h0 : A.2.2.1 = 0
  · have hg : wQ A = (false, A) := by unfold wQ; rw [if_pos h0]
    rw [hg] at hp ⊢
    obtain ⟨σ2, e1, e2, e3⟩ := hp σ o h rfl ⟨rfl, rfl, rfl, rfl, rfl⟩
    exact ⟨σ2, by simp [h0, e1], e2, e3⟩
  · have ha := hA.armed
    have hw : IntKind.wrap .i64 (A.2.2.1 - 1) = A.2.2.1 - 1 := aP (by omega) (by omega)
    have hg : wQ A = (A.2.2.1 == 1, (A.1, A.2.1, A.2.2.1 - 1, A.2.2.1 == 1, ())) := by unfold wQ; rw [if_neg h0]
    have hpos : decide (A.2.2.1 > 0) = true := by simp; omega
    rw [hg] at hp ⊢
    simp only [hpos, if_true, hw, ou h.ho, Option.bind_some, Oe]
    by_cases h1 : A.2.2.1 = 1
    · refine ⟨_, by simp [h1]; rfl, ?_, Ea⟩
      have := h.state (a := A.2.2.1 - 1) (b := true)
      rw [h1] at this ⊢
      exact ⟨_, _, this⟩
    · have e : ((A.2.2.1 - 1 == 0) : Bool) = false := by
        have : ¬ (A.2.2.1 - 1 = 0) := by omega
        simpa using this
      have e2 : ((A.2.2.1 == 1) : Bool) = false := by simpa using h1
      rw [e2] at hp
      have hq := h.state (a := A.2.2.1 - 1) (b := o.2.2.2.1)
      have hdn : o.2.2.2.1 = false := h.down.trans hd
      rw [hdn] at hq
      obtain ⟨σ2, e3, e4, e5⟩ := hp _ _ hq rfl ⟨rfl, rfl, rfl, rfl, rfl⟩
      refine ⟨σ2, ?_, ?_, Ea.trans e5⟩
      · rw [hdn]; simp [e, e2, e3]
      · simp only [e2]; exact e4

theorem ado (h : DV σ d n0 A) (hA : OkA A) (s : List UInt8) : Gives (f33 (some d) s σ) σ d n0 (Oo A s) := by
  obtain ⟨o, qs, h⟩ := h
  unfold f33 Oo Qm
  rcases Jf h hA s with ⟨h1, h2⟩ | ⟨h1, ⟨h2, h3⟩ | ⟨f, j, h2, h3, h4, h5, _, h6⟩⟩
  · rw [h2, if_pos h1]
    exact ⟨(σ.eQ (none, ())).dH σ.aG.length (none, ()), by simp, ⟨o, qs, h.same rfl rfl⟩, FrD.of rfl rfl rfl⟩
  · rw [h3, if_neg (by rw [h1]; decide), h2]
    exact ⟨(σ.eQ (none, ())).dH σ.aG.length (none, ()), by simp, ⟨o, qs, h.same rfl rfl⟩, FrD.of rfl rfl rfl⟩
  · rw [h6, if_neg (by rw [h1]; decide), h2]
    simp only [Option.bind_eq_bind, Option.bind_some]
    rw [if_neg (by decide)]
    have hh : DVq ((σ.eQ (none, ())).dH σ.aG.length (some j, ())) d n0 A o qs := h.same rfl rfl
    have hc : ((σ.eQ (none, ())).dH σ.aG.length (some j, ())).aG[σ.aG.length]? = some (some j, ()) := EL PV
    refine Gives.from ?_ (FrD.of (σ' := (σ.eQ (none, ())).dH σ.aG.length (some j, ())) rfl rfl rfl)
    obtain ⟨σ', e1, e2, e3⟩ := Rh hh hA h1 (p1 := f78 σ.aG.length) (k := fun B => qR B (nS (EJ s f) false B.2.1)) (by
      intro σ1 o1 q1 q2 q3
      have hj := (q1.lie _ h3).1
      have hc1 : σ1.aG[σ.aG.length]? = some (some j, ()) := by rw [q3.2.1]; exact hc
      refine ⟨σ1.aH j (cont (EJ s f)), ?_, ⟨_, _, q1.upd hA.goes.sorted h3 h4.symm⟩, Eb (q1.lie _ h3).2⟩
      unfold f78
      simp [hc1, hj, cont, EJ])
    exact ⟨σ', by rw [e1]; rfl, e2, e3⟩

theorem adq (h : DV σ d n0 A) (hA : OkA A) (s : List UInt8) (n : Int) : Gives (f35 (some d) s n σ) σ d n0 (Sz A s n) := by
  obtain ⟨o, qs, h⟩ := h
  unfold f35 Sz Qm
  have h' : DVq (σ.cO (n, ())) d n0 A o qs := h.same rfl rfl
  rcases Jf h' hA s with ⟨h1, h2⟩ | ⟨h1, ⟨h2, h3⟩ | ⟨f, j, h2, h3, h4, h5, _, h6⟩⟩
  · rw [h2, if_pos h1]
    exact ⟨((σ.cO (n, ())).eQ (none, ())).dH (σ.cO (n, ())).aG.length (none, ()), by simp, ⟨o, qs, h.same rfl rfl⟩, FrD.of rfl rfl rfl⟩
  · rw [h3, if_neg (by rw [h1]; decide), h2]
    exact ⟨((σ.cO (n, ())).eQ (none, ())).dH (σ.cO (n, ())).aG.length (none, ()), by simp, ⟨o, qs, h.same rfl rfl⟩, FrD.of rfl rfl rfl⟩
  · rw [h6, if_neg (by rw [h1]; decide), h2]
    simp only [Option.bind_eq_bind, Option.bind_some]
    rw [if_neg (by decide)]
    have hfs := hA.each f (sV h2).1
    by_cases c1 : n < 0
    · rw [if_pos (by simpa using c1), if_pos (.inl c1)]
      exact ⟨_, rfl, ⟨o, qs, h.same rfl rfl⟩, FrD.of rfl rfl rfl⟩
    rw [if_neg (by simpa using c1)]
    have hl : (((σ.cO (n, ())).eQ (none, ())).dH ((σ.cO (n, ())).aG.length) (some j, ())).aj[j]? = some (cont f) := h5
    rw [hl]
    simp only [Option.bind_some]
    have hcl : (cont f).1.length = iM f := by simp [cont, iM]
    by_cases c2 : (iM f : Int) < n
    · rw [if_pos (by rw [hcl]; simpa using c2), if_pos (.inr c2)]
      exact ⟨_, rfl, ⟨o, qs, h.same rfl rfl⟩, FrD.of rfl rfl rfl⟩
    rw [if_neg (by rw [hcl]; simpa using c2), if_neg (by simp only [not_or]; exact ⟨c1, c2⟩)]
    have hh : DVq (((σ.cO (n, ())).eQ (none, ())).dH ((σ.cO (n, ())).aG.length) (some j, ())) d n0 A o qs := h.same rfl rfl
    have hc : (((σ.cO (n, ())).eQ (none, ())).dH ((σ.cO (n, ())).aG.length) (some j, ())).aG[(σ.cO (n, ())).aG.length]? = some (some j, ()) := EL PV
    have hc3 : (((σ.cO (n, ())).eQ (none, ())).dH ((σ.cO (n, ())).aG.length) (some j, ())).iE[σ.iE.length]? = some (n, ()) := by
      show (σ.cO (n, ())).iE[σ.iE.length]? = _
      exact aai
    refine Gives.from ?_ (FrD.of (σ' := ((σ.cO (n, ())).eQ (none, ())).dH ((σ.cO (n, ())).aG.length) (some j, ())) rfl rfl rfl)
    obtain ⟨σ', e1, e2, e3⟩ := Rh hh hA h1 (p1 := f79 ((σ.cO (n, ())).aG.length) σ.iE.length) (k := fun B => qR B (nS (Ja s f n.toNat) false B.2.1)) (by
      intro σ1 o1 q1 q2 q3
      have hj := (q1.lie _ h3).1
      have hc1 : σ1.aG[(σ.cO (n, ())).aG.length]? = some (some j, ()) := by rw [q3.2.1]; exact hc
      have hc2 : σ1.iE[σ.iE.length]? = some (n, ()) := by rw [q3.2.2.1]; exact hc3
      have hn1 : (Ja s f n.toNat).1 = f.1 := by rw [h4]; unfold Ja; split <;> rfl
      refine ⟨σ1.aH j (cont (Ja s f n.toNat)), ?_, ⟨_, _, q1.upd hA.goes.sorted h3 hn1⟩, Eb (q1.lie _ h3).2⟩
      unfold f79
      have hg : (0 : Int) ≤ n ∧ n ≤ ((cont f).1.length : Int) := by rw [hcl]; omega
      simp only [hc1, hc2, hj, Option.bind_eq_bind, Option.bind_some, hg, and_self, if_true, tu hj, Og]
      have : ((f.2.1 ++ f.2.2.1).take n.toNat, (if n < (f.2.1.length : Int) then n else (f.2.1.length : Int)), ()) = cont (Ja s f n.toNat) := by
        unfold Ja cont
        by_cases c3 : n.toNat ≤ f.2.1.length
        · rw [if_pos c3]
          simp only [List.append_nil, List.length_take]
          rw [List.take_append_of_le_length c3]
          congr 2
          split <;> omega
        · rw [if_neg c3]
          simp only []
          rw [List.take_append, List.take_of_length_le (l := f.2.1) (by omega)]
          congr 2
          rw [if_neg (by omega)]
      exact congrArg (fun X => some ((), σ1.aH j X)) this)
    exact ⟨σ', by rw [e1]; rfl, e2, e3⟩

theorem adn (h : DV σ d n0 A) (n : Int) : Gives (f32 (some d) n σ) σ d n0 (abz A n) := by
  obtain ⟨o, qs, h⟩ := h
  unfold f32 abz
  rw [Vu h]
  cases hd : A.2.2.2.1 with
  | true => exact ⟨_, by simp, ⟨o, qs, h⟩, FrD.refl _ _ _⟩
  | false =>
    by_cases c : n < 1
    · rw [if_neg (by decide), if_pos c]
      exact ⟨_, by simp [c], ⟨o, qs, h⟩, FrD.refl _ _ _⟩
    · rw [if_neg (by decide), if_neg c]
      have hq := h.state (a := n) (b := o.2.2.2.1)
      have hdn : o.2.2.2.1 = false := h.down.trans hd
      rw [hdn] at hq
      exact ⟨σ.aS d (o.1, o.2.1, n, false, ()), by simp [c, h.ho, hdn], ⟨_, _, hq⟩, Ea⟩

theorem ZZ {B : AD} : ∀ σ1 o1, DVq σ1 d n0 B o1 qs → o1.2.1 = o.2.1 → Oth σ σ1 → ∃ σ2, f73 σ1 = some ((), σ2) ∧ DV σ2 d n0 (id B) ∧ FrD σ1 σ2 d n0 :=
  fun σ1 o1 q1 _ _ => ⟨σ1, rfl, ⟨_, _, q1⟩, FrD.refl _ _ _⟩

theorem ZR (h : DV σ d n0 A) (hA : OkA A) (s b : List UInt8) (hs : s.length < 9223372036854775808) : Gives (f24 (some d) s b σ) σ d n0 (wG A s b) := by
  obtain ⟨o, qs, h⟩ := h
  unfold f24 wG
  rw [Vu h]
  simp only [Option.bind_eq_bind, Option.bind_some, adv s hs, h.ho]
  cases hd : A.2.2.2.1 with
  | true => exact ⟨_, by simp, ⟨o, qs, h⟩, FrD.refl _ _ _⟩
  | false =>
    simp only [Bool.false_eq_true, if_false]
    rw [if_neg (by decide)]
    cases hn : Jt s with
    | false => exact ⟨_, by simp, ⟨o, qs, h⟩, FrD.refl _ _ _⟩
    | true =>
      simp only [Bool.not_true, Bool.false_eq_true, if_false, Bool.true_eq_false]
      have hdB : ∀ L, (qR A L).2.2.2.1 = false := fun L => hd
      have hlen := h.len
      rcases h.look hA.sorted s with ⟨h1, h2, h3⟩ | ⟨f, j, h1, h2, h3, h4, h5⟩
      · simp only [h2, Option.getD_none, fZ, Option.isNone_none, Bool.not_true, Bool.false_eq_true, if_false, if_true, Option.bind_some, ZP h hA, h.room, XE hA, decide_eq_true_eq]
        have hw : IntKind.wrap .i64 (65536 - 0) = 65536 := by decide
        rw [hw, hlen]
        have hsz : iM (nC s) = 0 := rfl
        by_cases c1 : (A.2.1.length : Int) ≥ 128
        · rw [if_pos c1, if_pos (.inl ⟨by rw [h1]; rfl, by omega⟩)]
          exact ⟨_, rfl, ⟨o, qs, h⟩, FrD.refl _ _ _⟩
        rw [if_neg c1]
        by_cases c2 : (b.length : Int) > 65536
        · rw [if_pos c2, if_pos (.inr (.inl (by rw [h1]; simp only [Option.getD_none, hsz]; omega)))]
          exact ⟨_, rfl, ⟨o, qs, h⟩, FrD.refl _ _ _⟩
        rw [if_neg c2]
        by_cases c3 : (b.length : Int) > A.1 - ((ji A.2.1 : Nat) : Int)
        · rw [if_pos c3, if_pos (.inr (.inr (by omega)))]
          exact ⟨_, rfl, ⟨o, qs, h⟩, FrD.refl _ _ _⟩
        rw [if_neg c3]
        have hc : ¬ full A s b := by
          simp only [full, h1, Option.getD_none, hsz, not_or, not_and]
          exact ⟨fun _ => by omega, by omega, by omega⟩
        rw [if_neg hc]
        have hB := hA.appended hc
        rw [h1] at hB ⊢
        have e0 : (σ.eY ([], 0, ())).ah[d]? = some o := h.ho
        rw [e0]
        simp only [Option.bind_some]
        have q0 : DVq (σ.eY ([], 0, ())) d n0 A o qs := by
          refine ⟨h.ho, h.room, h.armed, h.down, h.map, h.files, h.nodup, fun q hq => ?_, by have := h.base; simp [St.eY]; omega⟩
          obtain ⟨a1, a2⟩ := h.lie q hq
          refine ⟨?_, a2⟩
          simp only [St.eY]
          rw [List.getElem?_append_left (List.getElem?_eq_some_iff.1 a1).1]; exact a1
        have hnew : σ.aj.length ∉ qs.map (·.2) := fun hm => by
          obtain ⟨q, hq, e⟩ := List.mem_map.1 hm
          have := (List.getElem?_eq_some_iff.1 (h.lie q hq).1).1
          omega
        have q1 := q0.link (g := nC s) (j := σ.aj.length) hA.sorted hnew FZ h.base
        have q2 := q1.upd (g := uf (nC s) b) hA.sorted.set List.mem_cons_self rfl
        have q3 := q2.perm (L := nS (uf (nC s) b) false A.2.1) (by
          refine (oM _ _).trans (List.Perm.trans ?_ (oM _ _).symm)
          refine List.Perm.cons _ ?_
          refine (zA (oM _ _)).trans ?_
          have e1 : (uf (nC s) b).1 = s := rfl
          have e2 : (nC s).1 = s := rfl
          rw [e1, e2]
          simp only [kZ, e2, beq_self_eq_true, cond_true, List.nil_append]
          rw [BG (L := kZ s A.2.1)]
          rw [BG h1]; exact h1)
        have g1 : ((σ.eY ([], 0, ())).aS d (o.1, oU .str (.ptr ax) s (some σ.aj.length) o.2.1, o.2.2.1, o.2.2.2.1, ())).aj[σ.aj.length]? = some ([], 0, ()) := FZ
        rw [g1]
        simp only [Option.bind_some]
        have hl : ([] : List UInt8).length + b.length ≤ 9223372036854775807 := by simp; omega
        rw [if_pos hl]
        have hB' : OkA (qR (qR A (nS (nC s) false A.2.1)) (nS (uf (nC s) b) false A.2.1)) := hB
        obtain ⟨σ', e1, e2, e3⟩ := Rh (k := id) q3 hB' (hdB _) ZZ
        refine ⟨σ', ?_, e2, ((Rq h.base).trans (Ea.trans (Eb h.base))).trans e3⟩
        have e4 : (([] : List UInt8) ++ b, (0 : Int), ()) = cont (uf (nC s) b) := rfl
        rw [e4]
        have e5 : (nC s).1 = s := rfl
        rw [e5] at e1
        rw [e1]; rfl
      · have hfs := hA.each f (sV h1).1
        have hcl : (cont f).1.length = iM f := by simp [cont, iM]
        simp only [h2, Option.getD_some, Option.isNone_some, Bool.not_false, Bool.false_eq_true, if_false, if_true, Option.bind_some, ZP h hA, h.room, XE hA, decide_eq_true_eq, h5, hcl]
        have hw : IntKind.wrap .i64 (65536 - (iM f : Int)) = 65536 - (iM f : Int) := aP (by omega) (by omega)
        rw [hw]
        by_cases c2 : (b.length : Int) > 65536 - (iM f : Int)
        · rw [if_pos c2, if_pos (.inr (.inl (by rw [h1]; simp only [Option.getD_some]; omega)))]
          exact ⟨_, rfl, ⟨o, qs, h⟩, FrD.refl _ _ _⟩
        rw [if_neg c2]
        by_cases c3 : (b.length : Int) > A.1 - ((ji A.2.1 : Nat) : Int)
        · rw [if_pos c3, if_pos (.inr (.inr (by omega)))]
          exact ⟨_, rfl, ⟨o, qs, h⟩, FrD.refl _ _ _⟩
        rw [if_neg c3]
        have hc : ¬ full A s b := by
          simp only [full, h1, Option.getD_some, not_or, not_and]
          exact ⟨fun h => by simp at h, by omega, by omega⟩
        rw [if_neg hc]
        have hB := hA.appended hc
        rw [h1] at hB ⊢
        have q2 := h.upd (g := uf f b) hA.sorted h3 rfl
        have hl : iM f + b.length ≤ 9223372036854775807 := by omega
        rw [if_pos hl]
        obtain ⟨σ', e1, e2, e3⟩ := Rh (k := id) q2 hB (hdB _) ZZ
        refine ⟨σ', ?_, e2, (Eb (h.lie _ h3).2).trans e3⟩
        have e4 : ((cont f).1 ++ b, (cont f).2.1, ()) = cont (uf f b) := by simp [cont, uf]
        rw [e4]
        rw [e1]; rfl

theorem TL (d n0 : Nat) (A0 : AD) : ∀ (suf pre : List FR) (keep : List Int) (σ : St) (A : AD), DV σ d n0 A → A.2.1 = pre ++ suf → rG (pre ++ suf) → pre.length + suf.length ≤ 128 → (∀ f ∈ suf, iM f ≤ 65536) →
    ∃ keep' σ', vT (some d) ((pre ++ suf).map (·.1)) keep ((pre.length : Nat) : Int) σ = some (keep', ((pre.length + suf.length : Nat) : Int), σ') ∧ DV σ' d n0 (qR A (pre ++ kz suf keep)) ∧ FrD σ σ' d n0
  | [], pre, keep, σ, A, h, hL, hs, hl, hf => by
    rw [vT]
    refine ⟨keep, σ, ?_, ?_, FrD.refl _ _ _⟩
    · simp
    · simp only [kz]; rw [← hL]; exact h
  | f :: r, pre, keep, σ, A, h, hL, hs, hl, hf => by
    rw [vT]
    obtain ⟨o, qs, h⟩ := h
    have hsA : rG A.2.1 := by rw [hL]; exact hs
    have hfs := hf f List.mem_cons_self
    have hfd : kF f.1 A.2.1 = some f := Ht hsA (by rw [hL]; simp) rfl
    have hlook := h.look hsA f.1
    rw [hfd] at hlook
    rcases hlook with ⟨h1, _⟩ | ⟨f', j, h1, h2, h3, h4, h5⟩
    · cases h1
    simp only [Option.some.injEq] at h1; subst h1
    have hn : pre.length < ((pre ++ f :: r).map (·.1)).length := by simp
    have hix : ix ((pre ++ f :: r).map (·.1)) ((pre.length : Nat) : Int) = some f.1 := by rw [jO hn]; simp
    have hlt : ((pre.length : Nat) : Int) < (((pre ++ f :: r).map (·.1)).length : Int) := by omega
    simp only [List.length_cons] at hl
    have hw : IntKind.wrap .i64 ((pre.length : Int) + 1) = (((pre ++ [f]).length : Nat) : Int) := by rw [aP (by omega) (by omega)]; simp
    have hmore : IntKind.wrap .i64 (((cont f).1.length : Int) - (cont f).2.1) = (f.2.2.1.length : Int) := by
      unfold iM at hfs
      have : ((cont f).1.length : Int) - (cont f).2.1 = (f.2.2.1.length : Int) := by simp [cont]; omega
      rw [this, aP (by omega) (by omega)]
    have happ : (pre ++ [f]) ++ r = pre ++ f :: r := by simp
    simp only [hlt, decide_true, if_true, hix, Option.bind_eq_bind, Option.bind_some, h.ho, h2, Option.getD_some, h5, hmore, hw]
    have next : ∀ (g : FR) (keep2 : List Int) (σ2 : St), g.1 = f.1 → DV σ2 d n0 (qR A (pre ++ g :: r)) → FrD σ σ2 d n0 →
        ∃ keep' σ', vT (some d) ((pre ++ f :: r).map (·.1)) keep2 (((pre ++ [f]).length : Nat) : Int) σ2 = some (keep', ((pre.length + (f :: r).length : Nat) : Int), σ') ∧ DV σ' d n0 (qR A (pre ++ g :: kz r keep2)) ∧ FrD σ σ' d n0 := by
      intro g keep2 σ2 hg hv hfr
      have hnm : (pre ++ f :: r).map (·.1) = ((pre ++ [g]) ++ r).map (·.1) := by simp [hg]
      obtain ⟨k', σ', e1, e2, e3⟩ := TL d n0 A0 r (pre ++ [g]) keep2 σ2 (qR A (pre ++ g :: r)) hv (by simp [qR]) (JJ hnm hs) (by simp; omega) (fun x hx => hf x (List.mem_cons_of_mem _ hx))
      refine ⟨k', σ', ?_, ?_, hfr.trans e3⟩
      · rw [hnm]
        have hpl : (pre ++ [f]).length = (pre ++ [g]).length := by simp
        rw [hpl, e1]
        simp only [List.length_append, List.length_cons, List.length_nil]
        congr 3
        omega
      · have : (pre ++ [g]) ++ kz r keep2 = pre ++ g :: kz r keep2 := by simp
        rw [this] at e2; exact e2
    simp only [kz]
    cases hm : f.2.2.1 with
    | nil =>
      have e : ((f.1, f.2.1, [], ()) : FR) = f := by rw [← hm]
      have h0 : (((([] : List UInt8).length : Int) == 0) : Bool) = true := rfl
      rw [if_pos h0]
      simp only [List.isEmpty_nil, cond_true, e]
      refine next f keep σ rfl ?_ (FrD.refl _ _ _)
      rw [← hL]; exact ⟨o, qs, h⟩
    | cons c t =>
      have h0 : ((((c :: t : List UInt8).length : Int) == 0) : Bool) = false := by
        have : ¬ (((c :: t : List UInt8).length : Int) = 0) := by simp only [List.length_cons]; omega
        simpa using this
      have hkl := aam keep (c :: t).length
      have hfs' := hfs
      unfold iM at hfs'
      rw [hm] at hfs'
      have hw1 : IntKind.wrap .i64 (((c :: t : List UInt8).length : Int) + 1) = ((c :: t : List UInt8).length : Int) + 1 := aP (by omega) (by omega)
      rw [h0]
      simp only [Bool.false_eq_true, if_false, List.isEmpty_cons, cond_false, hw1]
      have hz : ((if decide ((keep.length : Int) > 0) = true then
          (ix keep 0).bind fun x49 => if ((c :: t : List UInt8).length : Int) + 1 ≠ 0 then if (0 : Int) ≤ 1 ∧ 1 ≤ (keep.length : Int) then some (keep.drop (Int.toNat 1), Int.tmod (if 0 > x49 then 0 else x49) (((c :: t : List UInt8).length : Int) + 1)) else none else none
          else some (keep, 0)) : Option (List Int × Int)) = some (keep.tail, ((qY keep (c :: t).length : Nat) : Int)) := by
        cases keep with
        | nil => simp [qY]
        | cons y r' =>
          have hne : ((c :: t : List UInt8).length : Int) + 1 ≠ 0 := by omega
          have hgt : ((y :: r').length : Int) > 0 := by simp only [List.length_cons]; omega
          have hle : (0 : Int) ≤ 1 ∧ 1 ≤ ((y :: r').length : Int) := ⟨by decide, by simp only [List.length_cons]; omega⟩
          have hix0 : ix (y :: r') 0 = some y := rfl
          rw [if_pos (decide_eq_true hgt), hix0, Option.bind_some, if_pos hne, if_pos hle]
          congr 1
          have : (if 0 > y then (0 : Int) else y).tmod (((c :: t : List UInt8).length : Int) + 1) = ((qY (y :: r') (c :: t).length : Nat) : Int) := by
            simp only [qY]
            by_cases hy : 0 < y
            · rw [if_neg (by omega), if_pos hy]
              have := Int.tmod_nonneg (((c :: t : List UInt8).length : Int) + 1) (Int.le_of_lt hy)
              omega
            · rw [if_neg hy]
              have : (if 0 > y then (0 : Int) else y) = 0 := by split <;> omega
              rw [this]; simp
          rw [this]; rfl
      rw [hz]
      simp only [Option.bind_some]
      have hsafe : (cont f).2.1 = (f.2.1.length : Int) := rfl
      have hb : (cont f).1 = f.2.1 ++ c :: t := by rw [← hm]; rfl
      have hw2 : IntKind.wrap .i64 ((f.2.1.length : Int) + ((qY keep (c :: t).length : Nat) : Int)) = ((f.2.1.length + qY keep (c :: t).length : Nat) : Int) := by rw [aP (by omega) (by omega)]; omega
      rw [hsafe, hw2, hb]
      rw [if_pos ⟨by omega, by simp only [List.length_append]; omega⟩]
      simp only [tu h5, Option.bind_some, Og, Int.toNat_natCast]
      have hcont : ((f.2.1 ++ c :: t).take (f.2.1.length + qY keep (c :: t).length), ((((f.2.1 ++ c :: t).take (f.2.1.length + qY keep (c :: t).length)).length : Nat) : Int), ()) = cont (f.1, f.2.1 ++ (c :: t).take (qY keep (c :: t).length), [], ()) := by
        have : (f.2.1 ++ c :: t).take (f.2.1.length + qY keep (c :: t).length) = f.2.1 ++ (c :: t).take (qY keep (c :: t).length) := by
          rw [List.take_append, List.take_of_length_le (l := f.2.1) (by omega)]; simp
        simp only [cont, this, List.append_nil]
      rw [hcont]
      refine next (f.1, f.2.1 ++ (c :: t).take (qY keep (c :: t).length), [], ()) keep.tail _ rfl ?_ (Eb (h.lie _ h3).2)
      have q1 := h.upd (g := (f.1, f.2.1 ++ (c :: t).take (qY keep (c :: t).length), [], ())) hsA h3 rfl
      refine ⟨_, _, q1.perm (L := pre ++ (f.1, f.2.1 ++ (c :: t).take (qY keep (c :: t).length), [], ()) :: r) ?_⟩
      refine (oM _ _).trans (List.Perm.trans ?_ List.perm_middle.symm)
      refine List.Perm.cons _ ?_
      have p1 := Gp hsA hfd
      rw [hL] at p1
      have p2 : (f :: (pre ++ r)).Perm (f :: kZ f.1 A.2.1) := by
        rw [hL]; exact List.perm_middle.symm.trans p1
      exact (List.Perm.cons_inv p2).symm

theorem adk (h : DV σ d n0 A) (hA : OkA A) (keep : List Int) : Gives (f27 (some d) keep σ) σ d n0 (0, DI A keep) := by
  have hf := hA.files
  obtain ⟨k', σ', e1, e2, e3⟩ := TL d n0 A A.2.1 [] keep σ A h rfl hA.sorted (by simp; exact hf) hA.each
  obtain ⟨o, qs, h⟩ := h
  obtain ⟨o2, qs2, h2⟩ := e2
  unfold f27
  rw [ZQ h hA]
  have e1' : vT (some d) (A.2.1.map (·.1)) keep 0 σ = some (k', ((0 + A.2.1.length : Nat) : Int), σ') := e1
  simp only [Option.isNone_some, Option.bind_eq_bind, Option.bind_some, e1', h2.ho, ou h2.ho, Oe]
  rw [if_neg (by decide)]
  exact ⟨_, rfl, ⟨_, _, h2.state⟩, e3.trans Ea⟩

theorem adi {room : Int} (h1 : 0 ≤ room) (h2 : room ≤ 1048576) : f18 room σ = some ((some σ.ah.length, 0), σ.oK (room, [], 0, false, ())) ∧ DV (σ.oK (room, [], 0, false, ())) σ.ah.length σ.aj.length (room, [], 0, false, ()) ∧ OkA (room, [], 0, false, ()) := by
  refine ⟨?_, ⟨(room, [], 0, false, ()), [], ?_⟩, ?_⟩
  · unfold f18
    have c1 : ¬ room < 0 := by omega
    have c2 : ¬ room > 1048576 := by omega
    simp [c1, c2]
  · exact ⟨OI, rfl, rfl, rfl, List.Perm.refl _, List.Perm.refl _, List.nodup_nil, by simp, Nat.le_refl _⟩
  · exact ⟨List.Pairwise.nil, Nat.zero_le _, fun f hf => by simp at hf, h1, h2, Int.le_refl 0, (by decide : (0 : Int) < 9223372036854775808)⟩
end
end Go.Proofs.YtbnmhjobnepajaaGreat.M


namespace Go.Proofs.YtbnmhjobnepajaaGreat.M

abbrev Sg : Type := Nat × List (List UInt8)
noncomputable def sgB (g : Sg) : List UInt8 := iq g.1 g.2
noncomputable def sgN (g : Sg) : Nat := g.1 + g.2.length
noncomputable def aK (segs : List Sg) : Nat := match segs.getLast? with
  | none => 0
  | some g => sgN g

theorem gV (pre : List Sg) (g : Sg) : aK (pre ++ [g]) = sgN g := by simp [aK]

noncomputable def Chn : Option Nat → List Sg → Prop
  | _, [] => True
  | e, g :: r => (∀ n, e = some n → g.1 = n) ∧ (r ≠ [] → 0 < g.2.length) ∧ Chn (some (sgN g)) r

theorem Chn.ge : ∀ {r : List Sg} {n : Nat}, Chn (some n) r → ∀ h ∈ r, n ≤ h.1
  | [], _, _ => by simp
  | g :: r, n, h => by
    obtain ⟨h1, h2, h3⟩ := h
    intro x hx
    have := h1 n rfl
    rcases List.mem_cons.1 hx with rfl | hx
    · omega
    · have := h3.ge x hx
      unfold sgN at this; omega

theorem Chn.rise : ∀ {r : List Sg} {e : Option Nat}, Chn e r → r.Pairwise (fun g h => g.1 < h.1)
  | [], _, _ => List.Pairwise.nil
  | g :: r, e, h => by
    obtain ⟨h1, h2, h3⟩ := h
    refine List.pairwise_cons.2 ⟨fun x hx => ?_, h3.rise⟩
    have := h3.ge x hx
    have := h2 (List.ne_nil_of_mem hx)
    unfold sgN at *; omega

theorem Chn.last : ∀ {pre : List Sg} {e : Option Nat} {g h : Sg}, Chn e (pre ++ [g]) → h.1 = g.1 → Chn e (pre ++ [h])
  | [], e, g, h, hc, he => by
    obtain ⟨h1, h2, h3⟩ := hc
    exact ⟨fun n hn => by rw [he]; exact h1 n hn, by simp, trivial⟩
  | a :: pre, e, g, h, hc, he => by
    obtain ⟨h1, h2, h3⟩ := hc
    refine ⟨h1, fun _ => h2 (by simp), ?_⟩
    exact Chn.last (pre := pre) h3 he

theorem Chn.snoc : ∀ {pre : List Sg} {e : Option Nat} {g h : Sg}, Chn e (pre ++ [g]) → h.1 = sgN g → 0 < g.2.length → Chn e (pre ++ [g] ++ [h])
  | [], e, g, h, hc, he, hp => by
    obtain ⟨h1, h2, h3⟩ := hc
    exact ⟨h1, fun _ => hp, fun n hn => by rw [he]; simpa using hn, by simp, trivial⟩
  | a :: pre, e, g, h, hc, he, hp => by
    obtain ⟨h1, h2, h3⟩ := hc
    refine ⟨h1, fun _ => h2 (by simp), ?_⟩
    exact Chn.snoc (pre := pre) h3 he hp

structure Good (segs : List Sg) : Prop where
  chain : Chn none segs
  recs : ∀ g ∈ segs, ∀ x ∈ g.2, OkR x
  top : ∀ g ∈ segs, sgN g ≤ 1000000

theorem Good.len {segs : List Sg} (h : Good segs) {g : Sg} (hg : g ∈ segs) : (sgB g).length ≤ g.2.length * 1048 := by
  have := h.top g hg
  unfold sgN at this
  exact UC g.1 g.2 (by unfold OkN; omega) (h.recs g hg)

theorem Good.aeg {segs : List Sg} (h : Good segs) {g : Sg} (hg : g ∈ segs) : (sgB g).length ≤ 1048000000 := by
  have h1 := h.len hg
  have h2 := h.top g hg
  unfold sgN at h2
  omega

abbrev Lie (σ : St) (j : Nat) (g : Sg) : Prop := σ.ae[j]? = some ((g.1 : Int), g.2, ((sgB g).length : Int), ())

structure LG (σ : St) (l d : Nat) (most : Int) (js : List Nat) (segs : List Sg) (safe : Nat) : Prop where
  lo : σ.ak[l]? = some (some d, nmL, most, js.map some, (safe : Int), ())
  nd : js.Nodup
  lie : dA (Lie σ) js segs

theorem dA.app {α β : Type} {R : α → β → Prop} : ∀ {a : List α} {b : List β} {a' : List α} {b' : List β}, dA R a b → dA R a' b' → dA R (a ++ a') (b ++ b')
  | [], [], _, _, _, h => h
  | _ :: _, _ :: _, _, _, ⟨h1, h2⟩, h => ⟨h1, dA.app h2 h⟩
  | [], _ :: _, _, _, h, _ => h.elim
  | _ :: _, [], _, _, h, _ => h.elim

theorem dA.split {α β : Type} {R : α → β → Prop} : ∀ {a : List α} {b : List β} {y : β}, dA R a (b ++ [y]) → ∃ a' x, a = a' ++ [x] ∧ dA R a' b ∧ R x y
  | [], b, y, h => by cases b <;> exact h.elim
  | x :: a, [], y, h => by
    obtain ⟨h1, h2⟩ := h
    cases a with
    | nil => exact ⟨[], x, rfl, trivial, h1⟩
    | cons _ _ => exact h2.elim
  | x :: a, z :: b, y, h => by
    obtain ⟨h1, h2⟩ := h
    obtain ⟨a', x', e, h3, h4⟩ := dA.split (b := b) h2
    exact ⟨x :: a', x', by rw [e]; rfl, ⟨h1, h3⟩, h4⟩

theorem dA.nth {α β : Type} {R : α → β → Prop} : ∀ {a : List α} {b : List β} (h : dA R a b) (i : Nat) (h1 : i < a.length) (h2 : i < b.length), R a[i] b[i]
  | [], _, _, i, h1, _ => by simp at h1
  | _ :: _, [], h, _, _, _ => h.elim
  | x :: a, y :: b, h, 0, _, _ => h.1
  | x :: a, y :: b, h, i + 1, h1, h2 => dA.nth h.2 i (by simpa using h1) (by simpa using h2)

theorem dA.len {α β : Type} {R : α → β → Prop} : ∀ {a : List α} {b : List β}, dA R a b → a.length = b.length
  | [], [], _ => rfl
  | _ :: _, _ :: _, ⟨_, h⟩ => by simp [dA.len h]
  | [], _ :: _, h => h.elim
  | _ :: _, [], h => h.elim

theorem dA.VE {α β : Type} {R S : α → β → Prop} : ∀ {a : List α} {b : List β}, dA R a b → (∀ x ∈ a, ∀ y, R x y → S x y) → dA S a b
  | [], [], _, _ => trivial
  | x :: _, y :: _, ⟨h1, h2⟩, h => ⟨h x List.mem_cons_self y h1, dA.VE h2 (fun z hz => h z (List.mem_cons_of_mem _ hz))⟩
  | [], _ :: _, h, _ => h.elim
  | _ :: _, [], h, _ => h.elim

section
variable {σ : St} {l d : Nat} {most : Int} {js : List Nat} {segs : List Sg} {safe : Nat}

theorem LG.same (h : LG σ l d most js segs safe) {σ' : St} (e : vI σ' = vI σ) : LG σ' l d most js segs safe := by
  have h1 : σ'.ak = σ.ak := congrArg (fun x => x.2.1) e
  have h2 : σ'.ae = σ.ae := congrArg (fun x => x.2.2) e
  refine ⟨by rw [h1]; exact h.lo, h.nd, h.lie.VE (fun j _ g hg => ?_)⟩
  show σ'.ae[j]? = _
  rw [h2]; exact hg

theorem LG.lt (h : LG σ l d most js segs safe) : ∀ j ∈ js, j < σ.ae.length := by
  intro j hj
  obtain ⟨i, hi, rfl⟩ := List.getElem_of_mem hj
  have hl := dA.len h.lie
  have := dA.nth h.lie i hi (by omega)
  exact (List.getElem?_eq_some_iff.1 this).1

theorem LG.split {pre : List Sg} {g : Sg} (h : LG σ l d most js (pre ++ [g]) safe) : ∃ jp j, js = jp ++ [j] ∧ dA (Lie σ) jp pre ∧ Lie σ j g :=
  dA.split h.lie

theorem MS (h : LG σ l d most js [] safe) : f97 (some l) σ = some none := by
  have : js = [] := by
    have := dA.len h.lie
    exact List.eq_nil_of_length_eq_zero (by simpa using this)
  subst this
  unfold f97
  simp [h.lo]

theorem MR {pre : List Sg} {g : Sg} (h : LG σ l d most js (pre ++ [g]) safe) (hl : pre.length < 1000000) {jp : List Nat} {j : Nat} (e : js = jp ++ [j]) : f97 (some l) σ = some (some j) := by
  subst e
  have hlen := dA.len h.lie
  simp only [List.length_append, List.length_cons, List.length_nil] at hlen
  unfold f97
  simp only [h.lo, Option.bind_eq_bind, Option.bind_some]
  rw [if_neg (by simp; omega)]
  have hw : IntKind.wrap .i64 ((((jp ++ [j]).map some).length : Int) - 1) = ((jp.length : Nat) : Int) := by
    simp only [List.length_map, List.length_append, List.length_cons, List.length_nil]
    rw [aP (by omega) (by omega)]; omega
  have hi : jp.length < ((jp ++ [j]).map some).length := by simp
  rw [hw, jO hi]
  simp

theorem Ug (hg : Good segs) : aK segs ≤ 1000000 := by
  rcases List.eq_nil_or_concat segs with rfl | ⟨pre, g, rfl⟩
  · simp [aK]
  · rw [List.concat_eq_append] at *
    rw [gV]
    exact hg.top g (by simp)

theorem DZ (h : LG σ l d most js segs safe) (hg : Good segs) (hl : segs.length ≤ 1000000) : f55 (some l) σ = some ((aK segs : Nat) : Int) := by
  rcases List.eq_nil_or_concat segs with rfl | ⟨pre, g, rfl⟩
  · have : js = [] := by
      have := dA.len h.lie
      exact List.eq_nil_of_length_eq_zero (by simpa using this)
    subst this
    unfold f55
    simp [h.lo, aK]
  · rw [List.concat_eq_append] at *
    obtain ⟨jp, j, e, h1, h2⟩ := h.split
    have e97 := MR h (by simp at hl; omega) e
    have ht := hg.top g (by simp)
    unfold sgN at ht
    unfold f55
    simp only [h.lo, e97, Option.isNone_some, Bool.false_eq_true, if_false, Option.bind_eq_bind, Option.bind_some]
    rw [if_neg (by rw [e]; simp; omega), h2]
    simp only [Option.bind_some]
    rw [gV, aP (by omega) (by omega)]
    unfold sgN
    congr 1

theorem Ri (h : LG σ l d most js segs safe) {j : Nat} {g : Int} {x : aA dW} (hj : σ.ae[j]? = some x) {n : Nat} (hx : x.1 = (n : Int)) (hn : n ≤ 1099511627776) : f98 (some l) (some j) σ = some (bP n) := by
  have hl := Jb hn
  unfold f98
  simp only [h.lo, hj, hx, ab9 n (by omega), Option.bind_eq_bind, Option.bind_some]
  rw [if_pos (by decide), if_pos (by simp; omega)]
  rfl

theorem Rj (h : LG σ l d most js segs safe) {j : Nat} {g : Sg} (hj : Lie σ j g) (hn : g.1 ≤ 1099511627776) : f98 (some l) (some j) σ = some (bP g.1) :=
  Ri (g := 0) h hj rfl hn

noncomputable def zV (segs : List Sg) : Nat := match segs with
  | [] => 0
  | g :: _ => g.1

theorem ZU (h : LG σ l d most js segs safe) : f54 (some l) σ = some ((zV segs : Nat) : Int) := by
  obtain ⟨lo, nd, lie⟩ := h
  cases segs with
  | nil =>
    cases js with
    | nil => unfold f54; simp [lo, zV]
    | cons _ _ => exact lie.elim
  | cons g r =>
    cases js with
    | nil => exact lie.elim
    | cons j jr =>
      obtain ⟨h1, h2⟩ := lie
      unfold f54
      simp only [lo, Option.isNone_some, Bool.false_eq_true, if_false, Option.bind_eq_bind, Option.bind_some]
      have hx : ix ((j :: jr).map some) 0 = some (some j) := by
        have := jO (l := (j :: jr).map some) (n := 0) (by simp)
        simpa using this
      rw [if_neg (by simp; omega), hx]
      simp only [Option.bind_some, h1]
      rfl

theorem Vr (h : LG σ l d most js segs safe) : f60 (some l) σ = some (safe : Int) := by
  unfold f60
  simp [h.lo]
end

noncomputable def lgF (g : Sg) (s : Nat) : FR := (bP g.1, iq g.1 (g.2.take s), iq (g.1 + s) (g.2.drop s), ())
noncomputable def lgA (g : Sg) : FR := (bP g.1, sgB g, [], ())

theorem RH (g : Sg) : lgF g g.2.length = lgA g := by simp [lgF, lgA, sgB, iq]

theorem PZ (g : Sg) {s : Nat} (hs : s ≤ g.2.length) : (lgF g s).2.1 ++ (lgF g s).2.2.1 = sgB g := by
  unfold lgF sgB
  simp only []
  have h1 : (g.2.take s).length = s := by rw [List.length_take]; omega
  have h2 := Bv g.1 (g.2.take s) (g.2.drop s)
  rw [h1, List.take_append_drop] at h2
  exact h2.symm

inductive DLs (L : List FR) : List Sg → Nat → Prop
  | none : L = [] → DLs L [] 0
  | some {pre : List Sg} {g : Sg} {s : Nat} : L.Perm (pre.map lgA ++ [lgF g s]) → s ≤ g.2.length → DLs L (pre ++ [g]) s

theorem DLs.inv {L : List FR} {pre : List Sg} {g : Sg} {s : Nat} (h : DLs L (pre ++ [g]) s) : L.Perm (pre.map lgA ++ [lgF g s]) ∧ s ≤ g.2.length := by
  generalize hs : pre ++ [g] = segs at h
  cases h with
  | none _ => simp at hs
  | some h1 h2 =>
    obtain ⟨rfl, e⟩ := List.append_inj' hs rfl
    simp only [List.cons.injEq, and_true] at e
    subst e
    exact ⟨h1, h2⟩

theorem DLs.inv0 {L : List FR} {s : Nat} (h : DLs L [] s) : L = [] ∧ s = 0 := by
  generalize hs : ([] : List Sg) = segs at h
  cases h with
  | none h => exact ⟨h, rfl⟩
  | some _ _ => simp at hs

noncomputable def Yt (x : List UInt8) : Option Int := if 5 < x.length ∧ x.take 5 = [99, 109, 100, 115, 46] then (f140 (x.drop 5)) >>= fun v => if 0 ≤ v then some v else none else none

theorem P8 {n : Nat} (hn : n ≤ 1099511627776) : Yt (bP n) = some (n : Int) := by
  unfold Yt
  have hp := Q3 n
  have e1 : (bP n).drop 5 = dig n := rfl
  have e2 : (bP n).take 5 = [99, 109, 100, 115, 46] := rfl
  have e3 : (bP n).length = (dig n).length + 5 := rfl
  rw [if_pos ⟨by omega, e2⟩, e1, TJ hn]
  simp only [Option.bind_eq_bind, Option.bind_some]
  rw [if_pos (by omega)]

section
variable {σ : St} {l d n0 : Nat} {A : AD}

theorem Pz {o : aA dD} (h : σ.ak[l]? = some o) (hnm : o.2.1 = nmL) (names : List (List UInt8)) (hN : ∀ x ∈ names, ∃ n : Nat, n ≤ 1099511627776 ∧ x = bP n) (hl : names.length ≤ 128) : ∀ (m i : Nat) (acc : List Int), i + m = names.length → acc.length ≤ i →
    dJ (some l) σ names acc (i : Int) = some (acc ++ (names.drop i).filterMap Yt, (names.length : Int))
  | 0, i, acc, hi, ha => by
    rw [dJ]
    have : i = names.length := by omega
    subst this
    simp
  | m + 1, i, acc, hi, ha => by
    rw [dJ]
    have hn : i < names.length := by omega
    have hw : IntKind.wrap .i64 ((i : Int) + 1) = ((i + 1 : Nat) : Int) := by rw [aP (by omega) (by omega)]; omega
    have hd : names.drop i = names[i] :: names.drop (i + 1) := by simp
    have h1 : ((i : Int) < (names.length : Int)) := by omega
    obtain ⟨n, hn1, hn2⟩ := hN names[i] (List.getElem_mem hn)
    have e4 : IntKind.wrap .i64 (((nmL.length : Nat) : Int) + 1) = 5 := by decide
    have t4 : Int.toNat 5 = 5 := rfl
    have hlen := EX hn1
    have hp := Q3 n
    have e1 : (bP n).drop 5 = dig n := rfl
    have e2 : (bP n).take 5 = [99, 109, 100, 115, 46] := rfl
    have e3 : (bP n).length = (dig n).length + 5 := rfl
    simp only [h1, decide_true, if_true, jO hn, Option.bind_eq_bind, Option.bind_some, h, hnm, e4, hw, hn2]
    rw [if_pos (by simp; omega), if_pos (by omega)]
    simp only [t4]
    rw [if_pos (by decide), e2]
    have e5 : nmL ++ [46] = ([99, 109, 100, 115, 46] : List UInt8) := rfl
    rw [e5, if_pos (by simp), if_pos (by omega), e1, DR, TJ hn1]
    simp only [Option.bind_some]
    rw [if_pos (by simp), if_pos (by omega), Pz h hnm names hN hl m (i + 1) (acc ++ [(n : Int)]) (by omega) (by simp; omega), hd, List.filterMap_cons, hn2, P8 hn1]
    simp

theorem UF {l l' : List Int} (h : l.Perm l') (hs : l'.Pairwise (· < ·)) : vC l = l' := by
  unfold vC
  have hp := (List.mergeSort_perm l (fun x y => decide (x ≤ y))).trans h
  refine hp.eq_of_pairwise (le := fun x y => x ≤ y) ?_ ?_ ?_
  · intro a b _ _ h1 h2; omega
  · have := List.pairwise_mergeSort (le := fun x y : Int => decide (x ≤ y)) (fun a b c h1 h2 => by simp only [decide_eq_true_eq] at *; omega) (fun a b => by simp only [Bool.or_eq_true, decide_eq_true_eq]; omega) l
    exact this.imp (fun h => by simpa using h)
  · exact hs.imp (fun h => by omega)

noncomputable def sW (segs : List Sg) : List Int := segs.map (fun g => (g.1 : Int))

theorem W9 {o : aA dD} (h : σ.ak[l]? = some o) (hnm : o.2.1 = nmL) (ho : o.1 = some d) (hD : DV σ d n0 A) (hA : OkA A) {segs : List Sg} (hN : (A.2.1.map (·.1)).Perm (segs.map (fun g => bP g.1))) (hg : Good segs) : jq (some l) σ = some (sW segs) := by
  obtain ⟨od, qs, hq⟩ := hD
  have hf := hA.files
  unfold jq
  simp only [h, ho, ZQ hq hA, Option.bind_eq_bind, Option.bind_some]
  have htop : ∀ g ∈ segs, g.1 ≤ 1099511627776 := fun g hg2 => by have := hg.top g hg2; unfold sgN at this; omega
  have hNn : ∀ x ∈ A.2.1.map (·.1), ∃ n : Nat, n ≤ 1099511627776 ∧ x = bP n := by
    intro x hx
    obtain ⟨g, hg2, rfl⟩ := List.mem_map.1 (hN.mem_iff.1 hx)
    exact ⟨g.1, htop g hg2, rfl⟩
  have e := Pz h hnm (A.2.1.map (·.1)) hNn (by simpa using hf) (A.2.1.map (·.1)).length 0 [] (by omega) (by simp)
  rw [show (((0 : Nat) : Int)) = (0 : Int) from rfl] at e
  rw [e]
  simp only [Option.bind_some, List.nil_append, List.drop_zero]
  have hlen : ((A.2.1.map (·.1)).filterMap Yt).length ≤ 128 := by
    refine Nat.le_trans (List.length_filterMap_le _ _) ?_
    simpa using hf
  rw [if_pos (by omega)]
  congr 1
  refine UF ?_ ?_
  · refine (hN.filterMap Yt).trans ?_
    have : ∀ r : List Sg, (∀ g ∈ r, g ∈ segs) → (r.map (fun g => bP g.1)).filterMap Yt = sW r := by
      intro r
      induction r with
      | nil => intro _; rfl
      | cons g r ih =>
        intro hr
        rw [List.map_cons, List.filterMap_cons, P8 (htop g (hr g List.mem_cons_self)), ih (fun x hx => hr x (List.mem_cons_of_mem _ hx))]
        rfl
    rw [this segs (fun g hg => hg)]
  · unfold sW
    rw [List.pairwise_map]
    exact hg.chain.rise.imp (fun h => by omega)
end
end Go.Proofs.YtbnmhjobnepajaaGreat.M


namespace Go.Proofs.YtbnmhjobnepajaaGreat.M

theorem Vj {s : List UInt8} {L : List FR} (h : ∀ f ∈ L, f.1 ≠ s) : kZ s L = L := by
  rw [oC, List.filter_eq_self]
  intro f hf; simpa using h f hf

theorem Q4 (s : List UInt8) (L L' : List FR) : kZ s (L ++ L') = kZ s L ++ kZ s L' := by
  rw [oC, oC, oC, List.filter_append]

theorem X5 {s : List UInt8} {L : List FR} (h : ∀ f ∈ L, f.1 = s) : kZ s L = [] := by
  rw [oC, List.filter_eq_nil_iff]
  intro f hf; simpa using h f hf

theorem zN {A : AD} (hA : OkA A) (hd : A.2.2.2.1 = false) (k : AD → AD) : ∃ B : AD, B.1 = A.1 ∧ B.2.1 = A.2.1 ∧ OkA B ∧ (A.2.2.1 = 0 → B.2.2.1 = 0) ∧
    ((B.2.2.2.1 = false ∧ xC A k = (0, k B)) ∨ (B.2.2.2.1 = true ∧ A.2.2.1 ≠ 0 ∧ xC A k = (11, B))) := by
  refine ⟨(wQ A).2, (Xe A).2, (Xe A).1, hA.goes, ?_, ?_⟩
  · intro h
    unfold wQ
    rw [if_pos h]; exact h
  · unfold xC wQ
    by_cases h : A.2.2.1 = 0
    · rw [if_pos h]
      exact .inl ⟨hd, by simp⟩
    · rw [if_neg h]
      by_cases h1 : A.2.2.1 = 1
      · exact .inr ⟨by simp [h1], h, by simp [h1]⟩
      · have e : ((A.2.2.1 == 1) : Bool) = false := by simpa using h1
        exact .inl ⟨by simp [e], by simp [e]⟩

abbrev kY (A : AD) : Bool := A.2.2.2.1
abbrev oZ (A : AD) : Int := A.2.2.1

end Go.Proofs.YtbnmhjobnepajaaGreat.M


namespace Go.Proofs.YtbnmhjobnepajaaGreat.M

structure Fw (σ σ' : St) (d n0 : Nat) : Prop where
  up : σ'.up = σ.up
  ah : ∀ i, i ≠ d → i < σ.ah.length → σ'.ah[i]? = σ.ah[i]?
  l105 : σ.ah.length ≤ σ'.ah.length
  aj : ∀ j, j < n0 → σ'.aj[j]? = σ.aj[j]?
  l108 : σ.aj.length ≤ σ'.aj.length

structure ExW (σ σ' : St) (l : Nat) : Prop where
  ak : ∀ i, i ≠ l → i < σ.ak.length → σ'.ak[i]? = σ.ak[i]?
  l128 : σ.ak.length ≤ σ'.ak.length
  ae : ∀ j, j < σ.ae.length → σ'.ae[j]? = σ.ae[j]?
  l130 : σ.ae.length ≤ σ'.ae.length

section
variable {σ : St} {l d n0 : Nat} {most : Int} {js : List Nat} {segs : List Sg} {safe s : Nat} {A : AD}

theorem ExW.trans {σ σ' σ'' : St} (h1 : ExW σ σ' l) (h2 : ExW σ' σ'' l) : ExW σ σ'' l :=
  ⟨fun i hi hl => (h2.ak i hi (Nat.lt_of_lt_of_le hl h1.l128)).trans (h1.ak i hi hl), Nat.le_trans h1.l128 h2.l128, fun j hj => (h2.ae j (Nat.lt_of_lt_of_le hj h1.l130)).trans (h1.ae j hj), Nat.le_trans h1.l130 h2.l130⟩
theorem ExW.of {σ' : St} (h1 : σ'.ak = σ.ak) (h2 : σ'.ae = σ.ae) : ExW σ σ' l := ⟨fun _ _ _ => by rw [h1], by rw [h1]; exact Nat.le_refl _, fun _ _ => by rw [h2], by rw [h2]; exact Nat.le_refl _⟩
theorem FrD.ex {σ' : St} (h : FrD σ σ' d n0) : ExW σ σ' l := ExW.of (congrArg (fun x => x.2.1) h.oth) (congrArg (fun x => x.2.2) h.oth)
theorem ExW.set (x : aA dD) : ExW σ (σ.bu l x) l := by
  refine ⟨fun i hi hl => ?_, by simp [St.bu], fun _ _ => rfl, Nat.le_refl _⟩
  simp only [St.bu]
  rw [List.getElem?_set_ne (Ne.symm hi)]
theorem ExW.add (x : aA dW) : ExW σ (σ.az x) l := by
  refine ⟨fun i hi hl => rfl, Nat.le_refl _, fun j hj => ?_, by simp [St.az]⟩
  simp only [St.az]
  rw [List.getElem?_append_left hj]
theorem Fw.trans {σ σ' σ'' : St} (h1 : Fw σ σ' d n0) (h2 : Fw σ' σ'' d n0) : Fw σ σ'' d n0 :=
  ⟨h2.up.trans h1.up, fun i hi hl => (h2.ah i hi (Nat.lt_of_lt_of_le hl h1.l105)).trans (h1.ah i hi hl), Nat.le_trans h1.l105 h2.l105, fun j hj => (h2.aj j hj).trans (h1.aj j hj), Nat.le_trans h1.l108 h2.l108⟩
theorem FrD.fw {σ σ' : St} (h : FrD σ σ' d n0) : Fw σ σ' d n0 := ⟨h.up, h.ah, h.l105, h.aj, h.l108⟩
theorem Fw.of {σ' : St} (h1 : σ'.up = σ.up) (h2 : σ'.ah = σ.ah) (h3 : σ'.aj = σ.aj) : Fw σ σ' d n0 :=
  ⟨h1, fun i _ _ => by rw [h2], by rw [h2]; exact Nat.le_refl _, fun i _ => by rw [h3], by rw [h3]; exact Nat.le_refl _⟩
theorem LG.put (h : LG σ l d most js segs safe) (n : Nat) : LG (σ.bu l (some d, nmL, most, js.map some, (n : Int), ())) l d most js segs n :=
  ⟨qU h.lo, h.nd, h.lie⟩

theorem LG.add (h : LG σ l d most js segs safe) (x : aA dW) : LG (σ.az x) l d most js segs safe := by
  refine ⟨h.lo, h.nd, h.lie.VE (fun j hj g hg => ?_)⟩
  show (σ.ae ++ [x])[j]? = _
  rw [List.getElem?_append_left (h.lt j hj)]; exact hg

theorem LG.link (h : LG σ l d most js segs safe) {j : Nat} {g : Sg} (hj : Lie σ j g) (hn : j ∉ js) : LG (σ.bu l (some d, nmL, most, js.map some ++ [some j], (safe : Int), ())) l d most (js ++ [j]) (segs ++ [g]) safe := by
  refine ⟨?_, ?_, ?_⟩
  · rw [List.map_append]; exact qU h.lo
  · rw [List.nodup_append]
    refine ⟨h.nd, by simp, fun a ha b hb e => ?_⟩
    simp only [List.mem_cons, List.not_mem_nil, or_false] at hb
    rw [e, hb] at ha
    exact hn ha
  · exact dA.app h.lie (show dA _ [j] [g] from ⟨hj, trivial⟩)

theorem Oh {x y : aA dW} : (σ.az x).ay σ.ae.length y = σ.az y := by
  unfold St.ay St.az
  simp

noncomputable def kS (segs : List Sg) : Nat := match segs.getLast? with
  | none => 0
  | some g => g.2.length

theorem qC (pre : List Sg) (g : Sg) : kS (pre ++ [g]) = g.2.length := by simp [kS]

theorem Good.XC (hg : Good segs) {g : Sg} (h : g ∈ segs) : g.1 ≤ 1099511627776 := by
  have := hg.top g h
  unfold sgN at this; omega

theorem Rn {pre : List Sg} {g : Sg} (h : Chn none (pre ++ [g])) : ∀ f ∈ pre.map lgA, f.1 ≠ bP g.1 := by
  intro f hf
  obtain ⟨a, ha, rfl⟩ := List.mem_map.1 hf
  have := (List.pairwise_append.1 h.rise).2.2 a ha g (by simp)
  intro e
  exact Nat.ne_of_lt this (PL e)

theorem Jn {L : List FR} {pre : List Sg} {g : Sg} {f : FR} (hL : L.Perm (pre.map lgA ++ [f])) (hf : f.1 = bP g.1) (hs : rG L) : kF (bP g.1) L = some f :=
  Ht hs (hL.mem_iff.2 (by simp)) hf

theorem Nz {L : List FR} {pre : List Sg} {g : Sg} {f f' : FR} (hL : L.Perm (pre.map lgA ++ [f])) (hf : f.1 = bP g.1) (hf' : f'.1 = bP g.1) (hc : Chn none (pre ++ [g])) : (nS f' false L).Perm (pre.map lgA ++ [f']) := by
  refine (oM f' L).trans ?_
  rw [hf']
  have h1 := zA (s := bP g.1) hL
  rw [Q4, Vj (Rn hc), X5 (L := [f]) (fun x hx => by simp only [List.mem_cons, List.not_mem_nil, or_false] at hx; rw [hx]; exact hf), List.append_nil] at h1
  exact (List.Perm.cons f' h1).trans (List.perm_append_comm (l₁ := [f']))

theorem Vs (h : LG σ l d most js segs safe) (hD : DV σ d n0 A) (hA : OkA A) (hg : Good segs) (hlen : segs.length ≤ 1000000) (hL : DLs A.2.1 segs s) (hd : kY A = false) :
    ∃ σ' B e, f61 (some l) σ = some (e, σ') ∧ Fw σ σ' d n0 ∧ ExW σ σ' l ∧ B.1 = A.1 ∧ (oZ A = 0 → oZ B = 0) ∧ DV σ' d n0 B ∧ OkA B ∧
      ((e = 0 ∧ kY B = false ∧ LG σ' l d most js segs (aK segs) ∧ DLs B.2.1 segs (kS segs)) ∨ (e = 11 ∧ kY B = true ∧ oZ A ≠ 0 ∧ LG σ' l d most js segs safe ∧ DLs B.2.1 segs s)) := by
  rcases List.eq_nil_or_concat segs with rfl | ⟨pre, g, rfl⟩
  · obtain ⟨h1, h2⟩ := hL.inv0
    refine ⟨σ.bu l (some d, nmL, most, js.map some, ((aK [] : Nat) : Int), ()), A, 0, ?_, Fw.of rfl rfl rfl, ExW.set _, rfl, id, hD.same rfl rfl, hA, .inl ⟨rfl, hd, h.put _, ?_⟩⟩
    · unfold f61
      have hlo := h.lo
      simp only [Option.isNone_some, Bool.false_eq_true, if_false, MS h, DZ h hg hlen, hlo, Option.bind_eq_bind, Option.bind_some]
      rw [if_neg (by simp)]
    · rw [h1]; exact .none rfl
  · rw [List.concat_eq_append] at *
    obtain ⟨hp, hs⟩ := hL.inv
    obtain ⟨jp, j, e, h1, h2⟩ := h.split
    have htop := hg.XC (g := g) (by simp)
    obtain ⟨σ1, g1, g2, g3⟩ := ado hD hA (bP g.1)
    have hfd := Jn hp rfl hA.sorted
    have e0 : Oo A (bP g.1) = xC A (fun B => qR B (nS (EJ (bP g.1) (lgF g s)) false B.2.1)) := by
      unfold Oo Qm
      rw [if_neg (by rw [show A.2.2.2.1 = false from hd]; decide), hfd]
    have hsf : EJ (bP g.1) (lgF g s) = lgF g g.2.length := by
      rw [RH]
      unfold EJ lgA
      rw [PZ g hs]
    have hlo := h.lo
    have e1 : f61 (some l) σ = some (if (Oo A (bP g.1)).1 = 0 then (0, σ1.bu l (some d, nmL, most, js.map some, ((aK (pre ++ [g]) : Nat) : Int), ())) else ((Oo A (bP g.1)).1, σ1)) := by
      have h' := h.same g3.oth
      have hlo' := h'.lo
      unfold f61
      simp only [Option.isNone_some, Bool.false_eq_true, if_false, MR h (by simp at hlen; omega) e, hlo, Rj h h2 htop, g1, Option.bind_eq_bind, Option.bind_some, Bool.not_false, if_true]
      by_cases c : (Oo A (bP g.1)).1 = 0
      · rw [if_neg (by simp [c]), if_pos c, DZ h' hg hlen]
        simp only [Option.bind_some, hlo']
      · rw [if_pos (by simpa using c), if_neg c]
    obtain ⟨B, b1, b2, b3, b4, ⟨b5, b6⟩ | ⟨b5, b6, b7⟩⟩ := zN hA hd (fun B => qR B (nS (EJ (bP g.1) (lgF g s)) false B.2.1))
    · rw [e0, b6] at g2 e1
      refine ⟨σ1.bu l (some d, nmL, most, js.map some, ((aK (pre ++ [g]) : Nat) : Int), ()), qR B (nS (EJ (bP g.1) (lgF g s)) false B.2.1), 0, by rw [e1]; rfl, g3.fw.trans (Fw.of rfl rfl rfl), g3.ex.trans (ExW.set _), b1, b4, g2.same rfl rfl, ?_, .inl ⟨rfl, b5, (h.same g3.oth).put _, ?_⟩⟩
      · refine b3.put (f := lgF g s) (s := bP g.1) (by rw [b2]; exact hfd) rfl ?_
        simp [iM, EJ]
      · show DLs (nS (EJ (bP g.1) (lgF g s)) false B.2.1) (pre ++ [g]) (kS (pre ++ [g]))
        rw [b2, hsf, qC]
        exact .some (Nz hp rfl rfl hg.chain) (Nat.le_refl _)
    · rw [e0, b7] at g2 e1
      exact ⟨σ1, B, 11, by rw [e1]; rfl, g3.fw, g3.ex, b1, b4, g2, b3, .inr ⟨rfl, b5, b6, h.same g3.oth, by rw [b2]; exact .some hp hs⟩⟩

theorem ab8 (h : LG σ l d most js segs safe) (hD : DV σ d n0 A) (hA : OkA A) {g : Sg} {t : List UInt8} (hr : readA A (bP g.1) = (sgB g ++ t, 0)) (ht : G5 (sgN g) t) (hx : ∀ x ∈ g.2, OkR x) (hn : sgN g ≤ 1000000) :
    f115 (some l) (g.1 : Int) σ = some ((some σ.ae.length, (t.length : Int), 0), σ.az ((g.1 : Int), g.2, ((sgB g).length : Int), ())) := by
  unfold sgN at hn ht
  have h1 := h.add ((g.1 : Int), [], 0, ())
  obtain ⟨o, qs, hq⟩ := hD
  have e28 := adl (hq.same (σ' := σ.az ((g.1 : Int), [], 0, ())) rfl rfl) hA (bP g.1)
  have e98 := Ri (g := 0) h1 (j := σ.ae.length) oG (n := g.1) rfl (by omega)
  have hl := hA.each
  have hlen : (sgB g ++ t).length ≤ 65536 := by
    unfold readA at hr
    split at hr
    · simp at hr
    · split at hr
      · simp at hr
      · rename_i f hf
        simp only [Prod.mk.injEq, and_true] at hr
        have := hA.each f (sV hf).1
        unfold iM at this
        rw [← hr]; simp only [List.length_append]; omega
  have e49 := adr (s := sgB g ++ t) (f := g.1) (recs := g.2) (t := t) (by omega) rfl (by unfold OkN; omega) hx ht
  have hlo : (σ.az ((g.1 : Int), [], 0, ())).ak[l]? = some (some d, nmL, most, js.map some, (safe : Int), ()) := h1.lo
  unfold f115
  simp only [hlo, e98, e28, hr, Option.bind_eq_bind, Option.bind_some]
  rw [if_neg (by simp), e49]
  simp only [Option.bind_some]
  rw [Oh, Oh]
  have hw : IntKind.wrap .i64 (((sgB g ++ t).length : Int) - ((iq g.1 g.2).length : Int)) = (t.length : Int) := by
    have : (sgB g ++ t).length = (iq g.1 g.2).length + t.length := by rw [List.length_append]; rfl
    rw [this, aP (by omega) (by omega)]; omega
  rw [hw]
  rfl

theorem TP (done : List Sg) (r3 : List Int) (x7 x8 : Int) (h : LG σ l d most js done safe) (hD : DV σ d n0 A) (hA : OkA A) {g : Sg} {t : List UInt8} (hi : r3[done.length]? = some (g.1 : Int)) (h7 : done ≠ [] → x7 = 0 ∧ aK done = g.1) (hgd : Good done) (hdl : done.length ≤ 1000)
    (hr : readA A (bP g.1) = (sgB g ++ t, 0)) (ht : G5 (sgN g) t) (hx : ∀ x ∈ g.2, OkR x) (hn : sgN g ≤ 1000000) :
    ∃ σ', rC (some l) r3 x7 x8 ((done.length : Nat) : Int) σ = rC (some l) r3 (t.length : Int) (((done ++ [g]).length : Nat) : Int) (((done ++ [g]).length : Nat) : Int) σ' ∧ LG σ' l d most (js ++ [σ.ae.length]) (done ++ [g]) safe ∧ σ'.ah = σ.ah ∧ σ'.aj = σ.aj ∧ σ'.up = σ.up ∧ ExW σ σ' l := by
  have hlt := (List.getElem?_eq_some_iff.1 hi).1
  have hget := (List.getElem?_eq_some_iff.1 hi).2
  have e115 := ab8 h hD hA hr ht hx hn
  have h1 := h.add ((g.1 : Int), g.2, ((sgB g).length : Int), ())
  have hnj : σ.ae.length ∉ js := fun hm => by have := h.lt _ hm; omega
  have h2 := h1.link (j := σ.ae.length) (g := g) oG hnj
  have hjl := dA.len h.lie
  have hlo : (σ.az ((g.1 : Int), g.2, ((sgB g).length : Int), ())).ak[l]? = some (some d, nmL, most, js.map some, (safe : Int), ()) := h1.lo
  have hw : IntKind.wrap .i64 ((done.length : Int) + 1) = (((done ++ [g]).length : Nat) : Int) := by rw [aP (by omega) (by omega)]; simp
  refine ⟨_, ?_, h2, rfl, rfl, rfl, (ExW.add _).trans (ExW.set _)⟩
  conv => lhs; rw [rC]
  rw [if_pos (by simp; omega), jO hlt, hget]
  simp only [Option.bind_eq_bind, Option.bind_some]
  by_cases c : done = []
  · subst c
    rw [if_neg (by simp), e115]
    simp only [Option.bind_some]
    rw [if_neg (by simp)]
    simp only [Option.bind_some, hlo, hw]
    rw [if_pos (by rw [List.length_map]; omega)]
  · obtain ⟨h3, h4⟩ := h7 c
    subst h3
    have hpos : 0 < done.length := List.length_pos_iff.2 c
    rw [if_pos (by simp; omega), if_neg (by simp), DZ h hgd (by omega), h4]
    simp only [Option.bind_some]
    rw [if_neg (by simp), e115]
    simp only [Option.bind_some]
    rw [if_neg (by simp)]
    simp only [Option.bind_some, hlo, hw]
    rw [if_pos (by rw [List.length_map]; omega)]
end
end Go.Proofs.YtbnmhjobnepajaaGreat.M


namespace Go.Proofs.YtbnmhjobnepajaaGreat.M

theorem Chn.aaS : ∀ {a b : List Sg} {e : Option Nat}, Chn e (a ++ b) → Chn e a
  | [], _, _, _ => trivial
  | g :: a, b, e, h => by
    obtain ⟨h1, h2, h3⟩ := h
    refine ⟨h1, fun hn => h2 (fun he => hn ?_), Chn.aaS h3⟩
    exact (List.append_eq_nil_iff.1 he).1

theorem Chn.next : ∀ {pre : List Sg} {b a : Sg} {r : List Sg} {e : Option Nat}, Chn e (pre ++ [b] ++ a :: r) → sgN b = a.1
  | [], b, a, r, e, h => by
    obtain ⟨h1, h2, h3⟩ := h
    exact (h3.1 _ rfl).symm
  | c :: pre, b, a, r, e, h => Chn.next (pre := pre) h.2.2

theorem Good.aaS {a b : List Sg} (h : Good (a ++ b)) : Good a :=
  ⟨h.chain.aaS, fun g hg => h.recs g (List.mem_append.2 (.inl hg)), fun g hg => h.top g (List.mem_append.2 (.inl hg))⟩

noncomputable def vG (g : Sg) (t : List UInt8) : FR := (bP g.1, sgB g ++ t, [], ())

section
variable {σ : St} {l d n0 : Nat} {most : Int} {js : List Nat} {segs : List Sg} {safe s : Nat} {A : AD}

theorem PI {g : Sg} {t : List UInt8} (ht : G5 (sgN g) t) (hA : OkA A) : ∀ (mid done : List Sg) (js : List Nat) (σ : St) (x7 x8 : Int), LG σ l d most js done safe → DV σ d n0 A → (done ≠ [] → x7 = 0) → Good (done ++ (mid ++ [g])) → (done ++ (mid ++ [g])).length ≤ 1000 →
    (∀ a ∈ mid, readA A (bP a.1) = (sgB a, 0)) → readA A (bP g.1) = (sgB g ++ t, 0) →
    ∃ σ' js', rC (some l) (sW (done ++ (mid ++ [g]))) x7 x8 ((done.length : Nat) : Int) σ = some (.inl ((t.length : Int), (((done ++ (mid ++ [g])).length : Nat) : Int), (((done ++ (mid ++ [g])).length : Nat) : Int), σ')) ∧ LG σ' l d most js' (done ++ (mid ++ [g])) safe ∧ σ'.ah = σ.ah ∧ σ'.aj = σ.aj ∧ σ'.up = σ.up ∧ ExW σ σ' l
  | [], done, js, σ, x7, x8, h, hD, h7, hg, hlen, hm, hr => by
    rw [List.nil_append] at *
    have hgm : g ∈ done ++ [g] := by simp
    obtain ⟨σ', e, h1, h2, h3, h4, h5⟩ := TP (t := t) done (sW (done ++ [g])) x7 x8 h hD hA (g := g) (by simp [sW]) (fun hn => ⟨h7 hn, by
      rcases List.eq_nil_or_concat done with rfl | ⟨pre, b, rfl⟩
      · exact absurd rfl hn
      · rw [List.concat_eq_append] at *
        rw [gV]; exact hg.chain.next⟩) hg.aaS (by simp at hlen; omega) hr ht (hg.recs g hgm) (hg.top g hgm)
    refine ⟨σ', _, ?_, h1, h2, h3, h4, h5⟩
    rw [e, rC]
    rw [if_neg (by simp [sW])]
  | a :: mid, done, js, σ, x7, x8, h, hD, h7, hg, hlen, hm, hr => by
    have ham : a ∈ done ++ (a :: mid ++ [g]) := by simp
    have hgood : Good done := hg.aaS
    have hr1 : readA A (bP a.1) = (sgB a ++ [], 0) := by rw [List.append_nil]; exact hm a List.mem_cons_self
    obtain ⟨σ1, e, h1, h2, h3, h4, h5⟩ := TP (t := []) done (sW (done ++ (a :: mid ++ [g]))) x7 x8 h hD hA (g := a) (by simp [sW]) (fun hn => ⟨h7 hn, by
      rcases List.eq_nil_or_concat done with rfl | ⟨pre, b, rfl⟩
      · exact absurd rfl hn
      · rw [List.concat_eq_append] at *
        rw [gV]; exact hg.chain.next⟩) hgood (by simp at hlen; omega) hr1 (G5.nil _) (hg.recs a ham) (hg.top a ham)
    have ea : done ++ (a :: mid ++ [g]) = (done ++ [a]) ++ (mid ++ [g]) := by simp
    rw [ea] at e hg hlen ⊢
    obtain ⟨σ', js', i1, i2, i3, i4, i5, i6⟩ := PI ht hA mid (done ++ [a]) _ σ1 0 (((done ++ [a]).length : Nat) : Int) h1 (hD.same h2 h3) (fun _ => rfl) hg hlen (fun x hx => hm x (List.mem_cons_of_mem _ hx)) hr
    refine ⟨σ', js', ?_, i2, i3.trans h2, i4.trans h3, i5.trans h4, h5.trans i6⟩
    rw [e]; exact i1

theorem MQ {p0 : Option Nat} {r3 : List Int} {z : Int × Int × Int × St} {o : aA dD} {x : Int} (h : x < z.2.1) : BI p0 r3 z o x σ = some (.inl (x, σ)) := by
  rw [BI]
  rw [if_neg (by simp; omega)]

theorem V7 {L : List FR} {pre : List Sg} {g : Sg} {t : List UInt8} (hp : A.2.1.Perm (pre.map lgA ++ [vG g t])) (hA : OkA A) (hd : kY A = false) :
    (∀ a ∈ pre, readA A (bP a.1) = (sgB a, 0)) ∧ readA A (bP g.1) = (sgB g ++ t, 0) := by
  have hdd : A.2.2.2.1 = false := hd
  refine ⟨fun a ha => ?_, ?_⟩
  · have hf : kF (bP a.1) A.2.1 = some (lgA a) := Ht hA.sorted (hp.mem_iff.2 (List.mem_append.2 (.inl (List.mem_map.2 ⟨a, ha, rfl⟩)))) rfl
    unfold readA
    rw [if_neg (by rw [hdd]; decide), hf]
    simp [lgA]
  · have hf : kF (bP g.1) A.2.1 = some (vG g t) := Ht hA.sorted (hp.mem_iff.2 (by simp)) rfl
    unfold readA
    rw [if_neg (by rw [hdd]; decide), hf]
    simp [vG]

theorem adz {pre : List Sg} {g : Sg} {t : List UInt8} (h : LG σ l d most [] [] 0) (hD : DV σ d n0 A) (hA : OkA A) (hd : kY A = false) (h0 : oZ A = 0) (hg : Good (pre ++ [g])) (hlen : (pre ++ [g]).length ≤ 1000) (ht : G5 (sgN g) t) (hp : A.2.1.Perm (pre.map lgA ++ [vG g t])) :
    ∃ σ' B js', f96 (some l) σ = some (0, σ') ∧ Fw σ σ' d n0 ∧ ExW σ σ' l ∧ B.1 = A.1 ∧ oZ B = 0 ∧ kY B = false ∧ DV σ' d n0 B ∧ OkA B ∧ LG σ' l d most js' (pre ++ [g]) (aK (pre ++ [g])) ∧ DLs B.2.1 (pre ++ [g]) (kS (pre ++ [g])) := by
  have hlo := h.lo
  obtain ⟨r1, r2⟩ := V7 (L := []) hp hA hd
  have e114 := W9 (o := (some d, nmL, most, ([] : List Nat).map some, (((0 : Nat) : Nat) : Int), ())) hlo rfl rfl hD hA (segs := pre ++ [g]) (by
    refine (hp.map _).trans ?_
    rw [List.map_append, List.map_append, List.map_map]
    exact List.Perm.refl _) hg
  obtain ⟨σ1, js1, i1, i2, i3, i4, i5, i6⟩ := PI ht hA pre [] [] σ 0 0 h hD (by simp) hg hlen r1 r2
  rw [List.nil_append] at i1 i2
  have i1' : rC (some l) (sW (pre ++ [g])) 0 0 0 σ = some (.inl ((t.length : Int), (((pre ++ [g]).length : Nat) : Int), (((pre ++ [g]).length : Nat) : Int), σ1)) := i1
  have hlo1 := i2.lo
  have hD1 : DV σ1 d n0 A := hD.same i3 i4
  have hfw1 : Fw σ σ1 d n0 := Fw.of i5 i3 i4
  obtain ⟨jp, j, ej, l1, l2⟩ := i2.split
  have htop := hg.XC (g := g) (by simp)
  have hlB := hg.aeg (g := g) (by simp)
  have hl1 : IntKind.wrap .i64 (((sW (pre ++ [g])).length : Int) - 1) = ((pre.length : Nat) : Int) := by
    simp only [sW, List.length_map, List.length_append, List.length_cons, List.length_nil] at hlen ⊢
    rw [aP (by omega) (by omega)]; omega
  have hw1 : IntKind.wrap .i64 ((((pre ++ [g]).length : Nat) : Int) - 1) = ((pre.length : Nat) : Int) := by
    simp only [List.length_append, List.length_cons, List.length_nil] at hlen ⊢
    rw [aP (by omega) (by omega)]; omega
  have hjl : jp.length = pre.length := dA.len l1
  have hix : ix (js1.map some) ((pre.length : Nat) : Int) = some (some j) := by
    rw [ej, ← hjl]
    have hi : jp.length < ((jp ++ [j]).map some).length := by simp
    rw [jO hi]; simp
  have common : f96 (some l) σ = (if (decide ((t.length : Int) > 0)) = true then
      f98 (some l) (some j) σ1 >>= fun r79 => (σ1.ae[j]?) >>= fun o81 => f35 (some d) r79 o81.2.2.1 σ1 >>= fun r82 => if (r82.1 != 0) = true then some (r82.1, r82.2) else f61 (some l) r82.2 >>= fun r86 => some (r86.1, r86.2)
    else f61 (some l) σ1 >>= fun r88 => some (r88.1, r88.2)) := by
    unfold f96
    rw [e114]
    simp only [Option.bind_eq_bind, Option.bind_some]
    rw [i1']
    simp only [Option.bind_some, hlo1]
    rw [hl1, MQ (by simp; omega)]
    simp only [Option.bind_some, hlo1]
    rw [if_neg (by simp; omega), hw1, hix]
    rfl
  -- torn or not: the files are whole then
  have fin : ∀ (σ2 : St) (A2 : AD), LG σ2 l d most js1 (pre ++ [g]) 0 → DV σ2 d n0 A2 → OkA A2 → kY A2 = false → oZ A2 = 0 → A2.2.1.Perm (pre.map lgA ++ [lgA g]) → A2.1 = A.1 → Fw σ σ2 d n0 → ExW σ σ2 l →
      ∃ σ' B, f61 (some l) σ2 = some (0, σ') ∧ Fw σ σ' d n0 ∧ ExW σ σ' l ∧ B.1 = A.1 ∧ oZ B = 0 ∧ kY B = false ∧ DV σ' d n0 B ∧ OkA B ∧ LG σ' l d most js1 (pre ++ [g]) (aK (pre ++ [g])) ∧ DLs B.2.1 (pre ++ [g]) (kS (pre ++ [g])) := by
    intro σ2 A2 k1 k2 k3 k4 k5 k6 k7 k8 k9
    have hdl : DLs A2.2.1 (pre ++ [g]) g.2.length := .some (by rw [RH]; exact k6) (Nat.le_refl _)
    obtain ⟨σ', B, e, f1, f2, f2x, f3, f4, f5, f6, ⟨rfl, f7, f8, f9⟩ | ⟨_, _, f7, _⟩⟩ := Vs k1 k2 k3 hg (by omega) hdl k4
    · exact ⟨σ', B, f1, k8.trans f2, k9.trans f2x, f3.trans k7, f4 k5, f7, f5, f6, f8, f9⟩
    · exact absurd k5 f7
  by_cases c : t = []
  · subst c
    obtain ⟨σ', B, f1, f2⟩ := fin σ1 A i2 hD1 hA hd h0 (by
      have : vG g [] = lgA g := by simp [vG, lgA]
      rw [← this]; exact hp) rfl hfw1 i6
    refine ⟨σ', B, js1, ?_, f2⟩
    rw [common, if_neg (by simp), f1]
    rfl
  · have hpos : 0 < t.length := List.length_pos_iff.2 c
    obtain ⟨σ2, g1, g2, g3⟩ := adq hD1 hA (bP g.1) ((sgB g).length : Int)
    have hfd := Jn hp rfl hA.sorted
    have e0 : Sz A (bP g.1) ((sgB g).length : Int) = xC A (fun B => qR B (nS (Ja (bP g.1) (vG g t) (sgB g).length) false B.2.1)) := by
      unfold Sz Qm
      rw [if_neg (by rw [show A.2.2.2.1 = false from hd]; decide), hfd]
      simp only []
      have hsz : iM (vG g t) = (sgB g).length + t.length := by simp [iM, vG]
      rw [if_neg (by rw [hsz]; omega)]
      have : Int.toNat ((sgB g).length : Int) = (sgB g).length := by omega
      rw [this]
    have hcut : Ja (bP g.1) (vG g t) (sgB g).length = lgA g := by
      unfold Ja vG lgA
      rw [if_pos (by simp)]
      simp
    obtain ⟨B, b1, b2, b3, b4, ⟨b5, b6⟩ | ⟨b5, b6, b7⟩⟩ := zN hA hd (fun B => qR B (nS (Ja (bP g.1) (vG g t) (sgB g).length) false B.2.1))
    case inr => exact absurd h0 b6
    rw [e0, b6] at g1 g2
    have hok : OkA (qR B (nS (Ja (bP g.1) (vG g t) (sgB g).length) false B.2.1)) := by
      refine b3.put (f := vG g t) (s := bP g.1) (by rw [b2]; exact hfd) (by rw [hcut]; rfl) ?_
      rw [hcut]; simp [iM, lgA, vG]
    obtain ⟨σ', B2, f1, f2⟩ := fin σ2 _ (i2.same g3.oth) g2 hok b5 (b4 h0) (by
      show (nS (Ja (bP g.1) (vG g t) (sgB g).length) false B.2.1).Perm _
      rw [b2, hcut]
      exact Nz hp rfl rfl hg.chain) b1 (hfw1.trans g3.fw) (i6.trans g3.ex)
    refine ⟨σ', B2, js1, ?_, f2⟩
    rw [common, if_pos (by simpa using hpos), Rj i2 l2 htop]
    simp only [Option.bind_eq_bind, Option.bind_some, l2]
    rw [g1]
    simp only [Option.bind_some]
    rw [if_neg (by simp), f1]
    rfl

theorem Z5 (h : LG σ l d most [] [] 0) (hD : DV σ d n0 A) (hA : OkA A) (hL : A.2.1 = []) : f96 (some l) σ = some (0, σ) := by
  have hlo := h.lo
  have e114 := W9 (o := (some d, nmL, most, ([] : List Nat).map some, (((0 : Nat) : Nat) : Int), ())) hlo rfl rfl hD hA (segs := []) (by rw [hL]; exact List.Perm.refl _) ⟨trivial, by simp, by simp⟩
  unfold f96
  rw [e114]
  simp only [Option.bind_eq_bind, Option.bind_some]
  have e1 : rC (some l) (sW []) 0 0 0 σ = some (.inl (0, 0, 0, σ)) := by
    rw [rC]
    rw [if_neg (by simp [sW])]
  rw [e1]
  simp only [Option.bind_some, hlo]
  rw [MQ (by simp [sW]; decide)]
  simp

theorem ZT (hD : DV σ d n0 A) (hd : kY A = false) (h1 : 64 ≤ most) (h2 : most ≤ 65536) : f53 (some d) nmL most σ = f96 (some σ.ak.length) (σ.iG (some d, nmL, most, [], 0, ())) >>= fun r15 => if (r15.1 != 0) = true then some ((none, r15.1), r15.2) else some ((some σ.ak.length, 0), r15.2) := by
  obtain ⟨o, qs, hq⟩ := hD
  unfold f53
  simp only [Option.isNone_some, Bool.false_eq_true, if_false, acb, adm hq, show A.2.2.2.1 = false from hd, Option.bind_eq_bind, Option.bind_some]
  rw [if_neg (by simp; omega)]

theorem LG.new (σ : St) (d : Nat) (most : Int) : LG (σ.iG (some d, nmL, most, [], 0, ())) σ.ak.length d most [] [] 0 :=
  ⟨TW, List.nodup_nil, trivial⟩

theorem ExW.iG (x : aA dD) : ExW σ (σ.iG x) σ.ak.length := by
  refine ⟨fun i hi hl => ?_, by simp [St.iG], fun _ _ => rfl, Nat.le_refl _⟩
  simp only [St.iG]
  rw [List.getElem?_append_left hl]

theorem P9 (hD : DV σ d n0 A) (hA : OkA A) (hd : kY A = false) (hL : A.2.1 = []) (h1 : 64 ≤ most) (h2 : most ≤ 65536) :
    ∃ σ', f53 (some d) nmL most σ = some ((some σ.ak.length, 0), σ') ∧ Fw σ σ' d n0 ∧ ExW σ σ' σ.ak.length ∧ DV σ' d n0 A ∧ LG σ' σ.ak.length d most [] [] 0 := by
  refine ⟨σ.iG (some d, nmL, most, [], 0, ()), ?_, Fw.of rfl rfl rfl, ExW.iG _, hD.same rfl rfl, LG.new σ d most⟩
  rw [ZT hD hd h1 h2, Z5 (LG.new σ d most) (hD.same rfl rfl) hA hL]
  rfl

theorem Yu {pre : List Sg} {g : Sg} {t : List UInt8} (hD : DV σ d n0 A) (hA : OkA A) (hd : kY A = false) (h0 : oZ A = 0) (hg : Good (pre ++ [g])) (hlen : (pre ++ [g]).length ≤ 1000) (ht : G5 (sgN g) t) (hp : A.2.1.Perm (pre.map lgA ++ [vG g t])) (h1 : 64 ≤ most) (h2 : most ≤ 65536) :
    ∃ σ' B js', f53 (some d) nmL most σ = some ((some σ.ak.length, 0), σ') ∧ Fw σ σ' d n0 ∧ ExW σ σ' σ.ak.length ∧ B.1 = A.1 ∧ oZ B = 0 ∧ kY B = false ∧ DV σ' d n0 B ∧ OkA B ∧ LG σ' σ.ak.length d most js' (pre ++ [g]) (aK (pre ++ [g])) ∧ DLs B.2.1 (pre ++ [g]) (kS (pre ++ [g])) := by
  obtain ⟨σ', B, js', e, f1, f1x, f2⟩ := adz (LG.new σ d most) (hD.same rfl rfl) hA hd h0 hg hlen ht hp
  refine ⟨σ', B, js', ?_, (Fw.of rfl rfl rfl : Fw σ (σ.iG (some d, nmL, most, [], 0, ())) d n0).trans f1, (ExW.iG _).trans f1x, f2⟩
  rw [ZT hD hd h1 h2, e]
  rfl
end
end Go.Proofs.YtbnmhjobnepajaaGreat.M


namespace Go.Proofs.YtbnmhjobnepajaaGreat.M

noncomputable def GH (segs : List Sg) (s : Nat) : Nat := match segs.getLast? with
  | none => 0
  | some g => g.1 + s
theorem lJ (pre : List Sg) (g : Sg) (s : Nat) : GH (pre ++ [g]) s = g.1 + s := by simp [GH]
theorem Cf (segs : List Sg) : GH segs (kS segs) = aK segs := by
  rcases List.eq_nil_or_concat segs with rfl | ⟨pre, g, rfl⟩
  · rfl
  · rw [List.concat_eq_append, lJ, qC, gV]; rfl

inductive More : List Sg → List UInt8 → List Sg → Prop
  | fresh {segs : List Sg} {x : List UInt8} : (segs = [] ∨ 0 < kS segs) → More segs x (segs ++ [(aK segs, [x])])
  | same {pre : List Sg} {g : Sg} {x : List UInt8} : More (pre ++ [g]) x (pre ++ [(g.1, g.2 ++ [x])])

theorem More.next {segs segs' : List Sg} {x : List UInt8} (h : More segs x segs') : aK segs' = aK segs + 1 := by
  cases h with
  | fresh h => rw [gV]; rfl
  | same => rw [gV, gV]; unfold sgN; simp only [List.length_append, List.length_cons, List.length_nil]; omega

theorem More.len {segs segs' : List Sg} {x : List UInt8} (h : More segs x segs') : segs'.length ≤ segs.length + 1 ∧ segs' ≠ [] := by
  cases h with
  | fresh h => simp
  | same => simp

theorem More.good {segs segs' : List Sg} {x : List UInt8} (h : More segs x segs') (hg : Good segs) (hx : OkR x) (hn : aK segs + 1 ≤ 1000000) : Good segs' := by
  cases h with
  | @fresh segs x h =>
    refine ⟨?_, ?_, ?_⟩
    · rcases List.eq_nil_or_concat segs with rfl | ⟨pre, g, rfl⟩
      · exact ⟨by simp, by simp, trivial⟩
      · rw [List.concat_eq_append] at *
        refine hg.chain.snoc (by rw [gV]) ?_
        rcases h with h | h
        · simp at h
        · rwa [qC] at h
    · intro a ha
      rcases List.mem_append.1 ha with ha | ha
      · exact hg.recs a ha
      · simp only [List.mem_cons, List.not_mem_nil, or_false] at ha
        subst ha
        intro y hy
        simp only [List.mem_cons, List.not_mem_nil, or_false] at hy
        rw [hy]; exact hx
    · intro a ha
      rcases List.mem_append.1 ha with ha | ha
      · exact hg.top a ha
      · simp only [List.mem_cons, List.not_mem_nil, or_false] at ha
        subst ha
        unfold sgN
        simp only [List.length_cons, List.length_nil]; omega
  | @same pre g x =>
    have hgm : g ∈ pre ++ [g] := by simp
    refine ⟨hg.chain.last rfl, ?_, ?_⟩
    · intro a ha
      rcases List.mem_append.1 ha with ha | ha
      · exact hg.recs a (List.mem_append.2 (.inl ha))
      · simp only [List.mem_cons, List.not_mem_nil, or_false] at ha
        subst ha
        intro y hy
        rcases List.mem_append.1 hy with hy | hy
        · exact hg.recs g hgm y hy
        · simp only [List.mem_cons, List.not_mem_nil, or_false] at hy
          rw [hy]; exact hx
    · intro a ha
      rcases List.mem_append.1 ha with ha | ha
      · exact hg.top a (List.mem_append.2 (.inl ha))
      · simp only [List.mem_cons, List.not_mem_nil, or_false] at ha
        subst ha
        rw [gV] at hn
        unfold sgN at *
        simp only [List.length_append, List.length_cons, List.length_nil]; omega

section
variable {σ : St} {l d n0 : Nat} {most : Int} {js : List Nat} {segs : List Sg} {safe s : Nat} {A : AD}

structure WS (σ : St) (l d n0 : Nat) (most : Int) (A : AD) (js : List Nat) (segs : List Sg) (safe s : Nat) : Prop where
  lg : LG σ l d most js segs safe
  dv : DV σ d n0 A
  ok : OkA A
  dl : DLs A.2.1 segs s
  good : Good segs
  len : segs.length ≤ 900
  sf : safe = GH segs s

theorem Yf (hg : Good segs) (hne : segs = [] ∨ 0 < kS segs) : ∀ g ∈ segs, g.1 ≠ aK segs := by
  rcases List.eq_nil_or_concat segs with rfl | ⟨pre, g, rfl⟩
  · simp
  · rw [List.concat_eq_append] at *
    rw [gV]
    have hpos : 0 < g.2.length := by
      rcases hne with h | h
      · simp at h
      · rwa [qC] at h
    intro a ha
    rcases List.mem_append.1 ha with ha | ha
    · have := (List.pairwise_append.1 hg.chain.rise).2.2 a ha g (by simp)
      unfold sgN; omega
    · simp only [List.mem_cons, List.not_mem_nil, or_false] at ha
      subst ha
      unfold sgN; omega

theorem DLs.all {L : List FR} (h : DLs L segs (kS segs)) : L.Perm (segs.map lgA) := by
  rcases List.eq_nil_or_concat segs with rfl | ⟨pre, g, rfl⟩
  · rw [(h.inv0).1]; exact List.Perm.refl _
  · rw [List.concat_eq_append] at *
    have := h.inv.1
    rw [qC, RH] at this
    rw [List.map_append]; exact this

theorem acz {L : List FR} {f : FR} (hL : L.Perm (segs.map lgA)) (hf : ∀ g ∈ segs, bP g.1 ≠ f.1) : kF f.1 L = none ∧ (nS f false L).Perm (segs.map lgA ++ [f]) := by
  have hno : kF f.1 L = none := Z7 (fun a ha => by
    obtain ⟨g, hg, rfl⟩ := List.mem_map.1 (hL.mem_iff.1 ha)
    exact hf g hg)
  refine ⟨hno, ?_⟩
  refine (oM f L).trans ?_
  rw [BG hno]
  exact (List.Perm.cons f hL).trans (List.perm_append_comm (l₁ := [f]))

noncomputable def szR (l : List (List UInt8)) : Nat := (l.map (fun x => 24 + x.length)).sum
noncomputable def szS (segs : List Sg) : Nat := (segs.map (fun g => szR g.2)).sum

theorem Si {n : Nat} {x : List UInt8} (hn : OkN n) (hx : OkR x) : (iT n x).length ≤ 24 + x.length := by
  have h0 := xm (n := n) (by unfold OkN at hn; omega)
  have h1 := EG hn hx
  have h2 := xm (n := (oV n x).length) (by omega)
  have h3 : (oV n x).length = (oq n).length + x.length + 4 := by unfold oV; rw [JB, List.length_append]
  unfold iT
  rw [List.length_append]; omega

theorem Xu : ∀ (n : Nat) (l : List (List UInt8)), OkN (n + l.length) → (∀ x ∈ l, OkR x) → (iq n l).length ≤ szR l
  | n, [], _, _ => by simp [iq]
  | n, x :: r, hn, hx => by
    have hn' : n + (r.length + 1) < 4611686018427387904 := hn
    have h1 := Si (n := n) (x := x) (by unfold OkN; omega) (hx x List.mem_cons_self)
    have h2 := Xu (n + 1) r (by unfold OkN; omega) (fun y hy => hx y (List.mem_cons_of_mem _ hy))
    unfold szR at h2 ⊢
    simp only [iq, List.length_append, List.map_cons, List.sum_cons]
    omega

theorem DLs.used {L : List FR} (h : DLs L segs s) (hg : Good segs) : ji L ≤ szS segs := by
  have each : ∀ g ∈ segs, (sgB g).length ≤ szR g.2 := by
    intro g hgm
    have := hg.top g hgm
    unfold sgN at this
    exact Xu g.1 g.2 (by unfold OkN; omega) (hg.recs g hgm)
  have all : ∀ r : List Sg, (∀ g ∈ r, g ∈ segs) → ji (r.map lgA) ≤ szS r := by
    intro r
    induction r with
    | nil => intro _; simp [ji]
    | cons g r ih =>
      intro hr
      have h1 := each g (hr g List.mem_cons_self)
      have h2 := ih (fun x hx => hr x (List.mem_cons_of_mem _ hx))
      unfold szS at h2 ⊢
      simp only [List.map_cons, ji, List.sum_cons, iM, lgA, List.length_nil]
      omega
  rcases List.eq_nil_or_concat segs with rfl | ⟨pre, g, rfl⟩
  · rw [(h.inv0).1]; simp [ji]
  · rw [List.concat_eq_append] at *
    obtain ⟨hp, hs⟩ := h.inv
    rw [wF hp, IQ]
    have h1 := all pre (fun x hx => List.mem_append.2 (.inl hx))
    have h2 := each g (by simp)
    have h3 : ji [lgF g s] = (sgB g).length := by
      have := congrArg List.length (PZ g hs)
      rw [List.length_append] at this
      simp only [ji, iM]; omega
    unfold szS at h1 ⊢
    rw [List.map_append, List.sum_append, h3]
    simp only [List.map_cons, List.map_nil, List.sum_cons, List.sum_nil]
    omega

noncomputable def Over (A : AD) (segs : List Sg) (x : List UInt8) : Prop := A.1 < ((24 + x.length + szS segs : Nat) : Int) ∨ 128 ≤ segs.length ∨ 65536 < 24 + x.length + szS segs

theorem VA (h : LG σ l d most js segs safe) (hD : DV σ d n0 A) (hA : OkA A) (hg : Good segs) (hd : kY A = false) (hL : DLs A.2.1 segs (kS segs)) {x : List UInt8} (hx : OkR x) (hn : aK segs + 1 ≤ 1000000) (hne : segs = [] ∨ 0 < kS segs) :
    ∃ e σ2 B, f24 (some d) (bP (aK segs)) (iT (aK segs) x) (σ.az ((aK segs : Int), [], 0, ())) = some (e, σ2) ∧ Fw σ σ2 d n0 ∧ B.1 = A.1 ∧ (oZ A = 0 → oZ B = 0) ∧ DV σ2 d n0 B ∧ OkA B ∧ σ2.ae[σ.ae.length]? = some ((aK segs : Int), [], 0, ()) ∧ LG σ2 l d most js segs safe ∧
      ((e = 0 ∧ kY B = false ∧ DLs B.2.1 (segs ++ [(aK segs, [x])]) 0 ∧
          LG ((σ2.ay σ.ae.length ((aK segs : Int), [x], ((iT (aK segs) x).length : Int), ())).bu l (some d, nmL, most, js.map some ++ [some σ.ae.length], (safe : Int), ())) l d most (js ++ [σ.ae.length]) (segs ++ [(aK segs, [x])]) safe) ∨
       (e = 10 ∧ kY B = false ∧ DLs B.2.1 segs (kS segs) ∧ Over A segs x) ∨
       (e = 11 ∧ kY B = true ∧ oZ A ≠ 0 ∧ DLs B.2.1 (segs ++ [(aK segs, [x])]) 0)) := by
  have hle := Ug hg
  have hnm := EX (n := aK segs) (by omega)
  have h1 := h.add ((aK segs : Int), [], 0, ())
  obtain ⟨σ2, g1, g2, g3⟩ := ZR (hD.same (σ' := σ.az ((aK segs : Int), [], 0, ())) rfl rfl) hA (bP (aK segs)) (iT (aK segs) x) (by omega)
  have h2 := h1.same g3.oth
  have e130 : σ2.ae = (σ.az ((aK segs : Int), [], 0, ())).ae := congrArg (fun x => x.2.2) g3.oth
  have hnew : σ2.ae[σ.ae.length]? = some ((aK segs : Int), [], 0, ()) := by rw [e130]; exact oG
  have hfw : Fw σ σ2 d n0 := (Fw.of rfl rfl rfl : Fw σ (σ.az ((aK segs : Int), [], 0, ())) d n0).trans g3.fw
  have hall := hL.all
  have hap := Yf hg hne
  obtain ⟨s1, s2⟩ := acz (f := lgF (aK segs, [x]) 0) hall (fun g hgm e => hap g hgm (PL e))
  have hfl : (lgF (aK segs, [x]) 0).1 = bP (aK segs) := rfl
  rw [hfl] at s1
  have hmore : uf (nC (bP (aK segs))) (iT (aK segs) x) = lgF (aK segs, [x]) 0 := by
    simp [uf, nC, lgF, iq]
  by_cases hc : full A (bP (aK segs)) (iT (aK segs) x)
  · have e0 : wG A (bP (aK segs)) (iT (aK segs) x) = (10, A) := by
      unfold wG
      rw [if_neg (by rw [show A.2.2.2.1 = false from hd]; decide), if_neg (by rw [yt (by omega)]; decide), if_pos hc]
    rw [e0] at g1 g2
    refine ⟨10, σ2, A, g1, hfw, rfl, id, g2, hA, hnew, h2, .inr (.inl ⟨rfl, hd, hL, ?_⟩)⟩
    have hu := hL.used hg
    have hb := Si (n := aK segs) (x := x) (by unfold OkN; omega) hx
    have hlen : A.2.1.length = segs.length := by rw [hall.length_eq]; simp
    unfold Over
    unfold full at hc
    rw [s1] at hc
    simp only [Option.getD_none] at hc
    have hz : iM (nC (bP (aK segs))) = 0 := rfl
    rw [hz] at hc
    rcases hc with ⟨_, hc⟩ | hc | hc
    · right; left; omega
    · right; right; omega
    · left; omega
  · have hB := hA.appended hc
    rw [s1] at hB
    have e0 : wG A (bP (aK segs)) (iT (aK segs) x) = xC (qR A (nS (lgF (aK segs, [x]) 0) false A.2.1)) id := by
      unfold wG
      rw [if_neg (by rw [show A.2.2.2.1 = false from hd]; decide), if_neg (by rw [yt (by omega)]; decide), if_neg hc, s1]
      simp only [Option.getD_none, hmore]
    simp only [Option.getD_none, hmore] at hB
    have hdl : DLs (nS (lgF (aK segs, [x]) 0) false A.2.1) (segs ++ [(aK segs, [x])]) 0 := .some s2 (Nat.zero_le _)
    obtain ⟨B, b1, b2, b3, b4, ⟨b5, b6⟩ | ⟨b5, b6, b7⟩⟩ := zN (A := qR A (nS (lgF (aK segs, [x]) 0) false A.2.1)) hB hd id
    · rw [e0, b6] at g1 g2
      refine ⟨0, σ2, B, g1, hfw, b1, b4, g2, b3, hnew, h2, .inl ⟨rfl, b5, by rw [b2]; exact hdl, ?_⟩⟩
      have hnj : σ.ae.length ∉ js := fun hm => by have := h.lt _ hm; omega
      have h3 : LG (σ2.ay σ.ae.length ((aK segs : Int), [x], ((iT (aK segs) x).length : Int), ())) l d most js segs safe := by
        refine ⟨h2.lo, h2.nd, h2.lie.VE (fun j hj g hgj => ?_)⟩
        show (σ2.ae.set σ.ae.length _)[j]? = _
        rw [List.getElem?_set_ne (fun e : σ.ae.length = j => hnj (by rw [e]; exact hj))]; exact hgj
      have := h3.link (j := σ.ae.length) (g := (aK segs, [x])) (by
        have e : sgB (aK segs, [x]) = iT (aK segs) x := by simp [sgB, iq]
        show _ = some (((aK segs : Nat) : Int), [x], ((sgB (aK segs, [x])).length : Int), ())
        rw [e]; exact xq hnew) hnj
      exact this
    · rw [e0, b7] at g1 g2
      exact ⟨11, σ2, B, g1, hfw, b1, b4, g2, b3, hnew, h2, .inr (.inr ⟨rfl, b5, b6, by rw [b2]; exact hdl⟩)⟩

theorem Uc {g : Sg} {x : List UInt8} (hs : s ≤ g.2.length) : uf (lgF g s) (iT (sgN g) x) = lgF (g.1, g.2 ++ [x]) s := by
  unfold uf lgF
  simp only []
  rw [List.take_append_of_le_length hs, List.drop_append_of_le_length hs, Bv]
  have : g.1 + s + (g.2.drop s).length = sgN g := by rw [List.length_drop]; unfold sgN; omega
  rw [this]
  simp [iq]

theorem YC {pre : List Sg} {g : Sg} (hD : DV σ d n0 A) (hA : OkA A) (hg : Good (pre ++ [g])) (hd : kY A = false) (hL : DLs A.2.1 (pre ++ [g]) s) {x : List UInt8} (hx : OkR x) :
    ∃ e σ2 B, f24 (some d) (bP g.1) (iT (sgN g) x) σ = some (e, σ2) ∧ FrD σ σ2 d n0 ∧ B.1 = A.1 ∧ (oZ A = 0 → oZ B = 0) ∧ DV σ2 d n0 B ∧ OkA B ∧
      ((e = 0 ∧ kY B = false ∧ DLs B.2.1 (pre ++ [(g.1, g.2 ++ [x])]) s) ∨ (e = 10 ∧ kY B = false ∧ DLs B.2.1 (pre ++ [g]) s ∧ Over A (pre ++ [g]) x) ∨ (e = 11 ∧ kY B = true ∧ oZ A ≠ 0 ∧ DLs B.2.1 (pre ++ [(g.1, g.2 ++ [x])]) s)) := by
  have htop := hg.XC (g := g) (by simp)
  have hnm := EX htop
  obtain ⟨hp, hs⟩ := hL.inv
  obtain ⟨σ2, g1, g2, g3⟩ := ZR hD hA (bP g.1) (iT (sgN g) x) (by omega)
  have hfd := Jn hp rfl hA.sorted
  by_cases hc : full A (bP g.1) (iT (sgN g) x)
  · have e0 : wG A (bP g.1) (iT (sgN g) x) = (10, A) := by
      unfold wG
      rw [if_neg (by rw [show A.2.2.2.1 = false from hd]; decide), if_neg (by rw [yt htop]; decide), if_pos hc]
    rw [e0] at g1 g2
    refine ⟨10, σ2, A, g1, g3, rfl, id, g2, hA, .inr (.inl ⟨rfl, hd, hL, ?_⟩)⟩
    have hu := hL.used hg
    have htg := hg.top g (by simp)
    have hb := Si (n := sgN g) (x := x) (by unfold OkN; omega) hx
    have hfs : iM (lgF g s) ≤ ji A.2.1 := by
      rw [wF hp, IQ]
      simp only [ji]; omega
    unfold Over
    unfold full at hc
    rw [hfd] at hc
    simp only [Option.getD_some] at hc
    rcases hc with ⟨hc, _⟩ | hc | hc
    · simp at hc
    · right; right; omega
    · left; omega
  · have hB := hA.appended hc
    rw [hfd] at hB
    simp only [Option.getD_some, Uc hs] at hB
    have e0 : wG A (bP g.1) (iT (sgN g) x) = xC (qR A (nS (lgF (g.1, g.2 ++ [x]) s) false A.2.1)) id := by
      unfold wG
      rw [if_neg (by rw [show A.2.2.2.1 = false from hd]; decide), if_neg (by rw [yt htop]; decide), if_neg hc, hfd]
      simp only [Option.getD_some, Uc hs]
    have hdl : DLs (nS (lgF (g.1, g.2 ++ [x]) s) false A.2.1) (pre ++ [(g.1, g.2 ++ [x])]) s := by
      refine .some (Nz hp rfl rfl hg.chain) ?_
      rw [List.length_append]; omega
    obtain ⟨B, b1, b2, b3, b4, ⟨b5, b6⟩ | ⟨b5, b6, b7⟩⟩ := zN (A := qR A (nS (lgF (g.1, g.2 ++ [x]) s) false A.2.1)) hB hd id
    · rw [e0, b6] at g1 g2
      exact ⟨0, σ2, B, g1, g3, b1, b4, g2, b3, .inl ⟨rfl, b5, by rw [b2]; exact hdl⟩⟩
    · rw [e0, b7] at g1 g2
      exact ⟨11, σ2, B, g1, g3, b1, b4, g2, b3, .inr (.inr ⟨rfl, b5, b6, by rw [b2]; exact hdl⟩)⟩

theorem LG.more {pre : List Sg} {g : Sg} {x : List UInt8} {jp : List Nat} {j : Nat} (h : LG σ l d most (jp ++ [j]) (pre ++ [g]) safe) :
    LG (σ.ay j ((g.1 : Int), g.2 ++ [x], ((sgB (g.1, g.2 ++ [x])).length : Int), ())) l d most (jp ++ [j]) (pre ++ [(g.1, g.2 ++ [x])]) safe := by
  obtain ⟨jp', j', e, h1, h2⟩ := h.split
  obtain ⟨rfl, ej⟩ := List.append_inj' e rfl
  simp only [List.cons.injEq, and_true] at ej
  subst ej
  have hnj : j ∉ jp := fun hm => (List.nodup_append.1 h.nd).2.2 j hm j (by simp) rfl
  refine ⟨h.lo, h.nd, dA.app (h1.VE (fun k hk a ha => ?_)) (show dA _ [j] [_] from ⟨?_, trivial⟩)⟩
  · show (σ.ae.set j _)[k]? = _
    rw [List.getElem?_set_ne (fun e : j = k => hnj (by rw [e]; exact hk))]; exact ha
  · exact xq h2

theorem GI {j : Nat} {x y : aA dW} : (σ.ay j x).ay j y = σ.ay j y := by unfold St.ay; simp

structure Qz (σ : St) (l d n0 : Nat) (most : Int) (A : AD) (js : List Nat) (segs : List Sg) (safe s : Nat) (x : List UInt8) (v e : Int) (σ' : St) (B : AD) (js' : List Nat) (segs' : List Sg) (safe' s' : Nat) : Prop where
  run : f59 (some l) x σ = some ((v, e), σ')
  fw : Fw σ σ' d n0
  room : B.1 = A.1
  arm : oZ A = 0 → oZ B = 0
  out : (e = 0 ∧ v = (aK segs : Int) ∧ kY B = false ∧ More segs x segs' ∧ safe' ≤ aK segs ∧ WS σ' l d n0 most B js' segs' safe' s') ∨
        (e = 10 ∧ kY B = false ∧ segs' = segs ∧ Over A segs x ∧ WS σ' l d n0 most B js' segs' safe' s') ∨
        (e = 11 ∧ kY B = true ∧ oZ A ≠ 0 ∧ (segs' = segs ∨ More segs x segs') ∧ f60 (some l) σ' = some (safe' : Int) ∧ safe' ≤ GH segs' s' ∧ DV σ' d n0 B ∧ OkA B ∧ DLs B.2.1 segs' s')
  up : safe ≤ safe'

theorem Ci (h : WS σ l d n0 most A js segs safe s) : safe ≤ aK segs := by
  rw [h.sf]
  have hd := h.dl
  rcases List.eq_nil_or_concat segs with rfl | ⟨pre, g, rfl⟩
  · exact Nat.le_refl _
  · rw [List.concat_eq_append] at *
    rw [lJ, gV]
    have := hd.inv.2
    unfold sgN; omega

theorem XM {B : AD} {x : List UInt8} (e : B.1 = A.1) (h : Over B segs x) : Over A segs x := by
  unfold Over at *
  rw [e] at h
  exact h

theorem PG (h : WS σ l d n0 most A js segs safe s) (hd : kY A = false) {x : List UInt8} (hx : OkR x) (hn : aK segs + 1 ≤ 1000000) (hln : segs.length ≤ 800) (hne : segs = [] ∨ 0 < kS segs)
    (hfr : ∀ (σ1 : St) (B1 : AD), LG σ1 l d most js segs (aK segs) → f61 (some l) σ = some (0, σ1) → ∀ (e : Int) (σ2 : St), f24 (some d) (bP (aK segs)) (iT (aK segs) x) (σ1.az ((aK segs : Int), [], 0, ())) = some (e, σ2) → σ2.ae[σ1.ae.length]? = some ((aK segs : Int), [], 0, ()) → LG σ2 l d most js segs (aK segs) →
      f59 (some l) x σ = some (if e = 0 then (((aK segs : Int), 0), (σ2.ay σ1.ae.length ((aK segs : Int), [x], ((iT (aK segs) x).length : Int), ())).bu l (some d, nmL, most, js.map some ++ [some σ1.ae.length], (aK segs : Int), ())) else ((0, e), σ2)))
    (hfail : ∀ (σ1 : St), f61 (some l) σ = some (11, σ1) → f59 (some l) x σ = some ((0, 11), σ1)) :
    ∃ v e σ' B js' segs' safe' s', Qz σ l d n0 most A js segs safe s x v e σ' B js' segs' safe' s' := by
  have hsn := Ci h
  obtain ⟨σ1, B1, e1, g1, r1, _, a1, v1, k1, k2, ⟨rfl, d1, l1, m1⟩ | ⟨rfl, d1, w1, l1, m1⟩⟩ := Vs h.lg h.dv h.ok h.good (by have := h.len; omega) h.dl hd
  · obtain ⟨e2, σ2, B2, g2, r2, a2, v2, k3, k4, n2, l2, o⟩ := VA l1 k1 k2 h.good d1 m1 hx hn hne
    have hrun := hfr σ1 B1 l1 g1 e2 σ2 g2 n2 l2
    have hmore : More segs x (segs ++ [(aK segs, [x])]) := .fresh hne
    rcases o with ⟨rfl, o1, o2, o3⟩ | ⟨rfl, o1, o2, o2x⟩ | ⟨rfl, o1, o2, o3⟩
    · rw [if_pos rfl] at hrun
      refine ⟨_, _, _, B2, _, _, aK segs, 0, hrun, (r1.trans r2).trans (Fw.of rfl rfl rfl), a2.trans a1, fun hh => v2 (v1 hh), .inl ⟨rfl, rfl, o1, hmore, Nat.le_refl _, o3, k3.same rfl rfl, k4, o2, hmore.good h.good hx hn, ?_, ?_⟩, hsn⟩
      · rw [List.length_append]; simp only [List.length_cons, List.length_nil]; omega
      · rw [lJ]; rfl
    · rw [if_neg (by decide)] at hrun
      exact ⟨_, _, _, B2, _, _, aK segs, kS segs, hrun, r1.trans r2, a2.trans a1, fun hh => v2 (v1 hh), .inr (.inl ⟨rfl, o1, rfl, XM (segs := segs) a1 o2x, l2, k3, k4, o2, h.good, h.len, (Cf segs).symm⟩), hsn⟩
    · rw [if_neg (by decide)] at hrun
      exact ⟨_, _, _, B2, js, _, aK segs, 0, hrun, r1.trans r2, a2.trans a1, fun hh => v2 (v1 hh), .inr (.inr ⟨rfl, o1, fun hh => o2 (v1 hh), .inr hmore, Vr l2, by rw [lJ]; exact Nat.le_refl _, k3, k4, o3⟩), hsn⟩
  · have hrun := hfail σ1 g1
    exact ⟨_, _, σ1, B1, js, segs, safe, s, hrun, r1, a1, v1, .inr (.inr ⟨rfl, d1, w1, .inl rfl, Vr l1, by rw [← h.sf]; exact Nat.le_refl _, k1, k2, m1⟩), Nat.le_refl _⟩
end
end Go.Proofs.YtbnmhjobnepajaaGreat.M

